/- Parts of the proof: U38d, U38e, U38f, U38g, U38h, U39a, U39b, U39c, U39d. -/
import Derived.Test.YtheacfnopahmjaaG2
set_option linter.all false
/- Parts of the proof. -/
namespace Go.AM
open Go
set_option linter.unusedVariables false
set_option linter.unusedSimpArgs false
set_option maxRecDepth 4000
attribute [local irreducible] WO fillCells fillRows
def r111_0:List AI:=[oC 2 (.s [])]
def r111_1:List AI:=[oM 3 0,
 oO 4 (.call false 15 [(.t 3)]),
 oM 2 4]
abbrev b111:AC:=(.seq (.reg 0 r111_0) (.seq (.reg 1 r111_1) .ret))
def pf111:AF:={ nt:=5,res:=[.tmp 2],body:=b111 }
abbrev H111 (Q:AE→Sl→St→Prop)(K:List UInt8→Prop):Prop:=∀(σ:Sl)(st:St)(res0:List UInt8),σ 2 = .s res0→K res0→Q .ret σ st
def T111_0 (prog:Prog)(K:List UInt8→Prop)(n0:Int):Prop:=
  ∃r'1:List UInt8,Pus prog 15 [.i .i64 n0] (.s r'1)∧K r'1
section
variable {prog:Prog}{d:Nat}{Q:AE→Sl→St→Prop}{K:List UInt8→Prop}(hQ:H111 Q K){σ:Sl}{st:St}
include hQ
theorem w111_0 {n0:Int}(H0:σ 0 = .i .i64 n0)(h:T111_0 prog K n0):W prog d (.seq (.reg 0 r111_0) (.seq (.reg 1 r111_1) .ret)) σ st Q:=
 q_ rfl (m_ (e_ (q_ rfl (m_ (h.elim fun r'1 e'2=>ca_ (sc H0 rfl sn) e'2.1 (m_ (e_ (rt_ (hQ _ _ _ rfl e'2.2)))))))))
end
theorem p111 {prog:Prog}(hf:prog.fn 111 = some pf111){n0:Int}{K:List UInt8→Prop}(h:T111_0 prog K n0) :∃res0:List UInt8,K res0∧Pus prog 111 [.i .i64 n0] (.s res0):=by
  obtain ⟨v,hv,res0,hk,rfl⟩:=Pus.of (K:=fun v=>∃res0:List UInt8,K res0∧v = .s res0) hf rfl (w111_0 (σ:=sl0 [.i .i64 n0]) (fun σ st   res0 H2 hk=>⟨.s res0,by simp only [pf111,ares,aresL,H2,ares1,Option.map_some],_,rfl,res0,hk,rfl⟩) rfl h)
  exact ⟨res0,hk,hv⟩
def r112_0:List AI:=[oC 2 (.s [])]
def r112_1:List AI:=[oM 6 0,
 oO 7 (.call false 11 [(.t 6)]),
 oM 5 7,
 oE 8 0 5,
 oE 9 1 5,
 oM 3 8,
 oM 4 9]
def r112_2:List AI:=[oM 10 3,
 oM 2 10]
abbrev b112:AC:=(.seq (.reg 0 r112_0) (.seq (.reg 1 r112_1) (.seq (.reg 2 r112_2) .ret)))
def pf112:AF:={ nt:=11,res:=[.tmp 2],body:=b112 }
abbrev H112 (Q:AE→Sl→St→Prop)(K:List UInt8→Prop):Prop:=∀(σ:Sl)(st:St)(res0:List UInt8),σ 2 = .s res0→K res0→Q .ret σ st
def T112_0 (prog:Prog)(K:List UInt8→Prop)(s0:List UInt8):Prop:=
  ∃r'1:List UInt8,∃r'2:Int,Pus prog 11 [.s s0] (.tup [.s r'1,.i .i64 r'2])∧K r'1
section
variable {prog:Prog}{d:Nat}{Q:AE→Sl→St→Prop}{K:List UInt8→Prop}(hQ:H112 Q K){σ:Sl}{st:St}
include hQ
theorem w112_0 {s0:List UInt8}(H0:σ 0 = .s s0)(h:T112_0 prog K s0):W prog d (.seq (.reg 0 r112_0) (.seq (.reg 1 r112_1) (.seq (.reg 2 r112_2) .ret))) σ st Q:=
 q_ rfl (m_ (e_ (q_ rfl (m_ (h.elim fun r'1 e'4=>e'4.elim fun r'2 e'3=>ca_ (sc H0 rfl sn) e'3.1 (m_ (x_ rfl rfl (x_ rfl rfl (m_ (m_ (e_ (q_ rfl (m_ (m_ (e_ (rt_ (hQ _ _ _ rfl e'3.2)))))))))))))))))
end
theorem p112 {prog:Prog}(hf:prog.fn 112 = some pf112){s0:List UInt8}{K:List UInt8→Prop}(h:T112_0 prog K s0) :∃res0:List UInt8,K res0∧Pus prog 112 [.s s0] (.s res0):=by
  obtain ⟨v,hv,res0,hk,rfl⟩:=Pus.of (K:=fun v=>∃res0:List UInt8,K res0∧v = .s res0) hf rfl (w112_0 (σ:=sl0 [.s s0]) (fun σ st   res0 H2 hk=>⟨.s res0,by simp only [pf112,ares,aresL,H2,ares1,Option.map_some],_,rfl,res0,hk,rfl⟩) rfl h)
  exact ⟨res0,hk,hv⟩
def r113_0:List AI:=[oO 0 (.alloc [.s [],.s [],.s [],.s []])]
def r113_1:List AI:=[oO 1 (.build [.s [],.s [],.s [],.s []] [(0,1,(.c (.s [99,97,108,108]))),(1,1,(.c (.s [100,101,102,101,114]))),(2,1,(.c (.s [112,97,110,105,99]))),(3,1,(.c (.s [101,120,105,116])))]),
 oS 4 0 1]
abbrev b113:AC:=(.seq (.reg 0 r113_0) (.seq (.reg 1 r113_1) .ret))
def pf113:AF:={ nt:=2,res:=[.cell 0 4 true],body:=b113 }
abbrev H113 (Q:AE→Sl→St→Prop)(K:List (List UInt8)→Prop):Prop:=∀(σ:Sl)(st:St)(k0:Key)(v0:Nat)(res0:List (List UInt8)),σ 0 = .p k0 v0 0→lk st.bx k0 = some (v0,List.map AV.s res0)→res0.length = 4→K res0→Q .ret σ st
def T113_0 (prog:Prog)(K:List (List UInt8)→Prop) :Prop:=
  K [([99,97,108,108]:List UInt8),([100,101,102,101,114]:List UInt8),([112,97,110,105,99]:List UInt8),([101,120,105,116]:List UInt8)]
section
variable {prog:Prog}{d:Nat}{Q:AE→Sl→St→Prop}{K:List (List UInt8)→Prop}(hQ:H113 Q K){σ:Sl}{st:St}
include hQ
theorem w113_0 (h:T113_0 prog K ):W prog d (.seq (.reg 0 r113_0) (.seq (.reg 1 r113_1) .ret)) σ st Q:=
 sq_ (W.reg (s_alloc (e_ (q_ rfl (s_buildM (f:=AV.s) (l:=[([99,97,108,108]:List UInt8),([100,101,102,101,114]:List UInt8),([112,97,110,105,99]:List UInt8),([101,120,105,116]:List UInt8)]) (f_cons rfl rfl (f_cons rfl rfl (f_cons rfl rfl (f_cons rfl rfl f_nil)))) rfl (s_storeArr (f:=AV.s) (fun _=>rfl) rfl (show lk _ (d,0) = some (_,(List.map AV.s (List.replicate 4 ([]:List UInt8)):List AV)) from lk_here) (by simp) rfl rfl (e_ (rt_ (hQ _ _ _ _ _ rfl lk_here (by simp) h)))))))))
end
theorem p113 {prog:Prog}(hf:prog.fn 113 = some pf113)  {K:List (List UInt8)→Prop}(h:T113_0 prog K ) :∃res0:List (List UInt8),K res0∧Pus prog 113 [] (.ag (List.map AV.s res0)):=by
  obtain ⟨v,hv,res0,hk,rfl⟩:=Pus.of (K:=fun v=>∃res0:List (List UInt8),K res0∧v = .ag (List.map AV.s res0)) hf rfl (w113_0 (σ:=sl0 []) (fun σ st k0 v0  res0 H0 HB0 HL0 hk=>⟨.ag (List.map AV.s res0),by simp only [pf113,ares,aresL,ares_cellA (n:=4) H0 HB0 (by simpa using HL0),ares_tmp,Option.map_some],_,strip_ag AV.s (fun _=>rfl) _,res0,hk,rfl⟩)  h)
  exact ⟨res0,hk,hv⟩
abbrev H115 (d:Nat)(st0:St)(Q:AE→Sl→St→Prop)(K:Bool→Prop):Prop:=∀(σ:Sl)(st:St)(res0:Bool),σ 4 = .b res0→Fr d (d,0) st0.bx st0.ow st.bx st.ow→K res0→Q .ret σ st
section
variable {prog:Prog}{d:Nat}{Q:AE→Sl→St→Prop}{K:Bool→Prop}{st0:St}(hQ:H115 d st0 Q K){σ:Sl}{st:St}
include hQ
end
abbrev H116 (d:Nat)(st0:St)(Q:AE→Sl→St→Prop)(K:Bool→Prop):Prop:=∀(σ:Sl)(st:St)(res0:Bool),σ 2 = .b res0→Fr d (d,0) st0.bx st0.ow st.bx st.ow→K res0→Q .ret σ st
section
variable {prog:Prog}{d:Nat}{Q:AE→Sl→St→Prop}{K:Bool→Prop}{st0:St}(hQ:H116 d st0 Q K){σ:Sl}{st:St}
include hQ
end
abbrev H139 (d:Nat)(st0:St)(Q:AE→Sl→St→Prop)(K:Int→Prop):Prop:=∀(σ:Sl)(st:St)(res0:Int),σ 4 = .i .i64 res0→Fr d (d,0) st0.bx st0.ow st.bx st.ow→K res0→Q .ret σ st
section
variable {prog:Prog}{d:Nat}{Q:AE→Sl→St→Prop}{K:Int→Prop}{st0:St}(hQ:H139 d st0 Q K){σ:Sl}{st:St}
include hQ
end
def r122_0:List AI:=[oC 4 (.b false)]
def r122_1:List AI:=[oM 5 0,
 oM 6 1,
 oO 7 (.call true 144 [(.t 5),(.t 6)]),
 oB 8 .geq (.t 7) (.c (.i .i64 0)),
 oM 4 8]
abbrev b122:AC:=(.seq (.reg 0 r122_0) (.seq (.reg 1 r122_1) .ret))
def pf122:AF:={ nt:=9,res:=[.tmp 4],body:=b122 }
abbrev H122 (d:Nat)(st0:St)(Q:AE→Sl→St→Prop)(K:Bool→Prop):Prop:=∀(σ:Sl)(st:St)(res0:Bool),σ 4 = .b res0→Fr d (d,0) st0.bx st0.ow st.bx st.ow→K res0→Q .ret σ st
def T122_0 (prog:Prog)(K:Bool→Prop)(s0:List Fld)(f1:Nat × List AV):Prop:=
  ∃r'1:Int,(∀q'3:Own,PuN prog 144 [.sl q'3 (List.map Fld.row s0),.fn f1.1 f1.2] (fun r=>r = .i .i64 r'1))∧K (decide (r'1 ≥ 0))
section
variable {prog:Prog}{d:Nat}{Q:AE→Sl→St→Prop}{K:Bool→Prop}{st0:St}(hQ:H122 d st0 Q K){σ:Sl}{st:St}
include hQ
theorem w122_0 {s0:List Fld}{f1:Nat × List AV}{o_s0:Own}(H0:σ 0 = .sl o_s0 (List.map Fld.row s0))(H1:σ 1 = .fn f1.1 f1.2)(FR:Fr d (d,0) st0.bx st0.ow st.bx st.ow)(h:T122_0 prog K s0 f1):W prog d (.seq (.reg 0 r122_0) (.seq (.reg 1 r122_1) .ret)) σ st Q:=
 q_ rfl (m_ (e_ (q_ rfl (s_mvL H0 (m_ (h.elim fun r'1 e'4=>s_callN (sec rfl (sec H1 sen)) (e'4.1 _) (fun st'5 hf'6=>b_ rfl rfl geq_ (m_ (e_ (rt_ (hQ _ _ _ rfl (Fr.raw FR hf'6) e'4.2)))))))))))
end
theorem p122 {prog:Prog}(hf:prog.fn 122 = some pf122){s0:List Fld}{f1:Nat × List AV}{K:Bool→Prop}(h:T122_0 prog K s0 f1)(o_s0:Own):PuN prog 122 [.sl o_s0 (List.map Fld.row s0),.fn f1.1 f1.2] (fun r=>∃res0:Bool,(r = .b res0)∧K res0):=
  PuN.of hf rfl fun d st=>w122_0 (st0:=st) (Q:=fun e σ st'=>(e = .normal∨e = .ret)∧∃r,ares σ st' pf122.res = some r∧_∧Fr d (d,0) st.bx st.ow st'.bx st'.ow) (fun σ st'   res0 H4 hf hk=>⟨.inr rfl,.b res0,by simp only [pf122,ares,aresL,H4,ares1,Option.map_some,H4],⟨res0,rfl,hk⟩,hf⟩) (σ:=sl0 [.sl o_s0 (List.map Fld.row s0),.fn f1.1 f1.2]) rfl rfl Fr.refl h
def r123_0:List AI:=[oO 1 (.box 2 (.t 0)),
 oC 2 (.b false)]
def r123_1:List AI:=[oF 3 0 1,
 oL 4 3,
 oO 5 (.len true (.t 4)),
 oB 6 .gtr (.t 5) (.c (.i .i64 16)),
 oM 2 6]
abbrev b123:AC:=(.seq (.reg 0 r123_0) (.seq (.reg 1 r123_1) .ret))
def pf123:AF:={ nt:=7,res:=[.tmp 2],body:=b123 }
abbrev H123 (d:Nat)(st0:St)(Q:AE→Sl→St→Prop)(K:Bool→Prop):Prop:=∀(σ:Sl)(st:St)(res0:Bool),σ 2 = .b res0→Fr d (d,0) st0.bx st0.ow st.bx st.ow→K res0→Q .ret σ st
def T123_0 (prog:Prog)(K:Bool→Prop)(s0:Fld):Prop:=
  K (decide ((s0.name.length:Int) > 16))
section
variable {prog:Prog}{d:Nat}{Q:AE→Sl→St→Prop}{K:Bool→Prop}{st0:St}(hQ:H123 d st0 Q K){σ:Sl}{st:St}
include hQ
theorem w123_0 {s0:Fld}(H0:σ 0 = s0.av)(FR:Fr d (d,0) st0.bx st0.ow st.bx st.ow)(h:T123_0 prog K s0):W prog d (.seq (.reg 0 r123_0) (.seq (.reg 1 r123_1) .ret)) σ st Q:=
 q_ rfl (s_box H0 rfl (m_ (e_ (q_ rfl (f_ rfl (l_ rfl lk_here rfl rfl (ln_ rfl (b_ rfl rfl gtr_ (m_ (e_ (rt_ (hQ _ _ _ rfl (Fr.box FR) h))))))))))))
end
theorem p123 {prog:Prog}(hf:prog.fn 123 = some pf123){s0:Fld}{K:Bool→Prop}(h:T123_0 prog K s0):PuN prog 123 [s0.av] (fun r=>∃res0:Bool,(r = .b res0)∧K res0):=
  PuN.of hf rfl fun d st=>w123_0 (st0:=st) (Q:=fun e σ st'=>(e = .normal∨e = .ret)∧∃r,ares σ st' pf123.res = some r∧_∧Fr d (d,0) st.bx st.ow st'.bx st'.ow) (fun σ st'   res0 H2 hf hk=>⟨.inr rfl,.b res0,by simp only [pf123,ares,aresL,H2,ares1,Option.map_some,H2],⟨res0,rfl,hk⟩,hf⟩) (σ:=sl0 [s0.av]) rfl Fr.refl h
def r144_0:List AI:=[oC 4 (.i .i64 0)]
def r144_1:List AI:=[oM 6 0,
 oO 7 (.len false (.t 6)),
 oC 8 (.i .i64 0)]
def r144_2:List AI:=[oB 9 .lss (.t 8) (.t 7)]
def r144_3:List AI:=[oM 10 8,
 oM 5 10]
def r144_4:List AI:=[oM 11 1,
 oM 12 0,
 oM 13 5,
 oO 14 (.iaL 2 (.t 12) (.t 13)),
 oO 15 (.load 2 true (.t 14)),
 oO 16 (.callv (.t 11) [(.t 15)])]
def r144_5:List AI:=[oM 17 5,
 oM 4 17]
def r144_6:List AI:=[oB 18 .add (.t 8) (.c (.i .i64 1)),
 oM 8 18]
def r144_7:List AI:=[oC 4 (.i .i64 (-1))]
abbrev l144_0:AC:=(.seq (.reg 2 r144_2) (.seq (.cond (.t 9) .skip (.exit 0)) (.seq (.block 1 (.seq (.reg 3 r144_3) (.seq (.reg 4 r144_4) (.cond (.t 16) (.seq (.reg 5 r144_5) .ret) .skip)))) (.reg 6 r144_6))))
abbrev c144_1:AC:=(.seq (.reg 7 r144_7) .ret)
abbrev b144:AC:=(.seq (.reg 0 r144_0) (.seq (.seq (.reg 1 r144_1) (.block 0 (.loop l144_0))) c144_1))
def pf144:AF:={ nt:=19,res:=[.tmp 4],body:=b144 }
abbrev H144 (d:Nat)(st0:St)(Q:AE→Sl→St→Prop)(K:Int→Prop):Prop:=∀(σ:Sl)(st:St)(res0:Int),σ 4 = .i .i64 res0→Fr d (d,0) st0.bx st0.ow st.bx st.ow→K res0→Q .ret σ st
abbrev I144_0 (prog:Prog)(d:Nat)(Q:AE→Sl→St→Prop)(st0:St)(s0:List Fld)(f1:Nat × List AV)(t7:Int)(t8:Int):Prop:=
  ∀(σ:Sl)(st:St)(o_s0:Own),σ 0 = .sl o_s0 (List.map Fld.row s0)→σ 1 = .fn f1.1 f1.2→σ 7 = .i .i64 t7→σ 8 = .i .i64 t8→Fr d (d,0) st0.bx st0.ow st.bx st.ow→W prog d (.loop l144_0) σ st (blockW 0 (thenW prog d c144_1 Q))
def T144_2 (prog:Prog)(K:Int→Prop) :Prop:=
  K (-1)
def T144_1 (prog:Prog)(K:Int→Prop)(P0:Int→Prop)(s0:List Fld)(f1:Nat × List AV)(t7:Int)(t8:Int):Prop:=
  (t8 < t7→0≤t8∧∃c'2:Fld,s0[(t8).toNat]? = some c'2∧∃r'4:Bool,(PuN prog f1.1 ([c'2.av] ++ f1.2) (fun r=>r = .b r'4))∧(r'4 = true→K t8)∧(r'4 = false→P0 (IntKind.i64.wrap (t8 + 1))))∧(¬(t8 < t7)→T144_2 prog K )
def T144_0 (prog:Prog)(K:Int→Prop)(s0:List Fld)(f1:Nat × List AV):Prop:=
  ∀P0:Int→Prop,(∀(t8:Int),T144_1 prog K P0 s0 f1 (s0.length:Int) t8→P0 t8)→P0 0
section
variable {prog:Prog}{d:Nat}{Q:AE→Sl→St→Prop}{K:Int→Prop}{st0:St}(hQ:H144 d st0 Q K){σ:Sl}{st:St}
include hQ
theorem w144_2 (FR:Fr d (d,0) st0.bx st0.ow st.bx st.ow)(h:T144_2 prog K ):W prog d c144_1 σ st Q:=
 q_ rfl (m_ (e_ (rt_ (hQ _ _ _ rfl FR h))))
theorem w144_1 {s0:List Fld}{f1:Nat × List AV}{t7 t8:Int}{P0:Int→Prop} (kP0 :∀(t8:Int),P0 t8→I144_0 prog d Q st0 s0 f1 t7 t8){o_s0:Own}(H0:σ 0 = .sl o_s0 (List.map Fld.row s0))(H1:σ 1 = .fn f1.1 f1.2)(H7:σ 7 = .i .i64 t7)(H8:σ 8 = .i .i64 t8)(FR:Fr d (d,0) st0.bx st0.ow st.bx st.ow)(h:T144_1 prog K P0 s0 f1 t7 t8):W prog d l144_0 σ st (thenW prog d (.loop l144_0) (blockW 0 (thenW prog d c144_1 Q))):=
 q_ rfl (b_ H8 H7 lss_ (e_ (sq_ (cs_ rfl (fun g'1=>sk_ (sq_ (bk_ (q_ rfl (m_ (m_ (e_ (q_ rfl (m_ (s_mvL H0 (m_ ((h.1 g'1).2.elim fun c'2 e'3=>ia_ rfl H8 (h.1 g'1).1 e'3.1 (Fld.row_eq c'2) rfl (lf_ rfl rfl rfl (e'3.2.elim fun r'4 e'6=>s_callV H1 (sec rfl sen) (e'6.1) (fun st'7 hf'8=>e_ (cb_ rfl (fun g'9=>q_ rfl (m_ (m_ (e_ (rt_ (hQ _ _ _ H8 (Fr.raw FR hf'8) (e'6.2.1 g'9))))))) (fun g'9=>sk_ (W.reg0 rfl fun _ _=>b_ H8 rfl add_ (m_ (e_ (kP0 _ (e'6.2.2 g'9) _ _ _ H0 H1 H7 rfl (Fr.raw FR hf'8)))))))))))))))))))))) (fun g'1=>ex_ (w144_2 hQ FR (h.2 g'1)))))))
theorem w144_0 {s0:List Fld}{f1:Nat × List AV}{o_s0:Own}(H0:σ 0 = .sl o_s0 (List.map Fld.row s0))(H1:σ 1 = .fn f1.1 f1.2)(FR:Fr d (d,0) st0.bx st0.ow st.bx st.ow)(h:T144_0 prog K s0 f1):W prog d (.seq (.reg 0 r144_0) (.seq (.seq (.reg 1 r144_1) (.block 0 (.loop l144_0))) c144_1)) σ st Q:=
 q_ rfl (m_ (e_ (sq_ (q_ rfl (s_mvL H0 (ll_ rfl (m_ (e_ (bk_ (h (I144_0 prog d Q st0 s0 f1 (s0.length:Int)) (fun _ hb _ _ _ H0 H1 H7 H8 FR=>W.loop (w144_1 hQ (fun _ x=>x) H0 H1 H7 H8 FR hb)) _ _ _ H0 H1 rfl rfl FR))))))))))
end
theorem p144 {prog:Prog}(hf:prog.fn 144 = some pf144){s0:List Fld}{f1:Nat × List AV}{K:Int→Prop}(h:T144_0 prog K s0 f1)(o_s0:Own):PuN prog 144 [.sl o_s0 (List.map Fld.row s0),.fn f1.1 f1.2] (fun r=>∃res0:Int,(r = .i .i64 res0)∧K res0):=
  PuN.of hf rfl fun d st=>w144_0 (st0:=st) (Q:=fun e σ st'=>(e = .normal∨e = .ret)∧∃r,ares σ st' pf144.res = some r∧_∧Fr d (d,0) st.bx st.ow st'.bx st'.ow) (fun σ st'   res0 H4 hf hk=>⟨.inr rfl,.i .i64 res0,by simp only [pf144,ares,aresL,H4,ares1,Option.map_some,H4],⟨res0,rfl,hk⟩,hf⟩) (σ:=sl0 [.sl o_s0 (List.map Fld.row s0),.fn f1.1 f1.2]) rfl rfl Fr.refl h
def r141_0:List AI:=[oC 4 (.i .i64 0)]
def r141_1:List AI:=[oM 6 0,
 oO 7 (.len false (.t 6)),
 oC 8 (.i .i64 0)]
def r141_2:List AI:=[oB 9 .lss (.t 8) (.t 7)]
def r141_3:List AI:=[oM 10 8,
 oM 5 10]
def r141_4:List AI:=[oM 11 1,
 oM 12 0,
 oM 13 5,
 oO 14 (.iaL 1 (.t 12) (.t 13)),
 oL 15 14,
 oB 16 .eql (.t 11) (.t 15)]
def r141_5:List AI:=[oM 17 5,
 oM 4 17]
def r141_6:List AI:=[oB 18 .add (.t 8) (.c (.i .i64 1)),
 oM 8 18]
def r141_7:List AI:=[oC 4 (.i .i64 (-1))]
abbrev l141_0:AC:=(.seq (.reg 2 r141_2) (.seq (.cond (.t 9) .skip (.exit 0)) (.seq (.block 1 (.seq (.reg 3 r141_3) (.seq (.reg 4 r141_4) (.cond (.t 16) (.seq (.reg 5 r141_5) .ret) .skip)))) (.reg 6 r141_6))))
abbrev c141_1:AC:=(.seq (.reg 7 r141_7) .ret)
abbrev b141:AC:=(.seq (.reg 0 r141_0) (.seq (.seq (.reg 1 r141_1) (.block 0 (.loop l141_0))) c141_1))
def pf141:AF:={ nt:=19,res:=[.tmp 4],body:=b141 }
abbrev H141 (Q:AE→Sl→St→Prop)(K:Int→Prop):Prop:=∀(σ:Sl)(st:St)(res0:Int),σ 4 = .i .i64 res0→K res0→Q .ret σ st
abbrev I141_0 (prog:Prog)(d:Nat)(Q:AE→Sl→St→Prop)(s0:List (List UInt8))(v1:List UInt8)(t7:Int)(t8:Int):Prop:=
  ∀(σ:Sl)(st:St)(o_s0:Own),σ 0 = .sl o_s0 (List.map rowS s0)→σ 1 = .s v1→σ 7 = .i .i64 t7→σ 8 = .i .i64 t8→W prog d (.loop l141_0) σ st (blockW 0 (thenW prog d c141_1 Q))
def T141_2 (prog:Prog)(K:Int→Prop) :Prop:=
  K (-1)
def T141_1 (prog:Prog)(K:Int→Prop)(P0:Int→Prop)(s0:List (List UInt8))(v1:List UInt8)(t7:Int)(t8:Int):Prop:=
  (t8 < t7→0≤t8∧∃c'2:List UInt8,s0[(t8).toNat]? = some c'2∧(v1 = c'2→K t8)∧(¬(v1 = c'2)→P0 (IntKind.i64.wrap (t8 + 1))))∧(¬(t8 < t7)→T141_2 prog K )
def T141_0 (prog:Prog)(K:Int→Prop)(s0:List (List UInt8))(v1:List UInt8):Prop:=
  ∀P0:Int→Prop,(∀(t8:Int),T141_1 prog K P0 s0 v1 (s0.length:Int) t8→P0 t8)→P0 0
section
variable {prog:Prog}{d:Nat}{Q:AE→Sl→St→Prop}{K:Int→Prop}(hQ:H141 Q K){σ:Sl}{st:St}
include hQ
theorem w141_2 (h:T141_2 prog K ):W prog d c141_1 σ st Q:=
 q_ rfl (m_ (e_ (rt_ (hQ _ _ _ rfl h))))
theorem w141_1 {s0:List (List UInt8)}{v1:List UInt8}{t7 t8:Int}{P0:Int→Prop} (kP0 :∀(t8:Int),P0 t8→I141_0 prog d Q s0 v1 t7 t8){o_s0:Own}(H0:σ 0 = .sl o_s0 (List.map rowS s0))(H1:σ 1 = .s v1)(H7:σ 7 = .i .i64 t7)(H8:σ 8 = .i .i64 t8)(h:T141_1 prog K P0 s0 v1 t7 t8):W prog d l141_0 σ st (thenW prog d (.loop l141_0) (blockW 0 (thenW prog d c141_1 Q))):=
 q_ rfl (b_ H8 H7 lss_ (e_ (sq_ (cs_ rfl (fun g'1=>sk_ (sq_ (bk_ (q_ rfl (m_ (m_ (e_ (q_ rfl (m_ (s_mvL H0 (m_ ((h.1 g'1).2.elim fun c'2 e'3=>ia_ rfl H8 (h.1 g'1).1 e'3.1 rfl rfl (lf_ rfl rfl rfl (b_ H1 rfl seq_ (e_ (cs_ rfl (fun g'4=>q_ rfl (m_ (m_ (e_ (rt_ (hQ _ _ _ H8 (e'3.2.1 g'4))))))) (fun g'4=>sk_ (W.reg0 rfl fun _ _=>b_ H8 rfl add_ (m_ (e_ (kP0 _ (e'3.2.2 g'4) _ _ _ H0 H1 H7 rfl))))))))))))))))))))) (fun g'1=>ex_ (w141_2 hQ (h.2 g'1)))))))
theorem w141_0 {s0:List (List UInt8)}{v1:List UInt8}{o_s0:Own}(H0:σ 0 = .sl o_s0 (List.map rowS s0))(H1:σ 1 = .s v1)(h:T141_0 prog K s0 v1):W prog d (.seq (.reg 0 r141_0) (.seq (.seq (.reg 1 r141_1) (.block 0 (.loop l141_0))) c141_1)) σ st Q:=
 q_ rfl (m_ (e_ (sq_ (q_ rfl (s_mvL H0 (ll_ rfl (m_ (e_ (bk_ (h (I141_0 prog d Q s0 v1 (s0.length:Int)) (fun _ hb _ _ _ H0 H1 H7 H8=>W.loop (w141_1 hQ (fun _ x=>x) H0 H1 H7 H8 hb)) _ _ _ H0 H1 rfl rfl))))))))))
end
theorem p141 {prog:Prog}(hf:prog.fn 141 = some pf141){s0:List (List UInt8)}{v1:List UInt8}{K:Int→Prop}(h:T141_0 prog K s0 v1) :∃res0:Int,K res0∧Pus prog 141 [.sl .ext (List.map rowS s0),.s v1] (.i .i64 res0):=by
  obtain ⟨v,hv,res0,hk,rfl⟩:=Pus.of (K:=fun v=>∃res0:Int,K res0∧v = .i .i64 res0) hf rfl (w141_0 (σ:=sl0 [.sl .ext (List.map rowS s0),.s v1]) (fun σ st   res0 H4 hk=>⟨.i .i64 res0,by simp only [pf141,ares,aresL,H4,ares1,Option.map_some],_,rfl,res0,hk,rfl⟩) rfl rfl h)
  exact ⟨res0,hk,hv⟩
abbrev H119 (Q:AE→Sl→St→Prop)(K:Bool→Prop):Prop:=∀(σ:Sl)(st:St)(res0:Bool),σ 4 = .b res0→K res0→Q .ret σ st
section
variable {prog:Prog}{d:Nat}{Q:AE→Sl→St→Prop}{K:Bool→Prop}(hQ:H119 Q K){σ:Sl}{st:St}
include hQ
end
def r86_0:List AI:=[oO 2 (.box 3 (.t 0)),
 oO 3 (.box 4 (.t 1)),
 oC 4 (.i .i64 0)]
def r86_1:List AI:=[oF 9 0 3,
 oL 10 9,
 oB 11 .lss (.t 10) (.c (.i .i64 0)),
 oM 12 11,
 oG 13 (.fad 0 (.t 3)) 12 false,
 oG 14 (.load 1 false (.t 13)) 12 false,
 oG 15 (.fad 2 (.t 2)) 12 false,
 oG 16 (.load 1 false (.t 15)) 12 false,
 oG 17 (.len false (.t 16)) 12 false,
 oG 18 (.bin .geq (.t 14) (.t 17)) 12 false,
 oO 19 (.pick (.t 12) (.c (.b true)) (.t 18)),
 oM 20 19,
 oG 21 (.fad 2 (.t 3)) 20 false,
 oG 22 (.load 1 false (.t 21)) 20 false,
 oG 23 (.bin .gtr (.t 22) (.c (.i .u64 3))) 20 false,
 oO 24 (.pick (.t 20) (.c (.b true)) (.t 23))]
def r86_2:List AI:=[oC 4 (.i .i64 8)]
def r86_3:List AI:=[oF 25 2 2,
 oL 26 25,
 oF 27 0 3,
 oL 28 27,
 oO 29 (.iaL 7 (.t 26) (.t 28)),
 oO 30 (.load 7 true (.t 29)),
 oO 5 (.alloc [.s [],.i .i64 0,.i .i64 0,.sl .full [],.sl .full [],.sl .full [],.sl .full []]),
 oS 7 5 30]
def r86_4:List AI:=[oF 31 3 5,
 oL 32 31,
 oO 33 (.len false (.t 32)),
 oB 34 .gtr (.t 33) (.c (.i .i64 16)),
 oM 35 34,
 oG 36 (.fad 0 (.t 5)) 35 false,
 oG 37 (.load 1 false (.t 36)) 35 false,
 oG 38 (.len true (.t 37)) 35 false,
 oG 39 (.bin .gtr (.t 38) (.c (.i .i64 16))) 35 false,
 oO 40 (.pick (.t 35) (.c (.b true)) (.t 39)),
 oM 41 40,
 oG 42 (.fad 1 (.t 3)) 41 false,
 oG 43 (.load 1 false (.t 42)) 41 false,
 oG 44 (.bin .lss (.t 43) (.c (.i .i64 0))) 41 false,
 oO 45 (.pick (.t 41) (.c (.b true)) (.t 44)),
 oM 46 45,
 oG 47 (.fad 1 (.t 3)) 46 false,
 oG 48 (.load 1 false (.t 47)) 46 false,
 oG 49 (.fad 4 (.t 5)) 46 false,
 oG 50 (.load 1 false (.t 49)) 46 false,
 oG 51 (.len false (.t 50)) 46 false,
 oG 52 (.bin .geq (.t 48) (.t 51)) 46 false,
 oO 53 (.pick (.t 46) (.c (.b true)) (.t 52)),
 oM 54 53,
 oG 55 (.fad 3 (.t 5)) 54 false,
 oG 56 (.load 1 false (.t 55)) 54 false,
 oG 57 (.call true 122 [(.t 56),(.c (.fn 123 []))]) 54 false,
 oO 58 (.pick (.t 54) (.c (.b true)) (.t 57))]
def r86_5:List AI:=[oC 4 (.i .i64 8)]
def r86_6:List AI:=[oC 6 (.i .i64 (-1))]
def r86_7:List AI:=[oF 59 3 3,
 oL 60 59,
 oO 61 (.len false (.t 60)),
 oC 62 (.i .i64 0)]
def r86_8:List AI:=[oB 63 .lss (.t 62) (.t 61)]
def r86_9:List AI:=[oO 64 (.iaL 6 (.t 60) (.t 62)),
 oO 65 (.load 6 true (.t 64)),
 oO 8 (.alloc [.i .i64 0,.i .u8 0,.i .i64 0,.s [],.sl .full [],.b false]),
 oS 6 8 65]
def r86_10:List AI:=[oF 66 0 8,
 oL 67 66,
 oM 68 6,
 oB 69 .leq (.t 67) (.t 68),
 oM 70 69,
 oG 71 (.fad 0 (.t 8)) 70 false,
 oG 72 (.load 1 false (.t 71)) 70 false,
 oG 73 (.fad 3 (.t 5)) 70 false,
 oG 74 (.load 1 false (.t 73)) 70 false,
 oG 75 (.len false (.t 74)) 70 false,
 oG 76 (.bin .geq (.t 72) (.t 75)) 70 false,
 oO 77 (.pick (.t 70) (.c (.b true)) (.t 76)),
 oM 78 77,
 oG 79 (.fad 1 (.t 8)) 78 false,
 oG 80 (.load 5 true (.t 79)) 78 false,
 oG 81 (.call false 76 [(.t 80)]) 78 false,
 oG 82 (.bin .neq (.t 81) (.c (.i .i64 0))) 78 false,
 oO 83 (.pick (.t 78) (.c (.b true)) (.t 82))]
def r86_11:List AI:=[oC 4 (.i .i64 8)]
def r86_12:List AI:=[oF 84 0 8,
 oL 85 84,
 oM 6 85]
def r86_13:List AI:=[oB 86 .add (.t 62) (.c (.i .i64 1)),
 oM 62 86]
def r86_14:List AI:=[oC 4 (.i .i64 0)]
abbrev l86_0:AC:=(.seq (.reg 8 r86_8) (.seq (.cond (.t 63) .skip (.exit 0)) (.seq (.block 1 (.seq (.reg 9 r86_9) (.seq (.seq (.reg 10 r86_10) (.cond (.t 83) (.seq (.reg 11 r86_11) .ret) .skip)) (.reg 12 r86_12)))) (.reg 13 r86_13))))
abbrev c86_1:AC:=(.seq (.reg 14 r86_14) .ret)
abbrev c86_2:AC:=(.seq (.reg 6 r86_6) (.seq (.seq (.reg 7 r86_7) (.block 0 (.loop l86_0))) c86_1))
abbrev c86_3:AC:=(.seq (.seq (.reg 4 r86_4) (.cond (.t 58) (.seq (.reg 5 r86_5) .ret) .skip)) c86_2)
abbrev c86_4:AC:=(.seq (.reg 3 r86_3) c86_3)
abbrev c86_5:AC:=(.seq (.seq (.reg 1 r86_1) (.cond (.t 24) (.seq (.reg 2 r86_2) .ret) .skip)) c86_4)
abbrev b86:AC:=(.seq (.reg 0 r86_0) c86_5)
def pf86:AF:={ nt:=87,res:=[.tmp 4],body:=b86 }
abbrev H86 (Q:AE→Sl→St→Prop)(K:Int→Prop):Prop:=∀(σ:Sl)(st:St)(res0:Int),σ 4 = .i .i64 res0→K res0→Q .ret σ st
abbrev I86_0 (prog:Prog)(d:Nat)(Q:AE→Sl→St→Prop)(t60:List Loc)(t61:Int)(last6:Int)(t62:Int)(m12294:Fun):Prop:=
  ∀(σ:Sl)(st:St)(o_t60:Own)(v12294:Nat),σ 5 = .p (d,12294) v12294 0→σ 6 = .i .i64 last6→σ 60 = .sl o_t60 (List.map Loc.row t60)→σ 61 = .i .i64 t61→σ 62 = .i .i64 t62→lk st.bx (d,12294) = some (v12294,[.s m12294.name,.i .i64 m12294.params,.i .i64 m12294.result,.sl .ext (List.map Fld.row m12294.slots),.sl .ext (List.map Ins.row m12294.code),.sl .ext (List.map Rnn.row m12294.sizes),.sl .ext (List.map Rnn.row m12294.lives)])→W prog d (.loop l86_0) σ st (blockW 0 (thenW prog d c86_1 Q))
def T86_6 (prog:Prog)(K:Int→Prop) :Prop:=
  K 0
def T86_5 (prog:Prog)(K:Int→Prop)(P0:Int→Int→Fun→Prop)(last6:Int)(t60:List Loc)(t61:Int)(t62:Int)(m12294:Fun):Prop:=
  (t62 < t61→0≤t62∧∃c'2:Loc,t60[(t62).toNat]? = some c'2∧(c'2.slot≤last6→K 8)∧(¬(c'2.slot≤last6)→(c'2.slot ≥ (m12294.slots.length:Int)→K 8)∧(¬(c'2.slot ≥ (m12294.slots.length:Int))→∃r'6:Int,Pus prog 76 [c'2.value.av] (.i .i64 r'6)∧(r'6≠0→K 8)∧(¬(r'6≠0)→P0 c'2.slot (IntKind.i64.wrap (t62 + 1)) m12294))))∧(¬(t62 < t61)→T86_6 prog K )
def T86_4 (prog:Prog)(K:Int→Prop)(m1:Frm)(m12294:Fun):Prop:=
  ∀P0:Int→Int→Fun→Prop,(∀(last6:Int)(t62:Int)(m12294:Fun),T86_5 prog K P0 last6 m1.locals (m1.locals.length:Int) t62 m12294→P0 last6 t62 m12294)→P0 (-1) 0 m12294
def T86_3 (prog:Prog)(K:Int→Prop)(m1:Frm)(m12294:Fun):Prop:=
  ((m12294.slots.length:Int) > 16→K 8)∧(¬((m12294.slots.length:Int) > 16)→((m12294.name.length:Int) > 16→K 8)∧(¬((m12294.name.length:Int) > 16)→(m1.pos < 0→K 8)∧(¬(m1.pos < 0)→(m1.pos ≥ (m12294.code.length:Int)→K 8)∧(¬(m1.pos ≥ (m12294.code.length:Int))→∃r'5:Bool,(∀q'7:Own,PuN prog 122 [.sl q'7 (List.map Fld.row m12294.slots),.fn 123 []] (fun r=>r = .b r'5))∧(r'5 = true→K 8)∧(r'5 = false→T86_4 prog K m1 m12294)))))
def T86_2 (prog:Prog)(K:Int→Prop)(m0:Img)(m1:Frm):Prop:=
  0≤m1.func∧∃c'1:Fun,m0.funcs[(m1.func).toNat]? = some c'1∧T86_3 prog K m1 c'1
def T86_1 (prog:Prog)(K:Int→Prop)(m0:Img)(m1:Frm):Prop:=
  (m1.func < 0→K 8)∧(¬(m1.func < 0)→(m1.func ≥ (m0.funcs.length:Int)→K 8)∧(¬(m1.func ≥ (m0.funcs.length:Int))→(m1.mode > 3→K 8)∧(¬(m1.mode > 3)→T86_2 prog K m0 m1)))
def T86_0 (prog:Prog)(K:Int→Prop)(m0:Img)(x1:Frm):Prop:=
  T86_1 prog K m0 x1
section
variable {prog:Prog}{d:Nat}{Q:AE→Sl→St→Prop}{K:Int→Prop}(hQ:H86 Q K){σ:Sl}{st:St}
include hQ
theorem w86_6 (h:T86_6 prog K ):W prog d c86_1 σ st Q:=
 q_ rfl (m_ (e_ (rt_ (hQ _ _ _ rfl h))))
theorem w86_5 {last6:Int}{t60:List Loc}{t61 t62:Int}{m12294:Fun}{P0:Int→Int→Fun→Prop} (kP0 :∀(last6:Int)(t62:Int)(m12294:Fun),P0 last6 t62 m12294→I86_0 prog d Q t60 t61 last6 t62 m12294){o_t60:Own}{v12294:Nat}(H5:σ 5 = .p (d,12294) v12294 0)(H6:σ 6 = .i .i64 last6)(H60:σ 60 = .sl o_t60 (List.map Loc.row t60))(H61:σ 61 = .i .i64 t61)(H62:σ 62 = .i .i64 t62)(B12294:lk st.bx (d,12294) = some (v12294,[.s m12294.name,.i .i64 m12294.params,.i .i64 m12294.result,.sl .ext (List.map Fld.row m12294.slots),.sl .ext (List.map Ins.row m12294.code),.sl .ext (List.map Rnn.row m12294.sizes),.sl .ext (List.map Rnn.row m12294.lives)]))(h:T86_5 prog K P0 last6 t60 t61 t62 m12294):W prog d l86_0 σ st (thenW prog d (.loop l86_0) (blockW 0 (thenW prog d c86_1 Q))):=
 q_ rfl (b_ H62 H61 lss_ (e_ (sq_ (cs_ rfl (fun g'1=>sk_ (sq_ (bk_ (sq_ (W.reg ((h.1 g'1).2.elim fun c'2 e'3=>ia_ H60 H62 (h.1 g'1).1 e'3.1 (Loc.row_eq c'2) rfl (lf_ rfl rfl rfl (s_alloc (so_ rfl (show lk _ (d,36866) = some (_,([.i .i64 0,.i .u8 0,.i .i64 0,.s [],.sl .full (List.map Val.row ([]:List Val)),.b false]:List AV)) from lk_here) rfl rfl rfl (e_ (sq_ (q_ rfl (f_ rfl (l_ rfl lk_here rfl rfl (s_mvI H6 (b_ rfl rfl leq_ (s_mvB rfl (em_ (g:=70) rfl (fun g'4=>gn_ (b:=true) rfl rfl (gn_ (b:=true) rfl rfl (gn_ (b:=true) rfl rfl (gn_ (b:=true) rfl rfl (gn_ (b:=true) rfl rfl (gn_ (b:=true) rfl rfl (pt_ rfl rfl (s_mvB rfl (gn_ (b:=true) rfl rfl (gn_ (b:=true) rfl rfl (gn_ (b:=true) rfl rfl (gn_ (b:=true) rfl rfl (pt_ rfl rfl (e_ (ct_ rfl (q_ rfl (m_ (e_ (rt_ (hQ _ _ _ rfl (e'3.2.1 g'4))))))))))))))))))))) (fun g'4=>gy_ rfl (f_ rfl (gy_ rfl (l_ rfl lk_here rfl rfl (gy_ rfl (f_ H5 (gy_ rfl (l_ rfl (lk_other rfl (lk_other rfl B12294)) rfl rfl (gy_ rfl (ll_ rfl (gy_ rfl (b_ rfl rfl geq_ (pf_ rfl rfl (s_mvB rfl (em_ (g:=78) rfl (fun g'5=>gn_ (b:=true) rfl rfl (gn_ (b:=true) rfl rfl (gn_ (b:=true) rfl rfl (gn_ (b:=true) rfl rfl (pt_ rfl rfl (e_ (ct_ rfl (q_ rfl (m_ (e_ (rt_ (hQ _ _ _ rfl ((e'3.2.2 g'4).1 g'5))))))))))))) (fun g'5=>gy_ rfl (f_ rfl (gy_ rfl (l_ rfl lk_here rfl rfl (gy_ rfl (((e'3.2.2 g'4).2 g'5).elim fun r'6 e'7=>ca_ (sc rfl rfl sn) e'7.1 (gy_ rfl (b_ rfl rfl neq_ (pf_ rfl rfl (e_ (cs_ rfl (fun g'8=>q_ rfl (m_ (e_ (rt_ (hQ _ _ _ rfl (e'7.2.1 g'8)))))) (fun g'8=>sk_ (W.reg0 rfl fun _ _=>f_ rfl (l_ rfl lk_here rfl rfl (m_ (e_ (W.reg0 rfl fun _ _=>b_ H62 rfl add_ (m_ (e_ (kP0 _ _ _ (e'7.2.2 g'8) _ _ _ _ H5 rfl H60 H61 rfl (lk_other rfl (lk_other rfl B12294))))))))))))))))))))))))))))))))))))))))))))))))))))))) (fun g'1=>ex_ (w86_6 hQ (h.2 g'1)))))))
theorem w86_4 {m1:Frm}{m12294:Fun}{v1:Nat}{v12294:Nat}(H3:σ 3 = .p (d,1) v1 0)(H5:σ 5 = .p (d,12294) v12294 0)(B1:lk st.bx (d,1) = some (v1,[.i .i64 m1.func,.i .i64 m1.pos,.i .u64 m1.mode,.sl .ext (List.map Loc.row m1.locals)]))(B12294:lk st.bx (d,12294) = some (v12294,[.s m12294.name,.i .i64 m12294.params,.i .i64 m12294.result,.sl .ext (List.map Fld.row m12294.slots),.sl .ext (List.map Ins.row m12294.code),.sl .ext (List.map Rnn.row m12294.sizes),.sl .ext (List.map Rnn.row m12294.lives)]))(h:T86_4 prog K m1 m12294):W prog d c86_2 σ st Q:=
 q_ rfl (m_ (e_ (sq_ (q_ rfl (f_ H3 (l_ rfl B1 rfl rfl (ll_ rfl (m_ (e_ (bk_ (h (I86_0 prog d Q m1.locals (m1.locals.length:Int)) (fun _ _ _ hb _ _ _ _ H5 H6 H60 H61 H62 B12294=>W.loop (w86_5 hQ (fun _ _ _ x=>x) H5 H6 H60 H61 H62 B12294 hb)) _ _ _ _ H5 rfl rfl rfl rfl B12294)))))))))))
theorem w86_3 {m1:Frm}{m12294:Fun}{v1:Nat}{v12294:Nat}(H3:σ 3 = .p (d,1) v1 0)(H5:σ 5 = .p (d,12294) v12294 0)(B1:lk st.bx (d,1) = some (v1,[.i .i64 m1.func,.i .i64 m1.pos,.i .u64 m1.mode,.sl .ext (List.map Loc.row m1.locals)]))(B12294:lk st.bx (d,12294) = some (v12294,[.s m12294.name,.i .i64 m12294.params,.i .i64 m12294.result,.sl .ext (List.map Fld.row m12294.slots),.sl .ext (List.map Ins.row m12294.code),.sl .ext (List.map Rnn.row m12294.sizes),.sl .ext (List.map Rnn.row m12294.lives)]))(h:T86_3 prog K m1 m12294):W prog d c86_3 σ st Q:=
 sq_ (q_ rfl (f_ H5 (l_ rfl B12294 rfl rfl (ll_ rfl (b_ rfl rfl gtr_ (s_mvB rfl (em_ (g:=35) rfl (fun g'1=>gn_ (b:=true) rfl rfl (gn_ (b:=true) rfl rfl (gn_ (b:=true) rfl rfl (gn_ (b:=true) rfl rfl (pt_ rfl rfl (s_mvB rfl (gn_ (b:=true) rfl rfl (gn_ (b:=true) rfl rfl (gn_ (b:=true) rfl rfl (pt_ rfl rfl (s_mvB rfl (gn_ (b:=true) rfl rfl (gn_ (b:=true) rfl rfl (gn_ (b:=true) rfl rfl (gn_ (b:=true) rfl rfl (gn_ (b:=true) rfl rfl (gn_ (b:=true) rfl rfl (pt_ rfl rfl (s_mvB rfl (gn_ (b:=true) rfl rfl (gn_ (b:=true) rfl rfl (gn_ (b:=true) rfl rfl (pt_ rfl rfl (e_ (ct_ rfl (q_ rfl (m_ (e_ (rt_ (hQ _ _ _ rfl (h.1 g'1))))))))))))))))))))))))))))))) (fun g'1=>gy_ rfl (f_ H5 (gy_ rfl (l_ rfl B12294 rfl rfl (gy_ rfl (ln_ rfl (gy_ rfl (b_ rfl rfl gtr_ (pf_ rfl rfl (s_mvB rfl (em_ (g:=41) rfl (fun g'2=>gn_ (b:=true) rfl rfl (gn_ (b:=true) rfl rfl (gn_ (b:=true) rfl rfl (pt_ rfl rfl (s_mvB rfl (gn_ (b:=true) rfl rfl (gn_ (b:=true) rfl rfl (gn_ (b:=true) rfl rfl (gn_ (b:=true) rfl rfl (gn_ (b:=true) rfl rfl (gn_ (b:=true) rfl rfl (pt_ rfl rfl (s_mvB rfl (gn_ (b:=true) rfl rfl (gn_ (b:=true) rfl rfl (gn_ (b:=true) rfl rfl (pt_ rfl rfl (e_ (ct_ rfl (q_ rfl (m_ (e_ (rt_ (hQ _ _ _ rfl ((h.2 g'1).1 g'2))))))))))))))))))))))))) (fun g'2=>gy_ rfl (f_ H3 (gy_ rfl (l_ rfl B1 rfl rfl (gy_ rfl (b_ rfl rfl lss_ (pf_ rfl rfl (s_mvB rfl (em_ (g:=46) rfl (fun g'3=>gn_ (b:=true) rfl rfl (gn_ (b:=true) rfl rfl (gn_ (b:=true) rfl rfl (gn_ (b:=true) rfl rfl (gn_ (b:=true) rfl rfl (gn_ (b:=true) rfl rfl (pt_ rfl rfl (s_mvB rfl (gn_ (b:=true) rfl rfl (gn_ (b:=true) rfl rfl (gn_ (b:=true) rfl rfl (pt_ rfl rfl (e_ (ct_ rfl (q_ rfl (m_ (e_ (rt_ (hQ _ _ _ rfl (((h.2 g'1).2 g'2).1 g'3)))))))))))))))))))) (fun g'3=>gy_ rfl (f_ H3 (gy_ rfl (l_ rfl B1 rfl rfl (gy_ rfl (f_ H5 (gy_ rfl (l_ rfl B12294 rfl rfl (gy_ rfl (ll_ rfl (gy_ rfl (b_ rfl rfl geq_ (pf_ rfl rfl (s_mvB rfl (em_ (g:=54) rfl (fun g'4=>gn_ (b:=true) rfl rfl (gn_ (b:=true) rfl rfl (gn_ (b:=true) rfl rfl (pt_ rfl rfl (e_ (ct_ rfl (q_ rfl (m_ (e_ (rt_ (hQ _ _ _ rfl ((((h.2 g'1).2 g'2).2 g'3).1 g'4)))))))))))) (fun g'4=>gy_ rfl (f_ H5 (gy_ rfl (l_ rfl B12294 rfl rfl (gy_ rfl (((((h.2 g'1).2 g'2).2 g'3).2 g'4).elim fun r'5 e'8=>s_callN (sec rfl (sec rfl sen)) (e'8.1 _) (fun st'9 hf'10=>pf_ rfl rfl (e_ (cb_ rfl (fun g'11=>q_ rfl (m_ (e_ (rt_ (hQ _ _ _ rfl (e'8.2.1 g'11)))))) (fun g'11=>sk_ (w86_4 hQ H3 H5 ((hf'10.1 (d,1) (Nat.lt_succ_self d) key_dn).trans B1) ((hf'10.1 (d,12294) (Nat.lt_succ_self d) key_dn).trans B12294) (e'8.2.2 g'11))))))))))))))))))))))))))))))))))))))))))))))))))))))
theorem w86_2 {m0:Img}{m1:Frm}{v0:Nat}{v1:Nat}(H2:σ 2 = .p (d,0) v0 0)(H3:σ 3 = .p (d,1) v1 0)(B0:lk st.bx (d,0) = some (v0,[.sl .ext (List.map Typ.row m0.types),.sl .ext (List.map rowS m0.texts),.sl .ext (List.map Fun.row m0.funcs)]))(B1:lk st.bx (d,1) = some (v1,[.i .i64 m1.func,.i .i64 m1.pos,.i .u64 m1.mode,.sl .ext (List.map Loc.row m1.locals)]))(h:T86_2 prog K m0 m1):W prog d c86_4 σ st Q:=
 sq_ (W.reg (f_ H2 (l_ rfl (lk_other rfl B0) rfl rfl (f_ H3 (l_ rfl (lk_other rfl B1) rfl rfl (h.2.elim fun c'1 e'2=>ia_ rfl rfl h.1 e'2.1 (Fun.row_eq c'1) rfl (lf_ rfl rfl rfl (s_alloc (so_ rfl (show lk _ (d,12294) = some (_,([.s [],.i .i64 0,.i .i64 0,.sl .full (List.map Fld.row ([]:List Fld)),.sl .full (List.map Ins.row ([]:List Ins)),.sl .full (List.map Rnn.row ([]:List Rnn)),.sl .full (List.map Rnn.row ([]:List Rnn))]:List AV)) from lk_here) rfl rfl rfl (e_ (w86_3 hQ H3 rfl (lk_other rfl (lk_other rfl B1)) lk_here e'2.2)))))))))))
theorem w86_1 {m0:Img}{m1:Frm}{v0:Nat}{v1:Nat}(H2:σ 2 = .p (d,0) v0 0)(H3:σ 3 = .p (d,1) v1 0)(B0:lk st.bx (d,0) = some (v0,[.sl .ext (List.map Typ.row m0.types),.sl .ext (List.map rowS m0.texts),.sl .ext (List.map Fun.row m0.funcs)]))(B1:lk st.bx (d,1) = some (v1,[.i .i64 m1.func,.i .i64 m1.pos,.i .u64 m1.mode,.sl .ext (List.map Loc.row m1.locals)]))(h:T86_1 prog K m0 m1):W prog d c86_5 σ st Q:=
 sq_ (q_ rfl (f_ H3 (l_ rfl B1 rfl rfl (b_ rfl rfl lss_ (s_mvB rfl (em_ (g:=12) rfl (fun g'1=>gn_ (b:=true) rfl rfl (gn_ (b:=true) rfl rfl (gn_ (b:=true) rfl rfl (gn_ (b:=true) rfl rfl (gn_ (b:=true) rfl rfl (gn_ (b:=true) rfl rfl (pt_ rfl rfl (s_mvB rfl (gn_ (b:=true) rfl rfl (gn_ (b:=true) rfl rfl (gn_ (b:=true) rfl rfl (pt_ rfl rfl (e_ (ct_ rfl (q_ rfl (m_ (e_ (rt_ (hQ _ _ _ rfl (h.1 g'1)))))))))))))))))))) (fun g'1=>gy_ rfl (f_ H3 (gy_ rfl (l_ rfl B1 rfl rfl (gy_ rfl (f_ H2 (gy_ rfl (l_ rfl B0 rfl rfl (gy_ rfl (ll_ rfl (gy_ rfl (b_ rfl rfl geq_ (pf_ rfl rfl (s_mvB rfl (em_ (g:=20) rfl (fun g'2=>gn_ (b:=true) rfl rfl (gn_ (b:=true) rfl rfl (gn_ (b:=true) rfl rfl (pt_ rfl rfl (e_ (ct_ rfl (q_ rfl (m_ (e_ (rt_ (hQ _ _ _ rfl ((h.2 g'1).1 g'2)))))))))))) (fun g'2=>gy_ rfl (f_ H3 (gy_ rfl (l_ rfl B1 rfl rfl (gy_ rfl (b_ rfl rfl gtr_ (pf_ rfl rfl (e_ (cs_ rfl (fun g'3=>q_ rfl (m_ (e_ (rt_ (hQ _ _ _ rfl (((h.2 g'1).2 g'2).1 g'3)))))) (fun g'3=>sk_ (w86_2 hQ H2 H3 B0 B1 (((h.2 g'1).2 g'2).2 g'3)))))))))))))))))))))))))))))))))
theorem w86_0 {m0:Img}{x1:Frm}(H0:σ 0 = m0.av)(H1:σ 1 = x1.av)(h:T86_0 prog K m0 x1):W prog d (.seq (.reg 0 r86_0) c86_5) σ st Q:=
 q_ rfl (s_box H0 rfl (s_box H1 rfl (m_ (e_ (w86_1 hQ rfl rfl (lk_other rfl lk_here) lk_here h)))))
end
theorem p86 {prog:Prog}(hf:prog.fn 86 = some pf86){m0:Img}{x1:Frm}{K:Int→Prop}(h:T86_0 prog K m0 x1) :∃res0:Int,K res0∧Pus prog 86 [m0.av,x1.av] (.i .i64 res0):=by
  obtain ⟨v,hv,res0,hk,rfl⟩:=Pus.of (K:=fun v=>∃res0:Int,K res0∧v = .i .i64 res0) hf rfl (w86_0 (σ:=sl0 [m0.av,x1.av]) (fun σ st   res0 H4 hk=>⟨.i .i64 res0,by simp only [pf86,ares,aresL,H4,ares1,Option.map_some],_,rfl,res0,hk,rfl⟩) rfl rfl h)
  exact ⟨res0,hk,hv⟩
def r82_0:List AI:=[oO 3 (.box 3 (.t 0)),
 oO 5 (.box 4 (.t 2)),
 oC 6 (.sl .full []),
 oC 7 (.i .i64 0)]
def r82_1:List AI:=[oM 15 1,
 oB 16 .lss (.t 15) (.c (.i .i64 0)),
 oM 17 16,
 oG 18 (.mv (.t 1)) 17 false,
 oG 19 (.bin .geq (.t 18) (.c (.i .i64 170))) 17 false,
 oO 20 (.pick (.t 17) (.c (.b true)) (.t 19))]
def r82_2:List AI:=[oC 6 (.sl .full []),
 oC 7 (.i .i64 2)]
def r82_3:List AI:=[oO 21 (.load 3 true (.t 3)),
 oO 22 (.load 4 true (.t 5)),
 oO 23 (.call false 86 [(.t 21),(.t 22)]),
 oM 8 23]
def r82_4:List AI:=[oM 24 8,
 oB 25 .neq (.t 24) (.c (.i .i64 0))]
def r82_5:List AI:=[oM 26 8,
 oC 6 (.sl .full []),
 oM 7 26]
def r82_6:List AI:=[oF 27 2 3,
 oL 28 27,
 oF 29 0 5,
 oL 30 29,
 oO 31 (.iaL 7 (.t 28) (.t 30)),
 oO 32 (.load 7 true (.t 31)),
 oO 9 (.alloc [.s [],.i .i64 0,.i .i64 0,.sl .full [],.sl .full [],.sl .full [],.sl .full []]),
 oS 7 9 32]
def r82_7:List AI:=[oM 33 1,
 oO 34 (.call false 111 [(.t 33)]),
 oB 35 .add (.c (.s [35])) (.t 34),
 oB 36 .add (.t 35) (.c (.s [32])),
 oF 37 0 5,
 oL 38 37,
 oO 39 (.call false 111 [(.t 38)]),
 oB 40 .add (.t 36) (.t 39),
 oB 41 .add (.t 40) (.c (.s [32])),
 oF 42 0 9,
 oL 43 42,
 oO 44 (.call false 112 [(.t 43)]),
 oB 45 .add (.t 41) (.t 44),
 oB 46 .add (.t 45) (.c (.s [32,97,116,32])),
 oF 47 1 5,
 oL 48 47,
 oO 49 (.call false 111 [(.t 48)]),
 oB 50 .add (.t 46) (.t 49),
 oB 51 .add (.t 50) (.c (.s [32])),
 oO 52 (.call false 113 []),
 oF 53 2 5,
 oL 54 53,
 oO 55 (.ixA 4 1 false (.t 52) (.t 54)),
 oB 56 .add (.t 51) (.t 55),
 oO 57 (.bslice [.s []] 1 [(0,(.t 56))]),
 oM 10 57]
def r82_8:List AI:=[oF 58 3 5,
 oL 59 58,
 oO 60 (.len false (.t 59)),
 oC 61 (.i .i64 0)]
def r82_9:List AI:=[oB 62 .lss (.t 61) (.t 60)]
def r82_10:List AI:=[oO 63 (.iaL 6 (.t 59) (.t 61)),
 oO 64 (.load 6 true (.t 63)),
 oO 12 (.alloc [.i .i64 0,.i .u8 0,.i .i64 0,.s [],.sl .full [],.b false]),
 oS 6 12 64]
def r82_11:List AI:=[oF 66 1 12,
 oO 67 (.load 5 true (.t 66)),
 oO 68 (.call false 72 [(.t 67)]),
 oM 65 68,
 oE 69 0 65,
 oE 70 1 65,
 oM 13 69,
 oM 14 70]
def r82_12:List AI:=[oM 71 14,
 oB 72 .neq (.t 71) (.c (.i .i64 0))]
def r82_13:List AI:=[oM 73 14,
 oC 6 (.sl .full []),
 oM 7 73]
def r82_14:List AI:=[oM 74 10,
 oF 75 0 12,
 oL 76 75,
 oO 77 (.call false 111 [(.t 76)]),
 oB 78 .add (.c (.s [32,32])) (.t 77),
 oB 79 .add (.t 78) (.c (.s [32])),
 oF 80 3 9,
 oL 81 80,
 oF 82 0 12,
 oL 83 82,
 oO 84 (.iaL 2 (.t 81) (.t 83)),
 oF 85 0 84,
 oL 86 85,
 oO 87 (.call false 112 [(.t 86)]),
 oB 88 .add (.t 79) (.t 87),
 oB 89 .add (.t 88) (.c (.s [32,61,32])),
 oM 90 13,
 oB 91 .add (.t 89) (.t 90),
 oO 92 (.bslice [.s []] 1 [(0,(.t 91))]),
 oO 93 (.app 1 16 (.t 74) (.t 92)),
 oM 10 93]
def r82_15:List AI:=[oB 94 .add (.t 61) (.c (.i .i64 1)),
 oM 61 94]
def r82_16:List AI:=[oM 95 10,
 oM 6 95,
 oC 7 (.i .i64 0)]
abbrev l82_0:AC:=(.seq (.reg 9 r82_9) (.seq (.cond (.t 62) .skip (.exit 0)) (.seq (.block 1 (.seq (.reg 10 r82_10) (.seq (.reg 11 r82_11) (.seq (.seq (.reg 12 r82_12) (.cond (.t 72) (.seq (.reg 13 r82_13) .ret) .skip)) (.reg 14 r82_14))))) (.reg 15 r82_15))))
abbrev c82_1:AC:=(.seq (.reg 16 r82_16) .ret)
abbrev c82_2:AC:=(.seq (.reg 7 r82_7) (.seq (.seq (.reg 8 r82_8) (.block 0 (.loop l82_0))) c82_1))
abbrev c82_3:AC:=(.seq (.reg 6 r82_6) c82_2)
abbrev c82_4:AC:=(.seq (.seq (.reg 3 r82_3) (.seq (.reg 4 r82_4) (.cond (.t 25) (.seq (.reg 5 r82_5) .ret) .skip))) c82_3)
abbrev c82_5:AC:=(.seq (.seq (.reg 1 r82_1) (.cond (.t 20) (.seq (.reg 2 r82_2) .ret) .skip)) c82_4)
abbrev b82:AC:=(.seq (.reg 0 r82_0) c82_5)
def pf82:AF:={ nt:=96,res:=[.tmp 6,.tmp 7],body:=b82 }
abbrev H82 (Q:AE→Sl→St→Prop)(K:List (List UInt8)→Int→Prop):Prop:=∀(σ:Sl)(st:St)(o0:Own)(res0:List (List UInt8))(res1:Int),σ 6 = .sl o0 (List.map rowS res0)→σ 7 = .i .i64 res1→K res0 res1→Q .ret σ st
abbrev I82_0 (prog:Prog)(d:Nat)(Q:AE→Sl→St→Prop)(t59:List Loc)(t60:Int)(out10:List (List UInt8))(t61:Int)(m24582:Fun):Prop:=
  ∀(σ:Sl)(st:St) (o_out10 o_t59:Own)(v24582:Nat),σ 9 = .p (d,24582) v24582 0→σ 10 = .sl o_out10 (List.map rowS out10)→σ 59 = .sl o_t59 (List.map Loc.row t59)→σ 60 = .i .i64 t60→σ 61 = .i .i64 t61→ApM d st.ow o_out10 out10.length→lk st.bx (d,24582) = some (v24582,[.s m24582.name,.i .i64 m24582.params,.i .i64 m24582.result,.sl .ext (List.map Fld.row m24582.slots),.sl .ext (List.map Ins.row m24582.code),.sl .ext (List.map Rnn.row m24582.sizes),.sl .ext (List.map Rnn.row m24582.lives)])→W prog d (.loop l82_0) σ st (blockW 0 (thenW prog d c82_1 Q))
def T82_6 (prog:Prog)(K:List (List UInt8)→Int→Prop)(out10:List (List UInt8)):Prop:=
  K out10 0
def T82_5 (prog:Prog)(K:List (List UInt8)→Int→Prop)(P0:List (List UInt8)→Int→Fun→Prop)(out10:List (List UInt8))(t59:List Loc)(t60:Int)(t61:Int)(m24582:Fun):Prop:=
  (t61 < t60→0≤t61∧∃c'2:Loc,t59[(t61).toNat]? = some c'2∧∃r'4:List UInt8,∃r'5:Int,Pus prog 72 [c'2.value.av] (.tup [.s r'4,.i .i64 r'5])∧(r'5≠0→K ([]:List (List UInt8)) r'5)∧(¬(r'5≠0)→∃r'8:List UInt8,Pus prog 111 [.i .i64 c'2.slot] (.s r'8)∧([32,32]:List UInt8).length + r'8.length≤maxStr∧(([32,32]:List UInt8) ++ r'8).length + ([32]:List UInt8).length≤maxStr∧0≤c'2.slot∧∃c'10:Fld,m24582.slots[(c'2.slot).toNat]? = some c'10∧∃r'12:List UInt8,Pus prog 112 [.s c'10.name] (.s r'12)∧((([32,32]:List UInt8) ++ r'8) ++ ([32]:List UInt8)).length + r'12.length≤maxStr∧(((([32,32]:List UInt8) ++ r'8) ++ ([32]:List UInt8)) ++ r'12).length + ([32,61,32]:List UInt8).length≤maxStr∧((((([32,32]:List UInt8) ++ r'8) ++ ([32]:List UInt8)) ++ r'12) ++ ([32,61,32]:List UInt8)).length + r'4.length≤maxStr∧Fit (out10.length + [(((((([32,32]:List UInt8) ++ r'8) ++ ([32]:List UInt8)) ++ r'12) ++ ([32,61,32]:List UInt8)) ++ r'4)].length) 16∧P0 (out10 ++ [(((((([32,32]:List UInt8) ++ r'8) ++ ([32]:List UInt8)) ++ r'12) ++ ([32,61,32]:List UInt8)) ++ r'4)]) (IntKind.i64.wrap (t61 + 1)) m24582))∧(¬(t61 < t60)→T82_6 prog K out10)
def T82_4 (prog:Prog)(K:List (List UInt8)→Int→Prop)(k1:Int)(m1:Frm)(m24582:Fun):Prop:=
  ∃r'1:List UInt8,Pus prog 111 [.i .i64 k1] (.s r'1)∧([35]:List UInt8).length + r'1.length≤maxStr∧(([35]:List UInt8) ++ r'1).length + ([32]:List UInt8).length≤maxStr∧∃r'3:List UInt8,Pus prog 111 [.i .i64 m1.func] (.s r'3)∧((([35]:List UInt8) ++ r'1) ++ ([32]:List UInt8)).length + r'3.length≤maxStr∧(((([35]:List UInt8) ++ r'1) ++ ([32]:List UInt8)) ++ r'3).length + ([32]:List UInt8).length≤maxStr∧∃r'5:List UInt8,Pus prog 112 [.s m24582.name] (.s r'5)∧((((([35]:List UInt8) ++ r'1) ++ ([32]:List UInt8)) ++ r'3) ++ ([32]:List UInt8)).length + r'5.length≤maxStr∧(((((([35]:List UInt8) ++ r'1) ++ ([32]:List UInt8)) ++ r'3) ++ ([32]:List UInt8)) ++ r'5).length + ([32,97,116,32]:List UInt8).length≤maxStr∧∃r'7:List UInt8,Pus prog 111 [.i .i64 m1.pos] (.s r'7)∧((((((([35]:List UInt8) ++ r'1) ++ ([32]:List UInt8)) ++ r'3) ++ ([32]:List UInt8)) ++ r'5) ++ ([32,97,116,32]:List UInt8)).length + r'7.length≤maxStr∧(((((((([35]:List UInt8) ++ r'1) ++ ([32]:List UInt8)) ++ r'3) ++ ([32]:List UInt8)) ++ r'5) ++ ([32,97,116,32]:List UInt8)) ++ r'7).length + ([32]:List UInt8).length≤maxStr∧∃r'9:List (List UInt8),Pus prog 113 [] (.ag (List.map AV.s r'9))∧r'9.length = 4∧0≤m1.mode∧∃c'11:List UInt8,(r'9:List (List UInt8))[(m1.mode).toNat]? = some c'11∧((((((((([35]:List UInt8) ++ r'1) ++ ([32]:List UInt8)) ++ r'3) ++ ([32]:List UInt8)) ++ r'5) ++ ([32,97,116,32]:List UInt8)) ++ r'7) ++ ([32]:List UInt8)).length + c'11.length≤maxStr∧∀P0:List (List UInt8)→Int→Fun→Prop,(∀(out10:List (List UInt8))(t61:Int)(m24582:Fun),T82_5 prog K P0 out10 m1.locals (m1.locals.length:Int) t61 m24582→P0 out10 t61 m24582)→P0 [(((((((((([35]:List UInt8) ++ r'1) ++ ([32]:List UInt8)) ++ r'3) ++ ([32]:List UInt8)) ++ r'5) ++ ([32,97,116,32]:List UInt8)) ++ r'7) ++ ([32]:List UInt8)) ++ c'11)] 0 m24582
def T82_3 (prog:Prog)(K:List (List UInt8)→Int→Prop)(k1:Int)(m0:Img)(m1:Frm):Prop:=
  0≤m1.func∧∃c'1:Fun,m0.funcs[(m1.func).toNat]? = some c'1∧T82_4 prog K k1 m1 c'1
def T82_2 (prog:Prog)(K:List (List UInt8)→Int→Prop)(k1:Int)(m0:Img)(m1:Frm):Prop:=
  ∃r'1:Int,Pus prog 86 [m0.av,m1.av] (.i .i64 r'1)∧(r'1≠0→K ([]:List (List UInt8)) r'1)∧(¬(r'1≠0)→T82_3 prog K k1 m0 m1)
def T82_1 (prog:Prog)(K:List (List UInt8)→Int→Prop)(k1:Int)(m0:Img)(m1:Frm):Prop:=
  (k1 < 0→K ([]:List (List UInt8)) 2)∧(¬(k1 < 0)→(k1 ≥ 170→K ([]:List (List UInt8)) 2)∧(¬(k1 ≥ 170)→T82_2 prog K k1 m0 m1))
def T82_0 (prog:Prog)(K:List (List UInt8)→Int→Prop)(m0:Img)(k1:Int)(x2:Frm):Prop:=
  T82_1 prog K k1 m0 x2
section
variable {prog:Prog}{d:Nat}{Q:AE→Sl→St→Prop}{K:List (List UInt8)→Int→Prop}(hQ:H82 Q K){σ:Sl}{st:St}
include hQ
theorem w82_6 {out10:List (List UInt8)}{o_out10:Own}(H10:σ 10 = .sl o_out10 (List.map rowS out10))(A10:ApM d st.ow o_out10 out10.length)(h:T82_6 prog K out10):W prog d c82_1 σ st Q:=
 q_ rfl (s_mvL H10 (s_mvL rfl (m_ (e_ (rt_ (hQ _ _ _ _ _ rfl rfl h))))))
theorem w82_5 {out10:List (List UInt8)}{t59:List Loc}{t60 t61:Int}{m24582:Fun}{P0:List (List UInt8)→Int→Fun→Prop} (kP0 :∀(out10:List (List UInt8))(t61:Int)(m24582:Fun),P0 out10 t61 m24582→I82_0 prog d Q t59 t60 out10 t61 m24582){o_out10 o_t59:Own}{v24582:Nat}(H9:σ 9 = .p (d,24582) v24582 0)(H10:σ 10 = .sl o_out10 (List.map rowS out10))(H59:σ 59 = .sl o_t59 (List.map Loc.row t59))(H60:σ 60 = .i .i64 t60)(H61:σ 61 = .i .i64 t61)(A10:ApM d st.ow o_out10 out10.length)(B24582:lk st.bx (d,24582) = some (v24582,[.s m24582.name,.i .i64 m24582.params,.i .i64 m24582.result,.sl .ext (List.map Fld.row m24582.slots),.sl .ext (List.map Ins.row m24582.code),.sl .ext (List.map Rnn.row m24582.sizes),.sl .ext (List.map Rnn.row m24582.lives)]))(h:T82_5 prog K P0 out10 t59 t60 t61 m24582):W prog d l82_0 σ st (thenW prog d (.loop l82_0) (blockW 0 (thenW prog d c82_1 Q))):=
 q_ rfl (b_ H61 H60 lss_ (e_ (sq_ (cs_ rfl (fun g'1=>sk_ (sq_ (bk_ (sq_ (W.reg ((h.1 g'1).2.elim fun c'2 e'3=>ia_ H59 H61 (h.1 g'1).1 e'3.1 (Loc.row_eq c'2) rfl (lf_ rfl rfl rfl (s_alloc (so_ rfl (show lk _ (d,40962) = some (_,([.i .i64 0,.i .u8 0,.i .i64 0,.s [],.sl .full (List.map Val.row ([]:List Val)),.b false]:List AV)) from lk_here) rfl rfl rfl (e_ (q_ rfl (f_ rfl (l_ rfl lk_here rfl rfl (e'3.2.elim fun r'4 e'19=>e'19.elim fun r'5 e'6=>ca_ (sc rfl rfl sn) e'6.1 (m_ (x_ rfl rfl (x_ rfl rfl (m_ (m_ (e_ (sq_ (q_ rfl (m_ (b_ rfl rfl neq_ (e_ (cs_ rfl (fun g'7=>q_ rfl (m_ (s_mvL (f:=rowS) (l:=[]) rfl (m_ (e_ (rt_ (hQ _ _ _ _ _ rfl rfl (e'6.2.1 g'7)))))))) (fun g'7=>sk_ (W.reg0 rfl fun _ _=>s_mvL H10 (f_ rfl (l_ rfl lk_here rfl rfl ((e'6.2.2 g'7).elim fun r'8 e'9=>ca_ (sc rfl rfl sn) e'9.1 (b_ rfl rfl (abin_cat' e'9.2.1) (b_ rfl rfl (abin_cat' e'9.2.2.1) (f_ H9 (l_ rfl (lk_other rfl (lk_other rfl B24582)) rfl rfl (f_ rfl (l_ rfl lk_here rfl rfl (e'9.2.2.2.2.elim fun c'10 e'11=>ia_ rfl rfl e'9.2.2.2.1 e'11.1 (Fld.row_eq c'10) rfl (ff_ rfl (lf_ rfl rfl rfl (e'11.2.elim fun r'12 e'13=>ca_ (sc rfl rfl sn) e'13.1 (b_ rfl rfl (abin_cat' e'13.2.1) (b_ rfl rfl (abin_cat' e'13.2.2.1) (m_ (b_ rfl rfl (abin_cat' e'13.2.2.2.1) (s_bslM (f:=rowS) (l:=[(((((([32,32]:List UInt8) ++ r'8) ++ ([32]:List UInt8)) ++ r'12) ++ ([32,61,32]:List UInt8)) ++ r'4)]) rfl rfl (g_cons rfl rfl rfl g_nil) rfl (s_app rowS_len rfl rfl rfl A10.1 e'13.2.2.2.2.1 rfl (fun o'14 ow'17 a'15 fr'16 on'18=>s_mvL rfl (e_ (W.reg0 rfl fun _ _=>b_ H61 rfl add_ (m_ (e_ (kP0 _ _ _ e'13.2.2.2.2.2 _ _ _ _ _ H9 rfl H59 H60 rfl (ApM.mk a'15 (Mine.app A10.2 rfl on'18)) (lk_other rfl (lk_other rfl B24582))))))))))))))))))))))))))))))))))))))))))))))))))))))) (fun g'1=>ex_ (w82_6 hQ H10 A10 (h.2 g'1)))))))
theorem w82_4 {k1:Int}{m1:Frm}{m24582:Fun}{v1:Nat}{v24582:Nat}(H1:σ 1 = .i .i64 k1)(H5:σ 5 = .p (d,1) v1 0)(H9:σ 9 = .p (d,24582) v24582 0)(B1:lk st.bx (d,1) = some (v1,[.i .i64 m1.func,.i .i64 m1.pos,.i .u64 m1.mode,.sl .ext (List.map Loc.row m1.locals)]))(B24582:lk st.bx (d,24582) = some (v24582,[.s m24582.name,.i .i64 m24582.params,.i .i64 m24582.result,.sl .ext (List.map Fld.row m24582.slots),.sl .ext (List.map Ins.row m24582.code),.sl .ext (List.map Rnn.row m24582.sizes),.sl .ext (List.map Rnn.row m24582.lives)]))(h:T82_4 prog K k1 m1 m24582):W prog d c82_2 σ st Q:=
 q_ rfl (m_ (h.elim fun r'1 e'2=>ca_ (sc H1 rfl sn) e'2.1 (b_ rfl rfl (abin_cat' e'2.2.1) (b_ rfl rfl (abin_cat' e'2.2.2.1) (f_ H5 (l_ rfl B1 rfl rfl (e'2.2.2.2.elim fun r'3 e'4=>ca_ (sc rfl rfl sn) e'4.1 (b_ rfl rfl (abin_cat' e'4.2.1) (b_ rfl rfl (abin_cat' e'4.2.2.1) (f_ H9 (l_ rfl B24582 rfl rfl (e'4.2.2.2.elim fun r'5 e'6=>ca_ (sc rfl rfl sn) e'6.1 (b_ rfl rfl (abin_cat' e'6.2.1) (b_ rfl rfl (abin_cat' e'6.2.2.1) (f_ H5 (l_ rfl B1 rfl rfl (e'6.2.2.2.elim fun r'7 e'8=>ca_ (sc rfl rfl sn) e'8.1 (b_ rfl rfl (abin_cat' e'8.2.1) (b_ rfl rfl (abin_cat' e'8.2.2.1) (e'8.2.2.2.elim fun r'9 e'10=>ca_ sn e'10.1 (f_ H5 (l_ rfl B1 rfl rfl (e'10.2.2.2.elim fun c'11 e'12=>s_ixA (f:=AV.s) e'10.2.1 rfl rfl e'10.2.2.1 e'12.1 (b_ rfl rfl (abin_cat' e'12.2.1) (s_bslM (f:=rowS) (l:=[(((((((((([35]:List UInt8) ++ r'1) ++ ([32]:List UInt8)) ++ r'3) ++ ([32]:List UInt8)) ++ r'5) ++ ([32,97,116,32]:List UInt8)) ++ r'7) ++ ([32]:List UInt8)) ++ c'11)]) rfl rfl (g_cons rfl rfl rfl g_nil) rfl (s_mvL rfl (e_ (sq_ (q_ rfl (f_ H5 (l_ rfl B1 rfl rfl (ll_ rfl (m_ (e_ (bk_ (e'12.2.2 (I82_0 prog d Q m1.locals (m1.locals.length:Int)) (fun _ _ _ hb _ _ _ _ _ H9 H10 H59 H60 H61 A10 B24582=>W.loop (w82_5 hQ (fun _ _ _ x=>x) H9 H10 H59 H60 H61 A10 B24582 hb)) _ _ _ _ _ H9 rfl rfl rfl rfl ApM.full B24582))))))))))))))))))))))))))))))))))))
theorem w82_3 {k1:Int}{m0:Img}{m1:Frm}{v0:Nat}{v1:Nat}(H1:σ 1 = .i .i64 k1)(H3:σ 3 = .p (d,0) v0 0)(H5:σ 5 = .p (d,1) v1 0)(B0:lk st.bx (d,0) = some (v0,[.sl .ext (List.map Typ.row m0.types),.sl .ext (List.map rowS m0.texts),.sl .ext (List.map Fun.row m0.funcs)]))(B1:lk st.bx (d,1) = some (v1,[.i .i64 m1.func,.i .i64 m1.pos,.i .u64 m1.mode,.sl .ext (List.map Loc.row m1.locals)]))(h:T82_3 prog K k1 m0 m1):W prog d c82_3 σ st Q:=
 sq_ (W.reg (f_ H3 (l_ rfl (lk_other rfl B0) rfl rfl (f_ H5 (l_ rfl (lk_other rfl B1) rfl rfl (h.2.elim fun c'1 e'2=>ia_ rfl rfl h.1 e'2.1 (Fun.row_eq c'1) rfl (lf_ rfl rfl rfl (s_alloc (so_ rfl (show lk _ (d,24582) = some (_,([.s [],.i .i64 0,.i .i64 0,.sl .full (List.map Fld.row ([]:List Fld)),.sl .full (List.map Ins.row ([]:List Ins)),.sl .full (List.map Rnn.row ([]:List Rnn)),.sl .full (List.map Rnn.row ([]:List Rnn))]:List AV)) from lk_here) rfl rfl rfl (e_ (w82_4 hQ H1 H5 rfl (lk_other rfl (lk_other rfl B1)) lk_here e'2.2)))))))))))
theorem w82_2 {k1:Int}{m0:Img}{m1:Frm}{v0:Nat}{v1:Nat}(H1:σ 1 = .i .i64 k1)(H3:σ 3 = .p (d,0) v0 0)(H5:σ 5 = .p (d,1) v1 0)(B0:lk st.bx (d,0) = some (v0,[.sl .ext (List.map Typ.row m0.types),.sl .ext (List.map rowS m0.texts),.sl .ext (List.map Fun.row m0.funcs)]))(B1:lk st.bx (d,1) = some (v1,[.i .i64 m1.func,.i .i64 m1.pos,.i .u64 m1.mode,.sl .ext (List.map Loc.row m1.locals)]))(h:T82_2 prog K k1 m0 m1):W prog d c82_4 σ st Q:=
 sq_ (q_ rfl (l_ H3 B0 rfl rfl (l_ H5 B1 rfl rfl (h.elim fun r'1 e'2=>ca_ (sc rfl rfl (sc rfl rfl sn)) e'2.1 (m_ (e_ (q_ rfl (m_ (b_ rfl rfl neq_ (e_ (cs_ rfl (fun g'3=>q_ rfl (m_ (s_mvL (f:=rowS) (l:=[]) rfl (m_ (e_ (rt_ (hQ _ _ _ _ _ rfl rfl (e'2.2.1 g'3)))))))) (fun g'3=>sk_ (w82_3 hQ H1 H3 H5 B0 B1 (e'2.2.2 g'3))))))))))))))
theorem w82_1 {k1:Int}{m0:Img}{m1:Frm}{v0:Nat}{v1:Nat}(H1:σ 1 = .i .i64 k1)(H3:σ 3 = .p (d,0) v0 0)(H5:σ 5 = .p (d,1) v1 0)(B0:lk st.bx (d,0) = some (v0,[.sl .ext (List.map Typ.row m0.types),.sl .ext (List.map rowS m0.texts),.sl .ext (List.map Fun.row m0.funcs)]))(B1:lk st.bx (d,1) = some (v1,[.i .i64 m1.func,.i .i64 m1.pos,.i .u64 m1.mode,.sl .ext (List.map Loc.row m1.locals)]))(h:T82_1 prog K k1 m0 m1):W prog d c82_5 σ st Q:=
 sq_ (q_ rfl (s_mvI H1 (b_ rfl rfl lss_ (s_mvB rfl (em_ (g:=17) rfl (fun g'1=>gn_ (b:=true) rfl rfl (gn_ (b:=true) rfl rfl (pt_ rfl rfl (e_ (ct_ rfl (q_ rfl (s_mvL (f:=rowS) (l:=[]) rfl (m_ (e_ (rt_ (hQ _ _ _ _ _ rfl rfl (h.1 g'1)))))))))))) (fun g'1=>gy_ rfl (s_mvI H1 (gy_ rfl (b_ rfl rfl geq_ (pf_ rfl rfl (e_ (cs_ rfl (fun g'2=>q_ rfl (s_mvL (f:=rowS) (l:=[]) rfl (m_ (e_ (rt_ (hQ _ _ _ _ _ rfl rfl ((h.2 g'1).1 g'2))))))) (fun g'2=>sk_ (w82_2 hQ H1 H3 H5 B0 B1 ((h.2 g'1).2 g'2)))))))))))))))
theorem w82_0 {m0:Img}{k1:Int}{x2:Frm}(H0:σ 0 = m0.av)(H1:σ 1 = .i .i64 k1)(H2:σ 2 = x2.av)(h:T82_0 prog K m0 k1 x2):W prog d (.seq (.reg 0 r82_0) c82_5) σ st Q:=
 q_ rfl (s_box H0 rfl (s_box H2 rfl (s_mvL (f:=rowS) (l:=[]) rfl (m_ (e_ (w82_1 hQ H1 rfl rfl (lk_other rfl lk_here) lk_here h))))))
end
theorem p82 {prog:Prog}(hf:prog.fn 82 = some pf82){m0:Img}{k1:Int}{x2:Frm}{K:List (List UInt8)→Int→Prop}(h:T82_0 prog K m0 k1 x2) :∃res0:List (List UInt8),∃res1:Int,K res0 res1∧Pus prog 82 [m0.av,.i .i64 k1,x2.av] (.tup [.sl .ext (List.map rowS res0),.i .i64 res1]):=by
  obtain ⟨v,hv,res0,res1,hk,rfl⟩:=Pus.of (K:=fun v=>∃res0:List (List UInt8),∃res1:Int,K res0 res1∧v = .tup [.sl .ext (List.map rowS res0),.i .i64 res1]) hf rfl (w82_0 (σ:=sl0 [m0.av,.i .i64 k1,x2.av]) (fun σ st  o0 res0 res1 H6 H7 hk=>⟨.tup [.sl o0 (List.map rowS res0),.i .i64 res1],by simp only [pf82,ares,aresL,H6,H7,ares1,Option.map_some],_,rfl,res0,res1,hk,rfl⟩) rfl rfl rfl h)
  exact ⟨res0,res1,hk,hv⟩
end Go.AM

/- Parts of the proof. -/
namespace Go.AM
open Go
set_option linter.unusedVariables false
set_option linter.unusedSimpArgs false
set_option maxRecDepth 4000
attribute [local irreducible] WO fillCells fillRows
abbrev H140 (d:Nat)(st0:St)(kp:Key)(vp:Nat)(Q:AE→Sl→St→Prop)(K:Int→Bool→Sc→Prop):Prop:=∀(σ:Sl)(st:St)(res0:Int)(res1:Bool)(b_:Sc),σ 4 = .i .i64 res0→σ 5 = .b res1→lk st.bx kp = some (vp,[.s b_.left])→Fr d kp st0.bx st0.ow st.bx st.ow→K res0 res1 b_→Q .ret σ st
section
variable {prog:Prog}{d:Nat}{Q:AE→Sl→St→Prop}{K:Int→Bool→Sc→Prop}{st0:St}{kp:Key}{vp:Nat}(hQ:H140 d st0 kp vp Q K)(hkp:kp.1 < d){σ:Sl}{st:St}
include hQ hkp
end
abbrev H117 (d:Nat)(st0:St)(Q:AE→Sl→St→Prop)(K:Int→Frm→Bool→Prop):Prop:=∀(σ:Sl)(st:St)(k1:Key)(v1:Nat)(res0:Int)(res1:Frm)(res2:Bool),σ 4 = .i .i64 res0→σ 5 = .p k1 v1 0→lk st.bx k1 = some (v1,[.i .i64 res1.func,.i .i64 res1.pos,.i .u64 res1.mode,.sl .full (List.map Loc.row res1.locals)])→σ 6 = .b res2→Fr d (d,0) st0.bx st0.ow st.bx st.ow→K res0 res1 res2→Q .ret σ st
section
variable {prog:Prog}{d:Nat}{Q:AE→Sl→St→Prop}{K:Int→Frm→Bool→Prop}{st0:St}(hQ:H117 d st0 Q K){σ:Sl}{st:St}
include hQ
end
abbrev H118 (Q:AE→Sl→St→Prop)(K:Loc→Bool→Prop):Prop:=∀(σ:Sl)(st:St)(k0:Key)(v0:Nat)(o0_0:Own)(res0:Loc)(res1:Bool),σ 4 = .p k0 v0 0→lk st.bx k0 = some (v0,[.i .i64 res0.slot,.i .u8 res0.value.kind,.i .i64 res0.value.int,.s res0.value.text,.sl o0_0 (List.map Val.row res0.value.list),.b res0.value.cut])→σ 5 = .b res1→K res0 res1→Q .ret σ st
section
variable {prog:Prog}{d:Nat}{Q:AE→Sl→St→Prop}{K:Loc→Bool→Prop}(hQ:H118 Q K){σ:Sl}{st:St}
include hQ
end
abbrev H84 (Q:AE→Sl→St→Prop)(K:Int→Frm→Int→Prop):Prop:=∀(σ:Sl)(st:St)(k1:Key)(v1:Nat)(o1_0:Own)(res0:Int)(res1:Frm)(res2:Int),σ 4 = .i .i64 res0→σ 5 = .p k1 v1 0→lk st.bx k1 = some (v1,[.i .i64 res1.func,.i .i64 res1.pos,.i .u64 res1.mode,.sl o1_0 (List.map Loc.row res1.locals)])→σ 6 = .i .i64 res2→K res0 res1 res2→Q .ret σ st
section
variable {prog:Prog}{d:Nat}{Q:AE→Sl→St→Prop}{K:Int→Frm→Int→Prop}(hQ:H84 Q K){σ:Sl}{st:St}
include hQ
end
end Go.AM

/- Parts of the proof. -/
namespace Go.AM
open Go
set_option linter.unusedVariables false
set_option linter.unusedSimpArgs false
set_option maxRecDepth 4000
attribute [local irreducible] WO fillCells fillRows
abbrev H81 (Q:AE→Sl→St→Prop)(K:Bool→Prop):Prop:=∀(σ:Sl)(st:St)(res0:Bool),σ 2 = .b res0→K res0→Q .ret σ st
section
variable {prog:Prog}{d:Nat}{Q:AE→Sl→St→Prop}{K:Bool→Prop}(hQ:H81 Q K){σ:Sl}{st:St}
include hQ
end
def r79_0:List AI:=[oO 1 (.box 3 (.t 0)),
 oC 2 (.b false)]
def r79_1:List AI:=[oC 3 (.i .i64 0)]
def r79_2:List AI:=[oM 6 3,
 oF 7 2 1,
 oL 8 7,
 oO 9 (.len false (.t 8)),
 oB 10 .lss (.t 6) (.t 9),
 oM 11 10,
 oG 12 (.mv (.t 3)) 11 true,
 oG 13 (.bin .leq (.t 12) (.c (.i .i64 40))) 11 true,
 oO 14 (.pick (.t 11) (.t 13) (.c (.b false)))]
def r79_3:List AI:=[oF 17 2 1,
 oL 18 17,
 oM 19 3,
 oO 20 (.iaL 7 (.t 18) (.t 19)),
 oO 21 (.load 7 true (.t 20)),
 oO 4 (.alloc [.s [],.i .i64 0,.i .i64 0,.sl .full [],.sl .full [],.sl .full [],.sl .full []]),
 oS 7 4 21]
def r79_4:List AI:=[oF 22 0 4,
 oL 23 22,
 oO 24 (.len true (.t 23)),
 oB 25 .gtr (.t 24) (.c (.i .i64 40)),
 oM 26 25,
 oG 27 (.fad 3 (.t 4)) 26 false,
 oG 28 (.load 1 false (.t 27)) 26 false,
 oG 29 (.len false (.t 28)) 26 false,
 oG 30 (.bin .gtr (.t 29) (.c (.i .i64 30))) 26 false,
 oO 31 (.pick (.t 26) (.c (.b true)) (.t 30)),
 oM 32 31,
 oG 33 (.fad 4 (.t 4)) 32 false,
 oG 34 (.load 1 false (.t 33)) 32 false,
 oG 35 (.len false (.t 34)) 32 false,
 oG 36 (.bin .gtr (.t 35) (.c (.i .i64 300))) 32 false,
 oO 37 (.pick (.t 32) (.c (.b true)) (.t 36))]
def r79_5:List AI:=[oC 2 (.b true)]
def r79_6:List AI:=[oC 5 (.i .i64 0)]
def r79_7:List AI:=[oM 38 5,
 oF 39 3 4,
 oL 40 39,
 oO 41 (.len false (.t 40)),
 oB 42 .lss (.t 38) (.t 41)]
def r79_8:List AI:=[oF 45 3 4,
 oL 46 45,
 oM 47 5,
 oO 48 (.iaL 2 (.t 46) (.t 47)),
 oF 49 0 48,
 oL 50 49,
 oO 51 (.len true (.t 50)),
 oB 52 .gtr (.t 51) (.c (.i .i64 40))]
def r79_9:List AI:=[oC 2 (.b true)]
def r79_10:List AI:=[oM 43 5,
 oB 44 .add (.t 43) (.c (.i .i64 1)),
 oM 5 44]
def r79_11:List AI:=[oM 15 3,
 oB 16 .add (.t 15) (.c (.i .i64 1)),
 oM 3 16]
def r79_12:List AI:=[oF 53 2 1,
 oL 54 53,
 oO 55 (.len false (.t 54)),
 oB 56 .gtr (.t 55) (.c (.i .i64 40)),
 oM 2 56]
abbrev l79_1:AC:=(.seq (.seq (.reg 8 r79_7) (.cond (.t 42) .skip (.exit 2))) (.seq (.block 3 (.seq (.reg 10 r79_8) (.cond (.t 52) (.seq (.reg 11 r79_9) .ret) .skip))) (.reg 9 r79_10)))
abbrev c79_1:AC:=(.seq (.reg 7 r79_6) (.block 2 (.loop l79_1)))
abbrev c79_2:AC:=(.reg 3 r79_11)
abbrev c79_3:AC:=(.seq (.block 1 (.seq (.reg 4 r79_3) (.seq (.seq (.reg 5 r79_4) (.cond (.t 37) (.seq (.reg 6 r79_5) .ret) .skip)) c79_1))) c79_2)
abbrev l79_0:AC:=(.seq (.seq (.reg 2 r79_2) (.cond (.t 14) .skip (.exit 0))) c79_3)
abbrev c79_5:AC:=(.seq (.reg 12 r79_12) .ret)
abbrev b79:AC:=(.seq (.reg 0 r79_0) (.seq (.seq (.reg 1 r79_1) (.block 0 (.loop l79_0))) c79_5))
def pf79:AF:={ nt:=57,res:=[.tmp 2],body:=b79 }
abbrev H79 (Q:AE→Sl→St→Prop)(K:Bool→Prop):Prop:=∀(σ:Sl)(st:St)(res0:Bool),σ 2 = .b res0→K res0→Q .ret σ st
abbrev I79_0 (prog:Prog)(d:Nat)(Q:AE→Sl→St→Prop)(i3:Int)(m0:Img):Prop:=
  ∀(σ:Sl)(st:St)(v0:Nat),σ 1 = .p (d,0) v0 0→σ 3 = .i .i64 i3→lk st.bx (d,0) = some (v0,[.sl .ext (List.map Typ.row m0.types),.sl .ext (List.map rowS m0.texts),.sl .ext (List.map Fun.row m0.funcs)])→W prog d (.loop l79_0) σ st (blockW 0 (thenW prog d c79_5 Q))
abbrev I79_1 (prog:Prog)(d:Nat)(Q:AE→Sl→St→Prop)(i3:Int)(k5:Int)(m0:Img)(m16389:Fun):Prop:=
  ∀(σ:Sl)(st:St) (v0 v16389:Nat),σ 1 = .p (d,0) v0 0→σ 3 = .i .i64 i3→σ 4 = .p (d,16389) v16389 0→σ 5 = .i .i64 k5→lk st.bx (d,0) = some (v0,[.sl .ext (List.map Typ.row m0.types),.sl .ext (List.map rowS m0.texts),.sl .ext (List.map Fun.row m0.funcs)])→lk st.bx (d,16389) = some (v16389,[.s m16389.name,.i .i64 m16389.params,.i .i64 m16389.result,.sl .ext (List.map Fld.row m16389.slots),.sl .ext (List.map Ins.row m16389.code),.sl .ext (List.map Rnn.row m16389.sizes),.sl .ext (List.map Rnn.row m16389.lives)])→W prog d (.loop l79_1) σ st (blockW 2 (blockW 1 (thenW prog d c79_2 (thenW prog d (.loop l79_0) (blockW 0 (thenW prog d c79_5 Q))))))
def T79_5 (prog:Prog)(K:Bool→Prop)(P0:Int→Img→Prop)(i3:Int)(m0:Img):Prop:=
  P0 (IntKind.i64.wrap (i3 + 1)) m0
def T79_4 (prog:Prog)(K:Bool→Prop)(P1:Int→Img→Fun→Prop)(P0:Int→Img→Prop)(i3:Int)(k5:Int)(m0:Img)(m16389:Fun):Prop:=
  (k5 < (m16389.slots.length:Int)→0≤k5∧∃c'2:Fld,m16389.slots[(k5).toNat]? = some c'2∧((c'2.name.length:Int) > 40→K true)∧(¬((c'2.name.length:Int) > 40)→P1 (IntKind.i64.wrap (k5 + 1)) m0 m16389))∧(¬(k5 < (m16389.slots.length:Int))→T79_5 prog K P0 i3 m0)
def T79_3 (prog:Prog)(K:Bool→Prop)(P0:Int→Img→Prop)(i3:Int)(m0:Img)(m16389:Fun):Prop:=
  ∀P1:Int→Img→Fun→Prop,(∀(k5:Int)(m0:Img)(m16389:Fun),T79_4 prog K P1 P0 i3 k5 m0 m16389→P1 k5 m0 m16389)→P1 0 m0 m16389
def T79_2 (prog:Prog)(K:Bool→Prop)(P0:Int→Img→Prop)(i3:Int)(m0:Img):Prop:=
  0≤i3∧∃c'1:Fun,m0.funcs[(i3).toNat]? = some c'1∧((c'1.name.length:Int) > 40→K true)∧(¬((c'1.name.length:Int) > 40)→((c'1.slots.length:Int) > 30→K true)∧(¬((c'1.slots.length:Int) > 30)→((c'1.code.length:Int) > 300→K true)∧(¬((c'1.code.length:Int) > 300)→T79_3 prog K P0 i3 m0 c'1)))
def T79_6 (prog:Prog)(K:Bool→Prop)(m0:Img):Prop:=
  K (decide ((m0.funcs.length:Int) > 40))
def T79_1 (prog:Prog)(K:Bool→Prop)(P0:Int→Img→Prop)(i3:Int)(m0:Img):Prop:=
  (i3 < (m0.funcs.length:Int)→(i3≤40→T79_2 prog K P0 i3 m0)∧(¬(i3≤40)→T79_6 prog K m0))∧(¬(i3 < (m0.funcs.length:Int))→T79_6 prog K m0)
def T79_0 (prog:Prog)(K:Bool→Prop)(m0:Img):Prop:=
  ∀P0:Int→Img→Prop,(∀(i3:Int)(m0:Img),T79_1 prog K P0 i3 m0→P0 i3 m0)→P0 0 m0
section
variable {prog:Prog}{d:Nat}{Q:AE→Sl→St→Prop}{K:Bool→Prop}(hQ:H79 Q K){σ:Sl}{st:St}
include hQ
theorem w79_5 {i3:Int}{m0:Img}{P0:Int→Img→Prop} (kP0 :∀(i3:Int)(m0:Img),P0 i3 m0→I79_0 prog d Q i3 m0){v0:Nat}(H1:σ 1 = .p (d,0) v0 0)(H3:σ 3 = .i .i64 i3)(B0:lk st.bx (d,0) = some (v0,[.sl .ext (List.map Typ.row m0.types),.sl .ext (List.map rowS m0.texts),.sl .ext (List.map Fun.row m0.funcs)]))(h:T79_5 prog K P0 i3 m0):W prog d c79_2 σ st (thenW prog d (.loop l79_0) (blockW 0 (thenW prog d c79_5 Q))):=
 W.reg0 rfl fun _ _=>m_ (b_ H3 rfl add_ (m_ (e_ (kP0 _ _ h _ _ _ H1 rfl B0))))
theorem w79_4 {i3 k5:Int}{m0:Img}{m16389:Fun}{P1:Int→Img→Fun→Prop}{P0:Int→Img→Prop} (kP1 :∀(k5:Int)(m0:Img)(m16389:Fun),P1 k5 m0 m16389→I79_1 prog d Q i3 k5 m0 m16389) (kP0 :∀(i3:Int)(m0:Img),P0 i3 m0→I79_0 prog d Q i3 m0){v0:Nat}{v16389:Nat}(H1:σ 1 = .p (d,0) v0 0)(H3:σ 3 = .i .i64 i3)(H4:σ 4 = .p (d,16389) v16389 0)(H5:σ 5 = .i .i64 k5)(B0:lk st.bx (d,0) = some (v0,[.sl .ext (List.map Typ.row m0.types),.sl .ext (List.map rowS m0.texts),.sl .ext (List.map Fun.row m0.funcs)]))(B16389:lk st.bx (d,16389) = some (v16389,[.s m16389.name,.i .i64 m16389.params,.i .i64 m16389.result,.sl .ext (List.map Fld.row m16389.slots),.sl .ext (List.map Ins.row m16389.code),.sl .ext (List.map Rnn.row m16389.sizes),.sl .ext (List.map Rnn.row m16389.lives)]))(h:T79_4 prog K P1 P0 i3 k5 m0 m16389):W prog d l79_1 σ st (thenW prog d (.loop l79_1) (blockW 2 (blockW 1 (thenW prog d c79_2 (thenW prog d (.loop l79_0) (blockW 0 (thenW prog d c79_5 Q))))))):=
 sq_ (q_ rfl (m_ (f_ H4 (l_ rfl B16389 rfl rfl (ll_ rfl (b_ H5 rfl lss_ (e_ (cs_ rfl (fun g'1=>sk_ (sq_ (bk_ (q_ rfl (f_ H4 (l_ rfl B16389 rfl rfl (m_ ((h.1 g'1).2.elim fun c'2 e'3=>ia_ rfl H5 (h.1 g'1).1 e'3.1 (Fld.row_eq c'2) rfl (ff_ rfl (lf_ rfl rfl rfl (ln_ rfl (b_ rfl rfl gtr_ (e_ (cs_ rfl (fun g'4=>q_ rfl (m_ (e_ (rt_ (hQ _ _ _ rfl (e'3.2.1 g'4)))))) (fun g'4=>sk_ (W.reg0 rfl fun _ _=>m_ (b_ H5 rfl add_ (m_ (e_ (kP1 _ _ _ (e'3.2.2 g'4) _ _ _ _ H1 H3 H4 rfl B0 B16389)))))))))))))))))))) (fun g'1=>ex_ (w79_5 hQ kP0 H1 H3 B0 (h.2 g'1)))))))))))
theorem w79_3 {i3:Int}{m0:Img}{m16389:Fun}{P0:Int→Img→Prop} (kP0 :∀(i3:Int)(m0:Img),P0 i3 m0→I79_0 prog d Q i3 m0){v0:Nat}{v16389:Nat}(H1:σ 1 = .p (d,0) v0 0)(H3:σ 3 = .i .i64 i3)(H4:σ 4 = .p (d,16389) v16389 0)(B0:lk st.bx (d,0) = some (v0,[.sl .ext (List.map Typ.row m0.types),.sl .ext (List.map rowS m0.texts),.sl .ext (List.map Fun.row m0.funcs)]))(B16389:lk st.bx (d,16389) = some (v16389,[.s m16389.name,.i .i64 m16389.params,.i .i64 m16389.result,.sl .ext (List.map Fld.row m16389.slots),.sl .ext (List.map Ins.row m16389.code),.sl .ext (List.map Rnn.row m16389.sizes),.sl .ext (List.map Rnn.row m16389.lives)]))(h:T79_3 prog K P0 i3 m0 m16389):W prog d c79_1 σ st (blockW 1 (thenW prog d c79_2 (thenW prog d (.loop l79_0) (blockW 0 (thenW prog d c79_5 Q))))):=
 q_ rfl (m_ (e_ (bk_ (h (I79_1 prog d Q i3) (fun _ _ _ hb _ _ _ _ H1 H3 H4 H5 B0 B16389=>W.loop (w79_4 hQ (fun _ _ _ x=>x) kP0 H1 H3 H4 H5 B0 B16389 hb)) _ _ _ _ H1 H3 H4 rfl B0 B16389))))
theorem w79_2 {i3:Int}{m0:Img}{P0:Int→Img→Prop} (kP0 :∀(i3:Int)(m0:Img),P0 i3 m0→I79_0 prog d Q i3 m0){v0:Nat}(H1:σ 1 = .p (d,0) v0 0)(H3:σ 3 = .i .i64 i3)(B0:lk st.bx (d,0) = some (v0,[.sl .ext (List.map Typ.row m0.types),.sl .ext (List.map rowS m0.texts),.sl .ext (List.map Fun.row m0.funcs)]))(h:T79_2 prog K P0 i3 m0):W prog d c79_3 σ st (thenW prog d (.loop l79_0) (blockW 0 (thenW prog d c79_5 Q))):=
 sq_ (bk_ (sq_ (W.reg (f_ H1 (l_ rfl (lk_other rfl B0) rfl rfl (m_ (h.2.elim fun c'1 e'2=>ia_ rfl H3 h.1 e'2.1 (Fun.row_eq c'1) rfl (lf_ rfl rfl rfl (s_alloc (so_ rfl (show lk _ (d,16389) = some (_,([.s [],.i .i64 0,.i .i64 0,.sl .full (List.map Fld.row ([]:List Fld)),.sl .full (List.map Ins.row ([]:List Ins)),.sl .full (List.map Rnn.row ([]:List Rnn)),.sl .full (List.map Rnn.row ([]:List Rnn))]:List AV)) from lk_here) rfl rfl rfl (e_ (sq_ (q_ rfl (f_ rfl (l_ rfl lk_here rfl rfl (ln_ rfl (b_ rfl rfl gtr_ (s_mvB rfl (em_ (g:=26) rfl (fun g'3=>gn_ (b:=true) rfl rfl (gn_ (b:=true) rfl rfl (gn_ (b:=true) rfl rfl (gn_ (b:=true) rfl rfl (pt_ rfl rfl (s_mvB rfl (gn_ (b:=true) rfl rfl (gn_ (b:=true) rfl rfl (gn_ (b:=true) rfl rfl (gn_ (b:=true) rfl rfl (pt_ rfl rfl (e_ (ct_ rfl (q_ rfl (m_ (e_ (rt_ (hQ _ _ _ rfl (e'2.2.1 g'3))))))))))))))))))) (fun g'3=>gy_ rfl (f_ rfl (gy_ rfl (l_ rfl lk_here rfl rfl (gy_ rfl (ll_ rfl (gy_ rfl (b_ rfl rfl gtr_ (pf_ rfl rfl (s_mvB rfl (em_ (g:=32) rfl (fun g'4=>gn_ (b:=true) rfl rfl (gn_ (b:=true) rfl rfl (gn_ (b:=true) rfl rfl (gn_ (b:=true) rfl rfl (pt_ rfl rfl (e_ (ct_ rfl (q_ rfl (m_ (e_ (rt_ (hQ _ _ _ rfl ((e'2.2.2 g'3).1 g'4))))))))))))) (fun g'4=>gy_ rfl (f_ rfl (gy_ rfl (l_ rfl lk_here rfl rfl (gy_ rfl (ll_ rfl (gy_ rfl (b_ rfl rfl gtr_ (pf_ rfl rfl (e_ (cs_ rfl (fun g'5=>q_ rfl (m_ (e_ (rt_ (hQ _ _ _ rfl (((e'2.2.2 g'3).2 g'4).1 g'5)))))) (fun g'5=>sk_ (w79_3 hQ kP0 H1 H3 rfl (lk_other rfl (lk_other rfl B0)) lk_here (((e'2.2.2 g'3).2 g'4).2 g'5))))))))))))))))))))))))))))))))))))))))))))
theorem w79_6 {m0:Img}{v0:Nat}(H1:σ 1 = .p (d,0) v0 0)(B0:lk st.bx (d,0) = some (v0,[.sl .ext (List.map Typ.row m0.types),.sl .ext (List.map rowS m0.texts),.sl .ext (List.map Fun.row m0.funcs)]))(h:T79_6 prog K m0):W prog d c79_5 σ st Q:=
 q_ rfl (f_ H1 (l_ rfl B0 rfl rfl (ll_ rfl (b_ rfl rfl gtr_ (m_ (e_ (rt_ (hQ _ _ _ rfl h))))))))
theorem w79_1 {i3:Int}{m0:Img}{P0:Int→Img→Prop} (kP0 :∀(i3:Int)(m0:Img),P0 i3 m0→I79_0 prog d Q i3 m0){v0:Nat}(H1:σ 1 = .p (d,0) v0 0)(H3:σ 3 = .i .i64 i3)(B0:lk st.bx (d,0) = some (v0,[.sl .ext (List.map Typ.row m0.types),.sl .ext (List.map rowS m0.texts),.sl .ext (List.map Fun.row m0.funcs)]))(h:T79_1 prog K P0 i3 m0):W prog d l79_0 σ st (thenW prog d (.loop l79_0) (blockW 0 (thenW prog d c79_5 Q))):=
 sq_ (q_ rfl (s_mvI H3 (f_ H1 (l_ rfl B0 rfl rfl (ll_ rfl (b_ rfl rfl lss_ (s_mvB rfl (em_ (g:=11) rfl (fun g'1=>gy_ rfl (s_mvI H3 (gy_ rfl (b_ rfl rfl leq_ (pt_ rfl rfl (e_ (cs_ rfl (fun g'2=>sk_ (w79_2 hQ kP0 H1 H3 B0 ((h.1 g'1).1 g'2))) (fun g'2=>ex_ (w79_6 hQ H1 B0 ((h.1 g'1).2 g'2)))))))))) (fun g'1=>gn_ (b:=false) rfl rfl (gn_ (b:=false) rfl rfl (pf_ rfl rfl (e_ (cf_ rfl (ex_ (w79_6 hQ H1 B0 (h.2 g'1))))))))))))))))
theorem w79_0 {m0:Img}(H0:σ 0 = m0.av)(h:T79_0 prog K m0):W prog d (.seq (.reg 0 r79_0) (.seq (.seq (.reg 1 r79_1) (.block 0 (.loop l79_0))) c79_5)) σ st Q:=
 q_ rfl (s_box H0 rfl (m_ (e_ (sq_ (q_ rfl (m_ (e_ (bk_ (h (I79_0 prog d Q ) (fun _ _ hb _ _ _ H1 H3 B0=>W.loop (w79_1 hQ (fun _ _ x=>x) H1 H3 B0 hb)) _ _ _ rfl rfl lk_here)))))))))
end
theorem p79 {prog:Prog}(hf:prog.fn 79 = some pf79){m0:Img}{K:Bool→Prop}(h:T79_0 prog K m0) :∃res0:Bool,K res0∧Pus prog 79 [m0.av] (.b res0):=by
  obtain ⟨v,hv,res0,hk,rfl⟩:=Pus.of (K:=fun v=>∃res0:Bool,K res0∧v = .b res0) hf rfl (w79_0 (σ:=sl0 [m0.av]) (fun σ st   res0 H2 hk=>⟨.b res0,by simp only [pf79,ares,aresL,H2,ares1,Option.map_some],_,rfl,res0,hk,rfl⟩) rfl h)
  exact ⟨res0,hk,hv⟩
def r80_0:List AI:=[oO 1 (.box 4 (.t 0)),
 oC 2 (.b false)]
def r80_1:List AI:=[oC 3 (.i .i64 0)]
def r80_2:List AI:=[oM 4 3,
 oF 5 3 1,
 oL 6 5,
 oO 7 (.len false (.t 6)),
 oB 8 .lss (.t 4) (.t 7),
 oM 9 8,
 oG 10 (.mv (.t 3)) 9 true,
 oG 11 (.bin .leq (.t 10) (.c (.i .i64 20))) 9 true,
 oO 12 (.pick (.t 9) (.t 11) (.c (.b false)))]
def r80_3:List AI:=[oF 15 3 1,
 oL 16 15,
 oM 17 3,
 oO 18 (.iaL 6 (.t 16) (.t 17)),
 oF 19 1 18,
 oO 20 (.load 5 true (.t 19)),
 oO 21 (.call false 71 [(.t 20)])]
def r80_4:List AI:=[oC 2 (.b true)]
def r80_5:List AI:=[oM 13 3,
 oB 14 .add (.t 13) (.c (.i .i64 1)),
 oM 3 14]
def r80_6:List AI:=[oF 22 3 1,
 oL 23 22,
 oO 24 (.len false (.t 23)),
 oB 25 .gtr (.t 24) (.c (.i .i64 20)),
 oM 2 25]
abbrev c80_0:AC:=(.seq (.block 1 (.seq (.reg 4 r80_3) (.cond (.t 21) (.seq (.reg 5 r80_4) .ret) .skip))) (.reg 3 r80_5))
abbrev l80_0:AC:=(.seq (.seq (.reg 2 r80_2) (.cond (.t 12) .skip (.exit 0))) c80_0)
abbrev c80_2:AC:=(.seq (.reg 6 r80_6) .ret)
abbrev b80:AC:=(.seq (.reg 0 r80_0) (.seq (.seq (.reg 1 r80_1) (.block 0 (.loop l80_0))) c80_2))
def pf80:AF:={ nt:=26,res:=[.tmp 2],body:=b80 }
abbrev H80 (Q:AE→Sl→St→Prop)(K:Bool→Prop):Prop:=∀(σ:Sl)(st:St)(res0:Bool),σ 2 = .b res0→K res0→Q .ret σ st
abbrev I80_0 (prog:Prog)(d:Nat)(Q:AE→Sl→St→Prop)(i3:Int)(m0:Frm):Prop:=
  ∀(σ:Sl)(st:St)(v0:Nat),σ 1 = .p (d,0) v0 0→σ 3 = .i .i64 i3→lk st.bx (d,0) = some (v0,[.i .i64 m0.func,.i .i64 m0.pos,.i .u64 m0.mode,.sl .ext (List.map Loc.row m0.locals)])→W prog d (.loop l80_0) σ st (blockW 0 (thenW prog d c80_2 Q))
def T80_2 (prog:Prog)(K:Bool→Prop)(P0:Int→Frm→Prop)(i3:Int)(m0:Frm):Prop:=
  0≤i3∧∃c'1:Loc,m0.locals[(i3).toNat]? = some c'1∧∃r'3:Bool,Pus prog 71 [c'1.value.av] (.b r'3)∧(r'3 = true→K true)∧(r'3 = false→P0 (IntKind.i64.wrap (i3 + 1)) m0)
def T80_3 (prog:Prog)(K:Bool→Prop)(m0:Frm):Prop:=
  K (decide ((m0.locals.length:Int) > 20))
def T80_1 (prog:Prog)(K:Bool→Prop)(P0:Int→Frm→Prop)(i3:Int)(m0:Frm):Prop:=
  (i3 < (m0.locals.length:Int)→(i3≤20→T80_2 prog K P0 i3 m0)∧(¬(i3≤20)→T80_3 prog K m0))∧(¬(i3 < (m0.locals.length:Int))→T80_3 prog K m0)
def T80_0 (prog:Prog)(K:Bool→Prop)(x0:Frm):Prop:=
  ∀P0:Int→Frm→Prop,(∀(i3:Int)(m0:Frm),T80_1 prog K P0 i3 m0→P0 i3 m0)→P0 0 x0
section
variable {prog:Prog}{d:Nat}{Q:AE→Sl→St→Prop}{K:Bool→Prop}(hQ:H80 Q K){σ:Sl}{st:St}
include hQ
theorem w80_2 {i3:Int}{m0:Frm}{P0:Int→Frm→Prop} (kP0 :∀(i3:Int)(m0:Frm),P0 i3 m0→I80_0 prog d Q i3 m0){v0:Nat}(H1:σ 1 = .p (d,0) v0 0)(H3:σ 3 = .i .i64 i3)(B0:lk st.bx (d,0) = some (v0,[.i .i64 m0.func,.i .i64 m0.pos,.i .u64 m0.mode,.sl .ext (List.map Loc.row m0.locals)]))(h:T80_2 prog K P0 i3 m0):W prog d c80_0 σ st (thenW prog d (.loop l80_0) (blockW 0 (thenW prog d c80_2 Q))):=
 sq_ (bk_ (q_ rfl (f_ H1 (l_ rfl B0 rfl rfl (m_ (h.2.elim fun c'1 e'2=>ia_ rfl H3 h.1 e'2.1 (Loc.row_eq c'1) rfl (ff_ rfl (lf_ rfl rfl rfl (e'2.2.elim fun r'3 e'4=>ca_ (sc rfl rfl sn) e'4.1 (e_ (cb_ rfl (fun g'5=>q_ rfl (m_ (e_ (rt_ (hQ _ _ _ rfl (e'4.2.1 g'5)))))) (fun g'5=>sk_ (W.reg0 rfl fun _ _=>m_ (b_ H3 rfl add_ (m_ (e_ (kP0 _ _ (e'4.2.2 g'5) _ _ _ H1 rfl B0)))))))))))))))))
theorem w80_3 {m0:Frm}{v0:Nat}(H1:σ 1 = .p (d,0) v0 0)(B0:lk st.bx (d,0) = some (v0,[.i .i64 m0.func,.i .i64 m0.pos,.i .u64 m0.mode,.sl .ext (List.map Loc.row m0.locals)]))(h:T80_3 prog K m0):W prog d c80_2 σ st Q:=
 q_ rfl (f_ H1 (l_ rfl B0 rfl rfl (ll_ rfl (b_ rfl rfl gtr_ (m_ (e_ (rt_ (hQ _ _ _ rfl h))))))))
theorem w80_1 {i3:Int}{m0:Frm}{P0:Int→Frm→Prop} (kP0 :∀(i3:Int)(m0:Frm),P0 i3 m0→I80_0 prog d Q i3 m0){v0:Nat}(H1:σ 1 = .p (d,0) v0 0)(H3:σ 3 = .i .i64 i3)(B0:lk st.bx (d,0) = some (v0,[.i .i64 m0.func,.i .i64 m0.pos,.i .u64 m0.mode,.sl .ext (List.map Loc.row m0.locals)]))(h:T80_1 prog K P0 i3 m0):W prog d l80_0 σ st (thenW prog d (.loop l80_0) (blockW 0 (thenW prog d c80_2 Q))):=
 sq_ (q_ rfl (s_mvI H3 (f_ H1 (l_ rfl B0 rfl rfl (ll_ rfl (b_ rfl rfl lss_ (s_mvB rfl (em_ (g:=9) rfl (fun g'1=>gy_ rfl (s_mvI H3 (gy_ rfl (b_ rfl rfl leq_ (pt_ rfl rfl (e_ (cs_ rfl (fun g'2=>sk_ (w80_2 hQ kP0 H1 H3 B0 ((h.1 g'1).1 g'2))) (fun g'2=>ex_ (w80_3 hQ H1 B0 ((h.1 g'1).2 g'2)))))))))) (fun g'1=>gn_ (b:=false) rfl rfl (gn_ (b:=false) rfl rfl (pf_ rfl rfl (e_ (cf_ rfl (ex_ (w80_3 hQ H1 B0 (h.2 g'1))))))))))))))))
theorem w80_0 {x0:Frm}(H0:σ 0 = x0.av)(h:T80_0 prog K x0):W prog d (.seq (.reg 0 r80_0) (.seq (.seq (.reg 1 r80_1) (.block 0 (.loop l80_0))) c80_2)) σ st Q:=
 q_ rfl (s_box H0 rfl (m_ (e_ (sq_ (q_ rfl (m_ (e_ (bk_ (h (I80_0 prog d Q ) (fun _ _ hb _ _ _ H1 H3 B0=>W.loop (w80_1 hQ (fun _ _ x=>x) H1 H3 B0 hb)) _ _ _ rfl rfl lk_here)))))))))
end
theorem p80 {prog:Prog}(hf:prog.fn 80 = some pf80){x0:Frm}{K:Bool→Prop}(h:T80_0 prog K x0) :∃res0:Bool,K res0∧Pus prog 80 [x0.av] (.b res0):=by
  obtain ⟨v,hv,res0,hk,rfl⟩:=Pus.of (K:=fun v=>∃res0:Bool,K res0∧v = .b res0) hf rfl (w80_0 (σ:=sl0 [x0.av]) (fun σ st   res0 H2 hk=>⟨.b res0,by simp only [pf80,ares,aresL,H2,ares1,Option.map_some],_,rfl,res0,hk,rfl⟩) rfl h)
  exact ⟨res0,hk,hv⟩
abbrev H83 (Q:AE→Sl→St→Prop)(K:List (List UInt8)→Int→Prop):Prop:=∀(σ:Sl)(st:St)(o0:Own)(res0:List (List UInt8))(res1:Int),σ 6 = .sl o0 (List.map rowS res0)→σ 7 = .i .i64 res1→K res0 res1→Q .ret σ st
section
variable {prog:Prog}{d:Nat}{Q:AE→Sl→St→Prop}{K:List (List UInt8)→Int→Prop}(hQ:H83 Q K){σ:Sl}{st:St}
include hQ
end
def r87_0:List AI:=[oO 2 (.box 3 (.t 0)),
 oO 3 (.box 4 (.t 1)),
 oC 4 (.i .i64 0)]
def r87_1:List AI:=[oF 9 0 3,
 oL 10 9,
 oB 11 .lss (.t 10) (.c (.i .i64 0)),
 oM 12 11,
 oG 13 (.fad 0 (.t 3)) 12 false,
 oG 14 (.load 1 false (.t 13)) 12 false,
 oG 15 (.fad 2 (.t 2)) 12 false,
 oG 16 (.load 1 false (.t 15)) 12 false,
 oG 17 (.len false (.t 16)) 12 false,
 oG 18 (.bin .geq (.t 14) (.t 17)) 12 false,
 oO 19 (.pick (.t 12) (.c (.b true)) (.t 18)),
 oM 20 19,
 oG 21 (.fad 2 (.t 3)) 20 false,
 oG 22 (.load 1 false (.t 21)) 20 false,
 oG 23 (.bin .gtr (.t 22) (.c (.i .u64 3))) 20 false,
 oO 24 (.pick (.t 20) (.c (.b true)) (.t 23))]
def r87_2:List AI:=[oC 4 (.i .i64 8)]
def r87_3:List AI:=[oF 25 2 2,
 oL 26 25,
 oF 27 0 3,
 oL 28 27,
 oO 29 (.iaL 7 (.t 26) (.t 28)),
 oO 30 (.load 7 true (.t 29)),
 oO 5 (.alloc [.s [],.i .i64 0,.i .i64 0,.sl .full [],.sl .full [],.sl .full [],.sl .full []]),
 oS 7 5 30]
def r87_4:List AI:=[oF 31 3 5,
 oL 32 31,
 oO 33 (.len false (.t 32)),
 oB 34 .gtr (.t 33) (.c (.i .i64 16)),
 oM 35 34,
 oG 36 (.fad 0 (.t 5)) 35 false,
 oG 37 (.load 1 false (.t 36)) 35 false,
 oG 38 (.len true (.t 37)) 35 false,
 oG 39 (.bin .gtr (.t 38) (.c (.i .i64 16))) 35 false,
 oO 40 (.pick (.t 35) (.c (.b true)) (.t 39)),
 oM 41 40,
 oG 42 (.fad 1 (.t 3)) 41 false,
 oG 43 (.load 1 false (.t 42)) 41 false,
 oG 44 (.bin .lss (.t 43) (.c (.i .i64 0))) 41 false,
 oO 45 (.pick (.t 41) (.c (.b true)) (.t 44)),
 oM 46 45,
 oG 47 (.fad 1 (.t 3)) 46 false,
 oG 48 (.load 1 false (.t 47)) 46 false,
 oG 49 (.fad 4 (.t 5)) 46 false,
 oG 50 (.load 1 false (.t 49)) 46 false,
 oG 51 (.len false (.t 50)) 46 false,
 oG 52 (.bin .geq (.t 48) (.t 51)) 46 false,
 oO 53 (.pick (.t 46) (.c (.b true)) (.t 52))]
def r87_5:List AI:=[oC 4 (.i .i64 8)]
def r87_6:List AI:=[oC 6 (.i .i64 0)]
def r87_7:List AI:=[oM 54 6,
 oF 55 3 5,
 oL 56 55,
 oO 57 (.len false (.t 56)),
 oB 58 .lss (.t 54) (.t 57)]
def r87_8:List AI:=[oF 61 3 5,
 oL 62 61,
 oM 63 6,
 oO 64 (.iaL 2 (.t 62) (.t 63)),
 oF 65 0 64,
 oL 66 65,
 oO 67 (.len true (.t 66)),
 oB 68 .gtr (.t 67) (.c (.i .i64 16))]
def r87_9:List AI:=[oC 4 (.i .i64 8)]
def r87_10:List AI:=[oM 59 6,
 oB 60 .add (.t 59) (.c (.i .i64 1)),
 oM 6 60]
def r87_11:List AI:=[oC 7 (.i .i64 0)]
def r87_12:List AI:=[oM 69 7,
 oF 70 3 3,
 oL 71 70,
 oO 72 (.len false (.t 71)),
 oB 73 .lss (.t 69) (.t 72)]
def r87_13:List AI:=[oF 76 3 3,
 oL 77 76,
 oM 78 7,
 oO 79 (.iaL 6 (.t 77) (.t 78)),
 oO 80 (.load 6 true (.t 79)),
 oO 8 (.alloc [.i .i64 0,.i .u8 0,.i .i64 0,.s [],.sl .full [],.b false]),
 oS 6 8 80]
def r87_14:List AI:=[oF 81 0 8,
 oL 82 81,
 oB 83 .lss (.t 82) (.c (.i .i64 0)),
 oM 84 83,
 oG 85 (.fad 0 (.t 8)) 84 false,
 oG 86 (.load 1 false (.t 85)) 84 false,
 oG 87 (.fad 3 (.t 5)) 84 false,
 oG 88 (.load 1 false (.t 87)) 84 false,
 oG 89 (.len false (.t 88)) 84 false,
 oG 90 (.bin .geq (.t 86) (.t 89)) 84 false,
 oO 91 (.pick (.t 84) (.c (.b true)) (.t 90)),
 oM 92 91,
 oG 93 (.mv (.t 7)) 92 false,
 oG 94 (.bin .gtr (.t 93) (.c (.i .i64 0))) 92 false,
 oG 95 (.mv (.t 94)) 92 false,
 oG 96 (.fad 3 (.t 3)) 95 true,
 oG 97 (.load 1 false (.t 96)) 95 true,
 oG 98 (.mv (.t 7)) 95 true,
 oG 99 (.bin .sub (.t 98) (.c (.i .i64 1))) 95 true,
 oG 100 (.iaL 6 (.t 97) (.t 99)) 95 true,
 oG 101 (.fad 0 (.t 100)) 95 true,
 oG 102 (.load 1 false (.t 101)) 95 true,
 oG 103 (.fad 0 (.t 8)) 95 true,
 oG 104 (.load 1 false (.t 103)) 95 true,
 oG 105 (.bin .geq (.t 102) (.t 104)) 95 true,
 oG 106 (.pick (.t 95) (.t 105) (.c (.b false))) 92 false,
 oO 107 (.pick (.t 92) (.c (.b true)) (.t 106)),
 oM 108 107,
 oG 109 (.fad 1 (.t 8)) 108 false,
 oG 110 (.load 5 true (.t 109)) 108 false,
 oG 111 (.call false 77 [(.t 110)]) 108 false,
 oG 112 (.bin .neq (.t 111) (.c (.i .i64 0))) 108 false,
 oO 113 (.pick (.t 108) (.c (.b true)) (.t 112))]
def r87_15:List AI:=[oC 4 (.i .i64 8)]
def r87_16:List AI:=[oM 74 7,
 oB 75 .add (.t 74) (.c (.i .i64 1)),
 oM 7 75]
def r87_17:List AI:=[oC 4 (.i .i64 0)]
abbrev l87_0:AC:=(.seq (.seq (.reg 7 r87_7) (.cond (.t 58) .skip (.exit 0))) (.seq (.block 1 (.seq (.reg 9 r87_8) (.cond (.t 68) (.seq (.reg 10 r87_9) .ret) .skip))) (.reg 8 r87_10)))
abbrev l87_1:AC:=(.seq (.seq (.reg 12 r87_12) (.cond (.t 73) .skip (.exit 2))) (.seq (.block 3 (.seq (.reg 14 r87_13) (.seq (.reg 15 r87_14) (.cond (.t 113) (.seq (.reg 16 r87_15) .ret) .skip)))) (.reg 13 r87_16)))
abbrev c87_2:AC:=(.seq (.reg 17 r87_17) .ret)
abbrev c87_3:AC:=(.seq (.seq (.reg 11 r87_11) (.block 2 (.loop l87_1))) c87_2)
abbrev c87_4:AC:=(.seq (.seq (.reg 6 r87_6) (.block 0 (.loop l87_0))) c87_3)
abbrev c87_5:AC:=(.seq (.seq (.reg 4 r87_4) (.cond (.t 53) (.seq (.reg 5 r87_5) .ret) .skip)) c87_4)
abbrev c87_6:AC:=(.seq (.reg 3 r87_3) c87_5)
abbrev c87_7:AC:=(.seq (.seq (.reg 1 r87_1) (.cond (.t 24) (.seq (.reg 2 r87_2) .ret) .skip)) c87_6)
abbrev b87:AC:=(.seq (.reg 0 r87_0) c87_7)
def pf87:AF:={ nt:=114,res:=[.tmp 4],body:=b87 }
abbrev H87 (Q:AE→Sl→St→Prop)(K:Int→Prop):Prop:=∀(σ:Sl)(st:St)(res0:Int),σ 4 = .i .i64 res0→K res0→Q .ret σ st
abbrev I87_0 (prog:Prog)(d:Nat)(Q:AE→Sl→St→Prop)(i6:Int)(m1:Frm)(m12294:Fun):Prop:=
  ∀(σ:Sl)(st:St) (v1 v12294:Nat),σ 3 = .p (d,1) v1 0→σ 5 = .p (d,12294) v12294 0→σ 6 = .i .i64 i6→lk st.bx (d,1) = some (v1,[.i .i64 m1.func,.i .i64 m1.pos,.i .u64 m1.mode,.sl .ext (List.map Loc.row m1.locals)])→lk st.bx (d,12294) = some (v12294,[.s m12294.name,.i .i64 m12294.params,.i .i64 m12294.result,.sl .ext (List.map Fld.row m12294.slots),.sl .ext (List.map Ins.row m12294.code),.sl .ext (List.map Rnn.row m12294.sizes),.sl .ext (List.map Rnn.row m12294.lives)])→W prog d (.loop l87_0) σ st (blockW 0 (thenW prog d c87_3 Q))
abbrev I87_1 (prog:Prog)(d:Nat)(Q:AE→Sl→St→Prop)(i7:Int)(m1:Frm)(m12294:Fun):Prop:=
  ∀(σ:Sl)(st:St) (v1 v12294:Nat),σ 3 = .p (d,1) v1 0→σ 5 = .p (d,12294) v12294 0→σ 7 = .i .i64 i7→lk st.bx (d,1) = some (v1,[.i .i64 m1.func,.i .i64 m1.pos,.i .u64 m1.mode,.sl .ext (List.map Loc.row m1.locals)])→lk st.bx (d,12294) = some (v12294,[.s m12294.name,.i .i64 m12294.params,.i .i64 m12294.result,.sl .ext (List.map Fld.row m12294.slots),.sl .ext (List.map Ins.row m12294.code),.sl .ext (List.map Rnn.row m12294.sizes),.sl .ext (List.map Rnn.row m12294.lives)])→W prog d (.loop l87_1) σ st (blockW 2 (thenW prog d c87_2 Q))
def T87_8 (prog:Prog)(K:Int→Prop) :Prop:=
  K 0
def T87_7 (prog:Prog)(K:Int→Prop)(P1:Int→Frm→Fun→Prop)(i7:Int)(m1:Frm)(m12294:Fun):Prop:=
  (i7 < (m1.locals.length:Int)→0≤i7∧∃c'2:Loc,m1.locals[(i7).toNat]? = some c'2∧(c'2.slot < 0→K 8)∧(¬(c'2.slot < 0)→(c'2.slot ≥ (m12294.slots.length:Int)→K 8)∧(¬(c'2.slot ≥ (m12294.slots.length:Int))→(i7 > 0→0≤(IntKind.i64.wrap (i7 - 1))∧∃c'7:Loc,m1.locals[(IntKind.i64.wrap (i7 - 1)).toNat]? = some c'7∧(c'7.slot ≥ c'2.slot→K 8)∧(¬(c'7.slot ≥ c'2.slot)→∃r'10:Int,Pus prog 77 [c'2.value.av] (.i .i64 r'10)∧(r'10≠0→K 8)∧(¬(r'10≠0)→P1 (IntKind.i64.wrap (i7 + 1)) m1 m12294)))∧(¬(i7 > 0)→∃r'13:Int,Pus prog 77 [c'2.value.av] (.i .i64 r'13)∧(r'13≠0→K 8)∧(¬(r'13≠0)→P1 (IntKind.i64.wrap (i7 + 1)) m1 m12294)))))∧(¬(i7 < (m1.locals.length:Int))→T87_8 prog K )
def T87_6 (prog:Prog)(K:Int→Prop)(m1:Frm)(m12294:Fun):Prop:=
  ∀P1:Int→Frm→Fun→Prop,(∀(i7:Int)(m1:Frm)(m12294:Fun),T87_7 prog K P1 i7 m1 m12294→P1 i7 m1 m12294)→P1 0 m1 m12294
def T87_5 (prog:Prog)(K:Int→Prop)(P0:Int→Frm→Fun→Prop)(i6:Int)(m1:Frm)(m12294:Fun):Prop:=
  (i6 < (m12294.slots.length:Int)→0≤i6∧∃c'2:Fld,m12294.slots[(i6).toNat]? = some c'2∧((c'2.name.length:Int) > 16→K 8)∧(¬((c'2.name.length:Int) > 16)→P0 (IntKind.i64.wrap (i6 + 1)) m1 m12294))∧(¬(i6 < (m12294.slots.length:Int))→T87_6 prog K m1 m12294)
def T87_4 (prog:Prog)(K:Int→Prop)(m1:Frm)(m12294:Fun):Prop:=
  ∀P0:Int→Frm→Fun→Prop,(∀(i6:Int)(m1:Frm)(m12294:Fun),T87_5 prog K P0 i6 m1 m12294→P0 i6 m1 m12294)→P0 0 m1 m12294
def T87_3 (prog:Prog)(K:Int→Prop)(m1:Frm)(m12294:Fun):Prop:=
  ((m12294.slots.length:Int) > 16→K 8)∧(¬((m12294.slots.length:Int) > 16)→((m12294.name.length:Int) > 16→K 8)∧(¬((m12294.name.length:Int) > 16)→(m1.pos < 0→K 8)∧(¬(m1.pos < 0)→(m1.pos ≥ (m12294.code.length:Int)→K 8)∧(¬(m1.pos ≥ (m12294.code.length:Int))→T87_4 prog K m1 m12294))))
def T87_2 (prog:Prog)(K:Int→Prop)(m0:Img)(m1:Frm):Prop:=
  0≤m1.func∧∃c'1:Fun,m0.funcs[(m1.func).toNat]? = some c'1∧T87_3 prog K m1 c'1
def T87_1 (prog:Prog)(K:Int→Prop)(m0:Img)(m1:Frm):Prop:=
  (m1.func < 0→K 8)∧(¬(m1.func < 0)→(m1.func ≥ (m0.funcs.length:Int)→K 8)∧(¬(m1.func ≥ (m0.funcs.length:Int))→(m1.mode > 3→K 8)∧(¬(m1.mode > 3)→T87_2 prog K m0 m1)))
def T87_0 (prog:Prog)(K:Int→Prop)(m0:Img)(x1:Frm):Prop:=
  T87_1 prog K m0 x1
section
variable {prog:Prog}{d:Nat}{Q:AE→Sl→St→Prop}{K:Int→Prop}(hQ:H87 Q K){σ:Sl}{st:St}
include hQ
theorem w87_8 (h:T87_8 prog K ):W prog d c87_2 σ st Q:=
 q_ rfl (m_ (e_ (rt_ (hQ _ _ _ rfl h))))
theorem w87_7 {i7:Int}{m1:Frm}{m12294:Fun}{P1:Int→Frm→Fun→Prop} (kP1 :∀(i7:Int)(m1:Frm)(m12294:Fun),P1 i7 m1 m12294→I87_1 prog d Q i7 m1 m12294){v1:Nat}{v12294:Nat}(H3:σ 3 = .p (d,1) v1 0)(H5:σ 5 = .p (d,12294) v12294 0)(H7:σ 7 = .i .i64 i7)(B1:lk st.bx (d,1) = some (v1,[.i .i64 m1.func,.i .i64 m1.pos,.i .u64 m1.mode,.sl .ext (List.map Loc.row m1.locals)]))(B12294:lk st.bx (d,12294) = some (v12294,[.s m12294.name,.i .i64 m12294.params,.i .i64 m12294.result,.sl .ext (List.map Fld.row m12294.slots),.sl .ext (List.map Ins.row m12294.code),.sl .ext (List.map Rnn.row m12294.sizes),.sl .ext (List.map Rnn.row m12294.lives)]))(h:T87_7 prog K P1 i7 m1 m12294):W prog d l87_1 σ st (thenW prog d (.loop l87_1) (blockW 2 (thenW prog d c87_2 Q))):=
 sq_ (q_ rfl (m_ (f_ H3 (l_ rfl B1 rfl rfl (ll_ rfl (b_ H7 rfl lss_ (e_ (cs_ rfl (fun g'1=>sk_ (sq_ (bk_ (sq_ (W.reg (f_ H3 (l_ rfl (lk_other rfl B1) rfl rfl (m_ ((h.1 g'1).2.elim fun c'2 e'3=>ia_ rfl H7 (h.1 g'1).1 e'3.1 (Loc.row_eq c'2) rfl (lf_ rfl rfl rfl (s_alloc (so_ rfl (show lk _ (d,57349) = some (_,([.i .i64 0,.i .u8 0,.i .i64 0,.s [],.sl .full (List.map Val.row ([]:List Val)),.b false]:List AV)) from lk_here) rfl rfl rfl (e_ (q_ rfl (f_ rfl (l_ rfl lk_here rfl rfl (b_ rfl rfl lss_ (s_mvB rfl (em_ (g:=84) rfl (fun g'4=>gn_ (b:=true) rfl rfl (gn_ (b:=true) rfl rfl (gn_ (b:=true) rfl rfl (gn_ (b:=true) rfl rfl (gn_ (b:=true) rfl rfl (gn_ (b:=true) rfl rfl (pt_ rfl rfl (s_mvB rfl (gn_ (b:=true) rfl rfl (gn_ (b:=true) rfl rfl (gn_ (b:=true) rfl rfl (gt_ rfl (gt_ rfl (gt_ rfl (gt_ rfl (gt_ rfl (gt_ rfl (gt_ rfl (gt_ rfl (gt_ rfl (gt_ rfl (gn_ (b:=true) rfl rfl (pt_ rfl rfl (s_mvB rfl (gn_ (b:=true) rfl rfl (gn_ (b:=true) rfl rfl (gn_ (b:=true) rfl rfl (gn_ (b:=true) rfl rfl (pt_ rfl rfl (e_ (ct_ rfl (q_ rfl (m_ (e_ (rt_ (hQ _ _ _ rfl (e'3.2.1 g'4))))))))))))))))))))))))))))))))))))) (fun g'4=>gy_ rfl (f_ rfl (gy_ rfl (l_ rfl lk_here rfl rfl (gy_ rfl (f_ H5 (gy_ rfl (l_ rfl (lk_other rfl (lk_other rfl B12294)) rfl rfl (gy_ rfl (ll_ rfl (gy_ rfl (b_ rfl rfl geq_ (pf_ rfl rfl (s_mvB rfl (em_ (g:=92) rfl (fun g'5=>gn_ (b:=true) rfl rfl (gn_ (b:=true) rfl rfl (gn_ (b:=true) rfl rfl (gt_ rfl (gt_ rfl (gt_ rfl (gt_ rfl (gt_ rfl (gt_ rfl (gt_ rfl (gt_ rfl (gt_ rfl (gt_ rfl (gn_ (b:=true) rfl rfl (pt_ rfl rfl (s_mvB rfl (gn_ (b:=true) rfl rfl (gn_ (b:=true) rfl rfl (gn_ (b:=true) rfl rfl (gn_ (b:=true) rfl rfl (pt_ rfl rfl (e_ (ct_ rfl (q_ rfl (m_ (e_ (rt_ (hQ _ _ _ rfl ((e'3.2.2 g'4).1 g'5))))))))))))))))))))))))))))) (fun g'5=>gy_ rfl (s_mvI H7 (gy_ rfl (b_ rfl rfl gtr_ (gy_ rfl (s_mvB rfl (em_ (g:=95) rfl (fun g'6=>gy_ rfl (f_ H3 (gy_ rfl (l_ rfl (lk_other rfl (lk_other rfl B1)) rfl rfl (gy_ rfl (s_mvI H7 (gy_ rfl (b_ rfl rfl sub_ (gy_ rfl ((((e'3.2.2 g'4).2 g'5).1 g'6).2.elim fun c'7 e'8=>ia_ rfl rfl (((e'3.2.2 g'4).2 g'5).1 g'6).1 e'8.1 (Loc.row_eq c'7) rfl (gy_ rfl (ff_ rfl (gy_ rfl (lf_ rfl rfl rfl (gy_ rfl (f_ rfl (gy_ rfl (l_ rfl lk_here rfl rfl (gy_ rfl (b_ rfl rfl geq_ (gy_ rfl (pt_ rfl rfl (pf_ rfl rfl (s_mvB rfl (em_ (g:=108) rfl (fun g'9=>gn_ (b:=true) rfl rfl (gn_ (b:=true) rfl rfl (gn_ (b:=true) rfl rfl (gn_ (b:=true) rfl rfl (pt_ rfl rfl (e_ (ct_ rfl (q_ rfl (m_ (e_ (rt_ (hQ _ _ _ rfl (e'8.2.1 g'9))))))))))))) (fun g'9=>gy_ rfl (f_ rfl (gy_ rfl (l_ rfl lk_here rfl rfl (gy_ rfl ((e'8.2.2 g'9).elim fun r'10 e'11=>ca_ (sc rfl rfl sn) e'11.1 (gy_ rfl (b_ rfl rfl neq_ (pf_ rfl rfl (e_ (cs_ rfl (fun g'12=>q_ rfl (m_ (e_ (rt_ (hQ _ _ _ rfl (e'11.2.1 g'12)))))) (fun g'12=>sk_ (W.reg0 rfl fun _ _=>m_ (b_ H7 rfl add_ (m_ (e_ (kP1 _ _ _ (e'11.2.2 g'12) _ _ _ _ H3 H5 rfl (lk_other rfl (lk_other rfl B1)) (lk_other rfl (lk_other rfl B12294)))))))))))))))))))))))))))))))))))))))))))) (fun g'6=>gn_ (b:=false) rfl rfl (gn_ (b:=false) rfl rfl (gn_ (b:=false) rfl rfl (gn_ (b:=false) rfl rfl (gn_ (b:=false) rfl rfl (gn_ (b:=false) rfl rfl (gn_ (b:=false) rfl rfl (gn_ (b:=false) rfl rfl (gn_ (b:=false) rfl rfl (gn_ (b:=false) rfl rfl (gy_ rfl (pf_ rfl rfl (pf_ rfl rfl (s_mvB rfl (gy_ rfl (f_ rfl (gy_ rfl (l_ rfl lk_here rfl rfl (gy_ rfl ((((e'3.2.2 g'4).2 g'5).2 g'6).elim fun r'13 e'14=>ca_ (sc rfl rfl sn) e'14.1 (gy_ rfl (b_ rfl rfl neq_ (pf_ rfl rfl (e_ (cs_ rfl (fun g'15=>q_ rfl (m_ (e_ (rt_ (hQ _ _ _ rfl (e'14.2.1 g'15)))))) (fun g'15=>sk_ (W.reg0 rfl fun _ _=>m_ (b_ H7 rfl add_ (m_ (e_ (kP1 _ _ _ (e'14.2.2 g'15) _ _ _ _ H3 H5 rfl (lk_other rfl (lk_other rfl B1)) (lk_other rfl (lk_other rfl B12294)))))))))))))))))))))))))))))))))))))))))))))))))))))))))))))))))))))))))) (fun g'1=>ex_ (w87_8 hQ (h.2 g'1)))))))))))
theorem w87_6 {m1:Frm}{m12294:Fun}{v1:Nat}{v12294:Nat}(H3:σ 3 = .p (d,1) v1 0)(H5:σ 5 = .p (d,12294) v12294 0)(B1:lk st.bx (d,1) = some (v1,[.i .i64 m1.func,.i .i64 m1.pos,.i .u64 m1.mode,.sl .ext (List.map Loc.row m1.locals)]))(B12294:lk st.bx (d,12294) = some (v12294,[.s m12294.name,.i .i64 m12294.params,.i .i64 m12294.result,.sl .ext (List.map Fld.row m12294.slots),.sl .ext (List.map Ins.row m12294.code),.sl .ext (List.map Rnn.row m12294.sizes),.sl .ext (List.map Rnn.row m12294.lives)]))(h:T87_6 prog K m1 m12294):W prog d c87_3 σ st Q:=
 sq_ (q_ rfl (m_ (e_ (bk_ (h (I87_1 prog d Q ) (fun _ _ _ hb _ _ _ _ H3 H5 H7 B1 B12294=>W.loop (w87_7 hQ (fun _ _ _ x=>x) H3 H5 H7 B1 B12294 hb)) _ _ _ _ H3 H5 rfl B1 B12294)))))
theorem w87_5 {i6:Int}{m1:Frm}{m12294:Fun}{P0:Int→Frm→Fun→Prop} (kP0 :∀(i6:Int)(m1:Frm)(m12294:Fun),P0 i6 m1 m12294→I87_0 prog d Q i6 m1 m12294){v1:Nat}{v12294:Nat}(H3:σ 3 = .p (d,1) v1 0)(H5:σ 5 = .p (d,12294) v12294 0)(H6:σ 6 = .i .i64 i6)(B1:lk st.bx (d,1) = some (v1,[.i .i64 m1.func,.i .i64 m1.pos,.i .u64 m1.mode,.sl .ext (List.map Loc.row m1.locals)]))(B12294:lk st.bx (d,12294) = some (v12294,[.s m12294.name,.i .i64 m12294.params,.i .i64 m12294.result,.sl .ext (List.map Fld.row m12294.slots),.sl .ext (List.map Ins.row m12294.code),.sl .ext (List.map Rnn.row m12294.sizes),.sl .ext (List.map Rnn.row m12294.lives)]))(h:T87_5 prog K P0 i6 m1 m12294):W prog d l87_0 σ st (thenW prog d (.loop l87_0) (blockW 0 (thenW prog d c87_3 Q))):=
 sq_ (q_ rfl (m_ (f_ H5 (l_ rfl B12294 rfl rfl (ll_ rfl (b_ H6 rfl lss_ (e_ (cs_ rfl (fun g'1=>sk_ (sq_ (bk_ (q_ rfl (f_ H5 (l_ rfl B12294 rfl rfl (m_ ((h.1 g'1).2.elim fun c'2 e'3=>ia_ rfl H6 (h.1 g'1).1 e'3.1 (Fld.row_eq c'2) rfl (ff_ rfl (lf_ rfl rfl rfl (ln_ rfl (b_ rfl rfl gtr_ (e_ (cs_ rfl (fun g'4=>q_ rfl (m_ (e_ (rt_ (hQ _ _ _ rfl (e'3.2.1 g'4)))))) (fun g'4=>sk_ (W.reg0 rfl fun _ _=>m_ (b_ H6 rfl add_ (m_ (e_ (kP0 _ _ _ (e'3.2.2 g'4) _ _ _ _ H3 H5 rfl B1 B12294)))))))))))))))))))) (fun g'1=>ex_ (w87_6 hQ H3 H5 B1 B12294 (h.2 g'1)))))))))))
theorem w87_4 {m1:Frm}{m12294:Fun}{v1:Nat}{v12294:Nat}(H3:σ 3 = .p (d,1) v1 0)(H5:σ 5 = .p (d,12294) v12294 0)(B1:lk st.bx (d,1) = some (v1,[.i .i64 m1.func,.i .i64 m1.pos,.i .u64 m1.mode,.sl .ext (List.map Loc.row m1.locals)]))(B12294:lk st.bx (d,12294) = some (v12294,[.s m12294.name,.i .i64 m12294.params,.i .i64 m12294.result,.sl .ext (List.map Fld.row m12294.slots),.sl .ext (List.map Ins.row m12294.code),.sl .ext (List.map Rnn.row m12294.sizes),.sl .ext (List.map Rnn.row m12294.lives)]))(h:T87_4 prog K m1 m12294):W prog d c87_4 σ st Q:=
 sq_ (q_ rfl (m_ (e_ (bk_ (h (I87_0 prog d Q ) (fun _ _ _ hb _ _ _ _ H3 H5 H6 B1 B12294=>W.loop (w87_5 hQ (fun _ _ _ x=>x) H3 H5 H6 B1 B12294 hb)) _ _ _ _ H3 H5 rfl B1 B12294)))))
theorem w87_3 {m1:Frm}{m12294:Fun}{v1:Nat}{v12294:Nat}(H3:σ 3 = .p (d,1) v1 0)(H5:σ 5 = .p (d,12294) v12294 0)(B1:lk st.bx (d,1) = some (v1,[.i .i64 m1.func,.i .i64 m1.pos,.i .u64 m1.mode,.sl .ext (List.map Loc.row m1.locals)]))(B12294:lk st.bx (d,12294) = some (v12294,[.s m12294.name,.i .i64 m12294.params,.i .i64 m12294.result,.sl .ext (List.map Fld.row m12294.slots),.sl .ext (List.map Ins.row m12294.code),.sl .ext (List.map Rnn.row m12294.sizes),.sl .ext (List.map Rnn.row m12294.lives)]))(h:T87_3 prog K m1 m12294):W prog d c87_5 σ st Q:=
 sq_ (q_ rfl (f_ H5 (l_ rfl B12294 rfl rfl (ll_ rfl (b_ rfl rfl gtr_ (s_mvB rfl (em_ (g:=35) rfl (fun g'1=>gn_ (b:=true) rfl rfl (gn_ (b:=true) rfl rfl (gn_ (b:=true) rfl rfl (gn_ (b:=true) rfl rfl (pt_ rfl rfl (s_mvB rfl (gn_ (b:=true) rfl rfl (gn_ (b:=true) rfl rfl (gn_ (b:=true) rfl rfl (pt_ rfl rfl (s_mvB rfl (gn_ (b:=true) rfl rfl (gn_ (b:=true) rfl rfl (gn_ (b:=true) rfl rfl (gn_ (b:=true) rfl rfl (gn_ (b:=true) rfl rfl (gn_ (b:=true) rfl rfl (pt_ rfl rfl (e_ (ct_ rfl (q_ rfl (m_ (e_ (rt_ (hQ _ _ _ rfl (h.1 g'1)))))))))))))))))))))))))) (fun g'1=>gy_ rfl (f_ H5 (gy_ rfl (l_ rfl B12294 rfl rfl (gy_ rfl (ln_ rfl (gy_ rfl (b_ rfl rfl gtr_ (pf_ rfl rfl (s_mvB rfl (em_ (g:=41) rfl (fun g'2=>gn_ (b:=true) rfl rfl (gn_ (b:=true) rfl rfl (gn_ (b:=true) rfl rfl (pt_ rfl rfl (s_mvB rfl (gn_ (b:=true) rfl rfl (gn_ (b:=true) rfl rfl (gn_ (b:=true) rfl rfl (gn_ (b:=true) rfl rfl (gn_ (b:=true) rfl rfl (gn_ (b:=true) rfl rfl (pt_ rfl rfl (e_ (ct_ rfl (q_ rfl (m_ (e_ (rt_ (hQ _ _ _ rfl ((h.2 g'1).1 g'2)))))))))))))))))))) (fun g'2=>gy_ rfl (f_ H3 (gy_ rfl (l_ rfl B1 rfl rfl (gy_ rfl (b_ rfl rfl lss_ (pf_ rfl rfl (s_mvB rfl (em_ (g:=46) rfl (fun g'3=>gn_ (b:=true) rfl rfl (gn_ (b:=true) rfl rfl (gn_ (b:=true) rfl rfl (gn_ (b:=true) rfl rfl (gn_ (b:=true) rfl rfl (gn_ (b:=true) rfl rfl (pt_ rfl rfl (e_ (ct_ rfl (q_ rfl (m_ (e_ (rt_ (hQ _ _ _ rfl (((h.2 g'1).2 g'2).1 g'3))))))))))))))) (fun g'3=>gy_ rfl (f_ H3 (gy_ rfl (l_ rfl B1 rfl rfl (gy_ rfl (f_ H5 (gy_ rfl (l_ rfl B12294 rfl rfl (gy_ rfl (ll_ rfl (gy_ rfl (b_ rfl rfl geq_ (pf_ rfl rfl (e_ (cs_ rfl (fun g'4=>q_ rfl (m_ (e_ (rt_ (hQ _ _ _ rfl ((((h.2 g'1).2 g'2).2 g'3).1 g'4)))))) (fun g'4=>sk_ (w87_4 hQ H3 H5 B1 B12294 ((((h.2 g'1).2 g'2).2 g'3).2 g'4)))))))))))))))))))))))))))))))))))))))))))))
theorem w87_2 {m0:Img}{m1:Frm}{v0:Nat}{v1:Nat}(H2:σ 2 = .p (d,0) v0 0)(H3:σ 3 = .p (d,1) v1 0)(B0:lk st.bx (d,0) = some (v0,[.sl .ext (List.map Typ.row m0.types),.sl .ext (List.map rowS m0.texts),.sl .ext (List.map Fun.row m0.funcs)]))(B1:lk st.bx (d,1) = some (v1,[.i .i64 m1.func,.i .i64 m1.pos,.i .u64 m1.mode,.sl .ext (List.map Loc.row m1.locals)]))(h:T87_2 prog K m0 m1):W prog d c87_6 σ st Q:=
 sq_ (W.reg (f_ H2 (l_ rfl (lk_other rfl B0) rfl rfl (f_ H3 (l_ rfl (lk_other rfl B1) rfl rfl (h.2.elim fun c'1 e'2=>ia_ rfl rfl h.1 e'2.1 (Fun.row_eq c'1) rfl (lf_ rfl rfl rfl (s_alloc (so_ rfl (show lk _ (d,12294) = some (_,([.s [],.i .i64 0,.i .i64 0,.sl .full (List.map Fld.row ([]:List Fld)),.sl .full (List.map Ins.row ([]:List Ins)),.sl .full (List.map Rnn.row ([]:List Rnn)),.sl .full (List.map Rnn.row ([]:List Rnn))]:List AV)) from lk_here) rfl rfl rfl (e_ (w87_3 hQ H3 rfl (lk_other rfl (lk_other rfl B1)) lk_here e'2.2)))))))))))
theorem w87_1 {m0:Img}{m1:Frm}{v0:Nat}{v1:Nat}(H2:σ 2 = .p (d,0) v0 0)(H3:σ 3 = .p (d,1) v1 0)(B0:lk st.bx (d,0) = some (v0,[.sl .ext (List.map Typ.row m0.types),.sl .ext (List.map rowS m0.texts),.sl .ext (List.map Fun.row m0.funcs)]))(B1:lk st.bx (d,1) = some (v1,[.i .i64 m1.func,.i .i64 m1.pos,.i .u64 m1.mode,.sl .ext (List.map Loc.row m1.locals)]))(h:T87_1 prog K m0 m1):W prog d c87_7 σ st Q:=
 sq_ (q_ rfl (f_ H3 (l_ rfl B1 rfl rfl (b_ rfl rfl lss_ (s_mvB rfl (em_ (g:=12) rfl (fun g'1=>gn_ (b:=true) rfl rfl (gn_ (b:=true) rfl rfl (gn_ (b:=true) rfl rfl (gn_ (b:=true) rfl rfl (gn_ (b:=true) rfl rfl (gn_ (b:=true) rfl rfl (pt_ rfl rfl (s_mvB rfl (gn_ (b:=true) rfl rfl (gn_ (b:=true) rfl rfl (gn_ (b:=true) rfl rfl (pt_ rfl rfl (e_ (ct_ rfl (q_ rfl (m_ (e_ (rt_ (hQ _ _ _ rfl (h.1 g'1)))))))))))))))))))) (fun g'1=>gy_ rfl (f_ H3 (gy_ rfl (l_ rfl B1 rfl rfl (gy_ rfl (f_ H2 (gy_ rfl (l_ rfl B0 rfl rfl (gy_ rfl (ll_ rfl (gy_ rfl (b_ rfl rfl geq_ (pf_ rfl rfl (s_mvB rfl (em_ (g:=20) rfl (fun g'2=>gn_ (b:=true) rfl rfl (gn_ (b:=true) rfl rfl (gn_ (b:=true) rfl rfl (pt_ rfl rfl (e_ (ct_ rfl (q_ rfl (m_ (e_ (rt_ (hQ _ _ _ rfl ((h.2 g'1).1 g'2)))))))))))) (fun g'2=>gy_ rfl (f_ H3 (gy_ rfl (l_ rfl B1 rfl rfl (gy_ rfl (b_ rfl rfl gtr_ (pf_ rfl rfl (e_ (cs_ rfl (fun g'3=>q_ rfl (m_ (e_ (rt_ (hQ _ _ _ rfl (((h.2 g'1).2 g'2).1 g'3)))))) (fun g'3=>sk_ (w87_2 hQ H2 H3 B0 B1 (((h.2 g'1).2 g'2).2 g'3)))))))))))))))))))))))))))))))))
theorem w87_0 {m0:Img}{x1:Frm}(H0:σ 0 = m0.av)(H1:σ 1 = x1.av)(h:T87_0 prog K m0 x1):W prog d (.seq (.reg 0 r87_0) c87_7) σ st Q:=
 q_ rfl (s_box H0 rfl (s_box H1 rfl (m_ (e_ (w87_1 hQ rfl rfl (lk_other rfl lk_here) lk_here h)))))
end
theorem p87 {prog:Prog}(hf:prog.fn 87 = some pf87){m0:Img}{x1:Frm}{K:Int→Prop}(h:T87_0 prog K m0 x1) :∃res0:Int,K res0∧Pus prog 87 [m0.av,x1.av] (.i .i64 res0):=by
  obtain ⟨v,hv,res0,hk,rfl⟩:=Pus.of (K:=fun v=>∃res0:Int,K res0∧v = .i .i64 res0) hf rfl (w87_0 (σ:=sl0 [m0.av,x1.av]) (fun σ st   res0 H4 hk=>⟨.i .i64 res0,by simp only [pf87,ares,aresL,H4,ares1,Option.map_some],_,rfl,res0,hk,rfl⟩) rfl rfl h)
  exact ⟨res0,hk,hv⟩
def r114_0:List AI:=[oO 3 (.box 3 (.t 0)),
 oO 5 (.box 4 (.t 2)),
 oC 6 (.sl .full [])]
def r114_1:List AI:=[oF 11 2 3,
 oL 12 11,
 oF 13 0 5,
 oL 14 13,
 oO 15 (.iaL 7 (.t 12) (.t 14)),
 oO 16 (.load 7 true (.t 15)),
 oO 7 (.alloc [.s [],.i .i64 0,.i .i64 0,.sl .full [],.sl .full [],.sl .full [],.sl .full []]),
 oS 7 7 16]
def r114_2:List AI:=[oM 17 1,
 oO 18 (.call false 137 [(.t 17)]),
 oB 19 .add (.c (.s [35])) (.t 18),
 oB 20 .add (.t 19) (.c (.s [32])),
 oF 21 0 5,
 oL 22 21,
 oO 23 (.call false 137 [(.t 22)]),
 oB 24 .add (.t 20) (.t 23),
 oB 25 .add (.t 24) (.c (.s [32])),
 oF 26 0 7,
 oL 27 26,
 oO 28 (.call false 31 [(.t 27)]),
 oB 29 .add (.t 25) (.t 28),
 oB 30 .add (.t 29) (.c (.s [32,97,116,32])),
 oF 31 1 5,
 oL 32 31,
 oO 33 (.call false 137 [(.t 32)]),
 oB 34 .add (.t 30) (.t 33),
 oB 35 .add (.t 34) (.c (.s [32])),
 oF 36 2 5,
 oL 37 36,
 oO 38 (.call false 138 [(.t 37)]),
 oB 39 .add (.t 35) (.t 38),
 oO 40 (.bslice [.s []] 1 [(0,(.t 39))]),
 oM 8 40]
def r114_3:List AI:=[oC 9 (.i .i64 0)]
def r114_4:List AI:=[oM 41 9,
 oF 42 3 5,
 oL 43 42,
 oO 44 (.len false (.t 43)),
 oB 45 .lss (.t 41) (.t 44)]
def r114_5:List AI:=[oF 48 3 5,
 oL 49 48,
 oM 50 9,
 oO 51 (.iaL 6 (.t 49) (.t 50)),
 oO 52 (.load 6 true (.t 51)),
 oO 10 (.alloc [.i .i64 0,.i .u8 0,.i .i64 0,.s [],.sl .full [],.b false]),
 oS 6 10 52]
def r114_6:List AI:=[oM 53 8,
 oF 54 0 10,
 oL 55 54,
 oO 56 (.call false 137 [(.t 55)]),
 oB 57 .add (.c (.s [32,32])) (.t 56),
 oB 58 .add (.t 57) (.c (.s [32])),
 oF 59 3 7,
 oL 60 59,
 oF 61 0 10,
 oL 62 61,
 oO 63 (.iaL 2 (.t 60) (.t 62)),
 oF 64 0 63,
 oL 65 64,
 oO 66 (.call false 31 [(.t 65)]),
 oB 67 .add (.t 58) (.t 66),
 oB 68 .add (.t 67) (.c (.s [32,61,32])),
 oF 69 1 10,
 oO 70 (.load 5 true (.t 69)),
 oO 71 (.call false 106 [(.t 70)]),
 oB 72 .add (.t 68) (.t 71),
 oO 73 (.bslice [.s []] 1 [(0,(.t 72))]),
 oO 74 (.app 1 16 (.t 53) (.t 73)),
 oM 8 74]
def r114_7:List AI:=[oM 46 9,
 oB 47 .add (.t 46) (.c (.i .i64 1)),
 oM 9 47]
def r114_8:List AI:=[oM 75 8,
 oM 6 75]
abbrev l114_0:AC:=(.seq (.seq (.reg 4 r114_4) (.cond (.t 45) .skip (.exit 0))) (.seq (.block 1 (.seq (.reg 6 r114_5) (.reg 7 r114_6))) (.reg 5 r114_7)))
abbrev c114_1:AC:=(.seq (.reg 8 r114_8) .ret)
abbrev c114_2:AC:=(.seq (.reg 2 r114_2) (.seq (.seq (.reg 3 r114_3) (.block 0 (.loop l114_0))) c114_1))
abbrev c114_3:AC:=(.seq (.reg 1 r114_1) c114_2)
abbrev b114:AC:=(.seq (.reg 0 r114_0) c114_3)
def pf114:AF:={ nt:=76,res:=[.tmp 6],body:=b114 }
abbrev H114 (Q:AE→Sl→St→Prop)(K:List (List UInt8)→Prop):Prop:=∀(σ:Sl)(st:St)(o0:Own)(res0:List (List UInt8)),σ 6 = .sl o0 (List.map rowS res0)→K res0→Q .ret σ st
abbrev I114_0 (prog:Prog)(d:Nat)(Q:AE→Sl→St→Prop)(out8:List (List UInt8))(i9:Int)(m1:Frm)(m4102:Fun):Prop:=
  ∀(σ:Sl)(st:St)(o_out8:Own) (v1 v4102:Nat),σ 5 = .p (d,1) v1 0→σ 7 = .p (d,4102) v4102 0→σ 8 = .sl o_out8 (List.map rowS out8)→σ 9 = .i .i64 i9→ApM d st.ow o_out8 out8.length→lk st.bx (d,1) = some (v1,[.i .i64 m1.func,.i .i64 m1.pos,.i .u64 m1.mode,.sl .ext (List.map Loc.row m1.locals)])→lk st.bx (d,4102) = some (v4102,[.s m4102.name,.i .i64 m4102.params,.i .i64 m4102.result,.sl .ext (List.map Fld.row m4102.slots),.sl .ext (List.map Ins.row m4102.code),.sl .ext (List.map Rnn.row m4102.sizes),.sl .ext (List.map Rnn.row m4102.lives)])→W prog d (.loop l114_0) σ st (blockW 0 (thenW prog d c114_1 Q))
def T114_4 (prog:Prog)(K:List (List UInt8)→Prop)(out8:List (List UInt8)):Prop:=
  K out8
def T114_3 (prog:Prog)(K:List (List UInt8)→Prop)(P0:List (List UInt8)→Int→Frm→Fun→Prop)(out8:List (List UInt8))(i9:Int)(m1:Frm)(m4102:Fun):Prop:=
  (i9 < (m1.locals.length:Int)→0≤i9∧∃c'2:Loc,m1.locals[(i9).toNat]? = some c'2∧∃r'4:List UInt8,Pus prog 137 [.i .i64 c'2.slot] (.s r'4)∧([32,32]:List UInt8).length + r'4.length≤maxStr∧(([32,32]:List UInt8) ++ r'4).length + ([32]:List UInt8).length≤maxStr∧0≤c'2.slot∧∃c'6:Fld,m4102.slots[(c'2.slot).toNat]? = some c'6∧∃r'8:List UInt8,Pus prog 31 [.s c'6.name] (.s r'8)∧((([32,32]:List UInt8) ++ r'4) ++ ([32]:List UInt8)).length + r'8.length≤maxStr∧(((([32,32]:List UInt8) ++ r'4) ++ ([32]:List UInt8)) ++ r'8).length + ([32,61,32]:List UInt8).length≤maxStr∧∃r'10:List UInt8,Pus prog 106 [c'2.value.av] (.s r'10)∧((((([32,32]:List UInt8) ++ r'4) ++ ([32]:List UInt8)) ++ r'8) ++ ([32,61,32]:List UInt8)).length + r'10.length≤maxStr∧Fit (out8.length + [(((((([32,32]:List UInt8) ++ r'4) ++ ([32]:List UInt8)) ++ r'8) ++ ([32,61,32]:List UInt8)) ++ r'10)].length) 16∧P0 (out8 ++ [(((((([32,32]:List UInt8) ++ r'4) ++ ([32]:List UInt8)) ++ r'8) ++ ([32,61,32]:List UInt8)) ++ r'10)]) (IntKind.i64.wrap (i9 + 1)) m1 m4102)∧(¬(i9 < (m1.locals.length:Int))→T114_4 prog K out8)
def T114_2 (prog:Prog)(K:List (List UInt8)→Prop)(k1:Int)(m1:Frm)(m4102:Fun):Prop:=
  ∃r'1:List UInt8,Pus prog 137 [.i .i64 k1] (.s r'1)∧([35]:List UInt8).length + r'1.length≤maxStr∧(([35]:List UInt8) ++ r'1).length + ([32]:List UInt8).length≤maxStr∧∃r'3:List UInt8,Pus prog 137 [.i .i64 m1.func] (.s r'3)∧((([35]:List UInt8) ++ r'1) ++ ([32]:List UInt8)).length + r'3.length≤maxStr∧(((([35]:List UInt8) ++ r'1) ++ ([32]:List UInt8)) ++ r'3).length + ([32]:List UInt8).length≤maxStr∧∃r'5:List UInt8,Pus prog 31 [.s m4102.name] (.s r'5)∧((((([35]:List UInt8) ++ r'1) ++ ([32]:List UInt8)) ++ r'3) ++ ([32]:List UInt8)).length + r'5.length≤maxStr∧(((((([35]:List UInt8) ++ r'1) ++ ([32]:List UInt8)) ++ r'3) ++ ([32]:List UInt8)) ++ r'5).length + ([32,97,116,32]:List UInt8).length≤maxStr∧∃r'7:List UInt8,Pus prog 137 [.i .i64 m1.pos] (.s r'7)∧((((((([35]:List UInt8) ++ r'1) ++ ([32]:List UInt8)) ++ r'3) ++ ([32]:List UInt8)) ++ r'5) ++ ([32,97,116,32]:List UInt8)).length + r'7.length≤maxStr∧(((((((([35]:List UInt8) ++ r'1) ++ ([32]:List UInt8)) ++ r'3) ++ ([32]:List UInt8)) ++ r'5) ++ ([32,97,116,32]:List UInt8)) ++ r'7).length + ([32]:List UInt8).length≤maxStr∧∃r'9:List UInt8,Pus prog 138 [.i .u64 m1.mode] (.s r'9)∧((((((((([35]:List UInt8) ++ r'1) ++ ([32]:List UInt8)) ++ r'3) ++ ([32]:List UInt8)) ++ r'5) ++ ([32,97,116,32]:List UInt8)) ++ r'7) ++ ([32]:List UInt8)).length + r'9.length≤maxStr∧∀P0:List (List UInt8)→Int→Frm→Fun→Prop,(∀(out8:List (List UInt8))(i9:Int)(m1:Frm)(m4102:Fun),T114_3 prog K P0 out8 i9 m1 m4102→P0 out8 i9 m1 m4102)→P0 [(((((((((([35]:List UInt8) ++ r'1) ++ ([32]:List UInt8)) ++ r'3) ++ ([32]:List UInt8)) ++ r'5) ++ ([32,97,116,32]:List UInt8)) ++ r'7) ++ ([32]:List UInt8)) ++ r'9)] 0 m1 m4102
def T114_1 (prog:Prog)(K:List (List UInt8)→Prop)(k1:Int)(m0:Img)(m1:Frm):Prop:=
  0≤m1.func∧∃c'1:Fun,m0.funcs[(m1.func).toNat]? = some c'1∧T114_2 prog K k1 m1 c'1
def T114_0 (prog:Prog)(K:List (List UInt8)→Prop)(m0:Img)(k1:Int)(x2:Frm):Prop:=
  T114_1 prog K k1 m0 x2
section
variable {prog:Prog}{d:Nat}{Q:AE→Sl→St→Prop}{K:List (List UInt8)→Prop}(hQ:H114 Q K){σ:Sl}{st:St}
include hQ
theorem w114_4 {out8:List (List UInt8)}{o_out8:Own}(H8:σ 8 = .sl o_out8 (List.map rowS out8))(A8:ApM d st.ow o_out8 out8.length)(h:T114_4 prog K out8):W prog d c114_1 σ st Q:=
 q_ rfl (s_mvL H8 (s_mvL rfl (e_ (rt_ (hQ _ _ _ _ rfl h)))))
theorem w114_3 {out8:List (List UInt8)}{i9:Int}{m1:Frm}{m4102:Fun}{P0:List (List UInt8)→Int→Frm→Fun→Prop} (kP0 :∀(out8:List (List UInt8))(i9:Int)(m1:Frm)(m4102:Fun),P0 out8 i9 m1 m4102→I114_0 prog d Q out8 i9 m1 m4102){o_out8:Own}{v1:Nat}{v4102:Nat}(H5:σ 5 = .p (d,1) v1 0)(H7:σ 7 = .p (d,4102) v4102 0)(H8:σ 8 = .sl o_out8 (List.map rowS out8))(H9:σ 9 = .i .i64 i9)(A8:ApM d st.ow o_out8 out8.length)(B1:lk st.bx (d,1) = some (v1,[.i .i64 m1.func,.i .i64 m1.pos,.i .u64 m1.mode,.sl .ext (List.map Loc.row m1.locals)]))(B4102:lk st.bx (d,4102) = some (v4102,[.s m4102.name,.i .i64 m4102.params,.i .i64 m4102.result,.sl .ext (List.map Fld.row m4102.slots),.sl .ext (List.map Ins.row m4102.code),.sl .ext (List.map Rnn.row m4102.sizes),.sl .ext (List.map Rnn.row m4102.lives)]))(h:T114_3 prog K P0 out8 i9 m1 m4102):W prog d l114_0 σ st (thenW prog d (.loop l114_0) (blockW 0 (thenW prog d c114_1 Q))):=
 sq_ (q_ rfl (m_ (f_ H5 (l_ rfl B1 rfl rfl (ll_ rfl (b_ H9 rfl lss_ (e_ (cs_ rfl (fun g'1=>sk_ (sq_ (bk_ (sq_ (W.reg (f_ H5 (l_ rfl (lk_other rfl B1) rfl rfl (m_ ((h.1 g'1).2.elim fun c'2 e'3=>ia_ rfl H9 (h.1 g'1).1 e'3.1 (Loc.row_eq c'2) rfl (lf_ rfl rfl rfl (s_alloc (so_ rfl (show lk _ (d,24581) = some (_,([.i .i64 0,.i .u8 0,.i .i64 0,.s [],.sl .full (List.map Val.row ([]:List Val)),.b false]:List AV)) from lk_here) rfl rfl rfl (e_ (W.reg0 rfl fun _ _=>s_mvL H8 (f_ rfl (l_ rfl lk_here rfl rfl (e'3.2.elim fun r'4 e'5=>ca_ (sc rfl rfl sn) e'5.1 (b_ rfl rfl (abin_cat' e'5.2.1) (b_ rfl rfl (abin_cat' e'5.2.2.1) (f_ H7 (l_ rfl (lk_other rfl (lk_other rfl B4102)) rfl rfl (f_ rfl (l_ rfl lk_here rfl rfl (e'5.2.2.2.2.elim fun c'6 e'7=>ia_ rfl rfl e'5.2.2.2.1 e'7.1 (Fld.row_eq c'6) rfl (ff_ rfl (lf_ rfl rfl rfl (e'7.2.elim fun r'8 e'9=>ca_ (sc rfl rfl sn) e'9.1 (b_ rfl rfl (abin_cat' e'9.2.1) (b_ rfl rfl (abin_cat' e'9.2.2.1) (f_ rfl (l_ rfl lk_here rfl rfl (e'9.2.2.2.elim fun r'10 e'11=>ca_ (sc rfl rfl sn) e'11.1 (b_ rfl rfl (abin_cat' e'11.2.1) (s_bslM (f:=rowS) (l:=[(((((([32,32]:List UInt8) ++ r'4) ++ ([32]:List UInt8)) ++ r'8) ++ ([32,61,32]:List UInt8)) ++ r'10)]) rfl rfl (g_cons rfl rfl rfl g_nil) rfl (s_app rowS_len rfl rfl rfl A8.1 e'11.2.2.1 rfl (fun o'12 ow'15 a'13 fr'14 on'16=>s_mvL rfl (e_ (W.reg0 rfl fun _ _=>m_ (b_ H9 rfl add_ (m_ (e_ (kP0 _ _ _ _ e'11.2.2.2 _ _ _ _ _ H5 H7 rfl rfl (ApM.mk a'13 (Mine.app A8.2 rfl on'16)) (lk_other rfl (lk_other rfl B1)) (lk_other rfl (lk_other rfl B4102)))))))))))))))))))))))))))))))))))))))))))) (fun g'1=>ex_ (w114_4 hQ H8 A8 (h.2 g'1)))))))))))
theorem w114_2 {k1:Int}{m1:Frm}{m4102:Fun}{v1:Nat}{v4102:Nat}(H1:σ 1 = .i .i64 k1)(H5:σ 5 = .p (d,1) v1 0)(H7:σ 7 = .p (d,4102) v4102 0)(B1:lk st.bx (d,1) = some (v1,[.i .i64 m1.func,.i .i64 m1.pos,.i .u64 m1.mode,.sl .ext (List.map Loc.row m1.locals)]))(B4102:lk st.bx (d,4102) = some (v4102,[.s m4102.name,.i .i64 m4102.params,.i .i64 m4102.result,.sl .ext (List.map Fld.row m4102.slots),.sl .ext (List.map Ins.row m4102.code),.sl .ext (List.map Rnn.row m4102.sizes),.sl .ext (List.map Rnn.row m4102.lives)]))(h:T114_2 prog K k1 m1 m4102):W prog d c114_2 σ st Q:=
 q_ rfl (m_ (h.elim fun r'1 e'2=>ca_ (sc H1 rfl sn) e'2.1 (b_ rfl rfl (abin_cat' e'2.2.1) (b_ rfl rfl (abin_cat' e'2.2.2.1) (f_ H5 (l_ rfl B1 rfl rfl (e'2.2.2.2.elim fun r'3 e'4=>ca_ (sc rfl rfl sn) e'4.1 (b_ rfl rfl (abin_cat' e'4.2.1) (b_ rfl rfl (abin_cat' e'4.2.2.1) (f_ H7 (l_ rfl B4102 rfl rfl (e'4.2.2.2.elim fun r'5 e'6=>ca_ (sc rfl rfl sn) e'6.1 (b_ rfl rfl (abin_cat' e'6.2.1) (b_ rfl rfl (abin_cat' e'6.2.2.1) (f_ H5 (l_ rfl B1 rfl rfl (e'6.2.2.2.elim fun r'7 e'8=>ca_ (sc rfl rfl sn) e'8.1 (b_ rfl rfl (abin_cat' e'8.2.1) (b_ rfl rfl (abin_cat' e'8.2.2.1) (f_ H5 (l_ rfl B1 rfl rfl (e'8.2.2.2.elim fun r'9 e'10=>ca_ (sc rfl rfl sn) e'10.1 (b_ rfl rfl (abin_cat' e'10.2.1) (s_bslM (f:=rowS) (l:=[(((((((((([35]:List UInt8) ++ r'1) ++ ([32]:List UInt8)) ++ r'3) ++ ([32]:List UInt8)) ++ r'5) ++ ([32,97,116,32]:List UInt8)) ++ r'7) ++ ([32]:List UInt8)) ++ r'9)]) rfl rfl (g_cons rfl rfl rfl g_nil) rfl (s_mvL rfl (e_ (sq_ (q_ rfl (m_ (e_ (bk_ (e'10.2.2 (I114_0 prog d Q ) (fun _ _ _ _ hb _ _ _ _ _ H5 H7 H8 H9 A8 B1 B4102=>W.loop (w114_3 hQ (fun _ _ _ _ x=>x) H5 H7 H8 H9 A8 B1 B4102 hb)) _ _ _ _ _ H5 H7 rfl rfl ApM.full B1 B4102))))))))))))))))))))))))))))))))
theorem w114_1 {k1:Int}{m0:Img}{m1:Frm}{v0:Nat}{v1:Nat}(H1:σ 1 = .i .i64 k1)(H3:σ 3 = .p (d,0) v0 0)(H5:σ 5 = .p (d,1) v1 0)(B0:lk st.bx (d,0) = some (v0,[.sl .ext (List.map Typ.row m0.types),.sl .ext (List.map rowS m0.texts),.sl .ext (List.map Fun.row m0.funcs)]))(B1:lk st.bx (d,1) = some (v1,[.i .i64 m1.func,.i .i64 m1.pos,.i .u64 m1.mode,.sl .ext (List.map Loc.row m1.locals)]))(h:T114_1 prog K k1 m0 m1):W prog d c114_3 σ st Q:=
 sq_ (W.reg (f_ H3 (l_ rfl (lk_other rfl B0) rfl rfl (f_ H5 (l_ rfl (lk_other rfl B1) rfl rfl (h.2.elim fun c'1 e'2=>ia_ rfl rfl h.1 e'2.1 (Fun.row_eq c'1) rfl (lf_ rfl rfl rfl (s_alloc (so_ rfl (show lk _ (d,4102) = some (_,([.s [],.i .i64 0,.i .i64 0,.sl .full (List.map Fld.row ([]:List Fld)),.sl .full (List.map Ins.row ([]:List Ins)),.sl .full (List.map Rnn.row ([]:List Rnn)),.sl .full (List.map Rnn.row ([]:List Rnn))]:List AV)) from lk_here) rfl rfl rfl (e_ (w114_2 hQ H1 H5 rfl (lk_other rfl (lk_other rfl B1)) lk_here e'2.2)))))))))))
theorem w114_0 {m0:Img}{k1:Int}{x2:Frm}(H0:σ 0 = m0.av)(H1:σ 1 = .i .i64 k1)(H2:σ 2 = x2.av)(h:T114_0 prog K m0 k1 x2):W prog d (.seq (.reg 0 r114_0) c114_3) σ st Q:=
 q_ rfl (s_box H0 rfl (s_box H2 rfl (s_mvL (f:=rowS) (l:=[]) rfl (e_ (w114_1 hQ H1 rfl rfl (lk_other rfl lk_here) lk_here h)))))
end
theorem p114 {prog:Prog}(hf:prog.fn 114 = some pf114){m0:Img}{k1:Int}{x2:Frm}{K:List (List UInt8)→Prop}(h:T114_0 prog K m0 k1 x2) :∃res0:List (List UInt8),K res0∧Pus prog 114 [m0.av,.i .i64 k1,x2.av] (.sl .ext (List.map rowS res0)):=by
  obtain ⟨v,hv,res0,hk,rfl⟩:=Pus.of (K:=fun v=>∃res0:List (List UInt8),K res0∧v = .sl .ext (List.map rowS res0)) hf rfl (w114_0 (σ:=sl0 [m0.av,.i .i64 k1,x2.av]) (fun σ st  o0 res0 H6 hk=>⟨.sl o0 (List.map rowS res0),by simp only [pf114,ares,aresL,H6,ares1,Option.map_some],_,rfl,res0,hk,rfl⟩) rfl rfl rfl h)
  exact ⟨res0,hk,hv⟩
def r137_0:List AI:=[oC 2 (.s [])]
def r137_1:List AI:=[oM 3 0,
 oO 4 (.call false 16 [(.t 3)]),
 oM 2 4]
abbrev b137:AC:=(.seq (.reg 0 r137_0) (.seq (.reg 1 r137_1) .ret))
def pf137:AF:={ nt:=5,res:=[.tmp 2],body:=b137 }
abbrev H137 (Q:AE→Sl→St→Prop)(K:List UInt8→Prop):Prop:=∀(σ:Sl)(st:St)(res0:List UInt8),σ 2 = .s res0→K res0→Q .ret σ st
def T137_0 (prog:Prog)(K:List UInt8→Prop)(n0:Int):Prop:=
  ∃r'1:List UInt8,Pus prog 16 [.i .i64 n0] (.s r'1)∧K r'1
section
variable {prog:Prog}{d:Nat}{Q:AE→Sl→St→Prop}{K:List UInt8→Prop}(hQ:H137 Q K){σ:Sl}{st:St}
include hQ
theorem w137_0 {n0:Int}(H0:σ 0 = .i .i64 n0)(h:T137_0 prog K n0):W prog d (.seq (.reg 0 r137_0) (.seq (.reg 1 r137_1) .ret)) σ st Q:=
 q_ rfl (m_ (e_ (q_ rfl (m_ (h.elim fun r'1 e'2=>ca_ (sc H0 rfl sn) e'2.1 (m_ (e_ (rt_ (hQ _ _ _ rfl e'2.2)))))))))
end
theorem p137 {prog:Prog}(hf:prog.fn 137 = some pf137){n0:Int}{K:List UInt8→Prop}(h:T137_0 prog K n0) :∃res0:List UInt8,K res0∧Pus prog 137 [.i .i64 n0] (.s res0):=by
  obtain ⟨v,hv,res0,hk,rfl⟩:=Pus.of (K:=fun v=>∃res0:List UInt8,K res0∧v = .s res0) hf rfl (w137_0 (σ:=sl0 [.i .i64 n0]) (fun σ st   res0 H2 hk=>⟨.s res0,by simp only [pf137,ares,aresL,H2,ares1,Option.map_some],_,rfl,res0,hk,rfl⟩) rfl h)
  exact ⟨res0,hk,hv⟩
def r138_0:List AI:=[oC 2 (.s [])]
def r138_1:List AI:=[oO 4 (.bslice [.s []] 4 [(0,(.c (.s [99,97,108,108]))),(1,(.c (.s [100,101,102,101,114]))),(2,(.c (.s [112,97,110,105,99]))),(3,(.c (.s [101,120,105,116])))]),
 oM 3 4]
def r138_2:List AI:=[oM 5 3,
 oM 6 0,
 oO 7 (.iaL 1 (.t 5) (.t 6)),
 oL 8 7,
 oM 2 8]
abbrev b138:AC:=(.seq (.reg 0 r138_0) (.seq (.reg 1 r138_1) (.seq (.reg 2 r138_2) .ret)))
def pf138:AF:={ nt:=9,res:=[.tmp 2],body:=b138 }
abbrev H138 (Q:AE→Sl→St→Prop)(K:List UInt8→Prop):Prop:=∀(σ:Sl)(st:St)(res0:List UInt8),σ 2 = .s res0→K res0→Q .ret σ st
def T138_0 (prog:Prog)(K:List UInt8→Prop)(m0:Int):Prop:=
  0≤m0∧∃c'1:List UInt8,[([99,97,108,108]:List UInt8),([100,101,102,101,114]:List UInt8),([112,97,110,105,99]:List UInt8),([101,120,105,116]:List UInt8)][(m0).toNat]? = some c'1∧K c'1
section
variable {prog:Prog}{d:Nat}{Q:AE→Sl→St→Prop}{K:List UInt8→Prop}(hQ:H138 Q K){σ:Sl}{st:St}
include hQ
theorem w138_0 {m0:Int}(H0:σ 0 = .i .u64 m0)(h:T138_0 prog K m0):W prog d (.seq (.reg 0 r138_0) (.seq (.reg 1 r138_1) (.seq (.reg 2 r138_2) .ret))) σ st Q:=
 q_ rfl (m_ (e_ (q_ rfl (s_bslM (f:=rowS) (l:=[([99,97,108,108]:List UInt8),([100,101,102,101,114]:List UInt8),([112,97,110,105,99]:List UInt8),([101,120,105,116]:List UInt8)]) rfl rfl (g_cons rfl rfl rfl (g_cons rfl rfl rfl (g_cons rfl rfl rfl (g_cons rfl rfl rfl g_nil)))) rfl (s_mvL rfl (e_ (q_ rfl (s_mvL rfl (m_ (h.2.elim fun c'1 e'2=>ia_ rfl H0 h.1 e'2.1 rfl rfl (lf_ rfl rfl rfl (m_ (e_ (rt_ (hQ _ _ _ rfl e'2.2)))))))))))))))
end
theorem p138 {prog:Prog}(hf:prog.fn 138 = some pf138){m0:Int}{K:List UInt8→Prop}(h:T138_0 prog K m0) :∃res0:List UInt8,K res0∧Pus prog 138 [.i .u64 m0] (.s res0):=by
  obtain ⟨v,hv,res0,hk,rfl⟩:=Pus.of (K:=fun v=>∃res0:List UInt8,K res0∧v = .s res0) hf rfl (w138_0 (σ:=sl0 [.i .u64 m0]) (fun σ st   res0 H2 hk=>⟨.s res0,by simp only [pf138,ares,aresL,H2,ares1,Option.map_some],_,rfl,res0,hk,rfl⟩) rfl h)
  exact ⟨res0,hk,hv⟩
abbrev H88 (Q:AE→Sl→St→Prop)(K:Bool→Prop):Prop:=∀(σ:Sl)(st:St)(res0:Bool),σ 4 = .b res0→K res0→Q .ret σ st
section
variable {prog:Prog}{d:Nat}{Q:AE→Sl→St→Prop}{K:Bool→Prop}(hQ:H88 Q K){σ:Sl}{st:St}
include hQ
end
abbrev H124 (Q:AE→Sl→St→Prop)(K:Bool→Prop):Prop:=∀(σ:Sl)(st:St)(res0:Bool),σ 4 = .b res0→K res0→Q .ret σ st
section
variable {prog:Prog}{d:Nat}{Q:AE→Sl→St→Prop}{K:Bool→Prop}(hQ:H124 Q K){σ:Sl}{st:St}
include hQ
end
end Go.AM

/- Parts of the proof. -/
namespace Go.AM
open Go
set_option linter.unusedVariables false
set_option linter.unusedSimpArgs false
set_option maxRecDepth 4000
attribute [local irreducible] WO fillCells fillRows
abbrev H85 (Q:AE→Sl→St→Prop)(K:Int→Frm→Int→Prop):Prop:=∀(σ:Sl)(st:St)(k1:Key)(v1:Nat)(o1_0:Own)(res0:Int)(res1:Frm)(res2:Int),σ 4 = .i .i64 res0→σ 5 = .p k1 v1 0→lk st.bx k1 = some (v1,[.i .i64 res1.func,.i .i64 res1.pos,.i .u64 res1.mode,.sl o1_0 (List.map Loc.row res1.locals)])→σ 6 = .i .i64 res2→K res0 res1 res2→Q .ret σ st
section
variable {prog:Prog}{d:Nat}{Q:AE→Sl→St→Prop}{K:Int→Frm→Int→Prop}(hQ:H85 Q K){σ:Sl}{st:St}
include hQ
end
abbrev H120 (d:Nat)(st0:St)(Q:AE→Sl→St→Prop)(K:Int→Frm→Bool→Prop):Prop:=∀(σ:Sl)(st:St)(k1:Key)(v1:Nat)(res0:Int)(res1:Frm)(res2:Bool),σ 4 = .i .i64 res0→σ 5 = .p k1 v1 0→lk st.bx k1 = some (v1,[.i .i64 res1.func,.i .i64 res1.pos,.i .u64 res1.mode,.sl .full (List.map Loc.row res1.locals)])→σ 6 = .b res2→Fr d (d,0) st0.bx st0.ow st.bx st.ow→K res0 res1 res2→Q .ret σ st
section
variable {prog:Prog}{d:Nat}{Q:AE→Sl→St→Prop}{K:Int→Frm→Bool→Prop}{st0:St}(hQ:H120 d st0 Q K){σ:Sl}{st:St}
include hQ
end
abbrev H121 (Q:AE→Sl→St→Prop)(K:Loc→Bool→Prop):Prop:=∀(σ:Sl)(st:St)(k0:Key)(v0:Nat)(o0_0:Own)(res0:Loc)(res1:Bool),σ 4 = .p k0 v0 0→lk st.bx k0 = some (v0,[.i .i64 res0.slot,.i .u8 res0.value.kind,.i .i64 res0.value.int,.s res0.value.text,.sl o0_0 (List.map Val.row res0.value.list),.b res0.value.cut])→σ 5 = .b res1→K res0 res1→Q .ret σ st
section
variable {prog:Prog}{d:Nat}{Q:AE→Sl→St→Prop}{K:Loc→Bool→Prop}(hQ:H121 Q K){σ:Sl}{st:St}
include hQ
end
abbrev H142 (Q:AE→Sl→St→Prop)(K:List UInt8→Bool→Prop):Prop:=∀(σ:Sl)(st:St)(res0:List UInt8)(res1:Bool),σ 4 = .s res0→σ 5 = .b res1→K res0 res1→Q .ret σ st
section
variable {prog:Prog}{d:Nat}{Q:AE→Sl→St→Prop}{K:List UInt8→Bool→Prop}(hQ:H142 Q K){σ:Sl}{st:St}
include hQ
end
abbrev H143 (Q:AE→Sl→St→Prop)(K:Int→List UInt8→Bool→Prop):Prop:=∀(σ:Sl)(st:St)(res0:Int)(res1:List UInt8)(res2:Bool),σ 4 = .i .i64 res0→σ 5 = .s res1→σ 6 = .b res2→K res0 res1 res2→Q .ret σ st
section
variable {prog:Prog}{d:Nat}{Q:AE→Sl→St→Prop}{K:Int→List UInt8→Bool→Prop}(hQ:H143 Q K){σ:Sl}{st:St}
include hQ
end
end Go.AM

/- Parts of the proof. -/
namespace Go.AM
open Go
set_option linter.unusedVariables false
set_option linter.unusedSimpArgs false
set_option maxRecDepth 4000
attribute [local irreducible] WO fillCells fillRows
abbrev H67 (Q:AE→Sl→St→Prop)(K:Bool→Prop):Prop:=∀(σ:Sl)(st:St)(res0:Bool),σ 8 = .b res0→K res0→Q .ret σ st
section
variable {prog:Prog}{d:Nat}{Q:AE→Sl→St→Prop}{K:Bool→Prop}(hQ:H67 Q K){σ:Sl}{st:St}
include hQ
end
abbrev H69 (Q:AE→Sl→St→Prop)(K:Bool→Prop):Prop:=∀(σ:Sl)(st:St)(res0:Bool),σ 4 = .b res0→K res0→Q .ret σ st
section
variable {prog:Prog}{d:Nat}{Q:AE→Sl→St→Prop}{K:Bool→Prop}(hQ:H69 Q K){σ:Sl}{st:St}
include hQ
end
abbrev H70 (Q:AE→Sl→St→Prop)(K:Bool→Prop):Prop:=∀(σ:Sl)(st:St)(res0:Bool),σ 4 = .b res0→K res0→Q .ret σ st
section
variable {prog:Prog}{d:Nat}{Q:AE→Sl→St→Prop}{K:Bool→Prop}(hQ:H70 Q K){σ:Sl}{st:St}
include hQ
end
abbrev H89 (d:Nat)(st0:St)(Q:AE→Sl→St→Prop)(K:Val→Prop):Prop:=∀(σ:Sl)(st:St)(k0:Key)(v0:Nat)(res0:Val),σ 4 = .p k0 v0 0→lk st.bx k0 = some (v0,[.i .u8 res0.kind,.i .i64 res0.int,.s res0.text,.sl .full (List.map Val.row res0.list),.b res0.cut])→Fr d (d,0) st0.bx st0.ow st.bx st.ow→K res0→Q .ret σ st
section
variable {prog:Prog}{d:Nat}{Q:AE→Sl→St→Prop}{K:Val→Prop}{st0:St}(hQ:H89 d st0 Q K){σ:Sl}{st:St}
include hQ
end
abbrev H90 (Q:AE→Sl→St→Prop)(K:Val→Prop):Prop:=∀(σ:Sl)(st:St)(k0:Key)(v0:Nat)(o0_0:Own)(res0:Val),σ 0 = .p k0 v0 0→lk st.bx k0 = some (v0,[.i .u8 res0.kind,.i .i64 res0.int,.s res0.text,.sl o0_0 (List.map Val.row res0.list),.b res0.cut])→K res0→Q .ret σ st
section
variable {prog:Prog}{d:Nat}{Q:AE→Sl→St→Prop}{K:Val→Prop}(hQ:H90 Q K){σ:Sl}{st:St}
include hQ
end
abbrev H91 (Q:AE→Sl→St→Prop)(K:Bool→Prop):Prop:=∀(σ:Sl)(st:St)(res0:Bool),σ 4 = .b res0→K res0→Q .ret σ st
section
variable {prog:Prog}{d:Nat}{Q:AE→Sl→St→Prop}{K:Bool→Prop}(hQ:H91 Q K){σ:Sl}{st:St}
include hQ
end
abbrev H92 (Q:AE→Sl→St→Prop)(K:Val→Prop):Prop:=∀(σ:Sl)(st:St)(k0:Key)(v0:Nat)(o0_0:Own)(res0:Val),σ 2 = .p k0 v0 0→lk st.bx k0 = some (v0,[.i .u8 res0.kind,.i .i64 res0.int,.s res0.text,.sl o0_0 (List.map Val.row res0.list),.b res0.cut])→K res0→Q .ret σ st
section
variable {prog:Prog}{d:Nat}{Q:AE→Sl→St→Prop}{K:Val→Prop}(hQ:H92 Q K){σ:Sl}{st:St}
include hQ
end
abbrev H93 (Q:AE→Sl→St→Prop)(K:Val→Prop):Prop:=∀(σ:Sl)(st:St)(k0:Key)(v0:Nat)(o0_0:Own)(res0:Val),σ 2 = .p k0 v0 0→lk st.bx k0 = some (v0,[.i .u8 res0.kind,.i .i64 res0.int,.s res0.text,.sl o0_0 (List.map Val.row res0.list),.b res0.cut])→K res0→Q .ret σ st
section
variable {prog:Prog}{d:Nat}{Q:AE→Sl→St→Prop}{K:Val→Prop}(hQ:H93 Q K){σ:Sl}{st:St}
include hQ
end
abbrev H98 (Q:AE→Sl→St→Prop)(K:Bool→Prop):Prop:=∀(σ:Sl)(st:St)(res0:Bool),σ 2 = .b res0→K res0→Q .ret σ st
section
variable {prog:Prog}{d:Nat}{Q:AE→Sl→St→Prop}{K:Bool→Prop}(hQ:H98 Q K){σ:Sl}{st:St}
include hQ
end
abbrev H99 (Q:AE→Sl→St→Prop)(K:Img→Prop):Prop:=∀(σ:Sl)(st:St)(k0:Key)(v0:Nat) (o0_0 o0_1 o0_2:Own)(res0:Img),σ 0 = .p k0 v0 0→lk st.bx k0 = some (v0,[.sl o0_0 (List.map Typ.row res0.types),.sl o0_1 (List.map rowS res0.texts),.sl o0_2 (List.map Fun.row res0.funcs)])→K res0→Q .ret σ st
section
variable {prog:Prog}{d:Nat}{Q:AE→Sl→St→Prop}{K:Img→Prop}(hQ:H99 Q K){σ:Sl}{st:St}
include hQ
end
abbrev H101 (Q:AE→Sl→St→Prop)(K:Bool→Prop):Prop:=∀(σ:Sl)(st:St)(res0:Bool),σ 0 = .b res0→K res0→Q .ret σ st
section
variable {prog:Prog}{d:Nat}{Q:AE→Sl→St→Prop}{K:Bool→Prop}(hQ:H101 Q K){σ:Sl}{st:St}
include hQ
end
abbrev H125 (Q:AE→Sl→St→Prop)(K:Val→Prop):Prop:=∀(σ:Sl)(st:St)(k0:Key)(v0:Nat)(o0_0:Own)(res0:Val),σ 0 = .p k0 v0 0→lk st.bx k0 = some (v0,[.i .u8 res0.kind,.i .i64 res0.int,.s res0.text,.sl o0_0 (List.map Val.row res0.list),.b res0.cut])→K res0→Q .ret σ st
section
variable {prog:Prog}{d:Nat}{Q:AE→Sl→St→Prop}{K:Val→Prop}(hQ:H125 Q K){σ:Sl}{st:St}
include hQ
end
end Go.AM

/- Parts of the proof. -/
namespace Go.AM
open Go
set_option linter.unusedVariables false
set_option linter.unusedSimpArgs false
set_option maxRecDepth 4000
attribute [local irreducible] WO fillCells fillRows
def r178_0:List AI:=[oO 0 (.alloc [.s [],.s [],.s [],.s []])]
def r178_1:List AI:=[oO 1 (.build [.s [],.s [],.s [],.s []] [(1,1,(.c (.s [102,97,117,108,116,32,49,58,32,100,105,118,105,115,105,111,110,32,98,121,32,122,101,114,111]))),(2,1,(.c (.s [102,97,117,108,116,32,50,58,32,110,105,108,32,112,111,105,110,116,101,114]))),(3,1,(.c (.s [102,97,117,108,116,32,51,58,32,111,117,116,32,111,102,32,114,97,110,103,101])))]),
 oS 4 0 1]
abbrev b178:AC:=(.seq (.reg 0 r178_0) (.seq (.reg 1 r178_1) .ret))
def pf178:AF:={ nt:=2,res:=[.cell 0 4 true],body:=b178 }
abbrev H178 (Q:AE→Sl→St→Prop)(K:List (List UInt8)→Prop):Prop:=∀(σ:Sl)(st:St)(k0:Key)(v0:Nat)(res0:List (List UInt8)),σ 0 = .p k0 v0 0→lk st.bx k0 = some (v0,List.map AV.s res0)→res0.length = 4→K res0→Q .ret σ st
def T178_0 (prog:Prog)(K:List (List UInt8)→Prop) :Prop:=
  K [[],([102,97,117,108,116,32,49,58,32,100,105,118,105,115,105,111,110,32,98,121,32,122,101,114,111]:List UInt8),([102,97,117,108,116,32,50,58,32,110,105,108,32,112,111,105,110,116,101,114]:List UInt8),([102,97,117,108,116,32,51,58,32,111,117,116,32,111,102,32,114,97,110,103,101]:List UInt8)]
section
variable {prog:Prog}{d:Nat}{Q:AE→Sl→St→Prop}{K:List (List UInt8)→Prop}(hQ:H178 Q K){σ:Sl}{st:St}
include hQ
theorem w178_0 (h:T178_0 prog K ):W prog d (.seq (.reg 0 r178_0) (.seq (.reg 1 r178_1) .ret)) σ st Q:=
 sq_ (W.reg (s_alloc (e_ (q_ rfl (s_buildM (f:=AV.s) (l:=[[],([102,97,117,108,116,32,49,58,32,100,105,118,105,115,105,111,110,32,98,121,32,122,101,114,111]:List UInt8),([102,97,117,108,116,32,50,58,32,110,105,108,32,112,111,105,110,116,101,114]:List UInt8),([102,97,117,108,116,32,51,58,32,111,117,116,32,111,102,32,114,97,110,103,101]:List UInt8)]) (f_cons rfl rfl (f_cons rfl rfl (f_cons rfl rfl f_nil))) rfl (s_storeArr (f:=AV.s) (fun _=>rfl) rfl (show lk _ (d,0) = some (_,(List.map AV.s (List.replicate 4 ([]:List UInt8)):List AV)) from lk_here) (by simp) rfl rfl (e_ (rt_ (hQ _ _ _ _ _ rfl lk_here (by simp) h)))))))))
end
theorem p178 {prog:Prog}(hf:prog.fn 178 = some pf178)  {K:List (List UInt8)→Prop}(h:T178_0 prog K ) :∃res0:List (List UInt8),K res0∧Pus prog 178 [] (.ag (List.map AV.s res0)):=by
  obtain ⟨v,hv,res0,hk,rfl⟩:=Pus.of (K:=fun v=>∃res0:List (List UInt8),K res0∧v = .ag (List.map AV.s res0)) hf rfl (w178_0 (σ:=sl0 []) (fun σ st k0 v0  res0 H0 HB0 HL0 hk=>⟨.ag (List.map AV.s res0),by simp only [pf178,ares,aresL,ares_cellA (n:=4) H0 HB0 (by simpa using HL0),ares_tmp,Option.map_some],_,strip_ag AV.s (fun _=>rfl) _,res0,hk,rfl⟩)  h)
  exact ⟨res0,hk,hv⟩
def r183_0:List AI:=[oO 0 (.alloc [.i .u8 0,.i .u8 0,.i .u8 0,.i .u8 0,.i .u8 0])]
def r183_1:List AI:=[oO 1 (.build [.i .u8 0,.i .u8 0,.i .u8 0,.i .u8 0,.i .u8 0] [(1,1,(.c (.i .u8 2))),(2,1,(.c (.i .u8 1))),(3,1,(.c (.i .u8 3))),(4,1,(.c (.i .u8 2)))]),
 oS 5 0 1]
abbrev b183:AC:=(.seq (.reg 0 r183_0) (.seq (.reg 1 r183_1) .ret))
def pf183:AF:={ nt:=2,res:=[.cell 0 5 true],body:=b183 }
abbrev H183 (Q:AE→Sl→St→Prop)(K:List UInt8→Prop):Prop:=∀(σ:Sl)(st:St)(k0:Key)(v0:Nat)(res0:List UInt8),σ 0 = .p k0 v0 0→lk st.bx k0 = some (v0,List.map c8 res0)→res0.length = 5→K res0→Q .ret σ st
def T183_0 (prog:Prog)(K:List UInt8→Prop) :Prop:=
  K [0,(2:UInt8),(1:UInt8),(3:UInt8),(2:UInt8)]
section
variable {prog:Prog}{d:Nat}{Q:AE→Sl→St→Prop}{K:List UInt8→Prop}(hQ:H183 Q K){σ:Sl}{st:St}
include hQ
theorem w183_0 (h:T183_0 prog K ):W prog d (.seq (.reg 0 r183_0) (.seq (.reg 1 r183_1) .ret)) σ st Q:=
 sq_ (W.reg (s_alloc (e_ (q_ rfl (s_buildM (f:=c8) (l:=[0,(2:UInt8),(1:UInt8),(3:UInt8),(2:UInt8)]) (f_cons rfl rfl (f_cons rfl rfl (f_cons rfl rfl (f_cons rfl rfl f_nil)))) rfl (s_storeArr (f:=c8) (fun _=>rfl) rfl (show lk _ (d,0) = some (_,(List.map c8 (List.replicate 5 (0:UInt8)):List AV)) from lk_here) (by simp) rfl rfl (e_ (rt_ (hQ _ _ _ _ _ rfl lk_here (by simp) h)))))))))
end
theorem p183 {prog:Prog}(hf:prog.fn 183 = some pf183)  {K:List UInt8→Prop}(h:T183_0 prog K ) :∃res0:List UInt8,K res0∧Pus prog 183 [] (.ag (List.map c8 res0)):=by
  obtain ⟨v,hv,res0,hk,rfl⟩:=Pus.of (K:=fun v=>∃res0:List UInt8,K res0∧v = .ag (List.map c8 res0)) hf rfl (w183_0 (σ:=sl0 []) (fun σ st k0 v0  res0 H0 HB0 HL0 hk=>⟨.ag (List.map c8 res0),by simp only [pf183,ares,aresL,ares_cellA (n:=5) H0 HB0 (by simpa using HL0),ares_tmp,Option.map_some],_,strip_ag c8 (fun _=>rfl) _,res0,hk,rfl⟩)  h)
  exact ⟨res0,hk,hv⟩
abbrev H191 (Q:AE→Sl→St→Prop)(K:Bool→Prop):Prop:=∀(σ:Sl)(st:St)(res0:Bool),σ 4 = .b res0→K res0→Q .ret σ st
section
variable {prog:Prog}{d:Nat}{Q:AE→Sl→St→Prop}{K:Bool→Prop}(hQ:H191 Q K){σ:Sl}{st:St}
include hQ
end
abbrev H186 (Q:AE→Sl→St→Prop)(K:Bool→Prop):Prop:=∀(σ:Sl)(st:St)(res0:Bool),σ 4 = .b res0→K res0→Q .ret σ st
section
variable {prog:Prog}{d:Nat}{Q:AE→Sl→St→Prop}{K:Bool→Prop}(hQ:H186 Q K){σ:Sl}{st:St}
include hQ
end
abbrev H190 (Q:AE→Sl→St→Prop)(K:List UInt8→Bool→Prop):Prop:=∀(σ:Sl)(st:St)(res0:List UInt8)(res1:Bool),σ 4 = .s res0→σ 5 = .b res1→K res0 res1→Q .ret σ st
section
variable {prog:Prog}{d:Nat}{Q:AE→Sl→St→Prop}{K:List UInt8→Bool→Prop}(hQ:H190 Q K){σ:Sl}{st:St}
include hQ
end
abbrev H180 (Q:AE→Sl→St→Prop)(K:List UInt8→Bool→Prop):Prop:=∀(σ:Sl)(st:St)(res0:List UInt8)(res1:Bool),σ 4 = .s res0→σ 5 = .b res1→K res0 res1→Q .ret σ st
section
variable {prog:Prog}{d:Nat}{Q:AE→Sl→St→Prop}{K:List UInt8→Bool→Prop}(hQ:H180 Q K){σ:Sl}{st:St}
include hQ
end
abbrev H182 (Q:AE→Sl→St→Prop)(K:List UInt8→Bool→Prop):Prop:=∀(σ:Sl)(st:St)(res0:List UInt8)(res1:Bool),σ 4 = .s res0→σ 5 = .b res1→K res0 res1→Q .ret σ st
section
variable {prog:Prog}{d:Nat}{Q:AE→Sl→St→Prop}{K:List UInt8→Bool→Prop}(hQ:H182 Q K){σ:Sl}{st:St}
include hQ
end
def r158_0:List AI:=[oO 1 (.box 7 (.t 0)),
 oC 2 (.i .i64 0)]
def r158_1:List AI:=[oF 4 0 1,
 oL 5 4,
 oB 6 .gtr (.t 5) (.c (.i .u64 4)),
 oM 7 6,
 oG 8 (.fad 1 (.t 1)) 7 false,
 oG 9 (.fad 0 (.t 8)) 7 false,
 oG 10 (.load 1 false (.t 9)) 7 false,
 oG 11 (.call false 183 []) 7 false,
 oG 12 (.fad 0 (.t 1)) 7 false,
 oG 13 (.load 1 false (.t 12)) 7 false,
 oG 14 (.ixA 5 1 false (.t 11) (.t 13)) 7 false,
 oG 15 (.bin .neq (.t 10) (.t 14)) 7 false,
 oO 16 (.pick (.t 7) (.c (.b true)) (.t 15))]
def r158_2:List AI:=[oC 2 (.i .i64 8)]
def r158_3:List AI:=[oF 17 0 1,
 oL 18 17,
 oB 19 .eql (.t 18) (.c (.i .u64 0))]
def r158_4:List AI:=[oF 20 1 1,
 oO 21 (.load 5 true (.t 20)),
 oO 3 (.alloc [.i .u8 0,.i .i64 0,.s [],.sl .full [],.b false]),
 oS 5 3 21]
def r158_5:List AI:=[oF 22 1 3,
 oL 23 22,
 oB 24 .neq (.t 23) (.c (.i .i64 0)),
 oM 25 24,
 oG 26 (.fad 2 (.t 3)) 25 false,
 oG 27 (.load 1 false (.t 26)) 25 false,
 oG 28 (.bin .neq (.t 27) (.c (.s []))) 25 false,
 oO 29 (.pick (.t 25) (.c (.b true)) (.t 28)),
 oM 30 29,
 oG 31 (.fad 3 (.t 3)) 30 false,
 oG 32 (.load 1 false (.t 31)) 30 false,
 oG 33 (.len false (.t 32)) 30 false,
 oG 34 (.bin .gtr (.t 33) (.c (.i .i64 0))) 30 false,
 oO 35 (.pick (.t 30) (.c (.b true)) (.t 34)),
 oM 36 35,
 oG 37 (.fad 4 (.t 3)) 36 false,
 oG 38 (.load 1 false (.t 37)) 36 false,
 oO 39 (.pick (.t 36) (.c (.b true)) (.t 38)),
 oM 40 39,
 oG 41 (.fad 6 (.t 1)) 40 false,
 oG 42 (.load 1 false (.t 41)) 40 false,
 oG 43 (.bin .andNot (.t 42) (.c (.i .u64 4))) 40 false,
 oG 44 (.bin .neq (.t 43) (.c (.i .u64 2))) 40 false,
 oO 45 (.pick (.t 40) (.c (.b true)) (.t 44))]
def r158_6:List AI:=[oC 2 (.i .i64 8)]
def r158_7:List AI:=[oC 2 (.i .i64 0)]
def r158_8:List AI:=[oF 46 6 1,
 oL 47 46,
 oB 48 .andNot (.t 47) (.c (.i .u64 5)),
 oB 49 .neq (.t 48) (.c (.i .u64 0)),
 oM 50 49,
 oG 51 (.fad 0 (.t 1)) 50 false,
 oG 52 (.load 1 false (.t 51)) 50 false,
 oG 53 (.bin .eql (.t 52) (.c (.i .u64 4))) 50 false,
 oG 54 (.mv (.t 53)) 50 false,
 oG 55 (.fad 1 (.t 1)) 54 true,
 oG 56 (.fad 1 (.t 55)) 54 true,
 oG 57 (.load 1 false (.t 56)) 54 true,
 oG 58 (.bin .lss (.t 57) (.c (.i .i64 1))) 54 true,
 oG 59 (.mv (.t 58)) 54 true,
 oG 60 (.fad 1 (.t 1)) 59 false,
 oG 61 (.fad 1 (.t 60)) 59 false,
 oG 62 (.load 1 false (.t 61)) 59 false,
 oG 63 (.bin .gtr (.t 62) (.c (.i .i64 3))) 59 false,
 oG 64 (.pick (.t 59) (.c (.b true)) (.t 63)) 54 true,
 oG 65 (.pick (.t 54) (.t 64) (.c (.b false))) 50 false,
 oO 66 (.pick (.t 50) (.c (.b true)) (.t 65))]
def r158_9:List AI:=[oC 2 (.i .i64 8)]
def r158_10:List AI:=[oF 67 1 1,
 oO 68 (.load 5 true (.t 67)),
 oO 69 (.call false 76 [(.t 68)]),
 oM 2 69]
abbrev c158_0:AC:=(.seq (.reg 10 r158_10) .ret)
abbrev c158_1:AC:=(.seq (.seq (.reg 8 r158_8) (.cond (.t 66) (.seq (.reg 9 r158_9) .ret) .skip)) c158_0)
abbrev c158_2:AC:=(.seq (.seq (.reg 3 r158_3) (.cond (.t 19) (.seq (.reg 4 r158_4) (.seq (.seq (.reg 5 r158_5) (.cond (.t 45) (.seq (.reg 6 r158_6) .ret) .skip)) (.seq (.reg 7 r158_7) .ret))) .skip)) c158_1)
abbrev c158_3:AC:=(.seq (.seq (.reg 1 r158_1) (.cond (.t 16) (.seq (.reg 2 r158_2) .ret) .skip)) c158_2)
abbrev b158:AC:=(.seq (.reg 0 r158_0) c158_3)
def pf158:AF:={ nt:=70,res:=[.tmp 2],body:=b158 }
abbrev H158 (Q:AE→Sl→St→Prop)(K:Int→Prop):Prop:=∀(σ:Sl)(st:St)(res0:Int),σ 2 = .i .i64 res0→K res0→Q .ret σ st
def T158_4 (prog:Prog)(K:Int→Prop)(m0:Pan):Prop:=
  ∃r'1:Int,Pus prog 76 [m0.value.av] (.i .i64 r'1)∧K r'1
def T158_3 (prog:Prog)(K:Int→Prop)(m0:Pan):Prop:=
  ((bAndNot .u64 m0.flags 5)≠0→K 8)∧(¬((bAndNot .u64 m0.flags 5)≠0)→(m0.tag = 4→(m0.value.int < 1→K 8)∧(¬(m0.value.int < 1)→(m0.value.int > 3→K 8)∧(¬(m0.value.int > 3)→T158_4 prog K m0)))∧(¬(m0.tag = 4)→T158_4 prog K m0))
def T158_2 (prog:Prog)(K:Int→Prop)(m0:Pan):Prop:=
  (m0.tag = 0→(m0.value.int≠0→K 8)∧(¬(m0.value.int≠0)→(m0.value.text≠([]:List UInt8)→K 8)∧(¬(m0.value.text≠([]:List UInt8))→((m0.value.list.length:Int) > 0→K 8)∧(¬((m0.value.list.length:Int) > 0)→(m0.value.cut = true→K 8)∧(m0.value.cut = false→((bAndNot .u64 m0.flags 4)≠2→K 8)∧(¬((bAndNot .u64 m0.flags 4)≠2)→K 0))))))∧(¬(m0.tag = 0)→T158_3 prog K m0)
def T158_1 (prog:Prog)(K:Int→Prop)(m0:Pan):Prop:=
  (m0.tag > 4→K 8)∧(¬(m0.tag > 4)→∃r'2:List UInt8,Pus prog 183 [] (.ag (List.map c8 r'2))∧r'2.length = 5∧0≤m0.tag∧∃c'4:UInt8,(r'2:List (UInt8))[(m0.tag).toNat]? = some c'4∧(m0.value.kind≠(c'4.toNat:Int)→K 8)∧(¬(m0.value.kind≠(c'4.toNat:Int))→T158_2 prog K m0))
def T158_0 (prog:Prog)(K:Int→Prop)(p0:Pan):Prop:=
  T158_1 prog K p0
section
variable {prog:Prog}{d:Nat}{Q:AE→Sl→St→Prop}{K:Int→Prop}(hQ:H158 Q K){σ:Sl}{st:St}
include hQ
theorem w158_4 {m0:Pan}{v0:Nat}(H1:σ 1 = .p (d,0) v0 0)(B0:lk st.bx (d,0) = some (v0,[.i .u64 m0.tag,.i .u8 m0.value.kind,.i .i64 m0.value.int,.s m0.value.text,.sl .ext (List.map Val.row m0.value.list),.b m0.value.cut,.i .u64 m0.flags]))(h:T158_4 prog K m0):W prog d c158_0 σ st Q:=
 q_ rfl (f_ H1 (l_ rfl B0 rfl rfl (h.elim fun r'1 e'2=>ca_ (sc rfl rfl sn) e'2.1 (m_ (e_ (rt_ (hQ _ _ _ rfl e'2.2)))))))
theorem w158_3 {m0:Pan}{v0:Nat}(H1:σ 1 = .p (d,0) v0 0)(B0:lk st.bx (d,0) = some (v0,[.i .u64 m0.tag,.i .u8 m0.value.kind,.i .i64 m0.value.int,.s m0.value.text,.sl .ext (List.map Val.row m0.value.list),.b m0.value.cut,.i .u64 m0.flags]))(h:T158_3 prog K m0):W prog d c158_1 σ st Q:=
 sq_ (q_ rfl (f_ H1 (l_ rfl B0 rfl rfl (b_ rfl rfl (abin_andNot _ _ _) (b_ rfl rfl neq_ (s_mvB rfl (em_ (g:=50) rfl (fun g'1=>gn_ (b:=true) rfl rfl (gn_ (b:=true) rfl rfl (gn_ (b:=true) rfl rfl (gn_ (b:=true) rfl rfl (gt_ rfl (gt_ rfl (gt_ rfl (gt_ rfl (gt_ rfl (gt_ rfl (gt_ rfl (gt_ rfl (gt_ rfl (gt_ rfl (gn_ (b:=true) rfl rfl (pt_ rfl rfl (e_ (ct_ rfl (q_ rfl (m_ (e_ (rt_ (hQ _ _ _ rfl (h.1 g'1)))))))))))))))))))))))) (fun g'1=>gy_ rfl (f_ H1 (gy_ rfl (l_ rfl B0 rfl rfl (gy_ rfl (b_ rfl rfl eql_ (gy_ rfl (s_mvB rfl (em_ (g:=54) rfl (fun g'2=>gy_ rfl (f_ H1 (gy_ rfl (f_ rfl (gy_ rfl (l_ rfl B0 rfl rfl (gy_ rfl (b_ rfl rfl lss_ (gy_ rfl (s_mvB rfl (em_ (g:=59) rfl (fun g'3=>gn_ (b:=true) rfl rfl (gn_ (b:=true) rfl rfl (gn_ (b:=true) rfl rfl (gn_ (b:=true) rfl rfl (gy_ rfl (pt_ rfl rfl (gy_ rfl (pt_ rfl rfl (pf_ rfl rfl (e_ (ct_ rfl (q_ rfl (m_ (e_ (rt_ (hQ _ _ _ rfl (((h.2 g'1).1 g'2).1 g'3))))))))))))))))) (fun g'3=>gy_ rfl (f_ H1 (gy_ rfl (f_ rfl (gy_ rfl (l_ rfl B0 rfl rfl (gy_ rfl (b_ rfl rfl gtr_ (gy_ rfl (pf_ rfl rfl (gy_ rfl (pt_ rfl rfl (pf_ rfl rfl (e_ (cs_ rfl (fun g'4=>q_ rfl (m_ (e_ (rt_ (hQ _ _ _ rfl ((((h.2 g'1).1 g'2).2 g'3).1 g'4)))))) (fun g'4=>sk_ (w158_4 hQ H1 B0 ((((h.2 g'1).1 g'2).2 g'3).2 g'4))))))))))))))))))))))))))))) (fun g'2=>gn_ (b:=false) rfl rfl (gn_ (b:=false) rfl rfl (gn_ (b:=false) rfl rfl (gn_ (b:=false) rfl rfl (gn_ (b:=false) rfl rfl (gt_ rfl (gt_ rfl (gt_ rfl (gt_ rfl (gn_ (b:=false) rfl rfl (gy_ rfl (pf_ rfl rfl (pf_ rfl rfl (e_ (cf_ rfl (sk_ (w158_4 hQ H1 B0 ((h.2 g'1).2 g'2))))))))))))))))))))))))))))))))))
theorem w158_2 {m0:Pan}{v0:Nat}(H1:σ 1 = .p (d,0) v0 0)(B0:lk st.bx (d,0) = some (v0,[.i .u64 m0.tag,.i .u8 m0.value.kind,.i .i64 m0.value.int,.s m0.value.text,.sl .ext (List.map Val.row m0.value.list),.b m0.value.cut,.i .u64 m0.flags]))(h:T158_2 prog K m0):W prog d c158_2 σ st Q:=
 sq_ (q_ rfl (f_ H1 (l_ rfl B0 rfl rfl (b_ rfl rfl eql_ (e_ (cs_ rfl (fun g'1=>sq_ (W.reg (f_ H1 (l_ rfl (lk_other rfl B0) rfl rfl (s_alloc (so_ rfl (show lk _ (d,16386) = some (_,([.i .u8 0,.i .i64 0,.s [],.sl .full (List.map Val.row ([]:List Val)),.b false]:List AV)) from lk_here) rfl rfl rfl (e_ (sq_ (q_ rfl (f_ rfl (l_ rfl lk_here rfl rfl (b_ rfl rfl neq_ (s_mvB rfl (em_ (g:=25) rfl (fun g'2=>gn_ (b:=true) rfl rfl (gn_ (b:=true) rfl rfl (gn_ (b:=true) rfl rfl (pt_ rfl rfl (s_mvB rfl (gn_ (b:=true) rfl rfl (gn_ (b:=true) rfl rfl (gn_ (b:=true) rfl rfl (gn_ (b:=true) rfl rfl (pt_ rfl rfl (s_mvB rfl (gn_ (b:=true) rfl rfl (gn_ (b:=true) rfl rfl (pt_ rfl rfl (s_mvB rfl (gn_ (b:=true) rfl rfl (gn_ (b:=true) rfl rfl (gn_ (b:=true) rfl rfl (gn_ (b:=true) rfl rfl (pt_ rfl rfl (e_ (ct_ rfl (q_ rfl (m_ (e_ (rt_ (hQ _ _ _ rfl ((h.1 g'1).1 g'2)))))))))))))))))))))))))))) (fun g'2=>gy_ rfl (f_ rfl (gy_ rfl (l_ rfl lk_here rfl rfl (gy_ rfl (b_ rfl rfl sne_ (pf_ rfl rfl (s_mvB rfl (em_ (g:=30) rfl (fun g'3=>gn_ (b:=true) rfl rfl (gn_ (b:=true) rfl rfl (gn_ (b:=true) rfl rfl (gn_ (b:=true) rfl rfl (pt_ rfl rfl (s_mvB rfl (gn_ (b:=true) rfl rfl (gn_ (b:=true) rfl rfl (pt_ rfl rfl (s_mvB rfl (gn_ (b:=true) rfl rfl (gn_ (b:=true) rfl rfl (gn_ (b:=true) rfl rfl (gn_ (b:=true) rfl rfl (pt_ rfl rfl (e_ (ct_ rfl (q_ rfl (m_ (e_ (rt_ (hQ _ _ _ rfl (((h.1 g'1).2 g'2).1 g'3))))))))))))))))))))))) (fun g'3=>gy_ rfl (f_ rfl (gy_ rfl (l_ rfl lk_here rfl rfl (gy_ rfl (ll_ rfl (gy_ rfl (b_ rfl rfl gtr_ (pf_ rfl rfl (s_mvB rfl (em_ (g:=36) rfl (fun g'4=>gn_ (b:=true) rfl rfl (gn_ (b:=true) rfl rfl (pt_ rfl rfl (s_mvB rfl (gn_ (b:=true) rfl rfl (gn_ (b:=true) rfl rfl (gn_ (b:=true) rfl rfl (gn_ (b:=true) rfl rfl (pt_ rfl rfl (e_ (ct_ rfl (q_ rfl (m_ (e_ (rt_ (hQ _ _ _ rfl ((((h.1 g'1).2 g'2).2 g'3).1 g'4))))))))))))))))) (fun g'4=>gy_ rfl (f_ rfl (gy_ rfl (l_ rfl lk_here rfl rfl (pf_ rfl rfl (s_mvB rfl (eb_ (g:=40) rfl (fun g'5=>gn_ (b:=true) rfl rfl (gn_ (b:=true) rfl rfl (gn_ (b:=true) rfl rfl (gn_ (b:=true) rfl rfl (pt_ rfl rfl (e_ (ct_ rfl (q_ rfl (m_ (e_ (rt_ (hQ _ _ _ rfl (((((h.1 g'1).2 g'2).2 g'3).2 g'4).1 g'5))))))))))))) (fun g'5=>gy_ rfl (f_ H1 (gy_ rfl (l_ rfl (lk_other rfl (lk_other rfl B0)) rfl rfl (gy_ rfl (b_ rfl rfl (abin_andNot _ _ _) (gy_ rfl (b_ rfl rfl neq_ (pf_ rfl rfl (e_ (cs_ rfl (fun g'6=>q_ rfl (m_ (e_ (rt_ (hQ _ _ _ rfl ((((((h.1 g'1).2 g'2).2 g'3).2 g'4).2 g'5).1 g'6)))))) (fun g'6=>sk_ (q_ rfl (m_ (e_ (rt_ (hQ _ _ _ rfl ((((((h.1 g'1).2 g'2).2 g'3).2 g'4).2 g'5).2 g'6))))))))))))))))))))))))))))))))))))))))))))))))))))))))))) (fun g'1=>sk_ (w158_3 hQ H1 B0 (h.2 g'1)))))))))
theorem w158_1 {m0:Pan}{v0:Nat}(H1:σ 1 = .p (d,0) v0 0)(B0:lk st.bx (d,0) = some (v0,[.i .u64 m0.tag,.i .u8 m0.value.kind,.i .i64 m0.value.int,.s m0.value.text,.sl .ext (List.map Val.row m0.value.list),.b m0.value.cut,.i .u64 m0.flags]))(h:T158_1 prog K m0):W prog d c158_3 σ st Q:=
 sq_ (q_ rfl (f_ H1 (l_ rfl B0 rfl rfl (b_ rfl rfl gtr_ (s_mvB rfl (em_ (g:=7) rfl (fun g'1=>gn_ (b:=true) rfl rfl (gn_ (b:=true) rfl rfl (gn_ (b:=true) rfl rfl (gn_ (b:=true) rfl rfl (gn_ (b:=true) rfl rfl (gn_ (b:=true) rfl rfl (gn_ (b:=true) rfl rfl (gn_ (b:=true) rfl rfl (pt_ rfl rfl (e_ (ct_ rfl (q_ rfl (m_ (e_ (rt_ (hQ _ _ _ rfl (h.1 g'1))))))))))))))))) (fun g'1=>gy_ rfl (f_ H1 (gy_ rfl (f_ rfl (gy_ rfl (l_ rfl B0 rfl rfl (gy_ rfl ((h.2 g'1).elim fun r'2 e'3=>ca_ sn e'3.1 (gy_ rfl (f_ H1 (gy_ rfl (l_ rfl B0 rfl rfl (gy_ rfl (e'3.2.2.2.elim fun c'4 e'5=>s_ixA (f:=c8) e'3.2.1 rfl rfl e'3.2.2.1 e'5.1 (gy_ rfl (b_ rfl rfl neq_ (pf_ rfl rfl (e_ (cs_ rfl (fun g'7=>q_ rfl (m_ (e_ (rt_ (hQ _ _ _ rfl (e'5.2.1 g'7)))))) (fun g'7=>sk_ (w158_2 hQ H1 B0 (e'5.2.2 g'7))))))))))))))))))))))))))))
theorem w158_0 {p0:Pan}(H0:σ 0 = p0.av)(h:T158_0 prog K p0):W prog d (.seq (.reg 0 r158_0) c158_3) σ st Q:=
 q_ rfl (s_box H0 rfl (m_ (e_ (w158_1 hQ rfl lk_here h))))
end
theorem p158 {prog:Prog}(hf:prog.fn 158 = some pf158){p0:Pan}{K:Int→Prop}(h:T158_0 prog K p0) :∃res0:Int,K res0∧Pus prog 158 [p0.av] (.i .i64 res0):=by
  obtain ⟨v,hv,res0,hk,rfl⟩:=Pus.of (K:=fun v=>∃res0:Int,K res0∧v = .i .i64 res0) hf rfl (w158_0 (σ:=sl0 [p0.av]) (fun σ st   res0 H2 hk=>⟨.i .i64 res0,by simp only [pf158,ares,aresL,H2,ares1,Option.map_some],_,rfl,res0,hk,rfl⟩) rfl h)
  exact ⟨res0,hk,hv⟩
def r159_0:List AI:=[oO 1 (.box 7 (.t 0)),
 oC 2 (.i .i64 0)]
def r159_1:List AI:=[oF 5 1 1,
 oO 6 (.load 5 true (.t 5)),
 oO 7 (.call false 77 [(.t 6)]),
 oB 8 .eql (.t 7) (.c (.i .i64 0)),
 oM 3 8]
def r159_2:List AI:=[oO 9 (.bslice [.i .u8 0] 5 [(0,(.c (.i .u8 0))),(1,(.c (.i .u8 2))),(2,(.c (.i .u8 1))),(3,(.c (.i .u8 3))),(4,(.c (.i .u8 2)))]),
 oM 4 9]
def r159_3:List AI:=[oF 10 0 1,
 oL 11 10,
 oB 12 .gtr (.t 11) (.c (.i .u64 4)),
 oM 13 12,
 oG 14 (.fad 1 (.t 1)) 13 false,
 oG 15 (.fad 0 (.t 14)) 13 false,
 oG 16 (.load 1 false (.t 15)) 13 false,
 oG 17 (.mv (.t 4)) 13 false,
 oG 18 (.fad 0 (.t 1)) 13 false,
 oG 19 (.load 1 false (.t 18)) 13 false,
 oG 20 (.iaL 1 (.t 17) (.t 19)) 13 false,
 oG 21 (.load 1 false (.t 20)) 13 false,
 oG 22 (.bin .neq (.t 16) (.t 21)) 13 false,
 oO 23 (.pick (.t 13) (.c (.b true)) (.t 22))]
def r159_4:List AI:=[oC 2 (.i .i64 8)]
def r159_5:List AI:=[oF 24 0 1,
 oL 25 24,
 oB 26 .eql (.t 25) (.c (.i .u64 0))]
def r159_6:List AI:=[oF 27 1 1,
 oO 28 (.load 5 true (.t 27)),
 oO 29 (.build [.i .u8 0,.i .i64 0,.s [],.sl .full [],.b false] []),
 oO 30 (.call false 78 [(.t 28),(.t 29)]),
 oM 31 30,
 oG 32 (.fad 6 (.t 1)) 31 true,
 oG 33 (.load 1 false (.t 32)) 31 true,
 oG 34 (.bin .eql (.t 33) (.c (.i .u64 2))) 31 true,
 oG 35 (.mv (.t 34)) 31 true,
 oG 36 (.fad 6 (.t 1)) 35 false,
 oG 37 (.load 1 false (.t 36)) 35 false,
 oG 38 (.bin .eql (.t 37) (.c (.i .u64 6))) 35 false,
 oG 39 (.pick (.t 35) (.c (.b true)) (.t 38)) 31 true,
 oO 40 (.pick (.t 31) (.t 39) (.c (.b false))),
 oM 3 40]
def r159_7:List AI:=[oM 41 3,
 oM 42 41,
 oG 43 (.fad 6 (.t 1)) 42 true,
 oG 44 (.load 1 false (.t 43)) 42 true,
 oG 45 (.bin .eql (.t 44) (.c (.i .u64 0))) 42 true,
 oG 46 (.mv (.t 45)) 42 true,
 oG 47 (.fad 6 (.t 1)) 46 false,
 oG 48 (.load 1 false (.t 47)) 46 false,
 oG 49 (.bin .eql (.t 48) (.c (.i .u64 1))) 46 false,
 oG 50 (.pick (.t 46) (.c (.b true)) (.t 49)) 42 true,
 oG 51 (.mv (.t 50)) 42 true,
 oG 52 (.fad 6 (.t 1)) 51 false,
 oG 53 (.load 1 false (.t 52)) 51 false,
 oG 54 (.bin .eql (.t 53) (.c (.i .u64 4))) 51 false,
 oG 55 (.pick (.t 51) (.c (.b true)) (.t 54)) 42 true,
 oG 56 (.mv (.t 55)) 42 true,
 oG 57 (.fad 6 (.t 1)) 56 false,
 oG 58 (.load 1 false (.t 57)) 56 false,
 oG 59 (.bin .eql (.t 58) (.c (.i .u64 5))) 56 false,
 oG 60 (.pick (.t 56) (.c (.b true)) (.t 59)) 42 true,
 oO 61 (.pick (.t 42) (.t 60) (.c (.b false))),
 oM 3 61]
def r159_8:List AI:=[oF 62 0 1,
 oL 63 62,
 oB 64 .eql (.t 63) (.c (.i .u64 4))]
def r159_9:List AI:=[oM 65 3,
 oM 66 65,
 oG 67 (.fad 1 (.t 1)) 66 true,
 oG 68 (.fad 1 (.t 67)) 66 true,
 oG 69 (.load 1 false (.t 68)) 66 true,
 oG 70 (.bin .geq (.t 69) (.c (.i .i64 1))) 66 true,
 oO 71 (.pick (.t 66) (.t 70) (.c (.b false))),
 oM 72 71,
 oG 73 (.fad 1 (.t 1)) 72 true,
 oG 74 (.fad 1 (.t 73)) 72 true,
 oG 75 (.load 1 false (.t 74)) 72 true,
 oG 76 (.bin .leq (.t 75) (.c (.i .i64 3))) 72 true,
 oO 77 (.pick (.t 72) (.t 76) (.c (.b false))),
 oM 3 77]
def r159_10:List AI:=[oM 78 3,
 oO 79 (.un .not (.t 78))]
def r159_11:List AI:=[oC 2 (.i .i64 8)]
def r159_12:List AI:=[oC 2 (.i .i64 0)]
abbrev c159_0:AC:=(.seq (.seq (.reg 10 r159_10) (.cond (.t 79) (.seq (.reg 11 r159_11) .ret) .skip)) (.seq (.reg 12 r159_12) .ret))
abbrev c159_1:AC:=(.seq (.seq (.reg 8 r159_8) (.cond (.t 64) (.reg 9 r159_9) .skip)) c159_0)
abbrev c159_2:AC:=(.seq (.seq (.reg 5 r159_5) (.cond (.t 26) (.reg 6 r159_6) (.reg 7 r159_7))) c159_1)
abbrev c159_3:AC:=(.seq (.seq (.reg 3 r159_3) (.cond (.t 23) (.seq (.reg 4 r159_4) .ret) .skip)) c159_2)
abbrev c159_4:AC:=(.seq (.reg 2 r159_2) c159_3)
abbrev c159_5:AC:=(.seq (.reg 1 r159_1) c159_4)
abbrev b159:AC:=(.seq (.reg 0 r159_0) c159_5)
def pf159:AF:={ nt:=80,res:=[.tmp 2],body:=b159 }
abbrev H159 (Q:AE→Sl→St→Prop)(K:Int→Prop):Prop:=∀(σ:Sl)(st:St)(res0:Int),σ 2 = .i .i64 res0→K res0→Q .ret σ st
def T159_6 (prog:Prog)(K:Int→Prop)(ok3:Bool):Prop:=
  ((!ok3) = true→K 8)∧((!ok3) = false→K 0)
def T159_5 (prog:Prog)(K:Int→Prop)(ok3:Bool)(m0:Pan):Prop:=
  (m0.tag = 4→(ok3 = true→(m0.value.int ≥ 1→T159_6 prog K (decide (m0.value.int≤3)))∧(¬(m0.value.int ≥ 1)→T159_6 prog K false))∧(ok3 = false→T159_6 prog K false))∧(¬(m0.tag = 4)→T159_6 prog K ok3)
def T159_4 (prog:Prog)(K:Int→Prop)(ok3:Bool)(m0:Pan):Prop:=
  (m0.tag = 0→∃r'2:Bool,Pus prog 78 [m0.value.av,.ag [.i .u8 0,.i .i64 0,.s [],.sl .ext (List.map Val.row ([]:List Val)),.b false]] (.b r'2)∧(r'2 = true→(m0.flags = 2→T159_5 prog K true m0)∧(¬(m0.flags = 2)→T159_5 prog K (decide (m0.flags = 6)) m0))∧(r'2 = false→T159_5 prog K false m0))∧(¬(m0.tag = 0)→(ok3 = true→(m0.flags = 0→T159_5 prog K true m0)∧(¬(m0.flags = 0)→(m0.flags = 1→T159_5 prog K true m0)∧(¬(m0.flags = 1)→(m0.flags = 4→T159_5 prog K true m0)∧(¬(m0.flags = 4)→T159_5 prog K (decide (m0.flags = 5)) m0))))∧(ok3 = false→T159_5 prog K false m0))
def T159_3 (prog:Prog)(K:Int→Prop)(ok3:Bool)(kinds4:List UInt8)(m0:Pan):Prop:=
  (m0.tag > 4→K 8)∧(¬(m0.tag > 4)→0≤m0.tag∧∃c'2:UInt8,kinds4[(m0.tag).toNat]? = some c'2∧(m0.value.kind≠(c'2.toNat:Int)→K 8)∧(¬(m0.value.kind≠(c'2.toNat:Int))→T159_4 prog K ok3 m0))
def T159_2 (prog:Prog)(K:Int→Prop)(ok3:Bool)(m0:Pan):Prop:=
  T159_3 prog K ok3 [(0:UInt8),(2:UInt8),(1:UInt8),(3:UInt8),(2:UInt8)] m0
def T159_1 (prog:Prog)(K:Int→Prop)(m0:Pan):Prop:=
  ∃r'1:Int,Pus prog 77 [m0.value.av] (.i .i64 r'1)∧T159_2 prog K (decide (r'1 = 0)) m0
def T159_0 (prog:Prog)(K:Int→Prop)(p0:Pan):Prop:=
  T159_1 prog K p0
section
variable {prog:Prog}{d:Nat}{Q:AE→Sl→St→Prop}{K:Int→Prop}(hQ:H159 Q K){σ:Sl}{st:St}
include hQ
theorem w159_6 {ok3:Bool}(H3:σ 3 = .b ok3)(h:T159_6 prog K ok3):W prog d c159_0 σ st Q:=
 sq_ (q_ rfl (m_ (nt_ H3 (e_ (cb_ rfl (fun g'1=>q_ rfl (m_ (e_ (rt_ (hQ _ _ _ rfl (h.1 g'1)))))) (fun g'1=>sk_ (q_ rfl (m_ (e_ (rt_ (hQ _ _ _ rfl (h.2 g'1))))))))))))
theorem w159_5 {ok3:Bool}{m0:Pan}{v0:Nat}(H1:σ 1 = .p (d,0) v0 0)(H3:σ 3 = .b ok3)(B0:lk st.bx (d,0) = some (v0,[.i .u64 m0.tag,.i .u8 m0.value.kind,.i .i64 m0.value.int,.s m0.value.text,.sl .ext (List.map Val.row m0.value.list),.b m0.value.cut,.i .u64 m0.flags]))(h:T159_5 prog K ok3 m0):W prog d c159_1 σ st Q:=
 sq_ (q_ rfl (f_ H1 (l_ rfl B0 rfl rfl (b_ rfl rfl eql_ (e_ (cs_ rfl (fun g'1=>W.reg0 rfl fun _ _=>s_mvB H3 (s_mvB rfl (eb_ (g:=66) rfl (fun g'2=>gy_ rfl (f_ H1 (gy_ rfl (f_ rfl (gy_ rfl (l_ rfl B0 rfl rfl (gy_ rfl (b_ rfl rfl geq_ (pt_ rfl rfl (s_mvB rfl (em_ (g:=72) rfl (fun g'3=>gy_ rfl (f_ H1 (gy_ rfl (f_ rfl (gy_ rfl (l_ rfl B0 rfl rfl (gy_ rfl (b_ rfl rfl leq_ (pt_ rfl rfl (s_mvB rfl (e_ (w159_6 hQ rfl (((h.1 g'1).1 g'2).1 g'3))))))))))))) (fun g'3=>gn_ (b:=false) rfl rfl (gn_ (b:=false) rfl rfl (gn_ (b:=false) rfl rfl (gn_ (b:=false) rfl rfl (pf_ rfl rfl (s_mvB rfl (e_ (w159_6 hQ rfl (((h.1 g'1).1 g'2).2 g'3)))))))))))))))))))) (fun g'2=>gn_ (b:=false) rfl rfl (gn_ (b:=false) rfl rfl (gn_ (b:=false) rfl rfl (gn_ (b:=false) rfl rfl (pf_ rfl rfl (s_mvB rfl (gn_ (b:=false) rfl rfl (gn_ (b:=false) rfl rfl (gn_ (b:=false) rfl rfl (gn_ (b:=false) rfl rfl (pf_ rfl rfl (s_mvB rfl (e_ (w159_6 hQ rfl ((h.1 g'1).2 g'2)))))))))))))))))) (fun g'1=>sk_ (w159_6 hQ H3 (h.2 g'1)))))))))
theorem w159_4 {ok3:Bool}{m0:Pan}{v0:Nat}(H1:σ 1 = .p (d,0) v0 0)(H3:σ 3 = .b ok3)(B0:lk st.bx (d,0) = some (v0,[.i .u64 m0.tag,.i .u8 m0.value.kind,.i .i64 m0.value.int,.s m0.value.text,.sl .ext (List.map Val.row m0.value.list),.b m0.value.cut,.i .u64 m0.flags]))(h:T159_4 prog K ok3 m0):W prog d c159_2 σ st Q:=
 sq_ (q_ rfl (f_ H1 (l_ rfl B0 rfl rfl (b_ rfl rfl eql_ (e_ (cs_ rfl (fun g'1=>W.reg0 rfl fun _ _=>f_ H1 (l_ rfl B0 rfl rfl (s_build f_nil ((h.1 g'1).elim fun r'2 e'3=>ca_ (sc rfl rfl (sc rfl rfl sn)) e'3.1 (s_mvB rfl (eb_ (g:=31) rfl (fun g'4=>gy_ rfl (f_ H1 (gy_ rfl (l_ rfl B0 rfl rfl (gy_ rfl (b_ rfl rfl eql_ (gy_ rfl (s_mvB rfl (em_ (g:=35) rfl (fun g'5=>gn_ (b:=true) rfl rfl (gn_ (b:=true) rfl rfl (gn_ (b:=true) rfl rfl (gy_ rfl (pt_ rfl rfl (pt_ rfl rfl (s_mvB rfl (e_ (w159_5 hQ H1 rfl B0 ((e'3.2.1 g'4).1 g'5)))))))))) (fun g'5=>gy_ rfl (f_ H1 (gy_ rfl (l_ rfl B0 rfl rfl (gy_ rfl (b_ rfl rfl eql_ (gy_ rfl (pf_ rfl rfl (pt_ rfl rfl (s_mvB rfl (e_ (w159_5 hQ H1 rfl B0 ((e'3.2.1 g'4).2 g'5)))))))))))))))))))))) (fun g'4=>gn_ (b:=false) rfl rfl (gn_ (b:=false) rfl rfl (gn_ (b:=false) rfl rfl (gn_ (b:=false) rfl rfl (gt_ rfl (gt_ rfl (gt_ rfl (gn_ (b:=false) rfl rfl (pf_ rfl rfl (s_mvB rfl (e_ (w159_5 hQ H1 rfl B0 (e'3.2.2 g'4))))))))))))))))))) (fun g'1=>W.reg0 rfl fun _ _=>s_mvB H3 (s_mvB rfl (eb_ (g:=42) rfl (fun g'6=>gy_ rfl (f_ H1 (gy_ rfl (l_ rfl B0 rfl rfl (gy_ rfl (b_ rfl rfl eql_ (gy_ rfl (s_mvB rfl (em_ (g:=46) rfl (fun g'7=>gn_ (b:=true) rfl rfl (gn_ (b:=true) rfl rfl (gn_ (b:=true) rfl rfl (gy_ rfl (pt_ rfl rfl (gy_ rfl (s_mvB rfl (gn_ (b:=true) rfl rfl (gn_ (b:=true) rfl rfl (gn_ (b:=true) rfl rfl (gy_ rfl (pt_ rfl rfl (gy_ rfl (s_mvB rfl (gn_ (b:=true) rfl rfl (gn_ (b:=true) rfl rfl (gn_ (b:=true) rfl rfl (gy_ rfl (pt_ rfl rfl (pt_ rfl rfl (s_mvB rfl (e_ (w159_5 hQ H1 rfl B0 (((h.2 g'1).1 g'6).1 g'7)))))))))))))))))))))))) (fun g'7=>gy_ rfl (f_ H1 (gy_ rfl (l_ rfl B0 rfl rfl (gy_ rfl (b_ rfl rfl eql_ (gy_ rfl (pf_ rfl rfl (gy_ rfl (s_mvB rfl (em_ (g:=51) rfl (fun g'8=>gn_ (b:=true) rfl rfl (gn_ (b:=true) rfl rfl (gn_ (b:=true) rfl rfl (gy_ rfl (pt_ rfl rfl (gy_ rfl (s_mvB rfl (gn_ (b:=true) rfl rfl (gn_ (b:=true) rfl rfl (gn_ (b:=true) rfl rfl (gy_ rfl (pt_ rfl rfl (pt_ rfl rfl (s_mvB rfl (e_ (w159_5 hQ H1 rfl B0 ((((h.2 g'1).1 g'6).2 g'7).1 g'8))))))))))))))))) (fun g'8=>gy_ rfl (f_ H1 (gy_ rfl (l_ rfl B0 rfl rfl (gy_ rfl (b_ rfl rfl eql_ (gy_ rfl (pf_ rfl rfl (gy_ rfl (s_mvB rfl (em_ (g:=56) rfl (fun g'9=>gn_ (b:=true) rfl rfl (gn_ (b:=true) rfl rfl (gn_ (b:=true) rfl rfl (gy_ rfl (pt_ rfl rfl (pt_ rfl rfl (s_mvB rfl (e_ (w159_5 hQ H1 rfl B0 (((((h.2 g'1).1 g'6).2 g'7).2 g'8).1 g'9)))))))))) (fun g'9=>gy_ rfl (f_ H1 (gy_ rfl (l_ rfl B0 rfl rfl (gy_ rfl (b_ rfl rfl eql_ (gy_ rfl (pf_ rfl rfl (pt_ rfl rfl (s_mvB rfl (e_ (w159_5 hQ H1 rfl B0 (((((h.2 g'1).1 g'6).2 g'7).2 g'8).2 g'9)))))))))))))))))))))))))))))))))))))))))))) (fun g'6=>gn_ (b:=false) rfl rfl (gn_ (b:=false) rfl rfl (gn_ (b:=false) rfl rfl (gn_ (b:=false) rfl rfl (gt_ rfl (gt_ rfl (gt_ rfl (gn_ (b:=false) rfl rfl (gn_ (b:=false) rfl rfl (gt_ rfl (gt_ rfl (gt_ rfl (gn_ (b:=false) rfl rfl (gn_ (b:=false) rfl rfl (gt_ rfl (gt_ rfl (gt_ rfl (gn_ (b:=false) rfl rfl (pf_ rfl rfl (s_mvB rfl (e_ (w159_5 hQ H1 rfl B0 ((h.2 g'1).2 g'6))))))))))))))))))))))))))))))))
theorem w159_3 {ok3:Bool}{kinds4:List UInt8}{m0:Pan}{o_kinds4:Own}{v0:Nat}(H1:σ 1 = .p (d,0) v0 0)(H3:σ 3 = .b ok3)(H4:σ 4 = .sl o_kinds4 (List.map row8 kinds4))(A4:ApM d st.ow o_kinds4 kinds4.length)(B0:lk st.bx (d,0) = some (v0,[.i .u64 m0.tag,.i .u8 m0.value.kind,.i .i64 m0.value.int,.s m0.value.text,.sl .ext (List.map Val.row m0.value.list),.b m0.value.cut,.i .u64 m0.flags]))(h:T159_3 prog K ok3 kinds4 m0):W prog d c159_3 σ st Q:=
 sq_ (q_ rfl (f_ H1 (l_ rfl B0 rfl rfl (b_ rfl rfl gtr_ (s_mvB rfl (em_ (g:=13) rfl (fun g'1=>gn_ (b:=true) rfl rfl (gn_ (b:=true) rfl rfl (gn_ (b:=true) rfl rfl (gn_ (b:=true) rfl rfl (gn_ (b:=true) rfl rfl (gn_ (b:=true) rfl rfl (gn_ (b:=true) rfl rfl (gn_ (b:=true) rfl rfl (gn_ (b:=true) rfl rfl (pt_ rfl rfl (e_ (ct_ rfl (q_ rfl (m_ (e_ (rt_ (hQ _ _ _ rfl (h.1 g'1)))))))))))))))))) (fun g'1=>gy_ rfl (f_ H1 (gy_ rfl (f_ rfl (gy_ rfl (l_ rfl B0 rfl rfl (gy_ rfl (s_mvL H4 (gy_ rfl (f_ H1 (gy_ rfl (l_ rfl B0 rfl rfl (gy_ rfl ((h.2 g'1).2.elim fun c'2 e'3=>ia_ rfl rfl (h.2 g'1).1 e'3.1 rfl rfl (gy_ rfl (lf_ rfl rfl rfl (gy_ rfl (b_ rfl rfl neq_ (pf_ rfl rfl (e_ (cs_ rfl (fun g'4=>q_ rfl (m_ (e_ (rt_ (hQ _ _ _ rfl (e'3.2.1 g'4)))))) (fun g'4=>sk_ (w159_4 hQ H1 H3 B0 (e'3.2.2 g'4))))))))))))))))))))))))))))))
theorem w159_2 {ok3:Bool}{m0:Pan}{v0:Nat}(H1:σ 1 = .p (d,0) v0 0)(H3:σ 3 = .b ok3)(B0:lk st.bx (d,0) = some (v0,[.i .u64 m0.tag,.i .u8 m0.value.kind,.i .i64 m0.value.int,.s m0.value.text,.sl .ext (List.map Val.row m0.value.list),.b m0.value.cut,.i .u64 m0.flags]))(h:T159_2 prog K ok3 m0):W prog d c159_4 σ st Q:=
 q_ rfl (s_bslM (f:=row8) (l:=[(0:UInt8),(2:UInt8),(1:UInt8),(3:UInt8),(2:UInt8)]) rfl rfl (g_cons rfl rfl rfl (g_cons rfl rfl rfl (g_cons rfl rfl rfl (g_cons rfl rfl rfl (g_cons rfl rfl rfl g_nil))))) rfl (s_mvL rfl (e_ (w159_3 hQ H1 H3 rfl ApM.full B0 h))))
theorem w159_1 {m0:Pan}{v0:Nat}(H1:σ 1 = .p (d,0) v0 0)(B0:lk st.bx (d,0) = some (v0,[.i .u64 m0.tag,.i .u8 m0.value.kind,.i .i64 m0.value.int,.s m0.value.text,.sl .ext (List.map Val.row m0.value.list),.b m0.value.cut,.i .u64 m0.flags]))(h:T159_1 prog K m0):W prog d c159_5 σ st Q:=
 q_ rfl (f_ H1 (l_ rfl B0 rfl rfl (h.elim fun r'1 e'2=>ca_ (sc rfl rfl sn) e'2.1 (b_ rfl rfl eql_ (m_ (e_ (w159_2 hQ H1 rfl B0 e'2.2)))))))
theorem w159_0 {p0:Pan}(H0:σ 0 = p0.av)(h:T159_0 prog K p0):W prog d (.seq (.reg 0 r159_0) c159_5) σ st Q:=
 q_ rfl (s_box H0 rfl (m_ (e_ (w159_1 hQ rfl lk_here h))))
end
theorem p159 {prog:Prog}(hf:prog.fn 159 = some pf159){p0:Pan}{K:Int→Prop}(h:T159_0 prog K p0) :∃res0:Int,K res0∧Pus prog 159 [p0.av] (.i .i64 res0):=by
  obtain ⟨v,hv,res0,hk,rfl⟩:=Pus.of (K:=fun v=>∃res0:Int,K res0∧v = .i .i64 res0) hf rfl (w159_0 (σ:=sl0 [p0.av]) (fun σ st   res0 H2 hk=>⟨.i .i64 res0,by simp only [pf159,ares,aresL,H2,ares1,Option.map_some],_,rfl,res0,hk,rfl⟩) rfl h)
  exact ⟨res0,hk,hv⟩
def r179_0:List AI:=[oO 1 (.box 7 (.t 0)),
 oC 2 (.s [])]
def r179_1:List AI:=[oC 3 (.s [101,120,105,116])]
def r179_2:List AI:=[oF 4 0 1,
 oL 5 4,
 oB 6 .eql (.t 5) (.c (.i .u64 4))]
def r179_3:List AI:=[oO 7 (.bslice [.s []] 4 [(0,(.c (.s []))),(1,(.c (.s [102,97,117,108,116,32,49,58,32,100,105,118,105,115,105,111,110,32,98,121,32,122,101,114,111]))),(2,(.c (.s [102,97,117,108,116,32,50,58,32,110,105,108,32,112,111,105,110,116,101,114]))),(3,(.c (.s [102,97,117,108,116,32,51,58,32,111,117,116,32,111,102,32,114,97,110,103,101])))]),
 oF 8 1 1,
 oF 9 1 8,
 oL 10 9,
 oO 11 (.iaL 1 (.t 7) (.t 10)),
 oL 12 11,
 oM 3 12]
def r179_4:List AI:=[oF 13 0 1,
 oL 14 13,
 oB 15 .neq (.t 14) (.c (.i .u64 0))]
def r179_5:List AI:=[oF 16 1 1,
 oO 17 (.load 5 true (.t 16)),
 oO 18 (.call false 106 [(.t 17)]),
 oB 19 .add (.c (.s [112,97,110,105,99,32])) (.t 18),
 oM 3 19]
def r179_6:List AI:=[oF 20 6 1,
 oL 21 20,
 oB 22 .rem (.t 21) (.c (.i .u64 2)),
 oB 23 .eql (.t 22) (.c (.i .u64 1))]
def r179_7:List AI:=[oM 24 3,
 oB 25 .add (.t 24) (.c (.s [32,114,101,99,111,118,101,114,101,100])),
 oM 3 25]
def r179_8:List AI:=[oF 26 6 1,
 oL 27 26,
 oB 28 .geq (.t 27) (.c (.i .u64 4))]
def r179_9:List AI:=[oM 29 3,
 oB 30 .add (.t 29) (.c (.s [32,97,98,111,114,116,101,100])),
 oM 3 30]
def r179_10:List AI:=[oM 31 3,
 oM 2 31]
abbrev c179_0:AC:=(.seq (.reg 10 r179_10) .ret)
abbrev c179_1:AC:=(.seq (.seq (.reg 8 r179_8) (.cond (.t 28) (.reg 9 r179_9) .skip)) c179_0)
abbrev c179_2:AC:=(.seq (.seq (.reg 6 r179_6) (.cond (.t 23) (.reg 7 r179_7) .skip)) c179_1)
abbrev b179:AC:=(.seq (.reg 0 r179_0) (.seq (.reg 1 r179_1) (.seq (.seq (.reg 2 r179_2) (.cond (.t 6) (.reg 3 r179_3) (.seq (.reg 4 r179_4) (.cond (.t 15) (.reg 5 r179_5) .skip)))) c179_2)))
def pf179:AF:={ nt:=32,res:=[.tmp 2],body:=b179 }
abbrev H179 (Q:AE→Sl→St→Prop)(K:List UInt8→Prop):Prop:=∀(σ:Sl)(st:St)(res0:List UInt8),σ 2 = .s res0→K res0→Q .ret σ st
def T179_3 (prog:Prog)(K:List UInt8→Prop)(s3:List UInt8):Prop:=
  K s3
def T179_2 (prog:Prog)(K:List UInt8→Prop)(s3:List UInt8)(m0:Pan):Prop:=
  (m0.flags ≥ 4→s3.length + ([32,97,98,111,114,116,101,100]:List UInt8).length≤maxStr∧T179_3 prog K (s3 ++ ([32,97,98,111,114,116,101,100]:List UInt8)))∧(¬(m0.flags ≥ 4)→T179_3 prog K s3)
def T179_1 (prog:Prog)(K:List UInt8→Prop)(s3:List UInt8)(m0:Pan):Prop:=
  (((m0.flags:Int).tmod 2) = 1→s3.length + ([32,114,101,99,111,118,101,114,101,100]:List UInt8).length≤maxStr∧T179_2 prog K (s3 ++ ([32,114,101,99,111,118,101,114,101,100]:List UInt8)) m0)∧(¬(((m0.flags:Int).tmod 2) = 1)→T179_2 prog K s3 m0)
def T179_0 (prog:Prog)(K:List UInt8→Prop)(p0:Pan):Prop:=
  (p0.tag = 4→0≤p0.value.int∧∃c'2:List UInt8,[([]:List UInt8),([102,97,117,108,116,32,49,58,32,100,105,118,105,115,105,111,110,32,98,121,32,122,101,114,111]:List UInt8),([102,97,117,108,116,32,50,58,32,110,105,108,32,112,111,105,110,116,101,114]:List UInt8),([102,97,117,108,116,32,51,58,32,111,117,116,32,111,102,32,114,97,110,103,101]:List UInt8)][(p0.value.int).toNat]? = some c'2∧T179_1 prog K c'2 p0)∧(¬(p0.tag = 4)→(p0.tag≠0→∃r'5:List UInt8,Pus prog 106 [p0.value.av] (.s r'5)∧([112,97,110,105,99,32]:List UInt8).length + r'5.length≤maxStr∧T179_1 prog K (([112,97,110,105,99,32]:List UInt8) ++ r'5) p0)∧(¬(p0.tag≠0)→T179_1 prog K ([101,120,105,116]:List UInt8) p0))
section
variable {prog:Prog}{d:Nat}{Q:AE→Sl→St→Prop}{K:List UInt8→Prop}(hQ:H179 Q K){σ:Sl}{st:St}
include hQ
theorem w179_3 {s3:List UInt8}(H3:σ 3 = .s s3)(h:T179_3 prog K s3):W prog d c179_0 σ st Q:=
 q_ rfl (m_ (m_ (e_ (rt_ (hQ _ _ _ H3 h)))))
theorem w179_2 {s3:List UInt8}{m0:Pan}{v0:Nat}(H1:σ 1 = .p (d,0) v0 0)(H3:σ 3 = .s s3)(B0:lk st.bx (d,0) = some (v0,[.i .u64 m0.tag,.i .u8 m0.value.kind,.i .i64 m0.value.int,.s m0.value.text,.sl .ext (List.map Val.row m0.value.list),.b m0.value.cut,.i .u64 m0.flags]))(h:T179_2 prog K s3 m0):W prog d c179_1 σ st Q:=
 sq_ (q_ rfl (f_ H1 (l_ rfl B0 rfl rfl (b_ rfl rfl geq_ (e_ (cs_ rfl (fun g'1=>W.reg0 rfl fun _ _=>m_ (b_ H3 rfl (abin_cat' (h.1 g'1).1) (m_ (e_ (w179_3 hQ rfl (h.1 g'1).2))))) (fun g'1=>sk_ (w179_3 hQ H3 (h.2 g'1)))))))))
theorem w179_1 {s3:List UInt8}{m0:Pan}{v0:Nat}(H1:σ 1 = .p (d,0) v0 0)(H3:σ 3 = .s s3)(B0:lk st.bx (d,0) = some (v0,[.i .u64 m0.tag,.i .u8 m0.value.kind,.i .i64 m0.value.int,.s m0.value.text,.sl .ext (List.map Val.row m0.value.list),.b m0.value.cut,.i .u64 m0.flags]))(h:T179_1 prog K s3 m0):W prog d c179_2 σ st Q:=
 sq_ (q_ rfl (f_ H1 (l_ rfl B0 rfl rfl (b_ rfl rfl (abin_rem' (by decide)) (b_ rfl rfl eql_ (e_ (cs_ rfl (fun g'1=>W.reg0 rfl fun _ _=>m_ (b_ H3 rfl (abin_cat' (h.1 g'1).1) (m_ (e_ (w179_2 hQ H1 rfl B0 (h.1 g'1).2))))) (fun g'1=>sk_ (w179_2 hQ H1 H3 B0 (h.2 g'1))))))))))
theorem w179_0 {p0:Pan}(H0:σ 0 = p0.av)(h:T179_0 prog K p0):W prog d (.seq (.reg 0 r179_0) (.seq (.reg 1 r179_1) (.seq (.seq (.reg 2 r179_2) (.cond (.t 6) (.reg 3 r179_3) (.seq (.reg 4 r179_4) (.cond (.t 15) (.reg 5 r179_5) .skip)))) c179_2))) σ st Q:=
 q_ rfl (s_box H0 rfl (m_ (e_ (q_ rfl (m_ (e_ (sq_ (q_ rfl (f_ rfl (l_ rfl lk_here rfl rfl (b_ rfl rfl eql_ (e_ (cs_ rfl (fun g'1=>W.reg0 rfl fun _ _=>s_bslM (f:=rowS) (l:=[([]:List UInt8),([102,97,117,108,116,32,49,58,32,100,105,118,105,115,105,111,110,32,98,121,32,122,101,114,111]:List UInt8),([102,97,117,108,116,32,50,58,32,110,105,108,32,112,111,105,110,116,101,114]:List UInt8),([102,97,117,108,116,32,51,58,32,111,117,116,32,111,102,32,114,97,110,103,101]:List UInt8)]) rfl rfl (g_cons rfl rfl rfl (g_cons rfl rfl rfl (g_cons rfl rfl rfl (g_cons rfl rfl rfl g_nil)))) rfl (f_ rfl (f_ rfl (l_ rfl lk_here rfl rfl ((h.1 g'1).2.elim fun c'2 e'3=>ia_ rfl rfl (h.1 g'1).1 e'3.1 rfl rfl (lf_ rfl rfl rfl (m_ (e_ (w179_1 hQ rfl rfl lk_here e'3.2))))))))) (fun g'1=>q_ rfl (f_ rfl (l_ rfl lk_here rfl rfl (b_ rfl rfl neq_ (e_ (cs_ rfl (fun g'4=>W.reg0 rfl fun _ _=>f_ rfl (l_ rfl lk_here rfl rfl (((h.2 g'1).1 g'4).elim fun r'5 e'6=>ca_ (sc rfl rfl sn) e'6.1 (b_ rfl rfl (abin_cat' e'6.2.1) (m_ (e_ (w179_1 hQ rfl rfl lk_here e'6.2.2))))))) (fun g'4=>sk_ (w179_1 hQ rfl rfl lk_here ((h.2 g'1).2 g'4))))))))))))))))))))))
end
theorem p179 {prog:Prog}(hf:prog.fn 179 = some pf179){p0:Pan}{K:List UInt8→Prop}(h:T179_0 prog K p0) :∃res0:List UInt8,K res0∧Pus prog 179 [p0.av] (.s res0):=by
  obtain ⟨v,hv,res0,hk,rfl⟩:=Pus.of (K:=fun v=>∃res0:List UInt8,K res0∧v = .s res0) hf rfl (w179_0 (σ:=sl0 [p0.av]) (fun σ st   res0 H2 hk=>⟨.s res0,by simp only [pf179,ares,aresL,H2,ares1,Option.map_some],_,rfl,res0,hk,rfl⟩) rfl h)
  exact ⟨res0,hk,hv⟩
def r154_0:List AI:=[oO 1 (.box 7 (.t 0)),
 oC 2 (.s []),
 oC 3 (.i .i64 0)]
def r154_1:List AI:=[oO 8 (.load 7 true (.t 1)),
 oO 9 (.call false 158 [(.t 8)]),
 oM 4 9]
def r154_2:List AI:=[oM 10 4,
 oB 11 .neq (.t 10) (.c (.i .i64 0))]
def r154_3:List AI:=[oM 12 4,
 oC 2 (.s []),
 oM 3 12]
def r154_4:List AI:=[oC 5 (.s [101,120,105,116])]
def r154_5:List AI:=[oF 13 0 1,
 oL 14 13]
def r154_6:List AI:=[oB 27 .eql (.t 14) (.c (.i .u64 0)),
 oM 26 27]
def r154_7:List AI:=[oB 29 .eql (.t 14) (.c (.i .u64 4)),
 oM 28 29]
def r154_8:List AI:=[oO 30 (.call false 178 []),
 oF 31 1 1,
 oF 32 1 31,
 oL 33 32,
 oO 34 (.ixA 4 1 false (.t 30) (.t 33)),
 oM 5 34]
def r154_9:List AI:=[oF 16 1 1,
 oO 17 (.load 5 true (.t 16)),
 oO 18 (.call false 72 [(.t 17)]),
 oM 15 18,
 oE 19 0 15,
 oE 20 1 15,
 oM 6 19,
 oM 7 20]
def r154_10:List AI:=[oM 21 7,
 oB 22 .neq (.t 21) (.c (.i .i64 0))]
def r154_11:List AI:=[oM 23 7,
 oC 2 (.s []),
 oM 3 23]
def r154_12:List AI:=[oM 24 6,
 oB 25 .add (.c (.s [112,97,110,105,99,32])) (.t 24),
 oM 5 25]
def r154_13:List AI:=[oF 35 6 1,
 oL 36 35,
 oB 37 .and (.t 36) (.c (.i .u64 1)),
 oB 38 .neq (.t 37) (.c (.i .u64 0))]
def r154_14:List AI:=[oM 39 5,
 oB 40 .add (.t 39) (.c (.s [32,114,101,99,111,118,101,114,101,100])),
 oM 5 40]
def r154_15:List AI:=[oF 41 6 1,
 oL 42 41,
 oB 43 .and (.t 42) (.c (.i .u64 4)),
 oB 44 .neq (.t 43) (.c (.i .u64 0))]
def r154_16:List AI:=[oM 45 5,
 oB 46 .add (.t 45) (.c (.s [32,97,98,111,114,116,101,100])),
 oM 5 46]
def r154_17:List AI:=[oM 47 5,
 oM 2 47,
 oC 3 (.i .i64 0)]
abbrev c154_0:AC:=(.seq (.reg 17 r154_17) .ret)
abbrev c154_1:AC:=(.seq (.seq (.reg 15 r154_15) (.cond (.t 44) (.reg 16 r154_16) .skip)) c154_0)
abbrev c154_2:AC:=(.seq (.seq (.reg 13 r154_13) (.cond (.t 38) (.reg 14 r154_14) .skip)) c154_1)
abbrev b154:AC:=(.seq (.reg 0 r154_0) (.seq (.seq (.reg 1 r154_1) (.seq (.reg 2 r154_2) (.cond (.t 11) (.seq (.reg 3 r154_3) .ret) .skip))) (.seq (.reg 4 r154_4) (.seq (.seq (.reg 5 r154_5) (.block 0 (.seq (.reg 10 r154_6) (.cond (.t 26) .skip (.seq (.reg 11 r154_7) (.cond (.t 28) (.reg 12 r154_8) (.seq (.reg 6 r154_9) (.seq (.seq (.reg 7 r154_10) (.cond (.t 22) (.seq (.reg 8 r154_11) .ret) .skip)) (.reg 9 r154_12))))))))) c154_2))))
def pf154:AF:={ nt:=48,res:=[.tmp 2,.tmp 3],body:=b154 }
abbrev H154 (Q:AE→Sl→St→Prop)(K:List UInt8→Int→Prop):Prop:=∀(σ:Sl)(st:St)(res0:List UInt8)(res1:Int),σ 2 = .s res0→σ 3 = .i .i64 res1→K res0 res1→Q .ret σ st
def T154_3 (prog:Prog)(K:List UInt8→Int→Prop)(s5:List UInt8):Prop:=
  K s5 0
def T154_2 (prog:Prog)(K:List UInt8→Int→Prop)(s5:List UInt8)(m0:Pan):Prop:=
  ((bAnd .u64 m0.flags 4)≠0→s5.length + ([32,97,98,111,114,116,101,100]:List UInt8).length≤maxStr∧T154_3 prog K (s5 ++ ([32,97,98,111,114,116,101,100]:List UInt8)))∧(¬((bAnd .u64 m0.flags 4)≠0)→T154_3 prog K s5)
def T154_1 (prog:Prog)(K:List UInt8→Int→Prop)(s5:List UInt8)(m0:Pan):Prop:=
  ((bAnd .u64 m0.flags 1)≠0→s5.length + ([32,114,101,99,111,118,101,114,101,100]:List UInt8).length≤maxStr∧T154_2 prog K (s5 ++ ([32,114,101,99,111,118,101,114,101,100]:List UInt8)) m0)∧(¬((bAnd .u64 m0.flags 1)≠0)→T154_2 prog K s5 m0)
def T154_0 (prog:Prog)(K:List UInt8→Int→Prop)(p0:Pan):Prop:=
  ∃r'1:Int,Pus prog 158 [p0.av] (.i .i64 r'1)∧(r'1≠0→K ([]:List UInt8) r'1)∧(¬(r'1≠0)→(p0.tag = 0→T154_1 prog K ([101,120,105,116]:List UInt8) p0)∧(¬(p0.tag = 0)→(p0.tag = 4→∃r'6:List (List UInt8),Pus prog 178 [] (.ag (List.map AV.s r'6))∧r'6.length = 4∧0≤p0.value.int∧∃c'8:List UInt8,(r'6:List (List UInt8))[(p0.value.int).toNat]? = some c'8∧T154_1 prog K c'8 p0)∧(¬(p0.tag = 4)→∃r'10:List UInt8,∃r'11:Int,Pus prog 72 [p0.value.av] (.tup [.s r'10,.i .i64 r'11])∧(r'11≠0→K ([]:List UInt8) r'11)∧(¬(r'11≠0)→([112,97,110,105,99,32]:List UInt8).length + r'10.length≤maxStr∧T154_1 prog K (([112,97,110,105,99,32]:List UInt8) ++ r'10) p0))))
section
variable {prog:Prog}{d:Nat}{Q:AE→Sl→St→Prop}{K:List UInt8→Int→Prop}(hQ:H154 Q K){σ:Sl}{st:St}
include hQ
theorem w154_3 {s5:List UInt8}(H5:σ 5 = .s s5)(h:T154_3 prog K s5):W prog d c154_0 σ st Q:=
 q_ rfl (m_ (m_ (m_ (e_ (rt_ (hQ _ _ _ _ H5 rfl h))))))
theorem w154_2 {s5:List UInt8}{m0:Pan}{v0:Nat}(H1:σ 1 = .p (d,0) v0 0)(H5:σ 5 = .s s5)(B0:lk st.bx (d,0) = some (v0,[.i .u64 m0.tag,.i .u8 m0.value.kind,.i .i64 m0.value.int,.s m0.value.text,.sl .ext (List.map Val.row m0.value.list),.b m0.value.cut,.i .u64 m0.flags]))(h:T154_2 prog K s5 m0):W prog d c154_1 σ st Q:=
 sq_ (q_ rfl (f_ H1 (l_ rfl B0 rfl rfl (b_ rfl rfl (abin_and _ _ _) (b_ rfl rfl neq_ (e_ (cs_ rfl (fun g'1=>W.reg0 rfl fun _ _=>m_ (b_ H5 rfl (abin_cat' (h.1 g'1).1) (m_ (e_ (w154_3 hQ rfl (h.1 g'1).2))))) (fun g'1=>sk_ (w154_3 hQ H5 (h.2 g'1))))))))))
theorem w154_1 {s5:List UInt8}{m0:Pan}{v0:Nat}(H1:σ 1 = .p (d,0) v0 0)(H5:σ 5 = .s s5)(B0:lk st.bx (d,0) = some (v0,[.i .u64 m0.tag,.i .u8 m0.value.kind,.i .i64 m0.value.int,.s m0.value.text,.sl .ext (List.map Val.row m0.value.list),.b m0.value.cut,.i .u64 m0.flags]))(h:T154_1 prog K s5 m0):W prog d c154_2 σ st Q:=
 sq_ (q_ rfl (f_ H1 (l_ rfl B0 rfl rfl (b_ rfl rfl (abin_and _ _ _) (b_ rfl rfl neq_ (e_ (cs_ rfl (fun g'1=>W.reg0 rfl fun _ _=>m_ (b_ H5 rfl (abin_cat' (h.1 g'1).1) (m_ (e_ (w154_2 hQ H1 rfl B0 (h.1 g'1).2))))) (fun g'1=>sk_ (w154_2 hQ H1 H5 B0 (h.2 g'1))))))))))
theorem w154_0 {p0:Pan}(H0:σ 0 = p0.av)(h:T154_0 prog K p0):W prog d (.seq (.reg 0 r154_0) (.seq (.seq (.reg 1 r154_1) (.seq (.reg 2 r154_2) (.cond (.t 11) (.seq (.reg 3 r154_3) .ret) .skip))) (.seq (.reg 4 r154_4) (.seq (.seq (.reg 5 r154_5) (.block 0 (.seq (.reg 10 r154_6) (.cond (.t 26) .skip (.seq (.reg 11 r154_7) (.cond (.t 28) (.reg 12 r154_8) (.seq (.reg 6 r154_9) (.seq (.seq (.reg 7 r154_10) (.cond (.t 22) (.seq (.reg 8 r154_11) .ret) .skip)) (.reg 9 r154_12))))))))) c154_2)))) σ st Q:=
 q_ rfl (s_box H0 rfl (m_ (m_ (e_ (sq_ (q_ rfl (l_ rfl lk_here rfl rfl (h.elim fun r'1 e'2=>ca_ (sc rfl rfl sn) e'2.1 (m_ (e_ (q_ rfl (m_ (b_ rfl rfl neq_ (e_ (cs_ rfl (fun g'3=>q_ rfl (m_ (m_ (m_ (e_ (rt_ (hQ _ _ _ _ rfl rfl (e'2.2.1 g'3)))))))) (fun g'3=>sk_ (q_ rfl (m_ (e_ (sq_ (q_ rfl (f_ rfl (l_ rfl lk_here rfl rfl (e_ (bk_ (q_ rfl (b_ rfl rfl eql_ (m_ (e_ (cs_ rfl (fun g'4=>sk_ (w154_1 hQ rfl rfl lk_here ((e'2.2.2 g'3).1 g'4))) (fun g'4=>q_ rfl (b_ rfl rfl eql_ (m_ (e_ (cs_ rfl (fun g'5=>W.reg0 rfl fun _ _=>(((e'2.2.2 g'3).2 g'4).1 g'5).elim fun r'6 e'7=>ca_ sn e'7.1 (f_ rfl (f_ rfl (l_ rfl lk_here rfl rfl (e'7.2.2.2.elim fun c'8 e'9=>s_ixA (f:=AV.s) e'7.2.1 rfl rfl e'7.2.2.1 e'9.1 (m_ (e_ (w154_1 hQ rfl rfl lk_here e'9.2)))))))) (fun g'5=>q_ rfl (f_ rfl (l_ rfl lk_here rfl rfl ((((e'2.2.2 g'3).2 g'4).2 g'5).elim fun r'10 e'14=>e'14.elim fun r'11 e'12=>ca_ (sc rfl rfl sn) e'12.1 (m_ (x_ rfl rfl (x_ rfl rfl (m_ (m_ (e_ (sq_ (q_ rfl (m_ (b_ rfl rfl neq_ (e_ (cs_ rfl (fun g'13=>q_ rfl (m_ (m_ (m_ (e_ (rt_ (hQ _ _ _ _ rfl rfl (e'12.2.1 g'13)))))))) (fun g'13=>sk_ (W.reg0 rfl fun _ _=>m_ (b_ rfl rfl (abin_cat' (e'12.2.2 g'13).1) (m_ (e_ (w154_1 hQ rfl rfl lk_here (e'12.2.2 g'13).2)))))))))))))))))))))))))))))))))))))))))))))))))))))))))
end
theorem p154 {prog:Prog}(hf:prog.fn 154 = some pf154){p0:Pan}{K:List UInt8→Int→Prop}(h:T154_0 prog K p0) :∃res0:List UInt8,∃res1:Int,K res0 res1∧Pus prog 154 [p0.av] (.tup [.s res0,.i .i64 res1]):=by
  obtain ⟨v,hv,res0,res1,hk,rfl⟩:=Pus.of (K:=fun v=>∃res0:List UInt8,∃res1:Int,K res0 res1∧v = .tup [.s res0,.i .i64 res1]) hf rfl (w154_0 (σ:=sl0 [p0.av]) (fun σ st   res0 res1 H2 H3 hk=>⟨.tup [.s res0,.i .i64 res1],by simp only [pf154,ares,aresL,H2,H3,ares1,Option.map_some],_,rfl,res0,res1,hk,rfl⟩) rfl h)
  exact ⟨res0,res1,hk,hv⟩
abbrev H155 (Q:AE→Sl→St→Prop)(K:List UInt8→Int→Prop):Prop:=∀(σ:Sl)(st:St)(res0:List UInt8)(res1:Int),σ 2 = .s res0→σ 3 = .i .i64 res1→K res0 res1→Q .ret σ st
section
variable {prog:Prog}{d:Nat}{Q:AE→Sl→St→Prop}{K:List UInt8→Int→Prop}(hQ:H155 Q K){σ:Sl}{st:St}
include hQ
end
end Go.AM

/- Parts of the proof. -/
namespace Go.AM
open Go
set_option linter.unusedVariables false
set_option linter.unusedSimpArgs false
set_option maxRecDepth 4000
attribute [local irreducible] WO fillCells fillRows
abbrev H181 (Q:AE→Sl→St→Prop)(K:Pan→Bool→Prop):Prop:=∀(σ:Sl)(st:St)(k0:Key)(v0:Nat)(o0_0:Own)(res0:Pan)(res1:Bool),σ 2 = .p k0 v0 0→lk st.bx k0 = some (v0,[.i .u64 res0.tag,.i .u8 res0.value.kind,.i .i64 res0.value.int,.s res0.value.text,.sl o0_0 (List.map Val.row res0.value.list),.b res0.value.cut,.i .u64 res0.flags])→σ 3 = .b res1→K res0 res1→Q .ret σ st
section
variable {prog:Prog}{d:Nat}{Q:AE→Sl→St→Prop}{K:Pan→Bool→Prop}(hQ:H181 Q K){σ:Sl}{st:St}
include hQ
end
abbrev H156 (Q:AE→Sl→St→Prop)(K:Pan→Int→Prop):Prop:=∀(σ:Sl)(st:St)(k0:Key)(v0:Nat)(o0_0:Own)(res0:Pan)(res1:Int),σ 2 = .p k0 v0 0→lk st.bx k0 = some (v0,[.i .u64 res0.tag,.i .u8 res0.value.kind,.i .i64 res0.value.int,.s res0.value.text,.sl o0_0 (List.map Val.row res0.value.list),.b res0.value.cut,.i .u64 res0.flags])→σ 3 = .i .i64 res1→K res0 res1→Q .ret σ st
section
variable {prog:Prog}{d:Nat}{Q:AE→Sl→St→Prop}{K:Pan→Int→Prop}(hQ:H156 Q K){σ:Sl}{st:St}
include hQ
end
abbrev H157 (Q:AE→Sl→St→Prop)(K:Pan→Int→Prop):Prop:=∀(σ:Sl)(st:St)(k0:Key)(v0:Nat)(o0_0:Own)(res0:Pan)(res1:Int),σ 2 = .p k0 v0 0→lk st.bx k0 = some (v0,[.i .u64 res0.tag,.i .u8 res0.value.kind,.i .i64 res0.value.int,.s res0.value.text,.sl o0_0 (List.map Val.row res0.value.list),.b res0.value.cut,.i .u64 res0.flags])→σ 3 = .i .i64 res1→K res0 res1→Q .ret σ st
section
variable {prog:Prog}{d:Nat}{Q:AE→Sl→St→Prop}{K:Pan→Int→Prop}(hQ:H157 Q K){σ:Sl}{st:St}
include hQ
end
abbrev H160 (Q:AE→Sl→St→Prop)(K:Bool→Prop):Prop:=∀(σ:Sl)(st:St)(res0:Bool),σ 4 = .b res0→K res0→Q .ret σ st
section
variable {prog:Prog}{d:Nat}{Q:AE→Sl→St→Prop}{K:Bool→Prop}(hQ:H160 Q K){σ:Sl}{st:St}
include hQ
end
abbrev H148 (Q:AE→Sl→St→Prop)(K:Bool→Prop):Prop:=∀(σ:Sl)(st:St)(res0:Bool),σ 4 = .b res0→K res0→Q .ret σ st
section
variable {prog:Prog}{d:Nat}{Q:AE→Sl→St→Prop}{K:Bool→Prop}(hQ:H148 Q K){σ:Sl}{st:St}
include hQ
end
end Go.AM

/- Parts of the proof. -/
namespace Go.AM
open Go
set_option linter.unusedVariables false
set_option linter.unusedSimpArgs false
set_option maxRecDepth 4000
attribute [local irreducible] WO fillCells fillRows
abbrev H185 (Q:AE→Sl→St→Prop)(K:Int→Prop):Prop:=∀(σ:Sl)(st:St)(res0:Int),σ 2 = .i .i64 res0→K res0→Q .ret σ st
section
variable {prog:Prog}{d:Nat}{Q:AE→Sl→St→Prop}{K:Int→Prop}(hQ:H185 Q K){σ:Sl}{st:St}
include hQ
end
def r163_0:List AI:=[oC 2 (.i .i64 0)]
def r163_1:List AI:=[oM 5 0,
 oO 6 (.len false (.t 5)),
 oB 7 .gtr (.t 6) (.c (.i .i64 410))]
def r163_2:List AI:=[oC 2 (.i .i64 4)]
def r163_3:List AI:=[oC 3 (.i .i64 0)]
def r163_4:List AI:=[oM 8 3,
 oM 9 0,
 oO 10 (.len false (.t 9)),
 oB 11 .lss (.t 8) (.t 10)]
def r163_5:List AI:=[oM 14 0,
 oM 15 3,
 oO 16 (.iaL 7 (.t 14) (.t 15)),
 oO 17 (.load 7 true (.t 16)),
 oO 18 (.call false 159 [(.t 17)]),
 oM 4 18]
def r163_6:List AI:=[oM 19 4,
 oB 20 .neq (.t 19) (.c (.i .i64 0))]
def r163_7:List AI:=[oM 21 4,
 oM 2 21]
def r163_8:List AI:=[oM 12 3,
 oB 13 .add (.t 12) (.c (.i .i64 1)),
 oM 3 13]
def r163_9:List AI:=[oC 2 (.i .i64 0)]
abbrev l163_0:AC:=(.seq (.seq (.reg 4 r163_4) (.cond (.t 11) .skip (.exit 0))) (.seq (.block 1 (.seq (.reg 6 r163_5) (.seq (.reg 7 r163_6) (.cond (.t 20) (.seq (.reg 8 r163_7) .ret) .skip)))) (.reg 5 r163_8)))
abbrev c163_1:AC:=(.seq (.reg 9 r163_9) .ret)
abbrev b163:AC:=(.seq (.reg 0 r163_0) (.seq (.seq (.reg 1 r163_1) (.cond (.t 7) (.seq (.reg 2 r163_2) .ret) .skip)) (.seq (.seq (.reg 3 r163_3) (.block 0 (.loop l163_0))) c163_1)))
def pf163:AF:={ nt:=22,res:=[.tmp 2],body:=b163 }
abbrev H163 (Q:AE→Sl→St→Prop)(K:Int→Prop):Prop:=∀(σ:Sl)(st:St)(res0:Int),σ 2 = .i .i64 res0→K res0→Q .ret σ st
abbrev I163_0 (prog:Prog)(d:Nat)(Q:AE→Sl→St→Prop)(l0:List Pan)(i3:Int):Prop:=
  ∀(σ:Sl)(st:St)(o_l0:Own),σ 0 = .sl o_l0 (List.map Pan.row l0)→σ 3 = .i .i64 i3→W prog d (.loop l163_0) σ st (blockW 0 (thenW prog d c163_1 Q))
def T163_2 (prog:Prog)(K:Int→Prop) :Prop:=
  K 0
def T163_1 (prog:Prog)(K:Int→Prop)(P0:Int→Prop)(l0:List Pan)(i3:Int):Prop:=
  (i3 < (l0.length:Int)→0≤i3∧∃c'2:Pan,l0[(i3).toNat]? = some c'2∧∃r'4:Int,Pus prog 159 [c'2.av] (.i .i64 r'4)∧(r'4≠0→K r'4)∧(¬(r'4≠0)→P0 (IntKind.i64.wrap (i3 + 1))))∧(¬(i3 < (l0.length:Int))→T163_2 prog K )
def T163_0 (prog:Prog)(K:Int→Prop)(l0:List Pan):Prop:=
  ((l0.length:Int) > 410→K 4)∧(¬((l0.length:Int) > 410)→∀P0:Int→Prop,(∀(i3:Int),T163_1 prog K P0 l0 i3→P0 i3)→P0 0)
section
variable {prog:Prog}{d:Nat}{Q:AE→Sl→St→Prop}{K:Int→Prop}(hQ:H163 Q K){σ:Sl}{st:St}
include hQ
theorem w163_2 (h:T163_2 prog K ):W prog d c163_1 σ st Q:=
 q_ rfl (m_ (e_ (rt_ (hQ _ _ _ rfl h))))
theorem w163_1 {l0:List Pan}{i3:Int}{P0:Int→Prop} (kP0 :∀(i3:Int),P0 i3→I163_0 prog d Q l0 i3){o_l0:Own}(H0:σ 0 = .sl o_l0 (List.map Pan.row l0))(H3:σ 3 = .i .i64 i3)(h:T163_1 prog K P0 l0 i3):W prog d l163_0 σ st (thenW prog d (.loop l163_0) (blockW 0 (thenW prog d c163_1 Q))):=
 sq_ (q_ rfl (m_ (s_mvL H0 (ll_ rfl (b_ H3 rfl lss_ (e_ (cs_ rfl (fun g'1=>sk_ (sq_ (bk_ (q_ rfl (s_mvL H0 (m_ ((h.1 g'1).2.elim fun c'2 e'3=>ia_ rfl H3 (h.1 g'1).1 e'3.1 (Pan.row_eq c'2) rfl (lf_ rfl rfl rfl (e'3.2.elim fun r'4 e'5=>ca_ (sc rfl rfl sn) e'5.1 (m_ (e_ (q_ rfl (m_ (b_ rfl rfl neq_ (e_ (cs_ rfl (fun g'6=>q_ rfl (m_ (m_ (e_ (rt_ (hQ _ _ _ rfl (e'5.2.1 g'6))))))) (fun g'6=>sk_ (W.reg0 rfl fun _ _=>m_ (b_ H3 rfl add_ (m_ (e_ (kP0 _ (e'5.2.2 g'6) _ _ _ H0 rfl)))))))))))))))))))))) (fun g'1=>ex_ (w163_2 hQ (h.2 g'1))))))))))
theorem w163_0 {l0:List Pan}{o_l0:Own}(H0:σ 0 = .sl o_l0 (List.map Pan.row l0))(h:T163_0 prog K l0):W prog d (.seq (.reg 0 r163_0) (.seq (.seq (.reg 1 r163_1) (.cond (.t 7) (.seq (.reg 2 r163_2) .ret) .skip)) (.seq (.seq (.reg 3 r163_3) (.block 0 (.loop l163_0))) c163_1))) σ st Q:=
 q_ rfl (m_ (e_ (sq_ (q_ rfl (s_mvL H0 (ll_ rfl (b_ rfl rfl gtr_ (e_ (cs_ rfl (fun g'1=>q_ rfl (m_ (e_ (rt_ (hQ _ _ _ rfl (h.1 g'1)))))) (fun g'1=>sk_ (sq_ (q_ rfl (m_ (e_ (bk_ ((h.2 g'1) (I163_0 prog d Q l0) (fun _ hb _ _ _ H0 H3=>W.loop (w163_1 hQ (fun _ x=>x) H0 H3 hb)) _ _ _ H0 rfl))))))))))))))))
end
theorem p163 {prog:Prog}(hf:prog.fn 163 = some pf163){l0:List Pan}{K:Int→Prop}(h:T163_0 prog K l0) :∃res0:Int,K res0∧Pus prog 163 [.sl .ext (List.map Pan.row l0)] (.i .i64 res0):=by
  obtain ⟨v,hv,res0,hk,rfl⟩:=Pus.of (K:=fun v=>∃res0:Int,K res0∧v = .i .i64 res0) hf rfl (w163_0 (σ:=sl0 [.sl .ext (List.map Pan.row l0)]) (fun σ st   res0 H2 hk=>⟨.i .i64 res0,by simp only [pf163,ares,aresL,H2,ares1,Option.map_some],_,rfl,res0,hk,rfl⟩) rfl h)
  exact ⟨res0,hk,hv⟩
abbrev H165 (Q:AE→Sl→St→Prop)(K:Int→Int→Prop):Prop:=∀(σ:Sl)(st:St)(res0:Int)(res1:Int),σ 2 = .i .i64 res0→σ 3 = .i .i64 res1→K res0 res1→Q .ret σ st
section
variable {prog:Prog}{d:Nat}{Q:AE→Sl→St→Prop}{K:Int→Int→Prop}(hQ:H165 Q K){σ:Sl}{st:St}
include hQ
end
def r169_0:List AI:=[oC 2 (.i .i64 0),
 oC 3 (.i .i64 0)]
def r169_1:List AI:=[oM 6 0,
 oO 7 (.call false 163 [(.t 6)]),
 oM 4 7]
def r169_2:List AI:=[oM 8 4,
 oB 9 .neq (.t 8) (.c (.i .i64 0))]
def r169_3:List AI:=[oM 10 4,
 oC 2 (.i .i64 0),
 oM 3 10]
def r169_4:List AI:=[oC 5 (.i .i64 0)]
def r169_5:List AI:=[oM 11 5,
 oM 12 0,
 oO 13 (.len false (.t 12)),
 oB 14 .lss (.t 11) (.t 13)]
def r169_6:List AI:=[oM 17 0,
 oM 18 5,
 oO 19 (.iaL 7 (.t 17) (.t 18)),
 oF 20 6 19,
 oL 21 20,
 oB 22 .eql (.t 21) (.c (.i .u64 0))]
def r169_7:List AI:=[oM 23 5,
 oM 2 23,
 oC 3 (.i .i64 0)]
def r169_8:List AI:=[oM 15 5,
 oB 16 .add (.t 15) (.c (.i .i64 1)),
 oM 5 16]
def r169_9:List AI:=[oC 2 (.i .i64 0),
 oC 3 (.i .i64 6)]
abbrev l169_0:AC:=(.seq (.seq (.reg 5 r169_5) (.cond (.t 14) .skip (.exit 0))) (.seq (.block 1 (.seq (.reg 7 r169_6) (.cond (.t 22) (.seq (.reg 8 r169_7) .ret) .skip))) (.reg 6 r169_8)))
abbrev c169_1:AC:=(.seq (.reg 9 r169_9) .ret)
abbrev b169:AC:=(.seq (.reg 0 r169_0) (.seq (.seq (.reg 1 r169_1) (.seq (.reg 2 r169_2) (.cond (.t 9) (.seq (.reg 3 r169_3) .ret) .skip))) (.seq (.seq (.reg 4 r169_4) (.block 0 (.loop l169_0))) c169_1)))
def pf169:AF:={ nt:=24,res:=[.tmp 2,.tmp 3],body:=b169 }
abbrev H169 (Q:AE→Sl→St→Prop)(K:Int→Int→Prop):Prop:=∀(σ:Sl)(st:St)(res0:Int)(res1:Int),σ 2 = .i .i64 res0→σ 3 = .i .i64 res1→K res0 res1→Q .ret σ st
section
variable {prog:Prog}{d:Nat}{Q:AE→Sl→St→Prop}{K:Int→Int→Prop}(hQ:H169 Q K){σ:Sl}{st:St}
include hQ
end
abbrev H170 (Q:AE→Sl→St→Prop)(K:Bool→Prop):Prop:=∀(σ:Sl)(st:St)(res0:Bool),σ 4 = .b res0→K res0→Q .ret σ st
section
variable {prog:Prog}{d:Nat}{Q:AE→Sl→St→Prop}{K:Bool→Prop}(hQ:H170 Q K){σ:Sl}{st:St}
include hQ
end
def r162_0:List AI:=[oC 2 (.b false)]
def r162_1:List AI:=[oM 4 0,
 oO 5 (.len false (.t 4)),
 oB 6 .gtr (.t 5) (.c (.i .i64 20)),
 oM 7 6,
 oG 8 (.mv (.t 0)) 7 true,
 oG 9 (.len false (.t 8)) 7 true,
 oG 10 (.bin .leq (.t 9) (.c (.i .i64 410))) 7 true,
 oO 11 (.pick (.t 7) (.t 10) (.c (.b false))),
 oM 12 11,
 oG 13 (.mv (.t 0)) 12 false,
 oG 14 (.len false (.t 13)) 12 false,
 oG 15 (.bin .gtr (.t 14) (.c (.i .i64 420))) 12 false,
 oO 16 (.pick (.t 12) (.c (.b true)) (.t 15))]
def r162_2:List AI:=[oC 2 (.b true)]
def r162_3:List AI:=[oC 3 (.i .i64 0)]
def r162_4:List AI:=[oM 17 3,
 oM 18 0,
 oO 19 (.len false (.t 18)),
 oB 20 .lss (.t 17) (.t 19)]
def r162_5:List AI:=[oM 23 0,
 oM 24 3,
 oO 25 (.iaL 7 (.t 23) (.t 24)),
 oF 26 1 25,
 oO 27 (.load 5 true (.t 26)),
 oO 28 (.call false 71 [(.t 27)])]
def r162_6:List AI:=[oC 2 (.b true)]
def r162_7:List AI:=[oM 21 3,
 oB 22 .add (.t 21) (.c (.i .i64 1)),
 oM 3 22]
def r162_8:List AI:=[oC 2 (.b false)]
abbrev l162_0:AC:=(.seq (.seq (.reg 4 r162_4) (.cond (.t 20) .skip (.exit 0))) (.seq (.block 1 (.seq (.reg 6 r162_5) (.cond (.t 28) (.seq (.reg 7 r162_6) .ret) .skip))) (.reg 5 r162_7)))
abbrev c162_1:AC:=(.seq (.reg 8 r162_8) .ret)
abbrev c162_2:AC:=(.seq (.seq (.reg 3 r162_3) (.block 0 (.loop l162_0))) c162_1)
abbrev b162:AC:=(.seq (.reg 0 r162_0) (.seq (.seq (.reg 1 r162_1) (.cond (.t 16) (.seq (.reg 2 r162_2) .ret) .skip)) c162_2))
def pf162:AF:={ nt:=29,res:=[.tmp 2],body:=b162 }
abbrev H162 (Q:AE→Sl→St→Prop)(K:Bool→Prop):Prop:=∀(σ:Sl)(st:St)(res0:Bool),σ 2 = .b res0→K res0→Q .ret σ st
abbrev I162_0 (prog:Prog)(d:Nat)(Q:AE→Sl→St→Prop)(l0:List Pan)(i3:Int):Prop:=
  ∀(σ:Sl)(st:St)(o_l0:Own),σ 0 = .sl o_l0 (List.map Pan.row l0)→σ 3 = .i .i64 i3→W prog d (.loop l162_0) σ st (blockW 0 (thenW prog d c162_1 Q))
def T162_3 (prog:Prog)(K:Bool→Prop) :Prop:=
  K false
def T162_2 (prog:Prog)(K:Bool→Prop)(P0:Int→Prop)(l0:List Pan)(i3:Int):Prop:=
  (i3 < (l0.length:Int)→0≤i3∧∃c'2:Pan,l0[(i3).toNat]? = some c'2∧∃r'4:Bool,Pus prog 71 [c'2.value.av] (.b r'4)∧(r'4 = true→K true)∧(r'4 = false→P0 (IntKind.i64.wrap (i3 + 1))))∧(¬(i3 < (l0.length:Int))→T162_3 prog K )
def T162_1 (prog:Prog)(K:Bool→Prop)(l0:List Pan):Prop:=
  ∀P0:Int→Prop,(∀(i3:Int),T162_2 prog K P0 l0 i3→P0 i3)→P0 0
def T162_0 (prog:Prog)(K:Bool→Prop)(l0:List Pan):Prop:=
  ((l0.length:Int) > 20→((l0.length:Int)≤410→K true)∧(¬((l0.length:Int)≤410)→((l0.length:Int) > 420→K true)∧(¬((l0.length:Int) > 420)→T162_1 prog K l0)))∧(¬((l0.length:Int) > 20)→((l0.length:Int) > 420→K true)∧(¬((l0.length:Int) > 420)→T162_1 prog K l0))
section
variable {prog:Prog}{d:Nat}{Q:AE→Sl→St→Prop}{K:Bool→Prop}(hQ:H162 Q K){σ:Sl}{st:St}
include hQ
theorem w162_3 (h:T162_3 prog K ):W prog d c162_1 σ st Q:=
 q_ rfl (m_ (e_ (rt_ (hQ _ _ _ rfl h))))
theorem w162_2 {l0:List Pan}{i3:Int}{P0:Int→Prop} (kP0 :∀(i3:Int),P0 i3→I162_0 prog d Q l0 i3){o_l0:Own}(H0:σ 0 = .sl o_l0 (List.map Pan.row l0))(H3:σ 3 = .i .i64 i3)(h:T162_2 prog K P0 l0 i3):W prog d l162_0 σ st (thenW prog d (.loop l162_0) (blockW 0 (thenW prog d c162_1 Q))):=
 sq_ (q_ rfl (m_ (s_mvL H0 (ll_ rfl (b_ H3 rfl lss_ (e_ (cs_ rfl (fun g'1=>sk_ (sq_ (bk_ (q_ rfl (s_mvL H0 (m_ ((h.1 g'1).2.elim fun c'2 e'3=>ia_ rfl H3 (h.1 g'1).1 e'3.1 (Pan.row_eq c'2) rfl (ff_ rfl (lf_ rfl rfl rfl (e'3.2.elim fun r'4 e'5=>ca_ (sc rfl rfl sn) e'5.1 (e_ (cb_ rfl (fun g'6=>q_ rfl (m_ (e_ (rt_ (hQ _ _ _ rfl (e'5.2.1 g'6)))))) (fun g'6=>sk_ (W.reg0 rfl fun _ _=>m_ (b_ H3 rfl add_ (m_ (e_ (kP0 _ (e'5.2.2 g'6) _ _ _ H0 rfl)))))))))))))))))) (fun g'1=>ex_ (w162_3 hQ (h.2 g'1))))))))))
theorem w162_1 {l0:List Pan}{o_l0:Own}(H0:σ 0 = .sl o_l0 (List.map Pan.row l0))(h:T162_1 prog K l0):W prog d c162_2 σ st Q:=
 sq_ (q_ rfl (m_ (e_ (bk_ (h (I162_0 prog d Q l0) (fun _ hb _ _ _ H0 H3=>W.loop (w162_2 hQ (fun _ x=>x) H0 H3 hb)) _ _ _ H0 rfl)))))
theorem w162_0 {l0:List Pan}{o_l0:Own}(H0:σ 0 = .sl o_l0 (List.map Pan.row l0))(h:T162_0 prog K l0):W prog d (.seq (.reg 0 r162_0) (.seq (.seq (.reg 1 r162_1) (.cond (.t 16) (.seq (.reg 2 r162_2) .ret) .skip)) c162_2)) σ st Q:=
 q_ rfl (m_ (e_ (sq_ (q_ rfl (s_mvL H0 (ll_ rfl (b_ rfl rfl gtr_ (s_mvB rfl (em_ (g:=7) rfl (fun g'1=>gy_ rfl (s_mvL H0 (gy_ rfl (ll_ rfl (gy_ rfl (b_ rfl rfl leq_ (pt_ rfl rfl (s_mvB rfl (em_ (g:=12) rfl (fun g'2=>gn_ (b:=true) rfl rfl (gn_ (b:=true) rfl rfl (gn_ (b:=true) rfl rfl (pt_ rfl rfl (e_ (ct_ rfl (q_ rfl (m_ (e_ (rt_ (hQ _ _ _ rfl ((h.1 g'1).1 g'2)))))))))))) (fun g'2=>gy_ rfl (s_mvL H0 (gy_ rfl (ll_ rfl (gy_ rfl (b_ rfl rfl gtr_ (pf_ rfl rfl (e_ (cs_ rfl (fun g'3=>q_ rfl (m_ (e_ (rt_ (hQ _ _ _ rfl (((h.1 g'1).2 g'2).1 g'3)))))) (fun g'3=>sk_ (w162_1 hQ H0 (((h.1 g'1).2 g'2).2 g'3))))))))))))))))))))) (fun g'1=>gn_ (b:=false) rfl rfl (gn_ (b:=false) rfl rfl (gn_ (b:=false) rfl rfl (pf_ rfl rfl (s_mvB rfl (gy_ rfl (s_mvL H0 (gy_ rfl (ll_ rfl (gy_ rfl (b_ rfl rfl gtr_ (pf_ rfl rfl (e_ (cs_ rfl (fun g'4=>q_ rfl (m_ (e_ (rt_ (hQ _ _ _ rfl ((h.2 g'1).1 g'4)))))) (fun g'4=>sk_ (w162_1 hQ H0 ((h.2 g'1).2 g'4))))))))))))))))))))))))))
end
theorem p162 {prog:Prog}(hf:prog.fn 162 = some pf162){l0:List Pan}{K:Bool→Prop}(h:T162_0 prog K l0) :∃res0:Bool,K res0∧Pus prog 162 [.sl .ext (List.map Pan.row l0)] (.b res0):=by
  obtain ⟨v,hv,res0,hk,rfl⟩:=Pus.of (K:=fun v=>∃res0:Bool,K res0∧v = .b res0) hf rfl (w162_0 (σ:=sl0 [.sl .ext (List.map Pan.row l0)]) (fun σ st   res0 H2 hk=>⟨.b res0,by simp only [pf162,ares,aresL,H2,ares1,Option.map_some],_,rfl,res0,hk,rfl⟩) rfl h)
  exact ⟨res0,hk,hv⟩
abbrev H164 (Q:AE→Sl→St→Prop)(K:List UInt8→Int→Prop):Prop:=∀(σ:Sl)(st:St)(res0:List UInt8)(res1:Int),σ 2 = .s res0→σ 3 = .i .i64 res1→K res0 res1→Q .ret σ st
section
variable {prog:Prog}{d:Nat}{Q:AE→Sl→St→Prop}{K:List UInt8→Int→Prop}(hQ:H164 Q K){σ:Sl}{st:St}
include hQ
end
abbrev H166 (Q:AE→Sl→St→Prop)(K:List UInt8→Int→Prop):Prop:=∀(σ:Sl)(st:St)(res0:List UInt8)(res1:Int),σ 2 = .s res0→σ 3 = .i .i64 res1→K res0 res1→Q .ret σ st
section
variable {prog:Prog}{d:Nat}{Q:AE→Sl→St→Prop}{K:List UInt8→Int→Prop}(hQ:H166 Q K){σ:Sl}{st:St}
include hQ
end
abbrev H171 (Q:AE→Sl→St→Prop)(K:Bool→Prop):Prop:=∀(σ:Sl)(st:St)(res0:Bool),σ 4 = .b res0→K res0→Q .ret σ st
section
variable {prog:Prog}{d:Nat}{Q:AE→Sl→St→Prop}{K:Bool→Prop}(hQ:H171 Q K){σ:Sl}{st:St}
include hQ
end
abbrev H172 (Q:AE→Sl→St→Prop)(K:Val→Prop):Prop:=∀(σ:Sl)(st:St)(k0:Key)(v0:Nat)(o0_0:Own)(res0:Val),σ 2 = .p k0 v0 0→lk st.bx k0 = some (v0,[.i .u8 res0.kind,.i .i64 res0.int,.s res0.text,.sl o0_0 (List.map Val.row res0.list),.b res0.cut])→K res0→Q .ret σ st
section
variable {prog:Prog}{d:Nat}{Q:AE→Sl→St→Prop}{K:Val→Prop}(hQ:H172 Q K){σ:Sl}{st:St}
include hQ
end
abbrev H173 (Q:AE→Sl→St→Prop)(K:Val→Prop):Prop:=∀(σ:Sl)(st:St)(k0:Key)(v0:Nat)(o0_0:Own)(res0:Val),σ 0 = .p k0 v0 0→lk st.bx k0 = some (v0,[.i .u8 res0.kind,.i .i64 res0.int,.s res0.text,.sl o0_0 (List.map Val.row res0.list),.b res0.cut])→K res0→Q .ret σ st
section
variable {prog:Prog}{d:Nat}{Q:AE→Sl→St→Prop}{K:Val→Prop}(hQ:H173 Q K){σ:Sl}{st:St}
include hQ
end
abbrev H174 (Q:AE→Sl→St→Prop)(K:Val→Prop):Prop:=∀(σ:Sl)(st:St)(k0:Key)(v0:Nat)(o0_0:Own)(res0:Val),σ 2 = .p k0 v0 0→lk st.bx k0 = some (v0,[.i .u8 res0.kind,.i .i64 res0.int,.s res0.text,.sl o0_0 (List.map Val.row res0.list),.b res0.cut])→K res0→Q .ret σ st
section
variable {prog:Prog}{d:Nat}{Q:AE→Sl→St→Prop}{K:Val→Prop}(hQ:H174 Q K){σ:Sl}{st:St}
include hQ
end
abbrev H176 (Q:AE→Sl→St→Prop)(K:Bool→Prop):Prop:=∀(σ:Sl)(st:St)(res0:Bool),σ 2 = .b res0→K res0→Q .ret σ st
section
variable {prog:Prog}{d:Nat}{Q:AE→Sl→St→Prop}{K:Bool→Prop}(hQ:H176 Q K){σ:Sl}{st:St}
include hQ
end
abbrev H184 (d:Nat)(st0:St)(Q:AE→Sl→St→Prop)(K:List Pan→Prop):Prop:=∀(σ:Sl)(st:St)(res0:List Pan),σ 0 = .sl .full (List.map Pan.row res0)→Fr d (d,0) st0.bx st0.ow st.bx st.ow→K res0→Q .ret σ st
section
variable {prog:Prog}{d:Nat}{Q:AE→Sl→St→Prop}{K:List Pan→Prop}{st0:St}(hQ:H184 d st0 Q K){σ:Sl}{st:St}
include hQ
end
abbrev H161 (Q:AE→Sl→St→Prop)(K:Bool→Prop):Prop:=∀(σ:Sl)(st:St)(res0:Bool),σ 0 = .b res0→K res0→Q .ret σ st
section
variable {prog:Prog}{d:Nat}{Q:AE→Sl→St→Prop}{K:Bool→Prop}(hQ:H161 Q K){σ:Sl}{st:St}
include hQ
end
end Go.AM

/- Parts of the proof. -/
namespace Go.AM
open Go
set_option linter.unusedVariables false
set_option linter.unusedSimpArgs false
set_option maxRecDepth 4000
attribute [local irreducible] WO fillCells fillRows
abbrev H149 (Q:AE→Sl→St→Prop)(K:Bool→Prop):Prop:=∀(σ:Sl)(st:St)(res0:Bool),σ 4 = .b res0→K res0→Q .ret σ st
section
variable {prog:Prog}{d:Nat}{Q:AE→Sl→St→Prop}{K:Bool→Prop}(hQ:H149 Q K){σ:Sl}{st:St}
include hQ
end
abbrev H150 (Q:AE→Sl→St→Prop)(K:Bool→Prop):Prop:=∀(σ:Sl)(st:St)(res0:Bool),σ 2 = .b res0→K res0→Q .ret σ st
section
variable {prog:Prog}{d:Nat}{Q:AE→Sl→St→Prop}{K:Bool→Prop}(hQ:H150 Q K){σ:Sl}{st:St}
include hQ
end
end Go.AM
