/- Parts of the proof: U38b, U38c, U39a. -/
import Derived.Test.YtffbkdcgkhbpoaaG2
set_option linter.all false
namespace Go.AM
open Go
set_option linter.unusedVariables false
set_option linter.unusedSimpArgs false
set_option maxRecDepth 4000
attribute [local irreducible] WO fillCells fillRows
def r128_0:List AI:=[oC 4 (.b false)]
def r128_1:List AI:=[oM 8 0,
 oN 9 8,
 oF 10 0 9,
 oL 11 10,
 oM 12 1,
 oO 13 (.call false 36 [(.t 11),(.t 12)]),
 oM 7 13,
 oE 14 0 7,
 oE 15 1 7,
 oM 5 14,
 oM 6 15]
def r128_2:List AI:=[oM 16 0,
 oM 17 5,
 oN 18 16,
 oF 19 0 18,
 oS 1 19 17]
def r128_3:List AI:=[oM 20 6,
 oM 4 20]
abbrev b128:AC:=(.seq (.reg 0 r128_0) (.seq (.reg 1 r128_1) (.seq (.reg 2 r128_2) (.seq (.reg 3 r128_3) .ret))))
def pf128:AF:={ nt:=21,res:=[.tmp 4],body:=b128 }
abbrev H128 (d:Nat)(st0:St)(kp:Key)(vp:Nat)(Q:AE→Sl→St→Prop)(K:Bool→Sc→Prop):Prop:=∀(σ:Sl)(st:St)(res0:Bool)(b_:Sc),σ 4 = .b res0→lk st.bx kp = some (vp,[.s b_.left])→Fr d kp st0.bx st0.ow st.bx st.ow→K res0 b_→Q .ret σ st
def T128_0 (prog:Prog)(K:Bool→Sc→Prop)(what1:List UInt8)(mP:Sc):Prop:=
  ∃r'1:List UInt8,∃r'2:Bool,Pus prog 36 [.s mP.left,.s what1] (.tup [.s r'1,.b r'2])∧K r'2 (Sc.mk r'1)
section
variable {prog:Prog}{d:Nat}{Q:AE→Sl→St→Prop}{K:Bool→Sc→Prop}{st0:St}{kp:Key}{vp:Nat}(hQ:H128 d st0 kp vp Q K)(hkp:kp.1 < d){σ:Sl}{st:St}
include hQ hkp
theorem w128_0 {what1:List UInt8}{mP:Sc}(H0:σ 0 = .p kp vp 0)(H1:σ 1 = .s what1)(BP:lk st.bx kp = some (vp,[.s mP.left]))(FR:Fr d kp st0.bx st0.ow st.bx st.ow)(h:T128_0 prog K what1 mP):W prog d (.seq (.reg 0 r128_0) (.seq (.reg 1 r128_1) (.seq (.reg 2 r128_2) (.seq (.reg 3 r128_3) .ret)))) σ st Q:=
 q_ rfl (m_ (e_ (q_ rfl (m_ (s_nilP H0 (f_ rfl (l_ rfl BP rfl rfl (m_ (h.elim fun r'1 e'4=>e'4.elim fun r'2 e'3=>ca_ (sc rfl rfl (sc H1 rfl sn)) e'3.1 (m_ (x_ rfl rfl (x_ rfl rfl (m_ (m_ (e_ (q_ rfl (m_ (m_ (s_nilP H0 (f_ rfl (so_ rfl BP rfl rfl rfl (e_ (q_ rfl (m_ (m_ (e_ (rt_ (hQ _ _ _ _ rfl lk_here (Fr.own FR) e'3.2))))))))))))))))))))))))))))
end
theorem p128 {prog:Prog}(hf:prog.fn 128 = some pf128){what1:List UInt8}{mP:Sc}{K:Bool→Sc→Prop}(h:T128_0 prog K what1 mP):PuXK prog 128 (Bx [.s mP.left]) [.s what1] (fun r (b_:Sc)=>∃res0:Bool,(r = .b res0)∧K res0 b_) (fun b_=>(Bx [.s b_.left])):=
  PuXK.of hf rfl (fun _=>Bx.out) fun d st kp vp hkp hB=>w128_0 (st0:=st) (Q:=fun e σ st'=>(e = .normal∨e = .ret)∧∃r b_,ares σ st' pf128.res = some r∧_∧_∧Fr d kp st.bx st.ow st'.bx st'.ow) (fun σ st'   res0 b_ H4 hb hf hk=>⟨.inr rfl,.b res0,b_,by simp only [pf128,ares,aresL,H4,ares1,Option.map_some,H4],⟨res0,rfl,hk⟩,hb,hf⟩) hkp (σ:=sl0 [.p kp vp 0,.s what1]) rfl rfl hB Fr.refl h
def r129_0:List AI:=[oO 8 (.alloc [.i .u8 0,.i .i64 0,.s [],.sl .full [],.b false]),
 oC 9 (.b false)]
def r129_1:List AI:=[oM 13 1,
 oO 14 (.build [.i .u8 0,.i .i64 0,.s [],.sl .full [],.b false] [(0,1,(.t 13))]),
 oO 10 (.alloc [.i .u8 0,.i .i64 0,.s [],.sl .full [],.b false]),
 oS 5 10 14]
def r129_2:List AI:=[oM 15 0,
 oM 16 2,
 oO 17 (.call true 128 [(.t 15),(.t 16)])]
def r129_3:List AI:=[oO 18 (.load 5 true (.t 10)),
 oS 5 8 18,
 oC 9 (.b true)]
def r129_4:List AI:=[oF 19 3 10,
 oL 20 19,
 oO 21 (.len false (.t 20)),
 oB 22 .leq (.t 21) (.c (.i .i64 16))]
def r129_5:List AI:=[oM 24 0,
 oM 25 3,
 oO 26 (.call true 107 [(.t 24),(.t 25)]),
 oM 23 26,
 oE 27 0 23,
 oE 28 1 23,
 oO 11 (.alloc [.i .u8 0,.i .i64 0,.s [],.sl .full [],.b false]),
 oS 5 11 27,
 oM 12 28]
def r129_6:List AI:=[oM 29 12,
 oO 30 (.un .not (.t 29))]
def r129_7:List AI:=[oO 31 (.load 5 true (.t 10)),
 oS 5 8 31,
 oC 9 (.b false)]
def r129_8:List AI:=[oF 32 3 10,
 oL 33 32,
 oO 34 (.load 5 true (.t 11)),
 oO 35 (.bslice [.i .u8 0,.i .i64 0,.s [],.sl .full [],.b false] 1 [(0,(.t 34))]),
 oO 36 (.app 5 64 (.t 33) (.t 35)),
 oF 37 3 10,
 oS 1 37 36]
def r129_9:List AI:=[oM 38 0,
 oM 39 2,
 oO 40 (.call true 128 [(.t 38),(.t 39)])]
def r129_10:List AI:=[oO 41 (.load 5 true (.t 10)),
 oS 5 8 41,
 oC 9 (.b true)]
def r129_11:List AI:=[oM 42 0,
 oO 43 (.call true 128 [(.t 42),(.c (.s [44,32]))]),
 oO 44 (.un .not (.t 43))]
def r129_12:List AI:=[oO 45 (.load 5 true (.t 10)),
 oS 5 8 45,
 oC 9 (.b false)]
def r129_13:List AI:=[oO 46 (.load 5 true (.t 10)),
 oS 5 8 46,
 oC 9 (.b false)]
abbrev l129_0:AC:=(.seq (.seq (.reg 4 r129_4) (.cond (.t 22) .skip (.exit 0))) (.block 1 (.seq (.reg 5 r129_5) (.seq (.seq (.reg 6 r129_6) (.cond (.t 30) (.seq (.reg 7 r129_7) .ret) .skip)) (.seq (.reg 8 r129_8) (.seq (.seq (.reg 9 r129_9) (.cond (.t 40) (.seq (.reg 10 r129_10) .ret) .skip)) (.seq (.reg 11 r129_11) (.cond (.t 44) (.seq (.reg 12 r129_12) .ret) .skip))))))))
abbrev c129_1:AC:=(.seq (.reg 13 r129_13) .ret)
abbrev b129:AC:=(.seq (.reg 0 r129_0) (.seq (.reg 1 r129_1) (.seq (.seq (.reg 2 r129_2) (.cond (.t 17) (.seq (.reg 3 r129_3) .ret) .skip)) (.seq (.block 0 (.loop l129_0)) c129_1))))
def pf129:AF:={ nt:=47,res:=[.cell 8 5 true,.tmp 9],body:=b129 }
abbrev H129 (d:Nat)(st0:St)(kp:Key)(vp:Nat)(Q:AE→Sl→St→Prop)(K:Val→Bool→Sc→Prop):Prop:=∀(σ:Sl)(st:St)(k0:Key)(v0:Nat)(o0_0:Own)(res0:Val)(res1:Bool)(b_:Sc),σ 8 = .p k0 v0 0→lk st.bx k0 = some (v0,[.i .u8 res0.kind,.i .i64 res0.int,.s res0.text,.sl o0_0 (List.map Val.row res0.list),.b res0.cut])→σ 9 = .b res1→lk st.bx kp = some (vp,[.s b_.left])→Fr d kp st0.bx st0.ow st.bx st.ow→K res0 res1 b_→Q .ret σ st
abbrev I129_0 (prog:Prog)(d:Nat)(Q:AE→Sl→St→Prop)(st0:St)(kp:Key)(vp:Nat)(end2:List UInt8)(nest3:Int)(m0:Val)(m4098:Val)(mP:Sc):Prop:=
  ∀(σ:Sl)(st:St) (o_m0_3 o_m4098_3:Own) (v0 v4098:Nat),σ 0 = .p kp vp 0→σ 2 = .s end2→σ 3 = .i .i64 nest3→σ 8 = .p (d,0) v0 0→σ 10 = .p (d,4098) v4098 0→ApM d st.ow o_m4098_3 m4098.list.length→lk st.bx (d,0) = some (v0,[.i .u8 m0.kind,.i .i64 m0.int,.s m0.text,.sl o_m0_3 (List.map Val.row m0.list),.b m0.cut])→lk st.bx (d,4098) = some (v4098,[.i .u8 m4098.kind,.i .i64 m4098.int,.s m4098.text,.sl o_m4098_3 (List.map Val.row m4098.list),.b m4098.cut])→lk st.bx kp = some (vp,[.s mP.left])→Fr d kp st0.bx st0.ow st.bx st.ow→W prog d (.loop l129_0) σ st (blockW 0 (thenW prog d c129_1 Q))
def T129_2 (prog:Prog)(K:Val→Bool→Sc→Prop)(m0:Val)(m4098:Val)(mP:Sc):Prop:=
  K m4098 false mP
def T129_1 (prog:Prog)(K:Val→Bool→Sc→Prop)(P0:Val→Val→Sc→Prop)(end2:List UInt8)(nest3:Int)(m0:Val)(m4098:Val)(mP:Sc):Prop:=
  ((m4098.list.length:Int)≤16→∃r'2:Val,∃r'3:Bool,∃b'9:Sc,PuX prog 107 (Bx [.s mP.left]) [.i .i64 nest3] (fun r=>∃o'4_0:Own,r = .tup [r'2.avo o'4_0,.b r'3]) ((Bx [.s b'9.left]))∧((!r'3) = true→K m4098 false b'9)∧((!r'3) = false→Fit (m4098.list.length + [r'2].length) 64∧∃r'16:Bool,∃b'22:Sc,PuX prog 128 (Bx [.s b'9.left]) [.s end2] (fun r=>r = .b r'16) ((Bx [.s b'22.left]))∧(r'16 = true→K (Val.mk m4098.kind m4098.int m4098.text (m4098.list ++ [r'2]) m4098.cut) true b'22)∧(r'16 = false→∃r'24:Bool,∃b'30:Sc,PuX prog 128 (Bx [.s b'22.left]) [.s ([44,32]:List UInt8)] (fun r=>r = .b r'24) ((Bx [.s b'30.left]))∧((!r'24) = true→K (Val.mk m4098.kind m4098.int m4098.text (m4098.list ++ [r'2]) m4098.cut) false b'30)∧((!r'24) = false→P0 m0 (Val.mk m4098.kind m4098.int m4098.text (m4098.list ++ [r'2]) m4098.cut) b'30))))∧(¬((m4098.list.length:Int)≤16)→T129_2 prog K m0 m4098 mP)
def T129_0 (prog:Prog)(K:Val→Bool→Sc→Prop)(kind1:Int)(end2:List UInt8)(nest3:Int)(mP:Sc):Prop:=
  ∃r'1:Bool,∃b'7:Sc,PuX prog 128 (Bx [.s mP.left]) [.s end2] (fun r=>r = .b r'1) ((Bx [.s b'7.left]))∧(r'1 = true→K (Val.mk kind1 0 [] ([]:List Val) false) true b'7)∧(r'1 = false→∀P0:Val→Val→Sc→Prop,(∀(m0:Val)(m4098:Val)(mP:Sc),T129_1 prog K P0 end2 nest3 m0 m4098 mP→P0 m0 m4098 mP)→P0 (Val.mk 0 0 [] ([]:List Val) false) (Val.mk kind1 0 [] ([]:List Val) false) b'7)
section
variable {prog:Prog}{d:Nat}{Q:AE→Sl→St→Prop}{K:Val→Bool→Sc→Prop}{st0:St}{kp:Key}{vp:Nat}(hQ:H129 d st0 kp vp Q K)(hkp:kp.1 < d){σ:Sl}{st:St}
include hQ hkp
theorem w129_2 {m0 m4098:Val}{mP:Sc}{o_m0_3 o_m4098_3:Own}{v0:Nat}{v4098:Nat}(H8:σ 8 = .p (d,0) v0 0)(H10:σ 10 = .p (d,4098) v4098 0)(Ab4098:ApM d st.ow o_m4098_3 m4098.list.length)(B0:lk st.bx (d,0) = some (v0,[.i .u8 m0.kind,.i .i64 m0.int,.s m0.text,.sl o_m0_3 (List.map Val.row m0.list),.b m0.cut]))(B4098:lk st.bx (d,4098) = some (v4098,[.i .u8 m4098.kind,.i .i64 m4098.int,.s m4098.text,.sl o_m4098_3 (List.map Val.row m4098.list),.b m4098.cut]))(BP:lk st.bx kp = some (vp,[.s mP.left]))(FR:Fr d kp st0.bx st0.ow st.bx st.ow)(h:T129_2 prog K m0 m4098 mP):W prog d c129_1 σ st Q:=
 q_ rfl (l_ H10 B4098 rfl rfl (so_ H8 B0 rfl rfl rfl (m_ (e_ (rt_ (hQ _ _ _ _ _ _ _ _ H8 lk_here rfl (lk_otherP hkp BP) (Fr.box FR) h))))))
theorem w129_1 {end2:List UInt8}{nest3:Int}{m0 m4098:Val}{mP:Sc}{P0:Val→Val→Sc→Prop} (kP0 :∀(m0:Val)(m4098:Val)(mP:Sc),P0 m0 m4098 mP→I129_0 prog d Q st0 kp vp end2 nest3 m0 m4098 mP){o_m0_3 o_m4098_3:Own}{v0:Nat}{v4098:Nat}(H0:σ 0 = .p kp vp 0)(H2:σ 2 = .s end2)(H3:σ 3 = .i .i64 nest3)(H8:σ 8 = .p (d,0) v0 0)(H10:σ 10 = .p (d,4098) v4098 0)(Ab4098:ApM d st.ow o_m4098_3 m4098.list.length)(B0:lk st.bx (d,0) = some (v0,[.i .u8 m0.kind,.i .i64 m0.int,.s m0.text,.sl o_m0_3 (List.map Val.row m0.list),.b m0.cut]))(B4098:lk st.bx (d,4098) = some (v4098,[.i .u8 m4098.kind,.i .i64 m4098.int,.s m4098.text,.sl o_m4098_3 (List.map Val.row m4098.list),.b m4098.cut]))(BP:lk st.bx kp = some (vp,[.s mP.left]))(FR:Fr d kp st0.bx st0.ow st.bx st.ow)(h:T129_1 prog K P0 end2 nest3 m0 m4098 mP):W prog d l129_0 σ st (thenW prog d (.loop l129_0) (blockW 0 (thenW prog d c129_1 Q))):=
 sq_ (q_ rfl (f_ H10 (l_ rfl B4098 rfl rfl (ll_ rfl (b_ rfl rfl leq_ (e_ (cs_ rfl (fun g'1=>sk_ (bk_ (sq_ (W.reg (m_ (m_ ((h.1 g'1).elim fun r'2 e'34=>e'34.elim fun r'3 e'35=>e'35.elim fun b'9 e'5=>s_callX1 (sec H0 (sec H3 sen)) e'5.1 (Nat.lt_succ_of_lt hkp) (lk_otherP hkp BP) (fun o'4_0 st'6 hb'7 hf'8=>m_ (x_ rfl rfl (x_ rfl rfl (s_alloc (so_ rfl ((hf'8.1 (d,20486) (Nat.lt_succ_self d) (key_LP hkp)).trans (show lk _ (d,20486) = some (_,([.i .u8 0,.i .i64 0,.s [],.sl .full (List.map Val.row ([]:List Val)),.b false]:List AV)) from lk_here)) rfl rfl rfl (m_ (e_ (sq_ (q_ rfl (m_ (nt_ rfl (e_ (cb_ rfl (fun g'10=>q_ rfl (l_ H10 (lk_other rfl ((hf'8.1 (d,4098) (Nat.lt_succ_self d) (key_LP hkp)).trans (lk_other rfl B4098))) rfl rfl (so_ H8 (lk_other rfl ((hf'8.1 (d,0) (Nat.lt_succ_self d) (key_LP hkp)).trans (lk_other rfl B0))) rfl rfl rfl (m_ (e_ (rt_ (hQ _ _ _ _ _ _ _ _ H8 lk_here rfl (lk_otherP hkp (lk_otherP hkp hb'7)) (Fr.box (Fr.box (Fr.pass (Fr.box FR) hf'8))) (e'5.2.1 g'10)))))))) (fun g'10=>sk_ (q_ rfl (f_ H10 (l_ rfl (lk_other rfl ((hf'8.1 (d,4098) (Nat.lt_succ_self d) (key_LP hkp)).trans (lk_other rfl B4098))) rfl rfl (l_ rfl lk_here rfl rfl (s_bslM (f:=Val.row) (l:=[r'2]) rfl rfl (g_cons rfl rfl rfl g_nil) (by simp only [List.map_cons,List.map_nil,Val.row_eq]; rfl) (s_app Val.row_len rfl rfl rfl ((ApM.call Ab4098 hf'8).1) (e'5.2.2 g'10).1 rfl (fun o'11 ow'14 a'12 fr'13 on'15=>f_ H10 (so_ rfl (lk_other rfl ((hf'8.1 (d,4098) (Nat.lt_succ_self d) (key_LP hkp)).trans (lk_other rfl B4098))) rfl rfl rfl (e_ (sq_ (q_ rfl (m_ (m_ ((e'5.2.2 g'10).2.elim fun r'16 e'33=>e'33.elim fun b'22 e'18=>cX_ (sec H0 (sec H2 sen)) e'18.1 (Nat.lt_succ_of_lt hkp) (lk_otherP hkp (lk_otherP hkp hb'7)) (fun st'19 hb'20 hf'21=>e_ (cb_ rfl (fun g'23=>q_ rfl (l_ H10 ((hf'21.1 (d,4098) (Nat.lt_succ_self d) (key_LP hkp)).trans lk_here) rfl rfl (so_ H8 ((hf'21.1 (d,0) (Nat.lt_succ_self d) (key_LP hkp)).trans (lk_other rfl (lk_other rfl ((hf'8.1 (d,0) (Nat.lt_succ_self d) (key_LP hkp)).trans (lk_other rfl B0))))) rfl rfl rfl (m_ (e_ (rt_ (hQ _ _ _ _ _ _ _ _ H8 lk_here rfl (lk_otherP hkp hb'20) (Fr.box (Fr.pass (Fr.box (Fr.app (Fr.box (Fr.pass (Fr.box FR) hf'8)) (ApM.call Ab4098 hf'8).2 fr'13)) hf'21)) (e'18.2.1 g'23)))))))) (fun g'23=>sk_ (q_ rfl (m_ ((e'18.2.2 g'23).elim fun r'24 e'32=>e'32.elim fun b'30 e'26=>cX_ (sec H0 (sec rfl sen)) e'26.1 (Nat.lt_succ_of_lt hkp) hb'20 (fun st'27 hb'28 hf'29=>nt_ rfl (e_ (cb_ rfl (fun g'31=>q_ rfl (l_ H10 ((hf'29.1 (d,4098) (Nat.lt_succ_self d) (key_LP hkp)).trans ((hf'21.1 (d,4098) (Nat.lt_succ_self d) (key_LP hkp)).trans lk_here)) rfl rfl (so_ H8 ((hf'29.1 (d,0) (Nat.lt_succ_self d) (key_LP hkp)).trans ((hf'21.1 (d,0) (Nat.lt_succ_self d) (key_LP hkp)).trans (lk_other rfl (lk_other rfl ((hf'8.1 (d,0) (Nat.lt_succ_self d) (key_LP hkp)).trans (lk_other rfl B0)))))) rfl rfl rfl (m_ (e_ (rt_ (hQ _ _ _ _ _ _ _ _ H8 lk_here rfl (lk_otherP hkp hb'28) (Fr.box (Fr.pass (Fr.pass (Fr.box (Fr.app (Fr.box (Fr.pass (Fr.box FR) hf'8)) (ApM.call Ab4098 hf'8).2 fr'13)) hf'21) hf'29)) (e'26.2.1 g'31)))))))) (fun g'31=>sk_ (kP0 _ _ _ (e'26.2.2 g'31) _ _ _ _ _ _ H0 H2 H3 H8 H10 (ApM.call (ApM.call (ApM.mk a'12 (Mine.app (ApM.call Ab4098 hf'8).2 rfl on'15)) hf'21) hf'29) ((hf'29.1 (d,0) (Nat.lt_succ_self d) (key_LP hkp)).trans ((hf'21.1 (d,0) (Nat.lt_succ_self d) (key_LP hkp)).trans (lk_other rfl (lk_other rfl ((hf'8.1 (d,0) (Nat.lt_succ_self d) (key_LP hkp)).trans (lk_other rfl B0)))))) ((hf'29.1 (d,4098) (Nat.lt_succ_self d) (key_LP hkp)).trans ((hf'21.1 (d,4098) (Nat.lt_succ_self d) (key_LP hkp)).trans lk_here)) hb'28 (Fr.pass (Fr.pass (Fr.box (Fr.app (Fr.box (Fr.pass (Fr.box FR) hf'8)) (ApM.call Ab4098 hf'8).2 fr'13)) hf'21) hf'29))))))))))))))))))))))))))))))))))))))))))))))) (fun g'1=>ex_ (w129_2 hQ hkp H8 H10 Ab4098 B0 B4098 BP FR (h.2 g'1))))))))))
theorem w129_0 {kind1:Int}{end2:List UInt8}{nest3:Int}{mP:Sc}(H0:σ 0 = .p kp vp 0)(H1:σ 1 = .i .u8 kind1)(H2:σ 2 = .s end2)(H3:σ 3 = .i .i64 nest3)(BP:lk st.bx kp = some (vp,[.s mP.left]))(FR:Fr d kp st0.bx st0.ow st.bx st.ow)(h:T129_0 prog K kind1 end2 nest3 mP):W prog d (.seq (.reg 0 r129_0) (.seq (.reg 1 r129_1) (.seq (.seq (.reg 2 r129_2) (.cond (.t 17) (.seq (.reg 3 r129_3) .ret) .skip)) (.seq (.block 0 (.loop l129_0)) c129_1)))) σ st Q:=
 sq_ (W.reg (s_alloc (m_ (e_ (sq_ (W.reg (m_ (s_build (f_cons H1 rfl f_nil) (s_alloc (so_ rfl (show lk _ (d,4098) = some (_,([.i .u8 0,.i .i64 0,.s [],.sl .full (List.map Val.row ([]:List Val)),.b false]:List AV)) from lk_here) rfl rfl rfl (e_ (sq_ (q_ rfl (m_ (m_ (h.elim fun r'1 e'9=>e'9.elim fun b'7 e'3=>cX_ (sec H0 (sec H2 sen)) e'3.1 (Nat.lt_succ_of_lt hkp) (lk_otherP hkp (lk_otherP hkp (lk_otherP hkp BP))) (fun st'4 hb'5 hf'6=>e_ (cb_ rfl (fun g'8=>q_ rfl (l_ rfl ((hf'6.1 (d,4098) (Nat.lt_succ_self d) (key_LP hkp)).trans lk_here) rfl rfl (so_ rfl ((hf'6.1 (d,0) (Nat.lt_succ_self d) (key_LP hkp)).trans (lk_other rfl (lk_other rfl (show lk _ (d,0) = some (_,([.i .u8 0,.i .i64 0,.s [],.sl .full (List.map Val.row ([]:List Val)),.b false]:List AV)) from lk_here)))) rfl rfl rfl (m_ (e_ (rt_ (hQ _ _ _ _ _ _ _ _ rfl lk_here rfl (lk_otherP hkp hb'5) (Fr.box (Fr.pass (Fr.box (Fr.box (Fr.box FR))) hf'6)) (e'3.2.1 g'8)))))))) (fun g'8=>sk_ (sq_ (bk_ ((e'3.2.2 g'8) (I129_0 prog d Q st0 kp vp end2 nest3) (fun _ _ _ hb _ _ _ _ _ _ H0 H2 H3 H8 H10 Ab4098 B0 B4098 BP FR=>W.loop (w129_1 hQ hkp (fun _ _ _ x=>x) H0 H2 H3 H8 H10 Ab4098 B0 B4098 BP FR hb)) _ _ _ _ _ _ H0 H2 H3 rfl rfl ApM.full ((hf'6.1 (d,0) (Nat.lt_succ_self d) (key_LP hkp)).trans (lk_other rfl (lk_other rfl (show lk _ (d,0) = some (_,([.i .u8 0,.i .i64 0,.s [],.sl .full (List.map Val.row ([]:List Val)),.b false]:List AV)) from lk_here)))) ((hf'6.1 (d,4098) (Nat.lt_succ_self d) (key_LP hkp)).trans lk_here) hb'5 (Fr.pass (Fr.box (Fr.box (Fr.box FR))) hf'6)))))))))))))))))))))))
end
theorem p129 {prog:Prog}(hf:prog.fn 129 = some pf129){kind1:Int}{end2:List UInt8}{nest3:Int}{mP:Sc}{K:Val→Bool→Sc→Prop}(h:T129_0 prog K kind1 end2 nest3 mP):PuXK prog 129 (Bx [.s mP.left]) [.i .u8 kind1,.s end2,.i .i64 nest3] (fun r (b_:Sc)=>∃res0:Val,∃res1:Bool,(∃o_0:Own,r = .tup [res0.avo o_0,.b res1])∧K res0 res1 b_) (fun b_=>(Bx [.s b_.left])):=
  PuXK.of hf rfl (fun _=>Bx.out) fun d st kp vp hkp hB=>w129_0 (st0:=st) (Q:=fun e σ st'=>(e = .normal∨e = .ret)∧∃r b_,ares σ st' pf129.res = some r∧_∧_∧Fr d kp st.bx st.ow st'.bx st'.ow) (fun σ st' k0 v0 o_0 res0 res1 b_ H8 HB8 H9 hb hf hk=>⟨.inr rfl,.tup [res0.avo o_0,.b res1],b_,by simp only [pf129,ares,aresL,ares_cellA (n:=5) H8 HB8 rfl,H9,ares_tmp,Option.map_some,ares_cellA (n:=5) H8 HB8 rfl,H9],⟨res0,res1,⟨o_0,rfl⟩,hk⟩,hb,hf⟩) hkp (σ:=sl0 [.p kp vp 0,.i .u8 kind1,.s end2,.i .i64 nest3]) rfl rfl rfl rfl hB Fr.refl h
def r107_0:List AI:=[oO 4 (.alloc [.i .u8 0,.i .i64 0,.s [],.sl .full [],.b false]),
 oC 5 (.b false)]
def r107_1:List AI:=[oM 12 1,
 oB 13 .eql (.t 12) (.c (.i .i64 0)),
 oM 14 13,
 oG 15 (.mv (.t 0)) 14 false,
 oG 16 (.nilc (.t 15)) 14 false,
 oG 17 (.fad 0 (.t 16)) 14 false,
 oG 18 (.load 1 false (.t 17)) 14 false,
 oG 19 (.bin .eql (.t 18) (.c (.s []))) 14 false,
 oO 20 (.pick (.t 14) (.c (.b true)) (.t 19))]
def r107_2:List AI:=[oO 21 (.build [.i .u8 0,.i .i64 0,.s [],.sl .full [],.b false] []),
 oS 5 4 21,
 oC 5 (.b false)]
def r107_3:List AI:=[oM 23 0,
 oO 24 (.call true 128 [(.t 23),(.c (.s [116,114,117,101]))]),
 oM 22 24]
def r107_4:List AI:=[oO 25 (.build [.i .u8 0,.i .i64 0,.s [],.sl .full [],.b false] [(0,1,(.c (.i .u8 1))),(1,1,(.c (.i .i64 1)))]),
 oS 5 4 25,
 oC 5 (.b true)]
def r107_5:List AI:=[oM 27 0,
 oO 28 (.call true 128 [(.t 27),(.c (.s [102,97,108,115,101]))]),
 oM 26 28]
def r107_6:List AI:=[oO 29 (.build [.i .u8 0,.i .i64 0,.s [],.sl .full [],.b false] [(0,1,(.c (.i .u8 1)))]),
 oS 5 4 29,
 oC 5 (.b true)]
def r107_7:List AI:=[oM 31 0,
 oO 32 (.call true 128 [(.t 31),(.c (.s [110,105,108]))]),
 oM 30 32]
def r107_8:List AI:=[oO 33 (.build [.i .u8 0,.i .i64 0,.s [],.sl .full [],.b false] [(0,1,(.c (.i .u8 4)))]),
 oS 5 4 33,
 oC 5 (.b true)]
def r107_9:List AI:=[oM 35 0,
 oO 36 (.call true 128 [(.t 35),(.c (.s [38,46,46,46]))]),
 oM 34 36]
def r107_10:List AI:=[oO 37 (.build [.i .u8 0,.i .i64 0,.s [],.sl .full [],.b false] [(0,1,(.c (.i .u8 4))),(4,1,(.c (.b true)))]),
 oS 5 4 37,
 oC 5 (.b true)]
def r107_11:List AI:=[oM 39 0,
 oO 40 (.call true 128 [(.t 39),(.c (.s [60,46,46,46,62]))]),
 oM 38 40]
def r107_12:List AI:=[oO 41 (.build [.i .u8 0,.i .i64 0,.s [],.sl .full [],.b false] [(0,1,(.c (.i .u8 7))),(4,1,(.c (.b true)))]),
 oS 5 4 41,
 oC 5 (.b true)]
def r107_13:List AI:=[oM 43 0,
 oO 44 (.call true 128 [(.t 43),(.c (.s [38]))]),
 oM 42 44]
def r107_14:List AI:=[oM 46 0,
 oM 47 1,
 oB 48 .sub (.t 47) (.c (.i .i64 1)),
 oO 49 (.call true 107 [(.t 46),(.t 48)]),
 oM 45 49,
 oE 50 0 45,
 oE 51 1 45,
 oO 6 (.alloc [.i .u8 0,.i .i64 0,.s [],.sl .full [],.b false]),
 oS 5 6 50,
 oM 7 51]
def r107_15:List AI:=[oO 52 (.load 5 true (.t 6)),
 oO 53 (.bslice [.i .u8 0,.i .i64 0,.s [],.sl .full [],.b false] 1 [(0,(.t 52))]),
 oO 54 (.build [.i .u8 0,.i .i64 0,.s [],.sl .full [],.b false] [(0,1,(.c (.i .u8 4))),(3,1,(.t 53))]),
 oM 55 7,
 oS 5 4 54,
 oM 5 55]
def r107_16:List AI:=[oM 57 0,
 oO 58 (.call true 128 [(.t 57),(.c (.s [123]))]),
 oM 56 58]
def r107_17:List AI:=[oM 59 0,
 oM 60 1,
 oB 61 .sub (.t 60) (.c (.i .i64 1)),
 oO 62 (.call true 129 [(.t 59),(.c (.i .u8 5)),(.c (.s [125])),(.t 61)]),
 oE 63 0 62,
 oE 64 1 62,
 oS 5 4 63,
 oM 5 64]
def r107_18:List AI:=[oM 66 0,
 oO 67 (.call true 128 [(.t 66),(.c (.s [91]))]),
 oM 65 67]
def r107_19:List AI:=[oM 68 0,
 oM 69 1,
 oB 70 .sub (.t 69) (.c (.i .i64 1)),
 oO 71 (.call true 129 [(.t 68),(.c (.i .u8 6)),(.c (.s [93])),(.t 70)]),
 oE 72 0 71,
 oE 73 1 71,
 oS 5 4 72,
 oM 5 73]
def r107_20:List AI:=[oM 75 0,
 oO 76 (.call true 128 [(.t 75),(.c (.s [60]))]),
 oM 74 76]
def r107_21:List AI:=[oM 77 0,
 oM 78 1,
 oB 79 .sub (.t 78) (.c (.i .i64 1)),
 oO 80 (.call true 129 [(.t 77),(.c (.i .u8 7)),(.c (.s [62])),(.t 79)]),
 oE 81 0 80,
 oE 82 1 80,
 oS 5 4 81,
 oM 5 82]
def r107_22:List AI:=[oM 84 0,
 oN 85 84,
 oF 86 0 85,
 oL 87 86,
 oO 88 (.ixS (.t 87) (.c (.i .i64 0))),
 oB 89 .eql (.t 88) (.c (.i .u8 34)),
 oM 83 89]
def r107_23:List AI:=[oM 91 0,
 oO 92 (.call true 130 [(.t 91)]),
 oM 90 92,
 oE 93 0 90,
 oE 94 1 90,
 oM 8 93,
 oM 9 94]
def r107_24:List AI:=[oM 95 8,
 oO 96 (.build [.i .u8 0,.i .i64 0,.s [],.sl .full [],.b false] [(0,1,(.c (.i .u8 3))),(2,1,(.t 95))]),
 oM 97 9,
 oS 5 4 96,
 oM 5 97]
def r107_25:List AI:=[oM 99 0,
 oO 100 (.call true 131 [(.t 99)]),
 oM 98 100,
 oE 101 0 98,
 oE 102 1 98,
 oM 10 101,
 oM 11 102]
def r107_26:List AI:=[oM 103 10,
 oO 104 (.build [.i .u8 0,.i .i64 0,.s [],.sl .full [],.b false] [(0,1,(.c (.i .u8 2))),(1,1,(.t 103))]),
 oM 105 11,
 oS 5 4 104,
 oM 5 105]
abbrev c107_0:AC:=(.cond (.t 42) (.seq (.reg 14 r107_14) (.seq (.reg 15 r107_15) .ret)) (.seq (.reg 16 r107_16) (.cond (.t 56) (.seq (.reg 17 r107_17) .ret) (.seq (.reg 18 r107_18) (.cond (.t 65) (.seq (.reg 19 r107_19) .ret) (.seq (.reg 20 r107_20) (.cond (.t 74) (.seq (.reg 21 r107_21) .ret) (.seq (.reg 22 r107_22) (.cond (.t 83) (.seq (.reg 23 r107_23) (.seq (.reg 24 r107_24) .ret)) .skip)))))))))
abbrev c107_1:AC:=(.cond (.t 38) (.seq (.reg 12 r107_12) .ret) (.seq (.reg 13 r107_13) c107_0))
abbrev c107_2:AC:=(.cond (.t 34) (.seq (.reg 10 r107_10) .ret) (.seq (.reg 11 r107_11) c107_1))
abbrev c107_3:AC:=(.cond (.t 30) (.seq (.reg 8 r107_8) .ret) (.seq (.reg 9 r107_9) c107_2))
abbrev c107_4:AC:=(.cond (.t 26) (.seq (.reg 6 r107_6) .ret) (.seq (.reg 7 r107_7) c107_3))
abbrev c107_5:AC:=(.cond (.t 22) (.seq (.reg 4 r107_4) .ret) (.seq (.reg 5 r107_5) c107_4))
abbrev c107_6:AC:=(.seq (.block 0 (.seq (.reg 3 r107_3) c107_5)) (.seq (.reg 25 r107_25) (.seq (.reg 26 r107_26) .ret)))
abbrev c107_7:AC:=(.seq (.seq (.reg 1 r107_1) (.cond (.t 20) (.seq (.reg 2 r107_2) .ret) .skip)) c107_6)
abbrev b107:AC:=(.seq (.reg 0 r107_0) c107_7)
def pf107:AF:={ nt:=106,res:=[.cell 4 5 true,.tmp 5],body:=b107 }
abbrev H107 (d:Nat)(st0:St)(kp:Key)(vp:Nat)(Q:AE→Sl→St→Prop)(K:Val→Bool→Sc→Prop):Prop:=∀(σ:Sl)(st:St)(k0:Key)(v0:Nat)(o0_0:Own)(res0:Val)(res1:Bool)(b_:Sc),σ 4 = .p k0 v0 0→lk st.bx k0 = some (v0,[.i .u8 res0.kind,.i .i64 res0.int,.s res0.text,.sl o0_0 (List.map Val.row res0.list),.b res0.cut])→σ 5 = .b res1→lk st.bx kp = some (vp,[.s b_.left])→Fr d kp st0.bx st0.ow st.bx st.ow→K res0 res1 b_→Q .ret σ st
def T107_8 (prog:Prog)(K:Val→Bool→Sc→Prop)(nest1:Int)(t42:Bool)(m0:Val)(mP:Sc):Prop:=
  (t42 = true→∃r'2:Val,∃r'3:Bool,∃b'9:Sc,PuX prog 107 (Bx [.s mP.left]) [.i .i64 (IntKind.i64.wrap (nest1 - 1))] (fun r=>∃o'4_0:Own,r = .tup [r'2.avo o'4_0,.b r'3]) ((Bx [.s b'9.left]))∧K (Val.mk 4 0 [] [r'2] false) r'3 b'9)∧(t42 = false→∃r'12:Bool,∃b'18:Sc,PuX prog 128 (Bx [.s mP.left]) [.s ([123]:List UInt8)] (fun r=>r = .b r'12) ((Bx [.s b'18.left]))∧(r'12 = true→∃r'20:Val,∃r'21:Bool,∃b'27:Sc,PuX prog 129 (Bx [.s b'18.left]) [.i .u8 5,.s ([125]:List UInt8),.i .i64 (IntKind.i64.wrap (nest1 - 1))] (fun r=>∃o'22_0:Own,r = .tup [r'20.avo o'22_0,.b r'21]) ((Bx [.s b'27.left]))∧K r'20 r'21 b'27)∧(r'12 = false→∃r'30:Bool,∃b'36:Sc,PuX prog 128 (Bx [.s b'18.left]) [.s ([91]:List UInt8)] (fun r=>r = .b r'30) ((Bx [.s b'36.left]))∧(r'30 = true→∃r'38:Val,∃r'39:Bool,∃b'45:Sc,PuX prog 129 (Bx [.s b'36.left]) [.i .u8 6,.s ([93]:List UInt8),.i .i64 (IntKind.i64.wrap (nest1 - 1))] (fun r=>∃o'40_0:Own,r = .tup [r'38.avo o'40_0,.b r'39]) ((Bx [.s b'45.left]))∧K r'38 r'39 b'45)∧(r'30 = false→∃r'48:Bool,∃b'54:Sc,PuX prog 128 (Bx [.s b'36.left]) [.s ([60]:List UInt8)] (fun r=>r = .b r'48) ((Bx [.s b'54.left]))∧(r'48 = true→∃r'56:Val,∃r'57:Bool,∃b'63:Sc,PuX prog 129 (Bx [.s b'54.left]) [.i .u8 7,.s ([62]:List UInt8),.i .i64 (IntKind.i64.wrap (nest1 - 1))] (fun r=>∃o'58_0:Own,r = .tup [r'56.avo o'58_0,.b r'57]) ((Bx [.s b'63.left]))∧K r'56 r'57 b'63)∧(r'48 = false→∃c'66:UInt8,b'54.left[0]? = some c'66∧((c'66.toNat:Int) = 34→∃r'69:List UInt8,∃r'70:Bool,∃b'76:Sc,PuX prog 130 (Bx [.s b'54.left]) [] (fun r=>r = .tup [.s r'69,.b r'70]) ((Bx [.s b'76.left]))∧K (Val.mk 3 0 r'69 ([]:List Val) false) r'70 b'76)∧(¬((c'66.toNat:Int) = 34)→∃r'79:Int,∃r'80:Bool,∃b'86:Sc,PuX prog 131 (Bx [.s b'54.left]) [] (fun r=>r = .tup [.i .i64 r'79,.b r'80]) ((Bx [.s b'86.left]))∧K (Val.mk 2 r'79 [] ([]:List Val) false) r'80 b'86)))))
def T107_7 (prog:Prog)(K:Val→Bool→Sc→Prop)(nest1:Int)(t38:Bool)(m0:Val)(mP:Sc):Prop:=
  (t38 = true→K (Val.mk 7 0 [] ([]:List Val) true) true mP)∧(t38 = false→∃r'2:Bool,∃b'8:Sc,PuX prog 128 (Bx [.s mP.left]) [.s ([38]:List UInt8)] (fun r=>r = .b r'2) ((Bx [.s b'8.left]))∧T107_8 prog K nest1 r'2 m0 b'8)
def T107_6 (prog:Prog)(K:Val→Bool→Sc→Prop)(nest1:Int)(t34:Bool)(m0:Val)(mP:Sc):Prop:=
  (t34 = true→K (Val.mk 4 0 [] ([]:List Val) true) true mP)∧(t34 = false→∃r'2:Bool,∃b'8:Sc,PuX prog 128 (Bx [.s mP.left]) [.s ([60,46,46,46,62]:List UInt8)] (fun r=>r = .b r'2) ((Bx [.s b'8.left]))∧T107_7 prog K nest1 r'2 m0 b'8)
def T107_5 (prog:Prog)(K:Val→Bool→Sc→Prop)(nest1:Int)(t30:Bool)(m0:Val)(mP:Sc):Prop:=
  (t30 = true→K (Val.mk 4 0 [] ([]:List Val) false) true mP)∧(t30 = false→∃r'2:Bool,∃b'8:Sc,PuX prog 128 (Bx [.s mP.left]) [.s ([38,46,46,46]:List UInt8)] (fun r=>r = .b r'2) ((Bx [.s b'8.left]))∧T107_6 prog K nest1 r'2 m0 b'8)
def T107_4 (prog:Prog)(K:Val→Bool→Sc→Prop)(nest1:Int)(t26:Bool)(m0:Val)(mP:Sc):Prop:=
  (t26 = true→K (Val.mk 1 0 [] ([]:List Val) false) true mP)∧(t26 = false→∃r'2:Bool,∃b'8:Sc,PuX prog 128 (Bx [.s mP.left]) [.s ([110,105,108]:List UInt8)] (fun r=>r = .b r'2) ((Bx [.s b'8.left]))∧T107_5 prog K nest1 r'2 m0 b'8)
def T107_3 (prog:Prog)(K:Val→Bool→Sc→Prop)(nest1:Int)(t22:Bool)(m0:Val)(mP:Sc):Prop:=
  (t22 = true→K (Val.mk 1 1 [] ([]:List Val) false) true mP)∧(t22 = false→∃r'2:Bool,∃b'8:Sc,PuX prog 128 (Bx [.s mP.left]) [.s ([102,97,108,115,101]:List UInt8)] (fun r=>r = .b r'2) ((Bx [.s b'8.left]))∧T107_4 prog K nest1 r'2 m0 b'8)
def T107_2 (prog:Prog)(K:Val→Bool→Sc→Prop)(nest1:Int)(m0:Val)(mP:Sc):Prop:=
  ∃r'1:Bool,∃b'7:Sc,PuX prog 128 (Bx [.s mP.left]) [.s ([116,114,117,101]:List UInt8)] (fun r=>r = .b r'1) ((Bx [.s b'7.left]))∧T107_3 prog K nest1 r'1 m0 b'7
def T107_1 (prog:Prog)(K:Val→Bool→Sc→Prop)(nest1:Int)(m0:Val)(mP:Sc):Prop:=
  (nest1 = 0→K (Val.mk 0 0 [] ([]:List Val) false) false mP)∧(¬(nest1 = 0)→(mP.left = ([]:List UInt8)→K (Val.mk 0 0 [] ([]:List Val) false) false mP)∧(¬(mP.left = ([]:List UInt8))→T107_2 prog K nest1 m0 mP))
def T107_0 (prog:Prog)(K:Val→Bool→Sc→Prop)(nest1:Int)(mP:Sc):Prop:=
  T107_1 prog K nest1 (Val.mk 0 0 [] ([]:List Val) false) mP
section
variable {prog:Prog}{d:Nat}{Q:AE→Sl→St→Prop}{K:Val→Bool→Sc→Prop}{st0:St}{kp:Key}{vp:Nat}(hQ:H107 d st0 kp vp Q K)(hkp:kp.1 < d){σ:Sl}{st:St}
include hQ hkp
theorem w107_8 {nest1:Int}{t42:Bool}{m0:Val}{mP:Sc}{o_m0_3:Own}{v0:Nat}(H0:σ 0 = .p kp vp 0)(H1:σ 1 = .i .i64 nest1)(H4:σ 4 = .p (d,0) v0 0)(H42:σ 42 = .b t42)(B0:lk st.bx (d,0) = some (v0,[.i .u8 m0.kind,.i .i64 m0.int,.s m0.text,.sl o_m0_3 (List.map Val.row m0.list),.b m0.cut]))(BP:lk st.bx kp = some (vp,[.s mP.left]))(FR:Fr d kp st0.bx st0.ow st.bx st.ow)(h:T107_8 prog K nest1 t42 m0 mP):W prog d c107_0 σ st (blockW 0 (thenW prog d (.seq (.reg 25 r107_25) (.seq (.reg 26 r107_26) .ret)) Q)):=
 cb_ H42 (fun g'1=>sq_ (W.reg (m_ (m_ (b_ H1 rfl sub_ ((h.1 g'1).elim fun r'2 e'10=>e'10.elim fun r'3 e'11=>e'11.elim fun b'9 e'5=>s_callX1 (sec H0 (sec rfl sen)) e'5.1 (Nat.lt_succ_of_lt hkp) (lk_otherP hkp BP) (fun o'4_0 st'6 hb'7 hf'8=>m_ (x_ rfl rfl (x_ rfl rfl (s_alloc (so_ rfl ((hf'8.1 (d,57351) (Nat.lt_succ_self d) (key_LP hkp)).trans (show lk _ (d,57351) = some (_,([.i .u8 0,.i .i64 0,.s [],.sl .full (List.map Val.row ([]:List Val)),.b false]:List AV)) from lk_here)) rfl rfl rfl (m_ (e_ (q_ rfl (l_ rfl lk_here rfl rfl (s_bslM (f:=Val.row) (l:=[r'2]) rfl rfl (g_cons rfl rfl rfl g_nil) (by simp only [List.map_cons,List.map_nil,Val.row_eq]; rfl) (s_build (f_cons rfl rfl (f_cons rfl rfl f_nil)) (m_ (so_ H4 (lk_other rfl ((hf'8.1 (d,0) (Nat.lt_succ_self d) (key_LP hkp)).trans (lk_other rfl B0))) rfl rfl rfl (m_ (e_ (rt_ (hQ _ _ _ _ _ _ _ _ H4 lk_here rfl (lk_otherP hkp (lk_otherP hkp hb'7)) (Fr.box (Fr.box (Fr.pass (Fr.box FR) hf'8))) e'5.2))))))))))))))))))))))) (fun g'1=>q_ rfl (m_ ((h.2 g'1).elim fun r'12 e'91=>e'91.elim fun b'18 e'14=>cX_ (sec H0 (sec rfl sen)) e'14.1 (Nat.lt_succ_of_lt hkp) BP (fun st'15 hb'16 hf'17=>m_ (e_ (cb_ rfl (fun g'19=>q_ rfl (m_ (m_ (b_ H1 rfl sub_ ((e'14.2.1 g'19).elim fun r'20 e'28=>e'28.elim fun r'21 e'29=>e'29.elim fun b'27 e'23=>s_callX1 (sec H0 (sec rfl (sec rfl (sec rfl sen)))) e'23.1 (Nat.lt_succ_of_lt hkp) hb'16 (fun o'22_0 st'24 hb'25 hf'26=>x_ rfl rfl (x_ rfl rfl (so_ H4 ((hf'26.1 (d,0) (Nat.lt_succ_self d) (key_LP hkp)).trans ((hf'17.1 (d,0) (Nat.lt_succ_self d) (key_LP hkp)).trans B0)) rfl rfl rfl (m_ (e_ (rt_ (hQ _ _ _ _ _ _ _ _ H4 lk_here rfl (lk_otherP hkp hb'25) (Fr.box (Fr.pass (Fr.pass FR hf'17) hf'26)) e'23.2)))))))))))) (fun g'19=>q_ rfl (m_ ((e'14.2.2 g'19).elim fun r'30 e'90=>e'90.elim fun b'36 e'32=>cX_ (sec H0 (sec rfl sen)) e'32.1 (Nat.lt_succ_of_lt hkp) hb'16 (fun st'33 hb'34 hf'35=>m_ (e_ (cb_ rfl (fun g'37=>q_ rfl (m_ (m_ (b_ H1 rfl sub_ ((e'32.2.1 g'37).elim fun r'38 e'46=>e'46.elim fun r'39 e'47=>e'47.elim fun b'45 e'41=>s_callX1 (sec H0 (sec rfl (sec rfl (sec rfl sen)))) e'41.1 (Nat.lt_succ_of_lt hkp) hb'34 (fun o'40_0 st'42 hb'43 hf'44=>x_ rfl rfl (x_ rfl rfl (so_ H4 ((hf'44.1 (d,0) (Nat.lt_succ_self d) (key_LP hkp)).trans ((hf'35.1 (d,0) (Nat.lt_succ_self d) (key_LP hkp)).trans ((hf'17.1 (d,0) (Nat.lt_succ_self d) (key_LP hkp)).trans B0))) rfl rfl rfl (m_ (e_ (rt_ (hQ _ _ _ _ _ _ _ _ H4 lk_here rfl (lk_otherP hkp hb'43) (Fr.box (Fr.pass (Fr.pass (Fr.pass FR hf'17) hf'35) hf'44)) e'41.2)))))))))))) (fun g'37=>q_ rfl (m_ ((e'32.2.2 g'37).elim fun r'48 e'89=>e'89.elim fun b'54 e'50=>cX_ (sec H0 (sec rfl sen)) e'50.1 (Nat.lt_succ_of_lt hkp) hb'34 (fun st'51 hb'52 hf'53=>m_ (e_ (cb_ rfl (fun g'55=>q_ rfl (m_ (m_ (b_ H1 rfl sub_ ((e'50.2.1 g'55).elim fun r'56 e'64=>e'64.elim fun r'57 e'65=>e'65.elim fun b'63 e'59=>s_callX1 (sec H0 (sec rfl (sec rfl (sec rfl sen)))) e'59.1 (Nat.lt_succ_of_lt hkp) hb'52 (fun o'58_0 st'60 hb'61 hf'62=>x_ rfl rfl (x_ rfl rfl (so_ H4 ((hf'62.1 (d,0) (Nat.lt_succ_self d) (key_LP hkp)).trans ((hf'53.1 (d,0) (Nat.lt_succ_self d) (key_LP hkp)).trans ((hf'35.1 (d,0) (Nat.lt_succ_self d) (key_LP hkp)).trans ((hf'17.1 (d,0) (Nat.lt_succ_self d) (key_LP hkp)).trans B0)))) rfl rfl rfl (m_ (e_ (rt_ (hQ _ _ _ _ _ _ _ _ H4 lk_here rfl (lk_otherP hkp hb'61) (Fr.box (Fr.pass (Fr.pass (Fr.pass (Fr.pass FR hf'17) hf'35) hf'53) hf'62)) e'59.2)))))))))))) (fun g'55=>q_ rfl (m_ (s_nilP H0 (f_ rfl (l_ rfl hb'52 rfl rfl ((e'50.2.2 g'55).elim fun c'66 e'67=>s_ixS rfl rfl (by decide) e'67.1 (b_ rfl rfl eql_ (m_ (e_ (cs_ rfl (fun g'68=>q_ rfl (m_ ((e'67.2.1 g'68).elim fun r'69 e'77=>e'77.elim fun r'70 e'78=>e'78.elim fun b'76 e'72=>cX_ (sec H0 sen) e'72.1 (Nat.lt_succ_of_lt hkp) hb'52 (fun st'73 hb'74 hf'75=>m_ (x_ rfl rfl (x_ rfl rfl (m_ (m_ (e_ (q_ rfl (m_ (s_build (f_cons rfl rfl (f_cons rfl rfl f_nil)) (m_ (so_ H4 ((hf'75.1 (d,0) (Nat.lt_succ_self d) (key_LP hkp)).trans ((hf'53.1 (d,0) (Nat.lt_succ_self d) (key_LP hkp)).trans ((hf'35.1 (d,0) (Nat.lt_succ_self d) (key_LP hkp)).trans ((hf'17.1 (d,0) (Nat.lt_succ_self d) (key_LP hkp)).trans B0)))) rfl rfl rfl (m_ (e_ (rt_ (hQ _ _ _ _ _ _ _ _ H4 lk_here rfl (lk_otherP hkp hb'74) (Fr.box (Fr.pass (Fr.pass (Fr.pass (Fr.pass FR hf'17) hf'35) hf'53) hf'75)) e'72.2)))))))))))))))))) (fun g'68=>sk_ (q_ rfl (m_ ((e'67.2.2 g'68).elim fun r'79 e'87=>e'87.elim fun r'80 e'88=>e'88.elim fun b'86 e'82=>cX_ (sec H0 sen) e'82.1 (Nat.lt_succ_of_lt hkp) hb'52 (fun st'83 hb'84 hf'85=>m_ (x_ rfl rfl (x_ rfl rfl (m_ (m_ (e_ (q_ rfl (m_ (s_build (f_cons rfl rfl (f_cons rfl rfl f_nil)) (m_ (so_ H4 ((hf'85.1 (d,0) (Nat.lt_succ_self d) (key_LP hkp)).trans ((hf'53.1 (d,0) (Nat.lt_succ_self d) (key_LP hkp)).trans ((hf'35.1 (d,0) (Nat.lt_succ_self d) (key_LP hkp)).trans ((hf'17.1 (d,0) (Nat.lt_succ_self d) (key_LP hkp)).trans B0)))) rfl rfl rfl (m_ (e_ (rt_ (hQ _ _ _ _ _ _ _ _ H4 lk_here rfl (lk_otherP hkp hb'84) (Fr.box (Fr.pass (Fr.pass (Fr.pass (Fr.pass FR hf'17) hf'35) hf'53) hf'85)) e'82.2)))))))))))))))))))))))))))))))))))))))))))))))
theorem w107_7 {nest1:Int}{t38:Bool}{m0:Val}{mP:Sc}{o_m0_3:Own}{v0:Nat}(H0:σ 0 = .p kp vp 0)(H1:σ 1 = .i .i64 nest1)(H4:σ 4 = .p (d,0) v0 0)(H38:σ 38 = .b t38)(B0:lk st.bx (d,0) = some (v0,[.i .u8 m0.kind,.i .i64 m0.int,.s m0.text,.sl o_m0_3 (List.map Val.row m0.list),.b m0.cut]))(BP:lk st.bx kp = some (vp,[.s mP.left]))(FR:Fr d kp st0.bx st0.ow st.bx st.ow)(h:T107_7 prog K nest1 t38 m0 mP):W prog d c107_1 σ st (blockW 0 (thenW prog d (.seq (.reg 25 r107_25) (.seq (.reg 26 r107_26) .ret)) Q)):=
 cb_ H38 (fun g'1=>q_ rfl (s_build (f_cons rfl rfl (f_cons rfl rfl f_nil)) (so_ H4 B0 rfl rfl rfl (m_ (e_ (rt_ (hQ _ _ _ _ _ _ _ _ H4 lk_here rfl (lk_otherP hkp BP) (Fr.box FR) (h.1 g'1)))))))) (fun g'1=>q_ rfl (m_ ((h.2 g'1).elim fun r'2 e'9=>e'9.elim fun b'8 e'4=>cX_ (sec H0 (sec rfl sen)) e'4.1 (Nat.lt_succ_of_lt hkp) BP (fun st'5 hb'6 hf'7=>m_ (e_ (w107_8 hQ hkp H0 H1 H4 rfl ((hf'7.1 (d,0) (Nat.lt_succ_self d) (key_LP hkp)).trans B0) hb'6 (Fr.pass FR hf'7) e'4.2))))))
theorem w107_6 {nest1:Int}{t34:Bool}{m0:Val}{mP:Sc}{o_m0_3:Own}{v0:Nat}(H0:σ 0 = .p kp vp 0)(H1:σ 1 = .i .i64 nest1)(H4:σ 4 = .p (d,0) v0 0)(H34:σ 34 = .b t34)(B0:lk st.bx (d,0) = some (v0,[.i .u8 m0.kind,.i .i64 m0.int,.s m0.text,.sl o_m0_3 (List.map Val.row m0.list),.b m0.cut]))(BP:lk st.bx kp = some (vp,[.s mP.left]))(FR:Fr d kp st0.bx st0.ow st.bx st.ow)(h:T107_6 prog K nest1 t34 m0 mP):W prog d c107_2 σ st (blockW 0 (thenW prog d (.seq (.reg 25 r107_25) (.seq (.reg 26 r107_26) .ret)) Q)):=
 cb_ H34 (fun g'1=>q_ rfl (s_build (f_cons rfl rfl (f_cons rfl rfl f_nil)) (so_ H4 B0 rfl rfl rfl (m_ (e_ (rt_ (hQ _ _ _ _ _ _ _ _ H4 lk_here rfl (lk_otherP hkp BP) (Fr.box FR) (h.1 g'1)))))))) (fun g'1=>q_ rfl (m_ ((h.2 g'1).elim fun r'2 e'9=>e'9.elim fun b'8 e'4=>cX_ (sec H0 (sec rfl sen)) e'4.1 (Nat.lt_succ_of_lt hkp) BP (fun st'5 hb'6 hf'7=>m_ (e_ (w107_7 hQ hkp H0 H1 H4 rfl ((hf'7.1 (d,0) (Nat.lt_succ_self d) (key_LP hkp)).trans B0) hb'6 (Fr.pass FR hf'7) e'4.2))))))
theorem w107_5 {nest1:Int}{t30:Bool}{m0:Val}{mP:Sc}{o_m0_3:Own}{v0:Nat}(H0:σ 0 = .p kp vp 0)(H1:σ 1 = .i .i64 nest1)(H4:σ 4 = .p (d,0) v0 0)(H30:σ 30 = .b t30)(B0:lk st.bx (d,0) = some (v0,[.i .u8 m0.kind,.i .i64 m0.int,.s m0.text,.sl o_m0_3 (List.map Val.row m0.list),.b m0.cut]))(BP:lk st.bx kp = some (vp,[.s mP.left]))(FR:Fr d kp st0.bx st0.ow st.bx st.ow)(h:T107_5 prog K nest1 t30 m0 mP):W prog d c107_3 σ st (blockW 0 (thenW prog d (.seq (.reg 25 r107_25) (.seq (.reg 26 r107_26) .ret)) Q)):=
 cb_ H30 (fun g'1=>q_ rfl (s_build (f_cons rfl rfl f_nil) (so_ H4 B0 rfl rfl rfl (m_ (e_ (rt_ (hQ _ _ _ _ _ _ _ _ H4 lk_here rfl (lk_otherP hkp BP) (Fr.box FR) (h.1 g'1)))))))) (fun g'1=>q_ rfl (m_ ((h.2 g'1).elim fun r'2 e'9=>e'9.elim fun b'8 e'4=>cX_ (sec H0 (sec rfl sen)) e'4.1 (Nat.lt_succ_of_lt hkp) BP (fun st'5 hb'6 hf'7=>m_ (e_ (w107_6 hQ hkp H0 H1 H4 rfl ((hf'7.1 (d,0) (Nat.lt_succ_self d) (key_LP hkp)).trans B0) hb'6 (Fr.pass FR hf'7) e'4.2))))))
theorem w107_4 {nest1:Int}{t26:Bool}{m0:Val}{mP:Sc}{o_m0_3:Own}{v0:Nat}(H0:σ 0 = .p kp vp 0)(H1:σ 1 = .i .i64 nest1)(H4:σ 4 = .p (d,0) v0 0)(H26:σ 26 = .b t26)(B0:lk st.bx (d,0) = some (v0,[.i .u8 m0.kind,.i .i64 m0.int,.s m0.text,.sl o_m0_3 (List.map Val.row m0.list),.b m0.cut]))(BP:lk st.bx kp = some (vp,[.s mP.left]))(FR:Fr d kp st0.bx st0.ow st.bx st.ow)(h:T107_4 prog K nest1 t26 m0 mP):W prog d c107_4 σ st (blockW 0 (thenW prog d (.seq (.reg 25 r107_25) (.seq (.reg 26 r107_26) .ret)) Q)):=
 cb_ H26 (fun g'1=>q_ rfl (s_build (f_cons rfl rfl f_nil) (so_ H4 B0 rfl rfl rfl (m_ (e_ (rt_ (hQ _ _ _ _ _ _ _ _ H4 lk_here rfl (lk_otherP hkp BP) (Fr.box FR) (h.1 g'1)))))))) (fun g'1=>q_ rfl (m_ ((h.2 g'1).elim fun r'2 e'9=>e'9.elim fun b'8 e'4=>cX_ (sec H0 (sec rfl sen)) e'4.1 (Nat.lt_succ_of_lt hkp) BP (fun st'5 hb'6 hf'7=>m_ (e_ (w107_5 hQ hkp H0 H1 H4 rfl ((hf'7.1 (d,0) (Nat.lt_succ_self d) (key_LP hkp)).trans B0) hb'6 (Fr.pass FR hf'7) e'4.2))))))
theorem w107_3 {nest1:Int}{t22:Bool}{m0:Val}{mP:Sc}{o_m0_3:Own}{v0:Nat}(H0:σ 0 = .p kp vp 0)(H1:σ 1 = .i .i64 nest1)(H4:σ 4 = .p (d,0) v0 0)(H22:σ 22 = .b t22)(B0:lk st.bx (d,0) = some (v0,[.i .u8 m0.kind,.i .i64 m0.int,.s m0.text,.sl o_m0_3 (List.map Val.row m0.list),.b m0.cut]))(BP:lk st.bx kp = some (vp,[.s mP.left]))(FR:Fr d kp st0.bx st0.ow st.bx st.ow)(h:T107_3 prog K nest1 t22 m0 mP):W prog d c107_5 σ st (blockW 0 (thenW prog d (.seq (.reg 25 r107_25) (.seq (.reg 26 r107_26) .ret)) Q)):=
 cb_ H22 (fun g'1=>q_ rfl (s_build (f_cons rfl rfl (f_cons rfl rfl f_nil)) (so_ H4 B0 rfl rfl rfl (m_ (e_ (rt_ (hQ _ _ _ _ _ _ _ _ H4 lk_here rfl (lk_otherP hkp BP) (Fr.box FR) (h.1 g'1)))))))) (fun g'1=>q_ rfl (m_ ((h.2 g'1).elim fun r'2 e'9=>e'9.elim fun b'8 e'4=>cX_ (sec H0 (sec rfl sen)) e'4.1 (Nat.lt_succ_of_lt hkp) BP (fun st'5 hb'6 hf'7=>m_ (e_ (w107_4 hQ hkp H0 H1 H4 rfl ((hf'7.1 (d,0) (Nat.lt_succ_self d) (key_LP hkp)).trans B0) hb'6 (Fr.pass FR hf'7) e'4.2))))))
theorem w107_2 {nest1:Int}{m0:Val}{mP:Sc}{o_m0_3:Own}{v0:Nat}(H0:σ 0 = .p kp vp 0)(H1:σ 1 = .i .i64 nest1)(H4:σ 4 = .p (d,0) v0 0)(B0:lk st.bx (d,0) = some (v0,[.i .u8 m0.kind,.i .i64 m0.int,.s m0.text,.sl o_m0_3 (List.map Val.row m0.list),.b m0.cut]))(BP:lk st.bx kp = some (vp,[.s mP.left]))(FR:Fr d kp st0.bx st0.ow st.bx st.ow)(h:T107_2 prog K nest1 m0 mP):W prog d c107_6 σ st Q:=
 sq_ (bk_ (q_ rfl (m_ (h.elim fun r'1 e'8=>e'8.elim fun b'7 e'3=>cX_ (sec H0 (sec rfl sen)) e'3.1 (Nat.lt_succ_of_lt hkp) BP (fun st'4 hb'5 hf'6=>m_ (e_ (w107_3 hQ hkp H0 H1 H4 rfl ((hf'6.1 (d,0) (Nat.lt_succ_self d) (key_LP hkp)).trans B0) hb'5 (Fr.pass FR hf'6) e'3.2)))))))
theorem w107_1 {nest1:Int}{m0:Val}{mP:Sc}{o_m0_3:Own}{v0:Nat}(H0:σ 0 = .p kp vp 0)(H1:σ 1 = .i .i64 nest1)(H4:σ 4 = .p (d,0) v0 0)(B0:lk st.bx (d,0) = some (v0,[.i .u8 m0.kind,.i .i64 m0.int,.s m0.text,.sl o_m0_3 (List.map Val.row m0.list),.b m0.cut]))(BP:lk st.bx kp = some (vp,[.s mP.left]))(FR:Fr d kp st0.bx st0.ow st.bx st.ow)(h:T107_1 prog K nest1 m0 mP):W prog d c107_7 σ st Q:=
 sq_ (q_ rfl (s_mvI H1 (b_ rfl rfl eql_ (s_mvB rfl (em_ (g:=14) rfl (fun g'1=>gn_ (b:=true) rfl rfl (gn_ (b:=true) rfl rfl (gn_ (b:=true) rfl rfl (gn_ (b:=true) rfl rfl (gn_ (b:=true) rfl rfl (pt_ rfl rfl (e_ (ct_ rfl (q_ rfl (s_build f_nil (so_ H4 B0 rfl rfl rfl (m_ (e_ (rt_ (hQ _ _ _ _ _ _ _ _ H4 lk_here rfl (lk_otherP hkp BP) (Fr.box FR) (h.1 g'1)))))))))))))))) (fun g'1=>gy_ rfl (s_mv H0 (gy_ rfl (s_nilP rfl (gy_ rfl (f_ rfl (gy_ rfl (l_ rfl BP rfl rfl (gy_ rfl (b_ rfl rfl seq_ (pf_ rfl rfl (e_ (cs_ rfl (fun g'2=>q_ rfl (s_build f_nil (so_ H4 B0 rfl rfl rfl (m_ (e_ (rt_ (hQ _ _ _ _ _ _ _ _ H4 lk_here rfl (lk_otherP hkp BP) (Fr.box FR) ((h.2 g'1).1 g'2)))))))) (fun g'2=>sk_ (w107_2 hQ hkp H0 H1 H4 B0 BP FR ((h.2 g'1).2 g'2)))))))))))))))))))))
theorem w107_0 {nest1:Int}{mP:Sc}(H0:σ 0 = .p kp vp 0)(H1:σ 1 = .i .i64 nest1)(BP:lk st.bx kp = some (vp,[.s mP.left]))(FR:Fr d kp st0.bx st0.ow st.bx st.ow)(h:T107_0 prog K nest1 mP):W prog d (.seq (.reg 0 r107_0) c107_7) σ st Q:=
 sq_ (W.reg (s_alloc (m_ (e_ (w107_1 (m0:=(Val.mk 0 0 [] ([]:List Val) false)) hQ hkp H0 H1 rfl (show lk _ (d,0) = some (_,([.i .u8 0,.i .i64 0,.s [],.sl .full (List.map Val.row ([]:List Val)),.b false]:List AV)) from lk_here) (lk_otherP hkp BP) (Fr.box FR) h)))))
end
theorem p107 {prog:Prog}(hf:prog.fn 107 = some pf107){nest1:Int}{mP:Sc}{K:Val→Bool→Sc→Prop}(h:T107_0 prog K nest1 mP):PuXK prog 107 (Bx [.s mP.left]) [.i .i64 nest1] (fun r (b_:Sc)=>∃res0:Val,∃res1:Bool,(∃o_0:Own,r = .tup [res0.avo o_0,.b res1])∧K res0 res1 b_) (fun b_=>(Bx [.s b_.left])):=
  PuXK.of hf rfl (fun _=>Bx.out) fun d st kp vp hkp hB=>w107_0 (st0:=st) (Q:=fun e σ st'=>(e = .normal∨e = .ret)∧∃r b_,ares σ st' pf107.res = some r∧_∧_∧Fr d kp st.bx st.ow st'.bx st'.ow) (fun σ st' k0 v0 o_0 res0 res1 b_ H4 HB4 H5 hb hf hk=>⟨.inr rfl,.tup [res0.avo o_0,.b res1],b_,by simp only [pf107,ares,aresL,ares_cellA (n:=5) H4 HB4 rfl,H5,ares_tmp,Option.map_some,ares_cellA (n:=5) H4 HB4 rfl,H5],⟨res0,res1,⟨o_0,rfl⟩,hk⟩,hb,hf⟩) hkp (σ:=sl0 [.p kp vp 0,.i .i64 nest1]) rfl rfl hB Fr.refl h
def r74_0:List AI:=[oO 2 (.alloc [.i .u8 0,.i .i64 0,.s [],.sl .full [],.b false]),
 oC 3 (.i .i64 0)]
def r74_1:List AI:=[oM 9 0,
 oO 10 (.len true (.t 9)),
 oB 11 .gtr (.t 10) (.c (.i .i64 1400000))]
def r74_2:List AI:=[oO 12 (.build [.i .u8 0,.i .i64 0,.s [],.sl .full [],.b false] []),
 oS 5 2 12,
 oC 3 (.i .i64 4)]
def r74_3:List AI:=[oM 13 0,
 oO 14 (.build [.s []] [(0,1,(.t 13))]),
 oO 15 (.box 1 (.t 14)),
 oM 4 15]
def r74_4:List AI:=[oM 17 4,
 oO 18 (.call true 107 [(.t 17),(.c (.i .i64 130))]),
 oM 16 18,
 oE 19 0 16,
 oE 20 1 16,
 oO 5 (.alloc [.i .u8 0,.i .i64 0,.s [],.sl .full [],.b false]),
 oS 5 5 19,
 oM 6 20]
def r74_5:List AI:=[oM 21 6,
 oO 22 (.un .not (.t 21)),
 oM 23 22,
 oG 24 (.mv (.t 4)) 23 false,
 oG 25 (.nilc (.t 24)) 23 false,
 oG 26 (.fad 0 (.t 25)) 23 false,
 oG 27 (.load 1 false (.t 26)) 23 false,
 oG 28 (.bin .neq (.t 27) (.c (.s []))) 23 false,
 oO 29 (.pick (.t 23) (.c (.b true)) (.t 28))]
def r74_6:List AI:=[oO 30 (.build [.i .u8 0,.i .i64 0,.s [],.sl .full [],.b false] []),
 oS 5 2 30,
 oC 3 (.i .i64 12)]
def r74_7:List AI:=[oO 32 (.load 5 true (.t 5)),
 oO 33 (.call false 72 [(.t 32)]),
 oM 31 33,
 oE 34 0 31,
 oE 35 1 31,
 oM 7 34,
 oM 8 35]
def r74_8:List AI:=[oM 36 8,
 oB 37 .neq (.t 36) (.c (.i .i64 0)),
 oM 38 37,
 oG 39 (.mv (.t 7)) 38 false,
 oG 40 (.mv (.t 0)) 38 false,
 oG 41 (.bin .neq (.t 39) (.t 40)) 38 false,
 oO 42 (.pick (.t 38) (.c (.b true)) (.t 41))]
def r74_9:List AI:=[oO 43 (.build [.i .u8 0,.i .i64 0,.s [],.sl .full [],.b false] []),
 oS 5 2 43,
 oC 3 (.i .i64 12)]
def r74_10:List AI:=[oO 44 (.load 5 true (.t 5)),
 oS 5 2 44,
 oC 3 (.i .i64 0)]
abbrev b74:AC:=(.seq (.reg 0 r74_0) (.seq (.seq (.reg 1 r74_1) (.cond (.t 11) (.seq (.reg 2 r74_2) .ret) .skip)) (.seq (.reg 3 r74_3) (.seq (.reg 4 r74_4) (.seq (.seq (.reg 5 r74_5) (.cond (.t 29) (.seq (.reg 6 r74_6) .ret) .skip)) (.seq (.seq (.reg 7 r74_7) (.seq (.reg 8 r74_8) (.cond (.t 42) (.seq (.reg 9 r74_9) .ret) .skip))) (.seq (.reg 10 r74_10) .ret)))))))
def pf74:AF:={ nt:=45,res:=[.cell 2 5 true,.tmp 3],body:=b74 }
abbrev H74 (Q:AE→Sl→St→Prop)(K:Val→Int→Prop):Prop:=∀(σ:Sl)(st:St)(k0:Key)(v0:Nat)(o0_0:Own)(res0:Val)(res1:Int),σ 2 = .p k0 v0 0→lk st.bx k0 = some (v0,[.i .u8 res0.kind,.i .i64 res0.int,.s res0.text,.sl o0_0 (List.map Val.row res0.list),.b res0.cut])→σ 3 = .i .i64 res1→K res0 res1→Q .ret σ st
def T74_0 (prog:Prog)(K:Val→Int→Prop)(s0:List UInt8):Prop:=
  ((s0.length:Int) > 1400000→K (Val.mk 0 0 [] ([]:List Val) false) 4)∧(¬((s0.length:Int) > 1400000)→∃r'2:Val,∃r'3:Bool,∃b'9:Sc,PuX prog 107 (Bx [.s s0]) [.i .i64 130] (fun r=>∃o'4_0:Own,r = .tup [r'2.avo o'4_0,.b r'3]) ((Bx [.s b'9.left]))∧((!r'3) = true→K (Val.mk 0 0 [] ([]:List Val) false) 12)∧((!r'3) = false→(b'9.left≠([]:List UInt8)→K (Val.mk 0 0 [] ([]:List Val) false) 12)∧(¬(b'9.left≠([]:List UInt8))→∃r'12:List UInt8,∃r'13:Int,Pus prog 72 [r'2.av] (.tup [.s r'12,.i .i64 r'13])∧(r'13≠0→K (Val.mk 0 0 [] ([]:List Val) false) 12)∧(¬(r'13≠0)→(r'12≠s0→K (Val.mk 0 0 [] ([]:List Val) false) 12)∧(¬(r'12≠s0)→K r'2 0)))))
section
variable {prog:Prog}{d:Nat}{Q:AE→Sl→St→Prop}{K:Val→Int→Prop}(hQ:H74 Q K){σ:Sl}{st:St}
include hQ
theorem w74_0 {s0:List UInt8}(H0:σ 0 = .s s0)(h:T74_0 prog K s0):W prog d (.seq (.reg 0 r74_0) (.seq (.seq (.reg 1 r74_1) (.cond (.t 11) (.seq (.reg 2 r74_2) .ret) .skip)) (.seq (.reg 3 r74_3) (.seq (.reg 4 r74_4) (.seq (.seq (.reg 5 r74_5) (.cond (.t 29) (.seq (.reg 6 r74_6) .ret) .skip)) (.seq (.seq (.reg 7 r74_7) (.seq (.reg 8 r74_8) (.cond (.t 42) (.seq (.reg 9 r74_9) .ret) .skip))) (.seq (.reg 10 r74_10) .ret))))))) σ st Q:=
 sq_ (W.reg (s_alloc (m_ (e_ (sq_ (q_ rfl (m_ (ln_ H0 (b_ rfl rfl gtr_ (e_ (cs_ rfl (fun g'1=>q_ rfl (s_build f_nil (so_ rfl (show lk _ (d,0) = some (_,([.i .u8 0,.i .i64 0,.s [],.sl .full (List.map Val.row ([]:List Val)),.b false]:List AV)) from lk_here) rfl rfl rfl (m_ (e_ (rt_ (hQ _ _ _ _ _ _ _ rfl lk_here rfl (h.1 g'1)))))))) (fun g'1=>sk_ (q_ rfl (m_ (s_build (f_cons H0 rfl f_nil) (s_box rfl rfl (m_ (e_ (sq_ (W.reg (m_ ((h.2 g'1).elim fun r'2 e'18=>e'18.elim fun r'3 e'19=>e'19.elim fun b'9 e'5=>s_callX1 (sec rfl (sec rfl sen)) e'5.1 (Nat.lt_succ_self d) (lk_other rfl lk_here) (fun o'4_0 st'6 hb'7 hf'8=>m_ (x_ rfl rfl (x_ rfl rfl (s_alloc (so_ rfl ((hf'8.1 (d,16389) (Nat.lt_succ_self d) (key_LL rfl)).trans (show lk _ (d,16389) = some (_,([.i .u8 0,.i .i64 0,.s [],.sl .full (List.map Val.row ([]:List Val)),.b false]:List AV)) from lk_here)) rfl rfl rfl (m_ (e_ (sq_ (q_ rfl (s_mvB rfl (nt_ rfl (s_mvB rfl (eb_ (g:=23) rfl (fun g'10=>gn_ (b:=true) rfl rfl (gn_ (b:=true) rfl rfl (gn_ (b:=true) rfl rfl (gn_ (b:=true) rfl rfl (gn_ (b:=true) rfl rfl (pt_ rfl rfl (e_ (ct_ rfl (q_ rfl (s_build f_nil (so_ rfl (lk_other rfl ((hf'8.1 (d,0) (Nat.lt_succ_self d) (key_LL rfl)).trans (lk_other rfl (lk_other rfl (show lk _ (d,0) = some (_,([.i .u8 0,.i .i64 0,.s [],.sl .full (List.map Val.row ([]:List Val)),.b false]:List AV)) from lk_here))))) rfl rfl rfl (m_ (e_ (rt_ (hQ _ _ _ _ _ _ _ rfl lk_here rfl (e'5.2.1 g'10)))))))))))))))) (fun g'10=>gy_ rfl (s_mv rfl (gy_ rfl (s_nilP rfl (gy_ rfl (f_ rfl (gy_ rfl (l_ rfl (lk_other rfl hb'7) rfl rfl (gy_ rfl (b_ rfl rfl sne_ (pf_ rfl rfl (e_ (cs_ rfl (fun g'11=>q_ rfl (s_build f_nil (so_ rfl (lk_other rfl ((hf'8.1 (d,0) (Nat.lt_succ_self d) (key_LL rfl)).trans (lk_other rfl (lk_other rfl (show lk _ (d,0) = some (_,([.i .u8 0,.i .i64 0,.s [],.sl .full (List.map Val.row ([]:List Val)),.b false]:List AV)) from lk_here))))) rfl rfl rfl (m_ (e_ (rt_ (hQ _ _ _ _ _ _ _ rfl lk_here rfl ((e'5.2.2 g'10).1 g'11)))))))) (fun g'11=>sk_ (sq_ (q_ rfl (l_ rfl lk_here rfl rfl (((e'5.2.2 g'10).2 g'11).elim fun r'12 e'17=>e'17.elim fun r'13 e'14=>ca_ (sc rfl rfl sn) e'14.1 (m_ (x_ rfl rfl (x_ rfl rfl (m_ (m_ (e_ (q_ rfl (s_mvI rfl (b_ rfl rfl neq_ (s_mvB rfl (em_ (g:=38) rfl (fun g'15=>gn_ (b:=true) rfl rfl (gn_ (b:=true) rfl rfl (gn_ (b:=true) rfl rfl (pt_ rfl rfl (e_ (ct_ rfl (q_ rfl (s_build f_nil (so_ rfl (lk_other rfl ((hf'8.1 (d,0) (Nat.lt_succ_self d) (key_LL rfl)).trans (lk_other rfl (lk_other rfl (show lk _ (d,0) = some (_,([.i .u8 0,.i .i64 0,.s [],.sl .full (List.map Val.row ([]:List Val)),.b false]:List AV)) from lk_here))))) rfl rfl rfl (m_ (e_ (rt_ (hQ _ _ _ _ _ _ _ rfl lk_here rfl (e'14.2.1 g'15)))))))))))))) (fun g'15=>gy_ rfl (s_mvS rfl (gy_ rfl (s_mvS H0 (gy_ rfl (b_ rfl rfl sne_ (pf_ rfl rfl (e_ (cs_ rfl (fun g'16=>q_ rfl (s_build f_nil (so_ rfl (lk_other rfl ((hf'8.1 (d,0) (Nat.lt_succ_self d) (key_LL rfl)).trans (lk_other rfl (lk_other rfl (show lk _ (d,0) = some (_,([.i .u8 0,.i .i64 0,.s [],.sl .full (List.map Val.row ([]:List Val)),.b false]:List AV)) from lk_here))))) rfl rfl rfl (m_ (e_ (rt_ (hQ _ _ _ _ _ _ _ rfl lk_here rfl ((e'14.2.2 g'15).1 g'16)))))))) (fun g'16=>sk_ (q_ rfl (l_ rfl lk_here rfl rfl (so_ rfl (lk_other rfl ((hf'8.1 (d,0) (Nat.lt_succ_self d) (key_LL rfl)).trans (lk_other rfl (lk_other rfl (show lk _ (d,0) = some (_,([.i .u8 0,.i .i64 0,.s [],.sl .full (List.map Val.row ([]:List Val)),.b false]:List AV)) from lk_here))))) rfl rfl rfl (m_ (e_ (rt_ (hQ _ _ _ _ _ _ _ rfl lk_here rfl ((e'14.2.2 g'15).2 g'16))))))))))))))))))))))))))))))))))))))))))))))))))))))))))))))))))))))))))))))))))
end
theorem p74 {prog:Prog}(hf:prog.fn 74 = some pf74){s0:List UInt8}{K:Val→Int→Prop}(h:T74_0 prog K s0) :∃res0:Val,∃res1:Int,K res0 res1∧Pus prog 74 [.s s0] (.tup [res0.av,.i .i64 res1]):=by
  obtain ⟨v,hv,res0,res1,hk,rfl⟩:=Pus.of (K:=fun v=>∃res0:Val,∃res1:Int,K res0 res1∧v = .tup [res0.av,.i .i64 res1]) hf rfl (w74_0 (σ:=sl0 [.s s0]) (fun σ st k0 v0 o0_0 res0 res1 H2 HB2 H3 hk=>⟨.tup [res0.avo o0_0,.i .i64 res1],by simp only [pf74,ares,aresL,ares_cellA (n:=5) H2 HB2 rfl,H3,ares_tmp,Option.map_some],_,rfl,res0,res1,hk,rfl⟩) rfl h)
  exact ⟨res0,res1,hk,hv⟩
def r75_0:List AI:=[oO 2 (.alloc [.i .u8 0,.i .i64 0,.s [],.sl .full [],.b false]),
 oC 3 (.i .i64 0)]
def r75_1:List AI:=[oM 7 0,
 oO 8 (.len true (.t 7)),
 oB 9 .gtr (.t 8) (.c (.i .i64 1400000))]
def r75_2:List AI:=[oO 10 (.build [.i .u8 0,.i .i64 0,.s [],.sl .full [],.b false] []),
 oS 5 2 10,
 oC 3 (.i .i64 4)]
def r75_3:List AI:=[oM 12 0,
 oO 13 (.call false 108 [(.t 12),(.c (.i .i64 130))]),
 oM 11 13,
 oE 14 0 11,
 oE 15 1 11,
 oE 16 2 11,
 oO 4 (.alloc [.i .u8 0,.i .i64 0,.s [],.sl .full [],.b false]),
 oS 5 4 14,
 oM 5 15,
 oM 6 16]
def r75_4:List AI:=[oM 17 6,
 oO 18 (.un .not (.t 17)),
 oM 19 18,
 oG 20 (.mv (.t 5)) 19 false,
 oG 21 (.bin .neq (.t 20) (.c (.s []))) 19 false,
 oO 22 (.pick (.t 19) (.c (.b true)) (.t 21)),
 oM 23 22,
 oG 24 (.load 5 true (.t 4)) 23 false,
 oG 25 (.call false 77 [(.t 24)]) 23 false,
 oG 26 (.bin .neq (.t 25) (.c (.i .i64 0))) 23 false,
 oO 27 (.pick (.t 23) (.c (.b true)) (.t 26)),
 oM 28 27,
 oG 29 (.load 5 true (.t 4)) 28 false,
 oG 30 (.call false 106 [(.t 29)]) 28 false,
 oG 31 (.mv (.t 0)) 28 false,
 oG 32 (.bin .neq (.t 30) (.t 31)) 28 false,
 oO 33 (.pick (.t 28) (.c (.b true)) (.t 32))]
def r75_5:List AI:=[oO 34 (.build [.i .u8 0,.i .i64 0,.s [],.sl .full [],.b false] []),
 oS 5 2 34,
 oC 3 (.i .i64 12)]
def r75_6:List AI:=[oO 35 (.load 5 true (.t 4)),
 oS 5 2 35,
 oC 3 (.i .i64 0)]
abbrev b75:AC:=(.seq (.reg 0 r75_0) (.seq (.seq (.reg 1 r75_1) (.cond (.t 9) (.seq (.reg 2 r75_2) .ret) .skip)) (.seq (.reg 3 r75_3) (.seq (.seq (.reg 4 r75_4) (.cond (.t 33) (.seq (.reg 5 r75_5) .ret) .skip)) (.seq (.reg 6 r75_6) .ret)))))
def pf75:AF:={ nt:=36,res:=[.cell 2 5 true,.tmp 3],body:=b75 }
abbrev H75 (Q:AE→Sl→St→Prop)(K:Val→Int→Prop):Prop:=∀(σ:Sl)(st:St)(k0:Key)(v0:Nat)(o0_0:Own)(res0:Val)(res1:Int),σ 2 = .p k0 v0 0→lk st.bx k0 = some (v0,[.i .u8 res0.kind,.i .i64 res0.int,.s res0.text,.sl o0_0 (List.map Val.row res0.list),.b res0.cut])→σ 3 = .i .i64 res1→K res0 res1→Q .ret σ st
def T75_0 (prog:Prog)(K:Val→Int→Prop)(s0:List UInt8):Prop:=
  ((s0.length:Int) > 1400000→K (Val.mk 0 0 [] ([]:List Val) false) 4)∧(¬((s0.length:Int) > 1400000)→∃r'2:Val,∃r'3:List UInt8,∃r'4:Bool,Pus prog 108 [.s s0,.i .i64 130] (.tup [r'2.av,.s r'3,.b r'4])∧((!r'4) = true→K (Val.mk 0 0 [] ([]:List Val) false) 12)∧((!r'4) = false→(r'3≠([]:List UInt8)→K (Val.mk 0 0 [] ([]:List Val) false) 12)∧(¬(r'3≠([]:List UInt8))→∃r'8:Int,Pus prog 77 [r'2.av] (.i .i64 r'8)∧(r'8≠0→K (Val.mk 0 0 [] ([]:List Val) false) 12)∧(¬(r'8≠0)→∃r'11:List UInt8,Pus prog 106 [r'2.av] (.s r'11)∧(r'11≠s0→K (Val.mk 0 0 [] ([]:List Val) false) 12)∧(¬(r'11≠s0)→K r'2 0)))))
section
variable {prog:Prog}{d:Nat}{Q:AE→Sl→St→Prop}{K:Val→Int→Prop}(hQ:H75 Q K){σ:Sl}{st:St}
include hQ
theorem w75_0 {s0:List UInt8}(H0:σ 0 = .s s0)(h:T75_0 prog K s0):W prog d (.seq (.reg 0 r75_0) (.seq (.seq (.reg 1 r75_1) (.cond (.t 9) (.seq (.reg 2 r75_2) .ret) .skip)) (.seq (.reg 3 r75_3) (.seq (.seq (.reg 4 r75_4) (.cond (.t 33) (.seq (.reg 5 r75_5) .ret) .skip)) (.seq (.reg 6 r75_6) .ret))))) σ st Q:=
 sq_ (W.reg (s_alloc (m_ (e_ (sq_ (q_ rfl (m_ (ln_ H0 (b_ rfl rfl gtr_ (e_ (cs_ rfl (fun g'1=>q_ rfl (s_build f_nil (so_ rfl (show lk _ (d,0) = some (_,([.i .u8 0,.i .i64 0,.s [],.sl .full (List.map Val.row ([]:List Val)),.b false]:List AV)) from lk_here) rfl rfl rfl (m_ (e_ (rt_ (hQ _ _ _ _ _ _ _ rfl lk_here rfl (h.1 g'1)))))))) (fun g'1=>sk_ (sq_ (W.reg (m_ ((h.2 g'1).elim fun r'2 e'14=>e'14.elim fun r'3 e'15=>e'15.elim fun r'4 e'5=>ca_ (sc H0 rfl (sc rfl rfl sn)) e'5.1 (m_ (x_ rfl rfl (x_ rfl rfl (x_ rfl rfl (s_alloc (so_ rfl (show lk _ (d,12294) = some (_,([.i .u8 0,.i .i64 0,.s [],.sl .full (List.map Val.row ([]:List Val)),.b false]:List AV)) from lk_here) rfl rfl rfl (m_ (m_ (e_ (sq_ (q_ rfl (s_mvB rfl (nt_ rfl (s_mvB rfl (eb_ (g:=19) rfl (fun g'6=>gn_ (b:=true) rfl rfl (gn_ (b:=true) rfl rfl (pt_ rfl rfl (s_mvB rfl (gn_ (b:=true) rfl rfl (gn_ (b:=true) rfl rfl (gn_ (b:=true) rfl rfl (pt_ rfl rfl (s_mvB rfl (gn_ (b:=true) rfl rfl (gn_ (b:=true) rfl rfl (gn_ (b:=true) rfl rfl (gn_ (b:=true) rfl rfl (pt_ rfl rfl (e_ (ct_ rfl (q_ rfl (s_build f_nil (so_ rfl (lk_other rfl (lk_other rfl (show lk _ (d,0) = some (_,([.i .u8 0,.i .i64 0,.s [],.sl .full (List.map Val.row ([]:List Val)),.b false]:List AV)) from lk_here))) rfl rfl rfl (m_ (e_ (rt_ (hQ _ _ _ _ _ _ _ rfl lk_here rfl (e'5.2.1 g'6)))))))))))))))))))))))) (fun g'6=>gy_ rfl (s_mvS rfl (gy_ rfl (b_ rfl rfl sne_ (pf_ rfl rfl (s_mvB rfl (em_ (g:=23) rfl (fun g'7=>gn_ (b:=true) rfl rfl (gn_ (b:=true) rfl rfl (gn_ (b:=true) rfl rfl (pt_ rfl rfl (s_mvB rfl (gn_ (b:=true) rfl rfl (gn_ (b:=true) rfl rfl (gn_ (b:=true) rfl rfl (gn_ (b:=true) rfl rfl (pt_ rfl rfl (e_ (ct_ rfl (q_ rfl (s_build f_nil (so_ rfl (lk_other rfl (lk_other rfl (show lk _ (d,0) = some (_,([.i .u8 0,.i .i64 0,.s [],.sl .full (List.map Val.row ([]:List Val)),.b false]:List AV)) from lk_here))) rfl rfl rfl (m_ (e_ (rt_ (hQ _ _ _ _ _ _ _ rfl lk_here rfl ((e'5.2.2 g'6).1 g'7)))))))))))))))))))) (fun g'7=>gy_ rfl (l_ rfl lk_here rfl rfl (gy_ rfl (((e'5.2.2 g'6).2 g'7).elim fun r'8 e'9=>ca_ (sc rfl rfl sn) e'9.1 (gy_ rfl (b_ rfl rfl neq_ (pf_ rfl rfl (s_mvB rfl (em_ (g:=28) rfl (fun g'10=>gn_ (b:=true) rfl rfl (gn_ (b:=true) rfl rfl (gn_ (b:=true) rfl rfl (gn_ (b:=true) rfl rfl (pt_ rfl rfl (e_ (ct_ rfl (q_ rfl (s_build f_nil (so_ rfl (lk_other rfl (lk_other rfl (show lk _ (d,0) = some (_,([.i .u8 0,.i .i64 0,.s [],.sl .full (List.map Val.row ([]:List Val)),.b false]:List AV)) from lk_here))) rfl rfl rfl (m_ (e_ (rt_ (hQ _ _ _ _ _ _ _ rfl lk_here rfl (e'9.2.1 g'10))))))))))))))) (fun g'10=>gy_ rfl (l_ rfl lk_here rfl rfl (gy_ rfl ((e'9.2.2 g'10).elim fun r'11 e'12=>ca_ (sc rfl rfl sn) e'12.1 (gy_ rfl (s_mvS H0 (gy_ rfl (b_ rfl rfl sne_ (pf_ rfl rfl (e_ (cs_ rfl (fun g'13=>q_ rfl (s_build f_nil (so_ rfl (lk_other rfl (lk_other rfl (show lk _ (d,0) = some (_,([.i .u8 0,.i .i64 0,.s [],.sl .full (List.map Val.row ([]:List Val)),.b false]:List AV)) from lk_here))) rfl rfl rfl (m_ (e_ (rt_ (hQ _ _ _ _ _ _ _ rfl lk_here rfl (e'12.2.1 g'13)))))))) (fun g'13=>sk_ (q_ rfl (l_ rfl lk_here rfl rfl (so_ rfl (lk_other rfl (lk_other rfl (show lk _ (d,0) = some (_,([.i .u8 0,.i .i64 0,.s [],.sl .full (List.map Val.row ([]:List Val)),.b false]:List AV)) from lk_here))) rfl rfl rfl (m_ (e_ (rt_ (hQ _ _ _ _ _ _ _ rfl lk_here rfl (e'12.2.2 g'13)))))))))))))))))))))))))))))))))))))))))))))))))))))))))))))))))))
end
theorem p75 {prog:Prog}(hf:prog.fn 75 = some pf75){s0:List UInt8}{K:Val→Int→Prop}(h:T75_0 prog K s0) :∃res0:Val,∃res1:Int,K res0 res1∧Pus prog 75 [.s s0] (.tup [res0.av,.i .i64 res1]):=by
  obtain ⟨v,hv,res0,res1,hk,rfl⟩:=Pus.of (K:=fun v=>∃res0:Val,∃res1:Int,K res0 res1∧v = .tup [res0.av,.i .i64 res1]) hf rfl (w75_0 (σ:=sl0 [.s s0]) (fun σ st k0 v0 o0_0 res0 res1 H2 HB2 H3 hk=>⟨.tup [res0.avo o0_0,.i .i64 res1],by simp only [pf75,ares,aresL,ares_cellA (n:=5) H2 HB2 rfl,H3,ares_tmp,Option.map_some],_,rfl,res0,res1,hk,rfl⟩) rfl h)
  exact ⟨res0,res1,hk,hv⟩
def r108_0:List AI:=[oO 4 (.alloc [.i .u8 0,.i .i64 0,.s [],.sl .full [],.b false]),
 oC 5 (.s []),
 oC 6 (.b false)]
def r108_1:List AI:=[oM 19 1,
 oB 20 .eql (.t 19) (.c (.i .i64 0)),
 oM 21 20,
 oG 22 (.mv (.t 0)) 21 false,
 oG 23 (.len true (.t 22)) 21 false,
 oG 24 (.bin .eql (.t 23) (.c (.i .i64 0))) 21 false,
 oO 25 (.pick (.t 21) (.c (.b true)) (.t 24))]
def r108_2:List AI:=[oO 26 (.build [.i .u8 0,.i .i64 0,.s [],.sl .full [],.b false] []),
 oS 5 4 26,
 oC 5 (.s []),
 oC 6 (.b false)]
def r108_3:List AI:=[oO 27 (.bslice [.s []] 5 [(0,(.c (.s [116,114,117,101]))),(1,(.c (.s [102,97,108,115,101]))),(2,(.c (.s [110,105,108]))),(3,(.c (.s [38,46,46,46]))),(4,(.c (.s [60,46,46,46,62])))]),
 oM 7 27]
def r108_4:List AI:=[oO 28 (.build [.i .u8 0,.i .i64 0,.s [],.sl .full [],.b false] [(0,1,(.c (.i .u8 1))),(1,1,(.c (.i .i64 1)))]),
 oO 29 (.build [.i .u8 0,.i .i64 0,.s [],.sl .full [],.b false] [(0,1,(.c (.i .u8 1)))]),
 oO 30 (.build [.i .u8 0,.i .i64 0,.s [],.sl .full [],.b false] [(0,1,(.c (.i .u8 4)))]),
 oO 31 (.build [.i .u8 0,.i .i64 0,.s [],.sl .full [],.b false] [(0,1,(.c (.i .u8 4))),(4,1,(.c (.b true)))]),
 oO 32 (.build [.i .u8 0,.i .i64 0,.s [],.sl .full [],.b false] [(0,1,(.c (.i .u8 7))),(4,1,(.c (.b true)))]),
 oO 33 (.bslice [.i .u8 0,.i .i64 0,.s [],.sl .full [],.b false] 5 [(0,(.t 28)),(1,(.t 29)),(2,(.t 30)),(3,(.t 31)),(4,(.t 32))]),
 oM 8 33]
def r108_5:List AI:=[oC 9 (.i .i64 0)]
def r108_6:List AI:=[oM 34 9,
 oM 35 7,
 oO 36 (.len false (.t 35)),
 oB 37 .lss (.t 34) (.t 36)]
def r108_7:List AI:=[oM 40 0,
 oM 41 7,
 oM 42 9,
 oO 43 (.iaL 1 (.t 41) (.t 42)),
 oL 44 43,
 oO 45 (.call false 132 [(.t 40),(.t 44)])]
def r108_8:List AI:=[oM 46 8,
 oM 47 9,
 oO 48 (.iaL 5 (.t 46) (.t 47)),
 oO 49 (.ldf 5 true (.t 48)),
 oM 50 0,
 oM 51 7,
 oM 52 9,
 oO 53 (.iaL 1 (.t 51) (.t 52)),
 oO 54 (.ldf 1 false (.t 53)),
 oO 55 (.len true (.t 54)),
 oO 56 (.slS (.t 50) (some (.t 55)) none),
 oS 5 4 49,
 oM 5 56,
 oC 6 (.b true)]
def r108_9:List AI:=[oM 38 9,
 oB 39 .add (.t 38) (.c (.i .i64 1)),
 oM 9 39]
def r108_10:List AI:=[oM 57 0,
 oO 58 (.ixS (.t 57) (.c (.i .i64 0)))]
def r108_11:List AI:=[oB 60 .eql (.t 58) (.c (.i .u8 38)),
 oM 59 60]
def r108_12:List AI:=[oM 62 0,
 oO 63 (.slS (.t 62) (some (.c (.i .i64 1))) none),
 oM 64 1,
 oB 65 .sub (.t 64) (.c (.i .i64 1)),
 oO 66 (.call false 108 [(.t 63),(.t 65)]),
 oM 61 66,
 oE 67 0 61,
 oE 68 1 61,
 oE 69 2 61,
 oO 10 (.alloc [.i .u8 0,.i .i64 0,.s [],.sl .full [],.b false]),
 oS 5 10 67,
 oM 11 68,
 oM 12 69]
def r108_13:List AI:=[oO 70 (.load 5 true (.t 10)),
 oO 71 (.bslice [.i .u8 0,.i .i64 0,.s [],.sl .full [],.b false] 1 [(0,(.t 70))]),
 oO 72 (.build [.i .u8 0,.i .i64 0,.s [],.sl .full [],.b false] [(0,1,(.c (.i .u8 4))),(3,1,(.t 71))]),
 oM 73 11,
 oM 74 12,
 oS 5 4 72,
 oM 5 73,
 oM 6 74]
def r108_14:List AI:=[oB 76 .eql (.t 58) (.c (.i .u8 123)),
 oM 75 76]
def r108_15:List AI:=[oM 77 0,
 oO 78 (.slS (.t 77) (some (.c (.i .i64 1))) none),
 oM 79 1,
 oO 80 (.call false 133 [(.t 78),(.c (.i .u8 5)),(.c (.i .u8 125)),(.t 79)]),
 oE 81 0 80,
 oE 82 1 80,
 oE 83 2 80,
 oS 5 4 81,
 oM 5 82,
 oM 6 83]
def r108_16:List AI:=[oB 85 .eql (.t 58) (.c (.i .u8 91)),
 oM 84 85]
def r108_17:List AI:=[oM 86 0,
 oO 87 (.slS (.t 86) (some (.c (.i .i64 1))) none),
 oM 88 1,
 oO 89 (.call false 133 [(.t 87),(.c (.i .u8 6)),(.c (.i .u8 93)),(.t 88)]),
 oE 90 0 89,
 oE 91 1 89,
 oE 92 2 89,
 oS 5 4 90,
 oM 5 91,
 oM 6 92]
def r108_18:List AI:=[oB 94 .eql (.t 58) (.c (.i .u8 60)),
 oM 93 94]
def r108_19:List AI:=[oM 95 0,
 oO 96 (.slS (.t 95) (some (.c (.i .i64 1))) none),
 oM 97 1,
 oO 98 (.call false 133 [(.t 96),(.c (.i .u8 7)),(.c (.i .u8 62)),(.t 97)]),
 oE 99 0 98,
 oE 100 1 98,
 oE 101 2 98,
 oS 5 4 99,
 oM 5 100,
 oM 6 101]
def r108_20:List AI:=[oB 103 .eql (.t 58) (.c (.i .u8 34)),
 oM 102 103]
def r108_21:List AI:=[oM 104 0,
 oO 105 (.call false 134 [(.t 104)]),
 oM 13 105]
def r108_22:List AI:=[oM 107 0,
 oM 108 13,
 oO 109 (.slS (.t 107) none (some (.t 108))),
 oO 110 (.call false 26 [(.t 109)]),
 oM 106 110,
 oE 111 0 106,
 oE 112 1 106,
 oM 14 111,
 oM 15 112]
def r108_23:List AI:=[oM 113 14,
 oO 114 (.build [.i .u8 0,.i .i64 0,.s [],.sl .full [],.b false] [(0,1,(.c (.i .u8 3))),(2,1,(.t 113))]),
 oM 115 0,
 oM 116 13,
 oO 117 (.slS (.t 115) (some (.t 116)) none),
 oM 118 15,
 oB 119 .eql (.t 118) (.c (.i .i64 0)),
 oS 5 4 114,
 oM 5 117,
 oM 6 119]
def r108_24:List AI:=[oM 120 0,
 oO 121 (.call false 135 [(.t 120)]),
 oM 16 121]
def r108_25:List AI:=[oM 123 0,
 oM 124 16,
 oO 125 (.slS (.t 123) none (some (.t 124))),
 oO 126 (.call false 22 [(.t 125)]),
 oM 122 126,
 oE 127 0 122,
 oE 128 1 122,
 oM 17 127,
 oM 18 128]
def r108_26:List AI:=[oM 129 17,
 oO 130 (.build [.i .u8 0,.i .i64 0,.s [],.sl .full [],.b false] [(0,1,(.c (.i .u8 2))),(1,1,(.t 129))]),
 oM 131 0,
 oM 132 16,
 oO 133 (.slS (.t 131) (some (.t 132)) none),
 oM 134 18,
 oB 135 .eql (.t 134) (.c (.i .i64 0)),
 oS 5 4 130,
 oM 5 133,
 oM 6 135]
abbrev l108_0:AC:=(.seq (.seq (.reg 6 r108_6) (.cond (.t 37) .skip (.exit 0))) (.seq (.block 1 (.seq (.reg 8 r108_7) (.cond (.t 45) (.seq (.reg 9 r108_8) .ret) .skip))) (.reg 7 r108_9)))
abbrev c108_1:AC:=(.cond (.t 59) (.seq (.reg 12 r108_12) (.seq (.reg 13 r108_13) .ret)) (.seq (.reg 14 r108_14) (.cond (.t 75) (.seq (.reg 15 r108_15) .ret) (.seq (.reg 16 r108_16) (.cond (.t 84) (.seq (.reg 17 r108_17) .ret) (.seq (.reg 18 r108_18) (.cond (.t 93) (.seq (.reg 19 r108_19) .ret) (.seq (.reg 20 r108_20) (.cond (.t 102) (.seq (.reg 21 r108_21) (.seq (.reg 22 r108_22) (.seq (.reg 23 r108_23) .ret))) .skip)))))))))
abbrev c108_2:AC:=(.block 2 (.seq (.reg 11 r108_11) c108_1))
abbrev c108_3:AC:=(.seq (.seq (.reg 10 r108_10) c108_2) (.seq (.reg 24 r108_24) (.seq (.reg 25 r108_25) (.seq (.reg 26 r108_26) .ret))))
abbrev c108_4:AC:=(.seq (.seq (.reg 5 r108_5) (.block 0 (.loop l108_0))) c108_3)
abbrev c108_5:AC:=(.seq (.reg 4 r108_4) c108_4)
abbrev c108_6:AC:=(.seq (.reg 3 r108_3) c108_5)
abbrev c108_7:AC:=(.seq (.seq (.reg 1 r108_1) (.cond (.t 25) (.seq (.reg 2 r108_2) .ret) .skip)) c108_6)
abbrev b108:AC:=(.seq (.reg 0 r108_0) c108_7)
def pf108:AF:={ nt:=136,res:=[.cell 4 5 true,.tmp 5,.tmp 6],body:=b108 }
abbrev H108 (Q:AE→Sl→St→Prop)(K:Val→List UInt8→Bool→Prop):Prop:=∀(σ:Sl)(st:St)(k0:Key)(v0:Nat)(o0_0:Own)(res0:Val)(res1:List UInt8)(res2:Bool),σ 4 = .p k0 v0 0→lk st.bx k0 = some (v0,[.i .u8 res0.kind,.i .i64 res0.int,.s res0.text,.sl o0_0 (List.map Val.row res0.list),.b res0.cut])→σ 5 = .s res1→σ 6 = .b res2→K res0 res1 res2→Q .ret σ st
abbrev I108_0 (prog:Prog)(d:Nat)(Q:AE→Sl→St→Prop)(s0:List UInt8)(deep1:Int)(words7:List (List UInt8))(values8:List Val)(i9:Int)(m0:Val):Prop:=
  ∀(σ:Sl)(st:St) (o_words7 o_values8 o_m0_3:Own)(v0:Nat),σ 0 = .s s0→σ 1 = .i .i64 deep1→σ 4 = .p (d,0) v0 0→σ 7 = .sl o_words7 (List.map rowS words7)→σ 8 = .sl o_values8 (List.map Val.row values8)→σ 9 = .i .i64 i9→ApM d st.ow o_words7 words7.length→ApM d st.ow o_values8 values8.length→lk st.bx (d,0) = some (v0,[.i .u8 m0.kind,.i .i64 m0.int,.s m0.text,.sl o_m0_3 (List.map Val.row m0.list),.b m0.cut])→W prog d (.loop l108_0) σ st (blockW 0 (thenW prog d c108_3 Q))
def T108_8 (prog:Prog)(K:Val→List UInt8→Bool→Prop)(s0:List UInt8)(deep1:Int)(t58:Int)(t59:Bool)(m0:Val):Prop:=
  (t59 = true→1≤s0.length∧∃r'2:Val,∃r'3:List UInt8,∃r'4:Bool,Pus prog 108 [.s (s0.drop 1),.i .i64 (IntKind.i64.wrap (deep1 - 1))] (.tup [r'2.av,.s r'3,.b r'4])∧K (Val.mk 4 0 [] [r'2] false) r'3 r'4)∧(t59 = false→(t58 = 123→1≤s0.length∧∃r'9:Val,∃r'10:List UInt8,∃r'11:Bool,Pus prog 133 [.s (s0.drop 1),.i .u8 5,.i .u8 125,.i .i64 deep1] (.tup [r'9.av,.s r'10,.b r'11])∧K r'9 r'10 r'11)∧(¬(t58 = 123)→(t58 = 91→1≤s0.length∧∃r'16:Val,∃r'17:List UInt8,∃r'18:Bool,Pus prog 133 [.s (s0.drop 1),.i .u8 6,.i .u8 93,.i .i64 deep1] (.tup [r'16.av,.s r'17,.b r'18])∧K r'16 r'17 r'18)∧(¬(t58 = 91)→(t58 = 60→1≤s0.length∧∃r'23:Val,∃r'24:List UInt8,∃r'25:Bool,Pus prog 133 [.s (s0.drop 1),.i .u8 7,.i .u8 62,.i .i64 deep1] (.tup [r'23.av,.s r'24,.b r'25])∧K r'23 r'24 r'25)∧(¬(t58 = 60)→(t58 = 34→∃r'30:Int,Pus prog 134 [.s s0] (.i .i64 r'30)∧0≤r'30∧(r'30).toNat≤s0.length∧∃r'32:List UInt8,∃r'33:Int,Pus prog 26 [.s (s0.take (r'30).toNat)] (.tup [.s r'32,.i .i64 r'33])∧0≤r'30∧(r'30).toNat≤s0.length∧K (Val.mk 3 0 r'32 ([]:List Val) false) (s0.drop (r'30).toNat) (decide (r'33 = 0)))∧(¬(t58 = 34)→∃r'36:Int,Pus prog 135 [.s s0] (.i .i64 r'36)∧0≤r'36∧(r'36).toNat≤s0.length∧∃r'38:Int,∃r'39:Int,Pus prog 22 [.s (s0.take (r'36).toNat)] (.tup [.i .i64 r'38,.i .i64 r'39])∧0≤r'36∧(r'36).toNat≤s0.length∧K (Val.mk 2 r'38 [] ([]:List Val) false) (s0.drop (r'36).toNat) (decide (r'39 = 0)))))))
def T108_7 (prog:Prog)(K:Val→List UInt8→Bool→Prop)(s0:List UInt8)(deep1:Int)(t58:Int)(m0:Val):Prop:=
  T108_8 prog K s0 deep1 t58 (decide (t58 = 38)) m0
def T108_6 (prog:Prog)(K:Val→List UInt8→Bool→Prop)(s0:List UInt8)(deep1:Int)(m0:Val):Prop:=
  ∃c'1:UInt8,s0[0]? = some c'1∧T108_7 prog K s0 deep1 (c'1.toNat:Int) m0
def T108_5 (prog:Prog)(K:Val→List UInt8→Bool→Prop)(P0:Int→Val→Prop)(s0:List UInt8)(deep1:Int)(words7:List (List UInt8))(values8:List Val)(i9:Int)(m0:Val):Prop:=
  (i9 < (words7.length:Int)→0≤i9∧∃c'2:List UInt8,words7[(i9).toNat]? = some c'2∧∃r'4:Bool,Pus prog 132 [.s s0,.s c'2] (.b r'4)∧(r'4 = true→0≤i9∧∃c'7:Val,values8[(i9).toNat]? = some c'7∧0≤i9∧∃c'9:List UInt8,words7[(i9).toNat]? = some c'9∧0≤(c'9.length:Int)∧(c'9.length:Int).toNat≤s0.length∧K c'7 (s0.drop (c'9.length:Int).toNat) true)∧(r'4 = false→P0 (IntKind.i64.wrap (i9 + 1)) m0))∧(¬(i9 < (words7.length:Int))→T108_6 prog K s0 deep1 m0)
def T108_4 (prog:Prog)(K:Val→List UInt8→Bool→Prop)(s0:List UInt8)(deep1:Int)(words7:List (List UInt8))(values8:List Val)(m0:Val):Prop:=
  ∀P0:Int→Val→Prop,(∀(i9:Int)(m0:Val),T108_5 prog K P0 s0 deep1 words7 values8 i9 m0→P0 i9 m0)→P0 0 m0
def T108_3 (prog:Prog)(K:Val→List UInt8→Bool→Prop)(s0:List UInt8)(deep1:Int)(words7:List (List UInt8))(m0:Val):Prop:=
  T108_4 prog K s0 deep1 words7 [(Val.mk 1 1 [] ([]:List Val) false),(Val.mk 1 0 [] ([]:List Val) false),(Val.mk 4 0 [] ([]:List Val) false),(Val.mk 4 0 [] ([]:List Val) true),(Val.mk 7 0 [] ([]:List Val) true)] m0
def T108_2 (prog:Prog)(K:Val→List UInt8→Bool→Prop)(s0:List UInt8)(deep1:Int)(m0:Val):Prop:=
  T108_3 prog K s0 deep1 [([116,114,117,101]:List UInt8),([102,97,108,115,101]:List UInt8),([110,105,108]:List UInt8),([38,46,46,46]:List UInt8),([60,46,46,46,62]:List UInt8)] m0
def T108_1 (prog:Prog)(K:Val→List UInt8→Bool→Prop)(s0:List UInt8)(deep1:Int)(m0:Val):Prop:=
  (deep1 = 0→K (Val.mk 0 0 [] ([]:List Val) false) ([]:List UInt8) false)∧(¬(deep1 = 0)→((s0.length:Int) = 0→K (Val.mk 0 0 [] ([]:List Val) false) ([]:List UInt8) false)∧(¬((s0.length:Int) = 0)→T108_2 prog K s0 deep1 m0))
def T108_0 (prog:Prog)(K:Val→List UInt8→Bool→Prop)(s0:List UInt8)(deep1:Int):Prop:=
  T108_1 prog K s0 deep1 (Val.mk 0 0 [] ([]:List Val) false)
section
variable {prog:Prog}{d:Nat}{Q:AE→Sl→St→Prop}{K:Val→List UInt8→Bool→Prop}(hQ:H108 Q K){σ:Sl}{st:St}
include hQ
theorem w108_8 {s0:List UInt8}{deep1 t58:Int}{t59:Bool}{m0:Val}{o_m0_3:Own}{v0:Nat}(H0:σ 0 = .s s0)(H1:σ 1 = .i .i64 deep1)(H4:σ 4 = .p (d,0) v0 0)(H58:σ 58 = .i .u8 t58)(H59:σ 59 = .b t59)(B0:lk st.bx (d,0) = some (v0,[.i .u8 m0.kind,.i .i64 m0.int,.s m0.text,.sl o_m0_3 (List.map Val.row m0.list),.b m0.cut]))(h:T108_8 prog K s0 deep1 t58 t59 m0):W prog d c108_1 σ st (blockW 2 (thenW prog d (.seq (.reg 24 r108_24) (.seq (.reg 25 r108_25) (.seq (.reg 26 r108_26) .ret))) Q)):=
 cb_ H59 (fun g'1=>sq_ (W.reg (m_ (s_slS_lo H0 rfl (by decide) (h.1 g'1).1 (m_ (b_ H1 rfl sub_ ((h.1 g'1).2.elim fun r'2 e'6=>e'6.elim fun r'3 e'7=>e'7.elim fun r'4 e'5=>ca_ (sc rfl rfl (sc rfl rfl sn)) e'5.1 (m_ (x_ rfl rfl (x_ rfl rfl (x_ rfl rfl (s_alloc (so_ rfl (show lk _ (d,49161) = some (_,([.i .u8 0,.i .i64 0,.s [],.sl .full (List.map Val.row ([]:List Val)),.b false]:List AV)) from lk_here) rfl rfl rfl (m_ (m_ (e_ (q_ rfl (l_ rfl lk_here rfl rfl (s_bslM (f:=Val.row) (l:=[r'2]) rfl rfl (g_cons rfl rfl rfl g_nil) (by simp only [List.map_cons,List.map_nil,Val.row_eq]; rfl) (s_build (f_cons rfl rfl (f_cons rfl rfl f_nil)) (m_ (m_ (so_ H4 (lk_other rfl (lk_other rfl B0)) rfl rfl rfl (m_ (m_ (e_ (rt_ (hQ _ _ _ _ _ _ _ _ H4 lk_here rfl rfl e'5.2)))))))))))))))))))))))))))) (fun g'1=>q_ rfl (b_ H58 rfl eql_ (m_ (e_ (cs_ rfl (fun g'8=>q_ rfl (m_ (s_slS_lo H0 rfl (by decide) ((h.2 g'1).1 g'8).1 (m_ (((h.2 g'1).1 g'8).2.elim fun r'9 e'13=>e'13.elim fun r'10 e'14=>e'14.elim fun r'11 e'12=>ca_ (sc rfl rfl (sc rfl rfl (sc rfl rfl (sc H1 rfl sn)))) e'12.1 (x_ rfl rfl (x_ rfl rfl (x_ rfl rfl (so_ H4 B0 rfl rfl rfl (m_ (m_ (e_ (rt_ (hQ _ _ _ _ _ _ _ _ H4 lk_here rfl rfl e'12.2)))))))))))))) (fun g'8=>q_ rfl (b_ H58 rfl eql_ (m_ (e_ (cs_ rfl (fun g'15=>q_ rfl (m_ (s_slS_lo H0 rfl (by decide) (((h.2 g'1).2 g'8).1 g'15).1 (m_ ((((h.2 g'1).2 g'8).1 g'15).2.elim fun r'16 e'20=>e'20.elim fun r'17 e'21=>e'21.elim fun r'18 e'19=>ca_ (sc rfl rfl (sc rfl rfl (sc rfl rfl (sc H1 rfl sn)))) e'19.1 (x_ rfl rfl (x_ rfl rfl (x_ rfl rfl (so_ H4 B0 rfl rfl rfl (m_ (m_ (e_ (rt_ (hQ _ _ _ _ _ _ _ _ H4 lk_here rfl rfl e'19.2)))))))))))))) (fun g'15=>q_ rfl (b_ H58 rfl eql_ (m_ (e_ (cs_ rfl (fun g'22=>q_ rfl (m_ (s_slS_lo H0 rfl (by decide) ((((h.2 g'1).2 g'8).2 g'15).1 g'22).1 (m_ (((((h.2 g'1).2 g'8).2 g'15).1 g'22).2.elim fun r'23 e'27=>e'27.elim fun r'24 e'28=>e'28.elim fun r'25 e'26=>ca_ (sc rfl rfl (sc rfl rfl (sc rfl rfl (sc H1 rfl sn)))) e'26.1 (x_ rfl rfl (x_ rfl rfl (x_ rfl rfl (so_ H4 B0 rfl rfl rfl (m_ (m_ (e_ (rt_ (hQ _ _ _ _ _ _ _ _ H4 lk_here rfl rfl e'26.2)))))))))))))) (fun g'22=>q_ rfl (b_ H58 rfl eql_ (m_ (e_ (cs_ rfl (fun g'29=>q_ rfl (m_ ((((((h.2 g'1).2 g'8).2 g'15).2 g'22).1 g'29).elim fun r'30 e'31=>ca_ (sc H0 rfl sn) e'31.1 (m_ (e_ (q_ rfl (m_ (m_ (s_slS_hi H0 rfl e'31.2.1 e'31.2.2.1 (e'31.2.2.2.elim fun r'32 e'35=>e'35.elim fun r'33 e'34=>ca_ (sc rfl rfl sn) e'34.1 (m_ (x_ rfl rfl (x_ rfl rfl (m_ (m_ (e_ (q_ rfl (m_ (s_build (f_cons rfl rfl (f_cons rfl rfl f_nil)) (m_ (m_ (s_slS_lo H0 rfl e'34.2.1 e'34.2.2.1 (m_ (b_ rfl rfl eql_ (so_ H4 B0 rfl rfl rfl (m_ (m_ (e_ (rt_ (hQ _ _ _ _ _ _ _ _ H4 lk_here rfl rfl e'34.2.2.2)))))))))))))))))))))))))))))) (fun g'29=>sk_ (q_ rfl (m_ ((((((h.2 g'1).2 g'8).2 g'15).2 g'22).2 g'29).elim fun r'36 e'37=>ca_ (sc H0 rfl sn) e'37.1 (m_ (e_ (q_ rfl (m_ (m_ (s_slS_hi H0 rfl e'37.2.1 e'37.2.2.1 (e'37.2.2.2.elim fun r'38 e'41=>e'41.elim fun r'39 e'40=>ca_ (sc rfl rfl sn) e'40.1 (m_ (x_ rfl rfl (x_ rfl rfl (m_ (m_ (e_ (q_ rfl (m_ (s_build (f_cons rfl rfl (f_cons rfl rfl f_nil)) (m_ (m_ (s_slS_lo H0 rfl e'40.2.1 e'40.2.2.1 (m_ (b_ rfl rfl eql_ (so_ H4 B0 rfl rfl rfl (m_ (m_ (e_ (rt_ (hQ _ _ _ _ _ _ _ _ H4 lk_here rfl rfl e'40.2.2.2)))))))))))))))))))))))))))))))))))))))))))))))))))
theorem w108_7 {s0:List UInt8}{deep1 t58:Int}{m0:Val}{o_m0_3:Own}{v0:Nat}(H0:σ 0 = .s s0)(H1:σ 1 = .i .i64 deep1)(H4:σ 4 = .p (d,0) v0 0)(H58:σ 58 = .i .u8 t58)(B0:lk st.bx (d,0) = some (v0,[.i .u8 m0.kind,.i .i64 m0.int,.s m0.text,.sl o_m0_3 (List.map Val.row m0.list),.b m0.cut]))(h:T108_7 prog K s0 deep1 t58 m0):W prog d c108_2 σ st (thenW prog d (.seq (.reg 24 r108_24) (.seq (.reg 25 r108_25) (.seq (.reg 26 r108_26) .ret))) Q):=
 bk_ (q_ rfl (b_ H58 rfl eql_ (m_ (e_ (w108_8 hQ H0 H1 H4 H58 rfl B0 h)))))
theorem w108_6 {s0:List UInt8}{deep1:Int}{m0:Val}{o_m0_3:Own}{v0:Nat}(H0:σ 0 = .s s0)(H1:σ 1 = .i .i64 deep1)(H4:σ 4 = .p (d,0) v0 0)(B0:lk st.bx (d,0) = some (v0,[.i .u8 m0.kind,.i .i64 m0.int,.s m0.text,.sl o_m0_3 (List.map Val.row m0.list),.b m0.cut]))(h:T108_6 prog K s0 deep1 m0):W prog d c108_3 σ st Q:=
 sq_ (q_ rfl (m_ (h.elim fun c'1 e'2=>s_ixS H0 rfl (by decide) e'2.1 (e_ (w108_7 hQ H0 H1 H4 rfl B0 e'2.2)))))
theorem w108_5 {s0:List UInt8}{deep1:Int}{words7:List (List UInt8)}{values8:List Val}{i9:Int}{m0:Val}{P0:Int→Val→Prop} (kP0 :∀(i9:Int)(m0:Val),P0 i9 m0→I108_0 prog d Q s0 deep1 words7 values8 i9 m0){o_words7 o_values8 o_m0_3:Own}{v0:Nat}(H0:σ 0 = .s s0)(H1:σ 1 = .i .i64 deep1)(H4:σ 4 = .p (d,0) v0 0)(H7:σ 7 = .sl o_words7 (List.map rowS words7))(H8:σ 8 = .sl o_values8 (List.map Val.row values8))(H9:σ 9 = .i .i64 i9)(A7:ApM d st.ow o_words7 words7.length)(A8:ApM d st.ow o_values8 values8.length)(B0:lk st.bx (d,0) = some (v0,[.i .u8 m0.kind,.i .i64 m0.int,.s m0.text,.sl o_m0_3 (List.map Val.row m0.list),.b m0.cut]))(h:T108_5 prog K P0 s0 deep1 words7 values8 i9 m0):W prog d l108_0 σ st (thenW prog d (.loop l108_0) (blockW 0 (thenW prog d c108_3 Q))):=
 sq_ (q_ rfl (m_ (s_mvL H7 (ll_ rfl (b_ H9 rfl lss_ (e_ (cs_ rfl (fun g'1=>sk_ (sq_ (bk_ (q_ rfl (m_ (s_mvL H7 (m_ ((h.1 g'1).2.elim fun c'2 e'3=>ia_ rfl H9 (h.1 g'1).1 e'3.1 rfl rfl (lf_ rfl rfl rfl (e'3.2.elim fun r'4 e'5=>ca_ (sc H0 rfl (sc rfl rfl sn)) e'5.1 (e_ (cb_ rfl (fun g'6=>q_ rfl (s_mvL H8 (m_ ((e'5.2.1 g'6).2.elim fun c'7 e'8=>ia_ rfl H9 (e'5.2.1 g'6).1 e'8.1 (Val.row_eq c'7) rfl (s_ldf rfl rfl rfl (m_ (s_mvL H7 (m_ (e'8.2.2.elim fun c'9 e'10=>ia_ rfl H9 e'8.2.1 e'10.1 rfl rfl (s_ldf rfl rfl rfl (ln_ rfl (s_slS_lo H0 rfl e'10.2.1 e'10.2.2.1 (so_ H4 B0 rfl rfl rfl (m_ (m_ (e_ (rt_ (hQ _ _ _ _ _ _ _ _ H4 lk_here rfl rfl e'10.2.2.2)))))))))))))))))) (fun g'6=>sk_ (W.reg0 rfl fun _ _=>m_ (b_ H9 rfl add_ (m_ (e_ (kP0 _ _ (e'5.2.2 g'6) _ _ _ _ _ _ H0 H1 H4 H7 H8 rfl A7 A8 B0)))))))))))))))))) (fun g'1=>ex_ (w108_6 hQ H0 H1 H4 B0 (h.2 g'1))))))))))
theorem w108_4 {s0:List UInt8}{deep1:Int}{words7:List (List UInt8)}{values8:List Val}{m0:Val}{o_words7 o_values8 o_m0_3:Own}{v0:Nat}(H0:σ 0 = .s s0)(H1:σ 1 = .i .i64 deep1)(H4:σ 4 = .p (d,0) v0 0)(H7:σ 7 = .sl o_words7 (List.map rowS words7))(H8:σ 8 = .sl o_values8 (List.map Val.row values8))(A7:ApM d st.ow o_words7 words7.length)(A8:ApM d st.ow o_values8 values8.length)(B0:lk st.bx (d,0) = some (v0,[.i .u8 m0.kind,.i .i64 m0.int,.s m0.text,.sl o_m0_3 (List.map Val.row m0.list),.b m0.cut]))(h:T108_4 prog K s0 deep1 words7 values8 m0):W prog d c108_4 σ st Q:=
 sq_ (q_ rfl (m_ (e_ (bk_ (h (I108_0 prog d Q s0 deep1 words7 values8) (fun _ _ hb _ _ _ _ _ _ H0 H1 H4 H7 H8 H9 A7 A8 B0=>W.loop (w108_5 hQ (fun _ _ x=>x) H0 H1 H4 H7 H8 H9 A7 A8 B0 hb)) _ _ _ _ _ _ H0 H1 H4 H7 H8 rfl A7 A8 B0)))))
theorem w108_3 {s0:List UInt8}{deep1:Int}{words7:List (List UInt8)}{m0:Val}{o_words7 o_m0_3:Own}{v0:Nat}(H0:σ 0 = .s s0)(H1:σ 1 = .i .i64 deep1)(H4:σ 4 = .p (d,0) v0 0)(H7:σ 7 = .sl o_words7 (List.map rowS words7))(A7:ApM d st.ow o_words7 words7.length)(B0:lk st.bx (d,0) = some (v0,[.i .u8 m0.kind,.i .i64 m0.int,.s m0.text,.sl o_m0_3 (List.map Val.row m0.list),.b m0.cut]))(h:T108_3 prog K s0 deep1 words7 m0):W prog d c108_5 σ st Q:=
 q_ rfl (s_build (f_cons rfl rfl (f_cons rfl rfl f_nil)) (s_build (f_cons rfl rfl f_nil) (s_build (f_cons rfl rfl f_nil) (s_build (f_cons rfl rfl (f_cons rfl rfl f_nil)) (s_build (f_cons rfl rfl (f_cons rfl rfl f_nil)) (s_bslM (f:=Val.row) (l:=[(Val.mk 1 1 [] ([]:List Val) false),(Val.mk 1 0 [] ([]:List Val) false),(Val.mk 4 0 [] ([]:List Val) false),(Val.mk 4 0 [] ([]:List Val) true),(Val.mk 7 0 [] ([]:List Val) true)]) rfl rfl (g_cons rfl rfl rfl (g_cons rfl rfl rfl (g_cons rfl rfl rfl (g_cons rfl rfl rfl (g_cons rfl rfl rfl g_nil))))) (by simp only [List.map_cons,List.map_nil,Val.row_eq]; rfl) (s_mvL rfl (e_ (w108_4 hQ H0 H1 H4 H7 rfl A7 ApM.full B0 h)))))))))
theorem w108_2 {s0:List UInt8}{deep1:Int}{m0:Val}{o_m0_3:Own}{v0:Nat}(H0:σ 0 = .s s0)(H1:σ 1 = .i .i64 deep1)(H4:σ 4 = .p (d,0) v0 0)(B0:lk st.bx (d,0) = some (v0,[.i .u8 m0.kind,.i .i64 m0.int,.s m0.text,.sl o_m0_3 (List.map Val.row m0.list),.b m0.cut]))(h:T108_2 prog K s0 deep1 m0):W prog d c108_6 σ st Q:=
 q_ rfl (s_bslM (f:=rowS) (l:=[([116,114,117,101]:List UInt8),([102,97,108,115,101]:List UInt8),([110,105,108]:List UInt8),([38,46,46,46]:List UInt8),([60,46,46,46,62]:List UInt8)]) rfl rfl (g_cons rfl rfl rfl (g_cons rfl rfl rfl (g_cons rfl rfl rfl (g_cons rfl rfl rfl (g_cons rfl rfl rfl g_nil))))) rfl (s_mvL rfl (e_ (w108_3 hQ H0 H1 H4 rfl ApM.full B0 h))))
theorem w108_1 {s0:List UInt8}{deep1:Int}{m0:Val}{o_m0_3:Own}{v0:Nat}(H0:σ 0 = .s s0)(H1:σ 1 = .i .i64 deep1)(H4:σ 4 = .p (d,0) v0 0)(B0:lk st.bx (d,0) = some (v0,[.i .u8 m0.kind,.i .i64 m0.int,.s m0.text,.sl o_m0_3 (List.map Val.row m0.list),.b m0.cut]))(h:T108_1 prog K s0 deep1 m0):W prog d c108_7 σ st Q:=
 sq_ (q_ rfl (s_mvI H1 (b_ rfl rfl eql_ (s_mvB rfl (em_ (g:=21) rfl (fun g'1=>gn_ (b:=true) rfl rfl (gn_ (b:=true) rfl rfl (gn_ (b:=true) rfl rfl (pt_ rfl rfl (e_ (ct_ rfl (q_ rfl (s_build f_nil (so_ H4 B0 rfl rfl rfl (m_ (m_ (e_ (rt_ (hQ _ _ _ _ _ _ _ _ H4 lk_here rfl rfl (h.1 g'1))))))))))))))) (fun g'1=>gy_ rfl (s_mvS H0 (gy_ rfl (ln_ rfl (gy_ rfl (b_ rfl rfl eql_ (pf_ rfl rfl (e_ (cs_ rfl (fun g'2=>q_ rfl (s_build f_nil (so_ H4 B0 rfl rfl rfl (m_ (m_ (e_ (rt_ (hQ _ _ _ _ _ _ _ _ H4 lk_here rfl rfl ((h.2 g'1).1 g'2))))))))) (fun g'2=>sk_ (w108_2 hQ H0 H1 H4 B0 ((h.2 g'1).2 g'2)))))))))))))))))
theorem w108_0 {s0:List UInt8}{deep1:Int}(H0:σ 0 = .s s0)(H1:σ 1 = .i .i64 deep1)(h:T108_0 prog K s0 deep1):W prog d (.seq (.reg 0 r108_0) c108_7) σ st Q:=
 sq_ (W.reg (s_alloc (m_ (m_ (e_ (w108_1 (m0:=(Val.mk 0 0 [] ([]:List Val) false)) hQ H0 H1 rfl (show lk _ (d,0) = some (_,([.i .u8 0,.i .i64 0,.s [],.sl .full (List.map Val.row ([]:List Val)),.b false]:List AV)) from lk_here) h))))))
end
theorem p108 {prog:Prog}(hf:prog.fn 108 = some pf108){s0:List UInt8}{deep1:Int}{K:Val→List UInt8→Bool→Prop}(h:T108_0 prog K s0 deep1) :∃res0:Val,∃res1:List UInt8,∃res2:Bool,K res0 res1 res2∧Pus prog 108 [.s s0,.i .i64 deep1] (.tup [res0.av,.s res1,.b res2]):=by
  obtain ⟨v,hv,res0,res1,res2,hk,rfl⟩:=Pus.of (K:=fun v=>∃res0:Val,∃res1:List UInt8,∃res2:Bool,K res0 res1 res2∧v = .tup [res0.av,.s res1,.b res2]) hf rfl (w108_0 (σ:=sl0 [.s s0,.i .i64 deep1]) (fun σ st k0 v0 o0_0 res0 res1 res2 H4 HB4 H5 H6 hk=>⟨.tup [res0.avo o0_0,.s res1,.b res2],by simp only [pf108,ares,aresL,ares_cellA (n:=5) H4 HB4 rfl,H5,H6,ares_tmp,Option.map_some],_,rfl,res0,res1,res2,hk,rfl⟩) rfl rfl h)
  exact ⟨res0,res1,res2,hk,hv⟩
def r132_0:List AI:=[oC 4 (.b false)]
def r132_1:List AI:=[oM 5 0,
 oO 6 (.len true (.t 5)),
 oM 7 1,
 oO 8 (.len true (.t 7)),
 oB 9 .geq (.t 6) (.t 8),
 oM 10 9,
 oG 11 (.mv (.t 0)) 10 true,
 oG 12 (.mv (.t 1)) 10 true,
 oG 13 (.len true (.t 12)) 10 true,
 oG 14 (.slS (.t 11) none (some (.t 13))) 10 true,
 oG 15 (.mv (.t 1)) 10 true,
 oG 16 (.bin .eql (.t 14) (.t 15)) 10 true,
 oO 17 (.pick (.t 10) (.t 16) (.c (.b false))),
 oM 4 17]
abbrev b132:AC:=(.seq (.reg 0 r132_0) (.seq (.reg 1 r132_1) .ret))
def pf132:AF:={ nt:=18,res:=[.tmp 4],body:=b132 }
abbrev H132 (Q:AE→Sl→St→Prop)(K:Bool→Prop):Prop:=∀(σ:Sl)(st:St)(res0:Bool),σ 4 = .b res0→K res0→Q .ret σ st
def T132_0 (prog:Prog)(K:Bool→Prop)(s0:List UInt8)(with1:List UInt8):Prop:=
  ((s0.length:Int) ≥ (with1.length:Int)→0≤(with1.length:Int)∧(with1.length:Int).toNat≤s0.length∧K (decide ((s0.take (with1.length:Int).toNat) = with1)))∧(¬((s0.length:Int) ≥ (with1.length:Int))→K false)
section
variable {prog:Prog}{d:Nat}{Q:AE→Sl→St→Prop}{K:Bool→Prop}(hQ:H132 Q K){σ:Sl}{st:St}
include hQ
theorem w132_0 {s0 with1:List UInt8}(H0:σ 0 = .s s0)(H1:σ 1 = .s with1)(h:T132_0 prog K s0 with1):W prog d (.seq (.reg 0 r132_0) (.seq (.reg 1 r132_1) .ret)) σ st Q:=
 q_ rfl (m_ (e_ (q_ rfl (s_mvS H0 (ln_ rfl (s_mvS H1 (ln_ rfl (b_ rfl rfl geq_ (s_mvB rfl (em_ (g:=10) rfl (fun g'1=>gy_ rfl (s_mvS H0 (gy_ rfl (s_mvS H1 (gy_ rfl (ln_ rfl (gy_ rfl (s_slS_hi rfl rfl (h.1 g'1).1 (h.1 g'1).2.1 (gy_ rfl (s_mvS H1 (gy_ rfl (b_ rfl rfl seq_ (pt_ rfl rfl (s_mvB rfl (e_ (rt_ (hQ _ _ _ rfl (h.1 g'1).2.2))))))))))))))))) (fun g'1=>gn_ (b:=false) rfl rfl (gn_ (b:=false) rfl rfl (gn_ (b:=false) rfl rfl (gn_ (b:=false) rfl rfl (gn_ (b:=false) rfl rfl (gn_ (b:=false) rfl rfl (pf_ rfl rfl (s_mvB rfl (e_ (rt_ (hQ _ _ _ rfl (h.2 g'1))))))))))))))))))))))
end
theorem p132 {prog:Prog}(hf:prog.fn 132 = some pf132){s0:List UInt8}{with1:List UInt8}{K:Bool→Prop}(h:T132_0 prog K s0 with1) :∃res0:Bool,K res0∧Pus prog 132 [.s s0,.s with1] (.b res0):=by
  obtain ⟨v,hv,res0,hk,rfl⟩:=Pus.of (K:=fun v=>∃res0:Bool,K res0∧v = .b res0) hf rfl (w132_0 (σ:=sl0 [.s s0,.s with1]) (fun σ st   res0 H4 hk=>⟨.b res0,by simp only [pf132,ares,aresL,H4,ares1,Option.map_some],_,rfl,res0,hk,rfl⟩) rfl rfl h)
  exact ⟨res0,hk,hv⟩
def r133_0:List AI:=[oO 8 (.alloc [.i .u8 0,.i .i64 0,.s [],.sl .full [],.b false]),
 oC 9 (.s []),
 oC 10 (.b false)]
def r133_1:List AI:=[oM 15 1,
 oO 16 (.build [.i .u8 0,.i .i64 0,.s [],.sl .full [],.b false] [(0,1,(.t 15))]),
 oO 11 (.alloc [.i .u8 0,.i .i64 0,.s [],.sl .full [],.b false]),
 oS 5 11 16]
def r133_2:List AI:=[oM 17 0,
 oO 18 (.len true (.t 17)),
 oB 19 .gtr (.t 18) (.c (.i .i64 0)),
 oM 20 19,
 oG 21 (.mv (.t 0)) 20 true,
 oG 22 (.ixS (.t 21) (.c (.i .i64 0))) 20 true,
 oG 23 (.mv (.t 2)) 20 true,
 oG 24 (.bin .eql (.t 22) (.t 23)) 20 true,
 oO 25 (.pick (.t 20) (.t 24) (.c (.b false)))]
def r133_3:List AI:=[oO 26 (.load 5 true (.t 11)),
 oM 27 0,
 oO 28 (.slS (.t 27) (some (.c (.i .i64 1))) none),
 oS 5 8 26,
 oM 9 28,
 oC 10 (.b true)]
def r133_4:List AI:=[oF 29 3 11,
 oL 30 29,
 oO 31 (.len false (.t 30)),
 oB 32 .leq (.t 31) (.c (.i .i64 16))]
def r133_5:List AI:=[oM 34 0,
 oM 35 3,
 oB 36 .sub (.t 35) (.c (.i .i64 1)),
 oO 37 (.call false 108 [(.t 34),(.t 36)]),
 oM 33 37,
 oE 38 0 33,
 oE 39 1 33,
 oE 40 2 33,
 oO 12 (.alloc [.i .u8 0,.i .i64 0,.s [],.sl .full [],.b false]),
 oS 5 12 38,
 oM 13 39,
 oM 14 40]
def r133_6:List AI:=[oM 41 14,
 oO 42 (.un .not (.t 41)),
 oM 43 42,
 oG 44 (.mv (.t 13)) 43 false,
 oG 45 (.len true (.t 44)) 43 false,
 oG 46 (.bin .eql (.t 45) (.c (.i .i64 0))) 43 false,
 oO 47 (.pick (.t 43) (.c (.b true)) (.t 46))]
def r133_7:List AI:=[oO 48 (.build [.i .u8 0,.i .i64 0,.s [],.sl .full [],.b false] []),
 oS 5 8 48,
 oC 9 (.s []),
 oC 10 (.b false)]
def r133_8:List AI:=[oF 49 3 11,
 oL 50 49,
 oO 51 (.load 5 true (.t 12)),
 oO 52 (.bslice [.i .u8 0,.i .i64 0,.s [],.sl .full [],.b false] 1 [(0,(.t 51))]),
 oO 53 (.app 5 64 (.t 50) (.t 52)),
 oF 54 3 11,
 oS 1 54 53]
def r133_9:List AI:=[oM 55 13,
 oO 56 (.ixS (.t 55) (.c (.i .i64 0))),
 oM 57 2,
 oB 58 .eql (.t 56) (.t 57)]
def r133_10:List AI:=[oO 59 (.load 5 true (.t 11)),
 oM 60 13,
 oO 61 (.slS (.t 60) (some (.c (.i .i64 1))) none),
 oS 5 8 59,
 oM 9 61,
 oC 10 (.b true)]
def r133_11:List AI:=[oM 62 13,
 oO 63 (.call false 132 [(.t 62),(.c (.s [44,32]))]),
 oO 64 (.un .not (.t 63))]
def r133_12:List AI:=[oO 65 (.build [.i .u8 0,.i .i64 0,.s [],.sl .full [],.b false] []),
 oS 5 8 65,
 oC 9 (.s []),
 oC 10 (.b false)]
def r133_13:List AI:=[oM 66 13,
 oO 67 (.slS (.t 66) (some (.c (.i .i64 2))) none),
 oM 0 67]
def r133_14:List AI:=[oO 68 (.build [.i .u8 0,.i .i64 0,.s [],.sl .full [],.b false] []),
 oS 5 8 68,
 oC 9 (.s []),
 oC 10 (.b false)]
abbrev l133_0:AC:=(.seq (.seq (.reg 4 r133_4) (.cond (.t 32) .skip (.exit 0))) (.block 1 (.seq (.reg 5 r133_5) (.seq (.seq (.reg 6 r133_6) (.cond (.t 47) (.seq (.reg 7 r133_7) .ret) .skip)) (.seq (.reg 8 r133_8) (.seq (.seq (.reg 9 r133_9) (.cond (.t 58) (.seq (.reg 10 r133_10) .ret) .skip)) (.seq (.seq (.reg 11 r133_11) (.cond (.t 64) (.seq (.reg 12 r133_12) .ret) .skip)) (.reg 13 r133_13))))))))
abbrev c133_1:AC:=(.seq (.reg 14 r133_14) .ret)
abbrev c133_2:AC:=(.seq (.seq (.reg 2 r133_2) (.cond (.t 25) (.seq (.reg 3 r133_3) .ret) .skip)) (.seq (.block 0 (.loop l133_0)) c133_1))
abbrev c133_3:AC:=(.seq (.reg 1 r133_1) c133_2)
abbrev b133:AC:=(.seq (.reg 0 r133_0) c133_3)
def pf133:AF:={ nt:=69,res:=[.cell 8 5 true,.tmp 9,.tmp 10],body:=b133 }
abbrev H133 (Q:AE→Sl→St→Prop)(K:Val→List UInt8→Bool→Prop):Prop:=∀(σ:Sl)(st:St)(k0:Key)(v0:Nat)(o0_0:Own)(res0:Val)(res1:List UInt8)(res2:Bool),σ 8 = .p k0 v0 0→lk st.bx k0 = some (v0,[.i .u8 res0.kind,.i .i64 res0.int,.s res0.text,.sl o0_0 (List.map Val.row res0.list),.b res0.cut])→σ 9 = .s res1→σ 10 = .b res2→K res0 res1 res2→Q .ret σ st
abbrev I133_0 (prog:Prog)(d:Nat)(Q:AE→Sl→St→Prop)(end2:Int)(deep3:Int)(s0:List UInt8)(m0:Val)(m4098:Val):Prop:=
  ∀(σ:Sl)(st:St) (o_m0_3 o_m4098_3:Own) (v0 v4098:Nat),σ 0 = .s s0→σ 2 = .i .u8 end2→σ 3 = .i .i64 deep3→σ 8 = .p (d,0) v0 0→σ 11 = .p (d,4098) v4098 0→ApM d st.ow o_m4098_3 m4098.list.length→lk st.bx (d,0) = some (v0,[.i .u8 m0.kind,.i .i64 m0.int,.s m0.text,.sl o_m0_3 (List.map Val.row m0.list),.b m0.cut])→lk st.bx (d,4098) = some (v4098,[.i .u8 m4098.kind,.i .i64 m4098.int,.s m4098.text,.sl o_m4098_3 (List.map Val.row m4098.list),.b m4098.cut])→W prog d (.loop l133_0) σ st (blockW 0 (thenW prog d c133_1 Q))
def T133_4 (prog:Prog)(K:Val→List UInt8→Bool→Prop)(m0:Val):Prop:=
  K (Val.mk 0 0 [] ([]:List Val) false) ([]:List UInt8) false
def T133_3 (prog:Prog)(K:Val→List UInt8→Bool→Prop)(P0:List UInt8→Val→Val→Prop)(s0:List UInt8)(end2:Int)(deep3:Int)(m0:Val)(m4098:Val):Prop:=
  ((m4098.list.length:Int)≤16→∃r'2:Val,∃r'3:List UInt8,∃r'4:Bool,Pus prog 108 [.s s0,.i .i64 (IntKind.i64.wrap (deep3 - 1))] (.tup [r'2.av,.s r'3,.b r'4])∧((!r'4) = true→K (Val.mk 0 0 [] ([]:List Val) false) ([]:List UInt8) false)∧((!r'4) = false→((r'3.length:Int) = 0→K (Val.mk 0 0 [] ([]:List Val) false) ([]:List UInt8) false)∧(¬((r'3.length:Int) = 0)→Fit (m4098.list.length + [r'2].length) 64∧∃c'13:UInt8,r'3[0]? = some c'13∧((c'13.toNat:Int) = end2→1≤r'3.length∧K (Val.mk m4098.kind m4098.int m4098.text (m4098.list ++ [r'2]) m4098.cut) (r'3.drop 1) true)∧(¬((c'13.toNat:Int) = end2)→∃r'16:Bool,Pus prog 132 [.s r'3,.s ([44,32]:List UInt8)] (.b r'16)∧((!r'16) = true→K (Val.mk 0 0 [] ([]:List Val) false) ([]:List UInt8) false)∧((!r'16) = false→2≤r'3.length∧P0 (r'3.drop 2) m0 (Val.mk m4098.kind m4098.int m4098.text (m4098.list ++ [r'2]) m4098.cut))))))∧(¬((m4098.list.length:Int)≤16)→T133_4 prog K m0)
def T133_2 (prog:Prog)(K:Val→List UInt8→Bool→Prop)(s0:List UInt8)(end2:Int)(deep3:Int)(m0:Val)(m4098:Val):Prop:=
  ((s0.length:Int) > 0→∃c'2:UInt8,s0[0]? = some c'2∧((c'2.toNat:Int) = end2→1≤s0.length∧K m4098 (s0.drop 1) true)∧(¬((c'2.toNat:Int) = end2)→∀P0:List UInt8→Val→Val→Prop,(∀(s0:List UInt8)(m0:Val)(m4098:Val),T133_3 prog K P0 s0 end2 deep3 m0 m4098→P0 s0 m0 m4098)→P0 s0 m0 m4098))∧(¬((s0.length:Int) > 0)→∀P0:List UInt8→Val→Val→Prop,(∀(s0:List UInt8)(m0:Val)(m4098:Val),T133_3 prog K P0 s0 end2 deep3 m0 m4098→P0 s0 m0 m4098)→P0 s0 m0 m4098)
def T133_1 (prog:Prog)(K:Val→List UInt8→Bool→Prop)(s0:List UInt8)(kind1:Int)(end2:Int)(deep3:Int)(m0:Val):Prop:=
  T133_2 prog K s0 end2 deep3 m0 (Val.mk kind1 0 [] ([]:List Val) false)
def T133_0 (prog:Prog)(K:Val→List UInt8→Bool→Prop)(s0:List UInt8)(kind1:Int)(end2:Int)(deep3:Int):Prop:=
  T133_1 prog K s0 kind1 end2 deep3 (Val.mk 0 0 [] ([]:List Val) false)
section
variable {prog:Prog}{d:Nat}{Q:AE→Sl→St→Prop}{K:Val→List UInt8→Bool→Prop}(hQ:H133 Q K){σ:Sl}{st:St}
include hQ
theorem w133_4 {m0:Val}{o_m0_3:Own}{v0:Nat}(H8:σ 8 = .p (d,0) v0 0)(B0:lk st.bx (d,0) = some (v0,[.i .u8 m0.kind,.i .i64 m0.int,.s m0.text,.sl o_m0_3 (List.map Val.row m0.list),.b m0.cut]))(h:T133_4 prog K m0):W prog d c133_1 σ st Q:=
 q_ rfl (s_build f_nil (so_ H8 B0 rfl rfl rfl (m_ (m_ (e_ (rt_ (hQ _ _ _ _ _ _ _ _ H8 lk_here rfl rfl h)))))))
theorem w133_3 {s0:List UInt8}{end2 deep3:Int}{m0 m4098:Val}{P0:List UInt8→Val→Val→Prop} (kP0 :∀(s0:List UInt8)(m0:Val)(m4098:Val),P0 s0 m0 m4098→I133_0 prog d Q end2 deep3 s0 m0 m4098){o_m0_3 o_m4098_3:Own}{v0:Nat}{v4098:Nat}(H0:σ 0 = .s s0)(H2:σ 2 = .i .u8 end2)(H3:σ 3 = .i .i64 deep3)(H8:σ 8 = .p (d,0) v0 0)(H11:σ 11 = .p (d,4098) v4098 0)(Ab4098:ApM d st.ow o_m4098_3 m4098.list.length)(B0:lk st.bx (d,0) = some (v0,[.i .u8 m0.kind,.i .i64 m0.int,.s m0.text,.sl o_m0_3 (List.map Val.row m0.list),.b m0.cut]))(B4098:lk st.bx (d,4098) = some (v4098,[.i .u8 m4098.kind,.i .i64 m4098.int,.s m4098.text,.sl o_m4098_3 (List.map Val.row m4098.list),.b m4098.cut]))(h:T133_3 prog K P0 s0 end2 deep3 m0 m4098):W prog d l133_0 σ st (thenW prog d (.loop l133_0) (blockW 0 (thenW prog d c133_1 Q))):=
 sq_ (q_ rfl (f_ H11 (l_ rfl B4098 rfl rfl (ll_ rfl (b_ rfl rfl leq_ (e_ (cs_ rfl (fun g'1=>sk_ (bk_ (sq_ (W.reg (m_ (m_ (b_ H3 rfl sub_ ((h.1 g'1).elim fun r'2 e'19=>e'19.elim fun r'3 e'20=>e'20.elim fun r'4 e'5=>ca_ (sc H0 rfl (sc rfl rfl sn)) e'5.1 (m_ (x_ rfl rfl (x_ rfl rfl (x_ rfl rfl (s_alloc (so_ rfl (show lk _ (d,20488) = some (_,([.i .u8 0,.i .i64 0,.s [],.sl .full (List.map Val.row ([]:List Val)),.b false]:List AV)) from lk_here) rfl rfl rfl (m_ (m_ (e_ (sq_ (q_ rfl (s_mvB rfl (nt_ rfl (s_mvB rfl (eb_ (g:=43) rfl (fun g'6=>gn_ (b:=true) rfl rfl (gn_ (b:=true) rfl rfl (gn_ (b:=true) rfl rfl (pt_ rfl rfl (e_ (ct_ rfl (q_ rfl (s_build f_nil (so_ H8 (lk_other rfl (lk_other rfl B0)) rfl rfl rfl (m_ (m_ (e_ (rt_ (hQ _ _ _ _ _ _ _ _ H8 lk_here rfl rfl (e'5.2.1 g'6))))))))))))))) (fun g'6=>gy_ rfl (s_mvS rfl (gy_ rfl (ln_ rfl (gy_ rfl (b_ rfl rfl eql_ (pf_ rfl rfl (e_ (cs_ rfl (fun g'7=>q_ rfl (s_build f_nil (so_ H8 (lk_other rfl (lk_other rfl B0)) rfl rfl rfl (m_ (m_ (e_ (rt_ (hQ _ _ _ _ _ _ _ _ H8 lk_here rfl rfl ((e'5.2.2 g'6).1 g'7))))))))) (fun g'7=>sk_ (q_ rfl (f_ H11 (l_ rfl (lk_other rfl (lk_other rfl B4098)) rfl rfl (l_ rfl lk_here rfl rfl (s_bslM (f:=Val.row) (l:=[r'2]) rfl rfl (g_cons rfl rfl rfl g_nil) (by simp only [List.map_cons,List.map_nil,Val.row_eq]; rfl) (s_app Val.row_len rfl rfl rfl Ab4098.1 ((e'5.2.2 g'6).2 g'7).1 rfl (fun o'8 ow'11 a'9 fr'10 on'12=>f_ H11 (so_ rfl (lk_other rfl (lk_other rfl B4098)) rfl rfl rfl (e_ (sq_ (q_ rfl (m_ (((e'5.2.2 g'6).2 g'7).2.elim fun c'13 e'14=>s_ixS rfl rfl (by decide) e'14.1 (m_ (b_ rfl H2 eql_ (e_ (cs_ rfl (fun g'15=>q_ rfl (l_ H11 lk_here rfl rfl (m_ (s_slS_lo rfl rfl (by decide) (e'14.2.1 g'15).1 (so_ H8 (lk_other rfl (lk_other rfl (lk_other rfl B0))) rfl rfl rfl (m_ (m_ (e_ (rt_ (hQ _ _ _ _ _ _ _ _ H8 lk_here rfl rfl (e'14.2.1 g'15).2)))))))))) (fun g'15=>sk_ (sq_ (q_ rfl (m_ ((e'14.2.2 g'15).elim fun r'16 e'17=>ca_ (sc rfl rfl (sc rfl rfl sn)) e'17.1 (nt_ rfl (e_ (cb_ rfl (fun g'18=>q_ rfl (s_build f_nil (so_ H8 (lk_other rfl (lk_other rfl (lk_other rfl B0))) rfl rfl rfl (m_ (m_ (e_ (rt_ (hQ _ _ _ _ _ _ _ _ H8 lk_here rfl rfl (e'17.2.1 g'18))))))))) (fun g'18=>sk_ (W.reg0 rfl fun _ _=>m_ (s_slS_lo rfl rfl (by decide) (e'17.2.2 g'18).1 (m_ (e_ (kP0 _ _ _ (e'17.2.2 g'18).2 _ _ _ _ _ _ rfl H2 H3 H8 H11 (ApM.mk a'9 (Mine.app Ab4098.2 rfl on'12)) (lk_other rfl (lk_other rfl (lk_other rfl B0))) lk_here)))))))))))))))))))))))))))))))))))))))))))))))))))))))))))))))) (fun g'1=>ex_ (w133_4 hQ H8 B0 (h.2 g'1))))))))))
theorem w133_2 {s0:List UInt8}{end2 deep3:Int}{m0 m4098:Val}{o_m0_3 o_m4098_3:Own}{v0:Nat}{v4098:Nat}(H0:σ 0 = .s s0)(H2:σ 2 = .i .u8 end2)(H3:σ 3 = .i .i64 deep3)(H8:σ 8 = .p (d,0) v0 0)(H11:σ 11 = .p (d,4098) v4098 0)(Ab4098:ApM d st.ow o_m4098_3 m4098.list.length)(B0:lk st.bx (d,0) = some (v0,[.i .u8 m0.kind,.i .i64 m0.int,.s m0.text,.sl o_m0_3 (List.map Val.row m0.list),.b m0.cut]))(B4098:lk st.bx (d,4098) = some (v4098,[.i .u8 m4098.kind,.i .i64 m4098.int,.s m4098.text,.sl o_m4098_3 (List.map Val.row m4098.list),.b m4098.cut]))(h:T133_2 prog K s0 end2 deep3 m0 m4098):W prog d c133_2 σ st Q:=
 sq_ (q_ rfl (s_mvS H0 (ln_ rfl (b_ rfl rfl gtr_ (s_mvB rfl (em_ (g:=20) rfl (fun g'1=>gy_ rfl (s_mvS H0 (gy_ rfl ((h.1 g'1).elim fun c'2 e'3=>s_ixS rfl rfl (by decide) e'3.1 (gy_ rfl (s_mvI H2 (gy_ rfl (b_ rfl rfl eql_ (pt_ rfl rfl (e_ (cs_ rfl (fun g'4=>q_ rfl (l_ H11 B4098 rfl rfl (m_ (s_slS_lo H0 rfl (by decide) (e'3.2.1 g'4).1 (so_ H8 B0 rfl rfl rfl (m_ (m_ (e_ (rt_ (hQ _ _ _ _ _ _ _ _ H8 lk_here rfl rfl (e'3.2.1 g'4).2)))))))))) (fun g'4=>sk_ (sq_ (bk_ ((e'3.2.2 g'4) (I133_0 prog d Q end2 deep3) (fun _ _ _ hb _ _ _ _ _ _ H0 H2 H3 H8 H11 Ab4098 B0 B4098=>W.loop (w133_3 hQ (fun _ _ _ x=>x) H0 H2 H3 H8 H11 Ab4098 B0 B4098 hb)) _ _ _ _ _ _ H0 H2 H3 H8 H11 Ab4098 B0 B4098))))))))))))))) (fun g'1=>gn_ (b:=false) rfl rfl (gn_ (b:=false) rfl rfl (gn_ (b:=false) rfl rfl (gn_ (b:=false) rfl rfl (pf_ rfl rfl (e_ (cf_ rfl (sk_ (sq_ (bk_ ((h.2 g'1) (I133_0 prog d Q end2 deep3) (fun _ _ _ hb _ _ _ _ _ _ H0 H2 H3 H8 H11 Ab4098 B0 B4098=>W.loop (w133_3 hQ (fun _ _ _ x=>x) H0 H2 H3 H8 H11 Ab4098 B0 B4098 hb)) _ _ _ _ _ _ H0 H2 H3 H8 H11 Ab4098 B0 B4098)))))))))))))))))
theorem w133_1 {s0:List UInt8}{kind1 end2 deep3:Int}{m0:Val}{o_m0_3:Own}{v0:Nat}(H0:σ 0 = .s s0)(H1:σ 1 = .i .u8 kind1)(H2:σ 2 = .i .u8 end2)(H3:σ 3 = .i .i64 deep3)(H8:σ 8 = .p (d,0) v0 0)(B0:lk st.bx (d,0) = some (v0,[.i .u8 m0.kind,.i .i64 m0.int,.s m0.text,.sl o_m0_3 (List.map Val.row m0.list),.b m0.cut]))(h:T133_1 prog K s0 kind1 end2 deep3 m0):W prog d c133_3 σ st Q:=
 sq_ (W.reg (m_ (s_build (f_cons H1 rfl f_nil) (s_alloc (so_ rfl (show lk _ (d,4098) = some (_,([.i .u8 0,.i .i64 0,.s [],.sl .full (List.map Val.row ([]:List Val)),.b false]:List AV)) from lk_here) rfl rfl rfl (e_ (w133_2 (m4098:=(Val.mk kind1 0 [] ([]:List Val) false)) hQ H0 H2 H3 H8 rfl ApM.full (lk_other rfl (lk_other rfl B0)) lk_here h)))))))
theorem w133_0 {s0:List UInt8}{kind1 end2 deep3:Int}(H0:σ 0 = .s s0)(H1:σ 1 = .i .u8 kind1)(H2:σ 2 = .i .u8 end2)(H3:σ 3 = .i .i64 deep3)(h:T133_0 prog K s0 kind1 end2 deep3):W prog d (.seq (.reg 0 r133_0) c133_3) σ st Q:=
 sq_ (W.reg (s_alloc (m_ (m_ (e_ (w133_1 (m0:=(Val.mk 0 0 [] ([]:List Val) false)) hQ H0 H1 H2 H3 rfl (show lk _ (d,0) = some (_,([.i .u8 0,.i .i64 0,.s [],.sl .full (List.map Val.row ([]:List Val)),.b false]:List AV)) from lk_here) h))))))
end
theorem p133 {prog:Prog}(hf:prog.fn 133 = some pf133){s0:List UInt8}{kind1:Int}{end2:Int}{deep3:Int}{K:Val→List UInt8→Bool→Prop}(h:T133_0 prog K s0 kind1 end2 deep3) :∃res0:Val,∃res1:List UInt8,∃res2:Bool,K res0 res1 res2∧Pus prog 133 [.s s0,.i .u8 kind1,.i .u8 end2,.i .i64 deep3] (.tup [res0.av,.s res1,.b res2]):=by
  obtain ⟨v,hv,res0,res1,res2,hk,rfl⟩:=Pus.of (K:=fun v=>∃res0:Val,∃res1:List UInt8,∃res2:Bool,K res0 res1 res2∧v = .tup [res0.av,.s res1,.b res2]) hf rfl (w133_0 (σ:=sl0 [.s s0,.i .u8 kind1,.i .u8 end2,.i .i64 deep3]) (fun σ st k0 v0 o0_0 res0 res1 res2 H8 HB8 H9 H10 hk=>⟨.tup [res0.avo o0_0,.s res1,.b res2],by simp only [pf133,ares,aresL,ares_cellA (n:=5) H8 HB8 rfl,H9,H10,ares_tmp,Option.map_some],_,rfl,res0,res1,res2,hk,rfl⟩) rfl rfl rfl rfl h)
  exact ⟨res0,res1,res2,hk,hv⟩
def r134_0:List AI:=[oC 2 (.i .i64 0)]
def r134_1:List AI:=[oC 3 (.i .i64 1)]
def r134_2:List AI:=[oM 4 3,
 oM 5 0,
 oO 6 (.len true (.t 5)),
 oB 7 .lss (.t 4) (.t 6)]
def r134_3:List AI:=[oM 10 0,
 oM 11 3,
 oO 12 (.ixS (.t 10) (.t 11)),
 oB 13 .eql (.t 12) (.c (.i .u8 92))]
def r134_4:List AI:=[oM 14 3,
 oB 15 .add (.t 14) (.c (.i .i64 1)),
 oM 3 15]
def r134_5:List AI:=[oM 16 0,
 oM 17 3,
 oO 18 (.ixS (.t 16) (.t 17)),
 oB 19 .eql (.t 18) (.c (.i .u8 34))]
def r134_6:List AI:=[oM 20 3,
 oB 21 .add (.t 20) (.c (.i .i64 1)),
 oM 2 21]
def r134_7:List AI:=[oM 8 3,
 oB 9 .add (.t 8) (.c (.i .i64 1)),
 oM 3 9]
def r134_8:List AI:=[oC 2 (.i .i64 0)]
abbrev c134_0:AC:=(.reg 3 r134_7)
abbrev l134_0:AC:=(.seq (.seq (.reg 2 r134_2) (.cond (.t 7) .skip (.exit 0))) (.seq (.block 1 (.seq (.seq (.reg 4 r134_3) (.cond (.t 13) (.seq (.reg 5 r134_4) (.exit 1)) .skip)) (.seq (.reg 6 r134_5) (.cond (.t 19) (.seq (.reg 7 r134_6) .ret) .skip)))) c134_0))
abbrev c134_2:AC:=(.seq (.reg 8 r134_8) .ret)
abbrev b134:AC:=(.seq (.reg 0 r134_0) (.seq (.seq (.reg 1 r134_1) (.block 0 (.loop l134_0))) c134_2))
def pf134:AF:={ nt:=22,res:=[.tmp 2],body:=b134 }
abbrev H134 (Q:AE→Sl→St→Prop)(K:Int→Prop):Prop:=∀(σ:Sl)(st:St)(res0:Int),σ 2 = .i .i64 res0→K res0→Q .ret σ st
abbrev I134_0 (prog:Prog)(d:Nat)(Q:AE→Sl→St→Prop)(s0:List UInt8)(i3:Int):Prop:=
  ∀(σ:Sl)(st:St),σ 0 = .s s0→σ 3 = .i .i64 i3→W prog d (.loop l134_0) σ st (blockW 0 (thenW prog d c134_2 Q))
def T134_2 (prog:Prog)(K:Int→Prop)(P0:Int→Prop)(s0:List UInt8)(i3:Int):Prop:=
  P0 (IntKind.i64.wrap (i3 + 1))
def T134_3 (prog:Prog)(K:Int→Prop) :Prop:=
  K 0
def T134_1 (prog:Prog)(K:Int→Prop)(P0:Int→Prop)(s0:List UInt8)(i3:Int):Prop:=
  (i3 < (s0.length:Int)→0≤i3∧∃c'2:UInt8,s0[(i3).toNat]? = some c'2∧((c'2.toNat:Int) = 92→T134_2 prog K P0 s0 (IntKind.i64.wrap (i3 + 1)))∧(¬((c'2.toNat:Int) = 92)→0≤i3∧∃c'5:UInt8,s0[(i3).toNat]? = some c'5∧((c'5.toNat:Int) = 34→K (IntKind.i64.wrap (i3 + 1)))∧(¬((c'5.toNat:Int) = 34)→T134_2 prog K P0 s0 i3)))∧(¬(i3 < (s0.length:Int))→T134_3 prog K )
def T134_0 (prog:Prog)(K:Int→Prop)(s0:List UInt8):Prop:=
  ∀P0:Int→Prop,(∀(i3:Int),T134_1 prog K P0 s0 i3→P0 i3)→P0 1
section
variable {prog:Prog}{d:Nat}{Q:AE→Sl→St→Prop}{K:Int→Prop}(hQ:H134 Q K){σ:Sl}{st:St}
include hQ
theorem w134_2 {s0:List UInt8}{i3:Int}{P0:Int→Prop} (kP0 :∀(i3:Int),P0 i3→I134_0 prog d Q s0 i3)(H0:σ 0 = .s s0)(H3:σ 3 = .i .i64 i3)(h:T134_2 prog K P0 s0 i3):W prog d c134_0 σ st (thenW prog d (.loop l134_0) (blockW 0 (thenW prog d c134_2 Q))):=
 W.reg0 rfl fun _ _=>m_ (b_ H3 rfl add_ (m_ (e_ (kP0 _ h _ _ H0 rfl))))
theorem w134_3 (h:T134_3 prog K ):W prog d c134_2 σ st Q:=
 q_ rfl (m_ (e_ (rt_ (hQ _ _ _ rfl h))))
theorem w134_1 {s0:List UInt8}{i3:Int}{P0:Int→Prop} (kP0 :∀(i3:Int),P0 i3→I134_0 prog d Q s0 i3)(H0:σ 0 = .s s0)(H3:σ 3 = .i .i64 i3)(h:T134_1 prog K P0 s0 i3):W prog d l134_0 σ st (thenW prog d (.loop l134_0) (blockW 0 (thenW prog d c134_2 Q))):=
 sq_ (q_ rfl (m_ (m_ (ln_ H0 (b_ H3 rfl lss_ (e_ (cs_ rfl (fun g'1=>sk_ (sq_ (bk_ (sq_ (q_ rfl (m_ (m_ ((h.1 g'1).2.elim fun c'2 e'3=>s_ixS H0 H3 (h.1 g'1).1 e'3.1 (b_ rfl rfl eql_ (e_ (cs_ rfl (fun g'4=>q_ rfl (m_ (b_ H3 rfl add_ (m_ (e_ (ex_ (w134_2 hQ kP0 H0 rfl (e'3.2.1 g'4)))))))) (fun g'4=>sk_ (q_ rfl (m_ (m_ ((e'3.2.2 g'4).2.elim fun c'5 e'6=>s_ixS H0 H3 (e'3.2.2 g'4).1 e'6.1 (b_ rfl rfl eql_ (e_ (cs_ rfl (fun g'7=>q_ rfl (m_ (b_ H3 rfl add_ (m_ (e_ (rt_ (hQ _ _ _ rfl (e'6.2.1 g'7)))))))) (fun g'7=>sk_ (w134_2 hQ kP0 H0 H3 (e'6.2.2 g'7)))))))))))))))))))))) (fun g'1=>ex_ (w134_3 hQ (h.2 g'1))))))))))
theorem w134_0 {s0:List UInt8}(H0:σ 0 = .s s0)(h:T134_0 prog K s0):W prog d (.seq (.reg 0 r134_0) (.seq (.seq (.reg 1 r134_1) (.block 0 (.loop l134_0))) c134_2)) σ st Q:=
 q_ rfl (m_ (e_ (sq_ (q_ rfl (m_ (e_ (bk_ (h (I134_0 prog d Q s0) (fun _ hb _ _ H0 H3=>W.loop (w134_1 hQ (fun _ x=>x) H0 H3 hb)) _ _ H0 rfl))))))))
end
theorem p134 {prog:Prog}(hf:prog.fn 134 = some pf134){s0:List UInt8}{K:Int→Prop}(h:T134_0 prog K s0) :∃res0:Int,K res0∧Pus prog 134 [.s s0] (.i .i64 res0):=by
  obtain ⟨v,hv,res0,hk,rfl⟩:=Pus.of (K:=fun v=>∃res0:Int,K res0∧v = .i .i64 res0) hf rfl (w134_0 (σ:=sl0 [.s s0]) (fun σ st   res0 H2 hk=>⟨.i .i64 res0,by simp only [pf134,ares,aresL,H2,ares1,Option.map_some],_,rfl,res0,hk,rfl⟩) rfl h)
  exact ⟨res0,hk,hv⟩
def r135_0:List AI:=[oC 2 (.i .i64 0)]
def r135_1:List AI:=[oC 3 (.i .i64 0)]
def r135_2:List AI:=[oM 4 0,
 oO 5 (.call false 132 [(.t 4),(.c (.s [45]))])]
def r135_3:List AI:=[oC 3 (.i .i64 1)]
def r135_4:List AI:=[oM 6 3,
 oM 7 0,
 oO 8 (.len true (.t 7)),
 oB 9 .lss (.t 6) (.t 8),
 oM 10 9,
 oG 11 (.mv (.t 0)) 10 true,
 oG 12 (.mv (.t 3)) 10 true,
 oG 13 (.ixS (.t 11) (.t 12)) 10 true,
 oG 14 (.bin .geq (.t 13) (.c (.i .u8 48))) 10 true,
 oO 15 (.pick (.t 10) (.t 14) (.c (.b false))),
 oM 16 15,
 oG 17 (.mv (.t 0)) 16 true,
 oG 18 (.mv (.t 3)) 16 true,
 oG 19 (.ixS (.t 17) (.t 18)) 16 true,
 oG 20 (.bin .leq (.t 19) (.c (.i .u8 57))) 16 true,
 oO 21 (.pick (.t 16) (.t 20) (.c (.b false)))]
def r135_5:List AI:=[oM 22 3,
 oB 23 .add (.t 22) (.c (.i .i64 1)),
 oM 3 23]
def r135_6:List AI:=[oM 24 3,
 oM 2 24]
abbrev l135_0:AC:=(.seq (.seq (.reg 4 r135_4) (.cond (.t 21) .skip (.exit 0))) (.block 1 (.reg 5 r135_5)))
abbrev c135_1:AC:=(.seq (.reg 6 r135_6) .ret)
abbrev c135_2:AC:=(.seq (.block 0 (.loop l135_0)) c135_1)
abbrev b135:AC:=(.seq (.reg 0 r135_0) (.seq (.reg 1 r135_1) (.seq (.seq (.reg 2 r135_2) (.cond (.t 5) (.reg 3 r135_3) .skip)) c135_2)))
def pf135:AF:={ nt:=25,res:=[.tmp 2],body:=b135 }
abbrev H135 (Q:AE→Sl→St→Prop)(K:Int→Prop):Prop:=∀(σ:Sl)(st:St)(res0:Int),σ 2 = .i .i64 res0→K res0→Q .ret σ st
abbrev I135_0 (prog:Prog)(d:Nat)(Q:AE→Sl→St→Prop)(s0:List UInt8)(n3:Int):Prop:=
  ∀(σ:Sl)(st:St),σ 0 = .s s0→σ 3 = .i .i64 n3→W prog d (.loop l135_0) σ st (blockW 0 (thenW prog d c135_1 Q))
def T135_3 (prog:Prog)(K:Int→Prop)(n3:Int):Prop:=
  K n3
def T135_2 (prog:Prog)(K:Int→Prop)(P0:Int→Prop)(s0:List UInt8)(n3:Int):Prop:=
  (n3 < (s0.length:Int)→0≤n3∧∃c'2:UInt8,s0[(n3).toNat]? = some c'2∧((c'2.toNat:Int) ≥ 48→0≤n3∧∃c'5:UInt8,s0[(n3).toNat]? = some c'5∧((c'5.toNat:Int)≤57→P0 (IntKind.i64.wrap (n3 + 1)))∧(¬((c'5.toNat:Int)≤57)→T135_3 prog K n3))∧(¬((c'2.toNat:Int) ≥ 48)→T135_3 prog K n3))∧(¬(n3 < (s0.length:Int))→T135_3 prog K n3)
def T135_1 (prog:Prog)(K:Int→Prop)(s0:List UInt8)(n3:Int):Prop:=
  ∀P0:Int→Prop,(∀(n3:Int),T135_2 prog K P0 s0 n3→P0 n3)→P0 n3
def T135_0 (prog:Prog)(K:Int→Prop)(s0:List UInt8):Prop:=
  ∃r'1:Bool,Pus prog 132 [.s s0,.s ([45]:List UInt8)] (.b r'1)∧(r'1 = true→T135_1 prog K s0 1)∧(r'1 = false→T135_1 prog K s0 0)
section
variable {prog:Prog}{d:Nat}{Q:AE→Sl→St→Prop}{K:Int→Prop}(hQ:H135 Q K){σ:Sl}{st:St}
include hQ
theorem w135_3 {n3:Int}(H3:σ 3 = .i .i64 n3)(h:T135_3 prog K n3):W prog d c135_1 σ st Q:=
 q_ rfl (m_ (m_ (e_ (rt_ (hQ _ _ _ H3 h)))))
theorem w135_2 {s0:List UInt8}{n3:Int}{P0:Int→Prop} (kP0 :∀(n3:Int),P0 n3→I135_0 prog d Q s0 n3)(H0:σ 0 = .s s0)(H3:σ 3 = .i .i64 n3)(h:T135_2 prog K P0 s0 n3):W prog d l135_0 σ st (thenW prog d (.loop l135_0) (blockW 0 (thenW prog d c135_1 Q))):=
 sq_ (q_ rfl (s_mvI H3 (s_mvS H0 (ln_ rfl (b_ rfl rfl lss_ (s_mvB rfl (em_ (g:=10) rfl (fun g'1=>gy_ rfl (s_mvS H0 (gy_ rfl (s_mvI H3 (gy_ rfl ((h.1 g'1).2.elim fun c'2 e'3=>s_ixS rfl rfl (h.1 g'1).1 e'3.1 (gy_ rfl (b_ rfl rfl geq_ (pt_ rfl rfl (s_mvB rfl (em_ (g:=16) rfl (fun g'4=>gy_ rfl (s_mvS H0 (gy_ rfl (s_mvI H3 (gy_ rfl ((e'3.2.1 g'4).2.elim fun c'5 e'6=>s_ixS rfl rfl (e'3.2.1 g'4).1 e'6.1 (gy_ rfl (b_ rfl rfl leq_ (pt_ rfl rfl (e_ (cs_ rfl (fun g'7=>sk_ (bk_ (W.reg0 rfl fun _ _=>m_ (b_ H3 rfl add_ (m_ (e_ (kP0 _ (e'6.2.1 g'7) _ _ H0 rfl))))))) (fun g'7=>ex_ (w135_3 hQ H3 (e'6.2.2 g'7)))))))))))))) (fun g'4=>gn_ (b:=false) rfl rfl (gn_ (b:=false) rfl rfl (gn_ (b:=false) rfl rfl (gn_ (b:=false) rfl rfl (pf_ rfl rfl (e_ (cf_ rfl (ex_ (w135_3 hQ H3 (e'3.2.2 g'4))))))))))))))))))))) (fun g'1=>gn_ (b:=false) rfl rfl (gn_ (b:=false) rfl rfl (gn_ (b:=false) rfl rfl (gn_ (b:=false) rfl rfl (pf_ rfl rfl (s_mvB rfl (gn_ (b:=false) rfl rfl (gn_ (b:=false) rfl rfl (gn_ (b:=false) rfl rfl (gn_ (b:=false) rfl rfl (pf_ rfl rfl (e_ (cf_ rfl (ex_ (w135_3 hQ H3 (h.2 g'1)))))))))))))))))))))))
theorem w135_1 {s0:List UInt8}{n3:Int}(H0:σ 0 = .s s0)(H3:σ 3 = .i .i64 n3)(h:T135_1 prog K s0 n3):W prog d c135_2 σ st Q:=
 sq_ (bk_ (h (I135_0 prog d Q s0) (fun _ hb _ _ H0 H3=>W.loop (w135_2 hQ (fun _ x=>x) H0 H3 hb)) _ _ H0 H3))
theorem w135_0 {s0:List UInt8}(H0:σ 0 = .s s0)(h:T135_0 prog K s0):W prog d (.seq (.reg 0 r135_0) (.seq (.reg 1 r135_1) (.seq (.seq (.reg 2 r135_2) (.cond (.t 5) (.reg 3 r135_3) .skip)) c135_2))) σ st Q:=
 q_ rfl (m_ (e_ (q_ rfl (m_ (e_ (sq_ (q_ rfl (m_ (h.elim fun r'1 e'2=>ca_ (sc H0 rfl (sc rfl rfl sn)) e'2.1 (e_ (cb_ rfl (fun g'3=>W.reg0 rfl fun _ _=>m_ (e_ (w135_1 hQ H0 rfl (e'2.2.1 g'3)))) (fun g'3=>sk_ (w135_1 hQ H0 rfl (e'2.2.2 g'3))))))))))))))
end
theorem p135 {prog:Prog}(hf:prog.fn 135 = some pf135){s0:List UInt8}{K:Int→Prop}(h:T135_0 prog K s0) :∃res0:Int,K res0∧Pus prog 135 [.s s0] (.i .i64 res0):=by
  obtain ⟨v,hv,res0,hk,rfl⟩:=Pus.of (K:=fun v=>∃res0:Int,K res0∧v = .i .i64 res0) hf rfl (w135_0 (σ:=sl0 [.s s0]) (fun σ st   res0 H2 hk=>⟨.i .i64 res0,by simp only [pf135,ares,aresL,H2,ares1,Option.map_some],_,rfl,res0,hk,rfl⟩) rfl h)
  exact ⟨res0,hk,hv⟩
def r78_0:List AI:=[oO 2 (.box 5 (.t 0)),
 oO 3 (.box 5 (.t 1)),
 oC 4 (.b false)]
def r78_1:List AI:=[oF 6 0 2,
 oL 7 6,
 oF 8 0 3,
 oL 9 8,
 oB 10 .neq (.t 7) (.t 9),
 oM 11 10,
 oG 12 (.fad 1 (.t 2)) 11 false,
 oG 13 (.load 1 false (.t 12)) 11 false,
 oG 14 (.fad 1 (.t 3)) 11 false,
 oG 15 (.load 1 false (.t 14)) 11 false,
 oG 16 (.bin .neq (.t 13) (.t 15)) 11 false,
 oO 17 (.pick (.t 11) (.c (.b true)) (.t 16)),
 oM 18 17,
 oG 19 (.fad 2 (.t 2)) 18 false,
 oG 20 (.load 1 false (.t 19)) 18 false,
 oG 21 (.fad 2 (.t 3)) 18 false,
 oG 22 (.load 1 false (.t 21)) 18 false,
 oG 23 (.bin .neq (.t 20) (.t 22)) 18 false,
 oO 24 (.pick (.t 18) (.c (.b true)) (.t 23)),
 oM 25 24,
 oG 26 (.fad 4 (.t 2)) 25 false,
 oG 27 (.load 1 false (.t 26)) 25 false,
 oG 28 (.fad 4 (.t 3)) 25 false,
 oG 29 (.load 1 false (.t 28)) 25 false,
 oG 30 (.beq true (.t 27) (.t 29)) 25 false,
 oO 31 (.pick (.t 25) (.c (.b true)) (.t 30)),
 oM 32 31,
 oG 33 (.fad 3 (.t 2)) 32 false,
 oG 34 (.load 1 false (.t 33)) 32 false,
 oG 35 (.len false (.t 34)) 32 false,
 oG 36 (.fad 3 (.t 3)) 32 false,
 oG 37 (.load 1 false (.t 36)) 32 false,
 oG 38 (.len false (.t 37)) 32 false,
 oG 39 (.bin .neq (.t 35) (.t 38)) 32 false,
 oO 40 (.pick (.t 32) (.c (.b true)) (.t 39))]
def r78_2:List AI:=[oC 4 (.b false)]
def r78_3:List AI:=[oC 5 (.i .i64 0)]
def r78_4:List AI:=[oM 41 5,
 oF 42 3 2,
 oL 43 42,
 oO 44 (.len false (.t 43)),
 oB 45 .lss (.t 41) (.t 44)]
def r78_5:List AI:=[oF 48 3 2,
 oL 49 48,
 oM 50 5,
 oO 51 (.iaL 5 (.t 49) (.t 50)),
 oO 52 (.load 5 true (.t 51)),
 oF 53 3 3,
 oL 54 53,
 oM 55 5,
 oO 56 (.iaL 5 (.t 54) (.t 55)),
 oO 57 (.load 5 true (.t 56)),
 oO 58 (.call false 78 [(.t 52),(.t 57)]),
 oO 59 (.un .not (.t 58))]
def r78_6:List AI:=[oC 4 (.b false)]
def r78_7:List AI:=[oM 46 5,
 oB 47 .add (.t 46) (.c (.i .i64 1)),
 oM 5 47]
def r78_8:List AI:=[oC 4 (.b true)]
abbrev l78_0:AC:=(.seq (.seq (.reg 4 r78_4) (.cond (.t 45) .skip (.exit 0))) (.seq (.block 1 (.seq (.reg 6 r78_5) (.cond (.t 59) (.seq (.reg 7 r78_6) .ret) .skip))) (.reg 5 r78_7)))
abbrev c78_1:AC:=(.seq (.reg 8 r78_8) .ret)
abbrev b78:AC:=(.seq (.reg 0 r78_0) (.seq (.seq (.reg 1 r78_1) (.cond (.t 40) (.seq (.reg 2 r78_2) .ret) .skip)) (.seq (.seq (.reg 3 r78_3) (.block 0 (.loop l78_0))) c78_1)))
def pf78:AF:={ nt:=60,res:=[.tmp 4],body:=b78 }
abbrev H78 (Q:AE→Sl→St→Prop)(K:Bool→Prop):Prop:=∀(σ:Sl)(st:St)(res0:Bool),σ 4 = .b res0→K res0→Q .ret σ st
abbrev I78_0 (prog:Prog)(d:Nat)(Q:AE→Sl→St→Prop)(i5:Int)(m0:Val)(m1:Val):Prop:=
  ∀(σ:Sl)(st:St) (v0 v1:Nat),σ 2 = .p (d,0) v0 0→σ 3 = .p (d,1) v1 0→σ 5 = .i .i64 i5→lk st.bx (d,0) = some (v0,[.i .u8 m0.kind,.i .i64 m0.int,.s m0.text,.sl .ext (List.map Val.row m0.list),.b m0.cut])→lk st.bx (d,1) = some (v1,[.i .u8 m1.kind,.i .i64 m1.int,.s m1.text,.sl .ext (List.map Val.row m1.list),.b m1.cut])→W prog d (.loop l78_0) σ st (blockW 0 (thenW prog d c78_1 Q))
def T78_2 (prog:Prog)(K:Bool→Prop) :Prop:=
  K true
def T78_1 (prog:Prog)(K:Bool→Prop)(P0:Int→Val→Val→Prop)(i5:Int)(m0:Val)(m1:Val):Prop:=
  (i5 < (m0.list.length:Int)→0≤i5∧∃c'2:Val,m0.list[(i5).toNat]? = some c'2∧0≤i5∧∃c'4:Val,m1.list[(i5).toNat]? = some c'4∧∃r'6:Bool,Pus prog 78 [c'2.av,c'4.av] (.b r'6)∧((!r'6) = true→K false)∧((!r'6) = false→P0 (IntKind.i64.wrap (i5 + 1)) m0 m1))∧(¬(i5 < (m0.list.length:Int))→T78_2 prog K )
def T78_0 (prog:Prog)(K:Bool→Prop)(a0:Val)(b1:Val):Prop:=
  (a0.kind≠b1.kind→K false)∧(¬(a0.kind≠b1.kind)→(a0.int≠b1.int→K false)∧(¬(a0.int≠b1.int)→(a0.text≠b1.text→K false)∧(¬(a0.text≠b1.text)→(a0.cut≠b1.cut→K false)∧(¬(a0.cut≠b1.cut)→((a0.list.length:Int)≠(b1.list.length:Int)→K false)∧(¬((a0.list.length:Int)≠(b1.list.length:Int))→∀P0:Int→Val→Val→Prop,(∀(i5:Int)(m0:Val)(m1:Val),T78_1 prog K P0 i5 m0 m1→P0 i5 m0 m1)→P0 0 a0 b1)))))
section
variable {prog:Prog}{d:Nat}{Q:AE→Sl→St→Prop}{K:Bool→Prop}(hQ:H78 Q K){σ:Sl}{st:St}
include hQ
theorem w78_2 (h:T78_2 prog K ):W prog d c78_1 σ st Q:=
 q_ rfl (m_ (e_ (rt_ (hQ _ _ _ rfl h))))
theorem w78_1 {i5:Int}{m0 m1:Val}{P0:Int→Val→Val→Prop} (kP0 :∀(i5:Int)(m0:Val)(m1:Val),P0 i5 m0 m1→I78_0 prog d Q i5 m0 m1){v0:Nat}{v1:Nat}(H2:σ 2 = .p (d,0) v0 0)(H3:σ 3 = .p (d,1) v1 0)(H5:σ 5 = .i .i64 i5)(B0:lk st.bx (d,0) = some (v0,[.i .u8 m0.kind,.i .i64 m0.int,.s m0.text,.sl .ext (List.map Val.row m0.list),.b m0.cut]))(B1:lk st.bx (d,1) = some (v1,[.i .u8 m1.kind,.i .i64 m1.int,.s m1.text,.sl .ext (List.map Val.row m1.list),.b m1.cut]))(h:T78_1 prog K P0 i5 m0 m1):W prog d l78_0 σ st (thenW prog d (.loop l78_0) (blockW 0 (thenW prog d c78_1 Q))):=
 sq_ (q_ rfl (m_ (f_ H2 (l_ rfl B0 rfl rfl (ll_ rfl (b_ H5 rfl lss_ (e_ (cs_ rfl (fun g'1=>sk_ (sq_ (bk_ (q_ rfl (f_ H2 (l_ rfl B0 rfl rfl (m_ ((h.1 g'1).2.elim fun c'2 e'3=>ia_ rfl H5 (h.1 g'1).1 e'3.1 (Val.row_eq c'2) rfl (lf_ rfl rfl rfl (f_ H3 (l_ rfl B1 rfl rfl (m_ (e'3.2.2.elim fun c'4 e'5=>ia_ rfl H5 e'3.2.1 e'5.1 (Val.row_eq c'4) rfl (lf_ rfl rfl rfl (e'5.2.elim fun r'6 e'7=>ca_ (sc rfl rfl (sc rfl rfl sn)) e'7.1 (nt_ rfl (e_ (cb_ rfl (fun g'8=>q_ rfl (m_ (e_ (rt_ (hQ _ _ _ rfl (e'7.2.1 g'8)))))) (fun g'8=>sk_ (W.reg0 rfl fun _ _=>m_ (b_ H5 rfl add_ (m_ (e_ (kP0 _ _ _ (e'7.2.2 g'8) _ _ _ _ H2 H3 rfl B0 B1)))))))))))))))))))))))) (fun g'1=>ex_ (w78_2 hQ (h.2 g'1)))))))))))
theorem w78_0 {a0 b1:Val}(H0:σ 0 = a0.av)(H1:σ 1 = b1.av)(h:T78_0 prog K a0 b1):W prog d (.seq (.reg 0 r78_0) (.seq (.seq (.reg 1 r78_1) (.cond (.t 40) (.seq (.reg 2 r78_2) .ret) .skip)) (.seq (.seq (.reg 3 r78_3) (.block 0 (.loop l78_0))) c78_1))) σ st Q:=
 q_ rfl (s_box H0 rfl (s_box H1 rfl (m_ (e_ (sq_ (q_ rfl (f_ rfl (l_ rfl (lk_other rfl lk_here) rfl rfl (f_ rfl (l_ rfl lk_here rfl rfl (b_ rfl rfl neq_ (s_mvB rfl (em_ (g:=11) rfl (fun g'1=>gn_ (b:=true) rfl rfl (gn_ (b:=true) rfl rfl (gn_ (b:=true) rfl rfl (gn_ (b:=true) rfl rfl (gn_ (b:=true) rfl rfl (pt_ rfl rfl (s_mvB rfl (gn_ (b:=true) rfl rfl (gn_ (b:=true) rfl rfl (gn_ (b:=true) rfl rfl (gn_ (b:=true) rfl rfl (gn_ (b:=true) rfl rfl (pt_ rfl rfl (s_mvB rfl (gn_ (b:=true) rfl rfl (gn_ (b:=true) rfl rfl (gn_ (b:=true) rfl rfl (gn_ (b:=true) rfl rfl (gn_ (b:=true) rfl rfl (pt_ rfl rfl (s_mvB rfl (gn_ (b:=true) rfl rfl (gn_ (b:=true) rfl rfl (gn_ (b:=true) rfl rfl (gn_ (b:=true) rfl rfl (gn_ (b:=true) rfl rfl (gn_ (b:=true) rfl rfl (gn_ (b:=true) rfl rfl (pt_ rfl rfl (e_ (ct_ rfl (q_ rfl (m_ (e_ (rt_ (hQ _ _ _ rfl (h.1 g'1))))))))))))))))))))))))))))))))))))) (fun g'1=>gy_ rfl (f_ rfl (gy_ rfl (l_ rfl (lk_other rfl lk_here) rfl rfl (gy_ rfl (f_ rfl (gy_ rfl (l_ rfl lk_here rfl rfl (gy_ rfl (b_ rfl rfl neq_ (pf_ rfl rfl (s_mvB rfl (em_ (g:=18) rfl (fun g'2=>gn_ (b:=true) rfl rfl (gn_ (b:=true) rfl rfl (gn_ (b:=true) rfl rfl (gn_ (b:=true) rfl rfl (gn_ (b:=true) rfl rfl (pt_ rfl rfl (s_mvB rfl (gn_ (b:=true) rfl rfl (gn_ (b:=true) rfl rfl (gn_ (b:=true) rfl rfl (gn_ (b:=true) rfl rfl (gn_ (b:=true) rfl rfl (pt_ rfl rfl (s_mvB rfl (gn_ (b:=true) rfl rfl (gn_ (b:=true) rfl rfl (gn_ (b:=true) rfl rfl (gn_ (b:=true) rfl rfl (gn_ (b:=true) rfl rfl (gn_ (b:=true) rfl rfl (gn_ (b:=true) rfl rfl (pt_ rfl rfl (e_ (ct_ rfl (q_ rfl (m_ (e_ (rt_ (hQ _ _ _ rfl ((h.2 g'1).1 g'2)))))))))))))))))))))))))))))) (fun g'2=>gy_ rfl (f_ rfl (gy_ rfl (l_ rfl (lk_other rfl lk_here) rfl rfl (gy_ rfl (f_ rfl (gy_ rfl (l_ rfl lk_here rfl rfl (gy_ rfl (b_ rfl rfl sne_ (pf_ rfl rfl (s_mvB rfl (em_ (g:=25) rfl (fun g'3=>gn_ (b:=true) rfl rfl (gn_ (b:=true) rfl rfl (gn_ (b:=true) rfl rfl (gn_ (b:=true) rfl rfl (gn_ (b:=true) rfl rfl (pt_ rfl rfl (s_mvB rfl (gn_ (b:=true) rfl rfl (gn_ (b:=true) rfl rfl (gn_ (b:=true) rfl rfl (gn_ (b:=true) rfl rfl (gn_ (b:=true) rfl rfl (gn_ (b:=true) rfl rfl (gn_ (b:=true) rfl rfl (pt_ rfl rfl (e_ (ct_ rfl (q_ rfl (m_ (e_ (rt_ (hQ _ _ _ rfl (((h.2 g'1).2 g'2).1 g'3))))))))))))))))))))))) (fun g'3=>gy_ rfl (f_ rfl (gy_ rfl (l_ rfl (lk_other rfl lk_here) rfl rfl (gy_ rfl (f_ rfl (gy_ rfl (l_ rfl lk_here rfl rfl (gy_ rfl (s_bne rfl rfl (pf_ rfl rfl (s_mvB rfl (em_ (g:=32) rfl (fun g'4=>gn_ (b:=true) rfl rfl (gn_ (b:=true) rfl rfl (gn_ (b:=true) rfl rfl (gn_ (b:=true) rfl rfl (gn_ (b:=true) rfl rfl (gn_ (b:=true) rfl rfl (gn_ (b:=true) rfl rfl (pt_ rfl rfl (e_ (ct_ rfl (q_ rfl (m_ (e_ (rt_ (hQ _ _ _ rfl ((((h.2 g'1).2 g'2).2 g'3).1 g'4)))))))))))))))) (fun g'4=>gy_ rfl (f_ rfl (gy_ rfl (l_ rfl (lk_other rfl lk_here) rfl rfl (gy_ rfl (ll_ rfl (gy_ rfl (f_ rfl (gy_ rfl (l_ rfl lk_here rfl rfl (gy_ rfl (ll_ rfl (gy_ rfl (b_ rfl rfl neq_ (pf_ rfl rfl (e_ (cs_ rfl (fun g'5=>q_ rfl (m_ (e_ (rt_ (hQ _ _ _ rfl (((((h.2 g'1).2 g'2).2 g'3).2 g'4).1 g'5)))))) (fun g'5=>sk_ (sq_ (q_ rfl (m_ (e_ (bk_ ((((((h.2 g'1).2 g'2).2 g'3).2 g'4).2 g'5) (I78_0 prog d Q ) (fun _ _ _ hb _ _ _ _ H2 H3 H5 B0 B1=>W.loop (w78_1 hQ (fun _ _ _ x=>x) H2 H3 H5 B0 B1 hb)) _ _ _ _ rfl rfl rfl (lk_other rfl lk_here) lk_here))))))))))))))))))))))))))))))))))))))))))))))))))))))))))))))))))))))))))))
end
theorem p78 {prog:Prog}(hf:prog.fn 78 = some pf78){a0:Val}{b1:Val}{K:Bool→Prop}(h:T78_0 prog K a0 b1) :∃res0:Bool,K res0∧Pus prog 78 [a0.av,b1.av] (.b res0):=by
  obtain ⟨v,hv,res0,hk,rfl⟩:=Pus.of (K:=fun v=>∃res0:Bool,K res0∧v = .b res0) hf rfl (w78_0 (σ:=sl0 [a0.av,b1.av]) (fun σ st   res0 H4 hk=>⟨.b res0,by simp only [pf78,ares,aresL,H4,ares1,Option.map_some],_,rfl,res0,hk,rfl⟩) rfl rfl h)
  exact ⟨res0,hk,hv⟩
end Go.AM

namespace Go.AM
open Go
set_option linter.unusedVariables false
set_option linter.unusedSimpArgs false
set_option maxRecDepth 4000
attribute [local irreducible] WO fillCells fillRows
def r130_0:List AI:=[oC 2 (.s []),
 oC 3 (.b false)]
def r130_1:List AI:=[oC 4 (.i .i64 1)]
def r130_2:List AI:=[oM 8 4,
 oM 9 0,
 oN 10 9,
 oF 11 0 10,
 oL 12 11,
 oO 13 (.len true (.t 12)),
 oB 14 .geq (.t 8) (.t 13),
 oM 7 14]
def r130_3:List AI:=[oC 2 (.s []),
 oC 3 (.b false)]
def r130_4:List AI:=[oM 16 0,
 oN 17 16,
 oF 18 0 17,
 oL 19 18,
 oM 20 4,
 oO 21 (.ixS (.t 19) (.t 20)),
 oB 22 .eql (.t 21) (.c (.i .u8 92)),
 oM 15 22]
def r130_5:List AI:=[oM 23 4,
 oB 24 .add (.t 23) (.c (.i .i64 2)),
 oM 4 24]
def r130_6:List AI:=[oM 26 0,
 oN 27 26,
 oF 28 0 27,
 oL 29 28,
 oM 30 4,
 oO 31 (.ixS (.t 29) (.t 30)),
 oB 32 .neq (.t 31) (.c (.i .u8 34)),
 oM 25 32]
def r130_7:List AI:=[oM 33 4,
 oB 34 .add (.t 33) (.c (.i .i64 1)),
 oM 4 34]
def r130_8:List AI:=[oM 36 0,
 oN 37 36,
 oF 38 0 37,
 oL 39 38,
 oM 40 4,
 oB 41 .add (.t 40) (.c (.i .i64 1)),
 oO 42 (.slS (.t 39) none (some (.t 41))),
 oO 43 (.call false 25 [(.t 42)]),
 oM 35 43,
 oE 44 0 35,
 oE 45 1 35,
 oM 5 44,
 oM 6 45]
def r130_9:List AI:=[oM 46 0,
 oM 47 0,
 oN 48 47,
 oF 49 0 48,
 oL 50 49,
 oM 51 4,
 oB 52 .add (.t 51) (.c (.i .i64 1)),
 oO 53 (.slS (.t 50) (some (.t 52)) none),
 oN 54 46,
 oF 55 0 54,
 oS 1 55 53]
def r130_10:List AI:=[oM 56 5,
 oM 57 6,
 oB 58 .eql (.t 57) (.c (.i .i64 0)),
 oM 2 56,
 oM 3 58]
abbrev l130_0:AC:=(.seq (.block 0 (.seq (.reg 2 r130_2) (.cond (.t 7) (.seq (.reg 3 r130_3) .ret) (.seq (.reg 4 r130_4) (.cond (.t 15) (.seq (.reg 5 r130_5) (.goto 0)) (.seq (.reg 6 r130_6) (.cond (.t 25) (.seq (.reg 7 r130_7) (.goto 0)) .skip))))))) (.seq (.reg 8 r130_8) (.seq (.reg 9 r130_9) (.seq (.reg 10 r130_10) .ret))))
abbrev c130_1:AC:=(.gscope 0 (.reg 1 r130_1) l130_0)
abbrev b130:AC:=(.seq (.reg 0 r130_0) c130_1)
def pf130:AF:={ nt:=59,res:=[.tmp 2,.tmp 3],body:=b130 }
abbrev H130 (d:Nat)(st0:St)(kp:Key)(vp:Nat)(Q:AE→Sl→St→Prop)(K:List UInt8→Bool→Sc→Prop):Prop:=∀(σ:Sl)(st:St)(res0:List UInt8)(res1:Bool)(b_:Sc),σ 2 = .s res0→σ 3 = .b res1→lk st.bx kp = some (vp,[.s b_.left])→Fr d kp st0.bx st0.ow st.bx st.ow→K res0 res1 b_→Q .ret σ st
abbrev I130_0 (prog:Prog)(d:Nat)(Q:AE→Sl→St→Prop)(st0:St)(kp:Key)(vp:Nat)(n4:Int)(mP:Sc):Prop:=
  ∀(σ:Sl)(st:St),σ 0 = .p kp vp 0→σ 4 = .i .i64 n4→lk st.bx kp = some (vp,[.s mP.left])→Fr d kp st0.bx st0.ow st.bx st.ow→WG prog d 0 l130_0 σ st Q
def T130_2 (prog:Prog)(K:List UInt8→Bool→Sc→Prop)(P0:Int→Sc→Prop)(n4:Int)(mP:Sc):Prop:=
  (n4 ≥ (mP.left.length:Int)→K ([]:List UInt8) false mP)∧(¬(n4 ≥ (mP.left.length:Int))→0≤n4∧∃c'2:UInt8,mP.left[(n4).toNat]? = some c'2∧((c'2.toNat:Int) = 92→P0 (IntKind.i64.wrap (n4 + 2)) mP)∧(¬((c'2.toNat:Int) = 92)→0≤n4∧∃c'5:UInt8,mP.left[(n4).toNat]? = some c'5∧((c'5.toNat:Int)≠34→P0 (IntKind.i64.wrap (n4 + 1)) mP)∧(¬((c'5.toNat:Int)≠34)→0≤(IntKind.i64.wrap (n4 + 1))∧(IntKind.i64.wrap (n4 + 1)).toNat≤mP.left.length∧∃r'8:List UInt8,∃r'9:Int,Pus prog 25 [.s (mP.left.take (IntKind.i64.wrap (n4 + 1)).toNat)] (.tup [.s r'8,.i .i64 r'9])∧0≤(IntKind.i64.wrap (n4 + 1))∧(IntKind.i64.wrap (n4 + 1)).toNat≤mP.left.length∧K r'8 (decide (r'9 = 0)) (Sc.mk (mP.left.drop (IntKind.i64.wrap (n4 + 1)).toNat)))))
def T130_1 (prog:Prog)(K:List UInt8→Bool→Sc→Prop)(mP:Sc):Prop:=
  ∀P0:Int→Sc→Prop,(∀(n4:Int)(mP:Sc),T130_2 prog K P0 n4 mP→P0 n4 mP)→P0 1 mP
def T130_0 (prog:Prog)(K:List UInt8→Bool→Sc→Prop)(mP:Sc):Prop:=
  T130_1 prog K mP
section
variable {prog:Prog}{d:Nat}{Q:AE→Sl→St→Prop}{K:List UInt8→Bool→Sc→Prop}{st0:St}{kp:Key}{vp:Nat}(hQ:H130 d st0 kp vp Q K)(hkp:kp.1 < d){σ:Sl}{st:St}
include hQ hkp
theorem w130_2 {n4:Int}{mP:Sc}{P0:Int→Sc→Prop} (kP0 :∀(n4:Int)(mP:Sc),P0 n4 mP→I130_0 prog d Q st0 kp vp n4 mP)(H0:σ 0 = .p kp vp 0)(H4:σ 4 = .i .i64 n4)(BP:lk st.bx kp = some (vp,[.s mP.left]))(FR:Fr d kp st0.bx st0.ow st.bx st.ow)(h:T130_2 prog K P0 n4 mP):W prog d l130_0 σ st (jumpW prog d 0 l130_0 Q):=
 sq_ (bk_ (q_ rfl (m_ (m_ (s_nilP H0 (f_ rfl (l_ rfl BP rfl rfl (ln_ rfl (b_ H4 rfl geq_ (m_ (e_ (cs_ rfl (fun g'1=>q_ rfl (m_ (m_ (e_ (rt_ (hQ _ _ _ _ _ rfl rfl BP FR (h.1 g'1))))))) (fun g'1=>q_ rfl (m_ (s_nilP H0 (f_ rfl (l_ rfl BP rfl rfl (m_ ((h.2 g'1).2.elim fun c'2 e'3=>s_ixS rfl H4 (h.2 g'1).1 e'3.1 (b_ rfl rfl eql_ (m_ (e_ (cs_ rfl (fun g'4=>q_ rfl (m_ (b_ H4 rfl add_ (m_ (e_ (W.goto ⟨rfl,kP0 _ _ (e'3.2.1 g'4) _ _ H0 rfl BP FR⟩)))))) (fun g'4=>q_ rfl (m_ (s_nilP H0 (f_ rfl (l_ rfl BP rfl rfl (m_ ((e'3.2.2 g'4).2.elim fun c'5 e'6=>s_ixS rfl H4 (e'3.2.2 g'4).1 e'6.1 (b_ rfl rfl neq_ (m_ (e_ (cs_ rfl (fun g'7=>q_ rfl (m_ (b_ H4 rfl add_ (m_ (e_ (W.goto ⟨rfl,kP0 _ _ (e'6.2.1 g'7) _ _ H0 rfl BP FR⟩)))))) (fun g'7=>sk_ (q_ rfl (m_ (s_nilP H0 (f_ rfl (l_ rfl BP rfl rfl (m_ (b_ H4 rfl add_ (s_slS_hi rfl rfl (e'6.2.2 g'7).1 (e'6.2.2 g'7).2.1 ((e'6.2.2 g'7).2.2.elim fun r'8 e'11=>e'11.elim fun r'9 e'10=>ca_ (sc rfl rfl sn) e'10.1 (m_ (x_ rfl rfl (x_ rfl rfl (m_ (m_ (e_ (q_ rfl (m_ (m_ (s_nilP H0 (f_ rfl (l_ rfl BP rfl rfl (m_ (b_ H4 rfl add_ (s_slS_lo rfl rfl e'10.2.1 e'10.2.2.1 (s_nilP H0 (f_ rfl (so_ rfl BP rfl rfl rfl (e_ (q_ rfl (m_ (m_ (b_ rfl rfl eql_ (m_ (m_ (e_ (rt_ (hQ _ _ _ _ _ rfl rfl lk_here (Fr.own FR) e'10.2.2.2))))))))))))))))))))))))))))))))))))))))))))))))))))))))))))))))))))))))
theorem w130_1 {mP:Sc}(H0:σ 0 = .p kp vp 0)(BP:lk st.bx kp = some (vp,[.s mP.left]))(FR:Fr d kp st0.bx st0.ow st.bx st.ow)(h:T130_1 prog K mP):W prog d c130_1 σ st Q:=
 W.gscope' (W.reg0 rfl fun _ _=>m_ (e_ (h (I130_0 prog d Q st0 kp vp ) (fun _ _ hb _ _ H0 H4 BP FR=>WG.step (w130_2 hQ hkp (fun _ _ x=>x) H0 H4 BP FR hb)) _ _ H0 rfl BP FR)))
theorem w130_0 {mP:Sc}(H0:σ 0 = .p kp vp 0)(BP:lk st.bx kp = some (vp,[.s mP.left]))(FR:Fr d kp st0.bx st0.ow st.bx st.ow)(h:T130_0 prog K mP):W prog d (.seq (.reg 0 r130_0) c130_1) σ st Q:=
 q_ rfl (m_ (m_ (e_ (w130_1 hQ hkp H0 BP FR h))))
end
theorem p130 {prog:Prog}(hf:prog.fn 130 = some pf130){mP:Sc}{K:List UInt8→Bool→Sc→Prop}(h:T130_0 prog K mP):PuXK prog 130 (Bx [.s mP.left]) [] (fun r (b_:Sc)=>∃res0:List UInt8,∃res1:Bool,(r = .tup [.s res0,.b res1])∧K res0 res1 b_) (fun b_=>(Bx [.s b_.left])):=
  PuXK.of hf rfl (fun _=>Bx.out) fun d st kp vp hkp hB=>w130_0 (st0:=st) (Q:=fun e σ st'=>(e = .normal∨e = .ret)∧∃r b_,ares σ st' pf130.res = some r∧_∧_∧Fr d kp st.bx st.ow st'.bx st'.ow) (fun σ st'   res0 res1 b_ H2 H3 hb hf hk=>⟨.inr rfl,.tup [.s res0,.b res1],b_,by simp only [pf130,ares,aresL,H2,H3,ares1,Option.map_some,H2,H3],⟨res0,res1,rfl,hk⟩,hb,hf⟩) hkp (σ:=sl0 [.p kp vp 0]) rfl hB Fr.refl h
def r131_0:List AI:=[oC 2 (.i .i64 0),
 oC 3 (.b false)]
def r131_1:List AI:=[oC 4 (.i .i64 0)]
def r131_2:List AI:=[oM 7 4,
 oM 8 0,
 oN 9 8,
 oF 10 0 9,
 oL 11 10,
 oO 12 (.len true (.t 11)),
 oB 13 .lss (.t 7) (.t 12),
 oM 14 13,
 oG 15 (.mv (.t 0)) 14 true,
 oG 16 (.nilc (.t 15)) 14 true,
 oG 17 (.fad 0 (.t 16)) 14 true,
 oG 18 (.load 1 false (.t 17)) 14 true,
 oG 19 (.mv (.t 4)) 14 true,
 oG 20 (.ixS (.t 18) (.t 19)) 14 true,
 oG 21 (.bin .geq (.t 20) (.c (.i .u8 48))) 14 true,
 oG 22 (.mv (.t 21)) 14 true,
 oG 23 (.mv (.t 0)) 22 true,
 oG 24 (.nilc (.t 23)) 22 true,
 oG 25 (.fad 0 (.t 24)) 22 true,
 oG 26 (.load 1 false (.t 25)) 22 true,
 oG 27 (.mv (.t 4)) 22 true,
 oG 28 (.ixS (.t 26) (.t 27)) 22 true,
 oG 29 (.bin .leq (.t 28) (.c (.i .u8 57))) 22 true,
 oG 30 (.pick (.t 22) (.t 29) (.c (.b false))) 14 true,
 oG 31 (.mv (.t 30)) 14 true,
 oG 32 (.mv (.t 4)) 31 false,
 oG 33 (.bin .eql (.t 32) (.c (.i .i64 0))) 31 false,
 oG 34 (.mv (.t 33)) 31 false,
 oG 35 (.mv (.t 0)) 34 true,
 oG 36 (.nilc (.t 35)) 34 true,
 oG 37 (.fad 0 (.t 36)) 34 true,
 oG 38 (.load 1 false (.t 37)) 34 true,
 oG 39 (.mv (.t 4)) 34 true,
 oG 40 (.ixS (.t 38) (.t 39)) 34 true,
 oG 41 (.bin .eql (.t 40) (.c (.i .u8 45))) 34 true,
 oG 42 (.pick (.t 34) (.t 41) (.c (.b false))) 31 false,
 oG 43 (.pick (.t 31) (.c (.b true)) (.t 42)) 14 true,
 oO 44 (.pick (.t 14) (.t 43) (.c (.b false)))]
def r131_3:List AI:=[oM 45 4,
 oB 46 .add (.t 45) (.c (.i .i64 1)),
 oM 4 46]
def r131_4:List AI:=[oM 48 0,
 oN 49 48,
 oF 50 0 49,
 oL 51 50,
 oM 52 4,
 oO 53 (.slS (.t 51) none (some (.t 52))),
 oO 54 (.call false 21 [(.t 53)]),
 oM 47 54,
 oE 55 0 47,
 oE 56 1 47,
 oM 5 55,
 oM 6 56]
def r131_5:List AI:=[oM 57 0,
 oM 58 0,
 oN 59 58,
 oF 60 0 59,
 oL 61 60,
 oM 62 4,
 oO 63 (.slS (.t 61) (some (.t 62)) none),
 oN 64 57,
 oF 65 0 64,
 oS 1 65 63]
def r131_6:List AI:=[oM 66 5,
 oM 67 6,
 oB 68 .eql (.t 67) (.c (.i .i64 0)),
 oM 2 66,
 oM 3 68]
abbrev l131_0:AC:=(.seq (.seq (.reg 2 r131_2) (.cond (.t 44) (.seq (.reg 3 r131_3) (.goto 0)) .skip)) (.seq (.reg 4 r131_4) (.seq (.reg 5 r131_5) (.seq (.reg 6 r131_6) .ret))))
abbrev c131_1:AC:=(.gscope 0 (.reg 1 r131_1) l131_0)
abbrev b131:AC:=(.seq (.reg 0 r131_0) c131_1)
def pf131:AF:={ nt:=69,res:=[.tmp 2,.tmp 3],body:=b131 }
abbrev H131 (d:Nat)(st0:St)(kp:Key)(vp:Nat)(Q:AE→Sl→St→Prop)(K:Int→Bool→Sc→Prop):Prop:=∀(σ:Sl)(st:St)(res0:Int)(res1:Bool)(b_:Sc),σ 2 = .i .i64 res0→σ 3 = .b res1→lk st.bx kp = some (vp,[.s b_.left])→Fr d kp st0.bx st0.ow st.bx st.ow→K res0 res1 b_→Q .ret σ st
abbrev I131_0 (prog:Prog)(d:Nat)(Q:AE→Sl→St→Prop)(st0:St)(kp:Key)(vp:Nat)(n4:Int)(mP:Sc):Prop:=
  ∀(σ:Sl)(st:St),σ 0 = .p kp vp 0→σ 4 = .i .i64 n4→lk st.bx kp = some (vp,[.s mP.left])→Fr d kp st0.bx st0.ow st.bx st.ow→WG prog d 0 l131_0 σ st Q
def T131_2 (prog:Prog)(K:Int→Bool→Sc→Prop)(P0:Int→Sc→Prop)(n4:Int)(mP:Sc):Prop:=
  (n4 < (mP.left.length:Int)→0≤n4∧∃c'2:UInt8,mP.left[(n4).toNat]? = some c'2∧((c'2.toNat:Int) ≥ 48→0≤n4∧∃c'5:UInt8,mP.left[(n4).toNat]? = some c'5∧((c'5.toNat:Int)≤57→P0 (IntKind.i64.wrap (n4 + 1)) mP)∧(¬((c'5.toNat:Int)≤57)→(n4 = 0→0≤n4∧∃c'9:UInt8,mP.left[(n4).toNat]? = some c'9∧((c'9.toNat:Int) = 45→P0 (IntKind.i64.wrap (n4 + 1)) mP)∧(¬((c'9.toNat:Int) = 45)→0≤n4∧(n4).toNat≤mP.left.length∧∃r'12:Int,∃r'13:Int,Pus prog 21 [.s (mP.left.take (n4).toNat)] (.tup [.i .i64 r'12,.i .i64 r'13])∧0≤n4∧(n4).toNat≤mP.left.length∧K r'12 (decide (r'13 = 0)) (Sc.mk (mP.left.drop (n4).toNat))))∧(¬(n4 = 0)→0≤n4∧(n4).toNat≤mP.left.length∧∃r'16:Int,∃r'17:Int,Pus prog 21 [.s (mP.left.take (n4).toNat)] (.tup [.i .i64 r'16,.i .i64 r'17])∧0≤n4∧(n4).toNat≤mP.left.length∧K r'16 (decide (r'17 = 0)) (Sc.mk (mP.left.drop (n4).toNat)))))∧(¬((c'2.toNat:Int) ≥ 48)→(n4 = 0→0≤n4∧∃c'21:UInt8,mP.left[(n4).toNat]? = some c'21∧((c'21.toNat:Int) = 45→P0 (IntKind.i64.wrap (n4 + 1)) mP)∧(¬((c'21.toNat:Int) = 45)→0≤n4∧(n4).toNat≤mP.left.length∧∃r'24:Int,∃r'25:Int,Pus prog 21 [.s (mP.left.take (n4).toNat)] (.tup [.i .i64 r'24,.i .i64 r'25])∧0≤n4∧(n4).toNat≤mP.left.length∧K r'24 (decide (r'25 = 0)) (Sc.mk (mP.left.drop (n4).toNat))))∧(¬(n4 = 0)→0≤n4∧(n4).toNat≤mP.left.length∧∃r'28:Int,∃r'29:Int,Pus prog 21 [.s (mP.left.take (n4).toNat)] (.tup [.i .i64 r'28,.i .i64 r'29])∧0≤n4∧(n4).toNat≤mP.left.length∧K r'28 (decide (r'29 = 0)) (Sc.mk (mP.left.drop (n4).toNat)))))∧(¬(n4 < (mP.left.length:Int))→0≤n4∧(n4).toNat≤mP.left.length∧∃r'32:Int,∃r'33:Int,Pus prog 21 [.s (mP.left.take (n4).toNat)] (.tup [.i .i64 r'32,.i .i64 r'33])∧0≤n4∧(n4).toNat≤mP.left.length∧K r'32 (decide (r'33 = 0)) (Sc.mk (mP.left.drop (n4).toNat)))
def T131_1 (prog:Prog)(K:Int→Bool→Sc→Prop)(mP:Sc):Prop:=
  ∀P0:Int→Sc→Prop,(∀(n4:Int)(mP:Sc),T131_2 prog K P0 n4 mP→P0 n4 mP)→P0 0 mP
def T131_0 (prog:Prog)(K:Int→Bool→Sc→Prop)(mP:Sc):Prop:=
  T131_1 prog K mP
section
variable {prog:Prog}{d:Nat}{Q:AE→Sl→St→Prop}{K:Int→Bool→Sc→Prop}{st0:St}{kp:Key}{vp:Nat}(hQ:H131 d st0 kp vp Q K)(hkp:kp.1 < d){σ:Sl}{st:St}
include hQ hkp
theorem w131_2 {n4:Int}{mP:Sc}{P0:Int→Sc→Prop} (kP0 :∀(n4:Int)(mP:Sc),P0 n4 mP→I131_0 prog d Q st0 kp vp n4 mP)(H0:σ 0 = .p kp vp 0)(H4:σ 4 = .i .i64 n4)(BP:lk st.bx kp = some (vp,[.s mP.left]))(FR:Fr d kp st0.bx st0.ow st.bx st.ow)(h:T131_2 prog K P0 n4 mP):W prog d l131_0 σ st (jumpW prog d 0 l131_0 Q):=
 sq_ (q_ rfl (s_mvI H4 (s_mv H0 (s_nilP rfl (f_ rfl (l_ rfl BP rfl rfl (ln_ rfl (b_ rfl rfl lss_ (s_mvB rfl (em_ (g:=14) rfl (fun g'1=>gy_ rfl (s_mv H0 (gy_ rfl (s_nilP rfl (gy_ rfl (f_ rfl (gy_ rfl (l_ rfl BP rfl rfl (gy_ rfl (s_mvI H4 (gy_ rfl ((h.1 g'1).2.elim fun c'2 e'3=>s_ixS rfl rfl (h.1 g'1).1 e'3.1 (gy_ rfl (b_ rfl rfl geq_ (gy_ rfl (s_mvB rfl (em_ (g:=22) rfl (fun g'4=>gy_ rfl (s_mv H0 (gy_ rfl (s_nilP rfl (gy_ rfl (f_ rfl (gy_ rfl (l_ rfl BP rfl rfl (gy_ rfl (s_mvI H4 (gy_ rfl ((e'3.2.1 g'4).2.elim fun c'5 e'6=>s_ixS rfl rfl (e'3.2.1 g'4).1 e'6.1 (gy_ rfl (b_ rfl rfl leq_ (gy_ rfl (pt_ rfl rfl (gy_ rfl (s_mvB rfl (em_ (g:=31) rfl (fun g'7=>gn_ (b:=true) rfl rfl (gn_ (b:=true) rfl rfl (gn_ (b:=true) rfl rfl (gt_ rfl (gt_ rfl (gt_ rfl (gt_ rfl (gt_ rfl (gt_ rfl (gt_ rfl (gn_ (b:=true) rfl rfl (gy_ rfl (pt_ rfl rfl (pt_ rfl rfl (e_ (ct_ rfl (q_ rfl (m_ (b_ H4 rfl add_ (m_ (e_ (W.goto ⟨rfl,kP0 _ _ (e'6.2.1 g'7) _ _ H0 rfl BP FR⟩)))))))))))))))))))))) (fun g'7=>gy_ rfl (s_mvI H4 (gy_ rfl (b_ rfl rfl eql_ (gy_ rfl (s_mvB rfl (em_ (g:=34) rfl (fun g'8=>gy_ rfl (s_mv H0 (gy_ rfl (s_nilP rfl (gy_ rfl (f_ rfl (gy_ rfl (l_ rfl BP rfl rfl (gy_ rfl (s_mvI H4 (gy_ rfl (((e'6.2.2 g'7).1 g'8).2.elim fun c'9 e'10=>s_ixS rfl rfl ((e'6.2.2 g'7).1 g'8).1 e'10.1 (gy_ rfl (b_ rfl rfl eql_ (gy_ rfl (pt_ rfl rfl (gy_ rfl (pf_ rfl rfl (pt_ rfl rfl (e_ (cs_ rfl (fun g'11=>q_ rfl (m_ (b_ H4 rfl add_ (m_ (e_ (W.goto ⟨rfl,kP0 _ _ (e'10.2.1 g'11) _ _ H0 rfl BP FR⟩)))))) (fun g'11=>sk_ (q_ rfl (m_ (s_nilP H0 (f_ rfl (l_ rfl BP rfl rfl (m_ (s_slS_hi rfl H4 (e'10.2.2 g'11).1 (e'10.2.2 g'11).2.1 ((e'10.2.2 g'11).2.2.elim fun r'12 e'15=>e'15.elim fun r'13 e'14=>ca_ (sc rfl rfl sn) e'14.1 (m_ (x_ rfl rfl (x_ rfl rfl (m_ (m_ (e_ (q_ rfl (m_ (m_ (s_nilP H0 (f_ rfl (l_ rfl BP rfl rfl (m_ (s_slS_lo rfl H4 e'14.2.1 e'14.2.2.1 (s_nilP H0 (f_ rfl (so_ rfl BP rfl rfl rfl (e_ (q_ rfl (m_ (m_ (b_ rfl rfl eql_ (m_ (m_ (e_ (rt_ (hQ _ _ _ _ _ rfl rfl lk_here (Fr.own FR) e'14.2.2.2))))))))))))))))))))))))))))))))))))))))))))))))))))))))) (fun g'8=>gn_ (b:=false) rfl rfl (gn_ (b:=false) rfl rfl (gn_ (b:=false) rfl rfl (gn_ (b:=false) rfl rfl (gn_ (b:=false) rfl rfl (gn_ (b:=false) rfl rfl (gn_ (b:=false) rfl rfl (gy_ rfl (pf_ rfl rfl (gy_ rfl (pf_ rfl rfl (pt_ rfl rfl (e_ (cf_ rfl (sk_ (q_ rfl (m_ (s_nilP H0 (f_ rfl (l_ rfl BP rfl rfl (m_ (s_slS_hi rfl H4 ((e'6.2.2 g'7).2 g'8).1 ((e'6.2.2 g'7).2 g'8).2.1 (((e'6.2.2 g'7).2 g'8).2.2.elim fun r'16 e'19=>e'19.elim fun r'17 e'18=>ca_ (sc rfl rfl sn) e'18.1 (m_ (x_ rfl rfl (x_ rfl rfl (m_ (m_ (e_ (q_ rfl (m_ (m_ (s_nilP H0 (f_ rfl (l_ rfl BP rfl rfl (m_ (s_slS_lo rfl H4 e'18.2.1 e'18.2.2.1 (s_nilP H0 (f_ rfl (so_ rfl BP rfl rfl rfl (e_ (q_ rfl (m_ (m_ (b_ rfl rfl eql_ (m_ (m_ (e_ (rt_ (hQ _ _ _ _ _ rfl rfl lk_here (Fr.own FR) e'18.2.2.2)))))))))))))))))))))))))))))))))))))))))))))))))))))))))))))))))))))))))))) (fun g'4=>gn_ (b:=false) rfl rfl (gn_ (b:=false) rfl rfl (gn_ (b:=false) rfl rfl (gn_ (b:=false) rfl rfl (gn_ (b:=false) rfl rfl (gn_ (b:=false) rfl rfl (gn_ (b:=false) rfl rfl (gy_ rfl (pf_ rfl rfl (gy_ rfl (s_mvB rfl (gy_ rfl (s_mvI H4 (gy_ rfl (b_ rfl rfl eql_ (gy_ rfl (s_mvB rfl (em_ (g:=34) rfl (fun g'20=>gy_ rfl (s_mv H0 (gy_ rfl (s_nilP rfl (gy_ rfl (f_ rfl (gy_ rfl (l_ rfl BP rfl rfl (gy_ rfl (s_mvI H4 (gy_ rfl (((e'3.2.2 g'4).1 g'20).2.elim fun c'21 e'22=>s_ixS rfl rfl ((e'3.2.2 g'4).1 g'20).1 e'22.1 (gy_ rfl (b_ rfl rfl eql_ (gy_ rfl (pt_ rfl rfl (gy_ rfl (pf_ rfl rfl (pt_ rfl rfl (e_ (cs_ rfl (fun g'23=>q_ rfl (m_ (b_ H4 rfl add_ (m_ (e_ (W.goto ⟨rfl,kP0 _ _ (e'22.2.1 g'23) _ _ H0 rfl BP FR⟩)))))) (fun g'23=>sk_ (q_ rfl (m_ (s_nilP H0 (f_ rfl (l_ rfl BP rfl rfl (m_ (s_slS_hi rfl H4 (e'22.2.2 g'23).1 (e'22.2.2 g'23).2.1 ((e'22.2.2 g'23).2.2.elim fun r'24 e'27=>e'27.elim fun r'25 e'26=>ca_ (sc rfl rfl sn) e'26.1 (m_ (x_ rfl rfl (x_ rfl rfl (m_ (m_ (e_ (q_ rfl (m_ (m_ (s_nilP H0 (f_ rfl (l_ rfl BP rfl rfl (m_ (s_slS_lo rfl H4 e'26.2.1 e'26.2.2.1 (s_nilP H0 (f_ rfl (so_ rfl BP rfl rfl rfl (e_ (q_ rfl (m_ (m_ (b_ rfl rfl eql_ (m_ (m_ (e_ (rt_ (hQ _ _ _ _ _ rfl rfl lk_here (Fr.own FR) e'26.2.2.2))))))))))))))))))))))))))))))))))))))))))))))))))))))))) (fun g'20=>gn_ (b:=false) rfl rfl (gn_ (b:=false) rfl rfl (gn_ (b:=false) rfl rfl (gn_ (b:=false) rfl rfl (gn_ (b:=false) rfl rfl (gn_ (b:=false) rfl rfl (gn_ (b:=false) rfl rfl (gy_ rfl (pf_ rfl rfl (gy_ rfl (pf_ rfl rfl (pt_ rfl rfl (e_ (cf_ rfl (sk_ (q_ rfl (m_ (s_nilP H0 (f_ rfl (l_ rfl BP rfl rfl (m_ (s_slS_hi rfl H4 ((e'3.2.2 g'4).2 g'20).1 ((e'3.2.2 g'4).2 g'20).2.1 (((e'3.2.2 g'4).2 g'20).2.2.elim fun r'28 e'31=>e'31.elim fun r'29 e'30=>ca_ (sc rfl rfl sn) e'30.1 (m_ (x_ rfl rfl (x_ rfl rfl (m_ (m_ (e_ (q_ rfl (m_ (m_ (s_nilP H0 (f_ rfl (l_ rfl BP rfl rfl (m_ (s_slS_lo rfl H4 e'30.2.1 e'30.2.2.1 (s_nilP H0 (f_ rfl (so_ rfl BP rfl rfl rfl (e_ (q_ rfl (m_ (m_ (b_ rfl rfl eql_ (m_ (m_ (e_ (rt_ (hQ _ _ _ _ _ rfl rfl lk_here (Fr.own FR) e'30.2.2.2))))))))))))))))))))))))))))))))))))))))))))))))))))))))))))))))))))))))))))))))))))) (fun g'1=>gn_ (b:=false) rfl rfl (gn_ (b:=false) rfl rfl (gn_ (b:=false) rfl rfl (gn_ (b:=false) rfl rfl (gn_ (b:=false) rfl rfl (gn_ (b:=false) rfl rfl (gn_ (b:=false) rfl rfl (gn_ (b:=false) rfl rfl (gt_ rfl (gt_ rfl (gt_ rfl (gt_ rfl (gt_ rfl (gt_ rfl (gt_ rfl (gn_ (b:=false) rfl rfl (gn_ (b:=false) rfl rfl (gt_ rfl (gt_ rfl (gt_ rfl (gt_ rfl (gt_ rfl (gt_ rfl (gt_ rfl (gt_ rfl (gt_ rfl (gt_ rfl (gt_ rfl (gn_ (b:=false) rfl rfl (pf_ rfl rfl (e_ (cf_ rfl (sk_ (q_ rfl (m_ (s_nilP H0 (f_ rfl (l_ rfl BP rfl rfl (m_ (s_slS_hi rfl H4 (h.2 g'1).1 (h.2 g'1).2.1 ((h.2 g'1).2.2.elim fun r'32 e'35=>e'35.elim fun r'33 e'34=>ca_ (sc rfl rfl sn) e'34.1 (m_ (x_ rfl rfl (x_ rfl rfl (m_ (m_ (e_ (q_ rfl (m_ (m_ (s_nilP H0 (f_ rfl (l_ rfl BP rfl rfl (m_ (s_slS_lo rfl H4 e'34.2.1 e'34.2.2.1 (s_nilP H0 (f_ rfl (so_ rfl BP rfl rfl rfl (e_ (q_ rfl (m_ (m_ (b_ rfl rfl eql_ (m_ (m_ (e_ (rt_ (hQ _ _ _ _ _ rfl rfl lk_here (Fr.own FR) e'34.2.2.2))))))))))))))))))))))))))))))))))))))))))))))))))))))))))))))))))))))))))))))
theorem w131_1 {mP:Sc}(H0:σ 0 = .p kp vp 0)(BP:lk st.bx kp = some (vp,[.s mP.left]))(FR:Fr d kp st0.bx st0.ow st.bx st.ow)(h:T131_1 prog K mP):W prog d c131_1 σ st Q:=
 W.gscope' (W.reg0 rfl fun _ _=>m_ (e_ (h (I131_0 prog d Q st0 kp vp ) (fun _ _ hb _ _ H0 H4 BP FR=>WG.step (w131_2 hQ hkp (fun _ _ x=>x) H0 H4 BP FR hb)) _ _ H0 rfl BP FR)))
theorem w131_0 {mP:Sc}(H0:σ 0 = .p kp vp 0)(BP:lk st.bx kp = some (vp,[.s mP.left]))(FR:Fr d kp st0.bx st0.ow st.bx st.ow)(h:T131_0 prog K mP):W prog d (.seq (.reg 0 r131_0) c131_1) σ st Q:=
 q_ rfl (m_ (m_ (e_ (w131_1 hQ hkp H0 BP FR h))))
end
theorem p131 {prog:Prog}(hf:prog.fn 131 = some pf131){mP:Sc}{K:Int→Bool→Sc→Prop}(h:T131_0 prog K mP):PuXK prog 131 (Bx [.s mP.left]) [] (fun r (b_:Sc)=>∃res0:Int,∃res1:Bool,(r = .tup [.i .i64 res0,.b res1])∧K res0 res1 b_) (fun b_=>(Bx [.s b_.left])):=
  PuXK.of hf rfl (fun _=>Bx.out) fun d st kp vp hkp hB=>w131_0 (st0:=st) (Q:=fun e σ st'=>(e = .normal∨e = .ret)∧∃r b_,ares σ st' pf131.res = some r∧_∧_∧Fr d kp st.bx st.ow st'.bx st'.ow) (fun σ st'   res0 res1 b_ H2 H3 hb hf hk=>⟨.inr rfl,.tup [.i .i64 res0,.b res1],b_,by simp only [pf131,ares,aresL,H2,H3,ares1,Option.map_some,H2,H3],⟨res0,res1,rfl,hk⟩,hb,hf⟩) hkp (σ:=sl0 [.p kp vp 0]) rfl hB Fr.refl h
abbrev H66 (Q:AE→Sl→St→Prop)(K:Bool→Prop):Prop:=∀(σ:Sl)(st:St)(res0:Bool),σ 4 = .b res0→K res0→Q .ret σ st
section
variable {prog:Prog}{d:Nat}{Q:AE→Sl→St→Prop}{K:Bool→Prop}(hQ:H66 Q K){σ:Sl}{st:St}
include hQ
end
end Go.AM

namespace Go.AM
open Go
set_option linter.unusedVariables false
set_option linter.unusedSimpArgs false
set_option maxRecDepth 4000
attribute [local irreducible] WO fillCells fillRows
def r178_0:List AI:=[oO 0 (.alloc [.s [],.s [],.s [],.s []])]
def r178_1:List AI:=[oO 1 (.build [.s [],.s [],.s [],.s []] [(1,1,(.c (.s [102,97,117,108,116,32,49,58,32,100,105,118,105,115,105,111,110,32,98,121,32,122,101,114,111]))),(2,1,(.c (.s [102,97,117,108,116,32,50,58,32,110,105,108,32,112,111,105,110,116,101,114]))),(3,1,(.c (.s [102,97,117,108,116,32,51,58,32,111,117,116,32,111,102,32,114,97,110,103,101])))]),
 oS 4 0 1]
abbrev b178:AC:=(.seq (.reg 0 r178_0) (.seq (.reg 1 r178_1) .ret))
def pf178:AF:={ nt:=2,res:=[.cell 0 4 true],body:=b178 }
abbrev H178 (Q:AE→Sl→St→Prop)(K:List (List UInt8)→Prop):Prop:=∀(σ:Sl)(st:St)(k0:Key)(v0:Nat)(res0:List (List UInt8)),σ 0 = .p k0 v0 0→lk st.bx k0 = some (v0,List.map AV.s res0)→res0.length = 4→K res0→Q .ret σ st
def T178_0 (prog:Prog)(K:List (List UInt8)→Prop) :Prop:=
  K [[],([102,97,117,108,116,32,49,58,32,100,105,118,105,115,105,111,110,32,98,121,32,122,101,114,111]:List UInt8),([102,97,117,108,116,32,50,58,32,110,105,108,32,112,111,105,110,116,101,114]:List UInt8),([102,97,117,108,116,32,51,58,32,111,117,116,32,111,102,32,114,97,110,103,101]:List UInt8)]
section
variable {prog:Prog}{d:Nat}{Q:AE→Sl→St→Prop}{K:List (List UInt8)→Prop}(hQ:H178 Q K){σ:Sl}{st:St}
include hQ
theorem w178_0 (h:T178_0 prog K ):W prog d (.seq (.reg 0 r178_0) (.seq (.reg 1 r178_1) .ret)) σ st Q:=
 sq_ (W.reg (s_alloc (e_ (q_ rfl (s_buildM (f:=AV.s) (l:=[[],([102,97,117,108,116,32,49,58,32,100,105,118,105,115,105,111,110,32,98,121,32,122,101,114,111]:List UInt8),([102,97,117,108,116,32,50,58,32,110,105,108,32,112,111,105,110,116,101,114]:List UInt8),([102,97,117,108,116,32,51,58,32,111,117,116,32,111,102,32,114,97,110,103,101]:List UInt8)]) (f_cons rfl rfl (f_cons rfl rfl (f_cons rfl rfl f_nil))) rfl (s_storeArr (f:=AV.s) (fun _=>rfl) rfl (show lk _ (d,0) = some (_,(List.map AV.s (List.replicate 4 ([]:List UInt8)):List AV)) from lk_here) (by simp) rfl rfl (e_ (rt_ (hQ _ _ _ _ _ rfl lk_here (by simp) h)))))))))
end
theorem p178 {prog:Prog}(hf:prog.fn 178 = some pf178)  {K:List (List UInt8)→Prop}(h:T178_0 prog K ) :∃res0:List (List UInt8),K res0∧Pus prog 178 [] (.ag (List.map AV.s res0)):=by
  obtain ⟨v,hv,res0,hk,rfl⟩:=Pus.of (K:=fun v=>∃res0:List (List UInt8),K res0∧v = .ag (List.map AV.s res0)) hf rfl (w178_0 (σ:=sl0 []) (fun σ st k0 v0  res0 H0 HB0 HL0 hk=>⟨.ag (List.map AV.s res0),by simp only [pf178,ares,aresL,ares_cellA (n:=4) H0 HB0 (by simpa using HL0),ares_tmp,Option.map_some],_,strip_ag AV.s (fun _=>rfl) _,res0,hk,rfl⟩)  h)
  exact ⟨res0,hk,hv⟩
def r183_0:List AI:=[oO 0 (.alloc [.i .u8 0,.i .u8 0,.i .u8 0,.i .u8 0,.i .u8 0])]
def r183_1:List AI:=[oO 1 (.build [.i .u8 0,.i .u8 0,.i .u8 0,.i .u8 0,.i .u8 0] [(1,1,(.c (.i .u8 2))),(2,1,(.c (.i .u8 1))),(3,1,(.c (.i .u8 3))),(4,1,(.c (.i .u8 2)))]),
 oS 5 0 1]
abbrev b183:AC:=(.seq (.reg 0 r183_0) (.seq (.reg 1 r183_1) .ret))
def pf183:AF:={ nt:=2,res:=[.cell 0 5 true],body:=b183 }
abbrev H183 (Q:AE→Sl→St→Prop)(K:List UInt8→Prop):Prop:=∀(σ:Sl)(st:St)(k0:Key)(v0:Nat)(res0:List UInt8),σ 0 = .p k0 v0 0→lk st.bx k0 = some (v0,List.map c8 res0)→res0.length = 5→K res0→Q .ret σ st
def T183_0 (prog:Prog)(K:List UInt8→Prop) :Prop:=
  K [0,(2:UInt8),(1:UInt8),(3:UInt8),(2:UInt8)]
section
variable {prog:Prog}{d:Nat}{Q:AE→Sl→St→Prop}{K:List UInt8→Prop}(hQ:H183 Q K){σ:Sl}{st:St}
include hQ
theorem w183_0 (h:T183_0 prog K ):W prog d (.seq (.reg 0 r183_0) (.seq (.reg 1 r183_1) .ret)) σ st Q:=
 sq_ (W.reg (s_alloc (e_ (q_ rfl (s_buildM (f:=c8) (l:=[0,(2:UInt8),(1:UInt8),(3:UInt8),(2:UInt8)]) (f_cons rfl rfl (f_cons rfl rfl (f_cons rfl rfl (f_cons rfl rfl f_nil)))) rfl (s_storeArr (f:=c8) (fun _=>rfl) rfl (show lk _ (d,0) = some (_,(List.map c8 (List.replicate 5 (0:UInt8)):List AV)) from lk_here) (by simp) rfl rfl (e_ (rt_ (hQ _ _ _ _ _ rfl lk_here (by simp) h)))))))))
end
theorem p183 {prog:Prog}(hf:prog.fn 183 = some pf183)  {K:List UInt8→Prop}(h:T183_0 prog K ) :∃res0:List UInt8,K res0∧Pus prog 183 [] (.ag (List.map c8 res0)):=by
  obtain ⟨v,hv,res0,hk,rfl⟩:=Pus.of (K:=fun v=>∃res0:List UInt8,K res0∧v = .ag (List.map c8 res0)) hf rfl (w183_0 (σ:=sl0 []) (fun σ st k0 v0  res0 H0 HB0 HL0 hk=>⟨.ag (List.map c8 res0),by simp only [pf183,ares,aresL,ares_cellA (n:=5) H0 HB0 (by simpa using HL0),ares_tmp,Option.map_some],_,strip_ag c8 (fun _=>rfl) _,res0,hk,rfl⟩)  h)
  exact ⟨res0,hk,hv⟩
def r191_0:List AI:=[oC 4 (.b false)]
def r191_1:List AI:=[oM 5 0,
 oO 6 (.len true (.t 5)),
 oM 7 1,
 oO 8 (.len true (.t 7)),
 oB 9 .geq (.t 6) (.t 8),
 oM 10 9,
 oG 11 (.mv (.t 0)) 10 true,
 oG 12 (.mv (.t 0)) 10 true,
 oG 13 (.len true (.t 12)) 10 true,
 oG 14 (.mv (.t 1)) 10 true,
 oG 15 (.len true (.t 14)) 10 true,
 oG 16 (.bin .sub (.t 13) (.t 15)) 10 true,
 oG 17 (.slS (.t 11) (some (.t 16)) none) 10 true,
 oG 18 (.mv (.t 1)) 10 true,
 oG 19 (.bin .eql (.t 17) (.t 18)) 10 true,
 oO 20 (.pick (.t 10) (.t 19) (.c (.b false))),
 oM 4 20]
abbrev b191:AC:=(.seq (.reg 0 r191_0) (.seq (.reg 1 r191_1) .ret))
def pf191:AF:={ nt:=21,res:=[.tmp 4],body:=b191 }
abbrev H191 (Q:AE→Sl→St→Prop)(K:Bool→Prop):Prop:=∀(σ:Sl)(st:St)(res0:Bool),σ 4 = .b res0→K res0→Q .ret σ st
def T191_0 (prog:Prog)(K:Bool→Prop)(s0:List UInt8)(suffix1:List UInt8):Prop:=
  ((s0.length:Int) ≥ (suffix1.length:Int)→0≤(IntKind.i64.wrap ((s0.length:Int) - (suffix1.length:Int)))∧(IntKind.i64.wrap ((s0.length:Int) - (suffix1.length:Int))).toNat≤s0.length∧K (decide ((s0.drop (IntKind.i64.wrap ((s0.length:Int) - (suffix1.length:Int))).toNat) = suffix1)))∧(¬((s0.length:Int) ≥ (suffix1.length:Int))→K false)
section
variable {prog:Prog}{d:Nat}{Q:AE→Sl→St→Prop}{K:Bool→Prop}(hQ:H191 Q K){σ:Sl}{st:St}
include hQ
theorem w191_0 {s0 suffix1:List UInt8}(H0:σ 0 = .s s0)(H1:σ 1 = .s suffix1)(h:T191_0 prog K s0 suffix1):W prog d (.seq (.reg 0 r191_0) (.seq (.reg 1 r191_1) .ret)) σ st Q:=
 q_ rfl (m_ (e_ (q_ rfl (s_mvS H0 (ln_ rfl (s_mvS H1 (ln_ rfl (b_ rfl rfl geq_ (s_mvB rfl (em_ (g:=10) rfl (fun g'1=>gy_ rfl (s_mvS H0 (gy_ rfl (s_mvS H0 (gy_ rfl (ln_ rfl (gy_ rfl (s_mvS H1 (gy_ rfl (ln_ rfl (gy_ rfl (b_ rfl rfl sub_ (gy_ rfl (s_slS_lo rfl rfl (h.1 g'1).1 (h.1 g'1).2.1 (gy_ rfl (s_mvS H1 (gy_ rfl (b_ rfl rfl seq_ (pt_ rfl rfl (s_mvB rfl (e_ (rt_ (hQ _ _ _ rfl (h.1 g'1).2.2))))))))))))))))))))))) (fun g'1=>gn_ (b:=false) rfl rfl (gn_ (b:=false) rfl rfl (gn_ (b:=false) rfl rfl (gn_ (b:=false) rfl rfl (gn_ (b:=false) rfl rfl (gn_ (b:=false) rfl rfl (gn_ (b:=false) rfl rfl (gn_ (b:=false) rfl rfl (gn_ (b:=false) rfl rfl (pf_ rfl rfl (s_mvB rfl (e_ (rt_ (hQ _ _ _ rfl (h.2 g'1)))))))))))))))))))))))))
end
theorem p191 {prog:Prog}(hf:prog.fn 191 = some pf191){s0:List UInt8}{suffix1:List UInt8}{K:Bool→Prop}(h:T191_0 prog K s0 suffix1) :∃res0:Bool,K res0∧Pus prog 191 [.s s0,.s suffix1] (.b res0):=by
  obtain ⟨v,hv,res0,hk,rfl⟩:=Pus.of (K:=fun v=>∃res0:Bool,K res0∧v = .b res0) hf rfl (w191_0 (σ:=sl0 [.s s0,.s suffix1]) (fun σ st   res0 H4 hk=>⟨.b res0,by simp only [pf191,ares,aresL,H4,ares1,Option.map_some],_,rfl,res0,hk,rfl⟩) rfl rfl h)
  exact ⟨res0,hk,hv⟩
def r186_0:List AI:=[oC 4 (.b false)]
def r186_1:List AI:=[oM 5 0,
 oM 6 1,
 oO 7 (.call false 191 [(.t 5),(.t 6)]),
 oM 4 7]
abbrev b186:AC:=(.seq (.reg 0 r186_0) (.seq (.reg 1 r186_1) .ret))
def pf186:AF:={ nt:=8,res:=[.tmp 4],body:=b186 }
abbrev H186 (Q:AE→Sl→St→Prop)(K:Bool→Prop):Prop:=∀(σ:Sl)(st:St)(res0:Bool),σ 4 = .b res0→K res0→Q .ret σ st
def T186_0 (prog:Prog)(K:Bool→Prop)(s0:List UInt8)(suffix1:List UInt8):Prop:=
  ∃r'1:Bool,Pus prog 191 [.s s0,.s suffix1] (.b r'1)∧K r'1
section
variable {prog:Prog}{d:Nat}{Q:AE→Sl→St→Prop}{K:Bool→Prop}(hQ:H186 Q K){σ:Sl}{st:St}
include hQ
theorem w186_0 {s0 suffix1:List UInt8}(H0:σ 0 = .s s0)(H1:σ 1 = .s suffix1)(h:T186_0 prog K s0 suffix1):W prog d (.seq (.reg 0 r186_0) (.seq (.reg 1 r186_1) .ret)) σ st Q:=
 q_ rfl (m_ (e_ (q_ rfl (m_ (m_ (h.elim fun r'1 e'2=>ca_ (sc H0 rfl (sc H1 rfl sn)) e'2.1 (m_ (e_ (rt_ (hQ _ _ _ rfl e'2.2))))))))))
end
theorem p186 {prog:Prog}(hf:prog.fn 186 = some pf186){s0:List UInt8}{suffix1:List UInt8}{K:Bool→Prop}(h:T186_0 prog K s0 suffix1) :∃res0:Bool,K res0∧Pus prog 186 [.s s0,.s suffix1] (.b res0):=by
  obtain ⟨v,hv,res0,hk,rfl⟩:=Pus.of (K:=fun v=>∃res0:Bool,K res0∧v = .b res0) hf rfl (w186_0 (σ:=sl0 [.s s0,.s suffix1]) (fun σ st   res0 H4 hk=>⟨.b res0,by simp only [pf186,ares,aresL,H4,ares1,Option.map_some],_,rfl,res0,hk,rfl⟩) rfl rfl h)
  exact ⟨res0,hk,hv⟩
def r190_0:List AI:=[oC 4 (.s []),
 oC 5 (.b false)]
def r190_1:List AI:=[oM 6 0,
 oM 7 1,
 oO 8 (.call false 191 [(.t 6),(.t 7)]),
 oO 9 (.un .not (.t 8))]
def r190_2:List AI:=[oM 10 0,
 oM 4 10,
 oC 5 (.b false)]
def r190_3:List AI:=[oM 11 0,
 oM 12 0,
 oO 13 (.len true (.t 12)),
 oM 14 1,
 oO 15 (.len true (.t 14)),
 oB 16 .sub (.t 13) (.t 15),
 oO 17 (.slS (.t 11) none (some (.t 16))),
 oM 4 17,
 oC 5 (.b true)]
abbrev b190:AC:=(.seq (.reg 0 r190_0) (.seq (.seq (.reg 1 r190_1) (.cond (.t 9) (.seq (.reg 2 r190_2) .ret) .skip)) (.seq (.reg 3 r190_3) .ret)))
def pf190:AF:={ nt:=18,res:=[.tmp 4,.tmp 5],body:=b190 }
abbrev H190 (Q:AE→Sl→St→Prop)(K:List UInt8→Bool→Prop):Prop:=∀(σ:Sl)(st:St)(res0:List UInt8)(res1:Bool),σ 4 = .s res0→σ 5 = .b res1→K res0 res1→Q .ret σ st
def T190_0 (prog:Prog)(K:List UInt8→Bool→Prop)(s0:List UInt8)(suffix1:List UInt8):Prop:=
  ∃r'1:Bool,Pus prog 191 [.s s0,.s suffix1] (.b r'1)∧((!r'1) = true→K s0 false)∧((!r'1) = false→0≤(IntKind.i64.wrap ((s0.length:Int) - (suffix1.length:Int)))∧(IntKind.i64.wrap ((s0.length:Int) - (suffix1.length:Int))).toNat≤s0.length∧K (s0.take (IntKind.i64.wrap ((s0.length:Int) - (suffix1.length:Int))).toNat) true)
section
variable {prog:Prog}{d:Nat}{Q:AE→Sl→St→Prop}{K:List UInt8→Bool→Prop}(hQ:H190 Q K){σ:Sl}{st:St}
include hQ
theorem w190_0 {s0 suffix1:List UInt8}(H0:σ 0 = .s s0)(H1:σ 1 = .s suffix1)(h:T190_0 prog K s0 suffix1):W prog d (.seq (.reg 0 r190_0) (.seq (.seq (.reg 1 r190_1) (.cond (.t 9) (.seq (.reg 2 r190_2) .ret) .skip)) (.seq (.reg 3 r190_3) .ret))) σ st Q:=
 q_ rfl (m_ (m_ (e_ (sq_ (q_ rfl (m_ (m_ (h.elim fun r'1 e'2=>ca_ (sc H0 rfl (sc H1 rfl sn)) e'2.1 (nt_ rfl (e_ (cb_ rfl (fun g'3=>q_ rfl (m_ (m_ (m_ (e_ (rt_ (hQ _ _ _ _ H0 rfl (e'2.2.1 g'3)))))))) (fun g'3=>sk_ (q_ rfl (m_ (m_ (ln_ H0 (m_ (ln_ H1 (b_ rfl rfl sub_ (s_slS_hi H0 rfl (e'2.2.2 g'3).1 (e'2.2.2 g'3).2.1 (m_ (m_ (e_ (rt_ (hQ _ _ _ _ rfl rfl (e'2.2.2 g'3).2.2)))))))))))))))))))))))))
end
theorem p190 {prog:Prog}(hf:prog.fn 190 = some pf190){s0:List UInt8}{suffix1:List UInt8}{K:List UInt8→Bool→Prop}(h:T190_0 prog K s0 suffix1) :∃res0:List UInt8,∃res1:Bool,K res0 res1∧Pus prog 190 [.s s0,.s suffix1] (.tup [.s res0,.b res1]):=by
  obtain ⟨v,hv,res0,res1,hk,rfl⟩:=Pus.of (K:=fun v=>∃res0:List UInt8,∃res1:Bool,K res0 res1∧v = .tup [.s res0,.b res1]) hf rfl (w190_0 (σ:=sl0 [.s s0,.s suffix1]) (fun σ st   res0 res1 H4 H5 hk=>⟨.tup [.s res0,.b res1],by simp only [pf190,ares,aresL,H4,H5,ares1,Option.map_some],_,rfl,res0,res1,hk,rfl⟩) rfl rfl h)
  exact ⟨res0,res1,hk,hv⟩
def r180_0:List AI:=[oC 4 (.s []),
 oC 5 (.b false)]
def r180_1:List AI:=[oM 6 0,
 oM 7 1,
 oO 8 (.call false 190 [(.t 6),(.t 7)]),
 oE 9 0 8,
 oE 10 1 8,
 oM 4 9,
 oM 5 10]
abbrev b180:AC:=(.seq (.reg 0 r180_0) (.seq (.reg 1 r180_1) .ret))
def pf180:AF:={ nt:=11,res:=[.tmp 4,.tmp 5],body:=b180 }
abbrev H180 (Q:AE→Sl→St→Prop)(K:List UInt8→Bool→Prop):Prop:=∀(σ:Sl)(st:St)(res0:List UInt8)(res1:Bool),σ 4 = .s res0→σ 5 = .b res1→K res0 res1→Q .ret σ st
def T180_0 (prog:Prog)(K:List UInt8→Bool→Prop)(s0:List UInt8)(suffix1:List UInt8):Prop:=
  ∃r'1:List UInt8,∃r'2:Bool,Pus prog 190 [.s s0,.s suffix1] (.tup [.s r'1,.b r'2])∧K r'1 r'2
section
variable {prog:Prog}{d:Nat}{Q:AE→Sl→St→Prop}{K:List UInt8→Bool→Prop}(hQ:H180 Q K){σ:Sl}{st:St}
include hQ
theorem w180_0 {s0 suffix1:List UInt8}(H0:σ 0 = .s s0)(H1:σ 1 = .s suffix1)(h:T180_0 prog K s0 suffix1):W prog d (.seq (.reg 0 r180_0) (.seq (.reg 1 r180_1) .ret)) σ st Q:=
 q_ rfl (m_ (m_ (e_ (q_ rfl (m_ (m_ (h.elim fun r'1 e'4=>e'4.elim fun r'2 e'3=>ca_ (sc H0 rfl (sc H1 rfl sn)) e'3.1 (x_ rfl rfl (x_ rfl rfl (m_ (m_ (e_ (rt_ (hQ _ _ _ _ rfl rfl e'3.2))))))))))))))
end
theorem p180 {prog:Prog}(hf:prog.fn 180 = some pf180){s0:List UInt8}{suffix1:List UInt8}{K:List UInt8→Bool→Prop}(h:T180_0 prog K s0 suffix1) :∃res0:List UInt8,∃res1:Bool,K res0 res1∧Pus prog 180 [.s s0,.s suffix1] (.tup [.s res0,.b res1]):=by
  obtain ⟨v,hv,res0,res1,hk,rfl⟩:=Pus.of (K:=fun v=>∃res0:List UInt8,∃res1:Bool,K res0 res1∧v = .tup [.s res0,.b res1]) hf rfl (w180_0 (σ:=sl0 [.s s0,.s suffix1]) (fun σ st   res0 res1 H4 H5 hk=>⟨.tup [.s res0,.b res1],by simp only [pf180,ares,aresL,H4,H5,ares1,Option.map_some],_,rfl,res0,res1,hk,rfl⟩) rfl rfl h)
  exact ⟨res0,res1,hk,hv⟩
def r182_0:List AI:=[oC 4 (.s []),
 oC 5 (.b false)]
def r182_1:List AI:=[oM 6 0,
 oO 7 (.len true (.t 6)),
 oM 8 1,
 oO 9 (.len true (.t 8)),
 oB 10 .lss (.t 7) (.t 9),
 oM 11 10,
 oG 12 (.mv (.t 0)) 11 false,
 oG 13 (.mv (.t 0)) 11 false,
 oG 14 (.len true (.t 13)) 11 false,
 oG 15 (.mv (.t 1)) 11 false,
 oG 16 (.len true (.t 15)) 11 false,
 oG 17 (.bin .sub (.t 14) (.t 16)) 11 false,
 oG 18 (.slS (.t 12) (some (.t 17)) none) 11 false,
 oG 19 (.mv (.t 1)) 11 false,
 oG 20 (.bin .neq (.t 18) (.t 19)) 11 false,
 oO 21 (.pick (.t 11) (.c (.b true)) (.t 20))]
def r182_2:List AI:=[oM 22 0,
 oM 4 22,
 oC 5 (.b false)]
def r182_3:List AI:=[oM 23 0,
 oM 24 0,
 oO 25 (.len true (.t 24)),
 oM 26 1,
 oO 27 (.len true (.t 26)),
 oB 28 .sub (.t 25) (.t 27),
 oO 29 (.slS (.t 23) none (some (.t 28))),
 oM 4 29,
 oC 5 (.b true)]
abbrev c182_0:AC:=(.seq (.reg 3 r182_3) .ret)
abbrev b182:AC:=(.seq (.reg 0 r182_0) (.seq (.seq (.reg 1 r182_1) (.cond (.t 21) (.seq (.reg 2 r182_2) .ret) .skip)) c182_0))
def pf182:AF:={ nt:=30,res:=[.tmp 4,.tmp 5],body:=b182 }
abbrev H182 (Q:AE→Sl→St→Prop)(K:List UInt8→Bool→Prop):Prop:=∀(σ:Sl)(st:St)(res0:List UInt8)(res1:Bool),σ 4 = .s res0→σ 5 = .b res1→K res0 res1→Q .ret σ st
def T182_1 (prog:Prog)(K:List UInt8→Bool→Prop)(s0:List UInt8)(end1:List UInt8):Prop:=
  0≤(IntKind.i64.wrap ((s0.length:Int) - (end1.length:Int)))∧(IntKind.i64.wrap ((s0.length:Int) - (end1.length:Int))).toNat≤s0.length∧K (s0.take (IntKind.i64.wrap ((s0.length:Int) - (end1.length:Int))).toNat) true
def T182_0 (prog:Prog)(K:List UInt8→Bool→Prop)(s0:List UInt8)(end1:List UInt8):Prop:=
  ((s0.length:Int) < (end1.length:Int)→K s0 false)∧(¬((s0.length:Int) < (end1.length:Int))→0≤(IntKind.i64.wrap ((s0.length:Int) - (end1.length:Int)))∧(IntKind.i64.wrap ((s0.length:Int) - (end1.length:Int))).toNat≤s0.length∧((s0.drop (IntKind.i64.wrap ((s0.length:Int) - (end1.length:Int))).toNat)≠end1→K s0 false)∧(¬((s0.drop (IntKind.i64.wrap ((s0.length:Int) - (end1.length:Int))).toNat)≠end1)→T182_1 prog K s0 end1))
section
variable {prog:Prog}{d:Nat}{Q:AE→Sl→St→Prop}{K:List UInt8→Bool→Prop}(hQ:H182 Q K){σ:Sl}{st:St}
include hQ
theorem w182_1 {s0 end1:List UInt8}(H0:σ 0 = .s s0)(H1:σ 1 = .s end1)(h:T182_1 prog K s0 end1):W prog d c182_0 σ st Q:=
 q_ rfl (m_ (m_ (ln_ H0 (m_ (ln_ H1 (b_ rfl rfl sub_ (s_slS_hi H0 rfl h.1 h.2.1 (m_ (m_ (e_ (rt_ (hQ _ _ _ _ rfl rfl h.2.2))))))))))))
theorem w182_0 {s0 end1:List UInt8}(H0:σ 0 = .s s0)(H1:σ 1 = .s end1)(h:T182_0 prog K s0 end1):W prog d (.seq (.reg 0 r182_0) (.seq (.seq (.reg 1 r182_1) (.cond (.t 21) (.seq (.reg 2 r182_2) .ret) .skip)) c182_0)) σ st Q:=
 q_ rfl (m_ (m_ (e_ (sq_ (q_ rfl (s_mvS H0 (ln_ rfl (s_mvS H1 (ln_ rfl (b_ rfl rfl lss_ (s_mvB rfl (em_ (g:=11) rfl (fun g'1=>gn_ (b:=true) rfl rfl (gn_ (b:=true) rfl rfl (gn_ (b:=true) rfl rfl (gn_ (b:=true) rfl rfl (gn_ (b:=true) rfl rfl (gn_ (b:=true) rfl rfl (gn_ (b:=true) rfl rfl (gn_ (b:=true) rfl rfl (gn_ (b:=true) rfl rfl (pt_ rfl rfl (e_ (ct_ rfl (q_ rfl (m_ (m_ (m_ (e_ (rt_ (hQ _ _ _ _ H0 rfl (h.1 g'1)))))))))))))))))))) (fun g'1=>gy_ rfl (s_mvS H0 (gy_ rfl (s_mvS H0 (gy_ rfl (ln_ rfl (gy_ rfl (s_mvS H1 (gy_ rfl (ln_ rfl (gy_ rfl (b_ rfl rfl sub_ (gy_ rfl (s_slS_lo rfl rfl (h.2 g'1).1 (h.2 g'1).2.1 (gy_ rfl (s_mvS H1 (gy_ rfl (b_ rfl rfl sne_ (pf_ rfl rfl (e_ (cs_ rfl (fun g'2=>q_ rfl (m_ (m_ (m_ (e_ (rt_ (hQ _ _ _ _ H0 rfl ((h.2 g'1).2.2.1 g'2)))))))) (fun g'2=>sk_ (w182_1 hQ H0 H1 ((h.2 g'1).2.2.2 g'2))))))))))))))))))))))))))))))))))))
end
theorem p182 {prog:Prog}(hf:prog.fn 182 = some pf182){s0:List UInt8}{end1:List UInt8}{K:List UInt8→Bool→Prop}(h:T182_0 prog K s0 end1) :∃res0:List UInt8,∃res1:Bool,K res0 res1∧Pus prog 182 [.s s0,.s end1] (.tup [.s res0,.b res1]):=by
  obtain ⟨v,hv,res0,res1,hk,rfl⟩:=Pus.of (K:=fun v=>∃res0:List UInt8,∃res1:Bool,K res0 res1∧v = .tup [.s res0,.b res1]) hf rfl (w182_0 (σ:=sl0 [.s s0,.s end1]) (fun σ st   res0 res1 H4 H5 hk=>⟨.tup [.s res0,.b res1],by simp only [pf182,ares,aresL,H4,H5,ares1,Option.map_some],_,rfl,res0,res1,hk,rfl⟩) rfl rfl h)
  exact ⟨res0,res1,hk,hv⟩
def r158_0:List AI:=[oO 1 (.box 7 (.t 0)),
 oC 2 (.i .i64 0)]
def r158_1:List AI:=[oF 4 0 1,
 oL 5 4,
 oB 6 .gtr (.t 5) (.c (.i .u64 4)),
 oM 7 6,
 oG 8 (.fad 1 (.t 1)) 7 false,
 oG 9 (.fad 0 (.t 8)) 7 false,
 oG 10 (.load 1 false (.t 9)) 7 false,
 oG 11 (.call false 183 []) 7 false,
 oG 12 (.fad 0 (.t 1)) 7 false,
 oG 13 (.load 1 false (.t 12)) 7 false,
 oG 14 (.ixA 5 1 false (.t 11) (.t 13)) 7 false,
 oG 15 (.bin .neq (.t 10) (.t 14)) 7 false,
 oO 16 (.pick (.t 7) (.c (.b true)) (.t 15))]
def r158_2:List AI:=[oC 2 (.i .i64 8)]
def r158_3:List AI:=[oF 17 0 1,
 oL 18 17,
 oB 19 .eql (.t 18) (.c (.i .u64 0))]
def r158_4:List AI:=[oF 20 1 1,
 oO 21 (.load 5 true (.t 20)),
 oO 3 (.alloc [.i .u8 0,.i .i64 0,.s [],.sl .full [],.b false]),
 oS 5 3 21]
def r158_5:List AI:=[oF 22 1 3,
 oL 23 22,
 oB 24 .neq (.t 23) (.c (.i .i64 0)),
 oM 25 24,
 oG 26 (.fad 2 (.t 3)) 25 false,
 oG 27 (.load 1 false (.t 26)) 25 false,
 oG 28 (.bin .neq (.t 27) (.c (.s []))) 25 false,
 oO 29 (.pick (.t 25) (.c (.b true)) (.t 28)),
 oM 30 29,
 oG 31 (.fad 3 (.t 3)) 30 false,
 oG 32 (.load 1 false (.t 31)) 30 false,
 oG 33 (.len false (.t 32)) 30 false,
 oG 34 (.bin .gtr (.t 33) (.c (.i .i64 0))) 30 false,
 oO 35 (.pick (.t 30) (.c (.b true)) (.t 34)),
 oM 36 35,
 oG 37 (.fad 4 (.t 3)) 36 false,
 oG 38 (.load 1 false (.t 37)) 36 false,
 oO 39 (.pick (.t 36) (.c (.b true)) (.t 38)),
 oM 40 39,
 oG 41 (.fad 6 (.t 1)) 40 false,
 oG 42 (.load 1 false (.t 41)) 40 false,
 oG 43 (.bin .andNot (.t 42) (.c (.i .u64 4))) 40 false,
 oG 44 (.bin .neq (.t 43) (.c (.i .u64 2))) 40 false,
 oO 45 (.pick (.t 40) (.c (.b true)) (.t 44))]
def r158_6:List AI:=[oC 2 (.i .i64 8)]
def r158_7:List AI:=[oC 2 (.i .i64 0)]
def r158_8:List AI:=[oF 46 6 1,
 oL 47 46,
 oB 48 .andNot (.t 47) (.c (.i .u64 5)),
 oB 49 .neq (.t 48) (.c (.i .u64 0)),
 oM 50 49,
 oG 51 (.fad 0 (.t 1)) 50 false,
 oG 52 (.load 1 false (.t 51)) 50 false,
 oG 53 (.bin .eql (.t 52) (.c (.i .u64 4))) 50 false,
 oG 54 (.mv (.t 53)) 50 false,
 oG 55 (.fad 1 (.t 1)) 54 true,
 oG 56 (.fad 1 (.t 55)) 54 true,
 oG 57 (.load 1 false (.t 56)) 54 true,
 oG 58 (.bin .lss (.t 57) (.c (.i .i64 1))) 54 true,
 oG 59 (.mv (.t 58)) 54 true,
 oG 60 (.fad 1 (.t 1)) 59 false,
 oG 61 (.fad 1 (.t 60)) 59 false,
 oG 62 (.load 1 false (.t 61)) 59 false,
 oG 63 (.bin .gtr (.t 62) (.c (.i .i64 3))) 59 false,
 oG 64 (.pick (.t 59) (.c (.b true)) (.t 63)) 54 true,
 oG 65 (.pick (.t 54) (.t 64) (.c (.b false))) 50 false,
 oO 66 (.pick (.t 50) (.c (.b true)) (.t 65))]
def r158_9:List AI:=[oC 2 (.i .i64 8)]
def r158_10:List AI:=[oF 67 1 1,
 oO 68 (.load 5 true (.t 67)),
 oO 69 (.call false 76 [(.t 68)]),
 oM 2 69]
abbrev c158_0:AC:=(.seq (.reg 10 r158_10) .ret)
abbrev c158_1:AC:=(.seq (.seq (.reg 8 r158_8) (.cond (.t 66) (.seq (.reg 9 r158_9) .ret) .skip)) c158_0)
abbrev c158_2:AC:=(.seq (.seq (.reg 3 r158_3) (.cond (.t 19) (.seq (.reg 4 r158_4) (.seq (.seq (.reg 5 r158_5) (.cond (.t 45) (.seq (.reg 6 r158_6) .ret) .skip)) (.seq (.reg 7 r158_7) .ret))) .skip)) c158_1)
abbrev c158_3:AC:=(.seq (.seq (.reg 1 r158_1) (.cond (.t 16) (.seq (.reg 2 r158_2) .ret) .skip)) c158_2)
abbrev b158:AC:=(.seq (.reg 0 r158_0) c158_3)
def pf158:AF:={ nt:=70,res:=[.tmp 2],body:=b158 }
abbrev H158 (Q:AE→Sl→St→Prop)(K:Int→Prop):Prop:=∀(σ:Sl)(st:St)(res0:Int),σ 2 = .i .i64 res0→K res0→Q .ret σ st
def T158_4 (prog:Prog)(K:Int→Prop)(m0:Pan):Prop:=
  ∃r'1:Int,Pus prog 76 [m0.value.av] (.i .i64 r'1)∧K r'1
def T158_3 (prog:Prog)(K:Int→Prop)(m0:Pan):Prop:=
  ((bAndNot .u64 m0.flags 5)≠0→K 8)∧(¬((bAndNot .u64 m0.flags 5)≠0)→(m0.tag = 4→(m0.value.int < 1→K 8)∧(¬(m0.value.int < 1)→(m0.value.int > 3→K 8)∧(¬(m0.value.int > 3)→T158_4 prog K m0)))∧(¬(m0.tag = 4)→T158_4 prog K m0))
def T158_2 (prog:Prog)(K:Int→Prop)(m0:Pan):Prop:=
  (m0.tag = 0→(m0.value.int≠0→K 8)∧(¬(m0.value.int≠0)→(m0.value.text≠([]:List UInt8)→K 8)∧(¬(m0.value.text≠([]:List UInt8))→((m0.value.list.length:Int) > 0→K 8)∧(¬((m0.value.list.length:Int) > 0)→(m0.value.cut = true→K 8)∧(m0.value.cut = false→((bAndNot .u64 m0.flags 4)≠2→K 8)∧(¬((bAndNot .u64 m0.flags 4)≠2)→K 0))))))∧(¬(m0.tag = 0)→T158_3 prog K m0)
def T158_1 (prog:Prog)(K:Int→Prop)(m0:Pan):Prop:=
  (m0.tag > 4→K 8)∧(¬(m0.tag > 4)→∃r'2:List UInt8,Pus prog 183 [] (.ag (List.map c8 r'2))∧r'2.length = 5∧0≤m0.tag∧∃c'4:UInt8,(r'2:List (UInt8))[(m0.tag).toNat]? = some c'4∧(m0.value.kind≠(c'4.toNat:Int)→K 8)∧(¬(m0.value.kind≠(c'4.toNat:Int))→T158_2 prog K m0))
def T158_0 (prog:Prog)(K:Int→Prop)(p0:Pan):Prop:=
  T158_1 prog K p0
section
variable {prog:Prog}{d:Nat}{Q:AE→Sl→St→Prop}{K:Int→Prop}(hQ:H158 Q K){σ:Sl}{st:St}
include hQ
theorem w158_4 {m0:Pan}{v0:Nat}(H1:σ 1 = .p (d,0) v0 0)(B0:lk st.bx (d,0) = some (v0,[.i .u64 m0.tag,.i .u8 m0.value.kind,.i .i64 m0.value.int,.s m0.value.text,.sl .ext (List.map Val.row m0.value.list),.b m0.value.cut,.i .u64 m0.flags]))(h:T158_4 prog K m0):W prog d c158_0 σ st Q:=
 q_ rfl (f_ H1 (l_ rfl B0 rfl rfl (h.elim fun r'1 e'2=>ca_ (sc rfl rfl sn) e'2.1 (m_ (e_ (rt_ (hQ _ _ _ rfl e'2.2)))))))
theorem w158_3 {m0:Pan}{v0:Nat}(H1:σ 1 = .p (d,0) v0 0)(B0:lk st.bx (d,0) = some (v0,[.i .u64 m0.tag,.i .u8 m0.value.kind,.i .i64 m0.value.int,.s m0.value.text,.sl .ext (List.map Val.row m0.value.list),.b m0.value.cut,.i .u64 m0.flags]))(h:T158_3 prog K m0):W prog d c158_1 σ st Q:=
 sq_ (q_ rfl (f_ H1 (l_ rfl B0 rfl rfl (b_ rfl rfl (abin_andNot _ _ _) (b_ rfl rfl neq_ (s_mvB rfl (em_ (g:=50) rfl (fun g'1=>gn_ (b:=true) rfl rfl (gn_ (b:=true) rfl rfl (gn_ (b:=true) rfl rfl (gn_ (b:=true) rfl rfl (gt_ rfl (gt_ rfl (gt_ rfl (gt_ rfl (gt_ rfl (gt_ rfl (gt_ rfl (gt_ rfl (gt_ rfl (gt_ rfl (gn_ (b:=true) rfl rfl (pt_ rfl rfl (e_ (ct_ rfl (q_ rfl (m_ (e_ (rt_ (hQ _ _ _ rfl (h.1 g'1)))))))))))))))))))))))) (fun g'1=>gy_ rfl (f_ H1 (gy_ rfl (l_ rfl B0 rfl rfl (gy_ rfl (b_ rfl rfl eql_ (gy_ rfl (s_mvB rfl (em_ (g:=54) rfl (fun g'2=>gy_ rfl (f_ H1 (gy_ rfl (f_ rfl (gy_ rfl (l_ rfl B0 rfl rfl (gy_ rfl (b_ rfl rfl lss_ (gy_ rfl (s_mvB rfl (em_ (g:=59) rfl (fun g'3=>gn_ (b:=true) rfl rfl (gn_ (b:=true) rfl rfl (gn_ (b:=true) rfl rfl (gn_ (b:=true) rfl rfl (gy_ rfl (pt_ rfl rfl (gy_ rfl (pt_ rfl rfl (pf_ rfl rfl (e_ (ct_ rfl (q_ rfl (m_ (e_ (rt_ (hQ _ _ _ rfl (((h.2 g'1).1 g'2).1 g'3))))))))))))))))) (fun g'3=>gy_ rfl (f_ H1 (gy_ rfl (f_ rfl (gy_ rfl (l_ rfl B0 rfl rfl (gy_ rfl (b_ rfl rfl gtr_ (gy_ rfl (pf_ rfl rfl (gy_ rfl (pt_ rfl rfl (pf_ rfl rfl (e_ (cs_ rfl (fun g'4=>q_ rfl (m_ (e_ (rt_ (hQ _ _ _ rfl ((((h.2 g'1).1 g'2).2 g'3).1 g'4)))))) (fun g'4=>sk_ (w158_4 hQ H1 B0 ((((h.2 g'1).1 g'2).2 g'3).2 g'4))))))))))))))))))))))))))))) (fun g'2=>gn_ (b:=false) rfl rfl (gn_ (b:=false) rfl rfl (gn_ (b:=false) rfl rfl (gn_ (b:=false) rfl rfl (gn_ (b:=false) rfl rfl (gt_ rfl (gt_ rfl (gt_ rfl (gt_ rfl (gn_ (b:=false) rfl rfl (gy_ rfl (pf_ rfl rfl (pf_ rfl rfl (e_ (cf_ rfl (sk_ (w158_4 hQ H1 B0 ((h.2 g'1).2 g'2))))))))))))))))))))))))))))))))))
theorem w158_2 {m0:Pan}{v0:Nat}(H1:σ 1 = .p (d,0) v0 0)(B0:lk st.bx (d,0) = some (v0,[.i .u64 m0.tag,.i .u8 m0.value.kind,.i .i64 m0.value.int,.s m0.value.text,.sl .ext (List.map Val.row m0.value.list),.b m0.value.cut,.i .u64 m0.flags]))(h:T158_2 prog K m0):W prog d c158_2 σ st Q:=
 sq_ (q_ rfl (f_ H1 (l_ rfl B0 rfl rfl (b_ rfl rfl eql_ (e_ (cs_ rfl (fun g'1=>sq_ (W.reg (f_ H1 (l_ rfl (lk_other rfl B0) rfl rfl (s_alloc (so_ rfl (show lk _ (d,16386) = some (_,([.i .u8 0,.i .i64 0,.s [],.sl .full (List.map Val.row ([]:List Val)),.b false]:List AV)) from lk_here) rfl rfl rfl (e_ (sq_ (q_ rfl (f_ rfl (l_ rfl lk_here rfl rfl (b_ rfl rfl neq_ (s_mvB rfl (em_ (g:=25) rfl (fun g'2=>gn_ (b:=true) rfl rfl (gn_ (b:=true) rfl rfl (gn_ (b:=true) rfl rfl (pt_ rfl rfl (s_mvB rfl (gn_ (b:=true) rfl rfl (gn_ (b:=true) rfl rfl (gn_ (b:=true) rfl rfl (gn_ (b:=true) rfl rfl (pt_ rfl rfl (s_mvB rfl (gn_ (b:=true) rfl rfl (gn_ (b:=true) rfl rfl (pt_ rfl rfl (s_mvB rfl (gn_ (b:=true) rfl rfl (gn_ (b:=true) rfl rfl (gn_ (b:=true) rfl rfl (gn_ (b:=true) rfl rfl (pt_ rfl rfl (e_ (ct_ rfl (q_ rfl (m_ (e_ (rt_ (hQ _ _ _ rfl ((h.1 g'1).1 g'2)))))))))))))))))))))))))))) (fun g'2=>gy_ rfl (f_ rfl (gy_ rfl (l_ rfl lk_here rfl rfl (gy_ rfl (b_ rfl rfl sne_ (pf_ rfl rfl (s_mvB rfl (em_ (g:=30) rfl (fun g'3=>gn_ (b:=true) rfl rfl (gn_ (b:=true) rfl rfl (gn_ (b:=true) rfl rfl (gn_ (b:=true) rfl rfl (pt_ rfl rfl (s_mvB rfl (gn_ (b:=true) rfl rfl (gn_ (b:=true) rfl rfl (pt_ rfl rfl (s_mvB rfl (gn_ (b:=true) rfl rfl (gn_ (b:=true) rfl rfl (gn_ (b:=true) rfl rfl (gn_ (b:=true) rfl rfl (pt_ rfl rfl (e_ (ct_ rfl (q_ rfl (m_ (e_ (rt_ (hQ _ _ _ rfl (((h.1 g'1).2 g'2).1 g'3))))))))))))))))))))))) (fun g'3=>gy_ rfl (f_ rfl (gy_ rfl (l_ rfl lk_here rfl rfl (gy_ rfl (ll_ rfl (gy_ rfl (b_ rfl rfl gtr_ (pf_ rfl rfl (s_mvB rfl (em_ (g:=36) rfl (fun g'4=>gn_ (b:=true) rfl rfl (gn_ (b:=true) rfl rfl (pt_ rfl rfl (s_mvB rfl (gn_ (b:=true) rfl rfl (gn_ (b:=true) rfl rfl (gn_ (b:=true) rfl rfl (gn_ (b:=true) rfl rfl (pt_ rfl rfl (e_ (ct_ rfl (q_ rfl (m_ (e_ (rt_ (hQ _ _ _ rfl ((((h.1 g'1).2 g'2).2 g'3).1 g'4))))))))))))))))) (fun g'4=>gy_ rfl (f_ rfl (gy_ rfl (l_ rfl lk_here rfl rfl (pf_ rfl rfl (s_mvB rfl (eb_ (g:=40) rfl (fun g'5=>gn_ (b:=true) rfl rfl (gn_ (b:=true) rfl rfl (gn_ (b:=true) rfl rfl (gn_ (b:=true) rfl rfl (pt_ rfl rfl (e_ (ct_ rfl (q_ rfl (m_ (e_ (rt_ (hQ _ _ _ rfl (((((h.1 g'1).2 g'2).2 g'3).2 g'4).1 g'5))))))))))))) (fun g'5=>gy_ rfl (f_ H1 (gy_ rfl (l_ rfl (lk_other rfl (lk_other rfl B0)) rfl rfl (gy_ rfl (b_ rfl rfl (abin_andNot _ _ _) (gy_ rfl (b_ rfl rfl neq_ (pf_ rfl rfl (e_ (cs_ rfl (fun g'6=>q_ rfl (m_ (e_ (rt_ (hQ _ _ _ rfl ((((((h.1 g'1).2 g'2).2 g'3).2 g'4).2 g'5).1 g'6)))))) (fun g'6=>sk_ (q_ rfl (m_ (e_ (rt_ (hQ _ _ _ rfl ((((((h.1 g'1).2 g'2).2 g'3).2 g'4).2 g'5).2 g'6))))))))))))))))))))))))))))))))))))))))))))))))))))))))))) (fun g'1=>sk_ (w158_3 hQ H1 B0 (h.2 g'1)))))))))
theorem w158_1 {m0:Pan}{v0:Nat}(H1:σ 1 = .p (d,0) v0 0)(B0:lk st.bx (d,0) = some (v0,[.i .u64 m0.tag,.i .u8 m0.value.kind,.i .i64 m0.value.int,.s m0.value.text,.sl .ext (List.map Val.row m0.value.list),.b m0.value.cut,.i .u64 m0.flags]))(h:T158_1 prog K m0):W prog d c158_3 σ st Q:=
 sq_ (q_ rfl (f_ H1 (l_ rfl B0 rfl rfl (b_ rfl rfl gtr_ (s_mvB rfl (em_ (g:=7) rfl (fun g'1=>gn_ (b:=true) rfl rfl (gn_ (b:=true) rfl rfl (gn_ (b:=true) rfl rfl (gn_ (b:=true) rfl rfl (gn_ (b:=true) rfl rfl (gn_ (b:=true) rfl rfl (gn_ (b:=true) rfl rfl (gn_ (b:=true) rfl rfl (pt_ rfl rfl (e_ (ct_ rfl (q_ rfl (m_ (e_ (rt_ (hQ _ _ _ rfl (h.1 g'1))))))))))))))))) (fun g'1=>gy_ rfl (f_ H1 (gy_ rfl (f_ rfl (gy_ rfl (l_ rfl B0 rfl rfl (gy_ rfl ((h.2 g'1).elim fun r'2 e'3=>ca_ sn e'3.1 (gy_ rfl (f_ H1 (gy_ rfl (l_ rfl B0 rfl rfl (gy_ rfl (e'3.2.2.2.elim fun c'4 e'5=>s_ixA (f:=c8) e'3.2.1 rfl rfl e'3.2.2.1 e'5.1 (gy_ rfl (b_ rfl rfl neq_ (pf_ rfl rfl (e_ (cs_ rfl (fun g'7=>q_ rfl (m_ (e_ (rt_ (hQ _ _ _ rfl (e'5.2.1 g'7)))))) (fun g'7=>sk_ (w158_2 hQ H1 B0 (e'5.2.2 g'7))))))))))))))))))))))))))))
theorem w158_0 {p0:Pan}(H0:σ 0 = p0.av)(h:T158_0 prog K p0):W prog d (.seq (.reg 0 r158_0) c158_3) σ st Q:=
 q_ rfl (s_box H0 rfl (m_ (e_ (w158_1 hQ rfl lk_here h))))
end
theorem p158 {prog:Prog}(hf:prog.fn 158 = some pf158){p0:Pan}{K:Int→Prop}(h:T158_0 prog K p0) :∃res0:Int,K res0∧Pus prog 158 [p0.av] (.i .i64 res0):=by
  obtain ⟨v,hv,res0,hk,rfl⟩:=Pus.of (K:=fun v=>∃res0:Int,K res0∧v = .i .i64 res0) hf rfl (w158_0 (σ:=sl0 [p0.av]) (fun σ st   res0 H2 hk=>⟨.i .i64 res0,by simp only [pf158,ares,aresL,H2,ares1,Option.map_some],_,rfl,res0,hk,rfl⟩) rfl h)
  exact ⟨res0,hk,hv⟩
def r159_0:List AI:=[oO 1 (.box 7 (.t 0)),
 oC 2 (.i .i64 0)]
def r159_1:List AI:=[oF 5 1 1,
 oO 6 (.load 5 true (.t 5)),
 oO 7 (.call false 77 [(.t 6)]),
 oB 8 .eql (.t 7) (.c (.i .i64 0)),
 oM 3 8]
def r159_2:List AI:=[oO 9 (.bslice [.i .u8 0] 5 [(0,(.c (.i .u8 0))),(1,(.c (.i .u8 2))),(2,(.c (.i .u8 1))),(3,(.c (.i .u8 3))),(4,(.c (.i .u8 2)))]),
 oM 4 9]
def r159_3:List AI:=[oF 10 0 1,
 oL 11 10,
 oB 12 .gtr (.t 11) (.c (.i .u64 4)),
 oM 13 12,
 oG 14 (.fad 1 (.t 1)) 13 false,
 oG 15 (.fad 0 (.t 14)) 13 false,
 oG 16 (.load 1 false (.t 15)) 13 false,
 oG 17 (.mv (.t 4)) 13 false,
 oG 18 (.fad 0 (.t 1)) 13 false,
 oG 19 (.load 1 false (.t 18)) 13 false,
 oG 20 (.iaL 1 (.t 17) (.t 19)) 13 false,
 oG 21 (.load 1 false (.t 20)) 13 false,
 oG 22 (.bin .neq (.t 16) (.t 21)) 13 false,
 oO 23 (.pick (.t 13) (.c (.b true)) (.t 22))]
def r159_4:List AI:=[oC 2 (.i .i64 8)]
def r159_5:List AI:=[oF 24 0 1,
 oL 25 24,
 oB 26 .eql (.t 25) (.c (.i .u64 0))]
def r159_6:List AI:=[oF 27 1 1,
 oO 28 (.load 5 true (.t 27)),
 oO 29 (.build [.i .u8 0,.i .i64 0,.s [],.sl .full [],.b false] []),
 oO 30 (.call false 78 [(.t 28),(.t 29)]),
 oM 31 30,
 oG 32 (.fad 6 (.t 1)) 31 true,
 oG 33 (.load 1 false (.t 32)) 31 true,
 oG 34 (.bin .eql (.t 33) (.c (.i .u64 2))) 31 true,
 oG 35 (.mv (.t 34)) 31 true,
 oG 36 (.fad 6 (.t 1)) 35 false,
 oG 37 (.load 1 false (.t 36)) 35 false,
 oG 38 (.bin .eql (.t 37) (.c (.i .u64 6))) 35 false,
 oG 39 (.pick (.t 35) (.c (.b true)) (.t 38)) 31 true,
 oO 40 (.pick (.t 31) (.t 39) (.c (.b false))),
 oM 3 40]
def r159_7:List AI:=[oM 41 3,
 oM 42 41,
 oG 43 (.fad 6 (.t 1)) 42 true,
 oG 44 (.load 1 false (.t 43)) 42 true,
 oG 45 (.bin .eql (.t 44) (.c (.i .u64 0))) 42 true,
 oG 46 (.mv (.t 45)) 42 true,
 oG 47 (.fad 6 (.t 1)) 46 false,
 oG 48 (.load 1 false (.t 47)) 46 false,
 oG 49 (.bin .eql (.t 48) (.c (.i .u64 1))) 46 false,
 oG 50 (.pick (.t 46) (.c (.b true)) (.t 49)) 42 true,
 oG 51 (.mv (.t 50)) 42 true,
 oG 52 (.fad 6 (.t 1)) 51 false,
 oG 53 (.load 1 false (.t 52)) 51 false,
 oG 54 (.bin .eql (.t 53) (.c (.i .u64 4))) 51 false,
 oG 55 (.pick (.t 51) (.c (.b true)) (.t 54)) 42 true,
 oG 56 (.mv (.t 55)) 42 true,
 oG 57 (.fad 6 (.t 1)) 56 false,
 oG 58 (.load 1 false (.t 57)) 56 false,
 oG 59 (.bin .eql (.t 58) (.c (.i .u64 5))) 56 false,
 oG 60 (.pick (.t 56) (.c (.b true)) (.t 59)) 42 true,
 oO 61 (.pick (.t 42) (.t 60) (.c (.b false))),
 oM 3 61]
def r159_8:List AI:=[oF 62 0 1,
 oL 63 62,
 oB 64 .eql (.t 63) (.c (.i .u64 4))]
def r159_9:List AI:=[oM 65 3,
 oM 66 65,
 oG 67 (.fad 1 (.t 1)) 66 true,
 oG 68 (.fad 1 (.t 67)) 66 true,
 oG 69 (.load 1 false (.t 68)) 66 true,
 oG 70 (.bin .geq (.t 69) (.c (.i .i64 1))) 66 true,
 oO 71 (.pick (.t 66) (.t 70) (.c (.b false))),
 oM 72 71,
 oG 73 (.fad 1 (.t 1)) 72 true,
 oG 74 (.fad 1 (.t 73)) 72 true,
 oG 75 (.load 1 false (.t 74)) 72 true,
 oG 76 (.bin .leq (.t 75) (.c (.i .i64 3))) 72 true,
 oO 77 (.pick (.t 72) (.t 76) (.c (.b false))),
 oM 3 77]
def r159_10:List AI:=[oM 78 3,
 oO 79 (.un .not (.t 78))]
def r159_11:List AI:=[oC 2 (.i .i64 8)]
def r159_12:List AI:=[oC 2 (.i .i64 0)]
abbrev c159_0:AC:=(.seq (.seq (.reg 10 r159_10) (.cond (.t 79) (.seq (.reg 11 r159_11) .ret) .skip)) (.seq (.reg 12 r159_12) .ret))
abbrev c159_1:AC:=(.seq (.seq (.reg 8 r159_8) (.cond (.t 64) (.reg 9 r159_9) .skip)) c159_0)
abbrev c159_2:AC:=(.seq (.seq (.reg 5 r159_5) (.cond (.t 26) (.reg 6 r159_6) (.reg 7 r159_7))) c159_1)
abbrev c159_3:AC:=(.seq (.seq (.reg 3 r159_3) (.cond (.t 23) (.seq (.reg 4 r159_4) .ret) .skip)) c159_2)
abbrev c159_4:AC:=(.seq (.reg 2 r159_2) c159_3)
abbrev c159_5:AC:=(.seq (.reg 1 r159_1) c159_4)
abbrev b159:AC:=(.seq (.reg 0 r159_0) c159_5)
def pf159:AF:={ nt:=80,res:=[.tmp 2],body:=b159 }
abbrev H159 (Q:AE→Sl→St→Prop)(K:Int→Prop):Prop:=∀(σ:Sl)(st:St)(res0:Int),σ 2 = .i .i64 res0→K res0→Q .ret σ st
def T159_6 (prog:Prog)(K:Int→Prop)(ok3:Bool):Prop:=
  ((!ok3) = true→K 8)∧((!ok3) = false→K 0)
def T159_5 (prog:Prog)(K:Int→Prop)(ok3:Bool)(m0:Pan):Prop:=
  (m0.tag = 4→(ok3 = true→(m0.value.int ≥ 1→T159_6 prog K (decide (m0.value.int≤3)))∧(¬(m0.value.int ≥ 1)→T159_6 prog K false))∧(ok3 = false→T159_6 prog K false))∧(¬(m0.tag = 4)→T159_6 prog K ok3)
def T159_4 (prog:Prog)(K:Int→Prop)(ok3:Bool)(m0:Pan):Prop:=
  (m0.tag = 0→∃r'2:Bool,Pus prog 78 [m0.value.av,.ag [.i .u8 0,.i .i64 0,.s [],.sl .ext (List.map Val.row ([]:List Val)),.b false]] (.b r'2)∧(r'2 = true→(m0.flags = 2→T159_5 prog K true m0)∧(¬(m0.flags = 2)→T159_5 prog K (decide (m0.flags = 6)) m0))∧(r'2 = false→T159_5 prog K false m0))∧(¬(m0.tag = 0)→(ok3 = true→(m0.flags = 0→T159_5 prog K true m0)∧(¬(m0.flags = 0)→(m0.flags = 1→T159_5 prog K true m0)∧(¬(m0.flags = 1)→(m0.flags = 4→T159_5 prog K true m0)∧(¬(m0.flags = 4)→T159_5 prog K (decide (m0.flags = 5)) m0))))∧(ok3 = false→T159_5 prog K false m0))
def T159_3 (prog:Prog)(K:Int→Prop)(ok3:Bool)(kinds4:List UInt8)(m0:Pan):Prop:=
  (m0.tag > 4→K 8)∧(¬(m0.tag > 4)→0≤m0.tag∧∃c'2:UInt8,kinds4[(m0.tag).toNat]? = some c'2∧(m0.value.kind≠(c'2.toNat:Int)→K 8)∧(¬(m0.value.kind≠(c'2.toNat:Int))→T159_4 prog K ok3 m0))
def T159_2 (prog:Prog)(K:Int→Prop)(ok3:Bool)(m0:Pan):Prop:=
  T159_3 prog K ok3 [(0:UInt8),(2:UInt8),(1:UInt8),(3:UInt8),(2:UInt8)] m0
def T159_1 (prog:Prog)(K:Int→Prop)(m0:Pan):Prop:=
  ∃r'1:Int,Pus prog 77 [m0.value.av] (.i .i64 r'1)∧T159_2 prog K (decide (r'1 = 0)) m0
def T159_0 (prog:Prog)(K:Int→Prop)(p0:Pan):Prop:=
  T159_1 prog K p0
section
variable {prog:Prog}{d:Nat}{Q:AE→Sl→St→Prop}{K:Int→Prop}(hQ:H159 Q K){σ:Sl}{st:St}
include hQ
theorem w159_6 {ok3:Bool}(H3:σ 3 = .b ok3)(h:T159_6 prog K ok3):W prog d c159_0 σ st Q:=
 sq_ (q_ rfl (m_ (nt_ H3 (e_ (cb_ rfl (fun g'1=>q_ rfl (m_ (e_ (rt_ (hQ _ _ _ rfl (h.1 g'1)))))) (fun g'1=>sk_ (q_ rfl (m_ (e_ (rt_ (hQ _ _ _ rfl (h.2 g'1))))))))))))
theorem w159_5 {ok3:Bool}{m0:Pan}{v0:Nat}(H1:σ 1 = .p (d,0) v0 0)(H3:σ 3 = .b ok3)(B0:lk st.bx (d,0) = some (v0,[.i .u64 m0.tag,.i .u8 m0.value.kind,.i .i64 m0.value.int,.s m0.value.text,.sl .ext (List.map Val.row m0.value.list),.b m0.value.cut,.i .u64 m0.flags]))(h:T159_5 prog K ok3 m0):W prog d c159_1 σ st Q:=
 sq_ (q_ rfl (f_ H1 (l_ rfl B0 rfl rfl (b_ rfl rfl eql_ (e_ (cs_ rfl (fun g'1=>W.reg0 rfl fun _ _=>s_mvB H3 (s_mvB rfl (eb_ (g:=66) rfl (fun g'2=>gy_ rfl (f_ H1 (gy_ rfl (f_ rfl (gy_ rfl (l_ rfl B0 rfl rfl (gy_ rfl (b_ rfl rfl geq_ (pt_ rfl rfl (s_mvB rfl (em_ (g:=72) rfl (fun g'3=>gy_ rfl (f_ H1 (gy_ rfl (f_ rfl (gy_ rfl (l_ rfl B0 rfl rfl (gy_ rfl (b_ rfl rfl leq_ (pt_ rfl rfl (s_mvB rfl (e_ (w159_6 hQ rfl (((h.1 g'1).1 g'2).1 g'3))))))))))))) (fun g'3=>gn_ (b:=false) rfl rfl (gn_ (b:=false) rfl rfl (gn_ (b:=false) rfl rfl (gn_ (b:=false) rfl rfl (pf_ rfl rfl (s_mvB rfl (e_ (w159_6 hQ rfl (((h.1 g'1).1 g'2).2 g'3)))))))))))))))))))) (fun g'2=>gn_ (b:=false) rfl rfl (gn_ (b:=false) rfl rfl (gn_ (b:=false) rfl rfl (gn_ (b:=false) rfl rfl (pf_ rfl rfl (s_mvB rfl (gn_ (b:=false) rfl rfl (gn_ (b:=false) rfl rfl (gn_ (b:=false) rfl rfl (gn_ (b:=false) rfl rfl (pf_ rfl rfl (s_mvB rfl (e_ (w159_6 hQ rfl ((h.1 g'1).2 g'2)))))))))))))))))) (fun g'1=>sk_ (w159_6 hQ H3 (h.2 g'1)))))))))
theorem w159_4 {ok3:Bool}{m0:Pan}{v0:Nat}(H1:σ 1 = .p (d,0) v0 0)(H3:σ 3 = .b ok3)(B0:lk st.bx (d,0) = some (v0,[.i .u64 m0.tag,.i .u8 m0.value.kind,.i .i64 m0.value.int,.s m0.value.text,.sl .ext (List.map Val.row m0.value.list),.b m0.value.cut,.i .u64 m0.flags]))(h:T159_4 prog K ok3 m0):W prog d c159_2 σ st Q:=
 sq_ (q_ rfl (f_ H1 (l_ rfl B0 rfl rfl (b_ rfl rfl eql_ (e_ (cs_ rfl (fun g'1=>W.reg0 rfl fun _ _=>f_ H1 (l_ rfl B0 rfl rfl (s_build f_nil ((h.1 g'1).elim fun r'2 e'3=>ca_ (sc rfl rfl (sc rfl rfl sn)) e'3.1 (s_mvB rfl (eb_ (g:=31) rfl (fun g'4=>gy_ rfl (f_ H1 (gy_ rfl (l_ rfl B0 rfl rfl (gy_ rfl (b_ rfl rfl eql_ (gy_ rfl (s_mvB rfl (em_ (g:=35) rfl (fun g'5=>gn_ (b:=true) rfl rfl (gn_ (b:=true) rfl rfl (gn_ (b:=true) rfl rfl (gy_ rfl (pt_ rfl rfl (pt_ rfl rfl (s_mvB rfl (e_ (w159_5 hQ H1 rfl B0 ((e'3.2.1 g'4).1 g'5)))))))))) (fun g'5=>gy_ rfl (f_ H1 (gy_ rfl (l_ rfl B0 rfl rfl (gy_ rfl (b_ rfl rfl eql_ (gy_ rfl (pf_ rfl rfl (pt_ rfl rfl (s_mvB rfl (e_ (w159_5 hQ H1 rfl B0 ((e'3.2.1 g'4).2 g'5)))))))))))))))))))))) (fun g'4=>gn_ (b:=false) rfl rfl (gn_ (b:=false) rfl rfl (gn_ (b:=false) rfl rfl (gn_ (b:=false) rfl rfl (gt_ rfl (gt_ rfl (gt_ rfl (gn_ (b:=false) rfl rfl (pf_ rfl rfl (s_mvB rfl (e_ (w159_5 hQ H1 rfl B0 (e'3.2.2 g'4))))))))))))))))))) (fun g'1=>W.reg0 rfl fun _ _=>s_mvB H3 (s_mvB rfl (eb_ (g:=42) rfl (fun g'6=>gy_ rfl (f_ H1 (gy_ rfl (l_ rfl B0 rfl rfl (gy_ rfl (b_ rfl rfl eql_ (gy_ rfl (s_mvB rfl (em_ (g:=46) rfl (fun g'7=>gn_ (b:=true) rfl rfl (gn_ (b:=true) rfl rfl (gn_ (b:=true) rfl rfl (gy_ rfl (pt_ rfl rfl (gy_ rfl (s_mvB rfl (gn_ (b:=true) rfl rfl (gn_ (b:=true) rfl rfl (gn_ (b:=true) rfl rfl (gy_ rfl (pt_ rfl rfl (gy_ rfl (s_mvB rfl (gn_ (b:=true) rfl rfl (gn_ (b:=true) rfl rfl (gn_ (b:=true) rfl rfl (gy_ rfl (pt_ rfl rfl (pt_ rfl rfl (s_mvB rfl (e_ (w159_5 hQ H1 rfl B0 (((h.2 g'1).1 g'6).1 g'7)))))))))))))))))))))))) (fun g'7=>gy_ rfl (f_ H1 (gy_ rfl (l_ rfl B0 rfl rfl (gy_ rfl (b_ rfl rfl eql_ (gy_ rfl (pf_ rfl rfl (gy_ rfl (s_mvB rfl (em_ (g:=51) rfl (fun g'8=>gn_ (b:=true) rfl rfl (gn_ (b:=true) rfl rfl (gn_ (b:=true) rfl rfl (gy_ rfl (pt_ rfl rfl (gy_ rfl (s_mvB rfl (gn_ (b:=true) rfl rfl (gn_ (b:=true) rfl rfl (gn_ (b:=true) rfl rfl (gy_ rfl (pt_ rfl rfl (pt_ rfl rfl (s_mvB rfl (e_ (w159_5 hQ H1 rfl B0 ((((h.2 g'1).1 g'6).2 g'7).1 g'8))))))))))))))))) (fun g'8=>gy_ rfl (f_ H1 (gy_ rfl (l_ rfl B0 rfl rfl (gy_ rfl (b_ rfl rfl eql_ (gy_ rfl (pf_ rfl rfl (gy_ rfl (s_mvB rfl (em_ (g:=56) rfl (fun g'9=>gn_ (b:=true) rfl rfl (gn_ (b:=true) rfl rfl (gn_ (b:=true) rfl rfl (gy_ rfl (pt_ rfl rfl (pt_ rfl rfl (s_mvB rfl (e_ (w159_5 hQ H1 rfl B0 (((((h.2 g'1).1 g'6).2 g'7).2 g'8).1 g'9)))))))))) (fun g'9=>gy_ rfl (f_ H1 (gy_ rfl (l_ rfl B0 rfl rfl (gy_ rfl (b_ rfl rfl eql_ (gy_ rfl (pf_ rfl rfl (pt_ rfl rfl (s_mvB rfl (e_ (w159_5 hQ H1 rfl B0 (((((h.2 g'1).1 g'6).2 g'7).2 g'8).2 g'9)))))))))))))))))))))))))))))))))))))))))))) (fun g'6=>gn_ (b:=false) rfl rfl (gn_ (b:=false) rfl rfl (gn_ (b:=false) rfl rfl (gn_ (b:=false) rfl rfl (gt_ rfl (gt_ rfl (gt_ rfl (gn_ (b:=false) rfl rfl (gn_ (b:=false) rfl rfl (gt_ rfl (gt_ rfl (gt_ rfl (gn_ (b:=false) rfl rfl (gn_ (b:=false) rfl rfl (gt_ rfl (gt_ rfl (gt_ rfl (gn_ (b:=false) rfl rfl (pf_ rfl rfl (s_mvB rfl (e_ (w159_5 hQ H1 rfl B0 ((h.2 g'1).2 g'6))))))))))))))))))))))))))))))))
theorem w159_3 {ok3:Bool}{kinds4:List UInt8}{m0:Pan}{o_kinds4:Own}{v0:Nat}(H1:σ 1 = .p (d,0) v0 0)(H3:σ 3 = .b ok3)(H4:σ 4 = .sl o_kinds4 (List.map row8 kinds4))(A4:ApM d st.ow o_kinds4 kinds4.length)(B0:lk st.bx (d,0) = some (v0,[.i .u64 m0.tag,.i .u8 m0.value.kind,.i .i64 m0.value.int,.s m0.value.text,.sl .ext (List.map Val.row m0.value.list),.b m0.value.cut,.i .u64 m0.flags]))(h:T159_3 prog K ok3 kinds4 m0):W prog d c159_3 σ st Q:=
 sq_ (q_ rfl (f_ H1 (l_ rfl B0 rfl rfl (b_ rfl rfl gtr_ (s_mvB rfl (em_ (g:=13) rfl (fun g'1=>gn_ (b:=true) rfl rfl (gn_ (b:=true) rfl rfl (gn_ (b:=true) rfl rfl (gn_ (b:=true) rfl rfl (gn_ (b:=true) rfl rfl (gn_ (b:=true) rfl rfl (gn_ (b:=true) rfl rfl (gn_ (b:=true) rfl rfl (gn_ (b:=true) rfl rfl (pt_ rfl rfl (e_ (ct_ rfl (q_ rfl (m_ (e_ (rt_ (hQ _ _ _ rfl (h.1 g'1)))))))))))))))))) (fun g'1=>gy_ rfl (f_ H1 (gy_ rfl (f_ rfl (gy_ rfl (l_ rfl B0 rfl rfl (gy_ rfl (s_mvL H4 (gy_ rfl (f_ H1 (gy_ rfl (l_ rfl B0 rfl rfl (gy_ rfl ((h.2 g'1).2.elim fun c'2 e'3=>ia_ rfl rfl (h.2 g'1).1 e'3.1 rfl rfl (gy_ rfl (lf_ rfl rfl rfl (gy_ rfl (b_ rfl rfl neq_ (pf_ rfl rfl (e_ (cs_ rfl (fun g'4=>q_ rfl (m_ (e_ (rt_ (hQ _ _ _ rfl (e'3.2.1 g'4)))))) (fun g'4=>sk_ (w159_4 hQ H1 H3 B0 (e'3.2.2 g'4))))))))))))))))))))))))))))))
theorem w159_2 {ok3:Bool}{m0:Pan}{v0:Nat}(H1:σ 1 = .p (d,0) v0 0)(H3:σ 3 = .b ok3)(B0:lk st.bx (d,0) = some (v0,[.i .u64 m0.tag,.i .u8 m0.value.kind,.i .i64 m0.value.int,.s m0.value.text,.sl .ext (List.map Val.row m0.value.list),.b m0.value.cut,.i .u64 m0.flags]))(h:T159_2 prog K ok3 m0):W prog d c159_4 σ st Q:=
 q_ rfl (s_bslM (f:=row8) (l:=[(0:UInt8),(2:UInt8),(1:UInt8),(3:UInt8),(2:UInt8)]) rfl rfl (g_cons rfl rfl rfl (g_cons rfl rfl rfl (g_cons rfl rfl rfl (g_cons rfl rfl rfl (g_cons rfl rfl rfl g_nil))))) rfl (s_mvL rfl (e_ (w159_3 hQ H1 H3 rfl ApM.full B0 h))))
theorem w159_1 {m0:Pan}{v0:Nat}(H1:σ 1 = .p (d,0) v0 0)(B0:lk st.bx (d,0) = some (v0,[.i .u64 m0.tag,.i .u8 m0.value.kind,.i .i64 m0.value.int,.s m0.value.text,.sl .ext (List.map Val.row m0.value.list),.b m0.value.cut,.i .u64 m0.flags]))(h:T159_1 prog K m0):W prog d c159_5 σ st Q:=
 q_ rfl (f_ H1 (l_ rfl B0 rfl rfl (h.elim fun r'1 e'2=>ca_ (sc rfl rfl sn) e'2.1 (b_ rfl rfl eql_ (m_ (e_ (w159_2 hQ H1 rfl B0 e'2.2)))))))
theorem w159_0 {p0:Pan}(H0:σ 0 = p0.av)(h:T159_0 prog K p0):W prog d (.seq (.reg 0 r159_0) c159_5) σ st Q:=
 q_ rfl (s_box H0 rfl (m_ (e_ (w159_1 hQ rfl lk_here h))))
end
theorem p159 {prog:Prog}(hf:prog.fn 159 = some pf159){p0:Pan}{K:Int→Prop}(h:T159_0 prog K p0) :∃res0:Int,K res0∧Pus prog 159 [p0.av] (.i .i64 res0):=by
  obtain ⟨v,hv,res0,hk,rfl⟩:=Pus.of (K:=fun v=>∃res0:Int,K res0∧v = .i .i64 res0) hf rfl (w159_0 (σ:=sl0 [p0.av]) (fun σ st   res0 H2 hk=>⟨.i .i64 res0,by simp only [pf159,ares,aresL,H2,ares1,Option.map_some],_,rfl,res0,hk,rfl⟩) rfl h)
  exact ⟨res0,hk,hv⟩
def r179_0:List AI:=[oO 1 (.box 7 (.t 0)),
 oC 2 (.s [])]
def r179_1:List AI:=[oC 3 (.s [101,120,105,116])]
def r179_2:List AI:=[oF 4 0 1,
 oL 5 4,
 oB 6 .eql (.t 5) (.c (.i .u64 4))]
def r179_3:List AI:=[oO 7 (.bslice [.s []] 4 [(0,(.c (.s []))),(1,(.c (.s [102,97,117,108,116,32,49,58,32,100,105,118,105,115,105,111,110,32,98,121,32,122,101,114,111]))),(2,(.c (.s [102,97,117,108,116,32,50,58,32,110,105,108,32,112,111,105,110,116,101,114]))),(3,(.c (.s [102,97,117,108,116,32,51,58,32,111,117,116,32,111,102,32,114,97,110,103,101])))]),
 oF 8 1 1,
 oF 9 1 8,
 oL 10 9,
 oO 11 (.iaL 1 (.t 7) (.t 10)),
 oL 12 11,
 oM 3 12]
def r179_4:List AI:=[oF 13 0 1,
 oL 14 13,
 oB 15 .neq (.t 14) (.c (.i .u64 0))]
def r179_5:List AI:=[oF 16 1 1,
 oO 17 (.load 5 true (.t 16)),
 oO 18 (.call false 106 [(.t 17)]),
 oB 19 .add (.c (.s [112,97,110,105,99,32])) (.t 18),
 oM 3 19]
def r179_6:List AI:=[oF 20 6 1,
 oL 21 20,
 oB 22 .rem (.t 21) (.c (.i .u64 2)),
 oB 23 .eql (.t 22) (.c (.i .u64 1))]
def r179_7:List AI:=[oM 24 3,
 oB 25 .add (.t 24) (.c (.s [32,114,101,99,111,118,101,114,101,100])),
 oM 3 25]
def r179_8:List AI:=[oF 26 6 1,
 oL 27 26,
 oB 28 .geq (.t 27) (.c (.i .u64 4))]
def r179_9:List AI:=[oM 29 3,
 oB 30 .add (.t 29) (.c (.s [32,97,98,111,114,116,101,100])),
 oM 3 30]
def r179_10:List AI:=[oM 31 3,
 oM 2 31]
abbrev c179_0:AC:=(.seq (.reg 10 r179_10) .ret)
abbrev c179_1:AC:=(.seq (.seq (.reg 8 r179_8) (.cond (.t 28) (.reg 9 r179_9) .skip)) c179_0)
abbrev c179_2:AC:=(.seq (.seq (.reg 6 r179_6) (.cond (.t 23) (.reg 7 r179_7) .skip)) c179_1)
abbrev b179:AC:=(.seq (.reg 0 r179_0) (.seq (.reg 1 r179_1) (.seq (.seq (.reg 2 r179_2) (.cond (.t 6) (.reg 3 r179_3) (.seq (.reg 4 r179_4) (.cond (.t 15) (.reg 5 r179_5) .skip)))) c179_2)))
def pf179:AF:={ nt:=32,res:=[.tmp 2],body:=b179 }
abbrev H179 (Q:AE→Sl→St→Prop)(K:List UInt8→Prop):Prop:=∀(σ:Sl)(st:St)(res0:List UInt8),σ 2 = .s res0→K res0→Q .ret σ st
def T179_3 (prog:Prog)(K:List UInt8→Prop)(s3:List UInt8):Prop:=
  K s3
def T179_2 (prog:Prog)(K:List UInt8→Prop)(s3:List UInt8)(m0:Pan):Prop:=
  (m0.flags ≥ 4→s3.length + ([32,97,98,111,114,116,101,100]:List UInt8).length≤maxStr∧T179_3 prog K (s3 ++ ([32,97,98,111,114,116,101,100]:List UInt8)))∧(¬(m0.flags ≥ 4)→T179_3 prog K s3)
def T179_1 (prog:Prog)(K:List UInt8→Prop)(s3:List UInt8)(m0:Pan):Prop:=
  (((m0.flags:Int).tmod 2) = 1→s3.length + ([32,114,101,99,111,118,101,114,101,100]:List UInt8).length≤maxStr∧T179_2 prog K (s3 ++ ([32,114,101,99,111,118,101,114,101,100]:List UInt8)) m0)∧(¬(((m0.flags:Int).tmod 2) = 1)→T179_2 prog K s3 m0)
def T179_0 (prog:Prog)(K:List UInt8→Prop)(p0:Pan):Prop:=
  (p0.tag = 4→0≤p0.value.int∧∃c'2:List UInt8,[([]:List UInt8),([102,97,117,108,116,32,49,58,32,100,105,118,105,115,105,111,110,32,98,121,32,122,101,114,111]:List UInt8),([102,97,117,108,116,32,50,58,32,110,105,108,32,112,111,105,110,116,101,114]:List UInt8),([102,97,117,108,116,32,51,58,32,111,117,116,32,111,102,32,114,97,110,103,101]:List UInt8)][(p0.value.int).toNat]? = some c'2∧T179_1 prog K c'2 p0)∧(¬(p0.tag = 4)→(p0.tag≠0→∃r'5:List UInt8,Pus prog 106 [p0.value.av] (.s r'5)∧([112,97,110,105,99,32]:List UInt8).length + r'5.length≤maxStr∧T179_1 prog K (([112,97,110,105,99,32]:List UInt8) ++ r'5) p0)∧(¬(p0.tag≠0)→T179_1 prog K ([101,120,105,116]:List UInt8) p0))
section
variable {prog:Prog}{d:Nat}{Q:AE→Sl→St→Prop}{K:List UInt8→Prop}(hQ:H179 Q K){σ:Sl}{st:St}
include hQ
theorem w179_3 {s3:List UInt8}(H3:σ 3 = .s s3)(h:T179_3 prog K s3):W prog d c179_0 σ st Q:=
 q_ rfl (m_ (m_ (e_ (rt_ (hQ _ _ _ H3 h)))))
theorem w179_2 {s3:List UInt8}{m0:Pan}{v0:Nat}(H1:σ 1 = .p (d,0) v0 0)(H3:σ 3 = .s s3)(B0:lk st.bx (d,0) = some (v0,[.i .u64 m0.tag,.i .u8 m0.value.kind,.i .i64 m0.value.int,.s m0.value.text,.sl .ext (List.map Val.row m0.value.list),.b m0.value.cut,.i .u64 m0.flags]))(h:T179_2 prog K s3 m0):W prog d c179_1 σ st Q:=
 sq_ (q_ rfl (f_ H1 (l_ rfl B0 rfl rfl (b_ rfl rfl geq_ (e_ (cs_ rfl (fun g'1=>W.reg0 rfl fun _ _=>m_ (b_ H3 rfl (abin_cat' (h.1 g'1).1) (m_ (e_ (w179_3 hQ rfl (h.1 g'1).2))))) (fun g'1=>sk_ (w179_3 hQ H3 (h.2 g'1)))))))))
theorem w179_1 {s3:List UInt8}{m0:Pan}{v0:Nat}(H1:σ 1 = .p (d,0) v0 0)(H3:σ 3 = .s s3)(B0:lk st.bx (d,0) = some (v0,[.i .u64 m0.tag,.i .u8 m0.value.kind,.i .i64 m0.value.int,.s m0.value.text,.sl .ext (List.map Val.row m0.value.list),.b m0.value.cut,.i .u64 m0.flags]))(h:T179_1 prog K s3 m0):W prog d c179_2 σ st Q:=
 sq_ (q_ rfl (f_ H1 (l_ rfl B0 rfl rfl (b_ rfl rfl (abin_rem' (by decide)) (b_ rfl rfl eql_ (e_ (cs_ rfl (fun g'1=>W.reg0 rfl fun _ _=>m_ (b_ H3 rfl (abin_cat' (h.1 g'1).1) (m_ (e_ (w179_2 hQ H1 rfl B0 (h.1 g'1).2))))) (fun g'1=>sk_ (w179_2 hQ H1 H3 B0 (h.2 g'1))))))))))
theorem w179_0 {p0:Pan}(H0:σ 0 = p0.av)(h:T179_0 prog K p0):W prog d (.seq (.reg 0 r179_0) (.seq (.reg 1 r179_1) (.seq (.seq (.reg 2 r179_2) (.cond (.t 6) (.reg 3 r179_3) (.seq (.reg 4 r179_4) (.cond (.t 15) (.reg 5 r179_5) .skip)))) c179_2))) σ st Q:=
 q_ rfl (s_box H0 rfl (m_ (e_ (q_ rfl (m_ (e_ (sq_ (q_ rfl (f_ rfl (l_ rfl lk_here rfl rfl (b_ rfl rfl eql_ (e_ (cs_ rfl (fun g'1=>W.reg0 rfl fun _ _=>s_bslM (f:=rowS) (l:=[([]:List UInt8),([102,97,117,108,116,32,49,58,32,100,105,118,105,115,105,111,110,32,98,121,32,122,101,114,111]:List UInt8),([102,97,117,108,116,32,50,58,32,110,105,108,32,112,111,105,110,116,101,114]:List UInt8),([102,97,117,108,116,32,51,58,32,111,117,116,32,111,102,32,114,97,110,103,101]:List UInt8)]) rfl rfl (g_cons rfl rfl rfl (g_cons rfl rfl rfl (g_cons rfl rfl rfl (g_cons rfl rfl rfl g_nil)))) rfl (f_ rfl (f_ rfl (l_ rfl lk_here rfl rfl ((h.1 g'1).2.elim fun c'2 e'3=>ia_ rfl rfl (h.1 g'1).1 e'3.1 rfl rfl (lf_ rfl rfl rfl (m_ (e_ (w179_1 hQ rfl rfl lk_here e'3.2))))))))) (fun g'1=>q_ rfl (f_ rfl (l_ rfl lk_here rfl rfl (b_ rfl rfl neq_ (e_ (cs_ rfl (fun g'4=>W.reg0 rfl fun _ _=>f_ rfl (l_ rfl lk_here rfl rfl (((h.2 g'1).1 g'4).elim fun r'5 e'6=>ca_ (sc rfl rfl sn) e'6.1 (b_ rfl rfl (abin_cat' e'6.2.1) (m_ (e_ (w179_1 hQ rfl rfl lk_here e'6.2.2))))))) (fun g'4=>sk_ (w179_1 hQ rfl rfl lk_here ((h.2 g'1).2 g'4))))))))))))))))))))))
end
theorem p179 {prog:Prog}(hf:prog.fn 179 = some pf179){p0:Pan}{K:List UInt8→Prop}(h:T179_0 prog K p0) :∃res0:List UInt8,K res0∧Pus prog 179 [p0.av] (.s res0):=by
  obtain ⟨v,hv,res0,hk,rfl⟩:=Pus.of (K:=fun v=>∃res0:List UInt8,K res0∧v = .s res0) hf rfl (w179_0 (σ:=sl0 [p0.av]) (fun σ st   res0 H2 hk=>⟨.s res0,by simp only [pf179,ares,aresL,H2,ares1,Option.map_some],_,rfl,res0,hk,rfl⟩) rfl h)
  exact ⟨res0,hk,hv⟩
def r154_0:List AI:=[oO 1 (.box 7 (.t 0)),
 oC 2 (.s []),
 oC 3 (.i .i64 0)]
def r154_1:List AI:=[oO 8 (.load 7 true (.t 1)),
 oO 9 (.call false 158 [(.t 8)]),
 oM 4 9]
def r154_2:List AI:=[oM 10 4,
 oB 11 .neq (.t 10) (.c (.i .i64 0))]
def r154_3:List AI:=[oM 12 4,
 oC 2 (.s []),
 oM 3 12]
def r154_4:List AI:=[oC 5 (.s [101,120,105,116])]
def r154_5:List AI:=[oF 13 0 1,
 oL 14 13]
def r154_6:List AI:=[oB 27 .eql (.t 14) (.c (.i .u64 0)),
 oM 26 27]
def r154_7:List AI:=[oB 29 .eql (.t 14) (.c (.i .u64 4)),
 oM 28 29]
def r154_8:List AI:=[oO 30 (.call false 178 []),
 oF 31 1 1,
 oF 32 1 31,
 oL 33 32,
 oO 34 (.ixA 4 1 false (.t 30) (.t 33)),
 oM 5 34]
def r154_9:List AI:=[oF 16 1 1,
 oO 17 (.load 5 true (.t 16)),
 oO 18 (.call false 72 [(.t 17)]),
 oM 15 18,
 oE 19 0 15,
 oE 20 1 15,
 oM 6 19,
 oM 7 20]
def r154_10:List AI:=[oM 21 7,
 oB 22 .neq (.t 21) (.c (.i .i64 0))]
def r154_11:List AI:=[oM 23 7,
 oC 2 (.s []),
 oM 3 23]
def r154_12:List AI:=[oM 24 6,
 oB 25 .add (.c (.s [112,97,110,105,99,32])) (.t 24),
 oM 5 25]
def r154_13:List AI:=[oF 35 6 1,
 oL 36 35,
 oB 37 .and (.t 36) (.c (.i .u64 1)),
 oB 38 .neq (.t 37) (.c (.i .u64 0))]
def r154_14:List AI:=[oM 39 5,
 oB 40 .add (.t 39) (.c (.s [32,114,101,99,111,118,101,114,101,100])),
 oM 5 40]
def r154_15:List AI:=[oF 41 6 1,
 oL 42 41,
 oB 43 .and (.t 42) (.c (.i .u64 4)),
 oB 44 .neq (.t 43) (.c (.i .u64 0))]
def r154_16:List AI:=[oM 45 5,
 oB 46 .add (.t 45) (.c (.s [32,97,98,111,114,116,101,100])),
 oM 5 46]
def r154_17:List AI:=[oM 47 5,
 oM 2 47,
 oC 3 (.i .i64 0)]
abbrev c154_0:AC:=(.seq (.reg 17 r154_17) .ret)
abbrev c154_1:AC:=(.seq (.seq (.reg 15 r154_15) (.cond (.t 44) (.reg 16 r154_16) .skip)) c154_0)
abbrev c154_2:AC:=(.seq (.seq (.reg 13 r154_13) (.cond (.t 38) (.reg 14 r154_14) .skip)) c154_1)
abbrev b154:AC:=(.seq (.reg 0 r154_0) (.seq (.seq (.reg 1 r154_1) (.seq (.reg 2 r154_2) (.cond (.t 11) (.seq (.reg 3 r154_3) .ret) .skip))) (.seq (.reg 4 r154_4) (.seq (.seq (.reg 5 r154_5) (.block 0 (.seq (.reg 10 r154_6) (.cond (.t 26) .skip (.seq (.reg 11 r154_7) (.cond (.t 28) (.reg 12 r154_8) (.seq (.reg 6 r154_9) (.seq (.seq (.reg 7 r154_10) (.cond (.t 22) (.seq (.reg 8 r154_11) .ret) .skip)) (.reg 9 r154_12))))))))) c154_2))))
def pf154:AF:={ nt:=48,res:=[.tmp 2,.tmp 3],body:=b154 }
abbrev H154 (Q:AE→Sl→St→Prop)(K:List UInt8→Int→Prop):Prop:=∀(σ:Sl)(st:St)(res0:List UInt8)(res1:Int),σ 2 = .s res0→σ 3 = .i .i64 res1→K res0 res1→Q .ret σ st
def T154_3 (prog:Prog)(K:List UInt8→Int→Prop)(s5:List UInt8):Prop:=
  K s5 0
def T154_2 (prog:Prog)(K:List UInt8→Int→Prop)(s5:List UInt8)(m0:Pan):Prop:=
  ((bAnd .u64 m0.flags 4)≠0→s5.length + ([32,97,98,111,114,116,101,100]:List UInt8).length≤maxStr∧T154_3 prog K (s5 ++ ([32,97,98,111,114,116,101,100]:List UInt8)))∧(¬((bAnd .u64 m0.flags 4)≠0)→T154_3 prog K s5)
def T154_1 (prog:Prog)(K:List UInt8→Int→Prop)(s5:List UInt8)(m0:Pan):Prop:=
  ((bAnd .u64 m0.flags 1)≠0→s5.length + ([32,114,101,99,111,118,101,114,101,100]:List UInt8).length≤maxStr∧T154_2 prog K (s5 ++ ([32,114,101,99,111,118,101,114,101,100]:List UInt8)) m0)∧(¬((bAnd .u64 m0.flags 1)≠0)→T154_2 prog K s5 m0)
def T154_0 (prog:Prog)(K:List UInt8→Int→Prop)(p0:Pan):Prop:=
  ∃r'1:Int,Pus prog 158 [p0.av] (.i .i64 r'1)∧(r'1≠0→K ([]:List UInt8) r'1)∧(¬(r'1≠0)→(p0.tag = 0→T154_1 prog K ([101,120,105,116]:List UInt8) p0)∧(¬(p0.tag = 0)→(p0.tag = 4→∃r'6:List (List UInt8),Pus prog 178 [] (.ag (List.map AV.s r'6))∧r'6.length = 4∧0≤p0.value.int∧∃c'8:List UInt8,(r'6:List (List UInt8))[(p0.value.int).toNat]? = some c'8∧T154_1 prog K c'8 p0)∧(¬(p0.tag = 4)→∃r'10:List UInt8,∃r'11:Int,Pus prog 72 [p0.value.av] (.tup [.s r'10,.i .i64 r'11])∧(r'11≠0→K ([]:List UInt8) r'11)∧(¬(r'11≠0)→([112,97,110,105,99,32]:List UInt8).length + r'10.length≤maxStr∧T154_1 prog K (([112,97,110,105,99,32]:List UInt8) ++ r'10) p0))))
section
variable {prog:Prog}{d:Nat}{Q:AE→Sl→St→Prop}{K:List UInt8→Int→Prop}(hQ:H154 Q K){σ:Sl}{st:St}
include hQ
theorem w154_3 {s5:List UInt8}(H5:σ 5 = .s s5)(h:T154_3 prog K s5):W prog d c154_0 σ st Q:=
 q_ rfl (m_ (m_ (m_ (e_ (rt_ (hQ _ _ _ _ H5 rfl h))))))
theorem w154_2 {s5:List UInt8}{m0:Pan}{v0:Nat}(H1:σ 1 = .p (d,0) v0 0)(H5:σ 5 = .s s5)(B0:lk st.bx (d,0) = some (v0,[.i .u64 m0.tag,.i .u8 m0.value.kind,.i .i64 m0.value.int,.s m0.value.text,.sl .ext (List.map Val.row m0.value.list),.b m0.value.cut,.i .u64 m0.flags]))(h:T154_2 prog K s5 m0):W prog d c154_1 σ st Q:=
 sq_ (q_ rfl (f_ H1 (l_ rfl B0 rfl rfl (b_ rfl rfl (abin_and _ _ _) (b_ rfl rfl neq_ (e_ (cs_ rfl (fun g'1=>W.reg0 rfl fun _ _=>m_ (b_ H5 rfl (abin_cat' (h.1 g'1).1) (m_ (e_ (w154_3 hQ rfl (h.1 g'1).2))))) (fun g'1=>sk_ (w154_3 hQ H5 (h.2 g'1))))))))))
theorem w154_1 {s5:List UInt8}{m0:Pan}{v0:Nat}(H1:σ 1 = .p (d,0) v0 0)(H5:σ 5 = .s s5)(B0:lk st.bx (d,0) = some (v0,[.i .u64 m0.tag,.i .u8 m0.value.kind,.i .i64 m0.value.int,.s m0.value.text,.sl .ext (List.map Val.row m0.value.list),.b m0.value.cut,.i .u64 m0.flags]))(h:T154_1 prog K s5 m0):W prog d c154_2 σ st Q:=
 sq_ (q_ rfl (f_ H1 (l_ rfl B0 rfl rfl (b_ rfl rfl (abin_and _ _ _) (b_ rfl rfl neq_ (e_ (cs_ rfl (fun g'1=>W.reg0 rfl fun _ _=>m_ (b_ H5 rfl (abin_cat' (h.1 g'1).1) (m_ (e_ (w154_2 hQ H1 rfl B0 (h.1 g'1).2))))) (fun g'1=>sk_ (w154_2 hQ H1 H5 B0 (h.2 g'1))))))))))
theorem w154_0 {p0:Pan}(H0:σ 0 = p0.av)(h:T154_0 prog K p0):W prog d (.seq (.reg 0 r154_0) (.seq (.seq (.reg 1 r154_1) (.seq (.reg 2 r154_2) (.cond (.t 11) (.seq (.reg 3 r154_3) .ret) .skip))) (.seq (.reg 4 r154_4) (.seq (.seq (.reg 5 r154_5) (.block 0 (.seq (.reg 10 r154_6) (.cond (.t 26) .skip (.seq (.reg 11 r154_7) (.cond (.t 28) (.reg 12 r154_8) (.seq (.reg 6 r154_9) (.seq (.seq (.reg 7 r154_10) (.cond (.t 22) (.seq (.reg 8 r154_11) .ret) .skip)) (.reg 9 r154_12))))))))) c154_2)))) σ st Q:=
 q_ rfl (s_box H0 rfl (m_ (m_ (e_ (sq_ (q_ rfl (l_ rfl lk_here rfl rfl (h.elim fun r'1 e'2=>ca_ (sc rfl rfl sn) e'2.1 (m_ (e_ (q_ rfl (m_ (b_ rfl rfl neq_ (e_ (cs_ rfl (fun g'3=>q_ rfl (m_ (m_ (m_ (e_ (rt_ (hQ _ _ _ _ rfl rfl (e'2.2.1 g'3)))))))) (fun g'3=>sk_ (q_ rfl (m_ (e_ (sq_ (q_ rfl (f_ rfl (l_ rfl lk_here rfl rfl (e_ (bk_ (q_ rfl (b_ rfl rfl eql_ (m_ (e_ (cs_ rfl (fun g'4=>sk_ (w154_1 hQ rfl rfl lk_here ((e'2.2.2 g'3).1 g'4))) (fun g'4=>q_ rfl (b_ rfl rfl eql_ (m_ (e_ (cs_ rfl (fun g'5=>W.reg0 rfl fun _ _=>(((e'2.2.2 g'3).2 g'4).1 g'5).elim fun r'6 e'7=>ca_ sn e'7.1 (f_ rfl (f_ rfl (l_ rfl lk_here rfl rfl (e'7.2.2.2.elim fun c'8 e'9=>s_ixA (f:=AV.s) e'7.2.1 rfl rfl e'7.2.2.1 e'9.1 (m_ (e_ (w154_1 hQ rfl rfl lk_here e'9.2)))))))) (fun g'5=>q_ rfl (f_ rfl (l_ rfl lk_here rfl rfl ((((e'2.2.2 g'3).2 g'4).2 g'5).elim fun r'10 e'14=>e'14.elim fun r'11 e'12=>ca_ (sc rfl rfl sn) e'12.1 (m_ (x_ rfl rfl (x_ rfl rfl (m_ (m_ (e_ (sq_ (q_ rfl (m_ (b_ rfl rfl neq_ (e_ (cs_ rfl (fun g'13=>q_ rfl (m_ (m_ (m_ (e_ (rt_ (hQ _ _ _ _ rfl rfl (e'12.2.1 g'13)))))))) (fun g'13=>sk_ (W.reg0 rfl fun _ _=>m_ (b_ rfl rfl (abin_cat' (e'12.2.2 g'13).1) (m_ (e_ (w154_1 hQ rfl rfl lk_here (e'12.2.2 g'13).2)))))))))))))))))))))))))))))))))))))))))))))))))))))))))
end
theorem p154 {prog:Prog}(hf:prog.fn 154 = some pf154){p0:Pan}{K:List UInt8→Int→Prop}(h:T154_0 prog K p0) :∃res0:List UInt8,∃res1:Int,K res0 res1∧Pus prog 154 [p0.av] (.tup [.s res0,.i .i64 res1]):=by
  obtain ⟨v,hv,res0,res1,hk,rfl⟩:=Pus.of (K:=fun v=>∃res0:List UInt8,∃res1:Int,K res0 res1∧v = .tup [.s res0,.i .i64 res1]) hf rfl (w154_0 (σ:=sl0 [p0.av]) (fun σ st   res0 res1 H2 H3 hk=>⟨.tup [.s res0,.i .i64 res1],by simp only [pf154,ares,aresL,H2,H3,ares1,Option.map_some],_,rfl,res0,res1,hk,rfl⟩) rfl h)
  exact ⟨res0,res1,hk,hv⟩
abbrev H155 (Q:AE→Sl→St→Prop)(K:List UInt8→Int→Prop):Prop:=∀(σ:Sl)(st:St)(res0:List UInt8)(res1:Int),σ 2 = .s res0→σ 3 = .i .i64 res1→K res0 res1→Q .ret σ st
section
variable {prog:Prog}{d:Nat}{Q:AE→Sl→St→Prop}{K:List UInt8→Int→Prop}(hQ:H155 Q K){σ:Sl}{st:St}
include hQ
end
end Go.AM
