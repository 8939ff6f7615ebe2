/- Parts of the proof: U38b, U38c, U38d. -/
import Derived.Test.YtcojcdpoeaaigaaG2
set_option linter.all false
/- Parts of the proof. -/
namespace Go.AM
open Go
set_option linter.unusedVariables false
set_option linter.unusedSimpArgs false
set_option maxRecDepth 4000
attribute [local irreducible] WO fillCells fillRows
def r128_0:List AI:=[oC 4 (.b false)]
def r128_1:List AI:=[oM 8 0,
 oN 9 8,
 oF 10 0 9,
 oL 11 10,
 oM 12 1,
 oO 13 (.call false 36 [(.t 11),(.t 12)]),
 oM 7 13,
 oE 14 0 7,
 oE 15 1 7,
 oM 5 14,
 oM 6 15]
def r128_2:List AI:=[oM 16 0,
 oM 17 5,
 oN 18 16,
 oF 19 0 18,
 oS 1 19 17]
def r128_3:List AI:=[oM 20 6,
 oM 4 20]
abbrev b128:AC:=(.seq (.reg 0 r128_0) (.seq (.reg 1 r128_1) (.seq (.reg 2 r128_2) (.seq (.reg 3 r128_3) .ret))))
def pf128:AF:={ nt:=21,res:=[.tmp 4],body:=b128 }
abbrev H128 (d:Nat)(st0:St)(kp:Key)(vp:Nat)(Q:AE→Sl→St→Prop)(K:Bool→Sc→Prop):Prop:=∀(σ:Sl)(st:St)(res0:Bool)(b_:Sc),σ 4 = .b res0→lk st.bx kp = some (vp,[.s b_.left])→Fr d kp st0.bx st0.ow st.bx st.ow→K res0 b_→Q .ret σ st
def T128_0 (prog:Prog)(K:Bool→Sc→Prop)(what1:List UInt8)(mP:Sc):Prop:=
  ∃r'1:List UInt8,∃r'2:Bool,Pus prog 36 [.s mP.left,.s what1] (.tup [.s r'1,.b r'2])∧K r'2 (Sc.mk r'1)
section
variable {prog:Prog}{d:Nat}{Q:AE→Sl→St→Prop}{K:Bool→Sc→Prop}{st0:St}{kp:Key}{vp:Nat}(hQ:H128 d st0 kp vp Q K)(hkp:kp.1 < d){σ:Sl}{st:St}
include hQ hkp
theorem w128_0 {what1:List UInt8}{mP:Sc}(H0:σ 0 = .p kp vp 0)(H1:σ 1 = .s what1)(BP:lk st.bx kp = some (vp,[.s mP.left]))(FR:Fr d kp st0.bx st0.ow st.bx st.ow)(h:T128_0 prog K what1 mP):W prog d (.seq (.reg 0 r128_0) (.seq (.reg 1 r128_1) (.seq (.reg 2 r128_2) (.seq (.reg 3 r128_3) .ret)))) σ st Q:=
 q_ rfl (m_ (e_ (q_ rfl (m_ (s_nilP H0 (f_ rfl (l_ rfl BP rfl rfl (m_ (h.elim fun r'1 e'4=>e'4.elim fun r'2 e'3=>ca_ (sc rfl rfl (sc H1 rfl sn)) e'3.1 (m_ (x_ rfl rfl (x_ rfl rfl (m_ (m_ (e_ (q_ rfl (m_ (m_ (s_nilP H0 (f_ rfl (so_ rfl BP rfl rfl rfl (e_ (q_ rfl (m_ (m_ (e_ (rt_ (hQ _ _ _ _ rfl lk_here (Fr.own FR) e'3.2))))))))))))))))))))))))))))
end
theorem p128 {prog:Prog}(hf:prog.fn 128 = some pf128){what1:List UInt8}{mP:Sc}{K:Bool→Sc→Prop}(h:T128_0 prog K what1 mP):PuXK prog 128 (Bx [.s mP.left]) [.s what1] (fun r (b_:Sc)=>∃res0:Bool,(r = .b res0)∧K res0 b_) (fun b_=>(Bx [.s b_.left])):=
  PuXK.of hf rfl (fun _=>Bx.out) fun d st kp vp hkp hB=>w128_0 (st0:=st) (Q:=fun e σ st'=>(e = .normal∨e = .ret)∧∃r b_,ares σ st' pf128.res = some r∧_∧_∧Fr d kp st.bx st.ow st'.bx st'.ow) (fun σ st'   res0 b_ H4 hb hf hk=>⟨.inr rfl,.b res0,b_,by simp only [pf128,ares,aresL,H4,ares1,Option.map_some,H4],⟨res0,rfl,hk⟩,hb,hf⟩) hkp (σ:=sl0 [.p kp vp 0,.s what1]) rfl rfl hB Fr.refl h
def r129_0:List AI:=[oO 8 (.alloc [.i .u8 0,.i .i64 0,.s [],.sl .full [],.b false]),
 oC 9 (.b false)]
def r129_1:List AI:=[oM 13 1,
 oO 14 (.build [.i .u8 0,.i .i64 0,.s [],.sl .full [],.b false] [(0,1,(.t 13))]),
 oO 10 (.alloc [.i .u8 0,.i .i64 0,.s [],.sl .full [],.b false]),
 oS 5 10 14]
def r129_2:List AI:=[oM 15 0,
 oM 16 2,
 oO 17 (.call true 128 [(.t 15),(.t 16)])]
def r129_3:List AI:=[oO 18 (.load 5 true (.t 10)),
 oS 5 8 18,
 oC 9 (.b true)]
def r129_4:List AI:=[oF 19 3 10,
 oL 20 19,
 oO 21 (.len false (.t 20)),
 oB 22 .leq (.t 21) (.c (.i .i64 16))]
def r129_5:List AI:=[oM 24 0,
 oM 25 3,
 oO 26 (.call true 107 [(.t 24),(.t 25)]),
 oM 23 26,
 oE 27 0 23,
 oE 28 1 23,
 oO 11 (.alloc [.i .u8 0,.i .i64 0,.s [],.sl .full [],.b false]),
 oS 5 11 27,
 oM 12 28]
def r129_6:List AI:=[oM 29 12,
 oO 30 (.un .not (.t 29))]
def r129_7:List AI:=[oO 31 (.load 5 true (.t 10)),
 oS 5 8 31,
 oC 9 (.b false)]
def r129_8:List AI:=[oF 32 3 10,
 oL 33 32,
 oO 34 (.load 5 true (.t 11)),
 oO 35 (.bslice [.i .u8 0,.i .i64 0,.s [],.sl .full [],.b false] 1 [(0,(.t 34))]),
 oO 36 (.app 5 64 (.t 33) (.t 35)),
 oF 37 3 10,
 oS 1 37 36]
def r129_9:List AI:=[oM 38 0,
 oM 39 2,
 oO 40 (.call true 128 [(.t 38),(.t 39)])]
def r129_10:List AI:=[oO 41 (.load 5 true (.t 10)),
 oS 5 8 41,
 oC 9 (.b true)]
def r129_11:List AI:=[oM 42 0,
 oO 43 (.call true 128 [(.t 42),(.c (.s [44,32]))]),
 oO 44 (.un .not (.t 43))]
def r129_12:List AI:=[oO 45 (.load 5 true (.t 10)),
 oS 5 8 45,
 oC 9 (.b false)]
def r129_13:List AI:=[oO 46 (.load 5 true (.t 10)),
 oS 5 8 46,
 oC 9 (.b false)]
abbrev l129_0:AC:=(.seq (.seq (.reg 4 r129_4) (.cond (.t 22) .skip (.exit 0))) (.block 1 (.seq (.reg 5 r129_5) (.seq (.seq (.reg 6 r129_6) (.cond (.t 30) (.seq (.reg 7 r129_7) .ret) .skip)) (.seq (.reg 8 r129_8) (.seq (.seq (.reg 9 r129_9) (.cond (.t 40) (.seq (.reg 10 r129_10) .ret) .skip)) (.seq (.reg 11 r129_11) (.cond (.t 44) (.seq (.reg 12 r129_12) .ret) .skip))))))))
abbrev c129_1:AC:=(.seq (.reg 13 r129_13) .ret)
abbrev b129:AC:=(.seq (.reg 0 r129_0) (.seq (.reg 1 r129_1) (.seq (.seq (.reg 2 r129_2) (.cond (.t 17) (.seq (.reg 3 r129_3) .ret) .skip)) (.seq (.block 0 (.loop l129_0)) c129_1))))
def pf129:AF:={ nt:=47,res:=[.cell 8 5 true,.tmp 9],body:=b129 }
abbrev H129 (d:Nat)(st0:St)(kp:Key)(vp:Nat)(Q:AE→Sl→St→Prop)(K:Val→Bool→Sc→Prop):Prop:=∀(σ:Sl)(st:St)(k0:Key)(v0:Nat)(o0_0:Own)(res0:Val)(res1:Bool)(b_:Sc),σ 8 = .p k0 v0 0→lk st.bx k0 = some (v0,[.i .u8 res0.kind,.i .i64 res0.int,.s res0.text,.sl o0_0 (List.map Val.row res0.list),.b res0.cut])→σ 9 = .b res1→lk st.bx kp = some (vp,[.s b_.left])→Fr d kp st0.bx st0.ow st.bx st.ow→K res0 res1 b_→Q .ret σ st
abbrev I129_0 (prog:Prog)(d:Nat)(Q:AE→Sl→St→Prop)(st0:St)(kp:Key)(vp:Nat)(end2:List UInt8)(nest3:Int)(m0:Val)(m4098:Val)(mP:Sc):Prop:=
  ∀(σ:Sl)(st:St) (o_m0_3 o_m4098_3:Own) (v0 v4098:Nat),σ 0 = .p kp vp 0→σ 2 = .s end2→σ 3 = .i .i64 nest3→σ 8 = .p (d,0) v0 0→σ 10 = .p (d,4098) v4098 0→ApM d st.ow o_m4098_3 m4098.list.length→lk st.bx (d,0) = some (v0,[.i .u8 m0.kind,.i .i64 m0.int,.s m0.text,.sl o_m0_3 (List.map Val.row m0.list),.b m0.cut])→lk st.bx (d,4098) = some (v4098,[.i .u8 m4098.kind,.i .i64 m4098.int,.s m4098.text,.sl o_m4098_3 (List.map Val.row m4098.list),.b m4098.cut])→lk st.bx kp = some (vp,[.s mP.left])→Fr d kp st0.bx st0.ow st.bx st.ow→W prog d (.loop l129_0) σ st (blockW 0 (thenW prog d c129_1 Q))
def T129_2 (prog:Prog)(K:Val→Bool→Sc→Prop)(m0:Val)(m4098:Val)(mP:Sc):Prop:=
  K m4098 false mP
def T129_1 (prog:Prog)(K:Val→Bool→Sc→Prop)(P0:Val→Val→Sc→Prop)(end2:List UInt8)(nest3:Int)(m0:Val)(m4098:Val)(mP:Sc):Prop:=
  ((m4098.list.length:Int)≤16→∃r'2:Val,∃r'3:Bool,∃b'9:Sc,PuX prog 107 (Bx [.s mP.left]) [.i .i64 nest3] (fun r=>∃o'4_0:Own,r = .tup [r'2.avo o'4_0,.b r'3]) ((Bx [.s b'9.left]))∧((!r'3) = true→K m4098 false b'9)∧((!r'3) = false→Fit (m4098.list.length + [r'2].length) 64∧∃r'16:Bool,∃b'22:Sc,PuX prog 128 (Bx [.s b'9.left]) [.s end2] (fun r=>r = .b r'16) ((Bx [.s b'22.left]))∧(r'16 = true→K (Val.mk m4098.kind m4098.int m4098.text (m4098.list ++ [r'2]) m4098.cut) true b'22)∧(r'16 = false→∃r'24:Bool,∃b'30:Sc,PuX prog 128 (Bx [.s b'22.left]) [.s ([44,32]:List UInt8)] (fun r=>r = .b r'24) ((Bx [.s b'30.left]))∧((!r'24) = true→K (Val.mk m4098.kind m4098.int m4098.text (m4098.list ++ [r'2]) m4098.cut) false b'30)∧((!r'24) = false→P0 m0 (Val.mk m4098.kind m4098.int m4098.text (m4098.list ++ [r'2]) m4098.cut) b'30))))∧(¬((m4098.list.length:Int)≤16)→T129_2 prog K m0 m4098 mP)
def T129_0 (prog:Prog)(K:Val→Bool→Sc→Prop)(kind1:Int)(end2:List UInt8)(nest3:Int)(mP:Sc):Prop:=
  ∃r'1:Bool,∃b'7:Sc,PuX prog 128 (Bx [.s mP.left]) [.s end2] (fun r=>r = .b r'1) ((Bx [.s b'7.left]))∧(r'1 = true→K (Val.mk kind1 0 [] ([]:List Val) false) true b'7)∧(r'1 = false→∀P0:Val→Val→Sc→Prop,(∀(m0:Val)(m4098:Val)(mP:Sc),T129_1 prog K P0 end2 nest3 m0 m4098 mP→P0 m0 m4098 mP)→P0 (Val.mk 0 0 [] ([]:List Val) false) (Val.mk kind1 0 [] ([]:List Val) false) b'7)
section
variable {prog:Prog}{d:Nat}{Q:AE→Sl→St→Prop}{K:Val→Bool→Sc→Prop}{st0:St}{kp:Key}{vp:Nat}(hQ:H129 d st0 kp vp Q K)(hkp:kp.1 < d){σ:Sl}{st:St}
include hQ hkp
theorem w129_2 {m0 m4098:Val}{mP:Sc}{o_m0_3 o_m4098_3:Own}{v0:Nat}{v4098:Nat}(H8:σ 8 = .p (d,0) v0 0)(H10:σ 10 = .p (d,4098) v4098 0)(Ab4098:ApM d st.ow o_m4098_3 m4098.list.length)(B0:lk st.bx (d,0) = some (v0,[.i .u8 m0.kind,.i .i64 m0.int,.s m0.text,.sl o_m0_3 (List.map Val.row m0.list),.b m0.cut]))(B4098:lk st.bx (d,4098) = some (v4098,[.i .u8 m4098.kind,.i .i64 m4098.int,.s m4098.text,.sl o_m4098_3 (List.map Val.row m4098.list),.b m4098.cut]))(BP:lk st.bx kp = some (vp,[.s mP.left]))(FR:Fr d kp st0.bx st0.ow st.bx st.ow)(h:T129_2 prog K m0 m4098 mP):W prog d c129_1 σ st Q:=
 q_ rfl (l_ H10 B4098 rfl rfl (so_ H8 B0 rfl rfl rfl (m_ (e_ (rt_ (hQ _ _ _ _ _ _ _ _ H8 lk_here rfl (lk_otherP hkp BP) (Fr.box FR) h))))))
theorem w129_1 {end2:List UInt8}{nest3:Int}{m0 m4098:Val}{mP:Sc}{P0:Val→Val→Sc→Prop} (kP0 :∀(m0:Val)(m4098:Val)(mP:Sc),P0 m0 m4098 mP→I129_0 prog d Q st0 kp vp end2 nest3 m0 m4098 mP){o_m0_3 o_m4098_3:Own}{v0:Nat}{v4098:Nat}(H0:σ 0 = .p kp vp 0)(H2:σ 2 = .s end2)(H3:σ 3 = .i .i64 nest3)(H8:σ 8 = .p (d,0) v0 0)(H10:σ 10 = .p (d,4098) v4098 0)(Ab4098:ApM d st.ow o_m4098_3 m4098.list.length)(B0:lk st.bx (d,0) = some (v0,[.i .u8 m0.kind,.i .i64 m0.int,.s m0.text,.sl o_m0_3 (List.map Val.row m0.list),.b m0.cut]))(B4098:lk st.bx (d,4098) = some (v4098,[.i .u8 m4098.kind,.i .i64 m4098.int,.s m4098.text,.sl o_m4098_3 (List.map Val.row m4098.list),.b m4098.cut]))(BP:lk st.bx kp = some (vp,[.s mP.left]))(FR:Fr d kp st0.bx st0.ow st.bx st.ow)(h:T129_1 prog K P0 end2 nest3 m0 m4098 mP):W prog d l129_0 σ st (thenW prog d (.loop l129_0) (blockW 0 (thenW prog d c129_1 Q))):=
 sq_ (q_ rfl (f_ H10 (l_ rfl B4098 rfl rfl (ll_ rfl (b_ rfl rfl leq_ (e_ (cs_ rfl (fun g'1=>sk_ (bk_ (sq_ (W.reg (m_ (m_ ((h.1 g'1).elim fun r'2 e'34=>e'34.elim fun r'3 e'35=>e'35.elim fun b'9 e'5=>s_callX1 (sec H0 (sec H3 sen)) e'5.1 (Nat.lt_succ_of_lt hkp) (lk_otherP hkp BP) (fun o'4_0 st'6 hb'7 hf'8=>m_ (x_ rfl rfl (x_ rfl rfl (s_alloc (so_ rfl ((hf'8.1 (d,20486) (Nat.lt_succ_self d) (key_LP hkp)).trans (show lk _ (d,20486) = some (_,([.i .u8 0,.i .i64 0,.s [],.sl .full (List.map Val.row ([]:List Val)),.b false]:List AV)) from lk_here)) rfl rfl rfl (m_ (e_ (sq_ (q_ rfl (m_ (nt_ rfl (e_ (cb_ rfl (fun g'10=>q_ rfl (l_ H10 (lk_other rfl ((hf'8.1 (d,4098) (Nat.lt_succ_self d) (key_LP hkp)).trans (lk_other rfl B4098))) rfl rfl (so_ H8 (lk_other rfl ((hf'8.1 (d,0) (Nat.lt_succ_self d) (key_LP hkp)).trans (lk_other rfl B0))) rfl rfl rfl (m_ (e_ (rt_ (hQ _ _ _ _ _ _ _ _ H8 lk_here rfl (lk_otherP hkp (lk_otherP hkp hb'7)) (Fr.box (Fr.box (Fr.pass (Fr.box FR) hf'8))) (e'5.2.1 g'10)))))))) (fun g'10=>sk_ (q_ rfl (f_ H10 (l_ rfl (lk_other rfl ((hf'8.1 (d,4098) (Nat.lt_succ_self d) (key_LP hkp)).trans (lk_other rfl B4098))) rfl rfl (l_ rfl lk_here rfl rfl (s_bslM (f:=Val.row) (l:=[r'2]) rfl rfl (g_cons rfl rfl rfl g_nil) (by simp only [List.map_cons,List.map_nil,Val.row_eq]; rfl) (s_app Val.row_len rfl rfl rfl ((ApM.call Ab4098 hf'8).1) (e'5.2.2 g'10).1 rfl (fun o'11 ow'14 a'12 fr'13 on'15=>f_ H10 (so_ rfl (lk_other rfl ((hf'8.1 (d,4098) (Nat.lt_succ_self d) (key_LP hkp)).trans (lk_other rfl B4098))) rfl rfl rfl (e_ (sq_ (q_ rfl (m_ (m_ ((e'5.2.2 g'10).2.elim fun r'16 e'33=>e'33.elim fun b'22 e'18=>cX_ (sec H0 (sec H2 sen)) e'18.1 (Nat.lt_succ_of_lt hkp) (lk_otherP hkp (lk_otherP hkp hb'7)) (fun st'19 hb'20 hf'21=>e_ (cb_ rfl (fun g'23=>q_ rfl (l_ H10 ((hf'21.1 (d,4098) (Nat.lt_succ_self d) (key_LP hkp)).trans lk_here) rfl rfl (so_ H8 ((hf'21.1 (d,0) (Nat.lt_succ_self d) (key_LP hkp)).trans (lk_other rfl (lk_other rfl ((hf'8.1 (d,0) (Nat.lt_succ_self d) (key_LP hkp)).trans (lk_other rfl B0))))) rfl rfl rfl (m_ (e_ (rt_ (hQ _ _ _ _ _ _ _ _ H8 lk_here rfl (lk_otherP hkp hb'20) (Fr.box (Fr.pass (Fr.box (Fr.app (Fr.box (Fr.pass (Fr.box FR) hf'8)) (ApM.call Ab4098 hf'8).2 fr'13)) hf'21)) (e'18.2.1 g'23)))))))) (fun g'23=>sk_ (q_ rfl (m_ ((e'18.2.2 g'23).elim fun r'24 e'32=>e'32.elim fun b'30 e'26=>cX_ (sec H0 (sec rfl sen)) e'26.1 (Nat.lt_succ_of_lt hkp) hb'20 (fun st'27 hb'28 hf'29=>nt_ rfl (e_ (cb_ rfl (fun g'31=>q_ rfl (l_ H10 ((hf'29.1 (d,4098) (Nat.lt_succ_self d) (key_LP hkp)).trans ((hf'21.1 (d,4098) (Nat.lt_succ_self d) (key_LP hkp)).trans lk_here)) rfl rfl (so_ H8 ((hf'29.1 (d,0) (Nat.lt_succ_self d) (key_LP hkp)).trans ((hf'21.1 (d,0) (Nat.lt_succ_self d) (key_LP hkp)).trans (lk_other rfl (lk_other rfl ((hf'8.1 (d,0) (Nat.lt_succ_self d) (key_LP hkp)).trans (lk_other rfl B0)))))) rfl rfl rfl (m_ (e_ (rt_ (hQ _ _ _ _ _ _ _ _ H8 lk_here rfl (lk_otherP hkp hb'28) (Fr.box (Fr.pass (Fr.pass (Fr.box (Fr.app (Fr.box (Fr.pass (Fr.box FR) hf'8)) (ApM.call Ab4098 hf'8).2 fr'13)) hf'21) hf'29)) (e'26.2.1 g'31)))))))) (fun g'31=>sk_ (kP0 _ _ _ (e'26.2.2 g'31) _ _ _ _ _ _ H0 H2 H3 H8 H10 (ApM.call (ApM.call (ApM.mk a'12 (Mine.app (ApM.call Ab4098 hf'8).2 rfl on'15)) hf'21) hf'29) ((hf'29.1 (d,0) (Nat.lt_succ_self d) (key_LP hkp)).trans ((hf'21.1 (d,0) (Nat.lt_succ_self d) (key_LP hkp)).trans (lk_other rfl (lk_other rfl ((hf'8.1 (d,0) (Nat.lt_succ_self d) (key_LP hkp)).trans (lk_other rfl B0)))))) ((hf'29.1 (d,4098) (Nat.lt_succ_self d) (key_LP hkp)).trans ((hf'21.1 (d,4098) (Nat.lt_succ_self d) (key_LP hkp)).trans lk_here)) hb'28 (Fr.pass (Fr.pass (Fr.box (Fr.app (Fr.box (Fr.pass (Fr.box FR) hf'8)) (ApM.call Ab4098 hf'8).2 fr'13)) hf'21) hf'29))))))))))))))))))))))))))))))))))))))))))))))) (fun g'1=>ex_ (w129_2 hQ hkp H8 H10 Ab4098 B0 B4098 BP FR (h.2 g'1))))))))))
theorem w129_0 {kind1:Int}{end2:List UInt8}{nest3:Int}{mP:Sc}(H0:σ 0 = .p kp vp 0)(H1:σ 1 = .i .u8 kind1)(H2:σ 2 = .s end2)(H3:σ 3 = .i .i64 nest3)(BP:lk st.bx kp = some (vp,[.s mP.left]))(FR:Fr d kp st0.bx st0.ow st.bx st.ow)(h:T129_0 prog K kind1 end2 nest3 mP):W prog d (.seq (.reg 0 r129_0) (.seq (.reg 1 r129_1) (.seq (.seq (.reg 2 r129_2) (.cond (.t 17) (.seq (.reg 3 r129_3) .ret) .skip)) (.seq (.block 0 (.loop l129_0)) c129_1)))) σ st Q:=
 sq_ (W.reg (s_alloc (m_ (e_ (sq_ (W.reg (m_ (s_build (f_cons H1 rfl f_nil) (s_alloc (so_ rfl (show lk _ (d,4098) = some (_,([.i .u8 0,.i .i64 0,.s [],.sl .full (List.map Val.row ([]:List Val)),.b false]:List AV)) from lk_here) rfl rfl rfl (e_ (sq_ (q_ rfl (m_ (m_ (h.elim fun r'1 e'9=>e'9.elim fun b'7 e'3=>cX_ (sec H0 (sec H2 sen)) e'3.1 (Nat.lt_succ_of_lt hkp) (lk_otherP hkp (lk_otherP hkp (lk_otherP hkp BP))) (fun st'4 hb'5 hf'6=>e_ (cb_ rfl (fun g'8=>q_ rfl (l_ rfl ((hf'6.1 (d,4098) (Nat.lt_succ_self d) (key_LP hkp)).trans lk_here) rfl rfl (so_ rfl ((hf'6.1 (d,0) (Nat.lt_succ_self d) (key_LP hkp)).trans (lk_other rfl (lk_other rfl (show lk _ (d,0) = some (_,([.i .u8 0,.i .i64 0,.s [],.sl .full (List.map Val.row ([]:List Val)),.b false]:List AV)) from lk_here)))) rfl rfl rfl (m_ (e_ (rt_ (hQ _ _ _ _ _ _ _ _ rfl lk_here rfl (lk_otherP hkp hb'5) (Fr.box (Fr.pass (Fr.box (Fr.box (Fr.box FR))) hf'6)) (e'3.2.1 g'8)))))))) (fun g'8=>sk_ (sq_ (bk_ ((e'3.2.2 g'8) (I129_0 prog d Q st0 kp vp end2 nest3) (fun _ _ _ hb _ _ _ _ _ _ H0 H2 H3 H8 H10 Ab4098 B0 B4098 BP FR=>W.loop (w129_1 hQ hkp (fun _ _ _ x=>x) H0 H2 H3 H8 H10 Ab4098 B0 B4098 BP FR hb)) _ _ _ _ _ _ H0 H2 H3 rfl rfl ApM.full ((hf'6.1 (d,0) (Nat.lt_succ_self d) (key_LP hkp)).trans (lk_other rfl (lk_other rfl (show lk _ (d,0) = some (_,([.i .u8 0,.i .i64 0,.s [],.sl .full (List.map Val.row ([]:List Val)),.b false]:List AV)) from lk_here)))) ((hf'6.1 (d,4098) (Nat.lt_succ_self d) (key_LP hkp)).trans lk_here) hb'5 (Fr.pass (Fr.box (Fr.box (Fr.box FR))) hf'6)))))))))))))))))))))))
end
theorem p129 {prog:Prog}(hf:prog.fn 129 = some pf129){kind1:Int}{end2:List UInt8}{nest3:Int}{mP:Sc}{K:Val→Bool→Sc→Prop}(h:T129_0 prog K kind1 end2 nest3 mP):PuXK prog 129 (Bx [.s mP.left]) [.i .u8 kind1,.s end2,.i .i64 nest3] (fun r (b_:Sc)=>∃res0:Val,∃res1:Bool,(∃o_0:Own,r = .tup [res0.avo o_0,.b res1])∧K res0 res1 b_) (fun b_=>(Bx [.s b_.left])):=
  PuXK.of hf rfl (fun _=>Bx.out) fun d st kp vp hkp hB=>w129_0 (st0:=st) (Q:=fun e σ st'=>(e = .normal∨e = .ret)∧∃r b_,ares σ st' pf129.res = some r∧_∧_∧Fr d kp st.bx st.ow st'.bx st'.ow) (fun σ st' k0 v0 o_0 res0 res1 b_ H8 HB8 H9 hb hf hk=>⟨.inr rfl,.tup [res0.avo o_0,.b res1],b_,by simp only [pf129,ares,aresL,ares_cellA (n:=5) H8 HB8 rfl,H9,ares_tmp,Option.map_some,ares_cellA (n:=5) H8 HB8 rfl,H9],⟨res0,res1,⟨o_0,rfl⟩,hk⟩,hb,hf⟩) hkp (σ:=sl0 [.p kp vp 0,.i .u8 kind1,.s end2,.i .i64 nest3]) rfl rfl rfl rfl hB Fr.refl h
def r107_0:List AI:=[oO 4 (.alloc [.i .u8 0,.i .i64 0,.s [],.sl .full [],.b false]),
 oC 5 (.b false)]
def r107_1:List AI:=[oM 12 1,
 oB 13 .eql (.t 12) (.c (.i .i64 0)),
 oM 14 13,
 oG 15 (.mv (.t 0)) 14 false,
 oG 16 (.nilc (.t 15)) 14 false,
 oG 17 (.fad 0 (.t 16)) 14 false,
 oG 18 (.load 1 false (.t 17)) 14 false,
 oG 19 (.bin .eql (.t 18) (.c (.s []))) 14 false,
 oO 20 (.pick (.t 14) (.c (.b true)) (.t 19))]
def r107_2:List AI:=[oO 21 (.build [.i .u8 0,.i .i64 0,.s [],.sl .full [],.b false] []),
 oS 5 4 21,
 oC 5 (.b false)]
def r107_3:List AI:=[oM 23 0,
 oO 24 (.call true 128 [(.t 23),(.c (.s [116,114,117,101]))]),
 oM 22 24]
def r107_4:List AI:=[oO 25 (.build [.i .u8 0,.i .i64 0,.s [],.sl .full [],.b false] [(0,1,(.c (.i .u8 1))),(1,1,(.c (.i .i64 1)))]),
 oS 5 4 25,
 oC 5 (.b true)]
def r107_5:List AI:=[oM 27 0,
 oO 28 (.call true 128 [(.t 27),(.c (.s [102,97,108,115,101]))]),
 oM 26 28]
def r107_6:List AI:=[oO 29 (.build [.i .u8 0,.i .i64 0,.s [],.sl .full [],.b false] [(0,1,(.c (.i .u8 1)))]),
 oS 5 4 29,
 oC 5 (.b true)]
def r107_7:List AI:=[oM 31 0,
 oO 32 (.call true 128 [(.t 31),(.c (.s [110,105,108]))]),
 oM 30 32]
def r107_8:List AI:=[oO 33 (.build [.i .u8 0,.i .i64 0,.s [],.sl .full [],.b false] [(0,1,(.c (.i .u8 4)))]),
 oS 5 4 33,
 oC 5 (.b true)]
def r107_9:List AI:=[oM 35 0,
 oO 36 (.call true 128 [(.t 35),(.c (.s [38,46,46,46]))]),
 oM 34 36]
def r107_10:List AI:=[oO 37 (.build [.i .u8 0,.i .i64 0,.s [],.sl .full [],.b false] [(0,1,(.c (.i .u8 4))),(4,1,(.c (.b true)))]),
 oS 5 4 37,
 oC 5 (.b true)]
def r107_11:List AI:=[oM 39 0,
 oO 40 (.call true 128 [(.t 39),(.c (.s [60,46,46,46,62]))]),
 oM 38 40]
def r107_12:List AI:=[oO 41 (.build [.i .u8 0,.i .i64 0,.s [],.sl .full [],.b false] [(0,1,(.c (.i .u8 7))),(4,1,(.c (.b true)))]),
 oS 5 4 41,
 oC 5 (.b true)]
def r107_13:List AI:=[oM 43 0,
 oO 44 (.call true 128 [(.t 43),(.c (.s [38]))]),
 oM 42 44]
def r107_14:List AI:=[oM 46 0,
 oM 47 1,
 oB 48 .sub (.t 47) (.c (.i .i64 1)),
 oO 49 (.call true 107 [(.t 46),(.t 48)]),
 oM 45 49,
 oE 50 0 45,
 oE 51 1 45,
 oO 6 (.alloc [.i .u8 0,.i .i64 0,.s [],.sl .full [],.b false]),
 oS 5 6 50,
 oM 7 51]
def r107_15:List AI:=[oO 52 (.load 5 true (.t 6)),
 oO 53 (.bslice [.i .u8 0,.i .i64 0,.s [],.sl .full [],.b false] 1 [(0,(.t 52))]),
 oO 54 (.build [.i .u8 0,.i .i64 0,.s [],.sl .full [],.b false] [(0,1,(.c (.i .u8 4))),(3,1,(.t 53))]),
 oM 55 7,
 oS 5 4 54,
 oM 5 55]
def r107_16:List AI:=[oM 57 0,
 oO 58 (.call true 128 [(.t 57),(.c (.s [123]))]),
 oM 56 58]
def r107_17:List AI:=[oM 59 0,
 oM 60 1,
 oB 61 .sub (.t 60) (.c (.i .i64 1)),
 oO 62 (.call true 129 [(.t 59),(.c (.i .u8 5)),(.c (.s [125])),(.t 61)]),
 oE 63 0 62,
 oE 64 1 62,
 oS 5 4 63,
 oM 5 64]
def r107_18:List AI:=[oM 66 0,
 oO 67 (.call true 128 [(.t 66),(.c (.s [91]))]),
 oM 65 67]
def r107_19:List AI:=[oM 68 0,
 oM 69 1,
 oB 70 .sub (.t 69) (.c (.i .i64 1)),
 oO 71 (.call true 129 [(.t 68),(.c (.i .u8 6)),(.c (.s [93])),(.t 70)]),
 oE 72 0 71,
 oE 73 1 71,
 oS 5 4 72,
 oM 5 73]
def r107_20:List AI:=[oM 75 0,
 oO 76 (.call true 128 [(.t 75),(.c (.s [60]))]),
 oM 74 76]
def r107_21:List AI:=[oM 77 0,
 oM 78 1,
 oB 79 .sub (.t 78) (.c (.i .i64 1)),
 oO 80 (.call true 129 [(.t 77),(.c (.i .u8 7)),(.c (.s [62])),(.t 79)]),
 oE 81 0 80,
 oE 82 1 80,
 oS 5 4 81,
 oM 5 82]
def r107_22:List AI:=[oM 84 0,
 oN 85 84,
 oF 86 0 85,
 oL 87 86,
 oO 88 (.ixS (.t 87) (.c (.i .i64 0))),
 oB 89 .eql (.t 88) (.c (.i .u8 34)),
 oM 83 89]
def r107_23:List AI:=[oM 91 0,
 oO 92 (.call true 130 [(.t 91)]),
 oM 90 92,
 oE 93 0 90,
 oE 94 1 90,
 oM 8 93,
 oM 9 94]
def r107_24:List AI:=[oM 95 8,
 oO 96 (.build [.i .u8 0,.i .i64 0,.s [],.sl .full [],.b false] [(0,1,(.c (.i .u8 3))),(2,1,(.t 95))]),
 oM 97 9,
 oS 5 4 96,
 oM 5 97]
def r107_25:List AI:=[oM 99 0,
 oO 100 (.call true 131 [(.t 99)]),
 oM 98 100,
 oE 101 0 98,
 oE 102 1 98,
 oM 10 101,
 oM 11 102]
def r107_26:List AI:=[oM 103 10,
 oO 104 (.build [.i .u8 0,.i .i64 0,.s [],.sl .full [],.b false] [(0,1,(.c (.i .u8 2))),(1,1,(.t 103))]),
 oM 105 11,
 oS 5 4 104,
 oM 5 105]
abbrev c107_0:AC:=(.cond (.t 42) (.seq (.reg 14 r107_14) (.seq (.reg 15 r107_15) .ret)) (.seq (.reg 16 r107_16) (.cond (.t 56) (.seq (.reg 17 r107_17) .ret) (.seq (.reg 18 r107_18) (.cond (.t 65) (.seq (.reg 19 r107_19) .ret) (.seq (.reg 20 r107_20) (.cond (.t 74) (.seq (.reg 21 r107_21) .ret) (.seq (.reg 22 r107_22) (.cond (.t 83) (.seq (.reg 23 r107_23) (.seq (.reg 24 r107_24) .ret)) .skip)))))))))
abbrev c107_1:AC:=(.cond (.t 38) (.seq (.reg 12 r107_12) .ret) (.seq (.reg 13 r107_13) c107_0))
abbrev c107_2:AC:=(.cond (.t 34) (.seq (.reg 10 r107_10) .ret) (.seq (.reg 11 r107_11) c107_1))
abbrev c107_3:AC:=(.cond (.t 30) (.seq (.reg 8 r107_8) .ret) (.seq (.reg 9 r107_9) c107_2))
abbrev c107_4:AC:=(.cond (.t 26) (.seq (.reg 6 r107_6) .ret) (.seq (.reg 7 r107_7) c107_3))
abbrev c107_5:AC:=(.cond (.t 22) (.seq (.reg 4 r107_4) .ret) (.seq (.reg 5 r107_5) c107_4))
abbrev c107_6:AC:=(.seq (.block 0 (.seq (.reg 3 r107_3) c107_5)) (.seq (.reg 25 r107_25) (.seq (.reg 26 r107_26) .ret)))
abbrev c107_7:AC:=(.seq (.seq (.reg 1 r107_1) (.cond (.t 20) (.seq (.reg 2 r107_2) .ret) .skip)) c107_6)
abbrev b107:AC:=(.seq (.reg 0 r107_0) c107_7)
def pf107:AF:={ nt:=106,res:=[.cell 4 5 true,.tmp 5],body:=b107 }
abbrev H107 (d:Nat)(st0:St)(kp:Key)(vp:Nat)(Q:AE→Sl→St→Prop)(K:Val→Bool→Sc→Prop):Prop:=∀(σ:Sl)(st:St)(k0:Key)(v0:Nat)(o0_0:Own)(res0:Val)(res1:Bool)(b_:Sc),σ 4 = .p k0 v0 0→lk st.bx k0 = some (v0,[.i .u8 res0.kind,.i .i64 res0.int,.s res0.text,.sl o0_0 (List.map Val.row res0.list),.b res0.cut])→σ 5 = .b res1→lk st.bx kp = some (vp,[.s b_.left])→Fr d kp st0.bx st0.ow st.bx st.ow→K res0 res1 b_→Q .ret σ st
def T107_8 (prog:Prog)(K:Val→Bool→Sc→Prop)(nest1:Int)(t42:Bool)(m0:Val)(mP:Sc):Prop:=
  (t42 = true→∃r'2:Val,∃r'3:Bool,∃b'9:Sc,PuX prog 107 (Bx [.s mP.left]) [.i .i64 (IntKind.i64.wrap (nest1 - 1))] (fun r=>∃o'4_0:Own,r = .tup [r'2.avo o'4_0,.b r'3]) ((Bx [.s b'9.left]))∧K (Val.mk 4 0 [] [r'2] false) r'3 b'9)∧(t42 = false→∃r'12:Bool,∃b'18:Sc,PuX prog 128 (Bx [.s mP.left]) [.s ([123]:List UInt8)] (fun r=>r = .b r'12) ((Bx [.s b'18.left]))∧(r'12 = true→∃r'20:Val,∃r'21:Bool,∃b'27:Sc,PuX prog 129 (Bx [.s b'18.left]) [.i .u8 5,.s ([125]:List UInt8),.i .i64 (IntKind.i64.wrap (nest1 - 1))] (fun r=>∃o'22_0:Own,r = .tup [r'20.avo o'22_0,.b r'21]) ((Bx [.s b'27.left]))∧K r'20 r'21 b'27)∧(r'12 = false→∃r'30:Bool,∃b'36:Sc,PuX prog 128 (Bx [.s b'18.left]) [.s ([91]:List UInt8)] (fun r=>r = .b r'30) ((Bx [.s b'36.left]))∧(r'30 = true→∃r'38:Val,∃r'39:Bool,∃b'45:Sc,PuX prog 129 (Bx [.s b'36.left]) [.i .u8 6,.s ([93]:List UInt8),.i .i64 (IntKind.i64.wrap (nest1 - 1))] (fun r=>∃o'40_0:Own,r = .tup [r'38.avo o'40_0,.b r'39]) ((Bx [.s b'45.left]))∧K r'38 r'39 b'45)∧(r'30 = false→∃r'48:Bool,∃b'54:Sc,PuX prog 128 (Bx [.s b'36.left]) [.s ([60]:List UInt8)] (fun r=>r = .b r'48) ((Bx [.s b'54.left]))∧(r'48 = true→∃r'56:Val,∃r'57:Bool,∃b'63:Sc,PuX prog 129 (Bx [.s b'54.left]) [.i .u8 7,.s ([62]:List UInt8),.i .i64 (IntKind.i64.wrap (nest1 - 1))] (fun r=>∃o'58_0:Own,r = .tup [r'56.avo o'58_0,.b r'57]) ((Bx [.s b'63.left]))∧K r'56 r'57 b'63)∧(r'48 = false→∃c'66:UInt8,b'54.left[0]? = some c'66∧((c'66.toNat:Int) = 34→∃r'69:List UInt8,∃r'70:Bool,∃b'76:Sc,PuX prog 130 (Bx [.s b'54.left]) [] (fun r=>r = .tup [.s r'69,.b r'70]) ((Bx [.s b'76.left]))∧K (Val.mk 3 0 r'69 ([]:List Val) false) r'70 b'76)∧(¬((c'66.toNat:Int) = 34)→∃r'79:Int,∃r'80:Bool,∃b'86:Sc,PuX prog 131 (Bx [.s b'54.left]) [] (fun r=>r = .tup [.i .i64 r'79,.b r'80]) ((Bx [.s b'86.left]))∧K (Val.mk 2 r'79 [] ([]:List Val) false) r'80 b'86)))))
def T107_7 (prog:Prog)(K:Val→Bool→Sc→Prop)(nest1:Int)(t38:Bool)(m0:Val)(mP:Sc):Prop:=
  (t38 = true→K (Val.mk 7 0 [] ([]:List Val) true) true mP)∧(t38 = false→∃r'2:Bool,∃b'8:Sc,PuX prog 128 (Bx [.s mP.left]) [.s ([38]:List UInt8)] (fun r=>r = .b r'2) ((Bx [.s b'8.left]))∧T107_8 prog K nest1 r'2 m0 b'8)
def T107_6 (prog:Prog)(K:Val→Bool→Sc→Prop)(nest1:Int)(t34:Bool)(m0:Val)(mP:Sc):Prop:=
  (t34 = true→K (Val.mk 4 0 [] ([]:List Val) true) true mP)∧(t34 = false→∃r'2:Bool,∃b'8:Sc,PuX prog 128 (Bx [.s mP.left]) [.s ([60,46,46,46,62]:List UInt8)] (fun r=>r = .b r'2) ((Bx [.s b'8.left]))∧T107_7 prog K nest1 r'2 m0 b'8)
def T107_5 (prog:Prog)(K:Val→Bool→Sc→Prop)(nest1:Int)(t30:Bool)(m0:Val)(mP:Sc):Prop:=
  (t30 = true→K (Val.mk 4 0 [] ([]:List Val) false) true mP)∧(t30 = false→∃r'2:Bool,∃b'8:Sc,PuX prog 128 (Bx [.s mP.left]) [.s ([38,46,46,46]:List UInt8)] (fun r=>r = .b r'2) ((Bx [.s b'8.left]))∧T107_6 prog K nest1 r'2 m0 b'8)
def T107_4 (prog:Prog)(K:Val→Bool→Sc→Prop)(nest1:Int)(t26:Bool)(m0:Val)(mP:Sc):Prop:=
  (t26 = true→K (Val.mk 1 0 [] ([]:List Val) false) true mP)∧(t26 = false→∃r'2:Bool,∃b'8:Sc,PuX prog 128 (Bx [.s mP.left]) [.s ([110,105,108]:List UInt8)] (fun r=>r = .b r'2) ((Bx [.s b'8.left]))∧T107_5 prog K nest1 r'2 m0 b'8)
def T107_3 (prog:Prog)(K:Val→Bool→Sc→Prop)(nest1:Int)(t22:Bool)(m0:Val)(mP:Sc):Prop:=
  (t22 = true→K (Val.mk 1 1 [] ([]:List Val) false) true mP)∧(t22 = false→∃r'2:Bool,∃b'8:Sc,PuX prog 128 (Bx [.s mP.left]) [.s ([102,97,108,115,101]:List UInt8)] (fun r=>r = .b r'2) ((Bx [.s b'8.left]))∧T107_4 prog K nest1 r'2 m0 b'8)
def T107_2 (prog:Prog)(K:Val→Bool→Sc→Prop)(nest1:Int)(m0:Val)(mP:Sc):Prop:=
  ∃r'1:Bool,∃b'7:Sc,PuX prog 128 (Bx [.s mP.left]) [.s ([116,114,117,101]:List UInt8)] (fun r=>r = .b r'1) ((Bx [.s b'7.left]))∧T107_3 prog K nest1 r'1 m0 b'7
def T107_1 (prog:Prog)(K:Val→Bool→Sc→Prop)(nest1:Int)(m0:Val)(mP:Sc):Prop:=
  (nest1 = 0→K (Val.mk 0 0 [] ([]:List Val) false) false mP)∧(¬(nest1 = 0)→(mP.left = ([]:List UInt8)→K (Val.mk 0 0 [] ([]:List Val) false) false mP)∧(¬(mP.left = ([]:List UInt8))→T107_2 prog K nest1 m0 mP))
def T107_0 (prog:Prog)(K:Val→Bool→Sc→Prop)(nest1:Int)(mP:Sc):Prop:=
  T107_1 prog K nest1 (Val.mk 0 0 [] ([]:List Val) false) mP
section
variable {prog:Prog}{d:Nat}{Q:AE→Sl→St→Prop}{K:Val→Bool→Sc→Prop}{st0:St}{kp:Key}{vp:Nat}(hQ:H107 d st0 kp vp Q K)(hkp:kp.1 < d){σ:Sl}{st:St}
include hQ hkp
theorem w107_8 {nest1:Int}{t42:Bool}{m0:Val}{mP:Sc}{o_m0_3:Own}{v0:Nat}(H0:σ 0 = .p kp vp 0)(H1:σ 1 = .i .i64 nest1)(H4:σ 4 = .p (d,0) v0 0)(H42:σ 42 = .b t42)(B0:lk st.bx (d,0) = some (v0,[.i .u8 m0.kind,.i .i64 m0.int,.s m0.text,.sl o_m0_3 (List.map Val.row m0.list),.b m0.cut]))(BP:lk st.bx kp = some (vp,[.s mP.left]))(FR:Fr d kp st0.bx st0.ow st.bx st.ow)(h:T107_8 prog K nest1 t42 m0 mP):W prog d c107_0 σ st (blockW 0 (thenW prog d (.seq (.reg 25 r107_25) (.seq (.reg 26 r107_26) .ret)) Q)):=
 cb_ H42 (fun g'1=>sq_ (W.reg (m_ (m_ (b_ H1 rfl sub_ ((h.1 g'1).elim fun r'2 e'10=>e'10.elim fun r'3 e'11=>e'11.elim fun b'9 e'5=>s_callX1 (sec H0 (sec rfl sen)) e'5.1 (Nat.lt_succ_of_lt hkp) (lk_otherP hkp BP) (fun o'4_0 st'6 hb'7 hf'8=>m_ (x_ rfl rfl (x_ rfl rfl (s_alloc (so_ rfl ((hf'8.1 (d,57351) (Nat.lt_succ_self d) (key_LP hkp)).trans (show lk _ (d,57351) = some (_,([.i .u8 0,.i .i64 0,.s [],.sl .full (List.map Val.row ([]:List Val)),.b false]:List AV)) from lk_here)) rfl rfl rfl (m_ (e_ (q_ rfl (l_ rfl lk_here rfl rfl (s_bslM (f:=Val.row) (l:=[r'2]) rfl rfl (g_cons rfl rfl rfl g_nil) (by simp only [List.map_cons,List.map_nil,Val.row_eq]; rfl) (s_build (f_cons rfl rfl (f_cons rfl rfl f_nil)) (m_ (so_ H4 (lk_other rfl ((hf'8.1 (d,0) (Nat.lt_succ_self d) (key_LP hkp)).trans (lk_other rfl B0))) rfl rfl rfl (m_ (e_ (rt_ (hQ _ _ _ _ _ _ _ _ H4 lk_here rfl (lk_otherP hkp (lk_otherP hkp hb'7)) (Fr.box (Fr.box (Fr.pass (Fr.box FR) hf'8))) e'5.2))))))))))))))))))))))) (fun g'1=>q_ rfl (m_ ((h.2 g'1).elim fun r'12 e'91=>e'91.elim fun b'18 e'14=>cX_ (sec H0 (sec rfl sen)) e'14.1 (Nat.lt_succ_of_lt hkp) BP (fun st'15 hb'16 hf'17=>m_ (e_ (cb_ rfl (fun g'19=>q_ rfl (m_ (m_ (b_ H1 rfl sub_ ((e'14.2.1 g'19).elim fun r'20 e'28=>e'28.elim fun r'21 e'29=>e'29.elim fun b'27 e'23=>s_callX1 (sec H0 (sec rfl (sec rfl (sec rfl sen)))) e'23.1 (Nat.lt_succ_of_lt hkp) hb'16 (fun o'22_0 st'24 hb'25 hf'26=>x_ rfl rfl (x_ rfl rfl (so_ H4 ((hf'26.1 (d,0) (Nat.lt_succ_self d) (key_LP hkp)).trans ((hf'17.1 (d,0) (Nat.lt_succ_self d) (key_LP hkp)).trans B0)) rfl rfl rfl (m_ (e_ (rt_ (hQ _ _ _ _ _ _ _ _ H4 lk_here rfl (lk_otherP hkp hb'25) (Fr.box (Fr.pass (Fr.pass FR hf'17) hf'26)) e'23.2)))))))))))) (fun g'19=>q_ rfl (m_ ((e'14.2.2 g'19).elim fun r'30 e'90=>e'90.elim fun b'36 e'32=>cX_ (sec H0 (sec rfl sen)) e'32.1 (Nat.lt_succ_of_lt hkp) hb'16 (fun st'33 hb'34 hf'35=>m_ (e_ (cb_ rfl (fun g'37=>q_ rfl (m_ (m_ (b_ H1 rfl sub_ ((e'32.2.1 g'37).elim fun r'38 e'46=>e'46.elim fun r'39 e'47=>e'47.elim fun b'45 e'41=>s_callX1 (sec H0 (sec rfl (sec rfl (sec rfl sen)))) e'41.1 (Nat.lt_succ_of_lt hkp) hb'34 (fun o'40_0 st'42 hb'43 hf'44=>x_ rfl rfl (x_ rfl rfl (so_ H4 ((hf'44.1 (d,0) (Nat.lt_succ_self d) (key_LP hkp)).trans ((hf'35.1 (d,0) (Nat.lt_succ_self d) (key_LP hkp)).trans ((hf'17.1 (d,0) (Nat.lt_succ_self d) (key_LP hkp)).trans B0))) rfl rfl rfl (m_ (e_ (rt_ (hQ _ _ _ _ _ _ _ _ H4 lk_here rfl (lk_otherP hkp hb'43) (Fr.box (Fr.pass (Fr.pass (Fr.pass FR hf'17) hf'35) hf'44)) e'41.2)))))))))))) (fun g'37=>q_ rfl (m_ ((e'32.2.2 g'37).elim fun r'48 e'89=>e'89.elim fun b'54 e'50=>cX_ (sec H0 (sec rfl sen)) e'50.1 (Nat.lt_succ_of_lt hkp) hb'34 (fun st'51 hb'52 hf'53=>m_ (e_ (cb_ rfl (fun g'55=>q_ rfl (m_ (m_ (b_ H1 rfl sub_ ((e'50.2.1 g'55).elim fun r'56 e'64=>e'64.elim fun r'57 e'65=>e'65.elim fun b'63 e'59=>s_callX1 (sec H0 (sec rfl (sec rfl (sec rfl sen)))) e'59.1 (Nat.lt_succ_of_lt hkp) hb'52 (fun o'58_0 st'60 hb'61 hf'62=>x_ rfl rfl (x_ rfl rfl (so_ H4 ((hf'62.1 (d,0) (Nat.lt_succ_self d) (key_LP hkp)).trans ((hf'53.1 (d,0) (Nat.lt_succ_self d) (key_LP hkp)).trans ((hf'35.1 (d,0) (Nat.lt_succ_self d) (key_LP hkp)).trans ((hf'17.1 (d,0) (Nat.lt_succ_self d) (key_LP hkp)).trans B0)))) rfl rfl rfl (m_ (e_ (rt_ (hQ _ _ _ _ _ _ _ _ H4 lk_here rfl (lk_otherP hkp hb'61) (Fr.box (Fr.pass (Fr.pass (Fr.pass (Fr.pass FR hf'17) hf'35) hf'53) hf'62)) e'59.2)))))))))))) (fun g'55=>q_ rfl (m_ (s_nilP H0 (f_ rfl (l_ rfl hb'52 rfl rfl ((e'50.2.2 g'55).elim fun c'66 e'67=>s_ixS rfl rfl (by decide) e'67.1 (b_ rfl rfl eql_ (m_ (e_ (cs_ rfl (fun g'68=>q_ rfl (m_ ((e'67.2.1 g'68).elim fun r'69 e'77=>e'77.elim fun r'70 e'78=>e'78.elim fun b'76 e'72=>cX_ (sec H0 sen) e'72.1 (Nat.lt_succ_of_lt hkp) hb'52 (fun st'73 hb'74 hf'75=>m_ (x_ rfl rfl (x_ rfl rfl (m_ (m_ (e_ (q_ rfl (m_ (s_build (f_cons rfl rfl (f_cons rfl rfl f_nil)) (m_ (so_ H4 ((hf'75.1 (d,0) (Nat.lt_succ_self d) (key_LP hkp)).trans ((hf'53.1 (d,0) (Nat.lt_succ_self d) (key_LP hkp)).trans ((hf'35.1 (d,0) (Nat.lt_succ_self d) (key_LP hkp)).trans ((hf'17.1 (d,0) (Nat.lt_succ_self d) (key_LP hkp)).trans B0)))) rfl rfl rfl (m_ (e_ (rt_ (hQ _ _ _ _ _ _ _ _ H4 lk_here rfl (lk_otherP hkp hb'74) (Fr.box (Fr.pass (Fr.pass (Fr.pass (Fr.pass FR hf'17) hf'35) hf'53) hf'75)) e'72.2)))))))))))))))))) (fun g'68=>sk_ (q_ rfl (m_ ((e'67.2.2 g'68).elim fun r'79 e'87=>e'87.elim fun r'80 e'88=>e'88.elim fun b'86 e'82=>cX_ (sec H0 sen) e'82.1 (Nat.lt_succ_of_lt hkp) hb'52 (fun st'83 hb'84 hf'85=>m_ (x_ rfl rfl (x_ rfl rfl (m_ (m_ (e_ (q_ rfl (m_ (s_build (f_cons rfl rfl (f_cons rfl rfl f_nil)) (m_ (so_ H4 ((hf'85.1 (d,0) (Nat.lt_succ_self d) (key_LP hkp)).trans ((hf'53.1 (d,0) (Nat.lt_succ_self d) (key_LP hkp)).trans ((hf'35.1 (d,0) (Nat.lt_succ_self d) (key_LP hkp)).trans ((hf'17.1 (d,0) (Nat.lt_succ_self d) (key_LP hkp)).trans B0)))) rfl rfl rfl (m_ (e_ (rt_ (hQ _ _ _ _ _ _ _ _ H4 lk_here rfl (lk_otherP hkp hb'84) (Fr.box (Fr.pass (Fr.pass (Fr.pass (Fr.pass FR hf'17) hf'35) hf'53) hf'85)) e'82.2)))))))))))))))))))))))))))))))))))))))))))))))
theorem w107_7 {nest1:Int}{t38:Bool}{m0:Val}{mP:Sc}{o_m0_3:Own}{v0:Nat}(H0:σ 0 = .p kp vp 0)(H1:σ 1 = .i .i64 nest1)(H4:σ 4 = .p (d,0) v0 0)(H38:σ 38 = .b t38)(B0:lk st.bx (d,0) = some (v0,[.i .u8 m0.kind,.i .i64 m0.int,.s m0.text,.sl o_m0_3 (List.map Val.row m0.list),.b m0.cut]))(BP:lk st.bx kp = some (vp,[.s mP.left]))(FR:Fr d kp st0.bx st0.ow st.bx st.ow)(h:T107_7 prog K nest1 t38 m0 mP):W prog d c107_1 σ st (blockW 0 (thenW prog d (.seq (.reg 25 r107_25) (.seq (.reg 26 r107_26) .ret)) Q)):=
 cb_ H38 (fun g'1=>q_ rfl (s_build (f_cons rfl rfl (f_cons rfl rfl f_nil)) (so_ H4 B0 rfl rfl rfl (m_ (e_ (rt_ (hQ _ _ _ _ _ _ _ _ H4 lk_here rfl (lk_otherP hkp BP) (Fr.box FR) (h.1 g'1)))))))) (fun g'1=>q_ rfl (m_ ((h.2 g'1).elim fun r'2 e'9=>e'9.elim fun b'8 e'4=>cX_ (sec H0 (sec rfl sen)) e'4.1 (Nat.lt_succ_of_lt hkp) BP (fun st'5 hb'6 hf'7=>m_ (e_ (w107_8 hQ hkp H0 H1 H4 rfl ((hf'7.1 (d,0) (Nat.lt_succ_self d) (key_LP hkp)).trans B0) hb'6 (Fr.pass FR hf'7) e'4.2))))))
theorem w107_6 {nest1:Int}{t34:Bool}{m0:Val}{mP:Sc}{o_m0_3:Own}{v0:Nat}(H0:σ 0 = .p kp vp 0)(H1:σ 1 = .i .i64 nest1)(H4:σ 4 = .p (d,0) v0 0)(H34:σ 34 = .b t34)(B0:lk st.bx (d,0) = some (v0,[.i .u8 m0.kind,.i .i64 m0.int,.s m0.text,.sl o_m0_3 (List.map Val.row m0.list),.b m0.cut]))(BP:lk st.bx kp = some (vp,[.s mP.left]))(FR:Fr d kp st0.bx st0.ow st.bx st.ow)(h:T107_6 prog K nest1 t34 m0 mP):W prog d c107_2 σ st (blockW 0 (thenW prog d (.seq (.reg 25 r107_25) (.seq (.reg 26 r107_26) .ret)) Q)):=
 cb_ H34 (fun g'1=>q_ rfl (s_build (f_cons rfl rfl (f_cons rfl rfl f_nil)) (so_ H4 B0 rfl rfl rfl (m_ (e_ (rt_ (hQ _ _ _ _ _ _ _ _ H4 lk_here rfl (lk_otherP hkp BP) (Fr.box FR) (h.1 g'1)))))))) (fun g'1=>q_ rfl (m_ ((h.2 g'1).elim fun r'2 e'9=>e'9.elim fun b'8 e'4=>cX_ (sec H0 (sec rfl sen)) e'4.1 (Nat.lt_succ_of_lt hkp) BP (fun st'5 hb'6 hf'7=>m_ (e_ (w107_7 hQ hkp H0 H1 H4 rfl ((hf'7.1 (d,0) (Nat.lt_succ_self d) (key_LP hkp)).trans B0) hb'6 (Fr.pass FR hf'7) e'4.2))))))
theorem w107_5 {nest1:Int}{t30:Bool}{m0:Val}{mP:Sc}{o_m0_3:Own}{v0:Nat}(H0:σ 0 = .p kp vp 0)(H1:σ 1 = .i .i64 nest1)(H4:σ 4 = .p (d,0) v0 0)(H30:σ 30 = .b t30)(B0:lk st.bx (d,0) = some (v0,[.i .u8 m0.kind,.i .i64 m0.int,.s m0.text,.sl o_m0_3 (List.map Val.row m0.list),.b m0.cut]))(BP:lk st.bx kp = some (vp,[.s mP.left]))(FR:Fr d kp st0.bx st0.ow st.bx st.ow)(h:T107_5 prog K nest1 t30 m0 mP):W prog d c107_3 σ st (blockW 0 (thenW prog d (.seq (.reg 25 r107_25) (.seq (.reg 26 r107_26) .ret)) Q)):=
 cb_ H30 (fun g'1=>q_ rfl (s_build (f_cons rfl rfl f_nil) (so_ H4 B0 rfl rfl rfl (m_ (e_ (rt_ (hQ _ _ _ _ _ _ _ _ H4 lk_here rfl (lk_otherP hkp BP) (Fr.box FR) (h.1 g'1)))))))) (fun g'1=>q_ rfl (m_ ((h.2 g'1).elim fun r'2 e'9=>e'9.elim fun b'8 e'4=>cX_ (sec H0 (sec rfl sen)) e'4.1 (Nat.lt_succ_of_lt hkp) BP (fun st'5 hb'6 hf'7=>m_ (e_ (w107_6 hQ hkp H0 H1 H4 rfl ((hf'7.1 (d,0) (Nat.lt_succ_self d) (key_LP hkp)).trans B0) hb'6 (Fr.pass FR hf'7) e'4.2))))))
theorem w107_4 {nest1:Int}{t26:Bool}{m0:Val}{mP:Sc}{o_m0_3:Own}{v0:Nat}(H0:σ 0 = .p kp vp 0)(H1:σ 1 = .i .i64 nest1)(H4:σ 4 = .p (d,0) v0 0)(H26:σ 26 = .b t26)(B0:lk st.bx (d,0) = some (v0,[.i .u8 m0.kind,.i .i64 m0.int,.s m0.text,.sl o_m0_3 (List.map Val.row m0.list),.b m0.cut]))(BP:lk st.bx kp = some (vp,[.s mP.left]))(FR:Fr d kp st0.bx st0.ow st.bx st.ow)(h:T107_4 prog K nest1 t26 m0 mP):W prog d c107_4 σ st (blockW 0 (thenW prog d (.seq (.reg 25 r107_25) (.seq (.reg 26 r107_26) .ret)) Q)):=
 cb_ H26 (fun g'1=>q_ rfl (s_build (f_cons rfl rfl f_nil) (so_ H4 B0 rfl rfl rfl (m_ (e_ (rt_ (hQ _ _ _ _ _ _ _ _ H4 lk_here rfl (lk_otherP hkp BP) (Fr.box FR) (h.1 g'1)))))))) (fun g'1=>q_ rfl (m_ ((h.2 g'1).elim fun r'2 e'9=>e'9.elim fun b'8 e'4=>cX_ (sec H0 (sec rfl sen)) e'4.1 (Nat.lt_succ_of_lt hkp) BP (fun st'5 hb'6 hf'7=>m_ (e_ (w107_5 hQ hkp H0 H1 H4 rfl ((hf'7.1 (d,0) (Nat.lt_succ_self d) (key_LP hkp)).trans B0) hb'6 (Fr.pass FR hf'7) e'4.2))))))
theorem w107_3 {nest1:Int}{t22:Bool}{m0:Val}{mP:Sc}{o_m0_3:Own}{v0:Nat}(H0:σ 0 = .p kp vp 0)(H1:σ 1 = .i .i64 nest1)(H4:σ 4 = .p (d,0) v0 0)(H22:σ 22 = .b t22)(B0:lk st.bx (d,0) = some (v0,[.i .u8 m0.kind,.i .i64 m0.int,.s m0.text,.sl o_m0_3 (List.map Val.row m0.list),.b m0.cut]))(BP:lk st.bx kp = some (vp,[.s mP.left]))(FR:Fr d kp st0.bx st0.ow st.bx st.ow)(h:T107_3 prog K nest1 t22 m0 mP):W prog d c107_5 σ st (blockW 0 (thenW prog d (.seq (.reg 25 r107_25) (.seq (.reg 26 r107_26) .ret)) Q)):=
 cb_ H22 (fun g'1=>q_ rfl (s_build (f_cons rfl rfl (f_cons rfl rfl f_nil)) (so_ H4 B0 rfl rfl rfl (m_ (e_ (rt_ (hQ _ _ _ _ _ _ _ _ H4 lk_here rfl (lk_otherP hkp BP) (Fr.box FR) (h.1 g'1)))))))) (fun g'1=>q_ rfl (m_ ((h.2 g'1).elim fun r'2 e'9=>e'9.elim fun b'8 e'4=>cX_ (sec H0 (sec rfl sen)) e'4.1 (Nat.lt_succ_of_lt hkp) BP (fun st'5 hb'6 hf'7=>m_ (e_ (w107_4 hQ hkp H0 H1 H4 rfl ((hf'7.1 (d,0) (Nat.lt_succ_self d) (key_LP hkp)).trans B0) hb'6 (Fr.pass FR hf'7) e'4.2))))))
theorem w107_2 {nest1:Int}{m0:Val}{mP:Sc}{o_m0_3:Own}{v0:Nat}(H0:σ 0 = .p kp vp 0)(H1:σ 1 = .i .i64 nest1)(H4:σ 4 = .p (d,0) v0 0)(B0:lk st.bx (d,0) = some (v0,[.i .u8 m0.kind,.i .i64 m0.int,.s m0.text,.sl o_m0_3 (List.map Val.row m0.list),.b m0.cut]))(BP:lk st.bx kp = some (vp,[.s mP.left]))(FR:Fr d kp st0.bx st0.ow st.bx st.ow)(h:T107_2 prog K nest1 m0 mP):W prog d c107_6 σ st Q:=
 sq_ (bk_ (q_ rfl (m_ (h.elim fun r'1 e'8=>e'8.elim fun b'7 e'3=>cX_ (sec H0 (sec rfl sen)) e'3.1 (Nat.lt_succ_of_lt hkp) BP (fun st'4 hb'5 hf'6=>m_ (e_ (w107_3 hQ hkp H0 H1 H4 rfl ((hf'6.1 (d,0) (Nat.lt_succ_self d) (key_LP hkp)).trans B0) hb'5 (Fr.pass FR hf'6) e'3.2)))))))
theorem w107_1 {nest1:Int}{m0:Val}{mP:Sc}{o_m0_3:Own}{v0:Nat}(H0:σ 0 = .p kp vp 0)(H1:σ 1 = .i .i64 nest1)(H4:σ 4 = .p (d,0) v0 0)(B0:lk st.bx (d,0) = some (v0,[.i .u8 m0.kind,.i .i64 m0.int,.s m0.text,.sl o_m0_3 (List.map Val.row m0.list),.b m0.cut]))(BP:lk st.bx kp = some (vp,[.s mP.left]))(FR:Fr d kp st0.bx st0.ow st.bx st.ow)(h:T107_1 prog K nest1 m0 mP):W prog d c107_7 σ st Q:=
 sq_ (q_ rfl (s_mvI H1 (b_ rfl rfl eql_ (s_mvB rfl (em_ (g:=14) rfl (fun g'1=>gn_ (b:=true) rfl rfl (gn_ (b:=true) rfl rfl (gn_ (b:=true) rfl rfl (gn_ (b:=true) rfl rfl (gn_ (b:=true) rfl rfl (pt_ rfl rfl (e_ (ct_ rfl (q_ rfl (s_build f_nil (so_ H4 B0 rfl rfl rfl (m_ (e_ (rt_ (hQ _ _ _ _ _ _ _ _ H4 lk_here rfl (lk_otherP hkp BP) (Fr.box FR) (h.1 g'1)))))))))))))))) (fun g'1=>gy_ rfl (s_mv H0 (gy_ rfl (s_nilP rfl (gy_ rfl (f_ rfl (gy_ rfl (l_ rfl BP rfl rfl (gy_ rfl (b_ rfl rfl seq_ (pf_ rfl rfl (e_ (cs_ rfl (fun g'2=>q_ rfl (s_build f_nil (so_ H4 B0 rfl rfl rfl (m_ (e_ (rt_ (hQ _ _ _ _ _ _ _ _ H4 lk_here rfl (lk_otherP hkp BP) (Fr.box FR) ((h.2 g'1).1 g'2)))))))) (fun g'2=>sk_ (w107_2 hQ hkp H0 H1 H4 B0 BP FR ((h.2 g'1).2 g'2)))))))))))))))))))))
theorem w107_0 {nest1:Int}{mP:Sc}(H0:σ 0 = .p kp vp 0)(H1:σ 1 = .i .i64 nest1)(BP:lk st.bx kp = some (vp,[.s mP.left]))(FR:Fr d kp st0.bx st0.ow st.bx st.ow)(h:T107_0 prog K nest1 mP):W prog d (.seq (.reg 0 r107_0) c107_7) σ st Q:=
 sq_ (W.reg (s_alloc (m_ (e_ (w107_1 (m0:=(Val.mk 0 0 [] ([]:List Val) false)) hQ hkp H0 H1 rfl (show lk _ (d,0) = some (_,([.i .u8 0,.i .i64 0,.s [],.sl .full (List.map Val.row ([]:List Val)),.b false]:List AV)) from lk_here) (lk_otherP hkp BP) (Fr.box FR) h)))))
end
theorem p107 {prog:Prog}(hf:prog.fn 107 = some pf107){nest1:Int}{mP:Sc}{K:Val→Bool→Sc→Prop}(h:T107_0 prog K nest1 mP):PuXK prog 107 (Bx [.s mP.left]) [.i .i64 nest1] (fun r (b_:Sc)=>∃res0:Val,∃res1:Bool,(∃o_0:Own,r = .tup [res0.avo o_0,.b res1])∧K res0 res1 b_) (fun b_=>(Bx [.s b_.left])):=
  PuXK.of hf rfl (fun _=>Bx.out) fun d st kp vp hkp hB=>w107_0 (st0:=st) (Q:=fun e σ st'=>(e = .normal∨e = .ret)∧∃r b_,ares σ st' pf107.res = some r∧_∧_∧Fr d kp st.bx st.ow st'.bx st'.ow) (fun σ st' k0 v0 o_0 res0 res1 b_ H4 HB4 H5 hb hf hk=>⟨.inr rfl,.tup [res0.avo o_0,.b res1],b_,by simp only [pf107,ares,aresL,ares_cellA (n:=5) H4 HB4 rfl,H5,ares_tmp,Option.map_some,ares_cellA (n:=5) H4 HB4 rfl,H5],⟨res0,res1,⟨o_0,rfl⟩,hk⟩,hb,hf⟩) hkp (σ:=sl0 [.p kp vp 0,.i .i64 nest1]) rfl rfl hB Fr.refl h
def r74_0:List AI:=[oO 2 (.alloc [.i .u8 0,.i .i64 0,.s [],.sl .full [],.b false]),
 oC 3 (.i .i64 0)]
def r74_1:List AI:=[oM 9 0,
 oO 10 (.len true (.t 9)),
 oB 11 .gtr (.t 10) (.c (.i .i64 1400000))]
def r74_2:List AI:=[oO 12 (.build [.i .u8 0,.i .i64 0,.s [],.sl .full [],.b false] []),
 oS 5 2 12,
 oC 3 (.i .i64 4)]
def r74_3:List AI:=[oM 13 0,
 oO 14 (.build [.s []] [(0,1,(.t 13))]),
 oO 15 (.box 1 (.t 14)),
 oM 4 15]
def r74_4:List AI:=[oM 17 4,
 oO 18 (.call true 107 [(.t 17),(.c (.i .i64 130))]),
 oM 16 18,
 oE 19 0 16,
 oE 20 1 16,
 oO 5 (.alloc [.i .u8 0,.i .i64 0,.s [],.sl .full [],.b false]),
 oS 5 5 19,
 oM 6 20]
def r74_5:List AI:=[oM 21 6,
 oO 22 (.un .not (.t 21)),
 oM 23 22,
 oG 24 (.mv (.t 4)) 23 false,
 oG 25 (.nilc (.t 24)) 23 false,
 oG 26 (.fad 0 (.t 25)) 23 false,
 oG 27 (.load 1 false (.t 26)) 23 false,
 oG 28 (.bin .neq (.t 27) (.c (.s []))) 23 false,
 oO 29 (.pick (.t 23) (.c (.b true)) (.t 28))]
def r74_6:List AI:=[oO 30 (.build [.i .u8 0,.i .i64 0,.s [],.sl .full [],.b false] []),
 oS 5 2 30,
 oC 3 (.i .i64 12)]
def r74_7:List AI:=[oO 32 (.load 5 true (.t 5)),
 oO 33 (.call false 72 [(.t 32)]),
 oM 31 33,
 oE 34 0 31,
 oE 35 1 31,
 oM 7 34,
 oM 8 35]
def r74_8:List AI:=[oM 36 8,
 oB 37 .neq (.t 36) (.c (.i .i64 0)),
 oM 38 37,
 oG 39 (.mv (.t 7)) 38 false,
 oG 40 (.mv (.t 0)) 38 false,
 oG 41 (.bin .neq (.t 39) (.t 40)) 38 false,
 oO 42 (.pick (.t 38) (.c (.b true)) (.t 41))]
def r74_9:List AI:=[oO 43 (.build [.i .u8 0,.i .i64 0,.s [],.sl .full [],.b false] []),
 oS 5 2 43,
 oC 3 (.i .i64 12)]
def r74_10:List AI:=[oO 44 (.load 5 true (.t 5)),
 oS 5 2 44,
 oC 3 (.i .i64 0)]
abbrev b74:AC:=(.seq (.reg 0 r74_0) (.seq (.seq (.reg 1 r74_1) (.cond (.t 11) (.seq (.reg 2 r74_2) .ret) .skip)) (.seq (.reg 3 r74_3) (.seq (.reg 4 r74_4) (.seq (.seq (.reg 5 r74_5) (.cond (.t 29) (.seq (.reg 6 r74_6) .ret) .skip)) (.seq (.seq (.reg 7 r74_7) (.seq (.reg 8 r74_8) (.cond (.t 42) (.seq (.reg 9 r74_9) .ret) .skip))) (.seq (.reg 10 r74_10) .ret)))))))
def pf74:AF:={ nt:=45,res:=[.cell 2 5 true,.tmp 3],body:=b74 }
abbrev H74 (Q:AE→Sl→St→Prop)(K:Val→Int→Prop):Prop:=∀(σ:Sl)(st:St)(k0:Key)(v0:Nat)(o0_0:Own)(res0:Val)(res1:Int),σ 2 = .p k0 v0 0→lk st.bx k0 = some (v0,[.i .u8 res0.kind,.i .i64 res0.int,.s res0.text,.sl o0_0 (List.map Val.row res0.list),.b res0.cut])→σ 3 = .i .i64 res1→K res0 res1→Q .ret σ st
def T74_0 (prog:Prog)(K:Val→Int→Prop)(s0:List UInt8):Prop:=
  ((s0.length:Int) > 1400000→K (Val.mk 0 0 [] ([]:List Val) false) 4)∧(¬((s0.length:Int) > 1400000)→∃r'2:Val,∃r'3:Bool,∃b'9:Sc,PuX prog 107 (Bx [.s s0]) [.i .i64 130] (fun r=>∃o'4_0:Own,r = .tup [r'2.avo o'4_0,.b r'3]) ((Bx [.s b'9.left]))∧((!r'3) = true→K (Val.mk 0 0 [] ([]:List Val) false) 12)∧((!r'3) = false→(b'9.left≠([]:List UInt8)→K (Val.mk 0 0 [] ([]:List Val) false) 12)∧(¬(b'9.left≠([]:List UInt8))→∃r'12:List UInt8,∃r'13:Int,Pus prog 72 [r'2.av] (.tup [.s r'12,.i .i64 r'13])∧(r'13≠0→K (Val.mk 0 0 [] ([]:List Val) false) 12)∧(¬(r'13≠0)→(r'12≠s0→K (Val.mk 0 0 [] ([]:List Val) false) 12)∧(¬(r'12≠s0)→K r'2 0)))))
section
variable {prog:Prog}{d:Nat}{Q:AE→Sl→St→Prop}{K:Val→Int→Prop}(hQ:H74 Q K){σ:Sl}{st:St}
include hQ
theorem w74_0 {s0:List UInt8}(H0:σ 0 = .s s0)(h:T74_0 prog K s0):W prog d (.seq (.reg 0 r74_0) (.seq (.seq (.reg 1 r74_1) (.cond (.t 11) (.seq (.reg 2 r74_2) .ret) .skip)) (.seq (.reg 3 r74_3) (.seq (.reg 4 r74_4) (.seq (.seq (.reg 5 r74_5) (.cond (.t 29) (.seq (.reg 6 r74_6) .ret) .skip)) (.seq (.seq (.reg 7 r74_7) (.seq (.reg 8 r74_8) (.cond (.t 42) (.seq (.reg 9 r74_9) .ret) .skip))) (.seq (.reg 10 r74_10) .ret))))))) σ st Q:=
 sq_ (W.reg (s_alloc (m_ (e_ (sq_ (q_ rfl (m_ (ln_ H0 (b_ rfl rfl gtr_ (e_ (cs_ rfl (fun g'1=>q_ rfl (s_build f_nil (so_ rfl (show lk _ (d,0) = some (_,([.i .u8 0,.i .i64 0,.s [],.sl .full (List.map Val.row ([]:List Val)),.b false]:List AV)) from lk_here) rfl rfl rfl (m_ (e_ (rt_ (hQ _ _ _ _ _ _ _ rfl lk_here rfl (h.1 g'1)))))))) (fun g'1=>sk_ (q_ rfl (m_ (s_build (f_cons H0 rfl f_nil) (s_box rfl rfl (m_ (e_ (sq_ (W.reg (m_ ((h.2 g'1).elim fun r'2 e'18=>e'18.elim fun r'3 e'19=>e'19.elim fun b'9 e'5=>s_callX1 (sec rfl (sec rfl sen)) e'5.1 (Nat.lt_succ_self d) (lk_other rfl lk_here) (fun o'4_0 st'6 hb'7 hf'8=>m_ (x_ rfl rfl (x_ rfl rfl (s_alloc (so_ rfl ((hf'8.1 (d,16389) (Nat.lt_succ_self d) (key_LL rfl)).trans (show lk _ (d,16389) = some (_,([.i .u8 0,.i .i64 0,.s [],.sl .full (List.map Val.row ([]:List Val)),.b false]:List AV)) from lk_here)) rfl rfl rfl (m_ (e_ (sq_ (q_ rfl (s_mvB rfl (nt_ rfl (s_mvB rfl (eb_ (g:=23) rfl (fun g'10=>gn_ (b:=true) rfl rfl (gn_ (b:=true) rfl rfl (gn_ (b:=true) rfl rfl (gn_ (b:=true) rfl rfl (gn_ (b:=true) rfl rfl (pt_ rfl rfl (e_ (ct_ rfl (q_ rfl (s_build f_nil (so_ rfl (lk_other rfl ((hf'8.1 (d,0) (Nat.lt_succ_self d) (key_LL rfl)).trans (lk_other rfl (lk_other rfl (show lk _ (d,0) = some (_,([.i .u8 0,.i .i64 0,.s [],.sl .full (List.map Val.row ([]:List Val)),.b false]:List AV)) from lk_here))))) rfl rfl rfl (m_ (e_ (rt_ (hQ _ _ _ _ _ _ _ rfl lk_here rfl (e'5.2.1 g'10)))))))))))))))) (fun g'10=>gy_ rfl (s_mv rfl (gy_ rfl (s_nilP rfl (gy_ rfl (f_ rfl (gy_ rfl (l_ rfl (lk_other rfl hb'7) rfl rfl (gy_ rfl (b_ rfl rfl sne_ (pf_ rfl rfl (e_ (cs_ rfl (fun g'11=>q_ rfl (s_build f_nil (so_ rfl (lk_other rfl ((hf'8.1 (d,0) (Nat.lt_succ_self d) (key_LL rfl)).trans (lk_other rfl (lk_other rfl (show lk _ (d,0) = some (_,([.i .u8 0,.i .i64 0,.s [],.sl .full (List.map Val.row ([]:List Val)),.b false]:List AV)) from lk_here))))) rfl rfl rfl (m_ (e_ (rt_ (hQ _ _ _ _ _ _ _ rfl lk_here rfl ((e'5.2.2 g'10).1 g'11)))))))) (fun g'11=>sk_ (sq_ (q_ rfl (l_ rfl lk_here rfl rfl (((e'5.2.2 g'10).2 g'11).elim fun r'12 e'17=>e'17.elim fun r'13 e'14=>ca_ (sc rfl rfl sn) e'14.1 (m_ (x_ rfl rfl (x_ rfl rfl (m_ (m_ (e_ (q_ rfl (s_mvI rfl (b_ rfl rfl neq_ (s_mvB rfl (em_ (g:=38) rfl (fun g'15=>gn_ (b:=true) rfl rfl (gn_ (b:=true) rfl rfl (gn_ (b:=true) rfl rfl (pt_ rfl rfl (e_ (ct_ rfl (q_ rfl (s_build f_nil (so_ rfl (lk_other rfl ((hf'8.1 (d,0) (Nat.lt_succ_self d) (key_LL rfl)).trans (lk_other rfl (lk_other rfl (show lk _ (d,0) = some (_,([.i .u8 0,.i .i64 0,.s [],.sl .full (List.map Val.row ([]:List Val)),.b false]:List AV)) from lk_here))))) rfl rfl rfl (m_ (e_ (rt_ (hQ _ _ _ _ _ _ _ rfl lk_here rfl (e'14.2.1 g'15)))))))))))))) (fun g'15=>gy_ rfl (s_mvS rfl (gy_ rfl (s_mvS H0 (gy_ rfl (b_ rfl rfl sne_ (pf_ rfl rfl (e_ (cs_ rfl (fun g'16=>q_ rfl (s_build f_nil (so_ rfl (lk_other rfl ((hf'8.1 (d,0) (Nat.lt_succ_self d) (key_LL rfl)).trans (lk_other rfl (lk_other rfl (show lk _ (d,0) = some (_,([.i .u8 0,.i .i64 0,.s [],.sl .full (List.map Val.row ([]:List Val)),.b false]:List AV)) from lk_here))))) rfl rfl rfl (m_ (e_ (rt_ (hQ _ _ _ _ _ _ _ rfl lk_here rfl ((e'14.2.2 g'15).1 g'16)))))))) (fun g'16=>sk_ (q_ rfl (l_ rfl lk_here rfl rfl (so_ rfl (lk_other rfl ((hf'8.1 (d,0) (Nat.lt_succ_self d) (key_LL rfl)).trans (lk_other rfl (lk_other rfl (show lk _ (d,0) = some (_,([.i .u8 0,.i .i64 0,.s [],.sl .full (List.map Val.row ([]:List Val)),.b false]:List AV)) from lk_here))))) rfl rfl rfl (m_ (e_ (rt_ (hQ _ _ _ _ _ _ _ rfl lk_here rfl ((e'14.2.2 g'15).2 g'16))))))))))))))))))))))))))))))))))))))))))))))))))))))))))))))))))))))))))))))))))
end
theorem p74 {prog:Prog}(hf:prog.fn 74 = some pf74){s0:List UInt8}{K:Val→Int→Prop}(h:T74_0 prog K s0) :∃res0:Val,∃res1:Int,K res0 res1∧Pus prog 74 [.s s0] (.tup [res0.av,.i .i64 res1]):=by
  obtain ⟨v,hv,res0,res1,hk,rfl⟩:=Pus.of (K:=fun v=>∃res0:Val,∃res1:Int,K res0 res1∧v = .tup [res0.av,.i .i64 res1]) hf rfl (w74_0 (σ:=sl0 [.s s0]) (fun σ st k0 v0 o0_0 res0 res1 H2 HB2 H3 hk=>⟨.tup [res0.avo o0_0,.i .i64 res1],by simp only [pf74,ares,aresL,ares_cellA (n:=5) H2 HB2 rfl,H3,ares_tmp,Option.map_some],_,rfl,res0,res1,hk,rfl⟩) rfl h)
  exact ⟨res0,res1,hk,hv⟩
abbrev H75 (Q:AE→Sl→St→Prop)(K:Val→Int→Prop):Prop:=∀(σ:Sl)(st:St)(k0:Key)(v0:Nat)(o0_0:Own)(res0:Val)(res1:Int),σ 2 = .p k0 v0 0→lk st.bx k0 = some (v0,[.i .u8 res0.kind,.i .i64 res0.int,.s res0.text,.sl o0_0 (List.map Val.row res0.list),.b res0.cut])→σ 3 = .i .i64 res1→K res0 res1→Q .ret σ st
section
variable {prog:Prog}{d:Nat}{Q:AE→Sl→St→Prop}{K:Val→Int→Prop}(hQ:H75 Q K){σ:Sl}{st:St}
include hQ
end
abbrev H108 (Q:AE→Sl→St→Prop)(K:Val→List UInt8→Bool→Prop):Prop:=∀(σ:Sl)(st:St)(k0:Key)(v0:Nat)(o0_0:Own)(res0:Val)(res1:List UInt8)(res2:Bool),σ 4 = .p k0 v0 0→lk st.bx k0 = some (v0,[.i .u8 res0.kind,.i .i64 res0.int,.s res0.text,.sl o0_0 (List.map Val.row res0.list),.b res0.cut])→σ 5 = .s res1→σ 6 = .b res2→K res0 res1 res2→Q .ret σ st
section
variable {prog:Prog}{d:Nat}{Q:AE→Sl→St→Prop}{K:Val→List UInt8→Bool→Prop}(hQ:H108 Q K){σ:Sl}{st:St}
include hQ
end
abbrev H132 (Q:AE→Sl→St→Prop)(K:Bool→Prop):Prop:=∀(σ:Sl)(st:St)(res0:Bool),σ 4 = .b res0→K res0→Q .ret σ st
section
variable {prog:Prog}{d:Nat}{Q:AE→Sl→St→Prop}{K:Bool→Prop}(hQ:H132 Q K){σ:Sl}{st:St}
include hQ
end
abbrev H133 (Q:AE→Sl→St→Prop)(K:Val→List UInt8→Bool→Prop):Prop:=∀(σ:Sl)(st:St)(k0:Key)(v0:Nat)(o0_0:Own)(res0:Val)(res1:List UInt8)(res2:Bool),σ 8 = .p k0 v0 0→lk st.bx k0 = some (v0,[.i .u8 res0.kind,.i .i64 res0.int,.s res0.text,.sl o0_0 (List.map Val.row res0.list),.b res0.cut])→σ 9 = .s res1→σ 10 = .b res2→K res0 res1 res2→Q .ret σ st
section
variable {prog:Prog}{d:Nat}{Q:AE→Sl→St→Prop}{K:Val→List UInt8→Bool→Prop}(hQ:H133 Q K){σ:Sl}{st:St}
include hQ
end
abbrev H134 (Q:AE→Sl→St→Prop)(K:Int→Prop):Prop:=∀(σ:Sl)(st:St)(res0:Int),σ 2 = .i .i64 res0→K res0→Q .ret σ st
section
variable {prog:Prog}{d:Nat}{Q:AE→Sl→St→Prop}{K:Int→Prop}(hQ:H134 Q K){σ:Sl}{st:St}
include hQ
end
abbrev H135 (Q:AE→Sl→St→Prop)(K:Int→Prop):Prop:=∀(σ:Sl)(st:St)(res0:Int),σ 2 = .i .i64 res0→K res0→Q .ret σ st
section
variable {prog:Prog}{d:Nat}{Q:AE→Sl→St→Prop}{K:Int→Prop}(hQ:H135 Q K){σ:Sl}{st:St}
include hQ
end
def r78_0:List AI:=[oO 2 (.box 5 (.t 0)),
 oO 3 (.box 5 (.t 1)),
 oC 4 (.b false)]
def r78_1:List AI:=[oF 6 0 2,
 oL 7 6,
 oF 8 0 3,
 oL 9 8,
 oB 10 .neq (.t 7) (.t 9),
 oM 11 10,
 oG 12 (.fad 1 (.t 2)) 11 false,
 oG 13 (.load 1 false (.t 12)) 11 false,
 oG 14 (.fad 1 (.t 3)) 11 false,
 oG 15 (.load 1 false (.t 14)) 11 false,
 oG 16 (.bin .neq (.t 13) (.t 15)) 11 false,
 oO 17 (.pick (.t 11) (.c (.b true)) (.t 16)),
 oM 18 17,
 oG 19 (.fad 2 (.t 2)) 18 false,
 oG 20 (.load 1 false (.t 19)) 18 false,
 oG 21 (.fad 2 (.t 3)) 18 false,
 oG 22 (.load 1 false (.t 21)) 18 false,
 oG 23 (.bin .neq (.t 20) (.t 22)) 18 false,
 oO 24 (.pick (.t 18) (.c (.b true)) (.t 23)),
 oM 25 24,
 oG 26 (.fad 4 (.t 2)) 25 false,
 oG 27 (.load 1 false (.t 26)) 25 false,
 oG 28 (.fad 4 (.t 3)) 25 false,
 oG 29 (.load 1 false (.t 28)) 25 false,
 oG 30 (.beq true (.t 27) (.t 29)) 25 false,
 oO 31 (.pick (.t 25) (.c (.b true)) (.t 30)),
 oM 32 31,
 oG 33 (.fad 3 (.t 2)) 32 false,
 oG 34 (.load 1 false (.t 33)) 32 false,
 oG 35 (.len false (.t 34)) 32 false,
 oG 36 (.fad 3 (.t 3)) 32 false,
 oG 37 (.load 1 false (.t 36)) 32 false,
 oG 38 (.len false (.t 37)) 32 false,
 oG 39 (.bin .neq (.t 35) (.t 38)) 32 false,
 oO 40 (.pick (.t 32) (.c (.b true)) (.t 39))]
def r78_2:List AI:=[oC 4 (.b false)]
def r78_3:List AI:=[oC 5 (.i .i64 0)]
def r78_4:List AI:=[oM 41 5,
 oF 42 3 2,
 oL 43 42,
 oO 44 (.len false (.t 43)),
 oB 45 .lss (.t 41) (.t 44)]
def r78_5:List AI:=[oF 48 3 2,
 oL 49 48,
 oM 50 5,
 oO 51 (.iaL 5 (.t 49) (.t 50)),
 oO 52 (.load 5 true (.t 51)),
 oF 53 3 3,
 oL 54 53,
 oM 55 5,
 oO 56 (.iaL 5 (.t 54) (.t 55)),
 oO 57 (.load 5 true (.t 56)),
 oO 58 (.call false 78 [(.t 52),(.t 57)]),
 oO 59 (.un .not (.t 58))]
def r78_6:List AI:=[oC 4 (.b false)]
def r78_7:List AI:=[oM 46 5,
 oB 47 .add (.t 46) (.c (.i .i64 1)),
 oM 5 47]
def r78_8:List AI:=[oC 4 (.b true)]
abbrev l78_0:AC:=(.seq (.seq (.reg 4 r78_4) (.cond (.t 45) .skip (.exit 0))) (.seq (.block 1 (.seq (.reg 6 r78_5) (.cond (.t 59) (.seq (.reg 7 r78_6) .ret) .skip))) (.reg 5 r78_7)))
abbrev c78_1:AC:=(.seq (.reg 8 r78_8) .ret)
abbrev b78:AC:=(.seq (.reg 0 r78_0) (.seq (.seq (.reg 1 r78_1) (.cond (.t 40) (.seq (.reg 2 r78_2) .ret) .skip)) (.seq (.seq (.reg 3 r78_3) (.block 0 (.loop l78_0))) c78_1)))
def pf78:AF:={ nt:=60,res:=[.tmp 4],body:=b78 }
abbrev H78 (Q:AE→Sl→St→Prop)(K:Bool→Prop):Prop:=∀(σ:Sl)(st:St)(res0:Bool),σ 4 = .b res0→K res0→Q .ret σ st
abbrev I78_0 (prog:Prog)(d:Nat)(Q:AE→Sl→St→Prop)(i5:Int)(m0:Val)(m1:Val):Prop:=
  ∀(σ:Sl)(st:St) (v0 v1:Nat),σ 2 = .p (d,0) v0 0→σ 3 = .p (d,1) v1 0→σ 5 = .i .i64 i5→lk st.bx (d,0) = some (v0,[.i .u8 m0.kind,.i .i64 m0.int,.s m0.text,.sl .ext (List.map Val.row m0.list),.b m0.cut])→lk st.bx (d,1) = some (v1,[.i .u8 m1.kind,.i .i64 m1.int,.s m1.text,.sl .ext (List.map Val.row m1.list),.b m1.cut])→W prog d (.loop l78_0) σ st (blockW 0 (thenW prog d c78_1 Q))
def T78_2 (prog:Prog)(K:Bool→Prop) :Prop:=
  K true
def T78_1 (prog:Prog)(K:Bool→Prop)(P0:Int→Val→Val→Prop)(i5:Int)(m0:Val)(m1:Val):Prop:=
  (i5 < (m0.list.length:Int)→0≤i5∧∃c'2:Val,m0.list[(i5).toNat]? = some c'2∧0≤i5∧∃c'4:Val,m1.list[(i5).toNat]? = some c'4∧∃r'6:Bool,Pus prog 78 [c'2.av,c'4.av] (.b r'6)∧((!r'6) = true→K false)∧((!r'6) = false→P0 (IntKind.i64.wrap (i5 + 1)) m0 m1))∧(¬(i5 < (m0.list.length:Int))→T78_2 prog K )
def T78_0 (prog:Prog)(K:Bool→Prop)(a0:Val)(b1:Val):Prop:=
  (a0.kind≠b1.kind→K false)∧(¬(a0.kind≠b1.kind)→(a0.int≠b1.int→K false)∧(¬(a0.int≠b1.int)→(a0.text≠b1.text→K false)∧(¬(a0.text≠b1.text)→(a0.cut≠b1.cut→K false)∧(¬(a0.cut≠b1.cut)→((a0.list.length:Int)≠(b1.list.length:Int)→K false)∧(¬((a0.list.length:Int)≠(b1.list.length:Int))→∀P0:Int→Val→Val→Prop,(∀(i5:Int)(m0:Val)(m1:Val),T78_1 prog K P0 i5 m0 m1→P0 i5 m0 m1)→P0 0 a0 b1)))))
section
variable {prog:Prog}{d:Nat}{Q:AE→Sl→St→Prop}{K:Bool→Prop}(hQ:H78 Q K){σ:Sl}{st:St}
include hQ
theorem w78_2 (h:T78_2 prog K ):W prog d c78_1 σ st Q:=
 q_ rfl (m_ (e_ (rt_ (hQ _ _ _ rfl h))))
theorem w78_1 {i5:Int}{m0 m1:Val}{P0:Int→Val→Val→Prop} (kP0 :∀(i5:Int)(m0:Val)(m1:Val),P0 i5 m0 m1→I78_0 prog d Q i5 m0 m1){v0:Nat}{v1:Nat}(H2:σ 2 = .p (d,0) v0 0)(H3:σ 3 = .p (d,1) v1 0)(H5:σ 5 = .i .i64 i5)(B0:lk st.bx (d,0) = some (v0,[.i .u8 m0.kind,.i .i64 m0.int,.s m0.text,.sl .ext (List.map Val.row m0.list),.b m0.cut]))(B1:lk st.bx (d,1) = some (v1,[.i .u8 m1.kind,.i .i64 m1.int,.s m1.text,.sl .ext (List.map Val.row m1.list),.b m1.cut]))(h:T78_1 prog K P0 i5 m0 m1):W prog d l78_0 σ st (thenW prog d (.loop l78_0) (blockW 0 (thenW prog d c78_1 Q))):=
 sq_ (q_ rfl (m_ (f_ H2 (l_ rfl B0 rfl rfl (ll_ rfl (b_ H5 rfl lss_ (e_ (cs_ rfl (fun g'1=>sk_ (sq_ (bk_ (q_ rfl (f_ H2 (l_ rfl B0 rfl rfl (m_ ((h.1 g'1).2.elim fun c'2 e'3=>ia_ rfl H5 (h.1 g'1).1 e'3.1 (Val.row_eq c'2) rfl (lf_ rfl rfl rfl (f_ H3 (l_ rfl B1 rfl rfl (m_ (e'3.2.2.elim fun c'4 e'5=>ia_ rfl H5 e'3.2.1 e'5.1 (Val.row_eq c'4) rfl (lf_ rfl rfl rfl (e'5.2.elim fun r'6 e'7=>ca_ (sc rfl rfl (sc rfl rfl sn)) e'7.1 (nt_ rfl (e_ (cb_ rfl (fun g'8=>q_ rfl (m_ (e_ (rt_ (hQ _ _ _ rfl (e'7.2.1 g'8)))))) (fun g'8=>sk_ (W.reg0 rfl fun _ _=>m_ (b_ H5 rfl add_ (m_ (e_ (kP0 _ _ _ (e'7.2.2 g'8) _ _ _ _ H2 H3 rfl B0 B1)))))))))))))))))))))))) (fun g'1=>ex_ (w78_2 hQ (h.2 g'1)))))))))))
theorem w78_0 {a0 b1:Val}(H0:σ 0 = a0.av)(H1:σ 1 = b1.av)(h:T78_0 prog K a0 b1):W prog d (.seq (.reg 0 r78_0) (.seq (.seq (.reg 1 r78_1) (.cond (.t 40) (.seq (.reg 2 r78_2) .ret) .skip)) (.seq (.seq (.reg 3 r78_3) (.block 0 (.loop l78_0))) c78_1))) σ st Q:=
 q_ rfl (s_box H0 rfl (s_box H1 rfl (m_ (e_ (sq_ (q_ rfl (f_ rfl (l_ rfl (lk_other rfl lk_here) rfl rfl (f_ rfl (l_ rfl lk_here rfl rfl (b_ rfl rfl neq_ (s_mvB rfl (em_ (g:=11) rfl (fun g'1=>gn_ (b:=true) rfl rfl (gn_ (b:=true) rfl rfl (gn_ (b:=true) rfl rfl (gn_ (b:=true) rfl rfl (gn_ (b:=true) rfl rfl (pt_ rfl rfl (s_mvB rfl (gn_ (b:=true) rfl rfl (gn_ (b:=true) rfl rfl (gn_ (b:=true) rfl rfl (gn_ (b:=true) rfl rfl (gn_ (b:=true) rfl rfl (pt_ rfl rfl (s_mvB rfl (gn_ (b:=true) rfl rfl (gn_ (b:=true) rfl rfl (gn_ (b:=true) rfl rfl (gn_ (b:=true) rfl rfl (gn_ (b:=true) rfl rfl (pt_ rfl rfl (s_mvB rfl (gn_ (b:=true) rfl rfl (gn_ (b:=true) rfl rfl (gn_ (b:=true) rfl rfl (gn_ (b:=true) rfl rfl (gn_ (b:=true) rfl rfl (gn_ (b:=true) rfl rfl (gn_ (b:=true) rfl rfl (pt_ rfl rfl (e_ (ct_ rfl (q_ rfl (m_ (e_ (rt_ (hQ _ _ _ rfl (h.1 g'1))))))))))))))))))))))))))))))))))))) (fun g'1=>gy_ rfl (f_ rfl (gy_ rfl (l_ rfl (lk_other rfl lk_here) rfl rfl (gy_ rfl (f_ rfl (gy_ rfl (l_ rfl lk_here rfl rfl (gy_ rfl (b_ rfl rfl neq_ (pf_ rfl rfl (s_mvB rfl (em_ (g:=18) rfl (fun g'2=>gn_ (b:=true) rfl rfl (gn_ (b:=true) rfl rfl (gn_ (b:=true) rfl rfl (gn_ (b:=true) rfl rfl (gn_ (b:=true) rfl rfl (pt_ rfl rfl (s_mvB rfl (gn_ (b:=true) rfl rfl (gn_ (b:=true) rfl rfl (gn_ (b:=true) rfl rfl (gn_ (b:=true) rfl rfl (gn_ (b:=true) rfl rfl (pt_ rfl rfl (s_mvB rfl (gn_ (b:=true) rfl rfl (gn_ (b:=true) rfl rfl (gn_ (b:=true) rfl rfl (gn_ (b:=true) rfl rfl (gn_ (b:=true) rfl rfl (gn_ (b:=true) rfl rfl (gn_ (b:=true) rfl rfl (pt_ rfl rfl (e_ (ct_ rfl (q_ rfl (m_ (e_ (rt_ (hQ _ _ _ rfl ((h.2 g'1).1 g'2)))))))))))))))))))))))))))))) (fun g'2=>gy_ rfl (f_ rfl (gy_ rfl (l_ rfl (lk_other rfl lk_here) rfl rfl (gy_ rfl (f_ rfl (gy_ rfl (l_ rfl lk_here rfl rfl (gy_ rfl (b_ rfl rfl sne_ (pf_ rfl rfl (s_mvB rfl (em_ (g:=25) rfl (fun g'3=>gn_ (b:=true) rfl rfl (gn_ (b:=true) rfl rfl (gn_ (b:=true) rfl rfl (gn_ (b:=true) rfl rfl (gn_ (b:=true) rfl rfl (pt_ rfl rfl (s_mvB rfl (gn_ (b:=true) rfl rfl (gn_ (b:=true) rfl rfl (gn_ (b:=true) rfl rfl (gn_ (b:=true) rfl rfl (gn_ (b:=true) rfl rfl (gn_ (b:=true) rfl rfl (gn_ (b:=true) rfl rfl (pt_ rfl rfl (e_ (ct_ rfl (q_ rfl (m_ (e_ (rt_ (hQ _ _ _ rfl (((h.2 g'1).2 g'2).1 g'3))))))))))))))))))))))) (fun g'3=>gy_ rfl (f_ rfl (gy_ rfl (l_ rfl (lk_other rfl lk_here) rfl rfl (gy_ rfl (f_ rfl (gy_ rfl (l_ rfl lk_here rfl rfl (gy_ rfl (s_bne rfl rfl (pf_ rfl rfl (s_mvB rfl (em_ (g:=32) rfl (fun g'4=>gn_ (b:=true) rfl rfl (gn_ (b:=true) rfl rfl (gn_ (b:=true) rfl rfl (gn_ (b:=true) rfl rfl (gn_ (b:=true) rfl rfl (gn_ (b:=true) rfl rfl (gn_ (b:=true) rfl rfl (pt_ rfl rfl (e_ (ct_ rfl (q_ rfl (m_ (e_ (rt_ (hQ _ _ _ rfl ((((h.2 g'1).2 g'2).2 g'3).1 g'4)))))))))))))))) (fun g'4=>gy_ rfl (f_ rfl (gy_ rfl (l_ rfl (lk_other rfl lk_here) rfl rfl (gy_ rfl (ll_ rfl (gy_ rfl (f_ rfl (gy_ rfl (l_ rfl lk_here rfl rfl (gy_ rfl (ll_ rfl (gy_ rfl (b_ rfl rfl neq_ (pf_ rfl rfl (e_ (cs_ rfl (fun g'5=>q_ rfl (m_ (e_ (rt_ (hQ _ _ _ rfl (((((h.2 g'1).2 g'2).2 g'3).2 g'4).1 g'5)))))) (fun g'5=>sk_ (sq_ (q_ rfl (m_ (e_ (bk_ ((((((h.2 g'1).2 g'2).2 g'3).2 g'4).2 g'5) (I78_0 prog d Q ) (fun _ _ _ hb _ _ _ _ H2 H3 H5 B0 B1=>W.loop (w78_1 hQ (fun _ _ _ x=>x) H2 H3 H5 B0 B1 hb)) _ _ _ _ rfl rfl rfl (lk_other rfl lk_here) lk_here))))))))))))))))))))))))))))))))))))))))))))))))))))))))))))))))))))))))))))
end
theorem p78 {prog:Prog}(hf:prog.fn 78 = some pf78){a0:Val}{b1:Val}{K:Bool→Prop}(h:T78_0 prog K a0 b1) :∃res0:Bool,K res0∧Pus prog 78 [a0.av,b1.av] (.b res0):=by
  obtain ⟨v,hv,res0,hk,rfl⟩:=Pus.of (K:=fun v=>∃res0:Bool,K res0∧v = .b res0) hf rfl (w78_0 (σ:=sl0 [a0.av,b1.av]) (fun σ st   res0 H4 hk=>⟨.b res0,by simp only [pf78,ares,aresL,H4,ares1,Option.map_some],_,rfl,res0,hk,rfl⟩) rfl rfl h)
  exact ⟨res0,hk,hv⟩
end Go.AM

/- Parts of the proof. -/
namespace Go.AM
open Go
set_option linter.unusedVariables false
set_option linter.unusedSimpArgs false
set_option maxRecDepth 4000
attribute [local irreducible] WO fillCells fillRows
def r130_0:List AI:=[oC 2 (.s []),
 oC 3 (.b false)]
def r130_1:List AI:=[oC 4 (.i .i64 1)]
def r130_2:List AI:=[oM 8 4,
 oM 9 0,
 oN 10 9,
 oF 11 0 10,
 oL 12 11,
 oO 13 (.len true (.t 12)),
 oB 14 .geq (.t 8) (.t 13),
 oM 7 14]
def r130_3:List AI:=[oC 2 (.s []),
 oC 3 (.b false)]
def r130_4:List AI:=[oM 16 0,
 oN 17 16,
 oF 18 0 17,
 oL 19 18,
 oM 20 4,
 oO 21 (.ixS (.t 19) (.t 20)),
 oB 22 .eql (.t 21) (.c (.i .u8 92)),
 oM 15 22]
def r130_5:List AI:=[oM 23 4,
 oB 24 .add (.t 23) (.c (.i .i64 2)),
 oM 4 24]
def r130_6:List AI:=[oM 26 0,
 oN 27 26,
 oF 28 0 27,
 oL 29 28,
 oM 30 4,
 oO 31 (.ixS (.t 29) (.t 30)),
 oB 32 .neq (.t 31) (.c (.i .u8 34)),
 oM 25 32]
def r130_7:List AI:=[oM 33 4,
 oB 34 .add (.t 33) (.c (.i .i64 1)),
 oM 4 34]
def r130_8:List AI:=[oM 36 0,
 oN 37 36,
 oF 38 0 37,
 oL 39 38,
 oM 40 4,
 oB 41 .add (.t 40) (.c (.i .i64 1)),
 oO 42 (.slS (.t 39) none (some (.t 41))),
 oO 43 (.call false 25 [(.t 42)]),
 oM 35 43,
 oE 44 0 35,
 oE 45 1 35,
 oM 5 44,
 oM 6 45]
def r130_9:List AI:=[oM 46 0,
 oM 47 0,
 oN 48 47,
 oF 49 0 48,
 oL 50 49,
 oM 51 4,
 oB 52 .add (.t 51) (.c (.i .i64 1)),
 oO 53 (.slS (.t 50) (some (.t 52)) none),
 oN 54 46,
 oF 55 0 54,
 oS 1 55 53]
def r130_10:List AI:=[oM 56 5,
 oM 57 6,
 oB 58 .eql (.t 57) (.c (.i .i64 0)),
 oM 2 56,
 oM 3 58]
abbrev l130_0:AC:=(.seq (.block 0 (.seq (.reg 2 r130_2) (.cond (.t 7) (.seq (.reg 3 r130_3) .ret) (.seq (.reg 4 r130_4) (.cond (.t 15) (.seq (.reg 5 r130_5) (.goto 0)) (.seq (.reg 6 r130_6) (.cond (.t 25) (.seq (.reg 7 r130_7) (.goto 0)) .skip))))))) (.seq (.reg 8 r130_8) (.seq (.reg 9 r130_9) (.seq (.reg 10 r130_10) .ret))))
abbrev c130_1:AC:=(.gscope 0 (.reg 1 r130_1) l130_0)
abbrev b130:AC:=(.seq (.reg 0 r130_0) c130_1)
def pf130:AF:={ nt:=59,res:=[.tmp 2,.tmp 3],body:=b130 }
abbrev H130 (d:Nat)(st0:St)(kp:Key)(vp:Nat)(Q:AE→Sl→St→Prop)(K:List UInt8→Bool→Sc→Prop):Prop:=∀(σ:Sl)(st:St)(res0:List UInt8)(res1:Bool)(b_:Sc),σ 2 = .s res0→σ 3 = .b res1→lk st.bx kp = some (vp,[.s b_.left])→Fr d kp st0.bx st0.ow st.bx st.ow→K res0 res1 b_→Q .ret σ st
abbrev I130_0 (prog:Prog)(d:Nat)(Q:AE→Sl→St→Prop)(st0:St)(kp:Key)(vp:Nat)(n4:Int)(mP:Sc):Prop:=
  ∀(σ:Sl)(st:St),σ 0 = .p kp vp 0→σ 4 = .i .i64 n4→lk st.bx kp = some (vp,[.s mP.left])→Fr d kp st0.bx st0.ow st.bx st.ow→WG prog d 0 l130_0 σ st Q
def T130_2 (prog:Prog)(K:List UInt8→Bool→Sc→Prop)(P0:Int→Sc→Prop)(n4:Int)(mP:Sc):Prop:=
  (n4 ≥ (mP.left.length:Int)→K ([]:List UInt8) false mP)∧(¬(n4 ≥ (mP.left.length:Int))→0≤n4∧∃c'2:UInt8,mP.left[(n4).toNat]? = some c'2∧((c'2.toNat:Int) = 92→P0 (IntKind.i64.wrap (n4 + 2)) mP)∧(¬((c'2.toNat:Int) = 92)→0≤n4∧∃c'5:UInt8,mP.left[(n4).toNat]? = some c'5∧((c'5.toNat:Int)≠34→P0 (IntKind.i64.wrap (n4 + 1)) mP)∧(¬((c'5.toNat:Int)≠34)→0≤(IntKind.i64.wrap (n4 + 1))∧(IntKind.i64.wrap (n4 + 1)).toNat≤mP.left.length∧∃r'8:List UInt8,∃r'9:Int,Pus prog 25 [.s (mP.left.take (IntKind.i64.wrap (n4 + 1)).toNat)] (.tup [.s r'8,.i .i64 r'9])∧0≤(IntKind.i64.wrap (n4 + 1))∧(IntKind.i64.wrap (n4 + 1)).toNat≤mP.left.length∧K r'8 (decide (r'9 = 0)) (Sc.mk (mP.left.drop (IntKind.i64.wrap (n4 + 1)).toNat)))))
def T130_1 (prog:Prog)(K:List UInt8→Bool→Sc→Prop)(mP:Sc):Prop:=
  ∀P0:Int→Sc→Prop,(∀(n4:Int)(mP:Sc),T130_2 prog K P0 n4 mP→P0 n4 mP)→P0 1 mP
def T130_0 (prog:Prog)(K:List UInt8→Bool→Sc→Prop)(mP:Sc):Prop:=
  T130_1 prog K mP
section
variable {prog:Prog}{d:Nat}{Q:AE→Sl→St→Prop}{K:List UInt8→Bool→Sc→Prop}{st0:St}{kp:Key}{vp:Nat}(hQ:H130 d st0 kp vp Q K)(hkp:kp.1 < d){σ:Sl}{st:St}
include hQ hkp
theorem w130_2 {n4:Int}{mP:Sc}{P0:Int→Sc→Prop} (kP0 :∀(n4:Int)(mP:Sc),P0 n4 mP→I130_0 prog d Q st0 kp vp n4 mP)(H0:σ 0 = .p kp vp 0)(H4:σ 4 = .i .i64 n4)(BP:lk st.bx kp = some (vp,[.s mP.left]))(FR:Fr d kp st0.bx st0.ow st.bx st.ow)(h:T130_2 prog K P0 n4 mP):W prog d l130_0 σ st (jumpW prog d 0 l130_0 Q):=
 sq_ (bk_ (q_ rfl (m_ (m_ (s_nilP H0 (f_ rfl (l_ rfl BP rfl rfl (ln_ rfl (b_ H4 rfl geq_ (m_ (e_ (cs_ rfl (fun g'1=>q_ rfl (m_ (m_ (e_ (rt_ (hQ _ _ _ _ _ rfl rfl BP FR (h.1 g'1))))))) (fun g'1=>q_ rfl (m_ (s_nilP H0 (f_ rfl (l_ rfl BP rfl rfl (m_ ((h.2 g'1).2.elim fun c'2 e'3=>s_ixS rfl H4 (h.2 g'1).1 e'3.1 (b_ rfl rfl eql_ (m_ (e_ (cs_ rfl (fun g'4=>q_ rfl (m_ (b_ H4 rfl add_ (m_ (e_ (W.goto ⟨rfl,kP0 _ _ (e'3.2.1 g'4) _ _ H0 rfl BP FR⟩)))))) (fun g'4=>q_ rfl (m_ (s_nilP H0 (f_ rfl (l_ rfl BP rfl rfl (m_ ((e'3.2.2 g'4).2.elim fun c'5 e'6=>s_ixS rfl H4 (e'3.2.2 g'4).1 e'6.1 (b_ rfl rfl neq_ (m_ (e_ (cs_ rfl (fun g'7=>q_ rfl (m_ (b_ H4 rfl add_ (m_ (e_ (W.goto ⟨rfl,kP0 _ _ (e'6.2.1 g'7) _ _ H0 rfl BP FR⟩)))))) (fun g'7=>sk_ (q_ rfl (m_ (s_nilP H0 (f_ rfl (l_ rfl BP rfl rfl (m_ (b_ H4 rfl add_ (s_slS_hi rfl rfl (e'6.2.2 g'7).1 (e'6.2.2 g'7).2.1 ((e'6.2.2 g'7).2.2.elim fun r'8 e'11=>e'11.elim fun r'9 e'10=>ca_ (sc rfl rfl sn) e'10.1 (m_ (x_ rfl rfl (x_ rfl rfl (m_ (m_ (e_ (q_ rfl (m_ (m_ (s_nilP H0 (f_ rfl (l_ rfl BP rfl rfl (m_ (b_ H4 rfl add_ (s_slS_lo rfl rfl e'10.2.1 e'10.2.2.1 (s_nilP H0 (f_ rfl (so_ rfl BP rfl rfl rfl (e_ (q_ rfl (m_ (m_ (b_ rfl rfl eql_ (m_ (m_ (e_ (rt_ (hQ _ _ _ _ _ rfl rfl lk_here (Fr.own FR) e'10.2.2.2))))))))))))))))))))))))))))))))))))))))))))))))))))))))))))))))))))))))
theorem w130_1 {mP:Sc}(H0:σ 0 = .p kp vp 0)(BP:lk st.bx kp = some (vp,[.s mP.left]))(FR:Fr d kp st0.bx st0.ow st.bx st.ow)(h:T130_1 prog K mP):W prog d c130_1 σ st Q:=
 W.gscope' (W.reg0 rfl fun _ _=>m_ (e_ (h (I130_0 prog d Q st0 kp vp ) (fun _ _ hb _ _ H0 H4 BP FR=>WG.step (w130_2 hQ hkp (fun _ _ x=>x) H0 H4 BP FR hb)) _ _ H0 rfl BP FR)))
theorem w130_0 {mP:Sc}(H0:σ 0 = .p kp vp 0)(BP:lk st.bx kp = some (vp,[.s mP.left]))(FR:Fr d kp st0.bx st0.ow st.bx st.ow)(h:T130_0 prog K mP):W prog d (.seq (.reg 0 r130_0) c130_1) σ st Q:=
 q_ rfl (m_ (m_ (e_ (w130_1 hQ hkp H0 BP FR h))))
end
theorem p130 {prog:Prog}(hf:prog.fn 130 = some pf130){mP:Sc}{K:List UInt8→Bool→Sc→Prop}(h:T130_0 prog K mP):PuXK prog 130 (Bx [.s mP.left]) [] (fun r (b_:Sc)=>∃res0:List UInt8,∃res1:Bool,(r = .tup [.s res0,.b res1])∧K res0 res1 b_) (fun b_=>(Bx [.s b_.left])):=
  PuXK.of hf rfl (fun _=>Bx.out) fun d st kp vp hkp hB=>w130_0 (st0:=st) (Q:=fun e σ st'=>(e = .normal∨e = .ret)∧∃r b_,ares σ st' pf130.res = some r∧_∧_∧Fr d kp st.bx st.ow st'.bx st'.ow) (fun σ st'   res0 res1 b_ H2 H3 hb hf hk=>⟨.inr rfl,.tup [.s res0,.b res1],b_,by simp only [pf130,ares,aresL,H2,H3,ares1,Option.map_some,H2,H3],⟨res0,res1,rfl,hk⟩,hb,hf⟩) hkp (σ:=sl0 [.p kp vp 0]) rfl hB Fr.refl h
def r131_0:List AI:=[oC 2 (.i .i64 0),
 oC 3 (.b false)]
def r131_1:List AI:=[oC 4 (.i .i64 0)]
def r131_2:List AI:=[oM 7 4,
 oM 8 0,
 oN 9 8,
 oF 10 0 9,
 oL 11 10,
 oO 12 (.len true (.t 11)),
 oB 13 .lss (.t 7) (.t 12),
 oM 14 13,
 oG 15 (.mv (.t 0)) 14 true,
 oG 16 (.nilc (.t 15)) 14 true,
 oG 17 (.fad 0 (.t 16)) 14 true,
 oG 18 (.load 1 false (.t 17)) 14 true,
 oG 19 (.mv (.t 4)) 14 true,
 oG 20 (.ixS (.t 18) (.t 19)) 14 true,
 oG 21 (.bin .geq (.t 20) (.c (.i .u8 48))) 14 true,
 oG 22 (.mv (.t 21)) 14 true,
 oG 23 (.mv (.t 0)) 22 true,
 oG 24 (.nilc (.t 23)) 22 true,
 oG 25 (.fad 0 (.t 24)) 22 true,
 oG 26 (.load 1 false (.t 25)) 22 true,
 oG 27 (.mv (.t 4)) 22 true,
 oG 28 (.ixS (.t 26) (.t 27)) 22 true,
 oG 29 (.bin .leq (.t 28) (.c (.i .u8 57))) 22 true,
 oG 30 (.pick (.t 22) (.t 29) (.c (.b false))) 14 true,
 oG 31 (.mv (.t 30)) 14 true,
 oG 32 (.mv (.t 4)) 31 false,
 oG 33 (.bin .eql (.t 32) (.c (.i .i64 0))) 31 false,
 oG 34 (.mv (.t 33)) 31 false,
 oG 35 (.mv (.t 0)) 34 true,
 oG 36 (.nilc (.t 35)) 34 true,
 oG 37 (.fad 0 (.t 36)) 34 true,
 oG 38 (.load 1 false (.t 37)) 34 true,
 oG 39 (.mv (.t 4)) 34 true,
 oG 40 (.ixS (.t 38) (.t 39)) 34 true,
 oG 41 (.bin .eql (.t 40) (.c (.i .u8 45))) 34 true,
 oG 42 (.pick (.t 34) (.t 41) (.c (.b false))) 31 false,
 oG 43 (.pick (.t 31) (.c (.b true)) (.t 42)) 14 true,
 oO 44 (.pick (.t 14) (.t 43) (.c (.b false)))]
def r131_3:List AI:=[oM 45 4,
 oB 46 .add (.t 45) (.c (.i .i64 1)),
 oM 4 46]
def r131_4:List AI:=[oM 48 0,
 oN 49 48,
 oF 50 0 49,
 oL 51 50,
 oM 52 4,
 oO 53 (.slS (.t 51) none (some (.t 52))),
 oO 54 (.call false 21 [(.t 53)]),
 oM 47 54,
 oE 55 0 47,
 oE 56 1 47,
 oM 5 55,
 oM 6 56]
def r131_5:List AI:=[oM 57 0,
 oM 58 0,
 oN 59 58,
 oF 60 0 59,
 oL 61 60,
 oM 62 4,
 oO 63 (.slS (.t 61) (some (.t 62)) none),
 oN 64 57,
 oF 65 0 64,
 oS 1 65 63]
def r131_6:List AI:=[oM 66 5,
 oM 67 6,
 oB 68 .eql (.t 67) (.c (.i .i64 0)),
 oM 2 66,
 oM 3 68]
abbrev l131_0:AC:=(.seq (.seq (.reg 2 r131_2) (.cond (.t 44) (.seq (.reg 3 r131_3) (.goto 0)) .skip)) (.seq (.reg 4 r131_4) (.seq (.reg 5 r131_5) (.seq (.reg 6 r131_6) .ret))))
abbrev c131_1:AC:=(.gscope 0 (.reg 1 r131_1) l131_0)
abbrev b131:AC:=(.seq (.reg 0 r131_0) c131_1)
def pf131:AF:={ nt:=69,res:=[.tmp 2,.tmp 3],body:=b131 }
abbrev H131 (d:Nat)(st0:St)(kp:Key)(vp:Nat)(Q:AE→Sl→St→Prop)(K:Int→Bool→Sc→Prop):Prop:=∀(σ:Sl)(st:St)(res0:Int)(res1:Bool)(b_:Sc),σ 2 = .i .i64 res0→σ 3 = .b res1→lk st.bx kp = some (vp,[.s b_.left])→Fr d kp st0.bx st0.ow st.bx st.ow→K res0 res1 b_→Q .ret σ st
abbrev I131_0 (prog:Prog)(d:Nat)(Q:AE→Sl→St→Prop)(st0:St)(kp:Key)(vp:Nat)(n4:Int)(mP:Sc):Prop:=
  ∀(σ:Sl)(st:St),σ 0 = .p kp vp 0→σ 4 = .i .i64 n4→lk st.bx kp = some (vp,[.s mP.left])→Fr d kp st0.bx st0.ow st.bx st.ow→WG prog d 0 l131_0 σ st Q
def T131_2 (prog:Prog)(K:Int→Bool→Sc→Prop)(P0:Int→Sc→Prop)(n4:Int)(mP:Sc):Prop:=
  (n4 < (mP.left.length:Int)→0≤n4∧∃c'2:UInt8,mP.left[(n4).toNat]? = some c'2∧((c'2.toNat:Int) ≥ 48→0≤n4∧∃c'5:UInt8,mP.left[(n4).toNat]? = some c'5∧((c'5.toNat:Int)≤57→P0 (IntKind.i64.wrap (n4 + 1)) mP)∧(¬((c'5.toNat:Int)≤57)→(n4 = 0→0≤n4∧∃c'9:UInt8,mP.left[(n4).toNat]? = some c'9∧((c'9.toNat:Int) = 45→P0 (IntKind.i64.wrap (n4 + 1)) mP)∧(¬((c'9.toNat:Int) = 45)→0≤n4∧(n4).toNat≤mP.left.length∧∃r'12:Int,∃r'13:Int,Pus prog 21 [.s (mP.left.take (n4).toNat)] (.tup [.i .i64 r'12,.i .i64 r'13])∧0≤n4∧(n4).toNat≤mP.left.length∧K r'12 (decide (r'13 = 0)) (Sc.mk (mP.left.drop (n4).toNat))))∧(¬(n4 = 0)→0≤n4∧(n4).toNat≤mP.left.length∧∃r'16:Int,∃r'17:Int,Pus prog 21 [.s (mP.left.take (n4).toNat)] (.tup [.i .i64 r'16,.i .i64 r'17])∧0≤n4∧(n4).toNat≤mP.left.length∧K r'16 (decide (r'17 = 0)) (Sc.mk (mP.left.drop (n4).toNat)))))∧(¬((c'2.toNat:Int) ≥ 48)→(n4 = 0→0≤n4∧∃c'21:UInt8,mP.left[(n4).toNat]? = some c'21∧((c'21.toNat:Int) = 45→P0 (IntKind.i64.wrap (n4 + 1)) mP)∧(¬((c'21.toNat:Int) = 45)→0≤n4∧(n4).toNat≤mP.left.length∧∃r'24:Int,∃r'25:Int,Pus prog 21 [.s (mP.left.take (n4).toNat)] (.tup [.i .i64 r'24,.i .i64 r'25])∧0≤n4∧(n4).toNat≤mP.left.length∧K r'24 (decide (r'25 = 0)) (Sc.mk (mP.left.drop (n4).toNat))))∧(¬(n4 = 0)→0≤n4∧(n4).toNat≤mP.left.length∧∃r'28:Int,∃r'29:Int,Pus prog 21 [.s (mP.left.take (n4).toNat)] (.tup [.i .i64 r'28,.i .i64 r'29])∧0≤n4∧(n4).toNat≤mP.left.length∧K r'28 (decide (r'29 = 0)) (Sc.mk (mP.left.drop (n4).toNat)))))∧(¬(n4 < (mP.left.length:Int))→0≤n4∧(n4).toNat≤mP.left.length∧∃r'32:Int,∃r'33:Int,Pus prog 21 [.s (mP.left.take (n4).toNat)] (.tup [.i .i64 r'32,.i .i64 r'33])∧0≤n4∧(n4).toNat≤mP.left.length∧K r'32 (decide (r'33 = 0)) (Sc.mk (mP.left.drop (n4).toNat)))
def T131_1 (prog:Prog)(K:Int→Bool→Sc→Prop)(mP:Sc):Prop:=
  ∀P0:Int→Sc→Prop,(∀(n4:Int)(mP:Sc),T131_2 prog K P0 n4 mP→P0 n4 mP)→P0 0 mP
def T131_0 (prog:Prog)(K:Int→Bool→Sc→Prop)(mP:Sc):Prop:=
  T131_1 prog K mP
section
variable {prog:Prog}{d:Nat}{Q:AE→Sl→St→Prop}{K:Int→Bool→Sc→Prop}{st0:St}{kp:Key}{vp:Nat}(hQ:H131 d st0 kp vp Q K)(hkp:kp.1 < d){σ:Sl}{st:St}
include hQ hkp
theorem w131_2 {n4:Int}{mP:Sc}{P0:Int→Sc→Prop} (kP0 :∀(n4:Int)(mP:Sc),P0 n4 mP→I131_0 prog d Q st0 kp vp n4 mP)(H0:σ 0 = .p kp vp 0)(H4:σ 4 = .i .i64 n4)(BP:lk st.bx kp = some (vp,[.s mP.left]))(FR:Fr d kp st0.bx st0.ow st.bx st.ow)(h:T131_2 prog K P0 n4 mP):W prog d l131_0 σ st (jumpW prog d 0 l131_0 Q):=
 sq_ (q_ rfl (s_mvI H4 (s_mv H0 (s_nilP rfl (f_ rfl (l_ rfl BP rfl rfl (ln_ rfl (b_ rfl rfl lss_ (s_mvB rfl (em_ (g:=14) rfl (fun g'1=>gy_ rfl (s_mv H0 (gy_ rfl (s_nilP rfl (gy_ rfl (f_ rfl (gy_ rfl (l_ rfl BP rfl rfl (gy_ rfl (s_mvI H4 (gy_ rfl ((h.1 g'1).2.elim fun c'2 e'3=>s_ixS rfl rfl (h.1 g'1).1 e'3.1 (gy_ rfl (b_ rfl rfl geq_ (gy_ rfl (s_mvB rfl (em_ (g:=22) rfl (fun g'4=>gy_ rfl (s_mv H0 (gy_ rfl (s_nilP rfl (gy_ rfl (f_ rfl (gy_ rfl (l_ rfl BP rfl rfl (gy_ rfl (s_mvI H4 (gy_ rfl ((e'3.2.1 g'4).2.elim fun c'5 e'6=>s_ixS rfl rfl (e'3.2.1 g'4).1 e'6.1 (gy_ rfl (b_ rfl rfl leq_ (gy_ rfl (pt_ rfl rfl (gy_ rfl (s_mvB rfl (em_ (g:=31) rfl (fun g'7=>gn_ (b:=true) rfl rfl (gn_ (b:=true) rfl rfl (gn_ (b:=true) rfl rfl (gt_ rfl (gt_ rfl (gt_ rfl (gt_ rfl (gt_ rfl (gt_ rfl (gt_ rfl (gn_ (b:=true) rfl rfl (gy_ rfl (pt_ rfl rfl (pt_ rfl rfl (e_ (ct_ rfl (q_ rfl (m_ (b_ H4 rfl add_ (m_ (e_ (W.goto ⟨rfl,kP0 _ _ (e'6.2.1 g'7) _ _ H0 rfl BP FR⟩)))))))))))))))))))))) (fun g'7=>gy_ rfl (s_mvI H4 (gy_ rfl (b_ rfl rfl eql_ (gy_ rfl (s_mvB rfl (em_ (g:=34) rfl (fun g'8=>gy_ rfl (s_mv H0 (gy_ rfl (s_nilP rfl (gy_ rfl (f_ rfl (gy_ rfl (l_ rfl BP rfl rfl (gy_ rfl (s_mvI H4 (gy_ rfl (((e'6.2.2 g'7).1 g'8).2.elim fun c'9 e'10=>s_ixS rfl rfl ((e'6.2.2 g'7).1 g'8).1 e'10.1 (gy_ rfl (b_ rfl rfl eql_ (gy_ rfl (pt_ rfl rfl (gy_ rfl (pf_ rfl rfl (pt_ rfl rfl (e_ (cs_ rfl (fun g'11=>q_ rfl (m_ (b_ H4 rfl add_ (m_ (e_ (W.goto ⟨rfl,kP0 _ _ (e'10.2.1 g'11) _ _ H0 rfl BP FR⟩)))))) (fun g'11=>sk_ (q_ rfl (m_ (s_nilP H0 (f_ rfl (l_ rfl BP rfl rfl (m_ (s_slS_hi rfl H4 (e'10.2.2 g'11).1 (e'10.2.2 g'11).2.1 ((e'10.2.2 g'11).2.2.elim fun r'12 e'15=>e'15.elim fun r'13 e'14=>ca_ (sc rfl rfl sn) e'14.1 (m_ (x_ rfl rfl (x_ rfl rfl (m_ (m_ (e_ (q_ rfl (m_ (m_ (s_nilP H0 (f_ rfl (l_ rfl BP rfl rfl (m_ (s_slS_lo rfl H4 e'14.2.1 e'14.2.2.1 (s_nilP H0 (f_ rfl (so_ rfl BP rfl rfl rfl (e_ (q_ rfl (m_ (m_ (b_ rfl rfl eql_ (m_ (m_ (e_ (rt_ (hQ _ _ _ _ _ rfl rfl lk_here (Fr.own FR) e'14.2.2.2))))))))))))))))))))))))))))))))))))))))))))))))))))))))) (fun g'8=>gn_ (b:=false) rfl rfl (gn_ (b:=false) rfl rfl (gn_ (b:=false) rfl rfl (gn_ (b:=false) rfl rfl (gn_ (b:=false) rfl rfl (gn_ (b:=false) rfl rfl (gn_ (b:=false) rfl rfl (gy_ rfl (pf_ rfl rfl (gy_ rfl (pf_ rfl rfl (pt_ rfl rfl (e_ (cf_ rfl (sk_ (q_ rfl (m_ (s_nilP H0 (f_ rfl (l_ rfl BP rfl rfl (m_ (s_slS_hi rfl H4 ((e'6.2.2 g'7).2 g'8).1 ((e'6.2.2 g'7).2 g'8).2.1 (((e'6.2.2 g'7).2 g'8).2.2.elim fun r'16 e'19=>e'19.elim fun r'17 e'18=>ca_ (sc rfl rfl sn) e'18.1 (m_ (x_ rfl rfl (x_ rfl rfl (m_ (m_ (e_ (q_ rfl (m_ (m_ (s_nilP H0 (f_ rfl (l_ rfl BP rfl rfl (m_ (s_slS_lo rfl H4 e'18.2.1 e'18.2.2.1 (s_nilP H0 (f_ rfl (so_ rfl BP rfl rfl rfl (e_ (q_ rfl (m_ (m_ (b_ rfl rfl eql_ (m_ (m_ (e_ (rt_ (hQ _ _ _ _ _ rfl rfl lk_here (Fr.own FR) e'18.2.2.2)))))))))))))))))))))))))))))))))))))))))))))))))))))))))))))))))))))))))))) (fun g'4=>gn_ (b:=false) rfl rfl (gn_ (b:=false) rfl rfl (gn_ (b:=false) rfl rfl (gn_ (b:=false) rfl rfl (gn_ (b:=false) rfl rfl (gn_ (b:=false) rfl rfl (gn_ (b:=false) rfl rfl (gy_ rfl (pf_ rfl rfl (gy_ rfl (s_mvB rfl (gy_ rfl (s_mvI H4 (gy_ rfl (b_ rfl rfl eql_ (gy_ rfl (s_mvB rfl (em_ (g:=34) rfl (fun g'20=>gy_ rfl (s_mv H0 (gy_ rfl (s_nilP rfl (gy_ rfl (f_ rfl (gy_ rfl (l_ rfl BP rfl rfl (gy_ rfl (s_mvI H4 (gy_ rfl (((e'3.2.2 g'4).1 g'20).2.elim fun c'21 e'22=>s_ixS rfl rfl ((e'3.2.2 g'4).1 g'20).1 e'22.1 (gy_ rfl (b_ rfl rfl eql_ (gy_ rfl (pt_ rfl rfl (gy_ rfl (pf_ rfl rfl (pt_ rfl rfl (e_ (cs_ rfl (fun g'23=>q_ rfl (m_ (b_ H4 rfl add_ (m_ (e_ (W.goto ⟨rfl,kP0 _ _ (e'22.2.1 g'23) _ _ H0 rfl BP FR⟩)))))) (fun g'23=>sk_ (q_ rfl (m_ (s_nilP H0 (f_ rfl (l_ rfl BP rfl rfl (m_ (s_slS_hi rfl H4 (e'22.2.2 g'23).1 (e'22.2.2 g'23).2.1 ((e'22.2.2 g'23).2.2.elim fun r'24 e'27=>e'27.elim fun r'25 e'26=>ca_ (sc rfl rfl sn) e'26.1 (m_ (x_ rfl rfl (x_ rfl rfl (m_ (m_ (e_ (q_ rfl (m_ (m_ (s_nilP H0 (f_ rfl (l_ rfl BP rfl rfl (m_ (s_slS_lo rfl H4 e'26.2.1 e'26.2.2.1 (s_nilP H0 (f_ rfl (so_ rfl BP rfl rfl rfl (e_ (q_ rfl (m_ (m_ (b_ rfl rfl eql_ (m_ (m_ (e_ (rt_ (hQ _ _ _ _ _ rfl rfl lk_here (Fr.own FR) e'26.2.2.2))))))))))))))))))))))))))))))))))))))))))))))))))))))))) (fun g'20=>gn_ (b:=false) rfl rfl (gn_ (b:=false) rfl rfl (gn_ (b:=false) rfl rfl (gn_ (b:=false) rfl rfl (gn_ (b:=false) rfl rfl (gn_ (b:=false) rfl rfl (gn_ (b:=false) rfl rfl (gy_ rfl (pf_ rfl rfl (gy_ rfl (pf_ rfl rfl (pt_ rfl rfl (e_ (cf_ rfl (sk_ (q_ rfl (m_ (s_nilP H0 (f_ rfl (l_ rfl BP rfl rfl (m_ (s_slS_hi rfl H4 ((e'3.2.2 g'4).2 g'20).1 ((e'3.2.2 g'4).2 g'20).2.1 (((e'3.2.2 g'4).2 g'20).2.2.elim fun r'28 e'31=>e'31.elim fun r'29 e'30=>ca_ (sc rfl rfl sn) e'30.1 (m_ (x_ rfl rfl (x_ rfl rfl (m_ (m_ (e_ (q_ rfl (m_ (m_ (s_nilP H0 (f_ rfl (l_ rfl BP rfl rfl (m_ (s_slS_lo rfl H4 e'30.2.1 e'30.2.2.1 (s_nilP H0 (f_ rfl (so_ rfl BP rfl rfl rfl (e_ (q_ rfl (m_ (m_ (b_ rfl rfl eql_ (m_ (m_ (e_ (rt_ (hQ _ _ _ _ _ rfl rfl lk_here (Fr.own FR) e'30.2.2.2))))))))))))))))))))))))))))))))))))))))))))))))))))))))))))))))))))))))))))))))))))) (fun g'1=>gn_ (b:=false) rfl rfl (gn_ (b:=false) rfl rfl (gn_ (b:=false) rfl rfl (gn_ (b:=false) rfl rfl (gn_ (b:=false) rfl rfl (gn_ (b:=false) rfl rfl (gn_ (b:=false) rfl rfl (gn_ (b:=false) rfl rfl (gt_ rfl (gt_ rfl (gt_ rfl (gt_ rfl (gt_ rfl (gt_ rfl (gt_ rfl (gn_ (b:=false) rfl rfl (gn_ (b:=false) rfl rfl (gt_ rfl (gt_ rfl (gt_ rfl (gt_ rfl (gt_ rfl (gt_ rfl (gt_ rfl (gt_ rfl (gt_ rfl (gt_ rfl (gt_ rfl (gn_ (b:=false) rfl rfl (pf_ rfl rfl (e_ (cf_ rfl (sk_ (q_ rfl (m_ (s_nilP H0 (f_ rfl (l_ rfl BP rfl rfl (m_ (s_slS_hi rfl H4 (h.2 g'1).1 (h.2 g'1).2.1 ((h.2 g'1).2.2.elim fun r'32 e'35=>e'35.elim fun r'33 e'34=>ca_ (sc rfl rfl sn) e'34.1 (m_ (x_ rfl rfl (x_ rfl rfl (m_ (m_ (e_ (q_ rfl (m_ (m_ (s_nilP H0 (f_ rfl (l_ rfl BP rfl rfl (m_ (s_slS_lo rfl H4 e'34.2.1 e'34.2.2.1 (s_nilP H0 (f_ rfl (so_ rfl BP rfl rfl rfl (e_ (q_ rfl (m_ (m_ (b_ rfl rfl eql_ (m_ (m_ (e_ (rt_ (hQ _ _ _ _ _ rfl rfl lk_here (Fr.own FR) e'34.2.2.2))))))))))))))))))))))))))))))))))))))))))))))))))))))))))))))))))))))))))))))
theorem w131_1 {mP:Sc}(H0:σ 0 = .p kp vp 0)(BP:lk st.bx kp = some (vp,[.s mP.left]))(FR:Fr d kp st0.bx st0.ow st.bx st.ow)(h:T131_1 prog K mP):W prog d c131_1 σ st Q:=
 W.gscope' (W.reg0 rfl fun _ _=>m_ (e_ (h (I131_0 prog d Q st0 kp vp ) (fun _ _ hb _ _ H0 H4 BP FR=>WG.step (w131_2 hQ hkp (fun _ _ x=>x) H0 H4 BP FR hb)) _ _ H0 rfl BP FR)))
theorem w131_0 {mP:Sc}(H0:σ 0 = .p kp vp 0)(BP:lk st.bx kp = some (vp,[.s mP.left]))(FR:Fr d kp st0.bx st0.ow st.bx st.ow)(h:T131_0 prog K mP):W prog d (.seq (.reg 0 r131_0) c131_1) σ st Q:=
 q_ rfl (m_ (m_ (e_ (w131_1 hQ hkp H0 BP FR h))))
end
theorem p131 {prog:Prog}(hf:prog.fn 131 = some pf131){mP:Sc}{K:Int→Bool→Sc→Prop}(h:T131_0 prog K mP):PuXK prog 131 (Bx [.s mP.left]) [] (fun r (b_:Sc)=>∃res0:Int,∃res1:Bool,(r = .tup [.i .i64 res0,.b res1])∧K res0 res1 b_) (fun b_=>(Bx [.s b_.left])):=
  PuXK.of hf rfl (fun _=>Bx.out) fun d st kp vp hkp hB=>w131_0 (st0:=st) (Q:=fun e σ st'=>(e = .normal∨e = .ret)∧∃r b_,ares σ st' pf131.res = some r∧_∧_∧Fr d kp st.bx st.ow st'.bx st'.ow) (fun σ st'   res0 res1 b_ H2 H3 hb hf hk=>⟨.inr rfl,.tup [.i .i64 res0,.b res1],b_,by simp only [pf131,ares,aresL,H2,H3,ares1,Option.map_some,H2,H3],⟨res0,res1,rfl,hk⟩,hb,hf⟩) hkp (σ:=sl0 [.p kp vp 0]) rfl hB Fr.refl h
abbrev H66 (Q:AE→Sl→St→Prop)(K:Bool→Prop):Prop:=∀(σ:Sl)(st:St)(res0:Bool),σ 4 = .b res0→K res0→Q .ret σ st
section
variable {prog:Prog}{d:Nat}{Q:AE→Sl→St→Prop}{K:Bool→Prop}(hQ:H66 Q K){σ:Sl}{st:St}
include hQ
end
end Go.AM

/- Parts of the proof. -/
namespace Go.AM
open Go
set_option linter.unusedVariables false
set_option linter.unusedSimpArgs false
set_option maxRecDepth 4000
attribute [local irreducible] WO fillCells fillRows
def r111_0:List AI:=[oC 2 (.s [])]
def r111_1:List AI:=[oM 3 0,
 oO 4 (.call false 15 [(.t 3)]),
 oM 2 4]
abbrev b111:AC:=(.seq (.reg 0 r111_0) (.seq (.reg 1 r111_1) .ret))
def pf111:AF:={ nt:=5,res:=[.tmp 2],body:=b111 }
abbrev H111 (Q:AE→Sl→St→Prop)(K:List UInt8→Prop):Prop:=∀(σ:Sl)(st:St)(res0:List UInt8),σ 2 = .s res0→K res0→Q .ret σ st
def T111_0 (prog:Prog)(K:List UInt8→Prop)(n0:Int):Prop:=
  ∃r'1:List UInt8,Pus prog 15 [.i .i64 n0] (.s r'1)∧K r'1
section
variable {prog:Prog}{d:Nat}{Q:AE→Sl→St→Prop}{K:List UInt8→Prop}(hQ:H111 Q K){σ:Sl}{st:St}
include hQ
theorem w111_0 {n0:Int}(H0:σ 0 = .i .i64 n0)(h:T111_0 prog K n0):W prog d (.seq (.reg 0 r111_0) (.seq (.reg 1 r111_1) .ret)) σ st Q:=
 q_ rfl (m_ (e_ (q_ rfl (m_ (h.elim fun r'1 e'2=>ca_ (sc H0 rfl sn) e'2.1 (m_ (e_ (rt_ (hQ _ _ _ rfl e'2.2)))))))))
end
theorem p111 {prog:Prog}(hf:prog.fn 111 = some pf111){n0:Int}{K:List UInt8→Prop}(h:T111_0 prog K n0) :∃res0:List UInt8,K res0∧Pus prog 111 [.i .i64 n0] (.s res0):=by
  obtain ⟨v,hv,res0,hk,rfl⟩:=Pus.of (K:=fun v=>∃res0:List UInt8,K res0∧v = .s res0) hf rfl (w111_0 (σ:=sl0 [.i .i64 n0]) (fun σ st   res0 H2 hk=>⟨.s res0,by simp only [pf111,ares,aresL,H2,ares1,Option.map_some],_,rfl,res0,hk,rfl⟩) rfl h)
  exact ⟨res0,hk,hv⟩
def r112_0:List AI:=[oC 2 (.s [])]
def r112_1:List AI:=[oM 6 0,
 oO 7 (.call false 11 [(.t 6)]),
 oM 5 7,
 oE 8 0 5,
 oE 9 1 5,
 oM 3 8,
 oM 4 9]
def r112_2:List AI:=[oM 10 3,
 oM 2 10]
abbrev b112:AC:=(.seq (.reg 0 r112_0) (.seq (.reg 1 r112_1) (.seq (.reg 2 r112_2) .ret)))
def pf112:AF:={ nt:=11,res:=[.tmp 2],body:=b112 }
abbrev H112 (Q:AE→Sl→St→Prop)(K:List UInt8→Prop):Prop:=∀(σ:Sl)(st:St)(res0:List UInt8),σ 2 = .s res0→K res0→Q .ret σ st
def T112_0 (prog:Prog)(K:List UInt8→Prop)(s0:List UInt8):Prop:=
  ∃r'1:List UInt8,∃r'2:Int,Pus prog 11 [.s s0] (.tup [.s r'1,.i .i64 r'2])∧K r'1
section
variable {prog:Prog}{d:Nat}{Q:AE→Sl→St→Prop}{K:List UInt8→Prop}(hQ:H112 Q K){σ:Sl}{st:St}
include hQ
theorem w112_0 {s0:List UInt8}(H0:σ 0 = .s s0)(h:T112_0 prog K s0):W prog d (.seq (.reg 0 r112_0) (.seq (.reg 1 r112_1) (.seq (.reg 2 r112_2) .ret))) σ st Q:=
 q_ rfl (m_ (e_ (q_ rfl (m_ (h.elim fun r'1 e'4=>e'4.elim fun r'2 e'3=>ca_ (sc H0 rfl sn) e'3.1 (m_ (x_ rfl rfl (x_ rfl rfl (m_ (m_ (e_ (q_ rfl (m_ (m_ (e_ (rt_ (hQ _ _ _ rfl e'3.2)))))))))))))))))
end
theorem p112 {prog:Prog}(hf:prog.fn 112 = some pf112){s0:List UInt8}{K:List UInt8→Prop}(h:T112_0 prog K s0) :∃res0:List UInt8,K res0∧Pus prog 112 [.s s0] (.s res0):=by
  obtain ⟨v,hv,res0,hk,rfl⟩:=Pus.of (K:=fun v=>∃res0:List UInt8,K res0∧v = .s res0) hf rfl (w112_0 (σ:=sl0 [.s s0]) (fun σ st   res0 H2 hk=>⟨.s res0,by simp only [pf112,ares,aresL,H2,ares1,Option.map_some],_,rfl,res0,hk,rfl⟩) rfl h)
  exact ⟨res0,hk,hv⟩
def r113_0:List AI:=[oO 0 (.alloc [.s [],.s [],.s [],.s []])]
def r113_1:List AI:=[oO 1 (.build [.s [],.s [],.s [],.s []] [(0,1,(.c (.s [99,97,108,108]))),(1,1,(.c (.s [100,101,102,101,114]))),(2,1,(.c (.s [112,97,110,105,99]))),(3,1,(.c (.s [101,120,105,116])))]),
 oS 4 0 1]
abbrev b113:AC:=(.seq (.reg 0 r113_0) (.seq (.reg 1 r113_1) .ret))
def pf113:AF:={ nt:=2,res:=[.cell 0 4 true],body:=b113 }
abbrev H113 (Q:AE→Sl→St→Prop)(K:List (List UInt8)→Prop):Prop:=∀(σ:Sl)(st:St)(k0:Key)(v0:Nat)(res0:List (List UInt8)),σ 0 = .p k0 v0 0→lk st.bx k0 = some (v0,List.map AV.s res0)→res0.length = 4→K res0→Q .ret σ st
def T113_0 (prog:Prog)(K:List (List UInt8)→Prop) :Prop:=
  K [([99,97,108,108]:List UInt8),([100,101,102,101,114]:List UInt8),([112,97,110,105,99]:List UInt8),([101,120,105,116]:List UInt8)]
section
variable {prog:Prog}{d:Nat}{Q:AE→Sl→St→Prop}{K:List (List UInt8)→Prop}(hQ:H113 Q K){σ:Sl}{st:St}
include hQ
theorem w113_0 (h:T113_0 prog K ):W prog d (.seq (.reg 0 r113_0) (.seq (.reg 1 r113_1) .ret)) σ st Q:=
 sq_ (W.reg (s_alloc (e_ (q_ rfl (s_buildM (f:=AV.s) (l:=[([99,97,108,108]:List UInt8),([100,101,102,101,114]:List UInt8),([112,97,110,105,99]:List UInt8),([101,120,105,116]:List UInt8)]) (f_cons rfl rfl (f_cons rfl rfl (f_cons rfl rfl (f_cons rfl rfl f_nil)))) rfl (s_storeArr (f:=AV.s) (fun _=>rfl) rfl (show lk _ (d,0) = some (_,(List.map AV.s (List.replicate 4 ([]:List UInt8)):List AV)) from lk_here) (by simp) rfl rfl (e_ (rt_ (hQ _ _ _ _ _ rfl lk_here (by simp) h)))))))))
end
theorem p113 {prog:Prog}(hf:prog.fn 113 = some pf113)  {K:List (List UInt8)→Prop}(h:T113_0 prog K ) :∃res0:List (List UInt8),K res0∧Pus prog 113 [] (.ag (List.map AV.s res0)):=by
  obtain ⟨v,hv,res0,hk,rfl⟩:=Pus.of (K:=fun v=>∃res0:List (List UInt8),K res0∧v = .ag (List.map AV.s res0)) hf rfl (w113_0 (σ:=sl0 []) (fun σ st k0 v0  res0 H0 HB0 HL0 hk=>⟨.ag (List.map AV.s res0),by simp only [pf113,ares,aresL,ares_cellA (n:=4) H0 HB0 (by simpa using HL0),ares_tmp,Option.map_some],_,strip_ag AV.s (fun _=>rfl) _,res0,hk,rfl⟩)  h)
  exact ⟨res0,hk,hv⟩
def r115_0:List AI:=[oC 4 (.b false)]
def r115_1:List AI:=[oM 5 0,
 oM 6 1,
 oO 7 (.call true 139 [(.t 5),(.t 6)]),
 oB 8 .geq (.t 7) (.c (.i .i64 0)),
 oM 4 8]
abbrev b115:AC:=(.seq (.reg 0 r115_0) (.seq (.reg 1 r115_1) .ret))
def pf115:AF:={ nt:=9,res:=[.tmp 4],body:=b115 }
abbrev H115 (d:Nat)(st0:St)(Q:AE→Sl→St→Prop)(K:Bool→Prop):Prop:=∀(σ:Sl)(st:St)(res0:Bool),σ 4 = .b res0→Fr d (d,0) st0.bx st0.ow st.bx st.ow→K res0→Q .ret σ st
def T115_0 (prog:Prog)(K:Bool→Prop)(s0:List (List UInt8))(f1:Nat × List AV):Prop:=
  ∃r'1:Int,(∀q'3:Own,PuN prog 139 [.sl q'3 (List.map rowS s0),.fn f1.1 f1.2] (fun r=>r = .i .i64 r'1))∧K (decide (r'1 ≥ 0))
section
variable {prog:Prog}{d:Nat}{Q:AE→Sl→St→Prop}{K:Bool→Prop}{st0:St}(hQ:H115 d st0 Q K){σ:Sl}{st:St}
include hQ
theorem w115_0 {s0:List (List UInt8)}{f1:Nat × List AV}{o_s0:Own}(H0:σ 0 = .sl o_s0 (List.map rowS s0))(H1:σ 1 = .fn f1.1 f1.2)(FR:Fr d (d,0) st0.bx st0.ow st.bx st.ow)(h:T115_0 prog K s0 f1):W prog d (.seq (.reg 0 r115_0) (.seq (.reg 1 r115_1) .ret)) σ st Q:=
 q_ rfl (m_ (e_ (q_ rfl (s_mvL H0 (m_ (h.elim fun r'1 e'4=>s_callN (sec rfl (sec H1 sen)) (e'4.1 _) (fun st'5 hf'6=>b_ rfl rfl geq_ (m_ (e_ (rt_ (hQ _ _ _ rfl (Fr.raw FR hf'6) e'4.2)))))))))))
end
theorem p115 {prog:Prog}(hf:prog.fn 115 = some pf115){s0:List (List UInt8)}{f1:Nat × List AV}{K:Bool→Prop}(h:T115_0 prog K s0 f1)(o_s0:Own):PuN prog 115 [.sl o_s0 (List.map rowS s0),.fn f1.1 f1.2] (fun r=>∃res0:Bool,(r = .b res0)∧K res0):=
  PuN.of hf rfl fun d st=>w115_0 (st0:=st) (Q:=fun e σ st'=>(e = .normal∨e = .ret)∧∃r,ares σ st' pf115.res = some r∧_∧Fr d (d,0) st.bx st.ow st'.bx st'.ow) (fun σ st'   res0 H4 hf hk=>⟨.inr rfl,.b res0,by simp only [pf115,ares,aresL,H4,ares1,Option.map_some,H4],⟨res0,rfl,hk⟩,hf⟩) (σ:=sl0 [.sl o_s0 (List.map rowS s0),.fn f1.1 f1.2]) rfl rfl Fr.refl h
def r116_0:List AI:=[oC 2 (.b false)]
def r116_1:List AI:=[oM 3 0,
 oO 4 (.len true (.t 3)),
 oB 5 .gtr (.t 4) (.c (.i .i64 1400060)),
 oM 2 5]
abbrev b116:AC:=(.seq (.reg 0 r116_0) (.seq (.reg 1 r116_1) .ret))
def pf116:AF:={ nt:=6,res:=[.tmp 2],body:=b116 }
abbrev H116 (d:Nat)(st0:St)(Q:AE→Sl→St→Prop)(K:Bool→Prop):Prop:=∀(σ:Sl)(st:St)(res0:Bool),σ 2 = .b res0→Fr d (d,0) st0.bx st0.ow st.bx st.ow→K res0→Q .ret σ st
def T116_0 (prog:Prog)(K:Bool→Prop)(s0:List UInt8):Prop:=
  K (decide ((s0.length:Int) > 1400060))
section
variable {prog:Prog}{d:Nat}{Q:AE→Sl→St→Prop}{K:Bool→Prop}{st0:St}(hQ:H116 d st0 Q K){σ:Sl}{st:St}
include hQ
theorem w116_0 {s0:List UInt8}(H0:σ 0 = .s s0)(FR:Fr d (d,0) st0.bx st0.ow st.bx st.ow)(h:T116_0 prog K s0):W prog d (.seq (.reg 0 r116_0) (.seq (.reg 1 r116_1) .ret)) σ st Q:=
 q_ rfl (m_ (e_ (q_ rfl (m_ (ln_ H0 (b_ rfl rfl gtr_ (m_ (e_ (rt_ (hQ _ _ _ rfl FR h))))))))))
end
theorem p116 {prog:Prog}(hf:prog.fn 116 = some pf116){s0:List UInt8}{K:Bool→Prop}(h:T116_0 prog K s0):PuN prog 116 [.s s0] (fun r=>∃res0:Bool,(r = .b res0)∧K res0):=
  PuN.of hf rfl fun d st=>w116_0 (st0:=st) (Q:=fun e σ st'=>(e = .normal∨e = .ret)∧∃r,ares σ st' pf116.res = some r∧_∧Fr d (d,0) st.bx st.ow st'.bx st'.ow) (fun σ st'   res0 H2 hf hk=>⟨.inr rfl,.b res0,by simp only [pf116,ares,aresL,H2,ares1,Option.map_some,H2],⟨res0,rfl,hk⟩,hf⟩) (σ:=sl0 [.s s0]) rfl Fr.refl h
def r139_0:List AI:=[oC 4 (.i .i64 0)]
def r139_1:List AI:=[oM 6 0,
 oO 7 (.len false (.t 6)),
 oC 8 (.i .i64 0)]
def r139_2:List AI:=[oB 9 .lss (.t 8) (.t 7)]
def r139_3:List AI:=[oM 10 8,
 oM 5 10]
def r139_4:List AI:=[oM 11 1,
 oM 12 0,
 oM 13 5,
 oO 14 (.iaL 1 (.t 12) (.t 13)),
 oL 15 14,
 oO 16 (.callv (.t 11) [(.t 15)])]
def r139_5:List AI:=[oM 17 5,
 oM 4 17]
def r139_6:List AI:=[oB 18 .add (.t 8) (.c (.i .i64 1)),
 oM 8 18]
def r139_7:List AI:=[oC 4 (.i .i64 (-1))]
abbrev l139_0:AC:=(.seq (.reg 2 r139_2) (.seq (.cond (.t 9) .skip (.exit 0)) (.seq (.block 1 (.seq (.reg 3 r139_3) (.seq (.reg 4 r139_4) (.cond (.t 16) (.seq (.reg 5 r139_5) .ret) .skip)))) (.reg 6 r139_6))))
abbrev c139_1:AC:=(.seq (.reg 7 r139_7) .ret)
abbrev b139:AC:=(.seq (.reg 0 r139_0) (.seq (.seq (.reg 1 r139_1) (.block 0 (.loop l139_0))) c139_1))
def pf139:AF:={ nt:=19,res:=[.tmp 4],body:=b139 }
abbrev H139 (d:Nat)(st0:St)(Q:AE→Sl→St→Prop)(K:Int→Prop):Prop:=∀(σ:Sl)(st:St)(res0:Int),σ 4 = .i .i64 res0→Fr d (d,0) st0.bx st0.ow st.bx st.ow→K res0→Q .ret σ st
abbrev I139_0 (prog:Prog)(d:Nat)(Q:AE→Sl→St→Prop)(st0:St)(s0:List (List UInt8))(f1:Nat × List AV)(t7:Int)(t8:Int):Prop:=
  ∀(σ:Sl)(st:St)(o_s0:Own),σ 0 = .sl o_s0 (List.map rowS s0)→σ 1 = .fn f1.1 f1.2→σ 7 = .i .i64 t7→σ 8 = .i .i64 t8→Fr d (d,0) st0.bx st0.ow st.bx st.ow→W prog d (.loop l139_0) σ st (blockW 0 (thenW prog d c139_1 Q))
def T139_2 (prog:Prog)(K:Int→Prop) :Prop:=
  K (-1)
def T139_1 (prog:Prog)(K:Int→Prop)(P0:Int→Prop)(s0:List (List UInt8))(f1:Nat × List AV)(t7:Int)(t8:Int):Prop:=
  (t8 < t7→0≤t8∧∃c'2:List UInt8,s0[(t8).toNat]? = some c'2∧∃r'4:Bool,(PuN prog f1.1 ([.s c'2] ++ f1.2) (fun r=>r = .b r'4))∧(r'4 = true→K t8)∧(r'4 = false→P0 (IntKind.i64.wrap (t8 + 1))))∧(¬(t8 < t7)→T139_2 prog K )
def T139_0 (prog:Prog)(K:Int→Prop)(s0:List (List UInt8))(f1:Nat × List AV):Prop:=
  ∀P0:Int→Prop,(∀(t8:Int),T139_1 prog K P0 s0 f1 (s0.length:Int) t8→P0 t8)→P0 0
section
variable {prog:Prog}{d:Nat}{Q:AE→Sl→St→Prop}{K:Int→Prop}{st0:St}(hQ:H139 d st0 Q K){σ:Sl}{st:St}
include hQ
theorem w139_2 (FR:Fr d (d,0) st0.bx st0.ow st.bx st.ow)(h:T139_2 prog K ):W prog d c139_1 σ st Q:=
 q_ rfl (m_ (e_ (rt_ (hQ _ _ _ rfl FR h))))
theorem w139_1 {s0:List (List UInt8)}{f1:Nat × List AV}{t7 t8:Int}{P0:Int→Prop} (kP0 :∀(t8:Int),P0 t8→I139_0 prog d Q st0 s0 f1 t7 t8){o_s0:Own}(H0:σ 0 = .sl o_s0 (List.map rowS s0))(H1:σ 1 = .fn f1.1 f1.2)(H7:σ 7 = .i .i64 t7)(H8:σ 8 = .i .i64 t8)(FR:Fr d (d,0) st0.bx st0.ow st.bx st.ow)(h:T139_1 prog K P0 s0 f1 t7 t8):W prog d l139_0 σ st (thenW prog d (.loop l139_0) (blockW 0 (thenW prog d c139_1 Q))):=
 q_ rfl (b_ H8 H7 lss_ (e_ (sq_ (cs_ rfl (fun g'1=>sk_ (sq_ (bk_ (q_ rfl (m_ (m_ (e_ (q_ rfl (m_ (s_mvL H0 (m_ ((h.1 g'1).2.elim fun c'2 e'3=>ia_ rfl H8 (h.1 g'1).1 e'3.1 rfl rfl (lf_ rfl rfl rfl (e'3.2.elim fun r'4 e'6=>s_callV H1 (sec rfl sen) (e'6.1) (fun st'7 hf'8=>e_ (cb_ rfl (fun g'9=>q_ rfl (m_ (m_ (e_ (rt_ (hQ _ _ _ H8 (Fr.raw FR hf'8) (e'6.2.1 g'9))))))) (fun g'9=>sk_ (W.reg0 rfl fun _ _=>b_ H8 rfl add_ (m_ (e_ (kP0 _ (e'6.2.2 g'9) _ _ _ H0 H1 H7 rfl (Fr.raw FR hf'8)))))))))))))))))))))) (fun g'1=>ex_ (w139_2 hQ FR (h.2 g'1)))))))
theorem w139_0 {s0:List (List UInt8)}{f1:Nat × List AV}{o_s0:Own}(H0:σ 0 = .sl o_s0 (List.map rowS s0))(H1:σ 1 = .fn f1.1 f1.2)(FR:Fr d (d,0) st0.bx st0.ow st.bx st.ow)(h:T139_0 prog K s0 f1):W prog d (.seq (.reg 0 r139_0) (.seq (.seq (.reg 1 r139_1) (.block 0 (.loop l139_0))) c139_1)) σ st Q:=
 q_ rfl (m_ (e_ (sq_ (q_ rfl (s_mvL H0 (ll_ rfl (m_ (e_ (bk_ (h (I139_0 prog d Q st0 s0 f1 (s0.length:Int)) (fun _ hb _ _ _ H0 H1 H7 H8 FR=>W.loop (w139_1 hQ (fun _ x=>x) H0 H1 H7 H8 FR hb)) _ _ _ H0 H1 rfl rfl FR))))))))))
end
theorem p139 {prog:Prog}(hf:prog.fn 139 = some pf139){s0:List (List UInt8)}{f1:Nat × List AV}{K:Int→Prop}(h:T139_0 prog K s0 f1)(o_s0:Own):PuN prog 139 [.sl o_s0 (List.map rowS s0),.fn f1.1 f1.2] (fun r=>∃res0:Int,(r = .i .i64 res0)∧K res0):=
  PuN.of hf rfl fun d st=>w139_0 (st0:=st) (Q:=fun e σ st'=>(e = .normal∨e = .ret)∧∃r,ares σ st' pf139.res = some r∧_∧Fr d (d,0) st.bx st.ow st'.bx st'.ow) (fun σ st'   res0 H4 hf hk=>⟨.inr rfl,.i .i64 res0,by simp only [pf139,ares,aresL,H4,ares1,Option.map_some,H4],⟨res0,rfl,hk⟩,hf⟩) (σ:=sl0 [.sl o_s0 (List.map rowS s0),.fn f1.1 f1.2]) rfl rfl Fr.refl h
def r122_0:List AI:=[oC 4 (.b false)]
def r122_1:List AI:=[oM 5 0,
 oM 6 1,
 oO 7 (.call true 144 [(.t 5),(.t 6)]),
 oB 8 .geq (.t 7) (.c (.i .i64 0)),
 oM 4 8]
abbrev b122:AC:=(.seq (.reg 0 r122_0) (.seq (.reg 1 r122_1) .ret))
def pf122:AF:={ nt:=9,res:=[.tmp 4],body:=b122 }
abbrev H122 (d:Nat)(st0:St)(Q:AE→Sl→St→Prop)(K:Bool→Prop):Prop:=∀(σ:Sl)(st:St)(res0:Bool),σ 4 = .b res0→Fr d (d,0) st0.bx st0.ow st.bx st.ow→K res0→Q .ret σ st
def T122_0 (prog:Prog)(K:Bool→Prop)(s0:List Fld)(f1:Nat × List AV):Prop:=
  ∃r'1:Int,(∀q'3:Own,PuN prog 144 [.sl q'3 (List.map Fld.row s0),.fn f1.1 f1.2] (fun r=>r = .i .i64 r'1))∧K (decide (r'1 ≥ 0))
section
variable {prog:Prog}{d:Nat}{Q:AE→Sl→St→Prop}{K:Bool→Prop}{st0:St}(hQ:H122 d st0 Q K){σ:Sl}{st:St}
include hQ
theorem w122_0 {s0:List Fld}{f1:Nat × List AV}{o_s0:Own}(H0:σ 0 = .sl o_s0 (List.map Fld.row s0))(H1:σ 1 = .fn f1.1 f1.2)(FR:Fr d (d,0) st0.bx st0.ow st.bx st.ow)(h:T122_0 prog K s0 f1):W prog d (.seq (.reg 0 r122_0) (.seq (.reg 1 r122_1) .ret)) σ st Q:=
 q_ rfl (m_ (e_ (q_ rfl (s_mvL H0 (m_ (h.elim fun r'1 e'4=>s_callN (sec rfl (sec H1 sen)) (e'4.1 _) (fun st'5 hf'6=>b_ rfl rfl geq_ (m_ (e_ (rt_ (hQ _ _ _ rfl (Fr.raw FR hf'6) e'4.2)))))))))))
end
theorem p122 {prog:Prog}(hf:prog.fn 122 = some pf122){s0:List Fld}{f1:Nat × List AV}{K:Bool→Prop}(h:T122_0 prog K s0 f1)(o_s0:Own):PuN prog 122 [.sl o_s0 (List.map Fld.row s0),.fn f1.1 f1.2] (fun r=>∃res0:Bool,(r = .b res0)∧K res0):=
  PuN.of hf rfl fun d st=>w122_0 (st0:=st) (Q:=fun e σ st'=>(e = .normal∨e = .ret)∧∃r,ares σ st' pf122.res = some r∧_∧Fr d (d,0) st.bx st.ow st'.bx st'.ow) (fun σ st'   res0 H4 hf hk=>⟨.inr rfl,.b res0,by simp only [pf122,ares,aresL,H4,ares1,Option.map_some,H4],⟨res0,rfl,hk⟩,hf⟩) (σ:=sl0 [.sl o_s0 (List.map Fld.row s0),.fn f1.1 f1.2]) rfl rfl Fr.refl h
def r123_0:List AI:=[oO 1 (.box 2 (.t 0)),
 oC 2 (.b false)]
def r123_1:List AI:=[oF 3 0 1,
 oL 4 3,
 oO 5 (.len true (.t 4)),
 oB 6 .gtr (.t 5) (.c (.i .i64 16)),
 oM 2 6]
abbrev b123:AC:=(.seq (.reg 0 r123_0) (.seq (.reg 1 r123_1) .ret))
def pf123:AF:={ nt:=7,res:=[.tmp 2],body:=b123 }
abbrev H123 (d:Nat)(st0:St)(Q:AE→Sl→St→Prop)(K:Bool→Prop):Prop:=∀(σ:Sl)(st:St)(res0:Bool),σ 2 = .b res0→Fr d (d,0) st0.bx st0.ow st.bx st.ow→K res0→Q .ret σ st
def T123_0 (prog:Prog)(K:Bool→Prop)(s0:Fld):Prop:=
  K (decide ((s0.name.length:Int) > 16))
section
variable {prog:Prog}{d:Nat}{Q:AE→Sl→St→Prop}{K:Bool→Prop}{st0:St}(hQ:H123 d st0 Q K){σ:Sl}{st:St}
include hQ
theorem w123_0 {s0:Fld}(H0:σ 0 = s0.av)(FR:Fr d (d,0) st0.bx st0.ow st.bx st.ow)(h:T123_0 prog K s0):W prog d (.seq (.reg 0 r123_0) (.seq (.reg 1 r123_1) .ret)) σ st Q:=
 q_ rfl (s_box H0 rfl (m_ (e_ (q_ rfl (f_ rfl (l_ rfl lk_here rfl rfl (ln_ rfl (b_ rfl rfl gtr_ (m_ (e_ (rt_ (hQ _ _ _ rfl (Fr.box FR) h))))))))))))
end
theorem p123 {prog:Prog}(hf:prog.fn 123 = some pf123){s0:Fld}{K:Bool→Prop}(h:T123_0 prog K s0):PuN prog 123 [s0.av] (fun r=>∃res0:Bool,(r = .b res0)∧K res0):=
  PuN.of hf rfl fun d st=>w123_0 (st0:=st) (Q:=fun e σ st'=>(e = .normal∨e = .ret)∧∃r,ares σ st' pf123.res = some r∧_∧Fr d (d,0) st.bx st.ow st'.bx st'.ow) (fun σ st'   res0 H2 hf hk=>⟨.inr rfl,.b res0,by simp only [pf123,ares,aresL,H2,ares1,Option.map_some,H2],⟨res0,rfl,hk⟩,hf⟩) (σ:=sl0 [s0.av]) rfl Fr.refl h
def r144_0:List AI:=[oC 4 (.i .i64 0)]
def r144_1:List AI:=[oM 6 0,
 oO 7 (.len false (.t 6)),
 oC 8 (.i .i64 0)]
def r144_2:List AI:=[oB 9 .lss (.t 8) (.t 7)]
def r144_3:List AI:=[oM 10 8,
 oM 5 10]
def r144_4:List AI:=[oM 11 1,
 oM 12 0,
 oM 13 5,
 oO 14 (.iaL 2 (.t 12) (.t 13)),
 oO 15 (.load 2 true (.t 14)),
 oO 16 (.callv (.t 11) [(.t 15)])]
def r144_5:List AI:=[oM 17 5,
 oM 4 17]
def r144_6:List AI:=[oB 18 .add (.t 8) (.c (.i .i64 1)),
 oM 8 18]
def r144_7:List AI:=[oC 4 (.i .i64 (-1))]
abbrev l144_0:AC:=(.seq (.reg 2 r144_2) (.seq (.cond (.t 9) .skip (.exit 0)) (.seq (.block 1 (.seq (.reg 3 r144_3) (.seq (.reg 4 r144_4) (.cond (.t 16) (.seq (.reg 5 r144_5) .ret) .skip)))) (.reg 6 r144_6))))
abbrev c144_1:AC:=(.seq (.reg 7 r144_7) .ret)
abbrev b144:AC:=(.seq (.reg 0 r144_0) (.seq (.seq (.reg 1 r144_1) (.block 0 (.loop l144_0))) c144_1))
def pf144:AF:={ nt:=19,res:=[.tmp 4],body:=b144 }
abbrev H144 (d:Nat)(st0:St)(Q:AE→Sl→St→Prop)(K:Int→Prop):Prop:=∀(σ:Sl)(st:St)(res0:Int),σ 4 = .i .i64 res0→Fr d (d,0) st0.bx st0.ow st.bx st.ow→K res0→Q .ret σ st
abbrev I144_0 (prog:Prog)(d:Nat)(Q:AE→Sl→St→Prop)(st0:St)(s0:List Fld)(f1:Nat × List AV)(t7:Int)(t8:Int):Prop:=
  ∀(σ:Sl)(st:St)(o_s0:Own),σ 0 = .sl o_s0 (List.map Fld.row s0)→σ 1 = .fn f1.1 f1.2→σ 7 = .i .i64 t7→σ 8 = .i .i64 t8→Fr d (d,0) st0.bx st0.ow st.bx st.ow→W prog d (.loop l144_0) σ st (blockW 0 (thenW prog d c144_1 Q))
def T144_2 (prog:Prog)(K:Int→Prop) :Prop:=
  K (-1)
def T144_1 (prog:Prog)(K:Int→Prop)(P0:Int→Prop)(s0:List Fld)(f1:Nat × List AV)(t7:Int)(t8:Int):Prop:=
  (t8 < t7→0≤t8∧∃c'2:Fld,s0[(t8).toNat]? = some c'2∧∃r'4:Bool,(PuN prog f1.1 ([c'2.av] ++ f1.2) (fun r=>r = .b r'4))∧(r'4 = true→K t8)∧(r'4 = false→P0 (IntKind.i64.wrap (t8 + 1))))∧(¬(t8 < t7)→T144_2 prog K )
def T144_0 (prog:Prog)(K:Int→Prop)(s0:List Fld)(f1:Nat × List AV):Prop:=
  ∀P0:Int→Prop,(∀(t8:Int),T144_1 prog K P0 s0 f1 (s0.length:Int) t8→P0 t8)→P0 0
section
variable {prog:Prog}{d:Nat}{Q:AE→Sl→St→Prop}{K:Int→Prop}{st0:St}(hQ:H144 d st0 Q K){σ:Sl}{st:St}
include hQ
theorem w144_2 (FR:Fr d (d,0) st0.bx st0.ow st.bx st.ow)(h:T144_2 prog K ):W prog d c144_1 σ st Q:=
 q_ rfl (m_ (e_ (rt_ (hQ _ _ _ rfl FR h))))
theorem w144_1 {s0:List Fld}{f1:Nat × List AV}{t7 t8:Int}{P0:Int→Prop} (kP0 :∀(t8:Int),P0 t8→I144_0 prog d Q st0 s0 f1 t7 t8){o_s0:Own}(H0:σ 0 = .sl o_s0 (List.map Fld.row s0))(H1:σ 1 = .fn f1.1 f1.2)(H7:σ 7 = .i .i64 t7)(H8:σ 8 = .i .i64 t8)(FR:Fr d (d,0) st0.bx st0.ow st.bx st.ow)(h:T144_1 prog K P0 s0 f1 t7 t8):W prog d l144_0 σ st (thenW prog d (.loop l144_0) (blockW 0 (thenW prog d c144_1 Q))):=
 q_ rfl (b_ H8 H7 lss_ (e_ (sq_ (cs_ rfl (fun g'1=>sk_ (sq_ (bk_ (q_ rfl (m_ (m_ (e_ (q_ rfl (m_ (s_mvL H0 (m_ ((h.1 g'1).2.elim fun c'2 e'3=>ia_ rfl H8 (h.1 g'1).1 e'3.1 (Fld.row_eq c'2) rfl (lf_ rfl rfl rfl (e'3.2.elim fun r'4 e'6=>s_callV H1 (sec rfl sen) (e'6.1) (fun st'7 hf'8=>e_ (cb_ rfl (fun g'9=>q_ rfl (m_ (m_ (e_ (rt_ (hQ _ _ _ H8 (Fr.raw FR hf'8) (e'6.2.1 g'9))))))) (fun g'9=>sk_ (W.reg0 rfl fun _ _=>b_ H8 rfl add_ (m_ (e_ (kP0 _ (e'6.2.2 g'9) _ _ _ H0 H1 H7 rfl (Fr.raw FR hf'8)))))))))))))))))))))) (fun g'1=>ex_ (w144_2 hQ FR (h.2 g'1)))))))
theorem w144_0 {s0:List Fld}{f1:Nat × List AV}{o_s0:Own}(H0:σ 0 = .sl o_s0 (List.map Fld.row s0))(H1:σ 1 = .fn f1.1 f1.2)(FR:Fr d (d,0) st0.bx st0.ow st.bx st.ow)(h:T144_0 prog K s0 f1):W prog d (.seq (.reg 0 r144_0) (.seq (.seq (.reg 1 r144_1) (.block 0 (.loop l144_0))) c144_1)) σ st Q:=
 q_ rfl (m_ (e_ (sq_ (q_ rfl (s_mvL H0 (ll_ rfl (m_ (e_ (bk_ (h (I144_0 prog d Q st0 s0 f1 (s0.length:Int)) (fun _ hb _ _ _ H0 H1 H7 H8 FR=>W.loop (w144_1 hQ (fun _ x=>x) H0 H1 H7 H8 FR hb)) _ _ _ H0 H1 rfl rfl FR))))))))))
end
theorem p144 {prog:Prog}(hf:prog.fn 144 = some pf144){s0:List Fld}{f1:Nat × List AV}{K:Int→Prop}(h:T144_0 prog K s0 f1)(o_s0:Own):PuN prog 144 [.sl o_s0 (List.map Fld.row s0),.fn f1.1 f1.2] (fun r=>∃res0:Int,(r = .i .i64 res0)∧K res0):=
  PuN.of hf rfl fun d st=>w144_0 (st0:=st) (Q:=fun e σ st'=>(e = .normal∨e = .ret)∧∃r,ares σ st' pf144.res = some r∧_∧Fr d (d,0) st.bx st.ow st'.bx st'.ow) (fun σ st'   res0 H4 hf hk=>⟨.inr rfl,.i .i64 res0,by simp only [pf144,ares,aresL,H4,ares1,Option.map_some,H4],⟨res0,rfl,hk⟩,hf⟩) (σ:=sl0 [.sl o_s0 (List.map Fld.row s0),.fn f1.1 f1.2]) rfl rfl Fr.refl h
def r141_0:List AI:=[oC 4 (.i .i64 0)]
def r141_1:List AI:=[oM 6 0,
 oO 7 (.len false (.t 6)),
 oC 8 (.i .i64 0)]
def r141_2:List AI:=[oB 9 .lss (.t 8) (.t 7)]
def r141_3:List AI:=[oM 10 8,
 oM 5 10]
def r141_4:List AI:=[oM 11 1,
 oM 12 0,
 oM 13 5,
 oO 14 (.iaL 1 (.t 12) (.t 13)),
 oL 15 14,
 oB 16 .eql (.t 11) (.t 15)]
def r141_5:List AI:=[oM 17 5,
 oM 4 17]
def r141_6:List AI:=[oB 18 .add (.t 8) (.c (.i .i64 1)),
 oM 8 18]
def r141_7:List AI:=[oC 4 (.i .i64 (-1))]
abbrev l141_0:AC:=(.seq (.reg 2 r141_2) (.seq (.cond (.t 9) .skip (.exit 0)) (.seq (.block 1 (.seq (.reg 3 r141_3) (.seq (.reg 4 r141_4) (.cond (.t 16) (.seq (.reg 5 r141_5) .ret) .skip)))) (.reg 6 r141_6))))
abbrev c141_1:AC:=(.seq (.reg 7 r141_7) .ret)
abbrev b141:AC:=(.seq (.reg 0 r141_0) (.seq (.seq (.reg 1 r141_1) (.block 0 (.loop l141_0))) c141_1))
def pf141:AF:={ nt:=19,res:=[.tmp 4],body:=b141 }
abbrev H141 (Q:AE→Sl→St→Prop)(K:Int→Prop):Prop:=∀(σ:Sl)(st:St)(res0:Int),σ 4 = .i .i64 res0→K res0→Q .ret σ st
abbrev I141_0 (prog:Prog)(d:Nat)(Q:AE→Sl→St→Prop)(s0:List (List UInt8))(v1:List UInt8)(t7:Int)(t8:Int):Prop:=
  ∀(σ:Sl)(st:St)(o_s0:Own),σ 0 = .sl o_s0 (List.map rowS s0)→σ 1 = .s v1→σ 7 = .i .i64 t7→σ 8 = .i .i64 t8→W prog d (.loop l141_0) σ st (blockW 0 (thenW prog d c141_1 Q))
def T141_2 (prog:Prog)(K:Int→Prop) :Prop:=
  K (-1)
def T141_1 (prog:Prog)(K:Int→Prop)(P0:Int→Prop)(s0:List (List UInt8))(v1:List UInt8)(t7:Int)(t8:Int):Prop:=
  (t8 < t7→0≤t8∧∃c'2:List UInt8,s0[(t8).toNat]? = some c'2∧(v1 = c'2→K t8)∧(¬(v1 = c'2)→P0 (IntKind.i64.wrap (t8 + 1))))∧(¬(t8 < t7)→T141_2 prog K )
def T141_0 (prog:Prog)(K:Int→Prop)(s0:List (List UInt8))(v1:List UInt8):Prop:=
  ∀P0:Int→Prop,(∀(t8:Int),T141_1 prog K P0 s0 v1 (s0.length:Int) t8→P0 t8)→P0 0
section
variable {prog:Prog}{d:Nat}{Q:AE→Sl→St→Prop}{K:Int→Prop}(hQ:H141 Q K){σ:Sl}{st:St}
include hQ
theorem w141_2 (h:T141_2 prog K ):W prog d c141_1 σ st Q:=
 q_ rfl (m_ (e_ (rt_ (hQ _ _ _ rfl h))))
theorem w141_1 {s0:List (List UInt8)}{v1:List UInt8}{t7 t8:Int}{P0:Int→Prop} (kP0 :∀(t8:Int),P0 t8→I141_0 prog d Q s0 v1 t7 t8){o_s0:Own}(H0:σ 0 = .sl o_s0 (List.map rowS s0))(H1:σ 1 = .s v1)(H7:σ 7 = .i .i64 t7)(H8:σ 8 = .i .i64 t8)(h:T141_1 prog K P0 s0 v1 t7 t8):W prog d l141_0 σ st (thenW prog d (.loop l141_0) (blockW 0 (thenW prog d c141_1 Q))):=
 q_ rfl (b_ H8 H7 lss_ (e_ (sq_ (cs_ rfl (fun g'1=>sk_ (sq_ (bk_ (q_ rfl (m_ (m_ (e_ (q_ rfl (m_ (s_mvL H0 (m_ ((h.1 g'1).2.elim fun c'2 e'3=>ia_ rfl H8 (h.1 g'1).1 e'3.1 rfl rfl (lf_ rfl rfl rfl (b_ H1 rfl seq_ (e_ (cs_ rfl (fun g'4=>q_ rfl (m_ (m_ (e_ (rt_ (hQ _ _ _ H8 (e'3.2.1 g'4))))))) (fun g'4=>sk_ (W.reg0 rfl fun _ _=>b_ H8 rfl add_ (m_ (e_ (kP0 _ (e'3.2.2 g'4) _ _ _ H0 H1 H7 rfl))))))))))))))))))))) (fun g'1=>ex_ (w141_2 hQ (h.2 g'1)))))))
theorem w141_0 {s0:List (List UInt8)}{v1:List UInt8}{o_s0:Own}(H0:σ 0 = .sl o_s0 (List.map rowS s0))(H1:σ 1 = .s v1)(h:T141_0 prog K s0 v1):W prog d (.seq (.reg 0 r141_0) (.seq (.seq (.reg 1 r141_1) (.block 0 (.loop l141_0))) c141_1)) σ st Q:=
 q_ rfl (m_ (e_ (sq_ (q_ rfl (s_mvL H0 (ll_ rfl (m_ (e_ (bk_ (h (I141_0 prog d Q s0 v1 (s0.length:Int)) (fun _ hb _ _ _ H0 H1 H7 H8=>W.loop (w141_1 hQ (fun _ x=>x) H0 H1 H7 H8 hb)) _ _ _ H0 H1 rfl rfl))))))))))
end
theorem p141 {prog:Prog}(hf:prog.fn 141 = some pf141){s0:List (List UInt8)}{v1:List UInt8}{K:Int→Prop}(h:T141_0 prog K s0 v1) :∃res0:Int,K res0∧Pus prog 141 [.sl .ext (List.map rowS s0),.s v1] (.i .i64 res0):=by
  obtain ⟨v,hv,res0,hk,rfl⟩:=Pus.of (K:=fun v=>∃res0:Int,K res0∧v = .i .i64 res0) hf rfl (w141_0 (σ:=sl0 [.sl .ext (List.map rowS s0),.s v1]) (fun σ st   res0 H4 hk=>⟨.i .i64 res0,by simp only [pf141,ares,aresL,H4,ares1,Option.map_some],_,rfl,res0,hk,rfl⟩) rfl rfl h)
  exact ⟨res0,hk,hv⟩
def r119_0:List AI:=[oC 4 (.b false)]
def r119_1:List AI:=[oM 6 0,
 oO 7 (.len false (.t 6)),
 oM 8 1,
 oO 9 (.len false (.t 8)),
 oB 10 .neq (.t 7) (.t 9)]
def r119_2:List AI:=[oC 4 (.b false)]
def r119_3:List AI:=[oM 11 0,
 oO 12 (.len false (.t 11)),
 oC 13 (.i .i64 0)]
def r119_4:List AI:=[oB 14 .lss (.t 13) (.t 12)]
def r119_5:List AI:=[oM 15 13,
 oM 5 15]
def r119_6:List AI:=[oM 16 0,
 oM 17 5,
 oO 18 (.iaL 1 (.t 16) (.t 17)),
 oL 19 18,
 oM 20 1,
 oM 21 5,
 oO 22 (.iaL 1 (.t 20) (.t 21)),
 oL 23 22,
 oB 24 .neq (.t 19) (.t 23)]
def r119_7:List AI:=[oC 4 (.b false)]
def r119_8:List AI:=[oB 25 .add (.t 13) (.c (.i .i64 1)),
 oM 13 25]
def r119_9:List AI:=[oC 4 (.b true)]
abbrev l119_0:AC:=(.seq (.reg 4 r119_4) (.seq (.cond (.t 14) .skip (.exit 0)) (.seq (.block 1 (.seq (.reg 5 r119_5) (.seq (.reg 6 r119_6) (.cond (.t 24) (.seq (.reg 7 r119_7) .ret) .skip)))) (.reg 8 r119_8))))
abbrev c119_1:AC:=(.seq (.reg 9 r119_9) .ret)
abbrev b119:AC:=(.seq (.reg 0 r119_0) (.seq (.seq (.reg 1 r119_1) (.cond (.t 10) (.seq (.reg 2 r119_2) .ret) .skip)) (.seq (.seq (.reg 3 r119_3) (.block 0 (.loop l119_0))) c119_1)))
def pf119:AF:={ nt:=26,res:=[.tmp 4],body:=b119 }
abbrev H119 (Q:AE→Sl→St→Prop)(K:Bool→Prop):Prop:=∀(σ:Sl)(st:St)(res0:Bool),σ 4 = .b res0→K res0→Q .ret σ st
abbrev I119_0 (prog:Prog)(d:Nat)(Q:AE→Sl→St→Prop)(s10:List (List UInt8))(s21:List (List UInt8))(t12:Int)(t13:Int):Prop:=
  ∀(σ:Sl)(st:St) (o_s10 o_s21:Own),σ 0 = .sl o_s10 (List.map rowS s10)→σ 1 = .sl o_s21 (List.map rowS s21)→σ 12 = .i .i64 t12→σ 13 = .i .i64 t13→W prog d (.loop l119_0) σ st (blockW 0 (thenW prog d c119_1 Q))
def T119_2 (prog:Prog)(K:Bool→Prop) :Prop:=
  K true
def T119_1 (prog:Prog)(K:Bool→Prop)(P0:Int→Prop)(s10:List (List UInt8))(s21:List (List UInt8))(t12:Int)(t13:Int):Prop:=
  (t13 < t12→0≤t13∧∃c'2:List UInt8,s10[(t13).toNat]? = some c'2∧0≤t13∧∃c'4:List UInt8,s21[(t13).toNat]? = some c'4∧(c'2≠c'4→K false)∧(¬(c'2≠c'4)→P0 (IntKind.i64.wrap (t13 + 1))))∧(¬(t13 < t12)→T119_2 prog K )
def T119_0 (prog:Prog)(K:Bool→Prop)(s10:List (List UInt8))(s21:List (List UInt8)):Prop:=
  ((s10.length:Int)≠(s21.length:Int)→K false)∧(¬((s10.length:Int)≠(s21.length:Int))→∀P0:Int→Prop,(∀(t13:Int),T119_1 prog K P0 s10 s21 (s10.length:Int) t13→P0 t13)→P0 0)
section
variable {prog:Prog}{d:Nat}{Q:AE→Sl→St→Prop}{K:Bool→Prop}(hQ:H119 Q K){σ:Sl}{st:St}
include hQ
theorem w119_2 (h:T119_2 prog K ):W prog d c119_1 σ st Q:=
 q_ rfl (m_ (e_ (rt_ (hQ _ _ _ rfl h))))
theorem w119_1 {s10 s21:List (List UInt8)}{t12 t13:Int}{P0:Int→Prop} (kP0 :∀(t13:Int),P0 t13→I119_0 prog d Q s10 s21 t12 t13){o_s10 o_s21:Own}(H0:σ 0 = .sl o_s10 (List.map rowS s10))(H1:σ 1 = .sl o_s21 (List.map rowS s21))(H12:σ 12 = .i .i64 t12)(H13:σ 13 = .i .i64 t13)(h:T119_1 prog K P0 s10 s21 t12 t13):W prog d l119_0 σ st (thenW prog d (.loop l119_0) (blockW 0 (thenW prog d c119_1 Q))):=
 q_ rfl (b_ H13 H12 lss_ (e_ (sq_ (cs_ rfl (fun g'1=>sk_ (sq_ (bk_ (q_ rfl (m_ (m_ (e_ (q_ rfl (s_mvL H0 (m_ ((h.1 g'1).2.elim fun c'2 e'3=>ia_ rfl H13 (h.1 g'1).1 e'3.1 rfl rfl (lf_ rfl rfl rfl (s_mvL H1 (m_ (e'3.2.2.elim fun c'4 e'5=>ia_ rfl H13 e'3.2.1 e'5.1 rfl rfl (lf_ rfl rfl rfl (b_ rfl rfl sne_ (e_ (cs_ rfl (fun g'6=>q_ rfl (m_ (e_ (rt_ (hQ _ _ _ rfl (e'5.2.1 g'6)))))) (fun g'6=>sk_ (W.reg0 rfl fun _ _=>b_ H13 rfl add_ (m_ (e_ (kP0 _ (e'5.2.2 g'6) _ _ _ _ H0 H1 H12 rfl)))))))))))))))))))))))) (fun g'1=>ex_ (w119_2 hQ (h.2 g'1)))))))
theorem w119_0 {s10 s21:List (List UInt8)}{o_s10 o_s21:Own}(H0:σ 0 = .sl o_s10 (List.map rowS s10))(H1:σ 1 = .sl o_s21 (List.map rowS s21))(h:T119_0 prog K s10 s21):W prog d (.seq (.reg 0 r119_0) (.seq (.seq (.reg 1 r119_1) (.cond (.t 10) (.seq (.reg 2 r119_2) .ret) .skip)) (.seq (.seq (.reg 3 r119_3) (.block 0 (.loop l119_0))) c119_1))) σ st Q:=
 q_ rfl (m_ (e_ (sq_ (q_ rfl (s_mvL H0 (ll_ rfl (s_mvL H1 (ll_ rfl (b_ rfl rfl neq_ (e_ (cs_ rfl (fun g'1=>q_ rfl (m_ (e_ (rt_ (hQ _ _ _ rfl (h.1 g'1)))))) (fun g'1=>sk_ (sq_ (q_ rfl (s_mvL H0 (ll_ rfl (m_ (e_ (bk_ ((h.2 g'1) (I119_0 prog d Q s10 s21 (s10.length:Int)) (fun _ hb _ _ _ _ H0 H1 H12 H13=>W.loop (w119_1 hQ (fun _ x=>x) H0 H1 H12 H13 hb)) _ _ _ _ H0 H1 rfl rfl))))))))))))))))))))
end
theorem p119 {prog:Prog}(hf:prog.fn 119 = some pf119){s10:List (List UInt8)}{s21:List (List UInt8)}{K:Bool→Prop}(h:T119_0 prog K s10 s21) :∃res0:Bool,K res0∧Pus prog 119 [.sl .ext (List.map rowS s10),.sl .ext (List.map rowS s21)] (.b res0):=by
  obtain ⟨v,hv,res0,hk,rfl⟩:=Pus.of (K:=fun v=>∃res0:Bool,K res0∧v = .b res0) hf rfl (w119_0 (σ:=sl0 [.sl .ext (List.map rowS s10),.sl .ext (List.map rowS s21)]) (fun σ st   res0 H4 hk=>⟨.b res0,by simp only [pf119,ares,aresL,H4,ares1,Option.map_some],_,rfl,res0,hk,rfl⟩) rfl rfl h)
  exact ⟨res0,hk,hv⟩
def r86_0:List AI:=[oO 2 (.box 3 (.t 0)),
 oO 3 (.box 4 (.t 1)),
 oC 4 (.i .i64 0)]
def r86_1:List AI:=[oF 9 0 3,
 oL 10 9,
 oB 11 .lss (.t 10) (.c (.i .i64 0)),
 oM 12 11,
 oG 13 (.fad 0 (.t 3)) 12 false,
 oG 14 (.load 1 false (.t 13)) 12 false,
 oG 15 (.fad 2 (.t 2)) 12 false,
 oG 16 (.load 1 false (.t 15)) 12 false,
 oG 17 (.len false (.t 16)) 12 false,
 oG 18 (.bin .geq (.t 14) (.t 17)) 12 false,
 oO 19 (.pick (.t 12) (.c (.b true)) (.t 18)),
 oM 20 19,
 oG 21 (.fad 2 (.t 3)) 20 false,
 oG 22 (.load 1 false (.t 21)) 20 false,
 oG 23 (.bin .gtr (.t 22) (.c (.i .u64 3))) 20 false,
 oO 24 (.pick (.t 20) (.c (.b true)) (.t 23))]
def r86_2:List AI:=[oC 4 (.i .i64 8)]
def r86_3:List AI:=[oF 25 2 2,
 oL 26 25,
 oF 27 0 3,
 oL 28 27,
 oO 29 (.iaL 7 (.t 26) (.t 28)),
 oO 30 (.load 7 true (.t 29)),
 oO 5 (.alloc [.s [],.i .i64 0,.i .i64 0,.sl .full [],.sl .full [],.sl .full [],.sl .full []]),
 oS 7 5 30]
def r86_4:List AI:=[oF 31 3 5,
 oL 32 31,
 oO 33 (.len false (.t 32)),
 oB 34 .gtr (.t 33) (.c (.i .i64 16)),
 oM 35 34,
 oG 36 (.fad 0 (.t 5)) 35 false,
 oG 37 (.load 1 false (.t 36)) 35 false,
 oG 38 (.len true (.t 37)) 35 false,
 oG 39 (.bin .gtr (.t 38) (.c (.i .i64 16))) 35 false,
 oO 40 (.pick (.t 35) (.c (.b true)) (.t 39)),
 oM 41 40,
 oG 42 (.fad 1 (.t 3)) 41 false,
 oG 43 (.load 1 false (.t 42)) 41 false,
 oG 44 (.bin .lss (.t 43) (.c (.i .i64 0))) 41 false,
 oO 45 (.pick (.t 41) (.c (.b true)) (.t 44)),
 oM 46 45,
 oG 47 (.fad 1 (.t 3)) 46 false,
 oG 48 (.load 1 false (.t 47)) 46 false,
 oG 49 (.fad 4 (.t 5)) 46 false,
 oG 50 (.load 1 false (.t 49)) 46 false,
 oG 51 (.len false (.t 50)) 46 false,
 oG 52 (.bin .geq (.t 48) (.t 51)) 46 false,
 oO 53 (.pick (.t 46) (.c (.b true)) (.t 52)),
 oM 54 53,
 oG 55 (.fad 3 (.t 5)) 54 false,
 oG 56 (.load 1 false (.t 55)) 54 false,
 oG 57 (.call true 122 [(.t 56),(.c (.fn 123 []))]) 54 false,
 oO 58 (.pick (.t 54) (.c (.b true)) (.t 57))]
def r86_5:List AI:=[oC 4 (.i .i64 8)]
def r86_6:List AI:=[oC 6 (.i .i64 (-1))]
def r86_7:List AI:=[oF 59 3 3,
 oL 60 59,
 oO 61 (.len false (.t 60)),
 oC 62 (.i .i64 0)]
def r86_8:List AI:=[oB 63 .lss (.t 62) (.t 61)]
def r86_9:List AI:=[oO 64 (.iaL 6 (.t 60) (.t 62)),
 oO 65 (.load 6 true (.t 64)),
 oO 8 (.alloc [.i .i64 0,.i .u8 0,.i .i64 0,.s [],.sl .full [],.b false]),
 oS 6 8 65]
def r86_10:List AI:=[oF 66 0 8,
 oL 67 66,
 oM 68 6,
 oB 69 .leq (.t 67) (.t 68),
 oM 70 69,
 oG 71 (.fad 0 (.t 8)) 70 false,
 oG 72 (.load 1 false (.t 71)) 70 false,
 oG 73 (.fad 3 (.t 5)) 70 false,
 oG 74 (.load 1 false (.t 73)) 70 false,
 oG 75 (.len false (.t 74)) 70 false,
 oG 76 (.bin .geq (.t 72) (.t 75)) 70 false,
 oO 77 (.pick (.t 70) (.c (.b true)) (.t 76)),
 oM 78 77,
 oG 79 (.fad 1 (.t 8)) 78 false,
 oG 80 (.load 5 true (.t 79)) 78 false,
 oG 81 (.call false 76 [(.t 80)]) 78 false,
 oG 82 (.bin .neq (.t 81) (.c (.i .i64 0))) 78 false,
 oO 83 (.pick (.t 78) (.c (.b true)) (.t 82))]
def r86_11:List AI:=[oC 4 (.i .i64 8)]
def r86_12:List AI:=[oF 84 0 8,
 oL 85 84,
 oM 6 85]
def r86_13:List AI:=[oB 86 .add (.t 62) (.c (.i .i64 1)),
 oM 62 86]
def r86_14:List AI:=[oC 4 (.i .i64 0)]
abbrev l86_0:AC:=(.seq (.reg 8 r86_8) (.seq (.cond (.t 63) .skip (.exit 0)) (.seq (.block 1 (.seq (.reg 9 r86_9) (.seq (.seq (.reg 10 r86_10) (.cond (.t 83) (.seq (.reg 11 r86_11) .ret) .skip)) (.reg 12 r86_12)))) (.reg 13 r86_13))))
abbrev c86_1:AC:=(.seq (.reg 14 r86_14) .ret)
abbrev c86_2:AC:=(.seq (.reg 6 r86_6) (.seq (.seq (.reg 7 r86_7) (.block 0 (.loop l86_0))) c86_1))
abbrev c86_3:AC:=(.seq (.seq (.reg 4 r86_4) (.cond (.t 58) (.seq (.reg 5 r86_5) .ret) .skip)) c86_2)
abbrev c86_4:AC:=(.seq (.reg 3 r86_3) c86_3)
abbrev c86_5:AC:=(.seq (.seq (.reg 1 r86_1) (.cond (.t 24) (.seq (.reg 2 r86_2) .ret) .skip)) c86_4)
abbrev b86:AC:=(.seq (.reg 0 r86_0) c86_5)
def pf86:AF:={ nt:=87,res:=[.tmp 4],body:=b86 }
abbrev H86 (Q:AE→Sl→St→Prop)(K:Int→Prop):Prop:=∀(σ:Sl)(st:St)(res0:Int),σ 4 = .i .i64 res0→K res0→Q .ret σ st
abbrev I86_0 (prog:Prog)(d:Nat)(Q:AE→Sl→St→Prop)(t60:List Loc)(t61:Int)(last6:Int)(t62:Int)(m12294:Fun):Prop:=
  ∀(σ:Sl)(st:St)(o_t60:Own)(v12294:Nat),σ 5 = .p (d,12294) v12294 0→σ 6 = .i .i64 last6→σ 60 = .sl o_t60 (List.map Loc.row t60)→σ 61 = .i .i64 t61→σ 62 = .i .i64 t62→lk st.bx (d,12294) = some (v12294,[.s m12294.name,.i .i64 m12294.params,.i .i64 m12294.result,.sl .ext (List.map Fld.row m12294.slots),.sl .ext (List.map Ins.row m12294.code),.sl .ext (List.map Rnn.row m12294.sizes),.sl .ext (List.map Rnn.row m12294.lives)])→W prog d (.loop l86_0) σ st (blockW 0 (thenW prog d c86_1 Q))
def T86_6 (prog:Prog)(K:Int→Prop) :Prop:=
  K 0
def T86_5 (prog:Prog)(K:Int→Prop)(P0:Int→Int→Fun→Prop)(last6:Int)(t60:List Loc)(t61:Int)(t62:Int)(m12294:Fun):Prop:=
  (t62 < t61→0≤t62∧∃c'2:Loc,t60[(t62).toNat]? = some c'2∧(c'2.slot≤last6→K 8)∧(¬(c'2.slot≤last6)→(c'2.slot ≥ (m12294.slots.length:Int)→K 8)∧(¬(c'2.slot ≥ (m12294.slots.length:Int))→∃r'6:Int,Pus prog 76 [c'2.value.av] (.i .i64 r'6)∧(r'6≠0→K 8)∧(¬(r'6≠0)→P0 c'2.slot (IntKind.i64.wrap (t62 + 1)) m12294))))∧(¬(t62 < t61)→T86_6 prog K )
def T86_4 (prog:Prog)(K:Int→Prop)(m1:Frm)(m12294:Fun):Prop:=
  ∀P0:Int→Int→Fun→Prop,(∀(last6:Int)(t62:Int)(m12294:Fun),T86_5 prog K P0 last6 m1.locals (m1.locals.length:Int) t62 m12294→P0 last6 t62 m12294)→P0 (-1) 0 m12294
def T86_3 (prog:Prog)(K:Int→Prop)(m1:Frm)(m12294:Fun):Prop:=
  ((m12294.slots.length:Int) > 16→K 8)∧(¬((m12294.slots.length:Int) > 16)→((m12294.name.length:Int) > 16→K 8)∧(¬((m12294.name.length:Int) > 16)→(m1.pos < 0→K 8)∧(¬(m1.pos < 0)→(m1.pos ≥ (m12294.code.length:Int)→K 8)∧(¬(m1.pos ≥ (m12294.code.length:Int))→∃r'5:Bool,(∀q'7:Own,PuN prog 122 [.sl q'7 (List.map Fld.row m12294.slots),.fn 123 []] (fun r=>r = .b r'5))∧(r'5 = true→K 8)∧(r'5 = false→T86_4 prog K m1 m12294)))))
def T86_2 (prog:Prog)(K:Int→Prop)(m0:Img)(m1:Frm):Prop:=
  0≤m1.func∧∃c'1:Fun,m0.funcs[(m1.func).toNat]? = some c'1∧T86_3 prog K m1 c'1
def T86_1 (prog:Prog)(K:Int→Prop)(m0:Img)(m1:Frm):Prop:=
  (m1.func < 0→K 8)∧(¬(m1.func < 0)→(m1.func ≥ (m0.funcs.length:Int)→K 8)∧(¬(m1.func ≥ (m0.funcs.length:Int))→(m1.mode > 3→K 8)∧(¬(m1.mode > 3)→T86_2 prog K m0 m1)))
def T86_0 (prog:Prog)(K:Int→Prop)(m0:Img)(x1:Frm):Prop:=
  T86_1 prog K m0 x1
section
variable {prog:Prog}{d:Nat}{Q:AE→Sl→St→Prop}{K:Int→Prop}(hQ:H86 Q K){σ:Sl}{st:St}
include hQ
theorem w86_6 (h:T86_6 prog K ):W prog d c86_1 σ st Q:=
 q_ rfl (m_ (e_ (rt_ (hQ _ _ _ rfl h))))
theorem w86_5 {last6:Int}{t60:List Loc}{t61 t62:Int}{m12294:Fun}{P0:Int→Int→Fun→Prop} (kP0 :∀(last6:Int)(t62:Int)(m12294:Fun),P0 last6 t62 m12294→I86_0 prog d Q t60 t61 last6 t62 m12294){o_t60:Own}{v12294:Nat}(H5:σ 5 = .p (d,12294) v12294 0)(H6:σ 6 = .i .i64 last6)(H60:σ 60 = .sl o_t60 (List.map Loc.row t60))(H61:σ 61 = .i .i64 t61)(H62:σ 62 = .i .i64 t62)(B12294:lk st.bx (d,12294) = some (v12294,[.s m12294.name,.i .i64 m12294.params,.i .i64 m12294.result,.sl .ext (List.map Fld.row m12294.slots),.sl .ext (List.map Ins.row m12294.code),.sl .ext (List.map Rnn.row m12294.sizes),.sl .ext (List.map Rnn.row m12294.lives)]))(h:T86_5 prog K P0 last6 t60 t61 t62 m12294):W prog d l86_0 σ st (thenW prog d (.loop l86_0) (blockW 0 (thenW prog d c86_1 Q))):=
 q_ rfl (b_ H62 H61 lss_ (e_ (sq_ (cs_ rfl (fun g'1=>sk_ (sq_ (bk_ (sq_ (W.reg ((h.1 g'1).2.elim fun c'2 e'3=>ia_ H60 H62 (h.1 g'1).1 e'3.1 (Loc.row_eq c'2) rfl (lf_ rfl rfl rfl (s_alloc (so_ rfl (show lk _ (d,36866) = some (_,([.i .i64 0,.i .u8 0,.i .i64 0,.s [],.sl .full (List.map Val.row ([]:List Val)),.b false]:List AV)) from lk_here) rfl rfl rfl (e_ (sq_ (q_ rfl (f_ rfl (l_ rfl lk_here rfl rfl (s_mvI H6 (b_ rfl rfl leq_ (s_mvB rfl (em_ (g:=70) rfl (fun g'4=>gn_ (b:=true) rfl rfl (gn_ (b:=true) rfl rfl (gn_ (b:=true) rfl rfl (gn_ (b:=true) rfl rfl (gn_ (b:=true) rfl rfl (gn_ (b:=true) rfl rfl (pt_ rfl rfl (s_mvB rfl (gn_ (b:=true) rfl rfl (gn_ (b:=true) rfl rfl (gn_ (b:=true) rfl rfl (gn_ (b:=true) rfl rfl (pt_ rfl rfl (e_ (ct_ rfl (q_ rfl (m_ (e_ (rt_ (hQ _ _ _ rfl (e'3.2.1 g'4))))))))))))))))))))) (fun g'4=>gy_ rfl (f_ rfl (gy_ rfl (l_ rfl lk_here rfl rfl (gy_ rfl (f_ H5 (gy_ rfl (l_ rfl (lk_other rfl (lk_other rfl B12294)) rfl rfl (gy_ rfl (ll_ rfl (gy_ rfl (b_ rfl rfl geq_ (pf_ rfl rfl (s_mvB rfl (em_ (g:=78) rfl (fun g'5=>gn_ (b:=true) rfl rfl (gn_ (b:=true) rfl rfl (gn_ (b:=true) rfl rfl (gn_ (b:=true) rfl rfl (pt_ rfl rfl (e_ (ct_ rfl (q_ rfl (m_ (e_ (rt_ (hQ _ _ _ rfl ((e'3.2.2 g'4).1 g'5))))))))))))) (fun g'5=>gy_ rfl (f_ rfl (gy_ rfl (l_ rfl lk_here rfl rfl (gy_ rfl (((e'3.2.2 g'4).2 g'5).elim fun r'6 e'7=>ca_ (sc rfl rfl sn) e'7.1 (gy_ rfl (b_ rfl rfl neq_ (pf_ rfl rfl (e_ (cs_ rfl (fun g'8=>q_ rfl (m_ (e_ (rt_ (hQ _ _ _ rfl (e'7.2.1 g'8)))))) (fun g'8=>sk_ (W.reg0 rfl fun _ _=>f_ rfl (l_ rfl lk_here rfl rfl (m_ (e_ (W.reg0 rfl fun _ _=>b_ H62 rfl add_ (m_ (e_ (kP0 _ _ _ (e'7.2.2 g'8) _ _ _ _ H5 rfl H60 H61 rfl (lk_other rfl (lk_other rfl B12294))))))))))))))))))))))))))))))))))))))))))))))))))))))) (fun g'1=>ex_ (w86_6 hQ (h.2 g'1)))))))
theorem w86_4 {m1:Frm}{m12294:Fun}{v1:Nat}{v12294:Nat}(H3:σ 3 = .p (d,1) v1 0)(H5:σ 5 = .p (d,12294) v12294 0)(B1:lk st.bx (d,1) = some (v1,[.i .i64 m1.func,.i .i64 m1.pos,.i .u64 m1.mode,.sl .ext (List.map Loc.row m1.locals)]))(B12294:lk st.bx (d,12294) = some (v12294,[.s m12294.name,.i .i64 m12294.params,.i .i64 m12294.result,.sl .ext (List.map Fld.row m12294.slots),.sl .ext (List.map Ins.row m12294.code),.sl .ext (List.map Rnn.row m12294.sizes),.sl .ext (List.map Rnn.row m12294.lives)]))(h:T86_4 prog K m1 m12294):W prog d c86_2 σ st Q:=
 q_ rfl (m_ (e_ (sq_ (q_ rfl (f_ H3 (l_ rfl B1 rfl rfl (ll_ rfl (m_ (e_ (bk_ (h (I86_0 prog d Q m1.locals (m1.locals.length:Int)) (fun _ _ _ hb _ _ _ _ H5 H6 H60 H61 H62 B12294=>W.loop (w86_5 hQ (fun _ _ _ x=>x) H5 H6 H60 H61 H62 B12294 hb)) _ _ _ _ H5 rfl rfl rfl rfl B12294)))))))))))
theorem w86_3 {m1:Frm}{m12294:Fun}{v1:Nat}{v12294:Nat}(H3:σ 3 = .p (d,1) v1 0)(H5:σ 5 = .p (d,12294) v12294 0)(B1:lk st.bx (d,1) = some (v1,[.i .i64 m1.func,.i .i64 m1.pos,.i .u64 m1.mode,.sl .ext (List.map Loc.row m1.locals)]))(B12294:lk st.bx (d,12294) = some (v12294,[.s m12294.name,.i .i64 m12294.params,.i .i64 m12294.result,.sl .ext (List.map Fld.row m12294.slots),.sl .ext (List.map Ins.row m12294.code),.sl .ext (List.map Rnn.row m12294.sizes),.sl .ext (List.map Rnn.row m12294.lives)]))(h:T86_3 prog K m1 m12294):W prog d c86_3 σ st Q:=
 sq_ (q_ rfl (f_ H5 (l_ rfl B12294 rfl rfl (ll_ rfl (b_ rfl rfl gtr_ (s_mvB rfl (em_ (g:=35) rfl (fun g'1=>gn_ (b:=true) rfl rfl (gn_ (b:=true) rfl rfl (gn_ (b:=true) rfl rfl (gn_ (b:=true) rfl rfl (pt_ rfl rfl (s_mvB rfl (gn_ (b:=true) rfl rfl (gn_ (b:=true) rfl rfl (gn_ (b:=true) rfl rfl (pt_ rfl rfl (s_mvB rfl (gn_ (b:=true) rfl rfl (gn_ (b:=true) rfl rfl (gn_ (b:=true) rfl rfl (gn_ (b:=true) rfl rfl (gn_ (b:=true) rfl rfl (gn_ (b:=true) rfl rfl (pt_ rfl rfl (s_mvB rfl (gn_ (b:=true) rfl rfl (gn_ (b:=true) rfl rfl (gn_ (b:=true) rfl rfl (pt_ rfl rfl (e_ (ct_ rfl (q_ rfl (m_ (e_ (rt_ (hQ _ _ _ rfl (h.1 g'1))))))))))))))))))))))))))))))) (fun g'1=>gy_ rfl (f_ H5 (gy_ rfl (l_ rfl B12294 rfl rfl (gy_ rfl (ln_ rfl (gy_ rfl (b_ rfl rfl gtr_ (pf_ rfl rfl (s_mvB rfl (em_ (g:=41) rfl (fun g'2=>gn_ (b:=true) rfl rfl (gn_ (b:=true) rfl rfl (gn_ (b:=true) rfl rfl (pt_ rfl rfl (s_mvB rfl (gn_ (b:=true) rfl rfl (gn_ (b:=true) rfl rfl (gn_ (b:=true) rfl rfl (gn_ (b:=true) rfl rfl (gn_ (b:=true) rfl rfl (gn_ (b:=true) rfl rfl (pt_ rfl rfl (s_mvB rfl (gn_ (b:=true) rfl rfl (gn_ (b:=true) rfl rfl (gn_ (b:=true) rfl rfl (pt_ rfl rfl (e_ (ct_ rfl (q_ rfl (m_ (e_ (rt_ (hQ _ _ _ rfl ((h.2 g'1).1 g'2))))))))))))))))))))))))) (fun g'2=>gy_ rfl (f_ H3 (gy_ rfl (l_ rfl B1 rfl rfl (gy_ rfl (b_ rfl rfl lss_ (pf_ rfl rfl (s_mvB rfl (em_ (g:=46) rfl (fun g'3=>gn_ (b:=true) rfl rfl (gn_ (b:=true) rfl rfl (gn_ (b:=true) rfl rfl (gn_ (b:=true) rfl rfl (gn_ (b:=true) rfl rfl (gn_ (b:=true) rfl rfl (pt_ rfl rfl (s_mvB rfl (gn_ (b:=true) rfl rfl (gn_ (b:=true) rfl rfl (gn_ (b:=true) rfl rfl (pt_ rfl rfl (e_ (ct_ rfl (q_ rfl (m_ (e_ (rt_ (hQ _ _ _ rfl (((h.2 g'1).2 g'2).1 g'3)))))))))))))))))))) (fun g'3=>gy_ rfl (f_ H3 (gy_ rfl (l_ rfl B1 rfl rfl (gy_ rfl (f_ H5 (gy_ rfl (l_ rfl B12294 rfl rfl (gy_ rfl (ll_ rfl (gy_ rfl (b_ rfl rfl geq_ (pf_ rfl rfl (s_mvB rfl (em_ (g:=54) rfl (fun g'4=>gn_ (b:=true) rfl rfl (gn_ (b:=true) rfl rfl (gn_ (b:=true) rfl rfl (pt_ rfl rfl (e_ (ct_ rfl (q_ rfl (m_ (e_ (rt_ (hQ _ _ _ rfl ((((h.2 g'1).2 g'2).2 g'3).1 g'4)))))))))))) (fun g'4=>gy_ rfl (f_ H5 (gy_ rfl (l_ rfl B12294 rfl rfl (gy_ rfl (((((h.2 g'1).2 g'2).2 g'3).2 g'4).elim fun r'5 e'8=>s_callN (sec rfl (sec rfl sen)) (e'8.1 _) (fun st'9 hf'10=>pf_ rfl rfl (e_ (cb_ rfl (fun g'11=>q_ rfl (m_ (e_ (rt_ (hQ _ _ _ rfl (e'8.2.1 g'11)))))) (fun g'11=>sk_ (w86_4 hQ H3 H5 ((hf'10.1 (d,1) (Nat.lt_succ_self d) key_dn).trans B1) ((hf'10.1 (d,12294) (Nat.lt_succ_self d) key_dn).trans B12294) (e'8.2.2 g'11))))))))))))))))))))))))))))))))))))))))))))))))))))))
theorem w86_2 {m0:Img}{m1:Frm}{v0:Nat}{v1:Nat}(H2:σ 2 = .p (d,0) v0 0)(H3:σ 3 = .p (d,1) v1 0)(B0:lk st.bx (d,0) = some (v0,[.sl .ext (List.map Typ.row m0.types),.sl .ext (List.map rowS m0.texts),.sl .ext (List.map Fun.row m0.funcs)]))(B1:lk st.bx (d,1) = some (v1,[.i .i64 m1.func,.i .i64 m1.pos,.i .u64 m1.mode,.sl .ext (List.map Loc.row m1.locals)]))(h:T86_2 prog K m0 m1):W prog d c86_4 σ st Q:=
 sq_ (W.reg (f_ H2 (l_ rfl (lk_other rfl B0) rfl rfl (f_ H3 (l_ rfl (lk_other rfl B1) rfl rfl (h.2.elim fun c'1 e'2=>ia_ rfl rfl h.1 e'2.1 (Fun.row_eq c'1) rfl (lf_ rfl rfl rfl (s_alloc (so_ rfl (show lk _ (d,12294) = some (_,([.s [],.i .i64 0,.i .i64 0,.sl .full (List.map Fld.row ([]:List Fld)),.sl .full (List.map Ins.row ([]:List Ins)),.sl .full (List.map Rnn.row ([]:List Rnn)),.sl .full (List.map Rnn.row ([]:List Rnn))]:List AV)) from lk_here) rfl rfl rfl (e_ (w86_3 hQ H3 rfl (lk_other rfl (lk_other rfl B1)) lk_here e'2.2)))))))))))
theorem w86_1 {m0:Img}{m1:Frm}{v0:Nat}{v1:Nat}(H2:σ 2 = .p (d,0) v0 0)(H3:σ 3 = .p (d,1) v1 0)(B0:lk st.bx (d,0) = some (v0,[.sl .ext (List.map Typ.row m0.types),.sl .ext (List.map rowS m0.texts),.sl .ext (List.map Fun.row m0.funcs)]))(B1:lk st.bx (d,1) = some (v1,[.i .i64 m1.func,.i .i64 m1.pos,.i .u64 m1.mode,.sl .ext (List.map Loc.row m1.locals)]))(h:T86_1 prog K m0 m1):W prog d c86_5 σ st Q:=
 sq_ (q_ rfl (f_ H3 (l_ rfl B1 rfl rfl (b_ rfl rfl lss_ (s_mvB rfl (em_ (g:=12) rfl (fun g'1=>gn_ (b:=true) rfl rfl (gn_ (b:=true) rfl rfl (gn_ (b:=true) rfl rfl (gn_ (b:=true) rfl rfl (gn_ (b:=true) rfl rfl (gn_ (b:=true) rfl rfl (pt_ rfl rfl (s_mvB rfl (gn_ (b:=true) rfl rfl (gn_ (b:=true) rfl rfl (gn_ (b:=true) rfl rfl (pt_ rfl rfl (e_ (ct_ rfl (q_ rfl (m_ (e_ (rt_ (hQ _ _ _ rfl (h.1 g'1)))))))))))))))))))) (fun g'1=>gy_ rfl (f_ H3 (gy_ rfl (l_ rfl B1 rfl rfl (gy_ rfl (f_ H2 (gy_ rfl (l_ rfl B0 rfl rfl (gy_ rfl (ll_ rfl (gy_ rfl (b_ rfl rfl geq_ (pf_ rfl rfl (s_mvB rfl (em_ (g:=20) rfl (fun g'2=>gn_ (b:=true) rfl rfl (gn_ (b:=true) rfl rfl (gn_ (b:=true) rfl rfl (pt_ rfl rfl (e_ (ct_ rfl (q_ rfl (m_ (e_ (rt_ (hQ _ _ _ rfl ((h.2 g'1).1 g'2)))))))))))) (fun g'2=>gy_ rfl (f_ H3 (gy_ rfl (l_ rfl B1 rfl rfl (gy_ rfl (b_ rfl rfl gtr_ (pf_ rfl rfl (e_ (cs_ rfl (fun g'3=>q_ rfl (m_ (e_ (rt_ (hQ _ _ _ rfl (((h.2 g'1).2 g'2).1 g'3)))))) (fun g'3=>sk_ (w86_2 hQ H2 H3 B0 B1 (((h.2 g'1).2 g'2).2 g'3)))))))))))))))))))))))))))))))))
theorem w86_0 {m0:Img}{x1:Frm}(H0:σ 0 = m0.av)(H1:σ 1 = x1.av)(h:T86_0 prog K m0 x1):W prog d (.seq (.reg 0 r86_0) c86_5) σ st Q:=
 q_ rfl (s_box H0 rfl (s_box H1 rfl (m_ (e_ (w86_1 hQ rfl rfl (lk_other rfl lk_here) lk_here h)))))
end
theorem p86 {prog:Prog}(hf:prog.fn 86 = some pf86){m0:Img}{x1:Frm}{K:Int→Prop}(h:T86_0 prog K m0 x1) :∃res0:Int,K res0∧Pus prog 86 [m0.av,x1.av] (.i .i64 res0):=by
  obtain ⟨v,hv,res0,hk,rfl⟩:=Pus.of (K:=fun v=>∃res0:Int,K res0∧v = .i .i64 res0) hf rfl (w86_0 (σ:=sl0 [m0.av,x1.av]) (fun σ st   res0 H4 hk=>⟨.i .i64 res0,by simp only [pf86,ares,aresL,H4,ares1,Option.map_some],_,rfl,res0,hk,rfl⟩) rfl rfl h)
  exact ⟨res0,hk,hv⟩
def r82_0:List AI:=[oO 3 (.box 3 (.t 0)),
 oO 5 (.box 4 (.t 2)),
 oC 6 (.sl .full []),
 oC 7 (.i .i64 0)]
def r82_1:List AI:=[oM 15 1,
 oB 16 .lss (.t 15) (.c (.i .i64 0)),
 oM 17 16,
 oG 18 (.mv (.t 1)) 17 false,
 oG 19 (.bin .geq (.t 18) (.c (.i .i64 170))) 17 false,
 oO 20 (.pick (.t 17) (.c (.b true)) (.t 19))]
def r82_2:List AI:=[oC 6 (.sl .full []),
 oC 7 (.i .i64 2)]
def r82_3:List AI:=[oO 21 (.load 3 true (.t 3)),
 oO 22 (.load 4 true (.t 5)),
 oO 23 (.call false 86 [(.t 21),(.t 22)]),
 oM 8 23]
def r82_4:List AI:=[oM 24 8,
 oB 25 .neq (.t 24) (.c (.i .i64 0))]
def r82_5:List AI:=[oM 26 8,
 oC 6 (.sl .full []),
 oM 7 26]
def r82_6:List AI:=[oF 27 2 3,
 oL 28 27,
 oF 29 0 5,
 oL 30 29,
 oO 31 (.iaL 7 (.t 28) (.t 30)),
 oO 32 (.load 7 true (.t 31)),
 oO 9 (.alloc [.s [],.i .i64 0,.i .i64 0,.sl .full [],.sl .full [],.sl .full [],.sl .full []]),
 oS 7 9 32]
def r82_7:List AI:=[oM 33 1,
 oO 34 (.call false 111 [(.t 33)]),
 oB 35 .add (.c (.s [35])) (.t 34),
 oB 36 .add (.t 35) (.c (.s [32])),
 oF 37 0 5,
 oL 38 37,
 oO 39 (.call false 111 [(.t 38)]),
 oB 40 .add (.t 36) (.t 39),
 oB 41 .add (.t 40) (.c (.s [32])),
 oF 42 0 9,
 oL 43 42,
 oO 44 (.call false 112 [(.t 43)]),
 oB 45 .add (.t 41) (.t 44),
 oB 46 .add (.t 45) (.c (.s [32,97,116,32])),
 oF 47 1 5,
 oL 48 47,
 oO 49 (.call false 111 [(.t 48)]),
 oB 50 .add (.t 46) (.t 49),
 oB 51 .add (.t 50) (.c (.s [32])),
 oO 52 (.call false 113 []),
 oF 53 2 5,
 oL 54 53,
 oO 55 (.ixA 4 1 false (.t 52) (.t 54)),
 oB 56 .add (.t 51) (.t 55),
 oO 57 (.bslice [.s []] 1 [(0,(.t 56))]),
 oM 10 57]
def r82_8:List AI:=[oF 58 3 5,
 oL 59 58,
 oO 60 (.len false (.t 59)),
 oC 61 (.i .i64 0)]
def r82_9:List AI:=[oB 62 .lss (.t 61) (.t 60)]
def r82_10:List AI:=[oO 63 (.iaL 6 (.t 59) (.t 61)),
 oO 64 (.load 6 true (.t 63)),
 oO 12 (.alloc [.i .i64 0,.i .u8 0,.i .i64 0,.s [],.sl .full [],.b false]),
 oS 6 12 64]
def r82_11:List AI:=[oF 66 1 12,
 oO 67 (.load 5 true (.t 66)),
 oO 68 (.call false 72 [(.t 67)]),
 oM 65 68,
 oE 69 0 65,
 oE 70 1 65,
 oM 13 69,
 oM 14 70]
def r82_12:List AI:=[oM 71 14,
 oB 72 .neq (.t 71) (.c (.i .i64 0))]
def r82_13:List AI:=[oM 73 14,
 oC 6 (.sl .full []),
 oM 7 73]
def r82_14:List AI:=[oM 74 10,
 oF 75 0 12,
 oL 76 75,
 oO 77 (.call false 111 [(.t 76)]),
 oB 78 .add (.c (.s [32,32])) (.t 77),
 oB 79 .add (.t 78) (.c (.s [32])),
 oF 80 3 9,
 oL 81 80,
 oF 82 0 12,
 oL 83 82,
 oO 84 (.iaL 2 (.t 81) (.t 83)),
 oF 85 0 84,
 oL 86 85,
 oO 87 (.call false 112 [(.t 86)]),
 oB 88 .add (.t 79) (.t 87),
 oB 89 .add (.t 88) (.c (.s [32,61,32])),
 oM 90 13,
 oB 91 .add (.t 89) (.t 90),
 oO 92 (.bslice [.s []] 1 [(0,(.t 91))]),
 oO 93 (.app 1 16 (.t 74) (.t 92)),
 oM 10 93]
def r82_15:List AI:=[oB 94 .add (.t 61) (.c (.i .i64 1)),
 oM 61 94]
def r82_16:List AI:=[oM 95 10,
 oM 6 95,
 oC 7 (.i .i64 0)]
abbrev l82_0:AC:=(.seq (.reg 9 r82_9) (.seq (.cond (.t 62) .skip (.exit 0)) (.seq (.block 1 (.seq (.reg 10 r82_10) (.seq (.reg 11 r82_11) (.seq (.seq (.reg 12 r82_12) (.cond (.t 72) (.seq (.reg 13 r82_13) .ret) .skip)) (.reg 14 r82_14))))) (.reg 15 r82_15))))
abbrev c82_1:AC:=(.seq (.reg 16 r82_16) .ret)
abbrev c82_2:AC:=(.seq (.reg 7 r82_7) (.seq (.seq (.reg 8 r82_8) (.block 0 (.loop l82_0))) c82_1))
abbrev c82_3:AC:=(.seq (.reg 6 r82_6) c82_2)
abbrev c82_4:AC:=(.seq (.seq (.reg 3 r82_3) (.seq (.reg 4 r82_4) (.cond (.t 25) (.seq (.reg 5 r82_5) .ret) .skip))) c82_3)
abbrev c82_5:AC:=(.seq (.seq (.reg 1 r82_1) (.cond (.t 20) (.seq (.reg 2 r82_2) .ret) .skip)) c82_4)
abbrev b82:AC:=(.seq (.reg 0 r82_0) c82_5)
def pf82:AF:={ nt:=96,res:=[.tmp 6,.tmp 7],body:=b82 }
abbrev H82 (Q:AE→Sl→St→Prop)(K:List (List UInt8)→Int→Prop):Prop:=∀(σ:Sl)(st:St)(o0:Own)(res0:List (List UInt8))(res1:Int),σ 6 = .sl o0 (List.map rowS res0)→σ 7 = .i .i64 res1→K res0 res1→Q .ret σ st
abbrev I82_0 (prog:Prog)(d:Nat)(Q:AE→Sl→St→Prop)(t59:List Loc)(t60:Int)(out10:List (List UInt8))(t61:Int)(m24582:Fun):Prop:=
  ∀(σ:Sl)(st:St) (o_out10 o_t59:Own)(v24582:Nat),σ 9 = .p (d,24582) v24582 0→σ 10 = .sl o_out10 (List.map rowS out10)→σ 59 = .sl o_t59 (List.map Loc.row t59)→σ 60 = .i .i64 t60→σ 61 = .i .i64 t61→ApM d st.ow o_out10 out10.length→lk st.bx (d,24582) = some (v24582,[.s m24582.name,.i .i64 m24582.params,.i .i64 m24582.result,.sl .ext (List.map Fld.row m24582.slots),.sl .ext (List.map Ins.row m24582.code),.sl .ext (List.map Rnn.row m24582.sizes),.sl .ext (List.map Rnn.row m24582.lives)])→W prog d (.loop l82_0) σ st (blockW 0 (thenW prog d c82_1 Q))
def T82_6 (prog:Prog)(K:List (List UInt8)→Int→Prop)(out10:List (List UInt8)):Prop:=
  K out10 0
def T82_5 (prog:Prog)(K:List (List UInt8)→Int→Prop)(P0:List (List UInt8)→Int→Fun→Prop)(out10:List (List UInt8))(t59:List Loc)(t60:Int)(t61:Int)(m24582:Fun):Prop:=
  (t61 < t60→0≤t61∧∃c'2:Loc,t59[(t61).toNat]? = some c'2∧∃r'4:List UInt8,∃r'5:Int,Pus prog 72 [c'2.value.av] (.tup [.s r'4,.i .i64 r'5])∧(r'5≠0→K ([]:List (List UInt8)) r'5)∧(¬(r'5≠0)→∃r'8:List UInt8,Pus prog 111 [.i .i64 c'2.slot] (.s r'8)∧([32,32]:List UInt8).length + r'8.length≤maxStr∧(([32,32]:List UInt8) ++ r'8).length + ([32]:List UInt8).length≤maxStr∧0≤c'2.slot∧∃c'10:Fld,m24582.slots[(c'2.slot).toNat]? = some c'10∧∃r'12:List UInt8,Pus prog 112 [.s c'10.name] (.s r'12)∧((([32,32]:List UInt8) ++ r'8) ++ ([32]:List UInt8)).length + r'12.length≤maxStr∧(((([32,32]:List UInt8) ++ r'8) ++ ([32]:List UInt8)) ++ r'12).length + ([32,61,32]:List UInt8).length≤maxStr∧((((([32,32]:List UInt8) ++ r'8) ++ ([32]:List UInt8)) ++ r'12) ++ ([32,61,32]:List UInt8)).length + r'4.length≤maxStr∧Fit (out10.length + [(((((([32,32]:List UInt8) ++ r'8) ++ ([32]:List UInt8)) ++ r'12) ++ ([32,61,32]:List UInt8)) ++ r'4)].length) 16∧P0 (out10 ++ [(((((([32,32]:List UInt8) ++ r'8) ++ ([32]:List UInt8)) ++ r'12) ++ ([32,61,32]:List UInt8)) ++ r'4)]) (IntKind.i64.wrap (t61 + 1)) m24582))∧(¬(t61 < t60)→T82_6 prog K out10)
def T82_4 (prog:Prog)(K:List (List UInt8)→Int→Prop)(k1:Int)(m1:Frm)(m24582:Fun):Prop:=
  ∃r'1:List UInt8,Pus prog 111 [.i .i64 k1] (.s r'1)∧([35]:List UInt8).length + r'1.length≤maxStr∧(([35]:List UInt8) ++ r'1).length + ([32]:List UInt8).length≤maxStr∧∃r'3:List UInt8,Pus prog 111 [.i .i64 m1.func] (.s r'3)∧((([35]:List UInt8) ++ r'1) ++ ([32]:List UInt8)).length + r'3.length≤maxStr∧(((([35]:List UInt8) ++ r'1) ++ ([32]:List UInt8)) ++ r'3).length + ([32]:List UInt8).length≤maxStr∧∃r'5:List UInt8,Pus prog 112 [.s m24582.name] (.s r'5)∧((((([35]:List UInt8) ++ r'1) ++ ([32]:List UInt8)) ++ r'3) ++ ([32]:List UInt8)).length + r'5.length≤maxStr∧(((((([35]:List UInt8) ++ r'1) ++ ([32]:List UInt8)) ++ r'3) ++ ([32]:List UInt8)) ++ r'5).length + ([32,97,116,32]:List UInt8).length≤maxStr∧∃r'7:List UInt8,Pus prog 111 [.i .i64 m1.pos] (.s r'7)∧((((((([35]:List UInt8) ++ r'1) ++ ([32]:List UInt8)) ++ r'3) ++ ([32]:List UInt8)) ++ r'5) ++ ([32,97,116,32]:List UInt8)).length + r'7.length≤maxStr∧(((((((([35]:List UInt8) ++ r'1) ++ ([32]:List UInt8)) ++ r'3) ++ ([32]:List UInt8)) ++ r'5) ++ ([32,97,116,32]:List UInt8)) ++ r'7).length + ([32]:List UInt8).length≤maxStr∧∃r'9:List (List UInt8),Pus prog 113 [] (.ag (List.map AV.s r'9))∧r'9.length = 4∧0≤m1.mode∧∃c'11:List UInt8,(r'9:List (List UInt8))[(m1.mode).toNat]? = some c'11∧((((((((([35]:List UInt8) ++ r'1) ++ ([32]:List UInt8)) ++ r'3) ++ ([32]:List UInt8)) ++ r'5) ++ ([32,97,116,32]:List UInt8)) ++ r'7) ++ ([32]:List UInt8)).length + c'11.length≤maxStr∧∀P0:List (List UInt8)→Int→Fun→Prop,(∀(out10:List (List UInt8))(t61:Int)(m24582:Fun),T82_5 prog K P0 out10 m1.locals (m1.locals.length:Int) t61 m24582→P0 out10 t61 m24582)→P0 [(((((((((([35]:List UInt8) ++ r'1) ++ ([32]:List UInt8)) ++ r'3) ++ ([32]:List UInt8)) ++ r'5) ++ ([32,97,116,32]:List UInt8)) ++ r'7) ++ ([32]:List UInt8)) ++ c'11)] 0 m24582
def T82_3 (prog:Prog)(K:List (List UInt8)→Int→Prop)(k1:Int)(m0:Img)(m1:Frm):Prop:=
  0≤m1.func∧∃c'1:Fun,m0.funcs[(m1.func).toNat]? = some c'1∧T82_4 prog K k1 m1 c'1
def T82_2 (prog:Prog)(K:List (List UInt8)→Int→Prop)(k1:Int)(m0:Img)(m1:Frm):Prop:=
  ∃r'1:Int,Pus prog 86 [m0.av,m1.av] (.i .i64 r'1)∧(r'1≠0→K ([]:List (List UInt8)) r'1)∧(¬(r'1≠0)→T82_3 prog K k1 m0 m1)
def T82_1 (prog:Prog)(K:List (List UInt8)→Int→Prop)(k1:Int)(m0:Img)(m1:Frm):Prop:=
  (k1 < 0→K ([]:List (List UInt8)) 2)∧(¬(k1 < 0)→(k1 ≥ 170→K ([]:List (List UInt8)) 2)∧(¬(k1 ≥ 170)→T82_2 prog K k1 m0 m1))
def T82_0 (prog:Prog)(K:List (List UInt8)→Int→Prop)(m0:Img)(k1:Int)(x2:Frm):Prop:=
  T82_1 prog K k1 m0 x2
section
variable {prog:Prog}{d:Nat}{Q:AE→Sl→St→Prop}{K:List (List UInt8)→Int→Prop}(hQ:H82 Q K){σ:Sl}{st:St}
include hQ
theorem w82_6 {out10:List (List UInt8)}{o_out10:Own}(H10:σ 10 = .sl o_out10 (List.map rowS out10))(A10:ApM d st.ow o_out10 out10.length)(h:T82_6 prog K out10):W prog d c82_1 σ st Q:=
 q_ rfl (s_mvL H10 (s_mvL rfl (m_ (e_ (rt_ (hQ _ _ _ _ _ rfl rfl h))))))
theorem w82_5 {out10:List (List UInt8)}{t59:List Loc}{t60 t61:Int}{m24582:Fun}{P0:List (List UInt8)→Int→Fun→Prop} (kP0 :∀(out10:List (List UInt8))(t61:Int)(m24582:Fun),P0 out10 t61 m24582→I82_0 prog d Q t59 t60 out10 t61 m24582){o_out10 o_t59:Own}{v24582:Nat}(H9:σ 9 = .p (d,24582) v24582 0)(H10:σ 10 = .sl o_out10 (List.map rowS out10))(H59:σ 59 = .sl o_t59 (List.map Loc.row t59))(H60:σ 60 = .i .i64 t60)(H61:σ 61 = .i .i64 t61)(A10:ApM d st.ow o_out10 out10.length)(B24582:lk st.bx (d,24582) = some (v24582,[.s m24582.name,.i .i64 m24582.params,.i .i64 m24582.result,.sl .ext (List.map Fld.row m24582.slots),.sl .ext (List.map Ins.row m24582.code),.sl .ext (List.map Rnn.row m24582.sizes),.sl .ext (List.map Rnn.row m24582.lives)]))(h:T82_5 prog K P0 out10 t59 t60 t61 m24582):W prog d l82_0 σ st (thenW prog d (.loop l82_0) (blockW 0 (thenW prog d c82_1 Q))):=
 q_ rfl (b_ H61 H60 lss_ (e_ (sq_ (cs_ rfl (fun g'1=>sk_ (sq_ (bk_ (sq_ (W.reg ((h.1 g'1).2.elim fun c'2 e'3=>ia_ H59 H61 (h.1 g'1).1 e'3.1 (Loc.row_eq c'2) rfl (lf_ rfl rfl rfl (s_alloc (so_ rfl (show lk _ (d,40962) = some (_,([.i .i64 0,.i .u8 0,.i .i64 0,.s [],.sl .full (List.map Val.row ([]:List Val)),.b false]:List AV)) from lk_here) rfl rfl rfl (e_ (q_ rfl (f_ rfl (l_ rfl lk_here rfl rfl (e'3.2.elim fun r'4 e'19=>e'19.elim fun r'5 e'6=>ca_ (sc rfl rfl sn) e'6.1 (m_ (x_ rfl rfl (x_ rfl rfl (m_ (m_ (e_ (sq_ (q_ rfl (m_ (b_ rfl rfl neq_ (e_ (cs_ rfl (fun g'7=>q_ rfl (m_ (s_mvL (f:=rowS) (l:=[]) rfl (m_ (e_ (rt_ (hQ _ _ _ _ _ rfl rfl (e'6.2.1 g'7)))))))) (fun g'7=>sk_ (W.reg0 rfl fun _ _=>s_mvL H10 (f_ rfl (l_ rfl lk_here rfl rfl ((e'6.2.2 g'7).elim fun r'8 e'9=>ca_ (sc rfl rfl sn) e'9.1 (b_ rfl rfl (abin_cat' e'9.2.1) (b_ rfl rfl (abin_cat' e'9.2.2.1) (f_ H9 (l_ rfl (lk_other rfl (lk_other rfl B24582)) rfl rfl (f_ rfl (l_ rfl lk_here rfl rfl (e'9.2.2.2.2.elim fun c'10 e'11=>ia_ rfl rfl e'9.2.2.2.1 e'11.1 (Fld.row_eq c'10) rfl (ff_ rfl (lf_ rfl rfl rfl (e'11.2.elim fun r'12 e'13=>ca_ (sc rfl rfl sn) e'13.1 (b_ rfl rfl (abin_cat' e'13.2.1) (b_ rfl rfl (abin_cat' e'13.2.2.1) (m_ (b_ rfl rfl (abin_cat' e'13.2.2.2.1) (s_bslM (f:=rowS) (l:=[(((((([32,32]:List UInt8) ++ r'8) ++ ([32]:List UInt8)) ++ r'12) ++ ([32,61,32]:List UInt8)) ++ r'4)]) rfl rfl (g_cons rfl rfl rfl g_nil) rfl (s_app rowS_len rfl rfl rfl A10.1 e'13.2.2.2.2.1 rfl (fun o'14 ow'17 a'15 fr'16 on'18=>s_mvL rfl (e_ (W.reg0 rfl fun _ _=>b_ H61 rfl add_ (m_ (e_ (kP0 _ _ _ e'13.2.2.2.2.2 _ _ _ _ _ H9 rfl H59 H60 rfl (ApM.mk a'15 (Mine.app A10.2 rfl on'18)) (lk_other rfl (lk_other rfl B24582))))))))))))))))))))))))))))))))))))))))))))))))))))))) (fun g'1=>ex_ (w82_6 hQ H10 A10 (h.2 g'1)))))))
theorem w82_4 {k1:Int}{m1:Frm}{m24582:Fun}{v1:Nat}{v24582:Nat}(H1:σ 1 = .i .i64 k1)(H5:σ 5 = .p (d,1) v1 0)(H9:σ 9 = .p (d,24582) v24582 0)(B1:lk st.bx (d,1) = some (v1,[.i .i64 m1.func,.i .i64 m1.pos,.i .u64 m1.mode,.sl .ext (List.map Loc.row m1.locals)]))(B24582:lk st.bx (d,24582) = some (v24582,[.s m24582.name,.i .i64 m24582.params,.i .i64 m24582.result,.sl .ext (List.map Fld.row m24582.slots),.sl .ext (List.map Ins.row m24582.code),.sl .ext (List.map Rnn.row m24582.sizes),.sl .ext (List.map Rnn.row m24582.lives)]))(h:T82_4 prog K k1 m1 m24582):W prog d c82_2 σ st Q:=
 q_ rfl (m_ (h.elim fun r'1 e'2=>ca_ (sc H1 rfl sn) e'2.1 (b_ rfl rfl (abin_cat' e'2.2.1) (b_ rfl rfl (abin_cat' e'2.2.2.1) (f_ H5 (l_ rfl B1 rfl rfl (e'2.2.2.2.elim fun r'3 e'4=>ca_ (sc rfl rfl sn) e'4.1 (b_ rfl rfl (abin_cat' e'4.2.1) (b_ rfl rfl (abin_cat' e'4.2.2.1) (f_ H9 (l_ rfl B24582 rfl rfl (e'4.2.2.2.elim fun r'5 e'6=>ca_ (sc rfl rfl sn) e'6.1 (b_ rfl rfl (abin_cat' e'6.2.1) (b_ rfl rfl (abin_cat' e'6.2.2.1) (f_ H5 (l_ rfl B1 rfl rfl (e'6.2.2.2.elim fun r'7 e'8=>ca_ (sc rfl rfl sn) e'8.1 (b_ rfl rfl (abin_cat' e'8.2.1) (b_ rfl rfl (abin_cat' e'8.2.2.1) (e'8.2.2.2.elim fun r'9 e'10=>ca_ sn e'10.1 (f_ H5 (l_ rfl B1 rfl rfl (e'10.2.2.2.elim fun c'11 e'12=>s_ixA (f:=AV.s) e'10.2.1 rfl rfl e'10.2.2.1 e'12.1 (b_ rfl rfl (abin_cat' e'12.2.1) (s_bslM (f:=rowS) (l:=[(((((((((([35]:List UInt8) ++ r'1) ++ ([32]:List UInt8)) ++ r'3) ++ ([32]:List UInt8)) ++ r'5) ++ ([32,97,116,32]:List UInt8)) ++ r'7) ++ ([32]:List UInt8)) ++ c'11)]) rfl rfl (g_cons rfl rfl rfl g_nil) rfl (s_mvL rfl (e_ (sq_ (q_ rfl (f_ H5 (l_ rfl B1 rfl rfl (ll_ rfl (m_ (e_ (bk_ (e'12.2.2 (I82_0 prog d Q m1.locals (m1.locals.length:Int)) (fun _ _ _ hb _ _ _ _ _ H9 H10 H59 H60 H61 A10 B24582=>W.loop (w82_5 hQ (fun _ _ _ x=>x) H9 H10 H59 H60 H61 A10 B24582 hb)) _ _ _ _ _ H9 rfl rfl rfl rfl ApM.full B24582))))))))))))))))))))))))))))))))))))
theorem w82_3 {k1:Int}{m0:Img}{m1:Frm}{v0:Nat}{v1:Nat}(H1:σ 1 = .i .i64 k1)(H3:σ 3 = .p (d,0) v0 0)(H5:σ 5 = .p (d,1) v1 0)(B0:lk st.bx (d,0) = some (v0,[.sl .ext (List.map Typ.row m0.types),.sl .ext (List.map rowS m0.texts),.sl .ext (List.map Fun.row m0.funcs)]))(B1:lk st.bx (d,1) = some (v1,[.i .i64 m1.func,.i .i64 m1.pos,.i .u64 m1.mode,.sl .ext (List.map Loc.row m1.locals)]))(h:T82_3 prog K k1 m0 m1):W prog d c82_3 σ st Q:=
 sq_ (W.reg (f_ H3 (l_ rfl (lk_other rfl B0) rfl rfl (f_ H5 (l_ rfl (lk_other rfl B1) rfl rfl (h.2.elim fun c'1 e'2=>ia_ rfl rfl h.1 e'2.1 (Fun.row_eq c'1) rfl (lf_ rfl rfl rfl (s_alloc (so_ rfl (show lk _ (d,24582) = some (_,([.s [],.i .i64 0,.i .i64 0,.sl .full (List.map Fld.row ([]:List Fld)),.sl .full (List.map Ins.row ([]:List Ins)),.sl .full (List.map Rnn.row ([]:List Rnn)),.sl .full (List.map Rnn.row ([]:List Rnn))]:List AV)) from lk_here) rfl rfl rfl (e_ (w82_4 hQ H1 H5 rfl (lk_other rfl (lk_other rfl B1)) lk_here e'2.2)))))))))))
theorem w82_2 {k1:Int}{m0:Img}{m1:Frm}{v0:Nat}{v1:Nat}(H1:σ 1 = .i .i64 k1)(H3:σ 3 = .p (d,0) v0 0)(H5:σ 5 = .p (d,1) v1 0)(B0:lk st.bx (d,0) = some (v0,[.sl .ext (List.map Typ.row m0.types),.sl .ext (List.map rowS m0.texts),.sl .ext (List.map Fun.row m0.funcs)]))(B1:lk st.bx (d,1) = some (v1,[.i .i64 m1.func,.i .i64 m1.pos,.i .u64 m1.mode,.sl .ext (List.map Loc.row m1.locals)]))(h:T82_2 prog K k1 m0 m1):W prog d c82_4 σ st Q:=
 sq_ (q_ rfl (l_ H3 B0 rfl rfl (l_ H5 B1 rfl rfl (h.elim fun r'1 e'2=>ca_ (sc rfl rfl (sc rfl rfl sn)) e'2.1 (m_ (e_ (q_ rfl (m_ (b_ rfl rfl neq_ (e_ (cs_ rfl (fun g'3=>q_ rfl (m_ (s_mvL (f:=rowS) (l:=[]) rfl (m_ (e_ (rt_ (hQ _ _ _ _ _ rfl rfl (e'2.2.1 g'3)))))))) (fun g'3=>sk_ (w82_3 hQ H1 H3 H5 B0 B1 (e'2.2.2 g'3))))))))))))))
theorem w82_1 {k1:Int}{m0:Img}{m1:Frm}{v0:Nat}{v1:Nat}(H1:σ 1 = .i .i64 k1)(H3:σ 3 = .p (d,0) v0 0)(H5:σ 5 = .p (d,1) v1 0)(B0:lk st.bx (d,0) = some (v0,[.sl .ext (List.map Typ.row m0.types),.sl .ext (List.map rowS m0.texts),.sl .ext (List.map Fun.row m0.funcs)]))(B1:lk st.bx (d,1) = some (v1,[.i .i64 m1.func,.i .i64 m1.pos,.i .u64 m1.mode,.sl .ext (List.map Loc.row m1.locals)]))(h:T82_1 prog K k1 m0 m1):W prog d c82_5 σ st Q:=
 sq_ (q_ rfl (s_mvI H1 (b_ rfl rfl lss_ (s_mvB rfl (em_ (g:=17) rfl (fun g'1=>gn_ (b:=true) rfl rfl (gn_ (b:=true) rfl rfl (pt_ rfl rfl (e_ (ct_ rfl (q_ rfl (s_mvL (f:=rowS) (l:=[]) rfl (m_ (e_ (rt_ (hQ _ _ _ _ _ rfl rfl (h.1 g'1)))))))))))) (fun g'1=>gy_ rfl (s_mvI H1 (gy_ rfl (b_ rfl rfl geq_ (pf_ rfl rfl (e_ (cs_ rfl (fun g'2=>q_ rfl (s_mvL (f:=rowS) (l:=[]) rfl (m_ (e_ (rt_ (hQ _ _ _ _ _ rfl rfl ((h.2 g'1).1 g'2))))))) (fun g'2=>sk_ (w82_2 hQ H1 H3 H5 B0 B1 ((h.2 g'1).2 g'2)))))))))))))))
theorem w82_0 {m0:Img}{k1:Int}{x2:Frm}(H0:σ 0 = m0.av)(H1:σ 1 = .i .i64 k1)(H2:σ 2 = x2.av)(h:T82_0 prog K m0 k1 x2):W prog d (.seq (.reg 0 r82_0) c82_5) σ st Q:=
 q_ rfl (s_box H0 rfl (s_box H2 rfl (s_mvL (f:=rowS) (l:=[]) rfl (m_ (e_ (w82_1 hQ H1 rfl rfl (lk_other rfl lk_here) lk_here h))))))
end
theorem p82 {prog:Prog}(hf:prog.fn 82 = some pf82){m0:Img}{k1:Int}{x2:Frm}{K:List (List UInt8)→Int→Prop}(h:T82_0 prog K m0 k1 x2) :∃res0:List (List UInt8),∃res1:Int,K res0 res1∧Pus prog 82 [m0.av,.i .i64 k1,x2.av] (.tup [.sl .ext (List.map rowS res0),.i .i64 res1]):=by
  obtain ⟨v,hv,res0,res1,hk,rfl⟩:=Pus.of (K:=fun v=>∃res0:List (List UInt8),∃res1:Int,K res0 res1∧v = .tup [.sl .ext (List.map rowS res0),.i .i64 res1]) hf rfl (w82_0 (σ:=sl0 [m0.av,.i .i64 k1,x2.av]) (fun σ st  o0 res0 res1 H6 H7 hk=>⟨.tup [.sl o0 (List.map rowS res0),.i .i64 res1],by simp only [pf82,ares,aresL,H6,H7,ares1,Option.map_some],_,rfl,res0,res1,hk,rfl⟩) rfl rfl rfl h)
  exact ⟨res0,res1,hk,hv⟩
end Go.AM
