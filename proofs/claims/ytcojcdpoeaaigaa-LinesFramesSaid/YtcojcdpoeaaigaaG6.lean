/- Parts of the proof: U38e, U38f. -/
import Derived.Test.YtcojcdpoeaaigaaG2
set_option linter.all false
/- Parts of the proof. -/
namespace Go.AM
open Go
set_option linter.unusedVariables false
set_option linter.unusedSimpArgs false
set_option maxRecDepth 4000
attribute [local irreducible] WO fillCells fillRows
def r140_0:List AI:=[oC 4 (.i .i64 0),
 oC 5 (.b false)]
def r140_1:List AI:=[oM 9 0,
 oO 10 (.call true 131 [(.t 9)]),
 oM 8 10,
 oE 11 0 8,
 oE 12 1 8,
 oM 6 11,
 oM 7 12]
def r140_2:List AI:=[oM 13 6,
 oM 14 7,
 oM 15 14,
 oG 16 (.mv (.t 6)) 15 true,
 oG 17 (.bin .geq (.t 16) (.c (.i .i64 0))) 15 true,
 oO 18 (.pick (.t 15) (.t 17) (.c (.b false))),
 oM 19 18,
 oG 20 (.mv (.t 6)) 19 true,
 oG 21 (.mv (.t 1)) 19 true,
 oG 22 (.bin .lss (.t 20) (.t 21)) 19 true,
 oO 23 (.pick (.t 19) (.t 22) (.c (.b false))),
 oM 4 13,
 oM 5 23]
abbrev b140:AC:=(.seq (.reg 0 r140_0) (.seq (.reg 1 r140_1) (.seq (.reg 2 r140_2) .ret)))
def pf140:AF:={ nt:=24,res:=[.tmp 4,.tmp 5],body:=b140 }
abbrev H140 (d:Nat)(st0:St)(kp:Key)(vp:Nat)(Q:AE→Sl→St→Prop)(K:Int→Bool→Sc→Prop):Prop:=∀(σ:Sl)(st:St)(res0:Int)(res1:Bool)(b_:Sc),σ 4 = .i .i64 res0→σ 5 = .b res1→lk st.bx kp = some (vp,[.s b_.left])→Fr d kp st0.bx st0.ow st.bx st.ow→K res0 res1 b_→Q .ret σ st
def T140_0 (prog:Prog)(K:Int→Bool→Sc→Prop)(n1:Int)(mP:Sc):Prop:=
  ∃r'1:Int,∃r'2:Bool,∃b'8:Sc,PuX prog 131 (Bx [.s mP.left]) [] (fun r=>r = .tup [.i .i64 r'1,.b r'2]) ((Bx [.s b'8.left]))∧(r'2 = true→(r'1 ≥ 0→K r'1 (decide (r'1 < n1)) b'8)∧(¬(r'1 ≥ 0)→K r'1 false b'8))∧(r'2 = false→K r'1 false b'8)
section
variable {prog:Prog}{d:Nat}{Q:AE→Sl→St→Prop}{K:Int→Bool→Sc→Prop}{st0:St}{kp:Key}{vp:Nat}(hQ:H140 d st0 kp vp Q K)(hkp:kp.1 < d){σ:Sl}{st:St}
include hQ hkp
theorem w140_0 {n1:Int}{mP:Sc}(H0:σ 0 = .p kp vp 0)(H1:σ 1 = .i .i64 n1)(BP:lk st.bx kp = some (vp,[.s mP.left]))(FR:Fr d kp st0.bx st0.ow st.bx st.ow)(h:T140_0 prog K n1 mP):W prog d (.seq (.reg 0 r140_0) (.seq (.reg 1 r140_1) (.seq (.reg 2 r140_2) .ret))) σ st Q:=
 q_ rfl (m_ (m_ (e_ (q_ rfl (m_ (h.elim fun r'1 e'11=>e'11.elim fun r'2 e'12=>e'12.elim fun b'8 e'4=>cX_ (sec H0 sen) e'4.1 (Nat.lt_succ_of_lt hkp) BP (fun st'5 hb'6 hf'7=>m_ (x_ rfl rfl (x_ rfl rfl (m_ (m_ (e_ (q_ rfl (s_mvI rfl (s_mvB rfl (s_mvB rfl (eb_ (g:=15) rfl (fun g'9=>gy_ rfl (s_mvI rfl (gy_ rfl (b_ rfl rfl geq_ (pt_ rfl rfl (s_mvB rfl (em_ (g:=19) rfl (fun g'10=>gy_ rfl (s_mvI rfl (gy_ rfl (s_mvI H1 (gy_ rfl (b_ rfl rfl lss_ (pt_ rfl rfl (s_mvI rfl (s_mvB rfl (e_ (rt_ (hQ _ _ _ _ _ rfl rfl hb'6 (Fr.pass FR hf'7) ((e'4.2.1 g'9).1 g'10))))))))))))) (fun g'10=>gn_ (b:=false) rfl rfl (gn_ (b:=false) rfl rfl (gn_ (b:=false) rfl rfl (pf_ rfl rfl (s_mvI rfl (s_mvB rfl (e_ (rt_ (hQ _ _ _ _ _ rfl rfl hb'6 (Fr.pass FR hf'7) ((e'4.2.1 g'9).2 g'10))))))))))))))))) (fun g'9=>gn_ (b:=false) rfl rfl (gn_ (b:=false) rfl rfl (pf_ rfl rfl (s_mvB rfl (gn_ (b:=false) rfl rfl (gn_ (b:=false) rfl rfl (gn_ (b:=false) rfl rfl (pf_ rfl rfl (s_mvI rfl (s_mvB rfl (e_ (rt_ (hQ _ _ _ _ _ rfl rfl hb'6 (Fr.pass FR hf'7) (e'4.2.2 g'9)))))))))))))))))))))))))))))))
end
theorem p140 {prog:Prog}(hf:prog.fn 140 = some pf140){n1:Int}{mP:Sc}{K:Int→Bool→Sc→Prop}(h:T140_0 prog K n1 mP):PuXK prog 140 (Bx [.s mP.left]) [.i .i64 n1] (fun r (b_:Sc)=>∃res0:Int,∃res1:Bool,(r = .tup [.i .i64 res0,.b res1])∧K res0 res1 b_) (fun b_=>(Bx [.s b_.left])):=
  PuXK.of hf rfl (fun _=>Bx.out) fun d st kp vp hkp hB=>w140_0 (st0:=st) (Q:=fun e σ st'=>(e = .normal∨e = .ret)∧∃r b_,ares σ st' pf140.res = some r∧_∧_∧Fr d kp st.bx st.ow st'.bx st'.ow) (fun σ st'   res0 res1 b_ H4 H5 hb hf hk=>⟨.inr rfl,.tup [.i .i64 res0,.b res1],b_,by simp only [pf140,ares,aresL,H4,H5,ares1,Option.map_some,H4,H5],⟨res0,res1,rfl,hk⟩,hb,hf⟩) hkp (σ:=sl0 [.p kp vp 0,.i .i64 n1]) rfl rfl hB Fr.refl h
def r117_0:List AI:=[oO 2 (.box 3 (.t 0)),
 oC 4 (.i .i64 0),
 oO 5 (.alloc [.i .i64 0,.i .i64 0,.i .u64 0,.sl .full []]),
 oC 6 (.b false)]
def r117_1:List AI:=[oM 13 1,
 oO 14 (.build [.s []] [(0,1,(.t 13))]),
 oO 15 (.box 1 (.t 14)),
 oM 7 15]
def r117_2:List AI:=[oO 8 (.alloc [.i .i64 0,.i .i64 0,.i .u64 0,.sl .full []])]
def r117_3:List AI:=[oM 16 7,
 oO 17 (.call true 128 [(.t 16),(.c (.s [35]))]),
 oO 18 (.un .not (.t 17))]
def r117_4:List AI:=[oO 19 (.load 4 true (.t 8)),
 oC 4 (.i .i64 0),
 oS 4 5 19,
 oC 6 (.b false)]
def r117_5:List AI:=[oM 21 7,
 oO 22 (.call true 140 [(.t 21),(.c (.i .i64 170))]),
 oM 20 22,
 oE 23 0 20,
 oE 24 1 20,
 oM 9 23,
 oM 10 24]
def r117_6:List AI:=[oM 25 10,
 oO 26 (.un .not (.t 25)),
 oM 27 26,
 oG 28 (.mv (.t 7)) 27 false,
 oG 29 (.call true 128 [(.t 28),(.c (.s [32]))]) 27 false,
 oG 30 (.un .not (.t 29)) 27 false,
 oO 31 (.pick (.t 27) (.c (.b true)) (.t 30))]
def r117_7:List AI:=[oO 32 (.load 4 true (.t 8)),
 oC 4 (.i .i64 0),
 oS 4 5 32,
 oC 6 (.b false)]
def r117_8:List AI:=[oM 34 7,
 oF 35 2 2,
 oL 36 35,
 oO 37 (.len false (.t 36)),
 oO 38 (.call true 140 [(.t 34),(.t 37)]),
 oM 33 38,
 oE 39 0 33,
 oE 40 1 33,
 oF 41 0 8,
 oS 1 41 39,
 oM 10 40]
def r117_9:List AI:=[oM 42 10,
 oO 43 (.un .not (.t 42)),
 oM 44 43,
 oG 45 (.mv (.t 7)) 44 false,
 oG 46 (.fad 2 (.t 2)) 44 false,
 oG 47 (.load 1 false (.t 46)) 44 false,
 oG 48 (.fad 0 (.t 8)) 44 false,
 oG 49 (.load 1 false (.t 48)) 44 false,
 oG 50 (.iaL 7 (.t 47) (.t 49)) 44 false,
 oG 51 (.fad 0 (.t 50)) 44 false,
 oG 52 (.load 1 false (.t 51)) 44 false,
 oG 53 (.call false 112 [(.t 52)]) 44 false,
 oG 54 (.bin .add (.c (.s [32])) (.t 53)) 44 false,
 oG 55 (.bin .add (.t 54) (.c (.s [32,97,116,32]))) 44 false,
 oG 56 (.call true 128 [(.t 45),(.t 55)]) 44 false,
 oG 57 (.un .not (.t 56)) 44 false,
 oO 58 (.pick (.t 44) (.c (.b true)) (.t 57))]
def r117_10:List AI:=[oO 59 (.load 4 true (.t 8)),
 oC 4 (.i .i64 0),
 oS 4 5 59,
 oC 6 (.b false)]
def r117_11:List AI:=[oM 61 7,
 oF 62 2 2,
 oL 63 62,
 oF 64 0 8,
 oL 65 64,
 oO 66 (.iaL 7 (.t 63) (.t 65)),
 oF 67 4 66,
 oL 68 67,
 oO 69 (.len false (.t 68)),
 oO 70 (.call true 140 [(.t 61),(.t 69)]),
 oM 60 70,
 oE 71 0 60,
 oE 72 1 60,
 oF 73 1 8,
 oS 1 73 71,
 oM 10 72]
def r117_12:List AI:=[oM 74 10,
 oO 75 (.un .not (.t 74)),
 oM 76 75,
 oG 77 (.mv (.t 7)) 76 false,
 oG 78 (.call true 128 [(.t 77),(.c (.s [32]))]) 76 false,
 oG 79 (.un .not (.t 78)) 76 false,
 oO 80 (.pick (.t 76) (.c (.b true)) (.t 79))]
def r117_13:List AI:=[oO 81 (.load 4 true (.t 8)),
 oC 4 (.i .i64 0),
 oS 4 5 81,
 oC 6 (.b false)]
def r117_14:List AI:=[oO 82 (.call false 113 []),
 oO 11 (.alloc [.s [],.s [],.s [],.s []]),
 oS 4 11 82]
def r117_15:List AI:=[oO 83 (.slA 4 1 (.t 11) none none),
 oM 84 7,
 oN 85 84,
 oF 86 0 85,
 oL 87 86,
 oO 88 (.call false 141 [(.t 83),(.t 87)]),
 oM 12 88]
def r117_16:List AI:=[oM 89 12,
 oO 90 (.max (.c (.i .i64 0)) (.t 89)),
 oO 91 (.cvi .u64 (.t 90)),
 oF 92 2 8,
 oS 1 92 91]
def r117_17:List AI:=[oM 93 9,
 oO 94 (.load 4 true (.t 8)),
 oM 95 12,
 oB 96 .geq (.t 95) (.c (.i .i64 0)),
 oM 4 93,
 oS 4 5 94,
 oM 6 96]
abbrev c117_0:AC:=(.cond (.t 31) (.seq (.reg 7 r117_7) .ret) .skip)
abbrev c117_1:AC:=(.cond (.t 58) (.seq (.reg 10 r117_10) .ret) .skip)
abbrev c117_2:AC:=(.cond (.t 80) (.seq (.reg 13 r117_13) .ret) .skip)
abbrev c117_3:AC:=(.seq (.reg 14 r117_14) (.seq (.reg 15 r117_15) (.seq (.reg 16 r117_16) (.seq (.reg 17 r117_17) .ret))))
abbrev c117_4:AC:=(.seq (.reg 11 r117_11) (.seq (.seq (.reg 12 r117_12) c117_2) c117_3))
abbrev c117_5:AC:=(.seq (.seq (.reg 9 r117_9) c117_1) c117_4)
abbrev c117_6:AC:=(.seq (.reg 8 r117_8) c117_5)
abbrev c117_7:AC:=(.seq (.seq (.reg 6 r117_6) c117_0) c117_6)
abbrev c117_8:AC:=(.seq (.reg 5 r117_5) c117_7)
abbrev c117_9:AC:=(.seq (.seq (.reg 3 r117_3) (.cond (.t 18) (.seq (.reg 4 r117_4) .ret) .skip)) c117_8)
abbrev c117_10:AC:=(.seq (.reg 2 r117_2) c117_9)
abbrev c117_11:AC:=(.seq (.reg 1 r117_1) c117_10)
abbrev b117:AC:=(.seq (.reg 0 r117_0) c117_11)
def pf117:AF:={ nt:=97,res:=[.tmp 4,.cell 5 4 true,.tmp 6],body:=b117 }
abbrev H117 (d:Nat)(st0:St)(Q:AE→Sl→St→Prop)(K:Int→Frm→Bool→Prop):Prop:=∀(σ:Sl)(st:St)(k1:Key)(v1:Nat)(res0:Int)(res1:Frm)(res2:Bool),σ 4 = .i .i64 res0→σ 5 = .p k1 v1 0→lk st.bx k1 = some (v1,[.i .i64 res1.func,.i .i64 res1.pos,.i .u64 res1.mode,.sl .full (List.map Loc.row res1.locals)])→σ 6 = .b res2→Fr d (d,0) st0.bx st0.ow st.bx st.ow→K res0 res1 res2→Q .ret σ st
def T117_12 (prog:Prog)(K:Int→Frm→Bool→Prop)(k9:Int)(m2:Frm)(m4098:Sc)(m8192:Frm):Prop:=
  ∃r'1:List (List UInt8),Pus prog 113 [] (.ag (List.map AV.s r'1))∧r'1.length = 4∧r'1.length = 4∧∃r'3:Int,Pus prog 141 [.sl .ext (List.map rowS r'1),.s m4098.left] (.i .i64 r'3)∧K k9 (Frm.mk m8192.func m8192.pos (IntKind.u64.wrap (if 0 < r'3 then r'3 else 0)) m8192.locals) (decide (r'3 ≥ 0))
def T117_11 (prog:Prog)(K:Int→Frm→Bool→Prop)(k9:Int)(t80:Bool)(m2:Frm)(m4098:Sc)(m8192:Frm):Prop:=
  (t80 = true→K 0 m8192 false)∧(t80 = false→T117_12 prog K k9 m2 m4098 m8192)
def T117_10 (prog:Prog)(K:Int→Frm→Bool→Prop)(k9:Int)(m0:Img)(m2:Frm)(m4098:Sc)(m8192:Frm):Prop:=
  0≤m8192.func∧∃c'1:Fun,m0.funcs[(m8192.func).toNat]? = some c'1∧∃r'3:Int,∃r'4:Bool,∃b'10:Sc,PuX prog 140 (Bx [.s m4098.left]) [.i .i64 (c'1.code.length:Int)] (fun r=>r = .tup [.i .i64 r'3,.b r'4]) ((Bx [.s b'10.left]))∧((!r'4) = true→T117_11 prog K k9 true m2 b'10 (Frm.mk m8192.func r'3 m8192.mode m8192.locals))∧((!r'4) = false→∃r'12:Bool,∃b'18:Sc,PuX prog 128 (Bx [.s b'10.left]) [.s ([32]:List UInt8)] (fun r=>r = .b r'12) ((Bx [.s b'18.left]))∧T117_11 prog K k9 (!r'12) m2 b'18 (Frm.mk m8192.func r'3 m8192.mode m8192.locals))
def T117_9 (prog:Prog)(K:Int→Frm→Bool→Prop)(k9:Int)(t58:Bool)(m0:Img)(m2:Frm)(m4098:Sc)(m8192:Frm):Prop:=
  (t58 = true→K 0 m8192 false)∧(t58 = false→T117_10 prog K k9 m0 m2 m4098 m8192)
def T117_8 (prog:Prog)(K:Int→Frm→Bool→Prop)(k9:Int)(ok10:Bool)(m0:Img)(m2:Frm)(m4098:Sc)(m8192:Frm):Prop:=
  ((!ok10) = true→T117_9 prog K k9 true m0 m2 m4098 m8192)∧((!ok10) = false→0≤m8192.func∧∃c'2:Fun,m0.funcs[(m8192.func).toNat]? = some c'2∧∃r'4:List UInt8,Pus prog 112 [.s c'2.name] (.s r'4)∧([32]:List UInt8).length + r'4.length≤maxStr∧(([32]:List UInt8) ++ r'4).length + ([32,97,116,32]:List UInt8).length≤maxStr∧∃r'6:Bool,∃b'12:Sc,PuX prog 128 (Bx [.s m4098.left]) [.s ((([32]:List UInt8) ++ r'4) ++ ([32,97,116,32]:List UInt8))] (fun r=>r = .b r'6) ((Bx [.s b'12.left]))∧T117_9 prog K k9 (!r'6) m0 m2 b'12 m8192)
def T117_7 (prog:Prog)(K:Int→Frm→Bool→Prop)(k9:Int)(m0:Img)(m2:Frm)(m4098:Sc)(m8192:Frm):Prop:=
  ∃r'1:Int,∃r'2:Bool,∃b'8:Sc,PuX prog 140 (Bx [.s m4098.left]) [.i .i64 (m0.funcs.length:Int)] (fun r=>r = .tup [.i .i64 r'1,.b r'2]) ((Bx [.s b'8.left]))∧T117_8 prog K k9 r'2 m0 m2 b'8 (Frm.mk r'1 m8192.pos m8192.mode m8192.locals)
def T117_6 (prog:Prog)(K:Int→Frm→Bool→Prop)(k9:Int)(t31:Bool)(m0:Img)(m2:Frm)(m4098:Sc)(m8192:Frm):Prop:=
  (t31 = true→K 0 m8192 false)∧(t31 = false→T117_7 prog K k9 m0 m2 m4098 m8192)
def T117_5 (prog:Prog)(K:Int→Frm→Bool→Prop)(k9:Int)(ok10:Bool)(m0:Img)(m2:Frm)(m4098:Sc)(m8192:Frm):Prop:=
  ((!ok10) = true→T117_6 prog K k9 true m0 m2 m4098 m8192)∧((!ok10) = false→∃r'2:Bool,∃b'8:Sc,PuX prog 128 (Bx [.s m4098.left]) [.s ([32]:List UInt8)] (fun r=>r = .b r'2) ((Bx [.s b'8.left]))∧T117_6 prog K k9 (!r'2) m0 m2 b'8 m8192)
def T117_4 (prog:Prog)(K:Int→Frm→Bool→Prop)(m0:Img)(m2:Frm)(m4098:Sc)(m8192:Frm):Prop:=
  ∃r'1:Int,∃r'2:Bool,∃b'8:Sc,PuX prog 140 (Bx [.s m4098.left]) [.i .i64 170] (fun r=>r = .tup [.i .i64 r'1,.b r'2]) ((Bx [.s b'8.left]))∧T117_5 prog K r'1 r'2 m0 m2 b'8 m8192
def T117_3 (prog:Prog)(K:Int→Frm→Bool→Prop)(m0:Img)(m2:Frm)(m4098:Sc)(m8192:Frm):Prop:=
  ∃r'1:Bool,∃b'7:Sc,PuX prog 128 (Bx [.s m4098.left]) [.s ([35]:List UInt8)] (fun r=>r = .b r'1) ((Bx [.s b'7.left]))∧((!r'1) = true→K 0 m8192 false)∧((!r'1) = false→T117_4 prog K m0 m2 b'7 m8192)
def T117_2 (prog:Prog)(K:Int→Frm→Bool→Prop)(m0:Img)(m2:Frm)(m4098:Sc):Prop:=
  T117_3 prog K m0 m2 m4098 (Frm.mk 0 0 0 ([]:List Loc))
def T117_1 (prog:Prog)(K:Int→Frm→Bool→Prop)(line1:List UInt8)(m0:Img)(m2:Frm):Prop:=
  T117_2 prog K m0 m2 (Sc.mk line1)
def T117_0 (prog:Prog)(K:Int→Frm→Bool→Prop)(m0:Img)(line1:List UInt8):Prop:=
  T117_1 prog K line1 m0 (Frm.mk 0 0 0 ([]:List Loc))
section
variable {prog:Prog}{d:Nat}{Q:AE→Sl→St→Prop}{K:Int→Frm→Bool→Prop}{st0:St}(hQ:H117 d st0 Q K){σ:Sl}{st:St}
include hQ
theorem w117_12 {k9:Int}{m2:Frm}{m4098:Sc}{m8192:Frm}{v2:Nat}{v4098:Nat}{v8192:Nat}(H5:σ 5 = .p (d,2) v2 0)(H7:σ 7 = .p (d,4098) v4098 0)(H8:σ 8 = .p (d,8192) v8192 0)(H9:σ 9 = .i .i64 k9)(B2:lk st.bx (d,2) = some (v2,[.i .i64 m2.func,.i .i64 m2.pos,.i .u64 m2.mode,.sl .full (List.map Loc.row m2.locals)]))(B4098:lk st.bx (d,4098) = some (v4098,[.s m4098.left]))(B8192:lk st.bx (d,8192) = some (v8192,[.i .i64 m8192.func,.i .i64 m8192.pos,.i .u64 m8192.mode,.sl .full (List.map Loc.row m8192.locals)]))(FR:Fr d (d,0) st0.bx st0.ow st.bx st.ow)(h:T117_12 prog K k9 m2 m4098 m8192):W prog d c117_3 σ st Q:=
 sq_ (W.reg (h.elim fun r'1 e'2=>ca_ sn e'2.1 (s_alloc (s_storeArr (f:=AV.s) (fun _=>rfl) rfl (show lk _ (d,57345) = some (_,(List.map AV.s (List.replicate 4 ([]:List UInt8)):List AV)) from lk_here) (by simp) rfl e'2.2.1 (e_ (q_ rfl (s_slA_S rfl lk_here e'2.2.2.1 rfl (m_ (s_nilP H7 (f_ rfl (l_ rfl (lk_del_other rfl (lk_other rfl (lk_other rfl B4098))) rfl rfl (e'2.2.2.2.elim fun r'3 e'4=>ca_ (sc rfl rfl (sc rfl rfl sn)) e'4.1 (m_ (e_ (q_ rfl (m_ (s_max rfl rfl (s_cvi rfl (f_ H8 (so_ rfl (lk_del_other rfl (lk_other rfl (lk_other rfl B8192))) rfl rfl rfl (e_ (q_ rfl (m_ (l_ H8 lk_here rfl rfl (m_ (b_ rfl rfl geq_ (m_ (so_ H5 (lk_other rfl (lk_del_other rfl (lk_other rfl (lk_other rfl B2)))) rfl rfl rfl (m_ (e_ (rt_ (hQ _ _ _ _ _ _ _ H9 H5 lk_here rfl (Fr.box (Fr.box (Fr.del (Fr.box (Fr.box FR))))) e'4.2))))))))))))))))))))))))))))))))
theorem w117_11 {k9:Int}{t80:Bool}{m2:Frm}{m4098:Sc}{m8192:Frm}{v2:Nat}{v4098:Nat}{v8192:Nat}(H5:σ 5 = .p (d,2) v2 0)(H7:σ 7 = .p (d,4098) v4098 0)(H8:σ 8 = .p (d,8192) v8192 0)(H9:σ 9 = .i .i64 k9)(H80:σ 80 = .b t80)(B2:lk st.bx (d,2) = some (v2,[.i .i64 m2.func,.i .i64 m2.pos,.i .u64 m2.mode,.sl .full (List.map Loc.row m2.locals)]))(B4098:lk st.bx (d,4098) = some (v4098,[.s m4098.left]))(B8192:lk st.bx (d,8192) = some (v8192,[.i .i64 m8192.func,.i .i64 m8192.pos,.i .u64 m8192.mode,.sl .full (List.map Loc.row m8192.locals)]))(FR:Fr d (d,0) st0.bx st0.ow st.bx st.ow)(h:T117_11 prog K k9 t80 m2 m4098 m8192):W prog d c117_2 σ st (thenW prog d c117_3 Q):=
 cb_ H80 (fun g'1=>q_ rfl (l_ H8 B8192 rfl rfl (m_ (so_ H5 B2 rfl rfl rfl (m_ (e_ (rt_ (hQ _ _ _ _ _ _ _ rfl H5 lk_here rfl (Fr.box FR) (h.1 g'1))))))))) (fun g'1=>sk_ (w117_12 hQ H5 H7 H8 H9 B2 B4098 B8192 FR (h.2 g'1)))
theorem w117_10 {k9:Int}{m0:Img}{m2:Frm}{m4098:Sc}{m8192:Frm}{v0:Nat}{v2:Nat}{v4098:Nat}{v8192:Nat}(H2:σ 2 = .p (d,0) v0 0)(H5:σ 5 = .p (d,2) v2 0)(H7:σ 7 = .p (d,4098) v4098 0)(H8:σ 8 = .p (d,8192) v8192 0)(H9:σ 9 = .i .i64 k9)(B0:lk st.bx (d,0) = some (v0,[.sl .ext (List.map Typ.row m0.types),.sl .ext (List.map rowS m0.texts),.sl .ext (List.map Fun.row m0.funcs)]))(B2:lk st.bx (d,2) = some (v2,[.i .i64 m2.func,.i .i64 m2.pos,.i .u64 m2.mode,.sl .full (List.map Loc.row m2.locals)]))(B4098:lk st.bx (d,4098) = some (v4098,[.s m4098.left]))(B8192:lk st.bx (d,8192) = some (v8192,[.i .i64 m8192.func,.i .i64 m8192.pos,.i .u64 m8192.mode,.sl .full (List.map Loc.row m8192.locals)]))(FR:Fr d (d,0) st0.bx st0.ow st.bx st.ow)(h:T117_10 prog K k9 m0 m2 m4098 m8192):W prog d c117_4 σ st Q:=
 q_ rfl (m_ (f_ H2 (l_ rfl B0 rfl rfl (f_ H8 (l_ rfl B8192 rfl rfl (h.2.elim fun c'1 e'2=>ia_ rfl rfl h.1 e'2.1 (Fun.row_eq c'1) rfl (ff_ rfl (lf_ rfl rfl rfl (ll_ rfl (e'2.2.elim fun r'3 e'20=>e'20.elim fun r'4 e'21=>e'21.elim fun b'10 e'6=>cX_ (sec H7 (sec rfl sen)) e'6.1 (Nat.lt_succ_self d) B4098 (fun st'7 hb'8 hf'9=>m_ (x_ rfl rfl (x_ rfl rfl (f_ H8 (so_ rfl ((hf'9.1 (d,8192) (Nat.lt_succ_self d) (key_LL rfl)).trans B8192) rfl rfl rfl (m_ (e_ (sq_ (q_ rfl (s_mvB rfl (nt_ rfl (s_mvB rfl (eb_ (g:=76) rfl (fun g'11=>gn_ (b:=true) rfl rfl (gn_ (b:=true) rfl rfl (gn_ (b:=true) rfl rfl (pt_ rfl rfl (e_ (w117_11 (m8192:=(Frm.mk m8192.func r'3 m8192.mode m8192.locals)) hQ H5 H7 H8 H9 rfl (lk_other rfl ((hf'9.1 (d,2) (Nat.lt_succ_self d) (key_LL rfl)).trans B2)) (lk_other rfl hb'8) lk_here (Fr.box (Fr.call FR hf'9)) (e'6.2.1 g'11))))))) (fun g'11=>gy_ rfl (s_mv H7 (gy_ rfl ((e'6.2.2 g'11).elim fun r'12 e'19=>e'19.elim fun b'18 e'14=>cX_ (sec rfl (sec rfl sen)) e'14.1 (Nat.lt_succ_self d) (lk_other rfl hb'8) (fun st'15 hb'16 hf'17=>gy_ rfl (nt_ rfl (pf_ rfl rfl (e_ (w117_11 (m8192:=(Frm.mk m8192.func r'3 m8192.mode m8192.locals)) hQ H5 H7 H8 H9 rfl ((hf'17.1 (d,2) (Nat.lt_succ_self d) (key_LL rfl)).trans (lk_other rfl ((hf'9.1 (d,2) (Nat.lt_succ_self d) (key_LL rfl)).trans B2))) hb'16 ((hf'17.1 (d,8192) (Nat.lt_succ_self d) (key_LL rfl)).trans lk_here) (Fr.call (Fr.box (Fr.call FR hf'9)) hf'17) e'14.2))))))))))))))))))))))))))))))))
theorem w117_9 {k9:Int}{t58:Bool}{m0:Img}{m2:Frm}{m4098:Sc}{m8192:Frm}{v0:Nat}{v2:Nat}{v4098:Nat}{v8192:Nat}(H2:σ 2 = .p (d,0) v0 0)(H5:σ 5 = .p (d,2) v2 0)(H7:σ 7 = .p (d,4098) v4098 0)(H8:σ 8 = .p (d,8192) v8192 0)(H9:σ 9 = .i .i64 k9)(H58:σ 58 = .b t58)(B0:lk st.bx (d,0) = some (v0,[.sl .ext (List.map Typ.row m0.types),.sl .ext (List.map rowS m0.texts),.sl .ext (List.map Fun.row m0.funcs)]))(B2:lk st.bx (d,2) = some (v2,[.i .i64 m2.func,.i .i64 m2.pos,.i .u64 m2.mode,.sl .full (List.map Loc.row m2.locals)]))(B4098:lk st.bx (d,4098) = some (v4098,[.s m4098.left]))(B8192:lk st.bx (d,8192) = some (v8192,[.i .i64 m8192.func,.i .i64 m8192.pos,.i .u64 m8192.mode,.sl .full (List.map Loc.row m8192.locals)]))(FR:Fr d (d,0) st0.bx st0.ow st.bx st.ow)(h:T117_9 prog K k9 t58 m0 m2 m4098 m8192):W prog d c117_1 σ st (thenW prog d c117_4 Q):=
 cb_ H58 (fun g'1=>q_ rfl (l_ H8 B8192 rfl rfl (m_ (so_ H5 B2 rfl rfl rfl (m_ (e_ (rt_ (hQ _ _ _ _ _ _ _ rfl H5 lk_here rfl (Fr.box FR) (h.1 g'1))))))))) (fun g'1=>sk_ (w117_10 hQ H2 H5 H7 H8 H9 B0 B2 B4098 B8192 FR (h.2 g'1)))
theorem w117_8 {k9:Int}{ok10:Bool}{m0:Img}{m2:Frm}{m4098:Sc}{m8192:Frm}{v0:Nat}{v2:Nat}{v4098:Nat}{v8192:Nat}(H2:σ 2 = .p (d,0) v0 0)(H5:σ 5 = .p (d,2) v2 0)(H7:σ 7 = .p (d,4098) v4098 0)(H8:σ 8 = .p (d,8192) v8192 0)(H9:σ 9 = .i .i64 k9)(H10:σ 10 = .b ok10)(B0:lk st.bx (d,0) = some (v0,[.sl .ext (List.map Typ.row m0.types),.sl .ext (List.map rowS m0.texts),.sl .ext (List.map Fun.row m0.funcs)]))(B2:lk st.bx (d,2) = some (v2,[.i .i64 m2.func,.i .i64 m2.pos,.i .u64 m2.mode,.sl .full (List.map Loc.row m2.locals)]))(B4098:lk st.bx (d,4098) = some (v4098,[.s m4098.left]))(B8192:lk st.bx (d,8192) = some (v8192,[.i .i64 m8192.func,.i .i64 m8192.pos,.i .u64 m8192.mode,.sl .full (List.map Loc.row m8192.locals)]))(FR:Fr d (d,0) st0.bx st0.ow st.bx st.ow)(h:T117_8 prog K k9 ok10 m0 m2 m4098 m8192):W prog d c117_5 σ st Q:=
 sq_ (q_ rfl (s_mvB H10 (nt_ rfl (s_mvB rfl (eb_ (g:=44) rfl (fun g'1=>gn_ (b:=true) rfl rfl (gn_ (b:=true) rfl rfl (gn_ (b:=true) rfl rfl (gn_ (b:=true) rfl rfl (gn_ (b:=true) rfl rfl (gn_ (b:=true) rfl rfl (gn_ (b:=true) rfl rfl (gn_ (b:=true) rfl rfl (gn_ (b:=true) rfl rfl (gn_ (b:=true) rfl rfl (gn_ (b:=true) rfl rfl (gn_ (b:=true) rfl rfl (gn_ (b:=true) rfl rfl (pt_ rfl rfl (e_ (w117_9 hQ H2 H5 H7 H8 H9 rfl B0 B2 B4098 B8192 FR (h.1 g'1))))))))))))))))) (fun g'1=>gy_ rfl (s_mv H7 (gy_ rfl (f_ H2 (gy_ rfl (l_ rfl B0 rfl rfl (gy_ rfl (f_ H8 (gy_ rfl (l_ rfl B8192 rfl rfl (gy_ rfl ((h.2 g'1).2.elim fun c'2 e'3=>ia_ rfl rfl (h.2 g'1).1 e'3.1 (Fun.row_eq c'2) rfl (gy_ rfl (ff_ rfl (gy_ rfl (lf_ rfl rfl rfl (gy_ rfl (e'3.2.elim fun r'4 e'5=>ca_ (sc rfl rfl sn) e'5.1 (gy_ rfl (b_ rfl rfl (abin_cat' e'5.2.1) (gy_ rfl (b_ rfl rfl (abin_cat' e'5.2.2.1) (gy_ rfl (e'5.2.2.2.elim fun r'6 e'13=>e'13.elim fun b'12 e'8=>cX_ (sec rfl (sec rfl sen)) e'8.1 (Nat.lt_succ_self d) B4098 (fun st'9 hb'10 hf'11=>gy_ rfl (nt_ rfl (pf_ rfl rfl (e_ (w117_9 hQ H2 H5 H7 H8 H9 rfl ((hf'11.1 (d,0) (Nat.lt_succ_self d) (key_LL rfl)).trans B0) ((hf'11.1 (d,2) (Nat.lt_succ_self d) (key_LL rfl)).trans B2) hb'10 ((hf'11.1 (d,8192) (Nat.lt_succ_self d) (key_LL rfl)).trans B8192) (Fr.call FR hf'11) e'8.2))))))))))))))))))))))))))))))))))
theorem w117_7 {k9:Int}{m0:Img}{m2:Frm}{m4098:Sc}{m8192:Frm}{v0:Nat}{v2:Nat}{v4098:Nat}{v8192:Nat}(H2:σ 2 = .p (d,0) v0 0)(H5:σ 5 = .p (d,2) v2 0)(H7:σ 7 = .p (d,4098) v4098 0)(H8:σ 8 = .p (d,8192) v8192 0)(H9:σ 9 = .i .i64 k9)(B0:lk st.bx (d,0) = some (v0,[.sl .ext (List.map Typ.row m0.types),.sl .ext (List.map rowS m0.texts),.sl .ext (List.map Fun.row m0.funcs)]))(B2:lk st.bx (d,2) = some (v2,[.i .i64 m2.func,.i .i64 m2.pos,.i .u64 m2.mode,.sl .full (List.map Loc.row m2.locals)]))(B4098:lk st.bx (d,4098) = some (v4098,[.s m4098.left]))(B8192:lk st.bx (d,8192) = some (v8192,[.i .i64 m8192.func,.i .i64 m8192.pos,.i .u64 m8192.mode,.sl .full (List.map Loc.row m8192.locals)]))(FR:Fr d (d,0) st0.bx st0.ow st.bx st.ow)(h:T117_7 prog K k9 m0 m2 m4098 m8192):W prog d c117_6 σ st Q:=
 q_ rfl (m_ (f_ H2 (l_ rfl B0 rfl rfl (ll_ rfl (h.elim fun r'1 e'9=>e'9.elim fun r'2 e'10=>e'10.elim fun b'8 e'4=>cX_ (sec H7 (sec rfl sen)) e'4.1 (Nat.lt_succ_self d) B4098 (fun st'5 hb'6 hf'7=>m_ (x_ rfl rfl (x_ rfl rfl (f_ H8 (so_ rfl ((hf'7.1 (d,8192) (Nat.lt_succ_self d) (key_LL rfl)).trans B8192) rfl rfl rfl (m_ (e_ (w117_8 (m8192:=(Frm.mk r'1 m8192.pos m8192.mode m8192.locals)) hQ H2 H5 H7 H8 H9 rfl (lk_other rfl ((hf'7.1 (d,0) (Nat.lt_succ_self d) (key_LL rfl)).trans B0)) (lk_other rfl ((hf'7.1 (d,2) (Nat.lt_succ_self d) (key_LL rfl)).trans B2)) (lk_other rfl hb'6) lk_here (Fr.box (Fr.call FR hf'7)) e'4.2)))))))))))))
theorem w117_6 {k9:Int}{t31:Bool}{m0:Img}{m2:Frm}{m4098:Sc}{m8192:Frm}{v0:Nat}{v2:Nat}{v4098:Nat}{v8192:Nat}(H2:σ 2 = .p (d,0) v0 0)(H5:σ 5 = .p (d,2) v2 0)(H7:σ 7 = .p (d,4098) v4098 0)(H8:σ 8 = .p (d,8192) v8192 0)(H9:σ 9 = .i .i64 k9)(H31:σ 31 = .b t31)(B0:lk st.bx (d,0) = some (v0,[.sl .ext (List.map Typ.row m0.types),.sl .ext (List.map rowS m0.texts),.sl .ext (List.map Fun.row m0.funcs)]))(B2:lk st.bx (d,2) = some (v2,[.i .i64 m2.func,.i .i64 m2.pos,.i .u64 m2.mode,.sl .full (List.map Loc.row m2.locals)]))(B4098:lk st.bx (d,4098) = some (v4098,[.s m4098.left]))(B8192:lk st.bx (d,8192) = some (v8192,[.i .i64 m8192.func,.i .i64 m8192.pos,.i .u64 m8192.mode,.sl .full (List.map Loc.row m8192.locals)]))(FR:Fr d (d,0) st0.bx st0.ow st.bx st.ow)(h:T117_6 prog K k9 t31 m0 m2 m4098 m8192):W prog d c117_0 σ st (thenW prog d c117_6 Q):=
 cb_ H31 (fun g'1=>q_ rfl (l_ H8 B8192 rfl rfl (m_ (so_ H5 B2 rfl rfl rfl (m_ (e_ (rt_ (hQ _ _ _ _ _ _ _ rfl H5 lk_here rfl (Fr.box FR) (h.1 g'1))))))))) (fun g'1=>sk_ (w117_7 hQ H2 H5 H7 H8 H9 B0 B2 B4098 B8192 FR (h.2 g'1)))
theorem w117_5 {k9:Int}{ok10:Bool}{m0:Img}{m2:Frm}{m4098:Sc}{m8192:Frm}{v0:Nat}{v2:Nat}{v4098:Nat}{v8192:Nat}(H2:σ 2 = .p (d,0) v0 0)(H5:σ 5 = .p (d,2) v2 0)(H7:σ 7 = .p (d,4098) v4098 0)(H8:σ 8 = .p (d,8192) v8192 0)(H9:σ 9 = .i .i64 k9)(H10:σ 10 = .b ok10)(B0:lk st.bx (d,0) = some (v0,[.sl .ext (List.map Typ.row m0.types),.sl .ext (List.map rowS m0.texts),.sl .ext (List.map Fun.row m0.funcs)]))(B2:lk st.bx (d,2) = some (v2,[.i .i64 m2.func,.i .i64 m2.pos,.i .u64 m2.mode,.sl .full (List.map Loc.row m2.locals)]))(B4098:lk st.bx (d,4098) = some (v4098,[.s m4098.left]))(B8192:lk st.bx (d,8192) = some (v8192,[.i .i64 m8192.func,.i .i64 m8192.pos,.i .u64 m8192.mode,.sl .full (List.map Loc.row m8192.locals)]))(FR:Fr d (d,0) st0.bx st0.ow st.bx st.ow)(h:T117_5 prog K k9 ok10 m0 m2 m4098 m8192):W prog d c117_7 σ st Q:=
 sq_ (q_ rfl (s_mvB H10 (nt_ rfl (s_mvB rfl (eb_ (g:=27) rfl (fun g'1=>gn_ (b:=true) rfl rfl (gn_ (b:=true) rfl rfl (gn_ (b:=true) rfl rfl (pt_ rfl rfl (e_ (w117_6 hQ H2 H5 H7 H8 H9 rfl B0 B2 B4098 B8192 FR (h.1 g'1))))))) (fun g'1=>gy_ rfl (s_mv H7 (gy_ rfl ((h.2 g'1).elim fun r'2 e'9=>e'9.elim fun b'8 e'4=>cX_ (sec rfl (sec rfl sen)) e'4.1 (Nat.lt_succ_self d) B4098 (fun st'5 hb'6 hf'7=>gy_ rfl (nt_ rfl (pf_ rfl rfl (e_ (w117_6 hQ H2 H5 H7 H8 H9 rfl ((hf'7.1 (d,0) (Nat.lt_succ_self d) (key_LL rfl)).trans B0) ((hf'7.1 (d,2) (Nat.lt_succ_self d) (key_LL rfl)).trans B2) hb'6 ((hf'7.1 (d,8192) (Nat.lt_succ_self d) (key_LL rfl)).trans B8192) (Fr.call FR hf'7) e'4.2))))))))))))))
theorem w117_4 {m0:Img}{m2:Frm}{m4098:Sc}{m8192:Frm}{v0:Nat}{v2:Nat}{v4098:Nat}{v8192:Nat}(H2:σ 2 = .p (d,0) v0 0)(H5:σ 5 = .p (d,2) v2 0)(H7:σ 7 = .p (d,4098) v4098 0)(H8:σ 8 = .p (d,8192) v8192 0)(B0:lk st.bx (d,0) = some (v0,[.sl .ext (List.map Typ.row m0.types),.sl .ext (List.map rowS m0.texts),.sl .ext (List.map Fun.row m0.funcs)]))(B2:lk st.bx (d,2) = some (v2,[.i .i64 m2.func,.i .i64 m2.pos,.i .u64 m2.mode,.sl .full (List.map Loc.row m2.locals)]))(B4098:lk st.bx (d,4098) = some (v4098,[.s m4098.left]))(B8192:lk st.bx (d,8192) = some (v8192,[.i .i64 m8192.func,.i .i64 m8192.pos,.i .u64 m8192.mode,.sl .full (List.map Loc.row m8192.locals)]))(FR:Fr d (d,0) st0.bx st0.ow st.bx st.ow)(h:T117_4 prog K m0 m2 m4098 m8192):W prog d c117_8 σ st Q:=
 q_ rfl (m_ (h.elim fun r'1 e'9=>e'9.elim fun r'2 e'10=>e'10.elim fun b'8 e'4=>cX_ (sec H7 (sec rfl sen)) e'4.1 (Nat.lt_succ_self d) B4098 (fun st'5 hb'6 hf'7=>m_ (x_ rfl rfl (x_ rfl rfl (m_ (m_ (e_ (w117_5 hQ H2 H5 H7 H8 rfl rfl ((hf'7.1 (d,0) (Nat.lt_succ_self d) (key_LL rfl)).trans B0) ((hf'7.1 (d,2) (Nat.lt_succ_self d) (key_LL rfl)).trans B2) hb'6 ((hf'7.1 (d,8192) (Nat.lt_succ_self d) (key_LL rfl)).trans B8192) (Fr.call FR hf'7) e'4.2)))))))))
theorem w117_3 {m0:Img}{m2:Frm}{m4098:Sc}{m8192:Frm}{v0:Nat}{v2:Nat}{v4098:Nat}{v8192:Nat}(H2:σ 2 = .p (d,0) v0 0)(H5:σ 5 = .p (d,2) v2 0)(H7:σ 7 = .p (d,4098) v4098 0)(H8:σ 8 = .p (d,8192) v8192 0)(B0:lk st.bx (d,0) = some (v0,[.sl .ext (List.map Typ.row m0.types),.sl .ext (List.map rowS m0.texts),.sl .ext (List.map Fun.row m0.funcs)]))(B2:lk st.bx (d,2) = some (v2,[.i .i64 m2.func,.i .i64 m2.pos,.i .u64 m2.mode,.sl .full (List.map Loc.row m2.locals)]))(B4098:lk st.bx (d,4098) = some (v4098,[.s m4098.left]))(B8192:lk st.bx (d,8192) = some (v8192,[.i .i64 m8192.func,.i .i64 m8192.pos,.i .u64 m8192.mode,.sl .full (List.map Loc.row m8192.locals)]))(FR:Fr d (d,0) st0.bx st0.ow st.bx st.ow)(h:T117_3 prog K m0 m2 m4098 m8192):W prog d c117_9 σ st Q:=
 sq_ (q_ rfl (m_ (h.elim fun r'1 e'9=>e'9.elim fun b'7 e'3=>cX_ (sec H7 (sec rfl sen)) e'3.1 (Nat.lt_succ_self d) B4098 (fun st'4 hb'5 hf'6=>nt_ rfl (e_ (cb_ rfl (fun g'8=>q_ rfl (l_ H8 ((hf'6.1 (d,8192) (Nat.lt_succ_self d) (key_LL rfl)).trans B8192) rfl rfl (m_ (so_ H5 ((hf'6.1 (d,2) (Nat.lt_succ_self d) (key_LL rfl)).trans B2) rfl rfl rfl (m_ (e_ (rt_ (hQ _ _ _ _ _ _ _ rfl H5 lk_here rfl (Fr.box (Fr.call FR hf'6)) (e'3.2.1 g'8))))))))) (fun g'8=>sk_ (w117_4 hQ H2 H5 H7 H8 ((hf'6.1 (d,0) (Nat.lt_succ_self d) (key_LL rfl)).trans B0) ((hf'6.1 (d,2) (Nat.lt_succ_self d) (key_LL rfl)).trans B2) hb'5 ((hf'6.1 (d,8192) (Nat.lt_succ_self d) (key_LL rfl)).trans B8192) (Fr.call FR hf'6) (e'3.2.2 g'8)))))))))
theorem w117_2 {m0:Img}{m2:Frm}{m4098:Sc}{v0:Nat}{v2:Nat}{v4098:Nat}(H2:σ 2 = .p (d,0) v0 0)(H5:σ 5 = .p (d,2) v2 0)(H7:σ 7 = .p (d,4098) v4098 0)(B0:lk st.bx (d,0) = some (v0,[.sl .ext (List.map Typ.row m0.types),.sl .ext (List.map rowS m0.texts),.sl .ext (List.map Fun.row m0.funcs)]))(B2:lk st.bx (d,2) = some (v2,[.i .i64 m2.func,.i .i64 m2.pos,.i .u64 m2.mode,.sl .full (List.map Loc.row m2.locals)]))(B4098:lk st.bx (d,4098) = some (v4098,[.s m4098.left]))(FR:Fr d (d,0) st0.bx st0.ow st.bx st.ow)(h:T117_2 prog K m0 m2 m4098):W prog d c117_10 σ st Q:=
 sq_ (W.reg (s_alloc (e_ (w117_3 (m8192:=(Frm.mk 0 0 0 ([]:List Loc))) hQ H2 H5 H7 rfl (lk_other rfl B0) (lk_other rfl B2) (lk_other rfl B4098) (show lk _ (d,8192) = some (_,([.i .i64 0,.i .i64 0,.i .u64 0,.sl .full (List.map Loc.row ([]:List Loc))]:List AV)) from lk_here) (Fr.box FR) h))))
theorem w117_1 {line1:List UInt8}{m0:Img}{m2:Frm}{v0:Nat}{v2:Nat}(H1:σ 1 = .s line1)(H2:σ 2 = .p (d,0) v0 0)(H5:σ 5 = .p (d,2) v2 0)(B0:lk st.bx (d,0) = some (v0,[.sl .ext (List.map Typ.row m0.types),.sl .ext (List.map rowS m0.texts),.sl .ext (List.map Fun.row m0.funcs)]))(B2:lk st.bx (d,2) = some (v2,[.i .i64 m2.func,.i .i64 m2.pos,.i .u64 m2.mode,.sl .full (List.map Loc.row m2.locals)]))(FR:Fr d (d,0) st0.bx st0.ow st.bx st.ow)(h:T117_1 prog K line1 m0 m2):W prog d c117_11 σ st Q:=
 q_ rfl (m_ (s_build (f_cons H1 rfl f_nil) (s_box rfl rfl (m_ (e_ (w117_2 (m4098:=(Sc.mk line1)) hQ H2 H5 rfl (lk_other rfl B0) (lk_other rfl B2) lk_here (Fr.box FR) h))))))
theorem w117_0 {m0:Img}{line1:List UInt8}(H0:σ 0 = m0.av)(H1:σ 1 = .s line1)(FR:Fr d (d,0) st0.bx st0.ow st.bx st.ow)(h:T117_0 prog K m0 line1):W prog d (.seq (.reg 0 r117_0) c117_11) σ st Q:=
 sq_ (W.reg (s_box H0 rfl (m_ (s_alloc (m_ (e_ (w117_1 (m2:=(Frm.mk 0 0 0 ([]:List Loc))) hQ H1 rfl rfl lk_here (lk_other rfl (show lk _ (d,2) = some (_,([.i .i64 0,.i .i64 0,.i .u64 0,.sl .full (List.map Loc.row ([]:List Loc))]:List AV)) from lk_here)) (Fr.box (Fr.box FR)) h)))))))
end
theorem p117 {prog:Prog}(hf:prog.fn 117 = some pf117){m0:Img}{line1:List UInt8}{K:Int→Frm→Bool→Prop}(h:T117_0 prog K m0 line1):PuN prog 117 [m0.av,.s line1] (fun r=>∃res0:Int,∃res1:Frm,∃res2:Bool,(r = .tup [.i .i64 res0,res1.avo .full,.b res2])∧K res0 res1 res2):=
  PuN.of hf rfl fun d st=>w117_0 (st0:=st) (Q:=fun e σ st'=>(e = .normal∨e = .ret)∧∃r,ares σ st' pf117.res = some r∧_∧Fr d (d,0) st.bx st.ow st'.bx st'.ow) (fun σ st' k1 v1  res0 res1 res2 H4 H5 HB5 H6 hf hk=>⟨.inr rfl,.tup [.i .i64 res0,res1.avo .full,.b res2],by simp only [pf117,ares,aresL,H4,ares_cellA (n:=4) H5 HB5 rfl,H6,ares_tmp,Option.map_some,H4,ares_cellA (n:=4) H5 HB5 rfl,H6],⟨res0,res1,res2,rfl,hk⟩,hf⟩) (σ:=sl0 [m0.av,.s line1]) rfl rfl Fr.refl h
def r118_0:List AI:=[oO 2 (.box 7 (.t 0)),
 oO 4 (.alloc [.i .i64 0,.i .u8 0,.i .i64 0,.s [],.sl .full [],.b false]),
 oC 5 (.b false)]
def r118_1:List AI:=[oM 11 1,
 oO 12 (.build [.s []] [(0,1,(.t 11))]),
 oO 13 (.box 1 (.t 12)),
 oM 6 13]
def r118_2:List AI:=[oM 14 6,
 oO 15 (.call true 128 [(.t 14),(.c (.s [32,32]))]),
 oO 16 (.un .not (.t 15))]
def r118_3:List AI:=[oO 17 (.build [.i .i64 0,.i .u8 0,.i .i64 0,.s [],.sl .full [],.b false] []),
 oS 6 4 17,
 oC 5 (.b false)]
def r118_4:List AI:=[oM 19 6,
 oF 20 3 2,
 oL 21 20,
 oO 22 (.len false (.t 21)),
 oO 23 (.call true 140 [(.t 19),(.t 22)]),
 oM 18 23,
 oE 24 0 18,
 oE 25 1 18,
 oM 7 24,
 oM 8 25]
def r118_5:List AI:=[oM 26 8,
 oO 27 (.un .not (.t 26)),
 oM 28 27,
 oG 29 (.mv (.t 6)) 28 false,
 oG 30 (.fad 3 (.t 2)) 28 false,
 oG 31 (.load 1 false (.t 30)) 28 false,
 oG 32 (.mv (.t 7)) 28 false,
 oG 33 (.iaL 2 (.t 31) (.t 32)) 28 false,
 oG 34 (.fad 0 (.t 33)) 28 false,
 oG 35 (.load 1 false (.t 34)) 28 false,
 oG 36 (.call false 112 [(.t 35)]) 28 false,
 oG 37 (.bin .add (.c (.s [32])) (.t 36)) 28 false,
 oG 38 (.bin .add (.t 37) (.c (.s [32,61,32]))) 28 false,
 oG 39 (.call true 128 [(.t 29),(.t 38)]) 28 false,
 oG 40 (.un .not (.t 39)) 28 false,
 oO 41 (.pick (.t 28) (.c (.b true)) (.t 40))]
def r118_6:List AI:=[oO 42 (.build [.i .i64 0,.i .u8 0,.i .i64 0,.s [],.sl .full [],.b false] []),
 oS 6 4 42,
 oC 5 (.b false)]
def r118_7:List AI:=[oM 44 6,
 oN 45 44,
 oF 46 0 45,
 oL 47 46,
 oO 48 (.call false 74 [(.t 47)]),
 oM 43 48,
 oE 49 0 43,
 oE 50 1 43,
 oO 9 (.alloc [.i .u8 0,.i .i64 0,.s [],.sl .full [],.b false]),
 oS 5 9 49,
 oM 10 50]
def r118_8:List AI:=[oM 51 7,
 oO 52 (.load 5 true (.t 9)),
 oO 53 (.build [.i .i64 0,.i .u8 0,.i .i64 0,.s [],.sl .full [],.b false] [(0,1,(.t 51)),(1,5,(.t 52))]),
 oM 54 10,
 oB 55 .eql (.t 54) (.c (.i .i64 0)),
 oS 6 4 53,
 oM 5 55]
abbrev c118_0:AC:=(.seq (.reg 7 r118_7) (.seq (.reg 8 r118_8) .ret))
abbrev b118:AC:=(.seq (.reg 0 r118_0) (.seq (.reg 1 r118_1) (.seq (.seq (.reg 2 r118_2) (.cond (.t 16) (.seq (.reg 3 r118_3) .ret) .skip)) (.seq (.reg 4 r118_4) (.seq (.seq (.reg 5 r118_5) (.cond (.t 41) (.seq (.reg 6 r118_6) .ret) .skip)) c118_0)))))
def pf118:AF:={ nt:=56,res:=[.cell 4 6 true,.tmp 5],body:=b118 }
abbrev H118 (Q:AE→Sl→St→Prop)(K:Loc→Bool→Prop):Prop:=∀(σ:Sl)(st:St)(k0:Key)(v0:Nat)(o0_0:Own)(res0:Loc)(res1:Bool),σ 4 = .p k0 v0 0→lk st.bx k0 = some (v0,[.i .i64 res0.slot,.i .u8 res0.value.kind,.i .i64 res0.value.int,.s res0.value.text,.sl o0_0 (List.map Val.row res0.value.list),.b res0.value.cut])→σ 5 = .b res1→K res0 res1→Q .ret σ st
def T118_1 (prog:Prog)(K:Loc→Bool→Prop)(i7:Int)(m1:Loc)(m4098:Sc):Prop:=
  ∃r'1:Val,∃r'2:Int,Pus prog 74 [.s m4098.left] (.tup [r'1.av,.i .i64 r'2])∧K (Loc.mk i7 r'1) (decide (r'2 = 0))
def T118_0 (prog:Prog)(K:Loc→Bool→Prop)(f0:Fun)(line1:List UInt8):Prop:=
  ∃r'1:Bool,∃b'7:Sc,PuX prog 128 (Bx [.s line1]) [.s ([32,32]:List UInt8)] (fun r=>r = .b r'1) ((Bx [.s b'7.left]))∧((!r'1) = true→K (Loc.mk 0 (Val.mk 0 0 [] ([]:List Val) false)) false)∧((!r'1) = false→∃r'9:Int,∃r'10:Bool,∃b'16:Sc,PuX prog 140 (Bx [.s b'7.left]) [.i .i64 (f0.slots.length:Int)] (fun r=>r = .tup [.i .i64 r'9,.b r'10]) ((Bx [.s b'16.left]))∧((!r'10) = true→K (Loc.mk 0 (Val.mk 0 0 [] ([]:List Val) false)) false)∧((!r'10) = false→0≤r'9∧∃c'18:Fld,f0.slots[(r'9).toNat]? = some c'18∧∃r'20:List UInt8,Pus prog 112 [.s c'18.name] (.s r'20)∧([32]:List UInt8).length + r'20.length≤maxStr∧(([32]:List UInt8) ++ r'20).length + ([32,61,32]:List UInt8).length≤maxStr∧∃r'22:Bool,∃b'28:Sc,PuX prog 128 (Bx [.s b'16.left]) [.s ((([32]:List UInt8) ++ r'20) ++ ([32,61,32]:List UInt8))] (fun r=>r = .b r'22) ((Bx [.s b'28.left]))∧((!r'22) = true→K (Loc.mk 0 (Val.mk 0 0 [] ([]:List Val) false)) false)∧((!r'22) = false→T118_1 prog K r'9 (Loc.mk 0 (Val.mk 0 0 [] ([]:List Val) false)) b'28)))
section
variable {prog:Prog}{d:Nat}{Q:AE→Sl→St→Prop}{K:Loc→Bool→Prop}(hQ:H118 Q K){σ:Sl}{st:St}
include hQ
theorem w118_1 {i7:Int}{m1:Loc}{m4098:Sc}{o_m1_4:Own}{v1:Nat}{v4098:Nat}(H4:σ 4 = .p (d,1) v1 0)(H6:σ 6 = .p (d,4098) v4098 0)(H7:σ 7 = .i .i64 i7)(B1:lk st.bx (d,1) = some (v1,[.i .i64 m1.slot,.i .u8 m1.value.kind,.i .i64 m1.value.int,.s m1.value.text,.sl o_m1_4 (List.map Val.row m1.value.list),.b m1.value.cut]))(B4098:lk st.bx (d,4098) = some (v4098,[.s m4098.left]))(h:T118_1 prog K i7 m1 m4098):W prog d c118_0 σ st Q:=
 sq_ (W.reg (m_ (s_nilP H6 (f_ rfl (l_ rfl (lk_other rfl B4098) rfl rfl (h.elim fun r'1 e'4=>e'4.elim fun r'2 e'3=>ca_ (sc rfl rfl sn) e'3.1 (m_ (x_ rfl rfl (x_ rfl rfl (s_alloc (so_ rfl (show lk _ (d,28680) = some (_,([.i .u8 0,.i .i64 0,.s [],.sl .full (List.map Val.row ([]:List Val)),.b false]:List AV)) from lk_here) rfl rfl rfl (m_ (e_ (q_ rfl (m_ (l_ rfl lk_here rfl rfl (s_build (f_cons H7 rfl (f_cons rfl rfl f_nil)) (m_ (b_ rfl rfl eql_ (so_ H4 (lk_other rfl (lk_other rfl B1)) rfl rfl rfl (m_ (e_ (rt_ (hQ _ _ _ _ _ _ _ H4 lk_here rfl e'3.2))))))))))))))))))))))))
theorem w118_0 {f0:Fun}{line1:List UInt8}(H0:σ 0 = f0.av)(H1:σ 1 = .s line1)(h:T118_0 prog K f0 line1):W prog d (.seq (.reg 0 r118_0) (.seq (.reg 1 r118_1) (.seq (.seq (.reg 2 r118_2) (.cond (.t 16) (.seq (.reg 3 r118_3) .ret) .skip)) (.seq (.reg 4 r118_4) (.seq (.seq (.reg 5 r118_5) (.cond (.t 41) (.seq (.reg 6 r118_6) .ret) .skip)) c118_0))))) σ st Q:=
 sq_ (W.reg (s_box H0 rfl (s_alloc (m_ (e_ (q_ rfl (m_ (s_build (f_cons H1 rfl f_nil) (s_box rfl rfl (m_ (e_ (sq_ (q_ rfl (m_ (h.elim fun r'1 e'33=>e'33.elim fun b'7 e'3=>cX_ (sec rfl (sec rfl sen)) e'3.1 (Nat.lt_succ_self d) lk_here (fun st'4 hb'5 hf'6=>nt_ rfl (e_ (cb_ rfl (fun g'8=>q_ rfl (s_build f_nil (so_ rfl ((hf'6.1 (d,1) (Nat.lt_succ_self d) (key_LL rfl)).trans (lk_other rfl (lk_other rfl (show lk _ (d,1) = some (_,([.i .i64 0,.i .u8 0,.i .i64 0,.s [],.sl .full (List.map Val.row ([]:List Val)),.b false]:List AV)) from lk_here)))) rfl rfl rfl (m_ (e_ (rt_ (hQ _ _ _ _ _ _ _ rfl lk_here rfl (e'3.2.1 g'8)))))))) (fun g'8=>sk_ (q_ rfl (m_ (f_ rfl (l_ rfl ((hf'6.1 (d,0) (Nat.lt_succ_self d) (key_LL rfl)).trans (lk_other rfl lk_here)) rfl rfl (ll_ rfl ((e'3.2.2 g'8).elim fun r'9 e'31=>e'31.elim fun r'10 e'32=>e'32.elim fun b'16 e'12=>cX_ (sec rfl (sec rfl sen)) e'12.1 (Nat.lt_succ_self d) hb'5 (fun st'13 hb'14 hf'15=>m_ (x_ rfl rfl (x_ rfl rfl (m_ (m_ (e_ (sq_ (q_ rfl (s_mvB rfl (nt_ rfl (s_mvB rfl (eb_ (g:=28) rfl (fun g'17=>gn_ (b:=true) rfl rfl (gn_ (b:=true) rfl rfl (gn_ (b:=true) rfl rfl (gn_ (b:=true) rfl rfl (gn_ (b:=true) rfl rfl (gn_ (b:=true) rfl rfl (gn_ (b:=true) rfl rfl (gn_ (b:=true) rfl rfl (gn_ (b:=true) rfl rfl (gn_ (b:=true) rfl rfl (gn_ (b:=true) rfl rfl (gn_ (b:=true) rfl rfl (pt_ rfl rfl (e_ (ct_ rfl (q_ rfl (s_build f_nil (so_ rfl ((hf'15.1 (d,1) (Nat.lt_succ_self d) (key_LL rfl)).trans ((hf'6.1 (d,1) (Nat.lt_succ_self d) (key_LL rfl)).trans (lk_other rfl (lk_other rfl (show lk _ (d,1) = some (_,([.i .i64 0,.i .u8 0,.i .i64 0,.s [],.sl .full (List.map Val.row ([]:List Val)),.b false]:List AV)) from lk_here))))) rfl rfl rfl (m_ (e_ (rt_ (hQ _ _ _ _ _ _ _ rfl lk_here rfl (e'12.2.1 g'17))))))))))))))))))))))) (fun g'17=>gy_ rfl (s_mv rfl (gy_ rfl (f_ rfl (gy_ rfl (l_ rfl ((hf'15.1 (d,0) (Nat.lt_succ_self d) (key_LL rfl)).trans ((hf'6.1 (d,0) (Nat.lt_succ_self d) (key_LL rfl)).trans (lk_other rfl lk_here))) rfl rfl (gy_ rfl (s_mvI rfl (gy_ rfl ((e'12.2.2 g'17).2.elim fun c'18 e'19=>ia_ rfl rfl (e'12.2.2 g'17).1 e'19.1 (Fld.row_eq c'18) rfl (gy_ rfl (ff_ rfl (gy_ rfl (lf_ rfl rfl rfl (gy_ rfl (e'19.2.elim fun r'20 e'21=>ca_ (sc rfl rfl sn) e'21.1 (gy_ rfl (b_ rfl rfl (abin_cat' e'21.2.1) (gy_ rfl (b_ rfl rfl (abin_cat' e'21.2.2.1) (gy_ rfl (e'21.2.2.2.elim fun r'22 e'30=>e'30.elim fun b'28 e'24=>cX_ (sec rfl (sec rfl sen)) e'24.1 (Nat.lt_succ_self d) hb'14 (fun st'25 hb'26 hf'27=>gy_ rfl (nt_ rfl (pf_ rfl rfl (e_ (cb_ rfl (fun g'29=>q_ rfl (s_build f_nil (so_ rfl ((hf'27.1 (d,1) (Nat.lt_succ_self d) (key_LL rfl)).trans ((hf'15.1 (d,1) (Nat.lt_succ_self d) (key_LL rfl)).trans ((hf'6.1 (d,1) (Nat.lt_succ_self d) (key_LL rfl)).trans (lk_other rfl (lk_other rfl (show lk _ (d,1) = some (_,([.i .i64 0,.i .u8 0,.i .i64 0,.s [],.sl .full (List.map Val.row ([]:List Val)),.b false]:List AV)) from lk_here)))))) rfl rfl rfl (m_ (e_ (rt_ (hQ _ _ _ _ _ _ _ rfl lk_here rfl (e'24.2.1 g'29)))))))) (fun g'29=>sk_ (w118_1 (m1:=(Loc.mk 0 (Val.mk 0 0 [] ([]:List Val) false))) hQ rfl rfl rfl ((hf'27.1 (d,1) (Nat.lt_succ_self d) (key_LL rfl)).trans ((hf'15.1 (d,1) (Nat.lt_succ_self d) (key_LL rfl)).trans ((hf'6.1 (d,1) (Nat.lt_succ_self d) (key_LL rfl)).trans (lk_other rfl (lk_other rfl (show lk _ (d,1) = some (_,([.i .i64 0,.i .u8 0,.i .i64 0,.s [],.sl .full (List.map Val.row ([]:List Val)),.b false]:List AV)) from lk_here)))))) hb'26 (e'24.2.2 g'29)))))))))))))))))))))))))))))))))))))))))))))))))))))))))))))))))))
end
theorem p118 {prog:Prog}(hf:prog.fn 118 = some pf118){f0:Fun}{line1:List UInt8}{K:Loc→Bool→Prop}(h:T118_0 prog K f0 line1) :∃res0:Loc,∃res1:Bool,K res0 res1∧Pus prog 118 [f0.av,.s line1] (.tup [res0.av,.b res1]):=by
  obtain ⟨v,hv,res0,res1,hk,rfl⟩:=Pus.of (K:=fun v=>∃res0:Loc,∃res1:Bool,K res0 res1∧v = .tup [res0.av,.b res1]) hf rfl (w118_0 (σ:=sl0 [f0.av,.s line1]) (fun σ st k0 v0 o0_0 res0 res1 H4 HB4 H5 hk=>⟨.tup [res0.avo o0_0,.b res1],by simp only [pf118,ares,aresL,ares_cellA (n:=6) H4 HB4 rfl,H5,ares_tmp,Option.map_some],_,rfl,res0,res1,hk,rfl⟩) rfl rfl h)
  exact ⟨res0,res1,hk,hv⟩
def r84_0:List AI:=[oO 2 (.box 3 (.t 0)),
 oC 4 (.i .i64 0),
 oO 5 (.alloc [.i .i64 0,.i .i64 0,.i .u64 0,.sl .full []]),
 oC 6 (.i .i64 0)]
def r84_1:List AI:=[oM 16 1,
 oO 17 (.len false (.t 16)),
 oB 18 .gtr (.t 17) (.c (.i .i64 17)),
 oM 19 18,
 oG 20 (.mv (.t 1)) 19 false,
 oG 21 (.call true 115 [(.t 20),(.c (.fn 116 []))]) 19 false,
 oO 22 (.pick (.t 19) (.c (.b true)) (.t 21))]
def r84_2:List AI:=[oO 23 (.build [.i .i64 0,.i .i64 0,.i .u64 0,.sl .full []] []),
 oC 4 (.i .i64 0),
 oS 4 5 23,
 oC 6 (.i .i64 4)]
def r84_3:List AI:=[oM 24 1,
 oO 25 (.len false (.t 24)),
 oB 26 .eql (.t 25) (.c (.i .i64 0))]
def r84_4:List AI:=[oO 27 (.build [.i .i64 0,.i .i64 0,.i .u64 0,.sl .full []] []),
 oC 4 (.i .i64 0),
 oS 4 5 27,
 oC 6 (.i .i64 12)]
def r84_5:List AI:=[oO 29 (.load 3 true (.t 2)),
 oM 30 1,
 oO 31 (.iaL 1 (.t 30) (.c (.i .i64 0))),
 oL 32 31,
 oO 33 (.call true 117 [(.t 29),(.t 32)]),
 oM 28 33,
 oE 34 0 28,
 oE 35 1 28,
 oE 36 2 28,
 oO 8 (.alloc [.i .i64 0,.i .i64 0,.i .u64 0,.sl .full []]),
 oM 7 34,
 oS 4 8 35,
 oM 9 36]
def r84_6:List AI:=[oM 37 9,
 oO 38 (.un .not (.t 37))]
def r84_7:List AI:=[oO 39 (.build [.i .i64 0,.i .i64 0,.i .u64 0,.sl .full []] []),
 oC 4 (.i .i64 0),
 oS 4 5 39,
 oC 6 (.i .i64 12)]
def r84_8:List AI:=[oM 40 1,
 oO 41 (.slL 1 (.t 40) (some (.c (.i .i64 1))) none),
 oO 42 (.len false (.t 41)),
 oC 43 (.i .i64 0)]
def r84_9:List AI:=[oB 44 .lss (.t 43) (.t 42)]
def r84_10:List AI:=[oO 45 (.iaL 1 (.t 41) (.t 43)),
 oL 46 45,
 oM 11 46]
def r84_11:List AI:=[oF 48 2 2,
 oL 49 48,
 oF 50 0 8,
 oL 51 50,
 oO 52 (.iaL 7 (.t 49) (.t 51)),
 oO 53 (.load 7 true (.t 52)),
 oM 54 11,
 oO 55 (.call false 118 [(.t 53),(.t 54)]),
 oM 47 55,
 oE 56 0 47,
 oE 57 1 47,
 oO 12 (.alloc [.i .i64 0,.i .u8 0,.i .i64 0,.s [],.sl .full [],.b false]),
 oS 6 12 56,
 oM 13 57]
def r84_12:List AI:=[oM 58 13,
 oO 59 (.un .not (.t 58))]
def r84_13:List AI:=[oO 60 (.build [.i .i64 0,.i .i64 0,.i .u64 0,.sl .full []] []),
 oC 4 (.i .i64 0),
 oS 4 5 60,
 oC 6 (.i .i64 12)]
def r84_14:List AI:=[oF 61 3 8,
 oL 62 61,
 oO 63 (.load 6 true (.t 12)),
 oO 64 (.bslice [.i .i64 0,.i .u8 0,.i .i64 0,.s [],.sl .full [],.b false] 1 [(0,(.t 63))]),
 oO 65 (.app 6 72 (.t 62) (.t 64)),
 oF 66 3 8,
 oS 1 66 65]
def r84_15:List AI:=[oB 67 .add (.t 43) (.c (.i .i64 1)),
 oM 43 67]
def r84_16:List AI:=[oO 69 (.load 3 true (.t 2)),
 oM 70 7,
 oO 71 (.load 4 true (.t 8)),
 oO 72 (.call false 82 [(.t 69),(.t 70),(.t 71)]),
 oM 68 72,
 oE 73 0 68,
 oE 74 1 68,
 oM 14 73,
 oM 15 74]
def r84_17:List AI:=[oM 75 15,
 oB 76 .neq (.t 75) (.c (.i .i64 0)),
 oM 77 76,
 oG 78 (.mv (.t 14)) 77 false,
 oG 79 (.mv (.t 1)) 77 false,
 oG 80 (.call false 119 [(.t 78),(.t 79)]) 77 false,
 oG 81 (.un .not (.t 80)) 77 false,
 oO 82 (.pick (.t 77) (.c (.b true)) (.t 81))]
def r84_18:List AI:=[oO 83 (.build [.i .i64 0,.i .i64 0,.i .u64 0,.sl .full []] []),
 oC 4 (.i .i64 0),
 oS 4 5 83,
 oC 6 (.i .i64 12)]
def r84_19:List AI:=[oM 84 7,
 oO 85 (.load 4 true (.t 8)),
 oM 4 84,
 oS 4 5 85,
 oC 6 (.i .i64 0)]
abbrev c84_0:AC:=(.cond (.t 22) (.seq (.reg 2 r84_2) .ret) .skip)
abbrev l84_0:AC:=(.seq (.reg 9 r84_9) (.seq (.cond (.t 44) .skip (.exit 0)) (.seq (.block 1 (.seq (.reg 10 r84_10) (.seq (.reg 11 r84_11) (.seq (.seq (.reg 12 r84_12) (.cond (.t 59) (.seq (.reg 13 r84_13) .ret) .skip)) (.reg 14 r84_14))))) (.reg 15 r84_15))))
abbrev c84_2:AC:=(.cond (.t 82) (.seq (.reg 18 r84_18) .ret) .skip)
abbrev c84_3:AC:=(.seq (.reg 19 r84_19) .ret)
abbrev c84_4:AC:=(.seq (.seq (.reg 16 r84_16) (.seq (.reg 17 r84_17) c84_2)) c84_3)
abbrev c84_5:AC:=(.seq (.seq (.reg 8 r84_8) (.block 0 (.loop l84_0))) c84_4)
abbrev c84_6:AC:=(.seq (.seq (.reg 6 r84_6) (.cond (.t 38) (.seq (.reg 7 r84_7) .ret) .skip)) c84_5)
abbrev c84_7:AC:=(.seq (.reg 5 r84_5) c84_6)
abbrev c84_8:AC:=(.seq (.seq (.reg 3 r84_3) (.cond (.t 26) (.seq (.reg 4 r84_4) .ret) .skip)) c84_7)
abbrev c84_9:AC:=(.seq (.seq (.reg 1 r84_1) c84_0) c84_8)
abbrev b84:AC:=(.seq (.reg 0 r84_0) c84_9)
def pf84:AF:={ nt:=86,res:=[.tmp 4,.cell 5 4 true,.tmp 6],body:=b84 }
abbrev H84 (Q:AE→Sl→St→Prop)(K:Int→Frm→Int→Prop):Prop:=∀(σ:Sl)(st:St)(k1:Key)(v1:Nat)(o1_0:Own)(res0:Int)(res1:Frm)(res2:Int),σ 4 = .i .i64 res0→σ 5 = .p k1 v1 0→lk st.bx k1 = some (v1,[.i .i64 res1.func,.i .i64 res1.pos,.i .u64 res1.mode,.sl o1_0 (List.map Loc.row res1.locals)])→σ 6 = .i .i64 res2→K res0 res1 res2→Q .ret σ st
abbrev I84_0 (prog:Prog)(d:Nat)(Q:AE→Sl→St→Prop)(l1:List (List UInt8))(k7:Int)(t41:List (List UInt8))(t42:Int)(t43:Int)(m0:Img)(m2:Frm)(m20489:Frm):Prop:=
  ∀(σ:Sl)(st:St) (o_l1 o_t41 o_m2_3 o_m20489_3:Own) (v0 v2 v20489:Nat),σ 1 = .sl o_l1 (List.map rowS l1)→σ 2 = .p (d,0) v0 0→σ 5 = .p (d,2) v2 0→σ 7 = .i .i64 k7→σ 8 = .p (d,20489) v20489 0→σ 41 = .sl o_t41 (List.map rowS t41)→σ 42 = .i .i64 t42→σ 43 = .i .i64 t43→ApM d st.ow o_m20489_3 m20489.locals.length→lk st.bx (d,0) = some (v0,[.sl .ext (List.map Typ.row m0.types),.sl .ext (List.map rowS m0.texts),.sl .ext (List.map Fun.row m0.funcs)])→lk st.bx (d,2) = some (v2,[.i .i64 m2.func,.i .i64 m2.pos,.i .u64 m2.mode,.sl o_m2_3 (List.map Loc.row m2.locals)])→lk st.bx (d,20489) = some (v20489,[.i .i64 m20489.func,.i .i64 m20489.pos,.i .u64 m20489.mode,.sl o_m20489_3 (List.map Loc.row m20489.locals)])→W prog d (.loop l84_0) σ st (blockW 0 (thenW prog d c84_4 Q))
def T84_10 (prog:Prog)(K:Int→Frm→Int→Prop)(k7:Int)(m2:Frm)(m20489:Frm):Prop:=
  K k7 m20489 0
def T84_9 (prog:Prog)(K:Int→Frm→Int→Prop)(k7:Int)(t82:Bool)(m2:Frm)(m20489:Frm):Prop:=
  (t82 = true→K 0 (Frm.mk 0 0 0 ([]:List Loc)) 12)∧(t82 = false→T84_10 prog K k7 m2 m20489)
def T84_8 (prog:Prog)(K:Int→Frm→Int→Prop)(l1:List (List UInt8))(k7:Int)(m0:Img)(m2:Frm)(m20489:Frm):Prop:=
  ∃r'1:List (List UInt8),∃r'2:Int,Pus prog 82 [m0.av,.i .i64 k7,m20489.av] (.tup [.sl .ext (List.map rowS r'1),.i .i64 r'2])∧(r'2≠0→T84_9 prog K k7 true m2 m20489)∧(¬(r'2≠0)→∃r'5:Bool,Pus prog 119 [.sl .ext (List.map rowS r'1),.sl .ext (List.map rowS l1)] (.b r'5)∧T84_9 prog K k7 (!r'5) m2 m20489)
def T84_7 (prog:Prog)(K:Int→Frm→Int→Prop)(P0:Int→Img→Frm→Frm→Prop)(l1:List (List UInt8))(k7:Int)(t41:List (List UInt8))(t42:Int)(t43:Int)(m0:Img)(m2:Frm)(m20489:Frm):Prop:=
  (t43 < t42→0≤t43∧∃c'2:List UInt8,t41[(t43).toNat]? = some c'2∧0≤m20489.func∧∃c'4:Fun,m0.funcs[(m20489.func).toNat]? = some c'4∧∃r'6:Loc,∃r'7:Bool,Pus prog 118 [c'4.av,.s c'2] (.tup [r'6.av,.b r'7])∧((!r'7) = true→K 0 (Frm.mk 0 0 0 ([]:List Loc)) 12)∧((!r'7) = false→Fit (m20489.locals.length + [r'6].length) 72∧P0 (IntKind.i64.wrap (t43 + 1)) m0 m2 (Frm.mk m20489.func m20489.pos m20489.mode (m20489.locals ++ [r'6]))))∧(¬(t43 < t42)→T84_8 prog K l1 k7 m0 m2 m20489)
def T84_6 (prog:Prog)(K:Int→Frm→Int→Prop)(l1:List (List UInt8))(k7:Int)(m0:Img)(m2:Frm)(m20489:Frm):Prop:=
  1≤l1.length∧∀P0:Int→Img→Frm→Frm→Prop,(∀(t43:Int)(m0:Img)(m2:Frm)(m20489:Frm),T84_7 prog K P0 l1 k7 (l1.drop 1) ((l1.drop 1).length:Int) t43 m0 m2 m20489→P0 t43 m0 m2 m20489)→P0 0 m0 m2 m20489
def T84_5 (prog:Prog)(K:Int→Frm→Int→Prop)(l1:List (List UInt8))(k7:Int)(ok9:Bool)(m0:Img)(m2:Frm)(m20489:Frm):Prop:=
  ((!ok9) = true→K 0 (Frm.mk 0 0 0 ([]:List Loc)) 12)∧((!ok9) = false→T84_6 prog K l1 k7 m0 m2 m20489)
def T84_4 (prog:Prog)(K:Int→Frm→Int→Prop)(l1:List (List UInt8))(m0:Img)(m2:Frm):Prop:=
  ∃c'1:List UInt8,l1[0]? = some c'1∧∃r'3:Int,∃r'4:Frm,∃r'5:Bool,(PuN prog 117 [m0.av,.s c'1] (fun r=>r = .tup [.i .i64 r'3,r'4.avo .full,.b r'5]))∧T84_5 prog K l1 r'3 r'5 m0 m2 r'4
def T84_3 (prog:Prog)(K:Int→Frm→Int→Prop)(l1:List (List UInt8))(m0:Img)(m2:Frm):Prop:=
  ((l1.length:Int) = 0→K 0 (Frm.mk 0 0 0 ([]:List Loc)) 12)∧(¬((l1.length:Int) = 0)→T84_4 prog K l1 m0 m2)
def T84_2 (prog:Prog)(K:Int→Frm→Int→Prop)(l1:List (List UInt8))(t22:Bool)(m0:Img)(m2:Frm):Prop:=
  (t22 = true→K 0 (Frm.mk 0 0 0 ([]:List Loc)) 4)∧(t22 = false→T84_3 prog K l1 m0 m2)
def T84_1 (prog:Prog)(K:Int→Frm→Int→Prop)(l1:List (List UInt8))(m0:Img)(m2:Frm):Prop:=
  ((l1.length:Int) > 17→T84_2 prog K l1 true m0 m2)∧(¬((l1.length:Int) > 17)→∃r'2:Bool,(∀q'4:Own,PuN prog 115 [.sl q'4 (List.map rowS l1),.fn 116 []] (fun r=>r = .b r'2))∧T84_2 prog K l1 r'2 m0 m2)
def T84_0 (prog:Prog)(K:Int→Frm→Int→Prop)(m0:Img)(l1:List (List UInt8)):Prop:=
  T84_1 prog K l1 m0 (Frm.mk 0 0 0 ([]:List Loc))
section
variable {prog:Prog}{d:Nat}{Q:AE→Sl→St→Prop}{K:Int→Frm→Int→Prop}(hQ:H84 Q K){σ:Sl}{st:St}
include hQ
theorem w84_10 {k7:Int}{m2 m20489:Frm}{o_m2_3 o_m20489_3:Own}{v2:Nat}{v20489:Nat}(H5:σ 5 = .p (d,2) v2 0)(H7:σ 7 = .i .i64 k7)(H8:σ 8 = .p (d,20489) v20489 0)(Ab20489:ApM d st.ow o_m20489_3 m20489.locals.length)(B2:lk st.bx (d,2) = some (v2,[.i .i64 m2.func,.i .i64 m2.pos,.i .u64 m2.mode,.sl o_m2_3 (List.map Loc.row m2.locals)]))(B20489:lk st.bx (d,20489) = some (v20489,[.i .i64 m20489.func,.i .i64 m20489.pos,.i .u64 m20489.mode,.sl o_m20489_3 (List.map Loc.row m20489.locals)]))(h:T84_10 prog K k7 m2 m20489):W prog d c84_3 σ st Q:=
 q_ rfl (m_ (l_ H8 B20489 rfl rfl (m_ (so_ H5 B2 rfl rfl rfl (m_ (e_ (rt_ (hQ _ _ _ _ _ _ _ _ H7 H5 lk_here rfl h))))))))
theorem w84_9 {k7:Int}{t82:Bool}{m2 m20489:Frm}{o_m2_3 o_m20489_3:Own}{v2:Nat}{v20489:Nat}(H5:σ 5 = .p (d,2) v2 0)(H7:σ 7 = .i .i64 k7)(H8:σ 8 = .p (d,20489) v20489 0)(H82:σ 82 = .b t82)(Ab20489:ApM d st.ow o_m20489_3 m20489.locals.length)(B2:lk st.bx (d,2) = some (v2,[.i .i64 m2.func,.i .i64 m2.pos,.i .u64 m2.mode,.sl o_m2_3 (List.map Loc.row m2.locals)]))(B20489:lk st.bx (d,20489) = some (v20489,[.i .i64 m20489.func,.i .i64 m20489.pos,.i .u64 m20489.mode,.sl o_m20489_3 (List.map Loc.row m20489.locals)]))(h:T84_9 prog K k7 t82 m2 m20489):W prog d c84_2 σ st (thenW prog d c84_3 Q):=
 cb_ H82 (fun g'1=>q_ rfl (s_build f_nil (m_ (so_ H5 B2 rfl rfl rfl (m_ (e_ (rt_ (hQ _ _ _ _ _ _ _ _ rfl H5 lk_here rfl (h.1 g'1))))))))) (fun g'1=>sk_ (w84_10 hQ H5 H7 H8 Ab20489 B2 B20489 (h.2 g'1)))
theorem w84_8 {l1:List (List UInt8)}{k7:Int}{m0:Img}{m2 m20489:Frm}{o_l1 o_m2_3 o_m20489_3:Own}{v0:Nat}{v2:Nat}{v20489:Nat}(H1:σ 1 = .sl o_l1 (List.map rowS l1))(H2:σ 2 = .p (d,0) v0 0)(H5:σ 5 = .p (d,2) v2 0)(H7:σ 7 = .i .i64 k7)(H8:σ 8 = .p (d,20489) v20489 0)(Ab20489:ApM d st.ow o_m20489_3 m20489.locals.length)(B0:lk st.bx (d,0) = some (v0,[.sl .ext (List.map Typ.row m0.types),.sl .ext (List.map rowS m0.texts),.sl .ext (List.map Fun.row m0.funcs)]))(B2:lk st.bx (d,2) = some (v2,[.i .i64 m2.func,.i .i64 m2.pos,.i .u64 m2.mode,.sl o_m2_3 (List.map Loc.row m2.locals)]))(B20489:lk st.bx (d,20489) = some (v20489,[.i .i64 m20489.func,.i .i64 m20489.pos,.i .u64 m20489.mode,.sl o_m20489_3 (List.map Loc.row m20489.locals)]))(h:T84_8 prog K l1 k7 m0 m2 m20489):W prog d c84_4 σ st Q:=
 sq_ (q_ rfl (l_ H2 B0 rfl rfl (m_ (l_ H8 B20489 rfl rfl (h.elim fun r'1 e'7=>e'7.elim fun r'2 e'3=>ca_ (sc rfl rfl (sc H7 rfl (sc rfl rfl sn))) e'3.1 (m_ (x_ rfl rfl (x_ rfl rfl (s_mvL rfl (m_ (e_ (q_ rfl (s_mvI rfl (b_ rfl rfl neq_ (s_mvB rfl (em_ (g:=77) rfl (fun g'4=>gn_ (b:=true) rfl rfl (gn_ (b:=true) rfl rfl (gn_ (b:=true) rfl rfl (gn_ (b:=true) rfl rfl (pt_ rfl rfl (e_ (w84_9 hQ H5 H7 H8 rfl Ab20489 B2 B20489 (e'3.2.1 g'4)))))))) (fun g'4=>gy_ rfl (s_mvL rfl (gy_ rfl (s_mvL H1 (gy_ rfl ((e'3.2.2 g'4).elim fun r'5 e'6=>ca_ (sc rfl rfl (sc rfl rfl sn)) e'6.1 (gy_ rfl (nt_ rfl (pf_ rfl rfl (e_ (w84_9 hQ H5 H7 H8 rfl Ab20489 B2 B20489 e'6.2)))))))))))))))))))))))))))
theorem w84_7 {l1:List (List UInt8)}{k7:Int}{t41:List (List UInt8)}{t42 t43:Int}{m0:Img}{m2 m20489:Frm}{P0:Int→Img→Frm→Frm→Prop} (kP0 :∀(t43:Int)(m0:Img)(m2:Frm)(m20489:Frm),P0 t43 m0 m2 m20489→I84_0 prog d Q l1 k7 t41 t42 t43 m0 m2 m20489){o_l1 o_t41 o_m2_3 o_m20489_3:Own}{v0:Nat}{v2:Nat}{v20489:Nat}(H1:σ 1 = .sl o_l1 (List.map rowS l1))(H2:σ 2 = .p (d,0) v0 0)(H5:σ 5 = .p (d,2) v2 0)(H7:σ 7 = .i .i64 k7)(H8:σ 8 = .p (d,20489) v20489 0)(H41:σ 41 = .sl o_t41 (List.map rowS t41))(H42:σ 42 = .i .i64 t42)(H43:σ 43 = .i .i64 t43)(Ab20489:ApM d st.ow o_m20489_3 m20489.locals.length)(B0:lk st.bx (d,0) = some (v0,[.sl .ext (List.map Typ.row m0.types),.sl .ext (List.map rowS m0.texts),.sl .ext (List.map Fun.row m0.funcs)]))(B2:lk st.bx (d,2) = some (v2,[.i .i64 m2.func,.i .i64 m2.pos,.i .u64 m2.mode,.sl o_m2_3 (List.map Loc.row m2.locals)]))(B20489:lk st.bx (d,20489) = some (v20489,[.i .i64 m20489.func,.i .i64 m20489.pos,.i .u64 m20489.mode,.sl o_m20489_3 (List.map Loc.row m20489.locals)]))(h:T84_7 prog K P0 l1 k7 t41 t42 t43 m0 m2 m20489):W prog d l84_0 σ st (thenW prog d (.loop l84_0) (blockW 0 (thenW prog d c84_4 Q))):=
 q_ rfl (b_ H43 H42 lss_ (e_ (sq_ (cs_ rfl (fun g'1=>sk_ (sq_ (bk_ (q_ rfl ((h.1 g'1).2.elim fun c'2 e'3=>ia_ H41 H43 (h.1 g'1).1 e'3.1 rfl rfl (lf_ rfl rfl rfl (m_ (e_ (sq_ (W.reg (f_ H2 (l_ rfl (lk_other rfl B0) rfl rfl (f_ H8 (l_ rfl (lk_other rfl B20489) rfl rfl (e'3.2.2.elim fun c'4 e'5=>ia_ rfl rfl e'3.2.1 e'5.1 (Fun.row_eq c'4) rfl (lf_ rfl rfl rfl (m_ (e'5.2.elim fun r'6 e'15=>e'15.elim fun r'7 e'8=>ca_ (sc rfl rfl (sc rfl rfl sn)) e'8.1 (m_ (x_ rfl rfl (x_ rfl rfl (s_alloc (so_ rfl (show lk _ (d,45067) = some (_,([.i .i64 0,.i .u8 0,.i .i64 0,.s [],.sl .full (List.map Val.row ([]:List Val)),.b false]:List AV)) from lk_here) rfl rfl rfl (m_ (e_ (sq_ (q_ rfl (m_ (nt_ rfl (e_ (cb_ rfl (fun g'9=>q_ rfl (s_build f_nil (m_ (so_ H5 (lk_other rfl (lk_other rfl B2)) rfl rfl rfl (m_ (e_ (rt_ (hQ _ _ _ _ _ _ _ _ rfl H5 lk_here rfl (e'8.2.1 g'9))))))))) (fun g'9=>sk_ (W.reg0 rfl fun _ _=>f_ H8 (l_ rfl (lk_other rfl (lk_other rfl B20489)) rfl rfl (l_ rfl lk_here rfl rfl (s_bslM (f:=Loc.row) (l:=[r'6]) rfl rfl (g_cons rfl rfl rfl g_nil) (by simp only [List.map_cons,List.map_nil,Loc.row_eq]; rfl) (s_app Loc.row_len rfl rfl rfl Ab20489.1 (e'8.2.2 g'9).1 rfl (fun o'10 ow'13 a'11 fr'12 on'14=>f_ H8 (so_ rfl (lk_other rfl (lk_other rfl B20489)) rfl rfl rfl (e_ (W.reg0 rfl fun _ _=>b_ H43 rfl add_ (m_ (e_ (kP0 _ _ _ _ (e'8.2.2 g'9).2 _ _ _ _ _ _ _ _ _ H1 H2 H5 H7 H8 H41 H42 rfl (ApM.mk a'11 (Mine.app Ab20489.2 rfl on'14)) (lk_other rfl (lk_other rfl (lk_other rfl B0))) (lk_other rfl (lk_other rfl (lk_other rfl B2))) lk_here)))))))))))))))))))))))))))))))))))))))))))) (fun g'1=>ex_ (w84_8 hQ H1 H2 H5 H7 H8 Ab20489 B0 B2 B20489 (h.2 g'1)))))))
theorem w84_6 {l1:List (List UInt8)}{k7:Int}{m0:Img}{m2 m20489:Frm}{o_l1 o_m2_3 o_m20489_3:Own}{v0:Nat}{v2:Nat}{v20489:Nat}(H1:σ 1 = .sl o_l1 (List.map rowS l1))(H2:σ 2 = .p (d,0) v0 0)(H5:σ 5 = .p (d,2) v2 0)(H7:σ 7 = .i .i64 k7)(H8:σ 8 = .p (d,20489) v20489 0)(Ab20489:ApM d st.ow o_m20489_3 m20489.locals.length)(B0:lk st.bx (d,0) = some (v0,[.sl .ext (List.map Typ.row m0.types),.sl .ext (List.map rowS m0.texts),.sl .ext (List.map Fun.row m0.funcs)]))(B2:lk st.bx (d,2) = some (v2,[.i .i64 m2.func,.i .i64 m2.pos,.i .u64 m2.mode,.sl o_m2_3 (List.map Loc.row m2.locals)]))(B20489:lk st.bx (d,20489) = some (v20489,[.i .i64 m20489.func,.i .i64 m20489.pos,.i .u64 m20489.mode,.sl o_m20489_3 (List.map Loc.row m20489.locals)]))(h:T84_6 prog K l1 k7 m0 m2 m20489):W prog d c84_5 σ st Q:=
 sq_ (q_ rfl (s_mvL H1 (s_slL_lo rowS_len rfl rfl (by decide) h.1 (ll_ rfl (m_ (e_ (bk_ (h.2 (I84_0 prog d Q l1 k7 (l1.drop 1) ((l1.drop 1).length:Int)) (fun _ _ _ _ hb _ _ _ _ _ _ _ _ _ H1 H2 H5 H7 H8 H41 H42 H43 Ab20489 B0 B2 B20489=>W.loop (w84_7 hQ (fun _ _ _ _ x=>x) H1 H2 H5 H7 H8 H41 H42 H43 Ab20489 B0 B2 B20489 hb)) _ _ _ _ _ _ _ _ _ H1 H2 H5 H7 H8 rfl rfl rfl Ab20489 B0 B2 B20489))))))))
theorem w84_5 {l1:List (List UInt8)}{k7:Int}{ok9:Bool}{m0:Img}{m2 m20489:Frm}{o_l1 o_m2_3 o_m20489_3:Own}{v0:Nat}{v2:Nat}{v20489:Nat}(H1:σ 1 = .sl o_l1 (List.map rowS l1))(H2:σ 2 = .p (d,0) v0 0)(H5:σ 5 = .p (d,2) v2 0)(H7:σ 7 = .i .i64 k7)(H8:σ 8 = .p (d,20489) v20489 0)(H9:σ 9 = .b ok9)(Ab20489:ApM d st.ow o_m20489_3 m20489.locals.length)(B0:lk st.bx (d,0) = some (v0,[.sl .ext (List.map Typ.row m0.types),.sl .ext (List.map rowS m0.texts),.sl .ext (List.map Fun.row m0.funcs)]))(B2:lk st.bx (d,2) = some (v2,[.i .i64 m2.func,.i .i64 m2.pos,.i .u64 m2.mode,.sl o_m2_3 (List.map Loc.row m2.locals)]))(B20489:lk st.bx (d,20489) = some (v20489,[.i .i64 m20489.func,.i .i64 m20489.pos,.i .u64 m20489.mode,.sl o_m20489_3 (List.map Loc.row m20489.locals)]))(h:T84_5 prog K l1 k7 ok9 m0 m2 m20489):W prog d c84_6 σ st Q:=
 sq_ (q_ rfl (m_ (nt_ H9 (e_ (cb_ rfl (fun g'1=>q_ rfl (s_build f_nil (m_ (so_ H5 B2 rfl rfl rfl (m_ (e_ (rt_ (hQ _ _ _ _ _ _ _ _ rfl H5 lk_here rfl (h.1 g'1))))))))) (fun g'1=>sk_ (w84_6 hQ H1 H2 H5 H7 H8 Ab20489 B0 B2 B20489 (h.2 g'1))))))))
theorem w84_4 {l1:List (List UInt8)}{m0:Img}{m2:Frm}{o_l1 o_m2_3:Own}{v0:Nat}{v2:Nat}(H1:σ 1 = .sl o_l1 (List.map rowS l1))(H2:σ 2 = .p (d,0) v0 0)(H5:σ 5 = .p (d,2) v2 0)(B0:lk st.bx (d,0) = some (v0,[.sl .ext (List.map Typ.row m0.types),.sl .ext (List.map rowS m0.texts),.sl .ext (List.map Fun.row m0.funcs)]))(B2:lk st.bx (d,2) = some (v2,[.i .i64 m2.func,.i .i64 m2.pos,.i .u64 m2.mode,.sl o_m2_3 (List.map Loc.row m2.locals)]))(h:T84_4 prog K l1 m0 m2):W prog d c84_7 σ st Q:=
 sq_ (W.reg (l_ H2 (lk_other rfl B0) rfl rfl (s_mvL H1 (h.elim fun c'1 e'2=>ia_ rfl rfl (by decide) e'2.1 rfl rfl (lf_ rfl rfl rfl (e'2.2.elim fun r'3 e'9=>e'9.elim fun r'4 e'10=>e'10.elim fun r'5 e'6=>s_callN (sec rfl (sec rfl sen)) (e'6.1) (fun st'7 hf'8=>m_ (x_ rfl rfl (x_ rfl rfl (x_ rfl rfl (s_alloc (m_ (so_ rfl ((hf'8.1 (d,20489) (Nat.lt_succ_self d) key_dn).trans (show lk _ (d,20489) = some (_,([.i .i64 0,.i .i64 0,.i .u64 0,.sl .full (List.map Loc.row ([]:List Loc))]:List AV)) from lk_here)) rfl rfl rfl (m_ (e_ (w84_5 hQ H1 H2 H5 rfl rfl rfl ApM.full (lk_other rfl ((hf'8.1 (d,0) (Nat.lt_succ_self d) key_dn).trans (lk_other rfl B0))) (lk_other rfl ((hf'8.1 (d,2) (Nat.lt_succ_self d) key_dn).trans (lk_other rfl B2))) lk_here e'6.2))))))))))))))))
theorem w84_3 {l1:List (List UInt8)}{m0:Img}{m2:Frm}{o_l1 o_m2_3:Own}{v0:Nat}{v2:Nat}(H1:σ 1 = .sl o_l1 (List.map rowS l1))(H2:σ 2 = .p (d,0) v0 0)(H5:σ 5 = .p (d,2) v2 0)(B0:lk st.bx (d,0) = some (v0,[.sl .ext (List.map Typ.row m0.types),.sl .ext (List.map rowS m0.texts),.sl .ext (List.map Fun.row m0.funcs)]))(B2:lk st.bx (d,2) = some (v2,[.i .i64 m2.func,.i .i64 m2.pos,.i .u64 m2.mode,.sl o_m2_3 (List.map Loc.row m2.locals)]))(h:T84_3 prog K l1 m0 m2):W prog d c84_8 σ st Q:=
 sq_ (q_ rfl (s_mvL H1 (ll_ rfl (b_ rfl rfl eql_ (e_ (cs_ rfl (fun g'1=>q_ rfl (s_build f_nil (m_ (so_ H5 B2 rfl rfl rfl (m_ (e_ (rt_ (hQ _ _ _ _ _ _ _ _ rfl H5 lk_here rfl (h.1 g'1))))))))) (fun g'1=>sk_ (w84_4 hQ H1 H2 H5 B0 B2 (h.2 g'1)))))))))
theorem w84_2 {l1:List (List UInt8)}{t22:Bool}{m0:Img}{m2:Frm}{o_l1 o_m2_3:Own}{v0:Nat}{v2:Nat}(H1:σ 1 = .sl o_l1 (List.map rowS l1))(H2:σ 2 = .p (d,0) v0 0)(H5:σ 5 = .p (d,2) v2 0)(H22:σ 22 = .b t22)(B0:lk st.bx (d,0) = some (v0,[.sl .ext (List.map Typ.row m0.types),.sl .ext (List.map rowS m0.texts),.sl .ext (List.map Fun.row m0.funcs)]))(B2:lk st.bx (d,2) = some (v2,[.i .i64 m2.func,.i .i64 m2.pos,.i .u64 m2.mode,.sl o_m2_3 (List.map Loc.row m2.locals)]))(h:T84_2 prog K l1 t22 m0 m2):W prog d c84_0 σ st (thenW prog d c84_8 Q):=
 cb_ H22 (fun g'1=>q_ rfl (s_build f_nil (m_ (so_ H5 B2 rfl rfl rfl (m_ (e_ (rt_ (hQ _ _ _ _ _ _ _ _ rfl H5 lk_here rfl (h.1 g'1))))))))) (fun g'1=>sk_ (w84_3 hQ H1 H2 H5 B0 B2 (h.2 g'1)))
theorem w84_1 {l1:List (List UInt8)}{m0:Img}{m2:Frm}{o_l1 o_m2_3:Own}{v0:Nat}{v2:Nat}(H1:σ 1 = .sl o_l1 (List.map rowS l1))(H2:σ 2 = .p (d,0) v0 0)(H5:σ 5 = .p (d,2) v2 0)(B0:lk st.bx (d,0) = some (v0,[.sl .ext (List.map Typ.row m0.types),.sl .ext (List.map rowS m0.texts),.sl .ext (List.map Fun.row m0.funcs)]))(B2:lk st.bx (d,2) = some (v2,[.i .i64 m2.func,.i .i64 m2.pos,.i .u64 m2.mode,.sl o_m2_3 (List.map Loc.row m2.locals)]))(h:T84_1 prog K l1 m0 m2):W prog d c84_9 σ st Q:=
 sq_ (q_ rfl (s_mvL H1 (ll_ rfl (b_ rfl rfl gtr_ (s_mvB rfl (em_ (g:=19) rfl (fun g'1=>gn_ (b:=true) rfl rfl (gn_ (b:=true) rfl rfl (pt_ rfl rfl (e_ (w84_2 hQ H1 H2 H5 rfl B0 B2 (h.1 g'1)))))) (fun g'1=>gy_ rfl (s_mvL H1 (gy_ rfl ((h.2 g'1).elim fun r'2 e'5=>s_callN (sec rfl (sec rfl sen)) (e'5.1 _) (fun st'6 hf'7=>pf_ rfl rfl (e_ (w84_2 hQ H1 H2 H5 rfl ((hf'7.1 (d,0) (Nat.lt_succ_self d) key_dn).trans B0) ((hf'7.1 (d,2) (Nat.lt_succ_self d) key_dn).trans B2) e'5.2)))))))))))))
theorem w84_0 {m0:Img}{l1:List (List UInt8)}{o_l1:Own}(H0:σ 0 = m0.av)(H1:σ 1 = .sl o_l1 (List.map rowS l1))(h:T84_0 prog K m0 l1):W prog d (.seq (.reg 0 r84_0) c84_9) σ st Q:=
 sq_ (W.reg (s_box H0 rfl (m_ (s_alloc (m_ (e_ (w84_1 (m2:=(Frm.mk 0 0 0 ([]:List Loc))) hQ H1 rfl rfl lk_here (lk_other rfl (show lk _ (d,2) = some (_,([.i .i64 0,.i .i64 0,.i .u64 0,.sl .full (List.map Loc.row ([]:List Loc))]:List AV)) from lk_here)) h)))))))
end
theorem p84 {prog:Prog}(hf:prog.fn 84 = some pf84){m0:Img}{l1:List (List UInt8)}{K:Int→Frm→Int→Prop}(h:T84_0 prog K m0 l1) :∃res0:Int,∃res1:Frm,∃res2:Int,K res0 res1 res2∧Pus prog 84 [m0.av,.sl .ext (List.map rowS l1)] (.tup [.i .i64 res0,res1.av,.i .i64 res2]):=by
  obtain ⟨v,hv,res0,res1,res2,hk,rfl⟩:=Pus.of (K:=fun v=>∃res0:Int,∃res1:Frm,∃res2:Int,K res0 res1 res2∧v = .tup [.i .i64 res0,res1.av,.i .i64 res2]) hf rfl (w84_0 (σ:=sl0 [m0.av,.sl .ext (List.map rowS l1)]) (fun σ st k1 v1 o1_0 res0 res1 res2 H4 H5 HB5 H6 hk=>⟨.tup [.i .i64 res0,res1.avo o1_0,.i .i64 res2],by simp only [pf84,ares,aresL,H4,ares_cellA (n:=4) H5 HB5 rfl,H6,ares_tmp,Option.map_some],_,rfl,res0,res1,res2,hk,rfl⟩) rfl rfl h)
  exact ⟨res0,res1,res2,hk,hv⟩
end Go.AM

/- Parts of the proof. -/
namespace Go.AM
open Go
set_option linter.unusedVariables false
set_option linter.unusedSimpArgs false
set_option maxRecDepth 4000
attribute [local irreducible] WO fillCells fillRows
def r81_0:List AI:=[oC 2 (.b false)]
def r81_1:List AI:=[oC 3 (.i .i64 0)]
def r81_2:List AI:=[oM 4 3,
 oM 5 0,
 oO 6 (.len false (.t 5)),
 oB 7 .lss (.t 4) (.t 6),
 oM 8 7,
 oG 9 (.mv (.t 3)) 8 true,
 oG 10 (.bin .leq (.t 9) (.c (.i .i64 30))) 8 true,
 oO 11 (.pick (.t 8) (.t 10) (.c (.b false)))]
def r81_3:List AI:=[oM 14 0,
 oM 15 3,
 oO 16 (.iaL 1 (.t 14) (.t 15)),
 oL 17 16,
 oO 18 (.len true (.t 17)),
 oB 19 .gtr (.t 18) (.c (.i .i64 3000)),
 oM 20 19,
 oG 21 (.mv (.t 0)) 20 true,
 oG 22 (.mv (.t 3)) 20 true,
 oG 23 (.iaL 1 (.t 21) (.t 22)) 20 true,
 oG 24 (.load 1 false (.t 23)) 20 true,
 oG 25 (.len true (.t 24)) 20 true,
 oG 26 (.bin .leq (.t 25) (.c (.i .i64 1400060))) 20 true,
 oO 27 (.pick (.t 20) (.t 26) (.c (.b false))),
 oM 28 27,
 oG 29 (.mv (.t 0)) 28 false,
 oG 30 (.mv (.t 3)) 28 false,
 oG 31 (.iaL 1 (.t 29) (.t 30)) 28 false,
 oG 32 (.load 1 false (.t 31)) 28 false,
 oG 33 (.len true (.t 32)) 28 false,
 oG 34 (.bin .gtr (.t 33) (.c (.i .i64 1400200))) 28 false,
 oO 35 (.pick (.t 28) (.c (.b true)) (.t 34))]
def r81_4:List AI:=[oC 2 (.b true)]
def r81_5:List AI:=[oM 12 3,
 oB 13 .add (.t 12) (.c (.i .i64 1)),
 oM 3 13]
def r81_6:List AI:=[oM 36 0,
 oO 37 (.len false (.t 36)),
 oB 38 .gtr (.t 37) (.c (.i .i64 30)),
 oM 2 38]
abbrev c81_0:AC:=(.seq (.block 1 (.seq (.reg 4 r81_3) (.cond (.t 35) (.seq (.reg 5 r81_4) .ret) .skip))) (.reg 3 r81_5))
abbrev l81_0:AC:=(.seq (.seq (.reg 2 r81_2) (.cond (.t 11) .skip (.exit 0))) c81_0)
abbrev c81_2:AC:=(.seq (.reg 6 r81_6) .ret)
abbrev b81:AC:=(.seq (.reg 0 r81_0) (.seq (.seq (.reg 1 r81_1) (.block 0 (.loop l81_0))) c81_2))
def pf81:AF:={ nt:=39,res:=[.tmp 2],body:=b81 }
abbrev H81 (Q:AE→Sl→St→Prop)(K:Bool→Prop):Prop:=∀(σ:Sl)(st:St)(res0:Bool),σ 2 = .b res0→K res0→Q .ret σ st
abbrev I81_0 (prog:Prog)(d:Nat)(Q:AE→Sl→St→Prop)(l0:List (List UInt8))(i3:Int):Prop:=
  ∀(σ:Sl)(st:St)(o_l0:Own),σ 0 = .sl o_l0 (List.map rowS l0)→σ 3 = .i .i64 i3→W prog d (.loop l81_0) σ st (blockW 0 (thenW prog d c81_2 Q))
def T81_2 (prog:Prog)(K:Bool→Prop)(P0:Int→Prop)(l0:List (List UInt8))(i3:Int):Prop:=
  0≤i3∧∃c'1:List UInt8,l0[(i3).toNat]? = some c'1∧((c'1.length:Int) > 3000→0≤i3∧∃c'4:List UInt8,l0[(i3).toNat]? = some c'4∧((c'4.length:Int)≤1400060→K true)∧(¬((c'4.length:Int)≤1400060)→0≤i3∧∃c'7:List UInt8,l0[(i3).toNat]? = some c'7∧((c'7.length:Int) > 1400200→K true)∧(¬((c'7.length:Int) > 1400200)→P0 (IntKind.i64.wrap (i3 + 1)))))∧(¬((c'1.length:Int) > 3000)→0≤i3∧∃c'10:List UInt8,l0[(i3).toNat]? = some c'10∧((c'10.length:Int) > 1400200→K true)∧(¬((c'10.length:Int) > 1400200)→P0 (IntKind.i64.wrap (i3 + 1))))
def T81_3 (prog:Prog)(K:Bool→Prop)(l0:List (List UInt8)):Prop:=
  K (decide ((l0.length:Int) > 30))
def T81_1 (prog:Prog)(K:Bool→Prop)(P0:Int→Prop)(l0:List (List UInt8))(i3:Int):Prop:=
  (i3 < (l0.length:Int)→(i3≤30→T81_2 prog K P0 l0 i3)∧(¬(i3≤30)→T81_3 prog K l0))∧(¬(i3 < (l0.length:Int))→T81_3 prog K l0)
def T81_0 (prog:Prog)(K:Bool→Prop)(l0:List (List UInt8)):Prop:=
  ∀P0:Int→Prop,(∀(i3:Int),T81_1 prog K P0 l0 i3→P0 i3)→P0 0
section
variable {prog:Prog}{d:Nat}{Q:AE→Sl→St→Prop}{K:Bool→Prop}(hQ:H81 Q K){σ:Sl}{st:St}
include hQ
theorem w81_2 {l0:List (List UInt8)}{i3:Int}{P0:Int→Prop} (kP0 :∀(i3:Int),P0 i3→I81_0 prog d Q l0 i3){o_l0:Own}(H0:σ 0 = .sl o_l0 (List.map rowS l0))(H3:σ 3 = .i .i64 i3)(h:T81_2 prog K P0 l0 i3):W prog d c81_0 σ st (thenW prog d (.loop l81_0) (blockW 0 (thenW prog d c81_2 Q))):=
 sq_ (bk_ (q_ rfl (s_mvL H0 (s_mvI H3 (h.2.elim fun c'1 e'2=>ia_ rfl rfl h.1 e'2.1 rfl rfl (lf_ rfl rfl rfl (ln_ rfl (b_ rfl rfl gtr_ (s_mvB rfl (em_ (g:=20) rfl (fun g'3=>gy_ rfl (s_mvL H0 (gy_ rfl (s_mvI H3 (gy_ rfl ((e'2.2.1 g'3).2.elim fun c'4 e'5=>ia_ rfl rfl (e'2.2.1 g'3).1 e'5.1 rfl rfl (gy_ rfl (lf_ rfl rfl rfl (gy_ rfl (ln_ rfl (gy_ rfl (b_ rfl rfl leq_ (pt_ rfl rfl (s_mvB rfl (em_ (g:=28) rfl (fun g'6=>gn_ (b:=true) rfl rfl (gn_ (b:=true) rfl rfl (gn_ (b:=true) rfl rfl (gn_ (b:=true) rfl rfl (gn_ (b:=true) rfl rfl (gn_ (b:=true) rfl rfl (pt_ rfl rfl (e_ (ct_ rfl (q_ rfl (m_ (e_ (rt_ (hQ _ _ _ rfl (e'5.2.1 g'6))))))))))))))) (fun g'6=>gy_ rfl (s_mvL H0 (gy_ rfl (s_mvI H3 (gy_ rfl ((e'5.2.2 g'6).2.elim fun c'7 e'8=>ia_ rfl rfl (e'5.2.2 g'6).1 e'8.1 rfl rfl (gy_ rfl (lf_ rfl rfl rfl (gy_ rfl (ln_ rfl (gy_ rfl (b_ rfl rfl gtr_ (pf_ rfl rfl (e_ (cs_ rfl (fun g'9=>q_ rfl (m_ (e_ (rt_ (hQ _ _ _ rfl (e'8.2.1 g'9)))))) (fun g'9=>sk_ (W.reg0 rfl fun _ _=>m_ (b_ H3 rfl add_ (m_ (e_ (kP0 _ (e'8.2.2 g'9) _ _ _ H0 rfl)))))))))))))))))))))))))))))))))))) (fun g'3=>gn_ (b:=false) rfl rfl (gn_ (b:=false) rfl rfl (gn_ (b:=false) rfl rfl (gn_ (b:=false) rfl rfl (gn_ (b:=false) rfl rfl (gn_ (b:=false) rfl rfl (pf_ rfl rfl (s_mvB rfl (gy_ rfl (s_mvL H0 (gy_ rfl (s_mvI H3 (gy_ rfl ((e'2.2.2 g'3).2.elim fun c'10 e'11=>ia_ rfl rfl (e'2.2.2 g'3).1 e'11.1 rfl rfl (gy_ rfl (lf_ rfl rfl rfl (gy_ rfl (ln_ rfl (gy_ rfl (b_ rfl rfl gtr_ (pf_ rfl rfl (e_ (cs_ rfl (fun g'12=>q_ rfl (m_ (e_ (rt_ (hQ _ _ _ rfl (e'11.2.1 g'12)))))) (fun g'12=>sk_ (W.reg0 rfl fun _ _=>m_ (b_ H3 rfl add_ (m_ (e_ (kP0 _ (e'11.2.2 g'12) _ _ _ H0 rfl)))))))))))))))))))))))))))))))))))))))
theorem w81_3 {l0:List (List UInt8)}{o_l0:Own}(H0:σ 0 = .sl o_l0 (List.map rowS l0))(h:T81_3 prog K l0):W prog d c81_2 σ st Q:=
 q_ rfl (s_mvL H0 (ll_ rfl (b_ rfl rfl gtr_ (m_ (e_ (rt_ (hQ _ _ _ rfl h)))))))
theorem w81_1 {l0:List (List UInt8)}{i3:Int}{P0:Int→Prop} (kP0 :∀(i3:Int),P0 i3→I81_0 prog d Q l0 i3){o_l0:Own}(H0:σ 0 = .sl o_l0 (List.map rowS l0))(H3:σ 3 = .i .i64 i3)(h:T81_1 prog K P0 l0 i3):W prog d l81_0 σ st (thenW prog d (.loop l81_0) (blockW 0 (thenW prog d c81_2 Q))):=
 sq_ (q_ rfl (s_mvI H3 (s_mvL H0 (ll_ rfl (b_ rfl rfl lss_ (s_mvB rfl (em_ (g:=8) rfl (fun g'1=>gy_ rfl (s_mvI H3 (gy_ rfl (b_ rfl rfl leq_ (pt_ rfl rfl (e_ (cs_ rfl (fun g'2=>sk_ (w81_2 hQ kP0 H0 H3 ((h.1 g'1).1 g'2))) (fun g'2=>ex_ (w81_3 hQ H0 ((h.1 g'1).2 g'2)))))))))) (fun g'1=>gn_ (b:=false) rfl rfl (gn_ (b:=false) rfl rfl (pf_ rfl rfl (e_ (cf_ rfl (ex_ (w81_3 hQ H0 (h.2 g'1)))))))))))))))
theorem w81_0 {l0:List (List UInt8)}{o_l0:Own}(H0:σ 0 = .sl o_l0 (List.map rowS l0))(h:T81_0 prog K l0):W prog d (.seq (.reg 0 r81_0) (.seq (.seq (.reg 1 r81_1) (.block 0 (.loop l81_0))) c81_2)) σ st Q:=
 q_ rfl (m_ (e_ (sq_ (q_ rfl (m_ (e_ (bk_ (h (I81_0 prog d Q l0) (fun _ hb _ _ _ H0 H3=>W.loop (w81_1 hQ (fun _ x=>x) H0 H3 hb)) _ _ _ H0 rfl))))))))
end
theorem p81 {prog:Prog}(hf:prog.fn 81 = some pf81){l0:List (List UInt8)}{K:Bool→Prop}(h:T81_0 prog K l0) :∃res0:Bool,K res0∧Pus prog 81 [.sl .ext (List.map rowS l0)] (.b res0):=by
  obtain ⟨v,hv,res0,hk,rfl⟩:=Pus.of (K:=fun v=>∃res0:Bool,K res0∧v = .b res0) hf rfl (w81_0 (σ:=sl0 [.sl .ext (List.map rowS l0)]) (fun σ st   res0 H2 hk=>⟨.b res0,by simp only [pf81,ares,aresL,H2,ares1,Option.map_some],_,rfl,res0,hk,rfl⟩) rfl h)
  exact ⟨res0,hk,hv⟩
def r79_0:List AI:=[oO 1 (.box 3 (.t 0)),
 oC 2 (.b false)]
def r79_1:List AI:=[oC 3 (.i .i64 0)]
def r79_2:List AI:=[oM 6 3,
 oF 7 2 1,
 oL 8 7,
 oO 9 (.len false (.t 8)),
 oB 10 .lss (.t 6) (.t 9),
 oM 11 10,
 oG 12 (.mv (.t 3)) 11 true,
 oG 13 (.bin .leq (.t 12) (.c (.i .i64 40))) 11 true,
 oO 14 (.pick (.t 11) (.t 13) (.c (.b false)))]
def r79_3:List AI:=[oF 17 2 1,
 oL 18 17,
 oM 19 3,
 oO 20 (.iaL 7 (.t 18) (.t 19)),
 oO 21 (.load 7 true (.t 20)),
 oO 4 (.alloc [.s [],.i .i64 0,.i .i64 0,.sl .full [],.sl .full [],.sl .full [],.sl .full []]),
 oS 7 4 21]
def r79_4:List AI:=[oF 22 0 4,
 oL 23 22,
 oO 24 (.len true (.t 23)),
 oB 25 .gtr (.t 24) (.c (.i .i64 40)),
 oM 26 25,
 oG 27 (.fad 3 (.t 4)) 26 false,
 oG 28 (.load 1 false (.t 27)) 26 false,
 oG 29 (.len false (.t 28)) 26 false,
 oG 30 (.bin .gtr (.t 29) (.c (.i .i64 30))) 26 false,
 oO 31 (.pick (.t 26) (.c (.b true)) (.t 30)),
 oM 32 31,
 oG 33 (.fad 4 (.t 4)) 32 false,
 oG 34 (.load 1 false (.t 33)) 32 false,
 oG 35 (.len false (.t 34)) 32 false,
 oG 36 (.bin .gtr (.t 35) (.c (.i .i64 300))) 32 false,
 oO 37 (.pick (.t 32) (.c (.b true)) (.t 36))]
def r79_5:List AI:=[oC 2 (.b true)]
def r79_6:List AI:=[oC 5 (.i .i64 0)]
def r79_7:List AI:=[oM 38 5,
 oF 39 3 4,
 oL 40 39,
 oO 41 (.len false (.t 40)),
 oB 42 .lss (.t 38) (.t 41)]
def r79_8:List AI:=[oF 45 3 4,
 oL 46 45,
 oM 47 5,
 oO 48 (.iaL 2 (.t 46) (.t 47)),
 oF 49 0 48,
 oL 50 49,
 oO 51 (.len true (.t 50)),
 oB 52 .gtr (.t 51) (.c (.i .i64 40))]
def r79_9:List AI:=[oC 2 (.b true)]
def r79_10:List AI:=[oM 43 5,
 oB 44 .add (.t 43) (.c (.i .i64 1)),
 oM 5 44]
def r79_11:List AI:=[oM 15 3,
 oB 16 .add (.t 15) (.c (.i .i64 1)),
 oM 3 16]
def r79_12:List AI:=[oF 53 2 1,
 oL 54 53,
 oO 55 (.len false (.t 54)),
 oB 56 .gtr (.t 55) (.c (.i .i64 40)),
 oM 2 56]
abbrev l79_1:AC:=(.seq (.seq (.reg 8 r79_7) (.cond (.t 42) .skip (.exit 2))) (.seq (.block 3 (.seq (.reg 10 r79_8) (.cond (.t 52) (.seq (.reg 11 r79_9) .ret) .skip))) (.reg 9 r79_10)))
abbrev c79_1:AC:=(.seq (.reg 7 r79_6) (.block 2 (.loop l79_1)))
abbrev c79_2:AC:=(.reg 3 r79_11)
abbrev c79_3:AC:=(.seq (.block 1 (.seq (.reg 4 r79_3) (.seq (.seq (.reg 5 r79_4) (.cond (.t 37) (.seq (.reg 6 r79_5) .ret) .skip)) c79_1))) c79_2)
abbrev l79_0:AC:=(.seq (.seq (.reg 2 r79_2) (.cond (.t 14) .skip (.exit 0))) c79_3)
abbrev c79_5:AC:=(.seq (.reg 12 r79_12) .ret)
abbrev b79:AC:=(.seq (.reg 0 r79_0) (.seq (.seq (.reg 1 r79_1) (.block 0 (.loop l79_0))) c79_5))
def pf79:AF:={ nt:=57,res:=[.tmp 2],body:=b79 }
abbrev H79 (Q:AE→Sl→St→Prop)(K:Bool→Prop):Prop:=∀(σ:Sl)(st:St)(res0:Bool),σ 2 = .b res0→K res0→Q .ret σ st
abbrev I79_0 (prog:Prog)(d:Nat)(Q:AE→Sl→St→Prop)(i3:Int)(m0:Img):Prop:=
  ∀(σ:Sl)(st:St)(v0:Nat),σ 1 = .p (d,0) v0 0→σ 3 = .i .i64 i3→lk st.bx (d,0) = some (v0,[.sl .ext (List.map Typ.row m0.types),.sl .ext (List.map rowS m0.texts),.sl .ext (List.map Fun.row m0.funcs)])→W prog d (.loop l79_0) σ st (blockW 0 (thenW prog d c79_5 Q))
abbrev I79_1 (prog:Prog)(d:Nat)(Q:AE→Sl→St→Prop)(i3:Int)(k5:Int)(m0:Img)(m16389:Fun):Prop:=
  ∀(σ:Sl)(st:St) (v0 v16389:Nat),σ 1 = .p (d,0) v0 0→σ 3 = .i .i64 i3→σ 4 = .p (d,16389) v16389 0→σ 5 = .i .i64 k5→lk st.bx (d,0) = some (v0,[.sl .ext (List.map Typ.row m0.types),.sl .ext (List.map rowS m0.texts),.sl .ext (List.map Fun.row m0.funcs)])→lk st.bx (d,16389) = some (v16389,[.s m16389.name,.i .i64 m16389.params,.i .i64 m16389.result,.sl .ext (List.map Fld.row m16389.slots),.sl .ext (List.map Ins.row m16389.code),.sl .ext (List.map Rnn.row m16389.sizes),.sl .ext (List.map Rnn.row m16389.lives)])→W prog d (.loop l79_1) σ st (blockW 2 (blockW 1 (thenW prog d c79_2 (thenW prog d (.loop l79_0) (blockW 0 (thenW prog d c79_5 Q))))))
def T79_5 (prog:Prog)(K:Bool→Prop)(P0:Int→Img→Prop)(i3:Int)(m0:Img):Prop:=
  P0 (IntKind.i64.wrap (i3 + 1)) m0
def T79_4 (prog:Prog)(K:Bool→Prop)(P1:Int→Img→Fun→Prop)(P0:Int→Img→Prop)(i3:Int)(k5:Int)(m0:Img)(m16389:Fun):Prop:=
  (k5 < (m16389.slots.length:Int)→0≤k5∧∃c'2:Fld,m16389.slots[(k5).toNat]? = some c'2∧((c'2.name.length:Int) > 40→K true)∧(¬((c'2.name.length:Int) > 40)→P1 (IntKind.i64.wrap (k5 + 1)) m0 m16389))∧(¬(k5 < (m16389.slots.length:Int))→T79_5 prog K P0 i3 m0)
def T79_3 (prog:Prog)(K:Bool→Prop)(P0:Int→Img→Prop)(i3:Int)(m0:Img)(m16389:Fun):Prop:=
  ∀P1:Int→Img→Fun→Prop,(∀(k5:Int)(m0:Img)(m16389:Fun),T79_4 prog K P1 P0 i3 k5 m0 m16389→P1 k5 m0 m16389)→P1 0 m0 m16389
def T79_2 (prog:Prog)(K:Bool→Prop)(P0:Int→Img→Prop)(i3:Int)(m0:Img):Prop:=
  0≤i3∧∃c'1:Fun,m0.funcs[(i3).toNat]? = some c'1∧((c'1.name.length:Int) > 40→K true)∧(¬((c'1.name.length:Int) > 40)→((c'1.slots.length:Int) > 30→K true)∧(¬((c'1.slots.length:Int) > 30)→((c'1.code.length:Int) > 300→K true)∧(¬((c'1.code.length:Int) > 300)→T79_3 prog K P0 i3 m0 c'1)))
def T79_6 (prog:Prog)(K:Bool→Prop)(m0:Img):Prop:=
  K (decide ((m0.funcs.length:Int) > 40))
def T79_1 (prog:Prog)(K:Bool→Prop)(P0:Int→Img→Prop)(i3:Int)(m0:Img):Prop:=
  (i3 < (m0.funcs.length:Int)→(i3≤40→T79_2 prog K P0 i3 m0)∧(¬(i3≤40)→T79_6 prog K m0))∧(¬(i3 < (m0.funcs.length:Int))→T79_6 prog K m0)
def T79_0 (prog:Prog)(K:Bool→Prop)(m0:Img):Prop:=
  ∀P0:Int→Img→Prop,(∀(i3:Int)(m0:Img),T79_1 prog K P0 i3 m0→P0 i3 m0)→P0 0 m0
section
variable {prog:Prog}{d:Nat}{Q:AE→Sl→St→Prop}{K:Bool→Prop}(hQ:H79 Q K){σ:Sl}{st:St}
include hQ
theorem w79_5 {i3:Int}{m0:Img}{P0:Int→Img→Prop} (kP0 :∀(i3:Int)(m0:Img),P0 i3 m0→I79_0 prog d Q i3 m0){v0:Nat}(H1:σ 1 = .p (d,0) v0 0)(H3:σ 3 = .i .i64 i3)(B0:lk st.bx (d,0) = some (v0,[.sl .ext (List.map Typ.row m0.types),.sl .ext (List.map rowS m0.texts),.sl .ext (List.map Fun.row m0.funcs)]))(h:T79_5 prog K P0 i3 m0):W prog d c79_2 σ st (thenW prog d (.loop l79_0) (blockW 0 (thenW prog d c79_5 Q))):=
 W.reg0 rfl fun _ _=>m_ (b_ H3 rfl add_ (m_ (e_ (kP0 _ _ h _ _ _ H1 rfl B0))))
theorem w79_4 {i3 k5:Int}{m0:Img}{m16389:Fun}{P1:Int→Img→Fun→Prop}{P0:Int→Img→Prop} (kP1 :∀(k5:Int)(m0:Img)(m16389:Fun),P1 k5 m0 m16389→I79_1 prog d Q i3 k5 m0 m16389) (kP0 :∀(i3:Int)(m0:Img),P0 i3 m0→I79_0 prog d Q i3 m0){v0:Nat}{v16389:Nat}(H1:σ 1 = .p (d,0) v0 0)(H3:σ 3 = .i .i64 i3)(H4:σ 4 = .p (d,16389) v16389 0)(H5:σ 5 = .i .i64 k5)(B0:lk st.bx (d,0) = some (v0,[.sl .ext (List.map Typ.row m0.types),.sl .ext (List.map rowS m0.texts),.sl .ext (List.map Fun.row m0.funcs)]))(B16389:lk st.bx (d,16389) = some (v16389,[.s m16389.name,.i .i64 m16389.params,.i .i64 m16389.result,.sl .ext (List.map Fld.row m16389.slots),.sl .ext (List.map Ins.row m16389.code),.sl .ext (List.map Rnn.row m16389.sizes),.sl .ext (List.map Rnn.row m16389.lives)]))(h:T79_4 prog K P1 P0 i3 k5 m0 m16389):W prog d l79_1 σ st (thenW prog d (.loop l79_1) (blockW 2 (blockW 1 (thenW prog d c79_2 (thenW prog d (.loop l79_0) (blockW 0 (thenW prog d c79_5 Q))))))):=
 sq_ (q_ rfl (m_ (f_ H4 (l_ rfl B16389 rfl rfl (ll_ rfl (b_ H5 rfl lss_ (e_ (cs_ rfl (fun g'1=>sk_ (sq_ (bk_ (q_ rfl (f_ H4 (l_ rfl B16389 rfl rfl (m_ ((h.1 g'1).2.elim fun c'2 e'3=>ia_ rfl H5 (h.1 g'1).1 e'3.1 (Fld.row_eq c'2) rfl (ff_ rfl (lf_ rfl rfl rfl (ln_ rfl (b_ rfl rfl gtr_ (e_ (cs_ rfl (fun g'4=>q_ rfl (m_ (e_ (rt_ (hQ _ _ _ rfl (e'3.2.1 g'4)))))) (fun g'4=>sk_ (W.reg0 rfl fun _ _=>m_ (b_ H5 rfl add_ (m_ (e_ (kP1 _ _ _ (e'3.2.2 g'4) _ _ _ _ H1 H3 H4 rfl B0 B16389)))))))))))))))))))) (fun g'1=>ex_ (w79_5 hQ kP0 H1 H3 B0 (h.2 g'1)))))))))))
theorem w79_3 {i3:Int}{m0:Img}{m16389:Fun}{P0:Int→Img→Prop} (kP0 :∀(i3:Int)(m0:Img),P0 i3 m0→I79_0 prog d Q i3 m0){v0:Nat}{v16389:Nat}(H1:σ 1 = .p (d,0) v0 0)(H3:σ 3 = .i .i64 i3)(H4:σ 4 = .p (d,16389) v16389 0)(B0:lk st.bx (d,0) = some (v0,[.sl .ext (List.map Typ.row m0.types),.sl .ext (List.map rowS m0.texts),.sl .ext (List.map Fun.row m0.funcs)]))(B16389:lk st.bx (d,16389) = some (v16389,[.s m16389.name,.i .i64 m16389.params,.i .i64 m16389.result,.sl .ext (List.map Fld.row m16389.slots),.sl .ext (List.map Ins.row m16389.code),.sl .ext (List.map Rnn.row m16389.sizes),.sl .ext (List.map Rnn.row m16389.lives)]))(h:T79_3 prog K P0 i3 m0 m16389):W prog d c79_1 σ st (blockW 1 (thenW prog d c79_2 (thenW prog d (.loop l79_0) (blockW 0 (thenW prog d c79_5 Q))))):=
 q_ rfl (m_ (e_ (bk_ (h (I79_1 prog d Q i3) (fun _ _ _ hb _ _ _ _ H1 H3 H4 H5 B0 B16389=>W.loop (w79_4 hQ (fun _ _ _ x=>x) kP0 H1 H3 H4 H5 B0 B16389 hb)) _ _ _ _ H1 H3 H4 rfl B0 B16389))))
theorem w79_2 {i3:Int}{m0:Img}{P0:Int→Img→Prop} (kP0 :∀(i3:Int)(m0:Img),P0 i3 m0→I79_0 prog d Q i3 m0){v0:Nat}(H1:σ 1 = .p (d,0) v0 0)(H3:σ 3 = .i .i64 i3)(B0:lk st.bx (d,0) = some (v0,[.sl .ext (List.map Typ.row m0.types),.sl .ext (List.map rowS m0.texts),.sl .ext (List.map Fun.row m0.funcs)]))(h:T79_2 prog K P0 i3 m0):W prog d c79_3 σ st (thenW prog d (.loop l79_0) (blockW 0 (thenW prog d c79_5 Q))):=
 sq_ (bk_ (sq_ (W.reg (f_ H1 (l_ rfl (lk_other rfl B0) rfl rfl (m_ (h.2.elim fun c'1 e'2=>ia_ rfl H3 h.1 e'2.1 (Fun.row_eq c'1) rfl (lf_ rfl rfl rfl (s_alloc (so_ rfl (show lk _ (d,16389) = some (_,([.s [],.i .i64 0,.i .i64 0,.sl .full (List.map Fld.row ([]:List Fld)),.sl .full (List.map Ins.row ([]:List Ins)),.sl .full (List.map Rnn.row ([]:List Rnn)),.sl .full (List.map Rnn.row ([]:List Rnn))]:List AV)) from lk_here) rfl rfl rfl (e_ (sq_ (q_ rfl (f_ rfl (l_ rfl lk_here rfl rfl (ln_ rfl (b_ rfl rfl gtr_ (s_mvB rfl (em_ (g:=26) rfl (fun g'3=>gn_ (b:=true) rfl rfl (gn_ (b:=true) rfl rfl (gn_ (b:=true) rfl rfl (gn_ (b:=true) rfl rfl (pt_ rfl rfl (s_mvB rfl (gn_ (b:=true) rfl rfl (gn_ (b:=true) rfl rfl (gn_ (b:=true) rfl rfl (gn_ (b:=true) rfl rfl (pt_ rfl rfl (e_ (ct_ rfl (q_ rfl (m_ (e_ (rt_ (hQ _ _ _ rfl (e'2.2.1 g'3))))))))))))))))))) (fun g'3=>gy_ rfl (f_ rfl (gy_ rfl (l_ rfl lk_here rfl rfl (gy_ rfl (ll_ rfl (gy_ rfl (b_ rfl rfl gtr_ (pf_ rfl rfl (s_mvB rfl (em_ (g:=32) rfl (fun g'4=>gn_ (b:=true) rfl rfl (gn_ (b:=true) rfl rfl (gn_ (b:=true) rfl rfl (gn_ (b:=true) rfl rfl (pt_ rfl rfl (e_ (ct_ rfl (q_ rfl (m_ (e_ (rt_ (hQ _ _ _ rfl ((e'2.2.2 g'3).1 g'4))))))))))))) (fun g'4=>gy_ rfl (f_ rfl (gy_ rfl (l_ rfl lk_here rfl rfl (gy_ rfl (ll_ rfl (gy_ rfl (b_ rfl rfl gtr_ (pf_ rfl rfl (e_ (cs_ rfl (fun g'5=>q_ rfl (m_ (e_ (rt_ (hQ _ _ _ rfl (((e'2.2.2 g'3).2 g'4).1 g'5)))))) (fun g'5=>sk_ (w79_3 hQ kP0 H1 H3 rfl (lk_other rfl (lk_other rfl B0)) lk_here (((e'2.2.2 g'3).2 g'4).2 g'5))))))))))))))))))))))))))))))))))))))))))))
theorem w79_6 {m0:Img}{v0:Nat}(H1:σ 1 = .p (d,0) v0 0)(B0:lk st.bx (d,0) = some (v0,[.sl .ext (List.map Typ.row m0.types),.sl .ext (List.map rowS m0.texts),.sl .ext (List.map Fun.row m0.funcs)]))(h:T79_6 prog K m0):W prog d c79_5 σ st Q:=
 q_ rfl (f_ H1 (l_ rfl B0 rfl rfl (ll_ rfl (b_ rfl rfl gtr_ (m_ (e_ (rt_ (hQ _ _ _ rfl h))))))))
theorem w79_1 {i3:Int}{m0:Img}{P0:Int→Img→Prop} (kP0 :∀(i3:Int)(m0:Img),P0 i3 m0→I79_0 prog d Q i3 m0){v0:Nat}(H1:σ 1 = .p (d,0) v0 0)(H3:σ 3 = .i .i64 i3)(B0:lk st.bx (d,0) = some (v0,[.sl .ext (List.map Typ.row m0.types),.sl .ext (List.map rowS m0.texts),.sl .ext (List.map Fun.row m0.funcs)]))(h:T79_1 prog K P0 i3 m0):W prog d l79_0 σ st (thenW prog d (.loop l79_0) (blockW 0 (thenW prog d c79_5 Q))):=
 sq_ (q_ rfl (s_mvI H3 (f_ H1 (l_ rfl B0 rfl rfl (ll_ rfl (b_ rfl rfl lss_ (s_mvB rfl (em_ (g:=11) rfl (fun g'1=>gy_ rfl (s_mvI H3 (gy_ rfl (b_ rfl rfl leq_ (pt_ rfl rfl (e_ (cs_ rfl (fun g'2=>sk_ (w79_2 hQ kP0 H1 H3 B0 ((h.1 g'1).1 g'2))) (fun g'2=>ex_ (w79_6 hQ H1 B0 ((h.1 g'1).2 g'2)))))))))) (fun g'1=>gn_ (b:=false) rfl rfl (gn_ (b:=false) rfl rfl (pf_ rfl rfl (e_ (cf_ rfl (ex_ (w79_6 hQ H1 B0 (h.2 g'1))))))))))))))))
theorem w79_0 {m0:Img}(H0:σ 0 = m0.av)(h:T79_0 prog K m0):W prog d (.seq (.reg 0 r79_0) (.seq (.seq (.reg 1 r79_1) (.block 0 (.loop l79_0))) c79_5)) σ st Q:=
 q_ rfl (s_box H0 rfl (m_ (e_ (sq_ (q_ rfl (m_ (e_ (bk_ (h (I79_0 prog d Q ) (fun _ _ hb _ _ _ H1 H3 B0=>W.loop (w79_1 hQ (fun _ _ x=>x) H1 H3 B0 hb)) _ _ _ rfl rfl lk_here)))))))))
end
theorem p79 {prog:Prog}(hf:prog.fn 79 = some pf79){m0:Img}{K:Bool→Prop}(h:T79_0 prog K m0) :∃res0:Bool,K res0∧Pus prog 79 [m0.av] (.b res0):=by
  obtain ⟨v,hv,res0,hk,rfl⟩:=Pus.of (K:=fun v=>∃res0:Bool,K res0∧v = .b res0) hf rfl (w79_0 (σ:=sl0 [m0.av]) (fun σ st   res0 H2 hk=>⟨.b res0,by simp only [pf79,ares,aresL,H2,ares1,Option.map_some],_,rfl,res0,hk,rfl⟩) rfl h)
  exact ⟨res0,hk,hv⟩
def r80_0:List AI:=[oO 1 (.box 4 (.t 0)),
 oC 2 (.b false)]
def r80_1:List AI:=[oC 3 (.i .i64 0)]
def r80_2:List AI:=[oM 4 3,
 oF 5 3 1,
 oL 6 5,
 oO 7 (.len false (.t 6)),
 oB 8 .lss (.t 4) (.t 7),
 oM 9 8,
 oG 10 (.mv (.t 3)) 9 true,
 oG 11 (.bin .leq (.t 10) (.c (.i .i64 20))) 9 true,
 oO 12 (.pick (.t 9) (.t 11) (.c (.b false)))]
def r80_3:List AI:=[oF 15 3 1,
 oL 16 15,
 oM 17 3,
 oO 18 (.iaL 6 (.t 16) (.t 17)),
 oF 19 1 18,
 oO 20 (.load 5 true (.t 19)),
 oO 21 (.call false 71 [(.t 20)])]
def r80_4:List AI:=[oC 2 (.b true)]
def r80_5:List AI:=[oM 13 3,
 oB 14 .add (.t 13) (.c (.i .i64 1)),
 oM 3 14]
def r80_6:List AI:=[oF 22 3 1,
 oL 23 22,
 oO 24 (.len false (.t 23)),
 oB 25 .gtr (.t 24) (.c (.i .i64 20)),
 oM 2 25]
abbrev c80_0:AC:=(.seq (.block 1 (.seq (.reg 4 r80_3) (.cond (.t 21) (.seq (.reg 5 r80_4) .ret) .skip))) (.reg 3 r80_5))
abbrev l80_0:AC:=(.seq (.seq (.reg 2 r80_2) (.cond (.t 12) .skip (.exit 0))) c80_0)
abbrev c80_2:AC:=(.seq (.reg 6 r80_6) .ret)
abbrev b80:AC:=(.seq (.reg 0 r80_0) (.seq (.seq (.reg 1 r80_1) (.block 0 (.loop l80_0))) c80_2))
def pf80:AF:={ nt:=26,res:=[.tmp 2],body:=b80 }
abbrev H80 (Q:AE→Sl→St→Prop)(K:Bool→Prop):Prop:=∀(σ:Sl)(st:St)(res0:Bool),σ 2 = .b res0→K res0→Q .ret σ st
abbrev I80_0 (prog:Prog)(d:Nat)(Q:AE→Sl→St→Prop)(i3:Int)(m0:Frm):Prop:=
  ∀(σ:Sl)(st:St)(v0:Nat),σ 1 = .p (d,0) v0 0→σ 3 = .i .i64 i3→lk st.bx (d,0) = some (v0,[.i .i64 m0.func,.i .i64 m0.pos,.i .u64 m0.mode,.sl .ext (List.map Loc.row m0.locals)])→W prog d (.loop l80_0) σ st (blockW 0 (thenW prog d c80_2 Q))
def T80_2 (prog:Prog)(K:Bool→Prop)(P0:Int→Frm→Prop)(i3:Int)(m0:Frm):Prop:=
  0≤i3∧∃c'1:Loc,m0.locals[(i3).toNat]? = some c'1∧∃r'3:Bool,Pus prog 71 [c'1.value.av] (.b r'3)∧(r'3 = true→K true)∧(r'3 = false→P0 (IntKind.i64.wrap (i3 + 1)) m0)
def T80_3 (prog:Prog)(K:Bool→Prop)(m0:Frm):Prop:=
  K (decide ((m0.locals.length:Int) > 20))
def T80_1 (prog:Prog)(K:Bool→Prop)(P0:Int→Frm→Prop)(i3:Int)(m0:Frm):Prop:=
  (i3 < (m0.locals.length:Int)→(i3≤20→T80_2 prog K P0 i3 m0)∧(¬(i3≤20)→T80_3 prog K m0))∧(¬(i3 < (m0.locals.length:Int))→T80_3 prog K m0)
def T80_0 (prog:Prog)(K:Bool→Prop)(x0:Frm):Prop:=
  ∀P0:Int→Frm→Prop,(∀(i3:Int)(m0:Frm),T80_1 prog K P0 i3 m0→P0 i3 m0)→P0 0 x0
section
variable {prog:Prog}{d:Nat}{Q:AE→Sl→St→Prop}{K:Bool→Prop}(hQ:H80 Q K){σ:Sl}{st:St}
include hQ
theorem w80_2 {i3:Int}{m0:Frm}{P0:Int→Frm→Prop} (kP0 :∀(i3:Int)(m0:Frm),P0 i3 m0→I80_0 prog d Q i3 m0){v0:Nat}(H1:σ 1 = .p (d,0) v0 0)(H3:σ 3 = .i .i64 i3)(B0:lk st.bx (d,0) = some (v0,[.i .i64 m0.func,.i .i64 m0.pos,.i .u64 m0.mode,.sl .ext (List.map Loc.row m0.locals)]))(h:T80_2 prog K P0 i3 m0):W prog d c80_0 σ st (thenW prog d (.loop l80_0) (blockW 0 (thenW prog d c80_2 Q))):=
 sq_ (bk_ (q_ rfl (f_ H1 (l_ rfl B0 rfl rfl (m_ (h.2.elim fun c'1 e'2=>ia_ rfl H3 h.1 e'2.1 (Loc.row_eq c'1) rfl (ff_ rfl (lf_ rfl rfl rfl (e'2.2.elim fun r'3 e'4=>ca_ (sc rfl rfl sn) e'4.1 (e_ (cb_ rfl (fun g'5=>q_ rfl (m_ (e_ (rt_ (hQ _ _ _ rfl (e'4.2.1 g'5)))))) (fun g'5=>sk_ (W.reg0 rfl fun _ _=>m_ (b_ H3 rfl add_ (m_ (e_ (kP0 _ _ (e'4.2.2 g'5) _ _ _ H1 rfl B0)))))))))))))))))
theorem w80_3 {m0:Frm}{v0:Nat}(H1:σ 1 = .p (d,0) v0 0)(B0:lk st.bx (d,0) = some (v0,[.i .i64 m0.func,.i .i64 m0.pos,.i .u64 m0.mode,.sl .ext (List.map Loc.row m0.locals)]))(h:T80_3 prog K m0):W prog d c80_2 σ st Q:=
 q_ rfl (f_ H1 (l_ rfl B0 rfl rfl (ll_ rfl (b_ rfl rfl gtr_ (m_ (e_ (rt_ (hQ _ _ _ rfl h))))))))
theorem w80_1 {i3:Int}{m0:Frm}{P0:Int→Frm→Prop} (kP0 :∀(i3:Int)(m0:Frm),P0 i3 m0→I80_0 prog d Q i3 m0){v0:Nat}(H1:σ 1 = .p (d,0) v0 0)(H3:σ 3 = .i .i64 i3)(B0:lk st.bx (d,0) = some (v0,[.i .i64 m0.func,.i .i64 m0.pos,.i .u64 m0.mode,.sl .ext (List.map Loc.row m0.locals)]))(h:T80_1 prog K P0 i3 m0):W prog d l80_0 σ st (thenW prog d (.loop l80_0) (blockW 0 (thenW prog d c80_2 Q))):=
 sq_ (q_ rfl (s_mvI H3 (f_ H1 (l_ rfl B0 rfl rfl (ll_ rfl (b_ rfl rfl lss_ (s_mvB rfl (em_ (g:=9) rfl (fun g'1=>gy_ rfl (s_mvI H3 (gy_ rfl (b_ rfl rfl leq_ (pt_ rfl rfl (e_ (cs_ rfl (fun g'2=>sk_ (w80_2 hQ kP0 H1 H3 B0 ((h.1 g'1).1 g'2))) (fun g'2=>ex_ (w80_3 hQ H1 B0 ((h.1 g'1).2 g'2)))))))))) (fun g'1=>gn_ (b:=false) rfl rfl (gn_ (b:=false) rfl rfl (pf_ rfl rfl (e_ (cf_ rfl (ex_ (w80_3 hQ H1 B0 (h.2 g'1))))))))))))))))
theorem w80_0 {x0:Frm}(H0:σ 0 = x0.av)(h:T80_0 prog K x0):W prog d (.seq (.reg 0 r80_0) (.seq (.seq (.reg 1 r80_1) (.block 0 (.loop l80_0))) c80_2)) σ st Q:=
 q_ rfl (s_box H0 rfl (m_ (e_ (sq_ (q_ rfl (m_ (e_ (bk_ (h (I80_0 prog d Q ) (fun _ _ hb _ _ _ H1 H3 B0=>W.loop (w80_1 hQ (fun _ _ x=>x) H1 H3 B0 hb)) _ _ _ rfl rfl lk_here)))))))))
end
theorem p80 {prog:Prog}(hf:prog.fn 80 = some pf80){x0:Frm}{K:Bool→Prop}(h:T80_0 prog K x0) :∃res0:Bool,K res0∧Pus prog 80 [x0.av] (.b res0):=by
  obtain ⟨v,hv,res0,hk,rfl⟩:=Pus.of (K:=fun v=>∃res0:Bool,K res0∧v = .b res0) hf rfl (w80_0 (σ:=sl0 [x0.av]) (fun σ st   res0 H2 hk=>⟨.b res0,by simp only [pf80,ares,aresL,H2,ares1,Option.map_some],_,rfl,res0,hk,rfl⟩) rfl h)
  exact ⟨res0,hk,hv⟩
def r83_0:List AI:=[oO 3 (.box 3 (.t 0)),
 oO 5 (.box 4 (.t 2)),
 oC 6 (.sl .full []),
 oC 7 (.i .i64 0)]
def r83_1:List AI:=[oM 9 1,
 oB 10 .lss (.t 9) (.c (.i .i64 0)),
 oM 11 10,
 oG 12 (.mv (.t 1)) 11 false,
 oG 13 (.bin .geq (.t 12) (.c (.i .i64 170))) 11 false,
 oO 14 (.pick (.t 11) (.c (.b true)) (.t 13))]
def r83_2:List AI:=[oC 6 (.sl .full []),
 oC 7 (.i .i64 2)]
def r83_3:List AI:=[oO 15 (.load 3 true (.t 3)),
 oO 16 (.load 4 true (.t 5)),
 oO 17 (.call false 87 [(.t 15),(.t 16)]),
 oM 8 17]
def r83_4:List AI:=[oM 18 8,
 oB 19 .neq (.t 18) (.c (.i .i64 0))]
def r83_5:List AI:=[oM 20 8,
 oC 6 (.sl .full []),
 oM 7 20]
def r83_6:List AI:=[oO 21 (.load 3 true (.t 3)),
 oM 22 1,
 oO 23 (.load 4 true (.t 5)),
 oO 24 (.call false 114 [(.t 21),(.t 22),(.t 23)]),
 oM 6 24,
 oC 7 (.i .i64 0)]
abbrev c83_0:AC:=(.seq (.seq (.reg 3 r83_3) (.seq (.reg 4 r83_4) (.cond (.t 19) (.seq (.reg 5 r83_5) .ret) .skip))) (.seq (.reg 6 r83_6) .ret))
abbrev b83:AC:=(.seq (.reg 0 r83_0) (.seq (.seq (.reg 1 r83_1) (.cond (.t 14) (.seq (.reg 2 r83_2) .ret) .skip)) c83_0))
def pf83:AF:={ nt:=25,res:=[.tmp 6,.tmp 7],body:=b83 }
abbrev H83 (Q:AE→Sl→St→Prop)(K:List (List UInt8)→Int→Prop):Prop:=∀(σ:Sl)(st:St)(o0:Own)(res0:List (List UInt8))(res1:Int),σ 6 = .sl o0 (List.map rowS res0)→σ 7 = .i .i64 res1→K res0 res1→Q .ret σ st
def T83_1 (prog:Prog)(K:List (List UInt8)→Int→Prop)(k1:Int)(m0:Img)(m1:Frm):Prop:=
  ∃r'1:Int,Pus prog 87 [m0.av,m1.av] (.i .i64 r'1)∧(r'1≠0→K ([]:List (List UInt8)) r'1)∧(¬(r'1≠0)→∃r'4:List (List UInt8),Pus prog 114 [m0.av,.i .i64 k1,m1.av] (.sl .ext (List.map rowS r'4))∧K r'4 0)
def T83_0 (prog:Prog)(K:List (List UInt8)→Int→Prop)(m0:Img)(k1:Int)(x2:Frm):Prop:=
  (k1 < 0→K ([]:List (List UInt8)) 2)∧(¬(k1 < 0)→(k1 ≥ 170→K ([]:List (List UInt8)) 2)∧(¬(k1 ≥ 170)→T83_1 prog K k1 m0 x2))
section
variable {prog:Prog}{d:Nat}{Q:AE→Sl→St→Prop}{K:List (List UInt8)→Int→Prop}(hQ:H83 Q K){σ:Sl}{st:St}
include hQ
theorem w83_1 {k1:Int}{m0:Img}{m1:Frm}{v0:Nat}{v1:Nat}(H1:σ 1 = .i .i64 k1)(H3:σ 3 = .p (d,0) v0 0)(H5:σ 5 = .p (d,1) v1 0)(B0:lk st.bx (d,0) = some (v0,[.sl .ext (List.map Typ.row m0.types),.sl .ext (List.map rowS m0.texts),.sl .ext (List.map Fun.row m0.funcs)]))(B1:lk st.bx (d,1) = some (v1,[.i .i64 m1.func,.i .i64 m1.pos,.i .u64 m1.mode,.sl .ext (List.map Loc.row m1.locals)]))(h:T83_1 prog K k1 m0 m1):W prog d c83_0 σ st Q:=
 sq_ (q_ rfl (l_ H3 B0 rfl rfl (l_ H5 B1 rfl rfl (h.elim fun r'1 e'2=>ca_ (sc rfl rfl (sc rfl rfl sn)) e'2.1 (m_ (e_ (q_ rfl (m_ (b_ rfl rfl neq_ (e_ (cs_ rfl (fun g'3=>q_ rfl (m_ (s_mvL (f:=rowS) (l:=[]) rfl (m_ (e_ (rt_ (hQ _ _ _ _ _ rfl rfl (e'2.2.1 g'3)))))))) (fun g'3=>sk_ (q_ rfl (l_ H3 B0 rfl rfl (m_ (l_ H5 B1 rfl rfl ((e'2.2.2 g'3).elim fun r'4 e'5=>ca_ (sc rfl rfl (sc H1 rfl (sc rfl rfl sn))) e'5.1 (s_mvL rfl (m_ (e_ (rt_ (hQ _ _ _ _ _ rfl rfl e'5.2))))))))))))))))))))))
theorem w83_0 {m0:Img}{k1:Int}{x2:Frm}(H0:σ 0 = m0.av)(H1:σ 1 = .i .i64 k1)(H2:σ 2 = x2.av)(h:T83_0 prog K m0 k1 x2):W prog d (.seq (.reg 0 r83_0) (.seq (.seq (.reg 1 r83_1) (.cond (.t 14) (.seq (.reg 2 r83_2) .ret) .skip)) c83_0)) σ st Q:=
 q_ rfl (s_box H0 rfl (s_box H2 rfl (s_mvL (f:=rowS) (l:=[]) rfl (m_ (e_ (sq_ (q_ rfl (s_mvI H1 (b_ rfl rfl lss_ (s_mvB rfl (em_ (g:=11) rfl (fun g'1=>gn_ (b:=true) rfl rfl (gn_ (b:=true) rfl rfl (pt_ rfl rfl (e_ (ct_ rfl (q_ rfl (s_mvL (f:=rowS) (l:=[]) rfl (m_ (e_ (rt_ (hQ _ _ _ _ _ rfl rfl (h.1 g'1)))))))))))) (fun g'1=>gy_ rfl (s_mvI H1 (gy_ rfl (b_ rfl rfl geq_ (pf_ rfl rfl (e_ (cs_ rfl (fun g'2=>q_ rfl (s_mvL (f:=rowS) (l:=[]) rfl (m_ (e_ (rt_ (hQ _ _ _ _ _ rfl rfl ((h.2 g'1).1 g'2))))))) (fun g'2=>sk_ (w83_1 hQ H1 rfl rfl (lk_other rfl lk_here) lk_here ((h.2 g'1).2 g'2)))))))))))))))))))))
end
theorem p83 {prog:Prog}(hf:prog.fn 83 = some pf83){m0:Img}{k1:Int}{x2:Frm}{K:List (List UInt8)→Int→Prop}(h:T83_0 prog K m0 k1 x2) :∃res0:List (List UInt8),∃res1:Int,K res0 res1∧Pus prog 83 [m0.av,.i .i64 k1,x2.av] (.tup [.sl .ext (List.map rowS res0),.i .i64 res1]):=by
  obtain ⟨v,hv,res0,res1,hk,rfl⟩:=Pus.of (K:=fun v=>∃res0:List (List UInt8),∃res1:Int,K res0 res1∧v = .tup [.sl .ext (List.map rowS res0),.i .i64 res1]) hf rfl (w83_0 (σ:=sl0 [m0.av,.i .i64 k1,x2.av]) (fun σ st  o0 res0 res1 H6 H7 hk=>⟨.tup [.sl o0 (List.map rowS res0),.i .i64 res1],by simp only [pf83,ares,aresL,H6,H7,ares1,Option.map_some],_,rfl,res0,res1,hk,rfl⟩) rfl rfl rfl h)
  exact ⟨res0,res1,hk,hv⟩
def r87_0:List AI:=[oO 2 (.box 3 (.t 0)),
 oO 3 (.box 4 (.t 1)),
 oC 4 (.i .i64 0)]
def r87_1:List AI:=[oF 9 0 3,
 oL 10 9,
 oB 11 .lss (.t 10) (.c (.i .i64 0)),
 oM 12 11,
 oG 13 (.fad 0 (.t 3)) 12 false,
 oG 14 (.load 1 false (.t 13)) 12 false,
 oG 15 (.fad 2 (.t 2)) 12 false,
 oG 16 (.load 1 false (.t 15)) 12 false,
 oG 17 (.len false (.t 16)) 12 false,
 oG 18 (.bin .geq (.t 14) (.t 17)) 12 false,
 oO 19 (.pick (.t 12) (.c (.b true)) (.t 18)),
 oM 20 19,
 oG 21 (.fad 2 (.t 3)) 20 false,
 oG 22 (.load 1 false (.t 21)) 20 false,
 oG 23 (.bin .gtr (.t 22) (.c (.i .u64 3))) 20 false,
 oO 24 (.pick (.t 20) (.c (.b true)) (.t 23))]
def r87_2:List AI:=[oC 4 (.i .i64 8)]
def r87_3:List AI:=[oF 25 2 2,
 oL 26 25,
 oF 27 0 3,
 oL 28 27,
 oO 29 (.iaL 7 (.t 26) (.t 28)),
 oO 30 (.load 7 true (.t 29)),
 oO 5 (.alloc [.s [],.i .i64 0,.i .i64 0,.sl .full [],.sl .full [],.sl .full [],.sl .full []]),
 oS 7 5 30]
def r87_4:List AI:=[oF 31 3 5,
 oL 32 31,
 oO 33 (.len false (.t 32)),
 oB 34 .gtr (.t 33) (.c (.i .i64 16)),
 oM 35 34,
 oG 36 (.fad 0 (.t 5)) 35 false,
 oG 37 (.load 1 false (.t 36)) 35 false,
 oG 38 (.len true (.t 37)) 35 false,
 oG 39 (.bin .gtr (.t 38) (.c (.i .i64 16))) 35 false,
 oO 40 (.pick (.t 35) (.c (.b true)) (.t 39)),
 oM 41 40,
 oG 42 (.fad 1 (.t 3)) 41 false,
 oG 43 (.load 1 false (.t 42)) 41 false,
 oG 44 (.bin .lss (.t 43) (.c (.i .i64 0))) 41 false,
 oO 45 (.pick (.t 41) (.c (.b true)) (.t 44)),
 oM 46 45,
 oG 47 (.fad 1 (.t 3)) 46 false,
 oG 48 (.load 1 false (.t 47)) 46 false,
 oG 49 (.fad 4 (.t 5)) 46 false,
 oG 50 (.load 1 false (.t 49)) 46 false,
 oG 51 (.len false (.t 50)) 46 false,
 oG 52 (.bin .geq (.t 48) (.t 51)) 46 false,
 oO 53 (.pick (.t 46) (.c (.b true)) (.t 52))]
def r87_5:List AI:=[oC 4 (.i .i64 8)]
def r87_6:List AI:=[oC 6 (.i .i64 0)]
def r87_7:List AI:=[oM 54 6,
 oF 55 3 5,
 oL 56 55,
 oO 57 (.len false (.t 56)),
 oB 58 .lss (.t 54) (.t 57)]
def r87_8:List AI:=[oF 61 3 5,
 oL 62 61,
 oM 63 6,
 oO 64 (.iaL 2 (.t 62) (.t 63)),
 oF 65 0 64,
 oL 66 65,
 oO 67 (.len true (.t 66)),
 oB 68 .gtr (.t 67) (.c (.i .i64 16))]
def r87_9:List AI:=[oC 4 (.i .i64 8)]
def r87_10:List AI:=[oM 59 6,
 oB 60 .add (.t 59) (.c (.i .i64 1)),
 oM 6 60]
def r87_11:List AI:=[oC 7 (.i .i64 0)]
def r87_12:List AI:=[oM 69 7,
 oF 70 3 3,
 oL 71 70,
 oO 72 (.len false (.t 71)),
 oB 73 .lss (.t 69) (.t 72)]
def r87_13:List AI:=[oF 76 3 3,
 oL 77 76,
 oM 78 7,
 oO 79 (.iaL 6 (.t 77) (.t 78)),
 oO 80 (.load 6 true (.t 79)),
 oO 8 (.alloc [.i .i64 0,.i .u8 0,.i .i64 0,.s [],.sl .full [],.b false]),
 oS 6 8 80]
def r87_14:List AI:=[oF 81 0 8,
 oL 82 81,
 oB 83 .lss (.t 82) (.c (.i .i64 0)),
 oM 84 83,
 oG 85 (.fad 0 (.t 8)) 84 false,
 oG 86 (.load 1 false (.t 85)) 84 false,
 oG 87 (.fad 3 (.t 5)) 84 false,
 oG 88 (.load 1 false (.t 87)) 84 false,
 oG 89 (.len false (.t 88)) 84 false,
 oG 90 (.bin .geq (.t 86) (.t 89)) 84 false,
 oO 91 (.pick (.t 84) (.c (.b true)) (.t 90)),
 oM 92 91,
 oG 93 (.mv (.t 7)) 92 false,
 oG 94 (.bin .gtr (.t 93) (.c (.i .i64 0))) 92 false,
 oG 95 (.mv (.t 94)) 92 false,
 oG 96 (.fad 3 (.t 3)) 95 true,
 oG 97 (.load 1 false (.t 96)) 95 true,
 oG 98 (.mv (.t 7)) 95 true,
 oG 99 (.bin .sub (.t 98) (.c (.i .i64 1))) 95 true,
 oG 100 (.iaL 6 (.t 97) (.t 99)) 95 true,
 oG 101 (.fad 0 (.t 100)) 95 true,
 oG 102 (.load 1 false (.t 101)) 95 true,
 oG 103 (.fad 0 (.t 8)) 95 true,
 oG 104 (.load 1 false (.t 103)) 95 true,
 oG 105 (.bin .geq (.t 102) (.t 104)) 95 true,
 oG 106 (.pick (.t 95) (.t 105) (.c (.b false))) 92 false,
 oO 107 (.pick (.t 92) (.c (.b true)) (.t 106)),
 oM 108 107,
 oG 109 (.fad 1 (.t 8)) 108 false,
 oG 110 (.load 5 true (.t 109)) 108 false,
 oG 111 (.call false 77 [(.t 110)]) 108 false,
 oG 112 (.bin .neq (.t 111) (.c (.i .i64 0))) 108 false,
 oO 113 (.pick (.t 108) (.c (.b true)) (.t 112))]
def r87_15:List AI:=[oC 4 (.i .i64 8)]
def r87_16:List AI:=[oM 74 7,
 oB 75 .add (.t 74) (.c (.i .i64 1)),
 oM 7 75]
def r87_17:List AI:=[oC 4 (.i .i64 0)]
abbrev l87_0:AC:=(.seq (.seq (.reg 7 r87_7) (.cond (.t 58) .skip (.exit 0))) (.seq (.block 1 (.seq (.reg 9 r87_8) (.cond (.t 68) (.seq (.reg 10 r87_9) .ret) .skip))) (.reg 8 r87_10)))
abbrev l87_1:AC:=(.seq (.seq (.reg 12 r87_12) (.cond (.t 73) .skip (.exit 2))) (.seq (.block 3 (.seq (.reg 14 r87_13) (.seq (.reg 15 r87_14) (.cond (.t 113) (.seq (.reg 16 r87_15) .ret) .skip)))) (.reg 13 r87_16)))
abbrev c87_2:AC:=(.seq (.reg 17 r87_17) .ret)
abbrev c87_3:AC:=(.seq (.seq (.reg 11 r87_11) (.block 2 (.loop l87_1))) c87_2)
abbrev c87_4:AC:=(.seq (.seq (.reg 6 r87_6) (.block 0 (.loop l87_0))) c87_3)
abbrev c87_5:AC:=(.seq (.seq (.reg 4 r87_4) (.cond (.t 53) (.seq (.reg 5 r87_5) .ret) .skip)) c87_4)
abbrev c87_6:AC:=(.seq (.reg 3 r87_3) c87_5)
abbrev c87_7:AC:=(.seq (.seq (.reg 1 r87_1) (.cond (.t 24) (.seq (.reg 2 r87_2) .ret) .skip)) c87_6)
abbrev b87:AC:=(.seq (.reg 0 r87_0) c87_7)
def pf87:AF:={ nt:=114,res:=[.tmp 4],body:=b87 }
abbrev H87 (Q:AE→Sl→St→Prop)(K:Int→Prop):Prop:=∀(σ:Sl)(st:St)(res0:Int),σ 4 = .i .i64 res0→K res0→Q .ret σ st
abbrev I87_0 (prog:Prog)(d:Nat)(Q:AE→Sl→St→Prop)(i6:Int)(m1:Frm)(m12294:Fun):Prop:=
  ∀(σ:Sl)(st:St) (v1 v12294:Nat),σ 3 = .p (d,1) v1 0→σ 5 = .p (d,12294) v12294 0→σ 6 = .i .i64 i6→lk st.bx (d,1) = some (v1,[.i .i64 m1.func,.i .i64 m1.pos,.i .u64 m1.mode,.sl .ext (List.map Loc.row m1.locals)])→lk st.bx (d,12294) = some (v12294,[.s m12294.name,.i .i64 m12294.params,.i .i64 m12294.result,.sl .ext (List.map Fld.row m12294.slots),.sl .ext (List.map Ins.row m12294.code),.sl .ext (List.map Rnn.row m12294.sizes),.sl .ext (List.map Rnn.row m12294.lives)])→W prog d (.loop l87_0) σ st (blockW 0 (thenW prog d c87_3 Q))
abbrev I87_1 (prog:Prog)(d:Nat)(Q:AE→Sl→St→Prop)(i7:Int)(m1:Frm)(m12294:Fun):Prop:=
  ∀(σ:Sl)(st:St) (v1 v12294:Nat),σ 3 = .p (d,1) v1 0→σ 5 = .p (d,12294) v12294 0→σ 7 = .i .i64 i7→lk st.bx (d,1) = some (v1,[.i .i64 m1.func,.i .i64 m1.pos,.i .u64 m1.mode,.sl .ext (List.map Loc.row m1.locals)])→lk st.bx (d,12294) = some (v12294,[.s m12294.name,.i .i64 m12294.params,.i .i64 m12294.result,.sl .ext (List.map Fld.row m12294.slots),.sl .ext (List.map Ins.row m12294.code),.sl .ext (List.map Rnn.row m12294.sizes),.sl .ext (List.map Rnn.row m12294.lives)])→W prog d (.loop l87_1) σ st (blockW 2 (thenW prog d c87_2 Q))
def T87_8 (prog:Prog)(K:Int→Prop) :Prop:=
  K 0
def T87_7 (prog:Prog)(K:Int→Prop)(P1:Int→Frm→Fun→Prop)(i7:Int)(m1:Frm)(m12294:Fun):Prop:=
  (i7 < (m1.locals.length:Int)→0≤i7∧∃c'2:Loc,m1.locals[(i7).toNat]? = some c'2∧(c'2.slot < 0→K 8)∧(¬(c'2.slot < 0)→(c'2.slot ≥ (m12294.slots.length:Int)→K 8)∧(¬(c'2.slot ≥ (m12294.slots.length:Int))→(i7 > 0→0≤(IntKind.i64.wrap (i7 - 1))∧∃c'7:Loc,m1.locals[(IntKind.i64.wrap (i7 - 1)).toNat]? = some c'7∧(c'7.slot ≥ c'2.slot→K 8)∧(¬(c'7.slot ≥ c'2.slot)→∃r'10:Int,Pus prog 77 [c'2.value.av] (.i .i64 r'10)∧(r'10≠0→K 8)∧(¬(r'10≠0)→P1 (IntKind.i64.wrap (i7 + 1)) m1 m12294)))∧(¬(i7 > 0)→∃r'13:Int,Pus prog 77 [c'2.value.av] (.i .i64 r'13)∧(r'13≠0→K 8)∧(¬(r'13≠0)→P1 (IntKind.i64.wrap (i7 + 1)) m1 m12294)))))∧(¬(i7 < (m1.locals.length:Int))→T87_8 prog K )
def T87_6 (prog:Prog)(K:Int→Prop)(m1:Frm)(m12294:Fun):Prop:=
  ∀P1:Int→Frm→Fun→Prop,(∀(i7:Int)(m1:Frm)(m12294:Fun),T87_7 prog K P1 i7 m1 m12294→P1 i7 m1 m12294)→P1 0 m1 m12294
def T87_5 (prog:Prog)(K:Int→Prop)(P0:Int→Frm→Fun→Prop)(i6:Int)(m1:Frm)(m12294:Fun):Prop:=
  (i6 < (m12294.slots.length:Int)→0≤i6∧∃c'2:Fld,m12294.slots[(i6).toNat]? = some c'2∧((c'2.name.length:Int) > 16→K 8)∧(¬((c'2.name.length:Int) > 16)→P0 (IntKind.i64.wrap (i6 + 1)) m1 m12294))∧(¬(i6 < (m12294.slots.length:Int))→T87_6 prog K m1 m12294)
def T87_4 (prog:Prog)(K:Int→Prop)(m1:Frm)(m12294:Fun):Prop:=
  ∀P0:Int→Frm→Fun→Prop,(∀(i6:Int)(m1:Frm)(m12294:Fun),T87_5 prog K P0 i6 m1 m12294→P0 i6 m1 m12294)→P0 0 m1 m12294
def T87_3 (prog:Prog)(K:Int→Prop)(m1:Frm)(m12294:Fun):Prop:=
  ((m12294.slots.length:Int) > 16→K 8)∧(¬((m12294.slots.length:Int) > 16)→((m12294.name.length:Int) > 16→K 8)∧(¬((m12294.name.length:Int) > 16)→(m1.pos < 0→K 8)∧(¬(m1.pos < 0)→(m1.pos ≥ (m12294.code.length:Int)→K 8)∧(¬(m1.pos ≥ (m12294.code.length:Int))→T87_4 prog K m1 m12294))))
def T87_2 (prog:Prog)(K:Int→Prop)(m0:Img)(m1:Frm):Prop:=
  0≤m1.func∧∃c'1:Fun,m0.funcs[(m1.func).toNat]? = some c'1∧T87_3 prog K m1 c'1
def T87_1 (prog:Prog)(K:Int→Prop)(m0:Img)(m1:Frm):Prop:=
  (m1.func < 0→K 8)∧(¬(m1.func < 0)→(m1.func ≥ (m0.funcs.length:Int)→K 8)∧(¬(m1.func ≥ (m0.funcs.length:Int))→(m1.mode > 3→K 8)∧(¬(m1.mode > 3)→T87_2 prog K m0 m1)))
def T87_0 (prog:Prog)(K:Int→Prop)(m0:Img)(x1:Frm):Prop:=
  T87_1 prog K m0 x1
section
variable {prog:Prog}{d:Nat}{Q:AE→Sl→St→Prop}{K:Int→Prop}(hQ:H87 Q K){σ:Sl}{st:St}
include hQ
theorem w87_8 (h:T87_8 prog K ):W prog d c87_2 σ st Q:=
 q_ rfl (m_ (e_ (rt_ (hQ _ _ _ rfl h))))
theorem w87_7 {i7:Int}{m1:Frm}{m12294:Fun}{P1:Int→Frm→Fun→Prop} (kP1 :∀(i7:Int)(m1:Frm)(m12294:Fun),P1 i7 m1 m12294→I87_1 prog d Q i7 m1 m12294){v1:Nat}{v12294:Nat}(H3:σ 3 = .p (d,1) v1 0)(H5:σ 5 = .p (d,12294) v12294 0)(H7:σ 7 = .i .i64 i7)(B1:lk st.bx (d,1) = some (v1,[.i .i64 m1.func,.i .i64 m1.pos,.i .u64 m1.mode,.sl .ext (List.map Loc.row m1.locals)]))(B12294:lk st.bx (d,12294) = some (v12294,[.s m12294.name,.i .i64 m12294.params,.i .i64 m12294.result,.sl .ext (List.map Fld.row m12294.slots),.sl .ext (List.map Ins.row m12294.code),.sl .ext (List.map Rnn.row m12294.sizes),.sl .ext (List.map Rnn.row m12294.lives)]))(h:T87_7 prog K P1 i7 m1 m12294):W prog d l87_1 σ st (thenW prog d (.loop l87_1) (blockW 2 (thenW prog d c87_2 Q))):=
 sq_ (q_ rfl (m_ (f_ H3 (l_ rfl B1 rfl rfl (ll_ rfl (b_ H7 rfl lss_ (e_ (cs_ rfl (fun g'1=>sk_ (sq_ (bk_ (sq_ (W.reg (f_ H3 (l_ rfl (lk_other rfl B1) rfl rfl (m_ ((h.1 g'1).2.elim fun c'2 e'3=>ia_ rfl H7 (h.1 g'1).1 e'3.1 (Loc.row_eq c'2) rfl (lf_ rfl rfl rfl (s_alloc (so_ rfl (show lk _ (d,57349) = some (_,([.i .i64 0,.i .u8 0,.i .i64 0,.s [],.sl .full (List.map Val.row ([]:List Val)),.b false]:List AV)) from lk_here) rfl rfl rfl (e_ (q_ rfl (f_ rfl (l_ rfl lk_here rfl rfl (b_ rfl rfl lss_ (s_mvB rfl (em_ (g:=84) rfl (fun g'4=>gn_ (b:=true) rfl rfl (gn_ (b:=true) rfl rfl (gn_ (b:=true) rfl rfl (gn_ (b:=true) rfl rfl (gn_ (b:=true) rfl rfl (gn_ (b:=true) rfl rfl (pt_ rfl rfl (s_mvB rfl (gn_ (b:=true) rfl rfl (gn_ (b:=true) rfl rfl (gn_ (b:=true) rfl rfl (gt_ rfl (gt_ rfl (gt_ rfl (gt_ rfl (gt_ rfl (gt_ rfl (gt_ rfl (gt_ rfl (gt_ rfl (gt_ rfl (gn_ (b:=true) rfl rfl (pt_ rfl rfl (s_mvB rfl (gn_ (b:=true) rfl rfl (gn_ (b:=true) rfl rfl (gn_ (b:=true) rfl rfl (gn_ (b:=true) rfl rfl (pt_ rfl rfl (e_ (ct_ rfl (q_ rfl (m_ (e_ (rt_ (hQ _ _ _ rfl (e'3.2.1 g'4))))))))))))))))))))))))))))))))))))) (fun g'4=>gy_ rfl (f_ rfl (gy_ rfl (l_ rfl lk_here rfl rfl (gy_ rfl (f_ H5 (gy_ rfl (l_ rfl (lk_other rfl (lk_other rfl B12294)) rfl rfl (gy_ rfl (ll_ rfl (gy_ rfl (b_ rfl rfl geq_ (pf_ rfl rfl (s_mvB rfl (em_ (g:=92) rfl (fun g'5=>gn_ (b:=true) rfl rfl (gn_ (b:=true) rfl rfl (gn_ (b:=true) rfl rfl (gt_ rfl (gt_ rfl (gt_ rfl (gt_ rfl (gt_ rfl (gt_ rfl (gt_ rfl (gt_ rfl (gt_ rfl (gt_ rfl (gn_ (b:=true) rfl rfl (pt_ rfl rfl (s_mvB rfl (gn_ (b:=true) rfl rfl (gn_ (b:=true) rfl rfl (gn_ (b:=true) rfl rfl (gn_ (b:=true) rfl rfl (pt_ rfl rfl (e_ (ct_ rfl (q_ rfl (m_ (e_ (rt_ (hQ _ _ _ rfl ((e'3.2.2 g'4).1 g'5))))))))))))))))))))))))))))) (fun g'5=>gy_ rfl (s_mvI H7 (gy_ rfl (b_ rfl rfl gtr_ (gy_ rfl (s_mvB rfl (em_ (g:=95) rfl (fun g'6=>gy_ rfl (f_ H3 (gy_ rfl (l_ rfl (lk_other rfl (lk_other rfl B1)) rfl rfl (gy_ rfl (s_mvI H7 (gy_ rfl (b_ rfl rfl sub_ (gy_ rfl ((((e'3.2.2 g'4).2 g'5).1 g'6).2.elim fun c'7 e'8=>ia_ rfl rfl (((e'3.2.2 g'4).2 g'5).1 g'6).1 e'8.1 (Loc.row_eq c'7) rfl (gy_ rfl (ff_ rfl (gy_ rfl (lf_ rfl rfl rfl (gy_ rfl (f_ rfl (gy_ rfl (l_ rfl lk_here rfl rfl (gy_ rfl (b_ rfl rfl geq_ (gy_ rfl (pt_ rfl rfl (pf_ rfl rfl (s_mvB rfl (em_ (g:=108) rfl (fun g'9=>gn_ (b:=true) rfl rfl (gn_ (b:=true) rfl rfl (gn_ (b:=true) rfl rfl (gn_ (b:=true) rfl rfl (pt_ rfl rfl (e_ (ct_ rfl (q_ rfl (m_ (e_ (rt_ (hQ _ _ _ rfl (e'8.2.1 g'9))))))))))))) (fun g'9=>gy_ rfl (f_ rfl (gy_ rfl (l_ rfl lk_here rfl rfl (gy_ rfl ((e'8.2.2 g'9).elim fun r'10 e'11=>ca_ (sc rfl rfl sn) e'11.1 (gy_ rfl (b_ rfl rfl neq_ (pf_ rfl rfl (e_ (cs_ rfl (fun g'12=>q_ rfl (m_ (e_ (rt_ (hQ _ _ _ rfl (e'11.2.1 g'12)))))) (fun g'12=>sk_ (W.reg0 rfl fun _ _=>m_ (b_ H7 rfl add_ (m_ (e_ (kP1 _ _ _ (e'11.2.2 g'12) _ _ _ _ H3 H5 rfl (lk_other rfl (lk_other rfl B1)) (lk_other rfl (lk_other rfl B12294)))))))))))))))))))))))))))))))))))))))))))) (fun g'6=>gn_ (b:=false) rfl rfl (gn_ (b:=false) rfl rfl (gn_ (b:=false) rfl rfl (gn_ (b:=false) rfl rfl (gn_ (b:=false) rfl rfl (gn_ (b:=false) rfl rfl (gn_ (b:=false) rfl rfl (gn_ (b:=false) rfl rfl (gn_ (b:=false) rfl rfl (gn_ (b:=false) rfl rfl (gy_ rfl (pf_ rfl rfl (pf_ rfl rfl (s_mvB rfl (gy_ rfl (f_ rfl (gy_ rfl (l_ rfl lk_here rfl rfl (gy_ rfl ((((e'3.2.2 g'4).2 g'5).2 g'6).elim fun r'13 e'14=>ca_ (sc rfl rfl sn) e'14.1 (gy_ rfl (b_ rfl rfl neq_ (pf_ rfl rfl (e_ (cs_ rfl (fun g'15=>q_ rfl (m_ (e_ (rt_ (hQ _ _ _ rfl (e'14.2.1 g'15)))))) (fun g'15=>sk_ (W.reg0 rfl fun _ _=>m_ (b_ H7 rfl add_ (m_ (e_ (kP1 _ _ _ (e'14.2.2 g'15) _ _ _ _ H3 H5 rfl (lk_other rfl (lk_other rfl B1)) (lk_other rfl (lk_other rfl B12294)))))))))))))))))))))))))))))))))))))))))))))))))))))))))))))))))))))))))) (fun g'1=>ex_ (w87_8 hQ (h.2 g'1)))))))))))
theorem w87_6 {m1:Frm}{m12294:Fun}{v1:Nat}{v12294:Nat}(H3:σ 3 = .p (d,1) v1 0)(H5:σ 5 = .p (d,12294) v12294 0)(B1:lk st.bx (d,1) = some (v1,[.i .i64 m1.func,.i .i64 m1.pos,.i .u64 m1.mode,.sl .ext (List.map Loc.row m1.locals)]))(B12294:lk st.bx (d,12294) = some (v12294,[.s m12294.name,.i .i64 m12294.params,.i .i64 m12294.result,.sl .ext (List.map Fld.row m12294.slots),.sl .ext (List.map Ins.row m12294.code),.sl .ext (List.map Rnn.row m12294.sizes),.sl .ext (List.map Rnn.row m12294.lives)]))(h:T87_6 prog K m1 m12294):W prog d c87_3 σ st Q:=
 sq_ (q_ rfl (m_ (e_ (bk_ (h (I87_1 prog d Q ) (fun _ _ _ hb _ _ _ _ H3 H5 H7 B1 B12294=>W.loop (w87_7 hQ (fun _ _ _ x=>x) H3 H5 H7 B1 B12294 hb)) _ _ _ _ H3 H5 rfl B1 B12294)))))
theorem w87_5 {i6:Int}{m1:Frm}{m12294:Fun}{P0:Int→Frm→Fun→Prop} (kP0 :∀(i6:Int)(m1:Frm)(m12294:Fun),P0 i6 m1 m12294→I87_0 prog d Q i6 m1 m12294){v1:Nat}{v12294:Nat}(H3:σ 3 = .p (d,1) v1 0)(H5:σ 5 = .p (d,12294) v12294 0)(H6:σ 6 = .i .i64 i6)(B1:lk st.bx (d,1) = some (v1,[.i .i64 m1.func,.i .i64 m1.pos,.i .u64 m1.mode,.sl .ext (List.map Loc.row m1.locals)]))(B12294:lk st.bx (d,12294) = some (v12294,[.s m12294.name,.i .i64 m12294.params,.i .i64 m12294.result,.sl .ext (List.map Fld.row m12294.slots),.sl .ext (List.map Ins.row m12294.code),.sl .ext (List.map Rnn.row m12294.sizes),.sl .ext (List.map Rnn.row m12294.lives)]))(h:T87_5 prog K P0 i6 m1 m12294):W prog d l87_0 σ st (thenW prog d (.loop l87_0) (blockW 0 (thenW prog d c87_3 Q))):=
 sq_ (q_ rfl (m_ (f_ H5 (l_ rfl B12294 rfl rfl (ll_ rfl (b_ H6 rfl lss_ (e_ (cs_ rfl (fun g'1=>sk_ (sq_ (bk_ (q_ rfl (f_ H5 (l_ rfl B12294 rfl rfl (m_ ((h.1 g'1).2.elim fun c'2 e'3=>ia_ rfl H6 (h.1 g'1).1 e'3.1 (Fld.row_eq c'2) rfl (ff_ rfl (lf_ rfl rfl rfl (ln_ rfl (b_ rfl rfl gtr_ (e_ (cs_ rfl (fun g'4=>q_ rfl (m_ (e_ (rt_ (hQ _ _ _ rfl (e'3.2.1 g'4)))))) (fun g'4=>sk_ (W.reg0 rfl fun _ _=>m_ (b_ H6 rfl add_ (m_ (e_ (kP0 _ _ _ (e'3.2.2 g'4) _ _ _ _ H3 H5 rfl B1 B12294)))))))))))))))))))) (fun g'1=>ex_ (w87_6 hQ H3 H5 B1 B12294 (h.2 g'1)))))))))))
theorem w87_4 {m1:Frm}{m12294:Fun}{v1:Nat}{v12294:Nat}(H3:σ 3 = .p (d,1) v1 0)(H5:σ 5 = .p (d,12294) v12294 0)(B1:lk st.bx (d,1) = some (v1,[.i .i64 m1.func,.i .i64 m1.pos,.i .u64 m1.mode,.sl .ext (List.map Loc.row m1.locals)]))(B12294:lk st.bx (d,12294) = some (v12294,[.s m12294.name,.i .i64 m12294.params,.i .i64 m12294.result,.sl .ext (List.map Fld.row m12294.slots),.sl .ext (List.map Ins.row m12294.code),.sl .ext (List.map Rnn.row m12294.sizes),.sl .ext (List.map Rnn.row m12294.lives)]))(h:T87_4 prog K m1 m12294):W prog d c87_4 σ st Q:=
 sq_ (q_ rfl (m_ (e_ (bk_ (h (I87_0 prog d Q ) (fun _ _ _ hb _ _ _ _ H3 H5 H6 B1 B12294=>W.loop (w87_5 hQ (fun _ _ _ x=>x) H3 H5 H6 B1 B12294 hb)) _ _ _ _ H3 H5 rfl B1 B12294)))))
theorem w87_3 {m1:Frm}{m12294:Fun}{v1:Nat}{v12294:Nat}(H3:σ 3 = .p (d,1) v1 0)(H5:σ 5 = .p (d,12294) v12294 0)(B1:lk st.bx (d,1) = some (v1,[.i .i64 m1.func,.i .i64 m1.pos,.i .u64 m1.mode,.sl .ext (List.map Loc.row m1.locals)]))(B12294:lk st.bx (d,12294) = some (v12294,[.s m12294.name,.i .i64 m12294.params,.i .i64 m12294.result,.sl .ext (List.map Fld.row m12294.slots),.sl .ext (List.map Ins.row m12294.code),.sl .ext (List.map Rnn.row m12294.sizes),.sl .ext (List.map Rnn.row m12294.lives)]))(h:T87_3 prog K m1 m12294):W prog d c87_5 σ st Q:=
 sq_ (q_ rfl (f_ H5 (l_ rfl B12294 rfl rfl (ll_ rfl (b_ rfl rfl gtr_ (s_mvB rfl (em_ (g:=35) rfl (fun g'1=>gn_ (b:=true) rfl rfl (gn_ (b:=true) rfl rfl (gn_ (b:=true) rfl rfl (gn_ (b:=true) rfl rfl (pt_ rfl rfl (s_mvB rfl (gn_ (b:=true) rfl rfl (gn_ (b:=true) rfl rfl (gn_ (b:=true) rfl rfl (pt_ rfl rfl (s_mvB rfl (gn_ (b:=true) rfl rfl (gn_ (b:=true) rfl rfl (gn_ (b:=true) rfl rfl (gn_ (b:=true) rfl rfl (gn_ (b:=true) rfl rfl (gn_ (b:=true) rfl rfl (pt_ rfl rfl (e_ (ct_ rfl (q_ rfl (m_ (e_ (rt_ (hQ _ _ _ rfl (h.1 g'1)))))))))))))))))))))))))) (fun g'1=>gy_ rfl (f_ H5 (gy_ rfl (l_ rfl B12294 rfl rfl (gy_ rfl (ln_ rfl (gy_ rfl (b_ rfl rfl gtr_ (pf_ rfl rfl (s_mvB rfl (em_ (g:=41) rfl (fun g'2=>gn_ (b:=true) rfl rfl (gn_ (b:=true) rfl rfl (gn_ (b:=true) rfl rfl (pt_ rfl rfl (s_mvB rfl (gn_ (b:=true) rfl rfl (gn_ (b:=true) rfl rfl (gn_ (b:=true) rfl rfl (gn_ (b:=true) rfl rfl (gn_ (b:=true) rfl rfl (gn_ (b:=true) rfl rfl (pt_ rfl rfl (e_ (ct_ rfl (q_ rfl (m_ (e_ (rt_ (hQ _ _ _ rfl ((h.2 g'1).1 g'2)))))))))))))))))))) (fun g'2=>gy_ rfl (f_ H3 (gy_ rfl (l_ rfl B1 rfl rfl (gy_ rfl (b_ rfl rfl lss_ (pf_ rfl rfl (s_mvB rfl (em_ (g:=46) rfl (fun g'3=>gn_ (b:=true) rfl rfl (gn_ (b:=true) rfl rfl (gn_ (b:=true) rfl rfl (gn_ (b:=true) rfl rfl (gn_ (b:=true) rfl rfl (gn_ (b:=true) rfl rfl (pt_ rfl rfl (e_ (ct_ rfl (q_ rfl (m_ (e_ (rt_ (hQ _ _ _ rfl (((h.2 g'1).2 g'2).1 g'3))))))))))))))) (fun g'3=>gy_ rfl (f_ H3 (gy_ rfl (l_ rfl B1 rfl rfl (gy_ rfl (f_ H5 (gy_ rfl (l_ rfl B12294 rfl rfl (gy_ rfl (ll_ rfl (gy_ rfl (b_ rfl rfl geq_ (pf_ rfl rfl (e_ (cs_ rfl (fun g'4=>q_ rfl (m_ (e_ (rt_ (hQ _ _ _ rfl ((((h.2 g'1).2 g'2).2 g'3).1 g'4)))))) (fun g'4=>sk_ (w87_4 hQ H3 H5 B1 B12294 ((((h.2 g'1).2 g'2).2 g'3).2 g'4)))))))))))))))))))))))))))))))))))))))))))))
theorem w87_2 {m0:Img}{m1:Frm}{v0:Nat}{v1:Nat}(H2:σ 2 = .p (d,0) v0 0)(H3:σ 3 = .p (d,1) v1 0)(B0:lk st.bx (d,0) = some (v0,[.sl .ext (List.map Typ.row m0.types),.sl .ext (List.map rowS m0.texts),.sl .ext (List.map Fun.row m0.funcs)]))(B1:lk st.bx (d,1) = some (v1,[.i .i64 m1.func,.i .i64 m1.pos,.i .u64 m1.mode,.sl .ext (List.map Loc.row m1.locals)]))(h:T87_2 prog K m0 m1):W prog d c87_6 σ st Q:=
 sq_ (W.reg (f_ H2 (l_ rfl (lk_other rfl B0) rfl rfl (f_ H3 (l_ rfl (lk_other rfl B1) rfl rfl (h.2.elim fun c'1 e'2=>ia_ rfl rfl h.1 e'2.1 (Fun.row_eq c'1) rfl (lf_ rfl rfl rfl (s_alloc (so_ rfl (show lk _ (d,12294) = some (_,([.s [],.i .i64 0,.i .i64 0,.sl .full (List.map Fld.row ([]:List Fld)),.sl .full (List.map Ins.row ([]:List Ins)),.sl .full (List.map Rnn.row ([]:List Rnn)),.sl .full (List.map Rnn.row ([]:List Rnn))]:List AV)) from lk_here) rfl rfl rfl (e_ (w87_3 hQ H3 rfl (lk_other rfl (lk_other rfl B1)) lk_here e'2.2)))))))))))
theorem w87_1 {m0:Img}{m1:Frm}{v0:Nat}{v1:Nat}(H2:σ 2 = .p (d,0) v0 0)(H3:σ 3 = .p (d,1) v1 0)(B0:lk st.bx (d,0) = some (v0,[.sl .ext (List.map Typ.row m0.types),.sl .ext (List.map rowS m0.texts),.sl .ext (List.map Fun.row m0.funcs)]))(B1:lk st.bx (d,1) = some (v1,[.i .i64 m1.func,.i .i64 m1.pos,.i .u64 m1.mode,.sl .ext (List.map Loc.row m1.locals)]))(h:T87_1 prog K m0 m1):W prog d c87_7 σ st Q:=
 sq_ (q_ rfl (f_ H3 (l_ rfl B1 rfl rfl (b_ rfl rfl lss_ (s_mvB rfl (em_ (g:=12) rfl (fun g'1=>gn_ (b:=true) rfl rfl (gn_ (b:=true) rfl rfl (gn_ (b:=true) rfl rfl (gn_ (b:=true) rfl rfl (gn_ (b:=true) rfl rfl (gn_ (b:=true) rfl rfl (pt_ rfl rfl (s_mvB rfl (gn_ (b:=true) rfl rfl (gn_ (b:=true) rfl rfl (gn_ (b:=true) rfl rfl (pt_ rfl rfl (e_ (ct_ rfl (q_ rfl (m_ (e_ (rt_ (hQ _ _ _ rfl (h.1 g'1)))))))))))))))))))) (fun g'1=>gy_ rfl (f_ H3 (gy_ rfl (l_ rfl B1 rfl rfl (gy_ rfl (f_ H2 (gy_ rfl (l_ rfl B0 rfl rfl (gy_ rfl (ll_ rfl (gy_ rfl (b_ rfl rfl geq_ (pf_ rfl rfl (s_mvB rfl (em_ (g:=20) rfl (fun g'2=>gn_ (b:=true) rfl rfl (gn_ (b:=true) rfl rfl (gn_ (b:=true) rfl rfl (pt_ rfl rfl (e_ (ct_ rfl (q_ rfl (m_ (e_ (rt_ (hQ _ _ _ rfl ((h.2 g'1).1 g'2)))))))))))) (fun g'2=>gy_ rfl (f_ H3 (gy_ rfl (l_ rfl B1 rfl rfl (gy_ rfl (b_ rfl rfl gtr_ (pf_ rfl rfl (e_ (cs_ rfl (fun g'3=>q_ rfl (m_ (e_ (rt_ (hQ _ _ _ rfl (((h.2 g'1).2 g'2).1 g'3)))))) (fun g'3=>sk_ (w87_2 hQ H2 H3 B0 B1 (((h.2 g'1).2 g'2).2 g'3)))))))))))))))))))))))))))))))))
theorem w87_0 {m0:Img}{x1:Frm}(H0:σ 0 = m0.av)(H1:σ 1 = x1.av)(h:T87_0 prog K m0 x1):W prog d (.seq (.reg 0 r87_0) c87_7) σ st Q:=
 q_ rfl (s_box H0 rfl (s_box H1 rfl (m_ (e_ (w87_1 hQ rfl rfl (lk_other rfl lk_here) lk_here h)))))
end
theorem p87 {prog:Prog}(hf:prog.fn 87 = some pf87){m0:Img}{x1:Frm}{K:Int→Prop}(h:T87_0 prog K m0 x1) :∃res0:Int,K res0∧Pus prog 87 [m0.av,x1.av] (.i .i64 res0):=by
  obtain ⟨v,hv,res0,hk,rfl⟩:=Pus.of (K:=fun v=>∃res0:Int,K res0∧v = .i .i64 res0) hf rfl (w87_0 (σ:=sl0 [m0.av,x1.av]) (fun σ st   res0 H4 hk=>⟨.i .i64 res0,by simp only [pf87,ares,aresL,H4,ares1,Option.map_some],_,rfl,res0,hk,rfl⟩) rfl rfl h)
  exact ⟨res0,hk,hv⟩
def r114_0:List AI:=[oO 3 (.box 3 (.t 0)),
 oO 5 (.box 4 (.t 2)),
 oC 6 (.sl .full [])]
def r114_1:List AI:=[oF 11 2 3,
 oL 12 11,
 oF 13 0 5,
 oL 14 13,
 oO 15 (.iaL 7 (.t 12) (.t 14)),
 oO 16 (.load 7 true (.t 15)),
 oO 7 (.alloc [.s [],.i .i64 0,.i .i64 0,.sl .full [],.sl .full [],.sl .full [],.sl .full []]),
 oS 7 7 16]
def r114_2:List AI:=[oM 17 1,
 oO 18 (.call false 137 [(.t 17)]),
 oB 19 .add (.c (.s [35])) (.t 18),
 oB 20 .add (.t 19) (.c (.s [32])),
 oF 21 0 5,
 oL 22 21,
 oO 23 (.call false 137 [(.t 22)]),
 oB 24 .add (.t 20) (.t 23),
 oB 25 .add (.t 24) (.c (.s [32])),
 oF 26 0 7,
 oL 27 26,
 oO 28 (.call false 31 [(.t 27)]),
 oB 29 .add (.t 25) (.t 28),
 oB 30 .add (.t 29) (.c (.s [32,97,116,32])),
 oF 31 1 5,
 oL 32 31,
 oO 33 (.call false 137 [(.t 32)]),
 oB 34 .add (.t 30) (.t 33),
 oB 35 .add (.t 34) (.c (.s [32])),
 oF 36 2 5,
 oL 37 36,
 oO 38 (.call false 138 [(.t 37)]),
 oB 39 .add (.t 35) (.t 38),
 oO 40 (.bslice [.s []] 1 [(0,(.t 39))]),
 oM 8 40]
def r114_3:List AI:=[oC 9 (.i .i64 0)]
def r114_4:List AI:=[oM 41 9,
 oF 42 3 5,
 oL 43 42,
 oO 44 (.len false (.t 43)),
 oB 45 .lss (.t 41) (.t 44)]
def r114_5:List AI:=[oF 48 3 5,
 oL 49 48,
 oM 50 9,
 oO 51 (.iaL 6 (.t 49) (.t 50)),
 oO 52 (.load 6 true (.t 51)),
 oO 10 (.alloc [.i .i64 0,.i .u8 0,.i .i64 0,.s [],.sl .full [],.b false]),
 oS 6 10 52]
def r114_6:List AI:=[oM 53 8,
 oF 54 0 10,
 oL 55 54,
 oO 56 (.call false 137 [(.t 55)]),
 oB 57 .add (.c (.s [32,32])) (.t 56),
 oB 58 .add (.t 57) (.c (.s [32])),
 oF 59 3 7,
 oL 60 59,
 oF 61 0 10,
 oL 62 61,
 oO 63 (.iaL 2 (.t 60) (.t 62)),
 oF 64 0 63,
 oL 65 64,
 oO 66 (.call false 31 [(.t 65)]),
 oB 67 .add (.t 58) (.t 66),
 oB 68 .add (.t 67) (.c (.s [32,61,32])),
 oF 69 1 10,
 oO 70 (.load 5 true (.t 69)),
 oO 71 (.call false 106 [(.t 70)]),
 oB 72 .add (.t 68) (.t 71),
 oO 73 (.bslice [.s []] 1 [(0,(.t 72))]),
 oO 74 (.app 1 16 (.t 53) (.t 73)),
 oM 8 74]
def r114_7:List AI:=[oM 46 9,
 oB 47 .add (.t 46) (.c (.i .i64 1)),
 oM 9 47]
def r114_8:List AI:=[oM 75 8,
 oM 6 75]
abbrev l114_0:AC:=(.seq (.seq (.reg 4 r114_4) (.cond (.t 45) .skip (.exit 0))) (.seq (.block 1 (.seq (.reg 6 r114_5) (.reg 7 r114_6))) (.reg 5 r114_7)))
abbrev c114_1:AC:=(.seq (.reg 8 r114_8) .ret)
abbrev c114_2:AC:=(.seq (.reg 2 r114_2) (.seq (.seq (.reg 3 r114_3) (.block 0 (.loop l114_0))) c114_1))
abbrev c114_3:AC:=(.seq (.reg 1 r114_1) c114_2)
abbrev b114:AC:=(.seq (.reg 0 r114_0) c114_3)
def pf114:AF:={ nt:=76,res:=[.tmp 6],body:=b114 }
abbrev H114 (Q:AE→Sl→St→Prop)(K:List (List UInt8)→Prop):Prop:=∀(σ:Sl)(st:St)(o0:Own)(res0:List (List UInt8)),σ 6 = .sl o0 (List.map rowS res0)→K res0→Q .ret σ st
abbrev I114_0 (prog:Prog)(d:Nat)(Q:AE→Sl→St→Prop)(out8:List (List UInt8))(i9:Int)(m1:Frm)(m4102:Fun):Prop:=
  ∀(σ:Sl)(st:St)(o_out8:Own) (v1 v4102:Nat),σ 5 = .p (d,1) v1 0→σ 7 = .p (d,4102) v4102 0→σ 8 = .sl o_out8 (List.map rowS out8)→σ 9 = .i .i64 i9→ApM d st.ow o_out8 out8.length→lk st.bx (d,1) = some (v1,[.i .i64 m1.func,.i .i64 m1.pos,.i .u64 m1.mode,.sl .ext (List.map Loc.row m1.locals)])→lk st.bx (d,4102) = some (v4102,[.s m4102.name,.i .i64 m4102.params,.i .i64 m4102.result,.sl .ext (List.map Fld.row m4102.slots),.sl .ext (List.map Ins.row m4102.code),.sl .ext (List.map Rnn.row m4102.sizes),.sl .ext (List.map Rnn.row m4102.lives)])→W prog d (.loop l114_0) σ st (blockW 0 (thenW prog d c114_1 Q))
def T114_4 (prog:Prog)(K:List (List UInt8)→Prop)(out8:List (List UInt8)):Prop:=
  K out8
def T114_3 (prog:Prog)(K:List (List UInt8)→Prop)(P0:List (List UInt8)→Int→Frm→Fun→Prop)(out8:List (List UInt8))(i9:Int)(m1:Frm)(m4102:Fun):Prop:=
  (i9 < (m1.locals.length:Int)→0≤i9∧∃c'2:Loc,m1.locals[(i9).toNat]? = some c'2∧∃r'4:List UInt8,Pus prog 137 [.i .i64 c'2.slot] (.s r'4)∧([32,32]:List UInt8).length + r'4.length≤maxStr∧(([32,32]:List UInt8) ++ r'4).length + ([32]:List UInt8).length≤maxStr∧0≤c'2.slot∧∃c'6:Fld,m4102.slots[(c'2.slot).toNat]? = some c'6∧∃r'8:List UInt8,Pus prog 31 [.s c'6.name] (.s r'8)∧((([32,32]:List UInt8) ++ r'4) ++ ([32]:List UInt8)).length + r'8.length≤maxStr∧(((([32,32]:List UInt8) ++ r'4) ++ ([32]:List UInt8)) ++ r'8).length + ([32,61,32]:List UInt8).length≤maxStr∧∃r'10:List UInt8,Pus prog 106 [c'2.value.av] (.s r'10)∧((((([32,32]:List UInt8) ++ r'4) ++ ([32]:List UInt8)) ++ r'8) ++ ([32,61,32]:List UInt8)).length + r'10.length≤maxStr∧Fit (out8.length + [(((((([32,32]:List UInt8) ++ r'4) ++ ([32]:List UInt8)) ++ r'8) ++ ([32,61,32]:List UInt8)) ++ r'10)].length) 16∧P0 (out8 ++ [(((((([32,32]:List UInt8) ++ r'4) ++ ([32]:List UInt8)) ++ r'8) ++ ([32,61,32]:List UInt8)) ++ r'10)]) (IntKind.i64.wrap (i9 + 1)) m1 m4102)∧(¬(i9 < (m1.locals.length:Int))→T114_4 prog K out8)
def T114_2 (prog:Prog)(K:List (List UInt8)→Prop)(k1:Int)(m1:Frm)(m4102:Fun):Prop:=
  ∃r'1:List UInt8,Pus prog 137 [.i .i64 k1] (.s r'1)∧([35]:List UInt8).length + r'1.length≤maxStr∧(([35]:List UInt8) ++ r'1).length + ([32]:List UInt8).length≤maxStr∧∃r'3:List UInt8,Pus prog 137 [.i .i64 m1.func] (.s r'3)∧((([35]:List UInt8) ++ r'1) ++ ([32]:List UInt8)).length + r'3.length≤maxStr∧(((([35]:List UInt8) ++ r'1) ++ ([32]:List UInt8)) ++ r'3).length + ([32]:List UInt8).length≤maxStr∧∃r'5:List UInt8,Pus prog 31 [.s m4102.name] (.s r'5)∧((((([35]:List UInt8) ++ r'1) ++ ([32]:List UInt8)) ++ r'3) ++ ([32]:List UInt8)).length + r'5.length≤maxStr∧(((((([35]:List UInt8) ++ r'1) ++ ([32]:List UInt8)) ++ r'3) ++ ([32]:List UInt8)) ++ r'5).length + ([32,97,116,32]:List UInt8).length≤maxStr∧∃r'7:List UInt8,Pus prog 137 [.i .i64 m1.pos] (.s r'7)∧((((((([35]:List UInt8) ++ r'1) ++ ([32]:List UInt8)) ++ r'3) ++ ([32]:List UInt8)) ++ r'5) ++ ([32,97,116,32]:List UInt8)).length + r'7.length≤maxStr∧(((((((([35]:List UInt8) ++ r'1) ++ ([32]:List UInt8)) ++ r'3) ++ ([32]:List UInt8)) ++ r'5) ++ ([32,97,116,32]:List UInt8)) ++ r'7).length + ([32]:List UInt8).length≤maxStr∧∃r'9:List UInt8,Pus prog 138 [.i .u64 m1.mode] (.s r'9)∧((((((((([35]:List UInt8) ++ r'1) ++ ([32]:List UInt8)) ++ r'3) ++ ([32]:List UInt8)) ++ r'5) ++ ([32,97,116,32]:List UInt8)) ++ r'7) ++ ([32]:List UInt8)).length + r'9.length≤maxStr∧∀P0:List (List UInt8)→Int→Frm→Fun→Prop,(∀(out8:List (List UInt8))(i9:Int)(m1:Frm)(m4102:Fun),T114_3 prog K P0 out8 i9 m1 m4102→P0 out8 i9 m1 m4102)→P0 [(((((((((([35]:List UInt8) ++ r'1) ++ ([32]:List UInt8)) ++ r'3) ++ ([32]:List UInt8)) ++ r'5) ++ ([32,97,116,32]:List UInt8)) ++ r'7) ++ ([32]:List UInt8)) ++ r'9)] 0 m1 m4102
def T114_1 (prog:Prog)(K:List (List UInt8)→Prop)(k1:Int)(m0:Img)(m1:Frm):Prop:=
  0≤m1.func∧∃c'1:Fun,m0.funcs[(m1.func).toNat]? = some c'1∧T114_2 prog K k1 m1 c'1
def T114_0 (prog:Prog)(K:List (List UInt8)→Prop)(m0:Img)(k1:Int)(x2:Frm):Prop:=
  T114_1 prog K k1 m0 x2
section
variable {prog:Prog}{d:Nat}{Q:AE→Sl→St→Prop}{K:List (List UInt8)→Prop}(hQ:H114 Q K){σ:Sl}{st:St}
include hQ
theorem w114_4 {out8:List (List UInt8)}{o_out8:Own}(H8:σ 8 = .sl o_out8 (List.map rowS out8))(A8:ApM d st.ow o_out8 out8.length)(h:T114_4 prog K out8):W prog d c114_1 σ st Q:=
 q_ rfl (s_mvL H8 (s_mvL rfl (e_ (rt_ (hQ _ _ _ _ rfl h)))))
theorem w114_3 {out8:List (List UInt8)}{i9:Int}{m1:Frm}{m4102:Fun}{P0:List (List UInt8)→Int→Frm→Fun→Prop} (kP0 :∀(out8:List (List UInt8))(i9:Int)(m1:Frm)(m4102:Fun),P0 out8 i9 m1 m4102→I114_0 prog d Q out8 i9 m1 m4102){o_out8:Own}{v1:Nat}{v4102:Nat}(H5:σ 5 = .p (d,1) v1 0)(H7:σ 7 = .p (d,4102) v4102 0)(H8:σ 8 = .sl o_out8 (List.map rowS out8))(H9:σ 9 = .i .i64 i9)(A8:ApM d st.ow o_out8 out8.length)(B1:lk st.bx (d,1) = some (v1,[.i .i64 m1.func,.i .i64 m1.pos,.i .u64 m1.mode,.sl .ext (List.map Loc.row m1.locals)]))(B4102:lk st.bx (d,4102) = some (v4102,[.s m4102.name,.i .i64 m4102.params,.i .i64 m4102.result,.sl .ext (List.map Fld.row m4102.slots),.sl .ext (List.map Ins.row m4102.code),.sl .ext (List.map Rnn.row m4102.sizes),.sl .ext (List.map Rnn.row m4102.lives)]))(h:T114_3 prog K P0 out8 i9 m1 m4102):W prog d l114_0 σ st (thenW prog d (.loop l114_0) (blockW 0 (thenW prog d c114_1 Q))):=
 sq_ (q_ rfl (m_ (f_ H5 (l_ rfl B1 rfl rfl (ll_ rfl (b_ H9 rfl lss_ (e_ (cs_ rfl (fun g'1=>sk_ (sq_ (bk_ (sq_ (W.reg (f_ H5 (l_ rfl (lk_other rfl B1) rfl rfl (m_ ((h.1 g'1).2.elim fun c'2 e'3=>ia_ rfl H9 (h.1 g'1).1 e'3.1 (Loc.row_eq c'2) rfl (lf_ rfl rfl rfl (s_alloc (so_ rfl (show lk _ (d,24581) = some (_,([.i .i64 0,.i .u8 0,.i .i64 0,.s [],.sl .full (List.map Val.row ([]:List Val)),.b false]:List AV)) from lk_here) rfl rfl rfl (e_ (W.reg0 rfl fun _ _=>s_mvL H8 (f_ rfl (l_ rfl lk_here rfl rfl (e'3.2.elim fun r'4 e'5=>ca_ (sc rfl rfl sn) e'5.1 (b_ rfl rfl (abin_cat' e'5.2.1) (b_ rfl rfl (abin_cat' e'5.2.2.1) (f_ H7 (l_ rfl (lk_other rfl (lk_other rfl B4102)) rfl rfl (f_ rfl (l_ rfl lk_here rfl rfl (e'5.2.2.2.2.elim fun c'6 e'7=>ia_ rfl rfl e'5.2.2.2.1 e'7.1 (Fld.row_eq c'6) rfl (ff_ rfl (lf_ rfl rfl rfl (e'7.2.elim fun r'8 e'9=>ca_ (sc rfl rfl sn) e'9.1 (b_ rfl rfl (abin_cat' e'9.2.1) (b_ rfl rfl (abin_cat' e'9.2.2.1) (f_ rfl (l_ rfl lk_here rfl rfl (e'9.2.2.2.elim fun r'10 e'11=>ca_ (sc rfl rfl sn) e'11.1 (b_ rfl rfl (abin_cat' e'11.2.1) (s_bslM (f:=rowS) (l:=[(((((([32,32]:List UInt8) ++ r'4) ++ ([32]:List UInt8)) ++ r'8) ++ ([32,61,32]:List UInt8)) ++ r'10)]) rfl rfl (g_cons rfl rfl rfl g_nil) rfl (s_app rowS_len rfl rfl rfl A8.1 e'11.2.2.1 rfl (fun o'12 ow'15 a'13 fr'14 on'16=>s_mvL rfl (e_ (W.reg0 rfl fun _ _=>m_ (b_ H9 rfl add_ (m_ (e_ (kP0 _ _ _ _ e'11.2.2.2 _ _ _ _ _ H5 H7 rfl rfl (ApM.mk a'13 (Mine.app A8.2 rfl on'16)) (lk_other rfl (lk_other rfl B1)) (lk_other rfl (lk_other rfl B4102)))))))))))))))))))))))))))))))))))))))))))) (fun g'1=>ex_ (w114_4 hQ H8 A8 (h.2 g'1)))))))))))
theorem w114_2 {k1:Int}{m1:Frm}{m4102:Fun}{v1:Nat}{v4102:Nat}(H1:σ 1 = .i .i64 k1)(H5:σ 5 = .p (d,1) v1 0)(H7:σ 7 = .p (d,4102) v4102 0)(B1:lk st.bx (d,1) = some (v1,[.i .i64 m1.func,.i .i64 m1.pos,.i .u64 m1.mode,.sl .ext (List.map Loc.row m1.locals)]))(B4102:lk st.bx (d,4102) = some (v4102,[.s m4102.name,.i .i64 m4102.params,.i .i64 m4102.result,.sl .ext (List.map Fld.row m4102.slots),.sl .ext (List.map Ins.row m4102.code),.sl .ext (List.map Rnn.row m4102.sizes),.sl .ext (List.map Rnn.row m4102.lives)]))(h:T114_2 prog K k1 m1 m4102):W prog d c114_2 σ st Q:=
 q_ rfl (m_ (h.elim fun r'1 e'2=>ca_ (sc H1 rfl sn) e'2.1 (b_ rfl rfl (abin_cat' e'2.2.1) (b_ rfl rfl (abin_cat' e'2.2.2.1) (f_ H5 (l_ rfl B1 rfl rfl (e'2.2.2.2.elim fun r'3 e'4=>ca_ (sc rfl rfl sn) e'4.1 (b_ rfl rfl (abin_cat' e'4.2.1) (b_ rfl rfl (abin_cat' e'4.2.2.1) (f_ H7 (l_ rfl B4102 rfl rfl (e'4.2.2.2.elim fun r'5 e'6=>ca_ (sc rfl rfl sn) e'6.1 (b_ rfl rfl (abin_cat' e'6.2.1) (b_ rfl rfl (abin_cat' e'6.2.2.1) (f_ H5 (l_ rfl B1 rfl rfl (e'6.2.2.2.elim fun r'7 e'8=>ca_ (sc rfl rfl sn) e'8.1 (b_ rfl rfl (abin_cat' e'8.2.1) (b_ rfl rfl (abin_cat' e'8.2.2.1) (f_ H5 (l_ rfl B1 rfl rfl (e'8.2.2.2.elim fun r'9 e'10=>ca_ (sc rfl rfl sn) e'10.1 (b_ rfl rfl (abin_cat' e'10.2.1) (s_bslM (f:=rowS) (l:=[(((((((((([35]:List UInt8) ++ r'1) ++ ([32]:List UInt8)) ++ r'3) ++ ([32]:List UInt8)) ++ r'5) ++ ([32,97,116,32]:List UInt8)) ++ r'7) ++ ([32]:List UInt8)) ++ r'9)]) rfl rfl (g_cons rfl rfl rfl g_nil) rfl (s_mvL rfl (e_ (sq_ (q_ rfl (m_ (e_ (bk_ (e'10.2.2 (I114_0 prog d Q ) (fun _ _ _ _ hb _ _ _ _ _ H5 H7 H8 H9 A8 B1 B4102=>W.loop (w114_3 hQ (fun _ _ _ _ x=>x) H5 H7 H8 H9 A8 B1 B4102 hb)) _ _ _ _ _ H5 H7 rfl rfl ApM.full B1 B4102))))))))))))))))))))))))))))))))
theorem w114_1 {k1:Int}{m0:Img}{m1:Frm}{v0:Nat}{v1:Nat}(H1:σ 1 = .i .i64 k1)(H3:σ 3 = .p (d,0) v0 0)(H5:σ 5 = .p (d,1) v1 0)(B0:lk st.bx (d,0) = some (v0,[.sl .ext (List.map Typ.row m0.types),.sl .ext (List.map rowS m0.texts),.sl .ext (List.map Fun.row m0.funcs)]))(B1:lk st.bx (d,1) = some (v1,[.i .i64 m1.func,.i .i64 m1.pos,.i .u64 m1.mode,.sl .ext (List.map Loc.row m1.locals)]))(h:T114_1 prog K k1 m0 m1):W prog d c114_3 σ st Q:=
 sq_ (W.reg (f_ H3 (l_ rfl (lk_other rfl B0) rfl rfl (f_ H5 (l_ rfl (lk_other rfl B1) rfl rfl (h.2.elim fun c'1 e'2=>ia_ rfl rfl h.1 e'2.1 (Fun.row_eq c'1) rfl (lf_ rfl rfl rfl (s_alloc (so_ rfl (show lk _ (d,4102) = some (_,([.s [],.i .i64 0,.i .i64 0,.sl .full (List.map Fld.row ([]:List Fld)),.sl .full (List.map Ins.row ([]:List Ins)),.sl .full (List.map Rnn.row ([]:List Rnn)),.sl .full (List.map Rnn.row ([]:List Rnn))]:List AV)) from lk_here) rfl rfl rfl (e_ (w114_2 hQ H1 H5 rfl (lk_other rfl (lk_other rfl B1)) lk_here e'2.2)))))))))))
theorem w114_0 {m0:Img}{k1:Int}{x2:Frm}(H0:σ 0 = m0.av)(H1:σ 1 = .i .i64 k1)(H2:σ 2 = x2.av)(h:T114_0 prog K m0 k1 x2):W prog d (.seq (.reg 0 r114_0) c114_3) σ st Q:=
 q_ rfl (s_box H0 rfl (s_box H2 rfl (s_mvL (f:=rowS) (l:=[]) rfl (e_ (w114_1 hQ H1 rfl rfl (lk_other rfl lk_here) lk_here h)))))
end
theorem p114 {prog:Prog}(hf:prog.fn 114 = some pf114){m0:Img}{k1:Int}{x2:Frm}{K:List (List UInt8)→Prop}(h:T114_0 prog K m0 k1 x2) :∃res0:List (List UInt8),K res0∧Pus prog 114 [m0.av,.i .i64 k1,x2.av] (.sl .ext (List.map rowS res0)):=by
  obtain ⟨v,hv,res0,hk,rfl⟩:=Pus.of (K:=fun v=>∃res0:List (List UInt8),K res0∧v = .sl .ext (List.map rowS res0)) hf rfl (w114_0 (σ:=sl0 [m0.av,.i .i64 k1,x2.av]) (fun σ st  o0 res0 H6 hk=>⟨.sl o0 (List.map rowS res0),by simp only [pf114,ares,aresL,H6,ares1,Option.map_some],_,rfl,res0,hk,rfl⟩) rfl rfl rfl h)
  exact ⟨res0,hk,hv⟩
def r137_0:List AI:=[oC 2 (.s [])]
def r137_1:List AI:=[oM 3 0,
 oO 4 (.call false 16 [(.t 3)]),
 oM 2 4]
abbrev b137:AC:=(.seq (.reg 0 r137_0) (.seq (.reg 1 r137_1) .ret))
def pf137:AF:={ nt:=5,res:=[.tmp 2],body:=b137 }
abbrev H137 (Q:AE→Sl→St→Prop)(K:List UInt8→Prop):Prop:=∀(σ:Sl)(st:St)(res0:List UInt8),σ 2 = .s res0→K res0→Q .ret σ st
def T137_0 (prog:Prog)(K:List UInt8→Prop)(n0:Int):Prop:=
  ∃r'1:List UInt8,Pus prog 16 [.i .i64 n0] (.s r'1)∧K r'1
section
variable {prog:Prog}{d:Nat}{Q:AE→Sl→St→Prop}{K:List UInt8→Prop}(hQ:H137 Q K){σ:Sl}{st:St}
include hQ
theorem w137_0 {n0:Int}(H0:σ 0 = .i .i64 n0)(h:T137_0 prog K n0):W prog d (.seq (.reg 0 r137_0) (.seq (.reg 1 r137_1) .ret)) σ st Q:=
 q_ rfl (m_ (e_ (q_ rfl (m_ (h.elim fun r'1 e'2=>ca_ (sc H0 rfl sn) e'2.1 (m_ (e_ (rt_ (hQ _ _ _ rfl e'2.2)))))))))
end
theorem p137 {prog:Prog}(hf:prog.fn 137 = some pf137){n0:Int}{K:List UInt8→Prop}(h:T137_0 prog K n0) :∃res0:List UInt8,K res0∧Pus prog 137 [.i .i64 n0] (.s res0):=by
  obtain ⟨v,hv,res0,hk,rfl⟩:=Pus.of (K:=fun v=>∃res0:List UInt8,K res0∧v = .s res0) hf rfl (w137_0 (σ:=sl0 [.i .i64 n0]) (fun σ st   res0 H2 hk=>⟨.s res0,by simp only [pf137,ares,aresL,H2,ares1,Option.map_some],_,rfl,res0,hk,rfl⟩) rfl h)
  exact ⟨res0,hk,hv⟩
def r138_0:List AI:=[oC 2 (.s [])]
def r138_1:List AI:=[oO 4 (.bslice [.s []] 4 [(0,(.c (.s [99,97,108,108]))),(1,(.c (.s [100,101,102,101,114]))),(2,(.c (.s [112,97,110,105,99]))),(3,(.c (.s [101,120,105,116])))]),
 oM 3 4]
def r138_2:List AI:=[oM 5 3,
 oM 6 0,
 oO 7 (.iaL 1 (.t 5) (.t 6)),
 oL 8 7,
 oM 2 8]
abbrev b138:AC:=(.seq (.reg 0 r138_0) (.seq (.reg 1 r138_1) (.seq (.reg 2 r138_2) .ret)))
def pf138:AF:={ nt:=9,res:=[.tmp 2],body:=b138 }
abbrev H138 (Q:AE→Sl→St→Prop)(K:List UInt8→Prop):Prop:=∀(σ:Sl)(st:St)(res0:List UInt8),σ 2 = .s res0→K res0→Q .ret σ st
def T138_0 (prog:Prog)(K:List UInt8→Prop)(m0:Int):Prop:=
  0≤m0∧∃c'1:List UInt8,[([99,97,108,108]:List UInt8),([100,101,102,101,114]:List UInt8),([112,97,110,105,99]:List UInt8),([101,120,105,116]:List UInt8)][(m0).toNat]? = some c'1∧K c'1
section
variable {prog:Prog}{d:Nat}{Q:AE→Sl→St→Prop}{K:List UInt8→Prop}(hQ:H138 Q K){σ:Sl}{st:St}
include hQ
theorem w138_0 {m0:Int}(H0:σ 0 = .i .u64 m0)(h:T138_0 prog K m0):W prog d (.seq (.reg 0 r138_0) (.seq (.reg 1 r138_1) (.seq (.reg 2 r138_2) .ret))) σ st Q:=
 q_ rfl (m_ (e_ (q_ rfl (s_bslM (f:=rowS) (l:=[([99,97,108,108]:List UInt8),([100,101,102,101,114]:List UInt8),([112,97,110,105,99]:List UInt8),([101,120,105,116]:List UInt8)]) rfl rfl (g_cons rfl rfl rfl (g_cons rfl rfl rfl (g_cons rfl rfl rfl (g_cons rfl rfl rfl g_nil)))) rfl (s_mvL rfl (e_ (q_ rfl (s_mvL rfl (m_ (h.2.elim fun c'1 e'2=>ia_ rfl H0 h.1 e'2.1 rfl rfl (lf_ rfl rfl rfl (m_ (e_ (rt_ (hQ _ _ _ rfl e'2.2)))))))))))))))
end
theorem p138 {prog:Prog}(hf:prog.fn 138 = some pf138){m0:Int}{K:List UInt8→Prop}(h:T138_0 prog K m0) :∃res0:List UInt8,K res0∧Pus prog 138 [.i .u64 m0] (.s res0):=by
  obtain ⟨v,hv,res0,hk,rfl⟩:=Pus.of (K:=fun v=>∃res0:List UInt8,K res0∧v = .s res0) hf rfl (w138_0 (σ:=sl0 [.i .u64 m0]) (fun σ st   res0 H2 hk=>⟨.s res0,by simp only [pf138,ares,aresL,H2,ares1,Option.map_some],_,rfl,res0,hk,rfl⟩) rfl h)
  exact ⟨res0,hk,hv⟩
def r88_0:List AI:=[oO 2 (.box 4 (.t 0)),
 oO 3 (.box 4 (.t 1)),
 oC 4 (.b false)]
def r88_1:List AI:=[oF 5 0 2,
 oL 6 5,
 oF 7 0 3,
 oL 8 7,
 oB 9 .eql (.t 6) (.t 8),
 oM 10 9,
 oG 11 (.fad 1 (.t 2)) 10 true,
 oG 12 (.load 1 false (.t 11)) 10 true,
 oG 13 (.fad 1 (.t 3)) 10 true,
 oG 14 (.load 1 false (.t 13)) 10 true,
 oG 15 (.bin .eql (.t 12) (.t 14)) 10 true,
 oO 16 (.pick (.t 10) (.t 15) (.c (.b false))),
 oM 17 16,
 oG 18 (.fad 2 (.t 2)) 17 true,
 oG 19 (.load 1 false (.t 18)) 17 true,
 oG 20 (.fad 2 (.t 3)) 17 true,
 oG 21 (.load 1 false (.t 20)) 17 true,
 oG 22 (.bin .eql (.t 19) (.t 21)) 17 true,
 oO 23 (.pick (.t 17) (.t 22) (.c (.b false))),
 oM 24 23,
 oG 25 (.fad 3 (.t 2)) 24 true,
 oG 26 (.load 1 false (.t 25)) 24 true,
 oG 27 (.fad 3 (.t 3)) 24 true,
 oG 28 (.load 1 false (.t 27)) 24 true,
 oG 29 (.call false 124 [(.t 26),(.t 28)]) 24 true,
 oO 30 (.pick (.t 24) (.t 29) (.c (.b false))),
 oM 4 30]
abbrev b88:AC:=(.seq (.reg 0 r88_0) (.seq (.reg 1 r88_1) .ret))
def pf88:AF:={ nt:=31,res:=[.tmp 4],body:=b88 }
abbrev H88 (Q:AE→Sl→St→Prop)(K:Bool→Prop):Prop:=∀(σ:Sl)(st:St)(res0:Bool),σ 4 = .b res0→K res0→Q .ret σ st
def T88_0 (prog:Prog)(K:Bool→Prop)(a0:Frm)(b1:Frm):Prop:=
  (a0.func = b1.func→(a0.pos = b1.pos→(a0.mode = b1.mode→∃r'4:Bool,Pus prog 124 [.sl .ext (List.map Loc.row a0.locals),.sl .ext (List.map Loc.row b1.locals)] (.b r'4)∧K r'4)∧(¬(a0.mode = b1.mode)→K false))∧(¬(a0.pos = b1.pos)→K false))∧(¬(a0.func = b1.func)→K false)
section
variable {prog:Prog}{d:Nat}{Q:AE→Sl→St→Prop}{K:Bool→Prop}(hQ:H88 Q K){σ:Sl}{st:St}
include hQ
theorem w88_0 {a0 b1:Frm}(H0:σ 0 = a0.av)(H1:σ 1 = b1.av)(h:T88_0 prog K a0 b1):W prog d (.seq (.reg 0 r88_0) (.seq (.reg 1 r88_1) .ret)) σ st Q:=
 q_ rfl (s_box H0 rfl (s_box H1 rfl (m_ (e_ (q_ rfl (f_ rfl (l_ rfl (lk_other rfl lk_here) rfl rfl (f_ rfl (l_ rfl lk_here rfl rfl (b_ rfl rfl eql_ (s_mvB rfl (em_ (g:=10) rfl (fun g'1=>gy_ rfl (f_ rfl (gy_ rfl (l_ rfl (lk_other rfl lk_here) rfl rfl (gy_ rfl (f_ rfl (gy_ rfl (l_ rfl lk_here rfl rfl (gy_ rfl (b_ rfl rfl eql_ (pt_ rfl rfl (s_mvB rfl (em_ (g:=17) rfl (fun g'2=>gy_ rfl (f_ rfl (gy_ rfl (l_ rfl (lk_other rfl lk_here) rfl rfl (gy_ rfl (f_ rfl (gy_ rfl (l_ rfl lk_here rfl rfl (gy_ rfl (b_ rfl rfl eql_ (pt_ rfl rfl (s_mvB rfl (em_ (g:=24) rfl (fun g'3=>gy_ rfl (f_ rfl (gy_ rfl (l_ rfl (lk_other rfl lk_here) rfl rfl (gy_ rfl (f_ rfl (gy_ rfl (l_ rfl lk_here rfl rfl (gy_ rfl ((((h.1 g'1).1 g'2).1 g'3).elim fun r'4 e'5=>ca_ (sc rfl rfl (sc rfl rfl sn)) e'5.1 (pt_ rfl rfl (s_mvB rfl (e_ (rt_ (hQ _ _ _ rfl e'5.2))))))))))))))) (fun g'3=>gn_ (b:=false) rfl rfl (gn_ (b:=false) rfl rfl (gn_ (b:=false) rfl rfl (gn_ (b:=false) rfl rfl (gn_ (b:=false) rfl rfl (pf_ rfl rfl (s_mvB rfl (e_ (rt_ (hQ _ _ _ rfl (((h.1 g'1).1 g'2).2 g'3)))))))))))))))))))))))) (fun g'2=>gn_ (b:=false) rfl rfl (gn_ (b:=false) rfl rfl (gn_ (b:=false) rfl rfl (gn_ (b:=false) rfl rfl (gn_ (b:=false) rfl rfl (pf_ rfl rfl (s_mvB rfl (gn_ (b:=false) rfl rfl (gn_ (b:=false) rfl rfl (gn_ (b:=false) rfl rfl (gn_ (b:=false) rfl rfl (gn_ (b:=false) rfl rfl (pf_ rfl rfl (s_mvB rfl (e_ (rt_ (hQ _ _ _ rfl ((h.1 g'1).2 g'2))))))))))))))))))))))))))))))) (fun g'1=>gn_ (b:=false) rfl rfl (gn_ (b:=false) rfl rfl (gn_ (b:=false) rfl rfl (gn_ (b:=false) rfl rfl (gn_ (b:=false) rfl rfl (pf_ rfl rfl (s_mvB rfl (gn_ (b:=false) rfl rfl (gn_ (b:=false) rfl rfl (gn_ (b:=false) rfl rfl (gn_ (b:=false) rfl rfl (gn_ (b:=false) rfl rfl (pf_ rfl rfl (s_mvB rfl (gn_ (b:=false) rfl rfl (gn_ (b:=false) rfl rfl (gn_ (b:=false) rfl rfl (gn_ (b:=false) rfl rfl (gn_ (b:=false) rfl rfl (pf_ rfl rfl (s_mvB rfl (e_ (rt_ (hQ _ _ _ rfl (h.2 g'1)))))))))))))))))))))))))))))))))))))
end
theorem p88 {prog:Prog}(hf:prog.fn 88 = some pf88){a0:Frm}{b1:Frm}{K:Bool→Prop}(h:T88_0 prog K a0 b1) :∃res0:Bool,K res0∧Pus prog 88 [a0.av,b1.av] (.b res0):=by
  obtain ⟨v,hv,res0,hk,rfl⟩:=Pus.of (K:=fun v=>∃res0:Bool,K res0∧v = .b res0) hf rfl (w88_0 (σ:=sl0 [a0.av,b1.av]) (fun σ st   res0 H4 hk=>⟨.b res0,by simp only [pf88,ares,aresL,H4,ares1,Option.map_some],_,rfl,res0,hk,rfl⟩) rfl rfl h)
  exact ⟨res0,hk,hv⟩
def r124_0:List AI:=[oC 4 (.b false)]
def r124_1:List AI:=[oM 6 0,
 oO 7 (.len false (.t 6)),
 oM 8 1,
 oO 9 (.len false (.t 8)),
 oB 10 .neq (.t 7) (.t 9)]
def r124_2:List AI:=[oC 4 (.b false)]
def r124_3:List AI:=[oC 5 (.i .i64 0)]
def r124_4:List AI:=[oM 11 5,
 oM 12 0,
 oO 13 (.len false (.t 12)),
 oB 14 .lss (.t 11) (.t 13)]
def r124_5:List AI:=[oM 17 0,
 oM 18 5,
 oO 19 (.iaL 6 (.t 17) (.t 18)),
 oF 20 0 19,
 oL 21 20,
 oM 22 1,
 oM 23 5,
 oO 24 (.iaL 6 (.t 22) (.t 23)),
 oF 25 0 24,
 oL 26 25,
 oB 27 .neq (.t 21) (.t 26),
 oM 28 27,
 oG 29 (.mv (.t 0)) 28 false,
 oG 30 (.mv (.t 5)) 28 false,
 oG 31 (.iaL 6 (.t 29) (.t 30)) 28 false,
 oG 32 (.fad 1 (.t 31)) 28 false,
 oG 33 (.load 5 true (.t 32)) 28 false,
 oG 34 (.mv (.t 1)) 28 false,
 oG 35 (.mv (.t 5)) 28 false,
 oG 36 (.iaL 6 (.t 34) (.t 35)) 28 false,
 oG 37 (.fad 1 (.t 36)) 28 false,
 oG 38 (.load 5 true (.t 37)) 28 false,
 oG 39 (.call false 78 [(.t 33),(.t 38)]) 28 false,
 oG 40 (.un .not (.t 39)) 28 false,
 oO 41 (.pick (.t 28) (.c (.b true)) (.t 40))]
def r124_6:List AI:=[oC 4 (.b false)]
def r124_7:List AI:=[oM 15 5,
 oB 16 .add (.t 15) (.c (.i .i64 1)),
 oM 5 16]
def r124_8:List AI:=[oC 4 (.b true)]
abbrev l124_0:AC:=(.seq (.seq (.reg 4 r124_4) (.cond (.t 14) .skip (.exit 0))) (.seq (.block 1 (.seq (.reg 6 r124_5) (.cond (.t 41) (.seq (.reg 7 r124_6) .ret) .skip))) (.reg 5 r124_7)))
abbrev c124_1:AC:=(.seq (.reg 8 r124_8) .ret)
abbrev b124:AC:=(.seq (.reg 0 r124_0) (.seq (.seq (.reg 1 r124_1) (.cond (.t 10) (.seq (.reg 2 r124_2) .ret) .skip)) (.seq (.seq (.reg 3 r124_3) (.block 0 (.loop l124_0))) c124_1)))
def pf124:AF:={ nt:=42,res:=[.tmp 4],body:=b124 }
abbrev H124 (Q:AE→Sl→St→Prop)(K:Bool→Prop):Prop:=∀(σ:Sl)(st:St)(res0:Bool),σ 4 = .b res0→K res0→Q .ret σ st
abbrev I124_0 (prog:Prog)(d:Nat)(Q:AE→Sl→St→Prop)(a0:List Loc)(b1:List Loc)(i5:Int):Prop:=
  ∀(σ:Sl)(st:St) (o_a0 o_b1:Own),σ 0 = .sl o_a0 (List.map Loc.row a0)→σ 1 = .sl o_b1 (List.map Loc.row b1)→σ 5 = .i .i64 i5→W prog d (.loop l124_0) σ st (blockW 0 (thenW prog d c124_1 Q))
def T124_2 (prog:Prog)(K:Bool→Prop) :Prop:=
  K true
def T124_1 (prog:Prog)(K:Bool→Prop)(P0:Int→Prop)(a0:List Loc)(b1:List Loc)(i5:Int):Prop:=
  (i5 < (a0.length:Int)→0≤i5∧∃c'2:Loc,a0[(i5).toNat]? = some c'2∧0≤i5∧∃c'4:Loc,b1[(i5).toNat]? = some c'4∧(c'2.slot≠c'4.slot→K false)∧(¬(c'2.slot≠c'4.slot)→0≤i5∧∃c'7:Loc,a0[(i5).toNat]? = some c'7∧0≤i5∧∃c'9:Loc,b1[(i5).toNat]? = some c'9∧∃r'11:Bool,Pus prog 78 [c'7.value.av,c'9.value.av] (.b r'11)∧((!r'11) = true→K false)∧((!r'11) = false→P0 (IntKind.i64.wrap (i5 + 1)))))∧(¬(i5 < (a0.length:Int))→T124_2 prog K )
def T124_0 (prog:Prog)(K:Bool→Prop)(a0:List Loc)(b1:List Loc):Prop:=
  ((a0.length:Int)≠(b1.length:Int)→K false)∧(¬((a0.length:Int)≠(b1.length:Int))→∀P0:Int→Prop,(∀(i5:Int),T124_1 prog K P0 a0 b1 i5→P0 i5)→P0 0)
section
variable {prog:Prog}{d:Nat}{Q:AE→Sl→St→Prop}{K:Bool→Prop}(hQ:H124 Q K){σ:Sl}{st:St}
include hQ
theorem w124_2 (h:T124_2 prog K ):W prog d c124_1 σ st Q:=
 q_ rfl (m_ (e_ (rt_ (hQ _ _ _ rfl h))))
theorem w124_1 {a0 b1:List Loc}{i5:Int}{P0:Int→Prop} (kP0 :∀(i5:Int),P0 i5→I124_0 prog d Q a0 b1 i5){o_a0 o_b1:Own}(H0:σ 0 = .sl o_a0 (List.map Loc.row a0))(H1:σ 1 = .sl o_b1 (List.map Loc.row b1))(H5:σ 5 = .i .i64 i5)(h:T124_1 prog K P0 a0 b1 i5):W prog d l124_0 σ st (thenW prog d (.loop l124_0) (blockW 0 (thenW prog d c124_1 Q))):=
 sq_ (q_ rfl (m_ (s_mvL H0 (ll_ rfl (b_ H5 rfl lss_ (e_ (cs_ rfl (fun g'1=>sk_ (sq_ (bk_ (q_ rfl (s_mvL H0 (s_mvI H5 ((h.1 g'1).2.elim fun c'2 e'3=>ia_ rfl rfl (h.1 g'1).1 e'3.1 (Loc.row_eq c'2) rfl (ff_ rfl (lf_ rfl rfl rfl (s_mvL H1 (s_mvI H5 (e'3.2.2.elim fun c'4 e'5=>ia_ rfl rfl e'3.2.1 e'5.1 (Loc.row_eq c'4) rfl (ff_ rfl (lf_ rfl rfl rfl (b_ rfl rfl neq_ (s_mvB rfl (em_ (g:=28) rfl (fun g'6=>gn_ (b:=true) rfl rfl (gn_ (b:=true) rfl rfl (gn_ (b:=true) rfl rfl (gn_ (b:=true) rfl rfl (gn_ (b:=true) rfl rfl (gn_ (b:=true) rfl rfl (gn_ (b:=true) rfl rfl (gn_ (b:=true) rfl rfl (gn_ (b:=true) rfl rfl (gn_ (b:=true) rfl rfl (gn_ (b:=true) rfl rfl (gn_ (b:=true) rfl rfl (pt_ rfl rfl (e_ (ct_ rfl (q_ rfl (m_ (e_ (rt_ (hQ _ _ _ rfl (e'5.2.1 g'6))))))))))))))))))))) (fun g'6=>gy_ rfl (s_mvL H0 (gy_ rfl (s_mvI H5 (gy_ rfl ((e'5.2.2 g'6).2.elim fun c'7 e'8=>ia_ rfl rfl (e'5.2.2 g'6).1 e'8.1 (Loc.row_eq c'7) rfl (gy_ rfl (ff_ rfl (gy_ rfl (lf_ rfl rfl rfl (gy_ rfl (s_mvL H1 (gy_ rfl (s_mvI H5 (gy_ rfl (e'8.2.2.elim fun c'9 e'10=>ia_ rfl rfl e'8.2.1 e'10.1 (Loc.row_eq c'9) rfl (gy_ rfl (ff_ rfl (gy_ rfl (lf_ rfl rfl rfl (gy_ rfl (e'10.2.elim fun r'11 e'12=>ca_ (sc rfl rfl (sc rfl rfl sn)) e'12.1 (gy_ rfl (nt_ rfl (pf_ rfl rfl (e_ (cb_ rfl (fun g'13=>q_ rfl (m_ (e_ (rt_ (hQ _ _ _ rfl (e'12.2.1 g'13)))))) (fun g'13=>sk_ (W.reg0 rfl fun _ _=>m_ (b_ H5 rfl add_ (m_ (e_ (kP0 _ (e'12.2.2 g'13) _ _ _ _ H0 H1 rfl)))))))))))))))))))))))))))))))))))))))))))))))))) (fun g'1=>ex_ (w124_2 hQ (h.2 g'1))))))))))
theorem w124_0 {a0 b1:List Loc}{o_a0 o_b1:Own}(H0:σ 0 = .sl o_a0 (List.map Loc.row a0))(H1:σ 1 = .sl o_b1 (List.map Loc.row b1))(h:T124_0 prog K a0 b1):W prog d (.seq (.reg 0 r124_0) (.seq (.seq (.reg 1 r124_1) (.cond (.t 10) (.seq (.reg 2 r124_2) .ret) .skip)) (.seq (.seq (.reg 3 r124_3) (.block 0 (.loop l124_0))) c124_1))) σ st Q:=
 q_ rfl (m_ (e_ (sq_ (q_ rfl (s_mvL H0 (ll_ rfl (s_mvL H1 (ll_ rfl (b_ rfl rfl neq_ (e_ (cs_ rfl (fun g'1=>q_ rfl (m_ (e_ (rt_ (hQ _ _ _ rfl (h.1 g'1)))))) (fun g'1=>sk_ (sq_ (q_ rfl (m_ (e_ (bk_ ((h.2 g'1) (I124_0 prog d Q a0 b1) (fun _ hb _ _ _ _ H0 H1 H5=>W.loop (w124_1 hQ (fun _ x=>x) H0 H1 H5 hb)) _ _ _ _ H0 H1 rfl))))))))))))))))))
end
theorem p124 {prog:Prog}(hf:prog.fn 124 = some pf124){a0:List Loc}{b1:List Loc}{K:Bool→Prop}(h:T124_0 prog K a0 b1) :∃res0:Bool,K res0∧Pus prog 124 [.sl .ext (List.map Loc.row a0),.sl .ext (List.map Loc.row b1)] (.b res0):=by
  obtain ⟨v,hv,res0,hk,rfl⟩:=Pus.of (K:=fun v=>∃res0:Bool,K res0∧v = .b res0) hf rfl (w124_0 (σ:=sl0 [.sl .ext (List.map Loc.row a0),.sl .ext (List.map Loc.row b1)]) (fun σ st   res0 H4 hk=>⟨.b res0,by simp only [pf124,ares,aresL,H4,ares1,Option.map_some],_,rfl,res0,hk,rfl⟩) rfl rfl h)
  exact ⟨res0,hk,hv⟩
end Go.AM
