/- Parts of the proof: U38e, U38f, U38g, U38h, K69, C30, C30b. -/
import Derived.Test.YtcojcdpoeaaigaaG2
import Derived.Test.YtcojcdpoeaaigaaRows
import Derived.Test.YtcojcdpoeaaigaaG3
import Derived.Test.YtcojcdpoeaaigaaG4
import Derived.Shelf.Strings.Builder1
set_option linter.all false
/- Parts of the proof. -/
namespace Go.AM
open Go
set_option linter.unusedVariables false
set_option linter.unusedSimpArgs false
set_option maxRecDepth 4000
attribute [local irreducible] WO fillCells fillRows
def r140_0:List AI:=[oC 4 (.i .i64 0),
 oC 5 (.b false)]
def r140_1:List AI:=[oM 9 0,
 oO 10 (.call true 131 [(.t 9)]),
 oM 8 10,
 oE 11 0 8,
 oE 12 1 8,
 oM 6 11,
 oM 7 12]
def r140_2:List AI:=[oM 13 6,
 oM 14 7,
 oM 15 14,
 oG 16 (.mv (.t 6)) 15 true,
 oG 17 (.bin .geq (.t 16) (.c (.i .i64 0))) 15 true,
 oO 18 (.pick (.t 15) (.t 17) (.c (.b false))),
 oM 19 18,
 oG 20 (.mv (.t 6)) 19 true,
 oG 21 (.mv (.t 1)) 19 true,
 oG 22 (.bin .lss (.t 20) (.t 21)) 19 true,
 oO 23 (.pick (.t 19) (.t 22) (.c (.b false))),
 oM 4 13,
 oM 5 23]
abbrev b140:AC:=(.seq (.reg 0 r140_0) (.seq (.reg 1 r140_1) (.seq (.reg 2 r140_2) .ret)))
def pf140:AF:={ nt:=24,res:=[.tmp 4,.tmp 5],body:=b140 }
abbrev H140 (d:Nat)(st0:St)(kp:Key)(vp:Nat)(Q:AE→Sl→St→Prop)(K:Int→Bool→Sc→Prop):Prop:=∀(σ:Sl)(st:St)(res0:Int)(res1:Bool)(b_:Sc),σ 4 = .i .i64 res0→σ 5 = .b res1→lk st.bx kp = some (vp,[.s b_.left])→Fr d kp st0.bx st0.ow st.bx st.ow→K res0 res1 b_→Q .ret σ st
def T140_0 (prog:Prog)(K:Int→Bool→Sc→Prop)(n1:Int)(mP:Sc):Prop:=
  ∃r'1:Int,∃r'2:Bool,∃b'8:Sc,PuX prog 131 (Bx [.s mP.left]) [] (fun r=>r = .tup [.i .i64 r'1,.b r'2]) ((Bx [.s b'8.left]))∧(r'2 = true→(r'1 ≥ 0→K r'1 (decide (r'1 < n1)) b'8)∧(¬(r'1 ≥ 0)→K r'1 false b'8))∧(r'2 = false→K r'1 false b'8)
section
variable {prog:Prog}{d:Nat}{Q:AE→Sl→St→Prop}{K:Int→Bool→Sc→Prop}{st0:St}{kp:Key}{vp:Nat}(hQ:H140 d st0 kp vp Q K)(hkp:kp.1 < d){σ:Sl}{st:St}
include hQ hkp
theorem w140_0 {n1:Int}{mP:Sc}(H0:σ 0 = .p kp vp 0)(H1:σ 1 = .i .i64 n1)(BP:lk st.bx kp = some (vp,[.s mP.left]))(FR:Fr d kp st0.bx st0.ow st.bx st.ow)(h:T140_0 prog K n1 mP):W prog d (.seq (.reg 0 r140_0) (.seq (.reg 1 r140_1) (.seq (.reg 2 r140_2) .ret))) σ st Q:=
 q_ rfl (m_ (m_ (e_ (q_ rfl (m_ (h.elim fun r'1 e'11=>e'11.elim fun r'2 e'12=>e'12.elim fun b'8 e'4=>cX_ (sec H0 sen) e'4.1 (Nat.lt_succ_of_lt hkp) BP (fun st'5 hb'6 hf'7=>m_ (x_ rfl rfl (x_ rfl rfl (m_ (m_ (e_ (q_ rfl (s_mvI rfl (s_mvB rfl (s_mvB rfl (eb_ (g:=15) rfl (fun g'9=>gy_ rfl (s_mvI rfl (gy_ rfl (b_ rfl rfl geq_ (pt_ rfl rfl (s_mvB rfl (em_ (g:=19) rfl (fun g'10=>gy_ rfl (s_mvI rfl (gy_ rfl (s_mvI H1 (gy_ rfl (b_ rfl rfl lss_ (pt_ rfl rfl (s_mvI rfl (s_mvB rfl (e_ (rt_ (hQ _ _ _ _ _ rfl rfl hb'6 (Fr.pass FR hf'7) ((e'4.2.1 g'9).1 g'10))))))))))))) (fun g'10=>gn_ (b:=false) rfl rfl (gn_ (b:=false) rfl rfl (gn_ (b:=false) rfl rfl (pf_ rfl rfl (s_mvI rfl (s_mvB rfl (e_ (rt_ (hQ _ _ _ _ _ rfl rfl hb'6 (Fr.pass FR hf'7) ((e'4.2.1 g'9).2 g'10))))))))))))))))) (fun g'9=>gn_ (b:=false) rfl rfl (gn_ (b:=false) rfl rfl (pf_ rfl rfl (s_mvB rfl (gn_ (b:=false) rfl rfl (gn_ (b:=false) rfl rfl (gn_ (b:=false) rfl rfl (pf_ rfl rfl (s_mvI rfl (s_mvB rfl (e_ (rt_ (hQ _ _ _ _ _ rfl rfl hb'6 (Fr.pass FR hf'7) (e'4.2.2 g'9)))))))))))))))))))))))))))))))
end
theorem p140 {prog:Prog}(hf:prog.fn 140 = some pf140){n1:Int}{mP:Sc}{K:Int→Bool→Sc→Prop}(h:T140_0 prog K n1 mP):PuXK prog 140 (Bx [.s mP.left]) [.i .i64 n1] (fun r (b_:Sc)=>∃res0:Int,∃res1:Bool,(r = .tup [.i .i64 res0,.b res1])∧K res0 res1 b_) (fun b_=>(Bx [.s b_.left])):=
  PuXK.of hf rfl (fun _=>Bx.out) fun d st kp vp hkp hB=>w140_0 (st0:=st) (Q:=fun e σ st'=>(e = .normal∨e = .ret)∧∃r b_,ares σ st' pf140.res = some r∧_∧_∧Fr d kp st.bx st.ow st'.bx st'.ow) (fun σ st'   res0 res1 b_ H4 H5 hb hf hk=>⟨.inr rfl,.tup [.i .i64 res0,.b res1],b_,by simp only [pf140,ares,aresL,H4,H5,ares1,Option.map_some,H4,H5],⟨res0,res1,rfl,hk⟩,hb,hf⟩) hkp (σ:=sl0 [.p kp vp 0,.i .i64 n1]) rfl rfl hB Fr.refl h
def r117_0:List AI:=[oO 2 (.box 3 (.t 0)),
 oC 4 (.i .i64 0),
 oO 5 (.alloc [.i .i64 0,.i .i64 0,.i .u64 0,.sl .full []]),
 oC 6 (.b false)]
def r117_1:List AI:=[oM 13 1,
 oO 14 (.build [.s []] [(0,1,(.t 13))]),
 oO 15 (.box 1 (.t 14)),
 oM 7 15]
def r117_2:List AI:=[oO 8 (.alloc [.i .i64 0,.i .i64 0,.i .u64 0,.sl .full []])]
def r117_3:List AI:=[oM 16 7,
 oO 17 (.call true 128 [(.t 16),(.c (.s [35]))]),
 oO 18 (.un .not (.t 17))]
def r117_4:List AI:=[oO 19 (.load 4 true (.t 8)),
 oC 4 (.i .i64 0),
 oS 4 5 19,
 oC 6 (.b false)]
def r117_5:List AI:=[oM 21 7,
 oO 22 (.call true 140 [(.t 21),(.c (.i .i64 170))]),
 oM 20 22,
 oE 23 0 20,
 oE 24 1 20,
 oM 9 23,
 oM 10 24]
def r117_6:List AI:=[oM 25 10,
 oO 26 (.un .not (.t 25)),
 oM 27 26,
 oG 28 (.mv (.t 7)) 27 false,
 oG 29 (.call true 128 [(.t 28),(.c (.s [32]))]) 27 false,
 oG 30 (.un .not (.t 29)) 27 false,
 oO 31 (.pick (.t 27) (.c (.b true)) (.t 30))]
def r117_7:List AI:=[oO 32 (.load 4 true (.t 8)),
 oC 4 (.i .i64 0),
 oS 4 5 32,
 oC 6 (.b false)]
def r117_8:List AI:=[oM 34 7,
 oF 35 2 2,
 oL 36 35,
 oO 37 (.len false (.t 36)),
 oO 38 (.call true 140 [(.t 34),(.t 37)]),
 oM 33 38,
 oE 39 0 33,
 oE 40 1 33,
 oF 41 0 8,
 oS 1 41 39,
 oM 10 40]
def r117_9:List AI:=[oM 42 10,
 oO 43 (.un .not (.t 42)),
 oM 44 43,
 oG 45 (.mv (.t 7)) 44 false,
 oG 46 (.fad 2 (.t 2)) 44 false,
 oG 47 (.load 1 false (.t 46)) 44 false,
 oG 48 (.fad 0 (.t 8)) 44 false,
 oG 49 (.load 1 false (.t 48)) 44 false,
 oG 50 (.iaL 7 (.t 47) (.t 49)) 44 false,
 oG 51 (.fad 0 (.t 50)) 44 false,
 oG 52 (.load 1 false (.t 51)) 44 false,
 oG 53 (.call false 112 [(.t 52)]) 44 false,
 oG 54 (.bin .add (.c (.s [32])) (.t 53)) 44 false,
 oG 55 (.bin .add (.t 54) (.c (.s [32,97,116,32]))) 44 false,
 oG 56 (.call true 128 [(.t 45),(.t 55)]) 44 false,
 oG 57 (.un .not (.t 56)) 44 false,
 oO 58 (.pick (.t 44) (.c (.b true)) (.t 57))]
def r117_10:List AI:=[oO 59 (.load 4 true (.t 8)),
 oC 4 (.i .i64 0),
 oS 4 5 59,
 oC 6 (.b false)]
def r117_11:List AI:=[oM 61 7,
 oF 62 2 2,
 oL 63 62,
 oF 64 0 8,
 oL 65 64,
 oO 66 (.iaL 7 (.t 63) (.t 65)),
 oF 67 4 66,
 oL 68 67,
 oO 69 (.len false (.t 68)),
 oO 70 (.call true 140 [(.t 61),(.t 69)]),
 oM 60 70,
 oE 71 0 60,
 oE 72 1 60,
 oF 73 1 8,
 oS 1 73 71,
 oM 10 72]
def r117_12:List AI:=[oM 74 10,
 oO 75 (.un .not (.t 74)),
 oM 76 75,
 oG 77 (.mv (.t 7)) 76 false,
 oG 78 (.call true 128 [(.t 77),(.c (.s [32]))]) 76 false,
 oG 79 (.un .not (.t 78)) 76 false,
 oO 80 (.pick (.t 76) (.c (.b true)) (.t 79))]
def r117_13:List AI:=[oO 81 (.load 4 true (.t 8)),
 oC 4 (.i .i64 0),
 oS 4 5 81,
 oC 6 (.b false)]
def r117_14:List AI:=[oO 82 (.call false 113 []),
 oO 11 (.alloc [.s [],.s [],.s [],.s []]),
 oS 4 11 82]
def r117_15:List AI:=[oO 83 (.slA 4 1 (.t 11) none none),
 oM 84 7,
 oN 85 84,
 oF 86 0 85,
 oL 87 86,
 oO 88 (.call false 141 [(.t 83),(.t 87)]),
 oM 12 88]
def r117_16:List AI:=[oM 89 12,
 oO 90 (.max (.c (.i .i64 0)) (.t 89)),
 oO 91 (.cvi .u64 (.t 90)),
 oF 92 2 8,
 oS 1 92 91]
def r117_17:List AI:=[oM 93 9,
 oO 94 (.load 4 true (.t 8)),
 oM 95 12,
 oB 96 .geq (.t 95) (.c (.i .i64 0)),
 oM 4 93,
 oS 4 5 94,
 oM 6 96]
abbrev c117_0:AC:=(.cond (.t 31) (.seq (.reg 7 r117_7) .ret) .skip)
abbrev c117_1:AC:=(.cond (.t 58) (.seq (.reg 10 r117_10) .ret) .skip)
abbrev c117_2:AC:=(.cond (.t 80) (.seq (.reg 13 r117_13) .ret) .skip)
abbrev c117_3:AC:=(.seq (.reg 14 r117_14) (.seq (.reg 15 r117_15) (.seq (.reg 16 r117_16) (.seq (.reg 17 r117_17) .ret))))
abbrev c117_4:AC:=(.seq (.reg 11 r117_11) (.seq (.seq (.reg 12 r117_12) c117_2) c117_3))
abbrev c117_5:AC:=(.seq (.seq (.reg 9 r117_9) c117_1) c117_4)
abbrev c117_6:AC:=(.seq (.reg 8 r117_8) c117_5)
abbrev c117_7:AC:=(.seq (.seq (.reg 6 r117_6) c117_0) c117_6)
abbrev c117_8:AC:=(.seq (.reg 5 r117_5) c117_7)
abbrev c117_9:AC:=(.seq (.seq (.reg 3 r117_3) (.cond (.t 18) (.seq (.reg 4 r117_4) .ret) .skip)) c117_8)
abbrev c117_10:AC:=(.seq (.reg 2 r117_2) c117_9)
abbrev c117_11:AC:=(.seq (.reg 1 r117_1) c117_10)
abbrev b117:AC:=(.seq (.reg 0 r117_0) c117_11)
def pf117:AF:={ nt:=97,res:=[.tmp 4,.cell 5 4 true,.tmp 6],body:=b117 }
abbrev H117 (d:Nat)(st0:St)(Q:AE→Sl→St→Prop)(K:Int→Frm→Bool→Prop):Prop:=∀(σ:Sl)(st:St)(k1:Key)(v1:Nat)(res0:Int)(res1:Frm)(res2:Bool),σ 4 = .i .i64 res0→σ 5 = .p k1 v1 0→lk st.bx k1 = some (v1,[.i .i64 res1.func,.i .i64 res1.pos,.i .u64 res1.mode,.sl .full (List.map Loc.row res1.locals)])→σ 6 = .b res2→Fr d (d,0) st0.bx st0.ow st.bx st.ow→K res0 res1 res2→Q .ret σ st
def T117_12 (prog:Prog)(K:Int→Frm→Bool→Prop)(k9:Int)(m2:Frm)(m4098:Sc)(m8192:Frm):Prop:=
  ∃r'1:List (List UInt8),Pus prog 113 [] (.ag (List.map AV.s r'1))∧r'1.length = 4∧r'1.length = 4∧∃r'3:Int,Pus prog 141 [.sl .ext (List.map rowS r'1),.s m4098.left] (.i .i64 r'3)∧K k9 (Frm.mk m8192.func m8192.pos (IntKind.u64.wrap (if 0 < r'3 then r'3 else 0)) m8192.locals) (decide (r'3 ≥ 0))
def T117_11 (prog:Prog)(K:Int→Frm→Bool→Prop)(k9:Int)(t80:Bool)(m2:Frm)(m4098:Sc)(m8192:Frm):Prop:=
  (t80 = true→K 0 m8192 false)∧(t80 = false→T117_12 prog K k9 m2 m4098 m8192)
def T117_10 (prog:Prog)(K:Int→Frm→Bool→Prop)(k9:Int)(m0:Img)(m2:Frm)(m4098:Sc)(m8192:Frm):Prop:=
  0≤m8192.func∧∃c'1:Fun,m0.funcs[(m8192.func).toNat]? = some c'1∧∃r'3:Int,∃r'4:Bool,∃b'10:Sc,PuX prog 140 (Bx [.s m4098.left]) [.i .i64 (c'1.code.length:Int)] (fun r=>r = .tup [.i .i64 r'3,.b r'4]) ((Bx [.s b'10.left]))∧((!r'4) = true→T117_11 prog K k9 true m2 b'10 (Frm.mk m8192.func r'3 m8192.mode m8192.locals))∧((!r'4) = false→∃r'12:Bool,∃b'18:Sc,PuX prog 128 (Bx [.s b'10.left]) [.s ([32]:List UInt8)] (fun r=>r = .b r'12) ((Bx [.s b'18.left]))∧T117_11 prog K k9 (!r'12) m2 b'18 (Frm.mk m8192.func r'3 m8192.mode m8192.locals))
def T117_9 (prog:Prog)(K:Int→Frm→Bool→Prop)(k9:Int)(t58:Bool)(m0:Img)(m2:Frm)(m4098:Sc)(m8192:Frm):Prop:=
  (t58 = true→K 0 m8192 false)∧(t58 = false→T117_10 prog K k9 m0 m2 m4098 m8192)
def T117_8 (prog:Prog)(K:Int→Frm→Bool→Prop)(k9:Int)(ok10:Bool)(m0:Img)(m2:Frm)(m4098:Sc)(m8192:Frm):Prop:=
  ((!ok10) = true→T117_9 prog K k9 true m0 m2 m4098 m8192)∧((!ok10) = false→0≤m8192.func∧∃c'2:Fun,m0.funcs[(m8192.func).toNat]? = some c'2∧∃r'4:List UInt8,Pus prog 112 [.s c'2.name] (.s r'4)∧([32]:List UInt8).length + r'4.length≤maxStr∧(([32]:List UInt8) ++ r'4).length + ([32,97,116,32]:List UInt8).length≤maxStr∧∃r'6:Bool,∃b'12:Sc,PuX prog 128 (Bx [.s m4098.left]) [.s ((([32]:List UInt8) ++ r'4) ++ ([32,97,116,32]:List UInt8))] (fun r=>r = .b r'6) ((Bx [.s b'12.left]))∧T117_9 prog K k9 (!r'6) m0 m2 b'12 m8192)
def T117_7 (prog:Prog)(K:Int→Frm→Bool→Prop)(k9:Int)(m0:Img)(m2:Frm)(m4098:Sc)(m8192:Frm):Prop:=
  ∃r'1:Int,∃r'2:Bool,∃b'8:Sc,PuX prog 140 (Bx [.s m4098.left]) [.i .i64 (m0.funcs.length:Int)] (fun r=>r = .tup [.i .i64 r'1,.b r'2]) ((Bx [.s b'8.left]))∧T117_8 prog K k9 r'2 m0 m2 b'8 (Frm.mk r'1 m8192.pos m8192.mode m8192.locals)
def T117_6 (prog:Prog)(K:Int→Frm→Bool→Prop)(k9:Int)(t31:Bool)(m0:Img)(m2:Frm)(m4098:Sc)(m8192:Frm):Prop:=
  (t31 = true→K 0 m8192 false)∧(t31 = false→T117_7 prog K k9 m0 m2 m4098 m8192)
def T117_5 (prog:Prog)(K:Int→Frm→Bool→Prop)(k9:Int)(ok10:Bool)(m0:Img)(m2:Frm)(m4098:Sc)(m8192:Frm):Prop:=
  ((!ok10) = true→T117_6 prog K k9 true m0 m2 m4098 m8192)∧((!ok10) = false→∃r'2:Bool,∃b'8:Sc,PuX prog 128 (Bx [.s m4098.left]) [.s ([32]:List UInt8)] (fun r=>r = .b r'2) ((Bx [.s b'8.left]))∧T117_6 prog K k9 (!r'2) m0 m2 b'8 m8192)
def T117_4 (prog:Prog)(K:Int→Frm→Bool→Prop)(m0:Img)(m2:Frm)(m4098:Sc)(m8192:Frm):Prop:=
  ∃r'1:Int,∃r'2:Bool,∃b'8:Sc,PuX prog 140 (Bx [.s m4098.left]) [.i .i64 170] (fun r=>r = .tup [.i .i64 r'1,.b r'2]) ((Bx [.s b'8.left]))∧T117_5 prog K r'1 r'2 m0 m2 b'8 m8192
def T117_3 (prog:Prog)(K:Int→Frm→Bool→Prop)(m0:Img)(m2:Frm)(m4098:Sc)(m8192:Frm):Prop:=
  ∃r'1:Bool,∃b'7:Sc,PuX prog 128 (Bx [.s m4098.left]) [.s ([35]:List UInt8)] (fun r=>r = .b r'1) ((Bx [.s b'7.left]))∧((!r'1) = true→K 0 m8192 false)∧((!r'1) = false→T117_4 prog K m0 m2 b'7 m8192)
def T117_2 (prog:Prog)(K:Int→Frm→Bool→Prop)(m0:Img)(m2:Frm)(m4098:Sc):Prop:=
  T117_3 prog K m0 m2 m4098 (Frm.mk 0 0 0 ([]:List Loc))
def T117_1 (prog:Prog)(K:Int→Frm→Bool→Prop)(line1:List UInt8)(m0:Img)(m2:Frm):Prop:=
  T117_2 prog K m0 m2 (Sc.mk line1)
def T117_0 (prog:Prog)(K:Int→Frm→Bool→Prop)(m0:Img)(line1:List UInt8):Prop:=
  T117_1 prog K line1 m0 (Frm.mk 0 0 0 ([]:List Loc))
section
variable {prog:Prog}{d:Nat}{Q:AE→Sl→St→Prop}{K:Int→Frm→Bool→Prop}{st0:St}(hQ:H117 d st0 Q K){σ:Sl}{st:St}
include hQ
theorem w117_12 {k9:Int}{m2:Frm}{m4098:Sc}{m8192:Frm}{v2:Nat}{v4098:Nat}{v8192:Nat}(H5:σ 5 = .p (d,2) v2 0)(H7:σ 7 = .p (d,4098) v4098 0)(H8:σ 8 = .p (d,8192) v8192 0)(H9:σ 9 = .i .i64 k9)(B2:lk st.bx (d,2) = some (v2,[.i .i64 m2.func,.i .i64 m2.pos,.i .u64 m2.mode,.sl .full (List.map Loc.row m2.locals)]))(B4098:lk st.bx (d,4098) = some (v4098,[.s m4098.left]))(B8192:lk st.bx (d,8192) = some (v8192,[.i .i64 m8192.func,.i .i64 m8192.pos,.i .u64 m8192.mode,.sl .full (List.map Loc.row m8192.locals)]))(FR:Fr d (d,0) st0.bx st0.ow st.bx st.ow)(h:T117_12 prog K k9 m2 m4098 m8192):W prog d c117_3 σ st Q:=
 sq_ (W.reg (h.elim fun r'1 e'2=>ca_ sn e'2.1 (s_alloc (s_storeArr (f:=AV.s) (fun _=>rfl) rfl (show lk _ (d,57345) = some (_,(List.map AV.s (List.replicate 4 ([]:List UInt8)):List AV)) from lk_here) (by simp) rfl e'2.2.1 (e_ (q_ rfl (s_slA_S rfl lk_here e'2.2.2.1 rfl (m_ (s_nilP H7 (f_ rfl (l_ rfl (lk_del_other rfl (lk_other rfl (lk_other rfl B4098))) rfl rfl (e'2.2.2.2.elim fun r'3 e'4=>ca_ (sc rfl rfl (sc rfl rfl sn)) e'4.1 (m_ (e_ (q_ rfl (m_ (s_max rfl rfl (s_cvi rfl (f_ H8 (so_ rfl (lk_del_other rfl (lk_other rfl (lk_other rfl B8192))) rfl rfl rfl (e_ (q_ rfl (m_ (l_ H8 lk_here rfl rfl (m_ (b_ rfl rfl geq_ (m_ (so_ H5 (lk_other rfl (lk_del_other rfl (lk_other rfl (lk_other rfl B2)))) rfl rfl rfl (m_ (e_ (rt_ (hQ _ _ _ _ _ _ _ H9 H5 lk_here rfl (Fr.box (Fr.box (Fr.del (Fr.box (Fr.box FR))))) e'4.2))))))))))))))))))))))))))))))))
theorem w117_11 {k9:Int}{t80:Bool}{m2:Frm}{m4098:Sc}{m8192:Frm}{v2:Nat}{v4098:Nat}{v8192:Nat}(H5:σ 5 = .p (d,2) v2 0)(H7:σ 7 = .p (d,4098) v4098 0)(H8:σ 8 = .p (d,8192) v8192 0)(H9:σ 9 = .i .i64 k9)(H80:σ 80 = .b t80)(B2:lk st.bx (d,2) = some (v2,[.i .i64 m2.func,.i .i64 m2.pos,.i .u64 m2.mode,.sl .full (List.map Loc.row m2.locals)]))(B4098:lk st.bx (d,4098) = some (v4098,[.s m4098.left]))(B8192:lk st.bx (d,8192) = some (v8192,[.i .i64 m8192.func,.i .i64 m8192.pos,.i .u64 m8192.mode,.sl .full (List.map Loc.row m8192.locals)]))(FR:Fr d (d,0) st0.bx st0.ow st.bx st.ow)(h:T117_11 prog K k9 t80 m2 m4098 m8192):W prog d c117_2 σ st (thenW prog d c117_3 Q):=
 cb_ H80 (fun g'1=>q_ rfl (l_ H8 B8192 rfl rfl (m_ (so_ H5 B2 rfl rfl rfl (m_ (e_ (rt_ (hQ _ _ _ _ _ _ _ rfl H5 lk_here rfl (Fr.box FR) (h.1 g'1))))))))) (fun g'1=>sk_ (w117_12 hQ H5 H7 H8 H9 B2 B4098 B8192 FR (h.2 g'1)))
theorem w117_10 {k9:Int}{m0:Img}{m2:Frm}{m4098:Sc}{m8192:Frm}{v0:Nat}{v2:Nat}{v4098:Nat}{v8192:Nat}(H2:σ 2 = .p (d,0) v0 0)(H5:σ 5 = .p (d,2) v2 0)(H7:σ 7 = .p (d,4098) v4098 0)(H8:σ 8 = .p (d,8192) v8192 0)(H9:σ 9 = .i .i64 k9)(B0:lk st.bx (d,0) = some (v0,[.sl .ext (List.map Typ.row m0.types),.sl .ext (List.map rowS m0.texts),.sl .ext (List.map Fun.row m0.funcs)]))(B2:lk st.bx (d,2) = some (v2,[.i .i64 m2.func,.i .i64 m2.pos,.i .u64 m2.mode,.sl .full (List.map Loc.row m2.locals)]))(B4098:lk st.bx (d,4098) = some (v4098,[.s m4098.left]))(B8192:lk st.bx (d,8192) = some (v8192,[.i .i64 m8192.func,.i .i64 m8192.pos,.i .u64 m8192.mode,.sl .full (List.map Loc.row m8192.locals)]))(FR:Fr d (d,0) st0.bx st0.ow st.bx st.ow)(h:T117_10 prog K k9 m0 m2 m4098 m8192):W prog d c117_4 σ st Q:=
 q_ rfl (m_ (f_ H2 (l_ rfl B0 rfl rfl (f_ H8 (l_ rfl B8192 rfl rfl (h.2.elim fun c'1 e'2=>ia_ rfl rfl h.1 e'2.1 (Fun.row_eq c'1) rfl (ff_ rfl (lf_ rfl rfl rfl (ll_ rfl (e'2.2.elim fun r'3 e'20=>e'20.elim fun r'4 e'21=>e'21.elim fun b'10 e'6=>cX_ (sec H7 (sec rfl sen)) e'6.1 (Nat.lt_succ_self d) B4098 (fun st'7 hb'8 hf'9=>m_ (x_ rfl rfl (x_ rfl rfl (f_ H8 (so_ rfl ((hf'9.1 (d,8192) (Nat.lt_succ_self d) (key_LL rfl)).trans B8192) rfl rfl rfl (m_ (e_ (sq_ (q_ rfl (s_mvB rfl (nt_ rfl (s_mvB rfl (eb_ (g:=76) rfl (fun g'11=>gn_ (b:=true) rfl rfl (gn_ (b:=true) rfl rfl (gn_ (b:=true) rfl rfl (pt_ rfl rfl (e_ (w117_11 (m8192:=(Frm.mk m8192.func r'3 m8192.mode m8192.locals)) hQ H5 H7 H8 H9 rfl (lk_other rfl ((hf'9.1 (d,2) (Nat.lt_succ_self d) (key_LL rfl)).trans B2)) (lk_other rfl hb'8) lk_here (Fr.box (Fr.call FR hf'9)) (e'6.2.1 g'11))))))) (fun g'11=>gy_ rfl (s_mv H7 (gy_ rfl ((e'6.2.2 g'11).elim fun r'12 e'19=>e'19.elim fun b'18 e'14=>cX_ (sec rfl (sec rfl sen)) e'14.1 (Nat.lt_succ_self d) (lk_other rfl hb'8) (fun st'15 hb'16 hf'17=>gy_ rfl (nt_ rfl (pf_ rfl rfl (e_ (w117_11 (m8192:=(Frm.mk m8192.func r'3 m8192.mode m8192.locals)) hQ H5 H7 H8 H9 rfl ((hf'17.1 (d,2) (Nat.lt_succ_self d) (key_LL rfl)).trans (lk_other rfl ((hf'9.1 (d,2) (Nat.lt_succ_self d) (key_LL rfl)).trans B2))) hb'16 ((hf'17.1 (d,8192) (Nat.lt_succ_self d) (key_LL rfl)).trans lk_here) (Fr.call (Fr.box (Fr.call FR hf'9)) hf'17) e'14.2))))))))))))))))))))))))))))))))
theorem w117_9 {k9:Int}{t58:Bool}{m0:Img}{m2:Frm}{m4098:Sc}{m8192:Frm}{v0:Nat}{v2:Nat}{v4098:Nat}{v8192:Nat}(H2:σ 2 = .p (d,0) v0 0)(H5:σ 5 = .p (d,2) v2 0)(H7:σ 7 = .p (d,4098) v4098 0)(H8:σ 8 = .p (d,8192) v8192 0)(H9:σ 9 = .i .i64 k9)(H58:σ 58 = .b t58)(B0:lk st.bx (d,0) = some (v0,[.sl .ext (List.map Typ.row m0.types),.sl .ext (List.map rowS m0.texts),.sl .ext (List.map Fun.row m0.funcs)]))(B2:lk st.bx (d,2) = some (v2,[.i .i64 m2.func,.i .i64 m2.pos,.i .u64 m2.mode,.sl .full (List.map Loc.row m2.locals)]))(B4098:lk st.bx (d,4098) = some (v4098,[.s m4098.left]))(B8192:lk st.bx (d,8192) = some (v8192,[.i .i64 m8192.func,.i .i64 m8192.pos,.i .u64 m8192.mode,.sl .full (List.map Loc.row m8192.locals)]))(FR:Fr d (d,0) st0.bx st0.ow st.bx st.ow)(h:T117_9 prog K k9 t58 m0 m2 m4098 m8192):W prog d c117_1 σ st (thenW prog d c117_4 Q):=
 cb_ H58 (fun g'1=>q_ rfl (l_ H8 B8192 rfl rfl (m_ (so_ H5 B2 rfl rfl rfl (m_ (e_ (rt_ (hQ _ _ _ _ _ _ _ rfl H5 lk_here rfl (Fr.box FR) (h.1 g'1))))))))) (fun g'1=>sk_ (w117_10 hQ H2 H5 H7 H8 H9 B0 B2 B4098 B8192 FR (h.2 g'1)))
theorem w117_8 {k9:Int}{ok10:Bool}{m0:Img}{m2:Frm}{m4098:Sc}{m8192:Frm}{v0:Nat}{v2:Nat}{v4098:Nat}{v8192:Nat}(H2:σ 2 = .p (d,0) v0 0)(H5:σ 5 = .p (d,2) v2 0)(H7:σ 7 = .p (d,4098) v4098 0)(H8:σ 8 = .p (d,8192) v8192 0)(H9:σ 9 = .i .i64 k9)(H10:σ 10 = .b ok10)(B0:lk st.bx (d,0) = some (v0,[.sl .ext (List.map Typ.row m0.types),.sl .ext (List.map rowS m0.texts),.sl .ext (List.map Fun.row m0.funcs)]))(B2:lk st.bx (d,2) = some (v2,[.i .i64 m2.func,.i .i64 m2.pos,.i .u64 m2.mode,.sl .full (List.map Loc.row m2.locals)]))(B4098:lk st.bx (d,4098) = some (v4098,[.s m4098.left]))(B8192:lk st.bx (d,8192) = some (v8192,[.i .i64 m8192.func,.i .i64 m8192.pos,.i .u64 m8192.mode,.sl .full (List.map Loc.row m8192.locals)]))(FR:Fr d (d,0) st0.bx st0.ow st.bx st.ow)(h:T117_8 prog K k9 ok10 m0 m2 m4098 m8192):W prog d c117_5 σ st Q:=
 sq_ (q_ rfl (s_mvB H10 (nt_ rfl (s_mvB rfl (eb_ (g:=44) rfl (fun g'1=>gn_ (b:=true) rfl rfl (gn_ (b:=true) rfl rfl (gn_ (b:=true) rfl rfl (gn_ (b:=true) rfl rfl (gn_ (b:=true) rfl rfl (gn_ (b:=true) rfl rfl (gn_ (b:=true) rfl rfl (gn_ (b:=true) rfl rfl (gn_ (b:=true) rfl rfl (gn_ (b:=true) rfl rfl (gn_ (b:=true) rfl rfl (gn_ (b:=true) rfl rfl (gn_ (b:=true) rfl rfl (pt_ rfl rfl (e_ (w117_9 hQ H2 H5 H7 H8 H9 rfl B0 B2 B4098 B8192 FR (h.1 g'1))))))))))))))))) (fun g'1=>gy_ rfl (s_mv H7 (gy_ rfl (f_ H2 (gy_ rfl (l_ rfl B0 rfl rfl (gy_ rfl (f_ H8 (gy_ rfl (l_ rfl B8192 rfl rfl (gy_ rfl ((h.2 g'1).2.elim fun c'2 e'3=>ia_ rfl rfl (h.2 g'1).1 e'3.1 (Fun.row_eq c'2) rfl (gy_ rfl (ff_ rfl (gy_ rfl (lf_ rfl rfl rfl (gy_ rfl (e'3.2.elim fun r'4 e'5=>ca_ (sc rfl rfl sn) e'5.1 (gy_ rfl (b_ rfl rfl (abin_cat' e'5.2.1) (gy_ rfl (b_ rfl rfl (abin_cat' e'5.2.2.1) (gy_ rfl (e'5.2.2.2.elim fun r'6 e'13=>e'13.elim fun b'12 e'8=>cX_ (sec rfl (sec rfl sen)) e'8.1 (Nat.lt_succ_self d) B4098 (fun st'9 hb'10 hf'11=>gy_ rfl (nt_ rfl (pf_ rfl rfl (e_ (w117_9 hQ H2 H5 H7 H8 H9 rfl ((hf'11.1 (d,0) (Nat.lt_succ_self d) (key_LL rfl)).trans B0) ((hf'11.1 (d,2) (Nat.lt_succ_self d) (key_LL rfl)).trans B2) hb'10 ((hf'11.1 (d,8192) (Nat.lt_succ_self d) (key_LL rfl)).trans B8192) (Fr.call FR hf'11) e'8.2))))))))))))))))))))))))))))))))))
theorem w117_7 {k9:Int}{m0:Img}{m2:Frm}{m4098:Sc}{m8192:Frm}{v0:Nat}{v2:Nat}{v4098:Nat}{v8192:Nat}(H2:σ 2 = .p (d,0) v0 0)(H5:σ 5 = .p (d,2) v2 0)(H7:σ 7 = .p (d,4098) v4098 0)(H8:σ 8 = .p (d,8192) v8192 0)(H9:σ 9 = .i .i64 k9)(B0:lk st.bx (d,0) = some (v0,[.sl .ext (List.map Typ.row m0.types),.sl .ext (List.map rowS m0.texts),.sl .ext (List.map Fun.row m0.funcs)]))(B2:lk st.bx (d,2) = some (v2,[.i .i64 m2.func,.i .i64 m2.pos,.i .u64 m2.mode,.sl .full (List.map Loc.row m2.locals)]))(B4098:lk st.bx (d,4098) = some (v4098,[.s m4098.left]))(B8192:lk st.bx (d,8192) = some (v8192,[.i .i64 m8192.func,.i .i64 m8192.pos,.i .u64 m8192.mode,.sl .full (List.map Loc.row m8192.locals)]))(FR:Fr d (d,0) st0.bx st0.ow st.bx st.ow)(h:T117_7 prog K k9 m0 m2 m4098 m8192):W prog d c117_6 σ st Q:=
 q_ rfl (m_ (f_ H2 (l_ rfl B0 rfl rfl (ll_ rfl (h.elim fun r'1 e'9=>e'9.elim fun r'2 e'10=>e'10.elim fun b'8 e'4=>cX_ (sec H7 (sec rfl sen)) e'4.1 (Nat.lt_succ_self d) B4098 (fun st'5 hb'6 hf'7=>m_ (x_ rfl rfl (x_ rfl rfl (f_ H8 (so_ rfl ((hf'7.1 (d,8192) (Nat.lt_succ_self d) (key_LL rfl)).trans B8192) rfl rfl rfl (m_ (e_ (w117_8 (m8192:=(Frm.mk r'1 m8192.pos m8192.mode m8192.locals)) hQ H2 H5 H7 H8 H9 rfl (lk_other rfl ((hf'7.1 (d,0) (Nat.lt_succ_self d) (key_LL rfl)).trans B0)) (lk_other rfl ((hf'7.1 (d,2) (Nat.lt_succ_self d) (key_LL rfl)).trans B2)) (lk_other rfl hb'6) lk_here (Fr.box (Fr.call FR hf'7)) e'4.2)))))))))))))
theorem w117_6 {k9:Int}{t31:Bool}{m0:Img}{m2:Frm}{m4098:Sc}{m8192:Frm}{v0:Nat}{v2:Nat}{v4098:Nat}{v8192:Nat}(H2:σ 2 = .p (d,0) v0 0)(H5:σ 5 = .p (d,2) v2 0)(H7:σ 7 = .p (d,4098) v4098 0)(H8:σ 8 = .p (d,8192) v8192 0)(H9:σ 9 = .i .i64 k9)(H31:σ 31 = .b t31)(B0:lk st.bx (d,0) = some (v0,[.sl .ext (List.map Typ.row m0.types),.sl .ext (List.map rowS m0.texts),.sl .ext (List.map Fun.row m0.funcs)]))(B2:lk st.bx (d,2) = some (v2,[.i .i64 m2.func,.i .i64 m2.pos,.i .u64 m2.mode,.sl .full (List.map Loc.row m2.locals)]))(B4098:lk st.bx (d,4098) = some (v4098,[.s m4098.left]))(B8192:lk st.bx (d,8192) = some (v8192,[.i .i64 m8192.func,.i .i64 m8192.pos,.i .u64 m8192.mode,.sl .full (List.map Loc.row m8192.locals)]))(FR:Fr d (d,0) st0.bx st0.ow st.bx st.ow)(h:T117_6 prog K k9 t31 m0 m2 m4098 m8192):W prog d c117_0 σ st (thenW prog d c117_6 Q):=
 cb_ H31 (fun g'1=>q_ rfl (l_ H8 B8192 rfl rfl (m_ (so_ H5 B2 rfl rfl rfl (m_ (e_ (rt_ (hQ _ _ _ _ _ _ _ rfl H5 lk_here rfl (Fr.box FR) (h.1 g'1))))))))) (fun g'1=>sk_ (w117_7 hQ H2 H5 H7 H8 H9 B0 B2 B4098 B8192 FR (h.2 g'1)))
theorem w117_5 {k9:Int}{ok10:Bool}{m0:Img}{m2:Frm}{m4098:Sc}{m8192:Frm}{v0:Nat}{v2:Nat}{v4098:Nat}{v8192:Nat}(H2:σ 2 = .p (d,0) v0 0)(H5:σ 5 = .p (d,2) v2 0)(H7:σ 7 = .p (d,4098) v4098 0)(H8:σ 8 = .p (d,8192) v8192 0)(H9:σ 9 = .i .i64 k9)(H10:σ 10 = .b ok10)(B0:lk st.bx (d,0) = some (v0,[.sl .ext (List.map Typ.row m0.types),.sl .ext (List.map rowS m0.texts),.sl .ext (List.map Fun.row m0.funcs)]))(B2:lk st.bx (d,2) = some (v2,[.i .i64 m2.func,.i .i64 m2.pos,.i .u64 m2.mode,.sl .full (List.map Loc.row m2.locals)]))(B4098:lk st.bx (d,4098) = some (v4098,[.s m4098.left]))(B8192:lk st.bx (d,8192) = some (v8192,[.i .i64 m8192.func,.i .i64 m8192.pos,.i .u64 m8192.mode,.sl .full (List.map Loc.row m8192.locals)]))(FR:Fr d (d,0) st0.bx st0.ow st.bx st.ow)(h:T117_5 prog K k9 ok10 m0 m2 m4098 m8192):W prog d c117_7 σ st Q:=
 sq_ (q_ rfl (s_mvB H10 (nt_ rfl (s_mvB rfl (eb_ (g:=27) rfl (fun g'1=>gn_ (b:=true) rfl rfl (gn_ (b:=true) rfl rfl (gn_ (b:=true) rfl rfl (pt_ rfl rfl (e_ (w117_6 hQ H2 H5 H7 H8 H9 rfl B0 B2 B4098 B8192 FR (h.1 g'1))))))) (fun g'1=>gy_ rfl (s_mv H7 (gy_ rfl ((h.2 g'1).elim fun r'2 e'9=>e'9.elim fun b'8 e'4=>cX_ (sec rfl (sec rfl sen)) e'4.1 (Nat.lt_succ_self d) B4098 (fun st'5 hb'6 hf'7=>gy_ rfl (nt_ rfl (pf_ rfl rfl (e_ (w117_6 hQ H2 H5 H7 H8 H9 rfl ((hf'7.1 (d,0) (Nat.lt_succ_self d) (key_LL rfl)).trans B0) ((hf'7.1 (d,2) (Nat.lt_succ_self d) (key_LL rfl)).trans B2) hb'6 ((hf'7.1 (d,8192) (Nat.lt_succ_self d) (key_LL rfl)).trans B8192) (Fr.call FR hf'7) e'4.2))))))))))))))
theorem w117_4 {m0:Img}{m2:Frm}{m4098:Sc}{m8192:Frm}{v0:Nat}{v2:Nat}{v4098:Nat}{v8192:Nat}(H2:σ 2 = .p (d,0) v0 0)(H5:σ 5 = .p (d,2) v2 0)(H7:σ 7 = .p (d,4098) v4098 0)(H8:σ 8 = .p (d,8192) v8192 0)(B0:lk st.bx (d,0) = some (v0,[.sl .ext (List.map Typ.row m0.types),.sl .ext (List.map rowS m0.texts),.sl .ext (List.map Fun.row m0.funcs)]))(B2:lk st.bx (d,2) = some (v2,[.i .i64 m2.func,.i .i64 m2.pos,.i .u64 m2.mode,.sl .full (List.map Loc.row m2.locals)]))(B4098:lk st.bx (d,4098) = some (v4098,[.s m4098.left]))(B8192:lk st.bx (d,8192) = some (v8192,[.i .i64 m8192.func,.i .i64 m8192.pos,.i .u64 m8192.mode,.sl .full (List.map Loc.row m8192.locals)]))(FR:Fr d (d,0) st0.bx st0.ow st.bx st.ow)(h:T117_4 prog K m0 m2 m4098 m8192):W prog d c117_8 σ st Q:=
 q_ rfl (m_ (h.elim fun r'1 e'9=>e'9.elim fun r'2 e'10=>e'10.elim fun b'8 e'4=>cX_ (sec H7 (sec rfl sen)) e'4.1 (Nat.lt_succ_self d) B4098 (fun st'5 hb'6 hf'7=>m_ (x_ rfl rfl (x_ rfl rfl (m_ (m_ (e_ (w117_5 hQ H2 H5 H7 H8 rfl rfl ((hf'7.1 (d,0) (Nat.lt_succ_self d) (key_LL rfl)).trans B0) ((hf'7.1 (d,2) (Nat.lt_succ_self d) (key_LL rfl)).trans B2) hb'6 ((hf'7.1 (d,8192) (Nat.lt_succ_self d) (key_LL rfl)).trans B8192) (Fr.call FR hf'7) e'4.2)))))))))
theorem w117_3 {m0:Img}{m2:Frm}{m4098:Sc}{m8192:Frm}{v0:Nat}{v2:Nat}{v4098:Nat}{v8192:Nat}(H2:σ 2 = .p (d,0) v0 0)(H5:σ 5 = .p (d,2) v2 0)(H7:σ 7 = .p (d,4098) v4098 0)(H8:σ 8 = .p (d,8192) v8192 0)(B0:lk st.bx (d,0) = some (v0,[.sl .ext (List.map Typ.row m0.types),.sl .ext (List.map rowS m0.texts),.sl .ext (List.map Fun.row m0.funcs)]))(B2:lk st.bx (d,2) = some (v2,[.i .i64 m2.func,.i .i64 m2.pos,.i .u64 m2.mode,.sl .full (List.map Loc.row m2.locals)]))(B4098:lk st.bx (d,4098) = some (v4098,[.s m4098.left]))(B8192:lk st.bx (d,8192) = some (v8192,[.i .i64 m8192.func,.i .i64 m8192.pos,.i .u64 m8192.mode,.sl .full (List.map Loc.row m8192.locals)]))(FR:Fr d (d,0) st0.bx st0.ow st.bx st.ow)(h:T117_3 prog K m0 m2 m4098 m8192):W prog d c117_9 σ st Q:=
 sq_ (q_ rfl (m_ (h.elim fun r'1 e'9=>e'9.elim fun b'7 e'3=>cX_ (sec H7 (sec rfl sen)) e'3.1 (Nat.lt_succ_self d) B4098 (fun st'4 hb'5 hf'6=>nt_ rfl (e_ (cb_ rfl (fun g'8=>q_ rfl (l_ H8 ((hf'6.1 (d,8192) (Nat.lt_succ_self d) (key_LL rfl)).trans B8192) rfl rfl (m_ (so_ H5 ((hf'6.1 (d,2) (Nat.lt_succ_self d) (key_LL rfl)).trans B2) rfl rfl rfl (m_ (e_ (rt_ (hQ _ _ _ _ _ _ _ rfl H5 lk_here rfl (Fr.box (Fr.call FR hf'6)) (e'3.2.1 g'8))))))))) (fun g'8=>sk_ (w117_4 hQ H2 H5 H7 H8 ((hf'6.1 (d,0) (Nat.lt_succ_self d) (key_LL rfl)).trans B0) ((hf'6.1 (d,2) (Nat.lt_succ_self d) (key_LL rfl)).trans B2) hb'5 ((hf'6.1 (d,8192) (Nat.lt_succ_self d) (key_LL rfl)).trans B8192) (Fr.call FR hf'6) (e'3.2.2 g'8)))))))))
theorem w117_2 {m0:Img}{m2:Frm}{m4098:Sc}{v0:Nat}{v2:Nat}{v4098:Nat}(H2:σ 2 = .p (d,0) v0 0)(H5:σ 5 = .p (d,2) v2 0)(H7:σ 7 = .p (d,4098) v4098 0)(B0:lk st.bx (d,0) = some (v0,[.sl .ext (List.map Typ.row m0.types),.sl .ext (List.map rowS m0.texts),.sl .ext (List.map Fun.row m0.funcs)]))(B2:lk st.bx (d,2) = some (v2,[.i .i64 m2.func,.i .i64 m2.pos,.i .u64 m2.mode,.sl .full (List.map Loc.row m2.locals)]))(B4098:lk st.bx (d,4098) = some (v4098,[.s m4098.left]))(FR:Fr d (d,0) st0.bx st0.ow st.bx st.ow)(h:T117_2 prog K m0 m2 m4098):W prog d c117_10 σ st Q:=
 sq_ (W.reg (s_alloc (e_ (w117_3 (m8192:=(Frm.mk 0 0 0 ([]:List Loc))) hQ H2 H5 H7 rfl (lk_other rfl B0) (lk_other rfl B2) (lk_other rfl B4098) (show lk _ (d,8192) = some (_,([.i .i64 0,.i .i64 0,.i .u64 0,.sl .full (List.map Loc.row ([]:List Loc))]:List AV)) from lk_here) (Fr.box FR) h))))
theorem w117_1 {line1:List UInt8}{m0:Img}{m2:Frm}{v0:Nat}{v2:Nat}(H1:σ 1 = .s line1)(H2:σ 2 = .p (d,0) v0 0)(H5:σ 5 = .p (d,2) v2 0)(B0:lk st.bx (d,0) = some (v0,[.sl .ext (List.map Typ.row m0.types),.sl .ext (List.map rowS m0.texts),.sl .ext (List.map Fun.row m0.funcs)]))(B2:lk st.bx (d,2) = some (v2,[.i .i64 m2.func,.i .i64 m2.pos,.i .u64 m2.mode,.sl .full (List.map Loc.row m2.locals)]))(FR:Fr d (d,0) st0.bx st0.ow st.bx st.ow)(h:T117_1 prog K line1 m0 m2):W prog d c117_11 σ st Q:=
 q_ rfl (m_ (s_build (f_cons H1 rfl f_nil) (s_box rfl rfl (m_ (e_ (w117_2 (m4098:=(Sc.mk line1)) hQ H2 H5 rfl (lk_other rfl B0) (lk_other rfl B2) lk_here (Fr.box FR) h))))))
theorem w117_0 {m0:Img}{line1:List UInt8}(H0:σ 0 = m0.av)(H1:σ 1 = .s line1)(FR:Fr d (d,0) st0.bx st0.ow st.bx st.ow)(h:T117_0 prog K m0 line1):W prog d (.seq (.reg 0 r117_0) c117_11) σ st Q:=
 sq_ (W.reg (s_box H0 rfl (m_ (s_alloc (m_ (e_ (w117_1 (m2:=(Frm.mk 0 0 0 ([]:List Loc))) hQ H1 rfl rfl lk_here (lk_other rfl (show lk _ (d,2) = some (_,([.i .i64 0,.i .i64 0,.i .u64 0,.sl .full (List.map Loc.row ([]:List Loc))]:List AV)) from lk_here)) (Fr.box (Fr.box FR)) h)))))))
end
theorem p117 {prog:Prog}(hf:prog.fn 117 = some pf117){m0:Img}{line1:List UInt8}{K:Int→Frm→Bool→Prop}(h:T117_0 prog K m0 line1):PuN prog 117 [m0.av,.s line1] (fun r=>∃res0:Int,∃res1:Frm,∃res2:Bool,(r = .tup [.i .i64 res0,res1.avo .full,.b res2])∧K res0 res1 res2):=
  PuN.of hf rfl fun d st=>w117_0 (st0:=st) (Q:=fun e σ st'=>(e = .normal∨e = .ret)∧∃r,ares σ st' pf117.res = some r∧_∧Fr d (d,0) st.bx st.ow st'.bx st'.ow) (fun σ st' k1 v1  res0 res1 res2 H4 H5 HB5 H6 hf hk=>⟨.inr rfl,.tup [.i .i64 res0,res1.avo .full,.b res2],by simp only [pf117,ares,aresL,H4,ares_cellA (n:=4) H5 HB5 rfl,H6,ares_tmp,Option.map_some,H4,ares_cellA (n:=4) H5 HB5 rfl,H6],⟨res0,res1,res2,rfl,hk⟩,hf⟩) (σ:=sl0 [m0.av,.s line1]) rfl rfl Fr.refl h
def r118_0:List AI:=[oO 2 (.box 7 (.t 0)),
 oO 4 (.alloc [.i .i64 0,.i .u8 0,.i .i64 0,.s [],.sl .full [],.b false]),
 oC 5 (.b false)]
def r118_1:List AI:=[oM 11 1,
 oO 12 (.build [.s []] [(0,1,(.t 11))]),
 oO 13 (.box 1 (.t 12)),
 oM 6 13]
def r118_2:List AI:=[oM 14 6,
 oO 15 (.call true 128 [(.t 14),(.c (.s [32,32]))]),
 oO 16 (.un .not (.t 15))]
def r118_3:List AI:=[oO 17 (.build [.i .i64 0,.i .u8 0,.i .i64 0,.s [],.sl .full [],.b false] []),
 oS 6 4 17,
 oC 5 (.b false)]
def r118_4:List AI:=[oM 19 6,
 oF 20 3 2,
 oL 21 20,
 oO 22 (.len false (.t 21)),
 oO 23 (.call true 140 [(.t 19),(.t 22)]),
 oM 18 23,
 oE 24 0 18,
 oE 25 1 18,
 oM 7 24,
 oM 8 25]
def r118_5:List AI:=[oM 26 8,
 oO 27 (.un .not (.t 26)),
 oM 28 27,
 oG 29 (.mv (.t 6)) 28 false,
 oG 30 (.fad 3 (.t 2)) 28 false,
 oG 31 (.load 1 false (.t 30)) 28 false,
 oG 32 (.mv (.t 7)) 28 false,
 oG 33 (.iaL 2 (.t 31) (.t 32)) 28 false,
 oG 34 (.fad 0 (.t 33)) 28 false,
 oG 35 (.load 1 false (.t 34)) 28 false,
 oG 36 (.call false 112 [(.t 35)]) 28 false,
 oG 37 (.bin .add (.c (.s [32])) (.t 36)) 28 false,
 oG 38 (.bin .add (.t 37) (.c (.s [32,61,32]))) 28 false,
 oG 39 (.call true 128 [(.t 29),(.t 38)]) 28 false,
 oG 40 (.un .not (.t 39)) 28 false,
 oO 41 (.pick (.t 28) (.c (.b true)) (.t 40))]
def r118_6:List AI:=[oO 42 (.build [.i .i64 0,.i .u8 0,.i .i64 0,.s [],.sl .full [],.b false] []),
 oS 6 4 42,
 oC 5 (.b false)]
def r118_7:List AI:=[oM 44 6,
 oN 45 44,
 oF 46 0 45,
 oL 47 46,
 oO 48 (.call false 74 [(.t 47)]),
 oM 43 48,
 oE 49 0 43,
 oE 50 1 43,
 oO 9 (.alloc [.i .u8 0,.i .i64 0,.s [],.sl .full [],.b false]),
 oS 5 9 49,
 oM 10 50]
def r118_8:List AI:=[oM 51 7,
 oO 52 (.load 5 true (.t 9)),
 oO 53 (.build [.i .i64 0,.i .u8 0,.i .i64 0,.s [],.sl .full [],.b false] [(0,1,(.t 51)),(1,5,(.t 52))]),
 oM 54 10,
 oB 55 .eql (.t 54) (.c (.i .i64 0)),
 oS 6 4 53,
 oM 5 55]
abbrev c118_0:AC:=(.seq (.reg 7 r118_7) (.seq (.reg 8 r118_8) .ret))
abbrev b118:AC:=(.seq (.reg 0 r118_0) (.seq (.reg 1 r118_1) (.seq (.seq (.reg 2 r118_2) (.cond (.t 16) (.seq (.reg 3 r118_3) .ret) .skip)) (.seq (.reg 4 r118_4) (.seq (.seq (.reg 5 r118_5) (.cond (.t 41) (.seq (.reg 6 r118_6) .ret) .skip)) c118_0)))))
def pf118:AF:={ nt:=56,res:=[.cell 4 6 true,.tmp 5],body:=b118 }
abbrev H118 (Q:AE→Sl→St→Prop)(K:Loc→Bool→Prop):Prop:=∀(σ:Sl)(st:St)(k0:Key)(v0:Nat)(o0_0:Own)(res0:Loc)(res1:Bool),σ 4 = .p k0 v0 0→lk st.bx k0 = some (v0,[.i .i64 res0.slot,.i .u8 res0.value.kind,.i .i64 res0.value.int,.s res0.value.text,.sl o0_0 (List.map Val.row res0.value.list),.b res0.value.cut])→σ 5 = .b res1→K res0 res1→Q .ret σ st
def T118_1 (prog:Prog)(K:Loc→Bool→Prop)(i7:Int)(m1:Loc)(m4098:Sc):Prop:=
  ∃r'1:Val,∃r'2:Int,Pus prog 74 [.s m4098.left] (.tup [r'1.av,.i .i64 r'2])∧K (Loc.mk i7 r'1) (decide (r'2 = 0))
def T118_0 (prog:Prog)(K:Loc→Bool→Prop)(f0:Fun)(line1:List UInt8):Prop:=
  ∃r'1:Bool,∃b'7:Sc,PuX prog 128 (Bx [.s line1]) [.s ([32,32]:List UInt8)] (fun r=>r = .b r'1) ((Bx [.s b'7.left]))∧((!r'1) = true→K (Loc.mk 0 (Val.mk 0 0 [] ([]:List Val) false)) false)∧((!r'1) = false→∃r'9:Int,∃r'10:Bool,∃b'16:Sc,PuX prog 140 (Bx [.s b'7.left]) [.i .i64 (f0.slots.length:Int)] (fun r=>r = .tup [.i .i64 r'9,.b r'10]) ((Bx [.s b'16.left]))∧((!r'10) = true→K (Loc.mk 0 (Val.mk 0 0 [] ([]:List Val) false)) false)∧((!r'10) = false→0≤r'9∧∃c'18:Fld,f0.slots[(r'9).toNat]? = some c'18∧∃r'20:List UInt8,Pus prog 112 [.s c'18.name] (.s r'20)∧([32]:List UInt8).length + r'20.length≤maxStr∧(([32]:List UInt8) ++ r'20).length + ([32,61,32]:List UInt8).length≤maxStr∧∃r'22:Bool,∃b'28:Sc,PuX prog 128 (Bx [.s b'16.left]) [.s ((([32]:List UInt8) ++ r'20) ++ ([32,61,32]:List UInt8))] (fun r=>r = .b r'22) ((Bx [.s b'28.left]))∧((!r'22) = true→K (Loc.mk 0 (Val.mk 0 0 [] ([]:List Val) false)) false)∧((!r'22) = false→T118_1 prog K r'9 (Loc.mk 0 (Val.mk 0 0 [] ([]:List Val) false)) b'28)))
section
variable {prog:Prog}{d:Nat}{Q:AE→Sl→St→Prop}{K:Loc→Bool→Prop}(hQ:H118 Q K){σ:Sl}{st:St}
include hQ
theorem w118_1 {i7:Int}{m1:Loc}{m4098:Sc}{o_m1_4:Own}{v1:Nat}{v4098:Nat}(H4:σ 4 = .p (d,1) v1 0)(H6:σ 6 = .p (d,4098) v4098 0)(H7:σ 7 = .i .i64 i7)(B1:lk st.bx (d,1) = some (v1,[.i .i64 m1.slot,.i .u8 m1.value.kind,.i .i64 m1.value.int,.s m1.value.text,.sl o_m1_4 (List.map Val.row m1.value.list),.b m1.value.cut]))(B4098:lk st.bx (d,4098) = some (v4098,[.s m4098.left]))(h:T118_1 prog K i7 m1 m4098):W prog d c118_0 σ st Q:=
 sq_ (W.reg (m_ (s_nilP H6 (f_ rfl (l_ rfl (lk_other rfl B4098) rfl rfl (h.elim fun r'1 e'4=>e'4.elim fun r'2 e'3=>ca_ (sc rfl rfl sn) e'3.1 (m_ (x_ rfl rfl (x_ rfl rfl (s_alloc (so_ rfl (show lk _ (d,28680) = some (_,([.i .u8 0,.i .i64 0,.s [],.sl .full (List.map Val.row ([]:List Val)),.b false]:List AV)) from lk_here) rfl rfl rfl (m_ (e_ (q_ rfl (m_ (l_ rfl lk_here rfl rfl (s_build (f_cons H7 rfl (f_cons rfl rfl f_nil)) (m_ (b_ rfl rfl eql_ (so_ H4 (lk_other rfl (lk_other rfl B1)) rfl rfl rfl (m_ (e_ (rt_ (hQ _ _ _ _ _ _ _ H4 lk_here rfl e'3.2))))))))))))))))))))))))
theorem w118_0 {f0:Fun}{line1:List UInt8}(H0:σ 0 = f0.av)(H1:σ 1 = .s line1)(h:T118_0 prog K f0 line1):W prog d (.seq (.reg 0 r118_0) (.seq (.reg 1 r118_1) (.seq (.seq (.reg 2 r118_2) (.cond (.t 16) (.seq (.reg 3 r118_3) .ret) .skip)) (.seq (.reg 4 r118_4) (.seq (.seq (.reg 5 r118_5) (.cond (.t 41) (.seq (.reg 6 r118_6) .ret) .skip)) c118_0))))) σ st Q:=
 sq_ (W.reg (s_box H0 rfl (s_alloc (m_ (e_ (q_ rfl (m_ (s_build (f_cons H1 rfl f_nil) (s_box rfl rfl (m_ (e_ (sq_ (q_ rfl (m_ (h.elim fun r'1 e'33=>e'33.elim fun b'7 e'3=>cX_ (sec rfl (sec rfl sen)) e'3.1 (Nat.lt_succ_self d) lk_here (fun st'4 hb'5 hf'6=>nt_ rfl (e_ (cb_ rfl (fun g'8=>q_ rfl (s_build f_nil (so_ rfl ((hf'6.1 (d,1) (Nat.lt_succ_self d) (key_LL rfl)).trans (lk_other rfl (lk_other rfl (show lk _ (d,1) = some (_,([.i .i64 0,.i .u8 0,.i .i64 0,.s [],.sl .full (List.map Val.row ([]:List Val)),.b false]:List AV)) from lk_here)))) rfl rfl rfl (m_ (e_ (rt_ (hQ _ _ _ _ _ _ _ rfl lk_here rfl (e'3.2.1 g'8)))))))) (fun g'8=>sk_ (q_ rfl (m_ (f_ rfl (l_ rfl ((hf'6.1 (d,0) (Nat.lt_succ_self d) (key_LL rfl)).trans (lk_other rfl lk_here)) rfl rfl (ll_ rfl ((e'3.2.2 g'8).elim fun r'9 e'31=>e'31.elim fun r'10 e'32=>e'32.elim fun b'16 e'12=>cX_ (sec rfl (sec rfl sen)) e'12.1 (Nat.lt_succ_self d) hb'5 (fun st'13 hb'14 hf'15=>m_ (x_ rfl rfl (x_ rfl rfl (m_ (m_ (e_ (sq_ (q_ rfl (s_mvB rfl (nt_ rfl (s_mvB rfl (eb_ (g:=28) rfl (fun g'17=>gn_ (b:=true) rfl rfl (gn_ (b:=true) rfl rfl (gn_ (b:=true) rfl rfl (gn_ (b:=true) rfl rfl (gn_ (b:=true) rfl rfl (gn_ (b:=true) rfl rfl (gn_ (b:=true) rfl rfl (gn_ (b:=true) rfl rfl (gn_ (b:=true) rfl rfl (gn_ (b:=true) rfl rfl (gn_ (b:=true) rfl rfl (gn_ (b:=true) rfl rfl (pt_ rfl rfl (e_ (ct_ rfl (q_ rfl (s_build f_nil (so_ rfl ((hf'15.1 (d,1) (Nat.lt_succ_self d) (key_LL rfl)).trans ((hf'6.1 (d,1) (Nat.lt_succ_self d) (key_LL rfl)).trans (lk_other rfl (lk_other rfl (show lk _ (d,1) = some (_,([.i .i64 0,.i .u8 0,.i .i64 0,.s [],.sl .full (List.map Val.row ([]:List Val)),.b false]:List AV)) from lk_here))))) rfl rfl rfl (m_ (e_ (rt_ (hQ _ _ _ _ _ _ _ rfl lk_here rfl (e'12.2.1 g'17))))))))))))))))))))))) (fun g'17=>gy_ rfl (s_mv rfl (gy_ rfl (f_ rfl (gy_ rfl (l_ rfl ((hf'15.1 (d,0) (Nat.lt_succ_self d) (key_LL rfl)).trans ((hf'6.1 (d,0) (Nat.lt_succ_self d) (key_LL rfl)).trans (lk_other rfl lk_here))) rfl rfl (gy_ rfl (s_mvI rfl (gy_ rfl ((e'12.2.2 g'17).2.elim fun c'18 e'19=>ia_ rfl rfl (e'12.2.2 g'17).1 e'19.1 (Fld.row_eq c'18) rfl (gy_ rfl (ff_ rfl (gy_ rfl (lf_ rfl rfl rfl (gy_ rfl (e'19.2.elim fun r'20 e'21=>ca_ (sc rfl rfl sn) e'21.1 (gy_ rfl (b_ rfl rfl (abin_cat' e'21.2.1) (gy_ rfl (b_ rfl rfl (abin_cat' e'21.2.2.1) (gy_ rfl (e'21.2.2.2.elim fun r'22 e'30=>e'30.elim fun b'28 e'24=>cX_ (sec rfl (sec rfl sen)) e'24.1 (Nat.lt_succ_self d) hb'14 (fun st'25 hb'26 hf'27=>gy_ rfl (nt_ rfl (pf_ rfl rfl (e_ (cb_ rfl (fun g'29=>q_ rfl (s_build f_nil (so_ rfl ((hf'27.1 (d,1) (Nat.lt_succ_self d) (key_LL rfl)).trans ((hf'15.1 (d,1) (Nat.lt_succ_self d) (key_LL rfl)).trans ((hf'6.1 (d,1) (Nat.lt_succ_self d) (key_LL rfl)).trans (lk_other rfl (lk_other rfl (show lk _ (d,1) = some (_,([.i .i64 0,.i .u8 0,.i .i64 0,.s [],.sl .full (List.map Val.row ([]:List Val)),.b false]:List AV)) from lk_here)))))) rfl rfl rfl (m_ (e_ (rt_ (hQ _ _ _ _ _ _ _ rfl lk_here rfl (e'24.2.1 g'29)))))))) (fun g'29=>sk_ (w118_1 (m1:=(Loc.mk 0 (Val.mk 0 0 [] ([]:List Val) false))) hQ rfl rfl rfl ((hf'27.1 (d,1) (Nat.lt_succ_self d) (key_LL rfl)).trans ((hf'15.1 (d,1) (Nat.lt_succ_self d) (key_LL rfl)).trans ((hf'6.1 (d,1) (Nat.lt_succ_self d) (key_LL rfl)).trans (lk_other rfl (lk_other rfl (show lk _ (d,1) = some (_,([.i .i64 0,.i .u8 0,.i .i64 0,.s [],.sl .full (List.map Val.row ([]:List Val)),.b false]:List AV)) from lk_here)))))) hb'26 (e'24.2.2 g'29)))))))))))))))))))))))))))))))))))))))))))))))))))))))))))))))))))
end
theorem p118 {prog:Prog}(hf:prog.fn 118 = some pf118){f0:Fun}{line1:List UInt8}{K:Loc→Bool→Prop}(h:T118_0 prog K f0 line1) :∃res0:Loc,∃res1:Bool,K res0 res1∧Pus prog 118 [f0.av,.s line1] (.tup [res0.av,.b res1]):=by
  obtain ⟨v,hv,res0,res1,hk,rfl⟩:=Pus.of (K:=fun v=>∃res0:Loc,∃res1:Bool,K res0 res1∧v = .tup [res0.av,.b res1]) hf rfl (w118_0 (σ:=sl0 [f0.av,.s line1]) (fun σ st k0 v0 o0_0 res0 res1 H4 HB4 H5 hk=>⟨.tup [res0.avo o0_0,.b res1],by simp only [pf118,ares,aresL,ares_cellA (n:=6) H4 HB4 rfl,H5,ares_tmp,Option.map_some],_,rfl,res0,res1,hk,rfl⟩) rfl rfl h)
  exact ⟨res0,res1,hk,hv⟩
def r84_0:List AI:=[oO 2 (.box 3 (.t 0)),
 oC 4 (.i .i64 0),
 oO 5 (.alloc [.i .i64 0,.i .i64 0,.i .u64 0,.sl .full []]),
 oC 6 (.i .i64 0)]
def r84_1:List AI:=[oM 16 1,
 oO 17 (.len false (.t 16)),
 oB 18 .gtr (.t 17) (.c (.i .i64 17)),
 oM 19 18,
 oG 20 (.mv (.t 1)) 19 false,
 oG 21 (.call true 115 [(.t 20),(.c (.fn 116 []))]) 19 false,
 oO 22 (.pick (.t 19) (.c (.b true)) (.t 21))]
def r84_2:List AI:=[oO 23 (.build [.i .i64 0,.i .i64 0,.i .u64 0,.sl .full []] []),
 oC 4 (.i .i64 0),
 oS 4 5 23,
 oC 6 (.i .i64 4)]
def r84_3:List AI:=[oM 24 1,
 oO 25 (.len false (.t 24)),
 oB 26 .eql (.t 25) (.c (.i .i64 0))]
def r84_4:List AI:=[oO 27 (.build [.i .i64 0,.i .i64 0,.i .u64 0,.sl .full []] []),
 oC 4 (.i .i64 0),
 oS 4 5 27,
 oC 6 (.i .i64 12)]
def r84_5:List AI:=[oO 29 (.load 3 true (.t 2)),
 oM 30 1,
 oO 31 (.iaL 1 (.t 30) (.c (.i .i64 0))),
 oL 32 31,
 oO 33 (.call true 117 [(.t 29),(.t 32)]),
 oM 28 33,
 oE 34 0 28,
 oE 35 1 28,
 oE 36 2 28,
 oO 8 (.alloc [.i .i64 0,.i .i64 0,.i .u64 0,.sl .full []]),
 oM 7 34,
 oS 4 8 35,
 oM 9 36]
def r84_6:List AI:=[oM 37 9,
 oO 38 (.un .not (.t 37))]
def r84_7:List AI:=[oO 39 (.build [.i .i64 0,.i .i64 0,.i .u64 0,.sl .full []] []),
 oC 4 (.i .i64 0),
 oS 4 5 39,
 oC 6 (.i .i64 12)]
def r84_8:List AI:=[oM 40 1,
 oO 41 (.slL 1 (.t 40) (some (.c (.i .i64 1))) none),
 oO 42 (.len false (.t 41)),
 oC 43 (.i .i64 0)]
def r84_9:List AI:=[oB 44 .lss (.t 43) (.t 42)]
def r84_10:List AI:=[oO 45 (.iaL 1 (.t 41) (.t 43)),
 oL 46 45,
 oM 11 46]
def r84_11:List AI:=[oF 48 2 2,
 oL 49 48,
 oF 50 0 8,
 oL 51 50,
 oO 52 (.iaL 7 (.t 49) (.t 51)),
 oO 53 (.load 7 true (.t 52)),
 oM 54 11,
 oO 55 (.call false 118 [(.t 53),(.t 54)]),
 oM 47 55,
 oE 56 0 47,
 oE 57 1 47,
 oO 12 (.alloc [.i .i64 0,.i .u8 0,.i .i64 0,.s [],.sl .full [],.b false]),
 oS 6 12 56,
 oM 13 57]
def r84_12:List AI:=[oM 58 13,
 oO 59 (.un .not (.t 58))]
def r84_13:List AI:=[oO 60 (.build [.i .i64 0,.i .i64 0,.i .u64 0,.sl .full []] []),
 oC 4 (.i .i64 0),
 oS 4 5 60,
 oC 6 (.i .i64 12)]
def r84_14:List AI:=[oF 61 3 8,
 oL 62 61,
 oO 63 (.load 6 true (.t 12)),
 oO 64 (.bslice [.i .i64 0,.i .u8 0,.i .i64 0,.s [],.sl .full [],.b false] 1 [(0,(.t 63))]),
 oO 65 (.app 6 72 (.t 62) (.t 64)),
 oF 66 3 8,
 oS 1 66 65]
def r84_15:List AI:=[oB 67 .add (.t 43) (.c (.i .i64 1)),
 oM 43 67]
def r84_16:List AI:=[oO 69 (.load 3 true (.t 2)),
 oM 70 7,
 oO 71 (.load 4 true (.t 8)),
 oO 72 (.call false 82 [(.t 69),(.t 70),(.t 71)]),
 oM 68 72,
 oE 73 0 68,
 oE 74 1 68,
 oM 14 73,
 oM 15 74]
def r84_17:List AI:=[oM 75 15,
 oB 76 .neq (.t 75) (.c (.i .i64 0)),
 oM 77 76,
 oG 78 (.mv (.t 14)) 77 false,
 oG 79 (.mv (.t 1)) 77 false,
 oG 80 (.call false 119 [(.t 78),(.t 79)]) 77 false,
 oG 81 (.un .not (.t 80)) 77 false,
 oO 82 (.pick (.t 77) (.c (.b true)) (.t 81))]
def r84_18:List AI:=[oO 83 (.build [.i .i64 0,.i .i64 0,.i .u64 0,.sl .full []] []),
 oC 4 (.i .i64 0),
 oS 4 5 83,
 oC 6 (.i .i64 12)]
def r84_19:List AI:=[oM 84 7,
 oO 85 (.load 4 true (.t 8)),
 oM 4 84,
 oS 4 5 85,
 oC 6 (.i .i64 0)]
abbrev c84_0:AC:=(.cond (.t 22) (.seq (.reg 2 r84_2) .ret) .skip)
abbrev l84_0:AC:=(.seq (.reg 9 r84_9) (.seq (.cond (.t 44) .skip (.exit 0)) (.seq (.block 1 (.seq (.reg 10 r84_10) (.seq (.reg 11 r84_11) (.seq (.seq (.reg 12 r84_12) (.cond (.t 59) (.seq (.reg 13 r84_13) .ret) .skip)) (.reg 14 r84_14))))) (.reg 15 r84_15))))
abbrev c84_2:AC:=(.cond (.t 82) (.seq (.reg 18 r84_18) .ret) .skip)
abbrev c84_3:AC:=(.seq (.reg 19 r84_19) .ret)
abbrev c84_4:AC:=(.seq (.seq (.reg 16 r84_16) (.seq (.reg 17 r84_17) c84_2)) c84_3)
abbrev c84_5:AC:=(.seq (.seq (.reg 8 r84_8) (.block 0 (.loop l84_0))) c84_4)
abbrev c84_6:AC:=(.seq (.seq (.reg 6 r84_6) (.cond (.t 38) (.seq (.reg 7 r84_7) .ret) .skip)) c84_5)
abbrev c84_7:AC:=(.seq (.reg 5 r84_5) c84_6)
abbrev c84_8:AC:=(.seq (.seq (.reg 3 r84_3) (.cond (.t 26) (.seq (.reg 4 r84_4) .ret) .skip)) c84_7)
abbrev c84_9:AC:=(.seq (.seq (.reg 1 r84_1) c84_0) c84_8)
abbrev b84:AC:=(.seq (.reg 0 r84_0) c84_9)
def pf84:AF:={ nt:=86,res:=[.tmp 4,.cell 5 4 true,.tmp 6],body:=b84 }
abbrev H84 (Q:AE→Sl→St→Prop)(K:Int→Frm→Int→Prop):Prop:=∀(σ:Sl)(st:St)(k1:Key)(v1:Nat)(o1_0:Own)(res0:Int)(res1:Frm)(res2:Int),σ 4 = .i .i64 res0→σ 5 = .p k1 v1 0→lk st.bx k1 = some (v1,[.i .i64 res1.func,.i .i64 res1.pos,.i .u64 res1.mode,.sl o1_0 (List.map Loc.row res1.locals)])→σ 6 = .i .i64 res2→K res0 res1 res2→Q .ret σ st
abbrev I84_0 (prog:Prog)(d:Nat)(Q:AE→Sl→St→Prop)(l1:List (List UInt8))(k7:Int)(t41:List (List UInt8))(t42:Int)(t43:Int)(m0:Img)(m2:Frm)(m20489:Frm):Prop:=
  ∀(σ:Sl)(st:St) (o_l1 o_t41 o_m2_3 o_m20489_3:Own) (v0 v2 v20489:Nat),σ 1 = .sl o_l1 (List.map rowS l1)→σ 2 = .p (d,0) v0 0→σ 5 = .p (d,2) v2 0→σ 7 = .i .i64 k7→σ 8 = .p (d,20489) v20489 0→σ 41 = .sl o_t41 (List.map rowS t41)→σ 42 = .i .i64 t42→σ 43 = .i .i64 t43→ApM d st.ow o_m20489_3 m20489.locals.length→lk st.bx (d,0) = some (v0,[.sl .ext (List.map Typ.row m0.types),.sl .ext (List.map rowS m0.texts),.sl .ext (List.map Fun.row m0.funcs)])→lk st.bx (d,2) = some (v2,[.i .i64 m2.func,.i .i64 m2.pos,.i .u64 m2.mode,.sl o_m2_3 (List.map Loc.row m2.locals)])→lk st.bx (d,20489) = some (v20489,[.i .i64 m20489.func,.i .i64 m20489.pos,.i .u64 m20489.mode,.sl o_m20489_3 (List.map Loc.row m20489.locals)])→W prog d (.loop l84_0) σ st (blockW 0 (thenW prog d c84_4 Q))
def T84_10 (prog:Prog)(K:Int→Frm→Int→Prop)(k7:Int)(m2:Frm)(m20489:Frm):Prop:=
  K k7 m20489 0
def T84_9 (prog:Prog)(K:Int→Frm→Int→Prop)(k7:Int)(t82:Bool)(m2:Frm)(m20489:Frm):Prop:=
  (t82 = true→K 0 (Frm.mk 0 0 0 ([]:List Loc)) 12)∧(t82 = false→T84_10 prog K k7 m2 m20489)
def T84_8 (prog:Prog)(K:Int→Frm→Int→Prop)(l1:List (List UInt8))(k7:Int)(m0:Img)(m2:Frm)(m20489:Frm):Prop:=
  ∃r'1:List (List UInt8),∃r'2:Int,Pus prog 82 [m0.av,.i .i64 k7,m20489.av] (.tup [.sl .ext (List.map rowS r'1),.i .i64 r'2])∧(r'2≠0→T84_9 prog K k7 true m2 m20489)∧(¬(r'2≠0)→∃r'5:Bool,Pus prog 119 [.sl .ext (List.map rowS r'1),.sl .ext (List.map rowS l1)] (.b r'5)∧T84_9 prog K k7 (!r'5) m2 m20489)
def T84_7 (prog:Prog)(K:Int→Frm→Int→Prop)(P0:Int→Img→Frm→Frm→Prop)(l1:List (List UInt8))(k7:Int)(t41:List (List UInt8))(t42:Int)(t43:Int)(m0:Img)(m2:Frm)(m20489:Frm):Prop:=
  (t43 < t42→0≤t43∧∃c'2:List UInt8,t41[(t43).toNat]? = some c'2∧0≤m20489.func∧∃c'4:Fun,m0.funcs[(m20489.func).toNat]? = some c'4∧∃r'6:Loc,∃r'7:Bool,Pus prog 118 [c'4.av,.s c'2] (.tup [r'6.av,.b r'7])∧((!r'7) = true→K 0 (Frm.mk 0 0 0 ([]:List Loc)) 12)∧((!r'7) = false→Fit (m20489.locals.length + [r'6].length) 72∧P0 (IntKind.i64.wrap (t43 + 1)) m0 m2 (Frm.mk m20489.func m20489.pos m20489.mode (m20489.locals ++ [r'6]))))∧(¬(t43 < t42)→T84_8 prog K l1 k7 m0 m2 m20489)
def T84_6 (prog:Prog)(K:Int→Frm→Int→Prop)(l1:List (List UInt8))(k7:Int)(m0:Img)(m2:Frm)(m20489:Frm):Prop:=
  1≤l1.length∧∀P0:Int→Img→Frm→Frm→Prop,(∀(t43:Int)(m0:Img)(m2:Frm)(m20489:Frm),T84_7 prog K P0 l1 k7 (l1.drop 1) ((l1.drop 1).length:Int) t43 m0 m2 m20489→P0 t43 m0 m2 m20489)→P0 0 m0 m2 m20489
def T84_5 (prog:Prog)(K:Int→Frm→Int→Prop)(l1:List (List UInt8))(k7:Int)(ok9:Bool)(m0:Img)(m2:Frm)(m20489:Frm):Prop:=
  ((!ok9) = true→K 0 (Frm.mk 0 0 0 ([]:List Loc)) 12)∧((!ok9) = false→T84_6 prog K l1 k7 m0 m2 m20489)
def T84_4 (prog:Prog)(K:Int→Frm→Int→Prop)(l1:List (List UInt8))(m0:Img)(m2:Frm):Prop:=
  ∃c'1:List UInt8,l1[0]? = some c'1∧∃r'3:Int,∃r'4:Frm,∃r'5:Bool,(PuN prog 117 [m0.av,.s c'1] (fun r=>r = .tup [.i .i64 r'3,r'4.avo .full,.b r'5]))∧T84_5 prog K l1 r'3 r'5 m0 m2 r'4
def T84_3 (prog:Prog)(K:Int→Frm→Int→Prop)(l1:List (List UInt8))(m0:Img)(m2:Frm):Prop:=
  ((l1.length:Int) = 0→K 0 (Frm.mk 0 0 0 ([]:List Loc)) 12)∧(¬((l1.length:Int) = 0)→T84_4 prog K l1 m0 m2)
def T84_2 (prog:Prog)(K:Int→Frm→Int→Prop)(l1:List (List UInt8))(t22:Bool)(m0:Img)(m2:Frm):Prop:=
  (t22 = true→K 0 (Frm.mk 0 0 0 ([]:List Loc)) 4)∧(t22 = false→T84_3 prog K l1 m0 m2)
def T84_1 (prog:Prog)(K:Int→Frm→Int→Prop)(l1:List (List UInt8))(m0:Img)(m2:Frm):Prop:=
  ((l1.length:Int) > 17→T84_2 prog K l1 true m0 m2)∧(¬((l1.length:Int) > 17)→∃r'2:Bool,(∀q'4:Own,PuN prog 115 [.sl q'4 (List.map rowS l1),.fn 116 []] (fun r=>r = .b r'2))∧T84_2 prog K l1 r'2 m0 m2)
def T84_0 (prog:Prog)(K:Int→Frm→Int→Prop)(m0:Img)(l1:List (List UInt8)):Prop:=
  T84_1 prog K l1 m0 (Frm.mk 0 0 0 ([]:List Loc))
section
variable {prog:Prog}{d:Nat}{Q:AE→Sl→St→Prop}{K:Int→Frm→Int→Prop}(hQ:H84 Q K){σ:Sl}{st:St}
include hQ
theorem w84_10 {k7:Int}{m2 m20489:Frm}{o_m2_3 o_m20489_3:Own}{v2:Nat}{v20489:Nat}(H5:σ 5 = .p (d,2) v2 0)(H7:σ 7 = .i .i64 k7)(H8:σ 8 = .p (d,20489) v20489 0)(Ab20489:ApM d st.ow o_m20489_3 m20489.locals.length)(B2:lk st.bx (d,2) = some (v2,[.i .i64 m2.func,.i .i64 m2.pos,.i .u64 m2.mode,.sl o_m2_3 (List.map Loc.row m2.locals)]))(B20489:lk st.bx (d,20489) = some (v20489,[.i .i64 m20489.func,.i .i64 m20489.pos,.i .u64 m20489.mode,.sl o_m20489_3 (List.map Loc.row m20489.locals)]))(h:T84_10 prog K k7 m2 m20489):W prog d c84_3 σ st Q:=
 q_ rfl (m_ (l_ H8 B20489 rfl rfl (m_ (so_ H5 B2 rfl rfl rfl (m_ (e_ (rt_ (hQ _ _ _ _ _ _ _ _ H7 H5 lk_here rfl h))))))))
theorem w84_9 {k7:Int}{t82:Bool}{m2 m20489:Frm}{o_m2_3 o_m20489_3:Own}{v2:Nat}{v20489:Nat}(H5:σ 5 = .p (d,2) v2 0)(H7:σ 7 = .i .i64 k7)(H8:σ 8 = .p (d,20489) v20489 0)(H82:σ 82 = .b t82)(Ab20489:ApM d st.ow o_m20489_3 m20489.locals.length)(B2:lk st.bx (d,2) = some (v2,[.i .i64 m2.func,.i .i64 m2.pos,.i .u64 m2.mode,.sl o_m2_3 (List.map Loc.row m2.locals)]))(B20489:lk st.bx (d,20489) = some (v20489,[.i .i64 m20489.func,.i .i64 m20489.pos,.i .u64 m20489.mode,.sl o_m20489_3 (List.map Loc.row m20489.locals)]))(h:T84_9 prog K k7 t82 m2 m20489):W prog d c84_2 σ st (thenW prog d c84_3 Q):=
 cb_ H82 (fun g'1=>q_ rfl (s_build f_nil (m_ (so_ H5 B2 rfl rfl rfl (m_ (e_ (rt_ (hQ _ _ _ _ _ _ _ _ rfl H5 lk_here rfl (h.1 g'1))))))))) (fun g'1=>sk_ (w84_10 hQ H5 H7 H8 Ab20489 B2 B20489 (h.2 g'1)))
theorem w84_8 {l1:List (List UInt8)}{k7:Int}{m0:Img}{m2 m20489:Frm}{o_l1 o_m2_3 o_m20489_3:Own}{v0:Nat}{v2:Nat}{v20489:Nat}(H1:σ 1 = .sl o_l1 (List.map rowS l1))(H2:σ 2 = .p (d,0) v0 0)(H5:σ 5 = .p (d,2) v2 0)(H7:σ 7 = .i .i64 k7)(H8:σ 8 = .p (d,20489) v20489 0)(Ab20489:ApM d st.ow o_m20489_3 m20489.locals.length)(B0:lk st.bx (d,0) = some (v0,[.sl .ext (List.map Typ.row m0.types),.sl .ext (List.map rowS m0.texts),.sl .ext (List.map Fun.row m0.funcs)]))(B2:lk st.bx (d,2) = some (v2,[.i .i64 m2.func,.i .i64 m2.pos,.i .u64 m2.mode,.sl o_m2_3 (List.map Loc.row m2.locals)]))(B20489:lk st.bx (d,20489) = some (v20489,[.i .i64 m20489.func,.i .i64 m20489.pos,.i .u64 m20489.mode,.sl o_m20489_3 (List.map Loc.row m20489.locals)]))(h:T84_8 prog K l1 k7 m0 m2 m20489):W prog d c84_4 σ st Q:=
 sq_ (q_ rfl (l_ H2 B0 rfl rfl (m_ (l_ H8 B20489 rfl rfl (h.elim fun r'1 e'7=>e'7.elim fun r'2 e'3=>ca_ (sc rfl rfl (sc H7 rfl (sc rfl rfl sn))) e'3.1 (m_ (x_ rfl rfl (x_ rfl rfl (s_mvL rfl (m_ (e_ (q_ rfl (s_mvI rfl (b_ rfl rfl neq_ (s_mvB rfl (em_ (g:=77) rfl (fun g'4=>gn_ (b:=true) rfl rfl (gn_ (b:=true) rfl rfl (gn_ (b:=true) rfl rfl (gn_ (b:=true) rfl rfl (pt_ rfl rfl (e_ (w84_9 hQ H5 H7 H8 rfl Ab20489 B2 B20489 (e'3.2.1 g'4)))))))) (fun g'4=>gy_ rfl (s_mvL rfl (gy_ rfl (s_mvL H1 (gy_ rfl ((e'3.2.2 g'4).elim fun r'5 e'6=>ca_ (sc rfl rfl (sc rfl rfl sn)) e'6.1 (gy_ rfl (nt_ rfl (pf_ rfl rfl (e_ (w84_9 hQ H5 H7 H8 rfl Ab20489 B2 B20489 e'6.2)))))))))))))))))))))))))))
theorem w84_7 {l1:List (List UInt8)}{k7:Int}{t41:List (List UInt8)}{t42 t43:Int}{m0:Img}{m2 m20489:Frm}{P0:Int→Img→Frm→Frm→Prop} (kP0 :∀(t43:Int)(m0:Img)(m2:Frm)(m20489:Frm),P0 t43 m0 m2 m20489→I84_0 prog d Q l1 k7 t41 t42 t43 m0 m2 m20489){o_l1 o_t41 o_m2_3 o_m20489_3:Own}{v0:Nat}{v2:Nat}{v20489:Nat}(H1:σ 1 = .sl o_l1 (List.map rowS l1))(H2:σ 2 = .p (d,0) v0 0)(H5:σ 5 = .p (d,2) v2 0)(H7:σ 7 = .i .i64 k7)(H8:σ 8 = .p (d,20489) v20489 0)(H41:σ 41 = .sl o_t41 (List.map rowS t41))(H42:σ 42 = .i .i64 t42)(H43:σ 43 = .i .i64 t43)(Ab20489:ApM d st.ow o_m20489_3 m20489.locals.length)(B0:lk st.bx (d,0) = some (v0,[.sl .ext (List.map Typ.row m0.types),.sl .ext (List.map rowS m0.texts),.sl .ext (List.map Fun.row m0.funcs)]))(B2:lk st.bx (d,2) = some (v2,[.i .i64 m2.func,.i .i64 m2.pos,.i .u64 m2.mode,.sl o_m2_3 (List.map Loc.row m2.locals)]))(B20489:lk st.bx (d,20489) = some (v20489,[.i .i64 m20489.func,.i .i64 m20489.pos,.i .u64 m20489.mode,.sl o_m20489_3 (List.map Loc.row m20489.locals)]))(h:T84_7 prog K P0 l1 k7 t41 t42 t43 m0 m2 m20489):W prog d l84_0 σ st (thenW prog d (.loop l84_0) (blockW 0 (thenW prog d c84_4 Q))):=
 q_ rfl (b_ H43 H42 lss_ (e_ (sq_ (cs_ rfl (fun g'1=>sk_ (sq_ (bk_ (q_ rfl ((h.1 g'1).2.elim fun c'2 e'3=>ia_ H41 H43 (h.1 g'1).1 e'3.1 rfl rfl (lf_ rfl rfl rfl (m_ (e_ (sq_ (W.reg (f_ H2 (l_ rfl (lk_other rfl B0) rfl rfl (f_ H8 (l_ rfl (lk_other rfl B20489) rfl rfl (e'3.2.2.elim fun c'4 e'5=>ia_ rfl rfl e'3.2.1 e'5.1 (Fun.row_eq c'4) rfl (lf_ rfl rfl rfl (m_ (e'5.2.elim fun r'6 e'15=>e'15.elim fun r'7 e'8=>ca_ (sc rfl rfl (sc rfl rfl sn)) e'8.1 (m_ (x_ rfl rfl (x_ rfl rfl (s_alloc (so_ rfl (show lk _ (d,45067) = some (_,([.i .i64 0,.i .u8 0,.i .i64 0,.s [],.sl .full (List.map Val.row ([]:List Val)),.b false]:List AV)) from lk_here) rfl rfl rfl (m_ (e_ (sq_ (q_ rfl (m_ (nt_ rfl (e_ (cb_ rfl (fun g'9=>q_ rfl (s_build f_nil (m_ (so_ H5 (lk_other rfl (lk_other rfl B2)) rfl rfl rfl (m_ (e_ (rt_ (hQ _ _ _ _ _ _ _ _ rfl H5 lk_here rfl (e'8.2.1 g'9))))))))) (fun g'9=>sk_ (W.reg0 rfl fun _ _=>f_ H8 (l_ rfl (lk_other rfl (lk_other rfl B20489)) rfl rfl (l_ rfl lk_here rfl rfl (s_bslM (f:=Loc.row) (l:=[r'6]) rfl rfl (g_cons rfl rfl rfl g_nil) (by simp only [List.map_cons,List.map_nil,Loc.row_eq]; rfl) (s_app Loc.row_len rfl rfl rfl Ab20489.1 (e'8.2.2 g'9).1 rfl (fun o'10 ow'13 a'11 fr'12 on'14=>f_ H8 (so_ rfl (lk_other rfl (lk_other rfl B20489)) rfl rfl rfl (e_ (W.reg0 rfl fun _ _=>b_ H43 rfl add_ (m_ (e_ (kP0 _ _ _ _ (e'8.2.2 g'9).2 _ _ _ _ _ _ _ _ _ H1 H2 H5 H7 H8 H41 H42 rfl (ApM.mk a'11 (Mine.app Ab20489.2 rfl on'14)) (lk_other rfl (lk_other rfl (lk_other rfl B0))) (lk_other rfl (lk_other rfl (lk_other rfl B2))) lk_here)))))))))))))))))))))))))))))))))))))))))))) (fun g'1=>ex_ (w84_8 hQ H1 H2 H5 H7 H8 Ab20489 B0 B2 B20489 (h.2 g'1)))))))
theorem w84_6 {l1:List (List UInt8)}{k7:Int}{m0:Img}{m2 m20489:Frm}{o_l1 o_m2_3 o_m20489_3:Own}{v0:Nat}{v2:Nat}{v20489:Nat}(H1:σ 1 = .sl o_l1 (List.map rowS l1))(H2:σ 2 = .p (d,0) v0 0)(H5:σ 5 = .p (d,2) v2 0)(H7:σ 7 = .i .i64 k7)(H8:σ 8 = .p (d,20489) v20489 0)(Ab20489:ApM d st.ow o_m20489_3 m20489.locals.length)(B0:lk st.bx (d,0) = some (v0,[.sl .ext (List.map Typ.row m0.types),.sl .ext (List.map rowS m0.texts),.sl .ext (List.map Fun.row m0.funcs)]))(B2:lk st.bx (d,2) = some (v2,[.i .i64 m2.func,.i .i64 m2.pos,.i .u64 m2.mode,.sl o_m2_3 (List.map Loc.row m2.locals)]))(B20489:lk st.bx (d,20489) = some (v20489,[.i .i64 m20489.func,.i .i64 m20489.pos,.i .u64 m20489.mode,.sl o_m20489_3 (List.map Loc.row m20489.locals)]))(h:T84_6 prog K l1 k7 m0 m2 m20489):W prog d c84_5 σ st Q:=
 sq_ (q_ rfl (s_mvL H1 (s_slL_lo rowS_len rfl rfl (by decide) h.1 (ll_ rfl (m_ (e_ (bk_ (h.2 (I84_0 prog d Q l1 k7 (l1.drop 1) ((l1.drop 1).length:Int)) (fun _ _ _ _ hb _ _ _ _ _ _ _ _ _ H1 H2 H5 H7 H8 H41 H42 H43 Ab20489 B0 B2 B20489=>W.loop (w84_7 hQ (fun _ _ _ _ x=>x) H1 H2 H5 H7 H8 H41 H42 H43 Ab20489 B0 B2 B20489 hb)) _ _ _ _ _ _ _ _ _ H1 H2 H5 H7 H8 rfl rfl rfl Ab20489 B0 B2 B20489))))))))
theorem w84_5 {l1:List (List UInt8)}{k7:Int}{ok9:Bool}{m0:Img}{m2 m20489:Frm}{o_l1 o_m2_3 o_m20489_3:Own}{v0:Nat}{v2:Nat}{v20489:Nat}(H1:σ 1 = .sl o_l1 (List.map rowS l1))(H2:σ 2 = .p (d,0) v0 0)(H5:σ 5 = .p (d,2) v2 0)(H7:σ 7 = .i .i64 k7)(H8:σ 8 = .p (d,20489) v20489 0)(H9:σ 9 = .b ok9)(Ab20489:ApM d st.ow o_m20489_3 m20489.locals.length)(B0:lk st.bx (d,0) = some (v0,[.sl .ext (List.map Typ.row m0.types),.sl .ext (List.map rowS m0.texts),.sl .ext (List.map Fun.row m0.funcs)]))(B2:lk st.bx (d,2) = some (v2,[.i .i64 m2.func,.i .i64 m2.pos,.i .u64 m2.mode,.sl o_m2_3 (List.map Loc.row m2.locals)]))(B20489:lk st.bx (d,20489) = some (v20489,[.i .i64 m20489.func,.i .i64 m20489.pos,.i .u64 m20489.mode,.sl o_m20489_3 (List.map Loc.row m20489.locals)]))(h:T84_5 prog K l1 k7 ok9 m0 m2 m20489):W prog d c84_6 σ st Q:=
 sq_ (q_ rfl (m_ (nt_ H9 (e_ (cb_ rfl (fun g'1=>q_ rfl (s_build f_nil (m_ (so_ H5 B2 rfl rfl rfl (m_ (e_ (rt_ (hQ _ _ _ _ _ _ _ _ rfl H5 lk_here rfl (h.1 g'1))))))))) (fun g'1=>sk_ (w84_6 hQ H1 H2 H5 H7 H8 Ab20489 B0 B2 B20489 (h.2 g'1))))))))
theorem w84_4 {l1:List (List UInt8)}{m0:Img}{m2:Frm}{o_l1 o_m2_3:Own}{v0:Nat}{v2:Nat}(H1:σ 1 = .sl o_l1 (List.map rowS l1))(H2:σ 2 = .p (d,0) v0 0)(H5:σ 5 = .p (d,2) v2 0)(B0:lk st.bx (d,0) = some (v0,[.sl .ext (List.map Typ.row m0.types),.sl .ext (List.map rowS m0.texts),.sl .ext (List.map Fun.row m0.funcs)]))(B2:lk st.bx (d,2) = some (v2,[.i .i64 m2.func,.i .i64 m2.pos,.i .u64 m2.mode,.sl o_m2_3 (List.map Loc.row m2.locals)]))(h:T84_4 prog K l1 m0 m2):W prog d c84_7 σ st Q:=
 sq_ (W.reg (l_ H2 (lk_other rfl B0) rfl rfl (s_mvL H1 (h.elim fun c'1 e'2=>ia_ rfl rfl (by decide) e'2.1 rfl rfl (lf_ rfl rfl rfl (e'2.2.elim fun r'3 e'9=>e'9.elim fun r'4 e'10=>e'10.elim fun r'5 e'6=>s_callN (sec rfl (sec rfl sen)) (e'6.1) (fun st'7 hf'8=>m_ (x_ rfl rfl (x_ rfl rfl (x_ rfl rfl (s_alloc (m_ (so_ rfl ((hf'8.1 (d,20489) (Nat.lt_succ_self d) key_dn).trans (show lk _ (d,20489) = some (_,([.i .i64 0,.i .i64 0,.i .u64 0,.sl .full (List.map Loc.row ([]:List Loc))]:List AV)) from lk_here)) rfl rfl rfl (m_ (e_ (w84_5 hQ H1 H2 H5 rfl rfl rfl ApM.full (lk_other rfl ((hf'8.1 (d,0) (Nat.lt_succ_self d) key_dn).trans (lk_other rfl B0))) (lk_other rfl ((hf'8.1 (d,2) (Nat.lt_succ_self d) key_dn).trans (lk_other rfl B2))) lk_here e'6.2))))))))))))))))
theorem w84_3 {l1:List (List UInt8)}{m0:Img}{m2:Frm}{o_l1 o_m2_3:Own}{v0:Nat}{v2:Nat}(H1:σ 1 = .sl o_l1 (List.map rowS l1))(H2:σ 2 = .p (d,0) v0 0)(H5:σ 5 = .p (d,2) v2 0)(B0:lk st.bx (d,0) = some (v0,[.sl .ext (List.map Typ.row m0.types),.sl .ext (List.map rowS m0.texts),.sl .ext (List.map Fun.row m0.funcs)]))(B2:lk st.bx (d,2) = some (v2,[.i .i64 m2.func,.i .i64 m2.pos,.i .u64 m2.mode,.sl o_m2_3 (List.map Loc.row m2.locals)]))(h:T84_3 prog K l1 m0 m2):W prog d c84_8 σ st Q:=
 sq_ (q_ rfl (s_mvL H1 (ll_ rfl (b_ rfl rfl eql_ (e_ (cs_ rfl (fun g'1=>q_ rfl (s_build f_nil (m_ (so_ H5 B2 rfl rfl rfl (m_ (e_ (rt_ (hQ _ _ _ _ _ _ _ _ rfl H5 lk_here rfl (h.1 g'1))))))))) (fun g'1=>sk_ (w84_4 hQ H1 H2 H5 B0 B2 (h.2 g'1)))))))))
theorem w84_2 {l1:List (List UInt8)}{t22:Bool}{m0:Img}{m2:Frm}{o_l1 o_m2_3:Own}{v0:Nat}{v2:Nat}(H1:σ 1 = .sl o_l1 (List.map rowS l1))(H2:σ 2 = .p (d,0) v0 0)(H5:σ 5 = .p (d,2) v2 0)(H22:σ 22 = .b t22)(B0:lk st.bx (d,0) = some (v0,[.sl .ext (List.map Typ.row m0.types),.sl .ext (List.map rowS m0.texts),.sl .ext (List.map Fun.row m0.funcs)]))(B2:lk st.bx (d,2) = some (v2,[.i .i64 m2.func,.i .i64 m2.pos,.i .u64 m2.mode,.sl o_m2_3 (List.map Loc.row m2.locals)]))(h:T84_2 prog K l1 t22 m0 m2):W prog d c84_0 σ st (thenW prog d c84_8 Q):=
 cb_ H22 (fun g'1=>q_ rfl (s_build f_nil (m_ (so_ H5 B2 rfl rfl rfl (m_ (e_ (rt_ (hQ _ _ _ _ _ _ _ _ rfl H5 lk_here rfl (h.1 g'1))))))))) (fun g'1=>sk_ (w84_3 hQ H1 H2 H5 B0 B2 (h.2 g'1)))
theorem w84_1 {l1:List (List UInt8)}{m0:Img}{m2:Frm}{o_l1 o_m2_3:Own}{v0:Nat}{v2:Nat}(H1:σ 1 = .sl o_l1 (List.map rowS l1))(H2:σ 2 = .p (d,0) v0 0)(H5:σ 5 = .p (d,2) v2 0)(B0:lk st.bx (d,0) = some (v0,[.sl .ext (List.map Typ.row m0.types),.sl .ext (List.map rowS m0.texts),.sl .ext (List.map Fun.row m0.funcs)]))(B2:lk st.bx (d,2) = some (v2,[.i .i64 m2.func,.i .i64 m2.pos,.i .u64 m2.mode,.sl o_m2_3 (List.map Loc.row m2.locals)]))(h:T84_1 prog K l1 m0 m2):W prog d c84_9 σ st Q:=
 sq_ (q_ rfl (s_mvL H1 (ll_ rfl (b_ rfl rfl gtr_ (s_mvB rfl (em_ (g:=19) rfl (fun g'1=>gn_ (b:=true) rfl rfl (gn_ (b:=true) rfl rfl (pt_ rfl rfl (e_ (w84_2 hQ H1 H2 H5 rfl B0 B2 (h.1 g'1)))))) (fun g'1=>gy_ rfl (s_mvL H1 (gy_ rfl ((h.2 g'1).elim fun r'2 e'5=>s_callN (sec rfl (sec rfl sen)) (e'5.1 _) (fun st'6 hf'7=>pf_ rfl rfl (e_ (w84_2 hQ H1 H2 H5 rfl ((hf'7.1 (d,0) (Nat.lt_succ_self d) key_dn).trans B0) ((hf'7.1 (d,2) (Nat.lt_succ_self d) key_dn).trans B2) e'5.2)))))))))))))
theorem w84_0 {m0:Img}{l1:List (List UInt8)}{o_l1:Own}(H0:σ 0 = m0.av)(H1:σ 1 = .sl o_l1 (List.map rowS l1))(h:T84_0 prog K m0 l1):W prog d (.seq (.reg 0 r84_0) c84_9) σ st Q:=
 sq_ (W.reg (s_box H0 rfl (m_ (s_alloc (m_ (e_ (w84_1 (m2:=(Frm.mk 0 0 0 ([]:List Loc))) hQ H1 rfl rfl lk_here (lk_other rfl (show lk _ (d,2) = some (_,([.i .i64 0,.i .i64 0,.i .u64 0,.sl .full (List.map Loc.row ([]:List Loc))]:List AV)) from lk_here)) h)))))))
end
theorem p84 {prog:Prog}(hf:prog.fn 84 = some pf84){m0:Img}{l1:List (List UInt8)}{K:Int→Frm→Int→Prop}(h:T84_0 prog K m0 l1) :∃res0:Int,∃res1:Frm,∃res2:Int,K res0 res1 res2∧Pus prog 84 [m0.av,.sl .ext (List.map rowS l1)] (.tup [.i .i64 res0,res1.av,.i .i64 res2]):=by
  obtain ⟨v,hv,res0,res1,res2,hk,rfl⟩:=Pus.of (K:=fun v=>∃res0:Int,∃res1:Frm,∃res2:Int,K res0 res1 res2∧v = .tup [.i .i64 res0,res1.av,.i .i64 res2]) hf rfl (w84_0 (σ:=sl0 [m0.av,.sl .ext (List.map rowS l1)]) (fun σ st k1 v1 o1_0 res0 res1 res2 H4 H5 HB5 H6 hk=>⟨.tup [.i .i64 res0,res1.avo o1_0,.i .i64 res2],by simp only [pf84,ares,aresL,H4,ares_cellA (n:=4) H5 HB5 rfl,H6,ares_tmp,Option.map_some],_,rfl,res0,res1,res2,hk,rfl⟩) rfl rfl h)
  exact ⟨res0,res1,res2,hk,hv⟩
end Go.AM

/- Parts of the proof. -/
namespace Go.AM
open Go
set_option linter.unusedVariables false
set_option linter.unusedSimpArgs false
set_option maxRecDepth 4000
attribute [local irreducible] WO fillCells fillRows
abbrev H81 (Q:AE→Sl→St→Prop)(K:Bool→Prop):Prop:=∀(σ:Sl)(st:St)(res0:Bool),σ 2 = .b res0→K res0→Q .ret σ st
section
variable {prog:Prog}{d:Nat}{Q:AE→Sl→St→Prop}{K:Bool→Prop}(hQ:H81 Q K){σ:Sl}{st:St}
include hQ
end
abbrev H79 (Q:AE→Sl→St→Prop)(K:Bool→Prop):Prop:=∀(σ:Sl)(st:St)(res0:Bool),σ 2 = .b res0→K res0→Q .ret σ st
section
variable {prog:Prog}{d:Nat}{Q:AE→Sl→St→Prop}{K:Bool→Prop}(hQ:H79 Q K){σ:Sl}{st:St}
include hQ
end
abbrev H80 (Q:AE→Sl→St→Prop)(K:Bool→Prop):Prop:=∀(σ:Sl)(st:St)(res0:Bool),σ 2 = .b res0→K res0→Q .ret σ st
section
variable {prog:Prog}{d:Nat}{Q:AE→Sl→St→Prop}{K:Bool→Prop}(hQ:H80 Q K){σ:Sl}{st:St}
include hQ
end
abbrev H83 (Q:AE→Sl→St→Prop)(K:List (List UInt8)→Int→Prop):Prop:=∀(σ:Sl)(st:St)(o0:Own)(res0:List (List UInt8))(res1:Int),σ 6 = .sl o0 (List.map rowS res0)→σ 7 = .i .i64 res1→K res0 res1→Q .ret σ st
section
variable {prog:Prog}{d:Nat}{Q:AE→Sl→St→Prop}{K:List (List UInt8)→Int→Prop}(hQ:H83 Q K){σ:Sl}{st:St}
include hQ
end
abbrev H87 (Q:AE→Sl→St→Prop)(K:Int→Prop):Prop:=∀(σ:Sl)(st:St)(res0:Int),σ 4 = .i .i64 res0→K res0→Q .ret σ st
section
variable {prog:Prog}{d:Nat}{Q:AE→Sl→St→Prop}{K:Int→Prop}(hQ:H87 Q K){σ:Sl}{st:St}
include hQ
end
abbrev H114 (Q:AE→Sl→St→Prop)(K:List (List UInt8)→Prop):Prop:=∀(σ:Sl)(st:St)(o0:Own)(res0:List (List UInt8)),σ 6 = .sl o0 (List.map rowS res0)→K res0→Q .ret σ st
section
variable {prog:Prog}{d:Nat}{Q:AE→Sl→St→Prop}{K:List (List UInt8)→Prop}(hQ:H114 Q K){σ:Sl}{st:St}
include hQ
end
abbrev H137 (Q:AE→Sl→St→Prop)(K:List UInt8→Prop):Prop:=∀(σ:Sl)(st:St)(res0:List UInt8),σ 2 = .s res0→K res0→Q .ret σ st
section
variable {prog:Prog}{d:Nat}{Q:AE→Sl→St→Prop}{K:List UInt8→Prop}(hQ:H137 Q K){σ:Sl}{st:St}
include hQ
end
abbrev H138 (Q:AE→Sl→St→Prop)(K:List UInt8→Prop):Prop:=∀(σ:Sl)(st:St)(res0:List UInt8),σ 2 = .s res0→K res0→Q .ret σ st
section
variable {prog:Prog}{d:Nat}{Q:AE→Sl→St→Prop}{K:List UInt8→Prop}(hQ:H138 Q K){σ:Sl}{st:St}
include hQ
end
def r88_0:List AI:=[oO 2 (.box 4 (.t 0)),
 oO 3 (.box 4 (.t 1)),
 oC 4 (.b false)]
def r88_1:List AI:=[oF 5 0 2,
 oL 6 5,
 oF 7 0 3,
 oL 8 7,
 oB 9 .eql (.t 6) (.t 8),
 oM 10 9,
 oG 11 (.fad 1 (.t 2)) 10 true,
 oG 12 (.load 1 false (.t 11)) 10 true,
 oG 13 (.fad 1 (.t 3)) 10 true,
 oG 14 (.load 1 false (.t 13)) 10 true,
 oG 15 (.bin .eql (.t 12) (.t 14)) 10 true,
 oO 16 (.pick (.t 10) (.t 15) (.c (.b false))),
 oM 17 16,
 oG 18 (.fad 2 (.t 2)) 17 true,
 oG 19 (.load 1 false (.t 18)) 17 true,
 oG 20 (.fad 2 (.t 3)) 17 true,
 oG 21 (.load 1 false (.t 20)) 17 true,
 oG 22 (.bin .eql (.t 19) (.t 21)) 17 true,
 oO 23 (.pick (.t 17) (.t 22) (.c (.b false))),
 oM 24 23,
 oG 25 (.fad 3 (.t 2)) 24 true,
 oG 26 (.load 1 false (.t 25)) 24 true,
 oG 27 (.fad 3 (.t 3)) 24 true,
 oG 28 (.load 1 false (.t 27)) 24 true,
 oG 29 (.call false 124 [(.t 26),(.t 28)]) 24 true,
 oO 30 (.pick (.t 24) (.t 29) (.c (.b false))),
 oM 4 30]
abbrev b88:AC:=(.seq (.reg 0 r88_0) (.seq (.reg 1 r88_1) .ret))
def pf88:AF:={ nt:=31,res:=[.tmp 4],body:=b88 }
abbrev H88 (Q:AE→Sl→St→Prop)(K:Bool→Prop):Prop:=∀(σ:Sl)(st:St)(res0:Bool),σ 4 = .b res0→K res0→Q .ret σ st
def T88_0 (prog:Prog)(K:Bool→Prop)(a0:Frm)(b1:Frm):Prop:=
  (a0.func = b1.func→(a0.pos = b1.pos→(a0.mode = b1.mode→∃r'4:Bool,Pus prog 124 [.sl .ext (List.map Loc.row a0.locals),.sl .ext (List.map Loc.row b1.locals)] (.b r'4)∧K r'4)∧(¬(a0.mode = b1.mode)→K false))∧(¬(a0.pos = b1.pos)→K false))∧(¬(a0.func = b1.func)→K false)
section
variable {prog:Prog}{d:Nat}{Q:AE→Sl→St→Prop}{K:Bool→Prop}(hQ:H88 Q K){σ:Sl}{st:St}
include hQ
theorem w88_0 {a0 b1:Frm}(H0:σ 0 = a0.av)(H1:σ 1 = b1.av)(h:T88_0 prog K a0 b1):W prog d (.seq (.reg 0 r88_0) (.seq (.reg 1 r88_1) .ret)) σ st Q:=
 q_ rfl (s_box H0 rfl (s_box H1 rfl (m_ (e_ (q_ rfl (f_ rfl (l_ rfl (lk_other rfl lk_here) rfl rfl (f_ rfl (l_ rfl lk_here rfl rfl (b_ rfl rfl eql_ (s_mvB rfl (em_ (g:=10) rfl (fun g'1=>gy_ rfl (f_ rfl (gy_ rfl (l_ rfl (lk_other rfl lk_here) rfl rfl (gy_ rfl (f_ rfl (gy_ rfl (l_ rfl lk_here rfl rfl (gy_ rfl (b_ rfl rfl eql_ (pt_ rfl rfl (s_mvB rfl (em_ (g:=17) rfl (fun g'2=>gy_ rfl (f_ rfl (gy_ rfl (l_ rfl (lk_other rfl lk_here) rfl rfl (gy_ rfl (f_ rfl (gy_ rfl (l_ rfl lk_here rfl rfl (gy_ rfl (b_ rfl rfl eql_ (pt_ rfl rfl (s_mvB rfl (em_ (g:=24) rfl (fun g'3=>gy_ rfl (f_ rfl (gy_ rfl (l_ rfl (lk_other rfl lk_here) rfl rfl (gy_ rfl (f_ rfl (gy_ rfl (l_ rfl lk_here rfl rfl (gy_ rfl ((((h.1 g'1).1 g'2).1 g'3).elim fun r'4 e'5=>ca_ (sc rfl rfl (sc rfl rfl sn)) e'5.1 (pt_ rfl rfl (s_mvB rfl (e_ (rt_ (hQ _ _ _ rfl e'5.2))))))))))))))) (fun g'3=>gn_ (b:=false) rfl rfl (gn_ (b:=false) rfl rfl (gn_ (b:=false) rfl rfl (gn_ (b:=false) rfl rfl (gn_ (b:=false) rfl rfl (pf_ rfl rfl (s_mvB rfl (e_ (rt_ (hQ _ _ _ rfl (((h.1 g'1).1 g'2).2 g'3)))))))))))))))))))))))) (fun g'2=>gn_ (b:=false) rfl rfl (gn_ (b:=false) rfl rfl (gn_ (b:=false) rfl rfl (gn_ (b:=false) rfl rfl (gn_ (b:=false) rfl rfl (pf_ rfl rfl (s_mvB rfl (gn_ (b:=false) rfl rfl (gn_ (b:=false) rfl rfl (gn_ (b:=false) rfl rfl (gn_ (b:=false) rfl rfl (gn_ (b:=false) rfl rfl (pf_ rfl rfl (s_mvB rfl (e_ (rt_ (hQ _ _ _ rfl ((h.1 g'1).2 g'2))))))))))))))))))))))))))))))) (fun g'1=>gn_ (b:=false) rfl rfl (gn_ (b:=false) rfl rfl (gn_ (b:=false) rfl rfl (gn_ (b:=false) rfl rfl (gn_ (b:=false) rfl rfl (pf_ rfl rfl (s_mvB rfl (gn_ (b:=false) rfl rfl (gn_ (b:=false) rfl rfl (gn_ (b:=false) rfl rfl (gn_ (b:=false) rfl rfl (gn_ (b:=false) rfl rfl (pf_ rfl rfl (s_mvB rfl (gn_ (b:=false) rfl rfl (gn_ (b:=false) rfl rfl (gn_ (b:=false) rfl rfl (gn_ (b:=false) rfl rfl (gn_ (b:=false) rfl rfl (pf_ rfl rfl (s_mvB rfl (e_ (rt_ (hQ _ _ _ rfl (h.2 g'1)))))))))))))))))))))))))))))))))))))
end
theorem p88 {prog:Prog}(hf:prog.fn 88 = some pf88){a0:Frm}{b1:Frm}{K:Bool→Prop}(h:T88_0 prog K a0 b1) :∃res0:Bool,K res0∧Pus prog 88 [a0.av,b1.av] (.b res0):=by
  obtain ⟨v,hv,res0,hk,rfl⟩:=Pus.of (K:=fun v=>∃res0:Bool,K res0∧v = .b res0) hf rfl (w88_0 (σ:=sl0 [a0.av,b1.av]) (fun σ st   res0 H4 hk=>⟨.b res0,by simp only [pf88,ares,aresL,H4,ares1,Option.map_some],_,rfl,res0,hk,rfl⟩) rfl rfl h)
  exact ⟨res0,hk,hv⟩
def r124_0:List AI:=[oC 4 (.b false)]
def r124_1:List AI:=[oM 6 0,
 oO 7 (.len false (.t 6)),
 oM 8 1,
 oO 9 (.len false (.t 8)),
 oB 10 .neq (.t 7) (.t 9)]
def r124_2:List AI:=[oC 4 (.b false)]
def r124_3:List AI:=[oC 5 (.i .i64 0)]
def r124_4:List AI:=[oM 11 5,
 oM 12 0,
 oO 13 (.len false (.t 12)),
 oB 14 .lss (.t 11) (.t 13)]
def r124_5:List AI:=[oM 17 0,
 oM 18 5,
 oO 19 (.iaL 6 (.t 17) (.t 18)),
 oF 20 0 19,
 oL 21 20,
 oM 22 1,
 oM 23 5,
 oO 24 (.iaL 6 (.t 22) (.t 23)),
 oF 25 0 24,
 oL 26 25,
 oB 27 .neq (.t 21) (.t 26),
 oM 28 27,
 oG 29 (.mv (.t 0)) 28 false,
 oG 30 (.mv (.t 5)) 28 false,
 oG 31 (.iaL 6 (.t 29) (.t 30)) 28 false,
 oG 32 (.fad 1 (.t 31)) 28 false,
 oG 33 (.load 5 true (.t 32)) 28 false,
 oG 34 (.mv (.t 1)) 28 false,
 oG 35 (.mv (.t 5)) 28 false,
 oG 36 (.iaL 6 (.t 34) (.t 35)) 28 false,
 oG 37 (.fad 1 (.t 36)) 28 false,
 oG 38 (.load 5 true (.t 37)) 28 false,
 oG 39 (.call false 78 [(.t 33),(.t 38)]) 28 false,
 oG 40 (.un .not (.t 39)) 28 false,
 oO 41 (.pick (.t 28) (.c (.b true)) (.t 40))]
def r124_6:List AI:=[oC 4 (.b false)]
def r124_7:List AI:=[oM 15 5,
 oB 16 .add (.t 15) (.c (.i .i64 1)),
 oM 5 16]
def r124_8:List AI:=[oC 4 (.b true)]
abbrev l124_0:AC:=(.seq (.seq (.reg 4 r124_4) (.cond (.t 14) .skip (.exit 0))) (.seq (.block 1 (.seq (.reg 6 r124_5) (.cond (.t 41) (.seq (.reg 7 r124_6) .ret) .skip))) (.reg 5 r124_7)))
abbrev c124_1:AC:=(.seq (.reg 8 r124_8) .ret)
abbrev b124:AC:=(.seq (.reg 0 r124_0) (.seq (.seq (.reg 1 r124_1) (.cond (.t 10) (.seq (.reg 2 r124_2) .ret) .skip)) (.seq (.seq (.reg 3 r124_3) (.block 0 (.loop l124_0))) c124_1)))
def pf124:AF:={ nt:=42,res:=[.tmp 4],body:=b124 }
abbrev H124 (Q:AE→Sl→St→Prop)(K:Bool→Prop):Prop:=∀(σ:Sl)(st:St)(res0:Bool),σ 4 = .b res0→K res0→Q .ret σ st
abbrev I124_0 (prog:Prog)(d:Nat)(Q:AE→Sl→St→Prop)(a0:List Loc)(b1:List Loc)(i5:Int):Prop:=
  ∀(σ:Sl)(st:St) (o_a0 o_b1:Own),σ 0 = .sl o_a0 (List.map Loc.row a0)→σ 1 = .sl o_b1 (List.map Loc.row b1)→σ 5 = .i .i64 i5→W prog d (.loop l124_0) σ st (blockW 0 (thenW prog d c124_1 Q))
def T124_2 (prog:Prog)(K:Bool→Prop) :Prop:=
  K true
def T124_1 (prog:Prog)(K:Bool→Prop)(P0:Int→Prop)(a0:List Loc)(b1:List Loc)(i5:Int):Prop:=
  (i5 < (a0.length:Int)→0≤i5∧∃c'2:Loc,a0[(i5).toNat]? = some c'2∧0≤i5∧∃c'4:Loc,b1[(i5).toNat]? = some c'4∧(c'2.slot≠c'4.slot→K false)∧(¬(c'2.slot≠c'4.slot)→0≤i5∧∃c'7:Loc,a0[(i5).toNat]? = some c'7∧0≤i5∧∃c'9:Loc,b1[(i5).toNat]? = some c'9∧∃r'11:Bool,Pus prog 78 [c'7.value.av,c'9.value.av] (.b r'11)∧((!r'11) = true→K false)∧((!r'11) = false→P0 (IntKind.i64.wrap (i5 + 1)))))∧(¬(i5 < (a0.length:Int))→T124_2 prog K )
def T124_0 (prog:Prog)(K:Bool→Prop)(a0:List Loc)(b1:List Loc):Prop:=
  ((a0.length:Int)≠(b1.length:Int)→K false)∧(¬((a0.length:Int)≠(b1.length:Int))→∀P0:Int→Prop,(∀(i5:Int),T124_1 prog K P0 a0 b1 i5→P0 i5)→P0 0)
section
variable {prog:Prog}{d:Nat}{Q:AE→Sl→St→Prop}{K:Bool→Prop}(hQ:H124 Q K){σ:Sl}{st:St}
include hQ
theorem w124_2 (h:T124_2 prog K ):W prog d c124_1 σ st Q:=
 q_ rfl (m_ (e_ (rt_ (hQ _ _ _ rfl h))))
theorem w124_1 {a0 b1:List Loc}{i5:Int}{P0:Int→Prop} (kP0 :∀(i5:Int),P0 i5→I124_0 prog d Q a0 b1 i5){o_a0 o_b1:Own}(H0:σ 0 = .sl o_a0 (List.map Loc.row a0))(H1:σ 1 = .sl o_b1 (List.map Loc.row b1))(H5:σ 5 = .i .i64 i5)(h:T124_1 prog K P0 a0 b1 i5):W prog d l124_0 σ st (thenW prog d (.loop l124_0) (blockW 0 (thenW prog d c124_1 Q))):=
 sq_ (q_ rfl (m_ (s_mvL H0 (ll_ rfl (b_ H5 rfl lss_ (e_ (cs_ rfl (fun g'1=>sk_ (sq_ (bk_ (q_ rfl (s_mvL H0 (s_mvI H5 ((h.1 g'1).2.elim fun c'2 e'3=>ia_ rfl rfl (h.1 g'1).1 e'3.1 (Loc.row_eq c'2) rfl (ff_ rfl (lf_ rfl rfl rfl (s_mvL H1 (s_mvI H5 (e'3.2.2.elim fun c'4 e'5=>ia_ rfl rfl e'3.2.1 e'5.1 (Loc.row_eq c'4) rfl (ff_ rfl (lf_ rfl rfl rfl (b_ rfl rfl neq_ (s_mvB rfl (em_ (g:=28) rfl (fun g'6=>gn_ (b:=true) rfl rfl (gn_ (b:=true) rfl rfl (gn_ (b:=true) rfl rfl (gn_ (b:=true) rfl rfl (gn_ (b:=true) rfl rfl (gn_ (b:=true) rfl rfl (gn_ (b:=true) rfl rfl (gn_ (b:=true) rfl rfl (gn_ (b:=true) rfl rfl (gn_ (b:=true) rfl rfl (gn_ (b:=true) rfl rfl (gn_ (b:=true) rfl rfl (pt_ rfl rfl (e_ (ct_ rfl (q_ rfl (m_ (e_ (rt_ (hQ _ _ _ rfl (e'5.2.1 g'6))))))))))))))))))))) (fun g'6=>gy_ rfl (s_mvL H0 (gy_ rfl (s_mvI H5 (gy_ rfl ((e'5.2.2 g'6).2.elim fun c'7 e'8=>ia_ rfl rfl (e'5.2.2 g'6).1 e'8.1 (Loc.row_eq c'7) rfl (gy_ rfl (ff_ rfl (gy_ rfl (lf_ rfl rfl rfl (gy_ rfl (s_mvL H1 (gy_ rfl (s_mvI H5 (gy_ rfl (e'8.2.2.elim fun c'9 e'10=>ia_ rfl rfl e'8.2.1 e'10.1 (Loc.row_eq c'9) rfl (gy_ rfl (ff_ rfl (gy_ rfl (lf_ rfl rfl rfl (gy_ rfl (e'10.2.elim fun r'11 e'12=>ca_ (sc rfl rfl (sc rfl rfl sn)) e'12.1 (gy_ rfl (nt_ rfl (pf_ rfl rfl (e_ (cb_ rfl (fun g'13=>q_ rfl (m_ (e_ (rt_ (hQ _ _ _ rfl (e'12.2.1 g'13)))))) (fun g'13=>sk_ (W.reg0 rfl fun _ _=>m_ (b_ H5 rfl add_ (m_ (e_ (kP0 _ (e'12.2.2 g'13) _ _ _ _ H0 H1 rfl)))))))))))))))))))))))))))))))))))))))))))))))))) (fun g'1=>ex_ (w124_2 hQ (h.2 g'1))))))))))
theorem w124_0 {a0 b1:List Loc}{o_a0 o_b1:Own}(H0:σ 0 = .sl o_a0 (List.map Loc.row a0))(H1:σ 1 = .sl o_b1 (List.map Loc.row b1))(h:T124_0 prog K a0 b1):W prog d (.seq (.reg 0 r124_0) (.seq (.seq (.reg 1 r124_1) (.cond (.t 10) (.seq (.reg 2 r124_2) .ret) .skip)) (.seq (.seq (.reg 3 r124_3) (.block 0 (.loop l124_0))) c124_1))) σ st Q:=
 q_ rfl (m_ (e_ (sq_ (q_ rfl (s_mvL H0 (ll_ rfl (s_mvL H1 (ll_ rfl (b_ rfl rfl neq_ (e_ (cs_ rfl (fun g'1=>q_ rfl (m_ (e_ (rt_ (hQ _ _ _ rfl (h.1 g'1)))))) (fun g'1=>sk_ (sq_ (q_ rfl (m_ (e_ (bk_ ((h.2 g'1) (I124_0 prog d Q a0 b1) (fun _ hb _ _ _ _ H0 H1 H5=>W.loop (w124_1 hQ (fun _ x=>x) H0 H1 H5 hb)) _ _ _ _ H0 H1 rfl))))))))))))))))))
end
theorem p124 {prog:Prog}(hf:prog.fn 124 = some pf124){a0:List Loc}{b1:List Loc}{K:Bool→Prop}(h:T124_0 prog K a0 b1) :∃res0:Bool,K res0∧Pus prog 124 [.sl .ext (List.map Loc.row a0),.sl .ext (List.map Loc.row b1)] (.b res0):=by
  obtain ⟨v,hv,res0,hk,rfl⟩:=Pus.of (K:=fun v=>∃res0:Bool,K res0∧v = .b res0) hf rfl (w124_0 (σ:=sl0 [.sl .ext (List.map Loc.row a0),.sl .ext (List.map Loc.row b1)]) (fun σ st   res0 H4 hk=>⟨.b res0,by simp only [pf124,ares,aresL,H4,ares1,Option.map_some],_,rfl,res0,hk,rfl⟩) rfl rfl h)
  exact ⟨res0,hk,hv⟩
end Go.AM

/- Parts of the proof. -/
namespace Go.AM
open Go
set_option linter.unusedVariables false
set_option linter.unusedSimpArgs false
set_option maxRecDepth 4000
attribute [local irreducible] WO fillCells fillRows
abbrev H85 (Q:AE→Sl→St→Prop)(K:Int→Frm→Int→Prop):Prop:=∀(σ:Sl)(st:St)(k1:Key)(v1:Nat)(o1_0:Own)(res0:Int)(res1:Frm)(res2:Int),σ 4 = .i .i64 res0→σ 5 = .p k1 v1 0→lk st.bx k1 = some (v1,[.i .i64 res1.func,.i .i64 res1.pos,.i .u64 res1.mode,.sl o1_0 (List.map Loc.row res1.locals)])→σ 6 = .i .i64 res2→K res0 res1 res2→Q .ret σ st
section
variable {prog:Prog}{d:Nat}{Q:AE→Sl→St→Prop}{K:Int→Frm→Int→Prop}(hQ:H85 Q K){σ:Sl}{st:St}
include hQ
end
abbrev H120 (d:Nat)(st0:St)(Q:AE→Sl→St→Prop)(K:Int→Frm→Bool→Prop):Prop:=∀(σ:Sl)(st:St)(k1:Key)(v1:Nat)(res0:Int)(res1:Frm)(res2:Bool),σ 4 = .i .i64 res0→σ 5 = .p k1 v1 0→lk st.bx k1 = some (v1,[.i .i64 res1.func,.i .i64 res1.pos,.i .u64 res1.mode,.sl .full (List.map Loc.row res1.locals)])→σ 6 = .b res2→Fr d (d,0) st0.bx st0.ow st.bx st.ow→K res0 res1 res2→Q .ret σ st
section
variable {prog:Prog}{d:Nat}{Q:AE→Sl→St→Prop}{K:Int→Frm→Bool→Prop}{st0:St}(hQ:H120 d st0 Q K){σ:Sl}{st:St}
include hQ
end
abbrev H121 (Q:AE→Sl→St→Prop)(K:Loc→Bool→Prop):Prop:=∀(σ:Sl)(st:St)(k0:Key)(v0:Nat)(o0_0:Own)(res0:Loc)(res1:Bool),σ 4 = .p k0 v0 0→lk st.bx k0 = some (v0,[.i .i64 res0.slot,.i .u8 res0.value.kind,.i .i64 res0.value.int,.s res0.value.text,.sl o0_0 (List.map Val.row res0.value.list),.b res0.value.cut])→σ 5 = .b res1→K res0 res1→Q .ret σ st
section
variable {prog:Prog}{d:Nat}{Q:AE→Sl→St→Prop}{K:Loc→Bool→Prop}(hQ:H121 Q K){σ:Sl}{st:St}
include hQ
end
abbrev H142 (Q:AE→Sl→St→Prop)(K:List UInt8→Bool→Prop):Prop:=∀(σ:Sl)(st:St)(res0:List UInt8)(res1:Bool),σ 4 = .s res0→σ 5 = .b res1→K res0 res1→Q .ret σ st
section
variable {prog:Prog}{d:Nat}{Q:AE→Sl→St→Prop}{K:List UInt8→Bool→Prop}(hQ:H142 Q K){σ:Sl}{st:St}
include hQ
end
abbrev H143 (Q:AE→Sl→St→Prop)(K:Int→List UInt8→Bool→Prop):Prop:=∀(σ:Sl)(st:St)(res0:Int)(res1:List UInt8)(res2:Bool),σ 4 = .i .i64 res0→σ 5 = .s res1→σ 6 = .b res2→K res0 res1 res2→Q .ret σ st
section
variable {prog:Prog}{d:Nat}{Q:AE→Sl→St→Prop}{K:Int→List UInt8→Bool→Prop}(hQ:H143 Q K){σ:Sl}{st:St}
include hQ
end
end Go.AM

/- Parts of the proof. -/
namespace Go.AM
open Go
set_option linter.unusedVariables false
set_option linter.unusedSimpArgs false
set_option maxRecDepth 4000
attribute [local irreducible] WO fillCells fillRows
abbrev H67 (Q:AE→Sl→St→Prop)(K:Bool→Prop):Prop:=∀(σ:Sl)(st:St)(res0:Bool),σ 8 = .b res0→K res0→Q .ret σ st
section
variable {prog:Prog}{d:Nat}{Q:AE→Sl→St→Prop}{K:Bool→Prop}(hQ:H67 Q K){σ:Sl}{st:St}
include hQ
end
abbrev H69 (Q:AE→Sl→St→Prop)(K:Bool→Prop):Prop:=∀(σ:Sl)(st:St)(res0:Bool),σ 4 = .b res0→K res0→Q .ret σ st
section
variable {prog:Prog}{d:Nat}{Q:AE→Sl→St→Prop}{K:Bool→Prop}(hQ:H69 Q K){σ:Sl}{st:St}
include hQ
end
def r70_0:List AI:=[oO 2 (.box 5 (.t 0)),
 oO 3 (.box 5 (.t 1)),
 oC 4 (.b false)]
def r70_1:List AI:=[oO 11 (.call false 101 []),
 oM 5 11]
def r70_2:List AI:=[oO 12 (.load 5 true (.t 2)),
 oO 13 (.call false 71 [(.t 12)]),
 oM 14 13,
 oG 15 (.load 5 true (.t 3)) 14 false,
 oG 16 (.call false 71 [(.t 15)]) 14 false,
 oO 17 (.pick (.t 14) (.c (.b true)) (.t 16)),
 oM 18 17,
 oG 19 (.mv (.t 5)) 18 false,
 oG 20 (.un .not (.t 19)) 18 false,
 oO 21 (.pick (.t 18) (.c (.b true)) (.t 20))]
def r70_3:List AI:=[oM 22 5,
 oM 4 22]
def r70_4:List AI:=[oO 24 (.load 5 true (.t 2)),
 oO 25 (.call false 72 [(.t 24)]),
 oM 23 25,
 oE 26 0 23,
 oE 27 1 23,
 oM 6 26,
 oM 7 27]
def r70_5:List AI:=[oO 29 (.load 5 true (.t 3)),
 oO 30 (.call false 72 [(.t 29)]),
 oM 28 30,
 oE 31 0 28,
 oE 32 1 28,
 oM 8 31,
 oM 9 32]
def r70_6:List AI:=[oM 33 7,
 oB 34 .neq (.t 33) (.c (.i .i64 0)),
 oM 35 34,
 oG 36 (.mv (.t 9)) 35 false,
 oG 37 (.bin .neq (.t 36) (.c (.i .i64 0))) 35 false,
 oO 38 (.pick (.t 35) (.c (.b true)) (.t 37))]
def r70_7:List AI:=[oM 39 5,
 oM 40 39,
 oG 41 (.mv (.t 7)) 40 true,
 oG 42 (.bin .eql (.t 41) (.c (.i .i64 0))) 40 true,
 oG 43 (.mv (.t 42)) 40 true,
 oG 44 (.mv (.t 7)) 43 false,
 oG 45 (.bin .eql (.t 44) (.c (.i .i64 8))) 43 false,
 oG 46 (.pick (.t 43) (.c (.b true)) (.t 45)) 40 true,
 oO 47 (.pick (.t 40) (.t 46) (.c (.b false))),
 oM 48 47,
 oG 49 (.mv (.t 9)) 48 true,
 oG 50 (.bin .eql (.t 49) (.c (.i .i64 0))) 48 true,
 oG 51 (.mv (.t 50)) 48 true,
 oG 52 (.mv (.t 9)) 51 false,
 oG 53 (.bin .eql (.t 52) (.c (.i .i64 8))) 51 false,
 oG 54 (.pick (.t 51) (.c (.b true)) (.t 53)) 48 true,
 oO 55 (.pick (.t 48) (.t 54) (.c (.b false))),
 oM 4 55]
def r70_8:List AI:=[oM 56 6,
 oM 57 8,
 oB 58 .eql (.t 56) (.t 57),
 oO 59 (.load 5 true (.t 2)),
 oO 60 (.load 5 true (.t 3)),
 oO 61 (.call false 78 [(.t 59),(.t 60)]),
 oO 62 (.beq true (.t 58) (.t 61))]
def r70_9:List AI:=[oC 4 (.b false)]
def r70_10:List AI:=[oO 63 (.load 5 true (.t 2)),
 oO 64 (.load 5 true (.t 3)),
 oO 65 (.bslice [.i .u8 0,.i .i64 0,.s [],.sl .full [],.b false] 2 [(0,(.t 63)),(1,(.t 64))]),
 oO 66 (.call true 89 [(.c (.i .u8 5)),(.t 65)]),
 oO 10 (.alloc [.i .u8 0,.i .i64 0,.s [],.sl .full [],.b false]),
 oS 5 10 66]
def r70_11:List AI:=[oO 67 (.load 5 true (.t 10)),
 oO 68 (.call false 76 [(.t 67)]),
 oB 69 .neq (.t 68) (.c (.i .i64 0))]
def r70_12:List AI:=[oM 70 5,
 oM 71 70,
 oG 72 (.load 5 true (.t 10)) 71 true,
 oG 73 (.call false 77 [(.t 72)]) 71 true,
 oG 74 (.bin .neq (.t 73) (.c (.i .i64 0))) 71 true,
 oO 75 (.pick (.t 71) (.t 74) (.c (.b false))),
 oM 4 75]
def r70_13:List AI:=[oM 76 5,
 oM 77 76,
 oG 78 (.load 5 true (.t 10)) 77 true,
 oG 79 (.mv (.t 6)) 77 true,
 oG 80 (.bin .add (.c (.s [123])) (.t 79)) 77 true,
 oG 81 (.bin .add (.t 80) (.c (.s [44,32]))) 77 true,
 oG 82 (.mv (.t 8)) 77 true,
 oG 83 (.bin .add (.t 81) (.t 82)) 77 true,
 oG 84 (.bin .add (.t 83) (.c (.s [125]))) 77 true,
 oG 85 (.call false 91 [(.t 78),(.t 84)]) 77 true,
 oO 86 (.pick (.t 77) (.t 85) (.c (.b false))),
 oM 87 86,
 oG 88 (.load 5 true (.t 3)) 87 true,
 oG 89 (.load 5 true (.t 2)) 87 true,
 oG 90 (.bslice [.i .u8 0,.i .i64 0,.s [],.sl .full [],.b false] 2 [(0,(.t 88)),(1,(.t 89))]) 87 true,
 oG 91 (.call true 89 [(.c (.i .u8 6)),(.t 90)]) 87 true,
 oG 92 (.mv (.t 8)) 87 true,
 oG 93 (.bin .add (.c (.s [91])) (.t 92)) 87 true,
 oG 94 (.bin .add (.t 93) (.c (.s [44,32]))) 87 true,
 oG 95 (.mv (.t 6)) 87 true,
 oG 96 (.bin .add (.t 94) (.t 95)) 87 true,
 oG 97 (.bin .add (.t 96) (.c (.s [93]))) 87 true,
 oG 98 (.call false 91 [(.t 91),(.t 97)]) 87 true,
 oO 99 (.pick (.t 87) (.t 98) (.c (.b false))),
 oM 100 99,
 oG 101 (.load 5 true (.t 2)) 100 true,
 oG 102 (.bslice [.i .u8 0,.i .i64 0,.s [],.sl .full [],.b false] 1 [(0,(.t 101))]) 100 true,
 oG 103 (.call true 89 [(.c (.i .u8 7)),(.t 102)]) 100 true,
 oG 104 (.mv (.t 6)) 100 true,
 oG 105 (.bin .add (.c (.s [60])) (.t 104)) 100 true,
 oG 106 (.bin .add (.t 105) (.c (.s [62]))) 100 true,
 oG 107 (.call false 91 [(.t 103),(.t 106)]) 100 true,
 oO 108 (.pick (.t 100) (.t 107) (.c (.b false))),
 oM 109 108,
 oG 110 (.load 5 true (.t 3)) 109 true,
 oG 111 (.bslice [.i .u8 0,.i .i64 0,.s [],.sl .full [],.b false] 1 [(0,(.t 110))]) 109 true,
 oG 112 (.call true 89 [(.c (.i .u8 4)),(.t 111)]) 109 true,
 oG 113 (.mv (.t 8)) 109 true,
 oG 114 (.bin .add (.c (.s [38])) (.t 113)) 109 true,
 oG 115 (.call false 91 [(.t 112),(.t 114)]) 109 true,
 oO 116 (.pick (.t 109) (.t 115) (.c (.b false))),
 oM 4 116]
abbrev c70_0:AC:=(.cond (.t 38) (.seq (.reg 7 r70_7) .ret) .skip)
abbrev c70_1:AC:=(.seq (.reg 13 r70_13) .ret)
abbrev c70_2:AC:=(.seq (.seq (.reg 8 r70_8) (.cond (.t 62) (.seq (.reg 9 r70_9) .ret) .skip)) (.seq (.reg 10 r70_10) (.seq (.seq (.reg 11 r70_11) (.cond (.t 69) (.seq (.reg 12 r70_12) .ret) .skip)) c70_1)))
abbrev c70_3:AC:=(.seq (.seq (.reg 6 r70_6) c70_0) c70_2)
abbrev c70_4:AC:=(.seq (.reg 5 r70_5) c70_3)
abbrev c70_5:AC:=(.seq (.reg 4 r70_4) c70_4)
abbrev c70_6:AC:=(.seq (.seq (.reg 2 r70_2) (.cond (.t 21) (.seq (.reg 3 r70_3) .ret) .skip)) c70_5)
abbrev c70_7:AC:=(.seq (.reg 1 r70_1) c70_6)
abbrev b70:AC:=(.seq (.reg 0 r70_0) c70_7)
def pf70:AF:={ nt:=117,res:=[.tmp 4],body:=b70 }
abbrev H70 (Q:AE→Sl→St→Prop)(K:Bool→Prop):Prop:=∀(σ:Sl)(st:St)(res0:Bool),σ 4 = .b res0→K res0→Q .ret σ st
def T70_8 (prog:Prog)(K:Bool→Prop)(ok5:Bool)(a6:List UInt8)(b8:List UInt8)(m0:Val)(m1:Val)(m40964:Val):Prop:=
  (ok5 = true→([123]:List UInt8).length + a6.length≤maxStr∧(([123]:List UInt8) ++ a6).length + ([44,32]:List UInt8).length≤maxStr∧((([123]:List UInt8) ++ a6) ++ ([44,32]:List UInt8)).length + b8.length≤maxStr∧(((([123]:List UInt8) ++ a6) ++ ([44,32]:List UInt8)) ++ b8).length + ([125]:List UInt8).length≤maxStr∧∃r'2:Bool,Pus prog 91 [m40964.av,.s ((((([123]:List UInt8) ++ a6) ++ ([44,32]:List UInt8)) ++ b8) ++ ([125]:List UInt8))] (.b r'2)∧(r'2 = true→∃r'5:Val,(PuN prog 89 [.i .u8 6,.sl .full (List.map Val.row [m1,m0])] (fun r=>r = r'5.avo .full))∧([91]:List UInt8).length + b8.length≤maxStr∧(([91]:List UInt8) ++ b8).length + ([44,32]:List UInt8).length≤maxStr∧((([91]:List UInt8) ++ b8) ++ ([44,32]:List UInt8)).length + a6.length≤maxStr∧(((([91]:List UInt8) ++ b8) ++ ([44,32]:List UInt8)) ++ a6).length + ([93]:List UInt8).length≤maxStr∧∃r'9:Bool,Pus prog 91 [r'5.av,.s ((((([91]:List UInt8) ++ b8) ++ ([44,32]:List UInt8)) ++ a6) ++ ([93]:List UInt8))] (.b r'9)∧(r'9 = true→∃r'12:Val,(PuN prog 89 [.i .u8 7,.sl .full (List.map Val.row [m0])] (fun r=>r = r'12.avo .full))∧([60]:List UInt8).length + a6.length≤maxStr∧(([60]:List UInt8) ++ a6).length + ([62]:List UInt8).length≤maxStr∧∃r'16:Bool,Pus prog 91 [r'12.av,.s ((([60]:List UInt8) ++ a6) ++ ([62]:List UInt8))] (.b r'16)∧(r'16 = true→∃r'19:Val,(PuN prog 89 [.i .u8 4,.sl .full (List.map Val.row [m1])] (fun r=>r = r'19.avo .full))∧([38]:List UInt8).length + b8.length≤maxStr∧∃r'23:Bool,Pus prog 91 [r'19.av,.s (([38]:List UInt8) ++ b8)] (.b r'23)∧K r'23)∧(r'16 = false→K false))∧(r'9 = false→K false))∧(r'2 = false→K false))∧(ok5 = false→K false)
def T70_7 (prog:Prog)(K:Bool→Prop)(ok5:Bool)(a6:List UInt8)(b8:List UInt8)(m0:Val)(m1:Val):Prop:=
  ∃r'1:Bool,Pus prog 78 [m0.av,m1.av] (.b r'1)∧((decide (a6 = b8))≠r'1→K false)∧(¬((decide (a6 = b8))≠r'1)→∃r'4:Val,(PuN prog 89 [.i .u8 5,.sl .full (List.map Val.row [m0,m1])] (fun r=>r = r'4.avo .full))∧∃r'8:Int,Pus prog 76 [r'4.av] (.i .i64 r'8)∧(r'8≠0→(ok5 = true→∃r'12:Int,Pus prog 77 [r'4.av] (.i .i64 r'12)∧K (decide (r'12≠0)))∧(ok5 = false→K false))∧(¬(r'8≠0)→T70_8 prog K ok5 a6 b8 m0 m1 r'4))
def T70_6 (prog:Prog)(K:Bool→Prop)(ok5:Bool)(a6:List UInt8)(e7:Int)(b8:List UInt8)(f9:Int)(t38:Bool)(m0:Val)(m1:Val):Prop:=
  (t38 = true→(ok5 = true→(e7 = 0→(f9 = 0→K true)∧(¬(f9 = 0)→K (decide (f9 = 8))))∧(¬(e7 = 0)→(e7 = 8→(f9 = 0→K true)∧(¬(f9 = 0)→K (decide (f9 = 8))))∧(¬(e7 = 8)→K false)))∧(ok5 = false→K false))∧(t38 = false→T70_7 prog K ok5 a6 b8 m0 m1)
def T70_5 (prog:Prog)(K:Bool→Prop)(ok5:Bool)(a6:List UInt8)(e7:Int)(b8:List UInt8)(f9:Int)(m0:Val)(m1:Val):Prop:=
  (e7≠0→T70_6 prog K ok5 a6 e7 b8 f9 true m0 m1)∧(¬(e7≠0)→T70_6 prog K ok5 a6 e7 b8 f9 (decide (f9≠0)) m0 m1)
def T70_4 (prog:Prog)(K:Bool→Prop)(ok5:Bool)(a6:List UInt8)(e7:Int)(m0:Val)(m1:Val):Prop:=
  ∃r'1:List UInt8,∃r'2:Int,Pus prog 72 [m1.av] (.tup [.s r'1,.i .i64 r'2])∧T70_5 prog K ok5 a6 e7 r'1 r'2 m0 m1
def T70_3 (prog:Prog)(K:Bool→Prop)(ok5:Bool)(m0:Val)(m1:Val):Prop:=
  ∃r'1:List UInt8,∃r'2:Int,Pus prog 72 [m0.av] (.tup [.s r'1,.i .i64 r'2])∧T70_4 prog K ok5 r'1 r'2 m0 m1
def T70_2 (prog:Prog)(K:Bool→Prop)(ok5:Bool)(m0:Val)(m1:Val):Prop:=
  ∃r'1:Bool,Pus prog 71 [m0.av] (.b r'1)∧(r'1 = true→K ok5)∧(r'1 = false→∃r'4:Bool,Pus prog 71 [m1.av] (.b r'4)∧(r'4 = true→K ok5)∧(r'4 = false→((!ok5) = true→K ok5)∧((!ok5) = false→T70_3 prog K ok5 m0 m1)))
def T70_1 (prog:Prog)(K:Bool→Prop)(m0:Val)(m1:Val):Prop:=
  ∃r'1:Bool,Pus prog 101 [] (.b r'1)∧T70_2 prog K r'1 m0 m1
def T70_0 (prog:Prog)(K:Bool→Prop)(v0:Val)(w1:Val):Prop:=
  T70_1 prog K v0 w1
section
variable {prog:Prog}{d:Nat}{Q:AE→Sl→St→Prop}{K:Bool→Prop}(hQ:H70 Q K){σ:Sl}{st:St}
include hQ
theorem w70_8 {ok5:Bool}{a6 b8:List UInt8}{m0 m1 m40964:Val}{o_m40964_3:Own}{v0:Nat}{v1:Nat}{v40964:Nat}(H2:σ 2 = .p (d,0) v0 0)(H3:σ 3 = .p (d,1) v1 0)(H5:σ 5 = .b ok5)(H6:σ 6 = .s a6)(H8:σ 8 = .s b8)(H10:σ 10 = .p (d,40964) v40964 0)(Ab40964:ApM d st.ow o_m40964_3 m40964.list.length)(B0:lk st.bx (d,0) = some (v0,[.i .u8 m0.kind,.i .i64 m0.int,.s m0.text,.sl .ext (List.map Val.row m0.list),.b m0.cut]))(B1:lk st.bx (d,1) = some (v1,[.i .u8 m1.kind,.i .i64 m1.int,.s m1.text,.sl .ext (List.map Val.row m1.list),.b m1.cut]))(B40964:lk st.bx (d,40964) = some (v40964,[.i .u8 m40964.kind,.i .i64 m40964.int,.s m40964.text,.sl o_m40964_3 (List.map Val.row m40964.list),.b m40964.cut]))(h:T70_8 prog K ok5 a6 b8 m0 m1 m40964):W prog d c70_1 σ st Q:=
 q_ rfl (s_mvB H5 (s_mvB rfl (eb_ (g:=77) rfl (fun g'1=>gy_ rfl (l_ H10 B40964 rfl rfl (gy_ rfl (s_mvS H6 (gy_ rfl (b_ rfl rfl (abin_cat' (h.1 g'1).1) (gy_ rfl (b_ rfl rfl (abin_cat' (h.1 g'1).2.1) (gy_ rfl (s_mvS H8 (gy_ rfl (b_ rfl rfl (abin_cat' (h.1 g'1).2.2.1) (gy_ rfl (b_ rfl rfl (abin_cat' (h.1 g'1).2.2.2.1) (gy_ rfl ((h.1 g'1).2.2.2.2.elim fun r'2 e'3=>ca_ (sc rfl rfl (sc rfl rfl sn)) e'3.1 (pt_ rfl rfl (s_mvB rfl (eb_ (g:=87) rfl (fun g'4=>gy_ rfl (l_ H3 B1 rfl rfl (gy_ rfl (l_ H2 B0 rfl rfl (gy_ rfl (s_bslM (f:=Val.row) (l:=[m1,m0]) rfl rfl (g_cons rfl rfl rfl (g_cons rfl rfl rfl g_nil)) (by simp only [List.map_cons,List.map_nil,Val.row_eq]; rfl) (gy_ rfl ((e'3.2.1 g'4).elim fun r'5 e'6=>s_callN (sec rfl (sec rfl sen)) (e'6.1) (fun st'7 hf'8=>gy_ rfl (s_mvS H8 (gy_ rfl (b_ rfl rfl (abin_cat' e'6.2.1) (gy_ rfl (b_ rfl rfl (abin_cat' e'6.2.2.1) (gy_ rfl (s_mvS H6 (gy_ rfl (b_ rfl rfl (abin_cat' e'6.2.2.2.1) (gy_ rfl (b_ rfl rfl (abin_cat' e'6.2.2.2.2.1) (gy_ rfl (e'6.2.2.2.2.2.elim fun r'9 e'10=>ca_ (sc rfl rfl (sc rfl rfl sn)) e'10.1 (pt_ rfl rfl (s_mvB rfl (eb_ (g:=100) rfl (fun g'11=>gy_ rfl (l_ H2 ((hf'8.1 (d,0) (Nat.lt_succ_self d) key_dn).trans B0) rfl rfl (gy_ rfl (s_bslM (f:=Val.row) (l:=[m0]) rfl rfl (g_cons rfl rfl rfl g_nil) (by simp only [List.map_cons,List.map_nil,Val.row_eq]; rfl) (gy_ rfl ((e'10.2.1 g'11).elim fun r'12 e'13=>s_callN (sec rfl (sec rfl sen)) (e'13.1) (fun st'14 hf'15=>gy_ rfl (s_mvS H6 (gy_ rfl (b_ rfl rfl (abin_cat' e'13.2.1) (gy_ rfl (b_ rfl rfl (abin_cat' e'13.2.2.1) (gy_ rfl (e'13.2.2.2.elim fun r'16 e'17=>ca_ (sc rfl rfl (sc rfl rfl sn)) e'17.1 (pt_ rfl rfl (s_mvB rfl (eb_ (g:=109) rfl (fun g'18=>gy_ rfl (l_ H3 ((hf'15.1 (d,1) (Nat.lt_succ_self d) key_dn).trans ((hf'8.1 (d,1) (Nat.lt_succ_self d) key_dn).trans B1)) rfl rfl (gy_ rfl (s_bslM (f:=Val.row) (l:=[m1]) rfl rfl (g_cons rfl rfl rfl g_nil) (by simp only [List.map_cons,List.map_nil,Val.row_eq]; rfl) (gy_ rfl ((e'17.2.1 g'18).elim fun r'19 e'20=>s_callN (sec rfl (sec rfl sen)) (e'20.1) (fun st'21 hf'22=>gy_ rfl (s_mvS H8 (gy_ rfl (b_ rfl rfl (abin_cat' e'20.2.1) (gy_ rfl (e'20.2.2.elim fun r'23 e'24=>ca_ (sc rfl rfl (sc rfl rfl sn)) e'24.1 (pt_ rfl rfl (s_mvB rfl (e_ (rt_ (hQ _ _ _ rfl e'24.2))))))))))))))))) (fun g'18=>gn_ (b:=false) rfl rfl (gn_ (b:=false) rfl rfl (gn_ (b:=false) rfl rfl (gn_ (b:=false) rfl rfl (gn_ (b:=false) rfl rfl (gn_ (b:=false) rfl rfl (pf_ rfl rfl (s_mvB rfl (e_ (rt_ (hQ _ _ _ rfl (e'17.2.2 g'18))))))))))))))))))))))))))))) (fun g'11=>gn_ (b:=false) rfl rfl (gn_ (b:=false) rfl rfl (gn_ (b:=false) rfl rfl (gn_ (b:=false) rfl rfl (gn_ (b:=false) rfl rfl (gn_ (b:=false) rfl rfl (gn_ (b:=false) rfl rfl (pf_ rfl rfl (s_mvB rfl (gn_ (b:=false) rfl rfl (gn_ (b:=false) rfl rfl (gn_ (b:=false) rfl rfl (gn_ (b:=false) rfl rfl (gn_ (b:=false) rfl rfl (gn_ (b:=false) rfl rfl (pf_ rfl rfl (s_mvB rfl (e_ (rt_ (hQ _ _ _ rfl (e'10.2.2 g'11)))))))))))))))))))))))))))))))))))))))))))))) (fun g'4=>gn_ (b:=false) rfl rfl (gn_ (b:=false) rfl rfl (gn_ (b:=false) rfl rfl (gn_ (b:=false) rfl rfl (gn_ (b:=false) rfl rfl (gn_ (b:=false) rfl rfl (gn_ (b:=false) rfl rfl (gn_ (b:=false) rfl rfl (gn_ (b:=false) rfl rfl (gn_ (b:=false) rfl rfl (gn_ (b:=false) rfl rfl (pf_ rfl rfl (s_mvB rfl (gn_ (b:=false) rfl rfl (gn_ (b:=false) rfl rfl (gn_ (b:=false) rfl rfl (gn_ (b:=false) rfl rfl (gn_ (b:=false) rfl rfl (gn_ (b:=false) rfl rfl (gn_ (b:=false) rfl rfl (pf_ rfl rfl (s_mvB rfl (gn_ (b:=false) rfl rfl (gn_ (b:=false) rfl rfl (gn_ (b:=false) rfl rfl (gn_ (b:=false) rfl rfl (gn_ (b:=false) rfl rfl (gn_ (b:=false) rfl rfl (pf_ rfl rfl (s_mvB rfl (e_ (rt_ (hQ _ _ _ rfl (e'3.2.2 g'4))))))))))))))))))))))))))))))))))))))))))))))))))))) (fun g'1=>gn_ (b:=false) rfl rfl (gn_ (b:=false) rfl rfl (gn_ (b:=false) rfl rfl (gn_ (b:=false) rfl rfl (gn_ (b:=false) rfl rfl (gn_ (b:=false) rfl rfl (gn_ (b:=false) rfl rfl (gn_ (b:=false) rfl rfl (pf_ rfl rfl (s_mvB rfl (gn_ (b:=false) rfl rfl (gn_ (b:=false) rfl rfl (gn_ (b:=false) rfl rfl (gn_ (b:=false) rfl rfl (gn_ (b:=false) rfl rfl (gn_ (b:=false) rfl rfl (gn_ (b:=false) rfl rfl (gn_ (b:=false) rfl rfl (gn_ (b:=false) rfl rfl (gn_ (b:=false) rfl rfl (gn_ (b:=false) rfl rfl (pf_ rfl rfl (s_mvB rfl (gn_ (b:=false) rfl rfl (gn_ (b:=false) rfl rfl (gn_ (b:=false) rfl rfl (gn_ (b:=false) rfl rfl (gn_ (b:=false) rfl rfl (gn_ (b:=false) rfl rfl (gn_ (b:=false) rfl rfl (pf_ rfl rfl (s_mvB rfl (gn_ (b:=false) rfl rfl (gn_ (b:=false) rfl rfl (gn_ (b:=false) rfl rfl (gn_ (b:=false) rfl rfl (gn_ (b:=false) rfl rfl (gn_ (b:=false) rfl rfl (pf_ rfl rfl (s_mvB rfl (e_ (rt_ (hQ _ _ _ rfl (h.2 g'1)))))))))))))))))))))))))))))))))))))))))))))))
theorem w70_7 {ok5:Bool}{a6 b8:List UInt8}{m0 m1:Val}{v0:Nat}{v1:Nat}(H2:σ 2 = .p (d,0) v0 0)(H3:σ 3 = .p (d,1) v1 0)(H5:σ 5 = .b ok5)(H6:σ 6 = .s a6)(H8:σ 8 = .s b8)(B0:lk st.bx (d,0) = some (v0,[.i .u8 m0.kind,.i .i64 m0.int,.s m0.text,.sl .ext (List.map Val.row m0.list),.b m0.cut]))(B1:lk st.bx (d,1) = some (v1,[.i .u8 m1.kind,.i .i64 m1.int,.s m1.text,.sl .ext (List.map Val.row m1.list),.b m1.cut]))(h:T70_7 prog K ok5 a6 b8 m0 m1):W prog d c70_2 σ st Q:=
 sq_ (q_ rfl (m_ (m_ (b_ H6 H8 seq_ (l_ H2 B0 rfl rfl (l_ H3 B1 rfl rfl (h.elim fun r'1 e'2=>ca_ (sc rfl rfl (sc rfl rfl sn)) e'2.1 (s_bne rfl rfl (e_ (cs_ rfl (fun g'3=>q_ rfl (m_ (e_ (rt_ (hQ _ _ _ rfl (e'2.2.1 g'3)))))) (fun g'3=>sk_ (sq_ (W.reg (l_ H2 (lk_other rfl B0) rfl rfl (l_ H3 (lk_other rfl B1) rfl rfl (s_bslM (f:=Val.row) (l:=[m0,m1]) rfl rfl (g_cons rfl rfl rfl (g_cons rfl rfl rfl g_nil)) (by simp only [List.map_cons,List.map_nil,Val.row_eq]; rfl) ((e'2.2.2 g'3).elim fun r'4 e'5=>s_callN (sec rfl (sec rfl sen)) (e'5.1) (fun st'6 hf'7=>s_alloc (so_ rfl ((hf'7.1 (d,40964) (Nat.lt_succ_self d) key_dn).trans (show lk _ (d,40964) = some (_,([.i .u8 0,.i .i64 0,.s [],.sl .full (List.map Val.row ([]:List Val)),.b false]:List AV)) from lk_here)) rfl rfl rfl (e_ (sq_ (q_ rfl (l_ rfl lk_here rfl rfl (e'5.2.elim fun r'8 e'9=>ca_ (sc rfl rfl sn) e'9.1 (b_ rfl rfl neq_ (e_ (cs_ rfl (fun g'10=>q_ rfl (s_mvB H5 (s_mvB rfl (eb_ (g:=71) rfl (fun g'11=>gy_ rfl (l_ rfl lk_here rfl rfl (gy_ rfl (((e'9.2.1 g'10).1 g'11).elim fun r'12 e'13=>ca_ (sc rfl rfl sn) e'13.1 (gy_ rfl (b_ rfl rfl neq_ (pt_ rfl rfl (s_mvB rfl (e_ (rt_ (hQ _ _ _ rfl e'13.2))))))))))) (fun g'11=>gn_ (b:=false) rfl rfl (gn_ (b:=false) rfl rfl (gn_ (b:=false) rfl rfl (pf_ rfl rfl (s_mvB rfl (e_ (rt_ (hQ _ _ _ rfl ((e'9.2.1 g'10).2 g'11))))))))))))) (fun g'10=>sk_ (w70_8 hQ H2 H3 H5 H6 H8 rfl ApM.full (lk_other rfl ((hf'7.1 (d,0) (Nat.lt_succ_self d) key_dn).trans (lk_other rfl B0))) (lk_other rfl ((hf'7.1 (d,1) (Nat.lt_succ_self d) key_dn).trans (lk_other rfl B1))) lk_here (e'9.2.2 g'10))))))))))))))))))))))))))))))
theorem w70_6 {ok5:Bool}{a6:List UInt8}{e7:Int}{b8:List UInt8}{f9:Int}{t38:Bool}{m0 m1:Val}{v0:Nat}{v1:Nat}(H2:σ 2 = .p (d,0) v0 0)(H3:σ 3 = .p (d,1) v1 0)(H5:σ 5 = .b ok5)(H6:σ 6 = .s a6)(H7:σ 7 = .i .i64 e7)(H8:σ 8 = .s b8)(H9:σ 9 = .i .i64 f9)(H38:σ 38 = .b t38)(B0:lk st.bx (d,0) = some (v0,[.i .u8 m0.kind,.i .i64 m0.int,.s m0.text,.sl .ext (List.map Val.row m0.list),.b m0.cut]))(B1:lk st.bx (d,1) = some (v1,[.i .u8 m1.kind,.i .i64 m1.int,.s m1.text,.sl .ext (List.map Val.row m1.list),.b m1.cut]))(h:T70_6 prog K ok5 a6 e7 b8 f9 t38 m0 m1):W prog d c70_0 σ st (thenW prog d c70_2 Q):=
 cb_ H38 (fun g'1=>q_ rfl (s_mvB H5 (s_mvB rfl (eb_ (g:=40) rfl (fun g'2=>gy_ rfl (s_mvI H7 (gy_ rfl (b_ rfl rfl eql_ (gy_ rfl (s_mvB rfl (em_ (g:=43) rfl (fun g'3=>gn_ (b:=true) rfl rfl (gn_ (b:=true) rfl rfl (gy_ rfl (pt_ rfl rfl (pt_ rfl rfl (s_mvB rfl (gy_ rfl (s_mvI H9 (gy_ rfl (b_ rfl rfl eql_ (gy_ rfl (s_mvB rfl (em_ (g:=51) rfl (fun g'4=>gn_ (b:=true) rfl rfl (gn_ (b:=true) rfl rfl (gy_ rfl (pt_ rfl rfl (pt_ rfl rfl (s_mvB rfl (e_ (rt_ (hQ _ _ _ rfl ((((h.1 g'1).1 g'2).1 g'3).1 g'4)))))))))) (fun g'4=>gy_ rfl (s_mvI H9 (gy_ rfl (b_ rfl rfl eql_ (gy_ rfl (pf_ rfl rfl (pt_ rfl rfl (s_mvB rfl (e_ (rt_ (hQ _ _ _ rfl ((((h.1 g'1).1 g'2).1 g'3).2 g'4))))))))))))))))))))))))) (fun g'3=>gy_ rfl (s_mvI H7 (gy_ rfl (b_ rfl rfl eql_ (gy_ rfl (pf_ rfl rfl (pt_ rfl rfl (s_mvB rfl (em_ (g:=48) rfl (fun g'5=>gy_ rfl (s_mvI H9 (gy_ rfl (b_ rfl rfl eql_ (gy_ rfl (s_mvB rfl (em_ (g:=51) rfl (fun g'6=>gn_ (b:=true) rfl rfl (gn_ (b:=true) rfl rfl (gy_ rfl (pt_ rfl rfl (pt_ rfl rfl (s_mvB rfl (e_ (rt_ (hQ _ _ _ rfl (((((h.1 g'1).1 g'2).2 g'3).1 g'5).1 g'6)))))))))) (fun g'6=>gy_ rfl (s_mvI H9 (gy_ rfl (b_ rfl rfl eql_ (gy_ rfl (pf_ rfl rfl (pt_ rfl rfl (s_mvB rfl (e_ (rt_ (hQ _ _ _ rfl (((((h.1 g'1).1 g'2).2 g'3).1 g'5).2 g'6))))))))))))))))))) (fun g'5=>gn_ (b:=false) rfl rfl (gn_ (b:=false) rfl rfl (gn_ (b:=false) rfl rfl (gt_ rfl (gt_ rfl (gn_ (b:=false) rfl rfl (pf_ rfl rfl (s_mvB rfl (e_ (rt_ (hQ _ _ _ rfl ((((h.1 g'1).1 g'2).2 g'3).2 g'5)))))))))))))))))))))))))))) (fun g'2=>gn_ (b:=false) rfl rfl (gn_ (b:=false) rfl rfl (gn_ (b:=false) rfl rfl (gt_ rfl (gt_ rfl (gn_ (b:=false) rfl rfl (pf_ rfl rfl (s_mvB rfl (gn_ (b:=false) rfl rfl (gn_ (b:=false) rfl rfl (gn_ (b:=false) rfl rfl (gt_ rfl (gt_ rfl (gn_ (b:=false) rfl rfl (pf_ rfl rfl (s_mvB rfl (e_ (rt_ (hQ _ _ _ rfl ((h.1 g'1).2 g'2)))))))))))))))))))))))) (fun g'1=>sk_ (w70_7 hQ H2 H3 H5 H6 H8 B0 B1 (h.2 g'1)))
theorem w70_5 {ok5:Bool}{a6:List UInt8}{e7:Int}{b8:List UInt8}{f9:Int}{m0 m1:Val}{v0:Nat}{v1:Nat}(H2:σ 2 = .p (d,0) v0 0)(H3:σ 3 = .p (d,1) v1 0)(H5:σ 5 = .b ok5)(H6:σ 6 = .s a6)(H7:σ 7 = .i .i64 e7)(H8:σ 8 = .s b8)(H9:σ 9 = .i .i64 f9)(B0:lk st.bx (d,0) = some (v0,[.i .u8 m0.kind,.i .i64 m0.int,.s m0.text,.sl .ext (List.map Val.row m0.list),.b m0.cut]))(B1:lk st.bx (d,1) = some (v1,[.i .u8 m1.kind,.i .i64 m1.int,.s m1.text,.sl .ext (List.map Val.row m1.list),.b m1.cut]))(h:T70_5 prog K ok5 a6 e7 b8 f9 m0 m1):W prog d c70_3 σ st Q:=
 sq_ (q_ rfl (s_mvI H7 (b_ rfl rfl neq_ (s_mvB rfl (em_ (g:=35) rfl (fun g'1=>gn_ (b:=true) rfl rfl (gn_ (b:=true) rfl rfl (pt_ rfl rfl (e_ (w70_6 hQ H2 H3 H5 H6 H7 H8 H9 rfl B0 B1 (h.1 g'1)))))) (fun g'1=>gy_ rfl (s_mvI H9 (gy_ rfl (b_ rfl rfl neq_ (pf_ rfl rfl (e_ (w70_6 hQ H2 H3 H5 H6 H7 H8 H9 rfl B0 B1 (h.2 g'1)))))))))))))
theorem w70_4 {ok5:Bool}{a6:List UInt8}{e7:Int}{m0 m1:Val}{v0:Nat}{v1:Nat}(H2:σ 2 = .p (d,0) v0 0)(H3:σ 3 = .p (d,1) v1 0)(H5:σ 5 = .b ok5)(H6:σ 6 = .s a6)(H7:σ 7 = .i .i64 e7)(B0:lk st.bx (d,0) = some (v0,[.i .u8 m0.kind,.i .i64 m0.int,.s m0.text,.sl .ext (List.map Val.row m0.list),.b m0.cut]))(B1:lk st.bx (d,1) = some (v1,[.i .u8 m1.kind,.i .i64 m1.int,.s m1.text,.sl .ext (List.map Val.row m1.list),.b m1.cut]))(h:T70_4 prog K ok5 a6 e7 m0 m1):W prog d c70_4 σ st Q:=
 q_ rfl (l_ H3 B1 rfl rfl (h.elim fun r'1 e'4=>e'4.elim fun r'2 e'3=>ca_ (sc rfl rfl sn) e'3.1 (m_ (x_ rfl rfl (x_ rfl rfl (m_ (m_ (e_ (w70_5 hQ H2 H3 H5 H6 H7 rfl rfl B0 B1 e'3.2)))))))))
theorem w70_3 {ok5:Bool}{m0 m1:Val}{v0:Nat}{v1:Nat}(H2:σ 2 = .p (d,0) v0 0)(H3:σ 3 = .p (d,1) v1 0)(H5:σ 5 = .b ok5)(B0:lk st.bx (d,0) = some (v0,[.i .u8 m0.kind,.i .i64 m0.int,.s m0.text,.sl .ext (List.map Val.row m0.list),.b m0.cut]))(B1:lk st.bx (d,1) = some (v1,[.i .u8 m1.kind,.i .i64 m1.int,.s m1.text,.sl .ext (List.map Val.row m1.list),.b m1.cut]))(h:T70_3 prog K ok5 m0 m1):W prog d c70_5 σ st Q:=
 q_ rfl (l_ H2 B0 rfl rfl (h.elim fun r'1 e'4=>e'4.elim fun r'2 e'3=>ca_ (sc rfl rfl sn) e'3.1 (m_ (x_ rfl rfl (x_ rfl rfl (m_ (m_ (e_ (w70_4 hQ H2 H3 H5 rfl rfl B0 B1 e'3.2)))))))))
theorem w70_2 {ok5:Bool}{m0 m1:Val}{v0:Nat}{v1:Nat}(H2:σ 2 = .p (d,0) v0 0)(H3:σ 3 = .p (d,1) v1 0)(H5:σ 5 = .b ok5)(B0:lk st.bx (d,0) = some (v0,[.i .u8 m0.kind,.i .i64 m0.int,.s m0.text,.sl .ext (List.map Val.row m0.list),.b m0.cut]))(B1:lk st.bx (d,1) = some (v1,[.i .u8 m1.kind,.i .i64 m1.int,.s m1.text,.sl .ext (List.map Val.row m1.list),.b m1.cut]))(h:T70_2 prog K ok5 m0 m1):W prog d c70_6 σ st Q:=
 sq_ (q_ rfl (l_ H2 B0 rfl rfl (h.elim fun r'1 e'2=>ca_ (sc rfl rfl sn) e'2.1 (s_mvB rfl (eb_ (g:=14) rfl (fun g'3=>gn_ (b:=true) rfl rfl (gn_ (b:=true) rfl rfl (pt_ rfl rfl (s_mvB rfl (gn_ (b:=true) rfl rfl (gn_ (b:=true) rfl rfl (pt_ rfl rfl (e_ (ct_ rfl (q_ rfl (m_ (m_ (e_ (rt_ (hQ _ _ _ H5 (e'2.2.1 g'3)))))))))))))))) (fun g'3=>gy_ rfl (l_ H3 B1 rfl rfl (gy_ rfl ((e'2.2.2 g'3).elim fun r'4 e'5=>ca_ (sc rfl rfl sn) e'5.1 (pf_ rfl rfl (s_mvB rfl (eb_ (g:=18) rfl (fun g'6=>gn_ (b:=true) rfl rfl (gn_ (b:=true) rfl rfl (pt_ rfl rfl (e_ (ct_ rfl (q_ rfl (m_ (m_ (e_ (rt_ (hQ _ _ _ H5 (e'5.2.1 g'6)))))))))))) (fun g'6=>gy_ rfl (s_mvB H5 (gy_ rfl (nt_ rfl (pf_ rfl rfl (e_ (cb_ rfl (fun g'7=>q_ rfl (m_ (m_ (e_ (rt_ (hQ _ _ _ H5 ((e'5.2.2 g'6).1 g'7))))))) (fun g'7=>sk_ (w70_3 hQ H2 H3 H5 B0 B1 ((e'5.2.2 g'6).2 g'7))))))))))))))))))))))
theorem w70_1 {m0 m1:Val}{v0:Nat}{v1:Nat}(H2:σ 2 = .p (d,0) v0 0)(H3:σ 3 = .p (d,1) v1 0)(B0:lk st.bx (d,0) = some (v0,[.i .u8 m0.kind,.i .i64 m0.int,.s m0.text,.sl .ext (List.map Val.row m0.list),.b m0.cut]))(B1:lk st.bx (d,1) = some (v1,[.i .u8 m1.kind,.i .i64 m1.int,.s m1.text,.sl .ext (List.map Val.row m1.list),.b m1.cut]))(h:T70_1 prog K m0 m1):W prog d c70_7 σ st Q:=
 q_ rfl (h.elim fun r'1 e'2=>ca_ sn e'2.1 (m_ (e_ (w70_2 hQ H2 H3 rfl B0 B1 e'2.2))))
theorem w70_0 {v0 w1:Val}(H0:σ 0 = v0.av)(H1:σ 1 = w1.av)(h:T70_0 prog K v0 w1):W prog d (.seq (.reg 0 r70_0) c70_7) σ st Q:=
 q_ rfl (s_box H0 rfl (s_box H1 rfl (m_ (e_ (w70_1 hQ rfl rfl (lk_other rfl lk_here) lk_here h)))))
end
theorem p70 {prog:Prog}(hf:prog.fn 70 = some pf70){v0:Val}{w1:Val}{K:Bool→Prop}(h:T70_0 prog K v0 w1) :∃res0:Bool,K res0∧Pus prog 70 [v0.av,w1.av] (.b res0):=by
  obtain ⟨v,hv,res0,hk,rfl⟩:=Pus.of (K:=fun v=>∃res0:Bool,K res0∧v = .b res0) hf rfl (w70_0 (σ:=sl0 [v0.av,w1.av]) (fun σ st   res0 H4 hk=>⟨.b res0,by simp only [pf70,ares,aresL,H4,ares1,Option.map_some],_,rfl,res0,hk,rfl⟩) rfl rfl h)
  exact ⟨res0,hk,hv⟩
def r89_0:List AI:=[oO 4 (.alloc [.i .u8 0,.i .i64 0,.s [],.sl .full [],.b false])]
def r89_1:List AI:=[oM 5 0,
 oM 6 1,
 oO 7 (.build [.i .u8 0,.i .i64 0,.s [],.sl .full [],.b false] [(0,1,(.t 5)),(3,1,(.t 6))]),
 oS 5 4 7]
abbrev b89:AC:=(.seq (.reg 0 r89_0) (.seq (.reg 1 r89_1) .ret))
def pf89:AF:={ nt:=8,res:=[.cell 4 5 true],body:=b89 }
abbrev H89 (d:Nat)(st0:St)(Q:AE→Sl→St→Prop)(K:Val→Prop):Prop:=∀(σ:Sl)(st:St)(k0:Key)(v0:Nat)(res0:Val),σ 4 = .p k0 v0 0→lk st.bx k0 = some (v0,[.i .u8 res0.kind,.i .i64 res0.int,.s res0.text,.sl .full (List.map Val.row res0.list),.b res0.cut])→Fr d (d,0) st0.bx st0.ow st.bx st.ow→K res0→Q .ret σ st
def T89_0 (prog:Prog)(K:Val→Prop)(kind0:Int)(l1:List Val):Prop:=
  K (Val.mk kind0 0 [] l1 false)
section
variable {prog:Prog}{d:Nat}{Q:AE→Sl→St→Prop}{K:Val→Prop}{st0:St}(hQ:H89 d st0 Q K){σ:Sl}{st:St}
include hQ
theorem w89_0 {kind0:Int}{l1:List Val}(H0:σ 0 = .i .u8 kind0)(H1:σ 1 = .sl .full (List.map Val.row l1))(FR:Fr d (d,0) st0.bx st0.ow st.bx st.ow)(h:T89_0 prog K kind0 l1):W prog d (.seq (.reg 0 r89_0) (.seq (.reg 1 r89_1) .ret)) σ st Q:=
 sq_ (W.reg (s_alloc (e_ (q_ rfl (m_ (s_mvL H1 (s_build (f_cons H0 rfl (f_cons rfl rfl f_nil)) (so_ rfl (show lk _ (d,0) = some (_,([.i .u8 0,.i .i64 0,.s [],.sl .full (List.map Val.row ([]:List Val)),.b false]:List AV)) from lk_here) rfl rfl rfl (e_ (rt_ (hQ _ _ _ _ _ rfl lk_here (Fr.box (Fr.box FR)) h)))))))))))
end
theorem p89 {prog:Prog}(hf:prog.fn 89 = some pf89){kind0:Int}{l1:List Val}{K:Val→Prop}(h:T89_0 prog K kind0 l1):PuN prog 89 [.i .u8 kind0,.sl .full (List.map Val.row l1)] (fun r=>∃res0:Val,(r = res0.avo .full)∧K res0):=
  PuN.of hf rfl fun d st=>w89_0 (st0:=st) (Q:=fun e σ st'=>(e = .normal∨e = .ret)∧∃r,ares σ st' pf89.res = some r∧_∧Fr d (d,0) st.bx st.ow st'.bx st'.ow) (fun σ st' k0 v0  res0 H4 HB4 hf hk=>⟨.inr rfl,res0.avo .full,by simp only [pf89,ares,aresL,ares_cellA (n:=5) H4 HB4 rfl,ares_tmp,Option.map_some,ares_cellA (n:=5) H4 HB4 rfl],⟨res0,rfl,hk⟩,hf⟩) (σ:=sl0 [.i .u8 kind0,.sl .full (List.map Val.row l1)]) rfl rfl Fr.refl h
def r90_0:List AI:=[oO 0 (.alloc [.i .u8 0,.i .i64 0,.s [],.sl .full [],.b false])]
def r90_1:List AI:=[oO 1 (.build [.i .u8 0,.i .i64 0,.s [],.sl .full [],.b false] [(0,1,(.c (.i .u8 1))),(1,1,(.c (.i .i64 1)))]),
 oS 5 0 1]
abbrev b90:AC:=(.seq (.reg 0 r90_0) (.seq (.reg 1 r90_1) .ret))
def pf90:AF:={ nt:=2,res:=[.cell 0 5 true],body:=b90 }
abbrev H90 (Q:AE→Sl→St→Prop)(K:Val→Prop):Prop:=∀(σ:Sl)(st:St)(k0:Key)(v0:Nat)(o0_0:Own)(res0:Val),σ 0 = .p k0 v0 0→lk st.bx k0 = some (v0,[.i .u8 res0.kind,.i .i64 res0.int,.s res0.text,.sl o0_0 (List.map Val.row res0.list),.b res0.cut])→K res0→Q .ret σ st
def T90_0 (prog:Prog)(K:Val→Prop) :Prop:=
  K (Val.mk 1 1 [] ([]:List Val) false)
section
variable {prog:Prog}{d:Nat}{Q:AE→Sl→St→Prop}{K:Val→Prop}(hQ:H90 Q K){σ:Sl}{st:St}
include hQ
theorem w90_0 (h:T90_0 prog K ):W prog d (.seq (.reg 0 r90_0) (.seq (.reg 1 r90_1) .ret)) σ st Q:=
 sq_ (W.reg (s_alloc (e_ (q_ rfl (s_build (f_cons rfl rfl (f_cons rfl rfl f_nil)) (so_ rfl (show lk _ (d,0) = some (_,([.i .u8 0,.i .i64 0,.s [],.sl .full (List.map Val.row ([]:List Val)),.b false]:List AV)) from lk_here) rfl rfl rfl (e_ (rt_ (hQ _ _ _ _ _ _ rfl lk_here h)))))))))
end
theorem p90 {prog:Prog}(hf:prog.fn 90 = some pf90)  {K:Val→Prop}(h:T90_0 prog K ) :∃res0:Val,K res0∧Pus prog 90 [] (res0.av):=by
  obtain ⟨v,hv,res0,hk,rfl⟩:=Pus.of (K:=fun v=>∃res0:Val,K res0∧v = res0.av) hf rfl (w90_0 (σ:=sl0 []) (fun σ st k0 v0 o0_0 res0 H0 HB0 hk=>⟨res0.avo o0_0,by simp only [pf90,ares,aresL,ares_cellA (n:=5) H0 HB0 rfl,ares_tmp,Option.map_some],_,rfl,res0,hk,rfl⟩)  h)
  exact ⟨res0,hk,hv⟩
def r91_0:List AI:=[oO 2 (.box 5 (.t 0)),
 oC 4 (.b false)]
def r91_1:List AI:=[oO 10 (.load 5 true (.t 2)),
 oO 11 (.call false 72 [(.t 10)]),
 oM 9 11,
 oE 12 0 9,
 oE 13 1 9,
 oM 5 12,
 oM 6 13]
def r91_2:List AI:=[oM 15 1,
 oO 16 (.call false 74 [(.t 15)]),
 oM 14 16,
 oE 17 0 14,
 oE 18 1 14,
 oO 7 (.alloc [.i .u8 0,.i .i64 0,.s [],.sl .full [],.b false]),
 oS 5 7 17,
 oM 8 18]
def r91_3:List AI:=[oM 19 6,
 oB 20 .eql (.t 19) (.c (.i .i64 0)),
 oM 21 20,
 oG 22 (.mv (.t 5)) 21 true,
 oG 23 (.mv (.t 1)) 21 true,
 oG 24 (.bin .eql (.t 22) (.t 23)) 21 true,
 oO 25 (.pick (.t 21) (.t 24) (.c (.b false))),
 oM 26 25,
 oG 27 (.mv (.t 8)) 26 true,
 oG 28 (.bin .eql (.t 27) (.c (.i .i64 0))) 26 true,
 oO 29 (.pick (.t 26) (.t 28) (.c (.b false))),
 oM 30 29,
 oG 31 (.load 5 true (.t 2)) 30 true,
 oG 32 (.load 5 true (.t 7)) 30 true,
 oG 33 (.call false 78 [(.t 31),(.t 32)]) 30 true,
 oO 34 (.pick (.t 30) (.t 33) (.c (.b false))),
 oM 4 34]
abbrev b91:AC:=(.seq (.reg 0 r91_0) (.seq (.reg 1 r91_1) (.seq (.reg 2 r91_2) (.seq (.reg 3 r91_3) .ret))))
def pf91:AF:={ nt:=35,res:=[.tmp 4],body:=b91 }
abbrev H91 (Q:AE→Sl→St→Prop)(K:Bool→Prop):Prop:=∀(σ:Sl)(st:St)(res0:Bool),σ 4 = .b res0→K res0→Q .ret σ st
def T91_0 (prog:Prog)(K:Bool→Prop)(v0:Val)(want1:List UInt8):Prop:=
  ∃r'1:List UInt8,∃r'2:Int,Pus prog 72 [v0.av] (.tup [.s r'1,.i .i64 r'2])∧∃r'4:Val,∃r'5:Int,Pus prog 74 [.s want1] (.tup [r'4.av,.i .i64 r'5])∧(r'2 = 0→(r'1 = want1→(r'5 = 0→∃r'10:Bool,Pus prog 78 [v0.av,r'4.av] (.b r'10)∧K r'10)∧(¬(r'5 = 0)→K false))∧(¬(r'1 = want1)→K false))∧(¬(r'2 = 0)→K false)
section
variable {prog:Prog}{d:Nat}{Q:AE→Sl→St→Prop}{K:Bool→Prop}(hQ:H91 Q K){σ:Sl}{st:St}
include hQ
theorem w91_0 {v0:Val}{want1:List UInt8}(H0:σ 0 = v0.av)(H1:σ 1 = .s want1)(h:T91_0 prog K v0 want1):W prog d (.seq (.reg 0 r91_0) (.seq (.reg 1 r91_1) (.seq (.reg 2 r91_2) (.seq (.reg 3 r91_3) .ret)))) σ st Q:=
 q_ rfl (s_box H0 rfl (m_ (e_ (q_ rfl (l_ rfl lk_here rfl rfl (h.elim fun r'1 e'13=>e'13.elim fun r'2 e'3=>ca_ (sc rfl rfl sn) e'3.1 (m_ (x_ rfl rfl (x_ rfl rfl (m_ (m_ (e_ (sq_ (W.reg (m_ (e'3.2.elim fun r'4 e'12=>e'12.elim fun r'5 e'6=>ca_ (sc H1 rfl sn) e'6.1 (m_ (x_ rfl rfl (x_ rfl rfl (s_alloc (so_ rfl (show lk _ (d,8197) = some (_,([.i .u8 0,.i .i64 0,.s [],.sl .full (List.map Val.row ([]:List Val)),.b false]:List AV)) from lk_here) rfl rfl rfl (m_ (e_ (q_ rfl (s_mvI rfl (b_ rfl rfl eql_ (s_mvB rfl (em_ (g:=21) rfl (fun g'7=>gy_ rfl (s_mvS rfl (gy_ rfl (s_mvS H1 (gy_ rfl (b_ rfl rfl seq_ (pt_ rfl rfl (s_mvB rfl (em_ (g:=26) rfl (fun g'8=>gy_ rfl (s_mvI rfl (gy_ rfl (b_ rfl rfl eql_ (pt_ rfl rfl (s_mvB rfl (em_ (g:=30) rfl (fun g'9=>gy_ rfl (l_ rfl (lk_other rfl (lk_other rfl lk_here)) rfl rfl (gy_ rfl (l_ rfl lk_here rfl rfl (gy_ rfl ((((e'6.2.1 g'7).1 g'8).1 g'9).elim fun r'10 e'11=>ca_ (sc rfl rfl (sc rfl rfl sn)) e'11.1 (pt_ rfl rfl (s_mvB rfl (e_ (rt_ (hQ _ _ _ rfl e'11.2))))))))))) (fun g'9=>gn_ (b:=false) rfl rfl (gn_ (b:=false) rfl rfl (gn_ (b:=false) rfl rfl (pf_ rfl rfl (s_mvB rfl (e_ (rt_ (hQ _ _ _ rfl (((e'6.2.1 g'7).1 g'8).2 g'9)))))))))))))))) (fun g'8=>gn_ (b:=false) rfl rfl (gn_ (b:=false) rfl rfl (pf_ rfl rfl (s_mvB rfl (gn_ (b:=false) rfl rfl (gn_ (b:=false) rfl rfl (gn_ (b:=false) rfl rfl (pf_ rfl rfl (s_mvB rfl (e_ (rt_ (hQ _ _ _ rfl ((e'6.2.1 g'7).2 g'8)))))))))))))))))))))) (fun g'7=>gn_ (b:=false) rfl rfl (gn_ (b:=false) rfl rfl (gn_ (b:=false) rfl rfl (pf_ rfl rfl (s_mvB rfl (gn_ (b:=false) rfl rfl (gn_ (b:=false) rfl rfl (pf_ rfl rfl (s_mvB rfl (gn_ (b:=false) rfl rfl (gn_ (b:=false) rfl rfl (gn_ (b:=false) rfl rfl (pf_ rfl rfl (s_mvB rfl (e_ (rt_ (hQ _ _ _ rfl (e'6.2.2 g'7))))))))))))))))))))))))))))))))))))))))))))))
end
theorem p91 {prog:Prog}(hf:prog.fn 91 = some pf91){v0:Val}{want1:List UInt8}{K:Bool→Prop}(h:T91_0 prog K v0 want1) :∃res0:Bool,K res0∧Pus prog 91 [v0.av,.s want1] (.b res0):=by
  obtain ⟨v,hv,res0,hk,rfl⟩:=Pus.of (K:=fun v=>∃res0:Bool,K res0∧v = .b res0) hf rfl (w91_0 (σ:=sl0 [v0.av,.s want1]) (fun σ st   res0 H4 hk=>⟨.b res0,by simp only [pf91,ares,aresL,H4,ares1,Option.map_some],_,rfl,res0,hk,rfl⟩) rfl rfl h)
  exact ⟨res0,hk,hv⟩
def r92_0:List AI:=[oO 2 (.alloc [.i .u8 0,.i .i64 0,.s [],.sl .full [],.b false])]
def r92_1:List AI:=[oM 3 0,
 oO 4 (.build [.i .u8 0,.i .i64 0,.s [],.sl .full [],.b false] [(0,1,(.c (.i .u8 2))),(1,1,(.t 3))]),
 oS 5 2 4]
abbrev b92:AC:=(.seq (.reg 0 r92_0) (.seq (.reg 1 r92_1) .ret))
def pf92:AF:={ nt:=5,res:=[.cell 2 5 true],body:=b92 }
abbrev H92 (Q:AE→Sl→St→Prop)(K:Val→Prop):Prop:=∀(σ:Sl)(st:St)(k0:Key)(v0:Nat)(o0_0:Own)(res0:Val),σ 2 = .p k0 v0 0→lk st.bx k0 = some (v0,[.i .u8 res0.kind,.i .i64 res0.int,.s res0.text,.sl o0_0 (List.map Val.row res0.list),.b res0.cut])→K res0→Q .ret σ st
def T92_0 (prog:Prog)(K:Val→Prop)(n0:Int):Prop:=
  K (Val.mk 2 n0 [] ([]:List Val) false)
section
variable {prog:Prog}{d:Nat}{Q:AE→Sl→St→Prop}{K:Val→Prop}(hQ:H92 Q K){σ:Sl}{st:St}
include hQ
theorem w92_0 {n0:Int}(H0:σ 0 = .i .i64 n0)(h:T92_0 prog K n0):W prog d (.seq (.reg 0 r92_0) (.seq (.reg 1 r92_1) .ret)) σ st Q:=
 sq_ (W.reg (s_alloc (e_ (q_ rfl (m_ (s_build (f_cons rfl rfl (f_cons H0 rfl f_nil)) (so_ rfl (show lk _ (d,0) = some (_,([.i .u8 0,.i .i64 0,.s [],.sl .full (List.map Val.row ([]:List Val)),.b false]:List AV)) from lk_here) rfl rfl rfl (e_ (rt_ (hQ _ _ _ _ _ _ rfl lk_here h))))))))))
end
theorem p92 {prog:Prog}(hf:prog.fn 92 = some pf92){n0:Int}{K:Val→Prop}(h:T92_0 prog K n0) :∃res0:Val,K res0∧Pus prog 92 [.i .i64 n0] (res0.av):=by
  obtain ⟨v,hv,res0,hk,rfl⟩:=Pus.of (K:=fun v=>∃res0:Val,K res0∧v = res0.av) hf rfl (w92_0 (σ:=sl0 [.i .i64 n0]) (fun σ st k0 v0 o0_0 res0 H2 HB2 hk=>⟨res0.avo o0_0,by simp only [pf92,ares,aresL,ares_cellA (n:=5) H2 HB2 rfl,ares_tmp,Option.map_some],_,rfl,res0,hk,rfl⟩) rfl h)
  exact ⟨res0,hk,hv⟩
def r93_0:List AI:=[oO 2 (.alloc [.i .u8 0,.i .i64 0,.s [],.sl .full [],.b false])]
def r93_1:List AI:=[oM 3 0,
 oO 4 (.build [.i .u8 0,.i .i64 0,.s [],.sl .full [],.b false] [(0,1,(.c (.i .u8 3))),(2,1,(.t 3))]),
 oS 5 2 4]
abbrev b93:AC:=(.seq (.reg 0 r93_0) (.seq (.reg 1 r93_1) .ret))
def pf93:AF:={ nt:=5,res:=[.cell 2 5 true],body:=b93 }
abbrev H93 (Q:AE→Sl→St→Prop)(K:Val→Prop):Prop:=∀(σ:Sl)(st:St)(k0:Key)(v0:Nat)(o0_0:Own)(res0:Val),σ 2 = .p k0 v0 0→lk st.bx k0 = some (v0,[.i .u8 res0.kind,.i .i64 res0.int,.s res0.text,.sl o0_0 (List.map Val.row res0.list),.b res0.cut])→K res0→Q .ret σ st
def T93_0 (prog:Prog)(K:Val→Prop)(s0:List UInt8):Prop:=
  K (Val.mk 3 0 s0 ([]:List Val) false)
section
variable {prog:Prog}{d:Nat}{Q:AE→Sl→St→Prop}{K:Val→Prop}(hQ:H93 Q K){σ:Sl}{st:St}
include hQ
theorem w93_0 {s0:List UInt8}(H0:σ 0 = .s s0)(h:T93_0 prog K s0):W prog d (.seq (.reg 0 r93_0) (.seq (.reg 1 r93_1) .ret)) σ st Q:=
 sq_ (W.reg (s_alloc (e_ (q_ rfl (m_ (s_build (f_cons rfl rfl (f_cons H0 rfl f_nil)) (so_ rfl (show lk _ (d,0) = some (_,([.i .u8 0,.i .i64 0,.s [],.sl .full (List.map Val.row ([]:List Val)),.b false]:List AV)) from lk_here) rfl rfl rfl (e_ (rt_ (hQ _ _ _ _ _ _ rfl lk_here h))))))))))
end
theorem p93 {prog:Prog}(hf:prog.fn 93 = some pf93){s0:List UInt8}{K:Val→Prop}(h:T93_0 prog K s0) :∃res0:Val,K res0∧Pus prog 93 [.s s0] (res0.av):=by
  obtain ⟨v,hv,res0,hk,rfl⟩:=Pus.of (K:=fun v=>∃res0:Val,K res0∧v = res0.av) hf rfl (w93_0 (σ:=sl0 [.s s0]) (fun σ st k0 v0 o0_0 res0 H2 HB2 hk=>⟨res0.avo o0_0,by simp only [pf93,ares,aresL,ares_cellA (n:=5) H2 HB2 rfl,ares_tmp,Option.map_some],_,rfl,res0,hk,rfl⟩) rfl h)
  exact ⟨res0,hk,hv⟩
def r98_0:List AI:=[oC 2 (.b false)]
def r98_1:List AI:=[oM 6 0,
 oO 7 (.call false 74 [(.t 6)]),
 oM 5 7,
 oE 8 0 5,
 oE 9 1 5,
 oO 3 (.alloc [.i .u8 0,.i .i64 0,.s [],.sl .full [],.b false]),
 oS 5 3 8,
 oM 4 9]
def r98_2:List AI:=[oM 10 4,
 oB 11 .eql (.t 10) (.c (.i .i64 12)),
 oM 12 11,
 oG 13 (.load 5 true (.t 3)) 12 true,
 oG 14 (.build [.i .u8 0,.i .i64 0,.s [],.sl .full [],.b false] []) 12 true,
 oG 15 (.call false 78 [(.t 13),(.t 14)]) 12 true,
 oO 16 (.pick (.t 12) (.t 15) (.c (.b false))),
 oM 2 16]
abbrev b98:AC:=(.seq (.reg 0 r98_0) (.seq (.reg 1 r98_1) (.seq (.reg 2 r98_2) .ret)))
def pf98:AF:={ nt:=17,res:=[.tmp 2],body:=b98 }
abbrev H98 (Q:AE→Sl→St→Prop)(K:Bool→Prop):Prop:=∀(σ:Sl)(st:St)(res0:Bool),σ 2 = .b res0→K res0→Q .ret σ st
def T98_0 (prog:Prog)(K:Bool→Prop)(s0:List UInt8):Prop:=
  ∃r'1:Val,∃r'2:Int,Pus prog 74 [.s s0] (.tup [r'1.av,.i .i64 r'2])∧(r'2 = 12→∃r'5:Bool,Pus prog 78 [r'1.av,.ag [.i .u8 0,.i .i64 0,.s [],.sl .ext (List.map Val.row ([]:List Val)),.b false]] (.b r'5)∧K r'5)∧(¬(r'2 = 12)→K false)
section
variable {prog:Prog}{d:Nat}{Q:AE→Sl→St→Prop}{K:Bool→Prop}(hQ:H98 Q K){σ:Sl}{st:St}
include hQ
theorem w98_0 {s0:List UInt8}(H0:σ 0 = .s s0)(h:T98_0 prog K s0):W prog d (.seq (.reg 0 r98_0) (.seq (.reg 1 r98_1) (.seq (.reg 2 r98_2) .ret))) σ st Q:=
 q_ rfl (m_ (e_ (sq_ (W.reg (m_ (h.elim fun r'1 e'7=>e'7.elim fun r'2 e'3=>ca_ (sc H0 rfl sn) e'3.1 (m_ (x_ rfl rfl (x_ rfl rfl (s_alloc (so_ rfl (show lk _ (d,4101) = some (_,([.i .u8 0,.i .i64 0,.s [],.sl .full (List.map Val.row ([]:List Val)),.b false]:List AV)) from lk_here) rfl rfl rfl (m_ (e_ (q_ rfl (s_mvI rfl (b_ rfl rfl eql_ (s_mvB rfl (em_ (g:=12) rfl (fun g'4=>gy_ rfl (l_ rfl lk_here rfl rfl (gy_ rfl (s_build f_nil (gy_ rfl ((e'3.2.1 g'4).elim fun r'5 e'6=>ca_ (sc rfl rfl (sc rfl rfl sn)) e'6.1 (pt_ rfl rfl (s_mvB rfl (e_ (rt_ (hQ _ _ _ rfl e'6.2))))))))))) (fun g'4=>gn_ (b:=false) rfl rfl (gn_ (b:=false) rfl rfl (gn_ (b:=false) rfl rfl (pf_ rfl rfl (s_mvB rfl (e_ (rt_ (hQ _ _ _ rfl (e'3.2.2 g'4)))))))))))))))))))))))))))
end
theorem p98 {prog:Prog}(hf:prog.fn 98 = some pf98){s0:List UInt8}{K:Bool→Prop}(h:T98_0 prog K s0) :∃res0:Bool,K res0∧Pus prog 98 [.s s0] (.b res0):=by
  obtain ⟨v,hv,res0,hk,rfl⟩:=Pus.of (K:=fun v=>∃res0:Bool,K res0∧v = .b res0) hf rfl (w98_0 (σ:=sl0 [.s s0]) (fun σ st   res0 H2 hk=>⟨.b res0,by simp only [pf98,ares,aresL,H2,ares1,Option.map_some],_,rfl,res0,hk,rfl⟩) rfl h)
  exact ⟨res0,hk,hv⟩
def r99_0:List AI:=[oO 0 (.alloc [.sl .full [],.sl .full [],.sl .full []])]
def r99_1:List AI:=[oO 3 (.mks [.i .u8 0,.i .i64 0,.i .i64 0,.i .i64 0] 32 (.c (.i .i64 9)) (.c (.i .i64 9))),
 oM 1 3]
def r99_2:List AI:=[oM 4 1,
 oO 5 (.build [.s [],.i .i64 0] [(0,1,(.c (.s [97])))]),
 oO 6 (.build [.s [],.i .i64 0] [(0,1,(.c (.s [120])))]),
 oO 7 (.build [.s [],.i .i64 0] [(0,1,(.c (.s [122])))]),
 oO 8 (.bslice [.s [],.i .i64 0] 3 [(0,(.t 5)),(1,(.t 6)),(2,(.t 7))]),
 oO 9 (.build [.s [],.i .i64 0,.i .i64 0,.sl .full [],.sl .full [],.sl .full [],.sl .full []] [(0,1,(.c (.s [102]))),(4,1,(.t 4)),(3,1,(.t 8))]),
 oO 2 (.alloc [.s [],.i .i64 0,.i .i64 0,.sl .full [],.sl .full [],.sl .full [],.sl .full []]),
 oS 7 2 9]
def r99_3:List AI:=[oM 10 1,
 oO 11 (.build [.s [],.i .i64 0,.i .i64 0,.sl .full [],.sl .full [],.sl .full [],.sl .full []] [(0,1,(.c (.s [109,97,105,110]))),(4,1,(.t 10))]),
 oM 12 1,
 oO 13 (.build [.s [],.i .i64 0,.i .i64 0,.sl .full [],.sl .full [],.sl .full [],.sl .full []] [(0,1,(.c (.s [102]))),(4,1,(.t 12))]),
 oO 14 (.load 7 true (.t 2)),
 oO 15 (.bslice [.s [],.i .i64 0,.i .i64 0,.sl .full [],.sl .full [],.sl .full [],.sl .full []] 3 [(0,(.t 11)),(1,(.t 13)),(2,(.t 14))]),
 oO 16 (.build [.sl .full [],.sl .full [],.sl .full []] [(2,1,(.t 15))]),
 oS 3 0 16]
abbrev b99:AC:=(.seq (.reg 0 r99_0) (.seq (.reg 1 r99_1) (.seq (.reg 2 r99_2) (.seq (.reg 3 r99_3) .ret))))
def pf99:AF:={ nt:=17,res:=[.cell 0 3 true],body:=b99 }
abbrev H99 (Q:AE→Sl→St→Prop)(K:Img→Prop):Prop:=∀(σ:Sl)(st:St)(k0:Key)(v0:Nat) (o0_0 o0_1 o0_2:Own)(res0:Img),σ 0 = .p k0 v0 0→lk st.bx k0 = some (v0,[.sl o0_0 (List.map Typ.row res0.types),.sl o0_1 (List.map rowS res0.texts),.sl o0_2 (List.map Fun.row res0.funcs)])→K res0→Q .ret σ st
def T99_0 (prog:Prog)(K:Img→Prop) :Prop:=
  K (Img.mk ([]:List Typ) ([]:List (List UInt8)) [(Fun.mk ([109,97,105,110]:List UInt8) 0 0 ([]:List Fld) (rep 9 Ins.zero) ([]:List Rnn) ([]:List Rnn)),(Fun.mk ([102]:List UInt8) 0 0 ([]:List Fld) (rep 9 Ins.zero) ([]:List Rnn) ([]:List Rnn)),(Fun.mk ([102]:List UInt8) 0 0 [(Fld.mk ([97]:List UInt8) 0),(Fld.mk ([120]:List UInt8) 0),(Fld.mk ([122]:List UInt8) 0)] (rep 9 Ins.zero) ([]:List Rnn) ([]:List Rnn))])
section
variable {prog:Prog}{d:Nat}{Q:AE→Sl→St→Prop}{K:Img→Prop}(hQ:H99 Q K){σ:Sl}{st:St}
include hQ
theorem w99_0 (h:T99_0 prog K ):W prog d (.seq (.reg 0 r99_0) (.seq (.reg 1 r99_1) (.seq (.reg 2 r99_2) (.seq (.reg 3 r99_3) .ret)))) σ st Q:=
 sq_ (W.reg (s_alloc (e_ (q_ rfl (s_mks (n:=9) (m:=9) (f:=Ins.row) (a:=Ins.zero) rfl rfl rfl rfl rfl (by decide) rfl ⟨by decide,by decide⟩ (s_mvL rfl (e_ (sq_ (W.reg (s_mvL rfl (s_build (f_cons rfl rfl f_nil) (s_build (f_cons rfl rfl f_nil) (s_build (f_cons rfl rfl f_nil) (s_bslM (f:=Fld.row) (l:=[(Fld.mk ([97]:List UInt8) 0),(Fld.mk ([120]:List UInt8) 0),(Fld.mk ([122]:List UInt8) 0)]) rfl rfl (g_cons rfl rfl rfl (g_cons rfl rfl rfl (g_cons rfl rfl rfl g_nil))) (by simp only [List.map_cons,List.map_nil,Fld.row_eq]; rfl) (s_build (f_cons rfl rfl (f_cons rfl rfl (f_cons rfl rfl f_nil))) (s_alloc (so_ rfl (show lk _ (d,8198) = some (_,([.s [],.i .i64 0,.i .i64 0,.sl .full (List.map Fld.row ([]:List Fld)),.sl .full (List.map Ins.row ([]:List Ins)),.sl .full (List.map Rnn.row ([]:List Rnn)),.sl .full (List.map Rnn.row ([]:List Rnn))]:List AV)) from lk_here) rfl rfl rfl (e_ (q_ rfl (s_mvL rfl (s_build (f_cons rfl rfl (f_cons rfl rfl f_nil)) (s_mvL rfl (s_build (f_cons rfl rfl (f_cons rfl rfl f_nil)) (l_ rfl lk_here rfl rfl (s_bslM (f:=Fun.row) (l:=[(Fun.mk ([109,97,105,110]:List UInt8) 0 0 ([]:List Fld) (rep 9 Ins.zero) ([]:List Rnn) ([]:List Rnn)),(Fun.mk ([102]:List UInt8) 0 0 ([]:List Fld) (rep 9 Ins.zero) ([]:List Rnn) ([]:List Rnn)),(Fun.mk ([102]:List UInt8) 0 0 [(Fld.mk ([97]:List UInt8) 0),(Fld.mk ([120]:List UInt8) 0),(Fld.mk ([122]:List UInt8) 0)] (rep 9 Ins.zero) ([]:List Rnn) ([]:List Rnn))]) rfl rfl (g_cons rfl rfl rfl (g_cons rfl rfl rfl (g_cons rfl rfl rfl g_nil))) (by simp only [List.map_cons,List.map_nil,Fun.row_eq]; rfl) (s_build (f_cons rfl rfl f_nil) (so_ rfl (lk_other rfl (lk_other rfl (show lk _ (d,0) = some (_,([.sl .full (List.map Typ.row ([]:List Typ)),.sl .full (List.map rowS ([]:List (List UInt8))),.sl .full (List.map Fun.row ([]:List Fun))]:List AV)) from lk_here))) rfl rfl rfl (e_ (rt_ (hQ _ _ _ _ _ _ _ _ rfl lk_here h))))))))))))))))))))))))))))))
end
theorem p99 {prog:Prog}(hf:prog.fn 99 = some pf99)  {K:Img→Prop}(h:T99_0 prog K ) :∃res0:Img,K res0∧Pus prog 99 [] (res0.av):=by
  obtain ⟨v,hv,res0,hk,rfl⟩:=Pus.of (K:=fun v=>∃res0:Img,K res0∧v = res0.av) hf rfl (w99_0 (σ:=sl0 []) (fun σ st k0 v0 o0_0 o0_1 o0_2 res0 H0 HB0 hk=>⟨.ag [.sl o0_0 (List.map Typ.row res0.types),.sl o0_1 (List.map rowS res0.texts),.sl o0_2 (List.map Fun.row res0.funcs)],by simp only [pf99,ares,aresL,ares_cellA (n:=3) H0 HB0 rfl,ares_tmp,Option.map_some],_,rfl,res0,hk,rfl⟩)  h)
  exact ⟨res0,hk,hv⟩
def r101_0:List AI:=[oC 0 (.b false)]
def r101_1:List AI:=[oO 7 (.call false 92 [(.c (.i .i64 3))]),
 oO 8 (.build [.i .i64 0,.i .u8 0,.i .i64 0,.s [],.sl .full [],.b false] [(0,1,(.c (.i .i64 1))),(1,5,(.t 7))]),
 oO 9 (.bslice [.i .i64 0,.i .u8 0,.i .i64 0,.s [],.sl .full [],.b false] 1 [(0,(.t 8))]),
 oO 10 (.build [.i .i64 0,.i .i64 0,.i .u64 0,.sl .full []] [(0,1,(.c (.i .i64 2))),(1,1,(.c (.i .i64 7))),(2,1,(.c (.i .u64 1))),(3,1,(.t 9))]),
 oO 1 (.alloc [.i .i64 0,.i .i64 0,.i .u64 0,.sl .full []]),
 oS 4 1 10]
def r101_2:List AI:=[oO 12 (.call false 99 []),
 oO 13 (.load 4 true (.t 1)),
 oO 14 (.call false 82 [(.t 12),(.c (.i .i64 0)),(.t 13)]),
 oM 11 14,
 oE 15 0 11,
 oE 16 1 11,
 oM 2 15,
 oM 3 16]
def r101_3:List AI:=[oO 18 (.call false 99 []),
 oM 19 2,
 oO 20 (.call false 84 [(.t 18),(.t 19)]),
 oM 17 20,
 oE 21 0 17,
 oE 22 1 17,
 oE 23 2 17,
 oO 5 (.alloc [.i .i64 0,.i .i64 0,.i .u64 0,.sl .full []]),
 oM 4 21,
 oS 4 5 22,
 oM 6 23]
def r101_4:List AI:=[oO 24 (.call false 125 []),
 oO 25 (.call false 91 [(.t 24),(.c (.s [123,116,114,117,101,44,32,45,53,44,32,38,60,34,97,34,44,32,34,34,62,125]))]),
 oM 26 25,
 oG 27 (.build [.i .u8 0,.i .i64 0,.s [],.sl .full [],.b false] [(0,1,(.c (.i .u8 4))),(4,1,(.c (.b true)))]) 26 true,
 oG 28 (.call false 91 [(.t 27),(.c (.s [38,46,46,46]))]) 26 true,
 oO 29 (.pick (.t 26) (.t 28) (.c (.b false))),
 oM 30 29,
 oG 31 (.call true 89 [(.c (.i .u8 7)),(.c (.sl .full []))]) 30 true,
 oG 32 (.call false 91 [(.t 31),(.c (.s [60,62]))]) 30 true,
 oO 33 (.pick (.t 30) (.t 32) (.c (.b false))),
 oM 34 33,
 oG 35 (.call false 98 [(.c (.s [91,93]))]) 34 true,
 oO 36 (.pick (.t 34) (.t 35) (.c (.b false))),
 oM 37 36,
 oG 38 (.call false 98 [(.c (.s [123,116,114,117,101,44,102,97,108,115,101,125]))]) 37 true,
 oO 39 (.pick (.t 37) (.t 38) (.c (.b false))),
 oM 40 39,
 oG 41 (.mv (.t 3)) 40 true,
 oG 42 (.bin .eql (.t 41) (.c (.i .i64 0))) 40 true,
 oO 43 (.pick (.t 40) (.t 42) (.c (.b false))),
 oM 44 43,
 oG 45 (.mv (.t 2)) 44 true,
 oG 46 (.bslice [.s []] 2 [(0,(.c (.s [35,48,32,50,32,34,102,34,32,97,116,32,55,32,100,101,102,101,114]))),(1,(.c (.s [32,32,49,32,34,120,34,32,61,32,51])))]) 44 true,
 oG 47 (.call false 29 [(.t 45),(.t 46)]) 44 true,
 oO 48 (.pick (.t 44) (.t 47) (.c (.b false))),
 oM 49 48,
 oG 50 (.mv (.t 6)) 49 true,
 oG 51 (.bin .eql (.t 50) (.c (.i .i64 0))) 49 true,
 oO 52 (.pick (.t 49) (.t 51) (.c (.b false))),
 oM 53 52,
 oG 54 (.mv (.t 4)) 53 true,
 oG 55 (.bin .eql (.t 54) (.c (.i .i64 0))) 53 true,
 oO 56 (.pick (.t 53) (.t 55) (.c (.b false))),
 oM 57 56,
 oG 58 (.load 4 true (.t 1)) 57 true,
 oG 59 (.load 4 true (.t 5)) 57 true,
 oG 60 (.call false 88 [(.t 58),(.t 59)]) 57 true,
 oO 61 (.pick (.t 57) (.t 60) (.c (.b false))),
 oM 0 61]
abbrev c101_0:AC:=(.seq (.reg 1 r101_1) (.seq (.reg 2 r101_2) (.seq (.reg 3 r101_3) (.seq (.reg 4 r101_4) .ret))))
abbrev b101:AC:=(.seq (.reg 0 r101_0) c101_0)
def pf101:AF:={ nt:=62,res:=[.tmp 0],body:=b101 }
abbrev H101 (Q:AE→Sl→St→Prop)(K:Bool→Prop):Prop:=∀(σ:Sl)(st:St)(res0:Bool),σ 0 = .b res0→K res0→Q .ret σ st
def T101_1 (prog:Prog)(K:Bool→Prop) :Prop:=
  ∃r'1:Val,Pus prog 92 [.i .i64 3] (r'1.av)∧∃r'3:Img,Pus prog 99 [] (r'3.av)∧∃r'5:List (List UInt8),∃r'6:Int,Pus prog 82 [r'3.av,.i .i64 0,.ag [.i .i64 2,.i .i64 7,.i .u64 1,.sl .ext (List.map Loc.row [(Loc.mk 1 r'1)])]] (.tup [.sl .ext (List.map rowS r'5),.i .i64 r'6])∧∃r'8:Img,Pus prog 99 [] (r'8.av)∧∃r'10:Int,∃r'11:Frm,∃r'12:Int,Pus prog 84 [r'8.av,.sl .ext (List.map rowS r'5)] (.tup [.i .i64 r'10,r'11.av,.i .i64 r'12])∧∃r'14:Val,Pus prog 125 [] (r'14.av)∧∃r'16:Bool,Pus prog 91 [r'14.av,.s ([123,116,114,117,101,44,32,45,53,44,32,38,60,34,97,34,44,32,34,34,62,125]:List UInt8)] (.b r'16)∧(r'16 = true→∃r'19:Bool,Pus prog 91 [.ag [.i .u8 4,.i .i64 0,.s [],.sl .ext (List.map Val.row ([]:List Val)),.b true],.s ([38,46,46,46]:List UInt8)] (.b r'19)∧(r'19 = true→∃r'22:Val,(PuN prog 89 [.i .u8 7,.sl .full (List.map Val.row ([]:List Val))] (fun r=>r = r'22.avo .full))∧∃r'26:Bool,Pus prog 91 [r'22.av,.s ([60,62]:List UInt8)] (.b r'26)∧(r'26 = true→∃r'29:Bool,Pus prog 98 [.s ([91,93]:List UInt8)] (.b r'29)∧(r'29 = true→∃r'32:Bool,Pus prog 98 [.s ([123,116,114,117,101,44,102,97,108,115,101,125]:List UInt8)] (.b r'32)∧(r'32 = true→(r'6 = 0→∃r'36:Bool,Pus prog 29 [.sl .ext (List.map rowS r'5),.sl .ext (List.map rowS [([35,48,32,50,32,34,102,34,32,97,116,32,55,32,100,101,102,101,114]:List UInt8),([32,32,49,32,34,120,34,32,61,32,51]:List UInt8)])] (.b r'36)∧(r'36 = true→(r'12 = 0→(r'10 = 0→∃r'41:Bool,Pus prog 88 [.ag [.i .i64 2,.i .i64 7,.i .u64 1,.sl .ext (List.map Loc.row [(Loc.mk 1 r'1)])],r'11.av] (.b r'41)∧K r'41)∧(¬(r'10 = 0)→K false))∧(¬(r'12 = 0)→K false))∧(r'36 = false→K false))∧(¬(r'6 = 0)→K false))∧(r'32 = false→K false))∧(r'29 = false→K false))∧(r'26 = false→K false))∧(r'19 = false→K false))∧(r'16 = false→K false)
def T101_0 (prog:Prog)(K:Bool→Prop) :Prop:=
  T101_1 prog K 
section
variable {prog:Prog}{d:Nat}{Q:AE→Sl→St→Prop}{K:Bool→Prop}(hQ:H101 Q K){σ:Sl}{st:St}
include hQ
theorem w101_1 (h:T101_1 prog K ):W prog d c101_0 σ st Q:=
 sq_ (W.reg (h.elim fun r'1 e'2=>ca_ (sc rfl rfl sn) e'2.1 (s_build (f_cons rfl rfl (f_cons rfl rfl f_nil)) (s_bslM (f:=Loc.row) (l:=[(Loc.mk 1 r'1)]) rfl rfl (g_cons rfl rfl rfl g_nil) (by simp only [List.map_cons,List.map_nil,Loc.row_eq]; rfl) (s_build (f_cons rfl rfl (f_cons rfl rfl (f_cons rfl rfl (f_cons rfl rfl f_nil)))) (s_alloc (so_ rfl (show lk _ (d,4100) = some (_,([.i .i64 0,.i .i64 0,.i .u64 0,.sl .full (List.map Loc.row ([]:List Loc))]:List AV)) from lk_here) rfl rfl rfl (e_ (q_ rfl (e'2.2.elim fun r'3 e'4=>ca_ sn e'4.1 (l_ rfl lk_here rfl rfl (e'4.2.elim fun r'5 e'45=>e'45.elim fun r'6 e'7=>ca_ (sc rfl rfl (sc rfl rfl (sc rfl rfl sn))) e'7.1 (m_ (x_ rfl rfl (x_ rfl rfl (s_mvL rfl (m_ (e_ (sq_ (W.reg (e'7.2.elim fun r'8 e'9=>ca_ sn e'9.1 (s_mvL rfl (e'9.2.elim fun r'10 e'43=>e'43.elim fun r'11 e'44=>e'44.elim fun r'12 e'13=>ca_ (sc rfl rfl (sc rfl rfl sn)) e'13.1 (m_ (x_ rfl rfl (x_ rfl rfl (x_ rfl rfl (s_alloc (m_ (so_ rfl (show lk _ (d,12295) = some (_,([.i .i64 0,.i .i64 0,.i .u64 0,.sl .full (List.map Loc.row ([]:List Loc))]:List AV)) from lk_here) rfl rfl rfl (m_ (e_ (q_ rfl (e'13.2.elim fun r'14 e'15=>ca_ sn e'15.1 (e'15.2.elim fun r'16 e'17=>ca_ (sc rfl rfl (sc rfl rfl sn)) e'17.1 (s_mvB rfl (eb_ (g:=26) rfl (fun g'18=>gy_ rfl (s_build (f_cons rfl rfl (f_cons rfl rfl f_nil)) (gy_ rfl ((e'17.2.1 g'18).elim fun r'19 e'20=>ca_ (sc rfl rfl (sc rfl rfl sn)) e'20.1 (pt_ rfl rfl (s_mvB rfl (eb_ (g:=30) rfl (fun g'21=>gy_ rfl ((e'20.2.1 g'21).elim fun r'22 e'23=>s_callN (sec rfl (sec (show _ = AV.sl .full (List.map Val.row []) from rfl) sen)) (e'23.1) (fun st'24 hf'25=>gy_ rfl (e'23.2.elim fun r'26 e'27=>ca_ (sc rfl rfl (sc rfl rfl sn)) e'27.1 (pt_ rfl rfl (s_mvB rfl (eb_ (g:=34) rfl (fun g'28=>gy_ rfl ((e'27.2.1 g'28).elim fun r'29 e'30=>ca_ (sc rfl rfl sn) e'30.1 (pt_ rfl rfl (s_mvB rfl (eb_ (g:=37) rfl (fun g'31=>gy_ rfl ((e'30.2.1 g'31).elim fun r'32 e'33=>ca_ (sc rfl rfl sn) e'33.1 (pt_ rfl rfl (s_mvB rfl (eb_ (g:=40) rfl (fun g'34=>gy_ rfl (s_mvI rfl (gy_ rfl (b_ rfl rfl eql_ (pt_ rfl rfl (s_mvB rfl (em_ (g:=44) rfl (fun g'35=>gy_ rfl (s_mvL rfl (gy_ rfl (s_bslM (f:=rowS) (l:=[([35,48,32,50,32,34,102,34,32,97,116,32,55,32,100,101,102,101,114]:List UInt8),([32,32,49,32,34,120,34,32,61,32,51]:List UInt8)]) rfl rfl (g_cons rfl rfl rfl (g_cons rfl rfl rfl g_nil)) rfl (gy_ rfl (((e'33.2.1 g'34).1 g'35).elim fun r'36 e'37=>ca_ (sc rfl rfl (sc rfl rfl sn)) e'37.1 (pt_ rfl rfl (s_mvB rfl (eb_ (g:=49) rfl (fun g'38=>gy_ rfl (s_mvI rfl (gy_ rfl (b_ rfl rfl eql_ (pt_ rfl rfl (s_mvB rfl (em_ (g:=53) rfl (fun g'39=>gy_ rfl (s_mvI rfl (gy_ rfl (b_ rfl rfl eql_ (pt_ rfl rfl (s_mvB rfl (em_ (g:=57) rfl (fun g'40=>gy_ rfl (l_ rfl ((hf'25.1 (d,4100) (Nat.lt_succ_self d) key_dn).trans (lk_other rfl (lk_other rfl lk_here))) rfl rfl (gy_ rfl (l_ rfl ((hf'25.1 (d,12295) (Nat.lt_succ_self d) key_dn).trans lk_here) rfl rfl (gy_ rfl ((((e'37.2.1 g'38).1 g'39).1 g'40).elim fun r'41 e'42=>ca_ (sc rfl rfl (sc rfl rfl sn)) e'42.1 (pt_ rfl rfl (s_mvB rfl (e_ (rt_ (hQ _ _ _ rfl e'42.2))))))))))) (fun g'40=>gn_ (b:=false) rfl rfl (gn_ (b:=false) rfl rfl (gn_ (b:=false) rfl rfl (pf_ rfl rfl (s_mvB rfl (e_ (rt_ (hQ _ _ _ rfl (((e'37.2.1 g'38).1 g'39).2 g'40)))))))))))))))) (fun g'39=>gn_ (b:=false) rfl rfl (gn_ (b:=false) rfl rfl (pf_ rfl rfl (s_mvB rfl (gn_ (b:=false) rfl rfl (gn_ (b:=false) rfl rfl (gn_ (b:=false) rfl rfl (pf_ rfl rfl (s_mvB rfl (e_ (rt_ (hQ _ _ _ rfl ((e'37.2.1 g'38).2 g'39)))))))))))))))))))) (fun g'38=>gn_ (b:=false) rfl rfl (gn_ (b:=false) rfl rfl (pf_ rfl rfl (s_mvB rfl (gn_ (b:=false) rfl rfl (gn_ (b:=false) rfl rfl (pf_ rfl rfl (s_mvB rfl (gn_ (b:=false) rfl rfl (gn_ (b:=false) rfl rfl (gn_ (b:=false) rfl rfl (pf_ rfl rfl (s_mvB rfl (e_ (rt_ (hQ _ _ _ rfl (e'37.2.2 g'38)))))))))))))))))))))))))) (fun g'35=>gn_ (b:=false) rfl rfl (gn_ (b:=false) rfl rfl (gn_ (b:=false) rfl rfl (pf_ rfl rfl (s_mvB rfl (gn_ (b:=false) rfl rfl (gn_ (b:=false) rfl rfl (pf_ rfl rfl (s_mvB rfl (gn_ (b:=false) rfl rfl (gn_ (b:=false) rfl rfl (pf_ rfl rfl (s_mvB rfl (gn_ (b:=false) rfl rfl (gn_ (b:=false) rfl rfl (gn_ (b:=false) rfl rfl (pf_ rfl rfl (s_mvB rfl (e_ (rt_ (hQ _ _ _ rfl ((e'33.2.1 g'34).2 g'35))))))))))))))))))))))))))))) (fun g'34=>gn_ (b:=false) rfl rfl (gn_ (b:=false) rfl rfl (pf_ rfl rfl (s_mvB rfl (gn_ (b:=false) rfl rfl (gn_ (b:=false) rfl rfl (gn_ (b:=false) rfl rfl (pf_ rfl rfl (s_mvB rfl (gn_ (b:=false) rfl rfl (gn_ (b:=false) rfl rfl (pf_ rfl rfl (s_mvB rfl (gn_ (b:=false) rfl rfl (gn_ (b:=false) rfl rfl (pf_ rfl rfl (s_mvB rfl (gn_ (b:=false) rfl rfl (gn_ (b:=false) rfl rfl (gn_ (b:=false) rfl rfl (pf_ rfl rfl (s_mvB rfl (e_ (rt_ (hQ _ _ _ rfl (e'33.2.2 g'34))))))))))))))))))))))))))))))) (fun g'31=>gn_ (b:=false) rfl rfl (pf_ rfl rfl (s_mvB rfl (gn_ (b:=false) rfl rfl (gn_ (b:=false) rfl rfl (pf_ rfl rfl (s_mvB rfl (gn_ (b:=false) rfl rfl (gn_ (b:=false) rfl rfl (gn_ (b:=false) rfl rfl (pf_ rfl rfl (s_mvB rfl (gn_ (b:=false) rfl rfl (gn_ (b:=false) rfl rfl (pf_ rfl rfl (s_mvB rfl (gn_ (b:=false) rfl rfl (gn_ (b:=false) rfl rfl (pf_ rfl rfl (s_mvB rfl (gn_ (b:=false) rfl rfl (gn_ (b:=false) rfl rfl (gn_ (b:=false) rfl rfl (pf_ rfl rfl (s_mvB rfl (e_ (rt_ (hQ _ _ _ rfl (e'30.2.2 g'31)))))))))))))))))))))))))))))))))) (fun g'28=>gn_ (b:=false) rfl rfl (pf_ rfl rfl (s_mvB rfl (gn_ (b:=false) rfl rfl (pf_ rfl rfl (s_mvB rfl (gn_ (b:=false) rfl rfl (gn_ (b:=false) rfl rfl (pf_ rfl rfl (s_mvB rfl (gn_ (b:=false) rfl rfl (gn_ (b:=false) rfl rfl (gn_ (b:=false) rfl rfl (pf_ rfl rfl (s_mvB rfl (gn_ (b:=false) rfl rfl (gn_ (b:=false) rfl rfl (pf_ rfl rfl (s_mvB rfl (gn_ (b:=false) rfl rfl (gn_ (b:=false) rfl rfl (pf_ rfl rfl (s_mvB rfl (gn_ (b:=false) rfl rfl (gn_ (b:=false) rfl rfl (gn_ (b:=false) rfl rfl (pf_ rfl rfl (s_mvB rfl (e_ (rt_ (hQ _ _ _ rfl (e'27.2.2 g'28))))))))))))))))))))))))))))))))))))))) (fun g'21=>gn_ (b:=false) rfl rfl (gn_ (b:=false) rfl rfl (pf_ rfl rfl (s_mvB rfl (gn_ (b:=false) rfl rfl (pf_ rfl rfl (s_mvB rfl (gn_ (b:=false) rfl rfl (pf_ rfl rfl (s_mvB rfl (gn_ (b:=false) rfl rfl (gn_ (b:=false) rfl rfl (pf_ rfl rfl (s_mvB rfl (gn_ (b:=false) rfl rfl (gn_ (b:=false) rfl rfl (gn_ (b:=false) rfl rfl (pf_ rfl rfl (s_mvB rfl (gn_ (b:=false) rfl rfl (gn_ (b:=false) rfl rfl (pf_ rfl rfl (s_mvB rfl (gn_ (b:=false) rfl rfl (gn_ (b:=false) rfl rfl (pf_ rfl rfl (s_mvB rfl (gn_ (b:=false) rfl rfl (gn_ (b:=false) rfl rfl (gn_ (b:=false) rfl rfl (pf_ rfl rfl (s_mvB rfl (e_ (rt_ (hQ _ _ _ rfl (e'20.2.2 g'21))))))))))))))))))))))))))))))))))))))))))) (fun g'18=>gn_ (b:=false) rfl rfl (gn_ (b:=false) rfl rfl (pf_ rfl rfl (s_mvB rfl (gn_ (b:=false) rfl rfl (gn_ (b:=false) rfl rfl (pf_ rfl rfl (s_mvB rfl (gn_ (b:=false) rfl rfl (pf_ rfl rfl (s_mvB rfl (gn_ (b:=false) rfl rfl (pf_ rfl rfl (s_mvB rfl (gn_ (b:=false) rfl rfl (gn_ (b:=false) rfl rfl (pf_ rfl rfl (s_mvB rfl (gn_ (b:=false) rfl rfl (gn_ (b:=false) rfl rfl (gn_ (b:=false) rfl rfl (pf_ rfl rfl (s_mvB rfl (gn_ (b:=false) rfl rfl (gn_ (b:=false) rfl rfl (pf_ rfl rfl (s_mvB rfl (gn_ (b:=false) rfl rfl (gn_ (b:=false) rfl rfl (pf_ rfl rfl (s_mvB rfl (gn_ (b:=false) rfl rfl (gn_ (b:=false) rfl rfl (gn_ (b:=false) rfl rfl (pf_ rfl rfl (s_mvB rfl (e_ (rt_ (hQ _ _ _ rfl (e'17.2.2 g'18)))))))))))))))))))))))))))))))))))))))))))))))))))))))))))))))))))))))))))))
theorem w101_0 (h:T101_0 prog K ):W prog d (.seq (.reg 0 r101_0) c101_0) σ st Q:=
 q_ rfl (m_ (e_ (w101_1 hQ h)))
end
theorem p101 {prog:Prog}(hf:prog.fn 101 = some pf101)  {K:Bool→Prop}(h:T101_0 prog K ) :∃res0:Bool,K res0∧Pus prog 101 [] (.b res0):=by
  obtain ⟨v,hv,res0,hk,rfl⟩:=Pus.of (K:=fun v=>∃res0:Bool,K res0∧v = .b res0) hf rfl (w101_0 (σ:=sl0 []) (fun σ st   res0 H0 hk=>⟨.b res0,by simp only [pf101,ares,aresL,H0,ares1,Option.map_some],_,rfl,res0,hk,rfl⟩)  h)
  exact ⟨res0,hk,hv⟩
def r125_0:List AI:=[oO 0 (.alloc [.i .u8 0,.i .i64 0,.s [],.sl .full [],.b false])]
def r125_1:List AI:=[oO 1 (.call false 90 []),
 oO 2 (.call false 92 [(.c (.i .i64 (-5)))]),
 oO 3 (.call false 93 [(.c (.s [97]))]),
 oO 4 (.call false 93 [(.c (.s []))]),
 oO 5 (.bslice [.i .u8 0,.i .i64 0,.s [],.sl .full [],.b false] 2 [(0,(.t 3)),(1,(.t 4))]),
 oO 6 (.call true 89 [(.c (.i .u8 7)),(.t 5)]),
 oO 7 (.bslice [.i .u8 0,.i .i64 0,.s [],.sl .full [],.b false] 1 [(0,(.t 6))]),
 oO 8 (.call true 89 [(.c (.i .u8 4)),(.t 7)]),
 oO 9 (.bslice [.i .u8 0,.i .i64 0,.s [],.sl .full [],.b false] 3 [(0,(.t 1)),(1,(.t 2)),(2,(.t 8))]),
 oO 10 (.call true 89 [(.c (.i .u8 5)),(.t 9)]),
 oS 5 0 10]
abbrev b125:AC:=(.seq (.reg 0 r125_0) (.seq (.reg 1 r125_1) .ret))
def pf125:AF:={ nt:=11,res:=[.cell 0 5 true],body:=b125 }
abbrev H125 (Q:AE→Sl→St→Prop)(K:Val→Prop):Prop:=∀(σ:Sl)(st:St)(k0:Key)(v0:Nat)(o0_0:Own)(res0:Val),σ 0 = .p k0 v0 0→lk st.bx k0 = some (v0,[.i .u8 res0.kind,.i .i64 res0.int,.s res0.text,.sl o0_0 (List.map Val.row res0.list),.b res0.cut])→K res0→Q .ret σ st
def T125_0 (prog:Prog)(K:Val→Prop) :Prop:=
  ∃r'1:Val,Pus prog 90 [] (r'1.av)∧∃r'3:Val,Pus prog 92 [.i .i64 (-5)] (r'3.av)∧∃r'5:Val,Pus prog 93 [.s ([97]:List UInt8)] (r'5.av)∧∃r'7:Val,Pus prog 93 [.s ([]:List UInt8)] (r'7.av)∧∃r'9:Val,(PuN prog 89 [.i .u8 7,.sl .full (List.map Val.row [r'5,r'7])] (fun r=>r = r'9.avo .full))∧∃r'13:Val,(PuN prog 89 [.i .u8 4,.sl .full (List.map Val.row [r'9])] (fun r=>r = r'13.avo .full))∧∃r'17:Val,(PuN prog 89 [.i .u8 5,.sl .full (List.map Val.row [r'1,r'3,r'13])] (fun r=>r = r'17.avo .full))∧K r'17
section
variable {prog:Prog}{d:Nat}{Q:AE→Sl→St→Prop}{K:Val→Prop}(hQ:H125 Q K){σ:Sl}{st:St}
include hQ
theorem w125_0 (h:T125_0 prog K ):W prog d (.seq (.reg 0 r125_0) (.seq (.reg 1 r125_1) .ret)) σ st Q:=
 sq_ (W.reg (s_alloc (e_ (q_ rfl (h.elim fun r'1 e'2=>ca_ sn e'2.1 (e'2.2.elim fun r'3 e'4=>ca_ (sc rfl rfl sn) e'4.1 (e'4.2.elim fun r'5 e'6=>ca_ (sc rfl rfl sn) e'6.1 (e'6.2.elim fun r'7 e'8=>ca_ (sc rfl rfl sn) e'8.1 (s_bslM (f:=Val.row) (l:=[r'5,r'7]) rfl rfl (g_cons rfl rfl rfl (g_cons rfl rfl rfl g_nil)) (by simp only [List.map_cons,List.map_nil,Val.row_eq]; rfl) (e'8.2.elim fun r'9 e'10=>s_callN (sec rfl (sec rfl sen)) (e'10.1) (fun st'11 hf'12=>s_bslM (f:=Val.row) (l:=[r'9]) rfl rfl (g_cons rfl rfl rfl g_nil) (by simp only [List.map_cons,List.map_nil,Val.row_eq]; rfl) (e'10.2.elim fun r'13 e'14=>s_callN (sec rfl (sec rfl sen)) (e'14.1) (fun st'15 hf'16=>s_bslM (f:=Val.row) (l:=[r'1,r'3,r'13]) rfl rfl (g_cons rfl rfl rfl (g_cons rfl rfl rfl (g_cons rfl rfl rfl g_nil))) (by simp only [List.map_cons,List.map_nil,Val.row_eq]; rfl) (e'14.2.elim fun r'17 e'18=>s_callN (sec rfl (sec rfl sen)) (e'18.1) (fun st'19 hf'20=>so_ rfl ((hf'20.1 (d,0) (Nat.lt_succ_self d) key_dn).trans ((hf'16.1 (d,0) (Nat.lt_succ_self d) key_dn).trans ((hf'12.1 (d,0) (Nat.lt_succ_self d) key_dn).trans (show lk _ (d,0) = some (_,([.i .u8 0,.i .i64 0,.s [],.sl .full (List.map Val.row ([]:List Val)),.b false]:List AV)) from lk_here)))) rfl rfl rfl (e_ (rt_ (hQ _ _ _ _ _ _ rfl lk_here e'18.2))))))))))))))))))
end
theorem p125 {prog:Prog}(hf:prog.fn 125 = some pf125)  {K:Val→Prop}(h:T125_0 prog K ) :∃res0:Val,K res0∧Pus prog 125 [] (res0.av):=by
  obtain ⟨v,hv,res0,hk,rfl⟩:=Pus.of (K:=fun v=>∃res0:Val,K res0∧v = res0.av) hf rfl (w125_0 (σ:=sl0 []) (fun σ st k0 v0 o0_0 res0 H0 HB0 hk=>⟨res0.avo o0_0,by simp only [pf125,ares,aresL,ares_cellA (n:=5) H0 HB0 rfl,ares_tmp,Option.map_some],_,rfl,res0,hk,rfl⟩)  h)
  exact ⟨res0,hk,hv⟩
end Go.AM

/- MADE BY PROGRAM (seat2.py): the types of the program, and that its code is the machine's. -/
namespace Go.Proofs
open Go.Shelf
def Try.lays169_ren : Go.Shelf.Ren := ⟨fun | 169 => 43 | n => n, fun | 70 => 85 | 9 => 9 | 0 => 0 | 72 => 87 | 37 => 66 | 127 => 120 | 3 => 3 | 5 => 5 | n => n, fun | n => n⟩
theorem Try.lays169 : Go.Proofs.Lays.n169 Try.prog Try.lays169_ren := {
  mixed := by kernel_rfl
  f169 := Try.func43.trans (congrArg some (by kernel_rfl))
  t0 := Try.underlying0
  a0 := Try.isAgg0
  z0 := Try.sizeOf0
  v0 := Try.zeroValue0
  t3 := Try.underlying3
  a3 := Try.isAgg3
  z3 := Try.sizeOf3
  v3 := Try.zeroValue3
  t9 := Try.underlying9
  a9 := Try.isAgg9
  z9 := Try.sizeOf9
  v9 := Try.zeroValue9
  t37 := Try.underlying66
  a37 := Try.isAgg66
  z37 := Try.sizeOf66
  v37 := Try.zeroValue66
  t70 := Try.underlying85
  a70 := Try.isAgg85
  z70 := Try.sizeOf85
  v70 := Try.zeroValue85
  t72 := Try.underlying87
  a72 := Try.isAgg87
  z72 := Try.sizeOf87
  v72 := Try.zeroValue87
  t127 := Try.underlying120
  a127 := Try.isAgg120
  z127 := Try.sizeOf120
  v127 := Try.zeroValue120 }

theorem Try.extraB : Builder.Extra Try.prog Try.lays169_ren := {
  sizeBuilder := by kernel_rfl
  liesBuilder := by kernel_rfl
  t5 := Try.underlying5
  a5 := Try.isAgg5
  z5 := Try.sizeOf5
  v5 := Try.zeroValue5
  infoByte := by kernel_rfl
  cellsByte := by kernel_rfl
  sizeByte := by kernel_rfl
  neB5 := by decide }
end Go.Proofs
namespace Go.Proofs.Ytcojcdpoeaaigaa
open Go Go.AM

def tys : List (Nat × TI) := [
(2, ⟨.int .i64, 1, 8, [.i .i64 0]⟩),
  (3, ⟨.int .i64, 1, 8, [.i .i64 0]⟩),
  (4, ⟨.bool, 1, 1, [.b false]⟩),
  (5, ⟨.int .u8, 1, 1, [.i .u8 0]⟩),
  (9, ⟨.str, 1, 16, [.s []]⟩),
  (22, ⟨.sl 24, 1, 24, [.sl .full []]⟩),
  (24, ⟨.st [(5, 0), (2, 1), (9, 2), (22, 3), (4, 4)], 5, 64, [.i .u8 0, .i .i64 0, .s [], .sl .full [], .b false]⟩),
  (26, ⟨.int .i64, 1, 8, [.i .i64 0]⟩),
  (39, ⟨.sl 175, 1, 24, [.sl .full []]⟩),
  (40, ⟨.sl 9, 1, 24, [.sl .full []]⟩),
  (41, ⟨.sl 81, 1, 24, [.sl .full []]⟩),
  (43, ⟨.st [(39, 0), (40, 1), (41, 2)], 3, 72, [.sl .full [], .sl .full [], .sl .full []]⟩),
  (44, ⟨.int .u64, 1, 8, [.i .u64 0]⟩),
  (45, ⟨.sl 74, 1, 24, [.sl .full []]⟩),
  (47, ⟨.st [(3, 0), (3, 1), (44, 2), (45, 3)], 4, 48, [.i .i64 0, .i .i64 0, .i .u64 0, .sl .full []]⟩),
  (66, ⟨.sl 5, 1, 24, [.sl .full []]⟩),
  (71, ⟨.other, 1, 8, [.nf]⟩),
  (74, ⟨.st [(3, 0), (24, 1)], 6, 72, [.i .i64 0, .i .u8 0, .i .i64 0, .s [], .sl .full [], .b false]⟩),
  (76, ⟨.st [(9, 0), (3, 1)], 2, 24, [.s [], .i .i64 0]⟩),
  (77, ⟨.sl 76, 1, 24, [.sl .full []]⟩),
  (78, ⟨.sl 177, 1, 24, [.sl .full []]⟩),
  (79, ⟨.sl 179, 1, 24, [.sl .full []]⟩),
  (81, ⟨.st [(9, 0), (3, 1), (3, 2), (77, 3), (78, 4), (79, 5), (79, 6)], 7, 128, [.s [], .i .i64 0, .i .i64 0, .sl .full [], .sl .full [], .sl .full [], .sl .full []]⟩),
  (85, ⟨.ptr 87, 1, 8, [.np]⟩),
  (87, ⟨.st [(85, 0), (66, 1)], 2, 32, [.np, .sl .full []]⟩),
  (91, ⟨.ptr 93, 1, 8, [.np]⟩),
  (93, ⟨.st [(9, 0)], 1, 16, [.s []]⟩),
  (102, ⟨.arr 4 9, 4, 64, [.s [], .s [], .s [], .s []]⟩),
  (111, ⟨.other, 1, 8, [.nf]⟩),
  (113, ⟨.arr 8 9, 8, 128, [.s [], .s [], .s [], .s [], .s [], .s [], .s [], .s []]⟩),
  (115, ⟨.other, 1, 16, [.ni]⟩),
  (150, ⟨.uptr, 1, 8, [.np]⟩),
  (152, ⟨.arr 64 5, 64, 64, [.i .u8 0, .i .u8 0, .i .u8 0, .i .u8 0, .i .u8 0, .i .u8 0, .i .u8 0, .i .u8 0, .i .u8 0, .i .u8 0, .i .u8 0, .i .u8 0, .i .u8 0, .i .u8 0, .i .u8 0, .i .u8 0, .i .u8 0, .i .u8 0, .i .u8 0, .i .u8 0, .i .u8 0, .i .u8 0, .i .u8 0, .i .u8 0, .i .u8 0, .i .u8 0, .i .u8 0, .i .u8 0, .i .u8 0, .i .u8 0, .i .u8 0, .i .u8 0, .i .u8 0, .i .u8 0, .i .u8 0, .i .u8 0, .i .u8 0, .i .u8 0, .i .u8 0, .i .u8 0, .i .u8 0, .i .u8 0, .i .u8 0, .i .u8 0, .i .u8 0, .i .u8 0, .i .u8 0, .i .u8 0, .i .u8 0, .i .u8 0, .i .u8 0, .i .u8 0, .i .u8 0, .i .u8 0, .i .u8 0, .i .u8 0, .i .u8 0, .i .u8 0, .i .u8 0, .i .u8 0, .i .u8 0, .i .u8 0, .i .u8 0, .i .u8 0]⟩),
  (175, ⟨.st [(5, 0), (3, 1), (3, 2), (77, 3)], 4, 48, [.i .u8 0, .i .i64 0, .i .i64 0, .sl .full []]⟩),
  (177, ⟨.st [(5, 0), (3, 1), (3, 2), (3, 3)], 4, 32, [.i .u8 0, .i .i64 0, .i .i64 0, .i .i64 0]⟩),
  (179, ⟨.st [(3, 0), (44, 1)], 2, 16, [.i .i64 0, .i .u64 0]⟩)]
theorem ty2 : TOk Try.prog 2 (((2, ⟨.int .i64, 1, 8, [.i .i64 0]⟩) : Nat × TI).2) := TOk.of (ti := Try.t2) (by kernel_rfl) (by kernel_rfl) (by kernel_rfl) (show Try.prog.underlying 2 = some (.int .i64) from by kernel_rfl)
theorem ty3 : TOk Try.prog 3 (((3, ⟨.int .i64, 1, 8, [.i .i64 0]⟩) : Nat × TI).2) := TOk.of (ti := Try.t3) (by kernel_rfl) (by kernel_rfl) (by kernel_rfl) (show Try.prog.underlying 3 = some (.int .i64) from by kernel_rfl)
theorem ty4 : TOk Try.prog 4 (((4, ⟨.bool, 1, 1, [.b false]⟩) : Nat × TI).2) := TOk.of (ti := Try.t4) (by kernel_rfl) (by kernel_rfl) (by kernel_rfl) (show Try.prog.underlying 4 = some (.bool) from by kernel_rfl)
theorem ty5 : TOk Try.prog 5 (((5, ⟨.int .u8, 1, 1, [.i .u8 0]⟩) : Nat × TI).2) := TOk.of (ti := Try.t5) (by kernel_rfl) (by kernel_rfl) (by kernel_rfl) (show Try.prog.underlying 5 = some (.int .u8) from by kernel_rfl)
theorem ty9 : TOk Try.prog 9 (((9, ⟨.str, 1, 16, [.s []]⟩) : Nat × TI).2) := TOk.of (ti := Try.t9) (by kernel_rfl) (by kernel_rfl) (by kernel_rfl) (show Try.prog.underlying 9 = some (.string) from by kernel_rfl)
theorem ty22 : TOk Try.prog 22 (((22, ⟨.sl 24, 1, 24, [.sl .full []]⟩) : Nat × TI).2) := TOk.of (ti := Try.t22) (by kernel_rfl) (by kernel_rfl) (by kernel_rfl) (show Try.prog.underlying 22 = some (.slice 24) from by kernel_rfl)
theorem ty24 : TOk Try.prog 24 (((24, ⟨.st [(5, 0), (2, 1), (9, 2), (22, 3), (4, 4)], 5, 64, [.i .u8 0, .i .i64 0, .s [], .sl .full [], .b false]⟩) : Nat × TI).2) := TOk.of (ti := Try.t24) (by kernel_rfl) (by kernel_rfl) (by kernel_rfl) (TK.ok_st (by kernel_rfl))
theorem ty26 : TOk Try.prog 26 (((26, ⟨.int .i64, 1, 8, [.i .i64 0]⟩) : Nat × TI).2) := TOk.of (ti := Try.t26) (by kernel_rfl) (by kernel_rfl) (by kernel_rfl) (show Try.prog.underlying 26 = some (.int .i64) from by kernel_rfl)
theorem ty39 : TOk Try.prog 39 (((39, ⟨.sl 175, 1, 24, [.sl .full []]⟩) : Nat × TI).2) := TOk.of (ti := Try.t39) (by kernel_rfl) (by kernel_rfl) (by kernel_rfl) (show Try.prog.underlying 39 = some (.slice 175) from by kernel_rfl)
theorem ty40 : TOk Try.prog 40 (((40, ⟨.sl 9, 1, 24, [.sl .full []]⟩) : Nat × TI).2) := TOk.of (ti := Try.t40) (by kernel_rfl) (by kernel_rfl) (by kernel_rfl) (show Try.prog.underlying 40 = some (.slice 9) from by kernel_rfl)
theorem ty41 : TOk Try.prog 41 (((41, ⟨.sl 81, 1, 24, [.sl .full []]⟩) : Nat × TI).2) := TOk.of (ti := Try.t41) (by kernel_rfl) (by kernel_rfl) (by kernel_rfl) (show Try.prog.underlying 41 = some (.slice 81) from by kernel_rfl)
theorem ty43 : TOk Try.prog 43 (((43, ⟨.st [(39, 0), (40, 1), (41, 2)], 3, 72, [.sl .full [], .sl .full [], .sl .full []]⟩) : Nat × TI).2) := TOk.of (ti := Try.t43) (by kernel_rfl) (by kernel_rfl) (by kernel_rfl) (TK.ok_st (by kernel_rfl))
theorem ty44 : TOk Try.prog 44 (((44, ⟨.int .u64, 1, 8, [.i .u64 0]⟩) : Nat × TI).2) := TOk.of (ti := Try.t44) (by kernel_rfl) (by kernel_rfl) (by kernel_rfl) (show Try.prog.underlying 44 = some (.int .u64) from by kernel_rfl)
theorem ty45 : TOk Try.prog 45 (((45, ⟨.sl 74, 1, 24, [.sl .full []]⟩) : Nat × TI).2) := TOk.of (ti := Try.t45) (by kernel_rfl) (by kernel_rfl) (by kernel_rfl) (show Try.prog.underlying 45 = some (.slice 74) from by kernel_rfl)
theorem ty47 : TOk Try.prog 47 (((47, ⟨.st [(3, 0), (3, 1), (44, 2), (45, 3)], 4, 48, [.i .i64 0, .i .i64 0, .i .u64 0, .sl .full []]⟩) : Nat × TI).2) := TOk.of (ti := Try.t47) (by kernel_rfl) (by kernel_rfl) (by kernel_rfl) (TK.ok_st (by kernel_rfl))
theorem ty66 : TOk Try.prog 66 (((66, ⟨.sl 5, 1, 24, [.sl .full []]⟩) : Nat × TI).2) := TOk.of (ti := Try.t66) (by kernel_rfl) (by kernel_rfl) (by kernel_rfl) (show Try.prog.underlying 66 = some (.slice 5) from by kernel_rfl)
theorem ty71 : TOk Try.prog 71 (((71, ⟨.other, 1, 8, [.nf]⟩) : Nat × TI).2) := TOk.of (ti := Try.t71) (by kernel_rfl) (by kernel_rfl) (by kernel_rfl) (TK.ok_other (by kernel_rfl))
theorem ty74 : TOk Try.prog 74 (((74, ⟨.st [(3, 0), (24, 1)], 6, 72, [.i .i64 0, .i .u8 0, .i .i64 0, .s [], .sl .full [], .b false]⟩) : Nat × TI).2) := TOk.of (ti := Try.t74) (by kernel_rfl) (by kernel_rfl) (by kernel_rfl) (TK.ok_st (by kernel_rfl))
theorem ty76 : TOk Try.prog 76 (((76, ⟨.st [(9, 0), (3, 1)], 2, 24, [.s [], .i .i64 0]⟩) : Nat × TI).2) := TOk.of (ti := Try.t76) (by kernel_rfl) (by kernel_rfl) (by kernel_rfl) (TK.ok_st (by kernel_rfl))
theorem ty77 : TOk Try.prog 77 (((77, ⟨.sl 76, 1, 24, [.sl .full []]⟩) : Nat × TI).2) := TOk.of (ti := Try.t77) (by kernel_rfl) (by kernel_rfl) (by kernel_rfl) (show Try.prog.underlying 77 = some (.slice 76) from by kernel_rfl)
theorem ty78 : TOk Try.prog 78 (((78, ⟨.sl 177, 1, 24, [.sl .full []]⟩) : Nat × TI).2) := TOk.of (ti := Try.t78) (by kernel_rfl) (by kernel_rfl) (by kernel_rfl) (show Try.prog.underlying 78 = some (.slice 177) from by kernel_rfl)
theorem ty79 : TOk Try.prog 79 (((79, ⟨.sl 179, 1, 24, [.sl .full []]⟩) : Nat × TI).2) := TOk.of (ti := Try.t79) (by kernel_rfl) (by kernel_rfl) (by kernel_rfl) (show Try.prog.underlying 79 = some (.slice 179) from by kernel_rfl)
theorem ty81 : TOk Try.prog 81 (((81, ⟨.st [(9, 0), (3, 1), (3, 2), (77, 3), (78, 4), (79, 5), (79, 6)], 7, 128, [.s [], .i .i64 0, .i .i64 0, .sl .full [], .sl .full [], .sl .full [], .sl .full []]⟩) : Nat × TI).2) := TOk.of (ti := Try.t81) (by kernel_rfl) (by kernel_rfl) (by kernel_rfl) (TK.ok_st (by kernel_rfl))
theorem ty85 : TOk Try.prog 85 (((85, ⟨.ptr 87, 1, 8, [.np]⟩) : Nat × TI).2) := TOk.of (ti := Try.t85) (by kernel_rfl) (by kernel_rfl) (by kernel_rfl) (And.intro (by kernel_rfl) (by kernel_rfl))
theorem ty87 : TOk Try.prog 87 (((87, ⟨.st [(85, 0), (66, 1)], 2, 32, [.np, .sl .full []]⟩) : Nat × TI).2) := TOk.of (ti := Try.t87) (by kernel_rfl) (by kernel_rfl) (by kernel_rfl) (TK.ok_st (by kernel_rfl))
theorem ty91 : TOk Try.prog 91 (((91, ⟨.ptr 93, 1, 8, [.np]⟩) : Nat × TI).2) := TOk.of (ti := Try.t91) (by kernel_rfl) (by kernel_rfl) (by kernel_rfl) (And.intro (by kernel_rfl) (by kernel_rfl))
theorem ty93 : TOk Try.prog 93 (((93, ⟨.st [(9, 0)], 1, 16, [.s []]⟩) : Nat × TI).2) := TOk.of (ti := Try.t93) (by kernel_rfl) (by kernel_rfl) (by kernel_rfl) (TK.ok_st (by kernel_rfl))
theorem ty102 : TOk Try.prog 102 (((102, ⟨.arr 4 9, 4, 64, [.s [], .s [], .s [], .s []]⟩) : Nat × TI).2) := TOk.of (ti := Try.t102) (by kernel_rfl) (by kernel_rfl) (by kernel_rfl) (show Try.prog.underlying 102 = some (.array 4 9) from by kernel_rfl)
theorem ty111 : TOk Try.prog 111 (((111, ⟨.other, 1, 8, [.nf]⟩) : Nat × TI).2) := TOk.of (ti := Try.t111) (by kernel_rfl) (by kernel_rfl) (by kernel_rfl) (TK.ok_other (by kernel_rfl))
theorem ty113 : TOk Try.prog 113 (((113, ⟨.arr 8 9, 8, 128, [.s [], .s [], .s [], .s [], .s [], .s [], .s [], .s []]⟩) : Nat × TI).2) := TOk.of (ti := Try.t113) (by kernel_rfl) (by kernel_rfl) (by kernel_rfl) (show Try.prog.underlying 113 = some (.array 8 9) from by kernel_rfl)
theorem ty115 : TOk Try.prog 115 (((115, ⟨.other, 1, 16, [.ni]⟩) : Nat × TI).2) := TOk.of (ti := Try.t115) (by kernel_rfl) (by kernel_rfl) (by kernel_rfl) (TK.ok_other (by kernel_rfl))
theorem ty150 : TOk Try.prog 150 (((150, ⟨.uptr, 1, 8, [.np]⟩) : Nat × TI).2) := TOk.of (ti := Try.t150) (by kernel_rfl) (by kernel_rfl) (by kernel_rfl) (show Try.prog.underlying 150 = some (.unsafePointer) from by kernel_rfl)
theorem ty152 : TOk Try.prog 152 (((152, ⟨.arr 64 5, 64, 64, [.i .u8 0, .i .u8 0, .i .u8 0, .i .u8 0, .i .u8 0, .i .u8 0, .i .u8 0, .i .u8 0, .i .u8 0, .i .u8 0, .i .u8 0, .i .u8 0, .i .u8 0, .i .u8 0, .i .u8 0, .i .u8 0, .i .u8 0, .i .u8 0, .i .u8 0, .i .u8 0, .i .u8 0, .i .u8 0, .i .u8 0, .i .u8 0, .i .u8 0, .i .u8 0, .i .u8 0, .i .u8 0, .i .u8 0, .i .u8 0, .i .u8 0, .i .u8 0, .i .u8 0, .i .u8 0, .i .u8 0, .i .u8 0, .i .u8 0, .i .u8 0, .i .u8 0, .i .u8 0, .i .u8 0, .i .u8 0, .i .u8 0, .i .u8 0, .i .u8 0, .i .u8 0, .i .u8 0, .i .u8 0, .i .u8 0, .i .u8 0, .i .u8 0, .i .u8 0, .i .u8 0, .i .u8 0, .i .u8 0, .i .u8 0, .i .u8 0, .i .u8 0, .i .u8 0, .i .u8 0, .i .u8 0, .i .u8 0, .i .u8 0, .i .u8 0]⟩) : Nat × TI).2) := TOk.of (ti := Try.t152) (by kernel_rfl) (by kernel_rfl) (by kernel_rfl) (show Try.prog.underlying 152 = some (.array 64 5) from by kernel_rfl)
theorem ty175 : TOk Try.prog 175 (((175, ⟨.st [(5, 0), (3, 1), (3, 2), (77, 3)], 4, 48, [.i .u8 0, .i .i64 0, .i .i64 0, .sl .full []]⟩) : Nat × TI).2) := TOk.of (ti := Try.t175) (by kernel_rfl) (by kernel_rfl) (by kernel_rfl) (TK.ok_st (by kernel_rfl))
theorem ty177 : TOk Try.prog 177 (((177, ⟨.st [(5, 0), (3, 1), (3, 2), (3, 3)], 4, 32, [.i .u8 0, .i .i64 0, .i .i64 0, .i .i64 0]⟩) : Nat × TI).2) := TOk.of (ti := Try.t177) (by kernel_rfl) (by kernel_rfl) (by kernel_rfl) (TK.ok_st (by kernel_rfl))
theorem ty179 : TOk Try.prog 179 (((179, ⟨.st [(3, 0), (44, 1)], 2, 16, [.i .i64 0, .i .u64 0]⟩) : Nat × TI).2) := TOk.of (ti := Try.t179) (by kernel_rfl) (by kernel_rfl) (by kernel_rfl) (TK.ok_st (by kernel_rfl))
theorem tys_ok : ∀ x ∈ tys, TOk Try.prog x.1 x.2 := by
  unfold tys
  simp only [List.mem_cons, List.not_mem_nil, or_false, forall_eq_or_imp, forall_eq]
  exact ⟨ty2, ty3, ty4, ty5, ty9, ty22, ty24, ty26, ty39, ty40, ty41, ty43, ty44, ty45, ty47, ty66, ty71, ty74, ty76, ty77, ty78, ty79, ty81, ty85, ty87, ty91, ty93, ty102, ty111, ty113, ty115, ty150, ty152, ty175, ty177, ty179⟩
def fms : List (Nat × Nat) := [(2, 2), (3, 66), (4, 67), (5, 68), (6, 69), (7, 70), (8, 71), (9, 72), (10, 73), (11, 74), (12, 75), (13, 76), (14, 77), (15, 78), (16, 79), (17, 80), (18, 81), (19, 82), (20, 83), (21, 84), (22, 85), (23, 86), (24, 87), (25, 29), (26, 88), (27, 89), (28, 90), (29, 91), (30, 92), (31, 93), (32, 94), (33, 95), (34, 96), (35, 97), (36, 98), (37, 99), (38, 100), (39, 101), (40, 102), (41, 103), (42, 104), (43, 105), (44, 106), (45, 107), (46, 108), (47, 109), (48, 110), (49, 111), (50, 112), (51, 113), (52, 114), (53, 115), (54, 116), (55, 117), (56, 118), (57, 119), (58, 120), (59, 121), (60, 122), (61, 123), (62, 124), (63, 125), (64, 126), (65, 15), (66, 11), (67, 16), (68, 31), (69, 127), (70, 128), (71, 129), (72, 130), (73, 131), (74, 132), (75, 133), (76, 134), (77, 26), (78, 135), (79, 22), (80, 136), (81, 137), (82, 138), (83, 139), (84, 140), (85, 141), (86, 142), (87, 143), (88, 144), (89, 145), (90, 34), (91, 30), (92, 35), (93, 41), (94, 36), (95, 25), (96, 21), (97, 40), (98, 38), (99, 146), (100, 42), (101, 39), (102, 37), (103, 44), (104, 46), (105, 45), (106, 43), (107, 47), (108, 48), (1000000000000, 1000000087), (1000000000001, 1000000005)]
def X : Cx := ⟨tabOf tys, fmOf fms, fun c => [30, 89, 104, 105, 107, 115, 116, 117, 120, 122, 123, 126, 128, 129, 130, 131, 139, 140, 144, 145, 146].contains c⟩
theorem ok42 : FnOk Try.prog X 100 pf42 := FnOk.of Try.func100 (by kernel_rfl) (by kernel_rfl) (by kernel_rfl) (by kernel_rfl) (by kernel_rfl)
theorem ok46 : FnOk Try.prog X 104 pf46 := FnOk.of Try.func104 (by kernel_rfl) (by kernel_rfl) (by kernel_rfl) (by kernel_rfl) (by kernel_rfl)
theorem ok36 : FnOk Try.prog X 94 pf36 := FnOk.of Try.func94 (by kernel_rfl) (by kernel_rfl) (by kernel_rfl) (by kernel_rfl) (by kernel_rfl)
theorem ok43 : FnOk Try.prog X 106 pf43 := FnOk.of Try.func106 (by kernel_rfl) (by kernel_rfl) (by kernel_rfl) (by kernel_rfl) (by kernel_rfl)
theorem ok47 : FnOk Try.prog X 107 pf47 := FnOk.of Try.func107 (by kernel_rfl) (by kernel_rfl) (by kernel_rfl) (by kernel_rfl) (by kernel_rfl)
theorem ok11 : FnOk Try.prog X 66 pf11 := FnOk.of Try.func66 (by kernel_rfl) (by kernel_rfl) (by kernel_rfl) (by kernel_rfl) (by kernel_rfl)
theorem ok15 : FnOk Try.prog X 65 pf15 := FnOk.of Try.func65 (by kernel_rfl) (by kernel_rfl) (by kernel_rfl) (by kernel_rfl) (by kernel_rfl)
theorem ok21 : FnOk Try.prog X 96 pf21 := FnOk.of Try.func96 (by kernel_rfl) (by kernel_rfl) (by kernel_rfl) (by kernel_rfl) (by kernel_rfl)
theorem ok25 : FnOk Try.prog X 95 pf25 := FnOk.of Try.func95 (by kernel_rfl) (by kernel_rfl) (by kernel_rfl) (by kernel_rfl) (by kernel_rfl)
theorem ok30 : FnOk Try.prog X 91 pf30 := FnOk.of Try.func91 (by kernel_rfl) (by kernel_rfl) (by kernel_rfl) (by kernel_rfl) (by kernel_rfl)
theorem ok34 : FnOk Try.prog X 90 pf34 := FnOk.of Try.func90 (by kernel_rfl) (by kernel_rfl) (by kernel_rfl) (by kernel_rfl) (by kernel_rfl)
theorem ok37 : FnOk Try.prog X 102 pf37 := FnOk.of Try.func102 (by kernel_rfl) (by kernel_rfl) (by kernel_rfl) (by kernel_rfl) (by kernel_rfl)
theorem ok39 : FnOk Try.prog X 101 pf39 := FnOk.of Try.func101 (by kernel_rfl) (by kernel_rfl) (by kernel_rfl) (by kernel_rfl) (by kernel_rfl)
theorem ok45 : FnOk Try.prog X 105 pf45 := FnOk.of Try.func105 (by kernel_rfl) (by kernel_rfl) (by kernel_rfl) (by kernel_rfl) (by kernel_rfl)
theorem ok29 : FnOk Try.prog X 25 pf29 := FnOk.of Try.func25 (by kernel_rfl) (by kernel_rfl) (by kernel_rfl) (by kernel_rfl) (by kernel_rfl)
theorem ok145 : FnOk Try.prog X 89 pf145 := FnOk.of Try.func89 (by kernel_rfl) (by kernel_rfl) (by kernel_rfl) (by kernel_rfl) (by kernel_rfl)
theorem ok126 : FnOk Try.prog X 64 pf126 := FnOk.of Try.func64 (by kernel_rfl) (by kernel_rfl) (by kernel_rfl) (by kernel_rfl) (by kernel_rfl)
theorem ok71 : FnOk Try.prog X 8 pf71 := FnOk.of Try.func8 (by kernel_rfl) (by kernel_rfl) (by kernel_rfl) (by kernel_rfl) (by kernel_rfl)
theorem ok72 : FnOk Try.prog X 9 pf72 := FnOk.of Try.func9 (by kernel_rfl) (by kernel_rfl) (by kernel_rfl) (by kernel_rfl) (by kernel_rfl)
theorem ok74 : FnOk Try.prog X 11 pf74 := FnOk.of Try.func11 (by kernel_rfl) (by kernel_rfl) (by kernel_rfl) (by kernel_rfl) (by kernel_rfl)
theorem ok76 : FnOk Try.prog X 13 pf76 := FnOk.of Try.func13 (by kernel_rfl) (by kernel_rfl) (by kernel_rfl) (by kernel_rfl) (by kernel_rfl)
theorem ok77 : FnOk Try.prog X 14 pf77 := FnOk.of Try.func14 (by kernel_rfl) (by kernel_rfl) (by kernel_rfl) (by kernel_rfl) (by kernel_rfl)
theorem ok78 : FnOk Try.prog X 15 pf78 := FnOk.of Try.func15 (by kernel_rfl) (by kernel_rfl) (by kernel_rfl) (by kernel_rfl) (by kernel_rfl)
theorem ok102 : FnOk Try.prog X 40 pf102 := FnOk.of Try.func40 (by kernel_rfl) (by kernel_rfl) (by kernel_rfl) (by kernel_rfl) (by kernel_rfl)
theorem ok103 : FnOk Try.prog X 41 pf103 := FnOk.of Try.func41 (by kernel_rfl) (by kernel_rfl) (by kernel_rfl) (by kernel_rfl) (by kernel_rfl)
theorem ok104 : FnOk Try.prog X 42 pf104 := FnOk.of Try.func42 (by kernel_rfl) (by kernel_rfl) (by kernel_rfl) (by kernel_rfl) (by kernel_rfl)
theorem ok107 : FnOk Try.prog X 45 pf107 := FnOk.of Try.func45 (by kernel_rfl) (by kernel_rfl) (by kernel_rfl) (by kernel_rfl) (by kernel_rfl)
theorem ok109 : FnOk Try.prog X 47 pf109 := FnOk.of Try.func47 (by kernel_rfl) (by kernel_rfl) (by kernel_rfl) (by kernel_rfl) (by kernel_rfl)
theorem ok110 : FnOk Try.prog X 48 pf110 := FnOk.of Try.func48 (by kernel_rfl) (by kernel_rfl) (by kernel_rfl) (by kernel_rfl) (by kernel_rfl)
theorem ok128 : FnOk Try.prog X 70 pf128 := FnOk.of Try.func70 (by kernel_rfl) (by kernel_rfl) (by kernel_rfl) (by kernel_rfl) (by kernel_rfl)
theorem ok129 : FnOk Try.prog X 71 pf129 := FnOk.of Try.func71 (by kernel_rfl) (by kernel_rfl) (by kernel_rfl) (by kernel_rfl) (by kernel_rfl)
theorem ok130 : FnOk Try.prog X 72 pf130 := FnOk.of Try.func72 (by kernel_rfl) (by kernel_rfl) (by kernel_rfl) (by kernel_rfl) (by kernel_rfl)
theorem ok131 : FnOk Try.prog X 73 pf131 := FnOk.of Try.func73 (by kernel_rfl) (by kernel_rfl) (by kernel_rfl) (by kernel_rfl) (by kernel_rfl)
theorem ok136 : FnOk Try.prog X 80 pf136 := FnOk.of Try.func80 (by kernel_rfl) (by kernel_rfl) (by kernel_rfl) (by kernel_rfl) (by kernel_rfl)
theorem ok82 : FnOk Try.prog X 19 pf82 := FnOk.of Try.func19 (by kernel_rfl) (by kernel_rfl) (by kernel_rfl) (by kernel_rfl) (by kernel_rfl)
theorem ok86 : FnOk Try.prog X 23 pf86 := FnOk.of Try.func23 (by kernel_rfl) (by kernel_rfl) (by kernel_rfl) (by kernel_rfl) (by kernel_rfl)
theorem ok88 : FnOk Try.prog X 26 pf88 := FnOk.of Try.func26 (by kernel_rfl) (by kernel_rfl) (by kernel_rfl) (by kernel_rfl) (by kernel_rfl)
theorem ok111 : FnOk Try.prog X 49 pf111 := FnOk.of Try.func49 (by kernel_rfl) (by kernel_rfl) (by kernel_rfl) (by kernel_rfl) (by kernel_rfl)
theorem ok112 : FnOk Try.prog X 50 pf112 := FnOk.of Try.func50 (by kernel_rfl) (by kernel_rfl) (by kernel_rfl) (by kernel_rfl) (by kernel_rfl)
theorem ok113 : FnOk Try.prog X 51 pf113 := FnOk.of Try.func51 (by kernel_rfl) (by kernel_rfl) (by kernel_rfl) (by kernel_rfl) (by kernel_rfl)
theorem ok115 : FnOk Try.prog X 53 pf115 := FnOk.of Try.func53 (by kernel_rfl) (by kernel_rfl) (by kernel_rfl) (by kernel_rfl) (by kernel_rfl)
theorem ok116 : FnOk Try.prog X 54 pf116 := FnOk.of Try.func54 (by kernel_rfl) (by kernel_rfl) (by kernel_rfl) (by kernel_rfl) (by kernel_rfl)
theorem ok119 : FnOk Try.prog X 57 pf119 := FnOk.of Try.func57 (by kernel_rfl) (by kernel_rfl) (by kernel_rfl) (by kernel_rfl) (by kernel_rfl)
theorem ok122 : FnOk Try.prog X 60 pf122 := FnOk.of Try.func60 (by kernel_rfl) (by kernel_rfl) (by kernel_rfl) (by kernel_rfl) (by kernel_rfl)
theorem ok123 : FnOk Try.prog X 61 pf123 := FnOk.of Try.func61 (by kernel_rfl) (by kernel_rfl) (by kernel_rfl) (by kernel_rfl) (by kernel_rfl)
theorem ok124 : FnOk Try.prog X 62 pf124 := FnOk.of Try.func62 (by kernel_rfl) (by kernel_rfl) (by kernel_rfl) (by kernel_rfl) (by kernel_rfl)
theorem ok139 : FnOk Try.prog X 83 pf139 := FnOk.of Try.func83 (by kernel_rfl) (by kernel_rfl) (by kernel_rfl) (by kernel_rfl) (by kernel_rfl)
theorem ok141 : FnOk Try.prog X 85 pf141 := FnOk.of Try.func85 (by kernel_rfl) (by kernel_rfl) (by kernel_rfl) (by kernel_rfl) (by kernel_rfl)
theorem ok144 : FnOk Try.prog X 88 pf144 := FnOk.of Try.func88 (by kernel_rfl) (by kernel_rfl) (by kernel_rfl) (by kernel_rfl) (by kernel_rfl)
theorem ok84 : FnOk Try.prog X 21 pf84 := FnOk.of Try.func21 (by kernel_rfl) (by kernel_rfl) (by kernel_rfl) (by kernel_rfl) (by kernel_rfl)
theorem ok117 : FnOk Try.prog X 55 pf117 := FnOk.of Try.func55 (by kernel_rfl) (by kernel_rfl) (by kernel_rfl) (by kernel_rfl) (by kernel_rfl)
theorem ok118 : FnOk Try.prog X 56 pf118 := FnOk.of Try.func56 (by kernel_rfl) (by kernel_rfl) (by kernel_rfl) (by kernel_rfl) (by kernel_rfl)
theorem ok140 : FnOk Try.prog X 84 pf140 := FnOk.of Try.func84 (by kernel_rfl) (by kernel_rfl) (by kernel_rfl) (by kernel_rfl) (by kernel_rfl)
theorem ok89 : FnOk Try.prog X 27 pf89 := FnOk.of Try.func27 (by kernel_rfl) (by kernel_rfl) (by kernel_rfl) (by kernel_rfl) (by kernel_rfl)
theorem ok90 : FnOk Try.prog X 28 pf90 := FnOk.of Try.func28 (by kernel_rfl) (by kernel_rfl) (by kernel_rfl) (by kernel_rfl) (by kernel_rfl)
theorem ok91 : FnOk Try.prog X 29 pf91 := FnOk.of Try.func29 (by kernel_rfl) (by kernel_rfl) (by kernel_rfl) (by kernel_rfl) (by kernel_rfl)
theorem ok92 : FnOk Try.prog X 30 pf92 := FnOk.of Try.func30 (by kernel_rfl) (by kernel_rfl) (by kernel_rfl) (by kernel_rfl) (by kernel_rfl)
theorem ok93 : FnOk Try.prog X 31 pf93 := FnOk.of Try.func31 (by kernel_rfl) (by kernel_rfl) (by kernel_rfl) (by kernel_rfl) (by kernel_rfl)
theorem ok98 : FnOk Try.prog X 36 pf98 := FnOk.of Try.func36 (by kernel_rfl) (by kernel_rfl) (by kernel_rfl) (by kernel_rfl) (by kernel_rfl)
theorem ok99 : FnOk Try.prog X 37 pf99 := FnOk.of Try.func37 (by kernel_rfl) (by kernel_rfl) (by kernel_rfl) (by kernel_rfl) (by kernel_rfl)
theorem ok101 : FnOk Try.prog X 39 pf101 := FnOk.of Try.func39 (by kernel_rfl) (by kernel_rfl) (by kernel_rfl) (by kernel_rfl) (by kernel_rfl)
theorem ok125 : FnOk Try.prog X 63 pf125 := FnOk.of Try.func63 (by kernel_rfl) (by kernel_rfl) (by kernel_rfl) (by kernel_rfl) (by kernel_rfl)
theorem tyVal : TyVal X.T 24 := ⟨5, 2, 9, 22, 4, ⟨_, rfl, rfl, rfl⟩, ⟨_, rfl, rfl, rfl⟩, ⟨_, rfl, rfl, rfl⟩, ⟨_, rfl, rfl, rfl⟩, ⟨_, rfl, rfl, rfl⟩, ⟨_, rfl, rfl, rfl⟩⟩
theorem tyFld : TyFld X.T 76 := ⟨9, 3, ⟨_, rfl, rfl, rfl⟩, ⟨_, rfl, rfl, rfl⟩, ⟨_, rfl, rfl, rfl⟩⟩
theorem tyIns : TyIns X.T 177 := ⟨5, 3, 3, 3, ⟨_, rfl, rfl, rfl⟩, ⟨_, rfl, rfl, rfl⟩, ⟨_, rfl, rfl, rfl⟩, ⟨_, rfl, rfl, rfl⟩, ⟨_, rfl, rfl, rfl⟩⟩
theorem tyRnn : TyRnn X.T 179 := ⟨3, 44, ⟨_, rfl, rfl, rfl⟩, ⟨_, rfl, rfl, rfl⟩, ⟨_, rfl, rfl, rfl⟩⟩
theorem tyTyp : TyTyp X.T 175 := ⟨5, 3, 3, 77, 76, ⟨_, rfl, rfl, rfl⟩, ⟨_, rfl, rfl, rfl⟩, ⟨_, rfl, rfl, rfl⟩, ⟨_, rfl, rfl, rfl⟩, ⟨_, rfl, rfl, rfl⟩, tyFld⟩
theorem tyFun : TyFun X.T 81 := ⟨9, 3, 3, 77, 78, 79, 79, 76, 177, 179, 179, ⟨_, rfl, rfl, rfl⟩, ⟨_, rfl, rfl, rfl⟩, ⟨_, rfl, rfl, rfl⟩, ⟨_, rfl, rfl, rfl⟩, ⟨_, rfl, rfl, rfl⟩, tyFld, ⟨_, rfl, rfl, rfl⟩, tyIns, ⟨_, rfl, rfl, rfl⟩, tyRnn, ⟨_, rfl, rfl, rfl⟩, tyRnn⟩
theorem tyImg : TyImg X.T 43 := ⟨39, 40, 41, 175, 9, 81, ⟨_, rfl, rfl, rfl⟩, ⟨_, rfl, rfl, rfl⟩, tyTyp, ⟨_, rfl, rfl, rfl⟩, ⟨_, rfl, rfl, rfl⟩, ⟨_, rfl, rfl, rfl⟩, tyFun⟩
theorem tyLoc : TyLoc X.T 74 := ⟨3, 24, ⟨_, rfl, rfl, rfl⟩, ⟨_, rfl, rfl, rfl⟩, tyVal⟩
theorem tyFrm : TyFrm X.T 47 := ⟨3, 3, 44, 45, 74, ⟨_, rfl, rfl, rfl⟩, ⟨_, rfl, rfl, rfl⟩, ⟨_, rfl, rfl, rfl⟩, ⟨_, rfl, rfl, rfl⟩, ⟨_, rfl, rfl, rfl⟩, tyLoc⟩
end Go.Proofs.Ytcojcdpoeaaigaa

/- Parts of the proof. -/
namespace Go.AM
open Go
structure Has03 (prog : Prog) : Prop where
  f42 : prog.fn 42 = some pf42
  f46 : prog.fn 46 = some pf46
  f36 : prog.fn 36 = some pf36
  f43 : prog.fn 43 = some pf43
  f47 : prog.fn 47 = some pf47
  f11 : prog.fn 11 = some pf11
  f15 : prog.fn 15 = some pf15
  f21 : prog.fn 21 = some pf21
  f25 : prog.fn 25 = some pf25
  f30 : prog.fn 30 = some pf30
  f34 : prog.fn 34 = some pf34
  f37 : prog.fn 37 = some pf37
  f39 : prog.fn 39 = some pf39
  f45 : prog.fn 45 = some pf45
  f29 : prog.fn 29 = some pf29
  f48 : prog.fn 48 = none
  o48 : ∀ (s : Bytes) (c : UInt8), prog.orac 48 [.s s, .i .u8 (c.toNat : Int)] = some (.i .i64 (Lib.indexByte s c))
section
variable {prog : Prog} (H : Has03 prog)
include H
theorem c30 {s b : Bytes} (hs : s.length ≤ 10000000) (hb : b.length ≤ 1000000000) : PuA prog 30 (b.map row8) [.s s] ((b ++ quo s).map row8) := by
  refine PuAK.to ?_
  have hp := p30 H.f30 (b0 := b) (s1 := s) (K := fun x => x = b ++ quo s) (by
    unfold T30_0 T30_1
    refine ⟨⟨by simp only [List.length_cons, List.length_nil, maxBytes_eq]; omega, by simp only [List.length_cons, List.length_nil, maxBytes_eq]; omega⟩, fun P hP => ?_⟩
    refine loop_up (fun i => b ++ 34 :: chrs (s.take i)) s.length ?_ ?_
    · apply hP
      unfold T30_2 T30_4
      have h1 := chrs_len (s.take s.length)
      simp only [List.take_length] at h1 ⊢
      refine ⟨fun h => absurd h (by omega), fun _ => ⟨⟨?_, ?_⟩, ?_⟩⟩
      · simp only [List.length_append, List.length_cons, List.length_nil, maxBytes_eq]; omega
      · simp only [List.length_append, List.length_cons, List.length_nil, maxBytes_eq]; omega
      · simp only [quo, List.append_assoc, List.cons_append]
    · intro i hi ih
      apply hP
      have h1 := chrs_len (s.take i)
      have hc := s[i].toNat_lt
      rw [chrs_take hi] at ih
      rw [← List.cons_append, ← List.append_assoc] at ih
      generalize hx : s[i] = c at ih hc
      have w1 : bShr .u8 (c.toNat : Int) 4 = ((c.toNat / 16 : Nat) : Int) := by
        show (c.toNat : Int).fdiv 16 = _
        rw [Int.fdiv_eq_ediv_of_nonneg _ (by omega)]; omega
      have w2 : bAnd .u8 (c.toNat : Int) 15 = ((c.toNat % 16 : Nat) : Int) := by
        unfold bAnd
        have hx : (BitVec.ofInt IntKind.u8.bits (c.toNat : Int) &&& BitVec.ofInt IntKind.u8.bits 15).toNat = c.toNat % 16 := by
          show (BitVec.ofInt 8 (c.toNat : Int) &&& BitVec.ofInt 8 15).toNat = c.toNat % 16
          rw [BitVec.toNat_and]
          have h1 : (BitVec.ofInt 8 (c.toNat : Int)).toNat = c.toNat := by
            simp
          rw [h1]
          exact Nat.and_two_pow_sub_one_eq_mod c.toNat 4
        rw [hx]
        exact wr_u8 (by omega) (by omega)
      have fit : ∀ x : Bytes, x.length ≤ 4 → Fit ((b ++ 34 :: chrs (s.take i)).length + x.length) 1 := by
        intro x hx
        simp only [List.length_take] at h1
        refine ⟨?_, ?_⟩ <;> (simp only [List.length_append, List.length_cons, maxBytes_eq]; omega)
      unfold T30_2 T30_3
      rw [wr_succ (by omega)]
      refine ⟨fun _ => ⟨by omega, c, by rw [toNat_cast, List.getElem?_eq_getElem hi, hx], ?_⟩, fun h => absurd (show (i : Int) < s.length by omega) h⟩
      simp only [w1, w2, toNat_cast, hexd_get (show c.toNat / 16 < 16 by omega), hexd_get (show c.toNat % 16 < 16 by omega), Option.some.injEq, exists_eq_left']
      unfold chr at ih
      refine ⟨fun h2 => ⟨fit _ (by simp), ?_⟩, fun h2 => ⟨fun h3 => ⟨fit _ (by simp), ?_⟩, fun h3 => ⟨fun h4 => ⟨fit _ (by simp), ?_⟩, fun h4 => ⟨fun h5 => ⟨by omega, by omega, fit _ (by simp), ?_⟩, fun h5 => ⟨fun h6 => ⟨by omega, by omega, fit _ (by simp), ?_⟩, fun h6 => ⟨fit _ (by simp), ?_⟩⟩⟩⟩⟩⟩
      · rwa [if_pos (by omega)] at ih
      · rwa [if_pos (by omega)] at ih
      · rwa [if_neg (by omega), if_pos (by omega)] at ih
      · rwa [if_neg (by omega), if_neg (by omega), if_pos (by omega)] at ih
      · rwa [if_neg (by omega), if_neg (by omega), if_pos (by omega)] at ih
      · rwa [if_neg (by omega), if_neg (by omega), if_neg (by omega)] at ih)
  intro d st o ha
  obtain ⟨o', st', rows', ⟨x, rfl, rfl⟩, h1, h2⟩ := hp d st o ha
  exact ⟨o', st', _, rfl, h1, h2⟩
theorem c11 (s : Bytes) : Pus prog 11 [.s s] (.tup [.s (quoR s).1, .i .i64 (quoR s).2]) := by
  obtain ⟨x, y, ⟨rfl, rfl⟩, h⟩ := p11 H.f11 (s0 := s) (K := fun x y => x = (quoR s).1 ∧ y = (quoR s).2) (by
    unfold T11_0 quoR
    refine ⟨fun h => ?_, fun h => ⟨_, c30 H (b := []) (s := s) (by omega) (by simp), ?_⟩⟩
    · rw [if_pos (by omega)]; exact ⟨rfl, rfl⟩
    · rw [if_neg (by omega)]; exact ⟨rfl, rfl⟩)
  exact h
theorem c34 {n b : Nat} (hb : 2 ≤ b) (hb' : b ≤ 16) (hn : n < 18446744073709551616) : Pus prog 34 [.i .u64 (n : Int), .i .u64 (b : Int)] (.s (digs b n)) := by
  obtain ⟨x, rfl, h⟩ := p34 H.f34 (n0 := (n : Int)) (base1 := (b : Int)) (K := fun x => x = digs b n) (by
    unfold T34_0
    intro P hP
    have key : ∀ f n', n' < b ^ f → 0 < f → n' < 18446744073709551616 → ∀ a : Nat, f ≤ a → a ≤ 64 → ∀ m : Bytes, m.length = 64 → (ds b f n' ++ m.drop a = digs b n) → P (n' : Int) (a : Int) m := by
      intro f
      induction f with
      | zero => intro _ _ h; exact absurd h (Nat.lt_irrefl _)
      | succ f ih =>
        intro n' hf _ hn' a ha ha' m hm hd
        apply hP
        have e1 : (n' : Int).tmod (b : Int) = ((n' % b : Nat) : Int) := by rw [Int.tmod_eq_emod_of_nonneg (by omega)]; omega
        have e2 : (n' : Int).tdiv (b : Int) = ((n' / b : Nat) : Int) := by rw [Int.tdiv_eq_ediv_of_nonneg (by omega)]; omega
        have e3 : IntKind.i64.wrap ((a : Int) - 1) = ((a - 1 : Nat) : Int) := by rw [wr_i64 (by omega) (by omega)]; omega
        have hq : n' / b ≤ n' := Nat.div_le_self _ _
        have hr : n' % b < b := Nat.mod_lt _ (by omega)
        have e4 : IntKind.u64.wrap ((n' / b : Nat) : Int) = ((n' / b : Nat) : Int) := wr_u64_nat (by omega)
        have hset : ∀ c : UInt8, (m.set (a - 1) c).drop (a - 1) = c :: m.drop a := by
          intro c
          rw [List.drop_eq_getElem_cons (by simp; omega), List.getElem_set_self, List.drop_set_of_lt (by omega), show a - 1 + 1 = a by omega]
        unfold T34_1
        simp only [e1, e2, e3, e4, toNat_cast, hset]
        refine ⟨by omega, by omega, hexd (n' % b), hexd_get (by omega), by omega, by omega, by omega, by omega, fun h => ⟨by simp [hm], by omega, by omega, ?_⟩, fun h => ?_⟩
        · rw [← hd]
          unfold ds
          have hz : n' / b = 0 := by omega
          have hlt : n' < b := by
            rcases Nat.lt_or_ge n' b with h | h
            · exact h
            · have := Nat.div_pos h (by omega); omega
          rw [if_pos hlt, Nat.mod_eq_of_lt hlt]
          rfl
        · have hz : n' / b ≠ 0 := by omega
          have hlt : ¬ n' < b := fun h => hz (Nat.div_eq_of_lt h)
          have h1 : n' / b < b ^ f := by
            rw [Nat.div_lt_iff_lt_mul (by omega)]
            rw [Nat.pow_succ] at hf
            exact hf
          have h2 : 0 < f := by
            rcases Nat.eq_zero_or_pos f with rfl | h
            · simp at h1; omega
            · exact h
          refine ih (n' / b) h1 h2 (by omega) (a - 1) (by omega) (by omega) _ (by simp [hm]) ?_
          rw [hset, ← hd]
          conv => rhs; unfold ds
          rw [if_neg hlt, List.append_assoc]
          rfl
    refine key 64 n ?_ (by omega) hn 64 (by omega) (by omega) _ (by simp) ?_
    · calc n < 2 ^ 64 := hn
        _ ≤ b ^ 64 := Nat.pow_le_pow_left hb 64
    · simp [digs])
  exact h
theorem c15 {n : Int} (h1 : -9223372036854775808 ≤ n) (h2 : n < 9223372036854775808) : Pus prog 15 [.i .i64 n] (.s (num n)) := by
  obtain ⟨x, rfl, h⟩ := p15 H.f15 (n0 := n) (K := fun x => x = num n) (by
    unfold T15_0
    refine ⟨fun h => ?_, fun h => ?_⟩
    · have e : IntKind.u64.wrap (0 - (IntKind.u64.wrap n)) = (((-n).toNat : Nat) : Int) := by rw [IntKind.wrap_u64, IntKind.wrap_u64]; omega
      rw [e]
      refine ⟨_, c34 H (b := 10) (by omega) (by omega) (by omega), ?_, ?_⟩
      · have := ds_len 10 64 (-n).toNat
        simp only [digs, List.length_cons, List.length_nil, maxStr_eq]; omega
      · unfold num; rw [if_pos h]; rfl
    · have e : IntKind.u64.wrap n = ((n.toNat : Nat) : Int) := by rw [IntKind.wrap_u64]; omega
      rw [e]
      refine ⟨_, c34 H (b := 10) (by omega) (by omega) (by omega), ?_⟩
      unfold num; rw [if_neg h])
  exact h
end
end Go.AM

/- Parts of the proof. -/
namespace Go.AM
open Go
def cutp (p s : Bytes) : Bytes × Bool := if s.take p.length = p then (s.drop p.length, true) else (s, false)
def EscK (s : Bytes) (c : Int) (r : Bytes) (ok : Bool) : Prop := match esc s with | some (x, y) => c = (x.toNat : Int) ∧ r = y ∧ ok = true | none => ok = false
theorem EscK.yes {s : Bytes} {x : UInt8} {y : Bytes} {c : Int} (h : esc s = some (x, y)) (hc : c = (x.toNat : Int)) : EscK s c y true := by
  unfold EscK; rw [h]; exact ⟨hc, rfl, rfl⟩
theorem EscK.no {s : Bytes} {c : Int} {y : Bytes} (h : esc s = none) : EscK s c y false := by
  unfold EscK; rw [h]
section
variable {prog : Prog} (H : Has03 prog)
include H
theorem c46 (s p : Bytes) : Pus prog 46 [.s s, .s p] (.b (decide (s.take p.length = p))) := by
  obtain ⟨x, rfl, h⟩ := p46 H.f46 (s0 := s) (prefix1 := p) (K := fun x => x = decide (s.take p.length = p)) (by
    unfold T46_0
    refine ⟨fun h => ⟨by omega, by omega, rfl⟩, fun h => ?_⟩
    refine (decide_eq_false fun h1 => ?_).symm
    have := congrArg List.length h1
    simp only [List.length_take] at this
    omega)
  exact h
theorem c42 (s p : Bytes) : Pus prog 42 [.s s, .s p] (.tup [.s (cutp p s).1, .b (cutp p s).2]) := by
  obtain ⟨x, y, ⟨rfl, rfl⟩, h⟩ := p42 H.f42 (s0 := s) (prefix1 := p) (K := fun x y => x = (cutp p s).1 ∧ y = (cutp p s).2) (by
    unfold T42_0 cutp
    refine ⟨_, c46 H s p, fun h => ?_, fun h => ?_⟩
    · have h1 : ¬ s.take p.length = p := by simpa using h
      rw [if_neg h1]; exact ⟨rfl, rfl⟩
    · have h1 : s.take p.length = p := by simpa using h
      have h2 := congrArg List.length h1
      simp only [List.length_take] at h2
      rw [if_pos h1]; exact ⟨by omega, by omega, rfl, rfl⟩)
  exact h
theorem c36 (s p : Bytes) : Pus prog 36 [.s s, .s p] (.tup [.s (cutp p s).1, .b (cutp p s).2]) := by
  obtain ⟨x, y, ⟨rfl, rfl⟩, h⟩ := p36 H.f36 (s0 := s) (prefix1 := p) (K := fun x y => x = (cutp p s).1 ∧ y = (cutp p s).2) (by
    unfold T36_0
    exact ⟨_, _, c42 H s p, rfl, rfl⟩)
  exact h
theorem c47 (s : Bytes) (c : UInt8) : Pus prog 47 [.s s, .i .u8 (c.toNat : Int)] (.i .i64 (Lib.indexByte s c)) := by
  obtain ⟨x, rfl, h⟩ := p47 H.f47 (s0 := s) (c1 := (c.toNat : Int)) (K := fun x => x = Lib.indexByte s c) (by
    unfold T47_0
    exact ⟨_, Pus.orac H.f48 (H.o48 s c) rfl, rfl⟩)
  exact h
theorem c43 (s : Bytes) (c : UInt8) : Pus prog 43 [.s s, .i .u8 (c.toNat : Int)] (.i .i64 (Lib.indexByte s c)) := by
  obtain ⟨x, rfl, h⟩ := p43 H.f43 (s0 := s) (c1 := (c.toNat : Int)) (K := fun x => x = Lib.indexByte s c) (by
    unfold T43_0
    exact ⟨_, c47 H s c, rfl⟩)
  exact h
theorem c37 {b most : Nat} (hb : 2 ≤ b) (hb' : b ≤ 16) (hm : 16 ≤ most) (hm' : most < 18446744073709551616) {s : Bytes} (hs : s.length ≤ 10000000) : Pus prog 37 [.s s, .i .u64 (b : Int), .i .u64 (most : Int)] (.tup [.i .u64 ((rd b most s).1 : Int), .i .i64 (rd b most s).2]) := by
  obtain ⟨x, y, ⟨rfl, rfl⟩, h⟩ := p37 H.f37 (s0 := s) (base1 := (b : Int)) (most2 := (most : Int)) (K := fun x y => x = ((rd b most s).1 : Int) ∧ y = (rd b most s).2) (by
    unfold T37_0 T37_1 T37_2
    intro P hP
    have key : ∀ m i : Nat, i + m = s.length → okd b (s.take i) = true → (2 ≤ i → s.head? ≠ some 48) → ∀ (n : Nat) (far : Bool), (far = false → n = vals b (s.take i) ∧ n ≤ most) → (far = true → most < vals b (s.take i)) → P (n : Int) far (i : Int) := by
      intro m
      induction m with
      | zero =>
        intro i hi ho h48 n far h0 h1
        simp only [Nat.add_zero] at hi
        subst hi
        rw [List.take_length] at ho h0 h1
        apply hP
        unfold T37_3 T37_5
        refine ⟨fun h => absurd h (by omega), fun _ => ⟨fun h => ?_, fun h => ?_⟩⟩
        · subst h; exact ⟨rfl, rfl⟩
        · have hbad : badn b s = false := by
            unfold badn
            rw [decide_eq_false h, ho]
            simp only [Bool.false_or, Bool.not_true]
            by_cases h2 : 1 < s.length
            · rw [decide_eq_false (h48 h2), Bool.and_false]
            · rw [decide_eq_false h2, Bool.false_and]
          refine ⟨fun hf => ?_, fun hf => ?_⟩
          · unfold rd
            rw [if_neg (by rw [hbad]; decide), if_pos (h1 hf)]
            exact ⟨rfl, rfl⟩
          · obtain ⟨h2, h3⟩ := h0 hf
            unfold rd
            rw [if_neg (by rw [hbad]; decide), if_neg (by omega), h2]
            exact ⟨rfl, rfl⟩
      | succ m ih =>
        intro i hi ho h48 n far h0 h1
        have hil : i < s.length := by omega
        have hd := dv_lt hb' s[i]
        have hv := vals_take (b := b) hil
        have hk := okd_take (b := b) hil
        have bad12 : badn b s = true → (0 : Int) = ((rd b most s).1 : Int) ∧ (12 : Int) = (rd b most s).2 := by
          intro h
          unfold rd
          rw [if_pos h]
          exact ⟨rfl, rfl⟩
        apply hP
        unfold T37_3 T37_4
        refine ⟨fun _ => ⟨by omega, by rw [toNat_cast]; exact hb', by omega, s[i], by rw [toNat_cast, List.getElem?_eq_getElem hil], dv b s[i], c43 H _ _, fun h => ?_, fun h => ?_⟩, fun h => absurd h (by omega)⟩
        · refine bad12 ?_
          unfold badn
          rw [okd_of hil h]
          simp
        · have hd0 : 0 ≤ dv b s[i] := by omega
          rw [ho, decide_eq_true hd0, Bool.and_true] at hk
          generalize hdd : (dv b s[i]).toNat = d at hv
          have hdi : dv b s[i] = (d : Int) := by omega
          have e1 : IntKind.u64.wrap (dv b s[i]) = (d : Int) := by rw [hdi]; exact wr_u64_nat (by omega)
          have e2 : IntKind.u64.wrap ((most : Int) - (d : Int)) = ((most - d : Nat) : Int) := by rw [wr_u64 (by omega) (by omega)]; omega
          have e3 : (((most - d : Nat) : Int)).tdiv (b : Int) = (((most - d) / b : Nat) : Int) := by rw [Int.tdiv_eq_ediv_of_nonneg (by omega)]; omega
          have hq : (most - d) / b ≤ most - d := Nat.div_le_self _ _
          have e4 : IntKind.u64.wrap (((most - d) / b : Nat) : Int) = (((most - d) / b : Nat) : Int) := wr_u64_nat (by omega)
          have hfi := far_iff (n := n) (show 0 < b by omega) (show d ≤ most by omega)
          rw [wr_succ (by omega)]
          simp only [e1, e2, e3, e4]
          have go : (2 ≤ i + 1 → s.head? ≠ some 48) → (far = true → P (n : Int) true ((i + 1 : Nat) : Int)) ∧ (far = false → (b : Int) ≠ 0 ∧ (¬((n : Int) > (((most - d) / b : Nat) : Int)) → P (IntKind.u64.wrap ((IntKind.u64.wrap ((n : Int) * (b : Int))) + (d : Int))) (decide ((n : Int) > (((most - d) / b : Nat) : Int))) ((i + 1 : Nat) : Int)) ∧ (¬(¬((n : Int) > (((most - d) / b : Nat) : Int))) → P (n : Int) (decide ((n : Int) > (((most - d) / b : Nat) : Int))) ((i + 1 : Nat) : Int))) := by
            intro h2
            refine ⟨fun hf => ?_, fun hf => ⟨by omega, fun h3 => ?_, fun h3 => ?_⟩⟩
            · refine ih (i + 1) (by omega) hk h2 n true (fun h => by cases h) fun _ => ?_
              rw [hv]
              have h4 := h1 hf
              have : vals b (s.take i) ≤ vals b (s.take i) * b := Nat.le_mul_of_pos_right _ (by omega)
              omega
            · obtain ⟨h4, h5⟩ := h0 hf
              have h6 : n * b + d ≤ most := by
                have : ¬ (most - d) / b < n := by omega
                rw [hfi] at this
                omega
              have hnb : (n : Int) * (b : Int) = ((n * b : Nat) : Int) := by rw [Int.natCast_mul]
              have e5 : IntKind.u64.wrap ((n : Int) * (b : Int)) = ((n * b : Nat) : Int) := by rw [hnb]; exact wr_u64_nat (by omega)
              have e6 : IntKind.u64.wrap (((n * b : Nat) : Int) + (d : Int)) = ((n * b + d : Nat) : Int) := by rw [wr_u64 (by omega) (by omega)]; omega
              rw [e5, e6, decide_eq_false h3]
              refine ih (i + 1) (by omega) hk h2 _ false (fun _ => ⟨?_, h6⟩) fun h => by cases h
              rw [hv, h4]
            · have h3' : (n : Int) > (((most - d) / b : Nat) : Int) := by omega
              obtain ⟨h4, h5⟩ := h0 hf
              rw [decide_eq_true h3']
              refine ih (i + 1) (by omega) hk h2 n true (fun h => by cases h) fun _ => ?_
              rw [hv, ← h4]
              exact hfi.1 (Int.ofNat_lt.1 h3')
          have hd0 : s.head? = s[0]? := List.head?_eq_getElem?
          refine ⟨fun hi1 => ?_, fun hi1 => ?_⟩
          · have h0s : s[0]? = some s[0] := List.getElem?_eq_getElem (by omega)
            refine ⟨s[0], h0s, fun h2 => ?_, fun h2 => ?_⟩
            · refine bad12 ?_
              have h3 : s[0] = 48 := u8_eq (by have e : (48 : UInt8).toNat = 48 := rfl; omega)
              unfold badn
              rw [decide_eq_true (show 1 < s.length by omega), decide_eq_true (show s.head? = some 48 by rw [hd0, h0s, h3])]
              simp
            · refine go fun _ => ?_
              rw [hd0, h0s]
              intro h3
              injection h3 with h3
              exact h2 (by rw [h3]; rfl)
          · refine go fun h2 => ?_
            have h3 : i ≠ 1 := by omega
            have h4 : i ≠ 0 := by omega
            exact h48 (by omega)
    exact key s.length 0 (by omega) rfl (by omega) 0 false (fun _ => ⟨rfl, by omega⟩) fun h => by cases h)
  exact h
theorem c21 (s : Bytes) : Pus prog 21 [.s s] (.tup [.i .i64 (unnum s).1, .i .i64 (unnum s).2]) := by
  obtain ⟨x, y, ⟨rfl, rfl⟩, h⟩ := p21 H.f21 (s0 := s) (K := fun x y => x = (unnum s).1 ∧ y = (unnum s).2) (by
    unfold T21_0 T21_1
    refine ⟨fun h => by unfold unnum; rw [if_pos (by omega)]; exact ⟨rfl, rfl⟩, fun hs => ⟨_, _, c36 H s [45], ?_⟩⟩
    unfold unnum
    rw [if_neg (by omega)]
    by_cases hm : s.take 1 = [45]
    · have ec : cutp [45] s = (s.drop 1, true) := by unfold cutp; rw [if_pos (by exact hm)]; rfl
      rw [ec, if_pos hm]
      refine ⟨fun h => by simp at h, fun _ => ?_⟩
      have hl := rd_le 10 9223372036854775808 (s.drop 1)
      refine ⟨_, _, c37 H (b := 10) (most := 9223372036854775808) (by omega) (by omega) (by omega) (by omega) (s := s.drop 1) (by simp; omega), fun h => ⟨fun h0 => ?_, fun h0 => ?_⟩, fun h => ?_⟩
      · have e : (rd 10 9223372036854775808 (s.drop 1)).1 = 0 := by omega
        rw [if_pos ⟨h, e⟩, e]
        exact ⟨rfl, rfl⟩
      · rw [if_neg (fun hh => h0 (by rw [hh.2]; rfl))]
        refine ⟨?_, rfl⟩
        rw [IntKind.wrap_u64, IntKind.wrap_i64]
        simp only
        omega
      · have e := rd_err h
        rw [if_neg (fun hh => h hh.1), e]
        exact ⟨rfl, rfl⟩
    · have ec : cutp [45] s = (s, false) := by unfold cutp; rw [if_neg (by exact hm)]
      rw [ec, if_neg hm]
      refine ⟨fun _ => ?_, fun h => by simp at h⟩
      have hl := rd_le 10 9223372036854775807 s
      exact ⟨_, _, c37 H (b := 10) (most := 9223372036854775807) (by omega) (by omega) (by omega) (by omega) (s := s) (by omega), wr_i64 (by omega) (by omega), rfl⟩)
  exact h
theorem c45 (s : Bytes) : ∃ c r ok, EscK s c r ok ∧ Pus prog 45 [.s s] (.tup [.i .u8 c, .s r, .b ok]) := by
  refine p45 H.f45 (s0 := s) (K := EscK s) ?_
  unfold T45_0 T45_1
  refine ⟨fun h => by subst h; exact EscK.no rfl, fun h => ?_⟩
  cases s with
  | nil => exact absurd rfl h
  | cons c r =>
    have lit : ∀ {n : Nat} (_ : n < 256), (UInt8.ofNat n).toNat = n := by intro n hn; simp; omega
    unfold T45_2
    refine ⟨c, rfl, ?_⟩
    have t4 : T45_4 prog (EscK (c :: r)) (c :: r) (c.toNat : Int) (decide (c.toNat = 34 ∨ c.toNat = 92)) := by
      unfold T45_4
      refine ⟨fun h1 => ⟨c, rfl, by simp, ?_⟩, fun h1 => ?_⟩
      · have h1 := of_decide_eq_true h1
        exact EscK.yes (show (if c.toNat = 34 ∨ c.toNat = 92 then some (c, r) else _) = some (c, r) from if_pos h1) rfl
      · have h1 := of_decide_eq_false h1
        have e0 : esc (c :: r) = if c.toNat = 110 then some (10, r) else if c.toNat = 120 then esx r else none := by
          show (if c.toNat = 34 ∨ c.toNat = 92 then some (c, r) else if c.toNat = 110 then some (10, r) else if c.toNat = 120 then esx r else none) = _
          rw [if_neg h1]
        refine ⟨fun h2 => ⟨by simp, ?_⟩, fun h2 => ⟨fun h3 => ?_, fun h3 => ?_⟩⟩
        · exact EscK.yes (by rw [e0, if_pos (by omega)]; rfl) rfl
        · have e : esc (c :: r) = esx r := by rw [e0, if_neg (by omega), if_pos (by omega)]
          refine ⟨fun h4 => ?_, fun h4 => ?_⟩
          · refine EscK.no ?_
            rw [e]
            match r, h4 with
            | [], _ => rfl
            | [a], _ => rfl
            | a :: b :: r', h4 => simp at h4; omega
          · match r, h4, e with
            | [], h4, _ => exact absurd (by simp) h4
            | [a], h4, _ => exact absurd (by simp) h4
            | a :: b :: r', _, e =>
              have la := dv_lt (b := 16) (by omega) a
              have lb := dv_lt (b := 16) (by omega) b
              have ca : Pus prog 43 [.s DIG, .i .u8 (a.toNat : Int)] (.i .i64 (dv 16 a)) := c43 H DIG a
              have cb : Pus prog 43 [.s DIG, .i .u8 (b.toNat : Int)] (.i .i64 (dv 16 b)) := c43 H DIG b
              refine ⟨a, rfl, _, ca, b, rfl, _, cb, by simp, ?_⟩
              simp only [esx] at e
              by_cases hv : 0 ≤ dv 16 a ∧ 0 ≤ dv 16 b
              · have hw : IntKind.u8.wrap (IntKind.i64.wrap ((IntKind.i64.wrap (16 * dv 16 a)) + dv 16 b)) = 16 * dv 16 a + dv 16 b := by
                  rw [wr_i64 (z := 16 * dv 16 a) (by omega) (by omega), wr_i64 (by omega) (by omega), wr_u8 (by omega) (by omega)]
                have en := lit (n := (16 * dv 16 a + dv 16 b).toNat) (by omega)
                rw [hw]
                refine ⟨fun _ => ⟨fun _ => ⟨fun h5 => ⟨fun h6 => ?_, fun h6 => ?_⟩, fun h5 => ?_⟩, fun h5 => absurd hv.2 h5⟩, fun h5 => absurd hv.1 h5⟩
                · rw [if_pos ⟨hv.1, hv.2, by omega, by omega⟩] at e
                  exact EscK.yes e (by rw [en]; omega)
                · by_cases h7 : 126 < 16 * dv 16 a + dv 16 b
                  · rw [if_pos ⟨hv.1, hv.2, by omega, by omega⟩] at e
                    rw [decide_eq_true h7]
                    exact EscK.yes e (by rw [en]; omega)
                  · rw [if_neg (by omega)] at e
                    rw [decide_eq_false h7]
                    exact EscK.no e
                · rw [if_neg (by omega)] at e
                  exact EscK.no e
              · rw [if_neg (by omega)] at e
                exact ⟨fun h5 => ⟨fun h6 => absurd ⟨h5, h6⟩ hv, fun _ => EscK.no e⟩, fun _ => EscK.no e⟩
        · exact EscK.no (by rw [e0, if_neg (by omega), if_neg (by omega)])
    unfold T45_3
    refine ⟨fun h1 => ?_, fun h1 => ?_⟩
    · rw [show decide ((c.toNat : Int) = 34) = decide (c.toNat = 34 ∨ c.toNat = 92) from decide_eq_decide.2 (by omega)]
      exact t4
    · rw [show decide ((c.toNat : Int) = 92) = decide (c.toNat = 34 ∨ c.toNat = 92) from decide_eq_decide.2 (by omega)]
      exact t4
theorem c39 {s : Bytes} (hs : s.length ≤ 10000000) : Pus prog 39 [.s s] (.tup [.s (nxtR s).1, .s (nxtR s).2.1, .b (nxtR s).2.2]) := by
  obtain ⟨x, y, z, ⟨rfl, rfl, rfl⟩, h⟩ := p39 H.f39 (s0 := s) (K := fun x y z => x = (nxtR s).1 ∧ y = (nxtR s).2.1 ∧ z = (nxtR s).2.2) (by
    have no : nxt s = none → ([] : Bytes) = (nxtR s).1 ∧ ([] : Bytes) = (nxtR s).2.1 ∧ false = (nxtR s).2.2 := by
      intro h
      unfold nxtR
      rw [h]
      exact ⟨rfl, rfl, rfl⟩
    unfold T39_0 T39_1
    refine ⟨_, _, c36 H s [34], ?_⟩
    cases s with
    | nil =>
      rw [show cutp [34] [] = ([], false) from rfl]
      exact ⟨fun _ => no rfl, fun h => by simp at h⟩
    | cons q s =>
      by_cases hq : q.toNat = 34
      · have hq' : q = 34 := u8_eq hq
        subst hq'
        have ec : cutp [34] (34 :: s) = (s, true) := by unfold cutp; rw [if_pos (show List.take ([34] : Bytes).length (34 :: s) = [34] from rfl)]; rfl
        rw [ec]
        refine ⟨fun h => by simp at h, fun _ P hP => ?_⟩
        have hn : nxt (34 :: s) = nxtB (s.length + 1) [] s := by
          simp only [nxt]
          rw [if_pos hq]
        have key : ∀ n b r, r.length < n → b.length + r.length ≤ 10000000 → nxtB n b r = nxt (34 :: s) → P r b := by
          intro n
          induction n with
          | zero => intro b r h; exact absurd h (Nat.not_lt_zero _)
          | succ n ih =>
            intro b r hr hb hx
            apply hP
            unfold T39_2
            cases r with
            | nil => exact ⟨fun h => absurd rfl h, fun _ => no (by rw [← hx]; rfl)⟩
            | cons c r =>
              simp only [nxtB] at hx
              refine ⟨fun _ => ⟨c, rfl, by simp, fun h1 => ?_, fun h1 => ⟨fun h2 => ?_, fun h2 => ⟨fun h3 => ?_, fun h3 => ⟨fun h4 => ?_, fun h4 => ?_⟩⟩⟩⟩, fun h => absurd (by simp) h⟩
              · rw [if_pos (by omega)] at hx
                unfold nxtR
                rw [← hx]
                exact ⟨rfl, rfl, rfl⟩
              · refine no ?_
                rw [← hx, if_neg (by omega), show one (c :: r) = none by simp only [one]; rw [if_pos (by omega)]]
              · refine no ?_
                rw [← hx, if_neg (by omega), show one (c :: r) = none by simp only [one]; rw [if_pos (by omega)]]
              · rw [if_neg (by omega), show one (c :: r) = esc r by simp only [one]; rw [if_neg (by omega), if_pos (by omega)]] at hx
                obtain ⟨a, r', ok, hk, hp⟩ := c45 H r
                refine ⟨a, r', ok, hp, fun h5 => ?_, fun h5 => ?_⟩
                · unfold EscK at hk
                  cases he : esc r with
                  | none => rw [he] at hx; exact no hx.symm
                  | some p =>
                    rw [he] at hk
                    obtain ⟨_, _, hk⟩ := hk
                    rw [hk] at h5
                    exact absurd h5 (by decide)
                · unfold EscK at hk
                  cases he : esc r with
                  | none =>
                    rw [he] at hk
                    simp only at hk
                    rw [hk] at h5
                    exact absurd h5 (by decide)
                  | some p =>
                    obtain ⟨u, v⟩ := p
                    rw [he] at hk hx
                    obtain ⟨h6, h7, h8⟩ := hk
                    simp only at hx h6 h7
                    subst h6; subst h7
                    have hl : r'.length < (c :: r).length := one_len (c := u) (by simp only [one]; rw [if_neg (by omega), if_pos (by omega)]; exact he)
                    simp only [List.length_cons] at hl hb hr
                    unfold T39_3
                    refine ⟨u, rfl, ⟨?_, ?_⟩, ih _ _ (by omega) ?_ hx⟩
                    · simp only [List.length_cons, List.length_nil, maxBytes_eq]; omega
                    · simp only [List.length_cons, List.length_nil, maxBytes_eq]; omega
                    · simp only [List.length_append, List.length_cons, List.length_nil]; omega
              · rw [if_neg (by omega), show one (c :: r) = some (c, r) by simp only [one]; rw [if_neg (by omega), if_neg (by omega)]] at hx
                simp only [List.length_cons] at hb hr
                unfold T39_3
                refine ⟨c, rfl, ⟨?_, ?_⟩, ih _ _ (show r.length < n by omega) ?_ hx⟩
                · simp only [List.length_cons, List.length_nil, maxBytes_eq]; omega
                · simp only [List.length_cons, List.length_nil, maxBytes_eq]; omega
                · simp only [List.drop_succ_cons, List.drop_zero, List.length_append, List.length_cons, List.length_nil]; omega
        exact key (s.length + 1) [] s (by omega) (by simp at hs ⊢; omega) hn.symm
      · have ec : cutp [34] (q :: s) = (q :: s, false) := by
          unfold cutp
          rw [if_neg ?_]
          intro h
          injection h with h
          exact hq (by rw [h]; rfl)
        rw [ec]
        refine ⟨fun _ => no ?_, fun h => by simp at h⟩
        simp only [nxt]
        rw [if_neg hq])
  exact h
theorem c25 (s : Bytes) : Pus prog 25 [.s s] (.tup [.s (unquo s).1, .i .i64 (unquo s).2]) := by
  obtain ⟨x, y, ⟨rfl, rfl⟩, h⟩ := p25 H.f25 (s0 := s) (K := fun x y => x = (unquo s).1 ∧ y = (unquo s).2) (by
    unfold T25_0 unquo
    refine ⟨fun h => by rw [if_pos (by omega)]; exact ⟨rfl, rfl⟩, fun hs => ⟨_, _, _, c39 H (by omega), ?_⟩⟩
    rw [if_neg (by omega)]
    unfold nxtR
    cases nxt s with
    | none => exact ⟨fun _ => ⟨rfl, rfl⟩, fun h => by simp at h⟩
    | some p =>
      obtain ⟨x, r⟩ := p
      refine ⟨fun h => by simp at h, fun _ => ⟨fun h => ?_, fun h => ?_⟩⟩
      · cases r with
        | nil => exact absurd rfl h
        | cons c r => exact ⟨rfl, rfl⟩
      · have h : r = [] := Classical.not_not.1 h
        subst h
        refine ⟨fun h => ?_, fun h => ?_⟩
        · simp only at h ⊢
          rw [if_pos (by omega)]; exact ⟨rfl, rfl⟩
        · simp only at h ⊢
          rw [if_neg (by omega)]; exact ⟨rfl, rfl⟩)
  exact h
theorem c29 {a b : List Bytes} (ha : a.length ≤ 1000000000) : Pus prog 29 [.sl .ext (a.map rowS), .sl .ext (b.map rowS)] (.b (decide (a = b))) := by
  obtain ⟨x, rfl, h⟩ := p29 H.f29 (a0 := a) (b1 := b) (K := fun x => x = decide (a = b)) (by
    unfold T29_0
    refine ⟨fun h => (decide_eq_false fun e => h (by rw [e])).symm, fun hl P hP => ?_⟩
    have hlen : a.length = b.length := by omega
    have key : ∀ m i : Nat, i + m = a.length → (∀ j, j < i → a[j]? = b[j]?) → P (i : Int) := by
      intro m
      induction m with
      | zero =>
        intro i hi hj
        apply hP
        unfold T29_1 T29_2
        refine ⟨fun h => absurd h (by omega), fun _ => (decide_eq_true ?_).symm⟩
        apply List.ext_getElem?
        intro j
        rcases Nat.lt_or_ge j i with h | h
        · exact hj j h
        · rw [List.getElem?_eq_none (by omega), List.getElem?_eq_none (by omega)]
      | succ m ih =>
        intro i hi hj
        have h1 : i < a.length := by omega
        have h2 : i < b.length := by omega
        apply hP
        unfold T29_1
        refine ⟨fun _ => ⟨by omega, a[i], by rw [toNat_cast, List.getElem?_eq_getElem h1], by omega, b[i], by rw [toNat_cast, List.getElem?_eq_getElem h2], fun h => ?_, fun h => ?_⟩, fun h => absurd h (by omega)⟩
        · refine (decide_eq_false fun e => h ?_).symm
          subst e
          rfl
        · rw [wr_succ (by omega)]
          refine ih (i + 1) (by omega) fun j hj' => ?_
          rcases Nat.lt_or_ge j i with h3 | h3
          · exact hj j h3
          · have : j = i := by omega
            subst this
            rw [List.getElem?_eq_getElem h1, List.getElem?_eq_getElem h2, Classical.not_not.1 h]
    exact key a.length 0 (by omega) (by simp))
  exact h
end
end Go.AM
