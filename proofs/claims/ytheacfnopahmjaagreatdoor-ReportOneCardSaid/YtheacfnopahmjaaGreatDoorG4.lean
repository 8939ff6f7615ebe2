/- Parts of the proof: U38e, U38f, U38g, U38h, U39a, U39b, U39c, U39d, U40a, U40b. -/
import Derived.Test.YtheacfnopahmjaaGreatDoorG2
set_option linter.all false
namespace Go.AM
open Go
set_option linter.unusedVariables false
set_option linter.unusedSimpArgs false
set_option maxRecDepth 4000
set_option maxHeartbeats 2000000
attribute [local irreducible] Decidable.decide W WO fillCells fillRows
def r140_0:List AI:=[oI 4 0,oC 5 (.b false)]
def r140_1:List AI:=[oM 9 0,oO 10 (.call true 131 [(.t 9)]),oM 8 10,oE 11 0 8,oE 12 1 8,oM 6 11,oM 7 12]
def r140_2:List AI:=[oM 13 6,oM 14 7,oM 15 14,gT 15 (oM 16 6),gT 15 (oV 17 .geq 16 0),oA 18 15 17,oM 19 18,gT 19 (oM 20 6),gT 19 (oM 21 1),gT 19 (oT 22 .lss 20 21),oA 23 19 22,oM 4 13,oM 5 23]
abbrev b140:AC:=(sR 0 r140_0 (sR 1 r140_1 (sR 2 r140_2 .ret)))
def pf140:AF:={ nt:=24,res:=[.tmp 4,.tmp 5],body:=b140 }
abbrev H140 (d:Nat)(st0:St)(kp:Key)(vp:Nat)(Q:AE→Sl→St→Prop)(K:Int→Bool→Sc→Prop):Prop:=∀(σ:Sl)(st:St)(res0:Int)(res1:Bool)(b_:Sc),σ 4=.i .i64 res0→σ 5=.b res1→lk st.bx kp=some (vp,[.s b_.left])→Fr d kp st0.bx st0.ow st.bx st.ow→K res0 res1 b_→Q .ret σ st
def T140_0 (prog:Prog)(K:Int→Bool→Sc→Prop)(n1:Int)(mP:Sc):Prop:=
  ∃c j,∃e:Sc,PuX prog 131 (Bx [.s mP.left]) [] (fun r=>r=.tup [.i .i64 c,.b j]) ((Bx [.s e.left]))∧(j=true→(c≥0→K c (decide (c<n1)) e)∧(¬(c≥0)→K c false e))∧(j=false→K c false e)
section
variable {prog:Prog}{d:Nat}{Q:AE→Sl→St→Prop}{K:Int→Bool→Sc→Prop}{st0:St}{kp:Key}{vp:Nat}(hQ:H140 d st0 kp vp Q K)(hkp:kp.1<d){σ:Sl}{st:St}
include hQ hkp
variable {n1:Int}{mP:Sc}
variable (H0:σ 0=.p kp vp 0)(H1:σ 1=.i .i64 n1)(BP:lk st.bx kp=some (vp,[.s mP.left]))(FR:Fr d kp st0.bx st0.ow st.bx st.ow)
include H0 H1 BP FR in
theorem w140_0 (h:T140_0 prog K n1 mP):W prog d (sR 0 r140_0 (sR 1 r140_1 (sR 2 r140_2 .ret))) σ st Q:=
 q_ J (m_ (m_ (e_ (q_ J (m_ (x2 h fun _ _ o=>o.elim fun _ c=>cX_ (sec H0 sen) c.1 (Nat.lt_succ_of_lt hkp) BP (fun _ j k=>m_ (x_ J J (x_ J J (m_ (m_ (e_ (q_ J (s_mvI J (z_ 2 J (eb_ (g:=15) J (fun e=>gy_ J (s_mvI J (gy_ J (b_ J J geq_ (z_ 2 J (em_ (g:=19) J (fun i=>gy_ J (s_mvI J (gy_ J (s_mvI H1 (gy_ J (b_ J J lss_ (pt_ J J (s_mvI J (s_mvB J (er_ (hQ _ _ _ _ _ J J j (Fr.pass FR k) ((c.2.1 e).1 i)))))))))))) (fun i=>z_ 4 J (s_mvI J (s_mvB J (er_ (hQ _ _ _ _ _ J J j (Fr.pass FR k) ((c.2.1 e).2 i)))))))))))) (fun e=>z_ 8 J (s_mvI J (s_mvB J (er_ (hQ _ _ _ _ _ J J j (Fr.pass FR k) (c.2.2 e))))))))))))))))))))))
end
theorem p140 {prog:Prog}(hf:prog.fn 140=some pf140){n1:Int}{mP:Sc}{K:Int→Bool→Sc→Prop}(h:T140_0 prog K n1 mP):PuXK prog 140 (Bx [.s mP.left]) [.i .i64 n1] (fun r (b_:Sc)=>∃res0:Int,∃res1:Bool,(r=.tup [.i .i64 res0,.b res1])∧K res0 res1 b_) (fun b_=>(Bx [.s b_.left])):=
  PuXK.of hf rfl (fun _=>Bx.out) fun d st kp vp hkp hB=>w140_0 (st0:=st) (Q:=fun e σ st'=>(e=.normal∨e=.ret)∧∃r b_,ares σ st' pf140.res=some r∧_∧_∧Fr d kp st.bx st.ow st'.bx st'.ow) (fun σ st'   res0 res1 b_ H4 H5 hb hf hk=>⟨.inr rfl,.tup [.i .i64 res0,.b res1],b_,by simp only [pf140,ares,aresL,H4,H5,ares1,Option.map_some,H4,H5],⟨res0,res1,rfl,hk⟩,hb,hf⟩) hkp (σ:=sl0 [.p kp vp 0,.i .i64 n1]) rfl rfl hB Fr.refl h
def r117_0:List AI:=[oY 2 3 0,oI 4 0,oO 5 (.alloc [z6,z6,z7,zl]),oC 6 (.b false)]
def r117_1:List AI:=[oM 13 1,oO 14 (.build [zs] [(0,1,(.t 13))]),oY 15 1 14,oM 7 15]
def r117_2:List AI:=[oO 8 (.alloc [z6,z6,z7,zl])]
def r117_3:List AI:=[oM 16 7,oO 17 (.call true 128 [(.t 16),(.c (.s [35]))]),oZ 18 17]
def r117_4:List AI:=[oK 19 4 8,oI 4 0,oS 4 5 19,oC 6 (.b false)]
def r117_5:List AI:=[oM 21 7,oO 22 (.call true 140 [(.t 21),(.c (.i .i64 170))]),oM 20 22,oE 23 0 20,oE 24 1 20,oM 9 23,oM 10 24]
def r117_6:List AI:=[oM 25 10,oZ 26 25,oM 27 26,gF 27 (oM 28 7),gF 27 (oO 29 (.call true 128 [(.t 28),(.c (.s [32]))])),gF 27 (oZ 30 29),oR 31 27 30]
def r117_7:List AI:=[oK 32 4 8,oI 4 0,oS 4 5 32,oC 6 (.b false)]
def r117_8:List AI:=[oM 34 7,oF 35 2 2,oL 36 35,oJ 37 36,oO 38 (.call true 140 [(.t 34),(.t 37)]),oM 33 38,oE 39 0 33,oE 40 1 33,oF 41 0 8,oS 1 41 39,oM 10 40]
def r117_9:List AI:=[oM 42 10,oZ 43 42,oM 44 43,gF 44 (oM 45 7),gF 44 (oF 46 2 2),gF 44 (oL 47 46),gF 44 (oF 48 0 8),gF 44 (oL 49 48),gF 44 (oX 50 7 47 49),gF 44 (oF 51 0 50),gF 44 (oL 52 51),gF 44 (oQ 53 112 [52]),gF 44 (oB 54 .add (.c (.s [32])) (.t 53)),gF 44 (oB 55 .add (.t 54) (.c (.s [32,97,116,32]))),gF 44 (oO 56 (.call true 128 [(.t 45),(.t 55)])),gF 44 (oZ 57 56),oR 58 44 57]
def r117_10:List AI:=[oK 59 4 8,oI 4 0,oS 4 5 59,oC 6 (.b false)]
def r117_11:List AI:=[oM 61 7,oF 62 2 2,oL 63 62,oF 64 0 8,oL 65 64,oX 66 7 63 65,oF 67 4 66,oL 68 67,oJ 69 68,oO 70 (.call true 140 [(.t 61),(.t 69)]),oM 60 70,oE 71 0 60,oE 72 1 60,oF 73 1 8,oS 1 73 71,oM 10 72]
def r117_12:List AI:=[oM 74 10,oZ 75 74,oM 76 75,gF 76 (oM 77 7),gF 76 (oO 78 (.call true 128 [(.t 77),(.c (.s [32]))])),gF 76 (oZ 79 78),oR 80 76 79]
def r117_13:List AI:=[oK 81 4 8,oI 4 0,oS 4 5 81,oC 6 (.b false)]
def r117_14:List AI:=[oQ 82 113 [],oO 11 (.alloc [zs,zs,zs,zs]),oS 4 11 82]
def r117_15:List AI:=[oO 83 (.slA 4 1 (.t 11) none none),oM 84 7,oN 85 84,oF 86 0 85,oL 87 86,oQ 88 141 [83,87],oM 12 88]
def r117_16:List AI:=[oM 89 12,oO 90 (.max (.c (.i .i64 0)) (.t 89)),oO 91 (.cvi .u64 (.t 90)),oF 92 2 8,oS 1 92 91]
def r117_17:List AI:=[oM 93 9,oK 94 4 8,oM 95 12,oV 96 .geq 95 0,oM 4 93,oS 4 5 94,oM 6 96]
abbrev c117_0:AC:=(.cond (.t 31) (sR 7 r117_7 .ret) .skip)
abbrev c117_1:AC:=(.cond (.t 58) (sR 10 r117_10 .ret) .skip)
abbrev c117_2:AC:=(.cond (.t 80) (sR 13 r117_13 .ret) .skip)
abbrev c117_3:AC:=(sR 14 r117_14 (sR 15 r117_15 (sR 16 r117_16 (sR 17 r117_17 .ret))))
abbrev c117_4:AC:=(sR 11 r117_11 (.seq (sR 12 r117_12 c117_2) c117_3))
abbrev c117_5:AC:=(.seq (sR 9 r117_9 c117_1) c117_4)
abbrev c117_6:AC:=(sR 8 r117_8 c117_5)
abbrev c117_7:AC:=(.seq (sR 6 r117_6 c117_0) c117_6)
abbrev c117_8:AC:=(sR 5 r117_5 c117_7)
abbrev c117_9:AC:=(.seq (sR 3 r117_3 (.cond (.t 18) (sR 4 r117_4 .ret) .skip)) c117_8)
abbrev c117_10:AC:=(sR 2 r117_2 c117_9)
abbrev c117_11:AC:=(sR 1 r117_1 c117_10)
abbrev b117:AC:=(sR 0 r117_0 c117_11)
def pf117:AF:={ nt:=97,res:=[.tmp 4,.cell 5 4 true,.tmp 6],body:=b117 }
abbrev H117 (d:Nat)(st0:St)(Q:AE→Sl→St→Prop)(K:Int→Frm→Bool→Prop):Prop:=∀(σ:Sl)(st:St)(k1:Key)(v1:Nat)(res0:Int)(res1:Frm)(res2:Bool),σ 4=.i .i64 res0→σ 5=.p k1 v1 0→lk st.bx k1=some (v1,[.i .i64 res1.func,.i .i64 res1.pos,.i .u64 res1.mode,.sl .full (List.map Loc.row res1.locals)])→σ 6=.b res2→Fr d (d,0) st0.bx st0.ow st.bx st.ow→K res0 res1 res2→Q .ret σ st
def T117_12 (prog:Prog)(K:Int→Frm→Bool→Prop)(k9:Int)(m2:Frm)(m4098:Sc)(m8192:Frm):Prop:=
  ∃c:LB,Pus prog 113 [] (.ag (List.map AV.s c))∧c.length=4∧c.length=4∧∃e,Pus prog 141 [.sl .ext (List.map rowS c),.s m4098.left] (.i .i64 e)∧K k9 (Frm.mk m8192.func m8192.pos (IntKind.u64.wrap (if 0<e then e else 0)) m8192.locals) (decide (e≥0))
def T117_11 (prog:Prog)(K:Int→Frm→Bool→Prop)(k9:Int)(t80:Bool)(m2:Frm)(m4098:Sc)(m8192:Frm):Prop:=
  (t80=true→K 0 m8192 false)∧(t80=false→T117_12 prog K k9 m2 m4098 m8192)
def T117_10 (prog:Prog)(K:Int→Frm→Bool→Prop)(k9:Int)(m0:Img)(m2:Frm)(m4098:Sc)(m8192:Frm):Prop:=
  0≤m8192.func∧∃k:Fun,m0.funcs[(m8192.func).toNat]?=some k∧∃j c,∃e:Sc,PuX prog 140 (Bx [.s m4098.left]) [.i .i64 (k.code.length:Int)] (fun r=>r=.tup [.i .i64 j,.b c]) ((Bx [.s e.left]))∧((!c)=true→T117_11 prog K k9 true m2 e (Frm.mk m8192.func j m8192.mode m8192.locals))∧((!c)=false→∃p,∃o:Sc,PuX prog 128 (Bx [.s e.left]) [.s ([32]:BS)] (fun r=>r=.b p) ((Bx [.s o.left]))∧T117_11 prog K k9 (!p) m2 o (Frm.mk m8192.func j m8192.mode m8192.locals))
def T117_9 (prog:Prog)(K:Int→Frm→Bool→Prop)(k9:Int)(t58:Bool)(m0:Img)(m2:Frm)(m4098:Sc)(m8192:Frm):Prop:=
  (t58=true→K 0 m8192 false)∧(t58=false→T117_10 prog K k9 m0 m2 m4098 m8192)
def T117_8 (prog:Prog)(K:Int→Frm→Bool→Prop)(k9:Int)(ok10:Bool)(m0:Img)(m2:Frm)(m4098:Sc)(m8192:Frm):Prop:=
  ((!ok10)=true→T117_9 prog K k9 true m0 m2 m4098 m8192)∧((!ok10)=false→0≤m8192.func∧∃i:Fun,m0.funcs[(m8192.func).toNat]?=some i∧∃c:BS,Pus prog 112 [.s i.name] (.s c)∧([32]:BS).length+c.length≤maxStr∧(([32]:BS)++c).length+([32,97,116,32]:BS).length≤maxStr∧∃e,∃j:Sc,PuX prog 128 (Bx [.s m4098.left]) [.s ((([32]:BS)++c)++([32,97,116,32]:BS))] (fun r=>r=.b e) ((Bx [.s j.left]))∧T117_9 prog K k9 (!e) m0 m2 j m8192)
def T117_7 (prog:Prog)(K:Int→Frm→Bool→Prop)(k9:Int)(m0:Img)(m2:Frm)(m4098:Sc)(m8192:Frm):Prop:=
  ∃e c,∃j:Sc,PuX prog 140 (Bx [.s m4098.left]) [.i .i64 (m0.funcs.length:Int)] (fun r=>r=.tup [.i .i64 e,.b c]) ((Bx [.s j.left]))∧T117_8 prog K k9 c m0 m2 j (Frm.mk e m8192.pos m8192.mode m8192.locals)
def T117_6 (prog:Prog)(K:Int→Frm→Bool→Prop)(k9:Int)(t31:Bool)(m0:Img)(m2:Frm)(m4098:Sc)(m8192:Frm):Prop:=
  (t31=true→K 0 m8192 false)∧(t31=false→T117_7 prog K k9 m0 m2 m4098 m8192)
def T117_5 (prog:Prog)(K:Int→Frm→Bool→Prop)(k9:Int)(ok10:Bool)(m0:Img)(m2:Frm)(m4098:Sc)(m8192:Frm):Prop:=
  ((!ok10)=true→T117_6 prog K k9 true m0 m2 m4098 m8192)∧((!ok10)=false→∃c,∃e:Sc,PuX prog 128 (Bx [.s m4098.left]) [.s ([32]:BS)] (fun r=>r=.b c) ((Bx [.s e.left]))∧T117_6 prog K k9 (!c) m0 m2 e m8192)
def T117_4 (prog:Prog)(K:Int→Frm→Bool→Prop)(m0:Img)(m2:Frm)(m4098:Sc)(m8192:Frm):Prop:=
  ∃e c,∃j:Sc,PuX prog 140 (Bx [.s m4098.left]) [.i .i64 170] (fun r=>r=.tup [.i .i64 e,.b c]) ((Bx [.s j.left]))∧T117_5 prog K e c m0 m2 j m8192
def T117_3 (prog:Prog)(K:Int→Frm→Bool→Prop)(m0:Img)(m2:Frm)(m4098:Sc)(m8192:Frm):Prop:=
  ∃c,∃e:Sc,PuX prog 128 (Bx [.s m4098.left]) [.s ([35]:BS)] (fun r=>r=.b c) ((Bx [.s e.left]))∧((!c)=true→K 0 m8192 false)∧((!c)=false→T117_4 prog K m0 m2 e m8192)
def T117_2 (prog:Prog)(K:Int→Frm→Bool→Prop)(m0:Img)(m2:Frm)(m4098:Sc):Prop:=
  T117_3 prog K m0 m2 m4098 (Frm.mk 0 0 0 ([]:List Loc))
def T117_1 (prog:Prog)(K:Int→Frm→Bool→Prop)(line1:BS)(m0:Img)(m2:Frm):Prop:=
  T117_2 prog K m0 m2 (Sc.mk line1)
def T117_0 (prog:Prog)(K:Int→Frm→Bool→Prop)(m0:Img)(line1:BS):Prop:=
  T117_1 prog K line1 m0 (Frm.mk 0 0 0 ([]:List Loc))
section
variable {prog:Prog}{d:Nat}{Q:AE→Sl→St→Prop}{K:Int→Frm→Bool→Prop}{st0:St}(hQ:H117 d st0 Q K){σ:Sl}{st:St}
include hQ
variable {k9:Int}{m2:Frm}{m4098:Sc}{m8192:Frm}{v2 v4098 v8192:Nat}{t80:Bool}{m0:Img}{v0:Nat}{t58 ok10 t31:Bool}{line1:BS}
variable (H0:σ 0=m0.av)(H1:σ 1=.s line1)(H2:σ 2=.p (d,0) v0 0)(H5:σ 5=.p (d,2) v2 0)(H7:σ 7=.p (d,4098) v4098 0)(H8:σ 8=.p (d,8192) v8192 0)(H9:σ 9=.i .i64 k9)(H80:σ 80=.b t80)(H58:σ 58=.b t58)(H10:σ 10=.b ok10)(H31:σ 31=.b t31)(B0:lk st.bx (d,0)=some (v0,Img.cs m0))(B2:lk st.bx (d,2)=some (v2,[.i .i64 m2.func,.i .i64 m2.pos,.i .u64 m2.mode,.sl .full (List.map Loc.row m2.locals)]))(B4098:lk st.bx (d,4098)=some (v4098,[.s m4098.left]))(B8192:lk st.bx (d,8192)=some (v8192,[.i .i64 m8192.func,.i .i64 m8192.pos,.i .u64 m8192.mode,.sl .full (List.map Loc.row m8192.locals)]))(FR:Fr d (d,0) st0.bx st0.ow st.bx st.ow)
include H5 H7 H8 H9 B2 B4098 B8192 FR in
theorem w117_12 (h:T117_12 prog K k9 m2 m4098 m8192):W prog d c117_3 σ st Q:=
 sq_ (W.reg (h.elim fun _ c=>ca_ sn c.1 (s_alloc (s_storeArr (f:=AV.s) (fun _=>J) J (show lk _ (d,57345)=some (_,(List.map AV.s (List.replicate 4 ([]:BS)):List AV)) from lk_here) (by simp) J c.2.1 (e_ (q_ J (s_slA_S J lk_here c.2.2.1 J (m_ (s_nilP H7 (f_ J (l_ J (lk_del_other J (lk_other J (lk_other J B4098))) J J (c.2.2.2.elim fun _ e=>ca_ (sc2 J J J) e.1 (m_ (e_ (q_ J (m_ (s_max J J (s_cvi J (f_ H8 (so_ J (lk_del_other J (lk_other J (lk_other J B8192))) J J J (e_ (q_ J (m_ (l_ H8 lk_here J J (m_ (b_ J J geq_ (m_ (so_ H5 (lk_other J (lk_del_other J (lk_other J (lk_other J B2)))) J J J (m_ (er_ (hQ _ _ _ _ _ _ _ H9 H5 lk_here J (Fr.box (Fr.box (Fr.del (Fr.box (Fr.box FR))))) e.2)))))))))))))))))))))))))))))))
include H5 H7 H8 H9 H80 B2 B4098 B8192 FR in
theorem w117_11 (h:T117_11 prog K k9 t80 m2 m4098 m8192):W prog d c117_2 σ st (thenW prog d c117_3 Q):=
 cb_ H80 (fun c=>q_ J (l_ H8 B8192 J J (m_ (so_ H5 B2 J J J (m_ (er_ (hQ _ _ _ _ _ _ _ J H5 lk_here J (Fr.box FR) (h.1 c)))))))) (fun c=>sk_ (w117_12 hQ H5 H7 H8 H9 B2 B4098 B8192 FR (h.2 c)))
include H2 H5 H7 H8 H9 B0 B2 B4098 B8192 FR in
theorem w117_10 (h:T117_10 prog K k9 m0 m2 m4098 m8192):W prog d c117_4 σ st Q:=
 q_ J (m_ (f_ H2 (l_ J B0 J J (f_ H8 (l_ J B8192 J J (h.2.elim fun r o=>ia_ J J h.1 o.1 (Fun.row_eq r) J (ff_ J (lf_ J J J (ll_ J (x2 o.2 fun q _ u=>u.elim fun _ e=>cX_ (sec H7 (sec J sen)) e.1 (Nat.lt_succ_self d) B4098 (fun _ p c=>m_ (x_ J J (x_ J J (f_ H8 (so_ J ((c.1 (d,8192) (Nat.lt_succ_self d) (key_LL J)).trans B8192) J J J (m_ (e_ (sq_ (q_ J (s_mvB J (nt_ J (s_mvB J (eb_ (g:=76) J (fun i=>z_ 4 J (e_ (w117_11 (m8192:=(Frm.mk m8192.func q m8192.mode m8192.locals)) hQ H5 H7 H8 H9 J (lk_other J ((c.1 (d,2) (Nat.lt_succ_self d) (key_LL J)).trans B2)) (lk_other J p) lk_here (Fr.box (Fr.call FR c)) (e.2.1 i)))) (fun i=>gy_ J (s_mv H7 (gy_ J ((e.2.2 i).elim fun _ s=>s.elim fun _ k=>cX_ (sec J (sec J sen)) k.1 (Nat.lt_succ_self d) (lk_other J p) (fun _ v j=>gy_ J (nt_ J (pf_ J J (e_ (w117_11 (m8192:=(Frm.mk m8192.func q m8192.mode m8192.locals)) hQ H5 H7 H8 H9 J ((j.1 (d,2) (Nat.lt_succ_self d) (key_LL J)).trans (lk_other J ((c.1 (d,2) (Nat.lt_succ_self d) (key_LL J)).trans B2))) v ((j.1 (d,8192) (Nat.lt_succ_self d) (key_LL J)).trans lk_here) (Fr.call (Fr.box (Fr.call FR c)) j) k.2))))))))))))))))))))))))))))))))
include H2 H5 H7 H8 H9 H58 B0 B2 B4098 B8192 FR in
theorem w117_9 (h:T117_9 prog K k9 t58 m0 m2 m4098 m8192):W prog d c117_1 σ st (thenW prog d c117_4 Q):=
 cb_ H58 (fun c=>q_ J (l_ H8 B8192 J J (m_ (so_ H5 B2 J J J (m_ (er_ (hQ _ _ _ _ _ _ _ J H5 lk_here J (Fr.box FR) (h.1 c)))))))) (fun c=>sk_ (w117_10 hQ H2 H5 H7 H8 H9 B0 B2 B4098 B8192 FR (h.2 c)))
include H2 H5 H7 H8 H9 H10 B0 B2 B4098 B8192 FR in
theorem w117_8 (h:T117_8 prog K k9 ok10 m0 m2 m4098 m8192):W prog d c117_5 σ st Q:=
 sq_ (q_ J (s_mvB H10 (nt_ J (s_mvB J (eb_ (g:=44) J (fun e=>z_ 14 J (e_ (w117_9 hQ H2 H5 H7 H8 H9 J B0 B2 B4098 B8192 FR (h.1 e)))) (fun e=>gy_ J (s_mv H7 (gy_ J (f_ H2 (gy_ J (l_ J B0 J J (gy_ J (f_ H8 (gy_ J (l_ J B8192 J J (gy_ J ((h.2 e).2.elim fun o j=>ia_ J J (h.2 e).1 j.1 (Fun.row_eq o) J (gy_ J (ff_ J (gy_ J (lf_ J J J (gy_ J (j.2.elim fun _ c=>ca_ (sc1 J J) c.1 (gy_ J (b_ J J (abin_cat' c.2.1) (gy_ J (b_ J J (abin_cat' c.2.2.1) (gy_ J (c.2.2.2.elim fun _ p=>p.elim fun _ k=>cX_ (sec J (sec J sen)) k.1 (Nat.lt_succ_self d) B4098 (fun _ q i=>gy_ J (nt_ J (pf_ J J (e_ (w117_9 hQ H2 H5 H7 H8 H9 J ((i.1 (d,0) (Nat.lt_succ_self d) (key_LL J)).trans B0) ((i.1 (d,2) (Nat.lt_succ_self d) (key_LL J)).trans B2) q ((i.1 (d,8192) (Nat.lt_succ_self d) (key_LL J)).trans B8192) (Fr.call FR i) k.2))))))))))))))))))))))))))))))))))
include H2 H5 H7 H8 H9 B0 B2 B4098 B8192 FR in
theorem w117_7 (h:T117_7 prog K k9 m0 m2 m4098 m8192):W prog d c117_6 σ st Q:=
 q_ J (m_ (f_ H2 (l_ J B0 J J (ll_ J (x2 h fun k _ i=>i.elim fun _ e=>cX_ (sec H7 (sec J sen)) e.1 (Nat.lt_succ_self d) B4098 (fun _ j c=>m_ (x_ J J (x_ J J (f_ H8 (so_ J ((c.1 (d,8192) (Nat.lt_succ_self d) (key_LL J)).trans B8192) J J J (m_ (e_ (w117_8 (m8192:=(Frm.mk k m8192.pos m8192.mode m8192.locals)) hQ H2 H5 H7 H8 H9 J (lk_other J ((c.1 (d,0) (Nat.lt_succ_self d) (key_LL J)).trans B0)) (lk_other J ((c.1 (d,2) (Nat.lt_succ_self d) (key_LL J)).trans B2)) (lk_other J j) lk_here (Fr.box (Fr.call FR c)) e.2)))))))))))))
include H2 H5 H7 H8 H9 H31 B0 B2 B4098 B8192 FR in
theorem w117_6 (h:T117_6 prog K k9 t31 m0 m2 m4098 m8192):W prog d c117_0 σ st (thenW prog d c117_6 Q):=
 cb_ H31 (fun c=>q_ J (l_ H8 B8192 J J (m_ (so_ H5 B2 J J J (m_ (er_ (hQ _ _ _ _ _ _ _ J H5 lk_here J (Fr.box FR) (h.1 c)))))))) (fun c=>sk_ (w117_7 hQ H2 H5 H7 H8 H9 B0 B2 B4098 B8192 FR (h.2 c)))
include H2 H5 H7 H8 H9 H10 B0 B2 B4098 B8192 FR in
theorem w117_5 (h:T117_5 prog K k9 ok10 m0 m2 m4098 m8192):W prog d c117_7 σ st Q:=
 sq_ (q_ J (s_mvB H10 (nt_ J (s_mvB J (eb_ (g:=27) J (fun e=>z_ 4 J (e_ (w117_6 hQ H2 H5 H7 H8 H9 J B0 B2 B4098 B8192 FR (h.1 e)))) (fun e=>gy_ J (s_mv H7 (gy_ J ((h.2 e).elim fun _ j=>j.elim fun _ i=>cX_ (sec J (sec J sen)) i.1 (Nat.lt_succ_self d) B4098 (fun _ k c=>gy_ J (nt_ J (pf_ J J (e_ (w117_6 hQ H2 H5 H7 H8 H9 J ((c.1 (d,0) (Nat.lt_succ_self d) (key_LL J)).trans B0) ((c.1 (d,2) (Nat.lt_succ_self d) (key_LL J)).trans B2) k ((c.1 (d,8192) (Nat.lt_succ_self d) (key_LL J)).trans B8192) (Fr.call FR c) i.2))))))))))))))
include H2 H5 H7 H8 B0 B2 B4098 B8192 FR in
theorem w117_4 (h:T117_4 prog K m0 m2 m4098 m8192):W prog d c117_8 σ st Q:=
 q_ J (m_ (x2 h fun _ _ i=>i.elim fun _ e=>cX_ (sec H7 (sec J sen)) e.1 (Nat.lt_succ_self d) B4098 (fun _ j c=>m_ (x_ J J (x_ J J (m_ (m_ (e_ (w117_5 hQ H2 H5 H7 H8 J J ((c.1 (d,0) (Nat.lt_succ_self d) (key_LL J)).trans B0) ((c.1 (d,2) (Nat.lt_succ_self d) (key_LL J)).trans B2) j ((c.1 (d,8192) (Nat.lt_succ_self d) (key_LL J)).trans B8192) (Fr.call FR c) e.2)))))))))
include H2 H5 H7 H8 B0 B2 B4098 B8192 FR in
theorem w117_3 (h:T117_3 prog K m0 m2 m4098 m8192):W prog d c117_9 σ st Q:=
 sq_ (q_ J (m_ (h.elim fun _ j=>j.elim fun _ e=>cX_ (sec H7 (sec J sen)) e.1 (Nat.lt_succ_self d) B4098 (fun _ k c=>nt_ J (e_ (cb_ J (fun i=>q_ J (l_ H8 ((c.1 (d,8192) (Nat.lt_succ_self d) (key_LL J)).trans B8192) J J (m_ (so_ H5 ((c.1 (d,2) (Nat.lt_succ_self d) (key_LL J)).trans B2) J J J (m_ (er_ (hQ _ _ _ _ _ _ _ J H5 lk_here J (Fr.box (Fr.call FR c)) (e.2.1 i)))))))) (fun i=>sk_ (w117_4 hQ H2 H5 H7 H8 ((c.1 (d,0) (Nat.lt_succ_self d) (key_LL J)).trans B0) ((c.1 (d,2) (Nat.lt_succ_self d) (key_LL J)).trans B2) k ((c.1 (d,8192) (Nat.lt_succ_self d) (key_LL J)).trans B8192) (Fr.call FR c) (e.2.2 i)))))))))
include H2 H5 H7 B0 B2 B4098 FR in
theorem w117_2 (h:T117_2 prog K m0 m2 m4098):W prog d c117_10 σ st Q:=
 sq_ (W.reg (s_alloc (e_ (w117_3 (m8192:=(Frm.mk 0 0 0 ([]:List Loc))) hQ H2 H5 H7 J (lk_other J B0) (lk_other J B2) (lk_other J B4098) (show lk _ (d,8192)=some (_,([.i .i64 0,.i .i64 0,.i .u64 0,.sl .full (List.map Loc.row ([]:List Loc))]:List AV)) from lk_here) (Fr.box FR) h))))
include H1 H2 H5 B0 B2 FR in
theorem w117_1 (h:T117_1 prog K line1 m0 m2):W prog d c117_11 σ st Q:=
 q_ J (m_ (s_build (f_cons H1 J f_nil) (s_box J J (m_ (e_ (w117_2 (m4098:=(Sc.mk line1)) hQ H2 H5 J (lk_other J B0) (lk_other J B2) lk_here (Fr.box FR) h))))))
include H0 H1 FR in
theorem w117_0 (h:T117_0 prog K m0 line1):W prog d (sR 0 r117_0 c117_11) σ st Q:=
 sq_ (W.reg (s_box H0 J (m_ (s_alloc (m_ (e_ (w117_1 (m2:=(Frm.mk 0 0 0 ([]:List Loc))) hQ H1 J J lk_here (lk_other J (show lk _ (d,2)=some (_,([.i .i64 0,.i .i64 0,.i .u64 0,.sl .full (List.map Loc.row ([]:List Loc))]:List AV)) from lk_here)) (Fr.box (Fr.box FR)) h)))))))
end
theorem p117 {prog:Prog}(hf:prog.fn 117=some pf117){m0:Img}{line1:BS}{K:Int→Frm→Bool→Prop}(h:T117_0 prog K m0 line1):PuN prog 117 [m0.av,.s line1] (fun r=>∃res0:Int,∃res1:Frm,∃res2:Bool,(r=.tup [.i .i64 res0,res1.avo .full,.b res2])∧K res0 res1 res2):=
  PuN.of hf rfl fun d st=>w117_0 (st0:=st) (Q:=fun e σ st'=>(e=.normal∨e=.ret)∧∃r,ares σ st' pf117.res=some r∧_∧Fr d (d,0) st.bx st.ow st'.bx st'.ow) (fun σ st' k1 v1  res0 res1 res2 H4 H5 HB5 H6 hf hk=>⟨.inr rfl,.tup [.i .i64 res0,res1.avo .full,.b res2],by simp only [pf117,ares,aresL,H4,ares_cellA (n:=4) H5 HB5 rfl,H6,ares_tmp,Option.map_some,H4,ares_cellA (n:=4) H5 HB5 rfl,H6],⟨res0,res1,res2,rfl,hk⟩,hf⟩) (σ:=sl0 [m0.av,.s line1]) rfl rfl Fr.refl h
def r118_0:List AI:=[oY 2 7 0,oO 4 (.alloc [z6,z8,z6,zs,zl,zb]),oC 5 (.b false)]
def r118_1:List AI:=[oM 11 1,oO 12 (.build [zs] [(0,1,(.t 11))]),oY 13 1 12,oM 6 13]
def r118_2:List AI:=[oM 14 6,oO 15 (.call true 128 [(.t 14),(.c (.s [32,32]))]),oZ 16 15]
def r118_3:List AI:=[oO 17 (.build [z6,z8,z6,zs,zl,zb] []),oS 6 4 17,oC 5 (.b false)]
def r118_4:List AI:=[oM 19 6,oF 20 3 2,oL 21 20,oJ 22 21,oO 23 (.call true 140 [(.t 19),(.t 22)]),oM 18 23,oE 24 0 18,oE 25 1 18,oM 7 24,oM 8 25]
def r118_5:List AI:=[oM 26 8,oZ 27 26,oM 28 27,gF 28 (oM 29 6),gF 28 (oF 30 3 2),gF 28 (oL 31 30),gF 28 (oM 32 7),gF 28 (oX 33 2 31 32),gF 28 (oF 34 0 33),gF 28 (oL 35 34),gF 28 (oQ 36 112 [35]),gF 28 (oB 37 .add (.c (.s [32])) (.t 36)),gF 28 (oB 38 .add (.t 37) (.c (.s [32,61,32]))),gF 28 (oO 39 (.call true 128 [(.t 29),(.t 38)])),gF 28 (oZ 40 39),oR 41 28 40]
def r118_6:List AI:=[oO 42 (.build [z6,z8,z6,zs,zl,zb] []),oS 6 4 42,oC 5 (.b false)]
def r118_7:List AI:=[oM 44 6,oN 45 44,oF 46 0 45,oL 47 46,oQ 48 74 [47],oM 43 48,oE 49 0 43,oE 50 1 43,oO 9 (.alloc [z8,z6,zs,zl,zb]),oS 5 9 49,oM 10 50]
def r118_8:List AI:=[oM 51 7,oK 52 5 9,oO 53 (.build [z6,z8,z6,zs,zl,zb] [(0,1,(.t 51)),(1,5,(.t 52))]),oM 54 10,oV 55 .eql 54 0,oS 6 4 53,oM 5 55]
abbrev c118_0:AC:=(sR 7 r118_7 (sR 8 r118_8 .ret))
abbrev b118:AC:=(sR 0 r118_0 (sR 1 r118_1 (.seq (sR 2 r118_2 (.cond (.t 16) (sR 3 r118_3 .ret) .skip)) (sR 4 r118_4 (.seq (sR 5 r118_5 (.cond (.t 41) (sR 6 r118_6 .ret) .skip)) c118_0)))))
def pf118:AF:={ nt:=56,res:=[.cell 4 6 true,.tmp 5],body:=b118 }
abbrev H118 (Q:AE→Sl→St→Prop)(K:Loc→Bool→Prop):Prop:=∀(σ:Sl)(st:St)(k0:Key)(v0:Nat)(o0_0:Own)(res0:Loc)(res1:Bool),σ 4=.p k0 v0 0→lk st.bx k0=some (v0,[.i .i64 res0.slot,.i .u8 res0.value.kind,.i .i64 res0.value.int,.s res0.value.text,.sl o0_0 (List.map Val.row res0.value.list),.b res0.value.cut])→σ 5=.b res1→K res0 res1→Q .ret σ st
def T118_1 (prog:Prog)(K:Loc→Bool→Prop)(i7:Int)(m1:Loc)(m4098:Sc):Prop:=
  ∃e:Val,∃c,Pus prog 74 [.s m4098.left] (.tup [e.av,.i .i64 c])∧K (Loc.mk i7 e) (decide (c=0))
def T118_0 (prog:Prog)(K:Loc→Bool→Prop)(f0:Fun)(line1:BS):Prop:=
  ∃c,∃v:Sc,PuX prog 128 (Bx [.s line1]) [.s ([32,32]:BS)] (fun r=>r=.b c) ((Bx [.s v.left]))∧((!c)=true→K (Loc.mk 0 (Val.mk 0 0 [] ([]:List Val) false)) false)∧((!c)=false→∃j k,∃p:Sc,PuX prog 140 (Bx [.s v.left]) [.i .i64 (f0.slots.length:Int)] (fun r=>r=.tup [.i .i64 j,.b k]) ((Bx [.s p.left]))∧((!k)=true→K (Loc.mk 0 (Val.mk 0 0 [] ([]:List Val) false)) false)∧((!k)=false→0≤j∧∃q:Fld,f0.slots[(j).toNat]?=some q∧∃e:BS,Pus prog 112 [.s q.name] (.s e)∧([32]:BS).length+e.length≤maxStr∧(([32]:BS)++e).length+([32,61,32]:BS).length≤maxStr∧∃o,∃u:Sc,PuX prog 128 (Bx [.s p.left]) [.s ((([32]:BS)++e)++([32,61,32]:BS))] (fun r=>r=.b o) ((Bx [.s u.left]))∧((!o)=true→K (Loc.mk 0 (Val.mk 0 0 [] ([]:List Val) false)) false)∧((!o)=false→T118_1 prog K j (Loc.mk 0 (Val.mk 0 0 [] ([]:List Val) false)) u)))
section
variable {prog:Prog}{d:Nat}{Q:AE→Sl→St→Prop}{K:Loc→Bool→Prop}(hQ:H118 Q K){σ:Sl}{st:St}
include hQ
variable {i7:Int}{m1:Loc}{m4098:Sc}{o_m1_4:Own}{v1 v4098:Nat}{f0:Fun}{line1:BS}
variable (H4:σ 4=.p (d,1) v1 0)(H0:σ 0=f0.av)(H6:σ 6=.p (d,4098) v4098 0)(H1:σ 1=.s line1)(H7:σ 7=.i .i64 i7)(B1:lk st.bx (d,1)=some (v1,[.i .i64 m1.slot,.i .u8 m1.value.kind,.i .i64 m1.value.int,.s m1.value.text,.sl o_m1_4 (List.map Val.row m1.value.list),.b m1.value.cut]))(B4098:lk st.bx (d,4098)=some (v4098,[.s m4098.left]))
include H4 H6 H7 B1 B4098 in
theorem w118_1 (h:T118_1 prog K i7 m1 m4098):W prog d c118_0 σ st Q:=
 sq_ (W.reg (m_ (s_nilP H6 (f_ J (l_ J (lk_other J B4098) J J (x2 h fun _ _ c=>ca_ (sc1 J J) c.1 (m_ (x_ J J (x_ J J (s_alloc (so_ J (show lk _ (d,28680)=some (_,([.i .u8 0,.i .i64 0,.s [],.sl .full (List.map Val.row ([]:List Val)),.b false]:List AV)) from lk_here) J J J (m_ (e_ (q_ J (m_ (l_ J lk_here J J (s_build (f_cons H7 J (f_cons J J f_nil)) (m_ (b_ J J eql_ (so_ H4 (lk_other J (lk_other J B1)) J J J (m_ (er_ (hQ _ _ _ _ _ _ _ H4 lk_here J c.2)))))))))))))))))))))))
include H0 H1 in
theorem w118_0 (h:T118_0 prog K f0 line1):W prog d (sR 0 r118_0 (sR 1 r118_1 (.seq (sR 2 r118_2 (.cond (.t 16) (sR 3 r118_3 .ret) .skip)) (sR 4 r118_4 (.seq (sR 5 r118_5 (.cond (.t 41) (sR 6 r118_6 .ret) .skip)) c118_0))))) σ st Q:=
 sq_ (W.reg (s_box H0 J (s_alloc (m_ (e_ (q_ J (m_ (s_build (f_cons H1 J f_nil) (s_box J J (m_ (e_ (sq_ (q_ J (m_ (h.elim fun _ a0=>a0.elim fun _ q=>cX_ (sec J (sec J sen)) q.1 (Nat.lt_succ_self d) lk_here (fun _ a3 c=>nt_ J (e_ (cb_ J (fun u=>q_ J (s_build f_nil (so_ J ((c.1 (d,1) (Nat.lt_succ_self d) (key_LL J)).trans (lk_other J (lk_other J (show lk _ (d,1)=some (_,([.i .i64 0,.i .u8 0,.i .i64 0,.s [],.sl .full (List.map Val.row ([]:List Val)),.b false]:List AV)) from lk_here)))) J J J (m_ (er_ (hQ _ _ _ _ _ _ _ J lk_here J (q.2.1 u))))))) (fun u=>sk_ (q_ J (m_ (f_ J (l_ J ((c.1 (d,0) (Nat.lt_succ_self d) (key_LL J)).trans (lk_other J lk_here)) J J (ll_ J (x2 (q.2.2 u) fun _ _ z=>z.elim fun _ e=>cX_ (sec J (sec J sen)) e.1 (Nat.lt_succ_self d) a3 (fun _ a1 o=>m_ (x_ J J (x_ J J (m_ (m_ (e_ (sq_ (q_ J (s_mvB J (nt_ J (s_mvB J (eb_ (g:=28) J (fun k=>z_ 13 J (e_ (ct_ J (q_ J (s_build f_nil (so_ J ((o.1 (d,1) (Nat.lt_succ_self d) (key_LL J)).trans ((c.1 (d,1) (Nat.lt_succ_self d) (key_LL J)).trans (lk_other J (lk_other J (show lk _ (d,1)=some (_,([.i .i64 0,.i .u8 0,.i .i64 0,.s [],.sl .full (List.map Val.row ([]:List Val)),.b false]:List AV)) from lk_here))))) J J J (m_ (er_ (hQ _ _ _ _ _ _ _ J lk_here J (e.2.1 k)))))))))) (fun k=>gy_ J (s_mv J (gy_ J (f_ J (gy_ J (l_ J ((o.1 (d,0) (Nat.lt_succ_self d) (key_LL J)).trans ((c.1 (d,0) (Nat.lt_succ_self d) (key_LL J)).trans (lk_other J lk_here))) J J (gy_ J (s_mvI J (gy_ J ((e.2.2 k).2.elim fun x v=>ia_ J J (e.2.2 k).1 v.1 (Fld.row_eq x) J (gy_ J (ff_ J (gy_ J (lf_ J J J (gy_ J (v.2.elim fun _ j=>ca_ (sc1 J J) j.1 (gy_ J (b_ J J (abin_cat' j.2.1) (gy_ J (b_ J J (abin_cat' j.2.2.1) (gy_ J (j.2.2.2.elim fun _ y=>y.elim fun _ p=>cX_ (sec J (sec J sen)) p.1 (Nat.lt_succ_self d) a1 (fun _ a2 w=>gy_ J (nt_ J (pf_ J J (e_ (cb_ J (fun r=>q_ J (s_build f_nil (so_ J ((w.1 (d,1) (Nat.lt_succ_self d) (key_LL J)).trans ((o.1 (d,1) (Nat.lt_succ_self d) (key_LL J)).trans ((c.1 (d,1) (Nat.lt_succ_self d) (key_LL J)).trans (lk_other J (lk_other J (show lk _ (d,1)=some (_,([.i .i64 0,.i .u8 0,.i .i64 0,.s [],.sl .full (List.map Val.row ([]:List Val)),.b false]:List AV)) from lk_here)))))) J J J (m_ (er_ (hQ _ _ _ _ _ _ _ J lk_here J (p.2.1 r))))))) (fun r=>sk_ (w118_1 (m1:=(Loc.mk 0 (Val.mk 0 0 [] ([]:List Val) false))) hQ J J J ((w.1 (d,1) (Nat.lt_succ_self d) (key_LL J)).trans ((o.1 (d,1) (Nat.lt_succ_self d) (key_LL J)).trans ((c.1 (d,1) (Nat.lt_succ_self d) (key_LL J)).trans (lk_other J (lk_other J (show lk _ (d,1)=some (_,([.i .i64 0,.i .u8 0,.i .i64 0,.s [],.sl .full (List.map Val.row ([]:List Val)),.b false]:List AV)) from lk_here)))))) a2 (p.2.2 r)))))))))))))))))))))))))))))))))))))))))))))))))))))))))))))))))))
end
theorem p118 {prog:Prog}(hf:prog.fn 118=some pf118){f0:Fun}{line1:BS}{K:Loc→Bool→Prop}(h:T118_0 prog K f0 line1) :∃res0:Loc,∃res1:Bool,K res0 res1∧Pus prog 118 [f0.av,.s line1] (.tup [res0.av,.b res1]):=by
  obtain ⟨v,hv,res0,res1,hk,rfl⟩:=Pus.of (K:=fun v=>∃res0:Loc,∃res1:Bool,K res0 res1∧v=.tup [res0.av,.b res1]) hf rfl (w118_0 (σ:=sl0 [f0.av,.s line1]) (fun σ st k0 v0 o0_0 res0 res1 H4 HB4 H5 hk=>⟨.tup [res0.avo o0_0,.b res1],by simp only [pf118,ares,aresL,ares_cellA (n:=6) H4 HB4 rfl,H5,ares_tmp,Option.map_some],_,rfl,res0,res1,hk,rfl⟩) rfl rfl h)
  exact ⟨res0,res1,hk,hv⟩
def r84_0:List AI:=[oY 2 3 0,oI 4 0,oO 5 (.alloc [z6,z6,z7,zl]),oI 6 0]
def r84_1:List AI:=[oM 16 1,oJ 17 16,oV 18 .gtr 17 17,oM 19 18,gF 19 (oM 20 1),gF 19 (oO 21 (.call true 115 [(.t 20),(.c (.fn 116 []))])),oR 22 19 21]
def r84_2:List AI:=[oO 23 (.build [z6,z6,z7,zl] []),oI 4 0,oS 4 5 23,oI 6 4]
def r84_3:List AI:=[oM 24 1,oJ 25 24,oV 26 .eql 25 0]
def r84_4:List AI:=[oO 27 (.build [z6,z6,z7,zl] []),oI 4 0,oS 4 5 27,oI 6 12]
def r84_5:List AI:=[oK 29 3 2,oM 30 1,oO 31 (.iaL 1 (.t 30) (.c (.i .i64 0))),oL 32 31,oO 33 (.call true 117 [(.t 29),(.t 32)]),oM 28 33,oE 34 0 28,oE 35 1 28,oE 36 2 28,oO 8 (.alloc [z6,z6,z7,zl]),oM 7 34,oS 4 8 35,oM 9 36]
def r84_6:List AI:=[oM 37 9,oZ 38 37]
def r84_7:List AI:=[oO 39 (.build [z6,z6,z7,zl] []),oI 4 0,oS 4 5 39,oI 6 12]
def r84_8:List AI:=[oM 40 1,oO 41 (.slL 1 (.t 40) (some (.c (.i .i64 1))) none),oJ 42 41,oI 43 0]
def r84_9:List AI:=[oT 44 .lss 43 42]
def r84_10:List AI:=[oX 45 1 41 43,oL 46 45,oM 11 46]
def r84_11:List AI:=[oF 48 2 2,oL 49 48,oF 50 0 8,oL 51 50,oX 52 7 49 51,oK 53 7 52,oM 54 11,oQ 55 118 [53,54],oM 47 55,oE 56 0 47,oE 57 1 47,oO 12 (.alloc [z6,z8,z6,zs,zl,zb]),oS 6 12 56,oM 13 57]
def r84_12:List AI:=[oM 58 13,oZ 59 58]
def r84_13:List AI:=[oO 60 (.build [z6,z6,z7,zl] []),oI 4 0,oS 4 5 60,oI 6 12]
def r84_14:List AI:=[oF 61 3 8,oL 62 61,oK 63 6 12,oO 64 (.bslice [z6,z8,z6,zs,zl,zb] 1 [(0,(.t 63))]),oO 65 (.app 6 72 (.t 62) (.t 64)),oF 66 3 8,oS 1 66 65]
def r84_15:List AI:=[oV 67 .add 43 1,oM 43 67]
def r84_16:List AI:=[oK 69 3 2,oM 70 7,oK 71 4 8,oQ 72 82 [69,70,71],oM 68 72,oE 73 0 68,oE 74 1 68,oM 14 73,oM 15 74]
def r84_17:List AI:=[oM 75 15,oV 76 .neq 75 0,oM 77 76,gF 77 (oM 78 14),gF 77 (oM 79 1),gF 77 (oQ 80 119 [78,79]),gF 77 (oZ 81 80),oR 82 77 81]
def r84_18:List AI:=[oO 83 (.build [z6,z6,z7,zl] []),oI 4 0,oS 4 5 83,oI 6 12]
def r84_19:List AI:=[oM 84 7,oK 85 4 8,oM 4 84,oS 4 5 85,oI 6 0]
abbrev c84_0:AC:=(.cond (.t 22) (sR 2 r84_2 .ret) .skip)
abbrev l84_0:AC:=(sR 9 r84_9 (.seq (.cond (.t 44) .skip (.exit 0)) (.seq (.block 1 (sR 10 r84_10 (sR 11 r84_11 (.seq (sR 12 r84_12 (.cond (.t 59) (sR 13 r84_13 .ret) .skip)) (.reg 14 r84_14))))) (.reg 15 r84_15))))
abbrev c84_2:AC:=(.cond (.t 82) (sR 18 r84_18 .ret) .skip)
abbrev c84_3:AC:=(sR 19 r84_19 .ret)
abbrev c84_4:AC:=(.seq (sR 16 r84_16 (sR 17 r84_17 c84_2)) c84_3)
abbrev c84_5:AC:=(.seq (sR 8 r84_8 (.block 0 (.loop l84_0))) c84_4)
abbrev c84_6:AC:=(.seq (sR 6 r84_6 (.cond (.t 38) (sR 7 r84_7 .ret) .skip)) c84_5)
abbrev c84_7:AC:=(sR 5 r84_5 c84_6)
abbrev c84_8:AC:=(.seq (sR 3 r84_3 (.cond (.t 26) (sR 4 r84_4 .ret) .skip)) c84_7)
abbrev c84_9:AC:=(.seq (sR 1 r84_1 c84_0) c84_8)
abbrev b84:AC:=(sR 0 r84_0 c84_9)
def pf84:AF:={ nt:=86,res:=[.tmp 4,.cell 5 4 true,.tmp 6],body:=b84 }
abbrev H84 (Q:AE→Sl→St→Prop)(K:Int→Frm→Int→Prop):Prop:=∀(σ:Sl)(st:St)(k1:Key)(v1:Nat)(o1_0:Own)(res0:Int)(res1:Frm)(res2:Int),σ 4=.i .i64 res0→σ 5=.p k1 v1 0→lk st.bx k1=some (v1,[.i .i64 res1.func,.i .i64 res1.pos,.i .u64 res1.mode,.sl o1_0 (List.map Loc.row res1.locals)])→σ 6=.i .i64 res2→K res0 res1 res2→Q .ret σ st
abbrev I84_0 (prog:Prog)(d:Nat)(Q:AE→Sl→St→Prop)(l1:LB)(k7:Int)(t41:LB)(t42:Int)(t43:Int)(m0:Img)(m2:Frm)(m20489:Frm):Prop:=
  ∀(σ:Sl)(st:St) (o_l1 o_t41 o_m2_3 o_m20489_3:Own) (v0 v2 v20489:Nat),σ 1=.sl o_l1 (List.map rowS l1)→σ 2=.p (d,0) v0 0→σ 5=.p (d,2) v2 0→σ 7=.i .i64 k7→σ 8=.p (d,20489) v20489 0→σ 41=.sl o_t41 (List.map rowS t41)→σ 42=.i .i64 t42→σ 43=.i .i64 t43→ApM d st.ow o_m20489_3 m20489.locals.length→lk st.bx (d,0)=some (v0,Img.cs m0)→lk st.bx (d,2)=some (v2,[.i .i64 m2.func,.i .i64 m2.pos,.i .u64 m2.mode,.sl o_m2_3 (List.map Loc.row m2.locals)])→lk st.bx (d,20489)=some (v20489,[.i .i64 m20489.func,.i .i64 m20489.pos,.i .u64 m20489.mode,.sl o_m20489_3 (List.map Loc.row m20489.locals)])→W prog d (.loop l84_0) σ st (blockW 0 (thenW prog d c84_4 Q))
def T84_10 (prog:Prog)(K:Int→Frm→Int→Prop)(k7:Int)(m2:Frm)(m20489:Frm):Prop:=
  K k7 m20489 0
def T84_9 (prog:Prog)(K:Int→Frm→Int→Prop)(k7:Int)(t82:Bool)(m2:Frm)(m20489:Frm):Prop:=
  (t82=true→K 0 (Frm.mk 0 0 0 ([]:List Loc)) 12)∧(t82=false→T84_10 prog K k7 m2 m20489)
def T84_8 (prog:Prog)(K:Int→Frm→Int→Prop)(l1:LB)(k7:Int)(m0:Img)(m2:Frm)(m20489:Frm):Prop:=
  ∃j c,Pus prog 82 [m0.av,.i .i64 k7,m20489.av] (.tup [.sl .ext (List.map rowS j),.i .i64 c])∧(c≠0→T84_9 prog K k7 true m2 m20489)∧(¬(c≠0)→∃e,Pus prog 119 [.sl .ext (List.map rowS j),.sl .ext (List.map rowS l1)] (.b e)∧T84_9 prog K k7 (!e) m2 m20489)
def T84_7 (prog:Prog)(K:Int→Frm→Int→Prop)(P0:Int→Img→Frm→Frm→Prop)(l1:LB)(k7:Int)(t41:LB)(t42:Int)(t43:Int)(m0:Img)(m2:Frm)(m20489:Frm):Prop:=
  (t43<t42→0≤t43∧∃i,t41[(t43).toNat]?=some i∧0≤m20489.func∧∃j:Fun,m0.funcs[(m20489.func).toNat]?=some j∧∃c:Loc,∃e,Pus prog 118 [j.av,.s i] (.tup [c.av,.b e])∧((!e)=true→K 0 (Frm.mk 0 0 0 ([]:List Loc)) 12)∧((!e)=false→Fit (m20489.locals.length+[c].length) 72∧P0 (IntKind.i64.wrap (t43+1)) m0 m2 (Frm.mk m20489.func m20489.pos m20489.mode (m20489.locals++[c]))))∧(¬(t43<t42)→T84_8 prog K l1 k7 m0 m2 m20489)
def T84_6 (prog:Prog)(K:Int→Frm→Int→Prop)(l1:LB)(k7:Int)(m0:Img)(m2:Frm)(m20489:Frm):Prop:=
  1≤l1.length∧∀P0:Int→Img→Frm→Frm→Prop,(∀(t43:Int)(m0:Img)(m2:Frm)(m20489:Frm),T84_7 prog K P0 l1 k7 (l1.drop 1) ((l1.drop 1).length:Int) t43 m0 m2 m20489→P0 t43 m0 m2 m20489)→P0 0 m0 m2 m20489
def T84_5 (prog:Prog)(K:Int→Frm→Int→Prop)(l1:LB)(k7:Int)(ok9:Bool)(m0:Img)(m2:Frm)(m20489:Frm):Prop:=
  ((!ok9)=true→K 0 (Frm.mk 0 0 0 ([]:List Loc)) 12)∧((!ok9)=false→T84_6 prog K l1 k7 m0 m2 m20489)
def T84_4 (prog:Prog)(K:Int→Frm→Int→Prop)(l1:LB)(m0:Img)(m2:Frm):Prop:=
  ∃c,l1[0]?=some c∧∃k,∃j:Frm,∃e,(PuN prog 117 [m0.av,.s c] (fun r=>r=.tup [.i .i64 k,j.avo .full,.b e]))∧T84_5 prog K l1 k e m0 m2 j
def T84_3 (prog:Prog)(K:Int→Frm→Int→Prop)(l1:LB)(m0:Img)(m2:Frm):Prop:=
  ((l1.length:Int)=0→K 0 (Frm.mk 0 0 0 ([]:List Loc)) 12)∧(¬((l1.length:Int)=0)→T84_4 prog K l1 m0 m2)
def T84_2 (prog:Prog)(K:Int→Frm→Int→Prop)(l1:LB)(t22:Bool)(m0:Img)(m2:Frm):Prop:=
  (t22=true→K 0 (Frm.mk 0 0 0 ([]:List Loc)) 4)∧(t22=false→T84_3 prog K l1 m0 m2)
def T84_1 (prog:Prog)(K:Int→Frm→Int→Prop)(l1:LB)(m0:Img)(m2:Frm):Prop:=
  ((l1.length:Int)>17→T84_2 prog K l1 true m0 m2)∧(¬((l1.length:Int)>17)→∃c,(∀e:Own,PuN prog 115 [.sl e (List.map rowS l1),.fn 116 []] (fun r=>r=.b c))∧T84_2 prog K l1 c m0 m2)
def T84_0 (prog:Prog)(K:Int→Frm→Int→Prop)(m0:Img)(l1:LB):Prop:=
  T84_1 prog K l1 m0 (Frm.mk 0 0 0 ([]:List Loc))
section
variable {prog:Prog}{d:Nat}{Q:AE→Sl→St→Prop}{K:Int→Frm→Int→Prop}(hQ:H84 Q K){σ:Sl}{st:St}
include hQ
variable {k7:Int}{m2 m20489:Frm}{o_m2_3 o_m20489_3:Own}{v2 v20489:Nat}{t82:Bool}{l1:LB}{m0:Img}{o_l1:Own}{v0:Nat}{t41:LB}{t42 t43:Int}{P0:Int→Img→Frm→Frm→Prop}{o_t41:Own}{ok9 t22:Bool}
variable (kP0 :∀(t43:Int)(m0:Img)(m2:Frm)(m20489:Frm),P0 t43 m0 m2 m20489→I84_0 prog d Q l1 k7 t41 t42 t43 m0 m2 m20489)(H0:σ 0=m0.av)(H1:σ 1=.sl o_l1 (List.map rowS l1))(H2:σ 2=.p (d,0) v0 0)(H5:σ 5=.p (d,2) v2 0)(H7:σ 7=.i .i64 k7)(H22:σ 22=.b t22)(H8:σ 8=.p (d,20489) v20489 0)(H82:σ 82=.b t82)(H41:σ 41=.sl o_t41 (List.map rowS t41))(H9:σ 9=.b ok9)(H42:σ 42=.i .i64 t42)(H43:σ 43=.i .i64 t43)(Ab20489:ApM d st.ow o_m20489_3 m20489.locals.length)(B0:lk st.bx (d,0)=some (v0,Img.cs m0))(B2:lk st.bx (d,2)=some (v2,[.i .i64 m2.func,.i .i64 m2.pos,.i .u64 m2.mode,.sl o_m2_3 (List.map Loc.row m2.locals)]))(B20489:lk st.bx (d,20489)=some (v20489,[.i .i64 m20489.func,.i .i64 m20489.pos,.i .u64 m20489.mode,.sl o_m20489_3 (List.map Loc.row m20489.locals)]))
include H5 H7 H8 Ab20489 B2 B20489 in
theorem w84_10 (h:T84_10 prog K k7 m2 m20489):W prog d c84_3 σ st Q:=
 au trivial
include H5 H7 H8 H82 Ab20489 B2 B20489 in
theorem w84_9 (h:T84_9 prog K k7 t82 m2 m20489):W prog d c84_2 σ st (thenW prog d c84_3 Q):=
 au @w84_10
include H1 H2 H5 H7 H8 Ab20489 B0 B2 B20489 in
theorem w84_8 (h:T84_8 prog K l1 k7 m0 m2 m20489):W prog d c84_4 σ st Q:=
 sq_ (q_ J (l_ H2 B0 J J (m_ (l_ H8 B20489 J J (x2 h fun _ _ c=>ca_ (sc3 J H7 J J) c.1 (m_ (x_ J J (x_ J J (s_mvL J (m_ (e_ (q_ J (s_mvI J (b_ J J neq_ (s_mvB J (em_ (g:=77) J (fun e=>z_ 5 J (e_ (w84_9 hQ H5 H7 H8 J Ab20489 B2 B20489 (c.2.1 e)))) (fun e=>gy_ J (s_mvL J (gy_ J (s_mvL H1 (gy_ J ((c.2.2 e).elim fun _ i=>ca_ (sc2 J J J) i.1 (gy_ J (nt_ J (pf_ J J (e_ (w84_9 hQ H5 H7 H8 J Ab20489 B2 B20489 i.2)))))))))))))))))))))))))))
include kP0 H1 H2 H5 H7 H8 H41 H42 H43 Ab20489 B0 B2 B20489 in
theorem w84_7 (h:T84_7 prog K P0 l1 k7 t41 t42 t43 m0 m2 m20489):W prog d l84_0 σ st (thenW prog d (.loop l84_0) (blockW 0 (thenW prog d c84_4 Q))):=
 q_ J (b_ H43 H42 lss_ (e_ (sq_ (cs_ J (fun e=>sk_ (sq_ (bk_ (q_ J ((h.1 e).2.elim fun _ k=>ia_ H41 H43 (h.1 e).1 k.1 J J (lf_ J J J (m_ (e_ (sq_ (W.reg (f_ H2 (l_ J (lk_other J B0) J J (f_ H8 (l_ J (lk_other J B20489) J J (k.2.2.elim fun q o=>ia_ J J k.2.1 o.1 (Fun.row_eq q) J (lf_ J J J (m_ (x2 o.2 fun u _ c=>ca_ (sc2 J J J) c.1 (m_ (x_ J J (x_ J J (s_alloc (so_ J (show lk _ (d,45067)=some (_,([.i .i64 0,.i .u8 0,.i .i64 0,.s [],.sl .full (List.map Val.row ([]:List Val)),.b false]:List AV)) from lk_here) J J J (m_ (e_ (sq_ (q_ J (m_ (nt_ J (e_ (cb_ J (fun j=>q_ J (s_build f_nil (m_ (so_ H5 (lk_other J (lk_other J B2)) J J J (m_ (er_ (hQ _ _ _ _ _ _ _ _ J H5 lk_here J (c.2.1 j)))))))) (fun j=>sk_ (W.reg0 J fun _ _=>f_ H8 (l_ J (lk_other J (lk_other J B20489)) J J (l_ J lk_here J J (s_bslM (f:=Loc.row) (l:=[u]) J J (g_cons J J J g_nil) (by simp only [List.map_cons,List.map_nil,Loc.row_eq];rfl) (s_app Loc.row_len J J J Ab20489.1 (c.2.2 j).1 J (fun _ _ p _ r=>f_ H8 (so_ J (lk_other J (lk_other J B20489)) J J J (e_ (W.reg0 J fun _ _=>b_ H43 J add_ (m_ (e_ (kP0 _ _ _ _ (c.2.2 j).2 _ _ _ _ _ _ _ _ _ H1 H2 H5 H7 H8 H41 H42 J (ApM.mk p (Mine.app Ab20489.2 J r)) (lk_other J (lk_other J (lk_other J B0))) (lk_other J (lk_other J (lk_other J B2))) lk_here)))))))))))))))))))))))))))))))))))))))))))) (fun e=>ex_ (w84_8 hQ H1 H2 H5 H7 H8 Ab20489 B0 B2 B20489 (h.2 e)))))))
include H1 H2 H5 H7 H8 Ab20489 B0 B2 B20489 in
theorem w84_6 (h:T84_6 prog K l1 k7 m0 m2 m20489):W prog d c84_5 σ st Q:=
 sq_ (q_ J (s_mvL H1 (s_slL_lo rowS_len J J (by decide) h.1 (ll_ J (m_ (e_ (bk_ (h.2 (I84_0 prog d Q l1 k7 (l1.drop 1) ((l1.drop 1).length:Int)) (fun _ _ _ _ hb _ _ _ _ _ _ _ _ _ H1 H2 H5 H7 H8 H41 H42 H43 Ab20489 B0 B2 B20489=>W.loop (w84_7 hQ (fun _ _ _ _ x=>x) H1 H2 H5 H7 H8 H41 H42 H43 Ab20489 B0 B2 B20489 hb)) _ _ _ _ _ _ _ _ _ H1 H2 H5 H7 H8 J J J Ab20489 B0 B2 B20489))))))))
include H1 H2 H5 H7 H8 H9 Ab20489 B0 B2 B20489 in
theorem w84_5 (h:T84_5 prog K l1 k7 ok9 m0 m2 m20489):W prog d c84_6 σ st Q:=
 au @w84_6
include H1 H2 H5 B0 B2 in
theorem w84_4 (h:T84_4 prog K l1 m0 m2):W prog d c84_7 σ st Q:=
 sq_ (W.reg (l_ H2 (lk_other J B0) J J (s_mvL H1 (h.elim fun _ e=>ia_ J J (by decide) e.1 J J (lf_ J J J (x2 e.2 fun _ _ k=>k.elim fun _ j=>s_callN (sec J (sec J sen)) (j.1) (fun _ c=>m_ (x_ J J (x_ J J (x_ J J (s_alloc (m_ (so_ J ((c.1 (d,20489) (Nat.lt_succ_self d) key_dn).trans (show lk _ (d,20489)=some (_,([.i .i64 0,.i .i64 0,.i .u64 0,.sl .full (List.map Loc.row ([]:List Loc))]:List AV)) from lk_here)) J J J (m_ (e_ (w84_5 hQ H1 H2 H5 J J J ApM.full (lk_other J ((c.1 (d,0) (Nat.lt_succ_self d) key_dn).trans (lk_other J B0))) (lk_other J ((c.1 (d,2) (Nat.lt_succ_self d) key_dn).trans (lk_other J B2))) lk_here j.2))))))))))))))))
include H1 H2 H5 B0 B2 in
theorem w84_3 (h:T84_3 prog K l1 m0 m2):W prog d c84_8 σ st Q:=
 sq_ (q_ J (s_mvL H1 (ll_ J (b_ J J eql_ (e_ (cs_ J (fun c=>q_ J (s_build f_nil (m_ (so_ H5 B2 J J J (m_ (er_ (hQ _ _ _ _ _ _ _ _ J H5 lk_here J (h.1 c)))))))) (fun c=>sk_ (w84_4 hQ H1 H2 H5 B0 B2 (h.2 c)))))))))
include H1 H2 H5 H22 B0 B2 in
theorem w84_2 (h:T84_2 prog K l1 t22 m0 m2):W prog d c84_0 σ st (thenW prog d c84_8 Q):=
 au @w84_3
include H1 H2 H5 B0 B2 in
theorem w84_1 (h:T84_1 prog K l1 m0 m2):W prog d c84_9 σ st Q:=
 sq_ (q_ J (s_mvL H1 (ll_ J (b_ J J gtr_ (s_mvB J (em_ (g:=19) J (fun c=>z_ 3 J (e_ (w84_2 hQ H1 H2 H5 J B0 B2 (h.1 c)))) (fun c=>gy_ J (s_mvL H1 (gy_ J ((h.2 c).elim fun _ e=>s_callN (sec J (sec J sen)) (e.1 _) (fun _ i=>pf_ J J (e_ (w84_2 hQ H1 H2 H5 J ((i.1 (d,0) (Nat.lt_succ_self d) key_dn).trans B0) ((i.1 (d,2) (Nat.lt_succ_self d) key_dn).trans B2) e.2)))))))))))))
include H0 H1 in
theorem w84_0 (h:T84_0 prog K m0 l1):W prog d (sR 0 r84_0 c84_9) σ st Q:=
 au @w84_1
end
theorem p84 {prog:Prog}(hf:prog.fn 84=some pf84){m0:Img}{l1:LB}{K:Int→Frm→Int→Prop}(h:T84_0 prog K m0 l1) :∃res0:Int,∃res1:Frm,∃res2:Int,K res0 res1 res2∧Pus prog 84 [m0.av,.sl .ext (List.map rowS l1)] (.tup [.i .i64 res0,res1.av,.i .i64 res2]):=by
  obtain ⟨v,hv,res0,res1,res2,hk,rfl⟩:=Pus.of (K:=fun v=>∃res0:Int,∃res1:Frm,∃res2:Int,K res0 res1 res2∧v=.tup [.i .i64 res0,res1.av,.i .i64 res2]) hf rfl (w84_0 (σ:=sl0 [m0.av,.sl .ext (List.map rowS l1)]) (fun σ st k1 v1 o1_0 res0 res1 res2 H4 H5 HB5 H6 hk=>⟨.tup [.i .i64 res0,res1.avo o1_0,.i .i64 res2],by simp only [pf84,ares,aresL,H4,ares_cellA (n:=4) H5 HB5 rfl,H6,ares_tmp,Option.map_some],_,rfl,res0,res1,res2,hk,rfl⟩) rfl rfl h)
  exact ⟨res0,res1,res2,hk,hv⟩
end Go.AM

namespace Go.AM
open Go
set_option linter.unusedVariables false
set_option linter.unusedSimpArgs false
set_option maxRecDepth 4000
set_option maxHeartbeats 2000000
attribute [local irreducible] Decidable.decide W WO fillCells fillRows
abbrev H81 (Q:AE→Sl→St→Prop)(K:Bool→Prop):Prop:=∀(σ:Sl)(st:St)(res0:Bool),σ 2=.b res0→K res0→Q .ret σ st
section
variable {prog:Prog}{d:Nat}{Q:AE→Sl→St→Prop}{K:Bool→Prop}(hQ:H81 Q K){σ:Sl}{st:St}
include hQ
end
def r79_0:List AI:=[oY 1 3 0,oC 2 (.b false)]
def r79_1:List AI:=[oI 3 0]
def r79_2:List AI:=[oM 6 3,oF 7 2 1,oL 8 7,oJ 9 8,oT 10 .lss 6 9,oM 11 10,gT 11 (oM 12 3),gT 11 (oV 13 .leq 12 40),oA 14 11 13]
def r79_3:List AI:=[oF 17 2 1,oL 18 17,oM 19 3,oX 20 7 18 19,oK 21 7 20,oO 4 (.alloc [zs,z6,z6,zl,zl,zl,zl]),oS 7 4 21]
def r79_4:List AI:=[oF 22 0 4,oL 23 22,oH 24 23,oV 25 .gtr 24 40,oM 26 25,gF 26 (oF 27 3 4),gF 26 (oL 28 27),gF 26 (oJ 29 28),gF 26 (oV 30 .gtr 29 30),oR 31 26 30,oM 32 31,gF 32 (oF 33 4 4),gF 32 (oL 34 33),gF 32 (oJ 35 34),gF 32 (oV 36 .gtr 35 300),oR 37 32 36]
def r79_5:List AI:=[oC 2 (.b true)]
def r79_6:List AI:=[oI 5 0]
def r79_7:List AI:=[oM 38 5,oF 39 3 4,oL 40 39,oJ 41 40,oT 42 .lss 38 41]
def r79_8:List AI:=[oF 45 3 4,oL 46 45,oM 47 5,oX 48 2 46 47,oF 49 0 48,oL 50 49,oH 51 50,oV 52 .gtr 51 40]
def r79_9:List AI:=[oC 2 (.b true)]
def r79_10:List AI:=[oM 43 5,oV 44 .add 43 1,oM 5 44]
def r79_11:List AI:=[oM 15 3,oV 16 .add 15 1,oM 3 16]
def r79_12:List AI:=[oF 53 2 1,oL 54 53,oJ 55 54,oV 56 .gtr 55 40,oM 2 56]
abbrev l79_1:AC:=(.seq (sR 8 r79_7 (.cond (.t 42) .skip (.exit 2))) (.seq (.block 3 (sR 10 r79_8 (.cond (.t 52) (sR 11 r79_9 .ret) .skip))) (.reg 9 r79_10)))
abbrev c79_1:AC:=(sR 7 r79_6 (.block 2 (.loop l79_1)))
abbrev c79_2:AC:=(.reg 3 r79_11)
abbrev c79_3:AC:=(.seq (.block 1 (sR 4 r79_3 (.seq (sR 5 r79_4 (.cond (.t 37) (sR 6 r79_5 .ret) .skip)) c79_1))) c79_2)
abbrev l79_0:AC:=(.seq (sR 2 r79_2 (.cond (.t 14) .skip (.exit 0))) c79_3)
abbrev c79_5:AC:=(sR 12 r79_12 .ret)
abbrev b79:AC:=(sR 0 r79_0 (.seq (sR 1 r79_1 (.block 0 (.loop l79_0))) c79_5))
def pf79:AF:={ nt:=57,res:=[.tmp 2],body:=b79 }
abbrev I79_0 (prog:Prog)(d:Nat)(Q:AE→Sl→St→Prop)(i3:Int)(m0:Img):Prop:=
  ∀(σ:Sl)(st:St)(v0:Nat),σ 1=.p (d,0) v0 0→σ 3=.i .i64 i3→lk st.bx (d,0)=some (v0,Img.cs m0)→W prog d (.loop l79_0) σ st (blockW 0 (thenW prog d c79_5 Q))
abbrev I79_1 (prog:Prog)(d:Nat)(Q:AE→Sl→St→Prop)(i3:Int)(k5:Int)(m0:Img)(m16389:Fun):Prop:=
  ∀(σ:Sl)(st:St) (v0 v16389:Nat),σ 1=.p (d,0) v0 0→σ 3=.i .i64 i3→σ 4=.p (d,16389) v16389 0→σ 5=.i .i64 k5→lk st.bx (d,0)=some (v0,Img.cs m0)→lk st.bx (d,16389)=some (v16389,Fun.cs m16389)→W prog d (.loop l79_1) σ st (blockW 2 (blockW 1 (thenW prog d c79_2 (thenW prog d (.loop l79_0) (blockW 0 (thenW prog d c79_5 Q))))))
def T79_5 (prog:Prog)(K:Bool→Prop)(P0:Int→Img→Prop)(i3:Int)(m0:Img):Prop:=
  P0 (IntKind.i64.wrap (i3+1)) m0
def T79_4 (prog:Prog)(K:Bool→Prop)(P1:Int→Img→Fun→Prop)(P0:Int→Img→Prop)(i3:Int)(k5:Int)(m0:Img)(m16389:Fun):Prop:=
  (k5<(m16389.slots.length:Int)→0≤k5∧∃c:Fld,m16389.slots[(k5).toNat]?=some c∧((c.name.length:Int)>40→K true)∧(¬((c.name.length:Int)>40)→P1 (IntKind.i64.wrap (k5+1)) m0 m16389))∧(¬(k5<(m16389.slots.length:Int))→T79_5 prog K P0 i3 m0)
def T79_3 (prog:Prog)(K:Bool→Prop)(P0:Int→Img→Prop)(i3:Int)(m0:Img)(m16389:Fun):Prop:=
  ∀P1:Int→Img→Fun→Prop,(∀(k5:Int)(m0:Img)(m16389:Fun),T79_4 prog K P1 P0 i3 k5 m0 m16389→P1 k5 m0 m16389)→P1 0 m0 m16389
def T79_2 (prog:Prog)(K:Bool→Prop)(P0:Int→Img→Prop)(i3:Int)(m0:Img):Prop:=
  0≤i3∧∃c:Fun,m0.funcs[(i3).toNat]?=some c∧((c.name.length:Int)>40→K true)∧(¬((c.name.length:Int)>40)→((c.slots.length:Int)>30→K true)∧(¬((c.slots.length:Int)>30)→((c.code.length:Int)>300→K true)∧(¬((c.code.length:Int)>300)→T79_3 prog K P0 i3 m0 c)))
def T79_6 (prog:Prog)(K:Bool→Prop)(m0:Img):Prop:=
  K (decide ((m0.funcs.length:Int)>40))
def T79_1 (prog:Prog)(K:Bool→Prop)(P0:Int→Img→Prop)(i3:Int)(m0:Img):Prop:=
  (i3<(m0.funcs.length:Int)→(i3≤40→T79_2 prog K P0 i3 m0)∧(¬(i3≤40)→T79_6 prog K m0))∧(¬(i3<(m0.funcs.length:Int))→T79_6 prog K m0)
def T79_0 (prog:Prog)(K:Bool→Prop)(m0:Img):Prop:=
  ∀P0:Int→Img→Prop,(∀(i3:Int)(m0:Img),T79_1 prog K P0 i3 m0→P0 i3 m0)→P0 0 m0
section
variable {prog:Prog}{d:Nat}{Q:AE→Sl→St→Prop}{K:Bool→Prop}(hQ:H1 AV.b 2 Q K){σ:Sl}{st:St}
include hQ
variable {i3:Int}{m0:Img}{P0:Int→Img→Prop}{v0:Nat}{k5:Int}{m16389:Fun}{P1:Int→Img→Fun→Prop}{v16389:Nat}
variable (kP1 :∀(k5:Int)(m0:Img)(m16389:Fun),P1 k5 m0 m16389→I79_1 prog d Q i3 k5 m0 m16389)(H0:σ 0=m0.av) (kP0 :∀(i3:Int)(m0:Img),P0 i3 m0→I79_0 prog d Q i3 m0)(H1:σ 1=.p (d,0) v0 0)(H3:σ 3=.i .i64 i3)(H4:σ 4=.p (d,16389) v16389 0)(H5:σ 5=.i .i64 k5)(B0:lk st.bx (d,0)=some (v0,Img.cs m0))(B16389:lk st.bx (d,16389)=some (v16389,Fun.cs m16389))
include kP0 H1 H3 B0 in
theorem w79_5 (h:T79_5 prog K P0 i3 m0):W prog d c79_2 σ st (thenW prog d (.loop l79_0) (blockW 0 (thenW prog d c79_5 Q))):=
 au trivial
include kP1 kP0 H1 H3 H4 H5 B0 B16389 in
theorem w79_4 (h:T79_4 prog K P1 P0 i3 k5 m0 m16389):W prog d l79_1 σ st (thenW prog d (.loop l79_1) (blockW 2 (blockW 1 (thenW prog d c79_2 (thenW prog d (.loop l79_0) (blockW 0 (thenW prog d c79_5 Q))))))):=
 au @w79_5
include kP0 H1 H3 H4 B0 B16389 in
theorem w79_3 (h:T79_3 prog K P0 i3 m0 m16389):W prog d c79_1 σ st (blockW 1 (thenW prog d c79_2 (thenW prog d (.loop l79_0) (blockW 0 (thenW prog d c79_5 Q))))):=
 q_ J (m_ (e_ (bk_ (h (I79_1 prog d Q i3) (fun _ _ _ hb _ _ _ _ H1 H3 H4 H5 B0 B16389=>W.loop (w79_4 hQ (fun _ _ _ x=>x) kP0 H1 H3 H4 H5 B0 B16389 hb)) _ _ _ _ H1 H3 H4 J B0 B16389))))
include kP0 H1 H3 B0 in
theorem w79_2 (h:T79_2 prog K P0 i3 m0):W prog d c79_3 σ st (thenW prog d (.loop l79_0) (blockW 0 (thenW prog d c79_5 Q))):=
 sq_ (bk_ (sq_ (W.reg (f_ H1 (l_ J (lk_other J B0) J J (m_ (h.2.elim fun o c=>ia_ J H3 h.1 c.1 (Fun.row_eq o) J (lf_ J J J (s_alloc (so_ J (show lk _ (d,16389)=some (_,([.s [],.i .i64 0,.i .i64 0,.sl .full (List.map Fld.row ([]:List Fld)),.sl .full (List.map Ins.row ([]:List Ins)),.sl .full (List.map Rnn.row ([]:List Rnn)),.sl .full (List.map Rnn.row ([]:List Rnn))]:List AV)) from lk_here) J J J (e_ (sq_ (q_ J (f_ J (l_ J lk_here J J (ln_ J (b_ J J gtr_ (s_mvB J (em_ (g:=26) J (fun e=>z_ 11 J (e_ (ct_ J (q_ J (m_ (er_ (hQ J (c.2.1 e)))))))) (fun e=>gy_ J (f_ J (gy_ J (l_ J lk_here J J (gy_ J (ll_ J (gy_ J (b_ J J gtr_ (z_ 2 J (em_ (g:=32) J (fun j=>z_ 5 J (e_ (ct_ J (q_ J (m_ (er_ (hQ J ((c.2.2 e).1 j)))))))) (fun j=>gy_ J (f_ J (gy_ J (l_ J lk_here J J (gy_ J (ll_ J (gy_ J (b_ J J gtr_ (pf_ J J (e_ (cs_ J (fun k=>q_ J (m_ (er_ (hQ J (((c.2.2 e).2 j).1 k))))) (fun k=>sk_ (w79_3 hQ kP0 H1 H3 J (lk_other J (lk_other J B0)) lk_here (((c.2.2 e).2 j).2 k)))))))))))))))))))))))))))))))))))))))))))
include H1 B0 in
theorem w79_6 (h:T79_6 prog K m0):W prog d c79_5 σ st Q:=
 au trivial
include kP0 H1 H3 B0 in
theorem w79_1 (h:T79_1 prog K P0 i3 m0):W prog d l79_0 σ st (thenW prog d (.loop l79_0) (blockW 0 (thenW prog d c79_5 Q))):=
 au (And.intro @w79_2 @w79_6)
include H0 in
theorem w79_0 (h:T79_0 prog K m0):W prog d (sR 0 r79_0 (.seq (sR 1 r79_1 (.block 0 (.loop l79_0))) c79_5)) σ st Q:=
 q_ J (s_box H0 J (m_ (e_ (sq_ (q_ J (m_ (e_ (bk_ (h (I79_0 prog d Q ) (fun _ _ hb _ _ _ H1 H3 B0=>W.loop (w79_1 hQ (fun _ _ x=>x) H1 H3 B0 hb)) _ _ _ J J lk_here)))))))))
end
theorem p79 {prog:Prog}(hf:prog.fn 79=some pf79){m0:Img}{K:Bool→Prop}(h:T79_0 prog K m0) :∃res0:Bool,K res0∧Pus prog 79 [m0.av] (.b res0):=
 P1 hf J (w79_0 (h1 J fun _=>J) J h)
def r80_0:List AI:=[oY 1 4 0,oC 2 (.b false)]
def r80_1:List AI:=[oI 3 0]
def r80_2:List AI:=[oM 4 3,oF 5 3 1,oL 6 5,oJ 7 6,oT 8 .lss 4 7,oM 9 8,gT 9 (oM 10 3),gT 9 (oV 11 .leq 10 20),oA 12 9 11]
def r80_3:List AI:=[oF 15 3 1,oL 16 15,oM 17 3,oX 18 6 16 17,oF 19 1 18,oK 20 5 19,oQ 21 71 [20]]
def r80_4:List AI:=[oC 2 (.b true)]
def r80_5:List AI:=[oM 13 3,oV 14 .add 13 1,oM 3 14]
def r80_6:List AI:=[oF 22 3 1,oL 23 22,oJ 24 23,oV 25 .gtr 24 20,oM 2 25]
abbrev c80_0:AC:=(.seq (.block 1 (sR 4 r80_3 (.cond (.t 21) (sR 5 r80_4 .ret) .skip))) (.reg 3 r80_5))
abbrev l80_0:AC:=(.seq (sR 2 r80_2 (.cond (.t 12) .skip (.exit 0))) c80_0)
abbrev c80_2:AC:=(sR 6 r80_6 .ret)
abbrev b80:AC:=(sR 0 r80_0 (.seq (sR 1 r80_1 (.block 0 (.loop l80_0))) c80_2))
def pf80:AF:={ nt:=26,res:=[.tmp 2],body:=b80 }
abbrev I80_0 (prog:Prog)(d:Nat)(Q:AE→Sl→St→Prop)(i3:Int)(m0:Frm):Prop:=
  ∀(σ:Sl)(st:St)(v0:Nat),σ 1=.p (d,0) v0 0→σ 3=.i .i64 i3→lk st.bx (d,0)=some (v0,Frm.cs m0)→W prog d (.loop l80_0) σ st (blockW 0 (thenW prog d c80_2 Q))
def T80_2 (prog:Prog)(K:Bool→Prop)(P0:Int→Frm→Prop)(i3:Int)(m0:Frm):Prop:=
  0≤i3∧∃e:Loc,m0.locals[(i3).toNat]?=some e∧∃c,Pus prog 71 [e.value.av] (.b c)∧(c=true→K true)∧(c=false→P0 (IntKind.i64.wrap (i3+1)) m0)
def T80_3 (prog:Prog)(K:Bool→Prop)(m0:Frm):Prop:=
  K (decide ((m0.locals.length:Int)>20))
def T80_1 (prog:Prog)(K:Bool→Prop)(P0:Int→Frm→Prop)(i3:Int)(m0:Frm):Prop:=
  (i3<(m0.locals.length:Int)→(i3≤20→T80_2 prog K P0 i3 m0)∧(¬(i3≤20)→T80_3 prog K m0))∧(¬(i3<(m0.locals.length:Int))→T80_3 prog K m0)
def T80_0 (prog:Prog)(K:Bool→Prop)(x0:Frm):Prop:=
  ∀P0:Int→Frm→Prop,(∀(i3:Int)(m0:Frm),T80_1 prog K P0 i3 m0→P0 i3 m0)→P0 0 x0
section
variable {prog:Prog}{d:Nat}{Q:AE→Sl→St→Prop}{K:Bool→Prop}(hQ:H1 AV.b 2 Q K){σ:Sl}{st:St}
include hQ
variable {i3:Int}{m0:Frm}{P0:Int→Frm→Prop}{v0:Nat}{x0:Frm}
variable (kP0 :∀(i3:Int)(m0:Frm),P0 i3 m0→I80_0 prog d Q i3 m0)(H0:σ 0=x0.av)(H1:σ 1=.p (d,0) v0 0)(H3:σ 3=.i .i64 i3)(B0:lk st.bx (d,0)=some (v0,Frm.cs m0))
include kP0 H1 H3 B0 in
theorem w80_2 (h:T80_2 prog K P0 i3 m0):W prog d c80_0 σ st (thenW prog d (.loop l80_0) (blockW 0 (thenW prog d c80_2 Q))):=
 au trivial
include H1 B0 in
theorem w80_3 (h:T80_3 prog K m0):W prog d c80_2 σ st Q:=
 au trivial
include kP0 H1 H3 B0 in
theorem w80_1 (h:T80_1 prog K P0 i3 m0):W prog d l80_0 σ st (thenW prog d (.loop l80_0) (blockW 0 (thenW prog d c80_2 Q))):=
 au (And.intro @w80_2 @w80_3)
include H0 in
theorem w80_0 (h:T80_0 prog K x0):W prog d (sR 0 r80_0 (.seq (sR 1 r80_1 (.block 0 (.loop l80_0))) c80_2)) σ st Q:=
 q_ J (s_box H0 J (m_ (e_ (sq_ (q_ J (m_ (e_ (bk_ (h (I80_0 prog d Q ) (fun _ _ hb _ _ _ H1 H3 B0=>W.loop (w80_1 hQ (fun _ _ x=>x) H1 H3 B0 hb)) _ _ _ J J lk_here)))))))))
end
theorem p80 {prog:Prog}(hf:prog.fn 80=some pf80){x0:Frm}{K:Bool→Prop}(h:T80_0 prog K x0) :∃res0:Bool,K res0∧Pus prog 80 [x0.av] (.b res0):=
 P1 hf J (w80_0 (h1 J fun _=>J) J h)
abbrev H83 (Q:AE→Sl→St→Prop)(K:LB→Int→Prop):Prop:=∀(σ:Sl)(st:St)(o0:Own)(res0:LB)(res1:Int),σ 6=.sl o0 (List.map rowS res0)→σ 7=.i .i64 res1→K res0 res1→Q .ret σ st
section
variable {prog:Prog}{d:Nat}{Q:AE→Sl→St→Prop}{K:LB→Int→Prop}(hQ:H83 Q K){σ:Sl}{st:St}
include hQ
end
abbrev H87 (Q:AE→Sl→St→Prop)(K:Int→Prop):Prop:=∀(σ:Sl)(st:St)(res0:Int),σ 4=.i .i64 res0→K res0→Q .ret σ st
section
variable {prog:Prog}{d:Nat}{Q:AE→Sl→St→Prop}{K:Int→Prop}(hQ:H87 Q K){σ:Sl}{st:St}
include hQ
end
abbrev H114 (Q:AE→Sl→St→Prop)(K:LB→Prop):Prop:=∀(σ:Sl)(st:St)(o0:Own)(res0:LB),σ 6=.sl o0 (List.map rowS res0)→K res0→Q .ret σ st
section
variable {prog:Prog}{d:Nat}{Q:AE→Sl→St→Prop}{K:LB→Prop}(hQ:H114 Q K){σ:Sl}{st:St}
include hQ
end
abbrev H137 (Q:AE→Sl→St→Prop)(K:BS→Prop):Prop:=∀(σ:Sl)(st:St)(res0:BS),σ 2=.s res0→K res0→Q .ret σ st
section
variable {prog:Prog}{d:Nat}{Q:AE→Sl→St→Prop}{K:BS→Prop}(hQ:H137 Q K){σ:Sl}{st:St}
include hQ
end
def r138_0:List AI:=[oC 2 (.s [])]
def r138_1:List AI:=[oO 4 (.bslice [zs] 4 [(0,(.c (.s [99,97,108,108]))),(1,(.c (.s [100,101,102,101,114]))),(2,(.c (.s [112,97,110,105,99]))),(3,(.c (.s [101,120,105,116])))]),oM 3 4]
def r138_2:List AI:=[oM 5 3,oM 6 0,oX 7 1 5 6,oL 8 7,oM 2 8]
abbrev b138:AC:=(sR 0 r138_0 (sR 1 r138_1 (sR 2 r138_2 .ret)))
def pf138:AF:={ nt:=9,res:=[.tmp 2],body:=b138 }
abbrev H138 (Q:AE→Sl→St→Prop)(K:BS→Prop):Prop:=∀(σ:Sl)(st:St)(res0:BS),σ 2=.s res0→K res0→Q .ret σ st
section
variable {prog:Prog}{d:Nat}{Q:AE→Sl→St→Prop}{K:BS→Prop}(hQ:H138 Q K){σ:Sl}{st:St}
include hQ
end
def r88_0:List AI:=[oY 2 4 0,oY 3 4 1,oC 4 (.b false)]
def r88_1:List AI:=[oF 5 0 2,oL 6 5,oF 7 0 3,oL 8 7,oT 9 .eql 6 8,oM 10 9,gT 10 (oF 11 1 2),gT 10 (oL 12 11),gT 10 (oF 13 1 3),gT 10 (oL 14 13),gT 10 (oT 15 .eql 12 14),oA 16 10 15,oM 17 16,gT 17 (oF 18 2 2),gT 17 (oL 19 18),gT 17 (oF 20 2 3),gT 17 (oL 21 20),gT 17 (oT 22 .eql 19 21),oA 23 17 22,oM 24 23,gT 24 (oF 25 3 2),gT 24 (oL 26 25),gT 24 (oF 27 3 3),gT 24 (oL 28 27),gT 24 (oQ 29 124 [26,28]),oA 30 24 29,oM 4 30]
abbrev b88:AC:=(sR 0 r88_0 (sR 1 r88_1 .ret))
def pf88:AF:={ nt:=31,res:=[.tmp 4],body:=b88 }
def T88_0 (prog:Prog)(K:Bool→Prop)(a0:Frm)(b1:Frm):Prop:=
  (a0.func=b1.func→(a0.pos=b1.pos→(a0.mode=b1.mode→∃c,Pus prog 124 [.sl .ext (List.map Loc.row a0.locals),.sl .ext (List.map Loc.row b1.locals)] (.b c)∧K c)∧(¬(a0.mode=b1.mode)→K false))∧(¬(a0.pos=b1.pos)→K false))∧(¬(a0.func=b1.func)→K false)
section
variable {prog:Prog}{d:Nat}{Q:AE→Sl→St→Prop}{K:Bool→Prop}(hQ:H1 AV.b 4 Q K){σ:Sl}{st:St}
include hQ
variable {a0 b1:Frm}
variable (H0:σ 0=a0.av)(H1:σ 1=b1.av)
include H0 H1 in
theorem w88_0 (h:T88_0 prog K a0 b1):W prog d (sR 0 r88_0 (sR 1 r88_1 .ret)) σ st Q:=
 au trivial
end
theorem p88 {prog:Prog}(hf:prog.fn 88=some pf88){a0:Frm}{b1:Frm}{K:Bool→Prop}(h:T88_0 prog K a0 b1) :∃res0:Bool,K res0∧Pus prog 88 [a0.av,b1.av] (.b res0):=
 P1 hf J (w88_0 (h1 J fun _=>J) J J h)
def r124_0:List AI:=[oC 4 (.b false)]
def r124_1:List AI:=[oM 6 0,oJ 7 6,oM 8 1,oJ 9 8,oT 10 .neq 7 9]
def r124_2:List AI:=[oC 4 (.b false)]
def r124_3:List AI:=[oI 5 0]
def r124_4:List AI:=[oM 11 5,oM 12 0,oJ 13 12,oT 14 .lss 11 13]
def r124_5:List AI:=[oM 17 0,oM 18 5,oX 19 6 17 18,oF 20 0 19,oL 21 20,oM 22 1,oM 23 5,oX 24 6 22 23,oF 25 0 24,oL 26 25,oT 27 .neq 21 26,oM 28 27,gF 28 (oM 29 0),gF 28 (oM 30 5),gF 28 (oX 31 6 29 30),gF 28 (oF 32 1 31),gF 28 (oK 33 5 32),gF 28 (oM 34 1),gF 28 (oM 35 5),gF 28 (oX 36 6 34 35),gF 28 (oF 37 1 36),gF 28 (oK 38 5 37),gF 28 (oQ 39 78 [33,38]),gF 28 (oZ 40 39),oR 41 28 40]
def r124_6:List AI:=[oC 4 (.b false)]
def r124_7:List AI:=[oM 15 5,oV 16 .add 15 1,oM 5 16]
def r124_8:List AI:=[oC 4 (.b true)]
abbrev l124_0:AC:=(.seq (sR 4 r124_4 (.cond (.t 14) .skip (.exit 0))) (.seq (.block 1 (sR 6 r124_5 (.cond (.t 41) (sR 7 r124_6 .ret) .skip))) (.reg 5 r124_7)))
abbrev c124_1:AC:=(sR 8 r124_8 .ret)
abbrev b124:AC:=(sR 0 r124_0 (.seq (sR 1 r124_1 (.cond (.t 10) (sR 2 r124_2 .ret) .skip)) (.seq (sR 3 r124_3 (.block 0 (.loop l124_0))) c124_1)))
def pf124:AF:={ nt:=42,res:=[.tmp 4],body:=b124 }
abbrev I124_0 (prog:Prog)(d:Nat)(Q:AE→Sl→St→Prop)(a0:List Loc)(b1:List Loc)(i5:Int):Prop:=
  ∀(σ:Sl)(st:St) (o_a0 o_b1:Own),σ 0=.sl o_a0 (List.map Loc.row a0)→σ 1=.sl o_b1 (List.map Loc.row b1)→σ 5=.i .i64 i5→W prog d (.loop l124_0) σ st (blockW 0 (thenW prog d c124_1 Q))
def T124_2 (prog:Prog)(K:Bool→Prop) :Prop:=
  K true
def T124_1 (prog:Prog)(K:Bool→Prop)(P0:Int→Prop)(a0:List Loc)(b1:List Loc)(i5:Int):Prop:=
  (i5<(a0.length:Int)→0≤i5∧∃e:Loc,a0[(i5).toNat]?=some e∧0≤i5∧∃i:Loc,b1[(i5).toNat]?=some i∧(e.slot≠i.slot→K false)∧(¬(e.slot≠i.slot)→0≤i5∧∃j:Loc,a0[(i5).toNat]?=some j∧0≤i5∧∃k:Loc,b1[(i5).toNat]?=some k∧∃c,Pus prog 78 [j.value.av,k.value.av] (.b c)∧((!c)=true→K false)∧((!c)=false→P0 (IntKind.i64.wrap (i5+1)))))∧(¬(i5<(a0.length:Int))→T124_2 prog K )
def T124_0 (prog:Prog)(K:Bool→Prop)(a0:List Loc)(b1:List Loc):Prop:=
  ((a0.length:Int)≠(b1.length:Int)→K false)∧(¬((a0.length:Int)≠(b1.length:Int))→∀P0:Int→Prop,(∀(i5:Int),T124_1 prog K P0 a0 b1 i5→P0 i5)→P0 0)
section
variable {prog:Prog}{d:Nat}{Q:AE→Sl→St→Prop}{K:Bool→Prop}(hQ:H1 AV.b 4 Q K){σ:Sl}{st:St}
include hQ
variable {a0 b1:List Loc}{i5:Int}{P0:Int→Prop}{o_a0 o_b1:Own}
variable (kP0 :∀(i5:Int),P0 i5→I124_0 prog d Q a0 b1 i5)(H0:σ 0=.sl o_a0 (List.map Loc.row a0))(H1:σ 1=.sl o_b1 (List.map Loc.row b1))(H5:σ 5=.i .i64 i5)
theorem w124_2 (h:T124_2 prog K ):W prog d c124_1 σ st Q:=
 au trivial
include kP0 H0 H1 H5 in
theorem w124_1 (h:T124_1 prog K P0 a0 b1 i5):W prog d l124_0 σ st (thenW prog d (.loop l124_0) (blockW 0 (thenW prog d c124_1 Q))):=
 au @w124_2
include H0 H1 in
theorem w124_0 (h:T124_0 prog K a0 b1):W prog d (sR 0 r124_0 (.seq (sR 1 r124_1 (.cond (.t 10) (sR 2 r124_2 .ret) .skip)) (.seq (sR 3 r124_3 (.block 0 (.loop l124_0))) c124_1))) σ st Q:=
 q_ J (m_ (e_ (sq_ (q_ J (s_mvL H0 (ll_ J (s_mvL H1 (ll_ J (b_ J J neq_ (e_ (cs_ J (fun c=>q_ J (m_ (er_ (hQ J (h.1 c))))) (fun c=>sk_ (sq_ (q_ J (m_ (e_ (bk_ ((h.2 c) (I124_0 prog d Q a0 b1) (fun _ hb _ _ _ _ H0 H1 H5=>W.loop (w124_1 hQ (fun _ x=>x) H0 H1 H5 hb)) _ _ _ _ H0 H1 J))))))))))))))))))
end
theorem p124 {prog:Prog}(hf:prog.fn 124=some pf124){a0:List Loc}{b1:List Loc}{K:Bool→Prop}(h:T124_0 prog K a0 b1) :∃res0:Bool,K res0∧Pus prog 124 [.sl .ext (List.map Loc.row a0),.sl .ext (List.map Loc.row b1)] (.b res0):=
 P1 hf J (w124_0 (h1 J fun _=>J) J J h)
end Go.AM

namespace Go.AM
open Go
set_option linter.unusedVariables false
set_option linter.unusedSimpArgs false
set_option maxRecDepth 4000
attribute [local irreducible] WO fillCells fillRows
abbrev H85 (Q:AE→Sl→St→Prop)(K:Int→Frm→Int→Prop):Prop:=∀(σ:Sl)(st:St)(k1:Key)(v1:Nat)(o1_0:Own)(res0:Int)(res1:Frm)(res2:Int),σ 4=.i .i64 res0→σ 5=.p k1 v1 0→lk st.bx k1=some (v1,[.i .i64 res1.func,.i .i64 res1.pos,.i .u64 res1.mode,.sl o1_0 (List.map Loc.row res1.locals)])→σ 6=.i .i64 res2→K res0 res1 res2→Q .ret σ st
section
variable {prog:Prog}{d:Nat}{Q:AE→Sl→St→Prop}{K:Int→Frm→Int→Prop}(hQ:H85 Q K){σ:Sl}{st:St}
include hQ
end
abbrev H120 (d:Nat)(st0:St)(Q:AE→Sl→St→Prop)(K:Int→Frm→Bool→Prop):Prop:=∀(σ:Sl)(st:St)(k1:Key)(v1:Nat)(res0:Int)(res1:Frm)(res2:Bool),σ 4=.i .i64 res0→σ 5=.p k1 v1 0→lk st.bx k1=some (v1,[.i .i64 res1.func,.i .i64 res1.pos,.i .u64 res1.mode,.sl .full (List.map Loc.row res1.locals)])→σ 6=.b res2→Fr d (d,0) st0.bx st0.ow st.bx st.ow→K res0 res1 res2→Q .ret σ st
section
variable {prog:Prog}{d:Nat}{Q:AE→Sl→St→Prop}{K:Int→Frm→Bool→Prop}{st0:St}(hQ:H120 d st0 Q K){σ:Sl}{st:St}
include hQ
end
abbrev H121 (Q:AE→Sl→St→Prop)(K:Loc→Bool→Prop):Prop:=∀(σ:Sl)(st:St)(k0:Key)(v0:Nat)(o0_0:Own)(res0:Loc)(res1:Bool),σ 4=.p k0 v0 0→lk st.bx k0=some (v0,[.i .i64 res0.slot,.i .u8 res0.value.kind,.i .i64 res0.value.int,.s res0.value.text,.sl o0_0 (List.map Val.row res0.value.list),.b res0.value.cut])→σ 5=.b res1→K res0 res1→Q .ret σ st
section
variable {prog:Prog}{d:Nat}{Q:AE→Sl→St→Prop}{K:Loc→Bool→Prop}(hQ:H121 Q K){σ:Sl}{st:St}
include hQ
end
abbrev H142 (Q:AE→Sl→St→Prop)(K:BS→Bool→Prop):Prop:=∀(σ:Sl)(st:St)(res0:BS)(res1:Bool),σ 4=.s res0→σ 5=.b res1→K res0 res1→Q .ret σ st
section
variable {prog:Prog}{d:Nat}{Q:AE→Sl→St→Prop}{K:BS→Bool→Prop}(hQ:H142 Q K){σ:Sl}{st:St}
include hQ
end
def r143_0:List AI:=[oI 4 0,oC 5 (.s []),oC 6 (.b false)]
def r143_1:List AI:=[oM 10 0,oQ 11 135 [10],oM 7 11]
def r143_2:List AI:=[oM 13 0,oM 14 7,oO 15 (.slS (.t 13) none (some (.t 14))),oQ 16 22 [15],oM 12 16,oE 17 0 12,oE 18 1 12,oM 8 17,oM 9 18]
def r143_3:List AI:=[oM 19 8,oM 20 0,oM 21 7,oO 22 (.slS (.t 20) (some (.t 21)) none),oM 23 9,oV 24 .eql 23 0,oM 25 24,gT 25 (oM 26 8),gT 25 (oV 27 .geq 26 0),oA 28 25 27,oM 29 28,gT 29 (oM 30 8),gT 29 (oM 31 1),gT 29 (oT 32 .leq 30 31),oA 33 29 32,oM 4 19,oM 5 22,oM 6 33]
abbrev b143:AC:=(sR 0 r143_0 (sR 1 r143_1 (sR 2 r143_2 (sR 3 r143_3 .ret))))
def pf143:AF:={ nt:=34,res:=[.tmp 4,.tmp 5,.tmp 6],body:=b143 }
abbrev H143 (Q:AE→Sl→St→Prop)(K:Int→BS→Bool→Prop):Prop:=∀(σ:Sl)(st:St)(res0:Int)(res1:BS)(res2:Bool),σ 4=.i .i64 res0→σ 5=.s res1→σ 6=.b res2→K res0 res1 res2→Q .ret σ st
section
variable {prog:Prog}{d:Nat}{Q:AE→Sl→St→Prop}{K:Int→BS→Bool→Prop}(hQ:H143 Q K){σ:Sl}{st:St}
include hQ
end
end Go.AM

namespace Go.AM
open Go
set_option linter.unusedVariables false
set_option linter.unusedSimpArgs false
set_option maxRecDepth 4000
attribute [local irreducible] WO fillCells fillRows
abbrev H67 (Q:AE→Sl→St→Prop)(K:Bool→Prop):Prop:=∀(σ:Sl)(st:St)(res0:Bool),σ 8=.b res0→K res0→Q .ret σ st
section
variable {prog:Prog}{d:Nat}{Q:AE→Sl→St→Prop}{K:Bool→Prop}(hQ:H67 Q K){σ:Sl}{st:St}
include hQ
end
abbrev H69 (Q:AE→Sl→St→Prop)(K:Bool→Prop):Prop:=∀(σ:Sl)(st:St)(res0:Bool),σ 4=.b res0→K res0→Q .ret σ st
section
variable {prog:Prog}{d:Nat}{Q:AE→Sl→St→Prop}{K:Bool→Prop}(hQ:H69 Q K){σ:Sl}{st:St}
include hQ
end
abbrev H70 (Q:AE→Sl→St→Prop)(K:Bool→Prop):Prop:=∀(σ:Sl)(st:St)(res0:Bool),σ 4=.b res0→K res0→Q .ret σ st
section
variable {prog:Prog}{d:Nat}{Q:AE→Sl→St→Prop}{K:Bool→Prop}(hQ:H70 Q K){σ:Sl}{st:St}
include hQ
end
abbrev H89 (d:Nat)(st0:St)(Q:AE→Sl→St→Prop)(K:Val→Prop):Prop:=∀(σ:Sl)(st:St)(k0:Key)(v0:Nat)(res0:Val),σ 4=.p k0 v0 0→lk st.bx k0=some (v0,[.i .u8 res0.kind,.i .i64 res0.int,.s res0.text,.sl .full (List.map Val.row res0.list),.b res0.cut])→Fr d (d,0) st0.bx st0.ow st.bx st.ow→K res0→Q .ret σ st
section
variable {prog:Prog}{d:Nat}{Q:AE→Sl→St→Prop}{K:Val→Prop}{st0:St}(hQ:H89 d st0 Q K){σ:Sl}{st:St}
include hQ
end
abbrev H90 (Q:AE→Sl→St→Prop)(K:Val→Prop):Prop:=∀(σ:Sl)(st:St)(k0:Key)(v0:Nat)(o0_0:Own)(res0:Val),σ 0=.p k0 v0 0→lk st.bx k0=some (v0,[.i .u8 res0.kind,.i .i64 res0.int,.s res0.text,.sl o0_0 (List.map Val.row res0.list),.b res0.cut])→K res0→Q .ret σ st
section
variable {prog:Prog}{d:Nat}{Q:AE→Sl→St→Prop}{K:Val→Prop}(hQ:H90 Q K){σ:Sl}{st:St}
include hQ
end
abbrev H91 (Q:AE→Sl→St→Prop)(K:Bool→Prop):Prop:=∀(σ:Sl)(st:St)(res0:Bool),σ 4=.b res0→K res0→Q .ret σ st
section
variable {prog:Prog}{d:Nat}{Q:AE→Sl→St→Prop}{K:Bool→Prop}(hQ:H91 Q K){σ:Sl}{st:St}
include hQ
end
abbrev H92 (Q:AE→Sl→St→Prop)(K:Val→Prop):Prop:=∀(σ:Sl)(st:St)(k0:Key)(v0:Nat)(o0_0:Own)(res0:Val),σ 2=.p k0 v0 0→lk st.bx k0=some (v0,[.i .u8 res0.kind,.i .i64 res0.int,.s res0.text,.sl o0_0 (List.map Val.row res0.list),.b res0.cut])→K res0→Q .ret σ st
section
variable {prog:Prog}{d:Nat}{Q:AE→Sl→St→Prop}{K:Val→Prop}(hQ:H92 Q K){σ:Sl}{st:St}
include hQ
end
abbrev H93 (Q:AE→Sl→St→Prop)(K:Val→Prop):Prop:=∀(σ:Sl)(st:St)(k0:Key)(v0:Nat)(o0_0:Own)(res0:Val),σ 2=.p k0 v0 0→lk st.bx k0=some (v0,[.i .u8 res0.kind,.i .i64 res0.int,.s res0.text,.sl o0_0 (List.map Val.row res0.list),.b res0.cut])→K res0→Q .ret σ st
section
variable {prog:Prog}{d:Nat}{Q:AE→Sl→St→Prop}{K:Val→Prop}(hQ:H93 Q K){σ:Sl}{st:St}
include hQ
end
abbrev H98 (Q:AE→Sl→St→Prop)(K:Bool→Prop):Prop:=∀(σ:Sl)(st:St)(res0:Bool),σ 2=.b res0→K res0→Q .ret σ st
section
variable {prog:Prog}{d:Nat}{Q:AE→Sl→St→Prop}{K:Bool→Prop}(hQ:H98 Q K){σ:Sl}{st:St}
include hQ
end
abbrev H99 (Q:AE→Sl→St→Prop)(K:Img→Prop):Prop:=∀(σ:Sl)(st:St)(k0:Key)(v0:Nat) (o0_0 o0_1 o0_2:Own)(res0:Img),σ 0=.p k0 v0 0→lk st.bx k0=some (v0,[.sl o0_0 (List.map Typ.row res0.types),.sl o0_1 (List.map rowS res0.texts),.sl o0_2 (List.map Fun.row res0.funcs)])→K res0→Q .ret σ st
section
variable {prog:Prog}{d:Nat}{Q:AE→Sl→St→Prop}{K:Img→Prop}(hQ:H99 Q K){σ:Sl}{st:St}
include hQ
end
abbrev H101 (Q:AE→Sl→St→Prop)(K:Bool→Prop):Prop:=∀(σ:Sl)(st:St)(res0:Bool),σ 0=.b res0→K res0→Q .ret σ st
section
variable {prog:Prog}{d:Nat}{Q:AE→Sl→St→Prop}{K:Bool→Prop}(hQ:H101 Q K){σ:Sl}{st:St}
include hQ
end
abbrev H125 (Q:AE→Sl→St→Prop)(K:Val→Prop):Prop:=∀(σ:Sl)(st:St)(k0:Key)(v0:Nat)(o0_0:Own)(res0:Val),σ 0=.p k0 v0 0→lk st.bx k0=some (v0,[.i .u8 res0.kind,.i .i64 res0.int,.s res0.text,.sl o0_0 (List.map Val.row res0.list),.b res0.cut])→K res0→Q .ret σ st
section
variable {prog:Prog}{d:Nat}{Q:AE→Sl→St→Prop}{K:Val→Prop}(hQ:H125 Q K){σ:Sl}{st:St}
include hQ
end
end Go.AM

namespace Go.AM
open Go
set_option linter.unusedVariables false
set_option linter.unusedSimpArgs false
set_option maxRecDepth 4000
set_option maxHeartbeats 2000000
attribute [local irreducible] Decidable.decide W WO fillCells fillRows
def r178_0:List AI:=[oO 0 (.alloc [zs,zs,zs,zs])]
def r178_1:List AI:=[oO 1 (.build [zs,zs,zs,zs] [(1,1,(.c (.s [102,97,117,108,116,32,49,58,32,100,105,118,105,115,105,111,110,32,98,121,32,122,101,114,111]))),(2,1,(.c (.s [102,97,117,108,116,32,50,58,32,110,105,108,32,112,111,105,110,116,101,114]))),(3,1,(.c (.s [102,97,117,108,116,32,51,58,32,111,117,116,32,111,102,32,114,97,110,103,101])))]),oS 4 0 1]
abbrev b178:AC:=(sR 0 r178_0 (sR 1 r178_1 .ret))
def pf178:AF:={ nt:=2,res:=[.cell 0 4 true],body:=b178 }
abbrev H178 (Q:AE→Sl→St→Prop)(K:LB→Prop):Prop:=∀(σ:Sl)(st:St)(k0:Key)(v0:Nat)(res0:LB),σ 0=.p k0 v0 0→lk st.bx k0=some (v0,List.map AV.s res0)→res0.length=4→K res0→Q .ret σ st
def T178_0 (prog:Prog)(K:LB→Prop) :Prop:=
  K [[],([102,97,117,108,116,32,49,58,32,100,105,118,105,115,105,111,110,32,98,121,32,122,101,114,111]:BS),([102,97,117,108,116,32,50,58,32,110,105,108,32,112,111,105,110,116,101,114]:BS),([102,97,117,108,116,32,51,58,32,111,117,116,32,111,102,32,114,97,110,103,101]:BS)]
section
variable {prog:Prog}{d:Nat}{Q:AE→Sl→St→Prop}{K:LB→Prop}(hQ:H178 Q K){σ:Sl}{st:St}
include hQ
theorem w178_0 (h:T178_0 prog K ):W prog d (sR 0 r178_0 (sR 1 r178_1 .ret)) σ st Q:=
 sq_ (W.reg (s_alloc (e_ (q_ J (s_buildM (f:=AV.s) (l:=[[],([102,97,117,108,116,32,49,58,32,100,105,118,105,115,105,111,110,32,98,121,32,122,101,114,111]:BS),([102,97,117,108,116,32,50,58,32,110,105,108,32,112,111,105,110,116,101,114]:BS),([102,97,117,108,116,32,51,58,32,111,117,116,32,111,102,32,114,97,110,103,101]:BS)]) (f_cons J J (f_cons J J (f_cons J J f_nil))) J (s_storeArr (f:=AV.s) (fun _=>J) J (show lk _ (d,0)=some (_,(List.map AV.s (List.replicate 4 ([]:BS)):List AV)) from lk_here) (by simp) J J (er_ (hQ _ _ _ _ _ J lk_here (by simp) h))))))))
end
theorem p178 {prog:Prog}(hf:prog.fn 178=some pf178)  {K:LB→Prop}(h:T178_0 prog K ) :∃res0:LB,K res0∧Pus prog 178 [] (.ag (List.map AV.s res0)):=by
  obtain ⟨v,hv,res0,hk,rfl⟩:=Pus.of (K:=fun v=>∃res0:LB,K res0∧v=.ag (List.map AV.s res0)) hf rfl (w178_0 (σ:=sl0 []) (fun σ st k0 v0  res0 H0 HB0 HL0 hk=>⟨.ag (List.map AV.s res0),by simp only [pf178,ares,aresL,ares_cellA (n:=4) H0 HB0 (by simpa using HL0),ares_tmp,Option.map_some],_,strip_ag AV.s (fun _=>rfl) _,res0,hk,rfl⟩)  h)
  exact ⟨res0,hk,hv⟩
def r183_0:List AI:=[oO 0 (.alloc [z8,z8,z8,z8,z8])]
def r183_1:List AI:=[oO 1 (.build [z8,z8,z8,z8,z8] [(1,1,(.c (.i .u8 2))),(2,1,(.c (.i .u8 1))),(3,1,(.c (.i .u8 3))),(4,1,(.c (.i .u8 2)))]),oS 5 0 1]
abbrev b183:AC:=(sR 0 r183_0 (sR 1 r183_1 .ret))
def pf183:AF:={ nt:=2,res:=[.cell 0 5 true],body:=b183 }
abbrev H183 (Q:AE→Sl→St→Prop)(K:BS→Prop):Prop:=∀(σ:Sl)(st:St)(k0:Key)(v0:Nat)(res0:BS),σ 0=.p k0 v0 0→lk st.bx k0=some (v0,List.map c8 res0)→res0.length=5→K res0→Q .ret σ st
def T183_0 (prog:Prog)(K:BS→Prop) :Prop:=
  K [0,(2:UInt8),(1:UInt8),(3:UInt8),(2:UInt8)]
section
variable {prog:Prog}{d:Nat}{Q:AE→Sl→St→Prop}{K:BS→Prop}(hQ:H183 Q K){σ:Sl}{st:St}
include hQ
theorem w183_0 (h:T183_0 prog K ):W prog d (sR 0 r183_0 (sR 1 r183_1 .ret)) σ st Q:=
 sq_ (W.reg (s_alloc (e_ (q_ J (s_buildM (f:=c8) (l:=[0,(2:UInt8),(1:UInt8),(3:UInt8),(2:UInt8)]) (f_cons J J (f_cons J J (f_cons J J (f_cons J J f_nil)))) J (s_storeArr (f:=c8) (fun _=>J) J (show lk _ (d,0)=some (_,(List.map c8 (List.replicate 5 (0:UInt8)):List AV)) from lk_here) (by simp) J J (er_ (hQ _ _ _ _ _ J lk_here (by simp) h))))))))
end
theorem p183 {prog:Prog}(hf:prog.fn 183=some pf183)  {K:BS→Prop}(h:T183_0 prog K ) :∃res0:BS,K res0∧Pus prog 183 [] (.ag (List.map c8 res0)):=by
  obtain ⟨v,hv,res0,hk,rfl⟩:=Pus.of (K:=fun v=>∃res0:BS,K res0∧v=.ag (List.map c8 res0)) hf rfl (w183_0 (σ:=sl0 []) (fun σ st k0 v0  res0 H0 HB0 HL0 hk=>⟨.ag (List.map c8 res0),by simp only [pf183,ares,aresL,ares_cellA (n:=5) H0 HB0 (by simpa using HL0),ares_tmp,Option.map_some],_,strip_ag c8 (fun _=>rfl) _,res0,hk,rfl⟩)  h)
  exact ⟨res0,hk,hv⟩
def r191_0:List AI:=[oC 4 (.b false)]
def r191_1:List AI:=[oM 5 0,oH 6 5,oM 7 1,oH 8 7,oT 9 .geq 6 8,oM 10 9,gT 10 (oM 11 0),gT 10 (oM 12 0),gT 10 (oH 13 12),gT 10 (oM 14 1),gT 10 (oH 15 14),gT 10 (oT 16 .sub 13 15),gT 10 (oO 17 (.slS (.t 11) (some (.t 16)) none)),gT 10 (oM 18 1),gT 10 (oT 19 .eql 17 18),oA 20 10 19,oM 4 20]
abbrev b191:AC:=(sR 0 r191_0 (sR 1 r191_1 .ret))
def pf191:AF:={ nt:=21,res:=[.tmp 4],body:=b191 }
def T191_0 (prog:Prog)(K:Bool→Prop)(s0:BS)(suffix1:BS):Prop:=
  ((s0.length:Int)≥(suffix1.length:Int)→0≤(IntKind.i64.wrap ((s0.length:Int)-(suffix1.length:Int)))∧(IntKind.i64.wrap ((s0.length:Int)-(suffix1.length:Int))).toNat≤s0.length∧K (decide ((s0.drop (IntKind.i64.wrap ((s0.length:Int)-(suffix1.length:Int))).toNat)=suffix1)))∧(¬((s0.length:Int)≥(suffix1.length:Int))→K false)
section
variable {prog:Prog}{d:Nat}{Q:AE→Sl→St→Prop}{K:Bool→Prop}(hQ:H1 AV.b 4 Q K){σ:Sl}{st:St}
include hQ
variable {s0 suffix1:BS}
variable (H0:σ 0=.s s0)(H1:σ 1=.s suffix1)
include H0 H1 in
theorem w191_0 (h:T191_0 prog K s0 suffix1):W prog d (sR 0 r191_0 (sR 1 r191_1 .ret)) σ st Q:=
 au trivial
end
theorem p191 {prog:Prog}(hf:prog.fn 191=some pf191){s0:BS}{suffix1:BS}{K:Bool→Prop}(h:T191_0 prog K s0 suffix1) :∃res0:Bool,K res0∧Pus prog 191 [.s s0,.s suffix1] (.b res0):=
 P1 hf J (w191_0 (h1 J fun _=>J) J J h)
abbrev H186 (Q:AE→Sl→St→Prop)(K:Bool→Prop):Prop:=∀(σ:Sl)(st:St)(res0:Bool),σ 4=.b res0→K res0→Q .ret σ st
section
variable {prog:Prog}{d:Nat}{Q:AE→Sl→St→Prop}{K:Bool→Prop}(hQ:H186 Q K){σ:Sl}{st:St}
include hQ
end
def r190_0:List AI:=[oC 4 (.s []),oC 5 (.b false)]
def r190_1:List AI:=[oM 6 0,oM 7 1,oQ 8 191 [6,7],oZ 9 8]
def r190_2:List AI:=[oM 10 0,oM 4 10,oC 5 (.b false)]
def r190_3:List AI:=[oM 11 0,oM 12 0,oH 13 12,oM 14 1,oH 15 14,oT 16 .sub 13 15,oO 17 (.slS (.t 11) none (some (.t 16))),oM 4 17,oC 5 (.b true)]
abbrev b190:AC:=(sR 0 r190_0 (.seq (sR 1 r190_1 (.cond (.t 9) (sR 2 r190_2 .ret) .skip)) (sR 3 r190_3 .ret)))
def pf190:AF:={ nt:=18,res:=[.tmp 4,.tmp 5],body:=b190 }
def T190_0 (prog:Prog)(K:BS→Bool→Prop)(s0:BS)(suffix1:BS):Prop:=
  ∃c,Pus prog 191 [.s s0,.s suffix1] (.b c)∧((!c)=true→K s0 false)∧((!c)=false→0≤(IntKind.i64.wrap ((s0.length:Int)-(suffix1.length:Int)))∧(IntKind.i64.wrap ((s0.length:Int)-(suffix1.length:Int))).toNat≤s0.length∧K (s0.take (IntKind.i64.wrap ((s0.length:Int)-(suffix1.length:Int))).toNat) true)
section
variable {prog:Prog}{d:Nat}{Q:AE→Sl→St→Prop}{K:BS→Bool→Prop}(hQ:H2 AV.s AV.b 4 5 Q K){σ:Sl}{st:St}
include hQ
variable {s0 suffix1:BS}
variable (H0:σ 0=.s s0)(H1:σ 1=.s suffix1)
include H0 H1 in
theorem w190_0 (h:T190_0 prog K s0 suffix1):W prog d (sR 0 r190_0 (.seq (sR 1 r190_1 (.cond (.t 9) (sR 2 r190_2 .ret) .skip)) (sR 3 r190_3 .ret))) σ st Q:=
 au trivial
end
theorem p190 {prog:Prog}(hf:prog.fn 190=some pf190){s0:BS}{suffix1:BS}{K:BS→Bool→Prop}(h:T190_0 prog K s0 suffix1) :∃res0:BS,∃res1:Bool,K res0 res1∧Pus prog 190 [.s s0,.s suffix1] (.tup [.s res0,.b res1]):=
 P2 hf J (w190_0 (h2 J fun _ _=>J) J J h)
def r180_0:List AI:=[oC 4 (.s []),oC 5 (.b false)]
def r180_1:List AI:=[oM 6 0,oM 7 1,oQ 8 190 [6,7],oE 9 0 8,oE 10 1 8,oM 4 9,oM 5 10]
abbrev b180:AC:=(sR 0 r180_0 (sR 1 r180_1 .ret))
def pf180:AF:={ nt:=11,res:=[.tmp 4,.tmp 5],body:=b180 }
def T180_0 (prog:Prog)(K:BS→Bool→Prop)(s0:BS)(suffix1:BS):Prop:=
  ∃e c,Pus prog 190 [.s s0,.s suffix1] (.tup [.s e,.b c])∧K e c
section
variable {prog:Prog}{d:Nat}{Q:AE→Sl→St→Prop}{K:BS→Bool→Prop}(hQ:H2 AV.s AV.b 4 5 Q K){σ:Sl}{st:St}
include hQ
variable {s0 suffix1:BS}
variable (H0:σ 0=.s s0)(H1:σ 1=.s suffix1)
include H0 H1 in
theorem w180_0 (h:T180_0 prog K s0 suffix1):W prog d (sR 0 r180_0 (sR 1 r180_1 .ret)) σ st Q:=
 au trivial
end
theorem p180 {prog:Prog}(hf:prog.fn 180=some pf180){s0:BS}{suffix1:BS}{K:BS→Bool→Prop}(h:T180_0 prog K s0 suffix1) :∃res0:BS,∃res1:Bool,K res0 res1∧Pus prog 180 [.s s0,.s suffix1] (.tup [.s res0,.b res1]):=
 P2 hf J (w180_0 (h2 J fun _ _=>J) J J h)
abbrev H182 (Q:AE→Sl→St→Prop)(K:BS→Bool→Prop):Prop:=∀(σ:Sl)(st:St)(res0:BS)(res1:Bool),σ 4=.s res0→σ 5=.b res1→K res0 res1→Q .ret σ st
section
variable {prog:Prog}{d:Nat}{Q:AE→Sl→St→Prop}{K:BS→Bool→Prop}(hQ:H182 Q K){σ:Sl}{st:St}
include hQ
end
def r158_0:List AI:=[oY 1 7 0,oI 2 0]
def r158_1:List AI:=[oF 4 0 1,oL 5 4,oB 6 .gtr (.t 5) (.c (.i .u64 4)),oM 7 6,gF 7 (oF 8 1 1),gF 7 (oF 9 0 8),gF 7 (oL 10 9),gF 7 (oQ 11 183 []),gF 7 (oF 12 0 1),gF 7 (oL 13 12),gF 7 (oO 14 (.ixA 5 1 false (.t 11) (.t 13))),gF 7 (oT 15 .neq 10 14),oR 16 7 15]
def r158_2:List AI:=[oI 2 8]
def r158_3:List AI:=[oF 17 0 1,oL 18 17,oB 19 .eql (.t 18) (.c (.i .u64 0))]
def r158_4:List AI:=[oF 20 1 1,oK 21 5 20,oO 3 (.alloc [z8,z6,zs,zl,zb]),oS 5 3 21]
def r158_5:List AI:=[oF 22 1 3,oL 23 22,oV 24 .neq 23 0,oM 25 24,gF 25 (oF 26 2 3),gF 25 (oL 27 26),gF 25 (oB 28 .neq (.t 27) (.c (.s []))),oR 29 25 28,oM 30 29,gF 30 (oF 31 3 3),gF 30 (oL 32 31),gF 30 (oJ 33 32),gF 30 (oV 34 .gtr 33 0),oR 35 30 34,oM 36 35,gF 36 (oF 37 4 3),gF 36 (oL 38 37),oR 39 36 38,oM 40 39,gF 40 (oF 41 6 1),gF 40 (oL 42 41),gF 40 (oB 43 .andNot (.t 42) (.c (.i .u64 4))),gF 40 (oB 44 .neq (.t 43) (.c (.i .u64 2))),oR 45 40 44]
def r158_6:List AI:=[oI 2 8]
def r158_7:List AI:=[oI 2 0]
def r158_8:List AI:=[oF 46 6 1,oL 47 46,oB 48 .andNot (.t 47) (.c (.i .u64 5)),oB 49 .neq (.t 48) (.c (.i .u64 0)),oM 50 49,gF 50 (oF 51 0 1),gF 50 (oL 52 51),gF 50 (oB 53 .eql (.t 52) (.c (.i .u64 4))),gF 50 (oM 54 53),gT 54 (oF 55 1 1),gT 54 (oF 56 1 55),gT 54 (oL 57 56),gT 54 (oV 58 .lss 57 1),gT 54 (oM 59 58),gF 59 (oF 60 1 1),gF 59 (oF 61 1 60),gF 59 (oL 62 61),gF 59 (oV 63 .gtr 62 3),gT 54 (oR 64 59 63),gF 50 (oA 65 54 64),oR 66 50 65]
def r158_9:List AI:=[oI 2 8]
def r158_10:List AI:=[oF 67 1 1,oK 68 5 67,oQ 69 76 [68],oM 2 69]
abbrev c158_0:AC:=(sR 10 r158_10 .ret)
abbrev c158_1:AC:=(.seq (sR 8 r158_8 (.cond (.t 66) (sR 9 r158_9 .ret) .skip)) c158_0)
abbrev c158_2:AC:=(.seq (sR 3 r158_3 (.cond (.t 19) (sR 4 r158_4 (.seq (sR 5 r158_5 (.cond (.t 45) (sR 6 r158_6 .ret) .skip)) (sR 7 r158_7 .ret))) .skip)) c158_1)
abbrev c158_3:AC:=(.seq (sR 1 r158_1 (.cond (.t 16) (sR 2 r158_2 .ret) .skip)) c158_2)
abbrev b158:AC:=(sR 0 r158_0 c158_3)
def pf158:AF:={ nt:=70,res:=[.tmp 2],body:=b158 }
def T158_4 (prog:Prog)(K:Int→Prop)(m0:Pan):Prop:=
  ∃c,Pus prog 76 [m0.value.av] (.i .i64 c)∧K c
def T158_3 (prog:Prog)(K:Int→Prop)(m0:Pan):Prop:=
  ((bAndNot .u64 m0.flags 5)≠0→K 8)∧(¬((bAndNot .u64 m0.flags 5)≠0)→(m0.tag=4→(m0.value.int<1→K 8)∧(¬(m0.value.int<1)→(m0.value.int>3→K 8)∧(¬(m0.value.int>3)→T158_4 prog K m0)))∧(¬(m0.tag=4)→T158_4 prog K m0))
def T158_2 (prog:Prog)(K:Int→Prop)(m0:Pan):Prop:=
  (m0.tag=0→(m0.value.int≠0→K 8)∧(¬(m0.value.int≠0)→(m0.value.text≠([]:BS)→K 8)∧(¬(m0.value.text≠([]:BS))→((m0.value.list.length:Int)>0→K 8)∧(¬((m0.value.list.length:Int)>0)→(m0.value.cut=true→K 8)∧(m0.value.cut=false→((bAndNot .u64 m0.flags 4)≠2→K 8)∧(¬((bAndNot .u64 m0.flags 4)≠2)→K 0))))))∧(¬(m0.tag=0)→T158_3 prog K m0)
def T158_1 (prog:Prog)(K:Int→Prop)(m0:Pan):Prop:=
  (m0.tag>4→K 8)∧(¬(m0.tag>4)→∃c:BS,Pus prog 183 [] (.ag (List.map c8 c))∧c.length=5∧0≤m0.tag∧∃e:UInt8,(c:List (UInt8))[(m0.tag).toNat]?=some e∧(m0.value.kind≠(e.toNat:Int)→K 8)∧(¬(m0.value.kind≠(e.toNat:Int))→T158_2 prog K m0))
def T158_0 (prog:Prog)(K:Int→Prop)(p0:Pan):Prop:=
  T158_1 prog K p0
section
variable {prog:Prog}{d:Nat}{Q:AE→Sl→St→Prop}{K:Int→Prop}(hQ:H1 (AV.i .i64) 2 Q K){σ:Sl}{st:St}
include hQ
variable {m0:Pan}{v0:Nat}{p0:Pan}
variable (H1:σ 1=.p (d,0) v0 0)(H0:σ 0=p0.av)(B0:lk st.bx (d,0)=some (v0,Pan.cs m0))
include H1 B0 in
theorem w158_4 (h:T158_4 prog K m0):W prog d c158_0 σ st Q:=
 au trivial
include H1 B0 in
theorem w158_3 (h:T158_3 prog K m0):W prog d c158_1 σ st Q:=
 au @w158_4
include H1 B0 in
theorem w158_2 (h:T158_2 prog K m0):W prog d c158_2 σ st Q:=
 au @w158_3
include H1 B0 in
theorem w158_1 (h:T158_1 prog K m0):W prog d c158_3 σ st Q:=
 au @w158_2
include H0 in
theorem w158_0 (h:T158_0 prog K p0):W prog d (sR 0 r158_0 c158_3) σ st Q:=
 au @w158_1
end
theorem p158 {prog:Prog}(hf:prog.fn 158=some pf158){p0:Pan}{K:Int→Prop}(h:T158_0 prog K p0) :∃res0:Int,K res0∧Pus prog 158 [p0.av] (.i .i64 res0):=
 P1 hf J (w158_0 (h1 J fun _=>J) J h)
abbrev H159 (Q:AE→Sl→St→Prop)(K:Int→Prop):Prop:=∀(σ:Sl)(st:St)(res0:Int),σ 2=.i .i64 res0→K res0→Q .ret σ st
section
variable {prog:Prog}{d:Nat}{Q:AE→Sl→St→Prop}{K:Int→Prop}(hQ:H159 Q K){σ:Sl}{st:St}
include hQ
end
abbrev H179 (Q:AE→Sl→St→Prop)(K:BS→Prop):Prop:=∀(σ:Sl)(st:St)(res0:BS),σ 2=.s res0→K res0→Q .ret σ st
section
variable {prog:Prog}{d:Nat}{Q:AE→Sl→St→Prop}{K:BS→Prop}(hQ:H179 Q K){σ:Sl}{st:St}
include hQ
end
def r154_0:List AI:=[oY 1 7 0,oC 2 (.s []),oI 3 0]
def r154_1:List AI:=[oK 8 7 1,oQ 9 158 [8],oM 4 9]
def r154_2:List AI:=[oM 10 4,oV 11 .neq 10 0]
def r154_3:List AI:=[oM 12 4,oC 2 (.s []),oM 3 12]
def r154_4:List AI:=[oC 5 (.s [101,120,105,116])]
def r154_5:List AI:=[oF 13 0 1,oL 14 13]
def r154_6:List AI:=[oB 27 .eql (.t 14) (.c (.i .u64 0)),oM 26 27]
def r154_7:List AI:=[oB 29 .eql (.t 14) (.c (.i .u64 4)),oM 28 29]
def r154_8:List AI:=[oQ 30 178 [],oF 31 1 1,oF 32 1 31,oL 33 32,oO 34 (.ixA 4 1 false (.t 30) (.t 33)),oM 5 34]
def r154_9:List AI:=[oF 16 1 1,oK 17 5 16,oQ 18 72 [17],oM 15 18,oE 19 0 15,oE 20 1 15,oM 6 19,oM 7 20]
def r154_10:List AI:=[oM 21 7,oV 22 .neq 21 0]
def r154_11:List AI:=[oM 23 7,oC 2 (.s []),oM 3 23]
def r154_12:List AI:=[oM 24 6,oB 25 .add (.c (.s [112,97,110,105,99,32])) (.t 24),oM 5 25]
def r154_13:List AI:=[oF 35 6 1,oL 36 35,oB 37 .and (.t 36) (.c (.i .u64 1)),oB 38 .neq (.t 37) (.c (.i .u64 0))]
def r154_14:List AI:=[oM 39 5,oB 40 .add (.t 39) (.c (.s [32,114,101,99,111,118,101,114,101,100])),oM 5 40]
def r154_15:List AI:=[oF 41 6 1,oL 42 41,oB 43 .and (.t 42) (.c (.i .u64 4)),oB 44 .neq (.t 43) (.c (.i .u64 0))]
def r154_16:List AI:=[oM 45 5,oB 46 .add (.t 45) (.c (.s [32,97,98,111,114,116,101,100])),oM 5 46]
def r154_17:List AI:=[oM 47 5,oM 2 47,oI 3 0]
abbrev c154_0:AC:=(sR 17 r154_17 .ret)
abbrev c154_1:AC:=(.seq (sR 15 r154_15 (.cond (.t 44) (.reg 16 r154_16) .skip)) c154_0)
abbrev c154_2:AC:=(.seq (sR 13 r154_13 (.cond (.t 38) (.reg 14 r154_14) .skip)) c154_1)
abbrev b154:AC:=(sR 0 r154_0 (.seq (sR 1 r154_1 (sR 2 r154_2 (.cond (.t 11) (sR 3 r154_3 .ret) .skip))) (sR 4 r154_4 (.seq (sR 5 r154_5 (.block 0 (sR 10 r154_6 (.cond (.t 26) .skip (sR 11 r154_7 (.cond (.t 28) (.reg 12 r154_8) (sR 6 r154_9 (.seq (sR 7 r154_10 (.cond (.t 22) (sR 8 r154_11 .ret) .skip)) (.reg 9 r154_12))))))))) c154_2))))
def pf154:AF:={ nt:=48,res:=[.tmp 2,.tmp 3],body:=b154 }
def T154_3 (prog:Prog)(K:BS→Int→Prop)(s5:BS):Prop:=
  K s5 0
def T154_2 (prog:Prog)(K:BS→Int→Prop)(s5:BS)(m0:Pan):Prop:=
  ((bAnd .u64 m0.flags 4)≠0→s5.length+([32,97,98,111,114,116,101,100]:BS).length≤maxStr∧T154_3 prog K (s5++([32,97,98,111,114,116,101,100]:BS)))∧(¬((bAnd .u64 m0.flags 4)≠0)→T154_3 prog K s5)
def T154_1 (prog:Prog)(K:BS→Int→Prop)(s5:BS)(m0:Pan):Prop:=
  ((bAnd .u64 m0.flags 1)≠0→s5.length+([32,114,101,99,111,118,101,114,101,100]:BS).length≤maxStr∧T154_2 prog K (s5++([32,114,101,99,111,118,101,114,101,100]:BS)) m0)∧(¬((bAnd .u64 m0.flags 1)≠0)→T154_2 prog K s5 m0)
def T154_0 (prog:Prog)(K:BS→Int→Prop)(p0:Pan):Prop:=
  ∃c,Pus prog 158 [p0.av] (.i .i64 c)∧(c≠0→K ([]:BS) c)∧(¬(c≠0)→(p0.tag=0→T154_1 prog K ([101,120,105,116]:BS) p0)∧(¬(p0.tag=0)→(p0.tag=4→∃j:LB,Pus prog 178 [] (.ag (List.map AV.s j))∧j.length=4∧0≤p0.value.int∧∃o,(j:LB)[(p0.value.int).toNat]?=some o∧T154_1 prog K o p0)∧(¬(p0.tag=4)→∃k:BS,∃e,Pus prog 72 [p0.value.av] (.tup [.s k,.i .i64 e])∧(e≠0→K ([]:BS) e)∧(¬(e≠0)→([112,97,110,105,99,32]:BS).length+k.length≤maxStr∧T154_1 prog K (([112,97,110,105,99,32]:BS)++k) p0))))
section
variable {prog:Prog}{d:Nat}{Q:AE→Sl→St→Prop}{K:BS→Int→Prop}(hQ:H2 AV.s (AV.i .i64) 2 3 Q K){σ:Sl}{st:St}
include hQ
variable {s5:BS}{m0:Pan}{v0:Nat}{p0:Pan}
variable (H1:σ 1=.p (d,0) v0 0)(H0:σ 0=p0.av)(H5:σ 5=.s s5)(B0:lk st.bx (d,0)=some (v0,Pan.cs m0))
include H5 in
theorem w154_3 (h:T154_3 prog K s5):W prog d c154_0 σ st Q:=
 au trivial
include H1 H5 B0 in
theorem w154_2 (h:T154_2 prog K s5 m0):W prog d c154_1 σ st Q:=
 au @w154_3
include H1 H5 B0 in
theorem w154_1 (h:T154_1 prog K s5 m0):W prog d c154_2 σ st Q:=
 au @w154_2
include H0 in
theorem w154_0 (h:T154_0 prog K p0):W prog d (sR 0 r154_0 (.seq (sR 1 r154_1 (sR 2 r154_2 (.cond (.t 11) (sR 3 r154_3 .ret) .skip))) (sR 4 r154_4 (.seq (sR 5 r154_5 (.block 0 (sR 10 r154_6 (.cond (.t 26) .skip (sR 11 r154_7 (.cond (.t 28) (.reg 12 r154_8) (sR 6 r154_9 (.seq (sR 7 r154_10 (.cond (.t 22) (sR 8 r154_11 .ret) .skip)) (.reg 9 r154_12))))))))) c154_2)))) σ st Q:=
 au @w154_1
end
theorem p154 {prog:Prog}(hf:prog.fn 154=some pf154){p0:Pan}{K:BS→Int→Prop}(h:T154_0 prog K p0) :∃res0:BS,∃res1:Int,K res0 res1∧Pus prog 154 [p0.av] (.tup [.s res0,.i .i64 res1]):=
 P2 hf J (w154_0 (h2 J fun _ _=>J) J h)
abbrev H155 (Q:AE→Sl→St→Prop)(K:BS→Int→Prop):Prop:=∀(σ:Sl)(st:St)(res0:BS)(res1:Int),σ 2=.s res0→σ 3=.i .i64 res1→K res0 res1→Q .ret σ st
section
variable {prog:Prog}{d:Nat}{Q:AE→Sl→St→Prop}{K:BS→Int→Prop}(hQ:H155 Q K){σ:Sl}{st:St}
include hQ
end
end Go.AM

namespace Go.AM
open Go
set_option linter.unusedVariables false
set_option linter.unusedSimpArgs false
set_option maxRecDepth 4000
set_option maxHeartbeats 2000000
attribute [local irreducible] Decidable.decide W WO fillCells fillRows
def r181_0:List AI:=[oO 2 (.alloc [z7,z8,z6,zs,zl,zb,z7]),oC 3 (.b false)]
def r181_1:List AI:=[oM 12 0,oB 13 .eql (.t 12) (.c (.s [101,120,105,116]))]
def r181_2:List AI:=[oO 14 (.build [z7,z8,z6,zs,zl,zb,z7] [(6,1,(.c (.i .u64 2)))]),oS 7 2 14,oC 3 (.b true)]
def r181_3:List AI:=[oQ 15 178 [],oI 16 0]
def r181_4:List AI:=[oV 17 .lss 16 4]
def r181_5:List AI:=[oM 18 16,oO 19 (.ixA 4 1 false (.t 15) (.t 16)),oM 4 18,oM 5 19]
def r181_6:List AI:=[oM 20 4,oV 21 .gtr 20 0,oM 22 21,gT 22 (oM 23 5),gT 22 (oM 24 0),gT 22 (oT 25 .eql 23 24),oA 26 22 25]
def r181_7:List AI:=[oM 27 4,oO 28 (.build [z8,z6,zs,zl,zb] [(0,1,(.c (.i .u8 2))),(1,1,(.t 27))]),oO 29 (.build [z7,z8,z6,zs,zl,zb,z7] [(0,1,(.c (.i .u64 4))),(1,5,(.t 28))]),oS 7 2 29,oC 3 (.b true)]
def r181_8:List AI:=[oV 30 .add 16 1,oM 16 30]
def r181_9:List AI:=[oM 32 0,oO 33 (.call false 36 [(.t 32),(.c (.s [112,97,110,105,99,32]))]),oM 31 33,oE 34 0 31,oE 35 1 31,oM 6 34,oM 7 35]
def r181_10:List AI:=[oM 36 7,oZ 37 36]
def r181_11:List AI:=[oO 38 (.build [z7,z8,z6,zs,zl,zb,z7] []),oS 7 2 38,oC 3 (.b false)]
def r181_12:List AI:=[oM 40 6,oQ 41 74 [40],oM 39 41,oE 42 0 39,oE 43 1 39,oO 8 (.alloc [z8,z6,zs,zl,zb]),oS 5 8 42,oM 9 43]
def r181_13:List AI:=[oQ 44 183 [],oI 45 0]
def r181_14:List AI:=[oV 46 .lss 45 5]
def r181_15:List AI:=[oM 47 45,oO 48 (.ixA 5 1 false (.t 44) (.t 45)),oM 10 47,oM 11 48]
def r181_16:List AI:=[oM 49 9,oV 50 .eql 49 0,oM 51 50,gT 51 (oM 52 11),gT 51 (oF 53 0 8),gT 51 (oL 54 53),gT 51 (oT 55 .eql 52 54),oA 56 51 55]
def r181_17:List AI:=[oM 57 10,oO 58 (.cvi .u64 (.t 57)),oK 59 5 8,oO 60 (.build [z7,z8,z6,zs,zl,zb,z7] [(0,1,(.t 58)),(1,5,(.t 59))]),oS 7 2 60,oC 3 (.b true)]
def r181_18:List AI:=[oV 61 .add 45 1,oM 45 61]
def r181_19:List AI:=[oO 62 (.build [z7,z8,z6,zs,zl,zb,z7] []),oS 7 2 62,oC 3 (.b false)]
abbrev c181_0:AC:=(.cond (.t 26) (sR 7 r181_7 .ret) .skip)
abbrev l181_0:AC:=(sR 4 r181_4 (.seq (.cond (.t 17) .skip (.exit 0)) (.seq (.block 1 (sR 5 r181_5 (sR 6 r181_6 c181_0))) (.reg 8 r181_8))))
abbrev c181_2:AC:=(.cond (.t 56) (sR 17 r181_17 .ret) .skip)
abbrev l181_1:AC:=(sR 14 r181_14 (.seq (.cond (.t 46) .skip (.exit 2)) (.seq (.block 3 (sR 15 r181_15 (sR 16 r181_16 c181_2))) (.reg 18 r181_18))))
abbrev c181_4:AC:=(sR 19 r181_19 .ret)
abbrev c181_5:AC:=(sR 9 r181_9 (.seq (sR 10 r181_10 (.cond (.t 37) (sR 11 r181_11 .ret) .skip)) (sR 12 r181_12 (.seq (sR 13 r181_13 (.block 2 (.loop l181_1))) c181_4))))
abbrev c181_6:AC:=(.seq (sR 3 r181_3 (.block 0 (.loop l181_0))) c181_5)
abbrev c181_7:AC:=(.seq (sR 1 r181_1 (.cond (.t 13) (sR 2 r181_2 .ret) .skip)) c181_6)
abbrev b181:AC:=(sR 0 r181_0 c181_7)
def pf181:AF:={ nt:=63,res:=[.cell 2 7 true,.tmp 3],body:=b181 }
abbrev H181 (Q:AE→Sl→St→Prop)(K:Pan→Bool→Prop):Prop:=∀(σ:Sl)(st:St)(k0:Key)(v0:Nat)(o0_0:Own)(res0:Pan)(res1:Bool),σ 2=.p k0 v0 0→lk st.bx k0=some (v0,[.i .u64 res0.tag,.i .u8 res0.value.kind,.i .i64 res0.value.int,.s res0.value.text,.sl o0_0 (List.map Val.row res0.value.list),.b res0.value.cut,.i .u64 res0.flags])→σ 3=.b res1→K res0 res1→Q .ret σ st
abbrev I181_0 (prog:Prog)(d:Nat)(Q:AE→Sl→St→Prop)(s0:BS)(t15:LB)(t16:Int)(m0:Pan):Prop:=
  ∀(σ:Sl)(st:St)(o_m0_4:Own)(v0:Nat),σ 0=.s s0→σ 2=.p (d,0) v0 0→σ 15=.ag (List.map AV.s t15)→σ 16=.i .i64 t16→lk st.bx (d,0)=some (v0,[.i .u64 m0.tag,.i .u8 m0.value.kind,.i .i64 m0.value.int,.s m0.value.text,.sl o_m0_4 (List.map Val.row m0.value.list),.b m0.value.cut,.i .u64 m0.flags])→W prog d (.loop l181_0) σ st (blockW 0 (thenW prog d c181_5 Q))
def T181_4 (prog:Prog)(K:Pan→Bool→Prop)(P0:Int→Pan→Prop)(s0:BS)(n4:Int)(t15:LB)(t16:Int)(t26:Bool)(m0:Pan):Prop:=
  (t26=true→K (Pan.mk 4 (Val.mk 2 n4 [] ([]:List Val) false) 0) true)∧(t26=false→P0 (IntKind.i64.wrap (t16+1)) m0)
abbrev I181_1 (prog:Prog)(d:Nat)(Q:AE→Sl→St→Prop)(e9:Int)(t44:List (UInt8))(t45:Int)(m0:Pan)(m49157:Val):Prop:=
  ∀(σ:Sl)(st:St)(o_m0_4:Own) (v0 v49157:Nat),σ 2=.p (d,0) v0 0→σ 8=.p (d,49157) v49157 0→σ 9=.i .i64 e9→σ 44=.ag (List.map c8 t44)→σ 45=.i .i64 t45→lk st.bx (d,0)=some (v0,[.i .u64 m0.tag,.i .u8 m0.value.kind,.i .i64 m0.value.int,.s m0.value.text,.sl o_m0_4 (List.map Val.row m0.value.list),.b m0.value.cut,.i .u64 m0.flags])→lk st.bx (d,49157)=some (v49157,Val.cs m49157)→W prog d (.loop l181_1) σ st (blockW 2 (thenW prog d c181_4 Q))
def T181_7 (prog:Prog)(K:Pan→Bool→Prop)(P1:Int→Pan→Val→Prop)(e9:Int)(tag10:Int)(t44:List (UInt8))(t45:Int)(t56:Bool)(m0:Pan)(m49157:Val):Prop:=
  (t56=true→K (Pan.mk (IntKind.u64.wrap tag10) m49157 0) true)∧(t56=false→P1 (IntKind.i64.wrap (t45+1)) m0 m49157)
def T181_8 (prog:Prog)(K:Pan→Bool→Prop)(m0:Pan):Prop:=
  K (Pan.mk 0 (Val.mk 0 0 [] ([]:List Val) false) 0) false
def T181_6 (prog:Prog)(K:Pan→Bool→Prop)(P1:Int→Pan→Val→Prop)(e9:Int)(t44:List (UInt8))(t45:Int)(m0:Pan)(m49157:Val):Prop:=
  (t45<5→t44.length=5∧0≤t45∧∃c:UInt8,(t44:List (UInt8))[(t45).toNat]?=some c∧(e9=0→T181_7 prog K P1 e9 t45 t44 t45 (decide ((c.toNat:Int)=m49157.kind)) m0 m49157)∧(¬(e9=0)→T181_7 prog K P1 e9 t45 t44 t45 false m0 m49157))∧(¬(t45<5)→T181_8 prog K m0)
def T181_5 (prog:Prog)(K:Pan→Bool→Prop)(s0:BS)(m0:Pan):Prop:=
  ∃k c,Pus prog 36 [.s s0,.s ([112,97,110,105,99,32]:BS)] (.tup [.s k,.b c])∧((!c)=true→K (Pan.mk 0 (Val.mk 0 0 [] ([]:List Val) false) 0) false)∧((!c)=false→∃j:Val,∃e,Pus prog 74 [.s k] (.tup [j.av,.i .i64 e])∧∃o,Pus prog 183 [] (.ag (List.map c8 o))∧∀P1:Int→Pan→Val→Prop,(∀(t45:Int)(m0:Pan)(m49157:Val),T181_6 prog K P1 e o t45 m0 m49157→P1 t45 m0 m49157)→P1 0 m0 j)
def T181_3 (prog:Prog)(K:Pan→Bool→Prop)(P0:Int→Pan→Prop)(s0:BS)(t15:LB)(t16:Int)(m0:Pan):Prop:=
  (t16<4→t15.length=4∧0≤t16∧∃c,(t15:LB)[(t16).toNat]?=some c∧(t16>0→T181_4 prog K P0 s0 t16 t15 t16 (decide (c=s0)) m0)∧(¬(t16>0)→T181_4 prog K P0 s0 t16 t15 t16 false m0))∧(¬(t16<4)→T181_5 prog K s0 m0)
def T181_2 (prog:Prog)(K:Pan→Bool→Prop)(s0:BS)(m0:Pan):Prop:=
  ∃c,Pus prog 178 [] (.ag (List.map AV.s c))∧∀P0:Int→Pan→Prop,(∀(t16:Int)(m0:Pan),T181_3 prog K P0 s0 c t16 m0→P0 t16 m0)→P0 0 m0
def T181_1 (prog:Prog)(K:Pan→Bool→Prop)(s0:BS)(m0:Pan):Prop:=
  (s0=([101,120,105,116]:BS)→K (Pan.mk 0 (Val.mk 0 0 [] ([]:List Val) false) 2) true)∧(¬(s0=([101,120,105,116]:BS))→T181_2 prog K s0 m0)
def T181_0 (prog:Prog)(K:Pan→Bool→Prop)(s0:BS):Prop:=
  T181_1 prog K s0 (Pan.mk 0 (Val.mk 0 0 [] ([]:List Val) false) 0)
section
variable {prog:Prog}{d:Nat}{Q:AE→Sl→St→Prop}{K:Pan→Bool→Prop}(hQ:H181 Q K){σ:Sl}{st:St}
include hQ
variable {s0:BS}{n4:Int}{t15:LB}{t16:Int}{t26:Bool}{m0:Pan}{P0:Int→Pan→Prop}{o_m0_4:Own}{v0:Nat}{e9 tag10:Int}{t44:List (UInt8)}{t45:Int}{t56:Bool}{m49157:Val}{P1:Int→Pan→Val→Prop}{v49157:Nat}
variable (kP0 :∀(t16:Int)(m0:Pan),P0 t16 m0→I181_0 prog d Q s0 t15 t16 m0) (kP1 :∀(t45:Int)(m0:Pan)(m49157:Val),P1 t45 m0 m49157→I181_1 prog d Q e9 t44 t45 m0 m49157)(H0:σ 0=.s s0)(H2:σ 2=.p (d,0) v0 0)(H4:σ 4=.i .i64 n4)(H8:σ 8=.p (d,49157) v49157 0)(H15:σ 15=.ag (List.map AV.s t15))(H9:σ 9=.i .i64 e9)(H16:σ 16=.i .i64 t16)(H10:σ 10=.i .i64 tag10)(H26:σ 26=.b t26)(H44:σ 44=.ag (List.map c8 t44))(H45:σ 45=.i .i64 t45)(H56:σ 56=.b t56)(B0:lk st.bx (d,0)=some (v0,[.i .u64 m0.tag,.i .u8 m0.value.kind,.i .i64 m0.value.int,.s m0.value.text,.sl o_m0_4 (List.map Val.row m0.value.list),.b m0.value.cut,.i .u64 m0.flags]))(B49157:lk st.bx (d,49157)=some (v49157,Val.cs m49157))
include kP0 H0 H2 H4 H15 H16 H26 B0 in
theorem w181_4 (h:T181_4 prog K P0 s0 n4 t15 t16 t26 m0):W prog d c181_0 σ st (blockW 1 (thenW prog d (.reg 8 r181_8) (thenW prog d (.loop l181_0) (blockW 0 (thenW prog d c181_5 Q))))):=
 cb_ H26 (fun c=>q_ J (m_ (s_build (f_cons J J (f_cons H4 J f_nil)) (s_build (f_cons J J (f_cons J J f_nil)) (so_ H2 B0 J J J (m_ (er_ (hQ _ _ _ _ _ _ _ H2 lk_here J (h.1 c))))))))) (fun c=>sk_ (W.reg0 J fun _ _=>b_ H16 J add_ (m_ (e_ (kP0 _ _ (h.2 c) _ _ _ _ H0 H2 H15 J B0)))))
include kP1 H2 H8 H9 H10 H44 H45 H56 B0 B49157 in
theorem w181_7 (h:T181_7 prog K P1 e9 tag10 t44 t45 t56 m0 m49157):W prog d c181_2 σ st (blockW 3 (thenW prog d (.reg 18 r181_18) (thenW prog d (.loop l181_1) (blockW 2 (thenW prog d c181_4 Q))))):=
 cb_ H56 (fun c=>q_ J (m_ (s_cvi H10 (l_ H8 B49157 J J (s_build (f_cons J J (f_cons J J f_nil)) (so_ H2 B0 J J J (m_ (er_ (hQ _ _ _ _ _ _ _ H2 lk_here J (h.1 c)))))))))) (fun c=>sk_ (W.reg0 J fun _ _=>b_ H45 J add_ (m_ (e_ (kP1 _ _ _ (h.2 c) _ _ _ _ _ H2 H8 H9 H44 J B0 B49157)))))
include H2 B0 in
theorem w181_8 (h:T181_8 prog K m0):W prog d c181_4 σ st Q:=
 au trivial
include kP1 H2 H8 H9 H44 H45 B0 B49157 in
theorem w181_6 (h:T181_6 prog K P1 e9 t44 t45 m0 m49157):W prog d l181_1 σ st (thenW prog d (.loop l181_1) (blockW 2 (thenW prog d c181_4 Q))):=
 q_ J (b_ H45 J lss_ (e_ (sq_ (cs_ J (fun c=>sk_ (sq_ (bk_ (q_ J (m_ ((h.1 c).2.2.elim fun _ e=>s_ixA (f:=c8) (h.1 c).1 H44 H45 (h.1 c).2.1 e.1 (m_ (m_ (e_ (q_ J (s_mvI H9 (b_ J J eql_ (s_mvB J (em_ (g:=51) J (fun i=>gy_ J (s_mvI J (gy_ J (f_ H8 (gy_ J (l_ J B49157 J J (gy_ J (b_ J J eql_ (pt_ J J (e_ (w181_7 hQ kP1 H2 H8 H9 H45 H44 H45 J B0 B49157 (e.2.1 i)))))))))))) (fun i=>z_ 5 J (e_ (w181_7 hQ kP1 H2 H8 H9 H45 H44 H45 J B0 B49157 (e.2.2 i)))))))))))))))))) (fun c=>ex_ (w181_8 hQ H2 B0 (h.2 c)))))))
include H0 H2 B0 in
theorem w181_5 (h:T181_5 prog K s0 m0):W prog d c181_5 σ st Q:=
 q_ J (m_ (x2 h fun _ _ c=>ca_ (sc2 H0 J J) c.1 (m_ (x_ J J (x_ J J (m_ (m_ (e_ (sq_ (q_ J (m_ (nt_ J (e_ (cb_ J (fun e=>q_ J (s_build f_nil (so_ H2 B0 J J J (m_ (er_ (hQ _ _ _ _ _ _ _ H2 lk_here J (c.2.1 e))))))) (fun e=>sk_ (sq_ (W.reg (m_ (x2 (c.2.2 e) fun _ o j=>ca_ (sc1 J J) j.1 (m_ (x_ J J (x_ J J (s_alloc (so_ J (show lk _ (d,49157)=some (_,([.i .u8 0,.i .i64 0,.s [],.sl .full (List.map Val.row ([]:List Val)),.b false]:List AV)) from lk_here) J J J (m_ (e_ (sq_ (q_ J (j.2.elim fun p k=>ca_ sn k.1 (m_ (e_ (bk_ (k.2 (I181_1 prog d Q o p) (fun _ _ _ hb _ _ _ _ _ H2 H8 H9 H44 H45 B0 B49157=>W.loop (w181_6 hQ (fun _ _ _ x=>x) H2 H8 H9 H44 H45 B0 B49157 hb)) _ _ _ _ _ H2 J J J J (lk_other J (lk_other J B0)) lk_here)))))))))))))))))))))))))))))))))
include kP0 H0 H2 H15 H16 B0 in
theorem w181_3 (h:T181_3 prog K P0 s0 t15 t16 m0):W prog d l181_0 σ st (thenW prog d (.loop l181_0) (blockW 0 (thenW prog d c181_5 Q))):=
 q_ J (b_ H16 J lss_ (e_ (sq_ (cs_ J (fun c=>sk_ (sq_ (bk_ (q_ J (m_ ((h.1 c).2.2.elim fun _ e=>s_ixA (f:=AV.s) (h.1 c).1 H15 H16 (h.1 c).2.1 e.1 (m_ (m_ (e_ (q_ J (s_mvI H16 (b_ J J gtr_ (s_mvB J (em_ (g:=22) J (fun i=>gy_ J (s_mvS J (gy_ J (s_mvS H0 (gy_ J (b_ J J seq_ (pt_ J J (e_ (w181_4 hQ kP0 H0 H2 H16 H15 H16 J B0 (e.2.1 i)))))))))) (fun i=>z_ 4 J (e_ (w181_4 hQ kP0 H0 H2 H16 H15 H16 J B0 (e.2.2 i)))))))))))))))))) (fun c=>ex_ (w181_5 hQ H0 H2 B0 (h.2 c)))))))
include H0 H2 B0 in
theorem w181_2 (h:T181_2 prog K s0 m0):W prog d c181_6 σ st Q:=
 sq_ (q_ J (h.elim fun e c=>ca_ sn c.1 (m_ (e_ (bk_ (c.2 (I181_0 prog d Q s0 e) (fun _ _ hb _ _ _ _ H0 H2 H15 H16 B0=>W.loop (w181_3 hQ (fun _ _ x=>x) H0 H2 H15 H16 B0 hb)) _ _ _ _ H0 H2 J J B0))))))
include H0 H2 B0 in
theorem w181_1 (h:T181_1 prog K s0 m0):W prog d c181_7 σ st Q:=
 sq_ (q_ J (m_ (b_ H0 J seq_ (e_ (cs_ J (fun c=>q_ J (s_build (f_cons J J f_nil) (so_ H2 B0 J J J (m_ (er_ (hQ _ _ _ _ _ _ _ H2 lk_here J (h.1 c))))))) (fun c=>sk_ (w181_2 hQ H0 H2 B0 (h.2 c))))))))
include H0 in
theorem w181_0 (h:T181_0 prog K s0):W prog d (sR 0 r181_0 c181_7) σ st Q:=
 au @w181_1
end
theorem p181 {prog:Prog}(hf:prog.fn 181=some pf181){s0:BS}{K:Pan→Bool→Prop}(h:T181_0 prog K s0) :∃res0:Pan,∃res1:Bool,K res0 res1∧Pus prog 181 [.s s0] (.tup [res0.av,.b res1]):=by
  obtain ⟨v,hv,res0,res1,hk,rfl⟩:=Pus.of (K:=fun v=>∃res0:Pan,∃res1:Bool,K res0 res1∧v=.tup [res0.av,.b res1]) hf rfl (w181_0 (σ:=sl0 [.s s0]) (fun σ st k0 v0 o0_0 res0 res1 H2 HB2 H3 hk=>⟨.tup [res0.avo o0_0,.b res1],by simp only [pf181,ares,aresL,ares_cellA (n:=7) H2 HB2 rfl,H3,ares_tmp,Option.map_some],_,rfl,res0,res1,hk,rfl⟩) rfl h)
  exact ⟨res0,res1,hk,hv⟩
def r156_0:List AI:=[oO 2 (.alloc [z7,z8,z6,zs,zl,zb,z7]),oI 3 0]
def r156_1:List AI:=[oM 9 0,oH 10 9,oV 11 .gtr 10 2000]
def r156_2:List AI:=[oO 12 (.build [z7,z8,z6,zs,zl,zb,z7] []),oS 7 2 12,oI 3 4]
def r156_3:List AI:=[oM 14 0,oO 15 (.call false 180 [(.t 14),(.c (.s [32,97,98,111,114,116,101,100]))]),oM 13 15,oE 16 0 13,oE 17 1 13,oM 4 16,oM 5 17]
def r156_4:List AI:=[oM 19 4,oO 20 (.call false 180 [(.t 19),(.c (.s [32,114,101,99,111,118,101,114,101,100]))]),oM 18 20,oE 21 0 18,oE 22 1 18,oM 4 21,oM 6 22]
def r156_5:List AI:=[oM 24 4,oQ 25 181 [24],oM 23 25,oE 26 0 23,oE 27 1 23,oO 7 (.alloc [z7,z8,z6,zs,zl,zb,z7]),oS 7 7 26,oM 8 27]
def r156_6:List AI:=[oM 28 6]
def r156_7:List AI:=[oF 29 6 7,oL 30 29,oB 31 .or (.t 30) (.c (.i .u64 1)),oF 32 6 7,oS 1 32 31]
def r156_8:List AI:=[oM 33 5]
def r156_9:List AI:=[oF 34 6 7,oL 35 34,oB 36 .or (.t 35) (.c (.i .u64 4)),oF 37 6 7,oS 1 37 36]
def r156_10:List AI:=[oM 38 8,oZ 39 38,oM 40 39,gF 40 (oK 41 7 7),gF 40 (oQ 42 158 [41]),gF 40 (oV 43 .neq 42 0),oR 44 40 43]
def r156_11:List AI:=[oO 45 (.build [z7,z8,z6,zs,zl,zb,z7] []),oS 7 2 45,oI 3 12]
def r156_12:List AI:=[oK 46 7 7,oS 7 2 46,oI 3 0]
abbrev c156_0:AC:=(.seq (sR 10 r156_10 (.cond (.t 44) (sR 11 r156_11 .ret) .skip)) (sR 12 r156_12 .ret))
abbrev c156_1:AC:=(.seq (sR 8 r156_8 (.cond (.t 33) (.reg 9 r156_9) .skip)) c156_0)
abbrev b156:AC:=(sR 0 r156_0 (.seq (sR 1 r156_1 (.cond (.t 11) (sR 2 r156_2 .ret) .skip)) (sR 3 r156_3 (sR 4 r156_4 (sR 5 r156_5 (.seq (sR 6 r156_6 (.cond (.t 28) (.reg 7 r156_7) .skip)) c156_1))))))
def pf156:AF:={ nt:=47,res:=[.cell 2 7 true,.tmp 3],body:=b156 }
abbrev H156 (Q:AE→Sl→St→Prop)(K:Pan→Int→Prop):Prop:=∀(σ:Sl)(st:St)(k0:Key)(v0:Nat)(o0_0:Own)(res0:Pan)(res1:Int),σ 2=.p k0 v0 0→lk st.bx k0=some (v0,[.i .u64 res0.tag,.i .u8 res0.value.kind,.i .i64 res0.value.int,.s res0.value.text,.sl o0_0 (List.map Val.row res0.value.list),.b res0.value.cut,.i .u64 res0.flags])→σ 3=.i .i64 res1→K res0 res1→Q .ret σ st
def T156_2 (prog:Prog)(K:Pan→Int→Prop)(ok8:Bool)(m0:Pan)(m20485:Pan):Prop:=
  ((!ok8)=true→K (Pan.mk 0 (Val.mk 0 0 [] ([]:List Val) false) 0) 12)∧((!ok8)=false→∃c,Pus prog 158 [m20485.av] (.i .i64 c)∧(c≠0→K (Pan.mk 0 (Val.mk 0 0 [] ([]:List Val) false) 0) 12)∧(¬(c≠0)→K m20485 0))
def T156_1 (prog:Prog)(K:Pan→Int→Prop)(aborted5:Bool)(ok8:Bool)(m0:Pan)(m20485:Pan):Prop:=
  (aborted5=true→T156_2 prog K ok8 m0 (Pan.mk m20485.tag m20485.value (bOr .u64 m20485.flags 4)))∧(aborted5=false→T156_2 prog K ok8 m0 m20485)
def T156_0 (prog:Prog)(K:Pan→Int→Prop)(s0:BS):Prop:=
  ((s0.length:Int)>2000→K (Pan.mk 0 (Val.mk 0 0 [] ([]:List Val) false) 0) 4)∧(¬((s0.length:Int)>2000)→∃k e,Pus prog 180 [.s s0,.s ([32,97,98,111,114,116,101,100]:BS)] (.tup [.s k,.b e])∧∃o i,Pus prog 180 [.s k,.s ([32,114,101,99,111,118,101,114,101,100]:BS)] (.tup [.s o,.b i])∧∃c:Pan,∃j,Pus prog 181 [.s o] (.tup [c.av,.b j])∧(i=true→T156_1 prog K e j (Pan.mk 0 (Val.mk 0 0 [] ([]:List Val) false) 0) (Pan.mk c.tag c.value (bOr .u64 c.flags 1)))∧(i=false→T156_1 prog K e j (Pan.mk 0 (Val.mk 0 0 [] ([]:List Val) false) 0) c))
section
variable {prog:Prog}{d:Nat}{Q:AE→Sl→St→Prop}{K:Pan→Int→Prop}(hQ:H156 Q K){σ:Sl}{st:St}
include hQ
variable {ok8:Bool}{m0 m20485:Pan}{o_m0_4:Own}{v0 v20485:Nat}{aborted5:Bool}{s0:BS}
variable (H2:σ 2=.p (d,0) v0 0)(H0:σ 0=.s s0)(H5:σ 5=.b aborted5)(H7:σ 7=.p (d,20485) v20485 0)(H8:σ 8=.b ok8)(B0:lk st.bx (d,0)=some (v0,[.i .u64 m0.tag,.i .u8 m0.value.kind,.i .i64 m0.value.int,.s m0.value.text,.sl o_m0_4 (List.map Val.row m0.value.list),.b m0.value.cut,.i .u64 m0.flags]))(B20485:lk st.bx (d,20485)=some (v20485,Pan.cs m20485))
include H2 H7 H8 B0 B20485 in
theorem w156_2 (h:T156_2 prog K ok8 m0 m20485):W prog d c156_0 σ st Q:=
 au trivial
include H2 H5 H7 H8 B0 B20485 in
theorem w156_1 (h:T156_1 prog K aborted5 ok8 m0 m20485):W prog d c156_1 σ st Q:=
 au @w156_2
include H0 in
theorem w156_0 (h:T156_0 prog K s0):W prog d (sR 0 r156_0 (.seq (sR 1 r156_1 (.cond (.t 11) (sR 2 r156_2 .ret) .skip)) (sR 3 r156_3 (sR 4 r156_4 (sR 5 r156_5 (.seq (sR 6 r156_6 (.cond (.t 28) (.reg 7 r156_7) .skip)) c156_1)))))) σ st Q:=
 au @w156_1
end
theorem p156 {prog:Prog}(hf:prog.fn 156=some pf156){s0:BS}{K:Pan→Int→Prop}(h:T156_0 prog K s0) :∃res0:Pan,∃res1:Int,K res0 res1∧Pus prog 156 [.s s0] (.tup [res0.av,.i .i64 res1]):=by
  obtain ⟨v,hv,res0,res1,hk,rfl⟩:=Pus.of (K:=fun v=>∃res0:Pan,∃res1:Int,K res0 res1∧v=.tup [res0.av,.i .i64 res1]) hf rfl (w156_0 (σ:=sl0 [.s s0]) (fun σ st k0 v0 o0_0 res0 res1 H2 HB2 H3 hk=>⟨.tup [res0.avo o0_0,.i .i64 res1],by simp only [pf156,ares,aresL,ares_cellA (n:=7) H2 HB2 rfl,H3,ares_tmp,Option.map_some],_,rfl,res0,res1,hk,rfl⟩) rfl h)
  exact ⟨res0,res1,hk,hv⟩
abbrev H157 (Q:AE→Sl→St→Prop)(K:Pan→Int→Prop):Prop:=∀(σ:Sl)(st:St)(k0:Key)(v0:Nat)(o0_0:Own)(res0:Pan)(res1:Int),σ 2=.p k0 v0 0→lk st.bx k0=some (v0,[.i .u64 res0.tag,.i .u8 res0.value.kind,.i .i64 res0.value.int,.s res0.value.text,.sl o0_0 (List.map Val.row res0.value.list),.b res0.value.cut,.i .u64 res0.flags])→σ 3=.i .i64 res1→K res0 res1→Q .ret σ st
section
variable {prog:Prog}{d:Nat}{Q:AE→Sl→St→Prop}{K:Pan→Int→Prop}(hQ:H157 Q K){σ:Sl}{st:St}
include hQ
end
def r160_0:List AI:=[oY 2 7 0,oY 3 7 1,oC 4 (.b false)]
def r160_1:List AI:=[oF 5 0 2,oL 6 5,oF 7 0 3,oL 8 7,oT 9 .eql 6 8,oM 10 9,gT 10 (oF 11 6 2),gT 10 (oL 12 11),gT 10 (oF 13 6 3),gT 10 (oL 14 13),gT 10 (oT 15 .eql 12 14),oA 16 10 15,oM 17 16,gT 17 (oF 18 1 2),gT 17 (oK 19 5 18),gT 17 (oF 20 1 3),gT 17 (oK 21 5 20),gT 17 (oQ 22 78 [19,21]),oA 23 17 22,oM 4 23]
abbrev b160:AC:=(sR 0 r160_0 (sR 1 r160_1 .ret))
def pf160:AF:={ nt:=24,res:=[.tmp 4],body:=b160 }
def T160_0 (prog:Prog)(K:Bool→Prop)(a0:Pan)(b1:Pan):Prop:=
  (a0.tag=b1.tag→(a0.flags=b1.flags→∃c,Pus prog 78 [a0.value.av,b1.value.av] (.b c)∧K c)∧(¬(a0.flags=b1.flags)→K false))∧(¬(a0.tag=b1.tag)→K false)
section
variable {prog:Prog}{d:Nat}{Q:AE→Sl→St→Prop}{K:Bool→Prop}(hQ:H1 AV.b 4 Q K){σ:Sl}{st:St}
include hQ
variable {a0 b1:Pan}
variable (H0:σ 0=a0.av)(H1:σ 1=b1.av)
include H0 H1 in
theorem w160_0 (h:T160_0 prog K a0 b1):W prog d (sR 0 r160_0 (sR 1 r160_1 .ret)) σ st Q:=
 au trivial
end
theorem p160 {prog:Prog}(hf:prog.fn 160=some pf160){a0:Pan}{b1:Pan}{K:Bool→Prop}(h:T160_0 prog K a0 b1) :∃res0:Bool,K res0∧Pus prog 160 [a0.av,b1.av] (.b res0):=
 P1 hf J (w160_0 (h1 J fun _=>J) J J h)
abbrev H148 (Q:AE→Sl→St→Prop)(K:Bool→Prop):Prop:=∀(σ:Sl)(st:St)(res0:Bool),σ 4=.b res0→K res0→Q .ret σ st
section
variable {prog:Prog}{d:Nat}{Q:AE→Sl→St→Prop}{K:Bool→Prop}(hQ:H148 Q K){σ:Sl}{st:St}
include hQ
end
end Go.AM

namespace Go.AM
open Go
set_option linter.unusedVariables false
set_option linter.unusedSimpArgs false
set_option maxRecDepth 4000
set_option maxHeartbeats 2000000
attribute [local irreducible] Decidable.decide W WO fillCells fillRows
abbrev H185 (Q:AE→Sl→St→Prop)(K:Int→Prop):Prop:=∀(σ:Sl)(st:St)(res0:Int),σ 2=.i .i64 res0→K res0→Q .ret σ st
section
variable {prog:Prog}{d:Nat}{Q:AE→Sl→St→Prop}{K:Int→Prop}(hQ:H185 Q K){σ:Sl}{st:St}
include hQ
end
abbrev H163 (Q:AE→Sl→St→Prop)(K:Int→Prop):Prop:=∀(σ:Sl)(st:St)(res0:Int),σ 2=.i .i64 res0→K res0→Q .ret σ st
section
variable {prog:Prog}{d:Nat}{Q:AE→Sl→St→Prop}{K:Int→Prop}(hQ:H163 Q K){σ:Sl}{st:St}
include hQ
end
abbrev H165 (Q:AE→Sl→St→Prop)(K:Int→Int→Prop):Prop:=∀(σ:Sl)(st:St)(res0:Int)(res1:Int),σ 2=.i .i64 res0→σ 3=.i .i64 res1→K res0 res1→Q .ret σ st
section
variable {prog:Prog}{d:Nat}{Q:AE→Sl→St→Prop}{K:Int→Int→Prop}(hQ:H165 Q K){σ:Sl}{st:St}
include hQ
end
def r169_0:List AI:=[oI 2 0,oI 3 0]
def r169_1:List AI:=[oM 6 0,oQ 7 163 [6],oM 4 7]
def r169_2:List AI:=[oM 8 4,oV 9 .neq 8 0]
def r169_3:List AI:=[oM 10 4,oI 2 0,oM 3 10]
def r169_4:List AI:=[oI 5 0]
def r169_5:List AI:=[oM 11 5,oM 12 0,oJ 13 12,oT 14 .lss 11 13]
def r169_6:List AI:=[oM 17 0,oM 18 5,oX 19 7 17 18,oF 20 6 19,oL 21 20,oB 22 .eql (.t 21) (.c (.i .u64 0))]
def r169_7:List AI:=[oM 23 5,oM 2 23,oI 3 0]
def r169_8:List AI:=[oM 15 5,oV 16 .add 15 1,oM 5 16]
def r169_9:List AI:=[oI 2 0,oI 3 6]
abbrev l169_0:AC:=(.seq (sR 5 r169_5 (.cond (.t 14) .skip (.exit 0))) (.seq (.block 1 (sR 7 r169_6 (.cond (.t 22) (sR 8 r169_7 .ret) .skip))) (.reg 6 r169_8)))
abbrev c169_1:AC:=(sR 9 r169_9 .ret)
abbrev b169:AC:=(sR 0 r169_0 (.seq (sR 1 r169_1 (sR 2 r169_2 (.cond (.t 9) (sR 3 r169_3 .ret) .skip))) (.seq (sR 4 r169_4 (.block 0 (.loop l169_0))) c169_1)))
def pf169:AF:={ nt:=24,res:=[.tmp 2,.tmp 3],body:=b169 }
abbrev H169 (Q:AE→Sl→St→Prop)(K:Int→Int→Prop):Prop:=∀(σ:Sl)(st:St)(res0:Int)(res1:Int),σ 2=.i .i64 res0→σ 3=.i .i64 res1→K res0 res1→Q .ret σ st
section
variable {prog:Prog}{d:Nat}{Q:AE→Sl→St→Prop}{K:Int→Int→Prop}(hQ:H169 Q K){σ:Sl}{st:St}
include hQ
end
def r170_0:List AI:=[oC 4 (.b false)]
def r170_1:List AI:=[oM 6 0,oJ 7 6,oM 8 1,oJ 9 8,oT 10 .neq 7 9]
def r170_2:List AI:=[oC 4 (.b false)]
def r170_3:List AI:=[oI 5 0]
def r170_4:List AI:=[oM 11 5,oM 12 0,oJ 13 12,oT 14 .lss 11 13]
def r170_5:List AI:=[oM 17 0,oM 18 5,oX 19 7 17 18,oK 20 7 19,oM 21 1,oM 22 5,oX 23 7 21 22,oK 24 7 23,oQ 25 160 [20,24],oZ 26 25]
def r170_6:List AI:=[oC 4 (.b false)]
def r170_7:List AI:=[oM 15 5,oV 16 .add 15 1,oM 5 16]
def r170_8:List AI:=[oC 4 (.b true)]
abbrev l170_0:AC:=(.seq (sR 4 r170_4 (.cond (.t 14) .skip (.exit 0))) (.seq (.block 1 (sR 6 r170_5 (.cond (.t 26) (sR 7 r170_6 .ret) .skip))) (.reg 5 r170_7)))
abbrev c170_1:AC:=(sR 8 r170_8 .ret)
abbrev b170:AC:=(sR 0 r170_0 (.seq (sR 1 r170_1 (.cond (.t 10) (sR 2 r170_2 .ret) .skip)) (.seq (sR 3 r170_3 (.block 0 (.loop l170_0))) c170_1)))
def pf170:AF:={ nt:=27,res:=[.tmp 4],body:=b170 }
abbrev I170_0 (prog:Prog)(d:Nat)(Q:AE→Sl→St→Prop)(a0:List Pan)(b1:List Pan)(i5:Int):Prop:=
  ∀(σ:Sl)(st:St) (o_a0 o_b1:Own),σ 0=.sl o_a0 (List.map Pan.row a0)→σ 1=.sl o_b1 (List.map Pan.row b1)→σ 5=.i .i64 i5→W prog d (.loop l170_0) σ st (blockW 0 (thenW prog d c170_1 Q))
def T170_2 (prog:Prog)(K:Bool→Prop) :Prop:=
  K true
def T170_1 (prog:Prog)(K:Bool→Prop)(P0:Int→Prop)(a0:List Pan)(b1:List Pan)(i5:Int):Prop:=
  (i5<(a0.length:Int)→0≤i5∧∃e:Pan,a0[(i5).toNat]?=some e∧0≤i5∧∃i:Pan,b1[(i5).toNat]?=some i∧∃c,Pus prog 160 [e.av,i.av] (.b c)∧((!c)=true→K false)∧((!c)=false→P0 (IntKind.i64.wrap (i5+1))))∧(¬(i5<(a0.length:Int))→T170_2 prog K )
def T170_0 (prog:Prog)(K:Bool→Prop)(a0:List Pan)(b1:List Pan):Prop:=
  ((a0.length:Int)≠(b1.length:Int)→K false)∧(¬((a0.length:Int)≠(b1.length:Int))→∀P0:Int→Prop,(∀(i5:Int),T170_1 prog K P0 a0 b1 i5→P0 i5)→P0 0)
section
variable {prog:Prog}{d:Nat}{Q:AE→Sl→St→Prop}{K:Bool→Prop}(hQ:H1 AV.b 4 Q K){σ:Sl}{st:St}
include hQ
variable {a0 b1:List Pan}{i5:Int}{P0:Int→Prop}{o_a0 o_b1:Own}
variable (kP0 :∀(i5:Int),P0 i5→I170_0 prog d Q a0 b1 i5)(H0:σ 0=.sl o_a0 (List.map Pan.row a0))(H1:σ 1=.sl o_b1 (List.map Pan.row b1))(H5:σ 5=.i .i64 i5)
theorem w170_2 (h:T170_2 prog K ):W prog d c170_1 σ st Q:=
 au trivial
include kP0 H0 H1 H5 in
theorem w170_1 (h:T170_1 prog K P0 a0 b1 i5):W prog d l170_0 σ st (thenW prog d (.loop l170_0) (blockW 0 (thenW prog d c170_1 Q))):=
 au @w170_2
include H0 H1 in
theorem w170_0 (h:T170_0 prog K a0 b1):W prog d (sR 0 r170_0 (.seq (sR 1 r170_1 (.cond (.t 10) (sR 2 r170_2 .ret) .skip)) (.seq (sR 3 r170_3 (.block 0 (.loop l170_0))) c170_1))) σ st Q:=
 q_ J (m_ (e_ (sq_ (q_ J (s_mvL H0 (ll_ J (s_mvL H1 (ll_ J (b_ J J neq_ (e_ (cs_ J (fun c=>q_ J (m_ (er_ (hQ J (h.1 c))))) (fun c=>sk_ (sq_ (q_ J (m_ (e_ (bk_ ((h.2 c) (I170_0 prog d Q a0 b1) (fun _ hb _ _ _ _ H0 H1 H5=>W.loop (w170_1 hQ (fun _ x=>x) H0 H1 H5 hb)) _ _ _ _ H0 H1 J))))))))))))))))))
end
theorem p170 {prog:Prog}(hf:prog.fn 170=some pf170){a0:List Pan}{b1:List Pan}{K:Bool→Prop}(h:T170_0 prog K a0 b1) :∃res0:Bool,K res0∧Pus prog 170 [.sl .ext (List.map Pan.row a0),.sl .ext (List.map Pan.row b1)] (.b res0):=
 P1 hf J (w170_0 (h1 J fun _=>J) J J h)
def r162_0:List AI:=[oC 2 (.b false)]
def r162_1:List AI:=[oM 4 0,oJ 5 4,oV 6 .gtr 5 20,oM 7 6,gT 7 (oM 8 0),gT 7 (oJ 9 8),gT 7 (oV 10 .leq 9 410),oA 11 7 10,oM 12 11,gF 12 (oM 13 0),gF 12 (oJ 14 13),gF 12 (oV 15 .gtr 14 420),oR 16 12 15]
def r162_2:List AI:=[oC 2 (.b true)]
def r162_3:List AI:=[oI 3 0]
def r162_4:List AI:=[oM 17 3,oM 18 0,oJ 19 18,oT 20 .lss 17 19]
def r162_5:List AI:=[oM 23 0,oM 24 3,oX 25 7 23 24,oF 26 1 25,oK 27 5 26,oQ 28 71 [27]]
def r162_6:List AI:=[oC 2 (.b true)]
def r162_7:List AI:=[oM 21 3,oV 22 .add 21 1,oM 3 22]
def r162_8:List AI:=[oC 2 (.b false)]
abbrev l162_0:AC:=(.seq (sR 4 r162_4 (.cond (.t 20) .skip (.exit 0))) (.seq (.block 1 (sR 6 r162_5 (.cond (.t 28) (sR 7 r162_6 .ret) .skip))) (.reg 5 r162_7)))
abbrev c162_1:AC:=(sR 8 r162_8 .ret)
abbrev c162_2:AC:=(.seq (sR 3 r162_3 (.block 0 (.loop l162_0))) c162_1)
abbrev b162:AC:=(sR 0 r162_0 (.seq (sR 1 r162_1 (.cond (.t 16) (sR 2 r162_2 .ret) .skip)) c162_2))
def pf162:AF:={ nt:=29,res:=[.tmp 2],body:=b162 }
abbrev I162_0 (prog:Prog)(d:Nat)(Q:AE→Sl→St→Prop)(l0:List Pan)(i3:Int):Prop:=
  ∀(σ:Sl)(st:St)(o_l0:Own),σ 0=.sl o_l0 (List.map Pan.row l0)→σ 3=.i .i64 i3→W prog d (.loop l162_0) σ st (blockW 0 (thenW prog d c162_1 Q))
def T162_3 (prog:Prog)(K:Bool→Prop) :Prop:=
  K false
def T162_2 (prog:Prog)(K:Bool→Prop)(P0:Int→Prop)(l0:List Pan)(i3:Int):Prop:=
  (i3<(l0.length:Int)→0≤i3∧∃e:Pan,l0[(i3).toNat]?=some e∧∃c,Pus prog 71 [e.value.av] (.b c)∧(c=true→K true)∧(c=false→P0 (IntKind.i64.wrap (i3+1))))∧(¬(i3<(l0.length:Int))→T162_3 prog K )
def T162_1 (prog:Prog)(K:Bool→Prop)(l0:List Pan):Prop:=
  ∀P0:Int→Prop,(∀(i3:Int),T162_2 prog K P0 l0 i3→P0 i3)→P0 0
def T162_0 (prog:Prog)(K:Bool→Prop)(l0:List Pan):Prop:=
  ((l0.length:Int)>20→((l0.length:Int)≤410→K true)∧(¬((l0.length:Int)≤410)→((l0.length:Int)>420→K true)∧(¬((l0.length:Int)>420)→T162_1 prog K l0)))∧(¬((l0.length:Int)>20)→((l0.length:Int)>420→K true)∧(¬((l0.length:Int)>420)→T162_1 prog K l0))
section
variable {prog:Prog}{d:Nat}{Q:AE→Sl→St→Prop}{K:Bool→Prop}(hQ:H1 AV.b 2 Q K){σ:Sl}{st:St}
include hQ
variable {l0:List Pan}{i3:Int}{P0:Int→Prop}{o_l0:Own}
variable (kP0 :∀(i3:Int),P0 i3→I162_0 prog d Q l0 i3)(H0:σ 0=.sl o_l0 (List.map Pan.row l0))(H3:σ 3=.i .i64 i3)
theorem w162_3 (h:T162_3 prog K ):W prog d c162_1 σ st Q:=
 au trivial
include kP0 H0 H3 in
theorem w162_2 (h:T162_2 prog K P0 l0 i3):W prog d l162_0 σ st (thenW prog d (.loop l162_0) (blockW 0 (thenW prog d c162_1 Q))):=
 au @w162_3
include H0 in
theorem w162_1 (h:T162_1 prog K l0):W prog d c162_2 σ st Q:=
 sq_ (q_ J (m_ (e_ (bk_ (h (I162_0 prog d Q l0) (fun _ hb _ _ _ H0 H3=>W.loop (w162_2 hQ (fun _ x=>x) H0 H3 hb)) _ _ _ H0 J)))))
include H0 in
theorem w162_0 (h:T162_0 prog K l0):W prog d (sR 0 r162_0 (.seq (sR 1 r162_1 (.cond (.t 16) (sR 2 r162_2 .ret) .skip)) c162_2)) σ st Q:=
 au @w162_1
end
theorem p162 {prog:Prog}(hf:prog.fn 162=some pf162){l0:List Pan}{K:Bool→Prop}(h:T162_0 prog K l0) :∃res0:Bool,K res0∧Pus prog 162 [.sl .ext (List.map Pan.row l0)] (.b res0):=
 P1 hf J (w162_0 (h1 J fun _=>J) J h)
abbrev H164 (Q:AE→Sl→St→Prop)(K:BS→Int→Prop):Prop:=∀(σ:Sl)(st:St)(res0:BS)(res1:Int),σ 2=.s res0→σ 3=.i .i64 res1→K res0 res1→Q .ret σ st
section
variable {prog:Prog}{d:Nat}{Q:AE→Sl→St→Prop}{K:BS→Int→Prop}(hQ:H164 Q K){σ:Sl}{st:St}
include hQ
end
abbrev H166 (Q:AE→Sl→St→Prop)(K:BS→Int→Prop):Prop:=∀(σ:Sl)(st:St)(res0:BS)(res1:Int),σ 2=.s res0→σ 3=.i .i64 res1→K res0 res1→Q .ret σ st
section
variable {prog:Prog}{d:Nat}{Q:AE→Sl→St→Prop}{K:BS→Int→Prop}(hQ:H166 Q K){σ:Sl}{st:St}
include hQ
end
abbrev H171 (Q:AE→Sl→St→Prop)(K:Bool→Prop):Prop:=∀(σ:Sl)(st:St)(res0:Bool),σ 4=.b res0→K res0→Q .ret σ st
section
variable {prog:Prog}{d:Nat}{Q:AE→Sl→St→Prop}{K:Bool→Prop}(hQ:H171 Q K){σ:Sl}{st:St}
include hQ
end
abbrev H172 (Q:AE→Sl→St→Prop)(K:Val→Prop):Prop:=∀(σ:Sl)(st:St)(k0:Key)(v0:Nat)(o0_0:Own)(res0:Val),σ 2=.p k0 v0 0→lk st.bx k0=some (v0,[.i .u8 res0.kind,.i .i64 res0.int,.s res0.text,.sl o0_0 (List.map Val.row res0.list),.b res0.cut])→K res0→Q .ret σ st
section
variable {prog:Prog}{d:Nat}{Q:AE→Sl→St→Prop}{K:Val→Prop}(hQ:H172 Q K){σ:Sl}{st:St}
include hQ
end
abbrev H173 (Q:AE→Sl→St→Prop)(K:Val→Prop):Prop:=∀(σ:Sl)(st:St)(k0:Key)(v0:Nat)(o0_0:Own)(res0:Val),σ 0=.p k0 v0 0→lk st.bx k0=some (v0,[.i .u8 res0.kind,.i .i64 res0.int,.s res0.text,.sl o0_0 (List.map Val.row res0.list),.b res0.cut])→K res0→Q .ret σ st
section
variable {prog:Prog}{d:Nat}{Q:AE→Sl→St→Prop}{K:Val→Prop}(hQ:H173 Q K){σ:Sl}{st:St}
include hQ
end
abbrev H174 (Q:AE→Sl→St→Prop)(K:Val→Prop):Prop:=∀(σ:Sl)(st:St)(k0:Key)(v0:Nat)(o0_0:Own)(res0:Val),σ 2=.p k0 v0 0→lk st.bx k0=some (v0,[.i .u8 res0.kind,.i .i64 res0.int,.s res0.text,.sl o0_0 (List.map Val.row res0.list),.b res0.cut])→K res0→Q .ret σ st
section
variable {prog:Prog}{d:Nat}{Q:AE→Sl→St→Prop}{K:Val→Prop}(hQ:H174 Q K){σ:Sl}{st:St}
include hQ
end
abbrev H176 (Q:AE→Sl→St→Prop)(K:Bool→Prop):Prop:=∀(σ:Sl)(st:St)(res0:Bool),σ 2=.b res0→K res0→Q .ret σ st
section
variable {prog:Prog}{d:Nat}{Q:AE→Sl→St→Prop}{K:Bool→Prop}(hQ:H176 Q K){σ:Sl}{st:St}
include hQ
end
abbrev H184 (d:Nat)(st0:St)(Q:AE→Sl→St→Prop)(K:List Pan→Prop):Prop:=∀(σ:Sl)(st:St)(res0:List Pan),σ 0=.sl .full (List.map Pan.row res0)→Fr d (d,0) st0.bx st0.ow st.bx st.ow→K res0→Q .ret σ st
section
variable {prog:Prog}{d:Nat}{Q:AE→Sl→St→Prop}{K:List Pan→Prop}{st0:St}(hQ:H184 d st0 Q K){σ:Sl}{st:St}
include hQ
end
abbrev H161 (Q:AE→Sl→St→Prop)(K:Bool→Prop):Prop:=∀(σ:Sl)(st:St)(res0:Bool),σ 0=.b res0→K res0→Q .ret σ st
section
variable {prog:Prog}{d:Nat}{Q:AE→Sl→St→Prop}{K:Bool→Prop}(hQ:H161 Q K){σ:Sl}{st:St}
include hQ
end
end Go.AM

namespace Go.AM
open Go
set_option linter.unusedVariables false
set_option linter.unusedSimpArgs false
set_option maxRecDepth 4000
attribute [local irreducible] WO fillCells fillRows
abbrev H149 (Q:AE→Sl→St→Prop)(K:Bool→Prop):Prop:=∀(σ:Sl)(st:St)(res0:Bool),σ 4=.b res0→K res0→Q .ret σ st
section
variable {prog:Prog}{d:Nat}{Q:AE→Sl→St→Prop}{K:Bool→Prop}(hQ:H149 Q K){σ:Sl}{st:St}
include hQ
end
abbrev H150 (Q:AE→Sl→St→Prop)(K:Bool→Prop):Prop:=∀(σ:Sl)(st:St)(res0:Bool),σ 2=.b res0→K res0→Q .ret σ st
section
variable {prog:Prog}{d:Nat}{Q:AE→Sl→St→Prop}{K:Bool→Prop}(hQ:H150 Q K){σ:Sl}{st:St}
include hQ
end
end Go.AM

namespace Go.AM
open Go
set_option linter.unusedVariables false
set_option linter.unusedSimpArgs false
set_option maxRecDepth 4000
set_option maxHeartbeats 2000000
attribute [local irreducible] Decidable.decide W WO fillCells fillRows
def r215_0:List AI:=[oO 0 (.alloc [zs,zs,zs,zs,zs,zs,zs,zs,zs])]
def r215_1:List AI:=[oO 1 (.build [zs,zs,zs,zs,zs,zs,zs,zs,zs] [(1,1,(.c (.s [110,111,114,109,97,108]))),(2,1,(.c (.s [112,97,110,105,99]))),(3,1,(.c (.s [100,101,97,100,108,111,99,107]))),(4,1,(.c (.s [115,116,97,99,107]))),(5,1,(.c (.s [104,101,97,112]))),(6,1,(.c (.s [114,111,117,116,105,110,101,115]))),(7,1,(.c (.s [115,116,101,112,115]))),(8,1,(.c (.s [115,99,114,105,112,116])))]),oS 9 0 1]
abbrev b215:AC:=(sR 0 r215_0 (sR 1 r215_1 .ret))
def pf215:AF:={ nt:=2,res:=[.cell 0 9 true],body:=b215 }
abbrev H215 (Q:AE→Sl→St→Prop)(K:LB→Prop):Prop:=∀(σ:Sl)(st:St)(k0:Key)(v0:Nat)(res0:LB),σ 0=.p k0 v0 0→lk st.bx k0=some (v0,List.map AV.s res0)→res0.length=9→K res0→Q .ret σ st
def T215_0 (prog:Prog)(K:LB→Prop) :Prop:=
  K [[],([110,111,114,109,97,108]:BS),([112,97,110,105,99]:BS),([100,101,97,100,108,111,99,107]:BS),([115,116,97,99,107]:BS),([104,101,97,112]:BS),([114,111,117,116,105,110,101,115]:BS),([115,116,101,112,115]:BS),([115,99,114,105,112,116]:BS)]
section
variable {prog:Prog}{d:Nat}{Q:AE→Sl→St→Prop}{K:LB→Prop}(hQ:H215 Q K){σ:Sl}{st:St}
include hQ
theorem w215_0 (h:T215_0 prog K ):W prog d (sR 0 r215_0 (sR 1 r215_1 .ret)) σ st Q:=
 sq_ (W.reg (s_alloc (e_ (q_ J (s_buildM (f:=AV.s) (l:=[[],([110,111,114,109,97,108]:BS),([112,97,110,105,99]:BS),([100,101,97,100,108,111,99,107]:BS),([115,116,97,99,107]:BS),([104,101,97,112]:BS),([114,111,117,116,105,110,101,115]:BS),([115,116,101,112,115]:BS),([115,99,114,105,112,116]:BS)]) (f_cons J J (f_cons J J (f_cons J J (f_cons J J (f_cons J J (f_cons J J (f_cons J J (f_cons J J f_nil)))))))) J (s_storeArr (f:=AV.s) (fun _=>J) J (show lk _ (d,0)=some (_,(List.map AV.s (List.replicate 9 ([]:BS)):List AV)) from lk_here) (by simp) J J (er_ (hQ _ _ _ _ _ J lk_here (by simp) h))))))))
end
theorem p215 {prog:Prog}(hf:prog.fn 215=some pf215)  {K:LB→Prop}(h:T215_0 prog K ) :∃res0:LB,K res0∧Pus prog 215 [] (.ag (List.map AV.s res0)):=by
  obtain ⟨v,hv,res0,hk,rfl⟩:=Pus.of (K:=fun v=>∃res0:LB,K res0∧v=.ag (List.map AV.s res0)) hf rfl (w215_0 (σ:=sl0 []) (fun σ st k0 v0  res0 H0 HB0 HL0 hk=>⟨.ag (List.map AV.s res0),by simp only [pf215,ares,aresL,ares_cellA (n:=9) H0 HB0 (by simpa using HL0),ares_tmp,Option.map_some],_,strip_ag AV.s (fun _=>rfl) _,res0,hk,rfl⟩)  h)
  exact ⟨res0,hk,hv⟩
def r216_0:List AI:=[oC 2 (.s [])]
def r216_1:List AI:=[oM 3 0,oQ 4 15 [3],oM 2 4]
abbrev b216:AC:=(sR 0 r216_0 (sR 1 r216_1 .ret))
def pf216:AF:={ nt:=5,res:=[.tmp 2],body:=b216 }
def T216_0 (prog:Prog)(K:BS→Prop)(n0:Int):Prop:=
  ∃c,Pus prog 15 [.i .i64 n0] (.s c)∧K c
section
variable {prog:Prog}{d:Nat}{Q:AE→Sl→St→Prop}{K:BS→Prop}(hQ:H1 AV.s 2 Q K){σ:Sl}{st:St}
include hQ
variable {n0:Int}
variable (H0:σ 0=.i .i64 n0)
include H0 in
theorem w216_0 (h:T216_0 prog K n0):W prog d (sR 0 r216_0 (sR 1 r216_1 .ret)) σ st Q:=
 au trivial
end
theorem p216 {prog:Prog}(hf:prog.fn 216=some pf216){n0:Int}{K:BS→Prop}(h:T216_0 prog K n0) :∃res0:BS,K res0∧Pus prog 216 [.i .i64 n0] (.s res0):=
 P1 hf J (w216_0 (h1 J fun _=>J) J h)
abbrev H223 (Q:AE→Sl→St→Prop)(K:LB→Prop):Prop:=∀(σ:Sl)(st:St)(o0:Own)(res0:LB),σ 0=.sl o0 (List.map rowS res0)→K res0→Q .ret σ st
section
variable {prog:Prog}{d:Nat}{Q:AE→Sl→St→Prop}{K:LB→Prop}(hQ:H223 Q K){σ:Sl}{st:St}
include hQ
end
abbrev H226 (Q:AE→Sl→St→Prop)(K:BS→Prop):Prop:=∀(σ:Sl)(st:St)(res0:BS),σ 2=.s res0→K res0→Q .ret σ st
section
variable {prog:Prog}{d:Nat}{Q:AE→Sl→St→Prop}{K:BS→Prop}(hQ:H226 Q K){σ:Sl}{st:St}
include hQ
end
abbrev H209 (Q:AE→Sl→St→Prop)(K:BS→Int→Prop):Prop:=∀(σ:Sl)(st:St)(res0:BS)(res1:Int),σ 2=.s res0→σ 3=.i .i64 res1→K res0 res1→Q .ret σ st
section
variable {prog:Prog}{d:Nat}{Q:AE→Sl→St→Prop}{K:BS→Int→Prop}(hQ:H209 Q K){σ:Sl}{st:St}
include hQ
end
abbrev H210 (Q:AE→Sl→St→Prop)(K:BS→Int→Prop):Prop:=∀(σ:Sl)(st:St)(res0:BS)(res1:Int),σ 2=.s res0→σ 3=.i .i64 res1→K res0 res1→Q .ret σ st
section
variable {prog:Prog}{d:Nat}{Q:AE→Sl→St→Prop}{K:BS→Int→Prop}(hQ:H210 Q K){σ:Sl}{st:St}
include hQ
end
def r211_0:List AI:=[oU 2 0,oI 3 0]
def r211_1:List AI:=[oQ 6 215 [],oO 4 (.alloc [zs,zs,zs,zs,zs,zs,zs,zs,zs]),oS 9 4 6]
def r211_2:List AI:=[oO 7 (.slA 9 1 (.t 4) none none),oM 8 0,oQ 9 141 [7,8],oM 5 9]
def r211_3:List AI:=[oM 10 5,oV 11 .lss 10 1]
def r211_4:List AI:=[oU 2 0,oI 3 12]
def r211_5:List AI:=[oM 12 5,oO 13 (.cvi .u8 (.t 12)),oM 2 13,oI 3 0]
abbrev b211:AC:=(sR 0 r211_0 (sR 1 r211_1 (sR 2 r211_2 (.seq (sR 3 r211_3 (.cond (.t 11) (sR 4 r211_4 .ret) .skip)) (sR 5 r211_5 .ret)))))
def pf211:AF:={ nt:=14,res:=[.tmp 2,.tmp 3],body:=b211 }
def T211_0 (prog:Prog)(K:Int→Int→Prop)(s0:BS):Prop:=
  ∃c:LB,Pus prog 215 [] (.ag (List.map AV.s c))∧c.length=9∧c.length=9∧∃e,Pus prog 141 [.sl .ext (List.map rowS c),.s s0] (.i .i64 e)∧(e<1→K 0 12)∧(¬(e<1)→K (IntKind.u8.wrap e) 0)
section
variable {prog:Prog}{d:Nat}{Q:AE→Sl→St→Prop}{K:Int→Int→Prop}(hQ:H2 (AV.i .u8) (AV.i .i64) 2 3 Q K){σ:Sl}{st:St}
include hQ
variable {s0:BS}
variable (H0:σ 0=.s s0)
include H0 in
theorem w211_0 (h:T211_0 prog K s0):W prog d (sR 0 r211_0 (sR 1 r211_1 (sR 2 r211_2 (.seq (sR 3 r211_3 (.cond (.t 11) (sR 4 r211_4 .ret) .skip)) (sR 5 r211_5 .ret))))) σ st Q:=
 q_ J (m_ (m_ (e_ (sq_ (W.reg (h.elim fun _ c=>ca_ sn c.1 (s_alloc (s_storeArr (f:=AV.s) (fun _=>J) J (show lk _ (d,4097)=some (_,(List.map AV.s (List.replicate 9 ([]:BS)):List AV)) from lk_here) (by simp) J c.2.1 (e_ (q_ J (s_slA_S J lk_here c.2.2.1 J (m_ (c.2.2.2.elim fun _ e=>ca_ (sc2 J H0 J) e.1 (m_ (e_ (sq_ (q_ J (m_ (b_ J J lss_ (e_ (cs_ J (fun i=>q_ J (m_ (m_ (er_ (hQ J J (e.2.1 i)))))) (fun i=>sk_ (q_ J (m_ (s_cvi J (m_ (m_ (er_ (hQ J J (e.2.2 i))))))))))))))))))))))))))))))
end
theorem p211 {prog:Prog}(hf:prog.fn 211=some pf211){s0:BS}{K:Int→Int→Prop}(h:T211_0 prog K s0) :∃res0:Int,∃res1:Int,K res0 res1∧Pus prog 211 [.s s0] (.tup [.i .u8 res0,.i .i64 res1]):=
 P2 hf J (w211_0 (h2 J fun _ _=>J) J h)
abbrev H212 (Q:AE→Sl→St→Prop)(K:Int→Int→Prop):Prop:=∀(σ:Sl)(st:St)(res0:Int)(res1:Int),σ 2=.i .u8 res0→σ 3=.i .i64 res1→K res0 res1→Q .ret σ st
section
variable {prog:Prog}{d:Nat}{Q:AE→Sl→St→Prop}{K:Int→Int→Prop}(hQ:H212 Q K){σ:Sl}{st:St}
include hQ
end
def r236_0:List AI:=[oI 4 0]
def r236_1:List AI:=[oM 6 0,oJ 7 6,oI 8 0]
def r236_2:List AI:=[oT 9 .lss 8 7]
def r236_3:List AI:=[oM 10 8,oM 5 10]
def r236_4:List AI:=[oM 11 1,oM 12 0,oM 13 5,oX 14 5 12 13,oK 15 5 14,oO 16 (.callv (.t 11) [(.t 15)])]
def r236_5:List AI:=[oM 17 5,oM 4 17]
def r236_6:List AI:=[oV 18 .add 8 1,oM 8 18]
def r236_7:List AI:=[oI 4 (-1)]
abbrev l236_0:AC:=(sR 2 r236_2 (.seq (.cond (.t 9) .skip (.exit 0)) (.seq (.block 1 (sR 3 r236_3 (sR 4 r236_4 (.cond (.t 16) (sR 5 r236_5 .ret) .skip)))) (.reg 6 r236_6))))
abbrev c236_1:AC:=(sR 7 r236_7 .ret)
abbrev b236:AC:=(sR 0 r236_0 (.seq (sR 1 r236_1 (.block 0 (.loop l236_0))) c236_1))
def pf236:AF:={ nt:=19,res:=[.tmp 4],body:=b236 }
abbrev I236_0 (prog:Prog)(d:Nat)(Q:AE→Sl→St→Prop)(st0:St)(s0:List Rou)(f1:Nat × List AV)(t7:Int)(t8:Int):Prop:=
  ∀(σ:Sl)(st:St)(o_s0:Own),σ 0=.sl o_s0 (List.map Rou.row s0)→σ 1=.fn f1.1 f1.2→σ 7=.i .i64 t7→σ 8=.i .i64 t8→Fr d (d,0) st0.bx st0.ow st.bx st.ow→W prog d (.loop l236_0) σ st (blockW 0 (thenW prog d c236_1 Q))
def T236_2 (prog:Prog)(K:Int→Prop) :Prop:=
  K (-1)
def T236_1 (prog:Prog)(K:Int→Prop)(P0:Int→Prop)(s0:List Rou)(f1:Nat × List AV)(t7:Int)(t8:Int):Prop:=
  (t8<t7→0≤t8∧∃e:Rou,s0[(t8).toNat]?=some e∧∃c,(PuN prog f1.1 ([e.av]++f1.2) (fun r=>r=.b c))∧(c=true→K t8)∧(c=false→P0 (IntKind.i64.wrap (t8+1))))∧(¬(t8<t7)→T236_2 prog K )
def T236_0 (prog:Prog)(K:Int→Prop)(s0:List Rou)(f1:Nat × List AV):Prop:=
  ∀P0:Int→Prop,(∀(t8:Int),T236_1 prog K P0 s0 f1 (s0.length:Int) t8→P0 t8)→P0 0
section
variable {prog:Prog}{d:Nat}{Q:AE→Sl→St→Prop}{K:Int→Prop}{st0:St}(hQ:HF d st0 (AV.i .i64) 4 Q K){σ:Sl}{st:St}
include hQ
variable {s0:List Rou}{f1:Nat × List AV}{t7 t8:Int}{P0:Int→Prop}{o_s0:Own}
variable (kP0 :∀(t8:Int),P0 t8→I236_0 prog d Q st0 s0 f1 t7 t8)(H0:σ 0=.sl o_s0 (List.map Rou.row s0))(H1:σ 1=.fn f1.1 f1.2)(H7:σ 7=.i .i64 t7)(H8:σ 8=.i .i64 t8)(FR:Fr d (d,0) st0.bx st0.ow st.bx st.ow)
include FR in
theorem w236_2 (h:T236_2 prog K ):W prog d c236_1 σ st Q:=
 au trivial
include kP0 H0 H1 H7 H8 FR in
theorem w236_1 (h:T236_1 prog K P0 s0 f1 t7 t8):W prog d l236_0 σ st (thenW prog d (.loop l236_0) (blockW 0 (thenW prog d c236_1 Q))):=
 q_ J (b_ H8 H7 lss_ (e_ (sq_ (cs_ J (fun c=>sk_ (sq_ (bk_ (q_ J (m_ (m_ (e_ (q_ J (m_ (s_mvL H0 (m_ ((h.1 c).2.elim fun o j=>ia_ J H8 (h.1 c).1 j.1 (Rou.row_eq o) J (lf_ J J J (j.2.elim fun _ e=>s_callV H1 (sec J sen) (e.1) (fun _ k=>e_ (cb_ J (fun i=>q_ J (m_ (m_ (er_ (hQ H8 (Fr.raw FR k) (e.2.1 i)))))) (fun i=>sk_ (W.reg0 J fun _ _=>b_ H8 J add_ (m_ (e_ (kP0 _ (e.2.2 i) _ _ _ H0 H1 H7 J (Fr.raw FR k)))))))))))))))))))))) (fun c=>ex_ (w236_2 hQ FR (h.2 c)))))))
include H0 H1 FR in
theorem w236_0 (h:T236_0 prog K s0 f1):W prog d (sR 0 r236_0 (.seq (sR 1 r236_1 (.block 0 (.loop l236_0))) c236_1)) σ st Q:=
 q_ J (m_ (e_ (sq_ (q_ J (s_mvL H0 (ll_ J (m_ (e_ (bk_ (h (I236_0 prog d Q st0 s0 f1 (s0.length:Int)) (fun _ hb _ _ _ H0 H1 H7 H8 FR=>W.loop (w236_1 hQ (fun _ x=>x) H0 H1 H7 H8 FR hb)) _ _ _ H0 H1 J J FR))))))))))
end
theorem p236 {prog:Prog}(hf:prog.fn 236=some pf236){s0:List Rou}{f1:Nat × List AV}{K:Int→Prop}(h:T236_0 prog K s0 f1)(o_s0:Own):PuN prog 236 [.sl o_s0 (List.map Rou.row s0),.fn f1.1 f1.2] (fun r=>∃res0:Int,(r=.i .i64 res0)∧K res0):=
 PF hf J J fun d st Q q=>w236_0 q J J Fr.refl h
def r237_0:List AI:=[oI 4 0]
def r237_1:List AI:=[oM 6 0,oJ 7 6,oI 8 0]
def r237_2:List AI:=[oT 9 .lss 8 7]
def r237_3:List AI:=[oM 10 8,oM 5 10]
def r237_4:List AI:=[oM 11 1,oM 12 0,oM 13 5,oX 14 4 12 13,oK 15 4 14,oO 16 (.callv (.t 11) [(.t 15)])]
def r237_5:List AI:=[oM 17 5,oM 4 17]
def r237_6:List AI:=[oV 18 .add 8 1,oM 8 18]
def r237_7:List AI:=[oI 4 (-1)]
abbrev l237_0:AC:=(sR 2 r237_2 (.seq (.cond (.t 9) .skip (.exit 0)) (.seq (.block 1 (sR 3 r237_3 (sR 4 r237_4 (.cond (.t 16) (sR 5 r237_5 .ret) .skip)))) (.reg 6 r237_6))))
abbrev c237_1:AC:=(sR 7 r237_7 .ret)
abbrev b237:AC:=(sR 0 r237_0 (.seq (sR 1 r237_1 (.block 0 (.loop l237_0))) c237_1))
def pf237:AF:={ nt:=19,res:=[.tmp 4],body:=b237 }
abbrev I237_0 (prog:Prog)(d:Nat)(Q:AE→Sl→St→Prop)(st0:St)(s0:List Frm)(f1:Nat × List AV)(t7:Int)(t8:Int):Prop:=
  ∀(σ:Sl)(st:St)(o_s0:Own),σ 0=.sl o_s0 (List.map Frm.row s0)→σ 1=.fn f1.1 f1.2→σ 7=.i .i64 t7→σ 8=.i .i64 t8→Fr d (d,0) st0.bx st0.ow st.bx st.ow→W prog d (.loop l237_0) σ st (blockW 0 (thenW prog d c237_1 Q))
def T237_2 (prog:Prog)(K:Int→Prop) :Prop:=
  K (-1)
def T237_1 (prog:Prog)(K:Int→Prop)(P0:Int→Prop)(s0:List Frm)(f1:Nat × List AV)(t7:Int)(t8:Int):Prop:=
  (t8<t7→0≤t8∧∃e:Frm,s0[(t8).toNat]?=some e∧∃c,(PuN prog f1.1 ([e.av]++f1.2) (fun r=>r=.b c))∧(c=true→K t8)∧(c=false→P0 (IntKind.i64.wrap (t8+1))))∧(¬(t8<t7)→T237_2 prog K )
def T237_0 (prog:Prog)(K:Int→Prop)(s0:List Frm)(f1:Nat × List AV):Prop:=
  ∀P0:Int→Prop,(∀(t8:Int),T237_1 prog K P0 s0 f1 (s0.length:Int) t8→P0 t8)→P0 0
section
variable {prog:Prog}{d:Nat}{Q:AE→Sl→St→Prop}{K:Int→Prop}{st0:St}(hQ:HF d st0 (AV.i .i64) 4 Q K){σ:Sl}{st:St}
include hQ
variable {s0:List Frm}{f1:Nat × List AV}{t7 t8:Int}{P0:Int→Prop}{o_s0:Own}
variable (kP0 :∀(t8:Int),P0 t8→I237_0 prog d Q st0 s0 f1 t7 t8)(H0:σ 0=.sl o_s0 (List.map Frm.row s0))(H1:σ 1=.fn f1.1 f1.2)(H7:σ 7=.i .i64 t7)(H8:σ 8=.i .i64 t8)(FR:Fr d (d,0) st0.bx st0.ow st.bx st.ow)
include FR in
theorem w237_2 (h:T237_2 prog K ):W prog d c237_1 σ st Q:=
 au trivial
include kP0 H0 H1 H7 H8 FR in
theorem w237_1 (h:T237_1 prog K P0 s0 f1 t7 t8):W prog d l237_0 σ st (thenW prog d (.loop l237_0) (blockW 0 (thenW prog d c237_1 Q))):=
 q_ J (b_ H8 H7 lss_ (e_ (sq_ (cs_ J (fun c=>sk_ (sq_ (bk_ (q_ J (m_ (m_ (e_ (q_ J (m_ (s_mvL H0 (m_ ((h.1 c).2.elim fun o j=>ia_ J H8 (h.1 c).1 j.1 (Frm.row_eq o) J (lf_ J J J (j.2.elim fun _ e=>s_callV H1 (sec J sen) (e.1) (fun _ k=>e_ (cb_ J (fun i=>q_ J (m_ (m_ (er_ (hQ H8 (Fr.raw FR k) (e.2.1 i)))))) (fun i=>sk_ (W.reg0 J fun _ _=>b_ H8 J add_ (m_ (e_ (kP0 _ (e.2.2 i) _ _ _ H0 H1 H7 J (Fr.raw FR k)))))))))))))))))))))) (fun c=>ex_ (w237_2 hQ FR (h.2 c)))))))
include H0 H1 FR in
theorem w237_0 (h:T237_0 prog K s0 f1):W prog d (sR 0 r237_0 (.seq (sR 1 r237_1 (.block 0 (.loop l237_0))) c237_1)) σ st Q:=
 q_ J (m_ (e_ (sq_ (q_ J (s_mvL H0 (ll_ J (m_ (e_ (bk_ (h (I237_0 prog d Q st0 s0 f1 (s0.length:Int)) (fun _ hb _ _ _ H0 H1 H7 H8 FR=>W.loop (w237_1 hQ (fun _ x=>x) H0 H1 H7 H8 FR hb)) _ _ _ H0 H1 J J FR))))))))))
end
theorem p237 {prog:Prog}(hf:prog.fn 237=some pf237){s0:List Frm}{f1:Nat × List AV}{K:Int→Prop}(h:T237_0 prog K s0 f1)(o_s0:Own):PuN prog 237 [.sl o_s0 (List.map Frm.row s0),.fn f1.1 f1.2] (fun r=>∃res0:Int,(r=.i .i64 res0)∧K res0):=
 PF hf J J fun d st Q q=>w237_0 q J J Fr.refl h
def r238_0:List AI:=[oI 4 0]
def r238_1:List AI:=[oM 6 0,oJ 7 6,oI 8 0]
def r238_2:List AI:=[oT 9 .lss 8 7]
def r238_3:List AI:=[oM 10 8,oM 5 10]
def r238_4:List AI:=[oM 11 1,oM 12 0,oM 13 5,oX 14 8 12 13,oK 15 8 14,oO 16 (.callv (.t 11) [(.t 15)])]
def r238_5:List AI:=[oM 17 5,oM 4 17]
def r238_6:List AI:=[oV 18 .add 8 1,oM 8 18]
def r238_7:List AI:=[oI 4 (-1)]
abbrev l238_0:AC:=(sR 2 r238_2 (.seq (.cond (.t 9) .skip (.exit 0)) (.seq (.block 1 (sR 3 r238_3 (sR 4 r238_4 (.cond (.t 16) (sR 5 r238_5 .ret) .skip)))) (.reg 6 r238_6))))
abbrev c238_1:AC:=(sR 7 r238_7 .ret)
abbrev b238:AC:=(sR 0 r238_0 (.seq (sR 1 r238_1 (.block 0 (.loop l238_0))) c238_1))
def pf238:AF:={ nt:=19,res:=[.tmp 4],body:=b238 }
abbrev I238_0 (prog:Prog)(d:Nat)(Q:AE→Sl→St→Prop)(st0:St)(s0:List Dfr)(f1:Nat × List AV)(t7:Int)(t8:Int):Prop:=
  ∀(σ:Sl)(st:St)(o_s0:Own),σ 0=.sl o_s0 (List.map Dfr.row s0)→σ 1=.fn f1.1 f1.2→σ 7=.i .i64 t7→σ 8=.i .i64 t8→Fr d (d,0) st0.bx st0.ow st.bx st.ow→W prog d (.loop l238_0) σ st (blockW 0 (thenW prog d c238_1 Q))
def T238_2 (prog:Prog)(K:Int→Prop) :Prop:=
  K (-1)
def T238_1 (prog:Prog)(K:Int→Prop)(P0:Int→Prop)(s0:List Dfr)(f1:Nat × List AV)(t7:Int)(t8:Int):Prop:=
  (t8<t7→0≤t8∧∃e:Dfr,s0[(t8).toNat]?=some e∧∃c,(PuN prog f1.1 ([e.av]++f1.2) (fun r=>r=.b c))∧(c=true→K t8)∧(c=false→P0 (IntKind.i64.wrap (t8+1))))∧(¬(t8<t7)→T238_2 prog K )
def T238_0 (prog:Prog)(K:Int→Prop)(s0:List Dfr)(f1:Nat × List AV):Prop:=
  ∀P0:Int→Prop,(∀(t8:Int),T238_1 prog K P0 s0 f1 (s0.length:Int) t8→P0 t8)→P0 0
section
variable {prog:Prog}{d:Nat}{Q:AE→Sl→St→Prop}{K:Int→Prop}{st0:St}(hQ:HF d st0 (AV.i .i64) 4 Q K){σ:Sl}{st:St}
include hQ
variable {s0:List Dfr}{f1:Nat × List AV}{t7 t8:Int}{P0:Int→Prop}{o_s0:Own}
variable (kP0 :∀(t8:Int),P0 t8→I238_0 prog d Q st0 s0 f1 t7 t8)(H0:σ 0=.sl o_s0 (List.map Dfr.row s0))(H1:σ 1=.fn f1.1 f1.2)(H7:σ 7=.i .i64 t7)(H8:σ 8=.i .i64 t8)(FR:Fr d (d,0) st0.bx st0.ow st.bx st.ow)
include FR in
theorem w238_2 (h:T238_2 prog K ):W prog d c238_1 σ st Q:=
 au trivial
include kP0 H0 H1 H7 H8 FR in
theorem w238_1 (h:T238_1 prog K P0 s0 f1 t7 t8):W prog d l238_0 σ st (thenW prog d (.loop l238_0) (blockW 0 (thenW prog d c238_1 Q))):=
 q_ J (b_ H8 H7 lss_ (e_ (sq_ (cs_ J (fun c=>sk_ (sq_ (bk_ (q_ J (m_ (m_ (e_ (q_ J (m_ (s_mvL H0 (m_ ((h.1 c).2.elim fun o j=>ia_ J H8 (h.1 c).1 j.1 (Dfr.row_eq o) J (lf_ J J J (j.2.elim fun _ e=>s_callV H1 (sec J sen) (e.1) (fun _ k=>e_ (cb_ J (fun i=>q_ J (m_ (m_ (er_ (hQ H8 (Fr.raw FR k) (e.2.1 i)))))) (fun i=>sk_ (W.reg0 J fun _ _=>b_ H8 J add_ (m_ (e_ (kP0 _ (e.2.2 i) _ _ _ H0 H1 H7 J (Fr.raw FR k)))))))))))))))))))))) (fun c=>ex_ (w238_2 hQ FR (h.2 c)))))))
include H0 H1 FR in
theorem w238_0 (h:T238_0 prog K s0 f1):W prog d (sR 0 r238_0 (.seq (sR 1 r238_1 (.block 0 (.loop l238_0))) c238_1)) σ st Q:=
 q_ J (m_ (e_ (sq_ (q_ J (s_mvL H0 (ll_ J (m_ (e_ (bk_ (h (I238_0 prog d Q st0 s0 f1 (s0.length:Int)) (fun _ hb _ _ _ H0 H1 H7 H8 FR=>W.loop (w238_1 hQ (fun _ x=>x) H0 H1 H7 H8 FR hb)) _ _ _ H0 H1 J J FR))))))))))
end
theorem p238 {prog:Prog}(hf:prog.fn 238=some pf238){s0:List Dfr}{f1:Nat × List AV}{K:Int→Prop}(h:T238_0 prog K s0 f1)(o_s0:Own):PuN prog 238 [.sl o_s0 (List.map Dfr.row s0),.fn f1.1 f1.2] (fun r=>∃res0:Int,(r=.i .i64 res0)∧K res0):=
 PF hf J J fun d st Q q=>w238_0 q J J Fr.refl h
def r239_0:List AI:=[oI 4 0]
def r239_1:List AI:=[oM 6 0,oJ 7 6,oI 8 0]
def r239_2:List AI:=[oT 9 .lss 8 7]
def r239_3:List AI:=[oM 10 8,oM 5 10]
def r239_4:List AI:=[oM 11 1,oM 12 0,oM 13 5,oX 14 7 12 13,oK 15 7 14,oO 16 (.callv (.t 11) [(.t 15)])]
def r239_5:List AI:=[oM 17 5,oM 4 17]
def r239_6:List AI:=[oV 18 .add 8 1,oM 8 18]
def r239_7:List AI:=[oI 4 (-1)]
abbrev l239_0:AC:=(sR 2 r239_2 (.seq (.cond (.t 9) .skip (.exit 0)) (.seq (.block 1 (sR 3 r239_3 (sR 4 r239_4 (.cond (.t 16) (sR 5 r239_5 .ret) .skip)))) (.reg 6 r239_6))))
abbrev c239_1:AC:=(sR 7 r239_7 .ret)
abbrev b239:AC:=(sR 0 r239_0 (.seq (sR 1 r239_1 (.block 0 (.loop l239_0))) c239_1))
def pf239:AF:={ nt:=19,res:=[.tmp 4],body:=b239 }
abbrev I239_0 (prog:Prog)(d:Nat)(Q:AE→Sl→St→Prop)(st0:St)(s0:List Pan)(f1:Nat × List AV)(t7:Int)(t8:Int):Prop:=
  ∀(σ:Sl)(st:St)(o_s0:Own),σ 0=.sl o_s0 (List.map Pan.row s0)→σ 1=.fn f1.1 f1.2→σ 7=.i .i64 t7→σ 8=.i .i64 t8→Fr d (d,0) st0.bx st0.ow st.bx st.ow→W prog d (.loop l239_0) σ st (blockW 0 (thenW prog d c239_1 Q))
def T239_2 (prog:Prog)(K:Int→Prop) :Prop:=
  K (-1)
def T239_1 (prog:Prog)(K:Int→Prop)(P0:Int→Prop)(s0:List Pan)(f1:Nat × List AV)(t7:Int)(t8:Int):Prop:=
  (t8<t7→0≤t8∧∃e:Pan,s0[(t8).toNat]?=some e∧∃c,(PuN prog f1.1 ([e.av]++f1.2) (fun r=>r=.b c))∧(c=true→K t8)∧(c=false→P0 (IntKind.i64.wrap (t8+1))))∧(¬(t8<t7)→T239_2 prog K )
def T239_0 (prog:Prog)(K:Int→Prop)(s0:List Pan)(f1:Nat × List AV):Prop:=
  ∀P0:Int→Prop,(∀(t8:Int),T239_1 prog K P0 s0 f1 (s0.length:Int) t8→P0 t8)→P0 0
section
variable {prog:Prog}{d:Nat}{Q:AE→Sl→St→Prop}{K:Int→Prop}{st0:St}(hQ:HF d st0 (AV.i .i64) 4 Q K){σ:Sl}{st:St}
include hQ
variable {s0:List Pan}{f1:Nat × List AV}{t7 t8:Int}{P0:Int→Prop}{o_s0:Own}
variable (kP0 :∀(t8:Int),P0 t8→I239_0 prog d Q st0 s0 f1 t7 t8)(H0:σ 0=.sl o_s0 (List.map Pan.row s0))(H1:σ 1=.fn f1.1 f1.2)(H7:σ 7=.i .i64 t7)(H8:σ 8=.i .i64 t8)(FR:Fr d (d,0) st0.bx st0.ow st.bx st.ow)
include FR in
theorem w239_2 (h:T239_2 prog K ):W prog d c239_1 σ st Q:=
 au trivial
include kP0 H0 H1 H7 H8 FR in
theorem w239_1 (h:T239_1 prog K P0 s0 f1 t7 t8):W prog d l239_0 σ st (thenW prog d (.loop l239_0) (blockW 0 (thenW prog d c239_1 Q))):=
 q_ J (b_ H8 H7 lss_ (e_ (sq_ (cs_ J (fun c=>sk_ (sq_ (bk_ (q_ J (m_ (m_ (e_ (q_ J (m_ (s_mvL H0 (m_ ((h.1 c).2.elim fun o j=>ia_ J H8 (h.1 c).1 j.1 (Pan.row_eq o) J (lf_ J J J (j.2.elim fun _ e=>s_callV H1 (sec J sen) (e.1) (fun _ k=>e_ (cb_ J (fun i=>q_ J (m_ (m_ (er_ (hQ H8 (Fr.raw FR k) (e.2.1 i)))))) (fun i=>sk_ (W.reg0 J fun _ _=>b_ H8 J add_ (m_ (e_ (kP0 _ (e.2.2 i) _ _ _ H0 H1 H7 J (Fr.raw FR k)))))))))))))))))))))) (fun c=>ex_ (w239_2 hQ FR (h.2 c)))))))
include H0 H1 FR in
theorem w239_0 (h:T239_0 prog K s0 f1):W prog d (sR 0 r239_0 (.seq (sR 1 r239_1 (.block 0 (.loop l239_0))) c239_1)) σ st Q:=
 q_ J (m_ (e_ (sq_ (q_ J (s_mvL H0 (ll_ J (m_ (e_ (bk_ (h (I239_0 prog d Q st0 s0 f1 (s0.length:Int)) (fun _ hb _ _ _ H0 H1 H7 H8 FR=>W.loop (w239_1 hQ (fun _ x=>x) H0 H1 H7 H8 FR hb)) _ _ _ H0 H1 J J FR))))))))))
end
theorem p239 {prog:Prog}(hf:prog.fn 239=some pf239){s0:List Pan}{f1:Nat × List AV}{K:Int→Prop}(h:T239_0 prog K s0 f1)(o_s0:Own):PuN prog 239 [.sl o_s0 (List.map Pan.row s0),.fn f1.1 f1.2] (fun r=>∃res0:Int,(r=.i .i64 res0)∧K res0):=
 PF hf J J fun d st Q q=>w239_0 q J J Fr.refl h
def r224_0:List AI:=[oC 4 (.b false)]
def r224_1:List AI:=[oM 5 0,oM 6 1,oO 7 (.call true 236 [(.t 5),(.t 6)]),oV 8 .geq 7 0,oM 4 8]
abbrev b224:AC:=(sR 0 r224_0 (sR 1 r224_1 .ret))
def pf224:AF:={ nt:=9,res:=[.tmp 4],body:=b224 }
def T224_0 (prog:Prog)(K:Bool→Prop)(s0:List Rou)(f1:Nat × List AV):Prop:=
  ∃c,(∀e:Own,PuN prog 236 [.sl e (List.map Rou.row s0),.fn f1.1 f1.2] (fun r=>r=.i .i64 c))∧K (decide (c≥0))
section
variable {prog:Prog}{d:Nat}{Q:AE→Sl→St→Prop}{K:Bool→Prop}{st0:St}(hQ:HF d st0 AV.b 4 Q K){σ:Sl}{st:St}
include hQ
variable {s0:List Rou}{f1:Nat × List AV}{o_s0:Own}
variable (H0:σ 0=.sl o_s0 (List.map Rou.row s0))(H1:σ 1=.fn f1.1 f1.2)(FR:Fr d (d,0) st0.bx st0.ow st.bx st.ow)
include H0 H1 FR in
theorem w224_0 (h:T224_0 prog K s0 f1):W prog d (sR 0 r224_0 (sR 1 r224_1 .ret)) σ st Q:=
 q_ J (m_ (e_ (q_ J (s_mvL H0 (m_ (h.elim fun _ c=>s_callN (sec J (sec H1 sen)) (c.1 _) (fun _ e=>b_ J J geq_ (m_ (er_ (hQ J (Fr.raw FR e) c.2))))))))))
end
theorem p224 {prog:Prog}(hf:prog.fn 224=some pf224){s0:List Rou}{f1:Nat × List AV}{K:Bool→Prop}(h:T224_0 prog K s0 f1)(o_s0:Own):PuN prog 224 [.sl o_s0 (List.map Rou.row s0),.fn f1.1 f1.2] (fun r=>∃res0:Bool,(r=.b res0)∧K res0):=
 PF hf J J fun d st Q q=>w224_0 q J J Fr.refl h
def r227_0:List AI:=[oC 4 (.b false)]
def r227_1:List AI:=[oM 5 0,oM 6 1,oO 7 (.call true 237 [(.t 5),(.t 6)]),oV 8 .geq 7 0,oM 4 8]
abbrev b227:AC:=(sR 0 r227_0 (sR 1 r227_1 .ret))
def pf227:AF:={ nt:=9,res:=[.tmp 4],body:=b227 }
def T227_0 (prog:Prog)(K:Bool→Prop)(s0:List Frm)(f1:Nat × List AV):Prop:=
  ∃c,(∀e:Own,PuN prog 237 [.sl e (List.map Frm.row s0),.fn f1.1 f1.2] (fun r=>r=.i .i64 c))∧K (decide (c≥0))
section
variable {prog:Prog}{d:Nat}{Q:AE→Sl→St→Prop}{K:Bool→Prop}{st0:St}(hQ:HF d st0 AV.b 4 Q K){σ:Sl}{st:St}
include hQ
variable {s0:List Frm}{f1:Nat × List AV}{o_s0:Own}
variable (H0:σ 0=.sl o_s0 (List.map Frm.row s0))(H1:σ 1=.fn f1.1 f1.2)(FR:Fr d (d,0) st0.bx st0.ow st.bx st.ow)
include H0 H1 FR in
theorem w227_0 (h:T227_0 prog K s0 f1):W prog d (sR 0 r227_0 (sR 1 r227_1 .ret)) σ st Q:=
 q_ J (m_ (e_ (q_ J (s_mvL H0 (m_ (h.elim fun _ c=>s_callN (sec J (sec H1 sen)) (c.1 _) (fun _ e=>b_ J J geq_ (m_ (er_ (hQ J (Fr.raw FR e) c.2))))))))))
end
theorem p227 {prog:Prog}(hf:prog.fn 227=some pf227){s0:List Frm}{f1:Nat × List AV}{K:Bool→Prop}(h:T227_0 prog K s0 f1)(o_s0:Own):PuN prog 227 [.sl o_s0 (List.map Frm.row s0),.fn f1.1 f1.2] (fun r=>∃res0:Bool,(r=.b res0)∧K res0):=
 PF hf J J fun d st Q q=>w227_0 q J J Fr.refl h
def r229_0:List AI:=[oC 4 (.b false)]
def r229_1:List AI:=[oM 5 0,oM 6 1,oO 7 (.call true 238 [(.t 5),(.t 6)]),oV 8 .geq 7 0,oM 4 8]
abbrev b229:AC:=(sR 0 r229_0 (sR 1 r229_1 .ret))
def pf229:AF:={ nt:=9,res:=[.tmp 4],body:=b229 }
def T229_0 (prog:Prog)(K:Bool→Prop)(s0:List Dfr)(f1:Nat × List AV):Prop:=
  ∃c,(∀e:Own,PuN prog 238 [.sl e (List.map Dfr.row s0),.fn f1.1 f1.2] (fun r=>r=.i .i64 c))∧K (decide (c≥0))
section
variable {prog:Prog}{d:Nat}{Q:AE→Sl→St→Prop}{K:Bool→Prop}{st0:St}(hQ:HF d st0 AV.b 4 Q K){σ:Sl}{st:St}
include hQ
variable {s0:List Dfr}{f1:Nat × List AV}{o_s0:Own}
variable (H0:σ 0=.sl o_s0 (List.map Dfr.row s0))(H1:σ 1=.fn f1.1 f1.2)(FR:Fr d (d,0) st0.bx st0.ow st.bx st.ow)
include H0 H1 FR in
theorem w229_0 (h:T229_0 prog K s0 f1):W prog d (sR 0 r229_0 (sR 1 r229_1 .ret)) σ st Q:=
 q_ J (m_ (e_ (q_ J (s_mvL H0 (m_ (h.elim fun _ c=>s_callN (sec J (sec H1 sen)) (c.1 _) (fun _ e=>b_ J J geq_ (m_ (er_ (hQ J (Fr.raw FR e) c.2))))))))))
end
theorem p229 {prog:Prog}(hf:prog.fn 229=some pf229){s0:List Dfr}{f1:Nat × List AV}{K:Bool→Prop}(h:T229_0 prog K s0 f1)(o_s0:Own):PuN prog 229 [.sl o_s0 (List.map Dfr.row s0),.fn f1.1 f1.2] (fun r=>∃res0:Bool,(r=.b res0)∧K res0):=
 PF hf J J fun d st Q q=>w229_0 q J J Fr.refl h
def r232_0:List AI:=[oC 4 (.b false)]
def r232_1:List AI:=[oM 5 0,oM 6 1,oO 7 (.call true 239 [(.t 5),(.t 6)]),oV 8 .geq 7 0,oM 4 8]
abbrev b232:AC:=(sR 0 r232_0 (sR 1 r232_1 .ret))
def pf232:AF:={ nt:=9,res:=[.tmp 4],body:=b232 }
def T232_0 (prog:Prog)(K:Bool→Prop)(s0:List Pan)(f1:Nat × List AV):Prop:=
  ∃c,(∀e:Own,PuN prog 239 [.sl e (List.map Pan.row s0),.fn f1.1 f1.2] (fun r=>r=.i .i64 c))∧K (decide (c≥0))
section
variable {prog:Prog}{d:Nat}{Q:AE→Sl→St→Prop}{K:Bool→Prop}{st0:St}(hQ:HF d st0 AV.b 4 Q K){σ:Sl}{st:St}
include hQ
variable {s0:List Pan}{f1:Nat × List AV}{o_s0:Own}
variable (H0:σ 0=.sl o_s0 (List.map Pan.row s0))(H1:σ 1=.fn f1.1 f1.2)(FR:Fr d (d,0) st0.bx st0.ow st.bx st.ow)
include H0 H1 FR in
theorem w232_0 (h:T232_0 prog K s0 f1):W prog d (sR 0 r232_0 (sR 1 r232_1 .ret)) σ st Q:=
 q_ J (m_ (e_ (q_ J (s_mvL H0 (m_ (h.elim fun _ c=>s_callN (sec J (sec H1 sen)) (c.1 _) (fun _ e=>b_ J J geq_ (m_ (er_ (hQ J (Fr.raw FR e) c.2))))))))))
end
theorem p232 {prog:Prog}(hf:prog.fn 232=some pf232){s0:List Pan}{f1:Nat × List AV}{K:Bool→Prop}(h:T232_0 prog K s0 f1)(o_s0:Own):PuN prog 232 [.sl o_s0 (List.map Pan.row s0),.fn f1.1 f1.2] (fun r=>∃res0:Bool,(r=.b res0)∧K res0):=
 PF hf J J fun d st Q q=>w232_0 q J J Fr.refl h
end Go.AM

namespace Go.AM
open Go
set_option linter.unusedVariables false
set_option linter.unusedSimpArgs false
set_option maxRecDepth 4000
set_option maxHeartbeats 2000000
attribute [local irreducible] Decidable.decide W WO fillCells fillRows
def r228_0:List AI:=[oY 2 4 0,oC 3 (.b false)]
def r228_1:List AI:=[oK 4 3 1,oK 5 4 2,oQ 6 86 [4,5],oV 7 .neq 6 0,oM 3 7]
abbrev b228:AC:=(sR 0 r228_0 (sR 1 r228_1 .ret))
def pf228:AF:={ nt:=8,res:=[.tmp 3],body:=b228 }
def T228_0 (prog:Prog)(K:Bool→Prop)(y0:Frm)(t1:Img):Prop:=
  ∃c,Pus prog 86 [t1.av,y0.av] (.i .i64 c)∧K (decide (c≠0))
section
variable {prog:Prog}{d:Nat}{Q:AE→Sl→St→Prop}{K:Bool→Prop}{st0:St}(hQ:HF d st0 AV.b 3 Q K){σ:Sl}{st:St}
include hQ
variable {y0:Frm}{t1:Img}
variable (H0:σ 0=y0.av)(H1:σ 1=.fp [.sl .ext (List.map Typ.row t1.types),.sl .ext (List.map rowS t1.texts),.sl .ext (List.map Fun.row t1.funcs)])(FR:Fr d (d,0) st0.bx st0.ow st.bx st.ow)
include H0 H1 FR in
theorem w228_0 (h:T228_0 prog K y0 t1):W prog d (sR 0 r228_0 (sR 1 r228_1 .ret)) σ st Q:=
 au trivial
end
theorem p228 {prog:Prog}(hf:prog.fn 228=some pf228){y0:Frm}{t1:Img}{K:Bool→Prop}(h:T228_0 prog K y0 t1):PuN prog 228 [y0.av,.fp [.sl .ext (List.map Typ.row t1.types),.sl .ext (List.map rowS t1.texts),.sl .ext (List.map Fun.row t1.funcs)]] (fun r=>∃res0:Bool,(r=.b res0)∧K res0):=
 PF hf J J fun d st Q q=>w228_0 q J J Fr.refl h
def r230_0:List AI:=[oY 3 8 0,oC 4 (.b false)]
def r230_1:List AI:=[oK 5 3 1,oL 6 2,oK 7 8 3,oQ 8 231 [5,6,7],oZ 9 8,oM 4 9]
abbrev b230:AC:=(sR 0 r230_0 (sR 1 r230_1 .ret))
def pf230:AF:={ nt:=10,res:=[.tmp 4],body:=b230 }
def T230_0 (prog:Prog)(K:Bool→Prop)(y0:Dfr)(t1:Img)(t2:Int):Prop:=
  ∃c,Pus prog 231 [t1.av,.i .i64 t2,y0.av] (.b c)∧K (!c)
section
variable {prog:Prog}{d:Nat}{Q:AE→Sl→St→Prop}{K:Bool→Prop}{st0:St}(hQ:HF d st0 AV.b 4 Q K){σ:Sl}{st:St}
include hQ
variable {y0:Dfr}{t1:Img}{t2:Int}
variable (H0:σ 0=y0.av)(H1:σ 1=.fp [.sl .ext (List.map Typ.row t1.types),.sl .ext (List.map rowS t1.texts),.sl .ext (List.map Fun.row t1.funcs)])(H2:σ 2=.fp [.i .i64 t2])(FR:Fr d (d,0) st0.bx st0.ow st.bx st.ow)
include H0 H1 H2 FR in
theorem w230_0 (h:T230_0 prog K y0 t1 t2):W prog d (sR 0 r230_0 (sR 1 r230_1 .ret)) σ st Q:=
 au trivial
end
theorem p230 {prog:Prog}(hf:prog.fn 230=some pf230){y0:Dfr}{t1:Img}{t2:Int}{K:Bool→Prop}(h:T230_0 prog K y0 t1 t2):PuN prog 230 [y0.av,.fp [.sl .ext (List.map Typ.row t1.types),.sl .ext (List.map rowS t1.texts),.sl .ext (List.map Fun.row t1.funcs)],.fp [.i .i64 t2]] (fun r=>∃res0:Bool,(r=.b res0)∧K res0):=
 PF hf J J fun d st Q q=>w230_0 q J J J Fr.refl h
def r233_0:List AI:=[oY 1 7 0,oC 2 (.b false)]
def r233_1:List AI:=[oK 3 7 1,oQ 4 158 [3],oV 5 .neq 4 0,oM 2 5]
abbrev b233:AC:=(sR 0 r233_0 (sR 1 r233_1 .ret))
def pf233:AF:={ nt:=6,res:=[.tmp 2],body:=b233 }
def T233_0 (prog:Prog)(K:Bool→Prop)(y0:Pan):Prop:=
  ∃c,Pus prog 158 [y0.av] (.i .i64 c)∧K (decide (c≠0))
section
variable {prog:Prog}{d:Nat}{Q:AE→Sl→St→Prop}{K:Bool→Prop}{st0:St}(hQ:HF d st0 AV.b 2 Q K){σ:Sl}{st:St}
include hQ
variable {y0:Pan}
variable (H0:σ 0=y0.av)(FR:Fr d (d,0) st0.bx st0.ow st.bx st.ow)
include H0 FR in
theorem w233_0 (h:T233_0 prog K y0):W prog d (sR 0 r233_0 (sR 1 r233_1 .ret)) σ st Q:=
 au trivial
end
theorem p233 {prog:Prog}(hf:prog.fn 233=some pf233){y0:Pan}{K:Bool→Prop}(h:T233_0 prog K y0):PuN prog 233 [y0.av] (fun r=>∃res0:Bool,(r=.b res0)∧K res0):=
 PF hf J J fun d st Q q=>w233_0 q J Fr.refl h
def r231_0:List AI:=[oY 3 3 0,oY 5 8 2,oC 6 (.b false)]
def r231_1:List AI:=[oF 8 0 5,oL 9 8,oV 10 .lss 9 0,oM 11 10,gF 11 (oF 12 0 5),gF 11 (oL 13 12),gF 11 (oM 14 1),gF 11 (oT 15 .geq 13 14),oR 16 11 15,oM 17 16,gF 17 (oF 18 1 5),gF 17 (oL 19 18),gF 17 (oV 20 .lss 19 0),oR 21 17 20,oM 22 21,gF 22 (oF 23 1 5),gF 22 (oL 24 23),gF 22 (oF 25 2 3),gF 22 (oL 26 25),gF 22 (oJ 27 26),gF 22 (oT 28 .geq 24 27),oR 29 22 28,oM 30 29,gF 30 (oF 31 2 3),gF 30 (oL 32 31),gF 30 (oF 33 1 5),gF 30 (oL 34 33),gF 30 (oX 35 7 32 34),gF 30 (oF 36 0 35),gF 30 (oL 37 36),gF 30 (oH 38 37),gF 30 (oV 39 .gtr 38 16),oR 40 30 39]
def r231_2:List AI:=[oC 6 (.b false)]
def r231_3:List AI:=[oF 41 2 5,oL 42 41,oZ 43 42]
def r231_4:List AI:=[oF 44 3 5,oK 45 5 44,oO 7 (.alloc [z8,z6,zs,zl,zb]),oS 5 7 45]
def r231_5:List AI:=[oF 46 0 7,oL 47 46,oW 48 .eql 47 0,oM 49 48,gT 49 (oF 50 1 7),gT 49 (oL 51 50),gT 49 (oV 52 .eql 51 0),oA 53 49 52,oM 54 53,gT 54 (oF 55 2 7),gT 54 (oL 56 55),gT 54 (oB 57 .eql (.t 56) (.c (.s []))),oA 58 54 57,oM 59 58,gT 59 (oF 60 3 7),gT 59 (oL 61 60),gT 59 (oJ 62 61),gT 59 (oV 63 .eql 62 0),oA 64 59 63,oM 65 64,gT 65 (oF 66 4 7),gT 65 (oL 67 66),gT 65 (oZ 68 67),oA 69 65 68,oM 6 69]
def r231_6:List AI:=[oF 70 3 5,oF 71 0 70,oL 72 71]
def r231_7:List AI:=[oW 74 .eql 72 1,oM 73 74]
def r231_8:List AI:=[oW 75 .eql 72 2,oM 73 75]
def r231_9:List AI:=[oW 76 .eql 72 4,oM 73 76]
def r231_10:List AI:=[oF 77 3 5,oK 78 5 77,oQ 79 76 [78],oV 80 .eql 79 0,oM 6 80]
def r231_11:List AI:=[oC 6 (.b false)]
abbrev c231_0:AC:=(.cond (.t 73) (sR 10 r231_10 .ret) .skip)
abbrev c231_1:AC:=(.seq (sR 6 r231_6 (.block 0 (.seq (sR 7 r231_7 (.cond (.t 73) .skip (sR 8 r231_8 (.cond (.t 73) .skip (.reg 9 r231_9))))) c231_0))) (sR 11 r231_11 .ret))
abbrev c231_2:AC:=(.seq (sR 3 r231_3 (.cond (.t 43) (sR 4 r231_4 (sR 5 r231_5 .ret)) .skip)) c231_1)
abbrev c231_3:AC:=(.seq (sR 1 r231_1 (.cond (.t 40) (sR 2 r231_2 .ret) .skip)) c231_2)
abbrev b231:AC:=(sR 0 r231_0 c231_3)
def pf231:AF:={ nt:=81,res:=[.tmp 6],body:=b231 }
def T231_4 (prog:Prog)(K:Bool→Prop)(t73:Bool)(m1:Dfr):Prop:=
  (t73=true→∃c,Pus prog 76 [m1.arg.av] (.i .i64 c)∧K (decide (c=0)))∧(t73=false→K false)
def T231_3 (prog:Prog)(K:Bool→Prop)(m1:Dfr):Prop:=
  (m1.arg.kind=1→T231_4 prog K (decide (m1.arg.kind=1)) m1)∧(¬(m1.arg.kind=1)→(m1.arg.kind=2→T231_4 prog K (decide (m1.arg.kind=2)) m1)∧(¬(m1.arg.kind=2)→T231_4 prog K (decide (m1.arg.kind=4)) m1))
def T231_2 (prog:Prog)(K:Bool→Prop)(m1:Dfr):Prop:=
  ((!m1.hasArg)=true→(m1.arg.kind=0→(m1.arg.int=0→(m1.arg.text=([]:BS)→((m1.arg.list.length:Int)=0→K (!m1.arg.cut))∧(¬((m1.arg.list.length:Int)=0)→K false))∧(¬(m1.arg.text=([]:BS))→K false))∧(¬(m1.arg.int=0)→K false))∧(¬(m1.arg.kind=0)→K false))∧((!m1.hasArg)=false→T231_3 prog K m1)
def T231_1 (prog:Prog)(K:Bool→Prop)(frames1:Int)(m0:Img)(m1:Dfr):Prop:=
  (m1.frame<0→K false)∧(¬(m1.frame<0)→(m1.frame≥frames1→K false)∧(¬(m1.frame≥frames1)→(m1.func<0→K false)∧(¬(m1.func<0)→(m1.func≥(m0.funcs.length:Int)→K false)∧(¬(m1.func≥(m0.funcs.length:Int))→0≤m1.func∧∃c:Fun,m0.funcs[(m1.func).toNat]?=some c∧((c.name.length:Int)>16→K false)∧(¬((c.name.length:Int)>16)→T231_2 prog K m1)))))
def T231_0 (prog:Prog)(K:Bool→Prop)(m0:Img)(frames1:Int)(d2:Dfr):Prop:=
  T231_1 prog K frames1 m0 d2
section
variable {prog:Prog}{d:Nat}{Q:AE→Sl→St→Prop}{K:Bool→Prop}(hQ:H1 AV.b 6 Q K){σ:Sl}{st:St}
include hQ
variable {t73:Bool}{m1:Dfr}{v1:Nat}{frames1:Int}{m0:Img}{v0:Nat}{d2:Dfr}
variable (H0:σ 0=m0.av)(H1:σ 1=.i .i64 frames1)(H3:σ 3=.p (d,0) v0 0)(H2:σ 2=d2.av)(H5:σ 5=.p (d,1) v1 0)(H73:σ 73=.b t73)(B0:lk st.bx (d,0)=some (v0,Img.cs m0))(B1:lk st.bx (d,1)=some (v1,[.i .i64 m1.frame,.i .i64 m1.func,.b m1.hasArg,.i .u8 m1.arg.kind,.i .i64 m1.arg.int,.s m1.arg.text,.sl .ext (List.map Val.row m1.arg.list),.b m1.arg.cut]))
include H5 H73 B1 in
theorem w231_4 (h:T231_4 prog K t73 m1):W prog d c231_0 σ st (blockW 0 (thenW prog d (sR 11 r231_11 .ret) Q)):=
 au trivial
include H5 B1 in
theorem w231_3 (h:T231_3 prog K m1):W prog d c231_1 σ st Q:=
 au @w231_4
include H5 B1 in
theorem w231_2 (h:T231_2 prog K m1):W prog d c231_2 σ st Q:=
 au @w231_3
include H1 H3 H5 B0 B1 in
theorem w231_1 (h:T231_1 prog K frames1 m0 m1):W prog d c231_3 σ st Q:=
 au @w231_2
include H0 H1 H2 in
theorem w231_0 (h:T231_0 prog K m0 frames1 d2):W prog d (sR 0 r231_0 c231_3) σ st Q:=
 au @w231_1
end
theorem p231 {prog:Prog}(hf:prog.fn 231=some pf231){m0:Img}{frames1:Int}{d2:Dfr}{K:Bool→Prop}(h:T231_0 prog K m0 frames1 d2) :∃res0:Bool,K res0∧Pus prog 231 [m0.av,.i .i64 frames1,d2.av] (.b res0):=
 P1 hf J (w231_0 (h1 J fun _=>J) J J J h)
def r219_0:List AI:=[oO 2 (.boxf 3 (.t 0)),oO 3 (.boxf 5 (.t 1)),oC 4 (.b false)]
def r219_1:List AI:=[oF 8 2 3,oO 9 (.ldf 1 false (.t 8)),oJ 10 9,oF 11 3 3,oO 12 (.ldf 1 false (.t 11)),oJ 13 12,oF 14 4 3,oO 15 (.ldf 1 false (.t 14)),oJ 16 15,oO 5 (.alloc [z6]),oS 1 5 10,oM 6 13,oM 7 16]
def r219_2:List AI:=[oF 17 0 3,oL 18 17]
def r219_3:List AI:=[oW 20 .eql 18 3,oM 19 20]
def r219_4:List AI:=[oW 22 .eql 18 1,oM 21 22]
def r219_5:List AI:=[oW 24 .eql 18 2,oM 23 24]
def r219_6:List AI:=[oL 25 5,oM 26 6,oT 27 .add 25 26,oM 28 7,oT 29 .add 27 28,oV 30 .eql 29 0,oM 31 30,gT 31 (oF 32 1 3),gT 31 (oL 33 32),gT 31 (oV 34 .eql 33 0),oA 35 31 34,oM 4 35]
def r219_7:List AI:=[oF 36 1 3,oL 37 36,oV 38 .neq 37 0]
def r219_8:List AI:=[oC 4 (.b false)]
def r219_9:List AI:=[oL 39 5,oV 40 .lss 39 1,oM 41 40,gF 41 (oL 42 5),gF 41 (oV 43 .gtr 42 170),oR 44 41 43,oM 45 44,gF 45 (oM 46 6),gF 45 (oV 47 .gtr 46 410),oR 48 45 47,oM 49 48,gF 49 (oM 50 7),gF 49 (oV 51 .gtr 50 410),oR 52 49 51]
def r219_10:List AI:=[oC 4 (.b false)]
def r219_11:List AI:=[oF 53 2 3,oL 54 53,oO 55 (.mkfn 228 [(.t 2)]),oO 56 (.call true 227 [(.t 54),(.t 55)]),oZ 57 56,oM 58 57,gT 58 (oF 59 3 3),gT 58 (oL 60 59),gT 58 (oO 61 (.mkfz 230 [(.t 2)] (.t 5) [])),gT 58 (oO 62 (.call true 229 [(.t 60),(.t 61)])),gT 58 (oZ 63 62),oA 64 58 63,oM 65 64,gT 65 (oF 66 4 3),gT 65 (oL 67 66),gT 65 (oO 68 (.call true 232 [(.t 67),(.c (.fn 233 []))])),gT 65 (oZ 69 68),oA 70 65 69,oM 4 70]
def r219_12:List AI:=[oC 4 (.b false)]
abbrev c219_0:AC:=(sR 7 r219_7 (.cond (.t 38) (sR 8 r219_8 .ret) .skip))
abbrev c219_1:AC:=(sR 11 r219_11 .ret)
abbrev c219_2:AC:=(.seq (.seq (sR 9 r219_9 (.cond (.t 52) (sR 10 r219_10 .ret) .skip)) c219_1) (.exit 0))
abbrev c219_3:AC:=(sR 12 r219_12 .ret)
abbrev c219_4:AC:=(sR 1 r219_1 (.seq (sR 2 r219_2 (.block 0 (.seq (.block 3 (.seq (.block 2 (.seq (.block 1 (.seq (.seq (sR 3 r219_3 (.cond (.t 19) (.exit 1) .skip)) (.seq (sR 4 r219_4 (.cond (.t 21) (.exit 2) .skip)) (sR 5 r219_5 (.cond (.t 23) (.exit 3) .skip)))) (.exit 0))) (.seq (sR 6 r219_6 .ret) (.exit 0)))) c219_0)) c219_2))) c219_3))
abbrev b219:AC:=(sR 0 r219_0 c219_4)
def pf219:AF:={ nt:=71,res:=[.tmp 4],fz:=[2,3,1000005],body:=b219 }
def T219_4 (prog:Prog)(K:Bool→Prop)(m2_0:List Typ)(m2_1:LB)(m2_2:List Fun)(x3_0:Int)(x3_1:Int)(x3_2:List Frm)(x3_3:List Dfr)(x3_4:List Pan)(m4105:Int):Prop:=
  ∃c,(∀o:Own,PuN prog 227 [.sl o (List.map Frm.row x3_2),.fn 228 [.fp [.sl .ext (List.map Typ.row m2_0),.sl .ext (List.map rowS m2_1),.sl .ext (List.map Fun.row m2_2)]]] (fun r=>r=.b c))∧((!c)=true→∃e,(∀p:Own,PuN prog 229 [.sl p (List.map Dfr.row x3_3),.fn 230 [.fp [.sl .ext (List.map Typ.row m2_0),.sl .ext (List.map rowS m2_1),.sl .ext (List.map Fun.row m2_2)],.fp [.i .i64 m4105]]] (fun r=>r=.b e))∧((!e)=true→∃j,(∀k:Own,PuN prog 232 [.sl k (List.map Pan.row x3_4),.fn 233 []] (fun r=>r=.b j))∧K (!j))∧((!e)=false→K false))∧((!c)=false→K false)
def T219_3 (prog:Prog)(K:Bool→Prop)(m2_0:List Typ)(m2_1:LB)(m2_2:List Fun)(x3_0:Int)(x3_1:Int)(x3_2:List Frm)(x3_3:List Dfr)(x3_4:List Pan)(d6:Int)(p7:Int)(m4105:Int):Prop:=
  (m4105<1→K false)∧(¬(m4105<1)→(m4105>170→K false)∧(¬(m4105>170)→(d6>410→K false)∧(¬(d6>410)→(p7>410→K false)∧(¬(p7>410)→T219_4 prog K m2_0 m2_1 m2_2 x3_0 x3_1 x3_2 x3_3 x3_4 m4105))))
def T219_2 (prog:Prog)(K:Bool→Prop)(m2_0:List Typ)(m2_1:LB)(m2_2:List Fun)(x3_0:Int)(x3_1:Int)(x3_2:List Frm)(x3_3:List Dfr)(x3_4:List Pan)(d6:Int)(p7:Int)(m4105:Int):Prop:=
  (x3_1≠0→K false)∧(¬(x3_1≠0)→T219_3 prog K m2_0 m2_1 m2_2 x3_0 x3_1 x3_2 x3_3 x3_4 d6 p7 m4105)
def T219_5 (prog:Prog)(K:Bool→Prop) :Prop:=
  K false
def T219_1 (prog:Prog)(K:Bool→Prop)(m2_0:List Typ)(m2_1:LB)(m2_2:List Fun)(x3_0:Int)(x3_1:Int)(x3_2:List Frm)(x3_3:List Dfr)(x3_4:List Pan):Prop:=
  (x3_0=3→((IntKind.i64.wrap ((IntKind.i64.wrap ((x3_2.length:Int)+(x3_3.length:Int)))+(x3_4.length:Int)))=0→K (decide (x3_1=0)))∧(¬((IntKind.i64.wrap ((IntKind.i64.wrap ((x3_2.length:Int)+(x3_3.length:Int)))+(x3_4.length:Int)))=0)→K false))∧(¬(x3_0=3)→(x3_0=1→T219_2 prog K m2_0 m2_1 m2_2 x3_0 x3_1 x3_2 x3_3 x3_4 (x3_3.length:Int) (x3_4.length:Int) (x3_2.length:Int))∧(¬(x3_0=1)→(x3_0=2→T219_3 prog K m2_0 m2_1 m2_2 x3_0 x3_1 x3_2 x3_3 x3_4 (x3_3.length:Int) (x3_4.length:Int) (x3_2.length:Int))∧(¬(x3_0=2)→T219_5 prog K )))
def T219_0 (prog:Prog)(K:Bool→Prop)(m0:Img)(x1:Rou):Prop:=
  T219_1 prog K m0.types m0.texts m0.funcs x1.status x1.key x1.frames x1.defers x1.panics
section
variable {prog:Prog}{d:Nat}{Q:AE→Sl→St→Prop}{K:Bool→Prop}(hQ:H1 AV.b 4 Q K){σ:Sl}{st:St}
include hQ
variable {m2_0:List Typ}{m2_1:LB}{m2_2:List Fun}{x3_0 x3_1:Int}{x3_2:List Frm}{x3_3:List Dfr}{x3_4:List Pan}{m4105:Int}{v4105:Nat}{d6 p7:Int}{m0:Img}{x1:Rou}
variable (H2:σ 2=.fp [.sl .ext (List.map Typ.row m2_0),.sl .ext (List.map rowS m2_1),.sl .ext (List.map Fun.row m2_2)])(H0:σ 0=m0.av)(H3:σ 3=.fp [.i .u8 x3_0,.i .i64 x3_1,.sl .ext (List.map Frm.row x3_2),.sl .ext (List.map Dfr.row x3_3),.sl .ext (List.map Pan.row x3_4)])(H1:σ 1=x1.av)(H5:σ 5=.p (d,4105) v4105 0)(H6:σ 6=.i .i64 d6)(H7:σ 7=.i .i64 p7)(B4105:lk st.bx (d,4105)=some (v4105,[.i .i64 m4105]))
include H2 H3 H5 B4105 in
theorem w219_4 (h:T219_4 prog K m2_0 m2_1 m2_2 x3_0 x3_1 x3_2 x3_3 x3_4 m4105):W prog d c219_1 σ st (thenW prog d (.exit 0) (blockW 0 (thenW prog d c219_3 Q))):=
 q_ J (ff_ H3 (lf_ J J J (s_mkfn (sec H2 sen) (h.elim fun _ e=>s_callN (sec J (sec J sen)) (e.1 _) (fun _ o=>nt_ J (s_mvB J (eb_ (g:=58) J (fun j=>gy_ J (ff_ H3 (gy_ J (lf_ J J J (gy_ J (s_mkfz (evs_map.symm.trans (sec H2 sen)) H5 (evs_map.symm.trans sen) ((o.1 (d,4105) (Nat.lt_succ_self d) key_dn).trans B4105) J (gy_ J ((e.2.1 j).elim fun _ c=>s_callN (sec J (sec J sen)) (c.1 _) (fun _ _=>gy_ J (nt_ J (z_ 2 J (eb_ (g:=65) J (fun i=>gy_ J (ff_ H3 (gy_ J (lf_ J J J (gy_ J ((c.2.1 i).elim fun _ k=>s_callN (sec J (sec J sen)) (k.1 _) (fun _ _=>gy_ J (nt_ J (z_ 2 J (er_ (hQ J k.2))))))))))) (fun i=>z_ 6 J (er_ (hQ J (c.2.2 i)))))))))))))))) (fun j=>z_ 13 J (er_ (hQ J (e.2.2 j)))))))))))
include H2 H3 H5 H6 H7 B4105 in
theorem w219_3 (h:T219_3 prog K m2_0 m2_1 m2_2 x3_0 x3_1 x3_2 x3_3 x3_4 d6 p7 m4105):W prog d c219_2 σ st (blockW 0 (thenW prog d c219_3 Q)):=
 sq_ (sq_ (q_ J (l_ H5 B4105 J J (b_ J J lss_ (s_mvB J (em_ (g:=41) J (fun c=>z_ 11 J (e_ (ct_ J (q_ J (m_ (er_ (hQ J (h.1 c)))))))) (fun c=>gy_ J (l_ H5 B4105 J J (gy_ J (b_ J J gtr_ (z_ 2 J (em_ (g:=45) J (fun e=>z_ 7 J (e_ (ct_ J (q_ J (m_ (er_ (hQ J ((h.2 c).1 e)))))))) (fun e=>gy_ J (s_mvI H6 (gy_ J (b_ J J gtr_ (z_ 2 J (em_ (g:=49) J (fun i=>z_ 3 J (e_ (ct_ J (q_ J (m_ (er_ (hQ J (((h.2 c).2 e).1 i)))))))) (fun i=>gy_ J (s_mvI H7 (gy_ J (b_ J J gtr_ (pf_ J J (e_ (cs_ J (fun j=>q_ J (m_ (er_ (hQ J ((((h.2 c).2 e).2 i).1 j))))) (fun j=>sk_ (w219_4 hQ H2 H3 H5 B4105 ((((h.2 c).2 e).2 i).2 j))))))))))))))))))))))))))))
include H2 H3 H5 H6 H7 B4105 in
theorem w219_2 (h:T219_2 prog K m2_0 m2_1 m2_2 x3_0 x3_1 x3_2 x3_3 x3_4 d6 p7 m4105):W prog d c219_0 σ st (blockW 3 (thenW prog d c219_2 (blockW 0 (thenW prog d c219_3 Q)))):=
 au @w219_3
theorem w219_5 (h:T219_5 prog K ):W prog d c219_3 σ st Q:=
 au trivial
include H2 H3 in
theorem w219_1 (h:T219_1 prog K m2_0 m2_1 m2_2 x3_0 x3_1 x3_2 x3_3 x3_4):W prog d c219_4 σ st Q:=
 au (And.intro @w219_2 (And.intro @w219_3 @w219_5))
include H0 H1 in
theorem w219_0 (h:T219_0 prog K m0 x1):W prog d (sR 0 r219_0 c219_4) σ st Q:=
 au @w219_1
end
theorem p219 {prog:Prog}(hf:prog.fn 219=some pf219){m0:Img}{x1:Rou}{K:Bool→Prop}(h:T219_0 prog K m0 x1) :∃res0:Bool,K res0∧Pus prog 219 [m0.av,x1.av] (.b res0):=
 P1 hf J (w219_0 (h1 J fun _=>J) J J h)
def r225_0:List AI:=[oY 2 5 0,oC 3 (.b false)]
def r225_1:List AI:=[oK 4 3 1,oK 5 5 2,oQ 6 219 [4,5],oZ 7 6,oM 3 7]
abbrev b225:AC:=(sR 0 r225_0 (sR 1 r225_1 .ret))
def pf225:AF:={ nt:=8,res:=[.tmp 3],body:=b225 }
def T225_0 (prog:Prog)(K:Bool→Prop)(x0:Rou)(t1:Img):Prop:=
  ∃c,Pus prog 219 [t1.av,x0.av] (.b c)∧K (!c)
section
variable {prog:Prog}{d:Nat}{Q:AE→Sl→St→Prop}{K:Bool→Prop}{st0:St}(hQ:HF d st0 AV.b 3 Q K){σ:Sl}{st:St}
include hQ
variable {x0:Rou}{t1:Img}
variable (H0:σ 0=x0.av)(H1:σ 1=.fp [.sl .ext (List.map Typ.row t1.types),.sl .ext (List.map rowS t1.texts),.sl .ext (List.map Fun.row t1.funcs)])(FR:Fr d (d,0) st0.bx st0.ow st.bx st.ow)
include H0 H1 FR in
theorem w225_0 (h:T225_0 prog K x0 t1):W prog d (sR 0 r225_0 (sR 1 r225_1 .ret)) σ st Q:=
 au trivial
end
theorem p225 {prog:Prog}(hf:prog.fn 225=some pf225){x0:Rou}{t1:Img}{K:Bool→Prop}(h:T225_0 prog K x0 t1):PuN prog 225 [x0.av,.fp [.sl .ext (List.map Typ.row t1.types),.sl .ext (List.map rowS t1.texts),.sl .ext (List.map Fun.row t1.funcs)]] (fun r=>∃res0:Bool,(r=.b res0)∧K res0):=
 PF hf J J fun d st Q q=>w225_0 q J J Fr.refl h
def r213_0:List AI:=[oO 2 (.boxf 3 (.t 0)),oY 3 4 1,oI 4 0]
def r213_1:List AI:=[oF 6 3 3,oL 7 6,oJ 8 7,oM 5 8]
def r213_2:List AI:=[oF 9 0 3,oL 10 9,oW 11 .lss 10 1,oM 12 11,gF 12 (oF 13 0 3),gF 12 (oL 14 13),gF 12 (oW 15 .gtr 14 8),oR 16 12 15,oM 17 16,gF 17 (oF 18 2 3),gF 17 (oL 19 18),gF 17 (oV 20 .lss 19 0),oR 21 17 20,oM 22 21,gF 22 (oF 23 2 3),gF 22 (oL 24 23),gF 22 (oV 25 .gtr 24 5000),oR 26 22 25,oM 27 26,gF 27 (oM 28 5),gF 27 (oV 29 .gtr 28 16),oR 30 27 29,oM 31 30,gF 31 (oF 32 1 3),gF 31 (oL 33 32),gF 31 (oV 34 .lss 33 (-1)),oR 35 31 34,oM 36 35,gF 36 (oF 37 1 3),gF 36 (oL 38 37),gF 36 (oM 39 5),gF 36 (oT 40 .geq 38 39),oR 41 36 40,oM 42 41,gF 42 (oF 43 3 3),gF 42 (oL 44 43),gF 42 (oO 45 (.mkfn 225 [(.t 2)])),gF 42 (oO 46 (.call true 224 [(.t 44),(.t 45)])),oR 47 42 46]
def r213_3:List AI:=[oI 4 8]
def r213_4:List AI:=[oI 4 0]
abbrev b213:AC:=(sR 0 r213_0 (sR 1 r213_1 (.seq (sR 2 r213_2 (.cond (.t 47) (sR 3 r213_3 .ret) .skip)) (sR 4 r213_4 .ret))))
def pf213:AF:={ nt:=48,res:=[.tmp 4],fz:=[2],body:=b213 }
def T213_0 (prog:Prog)(K:Int→Prop)(m0:Img)(s1:Sta):Prop:=
  (s1.outcome<1→K 8)∧(¬(s1.outcome<1)→(s1.outcome>8→K 8)∧(¬(s1.outcome>8)→(s1.steps<0→K 8)∧(¬(s1.steps<0)→(s1.steps>5000→K 8)∧(¬(s1.steps>5000)→((s1.routines.length:Int)>16→K 8)∧(¬((s1.routines.length:Int)>16)→(s1.failing<(-1)→K 8)∧(¬(s1.failing<(-1))→(s1.failing≥(s1.routines.length:Int)→K 8)∧(¬(s1.failing≥(s1.routines.length:Int))→∃c,(∀e:Own,PuN prog 224 [.sl e (List.map Rou.row s1.routines),.fn 225 [.fp [.sl .ext (List.map Typ.row m0.types),.sl .ext (List.map rowS m0.texts),.sl .ext (List.map Fun.row m0.funcs)]]] (fun r=>r=.b c))∧(c=true→K 8)∧(c=false→K 0))))))))
section
variable {prog:Prog}{d:Nat}{Q:AE→Sl→St→Prop}{K:Int→Prop}(hQ:H1 (AV.i .i64) 4 Q K){σ:Sl}{st:St}
include hQ
variable {m0:Img}{s1:Sta}
variable (H0:σ 0=m0.av)(H1:σ 1=s1.av)
include H0 H1 in
theorem w213_0 (h:T213_0 prog K m0 s1):W prog d (sR 0 r213_0 (sR 1 r213_1 (.seq (sR 2 r213_2 (.cond (.t 47) (sR 3 r213_3 .ret) .skip)) (sR 4 r213_4 .ret)))) σ st Q:=
 q_ J (s_boxf H0 J J (s_box H1 J (m_ (e_ (q_ J (f_ J (l_ J lk_here J J (ll_ J (m_ (e_ (sq_ (q_ J (f_ J (l_ J lk_here J J (b_ J J lss_ (s_mvB J (em_ (g:=12) J (fun c=>z_ 35 J (e_ (ct_ J (q_ J (m_ (er_ (hQ J (h.1 c)))))))) (fun c=>gy_ J (f_ J (gy_ J (l_ J lk_here J J (gy_ J (b_ J J gtr_ (z_ 2 J (em_ (g:=17) J (fun e=>z_ 30 J (e_ (ct_ J (q_ J (m_ (er_ (hQ J ((h.2 c).1 e)))))))) (fun e=>gy_ J (f_ J (gy_ J (l_ J lk_here J J (gy_ J (b_ J J lss_ (z_ 2 J (em_ (g:=22) J (fun i=>z_ 25 J (e_ (ct_ J (q_ J (m_ (er_ (hQ J (((h.2 c).2 e).1 i)))))))) (fun i=>gy_ J (f_ J (gy_ J (l_ J lk_here J J (gy_ J (b_ J J gtr_ (z_ 2 J (em_ (g:=27) J (fun j=>z_ 20 J (e_ (ct_ J (q_ J (m_ (er_ (hQ J ((((h.2 c).2 e).2 i).1 j)))))))) (fun j=>gy_ J (s_mvI J (gy_ J (b_ J J gtr_ (z_ 2 J (em_ (g:=31) J (fun k=>z_ 16 J (e_ (ct_ J (q_ J (m_ (er_ (hQ J (((((h.2 c).2 e).2 i).2 j).1 k)))))))) (fun k=>gy_ J (f_ J (gy_ J (l_ J lk_here J J (gy_ J (b_ J J lss_ (z_ 2 J (em_ (g:=36) J (fun o=>z_ 11 J (e_ (ct_ J (q_ J (m_ (er_ (hQ J ((((((h.2 c).2 e).2 i).2 j).2 k).1 o)))))))) (fun o=>gy_ J (f_ J (gy_ J (l_ J lk_here J J (gy_ J (s_mvI J (gy_ J (b_ J J geq_ (z_ 2 J (em_ (g:=42) J (fun r=>z_ 5 J (e_ (ct_ J (q_ J (m_ (er_ (hQ J (((((((h.2 c).2 e).2 i).2 j).2 k).2 o).1 r)))))))) (fun r=>gy_ J (f_ J (gy_ J (l_ J lk_here J J (gy_ J (s_mkfn (sec J sen) (gy_ J ((((((((h.2 c).2 e).2 i).2 j).2 k).2 o).2 r).elim fun _ p=>s_callN (sec J (sec J sen)) (p.1 _) (fun _ _=>pf_ J J (e_ (cb_ J (fun q=>q_ J (m_ (er_ (hQ J (p.2.1 q))))) (fun q=>sk_ (q_ J (m_ (er_ (hQ J (p.2.2 q))))))))))))))))))))))))))))))))))))))))))))))))))))))))))))))))))))))))))))))))))
end
theorem p213 {prog:Prog}(hf:prog.fn 213=some pf213){m0:Img}{s1:Sta}{K:Int→Prop}(h:T213_0 prog K m0 s1) :∃res0:Int,K res0∧Pus prog 213 [m0.av,s1.av] (.i .i64 res0):=
 P1 hf J (w213_0 (h1 J fun _=>J) J J h)
abbrev H235 (Q:AE→Sl→St→Prop)(K:Bool→Prop):Prop:=∀(σ:Sl)(st:St)(res0:Bool),σ 6=.b res0→K res0→Q .ret σ st
section
variable {prog:Prog}{d:Nat}{Q:AE→Sl→St→Prop}{K:Bool→Prop}(hQ:H235 Q K){σ:Sl}{st:St}
include hQ
end
def r221_0:List AI:=[oY 2 3 0,oY 3 5 1,oC 4 (.b false)]
def r221_1:List AI:=[oF 7 0 3,oL 8 7,oW 9 .eql 8 3]
def r221_2:List AI:=[oF 10 2 3,oL 11 10,oJ 12 11,oV 13 .eql 12 0,oM 14 13,gT 14 (oF 15 3 3),gT 14 (oL 16 15),gT 14 (oJ 17 16),gT 14 (oV 18 .eql 17 0),oA 19 14 18,oM 20 19,gT 20 (oF 21 4 3),gT 20 (oL 22 21),gT 20 (oJ 23 22),gT 20 (oV 24 .eql 23 0),oA 25 20 24,oM 26 25,gT 26 (oF 27 1 3),gT 26 (oL 28 27),gT 26 (oV 29 .eql 28 0),oA 30 26 29,oM 4 30]
def r221_3:List AI:=[oF 31 0 3,oL 32 31,oW 33 .neq 32 2,oM 34 33,gT 34 (oF 35 0 3),gT 34 (oL 36 35),gT 34 (oW 37 .neq 36 1),gT 34 (oM 38 37),gF 38 (oF 39 1 3),gF 38 (oL 40 39),gF 38 (oV 41 .neq 40 0),gT 34 (oR 42 38 41),oA 43 34 42]
def r221_4:List AI:=[oC 4 (.b false)]
def r221_5:List AI:=[oF 44 2 3,oL 45 44,oJ 46 45,oV 47 .lss 46 1,oM 48 47,gF 48 (oF 49 2 3),gF 48 (oL 50 49),gF 48 (oJ 51 50),gF 48 (oV 52 .gtr 51 170),oR 53 48 52,oM 54 53,gF 54 (oF 55 3 3),gF 54 (oL 56 55),gF 54 (oJ 57 56),gF 54 (oV 58 .gtr 57 410),oR 59 54 58,oM 60 59,gF 60 (oF 61 4 3),gF 60 (oL 62 61),gF 60 (oQ 63 163 [62]),gF 60 (oV 64 .neq 63 0),oR 65 60 64]
def r221_6:List AI:=[oC 4 (.b false)]
def r221_7:List AI:=[oI 5 0]
def r221_8:List AI:=[oM 66 5,oF 67 2 3,oL 68 67,oJ 69 68,oT 70 .lss 66 69]
def r221_9:List AI:=[oK 73 3 2,oF 74 2 3,oL 75 74,oM 76 5,oX 77 4 75 76,oK 78 4 77,oQ 79 87 [73,78],oV 80 .neq 79 0]
def r221_10:List AI:=[oC 4 (.b false)]
def r221_11:List AI:=[oM 71 5,oV 72 .add 71 1,oM 5 72]
def r221_12:List AI:=[oI 6 0]
def r221_13:List AI:=[oM 81 6,oF 82 3 3,oL 83 82,oJ 84 83,oT 85 .lss 81 84]
def r221_14:List AI:=[oK 88 3 2,oF 89 2 3,oL 90 89,oJ 91 90,oF 92 3 3,oL 93 92,oM 94 6,oX 95 8 93 94,oK 96 8 95,oQ 97 235 [88,91,96],oZ 98 97]
def r221_15:List AI:=[oC 4 (.b false)]
def r221_16:List AI:=[oM 86 6,oV 87 .add 86 1,oM 6 87]
def r221_17:List AI:=[oC 4 (.b true)]
abbrev l221_0:AC:=(.seq (sR 8 r221_8 (.cond (.t 70) .skip (.exit 0))) (.seq (.block 1 (sR 10 r221_9 (.cond (.t 80) (sR 11 r221_10 .ret) .skip))) (.reg 9 r221_11)))
abbrev l221_1:AC:=(.seq (sR 13 r221_13 (.cond (.t 85) .skip (.exit 2))) (.seq (.block 3 (sR 15 r221_14 (.cond (.t 98) (sR 16 r221_15 .ret) .skip))) (.reg 14 r221_16)))
abbrev c221_2:AC:=(sR 17 r221_17 .ret)
abbrev c221_3:AC:=(.seq (sR 12 r221_12 (.block 2 (.loop l221_1))) c221_2)
abbrev c221_4:AC:=(.seq (sR 7 r221_7 (.block 0 (.loop l221_0))) c221_3)
abbrev c221_5:AC:=(.seq (sR 5 r221_5 (.cond (.t 65) (sR 6 r221_6 .ret) .skip)) c221_4)
abbrev c221_6:AC:=(.seq (sR 3 r221_3 (.cond (.t 43) (sR 4 r221_4 .ret) .skip)) c221_5)
abbrev c221_7:AC:=(.seq (sR 1 r221_1 (.cond (.t 9) (sR 2 r221_2 .ret) .skip)) c221_6)
abbrev b221:AC:=(sR 0 r221_0 c221_7)
def pf221:AF:={ nt:=99,res:=[.tmp 4],body:=b221 }
abbrev H221 (Q:AE→Sl→St→Prop)(K:Bool→Prop):Prop:=∀(σ:Sl)(st:St)(res0:Bool),σ 4=.b res0→K res0→Q .ret σ st
section
variable {prog:Prog}{d:Nat}{Q:AE→Sl→St→Prop}{K:Bool→Prop}(hQ:H221 Q K){σ:Sl}{st:St}
include hQ
end
abbrev H214 (Q:AE→Sl→St→Prop)(K:Int→Prop):Prop:=∀(σ:Sl)(st:St)(res0:Int),σ 4=.i .i64 res0→K res0→Q .ret σ st
section
variable {prog:Prog}{d:Nat}{Q:AE→Sl→St→Prop}{K:Int→Prop}(hQ:H214 Q K){σ:Sl}{st:St}
include hQ
end
end Go.AM
