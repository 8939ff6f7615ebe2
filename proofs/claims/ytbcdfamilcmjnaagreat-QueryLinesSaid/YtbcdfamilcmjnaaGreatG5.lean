/- Parts of the proof: U44d, U44e, U44f, U44g, U44h, U44i, U44k, U44l, U44m, U44n, U44j, H44b, H44c, K44x, C30, C30b, V38b, V44, C44, C44b, V38c, V39, V39b. -/
import Derived.Test.YtbcdfamilcmjnaaGreatG2
import Derived.Test.YtbcdfamilcmjnaaGreatG4
import Derived.Test.YtbcdfamilcmjnaaGreatRows
import Derived.Test.YtbcdfamilcmjnaaGreatG3
import Derived.Shelf.Strings.Builder1
set_option linter.all false
/- Parts of the proof. -/
namespace Go.AM
open Go
set_option linter.unusedVariables false
set_option linter.unusedSimpArgs false
set_option maxRecDepth 4000
attribute [local irreducible] WO fillCells fillRows
def r276_0:List AI:=[oM 4 0,oM 5 0,oN 6 5,oF 7 12 6,oL 8 7,oM 9 1,oO 10 (.bslice [zs] 1 [(0,(.t 9))]),oO 11 (.app 1 16 (.t 8) (.t 10)),oN 12 4,oF 13 12 12,oS 1 13 11]
abbrev b276:AC:=(.reg 500000 r276_0)
def pf276:AF:={ nt:=14,res:=[],body:=b276 }
def r271_0:List AI:=[oI 1 0]
def r271_1:List AI:=[oL 2 0,oL 3 0,oO 4 (.mkbf 273 [(.t 3)]),oO 5 (.call true 272 [(.t 2),(.t 4)]),oM 1 5]
abbrev b271:AC:=(sR 0 r271_0 (sR 1 r271_1 .ret))
def pf271:AF:={ nt:=6,res:=[.tmp 1],body:=b271 }
def r274_0:List AI:=[oI 1 0]
def r274_1:List AI:=[oL 2 0,oL 3 0,oO 4 (.mkbf 275 [(.t 3)]),oO 5 (.call true 272 [(.t 2),(.t 4)]),oM 1 5]
abbrev b274:AC:=(sR 0 r274_0 (sR 1 r274_1 .ret))
def pf274:AF:={ nt:=6,res:=[.tmp 1],body:=b274 }
def r273_0:List AI:=[oY 7 4 3,oI 8 0]
def r273_1:List AI:=[oM 9 0,oN 10 9,oF 11 0 10,oF 12 2 11,oL 13 12,oF 14 0 7,oL 15 14,oX 16 7 13 15,oF 17 0 16,oL 18 17,oM 19 0,oN 20 19,oF 21 7 20,oF 22 4 21,oL 23 22,oT 24 .eql 18 23]
def r273_2:List AI:=[oM 25 0,oM 26 1,oQ 27 258 [26],oB 28 .add (.t 27) (.c (.s [32])),oM 29 2,oQ 30 258 [29],oT 31 .add 28 30,oB 32 .add (.t 31) (.c (.s [32,97,116,32])),oF 33 1 7,oL 34 33,oQ 35 258 [34],oT 36 .add 32 35,oO 37 (.call true 276 [(.t 25),(.t 36)])]
def r273_3:List AI:=[oI 8 0]
abbrev c273_0:AC:=(sR 3 r273_3 .ret)
abbrev b273:AC:=(sR 0 r273_0 (.seq (sR 1 r273_1 (.cond (.t 24) (.reg 2 r273_2) .skip)) c273_0))
def pf273:AF:={ nt:=38,res:=[.tmp 8],body:=b273 }
def T273_1 (prog:Prog)(K:Int→Dsk→Prop)(mP:Dsk):Prop:=
  K 0 mP
def T273_0 (prog:Prog)(K:Int→Dsk→Prop)(g1:Int)(k2:Int)(x3:Frm)(mP:Dsk):Prop:=
  0≤x3.func∧∃j:Fun,mP.image.funcs[(x3.func).toNat]?=some j∧(j.name=mP.query.name→∃c:BS,Pus prog 258 [.i .i64 g1] (.s c)∧c.length+([32]:BS).length≤maxStr∧∃e:BS,Pus prog 258 [.i .i64 k2] (.s e)∧(c++([32]:BS)).length+e.length≤maxStr∧((c++([32]:BS))++e).length+([32,97,116,32]:BS).length≤maxStr∧∃k:BS,Pus prog 258 [.i .i64 x3.pos] (.s k)∧(((c++([32]:BS))++e)++([32,97,116,32]:BS)).length+k.length≤maxStr∧∃o:Dsk,PuX prog 276 (Dk mP) [.s ((((c++([32]:BS))++e)++([32,97,116,32]:BS))++k)] (fun r=>r=.tup []) ((Dk o))∧T273_1 prog K o)∧(¬(j.name=mP.query.name)→T273_1 prog K mP)
section
variable {prog:Prog}{d:Nat}{Q:AE→Sl→St→Prop}{K:Int→Dsk→Prop}{st0:St}{kp:Key}{vp:Nat}(hQ:HD d st0 kp vp Dk (AV.i .i64) 8 Q K)(hkp:kp.1<d){σ:Sl}{st:St}
include hQ hkp
variable {mP:Dsk}{g1 k2:Int}{x3:Frm}
variable (H0:σ 0=.p kp vp 0)(H1:σ 1=.i .i64 g1)(H2:σ 2=.i .i64 k2)(H3:σ 3=x3.av)(BP:Dk mP st.bx st.ow kp vp)(FR:Fr d kp st0.bx st0.ow st.bx st.ow)
include BP FR in
theorem w273_1 (h:T273_1 prog K mP):W prog d c273_0 σ st Q:=
 q_ J (m_ (er_ (hQ J BP FR h)))
include H0 H1 H2 H3 BP FR in
theorem w273_0 (h:T273_0 prog K g1 k2 x3 mP):W prog d (sR 0 r273_0 (.seq (sR 1 r273_1 (.cond (.t 24) (.reg 2 r273_2) .skip)) c273_0)) σ st Q:=
 q_ J (s_box H3 J (m_ (e_ (sq_ (q_ J (m_ (s_nilP H0 (f_ J (f_ J (s_loadD J (Dk.other (key_LP hkp) BP) J J (f_ J (l_ J lk_here J J (h.2.elim fun p e=>ia_ J J h.1 e.1 (Fun.row_eq p) J (ff_ J (lf_ J J J (m_ (s_nilP H0 (f_ J (f_ J (s_loadD J (Dk.other (key_LP hkp) BP) J J (b_ J J seq_ (e_ (cs_ J (fun k=>W.reg0 J fun _ _=>m_ (m_ ((e.2.1 k).elim fun _ i=>ca_ (sc1 H1 J) i.1 (b_ J J (abin_cat' i.2.1) (m_ (i.2.2.elim fun _ c=>ca_ (sc1 H2 J) c.1 (b_ J J (abin_cat' c.2.1) (b_ J J (abin_cat' c.2.2.1) (f_ J (l_ J lk_here J J (c.2.2.2.elim fun _ j=>ca_ (sc1 J J) j.1 (b_ J J (abin_cat' j.2.1) (j.2.2.elim fun _ o=>cX_ (sec H0 (sec J sen)) o.1 (Nat.lt_succ_of_lt hkp) (Dk.other (key_LP hkp) BP) (fun _ q r=>e_ (w273_1 hQ hkp q (Fr.pass (Fr.box FR) r) o.2))))))))))))))) (fun k=>sk_ (w273_1 hQ hkp (Dk.other (key_LP hkp) BP) (Fr.box FR) (e.2.2 k))))))))))))))))))))))))))
end
theorem p273 {prog:Prog}(hf:prog.fn 273=some pf273){g1:Int}{k2:Int}{x3:Frm}{mP:Dsk}{K:Int→Dsk→Prop}(h:T273_0 prog K g1 k2 x3 mP):PuXK prog 273 (Dk mP) [.i .i64 g1,.i .i64 k2,x3.av] (fun r (b_:Dsk)=>∃res0:Int,(r=.i .i64 res0)∧K res0 b_) (fun b_=>(Dk b_)):=
 PD hf J J (fun _=>Dk.out) fun d st kp vp hkp hB Q q=>w273_0 q hkp J J J J hB Fr.refl h
def r270_0:List AI:=[oI 2 0]
def r270_1:List AI:=[oM 5 0,oN 6 5,oF 7 3 6,oF 8 3 7,oL 9 8,oJ 10 9,oI 11 0]
def r270_2:List AI:=[oT 12 .lss 11 10]
def r270_3:List AI:=[oM 13 11,oX 14 5 9 11,oK 15 5 14,oO 4 (.alloc [z8,z6,zl,zl,zl]),oM 3 13,oS 5 4 15]
def r270_4:List AI:=[oF 16 0 4,oL 17 16,oW 18 .eql 17 2,oM 19 18,gT 19 (oF 20 1 4),gT 19 (oL 21 20),gT 19 (oM 22 0),gT 19 (oN 23 22),gT 19 (oF 24 7 23),gT 19 (oF 25 3 24),gT 19 (oL 26 25),gT 19 (oT 27 .eql 21 26),oA 28 19 27]
def r270_5:List AI:=[oM 29 0,oM 30 3,oQ 31 258 [30],oB 32 .add (.c (.s [103,111,114,111,117,116,105,110,101,32])) (.t 31),oO 33 (.call true 276 [(.t 29),(.t 32)])]
def r270_6:List AI:=[oV 34 .add 11 1,oM 11 34]
def r270_7:List AI:=[oI 2 0]
abbrev c270_0:AC:=(.cond (.t 28) (.reg 5 r270_5) .skip)
abbrev c270_1:AC:=(.reg 6 r270_6)
abbrev l270_0:AC:=(sR 2 r270_2 (.seq (.cond (.t 12) .skip (.exit 0)) (.seq (.block 1 (sR 3 r270_3 (sR 4 r270_4 c270_0))) c270_1)))
abbrev c270_3:AC:=(sR 7 r270_7 .ret)
abbrev b270:AC:=(sR 0 r270_0 (.seq (sR 1 r270_1 (.block 0 (.loop l270_0))) c270_3))
def pf270:AF:={ nt:=35,res:=[.tmp 2],body:=b270 }
abbrev I270_0 (prog:Prog)(d:Nat)(Q:AE→Sl→St→Prop)(st0:St)(kp:Key)(vp:Nat)(t9:List Rou)(t10:Int)(t11:Int)(mP:Dsk):Prop:=
  ∀(σ:Sl)(st:St)(o_t9:Own),σ 0=.p kp vp 0→σ 9=.sl o_t9 (List.map Rou.row t9)→σ 10=.i .i64 t10→σ 11=.i .i64 t11→Dk mP st.bx st.ow kp vp→Fr d kp st0.bx st0.ow st.bx st.ow→W prog d (.loop l270_0) σ st (blockW 0 (thenW prog d c270_3 Q))
def T270_3 (prog:Prog)(K:Int→Dsk→Prop)(P0:Int→Dsk→Prop)(t9:List Rou)(t10:Int)(t11:Int)(mP:Dsk):Prop:=
  P0 (IntKind.i64.wrap (t11+1)) mP
def T270_2 (prog:Prog)(K:Int→Dsk→Prop)(P0:Int→Dsk→Prop)(g3:Int)(t9:List Rou)(t10:Int)(t11:Int)(t28:Bool)(mP:Dsk):Prop:=
  (t28=true→∃c:BS,Pus prog 258 [.i .i64 g3] (.s c)∧([103,111,114,111,117,116,105,110,101,32]:BS).length+c.length≤maxStr∧∃e:Dsk,PuX prog 276 (Dk mP) [.s (([103,111,114,111,117,116,105,110,101,32]:BS)++c)] (fun r=>r=.tup []) ((Dk e))∧T270_3 prog K P0 t9 t10 t11 e)∧(t28=false→T270_3 prog K P0 t9 t10 t11 mP)
def T270_4 (prog:Prog)(K:Int→Dsk→Prop)(mP:Dsk):Prop:=
  K 0 mP
def T270_1 (prog:Prog)(K:Int→Dsk→Prop)(P0:Int→Dsk→Prop)(t9:List Rou)(t10:Int)(t11:Int)(mP:Dsk):Prop:=
  (t11<t10→0≤t11∧∃c:Rou,t9[(t11).toNat]?=some c∧(c.status=2→T270_2 prog K P0 t11 t9 t10 t11 (decide (c.key=mP.query.key)) mP)∧(¬(c.status=2)→T270_2 prog K P0 t11 t9 t10 t11 false mP))∧(¬(t11<t10)→T270_4 prog K mP)
def T270_0 (prog:Prog)(K:Int→Dsk→Prop)(mP:Dsk):Prop:=
  ∀P0:Int→Dsk→Prop,(∀(t11:Int)(mP_b:Dsk),T270_1 prog K P0 mP.state.routines (mP.state.routines.length:Int) t11 mP_b→P0 t11 mP_b)→P0 0 mP
section
variable {prog:Prog}{d:Nat}{Q:AE→Sl→St→Prop}{K:Int→Dsk→Prop}{st0:St}{kp:Key}{vp:Nat}(hQ:HD d st0 kp vp Dk (AV.i .i64) 2 Q K)(hkp:kp.1<d){σ:Sl}{st:St}
include hQ hkp
variable {t9:List Rou}{t10 t11:Int}{mP:Dsk}{P0:Int→Dsk→Prop}{o_t9:Own}{g3:Int}{t28:Bool}
variable (kP0 :∀(t11:Int)(mP:Dsk),P0 t11 mP→I270_0 prog d Q st0 kp vp t9 t10 t11 mP)(H0:σ 0=.p kp vp 0)(H3:σ 3=.i .i64 g3)(H9:σ 9=.sl o_t9 (List.map Rou.row t9))(H10:σ 10=.i .i64 t10)(H11:σ 11=.i .i64 t11)(H28:σ 28=.b t28)(BP:Dk mP st.bx st.ow kp vp)(FR:Fr d kp st0.bx st0.ow st.bx st.ow)
include kP0 H0 H9 H10 H11 BP FR in
theorem w270_3 (h:T270_3 prog K P0 t9 t10 t11 mP):W prog d c270_1 σ st (thenW prog d (.loop l270_0) (blockW 0 (thenW prog d c270_3 Q))):=
 W.reg0 J fun _ _=>b_ H11 J add_ (m_ (e_ (kP0 _ _ h _ _ _ H0 H9 H10 J BP FR)))
include kP0 H0 H3 H9 H10 H11 H28 BP FR in
theorem w270_2 (h:T270_2 prog K P0 g3 t9 t10 t11 t28 mP):W prog d c270_0 σ st (blockW 1 (thenW prog d c270_1 (thenW prog d (.loop l270_0) (blockW 0 (thenW prog d c270_3 Q))))):=
 cb_ H28 (fun e=>W.reg0 J fun _ _=>m_ (m_ ((h.1 e).elim fun _ c=>ca_ (sc1 H3 J) c.1 (b_ J J (abin_cat' c.2.1) (c.2.2.elim fun _ i=>cX_ (sec H0 (sec J sen)) i.1 (Nat.lt_succ_of_lt hkp) BP (fun _ j k=>e_ (w270_3 hQ hkp kP0 H0 H9 H10 H11 j (Fr.pass FR k) i.2))))))) (fun e=>sk_ (w270_3 hQ hkp kP0 H0 H9 H10 H11 BP FR (h.2 e)))
include BP FR in
theorem w270_4 (h:T270_4 prog K mP):W prog d c270_3 σ st Q:=
 q_ J (m_ (er_ (hQ J BP FR h)))
include kP0 H0 H9 H10 H11 BP FR in
theorem w270_1 (h:T270_1 prog K P0 t9 t10 t11 mP):W prog d l270_0 σ st (thenW prog d (.loop l270_0) (blockW 0 (thenW prog d c270_3 Q))):=
 q_ J (b_ H11 H10 lss_ (e_ (sq_ (cs_ J (fun c=>sk_ (sq_ (bk_ (sq_ (W.reg (m_ ((h.1 c).2.elim fun k e=>ia_ H9 H11 (h.1 c).1 e.1 (Rou.row_eq k) J (lf_ J J J (s_alloc (m_ (so_ J (show lk _ (d,12291)=some (_,([.i .u8 0,.i .i64 0,.sl .full (List.map Frm.row ([]:List Frm)),.sl .full (List.map Dfr.row ([]:List Dfr)),.sl .full (List.map Pan.row ([]:List Pan))]:List AV)) from lk_here) J J J (e_ (q_ J (f_ J (l_ J lk_here J J (b_ J J eql_ (s_mvB J (em_ (g:=19) J (fun j=>gy_ J (f_ J (gy_ J (l_ J lk_here J J (gy_ J (s_mv H0 (gy_ J (s_nilP J (gy_ J (f_ J (gy_ J (f_ J (gy_ J (s_loadD J (Dk.other (key_LP hkp) (Dk.other (key_LP hkp) BP)) J J (gy_ J (b_ J J eql_ (pt_ J J (e_ (w270_2 hQ hkp kP0 H0 H11 H9 H10 H11 J (Dk.other (key_LP hkp) (Dk.other (key_LP hkp) BP)) (Fr.box (Fr.box FR)) (e.2.1 j)))))))))))))))))))) (fun j=>z_ 9 J (e_ (w270_2 hQ hkp kP0 H0 H11 H9 H10 H11 J (Dk.other (key_LP hkp) (Dk.other (key_LP hkp) BP)) (Fr.box (Fr.box FR)) (e.2.2 j)))))))))))))))))))))) (fun c=>ex_ (w270_4 hQ hkp BP FR (h.2 c)))))))
include H0 BP FR in
theorem w270_0 (h:T270_0 prog K mP):W prog d (sR 0 r270_0 (.seq (sR 1 r270_1 (.block 0 (.loop l270_0))) c270_3)) σ st Q:=
 q_ J (m_ (e_ (sq_ (q_ J (m_ (s_nilP H0 (f_ J (f_ J (s_loadD J BP J J (ll_ J (m_ (e_ (bk_ (h (I270_0 prog d Q st0 kp vp mP.state.routines (mP.state.routines.length:Int)) (fun _ _ hb _ _ _ H0 H9 H10 H11 BP FR=>W.loop (w270_1 hQ hkp (fun _ _ x=>x) H0 H9 H10 H11 BP FR hb)) _ _ _ H0 J J J BP FR))))))))))))))
end
theorem p270 {prog:Prog}(hf:prog.fn 270=some pf270){mP:Dsk}{K:Int→Dsk→Prop}(h:T270_0 prog K mP):PuXK prog 270 (Dk mP) [] (fun r (b_:Dsk)=>∃res0:Int,(r=.i .i64 res0)∧K res0 b_) (fun b_=>(Dk b_)):=
 PD hf J J (fun _=>Dk.out) fun d st kp vp hkp hB Q q=>w270_0 q hkp J hB Fr.refl h
def r269_0:List AI:=[oI 2 0]
def r269_1:List AI:=[oM 7 0,oN 8 7,oF 9 3 8,oF 10 3 9,oL 11 10,oJ 12 11,oI 13 0]
def r269_2:List AI:=[oT 14 .lss 13 12]
def r269_3:List AI:=[oM 15 13,oX 16 5 11 13,oK 17 5 16,oO 4 (.alloc [z8,z6,zl,zl,zl]),oM 3 15,oS 5 4 17]
def r269_4:List AI:=[oM 19 0,oN 20 19,oF 21 0 20,oK 22 3 21,oM 23 3,oK 24 5 4,oQ 25 207 [22,23,24],oM 18 25,oE 26 0 18,oE 27 1 18,oM 5 26,oM 6 27]
def r269_5:List AI:=[oM 28 6,oV 29 .neq 28 0]
def r269_6:List AI:=[oM 30 6,oM 2 30]
def r269_7:List AI:=[oM 31 0,oM 32 5,oO 33 (.iaL 1 (.t 32) (.c (.i .i64 0))),oL 34 33,oO 35 (.call true 276 [(.t 31),(.t 34)])]
def r269_8:List AI:=[oV 36 .add 13 1,oM 13 36]
def r269_9:List AI:=[oI 2 0]
abbrev l269_0:AC:=(sR 2 r269_2 (.seq (.cond (.t 14) .skip (.exit 0)) (.seq (.block 1 (sR 3 r269_3 (sR 4 r269_4 (.seq (sR 5 r269_5 (.cond (.t 29) (sR 6 r269_6 .ret) .skip)) (.reg 7 r269_7))))) (.reg 8 r269_8))))
abbrev c269_1:AC:=(sR 9 r269_9 .ret)
abbrev b269:AC:=(sR 0 r269_0 (.seq (sR 1 r269_1 (.block 0 (.loop l269_0))) c269_1))
def pf269:AF:={ nt:=37,res:=[.tmp 2],body:=b269 }
abbrev I269_0 (prog:Prog)(d:Nat)(Q:AE→Sl→St→Prop)(st0:St)(kp:Key)(vp:Nat)(t11:List Rou)(t12:Int)(t13:Int)(mP:Dsk):Prop:=
  ∀(σ:Sl)(st:St)(o_t11:Own),σ 0=.p kp vp 0→σ 11=.sl o_t11 (List.map Rou.row t11)→σ 12=.i .i64 t12→σ 13=.i .i64 t13→Dk mP st.bx st.ow kp vp→Fr d kp st0.bx st0.ow st.bx st.ow→W prog d (.loop l269_0) σ st (blockW 0 (thenW prog d c269_1 Q))
def T269_2 (prog:Prog)(K:Int→Dsk→Prop)(mP:Dsk):Prop:=
  K 0 mP
def T269_1 (prog:Prog)(K:Int→Dsk→Prop)(P0:Int→Dsk→Prop)(t11:List Rou)(t12:Int)(t13:Int)(mP:Dsk):Prop:=
  (t13<t12→0≤t13∧∃k:Rou,t11[(t13).toNat]?=some k∧∃o c,Pus prog 207 [mP.image.av,.i .i64 t13,k.av] (.tup [.sl .ext (List.map rowS o),.i .i64 c])∧(c≠0→K c mP)∧(¬(c≠0)→∃e,o[0]?=some e∧∃j:Dsk,PuX prog 276 (Dk mP) [.s e] (fun r=>r=.tup []) ((Dk j))∧P0 (IntKind.i64.wrap (t13+1)) j))∧(¬(t13<t12)→T269_2 prog K mP)
def T269_0 (prog:Prog)(K:Int→Dsk→Prop)(mP:Dsk):Prop:=
  ∀P0:Int→Dsk→Prop,(∀(t13:Int)(mP_b:Dsk),T269_1 prog K P0 mP.state.routines (mP.state.routines.length:Int) t13 mP_b→P0 t13 mP_b)→P0 0 mP
section
variable {prog:Prog}{d:Nat}{Q:AE→Sl→St→Prop}{K:Int→Dsk→Prop}{st0:St}{kp:Key}{vp:Nat}(hQ:HD d st0 kp vp Dk (AV.i .i64) 2 Q K)(hkp:kp.1<d){σ:Sl}{st:St}
include hQ hkp
variable {mP:Dsk}{t11:List Rou}{t12 t13:Int}{P0:Int→Dsk→Prop}{o_t11:Own}
variable (kP0 :∀(t13:Int)(mP:Dsk),P0 t13 mP→I269_0 prog d Q st0 kp vp t11 t12 t13 mP)(H0:σ 0=.p kp vp 0)(H11:σ 11=.sl o_t11 (List.map Rou.row t11))(H12:σ 12=.i .i64 t12)(H13:σ 13=.i .i64 t13)(BP:Dk mP st.bx st.ow kp vp)(FR:Fr d kp st0.bx st0.ow st.bx st.ow)
include BP FR in
theorem w269_2 (h:T269_2 prog K mP):W prog d c269_1 σ st Q:=
 q_ J (m_ (er_ (hQ J BP FR h)))
include kP0 H0 H11 H12 H13 BP FR in
theorem w269_1 (h:T269_1 prog K P0 t11 t12 t13 mP):W prog d l269_0 σ st (thenW prog d (.loop l269_0) (blockW 0 (thenW prog d c269_1 Q))):=
 q_ J (b_ H13 H12 lss_ (e_ (sq_ (cs_ J (fun c=>sk_ (sq_ (bk_ (sq_ (W.reg (m_ ((h.1 c).2.elim fun q o=>ia_ H11 H13 (h.1 c).1 o.1 (Rou.row_eq q) J (lf_ J J J (s_alloc (m_ (so_ J (show lk _ (d,12291)=some (_,([.i .u8 0,.i .i64 0,.sl .full (List.map Frm.row ([]:List Frm)),.sl .full (List.map Dfr.row ([]:List Dfr)),.sl .full (List.map Pan.row ([]:List Pan))]:List AV)) from lk_here) J J J (e_ (q_ J (m_ (s_nilP H0 (f_ J (s_loadD J (Dk.other (key_LP hkp) (Dk.other (key_LP hkp) BP)) J J (m_ (l_ J lk_here J J (x2 o.2 fun _ _ e=>ca_ (sc3 J H13 J J) e.1 (m_ (x_ J J (x_ J J (s_mvL J (m_ (e_ (sq_ (q_ J (m_ (b_ J J neq_ (e_ (cs_ J (fun j=>q_ J (m_ (m_ (er_ (hQ J (Dk.other (key_LP hkp) (Dk.other (key_LP hkp) BP)) (Fr.box (Fr.box FR)) (e.2.1 j)))))) (fun j=>sk_ (W.reg0 J fun _ _=>m_ (s_mvL J ((e.2.2 j).elim fun _ p=>ia_ J J (by decide) p.1 J J (lf_ J J J (p.2.elim fun _ k=>cX_ (sec H0 (sec J sen)) k.1 (Nat.lt_succ_of_lt hkp) (Dk.other (key_LP hkp) (Dk.other (key_LP hkp) BP)) (fun _ r s=>e_ (W.reg0 J fun _ _=>b_ H13 J add_ (m_ (e_ (kP0 _ _ k.2 _ _ _ H0 H11 H12 J r (Fr.pass (Fr.box (Fr.box FR)) s)))))))))))))))))))))))))))))))))))))))))))) (fun c=>ex_ (w269_2 hQ hkp BP FR (h.2 c)))))))
include H0 BP FR in
theorem w269_0 (h:T269_0 prog K mP):W prog d (sR 0 r269_0 (.seq (sR 1 r269_1 (.block 0 (.loop l269_0))) c269_1)) σ st Q:=
 q_ J (m_ (e_ (sq_ (q_ J (m_ (s_nilP H0 (f_ J (f_ J (s_loadD J BP J J (ll_ J (m_ (e_ (bk_ (h (I269_0 prog d Q st0 kp vp mP.state.routines (mP.state.routines.length:Int)) (fun _ _ hb _ _ _ H0 H11 H12 H13 BP FR=>W.loop (w269_1 hQ hkp (fun _ _ x=>x) H0 H11 H12 H13 BP FR hb)) _ _ _ H0 J J J BP FR))))))))))))))
end
theorem p269 {prog:Prog}(hf:prog.fn 269=some pf269){mP:Dsk}{K:Int→Dsk→Prop}(h:T269_0 prog K mP):PuXK prog 269 (Dk mP) [] (fun r (b_:Dsk)=>∃res0:Int,(r=.i .i64 res0)∧K res0 b_) (fun b_=>(Dk b_)):=
 PD hf J J (fun _=>Dk.out) fun d st kp vp hkp hB Q q=>w269_0 q hkp J hB Fr.refl h
def r275_0:List AI:=[oY 7 4 3,oI 8 0]
def r275_1:List AI:=[oF 13 3 7,oL 14 13,oJ 15 14,oI 16 0]
def r275_2:List AI:=[oT 17 .lss 16 15]
def r275_3:List AI:=[oX 18 6 14 16,oK 19 6 18,oO 10 (.alloc [z6,z8,z6,zs,zl,zb]),oS 6 10 19]
def r275_4:List AI:=[oM 20 0,oN 21 20,oF 22 0 21,oF 23 2 22,oL 24 23,oF 25 0 7,oL 26 25,oX 27 7 24 26,oF 28 3 27,oL 29 28,oF 30 0 10,oL 31 30,oX 32 2 29 31,oF 33 0 32,oL 34 33,oM 35 0,oN 36 35,oF 37 7 36,oF 38 4 37,oL 39 38,oT 40 .neq 34 39]
def r275_5:List AI:=[oF 42 1 10,oK 43 5 42,oQ 44 72 [43],oM 41 44,oE 45 0 41,oE 46 1 41,oM 11 45,oM 12 46]
def r275_6:List AI:=[oM 47 12,oV 48 .neq 47 0]
def r275_7:List AI:=[oM 49 12,oM 8 49]
def r275_8:List AI:=[oM 50 0,oM 51 1,oQ 52 258 [51],oB 53 .add (.t 52) (.c (.s [32])),oM 54 2,oQ 55 258 [54],oT 56 .add 53 55,oB 57 .add (.t 56) (.c (.s [32])),oF 58 0 10,oL 59 58,oQ 60 258 [59],oT 61 .add 57 60,oB 62 .add (.t 61) (.c (.s [32,61,32])),oM 63 11,oT 64 .add 62 63,oO 65 (.call true 276 [(.t 50),(.t 64)])]
def r275_9:List AI:=[oV 66 .add 16 1,oM 16 66]
def r275_10:List AI:=[oI 8 0]
abbrev c275_0:AC:=(.reg 9 r275_9)
abbrev l275_0:AC:=(sR 2 r275_2 (.seq (.cond (.t 17) .skip (.exit 0)) (.seq (.block 1 (sR 3 r275_3 (.seq (sR 4 r275_4 (.cond (.t 40) (.exit 1) .skip)) (sR 5 r275_5 (.seq (sR 6 r275_6 (.cond (.t 48) (sR 7 r275_7 .ret) .skip)) (.reg 8 r275_8)))))) c275_0)))
abbrev c275_2:AC:=(sR 10 r275_10 .ret)
abbrev c275_3:AC:=(.seq (sR 1 r275_1 (.block 0 (.loop l275_0))) c275_2)
abbrev b275:AC:=(sR 0 r275_0 c275_3)
def pf275:AF:={ nt:=67,res:=[.tmp 8],body:=b275 }
abbrev I275_0 (prog:Prog)(d:Nat)(Q:AE→Sl→St→Prop)(st0:St)(kp:Key)(vp:Nat)(g1:Int)(k2:Int)(t14:List Loc)(t15:Int)(t16:Int)(m0:Frm)(mP:Dsk):Prop:=
  ∀(σ:Sl)(st:St)(o_t14:Own)(v0:Nat),σ 0=.p kp vp 0→σ 1=.i .i64 g1→σ 2=.i .i64 k2→σ 7=.p (d,0) v0 0→σ 14=.sl o_t14 (List.map Loc.row t14)→σ 15=.i .i64 t15→σ 16=.i .i64 t16→lk st.bx (d,0)=some (v0,[.i .i64 m0.func,.i .i64 m0.pos,.i .u64 m0.mode,.sl .ext (List.map Loc.row m0.locals)])→Dk mP st.bx st.ow kp vp→Fr d kp st0.bx st0.ow st.bx st.ow→W prog d (.loop l275_0) σ st (blockW 0 (thenW prog d c275_2 Q))
def T275_3 (prog:Prog)(K:Int→Dsk→Prop)(P0:Int→Frm→Dsk→Prop)(g1:Int)(k2:Int)(t14:List Loc)(t15:Int)(t16:Int)(m0:Frm)(mP:Dsk):Prop:=
  P0 (IntKind.i64.wrap (t16+1)) m0 mP
def T275_4 (prog:Prog)(K:Int→Dsk→Prop)(mP:Dsk):Prop:=
  K 0 mP
def T275_2 (prog:Prog)(K:Int→Dsk→Prop)(P0:Int→Frm→Dsk→Prop)(g1:Int)(k2:Int)(t14:List Loc)(t15:Int)(t16:Int)(m0:Frm)(mP:Dsk):Prop:=
  (t16<t15→0≤t16∧∃k:Loc,t14[(t16).toNat]?=some k∧0≤m0.func∧∃v:Fun,mP.image.funcs[(m0.func).toNat]?=some v∧0≤k.slot∧∃q:Fld,v.slots[(k.slot).toNat]?=some q∧(q.name≠mP.query.name→T275_3 prog K P0 g1 k2 t14 t15 t16 m0 mP)∧(¬(q.name≠mP.query.name)→∃p:BS,∃o,Pus prog 72 [k.value.av] (.tup [.s p,.i .i64 o])∧(o≠0→K o mP)∧(¬(o≠0)→∃c:BS,Pus prog 258 [.i .i64 g1] (.s c)∧c.length+([32]:BS).length≤maxStr∧∃e:BS,Pus prog 258 [.i .i64 k2] (.s e)∧(c++([32]:BS)).length+e.length≤maxStr∧((c++([32]:BS))++e).length+([32]:BS).length≤maxStr∧∃j:BS,Pus prog 258 [.i .i64 k.slot] (.s j)∧(((c++([32]:BS))++e)++([32]:BS)).length+j.length≤maxStr∧((((c++([32]:BS))++e)++([32]:BS))++j).length+([32,61,32]:BS).length≤maxStr∧(((((c++([32]:BS))++e)++([32]:BS))++j)++([32,61,32]:BS)).length+p.length≤maxStr∧∃u:Dsk,PuX prog 276 (Dk mP) [.s ((((((c++([32]:BS))++e)++([32]:BS))++j)++([32,61,32]:BS))++p)] (fun r=>r=.tup []) ((Dk u))∧T275_3 prog K P0 g1 k2 t14 t15 t16 m0 u)))∧(¬(t16<t15)→T275_4 prog K mP)
def T275_1 (prog:Prog)(K:Int→Dsk→Prop)(g1:Int)(k2:Int)(m0:Frm)(mP:Dsk):Prop:=
  ∀P0:Int→Frm→Dsk→Prop,(∀(t16:Int)(m0_b:Frm)(mP:Dsk),T275_2 prog K P0 g1 k2 m0.locals (m0.locals.length:Int) t16 m0_b mP→P0 t16 m0_b mP)→P0 0 m0 mP
def T275_0 (prog:Prog)(K:Int→Dsk→Prop)(g1:Int)(k2:Int)(x3:Frm)(mP:Dsk):Prop:=
  T275_1 prog K g1 k2 x3 mP
section
variable {prog:Prog}{d:Nat}{Q:AE→Sl→St→Prop}{K:Int→Dsk→Prop}{st0:St}{kp:Key}{vp:Nat}(hQ:HD d st0 kp vp Dk (AV.i .i64) 8 Q K)(hkp:kp.1<d){σ:Sl}{st:St}
include hQ hkp
variable {g1 k2:Int}{t14:List Loc}{t15 t16:Int}{m0:Frm}{mP:Dsk}{P0:Int→Frm→Dsk→Prop}{o_t14:Own}{v0:Nat}{x3:Frm}
variable (kP0 :∀(t16:Int)(m0:Frm)(mP:Dsk),P0 t16 m0 mP→I275_0 prog d Q st0 kp vp g1 k2 t14 t15 t16 m0 mP)(H0:σ 0=.p kp vp 0)(H1:σ 1=.i .i64 g1)(H2:σ 2=.i .i64 k2)(H7:σ 7=.p (d,0) v0 0)(H3:σ 3=x3.av)(H14:σ 14=.sl o_t14 (List.map Loc.row t14))(H15:σ 15=.i .i64 t15)(H16:σ 16=.i .i64 t16)(B0:lk st.bx (d,0)=some (v0,[.i .i64 m0.func,.i .i64 m0.pos,.i .u64 m0.mode,.sl .ext (List.map Loc.row m0.locals)]))(BP:Dk mP st.bx st.ow kp vp)(FR:Fr d kp st0.bx st0.ow st.bx st.ow)
include kP0 H0 H1 H2 H7 H14 H15 H16 B0 BP FR in
theorem w275_3 (h:T275_3 prog K P0 g1 k2 t14 t15 t16 m0 mP):W prog d c275_0 σ st (thenW prog d (.loop l275_0) (blockW 0 (thenW prog d c275_2 Q))):=
 W.reg0 J fun _ _=>b_ H16 J add_ (m_ (e_ (kP0 _ _ _ h _ _ _ _ H0 H1 H2 H7 H14 H15 J B0 BP FR)))
include BP FR in
theorem w275_4 (h:T275_4 prog K mP):W prog d c275_2 σ st Q:=
 q_ J (m_ (er_ (hQ J BP FR h)))
include kP0 H0 H1 H2 H7 H14 H15 H16 B0 BP FR in
theorem w275_2 (h:T275_2 prog K P0 g1 k2 t14 t15 t16 m0 mP):W prog d l275_0 σ st (thenW prog d (.loop l275_0) (blockW 0 (thenW prog d c275_2 Q))):=
 q_ J (b_ H16 H15 lss_ (e_ (sq_ (cs_ J (fun j=>sk_ (sq_ (bk_ (sq_ (W.reg ((h.1 j).2.elim fun y p=>ia_ H14 H16 (h.1 j).1 p.1 (Loc.row_eq y) J (lf_ J J J (s_alloc (so_ J (show lk _ (d,12290)=some (_,([.i .i64 0,.i .u8 0,.i .i64 0,.s [],.sl .full (List.map Val.row ([]:List Val)),.b false]:List AV)) from lk_here) J J J (e_ (sq_ (q_ J (m_ (s_nilP H0 (f_ J (f_ J (s_loadD J (Dk.other (key_LP hkp) (Dk.other (key_LP hkp) BP)) J J (f_ H7 (l_ J (lk_other J (lk_other J B0)) J J (p.2.2.elim fun z q=>ia_ J J p.2.1 q.1 (Fun.row_eq z) J (ff_ J (lf_ J J J (f_ J (l_ J lk_here J J (q.2.2.elim fun a0 r=>ia_ J J q.2.1 r.1 (Fld.row_eq a0) J (ff_ J (lf_ J J J (m_ (s_nilP H0 (f_ J (f_ J (s_loadD J (Dk.other (key_LP hkp) (Dk.other (key_LP hkp) BP)) J J (b_ J J sne_ (e_ (cs_ J (fun v=>ex_ (w275_3 hQ hkp kP0 H0 H1 H2 H7 H14 H15 H16 (lk_other J (lk_other J B0)) (Dk.other (key_LP hkp) (Dk.other (key_LP hkp) BP)) (Fr.box (Fr.box FR)) (r.2.1 v))) (fun v=>sk_ (q_ J (f_ J (l_ J lk_here J J (x2 (r.2.2 v) fun _ _ k=>ca_ (sc1 J J) k.1 (m_ (x_ J J (x_ J J (m_ (m_ (e_ (sq_ (q_ J (m_ (b_ J J neq_ (e_ (cs_ J (fun u=>q_ J (m_ (m_ (er_ (hQ J (Dk.other (key_LP hkp) (Dk.other (key_LP hkp) BP)) (Fr.box (Fr.box FR)) (k.2.1 u)))))) (fun u=>sk_ (W.reg0 J fun _ _=>m_ (m_ ((k.2.2 u).elim fun _ o=>ca_ (sc1 H1 J) o.1 (b_ J J (abin_cat' o.2.1) (m_ (o.2.2.elim fun _ e=>ca_ (sc1 H2 J) e.1 (b_ J J (abin_cat' e.2.1) (b_ J J (abin_cat' e.2.2.1) (f_ J (l_ J lk_here J J (e.2.2.2.elim fun _ c=>ca_ (sc1 J J) c.1 (b_ J J (abin_cat' c.2.1) (b_ J J (abin_cat' c.2.2.1) (m_ (b_ J J (abin_cat' c.2.2.2.1) (c.2.2.2.2.elim fun _ w=>cX_ (sec H0 (sec J sen)) w.1 (Nat.lt_succ_of_lt hkp) (Dk.other (key_LP hkp) (Dk.other (key_LP hkp) BP)) (fun _ a1 x=>e_ (w275_3 hQ hkp kP0 H0 H1 H2 H7 H14 H15 H16 ((x.1 (d,0) (Nat.lt_succ_self d) (key_LP hkp)).trans (lk_other J (lk_other J B0))) a1 (Fr.pass (Fr.box (Fr.box FR)) x) w.2))))))))))))))))))))))))))))))))))))))))))))))))))))))))))))))))))))))) (fun j=>ex_ (w275_4 hQ hkp BP FR (h.2 j)))))))
include H0 H1 H2 H7 B0 BP FR in
theorem w275_1 (h:T275_1 prog K g1 k2 m0 mP):W prog d c275_3 σ st Q:=
 sq_ (q_ J (f_ H7 (l_ J B0 J J (ll_ J (m_ (e_ (bk_ (h (I275_0 prog d Q st0 kp vp g1 k2 m0.locals (m0.locals.length:Int)) (fun _ _ _ hb _ _ _ _ H0 H1 H2 H7 H14 H15 H16 B0 BP FR=>W.loop (w275_2 hQ hkp (fun _ _ _ x=>x) H0 H1 H2 H7 H14 H15 H16 B0 BP FR hb)) _ _ _ _ H0 H1 H2 H7 J J J B0 BP FR))))))))
include H0 H1 H2 H3 BP FR in
theorem w275_0 (h:T275_0 prog K g1 k2 x3 mP):W prog d (sR 0 r275_0 c275_3) σ st Q:=
 q_ J (s_box H3 J (m_ (e_ (w275_1 hQ hkp H0 H1 H2 J lk_here (Dk.other (key_LP hkp) BP) (Fr.box FR) h))))
end
theorem p275 {prog:Prog}(hf:prog.fn 275=some pf275){g1:Int}{k2:Int}{x3:Frm}{mP:Dsk}{K:Int→Dsk→Prop}(h:T275_0 prog K g1 k2 x3 mP):PuXK prog 275 (Dk mP) [.i .i64 g1,.i .i64 k2,x3.av] (fun r (b_:Dsk)=>∃res0:Int,(r=.i .i64 res0)∧K res0 b_) (fun b_=>(Dk b_)):=
 PD hf J J (fun _=>Dk.out) fun d st kp vp hkp hB Q q=>w275_0 q hkp J J J J hB Fr.refl h
end Go.AM

/- Parts of the proof. -/
namespace Go.AM
open Go
set_option linter.unusedVariables false
set_option linter.unusedSimpArgs false
set_option maxRecDepth 4000
attribute [local irreducible] WO fillCells fillRows
def r272_0:List AI:=[oI 4 0]
def r272_1:List AI:=[oM 10 0,oN 11 10,oF 12 3 11,oF 13 3 12,oL 14 13,oJ 15 14,oI 16 0]
def r272_2:List AI:=[oT 17 .lss 16 15]
def r272_3:List AI:=[oM 18 16,oX 19 5 14 16,oK 20 5 19,oO 6 (.alloc [z8,z6,zl,zl,zl]),oM 5 18,oS 5 6 20]
def r272_4:List AI:=[oF 21 2 6,oL 22 21,oJ 23 22,oI 24 0]
def r272_5:List AI:=[oT 25 .lss 24 23]
def r272_6:List AI:=[oM 26 24,oX 27 4 22 24,oK 28 4 27,oO 8 (.alloc [z6,z6,z7,zl]),oM 7 26,oS 4 8 28]
def r272_7:List AI:=[oM 29 1,oM 30 5,oM 31 7,oK 32 4 8,oO 33 (.callv (.t 29) [(.t 30),(.t 31),(.t 32)]),oM 9 33]
def r272_8:List AI:=[oM 34 9,oV 35 .neq 34 0]
def r272_9:List AI:=[oM 36 9,oM 4 36]
def r272_10:List AI:=[oV 37 .add 24 1,oM 24 37]
def r272_11:List AI:=[oV 38 .add 16 1,oM 16 38]
def r272_12:List AI:=[oI 4 0]
abbrev l272_1:AC:=(sR 5 r272_5 (.seq (.cond (.t 25) .skip (.exit 2)) (.seq (.block 3 (sR 6 r272_6 (sR 7 r272_7 (sR 8 r272_8 (.cond (.t 35) (sR 9 r272_9 .ret) .skip))))) (.reg 10 r272_10))))
abbrev c272_1:AC:=(.reg 11 r272_11)
abbrev l272_0:AC:=(sR 2 r272_2 (.seq (.cond (.t 17) .skip (.exit 0)) (.seq (.block 1 (sR 3 r272_3 (sR 4 r272_4 (.block 2 (.loop l272_1))))) c272_1)))
abbrev c272_3:AC:=(sR 12 r272_12 .ret)
abbrev b272:AC:=(sR 0 r272_0 (.seq (sR 1 r272_1 (.block 0 (.loop l272_0))) c272_3))
def pf272:AF:={ nt:=39,res:=[.tmp 4],body:=b272 }
abbrev H272 (d:Nat)(st0:St)(kp:Key)(vp:Nat)(Q:AE→Sl→St→Prop)(K:Int→Dsk→Prop):Prop:=∀(σ:Sl)(st:St)(res0:Int)(b_:Dsk),σ 4=.i .i64 res0→Dk b_ st.bx st.ow kp vp→Fr d kp st0.bx st0.ow st.bx st.ow→K res0 b_→Q .ret σ st
abbrev I272_0 (prog:Prog)(d:Nat)(Q:AE→Sl→St→Prop)(st0:St)(kp:Key)(vp:Nat)(t14:List Rou)(t15:Int)(t16:Int)(mP:Dsk):Prop:=
  ∀(σ:Sl)(st:St)(o_t14:Own),σ 1=.bf 273 [.p kp vp 0]→σ 14=.sl o_t14 (List.map Rou.row t14)→σ 15=.i .i64 t15→σ 16=.i .i64 t16→Dk mP st.bx st.ow kp vp→Fr d kp st0.bx st0.ow st.bx st.ow→W prog d (.loop l272_0) σ st (blockW 0 (thenW prog d c272_3 Q))
abbrev I272_1 (prog:Prog)(d:Nat)(Q:AE→Sl→St→Prop)(st0:St)(kp:Key)(vp:Nat)(g5:Int)(t14:List Rou)(t15:Int)(t16:Int)(t22:List Frm)(t23:Int)(t24:Int)(mP:Dsk):Prop:=
  ∀(σ:Sl)(st:St) (o_t14 o_t22:Own),σ 1=.bf 273 [.p kp vp 0]→σ 5=.i .i64 g5→σ 14=.sl o_t14 (List.map Rou.row t14)→σ 15=.i .i64 t15→σ 16=.i .i64 t16→σ 22=.sl o_t22 (List.map Frm.row t22)→σ 23=.i .i64 t23→σ 24=.i .i64 t24→Dk mP st.bx st.ow kp vp→Fr d kp st0.bx st0.ow st.bx st.ow→W prog d (.loop l272_1) σ st (blockW 2 (blockW 1 (thenW prog d c272_1 (thenW prog d (.loop l272_0) (blockW 0 (thenW prog d c272_3 Q))))))
def T272_3 (prog:Prog)(K:Int→Dsk→Prop)(P0:Int→Dsk→Prop)(t14:List Rou)(t15:Int)(t16:Int)(mP:Dsk):Prop:=
  P0 (IntKind.i64.wrap (t16+1)) mP
def T272_2 (prog:Prog)(K:Int→Dsk→Prop)(P1:Int→Dsk→Prop)(P0:Int→Dsk→Prop)(g5:Int)(t14:List Rou)(t15:Int)(t16:Int)(t22:List Frm)(t23:Int)(t24:Int)(mP:Dsk):Prop:=
  (t24<t23→0≤t24∧∃j:Frm,t22[(t24).toNat]?=some j∧∃c,∃e:Dsk,PuX prog 273 (Dk mP) [.i .i64 g5,.i .i64 t24,j.av] (fun r=>r=.i .i64 c) ((Dk e))∧(c≠0→K c e)∧(¬(c≠0)→P1 (IntKind.i64.wrap (t24+1)) e))∧(¬(t24<t23)→T272_3 prog K P0 t14 t15 t16 mP)
def T272_4 (prog:Prog)(K:Int→Dsk→Prop)(mP:Dsk):Prop:=
  K 0 mP
def T272_1 (prog:Prog)(K:Int→Dsk→Prop)(P0:Int→Dsk→Prop)(t14:List Rou)(t15:Int)(t16:Int)(mP:Dsk):Prop:=
  (t16<t15→0≤t16∧∃c:Rou,t14[(t16).toNat]?=some c∧∀P1:Int→Dsk→Prop,(∀(t24:Int)(mP:Dsk),T272_2 prog K P1 P0 t16 t14 t15 t16 c.frames (c.frames.length:Int) t24 mP→P1 t24 mP)→P1 0 mP)∧(¬(t16<t15)→T272_4 prog K mP)
def T272_0 (prog:Prog)(K:Int→Dsk→Prop)(mP:Dsk):Prop:=
  ∀P0:Int→Dsk→Prop,(∀(t16:Int)(mP_b:Dsk),T272_1 prog K P0 mP.state.routines (mP.state.routines.length:Int) t16 mP_b→P0 t16 mP_b)→P0 0 mP
section
variable {prog:Prog}{d:Nat}{Q:AE→Sl→St→Prop}{K:Int→Dsk→Prop}{st0:St}{kp:Key}{vp:Nat}(hQ:H272 d st0 kp vp Q K)(hkp:kp.1<d){σ:Sl}{st:St}
include hQ hkp
variable {t14:List Rou}{t15 t16:Int}{mP:Dsk}{P0:Int→Dsk→Prop}{o_t14:Own}{g5:Int}{t22:List Frm}{t23 t24:Int}{P1:Int→Dsk→Prop}{o_t22:Own}
variable (kP1 :∀(t24:Int)(mP:Dsk),P1 t24 mP→I272_1 prog d Q st0 kp vp g5 t14 t15 t16 t22 t23 t24 mP)(H0:σ 0=.p kp vp 0) (kP0 :∀(t16:Int)(mP:Dsk),P0 t16 mP→I272_0 prog d Q st0 kp vp t14 t15 t16 mP)(H1:σ 1=.bf 273 [.p kp vp 0])(H5:σ 5=.i .i64 g5)(H14:σ 14=.sl o_t14 (List.map Rou.row t14))(H15:σ 15=.i .i64 t15)(H16:σ 16=.i .i64 t16)(H22:σ 22=.sl o_t22 (List.map Frm.row t22))(H23:σ 23=.i .i64 t23)(H24:σ 24=.i .i64 t24)(BP:Dk mP st.bx st.ow kp vp)(FR:Fr d kp st0.bx st0.ow st.bx st.ow)
include kP0 H1 H14 H15 H16 BP FR in
theorem w272_3 (h:T272_3 prog K P0 t14 t15 t16 mP):W prog d c272_1 σ st (thenW prog d (.loop l272_0) (blockW 0 (thenW prog d c272_3 Q))):=
 W.reg0 J fun _ _=>b_ H16 J add_ (m_ (e_ (kP0 _ _ h _ _ _ H1 H14 H15 J BP FR)))
include kP1 kP0 H1 H5 H14 H15 H16 H22 H23 H24 BP FR in
theorem w272_2 (h:T272_2 prog K P1 P0 g5 t14 t15 t16 t22 t23 t24 mP):W prog d l272_1 σ st (thenW prog d (.loop l272_1) (blockW 2 (blockW 1 (thenW prog d c272_1 (thenW prog d (.loop l272_0) (blockW 0 (thenW prog d c272_3 Q))))))):=
 q_ J (b_ H24 H23 lss_ (e_ (sq_ (cs_ J (fun c=>sk_ (sq_ (bk_ (sq_ (W.reg (m_ ((h.1 c).2.elim fun q k=>ia_ H22 H24 (h.1 c).1 k.1 (Frm.row_eq q) J (lf_ J J J (s_alloc (m_ (so_ J (show lk _ (d,24579)=some (_,([.i .i64 0,.i .i64 0,.i .u64 0,.sl .full (List.map Loc.row ([]:List Loc))]:List AV)) from lk_here) J J J (e_ (q_ J (m_ (m_ (m_ (l_ J lk_here J J (k.2.elim fun _ r=>r.elim fun _ e=>s_callB H1 (sec H5 (sec H24 (sec J sen))) e.1 (Nat.lt_succ_of_lt hkp) (Dk.other (key_LP hkp) (Dk.other (key_LP hkp) BP)) (fun _ o p=>m_ (e_ (q_ J (m_ (b_ J J neq_ (e_ (cs_ J (fun j=>q_ J (m_ (m_ (er_ (hQ _ _ _ _ J o (Fr.pass (Fr.box (Fr.box FR)) p) (e.2.1 j)))))) (fun j=>sk_ (W.reg0 J fun _ _=>b_ H24 J add_ (m_ (e_ (kP1 _ _ (e.2.2 j) _ _ _ _ H1 H5 H14 H15 H16 H22 H23 J o (Fr.pass (Fr.box (Fr.box FR)) p))))))))))))))))))))))))))))))) (fun c=>ex_ (w272_3 hQ hkp kP0 H1 H14 H15 H16 BP FR (h.2 c)))))))
include BP FR in
theorem w272_4 (h:T272_4 prog K mP):W prog d c272_3 σ st Q:=
 q_ J (m_ (er_ (hQ _ _ _ _ J BP FR h)))
include kP0 H1 H14 H15 H16 BP FR in
theorem w272_1 (h:T272_1 prog K P0 t14 t15 t16 mP):W prog d l272_0 σ st (thenW prog d (.loop l272_0) (blockW 0 (thenW prog d c272_3 Q))):=
 q_ J (b_ H16 H15 lss_ (e_ (sq_ (cs_ J (fun c=>sk_ (sq_ (bk_ (sq_ (W.reg (m_ ((h.1 c).2.elim fun e j=>ia_ H14 H16 (h.1 c).1 j.1 (Rou.row_eq e) J (lf_ J J J (s_alloc (m_ (so_ J (show lk _ (d,12291)=some (_,([.i .u8 0,.i .i64 0,.sl .full (List.map Frm.row ([]:List Frm)),.sl .full (List.map Dfr.row ([]:List Dfr)),.sl .full (List.map Pan.row ([]:List Pan))]:List AV)) from lk_here) J J J (e_ (q_ J (f_ J (l_ J lk_here J J (ll_ J (m_ (e_ (bk_ (j.2 (I272_1 prog d Q st0 kp vp t16 t14 t15 t16 e.frames (e.frames.length:Int)) (fun _ _ hb _ _ _ _ H1 H5 H14 H15 H16 H22 H23 H24 BP FR=>W.loop (w272_2 hQ hkp (fun _ _ x=>x) kP0 H1 H5 H14 H15 H16 H22 H23 H24 BP FR hb)) _ _ _ _ H1 H16 H14 H15 H16 J J J (Dk.other (key_LP hkp) (Dk.other (key_LP hkp) BP)) (Fr.box (Fr.box FR)))))))))))))))))))))) (fun c=>ex_ (w272_4 hQ hkp BP FR (h.2 c)))))))
include H0 H1 BP FR in
theorem w272_0 (h:T272_0 prog K mP):W prog d (sR 0 r272_0 (.seq (sR 1 r272_1 (.block 0 (.loop l272_0))) c272_3)) σ st Q:=
 q_ J (m_ (e_ (sq_ (q_ J (m_ (s_nilP H0 (f_ J (f_ J (s_loadD J BP J J (ll_ J (m_ (e_ (bk_ (h (I272_0 prog d Q st0 kp vp mP.state.routines (mP.state.routines.length:Int)) (fun _ _ hb _ _ _ H1 H14 H15 H16 BP FR=>W.loop (w272_1 hQ hkp (fun _ _ x=>x) H1 H14 H15 H16 BP FR hb)) _ _ _ H1 J J J BP FR))))))))))))))
end
theorem p272 {prog:Prog}(hf:prog.fn 272=some pf272){mP:Dsk}{K:Int→Dsk→Prop}(h:T272_0 prog K mP):PuXFK prog 272 (Dk mP) (fun kp vp=>[.bf 273 [.p kp vp 0]]) (fun r (b_:Dsk)=>∃res0:Int,(r=.i .i64 res0)∧K res0 b_) (fun b_=>(Dk b_)):=
  PuXFK.of hf (fun _ _=>rfl) (fun _=>Dk.out) fun d st kp vp hkp hB=>w272_0 (st0:=st) (Q:=fun e σ st'=>(e=.normal∨e=.ret)∧∃r b_,ares σ st' pf272.res=some r∧_∧_∧Fr d kp st.bx st.ow st'.bx st'.ow) (fun σ st'   res0 b_ H4 hb hf hk=>⟨.inr rfl,.i .i64 res0,b_,by simp only [pf272,ares,aresL,H4,ares1,Option.map_some,H4],⟨res0,rfl,hk⟩,hb,hf⟩) hkp (σ:=sl0 [.p kp vp 0,.bf 273 [.p kp vp 0]]) rfl rfl hB Fr.refl h
end Go.AM

/- Parts of the proof. -/
namespace Go.AM.SlotV
open Go
set_option linter.unusedVariables false
set_option linter.unusedSimpArgs false
set_option maxRecDepth 4000
attribute [local irreducible] WO fillCells fillRows
def r272_0:List AI:=[oI 4 0]
def r272_1:List AI:=[oM 10 0,oN 11 10,oF 12 3 11,oF 13 3 12,oL 14 13,oJ 15 14,oI 16 0]
def r272_2:List AI:=[oT 17 .lss 16 15]
def r272_3:List AI:=[oM 18 16,oX 19 5 14 16,oK 20 5 19,oO 6 (.alloc [z8,z6,zl,zl,zl]),oM 5 18,oS 5 6 20]
def r272_4:List AI:=[oF 21 2 6,oL 22 21,oJ 23 22,oI 24 0]
def r272_5:List AI:=[oT 25 .lss 24 23]
def r272_6:List AI:=[oM 26 24,oX 27 4 22 24,oK 28 4 27,oO 8 (.alloc [z6,z6,z7,zl]),oM 7 26,oS 4 8 28]
def r272_7:List AI:=[oM 29 1,oM 30 5,oM 31 7,oK 32 4 8,oO 33 (.callv (.t 29) [(.t 30),(.t 31),(.t 32)]),oM 9 33]
def r272_8:List AI:=[oM 34 9,oV 35 .neq 34 0]
def r272_9:List AI:=[oM 36 9,oM 4 36]
def r272_10:List AI:=[oV 37 .add 24 1,oM 24 37]
def r272_11:List AI:=[oV 38 .add 16 1,oM 16 38]
def r272_12:List AI:=[oI 4 0]
abbrev l272_1:AC:=(sR 5 r272_5 (.seq (.cond (.t 25) .skip (.exit 2)) (.seq (.block 3 (sR 6 r272_6 (sR 7 r272_7 (sR 8 r272_8 (.cond (.t 35) (sR 9 r272_9 .ret) .skip))))) (.reg 10 r272_10))))
abbrev c272_1:AC:=(.reg 11 r272_11)
abbrev l272_0:AC:=(sR 2 r272_2 (.seq (.cond (.t 17) .skip (.exit 0)) (.seq (.block 1 (sR 3 r272_3 (sR 4 r272_4 (.block 2 (.loop l272_1))))) c272_1)))
abbrev c272_3:AC:=(sR 12 r272_12 .ret)
abbrev b272:AC:=(sR 0 r272_0 (.seq (sR 1 r272_1 (.block 0 (.loop l272_0))) c272_3))
def pf272:AF:={ nt:=39,res:=[.tmp 4],body:=b272 }
abbrev H272 (d:Nat)(st0:St)(kp:Key)(vp:Nat)(Q:AE→Sl→St→Prop)(K:Int→Dsk→Prop):Prop:=∀(σ:Sl)(st:St)(res0:Int)(b_:Dsk),σ 4=.i .i64 res0→Dk b_ st.bx st.ow kp vp→Fr d kp st0.bx st0.ow st.bx st.ow→K res0 b_→Q .ret σ st
abbrev I272_0 (prog:Prog)(d:Nat)(Q:AE→Sl→St→Prop)(st0:St)(kp:Key)(vp:Nat)(t14:List Rou)(t15:Int)(t16:Int)(mP:Dsk):Prop:=
  ∀(σ:Sl)(st:St)(o_t14:Own),σ 1=.bf 275 [.p kp vp 0]→σ 14=.sl o_t14 (List.map Rou.row t14)→σ 15=.i .i64 t15→σ 16=.i .i64 t16→Dk mP st.bx st.ow kp vp→Fr d kp st0.bx st0.ow st.bx st.ow→W prog d (.loop l272_0) σ st (blockW 0 (thenW prog d c272_3 Q))
abbrev I272_1 (prog:Prog)(d:Nat)(Q:AE→Sl→St→Prop)(st0:St)(kp:Key)(vp:Nat)(g5:Int)(t14:List Rou)(t15:Int)(t16:Int)(t22:List Frm)(t23:Int)(t24:Int)(mP:Dsk):Prop:=
  ∀(σ:Sl)(st:St) (o_t14 o_t22:Own),σ 1=.bf 275 [.p kp vp 0]→σ 5=.i .i64 g5→σ 14=.sl o_t14 (List.map Rou.row t14)→σ 15=.i .i64 t15→σ 16=.i .i64 t16→σ 22=.sl o_t22 (List.map Frm.row t22)→σ 23=.i .i64 t23→σ 24=.i .i64 t24→Dk mP st.bx st.ow kp vp→Fr d kp st0.bx st0.ow st.bx st.ow→W prog d (.loop l272_1) σ st (blockW 2 (blockW 1 (thenW prog d c272_1 (thenW prog d (.loop l272_0) (blockW 0 (thenW prog d c272_3 Q))))))
def T272_3 (prog:Prog)(K:Int→Dsk→Prop)(P0:Int→Dsk→Prop)(t14:List Rou)(t15:Int)(t16:Int)(mP:Dsk):Prop:=
  P0 (IntKind.i64.wrap (t16+1)) mP
def T272_2 (prog:Prog)(K:Int→Dsk→Prop)(P1:Int→Dsk→Prop)(P0:Int→Dsk→Prop)(g5:Int)(t14:List Rou)(t15:Int)(t16:Int)(t22:List Frm)(t23:Int)(t24:Int)(mP:Dsk):Prop:=
  (t24<t23→0≤t24∧∃j:Frm,t22[(t24).toNat]?=some j∧∃c,∃e:Dsk,PuX prog 275 (Dk mP) [.i .i64 g5,.i .i64 t24,j.av] (fun r=>r=.i .i64 c) ((Dk e))∧(c≠0→K c e)∧(¬(c≠0)→P1 (IntKind.i64.wrap (t24+1)) e))∧(¬(t24<t23)→T272_3 prog K P0 t14 t15 t16 mP)
def T272_4 (prog:Prog)(K:Int→Dsk→Prop)(mP:Dsk):Prop:=
  K 0 mP
def T272_1 (prog:Prog)(K:Int→Dsk→Prop)(P0:Int→Dsk→Prop)(t14:List Rou)(t15:Int)(t16:Int)(mP:Dsk):Prop:=
  (t16<t15→0≤t16∧∃c:Rou,t14[(t16).toNat]?=some c∧∀P1:Int→Dsk→Prop,(∀(t24:Int)(mP:Dsk),T272_2 prog K P1 P0 t16 t14 t15 t16 c.frames (c.frames.length:Int) t24 mP→P1 t24 mP)→P1 0 mP)∧(¬(t16<t15)→T272_4 prog K mP)
def T272_0 (prog:Prog)(K:Int→Dsk→Prop)(mP:Dsk):Prop:=
  ∀P0:Int→Dsk→Prop,(∀(t16:Int)(mP_b:Dsk),T272_1 prog K P0 mP.state.routines (mP.state.routines.length:Int) t16 mP_b→P0 t16 mP_b)→P0 0 mP
section
variable {prog:Prog}{d:Nat}{Q:AE→Sl→St→Prop}{K:Int→Dsk→Prop}{st0:St}{kp:Key}{vp:Nat}(hQ:H272 d st0 kp vp Q K)(hkp:kp.1<d){σ:Sl}{st:St}
include hQ hkp
variable {t14:List Rou}{t15 t16:Int}{mP:Dsk}{P0:Int→Dsk→Prop}{o_t14:Own}{g5:Int}{t22:List Frm}{t23 t24:Int}{P1:Int→Dsk→Prop}{o_t22:Own}
variable (kP1 :∀(t24:Int)(mP:Dsk),P1 t24 mP→I272_1 prog d Q st0 kp vp g5 t14 t15 t16 t22 t23 t24 mP)(H0:σ 0=.p kp vp 0) (kP0 :∀(t16:Int)(mP:Dsk),P0 t16 mP→I272_0 prog d Q st0 kp vp t14 t15 t16 mP)(H1:σ 1=.bf 275 [.p kp vp 0])(H5:σ 5=.i .i64 g5)(H14:σ 14=.sl o_t14 (List.map Rou.row t14))(H15:σ 15=.i .i64 t15)(H16:σ 16=.i .i64 t16)(H22:σ 22=.sl o_t22 (List.map Frm.row t22))(H23:σ 23=.i .i64 t23)(H24:σ 24=.i .i64 t24)(BP:Dk mP st.bx st.ow kp vp)(FR:Fr d kp st0.bx st0.ow st.bx st.ow)
include kP0 H1 H14 H15 H16 BP FR in
theorem w272_3 (h:T272_3 prog K P0 t14 t15 t16 mP):W prog d c272_1 σ st (thenW prog d (.loop l272_0) (blockW 0 (thenW prog d c272_3 Q))):=
 W.reg0 J fun _ _=>b_ H16 J add_ (m_ (e_ (kP0 _ _ h _ _ _ H1 H14 H15 J BP FR)))
include kP1 kP0 H1 H5 H14 H15 H16 H22 H23 H24 BP FR in
theorem w272_2 (h:T272_2 prog K P1 P0 g5 t14 t15 t16 t22 t23 t24 mP):W prog d l272_1 σ st (thenW prog d (.loop l272_1) (blockW 2 (blockW 1 (thenW prog d c272_1 (thenW prog d (.loop l272_0) (blockW 0 (thenW prog d c272_3 Q))))))):=
 q_ J (b_ H24 H23 lss_ (e_ (sq_ (cs_ J (fun c=>sk_ (sq_ (bk_ (sq_ (W.reg (m_ ((h.1 c).2.elim fun q k=>ia_ H22 H24 (h.1 c).1 k.1 (Frm.row_eq q) J (lf_ J J J (s_alloc (m_ (so_ J (show lk _ (d,24579)=some (_,([.i .i64 0,.i .i64 0,.i .u64 0,.sl .full (List.map Loc.row ([]:List Loc))]:List AV)) from lk_here) J J J (e_ (q_ J (m_ (m_ (m_ (l_ J lk_here J J (k.2.elim fun _ r=>r.elim fun _ e=>s_callB H1 (sec H5 (sec H24 (sec J sen))) e.1 (Nat.lt_succ_of_lt hkp) (Dk.other (key_LP hkp) (Dk.other (key_LP hkp) BP)) (fun _ o p=>m_ (e_ (q_ J (m_ (b_ J J neq_ (e_ (cs_ J (fun j=>q_ J (m_ (m_ (er_ (hQ _ _ _ _ J o (Fr.pass (Fr.box (Fr.box FR)) p) (e.2.1 j)))))) (fun j=>sk_ (W.reg0 J fun _ _=>b_ H24 J add_ (m_ (e_ (kP1 _ _ (e.2.2 j) _ _ _ _ H1 H5 H14 H15 H16 H22 H23 J o (Fr.pass (Fr.box (Fr.box FR)) p))))))))))))))))))))))))))))))) (fun c=>ex_ (w272_3 hQ hkp kP0 H1 H14 H15 H16 BP FR (h.2 c)))))))
include BP FR in
theorem w272_4 (h:T272_4 prog K mP):W prog d c272_3 σ st Q:=
 q_ J (m_ (er_ (hQ _ _ _ _ J BP FR h)))
include kP0 H1 H14 H15 H16 BP FR in
theorem w272_1 (h:T272_1 prog K P0 t14 t15 t16 mP):W prog d l272_0 σ st (thenW prog d (.loop l272_0) (blockW 0 (thenW prog d c272_3 Q))):=
 q_ J (b_ H16 H15 lss_ (e_ (sq_ (cs_ J (fun c=>sk_ (sq_ (bk_ (sq_ (W.reg (m_ ((h.1 c).2.elim fun e j=>ia_ H14 H16 (h.1 c).1 j.1 (Rou.row_eq e) J (lf_ J J J (s_alloc (m_ (so_ J (show lk _ (d,12291)=some (_,([.i .u8 0,.i .i64 0,.sl .full (List.map Frm.row ([]:List Frm)),.sl .full (List.map Dfr.row ([]:List Dfr)),.sl .full (List.map Pan.row ([]:List Pan))]:List AV)) from lk_here) J J J (e_ (q_ J (f_ J (l_ J lk_here J J (ll_ J (m_ (e_ (bk_ (j.2 (I272_1 prog d Q st0 kp vp t16 t14 t15 t16 e.frames (e.frames.length:Int)) (fun _ _ hb _ _ _ _ H1 H5 H14 H15 H16 H22 H23 H24 BP FR=>W.loop (w272_2 hQ hkp (fun _ _ x=>x) kP0 H1 H5 H14 H15 H16 H22 H23 H24 BP FR hb)) _ _ _ _ H1 H16 H14 H15 H16 J J J (Dk.other (key_LP hkp) (Dk.other (key_LP hkp) BP)) (Fr.box (Fr.box FR)))))))))))))))))))))) (fun c=>ex_ (w272_4 hQ hkp BP FR (h.2 c)))))))
include H0 H1 BP FR in
theorem w272_0 (h:T272_0 prog K mP):W prog d (sR 0 r272_0 (.seq (sR 1 r272_1 (.block 0 (.loop l272_0))) c272_3)) σ st Q:=
 q_ J (m_ (e_ (sq_ (q_ J (m_ (s_nilP H0 (f_ J (f_ J (s_loadD J BP J J (ll_ J (m_ (e_ (bk_ (h (I272_0 prog d Q st0 kp vp mP.state.routines (mP.state.routines.length:Int)) (fun _ _ hb _ _ _ H1 H14 H15 H16 BP FR=>W.loop (w272_1 hQ hkp (fun _ _ x=>x) H1 H14 H15 H16 BP FR hb)) _ _ _ H1 J J J BP FR))))))))))))))
end
theorem p272 {prog:Prog}(hf:prog.fn 272=some pf272){mP:Dsk}{K:Int→Dsk→Prop}(h:T272_0 prog K mP):PuXFK prog 272 (Dk mP) (fun kp vp=>[.bf 275 [.p kp vp 0]]) (fun r (b_:Dsk)=>∃res0:Int,(r=.i .i64 res0)∧K res0 b_) (fun b_=>(Dk b_)):=
  PuXFK.of hf (fun _ _=>rfl) (fun _=>Dk.out) fun d st kp vp hkp hB=>w272_0 (st0:=st) (Q:=fun e σ st'=>(e=.normal∨e=.ret)∧∃r b_,ares σ st' pf272.res=some r∧_∧_∧Fr d kp st.bx st.ow st'.bx st'.ow) (fun σ st'   res0 b_ H4 hb hf hk=>⟨.inr rfl,.i .i64 res0,b_,by simp only [pf272,ares,aresL,H4,ares1,Option.map_some,H4],⟨res0,rfl,hk⟩,hb,hf⟩) hkp (σ:=sl0 [.p kp vp 0,.bf 275 [.p kp vp 0]]) rfl rfl hB Fr.refl h
end Go.AM.SlotV

/- Parts of the proof. -/
namespace Go.AM
open Go
set_option linter.unusedVariables false
set_option linter.unusedSimpArgs false
set_option maxRecDepth 4000
attribute [local irreducible] WO fillCells fillRows
def r268_0:List AI:=[oI 2 0]
def r268_1:List AI:=[oM 15 0,oN 16 15,oF 17 7 16,oF 18 1 17,oL 19 18,oM 3 19]
def r268_2:List AI:=[oM 20 3,oM 21 0,oN 22 21,oF 23 3 22,oF 24 3 23,oL 25 24,oJ 26 25,oT 27 .geq 20 26]
def r268_3:List AI:=[oI 2 6]
def r268_4:List AI:=[oM 28 0,oN 29 28,oF 30 3 29,oF 31 3 30,oL 32 31,oM 33 3,oX 34 5 32 33,oK 35 5 34,oO 4 (.alloc [z8,z6,zl,zl,zl]),oS 5 4 35]
def r268_5:List AI:=[oM 36 0,oN 37 36,oF 38 7 37,oF 39 0 38,oL 40 39,oW 41 .eql 40 3,oM 42 41,gT 42 (oM 43 0),gT 42 (oN 44 43),gT 42 (oF 45 7 44),gT 42 (oF 46 2 45),gT 42 (oL 47 46),gT 42 (oF 48 2 4),gT 42 (oL 49 48),gT 42 (oJ 50 49),gT 42 (oT 51 .geq 47 50),oA 52 42 51]
def r268_6:List AI:=[oI 2 6]
def r268_7:List AI:=[oM 54 0,oN 55 54,oF 56 0 55,oK 57 3 56,oM 58 3,oK 59 5 4,oQ 60 207 [57,58,59],oM 53 60,oE 61 0 53,oE 62 1 53,oM 5 61,oM 6 62]
def r268_8:List AI:=[oM 63 6,oV 64 .neq 63 0]
def r268_9:List AI:=[oM 65 6,oM 2 65]
def r268_10:List AI:=[oM 66 5,oO 67 (.slL 1 (.t 66) (some (.c (.i .i64 1))) none),oM 5 67]
def r268_11:List AI:=[oF 68 2 4,oL 69 68,oJ 70 69,oI 71 0]
def r268_12:List AI:=[oT 72 .lss 71 70]
def r268_13:List AI:=[oM 73 71,oX 74 4 69 71,oK 75 4 74,oO 8 (.alloc [z6,z6,z7,zl]),oM 7 73,oS 4 8 75]
def r268_14:List AI:=[oF 76 3 8,oL 77 76,oJ 78 77,oB 79 .add (.c (.i .i64 1)) (.t 78),oM 9 79]
def r268_15:List AI:=[oM 80 0,oN 81 80,oF 82 7 81,oF 83 0 82,oL 84 83,oW 85 .eql 84 2]
def r268_16:List AI:=[oM 86 0,oM 87 5,oO 88 (.iaL 1 (.t 87) (.c (.i .i64 0))),oL 89 88,oO 90 (.slS (.t 89) (some (.c (.i .i64 2))) none),oO 91 (.call true 276 [(.t 86),(.t 90)])]
def r268_17:List AI:=[oM 92 0,oN 93 92,oF 94 7 93,oF 95 0 94,oL 96 95,oW 97 .eql 96 3,oM 98 97,gT 98 (oM 99 0),gT 98 (oN 100 99),gT 98 (oF 101 7 100),gT 98 (oF 102 2 101),gT 98 (oL 103 102),gT 98 (oM 104 7),gT 98 (oT 105 .eql 103 104),oA 106 98 105]
def r268_18:List AI:=[oM 107 5,oM 108 9,oO 109 (.slL 1 (.t 107) (some (.c (.i .i64 1))) (some (.t 108))),oJ 110 109,oI 111 0]
def r268_19:List AI:=[oT 112 .lss 111 110]
def r268_20:List AI:=[oX 113 1 109 111,oL 114 113,oM 11 114]
def r268_21:List AI:=[oM 115 0,oM 116 11,oO 117 (.slS (.t 116) (some (.c (.i .i64 2))) none),oO 118 (.call true 276 [(.t 115),(.t 117)])]
def r268_22:List AI:=[oV 119 .add 111 1,oM 111 119]
def r268_23:List AI:=[oM 120 5,oM 121 9,oO 122 (.slL 1 (.t 120) (some (.t 121)) none),oM 5 122]
def r268_24:List AI:=[oV 123 .add 71 1,oM 71 123]
def r268_25:List AI:=[oF 124 3 4,oL 125 124,oJ 126 125,oM 12 126]
def r268_26:List AI:=[oM 127 0,oN 128 127,oF 129 7 128,oF 130 0 129,oL 131 130]
def r268_27:List AI:=[oW 133 .eql 131 4,oM 132 133]
def r268_28:List AI:=[oM 134 5,oM 135 12,oO 136 (.slL 1 (.t 134) none (some (.t 135))),oM 5 136]
def r268_29:List AI:=[oW 138 .eql 131 5,oM 137 138]
def r268_30:List AI:=[oM 139 5,oM 140 12,oO 141 (.slL 1 (.t 139) (some (.t 140)) none),oM 5 141]
def r268_31:List AI:=[oC 5 (.sl .full [])]
def r268_32:List AI:=[oM 142 5,oJ 143 142,oI 144 0]
def r268_33:List AI:=[oT 145 .lss 144 143]
def r268_34:List AI:=[oX 146 1 142 144,oL 147 146,oM 14 147]
def r268_35:List AI:=[oM 148 0,oM 149 14,oO 150 (.slS (.t 149) (some (.c (.i .i64 2))) none),oO 151 (.call true 276 [(.t 148),(.t 150)])]
def r268_36:List AI:=[oV 152 .add 144 1,oM 144 152]
def r268_37:List AI:=[oI 2 0]
abbrev l268_1:AC:=(sR 19 r268_19 (.seq (.cond (.t 112) .skip (.exit 2)) (.seq (.block 3 (sR 20 r268_20 (.reg 21 r268_21))) (.reg 22 r268_22))))
abbrev c268_1:AC:=(.cond (.t 106) (sR 18 r268_18 (.block 2 (.loop l268_1))) .skip)
abbrev c268_2:AC:=(.reg 23 r268_23)
abbrev c268_3:AC:=(.seq (sR 17 r268_17 c268_1) c268_2)
abbrev c268_4:AC:=(.reg 24 r268_24)
abbrev l268_0:AC:=(sR 12 r268_12 (.seq (.cond (.t 72) .skip (.exit 0)) (.seq (.block 1 (sR 13 r268_13 (sR 14 r268_14 (.seq (sR 15 r268_15 (.cond (.t 85) (.reg 16 r268_16) .skip)) c268_3)))) c268_4)))
abbrev l268_2:AC:=(sR 33 r268_33 (.seq (.cond (.t 145) .skip (.exit 5)) (.seq (.block 6 (sR 34 r268_34 (.reg 35 r268_35))) (.reg 36 r268_36))))
abbrev c268_7:AC:=(sR 37 r268_37 .ret)
abbrev c268_8:AC:=(.seq (sR 32 r268_32 (.block 5 (.loop l268_2))) c268_7)
abbrev c268_9:AC:=(sR 25 r268_25 (.seq (sR 26 r268_26 (.block 4 (sR 28 r268_27 (.cond (.t 132) (.reg 29 r268_28) (sR 30 r268_29 (.cond (.t 137) (.reg 31 r268_30) (.reg 27 r268_31))))))) c268_8))
abbrev c268_10:AC:=(.seq (sR 11 r268_11 (.block 0 (.loop l268_0))) c268_9)
abbrev c268_11:AC:=(sR 10 r268_10 c268_10)
abbrev c268_12:AC:=(.seq (sR 8 r268_8 (.cond (.t 64) (sR 9 r268_9 .ret) .skip)) c268_11)
abbrev c268_13:AC:=(sR 7 r268_7 c268_12)
abbrev c268_14:AC:=(.seq (sR 5 r268_5 (.cond (.t 52) (sR 6 r268_6 .ret) .skip)) c268_13)
abbrev c268_15:AC:=(sR 4 r268_4 c268_14)
abbrev c268_16:AC:=(.seq (sR 2 r268_2 (.cond (.t 27) (sR 3 r268_3 .ret) .skip)) c268_15)
abbrev c268_17:AC:=(sR 1 r268_1 c268_16)
abbrev b268:AC:=(sR 0 r268_0 c268_17)
def pf268:AF:={ nt:=153,res:=[.tmp 2],body:=b268 }
abbrev I268_0 (prog:Prog)(d:Nat)(Q:AE→Sl→St→Prop)(st0:St)(kp:Key)(vp:Nat)(t69:List Frm)(t70:Int)(l5:LB)(t71:Int)(m16392:Rou)(mP:Dsk):Prop:=
  ∀(σ:Sl)(st:St) (o_l5 o_t69:Own)(v16392:Nat),σ 0=.p kp vp 0→σ 4=.p (d,16392) v16392 0→σ 5=.sl o_l5 (List.map rowS l5)→σ 69=.sl o_t69 (List.map Frm.row t69)→σ 70=.i .i64 t70→σ 71=.i .i64 t71→lk st.bx (d,16392)=some (v16392,[.i .u8 m16392.status,.i .i64 m16392.key,.sl .ext (List.map Frm.row m16392.frames),.sl .ext (List.map Dfr.row m16392.defers),.sl .ext (List.map Pan.row m16392.panics)])→Dk mP st.bx st.ow kp vp→Fr d kp st0.bx st0.ow st.bx st.ow→W prog d (.loop l268_0) σ st (blockW 0 (thenW prog d c268_9 Q))
abbrev I268_1 (prog:Prog)(d:Nat)(Q:AE→Sl→St→Prop)(st0:St)(kp:Key)(vp:Nat)(l5:LB)(n9:Int)(t69:List Frm)(t70:Int)(t71:Int)(t109:LB)(t110:Int)(t111:Int)(m16392:Rou)(mP:Dsk):Prop:=
  ∀(σ:Sl)(st:St) (o_l5 o_t69 o_t109:Own)(v16392:Nat),σ 0=.p kp vp 0→σ 4=.p (d,16392) v16392 0→σ 5=.sl o_l5 (List.map rowS l5)→σ 9=.i .i64 n9→σ 69=.sl o_t69 (List.map Frm.row t69)→σ 70=.i .i64 t70→σ 71=.i .i64 t71→σ 109=.sl o_t109 (List.map rowS t109)→σ 110=.i .i64 t110→σ 111=.i .i64 t111→lk st.bx (d,16392)=some (v16392,[.i .u8 m16392.status,.i .i64 m16392.key,.sl .ext (List.map Frm.row m16392.frames),.sl .ext (List.map Dfr.row m16392.defers),.sl .ext (List.map Pan.row m16392.panics)])→Dk mP st.bx st.ow kp vp→Fr d kp st0.bx st0.ow st.bx st.ow→W prog d (.loop l268_1) σ st (blockW 2 (thenW prog d c268_2 (blockW 1 (thenW prog d c268_4 (thenW prog d (.loop l268_0) (blockW 0 (thenW prog d c268_9 Q)))))))
def T268_14 (prog:Prog)(K:Int→Dsk→Prop)(P0:LB→Int→Rou→Dsk→Prop)(l5:LB)(t69:List Frm)(t70:Int)(t71:Int)(m16392:Rou)(mP:Dsk):Prop:=
  P0 l5 (IntKind.i64.wrap (t71+1)) m16392 mP
def T268_13 (prog:Prog)(K:Int→Dsk→Prop)(P0:LB→Int→Rou→Dsk→Prop)(l5:LB)(n9:Int)(t69:List Frm)(t70:Int)(t71:Int)(m16392:Rou)(mP:Dsk):Prop:=
  0≤n9∧(n9).toNat≤l5.length∧T268_14 prog K P0 (l5.drop (n9).toNat) t69 t70 t71 m16392 mP
def T268_12 (prog:Prog)(K:Int→Dsk→Prop)(P1:Int→Rou→Dsk→Prop)(P0:LB→Int→Rou→Dsk→Prop)(l5:LB)(n9:Int)(t69:List Frm)(t70:Int)(t71:Int)(t109:LB)(t110:Int)(t111:Int)(m16392:Rou)(mP:Dsk):Prop:=
  (t111<t110→0≤t111∧∃c:BS,t109[(t111).toNat]?=some c∧2≤c.length∧∃e:Dsk,PuX prog 276 (Dk mP) [.s (c.drop 2)] (fun r=>r=.tup []) ((Dk e))∧P1 (IntKind.i64.wrap (t111+1)) m16392 e)∧(¬(t111<t110)→T268_13 prog K P0 l5 n9 t69 t70 t71 m16392 mP)
def T268_11 (prog:Prog)(K:Int→Dsk→Prop)(P0:LB→Int→Rou→Dsk→Prop)(l5:LB)(n9:Int)(t69:List Frm)(t70:Int)(t71:Int)(t106:Bool)(m16392:Rou)(mP:Dsk):Prop:=
  (t106=true→0≤(1:Int)∧1≤n9∧(n9).toNat≤l5.length∧∀P1:Int→Rou→Dsk→Prop,(∀(t111:Int)(m16392:Rou)(mP:Dsk),T268_12 prog K P1 P0 l5 n9 t69 t70 t71 ((l5.drop 1).take ((n9).toNat-1)) (((l5.drop 1).take ((n9).toNat-1)).length:Int) t111 m16392 mP→P1 t111 m16392 mP)→P1 0 m16392 mP)∧(t106=false→T268_13 prog K P0 l5 n9 t69 t70 t71 m16392 mP)
def T268_10 (prog:Prog)(K:Int→Dsk→Prop)(P0:LB→Int→Rou→Dsk→Prop)(l5:LB)(k7:Int)(n9:Int)(t69:List Frm)(t70:Int)(t71:Int)(m16392:Rou)(mP:Dsk):Prop:=
  (mP.query.kind=3→T268_11 prog K P0 l5 n9 t69 t70 t71 (decide (mP.query.k=k7)) m16392 mP)∧(¬(mP.query.kind=3)→T268_11 prog K P0 l5 n9 t69 t70 t71 false m16392 mP)
abbrev I268_2 (prog:Prog)(d:Nat)(Q:AE→Sl→St→Prop)(st0:St)(kp:Key)(vp:Nat)(t142:LB)(t143:Int)(t144:Int)(mP:Dsk):Prop:=
  ∀(σ:Sl)(st:St)(o_t142:Own),σ 0=.p kp vp 0→σ 142=.sl o_t142 (List.map rowS t142)→σ 143=.i .i64 t143→σ 144=.i .i64 t144→Dk mP st.bx st.ow kp vp→Fr d kp st0.bx st0.ow st.bx st.ow→W prog d (.loop l268_2) σ st (blockW 5 (thenW prog d c268_7 Q))
def T268_18 (prog:Prog)(K:Int→Dsk→Prop)(mP:Dsk):Prop:=
  K 0 mP
def T268_17 (prog:Prog)(K:Int→Dsk→Prop)(P2:Int→Dsk→Prop)(t142:LB)(t143:Int)(t144:Int)(mP:Dsk):Prop:=
  (t144<t143→0≤t144∧∃c:BS,t142[(t144).toNat]?=some c∧2≤c.length∧∃e:Dsk,PuX prog 276 (Dk mP) [.s (c.drop 2)] (fun r=>r=.tup []) ((Dk e))∧P2 (IntKind.i64.wrap (t144+1)) e)∧(¬(t144<t143)→T268_18 prog K mP)
def T268_16 (prog:Prog)(K:Int→Dsk→Prop)(l5:LB)(mP:Dsk):Prop:=
  ∀P2:Int→Dsk→Prop,(∀(t144:Int)(mP:Dsk),T268_17 prog K P2 l5 (l5.length:Int) t144 mP→P2 t144 mP)→P2 0 mP
def T268_15 (prog:Prog)(K:Int→Dsk→Prop)(l5:LB)(m16392:Rou)(mP:Dsk):Prop:=
  (mP.query.kind=4→0≤(m16392.defers.length:Int)∧(m16392.defers.length:Int).toNat≤l5.length∧T268_16 prog K (l5.take (m16392.defers.length:Int).toNat) mP)∧(¬(mP.query.kind=4)→(mP.query.kind=5→0≤(m16392.defers.length:Int)∧(m16392.defers.length:Int).toNat≤l5.length∧T268_16 prog K (l5.drop (m16392.defers.length:Int).toNat) mP)∧(¬(mP.query.kind=5)→T268_16 prog K ([]:LB) mP))
def T268_9 (prog:Prog)(K:Int→Dsk→Prop)(P0:LB→Int→Rou→Dsk→Prop)(l5:LB)(t69:List Frm)(t70:Int)(t71:Int)(m16392:Rou)(mP:Dsk):Prop:=
  (t71<t70→0≤t71∧∃e:Frm,t69[(t71).toNat]?=some e∧(mP.query.kind=2→∃c:BS,l5[0]?=some c∧2≤c.length∧∃i:Dsk,PuX prog 276 (Dk mP) [.s (c.drop 2)] (fun r=>r=.tup []) ((Dk i))∧T268_10 prog K P0 l5 t71 (IntKind.i64.wrap (1+(e.locals.length:Int))) t69 t70 t71 m16392 i)∧(¬(mP.query.kind=2)→T268_10 prog K P0 l5 t71 (IntKind.i64.wrap (1+(e.locals.length:Int))) t69 t70 t71 m16392 mP))∧(¬(t71<t70)→T268_15 prog K l5 m16392 mP)
def T268_8 (prog:Prog)(K:Int→Dsk→Prop)(l5:LB)(m16392:Rou)(mP:Dsk):Prop:=
  ∀P0:LB→Int→Rou→Dsk→Prop,(∀(l5:LB)(t71:Int)(m16392_b:Rou)(mP:Dsk),T268_9 prog K P0 l5 m16392.frames (m16392.frames.length:Int) t71 m16392_b mP→P0 l5 t71 m16392_b mP)→P0 l5 0 m16392 mP
def T268_7 (prog:Prog)(K:Int→Dsk→Prop)(l5:LB)(m16392:Rou)(mP:Dsk):Prop:=
  1≤l5.length∧T268_8 prog K (l5.drop 1) m16392 mP
def T268_6 (prog:Prog)(K:Int→Dsk→Prop)(l5:LB)(e6:Int)(m16392:Rou)(mP:Dsk):Prop:=
  (e6≠0→K e6 mP)∧(¬(e6≠0)→T268_7 prog K l5 m16392 mP)
def T268_5 (prog:Prog)(K:Int→Dsk→Prop)(g3:Int)(m16392:Rou)(mP:Dsk):Prop:=
  ∃e c,Pus prog 207 [mP.image.av,.i .i64 g3,m16392.av] (.tup [.sl .ext (List.map rowS e),.i .i64 c])∧T268_6 prog K e c m16392 mP
def T268_4 (prog:Prog)(K:Int→Dsk→Prop)(g3:Int)(m16392:Rou)(mP:Dsk):Prop:=
  (mP.query.kind=3→(mP.query.k≥(m16392.frames.length:Int)→K 6 mP)∧(¬(mP.query.k≥(m16392.frames.length:Int))→T268_5 prog K g3 m16392 mP))∧(¬(mP.query.kind=3)→T268_5 prog K g3 m16392 mP)
def T268_3 (prog:Prog)(K:Int→Dsk→Prop)(g3:Int)(mP:Dsk):Prop:=
  0≤g3∧∃c,mP.state.routines[(g3).toNat]?=some c∧T268_4 prog K g3 c mP
def T268_2 (prog:Prog)(K:Int→Dsk→Prop)(g3:Int)(mP:Dsk):Prop:=
  (g3≥(mP.state.routines.length:Int)→K 6 mP)∧(¬(g3≥(mP.state.routines.length:Int))→T268_3 prog K g3 mP)
def T268_1 (prog:Prog)(K:Int→Dsk→Prop)(mP:Dsk):Prop:=
  T268_2 prog K mP.query.g mP
def T268_0 (prog:Prog)(K:Int→Dsk→Prop)(mP:Dsk):Prop:=
  T268_1 prog K mP
section
variable {prog:Prog}{d:Nat}{Q:AE→Sl→St→Prop}{K:Int→Dsk→Prop}{st0:St}{kp:Key}{vp:Nat}(hQ:HD d st0 kp vp Dk (AV.i .i64) 2 Q K)(hkp:kp.1<d){σ:Sl}{st:St}
include hQ hkp
variable {l5:LB}{t69:List Frm}{t70 t71:Int}{m16392:Rou}{mP:Dsk}{P0:LB→Int→Rou→Dsk→Prop}{o_l5 o_t69:Own}{v16392:Nat}{n9:Int}{t109:LB}{t110 t111:Int}{P1:Int→Rou→Dsk→Prop}{o_t109:Own}{t106:Bool}{k7:Int}{t142:LB}{t143 t144:Int}{P2:Int→Dsk→Prop}{o_t142:Own}{e6 g3:Int}
variable (kP1 :∀(t111:Int)(m16392:Rou)(mP:Dsk),P1 t111 m16392 mP→I268_1 prog d Q st0 kp vp l5 n9 t69 t70 t71 t109 t110 t111 m16392 mP) (kP2 :∀(t144:Int)(mP:Dsk),P2 t144 mP→I268_2 prog d Q st0 kp vp t142 t143 t144 mP) (kP0 :∀(l5:LB)(t71:Int)(m16392:Rou)(mP:Dsk),P0 l5 t71 m16392 mP→I268_0 prog d Q st0 kp vp t69 t70 l5 t71 m16392 mP)(H0:σ 0=.p kp vp 0)(H142:σ 142=.sl o_t142 (List.map rowS t142))(H3:σ 3=.i .i64 g3)(H143:σ 143=.i .i64 t143)(H4:σ 4=.p (d,16392) v16392 0)(H144:σ 144=.i .i64 t144)(H5:σ 5=.sl o_l5 (List.map rowS l5))(H7:σ 7=.i .i64 k7)(H6:σ 6=.i .i64 e6)(H9:σ 9=.i .i64 n9)(H69:σ 69=.sl o_t69 (List.map Frm.row t69))(H70:σ 70=.i .i64 t70)(H71:σ 71=.i .i64 t71)(H109:σ 109=.sl o_t109 (List.map rowS t109))(H106:σ 106=.b t106)(H110:σ 110=.i .i64 t110)(H111:σ 111=.i .i64 t111)(B16392:lk st.bx (d,16392)=some (v16392,[.i .u8 m16392.status,.i .i64 m16392.key,.sl .ext (List.map Frm.row m16392.frames),.sl .ext (List.map Dfr.row m16392.defers),.sl .ext (List.map Pan.row m16392.panics)]))(BP:Dk mP st.bx st.ow kp vp)(FR:Fr d kp st0.bx st0.ow st.bx st.ow)
include kP0 H0 H4 H5 H69 H70 H71 B16392 BP FR in
theorem w268_14 (h:T268_14 prog K P0 l5 t69 t70 t71 m16392 mP):W prog d c268_4 σ st (thenW prog d (.loop l268_0) (blockW 0 (thenW prog d c268_9 Q))):=
 W.reg0 J fun _ _=>b_ H71 J add_ (m_ (e_ (kP0 _ _ _ _ h _ _ _ _ _ H0 H4 H5 H69 H70 J B16392 BP FR)))
include kP0 H0 H4 H5 H9 H69 H70 H71 B16392 BP FR in
theorem w268_13 (h:T268_13 prog K P0 l5 n9 t69 t70 t71 m16392 mP):W prog d c268_2 σ st (blockW 1 (thenW prog d c268_4 (thenW prog d (.loop l268_0) (blockW 0 (thenW prog d c268_9 Q))))):=
 W.reg0 J fun _ _=>s_mvL H5 (m_ (s_slL_lo rowS_len J H9 h.1 h.2.1 (s_mvL J (e_ (w268_14 hQ hkp kP0 H0 H4 J H69 H70 H71 B16392 BP FR h.2.2)))))
include kP1 kP0 H0 H4 H5 H9 H69 H70 H71 H109 H110 H111 B16392 BP FR in
theorem w268_12 (h:T268_12 prog K P1 P0 l5 n9 t69 t70 t71 t109 t110 t111 m16392 mP):W prog d l268_1 σ st (thenW prog d (.loop l268_1) (blockW 2 (thenW prog d c268_2 (blockW 1 (thenW prog d c268_4 (thenW prog d (.loop l268_0) (blockW 0 (thenW prog d c268_9 Q)))))))):=
 q_ J (b_ H111 H110 lss_ (e_ (sq_ (cs_ J (fun c=>sk_ (sq_ (bk_ (q_ J ((h.1 c).2.elim fun _ e=>ia_ H109 H111 (h.1 c).1 e.1 J J (lf_ J J J (m_ (e_ (W.reg0 J fun _ _=>m_ (m_ (s_slS_lo J J (by decide) e.2.1 (e.2.2.elim fun _ i=>cX_ (sec H0 (sec J sen)) i.1 (Nat.lt_succ_of_lt hkp) BP (fun _ k j=>e_ (W.reg0 J fun _ _=>b_ H111 J add_ (m_ (e_ (kP1 _ _ _ i.2 _ _ _ _ _ _ H0 H4 H5 H9 H69 H70 H71 H109 H110 J ((j.1 (d,16392) (Nat.lt_succ_self d) (key_LP hkp)).trans B16392) k (Fr.pass FR j)))))))))))))))))) (fun c=>ex_ (w268_13 hQ hkp kP0 H0 H4 H5 H9 H69 H70 H71 B16392 BP FR (h.2 c)))))))
include kP0 H0 H4 H5 H9 H69 H70 H71 H106 B16392 BP FR in
theorem w268_11 (h:T268_11 prog K P0 l5 n9 t69 t70 t71 t106 m16392 mP):W prog d c268_1 σ st (thenW prog d c268_2 (blockW 1 (thenW prog d c268_4 (thenW prog d (.loop l268_0) (blockW 0 (thenW prog d c268_9 Q)))))):=
 cb_ H106 (fun c=>q_ J (s_mvL H5 (m_ (s_slL rowS_len J J H9 (h.1 c).1 (h.1 c).2.1 (h.1 c).2.2.1 (ll_ J (m_ (e_ (bk_ ((h.1 c).2.2.2 (I268_1 prog d Q st0 kp vp l5 n9 t69 t70 t71 ((l5.drop 1).take ((n9).toNat-1)) (((l5.drop 1).take ((n9).toNat-1)).length:Int)) (fun _ _ _ hb _ _ _ _ _ _ H0 H4 H5 H9 H69 H70 H71 H109 H110 H111 B16392 BP FR=>W.loop (w268_12 hQ hkp (fun _ _ _ x=>x) kP0 H0 H4 H5 H9 H69 H70 H71 H109 H110 H111 B16392 BP FR hb)) _ _ _ _ _ _ H0 H4 H5 H9 H69 H70 H71 J J J B16392 BP FR))))))))) (fun c=>sk_ (w268_13 hQ hkp kP0 H0 H4 H5 H9 H69 H70 H71 B16392 BP FR (h.2 c)))
include kP0 H0 H4 H5 H7 H9 H69 H70 H71 B16392 BP FR in
theorem w268_10 (h:T268_10 prog K P0 l5 k7 n9 t69 t70 t71 m16392 mP):W prog d c268_3 σ st (blockW 1 (thenW prog d c268_4 (thenW prog d (.loop l268_0) (blockW 0 (thenW prog d c268_9 Q))))):=
 sq_ (q_ J (s_mv H0 (s_nilP J (f_ J (f_ J (s_loadD J BP J J (b_ J J eql_ (s_mvB J (em_ (g:=98) J (fun c=>gy_ J (s_mv H0 (gy_ J (s_nilP J (gy_ J (f_ J (gy_ J (f_ J (gy_ J (s_loadD J BP J J (gy_ J (s_mvI H7 (gy_ J (b_ J J eql_ (pt_ J J (e_ (w268_11 hQ hkp kP0 H0 H4 H5 H9 H69 H70 H71 J B16392 BP FR (h.1 c)))))))))))))))))) (fun c=>z_ 8 J (e_ (w268_11 hQ hkp kP0 H0 H4 H5 H9 H69 H70 H71 J B16392 BP FR (h.2 c)))))))))))))
include BP FR in
theorem w268_18 (h:T268_18 prog K mP):W prog d c268_7 σ st Q:=
 q_ J (m_ (er_ (hQ J BP FR h)))
include kP2 H0 H142 H143 H144 BP FR in
theorem w268_17 (h:T268_17 prog K P2 t142 t143 t144 mP):W prog d l268_2 σ st (thenW prog d (.loop l268_2) (blockW 5 (thenW prog d c268_7 Q))):=
 q_ J (b_ H144 H143 lss_ (e_ (sq_ (cs_ J (fun c=>sk_ (sq_ (bk_ (q_ J ((h.1 c).2.elim fun _ e=>ia_ H142 H144 (h.1 c).1 e.1 J J (lf_ J J J (m_ (e_ (W.reg0 J fun _ _=>m_ (m_ (s_slS_lo J J (by decide) e.2.1 (e.2.2.elim fun _ i=>cX_ (sec H0 (sec J sen)) i.1 (Nat.lt_succ_of_lt hkp) BP (fun _ j k=>e_ (W.reg0 J fun _ _=>b_ H144 J add_ (m_ (e_ (kP2 _ _ i.2 _ _ _ H0 H142 H143 J j (Fr.pass FR k)))))))))))))))))) (fun c=>ex_ (w268_18 hQ hkp BP FR (h.2 c)))))))
include H0 H5 BP FR in
theorem w268_16 (h:T268_16 prog K l5 mP):W prog d c268_8 σ st Q:=
 sq_ (q_ J (s_mvL H5 (ll_ J (m_ (e_ (bk_ (h (I268_2 prog d Q st0 kp vp l5 (l5.length:Int)) (fun _ _ hb _ _ _ H0 H142 H143 H144 BP FR=>W.loop (w268_17 hQ hkp (fun _ _ x=>x) H0 H142 H143 H144 BP FR hb)) _ _ _ H0 J J J BP FR)))))))
include H0 H4 H5 B16392 BP FR in
theorem w268_15 (h:T268_15 prog K l5 m16392 mP):W prog d c268_9 σ st Q:=
 q_ J (f_ H4 (l_ J B16392 J J (ll_ J (m_ (e_ (sq_ (q_ J (m_ (s_nilP H0 (f_ J (f_ J (s_loadD J BP J J (e_ (bk_ (q_ J (b_ J J eql_ (m_ (e_ (cs_ J (fun c=>W.reg0 J fun _ _=>s_mvL H5 (m_ (s_slL_hi rowS_len J J (h.1 c).1 (h.1 c).2.1 (s_mvL J (e_ (w268_16 hQ hkp H0 J BP FR (h.1 c).2.2)))))) (fun c=>q_ J (b_ J J eql_ (m_ (e_ (cs_ J (fun e=>W.reg0 J fun _ _=>s_mvL H5 (m_ (s_slL_lo rowS_len J J ((h.2 c).1 e).1 ((h.2 c).1 e).2.1 (s_mvL J (e_ (w268_16 hQ hkp H0 J BP FR ((h.2 c).1 e).2.2)))))) (fun e=>W.reg0 J fun _ _=>s_mvL (f:=rowS) (l:=[]) J (e_ (w268_16 hQ hkp H0 J BP FR ((h.2 c).2 e))))))))))))))))))))))))))))
include kP0 H0 H4 H5 H69 H70 H71 B16392 BP FR in
theorem w268_9 (h:T268_9 prog K P0 l5 t69 t70 t71 m16392 mP):W prog d l268_0 σ st (thenW prog d (.loop l268_0) (blockW 0 (thenW prog d c268_9 Q))):=
 q_ J (b_ H71 H70 lss_ (e_ (sq_ (cs_ J (fun c=>sk_ (sq_ (bk_ (sq_ (W.reg (m_ ((h.1 c).2.elim fun q e=>ia_ H69 H71 (h.1 c).1 e.1 (Frm.row_eq q) J (lf_ J J J (s_alloc (m_ (so_ J (show lk _ (d,53251)=some (_,([.i .i64 0,.i .i64 0,.i .u64 0,.sl .full (List.map Loc.row ([]:List Loc))]:List AV)) from lk_here) J J J (e_ (q_ J (f_ J (l_ J lk_here J J (ll_ J (b_ J J add_ (m_ (e_ (sq_ (q_ J (m_ (s_nilP H0 (f_ J (f_ J (s_loadD J (Dk.other (key_LP hkp) (Dk.other (key_LP hkp) BP)) J J (b_ J J eql_ (e_ (cs_ J (fun k=>W.reg0 J fun _ _=>m_ (s_mvL H5 ((e.2.1 k).elim fun _ j=>ia_ J J (by decide) j.1 J J (lf_ J J J (s_slS_lo J J (by decide) j.2.1 (j.2.2.elim fun _ o=>cX_ (sec H0 (sec J sen)) o.1 (Nat.lt_succ_of_lt hkp) (Dk.other (key_LP hkp) (Dk.other (key_LP hkp) BP)) (fun _ r p=>e_ (w268_10 hQ hkp kP0 H0 H4 H5 H71 J H69 H70 H71 ((p.1 (d,16392) (Nat.lt_succ_self d) (key_LP hkp)).trans (lk_other J (lk_other J B16392))) r (Fr.pass (Fr.box (Fr.box FR)) p) o.2)))))))) (fun k=>sk_ (w268_10 hQ hkp kP0 H0 H4 H5 H71 J H69 H70 H71 (lk_other J (lk_other J B16392)) (Dk.other (key_LP hkp) (Dk.other (key_LP hkp) BP)) (Fr.box (Fr.box FR)) (e.2.2 k)))))))))))))))))))))))))))))))) (fun c=>ex_ (w268_15 hQ hkp H0 H4 H5 B16392 BP FR (h.2 c)))))))
include H0 H4 H5 B16392 BP FR in
theorem w268_8 (h:T268_8 prog K l5 m16392 mP):W prog d c268_10 σ st Q:=
 sq_ (q_ J (f_ H4 (l_ J B16392 J J (ll_ J (m_ (e_ (bk_ (h (I268_0 prog d Q st0 kp vp m16392.frames (m16392.frames.length:Int)) (fun _ _ _ _ hb _ _ _ _ _ H0 H4 H5 H69 H70 H71 B16392 BP FR=>W.loop (w268_9 hQ hkp (fun _ _ _ _ x=>x) H0 H4 H5 H69 H70 H71 B16392 BP FR hb)) _ _ _ _ _ H0 H4 H5 J J J B16392 BP FR))))))))
include H0 H4 H5 B16392 BP FR in
theorem w268_7 (h:T268_7 prog K l5 m16392 mP):W prog d c268_11 σ st Q:=
 q_ J (s_mvL H5 (s_slL_lo rowS_len J J (by decide) h.1 (s_mvL J (e_ (w268_8 hQ hkp H0 H4 J B16392 BP FR h.2)))))
include H0 H4 H5 H6 B16392 BP FR in
theorem w268_6 (h:T268_6 prog K l5 e6 m16392 mP):W prog d c268_12 σ st Q:=
 sq_ (q_ J (m_ (b_ H6 J neq_ (e_ (cs_ J (fun c=>q_ J (m_ (m_ (er_ (hQ H6 BP FR (h.1 c)))))) (fun c=>sk_ (w268_7 hQ hkp H0 H4 H5 B16392 BP FR (h.2 c))))))))
include H0 H3 H4 B16392 BP FR in
theorem w268_5 (h:T268_5 prog K g3 m16392 mP):W prog d c268_13 σ st Q:=
 q_ J (m_ (s_nilP H0 (f_ J (s_loadD J BP J J (m_ (l_ H4 B16392 J J (x2 h fun _ _ c=>ca_ (sc3 J H3 J J) c.1 (m_ (x_ J J (x_ J J (s_mvL J (m_ (e_ (w268_6 hQ hkp H0 H4 J J B16392 BP FR c.2))))))))))))))
include H0 H3 H4 B16392 BP FR in
theorem w268_4 (h:T268_4 prog K g3 m16392 mP):W prog d c268_14 σ st Q:=
 sq_ (q_ J (s_mv H0 (s_nilP J (f_ J (f_ J (s_loadD J BP J J (b_ J J eql_ (s_mvB J (em_ (g:=42) J (fun c=>gy_ J (s_mv H0 (gy_ J (s_nilP J (gy_ J (f_ J (gy_ J (f_ J (gy_ J (s_loadD J BP J J (gy_ J (f_ H4 (gy_ J (l_ J B16392 J J (gy_ J (ll_ J (gy_ J (b_ J J geq_ (pt_ J J (e_ (cs_ J (fun e=>q_ J (m_ (er_ (hQ J BP FR ((h.1 c).1 e))))) (fun e=>sk_ (w268_5 hQ hkp H0 H3 H4 B16392 BP FR ((h.1 c).2 e)))))))))))))))))))))))) (fun c=>z_ 10 J (e_ (cf_ J (sk_ (w268_5 hQ hkp H0 H3 H4 B16392 BP FR (h.2 c)))))))))))))))
include H0 H3 BP FR in
theorem w268_3 (h:T268_3 prog K g3 mP):W prog d c268_15 σ st Q:=
 sq_ (W.reg (m_ (s_nilP H0 (f_ J (f_ J (s_loadD J (Dk.other (key_LP hkp) BP) J J (m_ (h.2.elim fun e c=>ia_ J H3 h.1 c.1 (Rou.row_eq e) J (lf_ J J J (s_alloc (so_ J (show lk _ (d,16392)=some (_,([.i .u8 0,.i .i64 0,.sl .full (List.map Frm.row ([]:List Frm)),.sl .full (List.map Dfr.row ([]:List Dfr)),.sl .full (List.map Pan.row ([]:List Pan))]:List AV)) from lk_here) J J J (e_ (w268_4 hQ hkp H0 H3 J lk_here (Dk.other (key_LP hkp) (Dk.other (key_LP hkp) BP)) (Fr.box (Fr.box FR)) c.2)))))))))))))
include H0 H3 BP FR in
theorem w268_2 (h:T268_2 prog K g3 mP):W prog d c268_16 σ st Q:=
 sq_ (q_ J (m_ (m_ (s_nilP H0 (f_ J (f_ J (s_loadD J BP J J (ll_ J (b_ H3 J geq_ (e_ (cs_ J (fun c=>q_ J (m_ (er_ (hQ J BP FR (h.1 c))))) (fun c=>sk_ (w268_3 hQ hkp H0 H3 BP FR (h.2 c))))))))))))))
include H0 BP FR in
theorem w268_1 (h:T268_1 prog K mP):W prog d c268_17 σ st Q:=
 q_ J (m_ (s_nilP H0 (f_ J (f_ J (s_loadD J BP J J (m_ (e_ (w268_2 hQ hkp H0 J BP FR h))))))))
include H0 BP FR in
theorem w268_0 (h:T268_0 prog K mP):W prog d (sR 0 r268_0 c268_17) σ st Q:=
 q_ J (m_ (e_ (w268_1 hQ hkp H0 BP FR h)))
end
theorem p268 {prog:Prog}(hf:prog.fn 268=some pf268){mP:Dsk}{K:Int→Dsk→Prop}(h:T268_0 prog K mP):PuXK prog 268 (Dk mP) [] (fun r (b_:Dsk)=>∃res0:Int,(r=.i .i64 res0)∧K res0 b_) (fun b_=>(Dk b_)):=
 PD hf J J (fun _=>Dk.out) fun d st kp vp hkp hB Q q=>w268_0 q hkp J hB Fr.refl h
end Go.AM

/- Parts of the proof. -/
namespace Go.AM
open Go
set_option linter.unusedVariables false
set_option linter.unusedSimpArgs false
set_option maxRecDepth 4000
attribute [local irreducible] WO fillCells fillRows
abbrev H249 (Q:AE→Sl→St→Prop)(K:Bool→Prop):Prop:=∀(σ:Sl)(st:St)(res0:Bool),σ 4=.b res0→K res0→Q .ret σ st
section
variable {prog:Prog}{d:Nat}{Q:AE→Sl→St→Prop}{K:Bool→Prop}(hQ:H249 Q K){σ:Sl}{st:St}
include hQ
end
abbrev H250 (Q:AE→Sl→St→Prop)(K:Bool→Prop):Prop:=∀(σ:Sl)(st:St)(res0:Bool),σ 2=.b res0→K res0→Q .ret σ st
section
variable {prog:Prog}{d:Nat}{Q:AE→Sl→St→Prop}{K:Bool→Prop}(hQ:H250 Q K){σ:Sl}{st:St}
include hQ
end
def r251_0:List AI:=[oC 4 (.b false)]
def r251_1:List AI:=[oQ 8 255 [],oO 9 (.call true 252 []),oM 10 0,oQ 11 254 [8,9,10],oM 7 11,oE 12 0 7,oE 13 1 7,oM 5 12,oM 6 13]
def r251_2:List AI:=[oM 14 6,oM 15 1,oT 16 .eql 14 15,oM 17 16,gT 17 (oM 18 5),gT 17 (oJ 19 18),gT 17 (oV 20 .eql 19 0),oA 21 17 20,oM 4 21]
abbrev b251:AC:=(sR 0 r251_0 (sR 1 r251_1 (sR 2 r251_2 .ret)))
def pf251:AF:={ nt:=22,res:=[.tmp 4],body:=b251 }
def T251_0 (prog:Prog)(K:Bool→Prop)(text0:BS)(want1:Int):Prop:=
  ∃e:Img,Pus prog 255 [] (e.av)∧∃k:Sta,(PuN prog 252 [] (fun r=>r=k.avo .full))∧∃j:LB,∃c,Pus prog 254 [e.av,k.av,.s text0] (.tup [.sl .ext (List.map rowS j),.i .i64 c])∧(c=want1→K (decide ((j.length:Int)=0)))∧(¬(c=want1)→K false)
section
variable {prog:Prog}{d:Nat}{Q:AE→Sl→St→Prop}{K:Bool→Prop}(hQ:H1 AV.b 4 Q K){σ:Sl}{st:St}
include hQ
variable {text0:BS}{want1:Int}
variable (H0:σ 0=.s text0)(H1:σ 1=.i .i64 want1)
include H0 H1 in
theorem w251_0 (h:T251_0 prog K text0 want1):W prog d (sR 0 r251_0 (sR 1 r251_1 (sR 2 r251_2 .ret))) σ st Q:=
 q_ J (m_ (e_ (q_ J (h.elim fun _ i=>ca_ sn i.1 (i.2.elim fun _ j=>s_callN sen (j.1) (fun _ _=>m_ (x2 j.2 fun _ _ c=>ca_ (sc3 J J H0 J) c.1 (m_ (x_ J J (x_ J J (s_mvL J (m_ (e_ (q_ J (s_mvI J (s_mvI H1 (b_ J J eql_ (s_mvB J (em_ (g:=17) J (fun e=>gy_ J (s_mvL J (gy_ J (ll_ J (gy_ J (b_ J J eql_ (z_ 2 J (er_ (hQ J (c.2.1 e)))))))))) (fun e=>z_ 5 J (er_ (hQ J (c.2.2 e)))))))))))))))))))))))
end
theorem p251 {prog:Prog}(hf:prog.fn 251=some pf251){text0:BS}{want1:Int}{K:Bool→Prop}(h:T251_0 prog K text0 want1) :∃res0:Bool,K res0∧Pus prog 251 [.s text0,.i .i64 want1] (.b res0):=
 P1 hf J (w251_0 (h1 J fun _=>J) J J h)
def r252_0:List AI:=[oO 0 (.alloc [z8,z6,z6,zl])]
def r252_1:List AI:=[oO 2 (.build [z8,z6,zs,zl,zb] [(0,1,(.c (.i .u8 2))),(1,1,(.c (.i .i64 5)))]),oO 1 (.alloc [z8,z6,zs,zl,zb]),oS 5 1 2]
def r252_2:List AI:=[oK 3 5 1,oO 4 (.build [z6,z8,z6,zs,zl,zb] [(0,1,(.c (.i .i64 0))),(1,5,(.t 3))]),oO 5 (.bslice [z6,z8,z6,zs,zl,zb] 1 [(0,(.t 4))]),oO 6 (.build [z6,z6,z7,zl] [(0,1,(.c (.i .i64 1))),(1,1,(.c (.i .i64 2))),(3,1,(.t 5))]),oO 7 (.build [z6,z6,z7,zl] [(1,1,(.c (.i .i64 4)))]),oO 8 (.bslice [z6,z6,z7,zl] 2 [(0,(.t 6)),(1,(.t 7))]),oO 9 (.build [z8,z6,zl,zl,zl] [(0,1,(.c (.i .u8 2))),(1,1,(.c (.i .i64 7))),(2,1,(.t 8))]),oO 10 (.bslice [z8,z6,zl,zl,zl] 1 [(0,(.t 9))]),oO 11 (.build [z8,z6,z6,zl] [(0,1,(.c (.i .u8 3))),(1,1,(.c (.i .i64 (-1)))),(3,1,(.t 10))]),oS 4 0 11]
abbrev b252:AC:=(sR 0 r252_0 (sR 1 r252_1 (sR 2 r252_2 .ret)))
def pf252:AF:={ nt:=12,res:=[.cell 0 4 true],body:=b252 }
abbrev H252 (d:Nat)(st0:St)(Q:AE→Sl→St→Prop)(K:Sta→Prop):Prop:=∀(σ:Sl)(st:St)(k0:Key)(v0:Nat)(res0:Sta),σ 0=.p k0 v0 0→lk st.bx k0=some (v0,[.i .u8 res0.outcome,.i .i64 res0.failing,.i .i64 res0.steps,.sl .full (List.map Rou.row res0.routines)])→Fr d (d,0) st0.bx st0.ow st.bx st.ow→K res0→Q .ret σ st
def T252_0 (prog:Prog)(K:Sta→Prop) :Prop:=
  K (Sta.mk 3 (-1) 0 [(Rou.mk 2 7 [(Frm.mk 1 2 0 [(Loc.mk 0 (Val.mk 2 5 [] ([]:List Val) false))]),(Frm.mk 0 4 0 ([]:List Loc))] ([]:List Dfr) ([]:List Pan))])
section
variable {prog:Prog}{d:Nat}{Q:AE→Sl→St→Prop}{K:Sta→Prop}{st0:St}(hQ:H252 d st0 Q K){σ:Sl}{st:St}
include hQ
variable (FR:Fr d (d,0) st0.bx st0.ow st.bx st.ow)
include FR in
theorem w252_0 (h:T252_0 prog K ):W prog d (sR 0 r252_0 (sR 1 r252_1 (sR 2 r252_2 .ret))) σ st Q:=
 sq_ (W.reg (s_alloc (e_ (sq_ (W.reg (s_build (f_cons J J (f_cons J J f_nil)) (s_alloc (so_ J (show lk _ (d,4097)=some (_,([.i .u8 0,.i .i64 0,.s [],.sl .full (List.map Val.row ([]:List Val)),.b false]:List AV)) from lk_here) J J J (e_ (q_ J (l_ J lk_here J J (s_build (f_cons J J (f_cons J J f_nil)) (s_bslM (f:=Loc.row) (l:=[(Loc.mk 0 (Val.mk 2 5 [] ([]:List Val) false))]) J J (g_cons J J J g_nil) (by simp only [List.map_cons,List.map_nil,Loc.row_eq];rfl) (s_build (f_cons J J (f_cons J J (f_cons J J f_nil))) (s_build (f_cons J J f_nil) (s_bslM (f:=Frm.row) (l:=[(Frm.mk 1 2 0 [(Loc.mk 0 (Val.mk 2 5 [] ([]:List Val) false))]),(Frm.mk 0 4 0 ([]:List Loc))]) J J (g_cons J J J (g_cons J J J g_nil)) (by simp only [List.map_cons,List.map_nil,Frm.row_eq];rfl) (s_build (f_cons J J (f_cons J J (f_cons J J f_nil))) (s_bslM (f:=Rou.row) (l:=[(Rou.mk 2 7 [(Frm.mk 1 2 0 [(Loc.mk 0 (Val.mk 2 5 [] ([]:List Val) false))]),(Frm.mk 0 4 0 ([]:List Loc))] ([]:List Dfr) ([]:List Pan))]) J J (g_cons J J J g_nil) (by simp only [List.map_cons,List.map_nil,Rou.row_eq];rfl) (s_build (f_cons J J (f_cons J J (f_cons J J f_nil))) (so_ J (lk_other J (lk_other J (show lk _ (d,0)=some (_,([.i .u8 0,.i .i64 0,.i .i64 0,.sl .full (List.map Rou.row ([]:List Rou))]:List AV)) from lk_here))) J J J (er_ (hQ _ _ _ _ _ J lk_here (Fr.box (Fr.box (Fr.box (Fr.box FR)))) h))))))))))))))))))))))
end
theorem p252 {prog:Prog}(hf:prog.fn 252=some pf252)  {K:Sta→Prop}(h:T252_0 prog K ):PuN prog 252 [] (fun r=>∃res0:Sta,(r=res0.avo .full)∧K res0):=
  PuN.of hf rfl fun d st=>w252_0 (st0:=st) (Q:=fun e σ st'=>(e=.normal∨e=.ret)∧∃r,ares σ st' pf252.res=some r∧_∧Fr d (d,0) st.bx st.ow st'.bx st'.ow) (fun σ st' k0 v0  res0 H0 HB0 hf hk=>⟨.inr rfl,res0.avo .full,by simp only [pf252,ares,aresL,ares_cellA (n:=4) H0 HB0 rfl,ares_tmp,Option.map_some,ares_cellA (n:=4) H0 HB0 rfl],⟨res0,rfl,hk⟩,hf⟩) (σ:=sl0 []) Fr.refl h
def r253_0:List AI:=[oY 3 4 0,oC 6 (.b false)]
def r253_1:List AI:=[oQ 10 255 [],oK 11 4 3,oM 12 1,oQ 13 254 [10,11,12],oM 9 13,oE 14 0 9,oE 15 1 9,oM 7 14,oM 8 15]
def r253_2:List AI:=[oM 16 8,oV 17 .eql 16 0,oM 18 17,gT 18 (oM 19 7),gT 18 (oM 20 2),gT 18 (oQ 21 29 [19,20]),oA 22 18 21,oM 6 22]
abbrev b253:AC:=(sR 0 r253_0 (sR 1 r253_1 (sR 2 r253_2 .ret)))
def pf253:AF:={ nt:=23,res:=[.tmp 6],body:=b253 }
def T253_0 (prog:Prog)(K:Bool→Prop)(s0:Sta)(text1:BS)(want2:LB):Prop:=
  ∃e:Img,Pus prog 255 [] (e.av)∧∃k c,Pus prog 254 [e.av,s0.av,.s text1] (.tup [.sl .ext (List.map rowS k),.i .i64 c])∧(c=0→∃j,Pus prog 29 [.sl .ext (List.map rowS k),.sl .ext (List.map rowS want2)] (.b j)∧K j)∧(¬(c=0)→K false)
section
variable {prog:Prog}{d:Nat}{Q:AE→Sl→St→Prop}{K:Bool→Prop}(hQ:H1 AV.b 6 Q K){σ:Sl}{st:St}
include hQ
variable {s0:Sta}{text1:BS}{want2:LB}{o_want2:Own}
variable (H0:σ 0=s0.av)(H1:σ 1=.s text1)(H2:σ 2=.sl o_want2 (List.map rowS want2))
include H0 H1 H2 in
theorem w253_0 (h:T253_0 prog K s0 text1 want2):W prog d (sR 0 r253_0 (sR 1 r253_1 (sR 2 r253_2 .ret))) σ st Q:=
 q_ J (s_box H0 J (m_ (e_ (q_ J (h.elim fun _ i=>ca_ sn i.1 (l_ J lk_here J J (m_ (x2 i.2 fun _ _ c=>ca_ (sc3 J J H1 J) c.1 (m_ (x_ J J (x_ J J (s_mvL J (m_ (e_ (q_ J (s_mvI J (b_ J J eql_ (s_mvB J (em_ (g:=18) J (fun e=>gy_ J (s_mvL J (gy_ J (s_mvL H2 (gy_ J ((c.2.1 e).elim fun _ j=>ca_ (sc2 J J J) j.1 (z_ 2 J (er_ (hQ J j.2))))))))) (fun e=>z_ 5 J (er_ (hQ J (c.2.2 e)))))))))))))))))))))))
end
theorem p253 {prog:Prog}(hf:prog.fn 253=some pf253){s0:Sta}{text1:BS}{want2:LB}{K:Bool→Prop}(h:T253_0 prog K s0 text1 want2) :∃res0:Bool,K res0∧Pus prog 253 [s0.av,.s text1,.sl .ext (List.map rowS want2)] (.b res0):=
 P1 hf J (w253_0 (h1 J fun _=>J) J J J h)
def r254_0:List AI:=[oY 3 3 0,oY 4 4 1,oC 6 (.sl .full []),oI 7 0]
def r254_1:List AI:=[oM 11 2,oQ 12 245 [11],oM 10 12,oE 13 0 10,oE 14 1 10,oO 8 (.alloc [z8,z6,z6,z6,zs]),oS 5 8 13,oM 9 14]
def r254_2:List AI:=[oM 15 9,oV 16 .neq 15 0]
def r254_3:List AI:=[oM 17 9,oC 6 (.sl .full []),oM 7 17]
def r254_4:List AI:=[oK 18 3 3,oK 19 4 4,oK 20 5 8,oQ 21 264 [18,19,20],oE 22 0 21,oE 23 1 21,oM 6 22,oM 7 23]
abbrev b254:AC:=(sR 0 r254_0 (sR 1 r254_1 (.seq (sR 2 r254_2 (.cond (.t 16) (sR 3 r254_3 .ret) .skip)) (sR 4 r254_4 .ret))))
def pf254:AF:={ nt:=24,res:=[.tmp 6,.tmp 7],body:=b254 }
def T254_0 (prog:Prog)(K:LB→Int→Prop)(m0:Img)(s1:Sta)(text2:BS):Prop:=
  ∃e:Qry,∃c,Pus prog 245 [.s text2] (.tup [e.av,.i .i64 c])∧(c≠0→K ([]:LB) c)∧(¬(c≠0)→∃k j,Pus prog 264 [m0.av,s1.av,e.av] (.tup [.sl .ext (List.map rowS k),.i .i64 j])∧K k j)
section
variable {prog:Prog}{d:Nat}{Q:AE→Sl→St→Prop}{K:LB→Int→Prop}(hQ:HM rowS (AV.i .i64) 6 7 Q K){σ:Sl}{st:St}
include hQ
variable {m0:Img}{s1:Sta}{text2:BS}
variable (H0:σ 0=m0.av)(H1:σ 1=s1.av)(H2:σ 2=.s text2)
include H0 H1 H2 in
theorem w254_0 (h:T254_0 prog K m0 s1 text2):W prog d (sR 0 r254_0 (sR 1 r254_1 (.seq (sR 2 r254_2 (.cond (.t 16) (sR 3 r254_3 .ret) .skip)) (sR 4 r254_4 .ret)))) σ st Q:=
 q_ J (s_box H0 J (s_box H1 J (s_mvL (f:=rowS) (l:=[]) J (m_ (e_ (sq_ (W.reg (m_ (x2 h fun _ _ c=>ca_ (sc1 H2 J) c.1 (m_ (x_ J J (x_ J J (s_alloc (so_ J (show lk _ (d,4101)=some (_,([.i .u8 0,.i .i64 0,.i .i64 0,.i .i64 0,.s []]:List AV)) from lk_here) J J J (m_ (e_ (sq_ (q_ J (m_ (b_ J J neq_ (e_ (cs_ J (fun e=>q_ J (m_ (s_mvL (f:=rowS) (l:=[]) J (m_ (er_ (hQ J J (c.2.1 e))))))) (fun e=>sk_ (q_ J (l_ J (lk_other J (lk_other J (lk_other J lk_here))) J J (l_ J (lk_other J (lk_other J lk_here)) J J (l_ J lk_here J J (x2 (c.2.2 e) fun _ _ j=>ca_ (sc3 J J J J) j.1 (x_ J J (x_ J J (s_mvL J (m_ (er_ (hQ J J j.2))))))))))))))))))))))))))))))))))
end
theorem p254 {prog:Prog}(hf:prog.fn 254=some pf254){m0:Img}{s1:Sta}{text2:BS}{K:LB→Int→Prop}(h:T254_0 prog K m0 s1 text2) :∃res0:LB,∃res1:Int,K res0 res1∧Pus prog 254 [m0.av,s1.av,.s text2] (.tup [.sl .ext (List.map rowS res0),.i .i64 res1]):=
 P2 hf J (w254_0 (hM J fun _ _ _=>J) J J J h)
def r255_0:List AI:=[oO 0 (.alloc [zl,zl,zl])]
def r255_1:List AI:=[oO 2 (.mks [z8,z6,z6,z6] 32 (.c (.i .i64 6)) (.c (.i .i64 6))),oM 1 2]
def r255_2:List AI:=[oM 3 1,oO 4 (.build [zs,z6,z6,zl,zl,zl,zl] [(0,1,(.c (.s [109,97,105,110]))),(4,1,(.t 3))]),oM 5 1,oO 6 (.build [zs,z6] [(0,1,(.c (.s [120])))]),oO 7 (.build [zs,z6] [(0,1,(.c (.s [121])))]),oO 8 (.bslice [zs,z6] 2 [(0,(.t 6)),(1,(.t 7))]),oO 9 (.build [zs,z6,z6,zl,zl,zl,zl] [(0,1,(.c (.s [102]))),(4,1,(.t 5)),(3,1,(.t 8))]),oO 10 (.bslice [zs,z6,z6,zl,zl,zl,zl] 2 [(0,(.t 4)),(1,(.t 9))]),oO 11 (.build [zl,zl,zl] [(2,1,(.t 10))]),oS 3 0 11]
abbrev b255:AC:=(sR 0 r255_0 (sR 1 r255_1 (sR 2 r255_2 .ret)))
def pf255:AF:={ nt:=12,res:=[.cell 0 3 true],body:=b255 }
abbrev H255 (Q:AE→Sl→St→Prop)(K:Img→Prop):Prop:=∀(σ:Sl)(st:St)(k0:Key)(v0:Nat) (o0_0 o0_1 o0_2:Own)(res0:Img),σ 0=.p k0 v0 0→lk st.bx k0=some (v0,[.sl o0_0 (List.map Typ.row res0.types),.sl o0_1 (List.map rowS res0.texts),.sl o0_2 (List.map Fun.row res0.funcs)])→K res0→Q .ret σ st
def T255_0 (prog:Prog)(K:Img→Prop) :Prop:=
  K (Img.mk ([]:List Typ) ([]:LB) [(Fun.mk ([109,97,105,110]:BS) 0 0 ([]:List Fld) (rep 6 Ins.zero) ([]:List Rnn) ([]:List Rnn)),(Fun.mk ([102]:BS) 0 0 [(Fld.mk ([120]:BS) 0),(Fld.mk ([121]:BS) 0)] (rep 6 Ins.zero) ([]:List Rnn) ([]:List Rnn))])
section
variable {prog:Prog}{d:Nat}{Q:AE→Sl→St→Prop}{K:Img→Prop}(hQ:H255 Q K){σ:Sl}{st:St}
include hQ
theorem w255_0 (h:T255_0 prog K ):W prog d (sR 0 r255_0 (sR 1 r255_1 (sR 2 r255_2 .ret))) σ st Q:=
 sq_ (W.reg (s_alloc (e_ (q_ J (s_mks (n:=6) (m:=6) (f:=Ins.row) (a:=Ins.zero) J J J J J (by decide) J ⟨by decide,by decide⟩ (s_mvL J (e_ (q_ J (s_mvL J (s_build (f_cons J J (f_cons J J f_nil)) (s_mvL J (s_build (f_cons J J f_nil) (s_build (f_cons J J f_nil) (s_bslM (f:=Fld.row) (l:=[(Fld.mk ([120]:BS) 0),(Fld.mk ([121]:BS) 0)]) J J (g_cons J J J (g_cons J J J g_nil)) (by simp only [List.map_cons,List.map_nil,Fld.row_eq];rfl) (s_build (f_cons J J (f_cons J J (f_cons J J f_nil))) (s_bslM (f:=Fun.row) (l:=[(Fun.mk ([109,97,105,110]:BS) 0 0 ([]:List Fld) (rep 6 Ins.zero) ([]:List Rnn) ([]:List Rnn)),(Fun.mk ([102]:BS) 0 0 [(Fld.mk ([120]:BS) 0),(Fld.mk ([121]:BS) 0)] (rep 6 Ins.zero) ([]:List Rnn) ([]:List Rnn))]) J J (g_cons J J J (g_cons J J J g_nil)) (by simp only [List.map_cons,List.map_nil,Fun.row_eq];rfl) (s_build (f_cons J J f_nil) (so_ J (show lk _ (d,0)=some (_,([.sl .full (List.map Typ.row ([]:List Typ)),.sl .full (List.map rowS ([]:LB)),.sl .full (List.map Fun.row ([]:List Fun))]:List AV)) from lk_here) J J J (er_ (hQ _ _ _ _ _ _ _ _ J lk_here h))))))))))))))))))))
end
theorem p255 {prog:Prog}(hf:prog.fn 255=some pf255)  {K:Img→Prop}(h:T255_0 prog K ) :∃res0:Img,K res0∧Pus prog 255 [] (res0.av):=by
  obtain ⟨v,hv,res0,hk,rfl⟩:=Pus.of (K:=fun v=>∃res0:Img,K res0∧v=res0.av) hf rfl (w255_0 (σ:=sl0 []) (fun σ st k0 v0 o0_0 o0_1 o0_2 res0 H0 HB0 hk=>⟨.ag [.sl o0_0 (List.map Typ.row res0.types),.sl o0_1 (List.map rowS res0.texts),.sl o0_2 (List.map Fun.row res0.funcs)],by simp only [pf255,ares,aresL,ares_cellA (n:=3) H0 HB0 rfl,ares_tmp,Option.map_some],_,rfl,res0,hk,rfl⟩)  h)
  exact ⟨res0,hk,hv⟩
def r256_0:List AI:=[oC 0 (.b false)]
def r256_1:List AI:=[oO 2 (.call true 252 []),oO 1 (.alloc [z8,z6,z6,zl]),oS 4 1 2]
def r256_2:List AI:=[oK 3 4 1,oO 4 (.bslice [zs] 1 [(0,(.c (.s [103,111,114,111,117,116,105,110,101,32,48,58,32,98,108,111,99,107,101,100,32,55])))]),oO 5 (.call false 253 [(.t 3),(.c (.s [103,111,114,111,117,116,105,110,101,115])),(.t 4)]),oM 6 5,gT 6 (oK 7 4 1),gT 6 (oO 8 (.bslice [zs] 1 [(0,(.c (.s [103,111,114,111,117,116,105,110,101,32,48])))])),gT 6 (oO 9 (.call false 253 [(.t 7),(.c (.s [119,97,105,116,115,32,55])),(.t 8)])),oA 10 6 9,oM 11 10,gT 11 (oK 12 4 1),gT 11 (oO 13 (.bslice [zs] 1 [(0,(.c (.s [48,32,49,32,97,116,32,52])))])),gT 11 (oO 14 (.call false 253 [(.t 12),(.c (.s [105,110,32,34,109,97,105,110,34])),(.t 13)])),oA 15 11 14,oM 16 15,gT 16 (oK 17 4 1),gT 16 (oO 18 (.bslice [zs] 1 [(0,(.c (.s [48,32,48,32,48,32,61,32,53])))])),gT 16 (oO 19 (.call false 253 [(.t 17),(.c (.s [115,108,111,116,32,34,120,34])),(.t 18)])),oA 20 16 19,oM 21 20,gT 21 (oK 22 4 1),gT 21 (oO 23 (.bslice [zs] 2 [(0,(.c (.s [35,48,32,49,32,34,102,34,32,97,116,32,50,32,99,97,108,108]))),(1,(.c (.s [35,49,32,48,32,34,109,97,105,110,34,32,97,116,32,52,32,99,97,108,108])))])),gT 21 (oO 24 (.call false 253 [(.t 22),(.c (.s [102,114,97,109,101,115,32,48])),(.t 23)])),oA 25 21 24,oM 26 25,gT 26 (oK 27 4 1),gT 26 (oO 28 (.call false 253 [(.t 27),(.c (.s [108,111,99,97,108,115,32,48,32,49])),(.c (.sl .full []))])),oA 29 26 28,oM 30 29,gT 30 (oO 31 (.call false 251 [(.c (.s [102,114,97,109,101,115,32,49])),(.c (.i .i64 6))])),oA 32 30 31,oM 33 32,gT 33 (oO 34 (.call false 251 [(.c (.s [102,114,97,109,101,115,32,48,49])),(.c (.i .i64 12))])),oA 35 33 34,oM 0 35]
abbrev b256:AC:=(sR 0 r256_0 (sR 1 r256_1 (sR 2 r256_2 .ret)))
def pf256:AF:={ nt:=36,res:=[.tmp 0],body:=b256 }
def T256_0 (prog:Prog)(K:Bool→Prop) :Prop:=
  ∃c:Sta,(PuN prog 252 [] (fun r=>r=c.avo .full))∧∃p,Pus prog 253 [c.av,.s ([103,111,114,111,117,116,105,110,101,115]:BS),.sl .ext (List.map rowS [([103,111,114,111,117,116,105,110,101,32,48,58,32,98,108,111,99,107,101,100,32,55]:BS)])] (.b p)∧(p=true→∃u,Pus prog 253 [c.av,.s ([119,97,105,116,115,32,55]:BS),.sl .ext (List.map rowS [([103,111,114,111,117,116,105,110,101,32,48]:BS)])] (.b u)∧(u=true→∃o,Pus prog 253 [c.av,.s ([105,110,32,34,109,97,105,110,34]:BS),.sl .ext (List.map rowS [([48,32,49,32,97,116,32,52]:BS)])] (.b o)∧(o=true→∃j,Pus prog 253 [c.av,.s ([115,108,111,116,32,34,120,34]:BS),.sl .ext (List.map rowS [([48,32,48,32,48,32,61,32,53]:BS)])] (.b j)∧(j=true→∃e,Pus prog 253 [c.av,.s ([102,114,97,109,101,115,32,48]:BS),.sl .ext (List.map rowS [([35,48,32,49,32,34,102,34,32,97,116,32,50,32,99,97,108,108]:BS),([35,49,32,48,32,34,109,97,105,110,34,32,97,116,32,52,32,99,97,108,108]:BS)])] (.b e)∧(e=true→∃q,Pus prog 253 [c.av,.s ([108,111,99,97,108,115,32,48,32,49]:BS),.sl .ext (List.map rowS ([]:LB))] (.b q)∧(q=true→∃k,Pus prog 251 [.s ([102,114,97,109,101,115,32,49]:BS),.i .i64 6] (.b k)∧(k=true→∃v,Pus prog 251 [.s ([102,114,97,109,101,115,32,48,49]:BS),.i .i64 12] (.b v)∧K v)∧(k=false→K false))∧(q=false→K false))∧(e=false→K false))∧(j=false→K false))∧(o=false→K false))∧(u=false→K false))∧(p=false→K false)
section
variable {prog:Prog}{d:Nat}{Q:AE→Sl→St→Prop}{K:Bool→Prop}(hQ:H1 AV.b 0 Q K){σ:Sl}{st:St}
include hQ
theorem w256_0 (h:T256_0 prog K ):W prog d (sR 0 r256_0 (sR 1 r256_1 (sR 2 r256_2 .ret))) σ st Q:=
 q_ J (m_ (e_ (sq_ (W.reg (h.elim fun _ z=>s_callN sen (z.1) (fun _ a1=>s_alloc (so_ J ((a1.1 (d,4097) (Nat.lt_succ_self d) key_dn).trans (show lk _ (d,4097)=some (_,([.i .u8 0,.i .i64 0,.i .i64 0,.sl .full (List.map Rou.row ([]:List Rou))]:List AV)) from lk_here)) J J J (e_ (q_ J (l_ J lk_here J J (s_bslM (f:=rowS) (l:=[([103,111,114,111,117,116,105,110,101,32,48,58,32,98,108,111,99,107,101,100,32,55]:BS)]) J J (g_cons J J J g_nil) J (z.2.elim fun _ p=>ca_ (sc3 J J J J) p.1 (s_mvB J (eb_ (g:=6) J (fun y=>gy_ J (l_ J lk_here J J (gy_ J (s_bslM (f:=rowS) (l:=[([103,111,114,111,117,116,105,110,101,32,48]:BS)]) J J (g_cons J J J g_nil) J (gy_ J ((p.2.1 y).elim fun _ q=>ca_ (sc3 J J J J) q.1 (z_ 2 J (eb_ (g:=11) J (fun r=>gy_ J (l_ J lk_here J J (gy_ J (s_bslM (f:=rowS) (l:=[([48,32,49,32,97,116,32,52]:BS)]) J J (g_cons J J J g_nil) J (gy_ J ((q.2.1 r).elim fun _ c=>ca_ (sc3 J J J J) c.1 (z_ 2 J (eb_ (g:=16) J (fun s=>gy_ J (l_ J lk_here J J (gy_ J (s_bslM (f:=rowS) (l:=[([48,32,48,32,48,32,61,32,53]:BS)]) J J (g_cons J J J g_nil) J (gy_ J ((c.2.1 s).elim fun _ e=>ca_ (sc3 J J J J) e.1 (z_ 2 J (eb_ (g:=21) J (fun u=>gy_ J (l_ J lk_here J J (gy_ J (s_bslM (f:=rowS) (l:=[([35,48,32,49,32,34,102,34,32,97,116,32,50,32,99,97,108,108]:BS),([35,49,32,48,32,34,109,97,105,110,34,32,97,116,32,52,32,99,97,108,108]:BS)]) J J (g_cons J J J (g_cons J J J g_nil)) J (gy_ J ((e.2.1 u).elim fun _ j=>ca_ (sc3 J J J J) j.1 (z_ 2 J (eb_ (g:=26) J (fun v=>gy_ J (l_ J lk_here J J (gy_ J ((j.2.1 v).elim fun _ k=>ca_ (sc3 J J (show _=AV.sl .full (List.map rowS []) from J) J) k.1 (z_ 2 J (eb_ (g:=30) J (fun w=>gy_ J ((k.2.1 w).elim fun _ o=>ca_ (sc2 J J J) o.1 (z_ 2 J (eb_ (g:=33) J (fun x=>gy_ J ((o.2.1 x).elim fun _ a0=>ca_ (sc2 J J J) a0.1 (z_ 2 J (er_ (hQ J a0.2))))) (fun x=>z_ 3 J (er_ (hQ J (o.2.2 x)))))))) (fun w=>z_ 6 J (er_ (hQ J (k.2.2 w)))))))))) (fun v=>z_ 10 J (er_ (hQ J (j.2.2 v)))))))))))) (fun u=>z_ 15 J (er_ (hQ J (e.2.2 u)))))))))))) (fun s=>z_ 20 J (er_ (hQ J (c.2.2 s)))))))))))) (fun r=>z_ 25 J (er_ (hQ J (q.2.2 r)))))))))))) (fun y=>z_ 30 J (er_ (hQ J (p.2.2 y))))))))))))))))))
end
theorem p256 {prog:Prog}(hf:prog.fn 256=some pf256)  {K:Bool→Prop}(h:T256_0 prog K ) :∃res0:Bool,K res0∧Pus prog 256 [] (.b res0):=
 P1 hf J (w256_0 (h1 J fun _=>J)  h)
abbrev H242 (Q:AE→Sl→St→Prop)(K:Bool→Prop):Prop:=∀(σ:Sl)(st:St)(res0:Bool),σ 4=.b res0→K res0→Q .ret σ st
section
variable {prog:Prog}{d:Nat}{Q:AE→Sl→St→Prop}{K:Bool→Prop}(hQ:H242 Q K){σ:Sl}{st:St}
include hQ
end
end Go.AM

/- Parts of the proof. -/
namespace Go.AM
open Go
set_option linter.unusedVariables false
set_option linter.unusedSimpArgs false
set_option maxRecDepth 4000
attribute [local irreducible] WO fillCells fillRows
def r264_0:List AI:=[oY 3 3 0,oY 4 4 1,oY 5 5 2,oC 6 (.sl .full []),oI 7 0]
def r264_1:List AI:=[oK 13 5 5,oQ 14 247 [13],oM 8 14]
def r264_2:List AI:=[oM 15 8,oV 16 .neq 15 0]
def r264_3:List AI:=[oM 17 8,oC 6 (.sl .full []),oM 7 17]
def r264_4:List AI:=[oK 18 3 3,oK 19 4 4,oQ 20 213 [18,19],oM 9 20]
def r264_5:List AI:=[oM 21 9,oV 22 .neq 21 0]
def r264_6:List AI:=[oM 23 9,oC 6 (.sl .full []),oM 7 23]
def r264_7:List AI:=[oK 24 3 3,oK 25 4 4,oK 26 5 5,oO 27 (.build [zl,zl,zl,z8,z6,z6,zl,z8,z6,z6,z6,zs,zl] [(0,3,(.t 24)),(3,4,(.t 25)),(7,5,(.t 26))]),oY 28 13 27,oO 10 (.alloc [.np]),oS 1 10 28]
def r264_8:List AI:=[oL 29 10,oO 30 (.mkbf 268 [(.t 29)]),oM 11 30]
def r264_9:List AI:=[oF 31 0 5,oL 32 31]
def r264_10:List AI:=[oW 34 .eql 32 1,oM 33 34]
def r264_11:List AI:=[oL 35 10,oO 36 (.mkbf 269 [(.t 35)]),oM 11 36]
def r264_12:List AI:=[oW 38 .eql 32 6,oM 37 38]
def r264_13:List AI:=[oL 39 10,oO 40 (.mkbf 270 [(.t 39)]),oM 11 40]
def r264_14:List AI:=[oW 42 .eql 32 7,oM 41 42]
def r264_15:List AI:=[oO 43 (.mkfn 271 [(.t 10)]),oM 11 43]
def r264_16:List AI:=[oW 45 .eql 32 8,oM 44 45]
def r264_17:List AI:=[oO 46 (.mkfn 274 [(.t 10)]),oM 11 46]
def r264_18:List AI:=[oM 47 11,oO 48 (.callv (.t 47) []),oM 12 48]
def r264_19:List AI:=[oM 49 12,oV 50 .neq 49 0]
def r264_20:List AI:=[oM 51 12,oC 6 (.sl .full []),oM 7 51]
def r264_21:List AI:=[oL 52 10,oN 53 52,oF 54 12 53,oL 55 54,oM 6 55,oI 7 0]
abbrev c264_0:AC:=(.seq (sR 18 r264_18 (sR 19 r264_19 (.cond (.t 50) (sR 20 r264_20 .ret) .skip))) (sR 500021 r264_21 .ret))
abbrev c264_1:AC:=(.seq (sR 1 r264_1 (sR 2 r264_2 (.cond (.t 16) (sR 3 r264_3 .ret) .skip))) (.seq (sR 4 r264_4 (sR 5 r264_5 (.cond (.t 22) (sR 6 r264_6 .ret) .skip))) (sR 7 r264_7 (sR 8 r264_8 (.seq (sR 9 r264_9 (.block 0 (sR 10 r264_10 (.cond (.t 33) (.reg 11 r264_11) (sR 12 r264_12 (.cond (.t 37) (.reg 13 r264_13) (sR 14 r264_14 (.cond (.t 41) (.reg 15 r264_15) (sR 16 r264_16 (.cond (.t 44) (.reg 17 r264_17) .skip)))))))))) c264_0)))))
abbrev b264:AC:=(sR 0 r264_0 c264_1)
def pf264:AF:={ nt:=56,res:=[.tmp 6,.tmp 7],body:=b264 }
def T264_1 (prog:Prog)(K:LB→Int→Prop)(m0:Img)(m1:Sta)(m2:Qry):Prop:=
  ∃c,Pus prog 247 [m2.av] (.i .i64 c)∧(c≠0→K ([]:LB) c)∧(¬(c≠0)→∃e,Pus prog 213 [m0.av,m1.av] (.i .i64 e)∧(e≠0→K ([]:LB) e)∧(¬(e≠0)→(m2.kind=1→∃q,∃w:Dsk,PuX prog 269 (Dk (Dsk.mk m0 m1 m2 ([]:LB))) [] (fun r=>r=.i .i64 q) ((Dk w))∧(q≠0→K ([]:LB) q)∧(¬(q≠0)→K w.out 0))∧(¬(m2.kind=1)→(m2.kind=6→∃k,∃s:Dsk,PuX prog 270 (Dk (Dsk.mk m0 m1 m2 ([]:LB))) [] (fun r=>r=.i .i64 k) ((Dk s))∧(k≠0→K ([]:LB) k)∧(¬(k≠0)→K s.out 0))∧(¬(m2.kind=6)→(m2.kind=7→∃j,∃u:Dsk,PuV prog 271 (Dk (Dsk.mk m0 m1 m2 ([]:LB))) (fun r=>r=.i .i64 j) ((Dk u))∧(j≠0→K ([]:LB) j)∧(¬(j≠0)→K u.out 0))∧(¬(m2.kind=7)→(m2.kind=8→∃o,∃v:Dsk,PuV prog 274 (Dk (Dsk.mk m0 m1 m2 ([]:LB))) (fun r=>r=.i .i64 o) ((Dk v))∧(o≠0→K ([]:LB) o)∧(¬(o≠0)→K v.out 0))∧(¬(m2.kind=8)→∃p,∃x:Dsk,PuX prog 268 (Dk (Dsk.mk m0 m1 m2 ([]:LB))) [] (fun r=>r=.i .i64 p) ((Dk x))∧(p≠0→K ([]:LB) p)∧(¬(p≠0)→K x.out 0)))))))
def T264_0 (prog:Prog)(K:LB→Int→Prop)(m0:Img)(s1:Sta)(q2:Qry):Prop:=
  T264_1 prog K m0 s1 q2
section
variable {prog:Prog}{d:Nat}{Q:AE→Sl→St→Prop}{K:LB→Int→Prop}(hQ:HM rowS (AV.i .i64) 6 7 Q K){σ:Sl}{st:St}
include hQ
variable {m0:Img}{m1:Sta}{m2:Qry}{v0 v1 v2:Nat}{s1:Sta}{q2:Qry}
variable (H3:σ 3=.p (d,0) v0 0)(H0:σ 0=m0.av)(H4:σ 4=.p (d,1) v1 0)(H1:σ 1=s1.av)(H5:σ 5=.p (d,2) v2 0)(H2:σ 2=q2.av)(B0:lk st.bx (d,0)=some (v0,[.sl .ext (List.map Typ.row m0.types),.sl .ext (List.map rowS m0.texts),.sl .ext (List.map Fun.row m0.funcs)]))(B1:lk st.bx (d,1)=some (v1,[.i .u8 m1.outcome,.i .i64 m1.failing,.i .i64 m1.steps,.sl .ext (List.map Rou.row m1.routines)]))(B2:lk st.bx (d,2)=some (v2,[.i .u8 m2.kind,.i .i64 m2.g,.i .i64 m2.k,.i .i64 m2.key,.s m2.name]))
include H3 H4 H5 B0 B1 B2 in
theorem w264_1 (h:T264_1 prog K m0 m1 m2):W prog d c264_1 σ st Q:=
 sq_ (q_ J (l_ H5 B2 J J (h.elim fun _ r=>ca_ (sc1 J J) r.1 (m_ (e_ (q_ J (m_ (b_ J J neq_ (e_ (cs_ J (fun a0=>q_ J (m_ (s_mvL (f:=rowS) (l:=[]) J (m_ (er_ (hQ J J (r.2.1 a0))))))) (fun a0=>sk_ (sq_ (q_ J (l_ H3 B0 J J (l_ H4 B1 J J ((r.2.2 a0).elim fun _ c=>ca_ (sc2 J J J) c.1 (m_ (e_ (q_ J (m_ (b_ J J neq_ (e_ (cs_ J (fun e=>q_ J (m_ (s_mvL (f:=rowS) (l:=[]) J (m_ (er_ (hQ J J (c.2.1 e))))))) (fun e=>sk_ (sq_ (W.reg (l_ H3 (lk_other J B0) J J (l_ H4 (lk_other J B1) J J (l_ H5 (lk_other J B2) J J (s_build (f_cons J J (f_cons J J (f_cons J J f_nil))) (s_box J J (s_alloc (so_ J (lk_other J (show lk _ (d,28677)=some (_,([.np]:List AV)) from lk_here)) J J J (e_ (q_ J (l_ J lk_here J J (s_mkbf (sec J sen) (m_ (e_ (sq_ (q_ J (f_ H5 (l_ J (lk_other J (lk_other J (lk_other J B2))) J J (e_ (bk_ (q_ J (b_ J J eql_ (m_ (e_ (cs_ J (fun j=>W.reg0 J fun _ _=>l_ J lk_here J J (s_mkbf (sec J sen) (m_ (e_ (sq_ (q_ J (m_ (((c.2.2 e).1 j).elim fun _ a5=>a5.elim fun _ q=>s_callB J sen q.1 (Nat.lt_succ_self d) (Dk.other (key_LL J) (Dk.new (m:=(Dsk.mk m0 m1 m2 ([]:LB))) (show lk _ (d,28676)=some (_,([.sl .ext (List.map Typ.row m0.types),.sl .ext (List.map rowS m0.texts),.sl .ext (List.map Fun.row m0.funcs),.i .u8 m1.outcome,.i .i64 m1.failing,.i .i64 m1.steps,.sl .ext (List.map Rou.row m1.routines),.i .u8 m2.kind,.i .i64 m2.g,.i .i64 m2.k,.i .i64 m2.key,.s m2.name,.sl .full (List.map rowS ([]:LB))]:List AV)) from lk_here) J)) (fun _ b0 b5=>m_ (e_ (q_ J (m_ (b_ J J neq_ (e_ (cs_ J (fun y=>q_ J (m_ (s_mvL (f:=rowS) (l:=[]) J (m_ (er_ (hQ J J (q.2.1 y))))))) (fun y=>sk_ (q_ J (l_ J ((b5.1 (d,28677) (Nat.lt_succ_self d) (key_LL J)).trans lk_here) J J (s_nilP J (f_ J (s_loadO J b0 (fun _=>s_mvL J (m_ (er_ (hQ J J (q.2.2 y)))))))))))))))))))))))))) (fun j=>q_ J (b_ J J eql_ (m_ (e_ (cs_ J (fun o=>W.reg0 J fun _ _=>l_ J lk_here J J (s_mkbf (sec J sen) (m_ (e_ (sq_ (q_ J (m_ ((((c.2.2 e).2 j).1 o).elim fun _ a6=>a6.elim fun _ u=>s_callB J sen u.1 (Nat.lt_succ_self d) (Dk.other (key_LL J) (Dk.new (m:=(Dsk.mk m0 m1 m2 ([]:LB))) (show lk _ (d,28676)=some (_,([.sl .ext (List.map Typ.row m0.types),.sl .ext (List.map rowS m0.texts),.sl .ext (List.map Fun.row m0.funcs),.i .u8 m1.outcome,.i .i64 m1.failing,.i .i64 m1.steps,.sl .ext (List.map Rou.row m1.routines),.i .u8 m2.kind,.i .i64 m2.g,.i .i64 m2.k,.i .i64 m2.key,.s m2.name,.sl .full (List.map rowS ([]:LB))]:List AV)) from lk_here) J)) (fun _ b1 b6=>m_ (e_ (q_ J (m_ (b_ J J neq_ (e_ (cs_ J (fun z=>q_ J (m_ (s_mvL (f:=rowS) (l:=[]) J (m_ (er_ (hQ J J (u.2.1 z))))))) (fun z=>sk_ (q_ J (l_ J ((b6.1 (d,28677) (Nat.lt_succ_self d) (key_LL J)).trans lk_here) J J (s_nilP J (f_ J (s_loadO J b1 (fun _=>s_mvL J (m_ (er_ (hQ J J (u.2.2 z)))))))))))))))))))))))))) (fun o=>q_ J (b_ J J eql_ (m_ (e_ (cs_ J (fun p=>W.reg0 J fun _ _=>s_mkfn (sec J sen) (m_ (e_ (sq_ (q_ J (m_ (((((c.2.2 e).2 j).2 o).1 p).elim fun _ a7=>a7.elim fun _ v=>s_callVV J v.1 (Nat.lt_succ_self d) (Nat.lt_succ_self d) lk_here (Dk.other (key_LL J) (Dk.new (m:=(Dsk.mk m0 m1 m2 ([]:LB))) (show lk _ (d,28676)=some (_,([.sl .ext (List.map Typ.row m0.types),.sl .ext (List.map rowS m0.texts),.sl .ext (List.map Fun.row m0.funcs),.i .u8 m1.outcome,.i .i64 m1.failing,.i .i64 m1.steps,.sl .ext (List.map Rou.row m1.routines),.i .u8 m2.kind,.i .i64 m2.g,.i .i64 m2.k,.i .i64 m2.key,.s m2.name,.sl .full (List.map rowS ([]:LB))]:List AV)) from lk_here) J)) (fun _ b2 b7=>m_ (e_ (q_ J (m_ (b_ J J neq_ (e_ (cs_ J (fun a1=>q_ J (m_ (s_mvL (f:=rowS) (l:=[]) J (m_ (er_ (hQ J J (v.2.1 a1))))))) (fun a1=>sk_ (q_ J (l_ J ((b7.1 (d,28677) (Nat.lt_succ_self d) (key_LL J)).trans lk_here) J J (s_nilP J (f_ J (s_loadO J b2 (fun _=>s_mvL J (m_ (er_ (hQ J J (v.2.2 a1))))))))))))))))))))))))) (fun p=>q_ J (b_ J J eql_ (m_ (e_ (cs_ J (fun a2=>W.reg0 J fun _ _=>s_mkfn (sec J sen) (m_ (e_ (sq_ (q_ J (m_ ((((((c.2.2 e).2 j).2 o).2 p).1 a2).elim fun _ a8=>a8.elim fun _ w=>s_callVV J w.1 (Nat.lt_succ_self d) (Nat.lt_succ_self d) lk_here (Dk.other (key_LL J) (Dk.new (m:=(Dsk.mk m0 m1 m2 ([]:LB))) (show lk _ (d,28676)=some (_,([.sl .ext (List.map Typ.row m0.types),.sl .ext (List.map rowS m0.texts),.sl .ext (List.map Fun.row m0.funcs),.i .u8 m1.outcome,.i .i64 m1.failing,.i .i64 m1.steps,.sl .ext (List.map Rou.row m1.routines),.i .u8 m2.kind,.i .i64 m2.g,.i .i64 m2.k,.i .i64 m2.key,.s m2.name,.sl .full (List.map rowS ([]:LB))]:List AV)) from lk_here) J)) (fun _ b3 b8=>m_ (e_ (q_ J (m_ (b_ J J neq_ (e_ (cs_ J (fun a3=>q_ J (m_ (s_mvL (f:=rowS) (l:=[]) J (m_ (er_ (hQ J J (w.2.1 a3))))))) (fun a3=>sk_ (q_ J (l_ J ((b8.1 (d,28677) (Nat.lt_succ_self d) (key_LL J)).trans lk_here) J J (s_nilP J (f_ J (s_loadO J b3 (fun _=>s_mvL J (m_ (er_ (hQ J J (w.2.2 a3))))))))))))))))))))))))) (fun a2=>sk_ (sq_ (q_ J (m_ ((((((c.2.2 e).2 j).2 o).2 p).2 a2).elim fun _ a9=>a9.elim fun _ x=>s_callB J sen x.1 (Nat.lt_succ_self d) (Dk.other (key_LL J) (Dk.new (m:=(Dsk.mk m0 m1 m2 ([]:LB))) (show lk _ (d,28676)=some (_,([.sl .ext (List.map Typ.row m0.types),.sl .ext (List.map rowS m0.texts),.sl .ext (List.map Fun.row m0.funcs),.i .u8 m1.outcome,.i .i64 m1.failing,.i .i64 m1.steps,.sl .ext (List.map Rou.row m1.routines),.i .u8 m2.kind,.i .i64 m2.g,.i .i64 m2.k,.i .i64 m2.key,.s m2.name,.sl .full (List.map rowS ([]:LB))]:List AV)) from lk_here) J)) (fun _ b4 b9=>m_ (e_ (q_ J (m_ (b_ J J neq_ (e_ (cs_ J (fun a4=>q_ J (m_ (s_mvL (f:=rowS) (l:=[]) J (m_ (er_ (hQ J J (x.2.1 a4))))))) (fun a4=>sk_ (q_ J (l_ J ((b9.1 (d,28677) (Nat.lt_succ_self d) (key_LL J)).trans lk_here) J J (s_nilP J (f_ J (s_loadO J b4 (fun _=>s_mvL J (m_ (er_ (hQ J J (x.2.2 a4))))))))))))))))))))))))))))))))))))))))))))))))))))))))))))))))))))))))))))))))))))))))
include H0 H1 H2 in
theorem w264_0 (h:T264_0 prog K m0 s1 q2):W prog d (sR 0 r264_0 c264_1) σ st Q:=
 q_ J (s_box H0 J (s_box H1 J (s_box H2 J (s_mvL (f:=rowS) (l:=[]) J (m_ (e_ (w264_1 hQ J J J (lk_other J (lk_other J lk_here)) (lk_other J lk_here) lk_here h)))))))
end
theorem p264 {prog:Prog}(hf:prog.fn 264=some pf264){m0:Img}{s1:Sta}{q2:Qry}{K:LB→Int→Prop}(h:T264_0 prog K m0 s1 q2) :∃res0:LB,∃res1:Int,K res0 res1∧Pus prog 264 [m0.av,s1.av,q2.av] (.tup [.sl .ext (List.map rowS res0),.i .i64 res1]):=
 P2 hf J (w264_0 (hM J fun _ _ _=>J) J J J h)
end Go.AM

/- Parts of the proof. -/
namespace Go.AM
open Go
set_option linter.unusedVariables false
set_option linter.unusedSimpArgs false
set_option maxRecDepth 4000
attribute [local irreducible] WO fillCells fillRows
abbrev H277 (Q:AE→Sl→St→Prop)(K:Bool→Prop):Prop:=∀(σ:Sl)(st:St)(res0:Bool),σ 8=.b res0→K res0→Q .ret σ st
section
variable {prog:Prog}{d:Nat}{Q:AE→Sl→St→Prop}{K:Bool→Prop}(hQ:H277 Q K){σ:Sl}{st:St}
include hQ
end
abbrev H281 (Q:AE→Sl→St→Prop)(K:LB→Int→Prop):Prop:=∀(σ:Sl)(st:St)(o0:Own)(res0:LB)(res1:Int),σ 6=.sl o0 (List.map rowS res0)→σ 7=.i .i64 res1→K res0 res1→Q .ret σ st
section
variable {prog:Prog}{d:Nat}{Q:AE→Sl→St→Prop}{K:LB→Int→Prop}(hQ:H281 Q K){σ:Sl}{st:St}
include hQ
end
def r282_0:List AI:=[oY 2 3 0,oY 3 4 1,oC 4 (.b false)]
def r282_1:List AI:=[oK 5 3 2,oQ 6 79 [5],oZ 7 6,oM 8 7,gT 8 (oK 9 4 3),gT 8 (oQ 10 203 [9]),gT 8 (oZ 11 10),oA 12 8 11,oM 13 12,gT 13 (oK 14 3 2),gT 13 (oK 15 4 3),gT 13 (oQ 16 214 [14,15]),gT 13 (oV 17 .eql 16 0),oA 18 13 17,oM 4 18]
abbrev b282:AC:=(sR 0 r282_0 (sR 1 r282_1 .ret))
def pf282:AF:={ nt:=19,res:=[.tmp 4],body:=b282 }
def T282_0 (prog:Prog)(K:Bool→Prop)(m0:Img)(s1:Sta):Prop:=
  ∃c,Pus prog 79 [m0.av] (.b c)∧((!c)=true→∃e,Pus prog 203 [s1.av] (.b e)∧((!e)=true→∃j,Pus prog 214 [m0.av,s1.av] (.i .i64 j)∧K (decide (j=0)))∧((!e)=false→K false))∧((!c)=false→K false)
section
variable {prog:Prog}{d:Nat}{Q:AE→Sl→St→Prop}{K:Bool→Prop}(hQ:H1 AV.b 4 Q K){σ:Sl}{st:St}
include hQ
variable {m0:Img}{s1:Sta}
variable (H0:σ 0=m0.av)(H1:σ 1=s1.av)
include H0 H1 in
theorem w282_0 (h:T282_0 prog K m0 s1):W prog d (sR 0 r282_0 (sR 1 r282_1 .ret)) σ st Q:=
 q_ J (s_box H0 J (s_box H1 J (m_ (e_ (q_ J (l_ J (lk_other J lk_here) J J (h.elim fun _ c=>ca_ (sc1 J J) c.1 (nt_ J (s_mvB J (eb_ (g:=8) J (fun i=>gy_ J (l_ J lk_here J J (gy_ J ((c.2.1 i).elim fun _ e=>ca_ (sc1 J J) e.1 (gy_ J (nt_ J (z_ 2 J (eb_ (g:=13) J (fun j=>gy_ J (l_ J (lk_other J lk_here) J J (gy_ J (l_ J lk_here J J (gy_ J ((e.2.1 j).elim fun _ k=>ca_ (sc2 J J J) k.1 (gy_ J (b_ J J eql_ (z_ 2 J (er_ (hQ J k.2))))))))))) (fun j=>z_ 6 J (er_ (hQ J (e.2.2 j)))))))))))) (fun i=>z_ 11 J (er_ (hQ J (c.2.2 i))))))))))))))
end
theorem p282 {prog:Prog}(hf:prog.fn 282=some pf282){m0:Img}{s1:Sta}{K:Bool→Prop}(h:T282_0 prog K m0 s1) :∃res0:Bool,K res0∧Pus prog 282 [m0.av,s1.av] (.b res0):=
 P1 hf J (w282_0 (h1 J fun _=>J) J J h)
abbrev H284 (Q:AE→Sl→St→Prop)(K:LB→Prop):Prop:=∀(σ:Sl)(st:St)(o0:Own)(res0:LB),σ 2=.sl o0 (List.map rowS res0)→K res0→Q .ret σ st
section
variable {prog:Prog}{d:Nat}{Q:AE→Sl→St→Prop}{K:LB→Prop}(hQ:H284 Q K){σ:Sl}{st:St}
include hQ
end
abbrev H285 (Q:AE→Sl→St→Prop)(K:LB→Prop):Prop:=∀(σ:Sl)(st:St)(o0:Own)(res0:LB),σ 6=.sl o0 (List.map rowS res0)→K res0→Q .ret σ st
section
variable {prog:Prog}{d:Nat}{Q:AE→Sl→St→Prop}{K:LB→Prop}(hQ:H285 Q K){σ:Sl}{st:St}
include hQ
end
abbrev H280 (Q:AE→Sl→St→Prop)(K:LB→Int→Prop):Prop:=∀(σ:Sl)(st:St)(o0:Own)(res0:LB)(res1:Int),σ 6=.sl o0 (List.map rowS res0)→σ 7=.i .i64 res1→K res0 res1→Q .ret σ st
section
variable {prog:Prog}{d:Nat}{Q:AE→Sl→St→Prop}{K:LB→Int→Prop}(hQ:H280 Q K){σ:Sl}{st:St}
include hQ
end
end Go.AM

/- Parts of the proof. -/
namespace Go.AM
open Go
set_option linter.unusedVariables false
set_option linter.unusedSimpArgs false
set_option maxRecDepth 4000
attribute [local irreducible] WO fillCells fillRows
abbrev H283 (Q:AE→Sl→St→Prop)(K:LB→Prop):Prop:=∀(σ:Sl)(st:St)(o0:Own)(res0:LB),σ 6=.sl o0 (List.map rowS res0)→K res0→Q .ret σ st
section
variable {prog:Prog}{d:Nat}{Q:AE→Sl→St→Prop}{K:LB→Prop}(hQ:H283 Q K){σ:Sl}{st:St}
include hQ
end
end Go.AM

/- Parts of the proof. -/
namespace Go.AM
open Go
set_option linter.unusedVariables false
set_option linter.unusedSimpArgs false
set_option maxRecDepth 4000
attribute [local irreducible] WO fillCells fillRows
abbrev H278 (Q:AE→Sl→St→Prop)(K:Bool→Prop):Prop:=∀(σ:Sl)(st:St)(res0:Bool),σ 8=.b res0→K res0→Q .ret σ st
section
variable {prog:Prog}{d:Nat}{Q:AE→Sl→St→Prop}{K:Bool→Prop}(hQ:H278 Q K){σ:Sl}{st:St}
include hQ
end
end Go.AM

/- Parts of the proof. -/
namespace Go.AM
open Go
set_option linter.unusedVariables false
set_option linter.unusedSimpArgs false
set_option maxRecDepth 4000
attribute [local irreducible] WO fillCells fillRows
def r279_0:List AI:=[oY 3 3 0,oY 4 4 1,oC 6 (.b false)]
def r279_1:List AI:=[oQ 25 256 [],oM 7 25]
def r279_2:List AI:=[oK 26 3 3,oK 27 4 4,oQ 28 282 [26,27],oZ 29 28,oM 30 29,gF 30 (oM 31 2),gF 30 (oV 32 .lss 31 0),oR 33 30 32,oM 34 33,gF 34 (oM 35 2),gF 34 (oF 36 3 4),gF 34 (oL 37 36),gF 34 (oJ 38 37),gF 34 (oT 39 .geq 35 38),oR 40 34 39,oM 41 40,gF 41 (oM 42 7),gF 41 (oZ 43 42),oR 44 41 43]
def r279_3:List AI:=[oM 45 7,oM 6 45]
def r279_4:List AI:=[oK 47 3 3,oK 48 4 4,oO 49 (.build [z8,z6,z6,z6,zs] [(0,1,(.c (.i .u8 1)))]),oQ 50 264 [47,48,49],oM 46 50,oE 51 0 46,oE 52 1 46,oM 8 51,oM 9 52]
def r279_5:List AI:=[oK 54 3 3,oK 55 4 4,oM 56 2,oO 57 (.build [z8,z6,z6,z6,zs] [(0,1,(.c (.i .u8 2))),(1,1,(.t 56))]),oQ 58 264 [54,55,57],oM 53 58,oE 59 0 53,oE 60 1 53,oM 10 59,oM 11 60]
def r279_6:List AI:=[oK 62 3 3,oK 63 4 4,oM 64 2,oO 65 (.build [z8,z6,z6,z6,zs] [(0,1,(.c (.i .u8 4))),(1,1,(.t 64))]),oQ 66 264 [62,63,65],oM 61 66,oE 67 0 61,oE 68 1 61,oM 12 67,oM 13 68]
def r279_7:List AI:=[oK 70 3 3,oK 71 4 4,oM 72 2,oO 73 (.build [z8,z6,z6,z6,zs] [(0,1,(.c (.i .u8 5))),(1,1,(.t 72))]),oQ 74 264 [70,71,73],oM 69 74,oE 75 0 69,oE 76 1 69,oM 14 75,oM 15 76]
def r279_8:List AI:=[oK 78 3 3,oM 79 2,oF 80 3 4,oL 81 80,oM 82 2,oX 83 5 81 82,oK 84 5 83,oQ 85 207 [78,79,84],oM 77 85,oE 86 0 77,oE 87 1 77,oM 16 86,oM 17 87]
def r279_9:List AI:=[oM 88 9,oV 89 .neq 88 0,oM 90 89,gF 90 (oM 91 11),gF 90 (oV 92 .neq 91 0),oR 93 90 92,oM 94 93,gF 94 (oM 95 13),gF 94 (oV 96 .neq 95 0),oR 97 94 96,oM 98 97,gF 98 (oM 99 15),gF 98 (oV 100 .neq 99 0),oR 101 98 100,oM 102 101,gF 102 (oM 103 17),gF 102 (oV 104 .neq 103 0),oR 105 102 104,oM 106 105,gF 106 (oM 107 8),gF 106 (oJ 108 107),gF 106 (oF 109 3 4),gF 106 (oL 110 109),gF 106 (oJ 111 110),gF 106 (oT 112 .neq 108 111),oR 113 106 112,oM 114 113,gF 114 (oM 115 10),gF 114 (oJ 116 115),gF 114 (oF 117 3 4),gF 114 (oL 118 117),gF 114 (oM 119 2),gF 114 (oX 120 5 118 119),gF 114 (oF 121 2 120),gF 114 (oL 122 121),gF 114 (oJ 123 122),gF 114 (oT 124 .neq 116 123),oR 125 114 124]
def r279_10:List AI:=[oC 6 (.b false)]
def r279_11:List AI:=[oM 126 8,oM 127 2,oX 128 1 126 127,oL 129 128,oO 130 (.bslice [zs] 1 [(0,(.t 129))]),oM 18 130]
def r279_12:List AI:=[oI 19 0]
def r279_13:List AI:=[oM 131 19,oM 132 10,oJ 133 132,oT 134 .lss 131 133]
def r279_14:List AI:=[oK 138 3 3,oK 139 4 4,oM 140 2,oM 141 19,oO 142 (.build [z8,z6,z6,z6,zs] [(0,1,(.c (.i .u8 3))),(1,1,(.t 140)),(2,1,(.t 141))]),oQ 143 264 [138,139,142],oM 137 143,oE 144 0 137,oE 145 1 137,oM 20 144,oM 21 145]
def r279_15:List AI:=[oM 146 21,oV 147 .neq 146 0]
def r279_16:List AI:=[oC 6 (.b false)]
def r279_17:List AI:=[oM 148 18,oM 149 10,oM 150 19,oX 151 1 149 150,oL 152 151,oB 153 .add (.c (.s [32,32])) (.t 152),oO 154 (.bslice [zs] 1 [(0,(.t 153))]),oO 155 (.app 1 16 (.t 148) (.t 154)),oM 18 155]
def r279_18:List AI:=[oI 22 0]
def r279_19:List AI:=[oM 156 22,oM 157 20,oJ 158 157,oT 159 .lss 156 158]
def r279_20:List AI:=[oM 162 18,oM 163 20,oM 164 22,oX 165 1 163 164,oL 166 165,oB 167 .add (.c (.s [32,32])) (.t 166),oO 168 (.bslice [zs] 1 [(0,(.t 167))]),oO 169 (.app 1 16 (.t 162) (.t 168)),oM 18 169]
def r279_21:List AI:=[oM 160 22,oV 161 .add 160 1,oM 22 161]
def r279_22:List AI:=[oM 135 19,oV 136 .add 135 1,oM 19 136]
def r279_23:List AI:=[oO 170 (.bslice [zs] 0 []),oM 171 12,oO 172 (.app 1 16 (.t 170) (.t 171)),oM 173 14,oO 174 (.app 1 16 (.t 172) (.t 173)),oM 23 174]
def r279_24:List AI:=[oI 24 0]
def r279_25:List AI:=[oM 175 24,oM 176 23,oJ 177 176,oT 178 .lss 175 177]
def r279_26:List AI:=[oM 181 18,oM 182 23,oM 183 24,oX 184 1 182 183,oL 185 184,oB 186 .add (.c (.s [32,32])) (.t 185),oO 187 (.bslice [zs] 1 [(0,(.t 186))]),oO 188 (.app 1 16 (.t 181) (.t 187)),oM 18 188]
def r279_27:List AI:=[oM 179 24,oV 180 .add 179 1,oM 24 180]
def r279_28:List AI:=[oM 189 7,oM 190 189,gT 190 (oM 191 18),gT 190 (oM 192 16),gT 190 (oQ 193 29 [191,192]),oA 194 190 193,oM 6 194]
abbrev l279_1:AC:=(.seq (sR 20 r279_19 (.cond (.t 159) .skip (.exit 2))) (.seq (.block 3 (.reg 22 r279_20)) (.reg 21 r279_21)))
abbrev c279_1:AC:=(.reg 14 r279_22)
abbrev l279_0:AC:=(.seq (sR 13 r279_13 (.cond (.t 134) .skip (.exit 0))) (.seq (.block 1 (sR 15 r279_14 (.seq (sR 16 r279_15 (.cond (.t 147) (sR 17 r279_16 .ret) .skip)) (sR 18 r279_17 (sR 19 r279_18 (.block 2 (.loop l279_1))))))) c279_1))
abbrev l279_2:AC:=(.seq (sR 25 r279_25 (.cond (.t 178) .skip (.exit 4))) (.seq (.block 5 (.reg 27 r279_26)) (.reg 26 r279_27)))
abbrev c279_4:AC:=(sR 28 r279_28 .ret)
abbrev c279_5:AC:=(sR 23 r279_23 (.seq (sR 24 r279_24 (.block 4 (.loop l279_2))) c279_4))
abbrev c279_6:AC:=(.seq (sR 12 r279_12 (.block 0 (.loop l279_0))) c279_5)
abbrev c279_7:AC:=(sR 11 r279_11 c279_6)
abbrev c279_8:AC:=(.seq (sR 9 r279_9 (.cond (.t 125) (sR 10 r279_10 .ret) .skip)) c279_7)
abbrev c279_9:AC:=(sR 8 r279_8 c279_8)
abbrev c279_10:AC:=(sR 7 r279_7 c279_9)
abbrev c279_11:AC:=(sR 6 r279_6 c279_10)
abbrev c279_12:AC:=(sR 5 r279_5 c279_11)
abbrev c279_13:AC:=(sR 4 r279_4 c279_12)
abbrev c279_14:AC:=(.seq (sR 2 r279_2 (.cond (.t 44) (sR 3 r279_3 .ret) .skip)) c279_13)
abbrev c279_15:AC:=(sR 1 r279_1 c279_14)
abbrev b279:AC:=(sR 0 r279_0 c279_15)
def pf279:AF:={ nt:=195,res:=[.tmp 6],body:=b279 }
abbrev I279_0 (prog:Prog)(d:Nat)(Q:AE→Sl→St→Prop)(g2:Int)(ok7:Bool)(frames10:LB)(calls12:LB)(panics14:LB)(want16:LB)(l18:LB)(k19:Int)(m0:Img)(m1:Sta):Prop:=
  ∀(σ:Sl)(st:St) (o_frames10 o_calls12 o_panics14 o_want16 o_l18:Own) (v0 v1:Nat),σ 2=.i .i64 g2→σ 3=.p (d,0) v0 0→σ 4=.p (d,1) v1 0→σ 7=.b ok7→σ 10=.sl o_frames10 (List.map rowS frames10)→σ 12=.sl o_calls12 (List.map rowS calls12)→σ 14=.sl o_panics14 (List.map rowS panics14)→σ 16=.sl o_want16 (List.map rowS want16)→σ 18=.sl o_l18 (List.map rowS l18)→σ 19=.i .i64 k19→ApS [73735,90119,110599] d st.ow o_l18 l18.length→lk st.bx (d,0)=some (v0,[.sl .ext (List.map Typ.row m0.types),.sl .ext (List.map rowS m0.texts),.sl .ext (List.map Fun.row m0.funcs)])→lk st.bx (d,1)=some (v1,[.i .u8 m1.outcome,.i .i64 m1.failing,.i .i64 m1.steps,.sl .ext (List.map Rou.row m1.routines)])→W prog d (.loop l279_0) σ st (blockW 0 (thenW prog d c279_5 Q))
abbrev I279_1 (prog:Prog)(d:Nat)(Q:AE→Sl→St→Prop)(g2:Int)(ok7:Bool)(frames10:LB)(calls12:LB)(panics14:LB)(want16:LB)(k19:Int)(locals20:LB)(l18:LB)(o22:Int)(m0:Img)(m1:Sta):Prop:=
  ∀(σ:Sl)(st:St) (o_frames10 o_calls12 o_panics14 o_want16 o_l18 o_locals20:Own) (v0 v1:Nat),σ 2=.i .i64 g2→σ 3=.p (d,0) v0 0→σ 4=.p (d,1) v1 0→σ 7=.b ok7→σ 10=.sl o_frames10 (List.map rowS frames10)→σ 12=.sl o_calls12 (List.map rowS calls12)→σ 14=.sl o_panics14 (List.map rowS panics14)→σ 16=.sl o_want16 (List.map rowS want16)→σ 18=.sl o_l18 (List.map rowS l18)→σ 19=.i .i64 k19→σ 20=.sl o_locals20 (List.map rowS locals20)→σ 22=.i .i64 o22→ApS [73735,90119,110599] d st.ow o_l18 l18.length→lk st.bx (d,0)=some (v0,[.sl .ext (List.map Typ.row m0.types),.sl .ext (List.map rowS m0.texts),.sl .ext (List.map Fun.row m0.funcs)])→lk st.bx (d,1)=some (v1,[.i .u8 m1.outcome,.i .i64 m1.failing,.i .i64 m1.steps,.sl .ext (List.map Rou.row m1.routines)])→W prog d (.loop l279_1) σ st (blockW 2 (blockW 1 (thenW prog d c279_1 (thenW prog d (.loop l279_0) (blockW 0 (thenW prog d c279_5 Q))))))
def T279_13 (prog:Prog)(K:Bool→Prop)(P0:LB→Int→Img→Sta→Prop)(g2:Int)(ok7:Bool)(frames10:LB)(calls12:LB)(panics14:LB)(want16:LB)(l18:LB)(k19:Int)(m0:Img)(m1:Sta):Prop:=
  P0 l18 (IntKind.i64.wrap (k19+1)) m0 m1
def T279_12 (prog:Prog)(K:Bool→Prop)(P1:LB→Int→Img→Sta→Prop)(P0:LB→Int→Img→Sta→Prop)(g2:Int)(ok7:Bool)(frames10:LB)(calls12:LB)(panics14:LB)(want16:LB)(l18:LB)(k19:Int)(locals20:LB)(o22:Int)(m0:Img)(m1:Sta):Prop:=
  (o22<(locals20.length:Int)→0≤o22∧∃c:BS,locals20[(o22).toNat]?=some c∧([32,32]:BS).length+c.length≤maxStr∧Fit (l18.length+[(([32,32]:BS)++c)].length) 16∧P1 (l18++[(([32,32]:BS)++c)]) (IntKind.i64.wrap (o22+1)) m0 m1)∧(¬(o22<(locals20.length:Int))→T279_13 prog K P0 g2 ok7 frames10 calls12 panics14 want16 l18 k19 m0 m1)
abbrev I279_2 (prog:Prog)(d:Nat)(Q:AE→Sl→St→Prop)(ok7:Bool)(want16:LB)(rest23:LB)(l18:LB)(k24:Int):Prop:=
  ∀(σ:Sl)(st:St) (o_want16 o_l18 o_rest23:Own),σ 7=.b ok7→σ 16=.sl o_want16 (List.map rowS want16)→σ 18=.sl o_l18 (List.map rowS l18)→σ 23=.sl o_rest23 (List.map rowS rest23)→σ 24=.i .i64 k24→ApS [73735,90119,110599] d st.ow o_l18 l18.length→ApS [94210,94212] d st.ow o_rest23 rest23.length→W prog d (.loop l279_2) σ st (blockW 4 (thenW prog d c279_4 Q))
def T279_16 (prog:Prog)(K:Bool→Prop)(ok7:Bool)(want16:LB)(l18:LB):Prop:=
  (ok7=true→∃c,Pus prog 29 [.sl .ext (List.map rowS l18),.sl .ext (List.map rowS want16)] (.b c)∧K c)∧(ok7=false→K false)
def T279_15 (prog:Prog)(K:Bool→Prop)(P2:LB→Int→Prop)(ok7:Bool)(want16:LB)(l18:LB)(rest23:LB)(k24:Int):Prop:=
  (k24<(rest23.length:Int)→0≤k24∧∃c:BS,rest23[(k24).toNat]?=some c∧([32,32]:BS).length+c.length≤maxStr∧Fit (l18.length+[(([32,32]:BS)++c)].length) 16∧P2 (l18++[(([32,32]:BS)++c)]) (IntKind.i64.wrap (k24+1)))∧(¬(k24<(rest23.length:Int))→T279_16 prog K ok7 want16 l18)
def T279_14 (prog:Prog)(K:Bool→Prop)(ok7:Bool)(calls12:LB)(panics14:LB)(want16:LB)(l18:LB):Prop:=
  Fit (([]:LB).length+calls12.length) 16∧Fit ((([]:LB)++calls12).length+panics14.length) 16∧∀P2:LB→Int→Prop,(∀(l18:LB)(k24:Int),T279_15 prog K P2 ok7 want16 l18 ((([]:LB)++calls12)++panics14) k24→P2 l18 k24)→P2 l18 0
def T279_11 (prog:Prog)(K:Bool→Prop)(P0:LB→Int→Img→Sta→Prop)(g2:Int)(ok7:Bool)(frames10:LB)(calls12:LB)(panics14:LB)(want16:LB)(l18:LB)(k19:Int)(m0:Img)(m1:Sta):Prop:=
  (k19<(frames10.length:Int)→∃j e,Pus prog 264 [m0.av,m1.av,.ag [.i .u8 3,.i .i64 g2,.i .i64 k19,.i .i64 0,.s []]] (.tup [.sl .ext (List.map rowS j),.i .i64 e])∧(e≠0→K false)∧(¬(e≠0)→0≤k19∧∃c:BS,frames10[(k19).toNat]?=some c∧([32,32]:BS).length+c.length≤maxStr∧Fit (l18.length+[(([32,32]:BS)++c)].length) 16∧∀P1:LB→Int→Img→Sta→Prop,(∀(l18:LB)(o22:Int)(m0:Img)(m1:Sta),T279_12 prog K P1 P0 g2 ok7 frames10 calls12 panics14 want16 l18 k19 j o22 m0 m1→P1 l18 o22 m0 m1)→P1 (l18++[(([32,32]:BS)++c)]) 0 m0 m1))∧(¬(k19<(frames10.length:Int))→T279_14 prog K ok7 calls12 panics14 want16 l18)
def T279_10 (prog:Prog)(K:Bool→Prop)(g2:Int)(ok7:Bool)(frames10:LB)(calls12:LB)(panics14:LB)(want16:LB)(l18:LB)(m0:Img)(m1:Sta):Prop:=
  ∀P0:LB→Int→Img→Sta→Prop,(∀(l18:LB)(k19:Int)(m0:Img)(m1:Sta),T279_11 prog K P0 g2 ok7 frames10 calls12 panics14 want16 l18 k19 m0 m1→P0 l18 k19 m0 m1)→P0 l18 0 m0 m1
def T279_9 (prog:Prog)(K:Bool→Prop)(g2:Int)(ok7:Bool)(all8:LB)(frames10:LB)(calls12:LB)(panics14:LB)(want16:LB)(m0:Img)(m1:Sta):Prop:=
  0≤g2∧∃c,all8[(g2).toNat]?=some c∧T279_10 prog K g2 ok7 frames10 calls12 panics14 want16 [c] m0 m1
def T279_8 (prog:Prog)(K:Bool→Prop)(g2:Int)(ok7:Bool)(all8:LB)(e9:Int)(frames10:LB)(f11:Int)(calls12:LB)(h13:Int)(panics14:LB)(i15:Int)(want16:LB)(j17:Int)(m0:Img)(m1:Sta):Prop:=
  (e9≠0→K false)∧(¬(e9≠0)→(f11≠0→K false)∧(¬(f11≠0)→(h13≠0→K false)∧(¬(h13≠0)→(i15≠0→K false)∧(¬(i15≠0)→(j17≠0→K false)∧(¬(j17≠0)→((all8.length:Int)≠(m1.routines.length:Int)→K false)∧(¬((all8.length:Int)≠(m1.routines.length:Int))→0≤g2∧∃c:Rou,m1.routines[(g2).toNat]?=some c∧((frames10.length:Int)≠(c.frames.length:Int)→K false)∧(¬((frames10.length:Int)≠(c.frames.length:Int))→T279_9 prog K g2 ok7 all8 frames10 calls12 panics14 want16 m0 m1)))))))
def T279_7 (prog:Prog)(K:Bool→Prop)(g2:Int)(ok7:Bool)(all8:LB)(e9:Int)(frames10:LB)(f11:Int)(calls12:LB)(h13:Int)(panics14:LB)(i15:Int)(m0:Img)(m1:Sta):Prop:=
  0≤g2∧∃c:Rou,m1.routines[(g2).toNat]?=some c∧∃e j,Pus prog 207 [m0.av,.i .i64 g2,c.av] (.tup [.sl .ext (List.map rowS e),.i .i64 j])∧T279_8 prog K g2 ok7 all8 e9 frames10 f11 calls12 h13 panics14 i15 e j m0 m1
def T279_6 (prog:Prog)(K:Bool→Prop)(g2:Int)(ok7:Bool)(all8:LB)(e9:Int)(frames10:LB)(f11:Int)(calls12:LB)(h13:Int)(m0:Img)(m1:Sta):Prop:=
  ∃e c,Pus prog 264 [m0.av,m1.av,.ag [.i .u8 5,.i .i64 g2,.i .i64 0,.i .i64 0,.s []]] (.tup [.sl .ext (List.map rowS e),.i .i64 c])∧T279_7 prog K g2 ok7 all8 e9 frames10 f11 calls12 h13 e c m0 m1
def T279_5 (prog:Prog)(K:Bool→Prop)(g2:Int)(ok7:Bool)(all8:LB)(e9:Int)(frames10:LB)(f11:Int)(m0:Img)(m1:Sta):Prop:=
  ∃e c,Pus prog 264 [m0.av,m1.av,.ag [.i .u8 4,.i .i64 g2,.i .i64 0,.i .i64 0,.s []]] (.tup [.sl .ext (List.map rowS e),.i .i64 c])∧T279_6 prog K g2 ok7 all8 e9 frames10 f11 e c m0 m1
def T279_4 (prog:Prog)(K:Bool→Prop)(g2:Int)(ok7:Bool)(all8:LB)(e9:Int)(m0:Img)(m1:Sta):Prop:=
  ∃e c,Pus prog 264 [m0.av,m1.av,.ag [.i .u8 2,.i .i64 g2,.i .i64 0,.i .i64 0,.s []]] (.tup [.sl .ext (List.map rowS e),.i .i64 c])∧T279_5 prog K g2 ok7 all8 e9 e c m0 m1
def T279_3 (prog:Prog)(K:Bool→Prop)(g2:Int)(ok7:Bool)(m0:Img)(m1:Sta):Prop:=
  ∃e c,Pus prog 264 [m0.av,m1.av,.ag [.i .u8 1,.i .i64 0,.i .i64 0,.i .i64 0,.s []]] (.tup [.sl .ext (List.map rowS e),.i .i64 c])∧T279_4 prog K g2 ok7 e c m0 m1
def T279_2 (prog:Prog)(K:Bool→Prop)(g2:Int)(ok7:Bool)(m0:Img)(m1:Sta):Prop:=
  ∃c,Pus prog 282 [m0.av,m1.av] (.b c)∧((!c)=true→K ok7)∧((!c)=false→(g2<0→K ok7)∧(¬(g2<0)→(g2≥(m1.routines.length:Int)→K ok7)∧(¬(g2≥(m1.routines.length:Int))→((!ok7)=true→K ok7)∧((!ok7)=false→T279_3 prog K g2 ok7 m0 m1))))
def T279_1 (prog:Prog)(K:Bool→Prop)(g2:Int)(m0:Img)(m1:Sta):Prop:=
  ∃c,Pus prog 256 [] (.b c)∧T279_2 prog K g2 c m0 m1
def T279_0 (prog:Prog)(K:Bool→Prop)(m0:Img)(s1:Sta)(g2:Int):Prop:=
  T279_1 prog K g2 m0 s1
section
variable {prog:Prog}{d:Nat}{Q:AE→Sl→St→Prop}{K:Bool→Prop}(hQ:H1 AV.b 6 Q K){σ:Sl}{st:St}
include hQ
variable {g2:Int}{ok7:Bool}{frames10 calls12 panics14 want16 l18:LB}{k19:Int}{m0:Img}{m1:Sta}{P0:LB→Int→Img→Sta→Prop}{o_frames10 o_calls12 o_panics14 o_want16 o_l18:Own}{v0 v1:Nat}{locals20:LB}{o22:Int}{P1:LB→Int→Img→Sta→Prop}{o_locals20:Own}{rest23:LB}{k24:Int}{P2:LB→Int→Prop}{o_rest23:Own}{all8:LB}{o_all8:Own}{e9 f11 h13 i15 j17:Int}{s1:Sta}
variable (kP1 :∀(l18:LB)(o22:Int)(m0:Img)(m1:Sta),P1 l18 o22 m0 m1→I279_1 prog d Q g2 ok7 frames10 calls12 panics14 want16 k19 locals20 l18 o22 m0 m1) (kP2 :∀(l18:LB)(k24:Int),P2 l18 k24→I279_2 prog d Q ok7 want16 rest23 l18 k24)(H0:σ 0=m0.av) (kP0 :∀(l18:LB)(k19:Int)(m0:Img)(m1:Sta),P0 l18 k19 m0 m1→I279_0 prog d Q g2 ok7 frames10 calls12 panics14 want16 l18 k19 m0 m1)(H1:σ 1=s1.av)(H2:σ 2=.i .i64 g2)(H3:σ 3=.p (d,0) v0 0)(H4:σ 4=.p (d,1) v1 0)(H7:σ 7=.b ok7)(H8:σ 8=.sl o_all8 (List.map rowS all8))(H9:σ 9=.i .i64 e9)(H10:σ 10=.sl o_frames10 (List.map rowS frames10))(H11:σ 11=.i .i64 f11)(H12:σ 12=.sl o_calls12 (List.map rowS calls12))(H13:σ 13=.i .i64 h13)(H14:σ 14=.sl o_panics14 (List.map rowS panics14))(H15:σ 15=.i .i64 i15)(H16:σ 16=.sl o_want16 (List.map rowS want16))(H18:σ 18=.sl o_l18 (List.map rowS l18))(H17:σ 17=.i .i64 j17)(H19:σ 19=.i .i64 k19)(H23:σ 23=.sl o_rest23 (List.map rowS rest23))(H20:σ 20=.sl o_locals20 (List.map rowS locals20))(H24:σ 24=.i .i64 k24)(H22:σ 22=.i .i64 o22)(A18:ApS [73735,90119,110599] d st.ow o_l18 l18.length)(B0:lk st.bx (d,0)=some (v0,[.sl .ext (List.map Typ.row m0.types),.sl .ext (List.map rowS m0.texts),.sl .ext (List.map Fun.row m0.funcs)]))(A23:ApS [94210,94212] d st.ow o_rest23 rest23.length)(B1:lk st.bx (d,1)=some (v1,[.i .u8 m1.outcome,.i .i64 m1.failing,.i .i64 m1.steps,.sl .ext (List.map Rou.row m1.routines)]))
include kP0 H2 H3 H4 H7 H10 H12 H14 H16 H18 H19 A18 B0 B1 in
theorem w279_13 (h:T279_13 prog K P0 g2 ok7 frames10 calls12 panics14 want16 l18 k19 m0 m1):W prog d c279_1 σ st (thenW prog d (.loop l279_0) (blockW 0 (thenW prog d c279_5 Q))):=
 W.reg0 J fun _ _=>m_ (b_ H19 J add_ (m_ (e_ (kP0 _ _ _ _ h _ _ _ _ _ _ _ _ _ H2 H3 H4 H7 H10 H12 H14 H16 H18 J A18 B0 B1))))
include kP1 kP0 H2 H3 H4 H7 H10 H12 H14 H16 H18 H19 H20 H22 A18 B0 B1 in
theorem w279_12 (h:T279_12 prog K P1 P0 g2 ok7 frames10 calls12 panics14 want16 l18 k19 locals20 o22 m0 m1):W prog d l279_1 σ st (thenW prog d (.loop l279_1) (blockW 2 (blockW 1 (thenW prog d c279_1 (thenW prog d (.loop l279_0) (blockW 0 (thenW prog d c279_5 Q))))))):=
 sq_ (q_ J (m_ (s_mvL H20 (ll_ J (b_ H22 J lss_ (e_ (cs_ J (fun e=>sk_ (sq_ (bk_ (W.reg0 J fun _ _=>s_mvL H18 (s_mvL H20 (m_ ((h.1 e).2.elim fun j c=>ia_ J H22 (h.1 e).1 c.1 J J (lf_ J J J (b_ J J (abin_cat' c.2.1) (s_bslM (f:=rowS) (l:=[(([32,32]:BS)++j)]) J J (g_cons J J J g_nil) J (s_app rowS_len J J J A18.1 c.2.2.1 J (fun _ _ i _ k=>s_mvL J (e_ (W.reg0 J fun _ _=>m_ (b_ H22 J add_ (m_ (e_ (kP1 _ _ _ _ c.2.2.2 _ _ _ _ _ _ _ _ _ _ H2 H3 H4 H7 H10 H12 H14 H16 J H19 H20 J (ApS.new A18 i k J) B0 B1)))))))))))))))))) (fun e=>ex_ (w279_13 hQ kP0 H2 H3 H4 H7 H10 H12 H14 H16 H18 H19 A18 B0 B1 (h.2 e))))))))))
include H7 H16 H18 A18 in
theorem w279_16 (h:T279_16 prog K ok7 want16 l18):W prog d c279_4 σ st Q:=
 q_ J (s_mvB H7 (s_mvB J (eb_ (g:=190) J (fun c=>gy_ J (s_mvL H18 (gy_ J (s_mvL H16 (gy_ J ((h.1 c).elim fun _ e=>ca_ (sc2 J J J) e.1 (z_ 2 J (er_ (hQ J e.2))))))))) (fun c=>z_ 5 J (er_ (hQ J (h.2 c)))))))
include kP2 H7 H16 H18 H23 H24 A18 A23 in
theorem w279_15 (h:T279_15 prog K P2 ok7 want16 l18 rest23 k24):W prog d l279_2 σ st (thenW prog d (.loop l279_2) (blockW 4 (thenW prog d c279_4 Q))):=
 sq_ (q_ J (m_ (s_mvL H23 (ll_ J (b_ H24 J lss_ (e_ (cs_ J (fun e=>sk_ (sq_ (bk_ (W.reg0 J fun _ _=>s_mvL H18 (s_mvL H23 (m_ ((h.1 e).2.elim fun j c=>ia_ J H24 (h.1 e).1 c.1 J J (lf_ J J J (b_ J J (abin_cat' c.2.1) (s_bslM (f:=rowS) (l:=[(([32,32]:BS)++j)]) J J (g_cons J J J g_nil) J (s_app rowS_len J J J A18.1 c.2.2.1 J (fun _ _ i k o=>s_mvL J (e_ (W.reg0 J fun _ _=>m_ (b_ H24 J add_ (m_ (e_ (kP2 _ _ c.2.2.2 _ _ _ _ _ H7 H16 J H23 J (ApS.new A18 i o J) (ApS.keep A23 A18 k J J))))))))))))))))))) (fun e=>ex_ (w279_16 hQ H7 H16 H18 A18 (h.2 e))))))))))
include H7 H12 H14 H16 H18 A18 in
theorem w279_14 (h:T279_14 prog K ok7 calls12 panics14 want16 l18):W prog d c279_5 σ st Q:=
 q_ J (s_bslM (f:=rowS) (l:=([]:LB)) J J g_nil J (s_mvL H12 (s_app rowS_len J (show _=AV.sl .full (List.map rowS []) from J) J App.full h.1 J (fun _ _ c j e=>s_mvL H14 (s_app rowS_len J J J ((ApS.new (ApS.full (S:=[94210,94212]) (ow:=st.ow) (n:=0)) c e J).1) h.2.1 J (fun _ _ i k o=>s_mvL J (e_ (sq_ (q_ J (m_ (e_ (bk_ (h.2.2 (I279_2 prog d Q ok7 want16 ((([]:LB)++calls12)++panics14)) (fun _ _ hb _ _ _ _ _ H7 H16 H18 H23 H24 A18 A23=>W.loop (w279_15 hQ (fun _ _ x=>x) H7 H16 H18 H23 H24 A18 A23 hb)) _ _ _ _ _ H7 H16 H18 J J (ApS.keep (ApS.keep A18 (ApS.full (S:=[94210,94212]) (ow:=st.ow) (n:=0)) j J J) (ApS.new (ApS.full (S:=[94210,94212]) (ow:=st.ow) (n:=0)) c e J) k J J) (ApS.new (ApS.new (ApS.full (S:=[94210,94212]) (ow:=st.ow) (n:=0)) c e J) i o J))))))))))))))
include kP0 H2 H3 H4 H7 H10 H12 H14 H16 H18 H19 A18 B0 B1 in
theorem w279_11 (h:T279_11 prog K P0 g2 ok7 frames10 calls12 panics14 want16 l18 k19 m0 m1):W prog d l279_0 σ st (thenW prog d (.loop l279_0) (blockW 0 (thenW prog d c279_5 Q))):=
 sq_ (q_ J (m_ (s_mvL H10 (ll_ J (b_ H19 J lss_ (e_ (cs_ J (fun j=>sk_ (sq_ (bk_ (q_ J (l_ H3 B0 J J (l_ H4 B1 J J (m_ (m_ (s_build (f_cons J J (f_cons H2 J (f_cons H19 J f_nil))) (x2 (h.1 j) fun q _ c=>ca_ (sc3 J J J J) c.1 (m_ (x_ J J (x_ J J (s_mvL J (m_ (e_ (sq_ (q_ J (m_ (b_ J J neq_ (e_ (cs_ J (fun i=>q_ J (m_ (er_ (hQ J (c.2.1 i))))) (fun i=>sk_ (q_ J (s_mvL H18 (s_mvL H10 (m_ ((c.2.2 i).2.elim fun o e=>ia_ J H19 (c.2.2 i).1 e.1 J J (lf_ J J J (b_ J J (abin_cat' e.2.1) (s_bslM (f:=rowS) (l:=[(([32,32]:BS)++o)]) J J (g_cons J J J g_nil) J (s_app rowS_len J J J A18.1 e.2.2.1 J (fun _ _ k _ p=>s_mvL J (e_ (q_ J (m_ (e_ (bk_ (e.2.2.2 (I279_1 prog d Q g2 ok7 frames10 calls12 panics14 want16 k19 q) (fun _ _ _ _ hb _ _ _ _ _ _ _ _ _ _ H2 H3 H4 H7 H10 H12 H14 H16 H18 H19 H20 H22 A18 B0 B1=>W.loop (w279_12 hQ (fun _ _ _ _ x=>x) kP0 H2 H3 H4 H7 H10 H12 H14 H16 H18 H19 H20 H22 A18 B0 B1 hb)) _ _ _ _ _ _ _ _ _ _ H2 H3 H4 H7 H10 H12 H14 H16 J H19 J J (ApS.new A18 k p J) B0 B1))))))))))))))))))))))))))))))))))))))) (fun j=>ex_ (w279_14 hQ H7 H12 H14 H16 H18 A18 (h.2 j))))))))))
include H2 H3 H4 H7 H10 H12 H14 H16 H18 A18 B0 B1 in
theorem w279_10 (h:T279_10 prog K g2 ok7 frames10 calls12 panics14 want16 l18 m0 m1):W prog d c279_6 σ st Q:=
 sq_ (q_ J (m_ (e_ (bk_ (h (I279_0 prog d Q g2 ok7 frames10 calls12 panics14 want16) (fun _ _ _ _ hb _ _ _ _ _ _ _ _ _ H2 H3 H4 H7 H10 H12 H14 H16 H18 H19 A18 B0 B1=>W.loop (w279_11 hQ (fun _ _ _ _ x=>x) H2 H3 H4 H7 H10 H12 H14 H16 H18 H19 A18 B0 B1 hb)) _ _ _ _ _ _ _ _ _ H2 H3 H4 H7 H10 H12 H14 H16 H18 J A18 B0 B1)))))
include H2 H3 H4 H7 H8 H10 H12 H14 H16 B0 B1 in
theorem w279_9 (h:T279_9 prog K g2 ok7 all8 frames10 calls12 panics14 want16 m0 m1):W prog d c279_7 σ st Q:=
 q_ J (s_mvL H8 (m_ (h.2.elim fun e c=>ia_ J H2 h.1 c.1 J J (lf_ J J J (s_bslM (f:=rowS) (l:=[e]) J J (g_cons J J J g_nil) J (s_mvL J (e_ (w279_10 hQ H2 H3 H4 H7 H10 H12 H14 H16 J ApS.full B0 B1 c.2))))))))
include H2 H3 H4 H7 H8 H9 H10 H11 H12 H13 H14 H15 H16 H17 B0 B1 in
theorem w279_8 (h:T279_8 prog K g2 ok7 all8 e9 frames10 f11 calls12 h13 panics14 i15 want16 j17 m0 m1):W prog d c279_8 σ st Q:=
 sq_ (q_ J (s_mvI H9 (b_ J J neq_ (s_mvB J (em_ (g:=90) J (fun c=>z_ 35 J (e_ (ct_ J (q_ J (m_ (er_ (hQ J (h.1 c)))))))) (fun c=>gy_ J (s_mvI H11 (gy_ J (b_ J J neq_ (z_ 2 J (em_ (g:=94) J (fun e=>z_ 31 J (e_ (ct_ J (q_ J (m_ (er_ (hQ J ((h.2 c).1 e)))))))) (fun e=>gy_ J (s_mvI H13 (gy_ J (b_ J J neq_ (z_ 2 J (em_ (g:=98) J (fun i=>z_ 27 J (e_ (ct_ J (q_ J (m_ (er_ (hQ J (((h.2 c).2 e).1 i)))))))) (fun i=>gy_ J (s_mvI H15 (gy_ J (b_ J J neq_ (z_ 2 J (em_ (g:=102) J (fun j=>z_ 23 J (e_ (ct_ J (q_ J (m_ (er_ (hQ J ((((h.2 c).2 e).2 i).1 j)))))))) (fun j=>gy_ J (s_mvI H17 (gy_ J (b_ J J neq_ (z_ 2 J (em_ (g:=106) J (fun k=>z_ 19 J (e_ (ct_ J (q_ J (m_ (er_ (hQ J (((((h.2 c).2 e).2 i).2 j).1 k)))))))) (fun k=>gy_ J (s_mvL H8 (gy_ J (ll_ J (gy_ J (f_ H4 (gy_ J (l_ J B1 J J (gy_ J (ll_ J (gy_ J (b_ J J neq_ (z_ 2 J (em_ (g:=114) J (fun o=>z_ 11 J (e_ (ct_ J (q_ J (m_ (er_ (hQ J ((((((h.2 c).2 e).2 i).2 j).2 k).1 o)))))))) (fun o=>gy_ J (s_mvL H10 (gy_ J (ll_ J (gy_ J (f_ H4 (gy_ J (l_ J B1 J J (gy_ J (s_mvI H2 (gy_ J (((((((h.2 c).2 e).2 i).2 j).2 k).2 o).2.elim fun r p=>ia_ J J ((((((h.2 c).2 e).2 i).2 j).2 k).2 o).1 p.1 (Rou.row_eq r) J (gy_ J (ff_ J (gy_ J (lf_ J J J (gy_ J (ll_ J (gy_ J (b_ J J neq_ (pf_ J J (e_ (cs_ J (fun q=>q_ J (m_ (er_ (hQ J (p.2.1 q))))) (fun q=>sk_ (w279_9 hQ H2 H3 H4 H7 H8 H10 H12 H14 H16 B0 B1 (p.2.2 q)))))))))))))))))))))))))))))))))))))))))))))))))))))))))))))))))))))
include H2 H3 H4 H7 H8 H9 H10 H11 H12 H13 H14 H15 B0 B1 in
theorem w279_7 (h:T279_7 prog K g2 ok7 all8 e9 frames10 f11 calls12 h13 panics14 i15 m0 m1):W prog d c279_9 σ st Q:=
 q_ J (l_ H3 B0 J J (m_ (f_ H4 (l_ J B1 J J (m_ (h.2.elim fun i c=>ia_ J H2 h.1 c.1 (Rou.row_eq i) J (lf_ J J J (x2 c.2 fun _ _ e=>ca_ (sc3 J H2 J J) e.1 (m_ (x_ J J (x_ J J (s_mvL J (m_ (e_ (w279_8 hQ H2 H3 H4 H7 H8 H9 H10 H11 H12 H13 H14 H15 J J B0 B1 e.2)))))))))))))))
include H2 H3 H4 H7 H8 H9 H10 H11 H12 H13 B0 B1 in
theorem w279_6 (h:T279_6 prog K g2 ok7 all8 e9 frames10 f11 calls12 h13 m0 m1):W prog d c279_10 σ st Q:=
 q_ J (l_ H3 B0 J J (l_ H4 B1 J J (m_ (s_build (f_cons J J (f_cons H2 J f_nil)) (x2 h fun _ _ c=>ca_ (sc3 J J J J) c.1 (m_ (x_ J J (x_ J J (s_mvL J (m_ (e_ (w279_7 hQ H2 H3 H4 H7 H8 H9 H10 H11 H12 H13 J J B0 B1 c.2))))))))))))
include H2 H3 H4 H7 H8 H9 H10 H11 B0 B1 in
theorem w279_5 (h:T279_5 prog K g2 ok7 all8 e9 frames10 f11 m0 m1):W prog d c279_11 σ st Q:=
 q_ J (l_ H3 B0 J J (l_ H4 B1 J J (m_ (s_build (f_cons J J (f_cons H2 J f_nil)) (x2 h fun _ _ c=>ca_ (sc3 J J J J) c.1 (m_ (x_ J J (x_ J J (s_mvL J (m_ (e_ (w279_6 hQ H2 H3 H4 H7 H8 H9 H10 H11 J J B0 B1 c.2))))))))))))
include H2 H3 H4 H7 H8 H9 B0 B1 in
theorem w279_4 (h:T279_4 prog K g2 ok7 all8 e9 m0 m1):W prog d c279_12 σ st Q:=
 q_ J (l_ H3 B0 J J (l_ H4 B1 J J (m_ (s_build (f_cons J J (f_cons H2 J f_nil)) (x2 h fun _ _ c=>ca_ (sc3 J J J J) c.1 (m_ (x_ J J (x_ J J (s_mvL J (m_ (e_ (w279_5 hQ H2 H3 H4 H7 H8 H9 J J B0 B1 c.2))))))))))))
include H2 H3 H4 H7 B0 B1 in
theorem w279_3 (h:T279_3 prog K g2 ok7 m0 m1):W prog d c279_13 σ st Q:=
 q_ J (l_ H3 B0 J J (l_ H4 B1 J J (s_build (f_cons J J f_nil) (x2 h fun _ _ c=>ca_ (sc3 J J J J) c.1 (m_ (x_ J J (x_ J J (s_mvL J (m_ (e_ (w279_4 hQ H2 H3 H4 H7 J J B0 B1 c.2)))))))))))
include H2 H3 H4 H7 B0 B1 in
theorem w279_2 (h:T279_2 prog K g2 ok7 m0 m1):W prog d c279_14 σ st Q:=
 sq_ (q_ J (l_ H3 B0 J J (l_ H4 B1 J J (h.elim fun _ c=>ca_ (sc2 J J J) c.1 (nt_ J (s_mvB J (eb_ (g:=30) J (fun e=>z_ 14 J (e_ (ct_ J (q_ J (m_ (m_ (er_ (hQ H7 (c.2.1 e))))))))) (fun e=>gy_ J (s_mvI H2 (gy_ J (b_ J J lss_ (z_ 2 J (em_ (g:=34) J (fun i=>z_ 10 J (e_ (ct_ J (q_ J (m_ (m_ (er_ (hQ H7 ((c.2.2 e).1 i))))))))) (fun i=>gy_ J (s_mvI H2 (gy_ J (f_ H4 (gy_ J (l_ J B1 J J (gy_ J (ll_ J (gy_ J (b_ J J geq_ (z_ 2 J (em_ (g:=41) J (fun j=>z_ 3 J (e_ (ct_ J (q_ J (m_ (m_ (er_ (hQ H7 (((c.2.2 e).2 i).1 j))))))))) (fun j=>gy_ J (s_mvB H7 (gy_ J (nt_ J (pf_ J J (e_ (cb_ J (fun k=>q_ J (m_ (m_ (er_ (hQ H7 ((((c.2.2 e).2 i).2 j).1 k)))))) (fun k=>sk_ (w279_3 hQ H2 H3 H4 H7 B0 B1 ((((c.2.2 e).2 i).2 j).2 k)))))))))))))))))))))))))))))))))))
include H2 H3 H4 B0 B1 in
theorem w279_1 (h:T279_1 prog K g2 m0 m1):W prog d c279_15 σ st Q:=
 q_ J (h.elim fun _ c=>ca_ sn c.1 (m_ (e_ (w279_2 hQ H2 H3 H4 J B0 B1 c.2))))
include H0 H1 H2 in
theorem w279_0 (h:T279_0 prog K m0 s1 g2):W prog d (sR 0 r279_0 c279_15) σ st Q:=
 q_ J (s_box H0 J (s_box H1 J (m_ (e_ (w279_1 hQ H2 J J (lk_other J lk_here) lk_here h)))))
end
theorem p279 {prog:Prog}(hf:prog.fn 279=some pf279){m0:Img}{s1:Sta}{g2:Int}{K:Bool→Prop}(h:T279_0 prog K m0 s1 g2) :∃res0:Bool,K res0∧Pus prog 279 [m0.av,s1.av,.i .i64 g2] (.b res0):=
 P1 hf J (w279_0 (h1 J fun _=>J) J J J h)
end Go.AM

/- Parts of the proof. -/
namespace Go.AM
open Go
set_option linter.unusedVariables false
set_option linter.unusedSimpArgs false
set_option maxRecDepth 4000
attribute [local irreducible] WO fillCells fillRows
abbrev H241 (Q:AE→Sl→St→Prop)(K:Bool→Prop):Prop:=∀(σ:Sl)(st:St)(res0:Bool),σ 0=.b res0→K res0→Q .ret σ st
section
variable {prog:Prog}{d:Nat}{Q:AE→Sl→St→Prop}{K:Bool→Prop}(hQ:H241 Q K){σ:Sl}{st:St}
include hQ
end
end Go.AM

/- Parts of the proof. -/
namespace Go.AM
open Go Go.RowKit
def orcQ:Nat→List AV→Option AV:=fun c args=>if c=257 then (match args with | []=>some (.mp wordL) | _=>none) else orcB c args
theorem orcQ_257:orcQ 257 []=some (.mp wordL):=rfl
theorem orcQ_48 (s:List UInt8) (c:UInt8):orcQ 48 [.s s,.i .u8 (c.toNat:Int)]=some (.i .i64 (Lib.indexByte s c)):=by
 unfold orcQ
 rw [if_neg (by decide)]
 exact orcB_48 s c
theorem orcQ_146 (k:Key) (v:Nat):orcQ 146 [.p k v 0]=some (.p k v 0):=rfl
theorem orcQ_105 (args:List AV):orcQ 105 args=none:=by
 unfold orcQ
 rw [if_neg (by decide)]
 exact orcB_105 args
variable {P:Program} {X:Cx}
theorem orcQ_ok {fs:List (Nat × AF)} {orc:Nat→List AV→St→Option (AV × St)} (hB:OracOk P X { fn:=fnOf fs,orac:=orcB,oracS:=orc }) {f0:Nat} (hf :∀f,X.fm f=some 257→f=f0) (hw :∀w,(callFunc f0 #[]).run P w=.ok (.enter f0 #[]) w∧Calls P f0 #[] w (WordsR w)) :
  OracOk P X { fn:=fnOf fs,orac:=orcQ,oracS:=orc }:=by
 intro f c hfc hn args r hr G w0 st w vals d hG hR hV
 simp only [orcQ] at hr
 split at hr
 case isFalse=>exact hB f c hfc hn args r hr G w0 st w vals d hG hR hV
 rename_i hc
 subst hc
 have:=hf f hfc
 subst this
 split at hr
 case h_2=>cases hr
 cases hr
 have hv:vals=[]:=by
  have:=hV.1
  cases vals with
  | nil=>rfl
  | cons=>simp at this
 subst hv
 refine .inl ⟨(hw w).1,(hw w).2.mono fun e w' he=>?_⟩
 obtain ⟨b,rfl,hb,hge,hbel⟩:=he
 have hnone :∀l,G.M b≠some l:=fun l h=>by
  obtain ⟨es,clock,h1,_⟩:=hR.mp b l h
  have:=(Array.getElem?_eq_some_iff.1 h1).1
  omega
 have hrel:=hR.below hbel
 have hle :∀b' l,G.M b'=some l→(if b'=b then some wordL else G.M b')=some l:=fun b' l h=>by
  rw [if_neg (by rintro rfl;exact hnone l h)]
  exact h
 refine ⟨⟨G.H,G.ρ,G.ω,G.fm,fun b'=>if b'=b then some wordL else G.M b'⟩,.mp wordL b (by show (if b=b then _ else _)=_;rw [if_pos rfl]),⟨⟨fun _ _ _ h=>h,fun _ _ _ h=>h,fun _ _ _ h=>h,rfl,hle⟩,hrel.setM hle fun b' l h=>?_,Nat.le_refl _,fun _ _ _=>⟨rfl,rfl⟩,fun _ _ _ _ _ _ h=>h,fun _ _ _ h=>.inl h⟩⟩
 by_cases e:b'=b
 ·subst e
  rw [if_pos rfl] at h
  cases h
  exact ⟨wordEs,8,hb,wordEs_map⟩
 ·rw [if_neg e] at h
  exact hrel.mp b' l h
end Go.AM

/- Parts of the proof. -/
namespace Go.AM
open Go Go.RowKit
def sA:Code→Code | .seq a _=>a | c=>c
def sB:Code→Code | .seq _ b=>b | c=>c
def unB:Code→Code | .block _ c=>c | .loop c=>c | c=>c
def unC:Code→Code | .cond _ c _=>c | c=>c
def aA:AC→AC | .seq a _=>a | c=>c
def aB:AC→AC | .seq _ b=>b | c=>c
def nog (ops:Array Oper):Bool:=ops.toList.all fun o=>o.guard.isNone
theorem of_nog {ops:Array Oper} (h:nog ops=true) :∀o∈ops.toList,o.guard=none:=fun o ho=>Option.isNone_iff_eq_none.1 (List.all_eq_true.1 h o ho)
def regOps:Code→Array Oper | .region _ o _=>o | _=>#[]
def bodyOf (f:Func):Code:=f.body.getD .skip
def hndOf (h:Code):Code:=
 .seq (.region 5 (regOps (sA h)) false) (.block 0 (.loop (.seq (.region 6 (regOps (sA (unB (unB (sB h))))) false) (.seq (.cond (.tmp 18) .skip (.exit 0)) (.block 1 (.seq (.region 7 (regOps (sA (unB (sB (sB (unB (unB (sB h)))))))) false) (.seq (.region 8 (regOps (sA (sB (unB (sB (sB (unB (unB (sB h))))))))) false) (.cond (.tmp 25) (.region 9 (regOps (unC (sB (sB (unB (sB (sB (unB (unB (sB h)))))))))) false) .skip))))))))
theorem good243 {P:Program} {X:Cx} {F:AF} {c:Code} {x1 x2 x4 x5:AC} (hb:F.body=.seq x1 (.seq x2 (.seq x4 (.seq (.hand hw243) x5)))) (hc:c=.seq (sA c) (.seq (sA (sB c)) (.seq (sA (sB (sB c))) (.seq (hndOf (sA (sB (sB (sB c))))) (sB (sB (sB (sB c))))))))
  (h1:cCode { X with fz:=F.fz } F.nt (sA c)=some x1) (h2:cCode { X with fz:=F.fz } F.nt (sA (sB c))=some x2) (h4:cCode { X with fz:=F.fz } F.nt (sA (sB (sB c)))=some x4) (h5:cCode { X with fz:=F.fz } F.nt (sB (sB (sB (sB c))))=some x5)
  (hh:TTok P X.T→∀d,CodeOk P { X with fz:=F.fz } F.nt d hw243 (hndOf (sA (sB (sB (sB c)))))):GoodF P X F c:=by
 intro hT hm C hC n d
 rw [hb,hc]
 have g1:CodeOk P { X with fz:=F.fz } F.nt d (acode C n d x1) (sA c):=code_ok (X:={ X with fz:=F.fz }) hT hC hm n d _ _ (Nat.lt_succ_self _) h1
 have g2:CodeOk P { X with fz:=F.fz } F.nt d (acode C n d x2) (sA (sB c)):=code_ok (X:={ X with fz:=F.fz }) hT hC hm n d _ _ (Nat.lt_succ_self _) h2
 have g4:CodeOk P { X with fz:=F.fz } F.nt d (acode C n d x4) (sA (sB (sB c))):=code_ok (X:={ X with fz:=F.fz }) hT hC hm n d _ _ (Nat.lt_succ_self _) h4
 have g5:CodeOk P { X with fz:=F.fz } F.nt d (acode C n d x5) (sB (sB (sB (sB c)))):=code_ok (X:={ X with fz:=F.fz }) hT hC hm n d _ _ (Nat.lt_succ_self _) h5
 have gh:CodeOk P { X with fz:=F.fz } F.nt d (acode C n d (.hand hw243)) (hndOf (sA (sB (sB (sB c))))):=by
  intro σ st e σ' st' h
  exact @hh hT d σ st e σ' st' (show hw243 σ st=some (e,σ',st') from h)
 have k1:CodeOk P { X with fz:=F.fz } F.nt d (acode C n d (.seq (.hand hw243) x5)) _:=seq_ok gh g5
 have k2:CodeOk P { X with fz:=F.fz } F.nt d (acode C n d (.seq x4 (.seq (.hand hw243) x5))) _:=seq_ok g4 k1
 have k3:CodeOk P { X with fz:=F.fz } F.nt d (acode C n d (.seq x2 (.seq x4 (.seq (.hand hw243) x5)))) _:=seq_ok g2 k2
 have k4:CodeOk P { X with fz:=F.fz } F.nt d (acode C n d (.seq x1 (.seq x2 (.seq x4 (.seq (.hand hw243) x5))))) _:=seq_ok g1 k3
 intro σ st e σ' st' h
 exact k4 h
end Go.AM

/- MADE BY PROGRAM (seat2.py): the types of the program, and that its code is the machine's. -/
namespace Go.Proofs
open Go.Shelf
def Tryz.lays169_ren : Go.Shelf.Ren := ⟨fun | 169 => 44 | n => n, fun | 70 => 99 | 9 => 9 | 0 => 0 | 72 => 102 | 37 => 100 | 127 => 143 | 3 => 3 | 5 => 5 | n => n, fun | n => n⟩
theorem Tryz.lays169 : Go.Proofs.Lays.n169 Tryz.prog Tryz.lays169_ren := {
  mixed := by kernel_rfl
  f169 := Tryz.func44.trans (congrArg some (by kernel_rfl))
  t0 := Tryz.underlying0
  a0 := Tryz.isAgg0
  z0 := Tryz.sizeOf0
  v0 := Tryz.zeroValue0
  t3 := Tryz.underlying3
  a3 := Tryz.isAgg3
  z3 := Tryz.sizeOf3
  v3 := Tryz.zeroValue3
  t9 := Tryz.underlying9
  a9 := Tryz.isAgg9
  z9 := Tryz.sizeOf9
  v9 := Tryz.zeroValue9
  t37 := Tryz.underlying100
  a37 := Tryz.isAgg100
  z37 := Tryz.sizeOf100
  v37 := Tryz.zeroValue100
  t70 := Tryz.underlying99
  a70 := Tryz.isAgg99
  z70 := Tryz.sizeOf99
  v70 := Tryz.zeroValue99
  t72 := Tryz.underlying102
  a72 := Tryz.isAgg102
  z72 := Tryz.sizeOf102
  v72 := Tryz.zeroValue102
  t127 := Tryz.underlying143
  a127 := Tryz.isAgg143
  z127 := Tryz.sizeOf143
  v127 := Tryz.zeroValue143 }

theorem Tryz.extraB : Builder.Extra Tryz.prog Tryz.lays169_ren := {
  sizeBuilder := by kernel_rfl
  liesBuilder := by kernel_rfl
  t5 := Tryz.underlying5
  a5 := Tryz.isAgg5
  z5 := Tryz.sizeOf5
  v5 := Tryz.zeroValue5
  infoByte := by kernel_rfl
  cellsByte := by kernel_rfl
  sizeByte := by kernel_rfl
  neB5 := by decide }
end Go.Proofs
namespace Go.Proofs.YtbcdfamilcmjnaaGreat
open Go Go.AM

def tys : List (Nat × TI) := [
(2, ⟨.int .i64, 1, 8, [z6]⟩),
  (3, ⟨.int .i64, 1, 8, [z6]⟩),
  (4, ⟨.bool, 1, 1, [zb]⟩),
  (5, ⟨.int .u8, 1, 1, [z8]⟩),
  (9, ⟨.str, 1, 16, [zs]⟩),
  (22, ⟨.sl 212, 1, 24, [zl]⟩),
  (23, ⟨.sl 9, 1, 24, [zl]⟩),
  (24, ⟨.sl 59, 1, 24, [zl]⟩),
  (26, ⟨.st [(22, 0), (23, 1), (24, 2)], 3, 72, [zl, zl, zl]⟩),
  (27, ⟨.sl 49, 1, 24, [zl]⟩),
  (29, ⟨.st [(5, 0), (3, 1), (3, 2), (27, 3)], 4, 48, [z8, z6, z6, zl]⟩),
  (31, ⟨.st [(5, 0), (3, 1), (3, 2), (2, 3), (9, 4)], 5, 48, [z8, z6, z6, z6, zs]⟩),
  (34, ⟨.int .i64, 1, 8, [z6]⟩),
  (45, ⟨.sl 54, 1, 24, [zl]⟩),
  (46, ⟨.sl 113, 1, 24, [zl]⟩),
  (47, ⟨.sl 89, 1, 24, [zl]⟩),
  (49, ⟨.st [(5, 0), (2, 1), (45, 2), (46, 3), (47, 4)], 5, 88, [z8, z6, zl, zl, zl]⟩),
  (51, ⟨.int .u64, 1, 8, [z7]⟩),
  (52, ⟨.sl 66, 1, 24, [zl]⟩),
  (54, ⟨.st [(3, 0), (3, 1), (51, 2), (52, 3)], 4, 48, [z6, z6, z7, zl]⟩),
  (55, ⟨.sl 68, 1, 24, [zl]⟩),
  (56, ⟨.sl 214, 1, 24, [zl]⟩),
  (57, ⟨.sl 216, 1, 24, [zl]⟩),
  (59, ⟨.st [(9, 0), (3, 1), (3, 2), (55, 3), (56, 4), (57, 5), (57, 6)], 7, 128, [zs, z6, z6, zl, zl, zl, zl]⟩),
  (62, ⟨.sl 64, 1, 24, [zl]⟩),
  (64, ⟨.st [(5, 0), (2, 1), (9, 2), (62, 3), (4, 4)], 5, 64, [z8, z6, zs, zl, zb]⟩),
  (66, ⟨.st [(3, 0), (64, 1)], 6, 72, [z6, z8, z6, zs, zl, zb]⟩),
  (68, ⟨.st [(9, 0), (3, 1)], 2, 24, [zs, z6]⟩),
  (72, ⟨.other, 1, 8, [.nf]⟩),
  (75, ⟨.ptr 77, 1, 8, [.np]⟩),
  (77, ⟨.st [(26, 0), (29, 3), (31, 7), (23, 12)], 13, 192, [zl, zl, zl, z8, z6, z6, zl, z8, z6, z6, z6, zs, zl]⟩),
  (80, ⟨.other, 1, 8, [.nf]⟩),
  (89, ⟨.st [(51, 0), (64, 1), (51, 6)], 7, 80, [z7, z8, z6, zs, zl, zb, z7]⟩),
  (99, ⟨.ptr 102, 1, 8, [.np]⟩),
  (100, ⟨.sl 5, 1, 24, [zl]⟩),
  (102, ⟨.st [(99, 0), (100, 1)], 2, 32, [.np, .sl .full []]⟩),
  (108, ⟨.arr 4 9, 4, 64, [zs, zs, zs, zs]⟩),
  (110, ⟨.other, 1, 8, [.nf]⟩),
  (113, ⟨.st [(3, 0), (3, 1), (4, 2), (64, 3)], 8, 88, [z6, z6, zb, z8, z6, zs, zl, zb]⟩),
  (123, ⟨.mp, 1, 8, [.u]⟩),
  (137, ⟨.arr 8 9, 8, 128, [zs, zs, zs, zs, zs, zs, zs, zs]⟩),
  (139, ⟨.other, 1, 16, [.ni]⟩),
  (148, ⟨.other, 1, 8, [.nf]⟩),
  (151, ⟨.other, 1, 8, [.nf]⟩),
  (171, ⟨.other, 1, 8, [.nf]⟩),
  (174, ⟨.arr 5 5, 5, 5, [z8, z8, z8, z8, z8]⟩),
  (177, ⟨.arr 64 5, 64, 64, [z8, z8, z8, z8, z8, z8, z8, z8, z8, z8, z8, z8, z8, z8, z8, z8, z8, z8, z8, z8, z8, z8, z8, z8, z8, z8, z8, z8, z8, z8, z8, z8, z8, z8, z8, z8, z8, z8, z8, z8, z8, z8, z8, z8, z8, z8, z8, z8, z8, z8, z8, z8, z8, z8, z8, z8, z8, z8, z8, z8, z8, z8, z8, z8]⟩),
  (186, ⟨.uptr, 1, 8, [.np]⟩),
  (212, ⟨.st [(5, 0), (3, 1), (3, 2), (55, 3)], 4, 48, [z8, z6, z6, zl]⟩),
  (214, ⟨.st [(5, 0), (3, 1), (3, 2), (3, 3)], 4, 32, [z8, z6, z6, z6]⟩),
  (216, ⟨.st [(3, 0), (51, 1)], 2, 16, [z6, z7]⟩)]
theorem ty31 : TOk Tryz.prog 31 (((31, ⟨.st [(5, 0), (3, 1), (3, 2), (2, 3), (9, 4)], 5, 48, [.i .u8 0, .i .i64 0, .i .i64 0, .i .i64 0, .s []]⟩) : Nat × TI).2) := TOk.of (ti := Tryz.t31) (by kernel_rfl) (by kernel_rfl) (by kernel_rfl) (TK.ok_st (by kernel_rfl))
theorem tys_ok : ∀ x ∈ tys, TOk Tryz.prog x.1 x.2 :=
 tC (tK Tryz.t2 kE) (tC (tK Tryz.t3 kE) (tC (tK Tryz.t4 kE) (tC (tK Tryz.t5 kE) (tC (tK Tryz.t9 kE) (tC (tK Tryz.t22 kE) (tC (tK Tryz.t23 kE) (tC (tK Tryz.t24 kE) (tC (tK Tryz.t26 kS) (tC (tK Tryz.t27 kE) (tC (tK Tryz.t29 kS) (tC ty31 (tC (tK Tryz.t34 kE) (tC (tK Tryz.t45 kE) (tC (tK Tryz.t46 kE) (tC (tK Tryz.t47 kE) (tC (tK Tryz.t49 kS) (tC (tK Tryz.t51 kE) (tC (tK Tryz.t52 kE) (tC (tK Tryz.t54 kS) (tC (tK Tryz.t55 kE) (tC (tK Tryz.t56 kE) (tC (tK Tryz.t57 kE) (tC (tK Tryz.t59 kS) (tC (tK Tryz.t62 kE) (tC (tK Tryz.t64 kS) (tC (tK Tryz.t66 kS) (tC (tK Tryz.t68 kS) (tC (tK Tryz.t72 kO) (tC (tK Tryz.t75 (And.intro (by kernel_rfl) (by kernel_rfl))) (tC (tK Tryz.t77 kS) (tC (tK Tryz.t80 kO) (tC (tK Tryz.t89 kS) (tC (tK Tryz.t99 (And.intro (by kernel_rfl) (by kernel_rfl))) (tC (tK Tryz.t100 kE) (tC (tK Tryz.t102 kS) (tC (tK Tryz.t108 kE) (tC (tK Tryz.t110 kO) (tC (tK Tryz.t113 kS) (tC (tK Tryz.t123 (Exists.intro 9 (Exists.intro 5 (And.intro (by kernel_rfl) (And.intro (by kernel_rfl) fun w => by kernel_rfl))))) (tC (tK Tryz.t137 kE) (tC (tK Tryz.t139 kO) (tC (tK Tryz.t148 kO) (tC (tK Tryz.t151 kO) (tC (tK Tryz.t171 kO) (tC (tK Tryz.t174 kE) (tC (tK Tryz.t177 kE) (tC (tK Tryz.t186 kE) (tC (tK Tryz.t212 kS) (tC (tK Tryz.t214 kS) (tC (tK Tryz.t216 kS) (tN)))))))))))))))))))))))))))))))))))))))))))))))))))
def fms : List (Nat × Nat) := [(2, 2), (3, 277), (4, 278), (5, 279), (6, 79), (7, 203), (8, 264), (9, 280), (10, 254), (11, 281), (12, 29), (13, 256), (14, 282), (15, 16), (16, 72), (17, 207), (18, 204), (19, 247), (20, 213), (21, 268), (22, 269), (23, 270), (24, 271), (25, 272), (26, 273), (27, 274), (28, 275), (29, 248), (30, 214), (31, 283), (32, 114), (33, 284), (34, 285), (35, 179), (36, 245), (37, 246), (38, 252), (39, 253), (40, 251), (41, 35), (42, 76), (43, 104), (44, 105), (45, 219), (46, 220), (47, 216), (48, 15), (49, 162), (50, 80), (51, 71), (52, 224), (53, 225), (54, 276), (55, 258), (56, 221), (57, 222), (58, 265), (59, 106), (60, 137), (61, 31), (62, 138), (63, 260), (64, 261), (65, 257), (66, 243), (67, 262), (68, 263), (69, 22), (70, 26), (71, 259), (72, 255), (73, 109), (74, 126), (75, 11), (76, 227), (77, 228), (78, 86), (79, 229), (80, 230), (81, 231), (82, 232), (83, 233), (84, 158), (85, 82), (86, 234), (87, 154), (88, 34), (89, 102), (90, 103), (91, 236), (92, 163), (93, 87), (94, 235), (95, 226), (96, 127), (97, 41), (98, 266), (99, 267), (100, 21), (101, 25), (102, 38), (103, 40), (104, 145), (105, 30), (106, 237), (107, 122), (108, 123), (109, 238), (110, 239), (111, 183), (112, 111), (113, 112), (114, 113), (115, 178), (116, 159), (117, 77), (118, 78), (119, 197), (120, 36), (121, 37), (122, 39), (123, 44), (124, 146), (125, 144), (126, 110), (127, 47), (129, 199), (130, 200), (131, 42), (132, 43), (133, 45), (134, 136), (135, 48), (136, 201), (137, 46), (1000000000000, 1000000102), (1000000000001, 1000000005), (1000000000003, 1000000077)]
def X : Cx := ⟨tabOf tys, fmOf fms, fun c => [30, 89, 104, 105, 107, 115, 116, 117, 120, 122, 123, 126, 128, 129, 130, 131, 139, 140, 144, 145, 146, 184, 217, 224, 225, 227, 228, 229, 230, 232, 233, 236, 237, 238, 239, 252, 268, 269, 270, 271, 272, 273, 274, 275, 276].contains c, []⟩
theorem ok42 : FnOk Tryz.prog X 131 pf42 := fK Tryz.func131
theorem ok46 : FnOk Tryz.prog X 137 pf46 := fK Tryz.func137
theorem ok36 : FnOk Tryz.prog X 120 pf36 := fK Tryz.func120
theorem ok43 : FnOk Tryz.prog X 132 pf43 := fK Tryz.func132
theorem ok47 : FnOk Tryz.prog X 127 pf47 := fK Tryz.func127
theorem ok11 : FnOk Tryz.prog X 75 pf11 := fK Tryz.func75
theorem ok15 : FnOk Tryz.prog X 48 pf15 := fK Tryz.func48
theorem ok21 : FnOk Tryz.prog X 100 pf21 := fK Tryz.func100
theorem ok25 : FnOk Tryz.prog X 101 pf25 := fK Tryz.func101
theorem ok30 : FnOk Tryz.prog X 105 pf30 := fK Tryz.func105
theorem ok34 : FnOk Tryz.prog X 88 pf34 := fK Tryz.func88
theorem ok37 : FnOk Tryz.prog X 121 pf37 := fK Tryz.func121
theorem ok39 : FnOk Tryz.prog X 122 pf39 := fK Tryz.func122
theorem ok45 : FnOk Tryz.prog X 133 pf45 := fK Tryz.func133
theorem ok29 : FnOk Tryz.prog X 12 pf29 := fK Tryz.func12
theorem ok197 : FnOk Tryz.prog X 119 pf197 := fK Tryz.func119

theorem words_enter (w : World) : (callFunc 65 #[]).run Tryz.prog w = .ok (.enter 65 #[]) w ∧ Calls Tryz.prog 65 #[] w (WordsR w) := ⟨callFunc_enter Tryz.func65 (by kernel_rfl) (code := .seq (.region 0 (regOps (sA (bodyOf Tryz.f65))) false) (.seq (.region 1 (regOps (sA (sB (bodyOf Tryz.f65)))) false) .ret)) (by kernel_rfl) #[], words_calls Tryz.func65 (ops0 := regOps (sA (bodyOf Tryz.f65))) (ops1 := regOps (sA (sB (bodyOf Tryz.f65)))) (by kernel_rfl) (by kernel_rfl) (by kernel_rfl) (show Tryz.prog.underlying 123 = some (.map 9 5) from by kernel_rfl) (show Tryz.prog.underlying 9 = some .string from by kernel_rfl) ⟨by kernel_rfl, of_nog (by kernel_rfl)⟩ ⟨by kernel_rfl, of_nog (by kernel_rfl)⟩ w⟩
theorem good243 : GoodF Tryz.prog X pf243 (bodyOf Tryz.f66) := Go.AM.good243 (x1 := aA b243) (x2 := aA (aB b243)) (x4 := aA (aB (aB b243))) (x5 := aB (aB (aB (aB b243)))) rfl (by kernel_rfl) (by kernel_rfl) (by kernel_rfl) (by kernel_rfl) (by kernel_rfl) fun hT d =>
  range_hand (fw := 65) (tm := 123) (ts := 31) (t5 := 5) (k := 9) (e := 5) (Nat.le_of_ble_eq_true rfl) (show Tryz.prog.underlying 123 = some (.map 9 5) from by kernel_rfl) hT (ty31 : TOk Tryz.prog 31 _).kind rfl rfl rfl rfl words_enter ⟨by kernel_rfl, of_nog (by kernel_rfl)⟩ ⟨by kernel_rfl, of_nog (by kernel_rfl)⟩ ⟨by kernel_rfl, of_nog (by kernel_rfl)⟩ ⟨by kernel_rfl, of_nog (by kernel_rfl)⟩ ⟨by kernel_rfl, of_nog (by kernel_rfl)⟩
theorem ok243 : FnOk Tryz.prog X 66 pf243 := FnOk.ofG Tryz.func66 (by kernel_rfl) (by kernel_rfl) good243 (by kernel_rfl) (by kernel_rfl) (by kernel_rfl)
theorem ok245 : FnOk Tryz.prog X 36 pf245 := fK Tryz.func36
theorem ok247 : FnOk Tryz.prog X 19 pf247 := fK Tryz.func19
theorem ok258 : FnOk Tryz.prog X 55 pf258 := fK Tryz.func55
theorem ok260 : FnOk Tryz.prog X 63 pf260 := fK Tryz.func63
theorem ok261 : FnOk Tryz.prog X 64 pf261 := fK Tryz.func64
theorem ok266 : FnOk Tryz.prog X 98 pf266 := fK Tryz.func98
theorem ok267 : FnOk Tryz.prog X 99 pf267 := fK Tryz.func99
theorem ok145 : FnOk Tryz.prog X 104 pf145 := fK Tryz.func104
theorem ok126 : FnOk Tryz.prog X 74 pf126 := fK Tryz.func74
theorem ok71 : FnOk Tryz.prog X 51 pf71 := fK Tryz.func51
theorem ok72 : FnOk Tryz.prog X 16 pf72 := fK Tryz.func16
theorem ok76 : FnOk Tryz.prog X 42 pf76 := fK Tryz.func42
theorem ok77 : FnOk Tryz.prog X 117 pf77 := fK Tryz.func117
theorem ok78 : FnOk Tryz.prog X 118 pf78 := fK Tryz.func118
theorem ok102 : FnOk Tryz.prog X 89 pf102 := fK Tryz.func89
theorem ok103 : FnOk Tryz.prog X 90 pf103 := fK Tryz.func90
theorem ok104 : FnOk Tryz.prog X 43 pf104 := fK Tryz.func43
theorem ok109 : FnOk Tryz.prog X 73 pf109 := fK Tryz.func73
theorem ok110 : FnOk Tryz.prog X 126 pf110 := fK Tryz.func126
theorem ok136 : FnOk Tryz.prog X 134 pf136 := fK Tryz.func134
theorem ok154 : FnOk Tryz.prog X 87 pf154 := fK Tryz.func87
theorem ok158 : FnOk Tryz.prog X 84 pf158 := fK Tryz.func84
theorem ok159 : FnOk Tryz.prog X 116 pf159 := fK Tryz.func116
theorem ok178 : FnOk Tryz.prog X 115 pf178 := fK Tryz.func115
theorem ok183 : FnOk Tryz.prog X 111 pf183 := fK Tryz.func111
theorem ok162 : FnOk Tryz.prog X 49 pf162 := fK Tryz.func49
theorem ok163 : FnOk Tryz.prog X 92 pf163 := fK Tryz.func92
theorem ok79 : FnOk Tryz.prog X 6 pf79 := fK Tryz.func6
theorem ok80 : FnOk Tryz.prog X 50 pf80 := fK Tryz.func50
theorem ok82 : FnOk Tryz.prog X 85 pf82 := fK Tryz.func85
theorem ok86 : FnOk Tryz.prog X 78 pf86 := fK Tryz.func78
theorem ok87 : FnOk Tryz.prog X 93 pf87 := fK Tryz.func93
theorem ok111 : FnOk Tryz.prog X 112 pf111 := fK Tryz.func112
theorem ok112 : FnOk Tryz.prog X 113 pf112 := fK Tryz.func113
theorem ok113 : FnOk Tryz.prog X 114 pf113 := fK Tryz.func114
theorem ok122 : FnOk Tryz.prog X 107 pf122 := fK Tryz.func107
theorem ok123 : FnOk Tryz.prog X 108 pf123 := fK Tryz.func108
theorem ok144 : FnOk Tryz.prog X 125 pf144 := fK Tryz.func125
theorem ok203 : FnOk Tryz.prog X 7 pf203 := fK Tryz.func7
theorem ok204 : FnOk Tryz.prog X 18 pf204 := fK Tryz.func18
theorem ok207 : FnOk Tryz.prog X 17 pf207 := fK Tryz.func17
theorem ok213 : FnOk Tryz.prog X 20 pf213 := fK Tryz.func20
theorem ok214 : FnOk Tryz.prog X 30 pf214 := fK Tryz.func30
theorem ok216 : FnOk Tryz.prog X 47 pf216 := fK Tryz.func47
theorem ok219 : FnOk Tryz.prog X 45 pf219 := fK Tryz.func45
theorem ok220 : FnOk Tryz.prog X 46 pf220 := fK Tryz.func46
theorem ok221 : FnOk Tryz.prog X 56 pf221 := fK Tryz.func56
theorem ok224 : FnOk Tryz.prog X 52 pf224 := fK Tryz.func52
theorem ok225 : FnOk Tryz.prog X 53 pf225 := fK Tryz.func53
theorem ok227 : FnOk Tryz.prog X 76 pf227 := fK Tryz.func76
theorem ok228 : FnOk Tryz.prog X 77 pf228 := fK Tryz.func77
theorem ok229 : FnOk Tryz.prog X 79 pf229 := fK Tryz.func79
theorem ok230 : FnOk Tryz.prog X 80 pf230 := fK Tryz.func80
theorem ok231 : FnOk Tryz.prog X 81 pf231 := fK Tryz.func81
theorem ok232 : FnOk Tryz.prog X 82 pf232 := fK Tryz.func82
theorem ok233 : FnOk Tryz.prog X 83 pf233 := fK Tryz.func83
theorem ok234 : FnOk Tryz.prog X 86 pf234 := fK Tryz.func86
theorem ok235 : FnOk Tryz.prog X 94 pf235 := fK Tryz.func94
theorem ok236 : FnOk Tryz.prog X 91 pf236 := fK Tryz.func91
theorem ok237 : FnOk Tryz.prog X 106 pf237 := fK Tryz.func106
theorem ok238 : FnOk Tryz.prog X 109 pf238 := fK Tryz.func109
theorem ok239 : FnOk Tryz.prog X 110 pf239 := fK Tryz.func110
theorem ok264 : FnOk Tryz.prog X 8 pf264 := fK Tryz.func8
theorem ok268 : FnOk Tryz.prog X 21 pf268 := fK Tryz.func21
theorem ok269 : FnOk Tryz.prog X 22 pf269 := fK Tryz.func22
theorem ok270 : FnOk Tryz.prog X 23 pf270 := fK Tryz.func23
theorem ok271 : FnOk Tryz.prog X 24 pf271 := fK Tryz.func24
theorem ok272 : FnOk Tryz.prog X 25 pf272 := fK Tryz.func25
theorem ok273 : FnOk Tryz.prog X 26 pf273 := fK Tryz.func26
theorem ok274 : FnOk Tryz.prog X 27 pf274 := fK Tryz.func27
theorem ok275 : FnOk Tryz.prog X 28 pf275 := fK Tryz.func28
theorem ok276 : FnOk Tryz.prog X 54 pf276 := fK Tryz.func54
theorem ok251 : FnOk Tryz.prog X 40 pf251 := fK Tryz.func40
theorem ok252 : FnOk Tryz.prog X 38 pf252 := fK Tryz.func38
theorem ok253 : FnOk Tryz.prog X 39 pf253 := fK Tryz.func39
theorem ok254 : FnOk Tryz.prog X 10 pf254 := fK Tryz.func10
theorem ok255 : FnOk Tryz.prog X 72 pf255 := fK Tryz.func72
theorem ok256 : FnOk Tryz.prog X 13 pf256 := fK Tryz.func13
theorem ok282 : FnOk Tryz.prog X 14 pf282 := fK Tryz.func14
theorem tyVal : TyVal X.T 64 := ⟨5, 2, 9, 62, 4, ⟨_, rfl, rfl, rfl⟩, ⟨_, rfl, rfl, rfl⟩, ⟨_, rfl, rfl, rfl⟩, ⟨_, rfl, rfl, rfl⟩, ⟨_, rfl, rfl, rfl⟩, ⟨_, rfl, rfl, rfl⟩⟩
theorem tyFld : TyFld X.T 68 := ⟨9, 3, ⟨_, rfl, rfl, rfl⟩, ⟨_, rfl, rfl, rfl⟩, ⟨_, rfl, rfl, rfl⟩⟩
theorem tyIns : TyIns X.T 214 := ⟨5, 3, 3, 3, ⟨_, rfl, rfl, rfl⟩, ⟨_, rfl, rfl, rfl⟩, ⟨_, rfl, rfl, rfl⟩, ⟨_, rfl, rfl, rfl⟩, ⟨_, rfl, rfl, rfl⟩⟩
theorem tyRnn : TyRnn X.T 216 := ⟨3, 51, ⟨_, rfl, rfl, rfl⟩, ⟨_, rfl, rfl, rfl⟩, ⟨_, rfl, rfl, rfl⟩⟩
theorem tyTyp : TyTyp X.T 212 := ⟨5, 3, 3, 55, 68, ⟨_, rfl, rfl, rfl⟩, ⟨_, rfl, rfl, rfl⟩, ⟨_, rfl, rfl, rfl⟩, ⟨_, rfl, rfl, rfl⟩, ⟨_, rfl, rfl, rfl⟩, tyFld⟩
theorem tyFun : TyFun X.T 59 := ⟨9, 3, 3, 55, 56, 57, 57, 68, 214, 216, 216, ⟨_, rfl, rfl, rfl⟩, ⟨_, rfl, rfl, rfl⟩, ⟨_, rfl, rfl, rfl⟩, ⟨_, rfl, rfl, rfl⟩, ⟨_, rfl, rfl, rfl⟩, tyFld, ⟨_, rfl, rfl, rfl⟩, tyIns, ⟨_, rfl, rfl, rfl⟩, tyRnn, ⟨_, rfl, rfl, rfl⟩, tyRnn⟩
theorem tyImg : TyImg X.T 26 := ⟨22, 23, 24, 212, 9, 59, ⟨_, rfl, rfl, rfl⟩, ⟨_, rfl, rfl, rfl⟩, tyTyp, ⟨_, rfl, rfl, rfl⟩, ⟨_, rfl, rfl, rfl⟩, ⟨_, rfl, rfl, rfl⟩, tyFun⟩
theorem tyLoc : TyLoc X.T 66 := ⟨3, 64, ⟨_, rfl, rfl, rfl⟩, ⟨_, rfl, rfl, rfl⟩, tyVal⟩
theorem tyFrm : TyFrm X.T 54 := ⟨3, 3, 51, 52, 66, ⟨_, rfl, rfl, rfl⟩, ⟨_, rfl, rfl, rfl⟩, ⟨_, rfl, rfl, rfl⟩, ⟨_, rfl, rfl, rfl⟩, ⟨_, rfl, rfl, rfl⟩, tyLoc⟩
theorem tyPan : TyPan X.T 89 := ⟨51, 64, 51, ⟨_, rfl, rfl, rfl⟩, ⟨_, rfl, rfl, rfl⟩, tyVal, ⟨_, rfl, rfl, rfl⟩⟩
theorem tyDfr : TyDfr X.T 113 := ⟨3, 3, 4, 64, ⟨_, rfl, rfl, rfl⟩, ⟨_, rfl, rfl, rfl⟩, ⟨_, rfl, rfl, rfl⟩, ⟨_, rfl, rfl, rfl⟩, tyVal⟩
theorem tyRou : TyRou X.T 49 := ⟨5, 2, 45, 46, 47, 54, 113, 89, ⟨_, rfl, rfl, rfl⟩, ⟨_, rfl, rfl, rfl⟩, ⟨_, rfl, rfl, rfl⟩, ⟨_, rfl, rfl, rfl⟩, tyFrm, ⟨_, rfl, rfl, rfl⟩, tyDfr, ⟨_, rfl, rfl, rfl⟩, tyPan⟩
theorem tySta : TySta X.T 29 := ⟨5, 3, 3, 27, 49, ⟨_, rfl, rfl, rfl⟩, ⟨_, rfl, rfl, rfl⟩, ⟨_, rfl, rfl, rfl⟩, ⟨_, rfl, rfl, rfl⟩, ⟨_, rfl, rfl, rfl⟩, tyRou⟩
theorem tyQry : TyQry X.T 31 := ⟨5, 3, 3, 2, 9, ⟨_, rfl, rfl, rfl⟩, ⟨_, rfl, rfl, rfl⟩, ⟨_, rfl, rfl, rfl⟩, ⟨_, rfl, rfl, rfl⟩, ⟨_, rfl, rfl, rfl⟩, ⟨_, rfl, rfl, rfl⟩⟩
end Go.Proofs.YtbcdfamilcmjnaaGreat

/- Parts of the proof. -/
namespace Go.AM
open Go
structure Has03 (prog:Prog):Prop where
 f42:prog.fn 42=some pf42
 f46:prog.fn 46=some pf46
 f36:prog.fn 36=some pf36
 f43:prog.fn 43=some pf43
 f47:prog.fn 47=some pf47
 f11:prog.fn 11=some pf11
 f15:prog.fn 15=some pf15
 f21:prog.fn 21=some pf21
 f25:prog.fn 25=some pf25
 f30:prog.fn 30=some pf30
 f34:prog.fn 34=some pf34
 f37:prog.fn 37=some pf37
 f39:prog.fn 39=some pf39
 f45:prog.fn 45=some pf45
 f29:prog.fn 29=some pf29
 f48:prog.fn 48=none
 o48 :∀(s:Bytes) (c:UInt8),prog.orac 48 [.s s,.i .u8 (c.toNat:Int)]=some (.i .i64 (Lib.indexByte s c))
section
variable {prog:Prog} (H:Has03 prog)
include H
theorem c30 {s b:Bytes} (hs:s.length≤10000000) (hb:b.length≤1000000000):PuA prog 30 (b.map row8) [.s s] ((b++quo s).map row8):=by
 refine PuAK.to ?_
 have hp:=p30 H.f30 (b0:=b) (s1:=s) (K:=fun x=>x=b++quo s) (by
  unfold T30_0 T30_1
  refine ⟨⟨by simp only [List.length_cons,List.length_nil,maxBytes_eq];omega,by simp only [List.length_cons,List.length_nil,maxBytes_eq];omega⟩,fun P hP=>?_⟩
  refine loop_up (fun i=>b++34::chrs (s.take i)) s.length ?_ ?_
  ·apply hP
   unfold T30_2 T30_4
   have h1:=chrs_len (s.take s.length)
   simp only [List.take_length] at h1 ⊢
   refine ⟨fun h=>absurd h (by omega),fun _=>⟨⟨?_,?_⟩,?_⟩⟩
   ·simp only [List.length_append,List.length_cons,List.length_nil,maxBytes_eq];omega
   ·simp only [List.length_append,List.length_cons,List.length_nil,maxBytes_eq];omega
   ·simp only [quo,List.append_assoc,List.cons_append]
  ·intro i hi ih
   apply hP
   have h1:=chrs_len (s.take i)
   have hc:=s[i].toNat_lt
   rw [chrs_take hi] at ih
   rw [← List.cons_append,← List.append_assoc] at ih
   generalize hx:s[i]=c at ih hc
   have w1:bShr .u8 (c.toNat:Int) 4=((c.toNat / 16:Nat):Int):=by
    show (c.toNat:Int).fdiv 16=_
    rw [Int.fdiv_eq_ediv_of_nonneg _ (by omega)];omega
   have w2:bAnd .u8 (c.toNat:Int) 15=((c.toNat % 16:Nat):Int):=by
    unfold bAnd
    have hx:(BitVec.ofInt IntKind.u8.bits (c.toNat:Int) &&& BitVec.ofInt IntKind.u8.bits 15).toNat=c.toNat % 16:=by
     show (BitVec.ofInt 8 (c.toNat:Int) &&& BitVec.ofInt 8 15).toNat=c.toNat % 16
     rw [BitVec.toNat_and]
     have h1:(BitVec.ofInt 8 (c.toNat:Int)).toNat=c.toNat:=by
      simp
     rw [h1]
     exact Nat.and_two_pow_sub_one_eq_mod c.toNat 4
    rw [hx]
    exact wr_u8 (by omega) (by omega)
   have fit :∀x:Bytes,x.length≤4→Fit ((b++34::chrs (s.take i)).length+x.length) 1:=by
    intro x hx
    simp only [List.length_take] at h1
    refine ⟨?_,?_⟩<;>(simp only [List.length_append,List.length_cons,maxBytes_eq];omega)
   unfold T30_2 T30_3
   rw [wr_succ (by omega)]
   refine ⟨fun _=>⟨by omega,c,by rw [toNat_cast,List.getElem?_eq_getElem hi,hx],?_⟩,fun h=>absurd (show (i:Int)<s.length by omega) h⟩
   simp only [w1,w2,toNat_cast,hexd_get (show c.toNat / 16<16 by omega),hexd_get (show c.toNat % 16<16 by omega),Option.some.injEq,exists_eq_left']
   unfold chr at ih
   refine ⟨fun h2=>⟨fit _ (by simp),?_⟩,fun h2=>⟨fun h3=>⟨fit _ (by simp),?_⟩,fun h3=>⟨fun h4=>⟨fit _ (by simp),?_⟩,fun h4=>⟨fun h5=>⟨by omega,by omega,fit _ (by simp),?_⟩,fun h5=>⟨fun h6=>⟨by omega,by omega,fit _ (by simp),?_⟩,fun h6=>⟨fit _ (by simp),?_⟩⟩⟩⟩⟩⟩
   ·rwa [if_pos (by omega)] at ih
   ·rwa [if_pos (by omega)] at ih
   ·rwa [if_neg (by omega),if_pos (by omega)] at ih
   ·rwa [if_neg (by omega),if_neg (by omega),if_pos (by omega)] at ih
   ·rwa [if_neg (by omega),if_neg (by omega),if_pos (by omega)] at ih
   ·rwa [if_neg (by omega),if_neg (by omega),if_neg (by omega)] at ih)
 intro d st o ha
 obtain ⟨o',st',rows',⟨x,rfl,rfl⟩,h1,h2⟩:=hp d st o ha
 exact ⟨o',st',_,rfl,h1,h2⟩
theorem c11 (s:Bytes):Pus prog 11 [.s s] (.tup [.s (quoR s).1,.i .i64 (quoR s).2]):=by
 obtain ⟨x,y,⟨rfl,rfl⟩,h⟩:=p11 H.f11 (s0:=s) (K:=fun x y=>x=(quoR s).1∧y=(quoR s).2) (by
  unfold T11_0 quoR
  refine ⟨fun h=>?_,fun h=>⟨_,c30 H (b:=[]) (s:=s) (by omega) (by simp),?_⟩⟩
  ·rw [if_pos (by omega)];exact ⟨rfl,rfl⟩
  ·rw [if_neg (by omega)];exact ⟨rfl,rfl⟩)
 exact h
theorem c34 {n b:Nat} (hb:2≤b) (hb':b≤16) (hn:n<18446744073709551616):Pus prog 34 [.i .u64 (n:Int),.i .u64 (b:Int)] (.s (digs b n)):=by
 obtain ⟨x,rfl,h⟩:=p34 H.f34 (n0:=(n:Int)) (base1:=(b:Int)) (K:=fun x=>x=digs b n) (by
  unfold T34_0
  intro P hP
  have key :∀f n',n'<b ^ f→0<f→n'<18446744073709551616→∀a:Nat,f≤a→a≤64→∀m:Bytes,m.length=64→(ds b f n'++m.drop a=digs b n)→P (n':Int) (a:Int) m:=by
   intro f
   induction f with
   | zero=>intro _ _ h;exact absurd h (Nat.lt_irrefl _)
   | succ f ih=>
    intro n' hf _ hn' a ha ha' m hm hd
    apply hP
    have e1:(n':Int).tmod (b:Int)=((n' % b:Nat):Int):=by rw [Int.tmod_eq_emod_of_nonneg (by omega)];omega
    have e2:(n':Int).tdiv (b:Int)=((n' / b:Nat):Int):=by rw [Int.tdiv_eq_ediv_of_nonneg (by omega)];omega
    have e3:IntKind.i64.wrap ((a:Int)-1)=((a-1:Nat):Int):=by rw [wr_i64 (by omega) (by omega)];omega
    have hq:n' / b≤n':=Nat.div_le_self _ _
    have hr:n' % b<b:=Nat.mod_lt _ (by omega)
    have e4:IntKind.u64.wrap ((n' / b:Nat):Int)=((n' / b:Nat):Int):=wr_u64_nat (by omega)
    have hset :∀c:UInt8,(m.set (a-1) c).drop (a-1)=c::m.drop a:=by
     intro c
     rw [List.drop_eq_getElem_cons (by simp;omega),List.getElem_set_self,List.drop_set_of_lt (by omega),show a-1+1=a by omega]
    unfold T34_1
    simp only [e1,e2,e3,e4,toNat_cast,hset]
    refine ⟨by omega,by omega,hexd (n' % b),hexd_get (by omega),by omega,by omega,by omega,by omega,fun h=>⟨by simp [hm],by omega,by omega,?_⟩,fun h=>?_⟩
    ·rw [← hd]
     unfold ds
     have hz:n' / b=0:=by omega
     have hlt:n'<b:=by
      rcases Nat.lt_or_ge n' b with h | h
      ·exact h
      ·have:=Nat.div_pos h (by omega);omega
     rw [if_pos hlt,Nat.mod_eq_of_lt hlt]
     rfl
    ·have hz:n' / b≠0:=by omega
     have hlt:¬ n'<b:=fun h=>hz (Nat.div_eq_of_lt h)
     have h1:n' / b<b ^ f:=by
      rw [Nat.div_lt_iff_lt_mul (by omega)]
      rw [Nat.pow_succ] at hf
      exact hf
     have h2:0<f:=by
      rcases Nat.eq_zero_or_pos f with rfl | h
      ·simp at h1;omega
      ·exact h
     refine ih (n' / b) h1 h2 (by omega) (a-1) (by omega) (by omega) _ (by simp [hm]) ?_
     rw [hset,← hd]
     conv=>rhs;unfold ds
     rw [if_neg hlt,List.append_assoc]
     rfl
  refine key 64 n ?_ (by omega) hn 64 (by omega) (by omega) _ (by simp) ?_
  ·calc n<2 ^ 64:=hn
    _≤b ^ 64:=Nat.pow_le_pow_left hb 64
  ·simp [digs])
 exact h
theorem c15 {n:Int} (h1:-9223372036854775808≤n) (h2:n<9223372036854775808):Pus prog 15 [.i .i64 n] (.s (num n)):=by
 obtain ⟨x,rfl,h⟩:=p15 H.f15 (n0:=n) (K:=fun x=>x=num n) (by
  unfold T15_0
  refine ⟨fun h=>?_,fun h=>?_⟩
  ·have e:IntKind.u64.wrap (0-(IntKind.u64.wrap n))=(((-n).toNat:Nat):Int):=by rw [IntKind.wrap_u64,IntKind.wrap_u64];omega
   rw [e]
   refine ⟨_,c34 H (b:=10) (by omega) (by omega) (by omega),?_,?_⟩
   ·have:=ds_len 10 64 (-n).toNat
    simp only [digs,List.length_cons,List.length_nil,maxStr_eq];omega
   ·unfold num;rw [if_pos h];rfl
  ·have e:IntKind.u64.wrap n=((n.toNat:Nat):Int):=by rw [IntKind.wrap_u64];omega
   rw [e]
   refine ⟨_,c34 H (b:=10) (by omega) (by omega) (by omega),?_⟩
   unfold num;rw [if_neg h])
 exact h
end
end Go.AM

/- Parts of the proof. -/
namespace Go.AM
open Go
def cutp (p s:Bytes):Bytes × Bool:=if s.take p.length=p then (s.drop p.length,true) else (s,false)
def EscK (s:Bytes) (c:Int) (r:Bytes) (ok:Bool):Prop:=match esc s with | some (x,y)=>c=(x.toNat:Int)∧r=y∧ok=true | none=>ok=false
theorem EscK.yes {s:Bytes} {x:UInt8} {y:Bytes} {c:Int} (h:esc s=some (x,y)) (hc:c=(x.toNat:Int)):EscK s c y true:=by
 unfold EscK;rw [h];exact ⟨hc,rfl,rfl⟩
theorem EscK.no {s:Bytes} {c:Int} {y:Bytes} (h:esc s=none):EscK s c y false:=by
 unfold EscK;rw [h]
section
variable {prog:Prog} (H:Has03 prog)
include H
theorem c46 (s p:Bytes):Pus prog 46 [.s s,.s p] (.b (decide (s.take p.length=p))):=by
 obtain ⟨x,rfl,h⟩:=p46 H.f46 (s0:=s) (prefix1:=p) (K:=fun x=>x=decide (s.take p.length=p)) (by
  unfold T46_0
  refine ⟨fun h=>⟨by omega,by omega,rfl⟩,fun h=>?_⟩
  refine (decide_eq_false fun h1=>?_).symm
  have:=congrArg List.length h1
  simp only [List.length_take] at this
  omega)
 exact h
theorem c42 (s p:Bytes):Pus prog 42 [.s s,.s p] (.tup [.s (cutp p s).1,.b (cutp p s).2]):=by
 obtain ⟨x,y,⟨rfl,rfl⟩,h⟩:=p42 H.f42 (s0:=s) (prefix1:=p) (K:=fun x y=>x=(cutp p s).1∧y=(cutp p s).2) (by
  unfold T42_0 cutp
  refine ⟨_,c46 H s p,fun h=>?_,fun h=>?_⟩
  ·have h1:¬ s.take p.length=p:=by simpa using h
   rw [if_neg h1];exact ⟨rfl,rfl⟩
  ·have h1:s.take p.length=p:=by simpa using h
   have h2:=congrArg List.length h1
   simp only [List.length_take] at h2
   rw [if_pos h1];exact ⟨by omega,by omega,rfl,rfl⟩)
 exact h
theorem c36 (s p:Bytes):Pus prog 36 [.s s,.s p] (.tup [.s (cutp p s).1,.b (cutp p s).2]):=by
 obtain ⟨x,y,⟨rfl,rfl⟩,h⟩:=p36 H.f36 (s0:=s) (prefix1:=p) (K:=fun x y=>x=(cutp p s).1∧y=(cutp p s).2) (by
  unfold T36_0
  exact ⟨_,_,c42 H s p,rfl,rfl⟩)
 exact h
theorem c47 (s:Bytes) (c:UInt8):Pus prog 47 [.s s,.i .u8 (c.toNat:Int)] (.i .i64 (Lib.indexByte s c)):=by
 obtain ⟨x,rfl,h⟩:=p47 H.f47 (s0:=s) (c1:=(c.toNat:Int)) (K:=fun x=>x=Lib.indexByte s c) (by
  unfold T47_0
  exact ⟨_,Pus.orac H.f48 (H.o48 s c) rfl,rfl⟩)
 exact h
theorem c43 (s:Bytes) (c:UInt8):Pus prog 43 [.s s,.i .u8 (c.toNat:Int)] (.i .i64 (Lib.indexByte s c)):=by
 obtain ⟨x,rfl,h⟩:=p43 H.f43 (s0:=s) (c1:=(c.toNat:Int)) (K:=fun x=>x=Lib.indexByte s c) (by
  unfold T43_0
  exact ⟨_,c47 H s c,rfl⟩)
 exact h
theorem c37 {b most:Nat} (hb:2≤b) (hb':b≤16) (hm:16≤most) (hm':most<18446744073709551616) {s:Bytes} (hs:s.length≤10000000):Pus prog 37 [.s s,.i .u64 (b:Int),.i .u64 (most:Int)] (.tup [.i .u64 ((rd b most s).1:Int),.i .i64 (rd b most s).2]):=by
 obtain ⟨x,y,⟨rfl,rfl⟩,h⟩:=p37 H.f37 (s0:=s) (base1:=(b:Int)) (most2:=(most:Int)) (K:=fun x y=>x=((rd b most s).1:Int)∧y=(rd b most s).2) (by
  unfold T37_0 T37_1 T37_2
  intro P hP
  have key :∀m i:Nat,i+m=s.length→okd b (s.take i)=true→(2≤i→s.head?≠some 48)→∀(n:Nat) (far:Bool),(far=false→n=vals b (s.take i)∧n≤most)→(far=true→most<vals b (s.take i))→P (n:Int) far (i:Int):=by
   intro m
   induction m with
   | zero=>
    intro i hi ho h48 n far h0 h1
    simp only [Nat.add_zero] at hi
    subst hi
    rw [List.take_length] at ho h0 h1
    apply hP
    unfold T37_3 T37_5
    refine ⟨fun h=>absurd h (by omega),fun _=>⟨fun h=>?_,fun h=>?_⟩⟩
    ·subst h;exact ⟨rfl,rfl⟩
    ·have hbad:badn b s=false:=by
      unfold badn
      rw [decide_eq_false h,ho]
      simp only [Bool.false_or,Bool.not_true]
      by_cases h2:1<s.length
      ·rw [decide_eq_false (h48 h2),Bool.and_false]
      ·rw [decide_eq_false h2,Bool.false_and]
     refine ⟨fun hf=>?_,fun hf=>?_⟩
     ·unfold rd
      rw [if_neg (by rw [hbad];decide),if_pos (h1 hf)]
      exact ⟨rfl,rfl⟩
     ·obtain ⟨h2,h3⟩:=h0 hf
      unfold rd
      rw [if_neg (by rw [hbad];decide),if_neg (by omega),h2]
      exact ⟨rfl,rfl⟩
   | succ m ih=>
    intro i hi ho h48 n far h0 h1
    have hil:i<s.length:=by omega
    have hd:=dv_lt hb' s[i]
    have hv:=vals_take (b:=b) hil
    have hk:=okd_take (b:=b) hil
    have bad12:badn b s=true→(0:Int)=((rd b most s).1:Int)∧(12:Int)=(rd b most s).2:=by
     intro h
     unfold rd
     rw [if_pos h]
     exact ⟨rfl,rfl⟩
    apply hP
    unfold T37_3 T37_4
    refine ⟨fun _=>⟨by omega,by rw [toNat_cast];exact hb',by omega,s[i],by rw [toNat_cast,List.getElem?_eq_getElem hil],dv b s[i],c43 H _ _,fun h=>?_,fun h=>?_⟩,fun h=>absurd h (by omega)⟩
    ·refine bad12 ?_
     unfold badn
     rw [okd_of hil h]
     simp
    ·have hd0:0≤dv b s[i]:=by omega
     rw [ho,decide_eq_true hd0,Bool.and_true] at hk
     generalize hdd:(dv b s[i]).toNat=d at hv
     have hdi:dv b s[i]=(d:Int):=by omega
     have e1:IntKind.u64.wrap (dv b s[i])=(d:Int):=by rw [hdi];exact wr_u64_nat (by omega)
     have e2:IntKind.u64.wrap ((most:Int)-(d:Int))=((most-d:Nat):Int):=by rw [wr_u64 (by omega) (by omega)];omega
     have e3:(((most-d:Nat):Int)).tdiv (b:Int)=(((most-d) / b:Nat):Int):=by rw [Int.tdiv_eq_ediv_of_nonneg (by omega)];omega
     have hq:(most-d) / b≤most-d:=Nat.div_le_self _ _
     have e4:IntKind.u64.wrap (((most-d) / b:Nat):Int)=(((most-d) / b:Nat):Int):=wr_u64_nat (by omega)
     have hfi:=far_iff (n:=n) (show 0<b by omega) (show d≤most by omega)
     rw [wr_succ (by omega)]
     simp only [e1,e2,e3,e4]
     have go:(2≤i+1→s.head?≠some 48)→(far=true→P (n:Int) true ((i+1:Nat):Int))∧(far=false→(b:Int)≠0∧(¬((n:Int)>(((most-d) / b:Nat):Int))→P (IntKind.u64.wrap ((IntKind.u64.wrap ((n:Int)*(b:Int)))+(d:Int))) (decide ((n:Int)>(((most-d) / b:Nat):Int))) ((i+1:Nat):Int))∧(¬(¬((n:Int)>(((most-d) / b:Nat):Int)))→P (n:Int) (decide ((n:Int)>(((most-d) / b:Nat):Int))) ((i+1:Nat):Int))):=by
      intro h2
      refine ⟨fun hf=>?_,fun hf=>⟨by omega,fun h3=>?_,fun h3=>?_⟩⟩
      ·refine ih (i+1) (by omega) hk h2 n true (fun h=>by cases h) fun _=>?_
       rw [hv]
       have h4:=h1 hf
       have:vals b (s.take i)≤vals b (s.take i)*b:=Nat.le_mul_of_pos_right _ (by omega)
       omega
      ·obtain ⟨h4,h5⟩:=h0 hf
       have h6:n*b+d≤most:=by
        have:¬ (most-d) / b<n:=by omega
        rw [hfi] at this
        omega
       have hnb:(n:Int)*(b:Int)=((n*b:Nat):Int):=by rw [Int.natCast_mul]
       have e5:IntKind.u64.wrap ((n:Int)*(b:Int))=((n*b:Nat):Int):=by rw [hnb];exact wr_u64_nat (by omega)
       have e6:IntKind.u64.wrap (((n*b:Nat):Int)+(d:Int))=((n*b+d:Nat):Int):=by rw [wr_u64 (by omega) (by omega)];omega
       rw [e5,e6,decide_eq_false h3]
       refine ih (i+1) (by omega) hk h2 _ false (fun _=>⟨?_,h6⟩) fun h=>by cases h
       rw [hv,h4]
      ·have h3':(n:Int)>(((most-d) / b:Nat):Int):=by omega
       obtain ⟨h4,h5⟩:=h0 hf
       rw [decide_eq_true h3']
       refine ih (i+1) (by omega) hk h2 n true (fun h=>by cases h) fun _=>?_
       rw [hv,← h4]
       exact hfi.1 (Int.ofNat_lt.1 h3')
     have hd0:s.head?=s[0]?:=List.head?_eq_getElem?
     refine ⟨fun hi1=>?_,fun hi1=>?_⟩
     ·have h0s:s[0]?=some s[0]:=List.getElem?_eq_getElem (by omega)
      refine ⟨s[0],h0s,fun h2=>?_,fun h2=>?_⟩
      ·refine bad12 ?_
       have h3:s[0]=48:=u8_eq (by have e:(48:UInt8).toNat=48:=rfl;omega)
       unfold badn
       rw [decide_eq_true (show 1<s.length by omega),decide_eq_true (show s.head?=some 48 by rw [hd0,h0s,h3])]
       simp
      ·refine go fun _=>?_
       rw [hd0,h0s]
       intro h3
       injection h3 with h3
       exact h2 (by rw [h3];rfl)
     ·refine go fun h2=>?_
      have h3:i≠1:=by omega
      have h4:i≠0:=by omega
      exact h48 (by omega)
  exact key s.length 0 (by omega) rfl (by omega) 0 false (fun _=>⟨rfl,by omega⟩) fun h=>by cases h)
 exact h
theorem c21 (s:Bytes):Pus prog 21 [.s s] (.tup [.i .i64 (unnum s).1,.i .i64 (unnum s).2]):=by
 obtain ⟨x,y,⟨rfl,rfl⟩,h⟩:=p21 H.f21 (s0:=s) (K:=fun x y=>x=(unnum s).1∧y=(unnum s).2) (by
  unfold T21_0 T21_1
  refine ⟨fun h=>by unfold unnum;rw [if_pos (by omega)];exact ⟨rfl,rfl⟩,fun hs=>⟨_,_,c36 H s [45],?_⟩⟩
  unfold unnum
  rw [if_neg (by omega)]
  by_cases hm:s.take 1=[45]
  ·have ec:cutp [45] s=(s.drop 1,true):=by unfold cutp;rw [if_pos (by exact hm)];rfl
   rw [ec,if_pos hm]
   refine ⟨fun h=>by simp at h,fun _=>?_⟩
   have hl:=rd_le 10 9223372036854775808 (s.drop 1)
   refine ⟨_,_,c37 H (b:=10) (most:=9223372036854775808) (by omega) (by omega) (by omega) (by omega) (s:=s.drop 1) (by simp;omega),fun h=>⟨fun h0=>?_,fun h0=>?_⟩,fun h=>?_⟩
   ·have e:(rd 10 9223372036854775808 (s.drop 1)).1=0:=by omega
    rw [if_pos ⟨h,e⟩,e]
    exact ⟨rfl,rfl⟩
   ·rw [if_neg (fun hh=>h0 (by rw [hh.2];rfl))]
    refine ⟨?_,rfl⟩
    rw [IntKind.wrap_u64,IntKind.wrap_i64]
    simp only
    omega
   ·have e:=rd_err h
    rw [if_neg (fun hh=>h hh.1),e]
    exact ⟨rfl,rfl⟩
  ·have ec:cutp [45] s=(s,false):=by unfold cutp;rw [if_neg (by exact hm)]
   rw [ec,if_neg hm]
   refine ⟨fun _=>?_,fun h=>by simp at h⟩
   have hl:=rd_le 10 9223372036854775807 s
   exact ⟨_,_,c37 H (b:=10) (most:=9223372036854775807) (by omega) (by omega) (by omega) (by omega) (s:=s) (by omega),wr_i64 (by omega) (by omega),rfl⟩)
 exact h
theorem c45 (s:Bytes) :∃c r ok,EscK s c r ok∧Pus prog 45 [.s s] (.tup [.i .u8 c,.s r,.b ok]):=by
 refine p45 H.f45 (s0:=s) (K:=EscK s) ?_
 unfold T45_0 T45_1
 refine ⟨fun h=>by subst h;exact EscK.no rfl,fun h=>?_⟩
 cases s with
 | nil=>exact absurd rfl h
 | cons c r=>
  have lit :∀{n:Nat} (_:n<256),(UInt8.ofNat n).toNat=n:=by intro n hn;simp;omega
  unfold T45_2
  refine ⟨c,rfl,?_⟩
  have t4:T45_4 prog (EscK (c::r)) (c::r) (c.toNat:Int) (decide (c.toNat=34∨c.toNat=92)):=by
   unfold T45_4
   refine ⟨fun h1=>⟨c,rfl,by simp,?_⟩,fun h1=>?_⟩
   ·have h1:=of_decide_eq_true h1
    exact EscK.yes (show (if c.toNat=34∨c.toNat=92 then some (c,r) else _)=some (c,r) from if_pos h1) rfl
   ·have h1:=of_decide_eq_false h1
    have e0:esc (c::r)=if c.toNat=110 then some (10,r) else if c.toNat=120 then esx r else none:=by
     show (if c.toNat=34∨c.toNat=92 then some (c,r) else if c.toNat=110 then some (10,r) else if c.toNat=120 then esx r else none)=_
     rw [if_neg h1]
    refine ⟨fun h2=>⟨by simp,?_⟩,fun h2=>⟨fun h3=>?_,fun h3=>?_⟩⟩
    ·exact EscK.yes (by rw [e0,if_pos (by omega)];rfl) rfl
    ·have e:esc (c::r)=esx r:=by rw [e0,if_neg (by omega),if_pos (by omega)]
     refine ⟨fun h4=>?_,fun h4=>?_⟩
     ·refine EscK.no ?_
      rw [e]
      match r,h4 with
      | [],_=>rfl
      | [a],_=>rfl
      | a::b::r',h4=>simp at h4;omega
     ·match r,h4,e with
      | [],h4,_=>exact absurd (by simp) h4
      | [a],h4,_=>exact absurd (by simp) h4
      | a::b::r',_,e=>
       have la:=dv_lt (b:=16) (by omega) a
       have lb:=dv_lt (b:=16) (by omega) b
       have ca:Pus prog 43 [.s DIG,.i .u8 (a.toNat:Int)] (.i .i64 (dv 16 a)):=c43 H DIG a
       have cb:Pus prog 43 [.s DIG,.i .u8 (b.toNat:Int)] (.i .i64 (dv 16 b)):=c43 H DIG b
       refine ⟨a,rfl,_,ca,b,rfl,_,cb,by simp,?_⟩
       simp only [esx] at e
       by_cases hv:0≤dv 16 a∧0≤dv 16 b
       ·have hw:IntKind.u8.wrap (IntKind.i64.wrap ((IntKind.i64.wrap (16*dv 16 a))+dv 16 b))=16*dv 16 a+dv 16 b:=by
         rw [wr_i64 (z:=16*dv 16 a) (by omega) (by omega),wr_i64 (by omega) (by omega),wr_u8 (by omega) (by omega)]
        have en:=lit (n:=(16*dv 16 a+dv 16 b).toNat) (by omega)
        rw [hw]
        refine ⟨fun _=>⟨fun _=>⟨fun h5=>⟨fun h6=>?_,fun h6=>?_⟩,fun h5=>?_⟩,fun h5=>absurd hv.2 h5⟩,fun h5=>absurd hv.1 h5⟩
        ·rw [if_pos ⟨hv.1,hv.2,by omega,by omega⟩] at e
         exact EscK.yes e (by rw [en];omega)
        ·by_cases h7:126<16*dv 16 a+dv 16 b
         ·rw [if_pos ⟨hv.1,hv.2,by omega,by omega⟩] at e
          rw [decide_eq_true h7]
          exact EscK.yes e (by rw [en];omega)
         ·rw [if_neg (by omega)] at e
          rw [decide_eq_false h7]
          exact EscK.no e
        ·rw [if_neg (by omega)] at e
         exact EscK.no e
       ·rw [if_neg (by omega)] at e
        exact ⟨fun h5=>⟨fun h6=>absurd ⟨h5,h6⟩ hv,fun _=>EscK.no e⟩,fun _=>EscK.no e⟩
    ·exact EscK.no (by rw [e0,if_neg (by omega),if_neg (by omega)])
  unfold T45_3
  refine ⟨fun h1=>?_,fun h1=>?_⟩
  ·rw [show decide ((c.toNat:Int)=34)=decide (c.toNat=34∨c.toNat=92) from decide_eq_decide.2 (by omega)]
   exact t4
  ·rw [show decide ((c.toNat:Int)=92)=decide (c.toNat=34∨c.toNat=92) from decide_eq_decide.2 (by omega)]
   exact t4
theorem c39 {s:Bytes} (hs:s.length≤10000000):Pus prog 39 [.s s] (.tup [.s (nxtR s).1,.s (nxtR s).2.1,.b (nxtR s).2.2]):=by
 obtain ⟨x,y,z,⟨rfl,rfl,rfl⟩,h⟩:=p39 H.f39 (s0:=s) (K:=fun x y z=>x=(nxtR s).1∧y=(nxtR s).2.1∧z=(nxtR s).2.2) (by
  have no:nxt s=none→([]:Bytes)=(nxtR s).1∧([]:Bytes)=(nxtR s).2.1∧false=(nxtR s).2.2:=by
   intro h
   unfold nxtR
   rw [h]
   exact ⟨rfl,rfl,rfl⟩
  unfold T39_0 T39_1
  refine ⟨_,_,c36 H s [34],?_⟩
  cases s with
  | nil=>
   rw [show cutp [34] []=([],false) from rfl]
   exact ⟨fun _=>no rfl,fun h=>by simp at h⟩
  | cons q s=>
   by_cases hq:q.toNat=34
   ·have hq':q=34:=u8_eq hq
    subst hq'
    have ec:cutp [34] (34::s)=(s,true):=by unfold cutp;rw [if_pos (show List.take ([34]:Bytes).length (34::s)=[34] from rfl)];rfl
    rw [ec]
    refine ⟨fun h=>by simp at h,fun _ P hP=>?_⟩
    have hn:nxt (34::s)=nxtB (s.length+1) [] s:=by
     simp only [nxt]
     rw [if_pos hq]
    have key :∀n b r,r.length<n→b.length+r.length≤10000000→nxtB n b r=nxt (34::s)→P r b:=by
     intro n
     induction n with
     | zero=>intro b r h;exact absurd h (Nat.not_lt_zero _)
     | succ n ih=>
      intro b r hr hb hx
      apply hP
      unfold T39_2
      cases r with
      | nil=>exact ⟨fun h=>absurd rfl h,fun _=>no (by rw [← hx];rfl)⟩
      | cons c r=>
       simp only [nxtB] at hx
       refine ⟨fun _=>⟨c,rfl,by simp,fun h1=>?_,fun h1=>⟨fun h2=>?_,fun h2=>⟨fun h3=>?_,fun h3=>⟨fun h4=>?_,fun h4=>?_⟩⟩⟩⟩,fun h=>absurd (by simp) h⟩
       ·rw [if_pos (by omega)] at hx
        unfold nxtR
        rw [← hx]
        exact ⟨rfl,rfl,rfl⟩
       ·refine no ?_
        rw [← hx,if_neg (by omega),show one (c::r)=none by simp only [one];rw [if_pos (by omega)]]
       ·refine no ?_
        rw [← hx,if_neg (by omega),show one (c::r)=none by simp only [one];rw [if_pos (by omega)]]
       ·rw [if_neg (by omega),show one (c::r)=esc r by simp only [one];rw [if_neg (by omega),if_pos (by omega)]] at hx
        obtain ⟨a,r',ok,hk,hp⟩:=c45 H r
        refine ⟨a,r',ok,hp,fun h5=>?_,fun h5=>?_⟩
        ·unfold EscK at hk
         cases he:esc r with
         | none=>rw [he] at hx;exact no hx.symm
         | some p=>
          rw [he] at hk
          obtain ⟨_,_,hk⟩:=hk
          rw [hk] at h5
          exact absurd h5 (by decide)
        ·unfold EscK at hk
         cases he:esc r with
         | none=>
          rw [he] at hk
          simp only at hk
          rw [hk] at h5
          exact absurd h5 (by decide)
         | some p=>
          obtain ⟨u,v⟩:=p
          rw [he] at hk hx
          obtain ⟨h6,h7,h8⟩:=hk
          simp only at hx h6 h7
          subst h6;subst h7
          have hl:r'.length<(c::r).length:=one_len (c:=u) (by simp only [one];rw [if_neg (by omega),if_pos (by omega)];exact he)
          simp only [List.length_cons] at hl hb hr
          unfold T39_3
          refine ⟨u,rfl,⟨?_,?_⟩,ih _ _ (by omega) ?_ hx⟩
          ·simp only [List.length_cons,List.length_nil,maxBytes_eq];omega
          ·simp only [List.length_cons,List.length_nil,maxBytes_eq];omega
          ·simp only [List.length_append,List.length_cons,List.length_nil];omega
       ·rw [if_neg (by omega),show one (c::r)=some (c,r) by simp only [one];rw [if_neg (by omega),if_neg (by omega)]] at hx
        simp only [List.length_cons] at hb hr
        unfold T39_3
        refine ⟨c,rfl,⟨?_,?_⟩,ih _ _ (show r.length<n by omega) ?_ hx⟩
        ·simp only [List.length_cons,List.length_nil,maxBytes_eq];omega
        ·simp only [List.length_cons,List.length_nil,maxBytes_eq];omega
        ·simp only [List.drop_succ_cons,List.drop_zero,List.length_append,List.length_cons,List.length_nil];omega
    exact key (s.length+1) [] s (by omega) (by simp at hs ⊢;omega) hn.symm
   ·have ec:cutp [34] (q::s)=(q::s,false):=by
     unfold cutp
     rw [if_neg ?_]
     intro h
     injection h with h
     exact hq (by rw [h];rfl)
    rw [ec]
    refine ⟨fun _=>no ?_,fun h=>by simp at h⟩
    simp only [nxt]
    rw [if_neg hq])
 exact h
theorem c25 (s:Bytes):Pus prog 25 [.s s] (.tup [.s (unquo s).1,.i .i64 (unquo s).2]):=by
 obtain ⟨x,y,⟨rfl,rfl⟩,h⟩:=p25 H.f25 (s0:=s) (K:=fun x y=>x=(unquo s).1∧y=(unquo s).2) (by
  unfold T25_0 unquo
  refine ⟨fun h=>by rw [if_pos (by omega)];exact ⟨rfl,rfl⟩,fun hs=>⟨_,_,_,c39 H (by omega),?_⟩⟩
  rw [if_neg (by omega)]
  unfold nxtR
  cases nxt s with
  | none=>exact ⟨fun _=>⟨rfl,rfl⟩,fun h=>by simp at h⟩
  | some p=>
   obtain ⟨x,r⟩:=p
   refine ⟨fun h=>by simp at h,fun _=>⟨fun h=>?_,fun h=>?_⟩⟩
   ·cases r with
    | nil=>exact absurd rfl h
    | cons c r=>exact ⟨rfl,rfl⟩
   ·have h:r=[]:=Classical.not_not.1 h
    subst h
    refine ⟨fun h=>?_,fun h=>?_⟩
    ·simp only at h ⊢
     rw [if_pos (by omega)];exact ⟨rfl,rfl⟩
    ·simp only at h ⊢
     rw [if_neg (by omega)];exact ⟨rfl,rfl⟩)
 exact h
theorem c29 {a b:List Bytes} (ha:a.length≤1000000000):Pus prog 29 [.sl .ext (a.map rowS),.sl .ext (b.map rowS)] (.b (decide (a=b))):=by
 obtain ⟨x,rfl,h⟩:=p29 H.f29 (a0:=a) (b1:=b) (K:=fun x=>x=decide (a=b)) (by
  unfold T29_0
  refine ⟨fun h=>(decide_eq_false fun e=>h (by rw [e])).symm,fun hl P hP=>?_⟩
  have hlen:a.length=b.length:=by omega
  have key :∀m i:Nat,i+m=a.length→(∀j,j<i→a[j]?=b[j]?)→P (i:Int):=by
   intro m
   induction m with
   | zero=>
    intro i hi hj
    apply hP
    unfold T29_1 T29_2
    refine ⟨fun h=>absurd h (by omega),fun _=>(decide_eq_true ?_).symm⟩
    apply List.ext_getElem?
    intro j
    rcases Nat.lt_or_ge j i with h | h
    ·exact hj j h
    ·rw [List.getElem?_eq_none (by omega),List.getElem?_eq_none (by omega)]
   | succ m ih=>
    intro i hi hj
    have h1:i<a.length:=by omega
    have h2:i<b.length:=by omega
    apply hP
    unfold T29_1
    refine ⟨fun _=>⟨by omega,a[i],by rw [toNat_cast,List.getElem?_eq_getElem h1],by omega,b[i],by rw [toNat_cast,List.getElem?_eq_getElem h2],fun h=>?_,fun h=>?_⟩,fun h=>absurd h (by omega)⟩
    ·refine (decide_eq_false fun e=>h ?_).symm
     subst e
     rfl
    ·rw [wr_succ (by omega)]
     refine ih (i+1) (by omega) fun j hj'=>?_
     rcases Nat.lt_or_ge j i with h3 | h3
     ·exact hj j h3
     ·have:j=i:=by omega
      subst this
      rw [List.getElem?_eq_getElem h1,List.getElem?_eq_getElem h2,Classical.not_not.1 h]
  exact key a.length 0 (by omega) (by simp))
 exact h
end
end Go.AM

/- Parts of the proof. -/
namespace Go.AM
open Go
theorem unnum_rng (s:Bytes):-9223372036854775808≤(unnum s).1∧(unnum s).1<9223372036854775808:=by
 have h1:=rd_le 10 9223372036854775808 (s.drop 1)
 have h2:=rd_le 10 9223372036854775807 s
 unfold unnum
 split
 ·exact ⟨by decide,by decide⟩
 split
 ·split
  ·exact ⟨by decide,by decide⟩
  ·dsimp only
   omega
 ·dsimp only
  omega
end Go.AM

/- Parts of the proof. -/
namespace Go.AM
open Go
def eqQ (a b:Qry):Bool:=(a.kind==b.kind&&(a.g==b.g&&(a.k==b.k&&(a.key==b.key&&(a.name==b.name&&true)))))
theorem eqQ_iff {a b:Qry}:eqQ a b=true↔a=b:=by
 unfold eqQ
 simp only [Bool.and_eq_true,beq_iff_eq,Bool.and_true]
 constructor
 ·rintro ⟨h1,h2,h3,h4,h5⟩
  cases a;cases b
  simp only [Qry.mk.injEq]
  exact ⟨h1,h2,h3,h4,h5⟩
 ·rintro rfl;exact ⟨rfl,rfl,rfl,rfl,rfl⟩
def bareQ (q:Qry):Qry:=if q.kind=1 then ⟨q.kind,0,0,0,[]⟩ else if q.kind=3 then ⟨q.kind,q.g,q.k,0,[]⟩ else if q.kind=2∨q.kind=4∨q.kind=5 then ⟨q.kind,q.g,0,0,[]⟩ else if q.kind=6 then ⟨q.kind,0,0,q.key,[]⟩ else ⟨q.kind,0,0,0,q.name⟩
def rngQ (q:Qry):Bool:=decide (0≤q.g∧q.g<16)&&decide (0≤q.k∧q.k<170)&&decide (q.name.length≤16)
def okQ (q:Qry):Bool:=decide (1≤q.kind∧q.kind≤8)&&eqQ q (bareQ q)&&rngQ q
def chkQ (q:Qry):Int:=if okQ q=true then 0 else 8
theorem chkQ_iff {q:Qry}:chkQ q=0↔okQ q=true:=by unfold chkQ;cases okQ q<;>decide
def shownQ (q:Qry):Bytes:=if q.kind=1 then wordM q.kind else if q.kind=3 then wordM q.kind++(([32]++num q.g++[32])++num q.k) else if q.kind=6 then wordM q.kind++([32]++num q.key) else if q.kind=7∨q.kind=8 then wordM q.kind++([32]++quo q.name) else wordM q.kind++([32]++num q.g)
def txtQ (q:Qry):Bytes × Int:=if okQ q=true then (shownQ q,0) else ([],8)
structure OkQ (q:Qry):Prop where
 k1:1≤q.kind
 k8:q.kind≤8
 b:q=bareQ q
 g:0≤q.g∧q.g<16
 k:0≤q.k∧q.k<170
 n:q.name.length≤16
theorem okQ_iff {q:Qry}:okQ q=true↔OkQ q:=by
 unfold okQ rngQ
 simp only [Bool.and_eq_true,decide_eq_true_eq,eqQ_iff]
 exact ⟨fun ⟨⟨⟨h1,h2⟩,h3⟩,⟨h4,h5⟩,h6⟩=>⟨h1,h2,h3,h4,h5,h6⟩,fun h=>⟨⟨⟨h.k1,h.k8⟩,h.b⟩,⟨h.g,h.k⟩,h.n⟩⟩
def cutS (s:Bytes):Bytes × Bytes × Bool:=if 0≤Lib.indexByte s 32 then (s.take (Lib.indexByte s 32).toNat,s.drop (Lib.indexByte s 32+1).toNat,true) else (s,[],false)
theorem word_len {k:Int}:(wordM k).length≤10:=by
 by_cases h:1≤k∧k≤8
 ·obtain ⟨h1,h8⟩:=h
  obtain ⟨j,rfl⟩:=Int.eq_ofNat_of_zero_le (by omega:0≤k)
  have h1:1≤j:=by omega
  have h8:j≤8:=by omega
  match j,h1,h8 with
  | 1,_,_ | 2,_,_ | 3,_,_ | 4,_,_ | 5,_,_ | 6,_,_ | 7,_,_ | 8,_,_=>decide
 ·rw [wordM_no h];decide
def numQ (s:Bytes):Int × Bool:=((unnum s).1,decide ((unnum s).2=0)&&(decide (0≤(unnum s).1)&&decide ((unnum s).1<1000)))
def rdQ (kind:Int) (rest:Bytes):Qry × Bool:=
 if kind=1 then (⟨1,0,0,0,[]⟩,decide (rest=[])) else
 if kind=3 then (⟨3,(numQ (cutS rest).1).1,(numQ (cutS rest).2.1).1,0,[]⟩,(numQ (cutS rest).1).2&&((numQ (cutS rest).2.1).2&&(cutS rest).2.2)) else
 if kind=6 then (⟨6,0,0,(unnum rest).1,[]⟩,decide ((unnum rest).2=0)) else
 if kind=7∨kind=8 then (⟨kind,0,0,0,(unquo rest).1⟩,decide ((unquo rest).2=0)) else (⟨kind,(numQ rest).1,0,0,[]⟩,(numQ rest).2)
abbrev qz:Qry:=⟨0,0,0,0,[]⟩
def gotQ (s:Bytes):Qry × Bool:=rdQ (mpAt wordL (cutS s).1) (cutS s).2.1
def rdTQ (s:Bytes):Qry × Int:=if 2000<s.length then (qz,4) else if (gotQ s).2=true∧okQ (gotQ s).1=true∧shownQ (gotQ s).1=s then ((gotQ s).1,0) else (qz,12)
theorem gotQ_key (s:Bytes):-9223372036854775808≤(gotQ s).1.key∧(gotQ s).1.key<9223372036854775808:=by
 have:=unnum_rng (cutS s).2.1
 unfold gotQ rdQ
 repeat' split
 all_goals (simp only;omega)
end Go.AM

/- Parts of the proof. -/
namespace Go.AM
open Go
structure HasU (prog:Prog):Prop extends Has03 prog where
 f197:prog.fn 197=some pf197
 f243:prog.fn 243=some pf243
 f245:prog.fn 245=some pf245
 f247:prog.fn 247=some pf247
 f257:prog.fn 257=none
 f258:prog.fn 258=some pf258
 f260:prog.fn 260=some pf260
 f261:prog.fn 261=some pf261
 f266:prog.fn 266=some pf266
 f267:prog.fn 267=some pf267
 o257:prog.orac 257 []=some (.mp wordL)
theorem ib_le (s:Bytes) (c:UInt8):Lib.indexByte s c<(s.length:Int)∨s=[]:=by
 induction s with
 | nil=>exact .inr rfl
 | cons b s ih=>
  left
  rw [Lib.indexByte]
  have:(((b::s).length:Nat):Int)=(s.length:Int)+1:=by rw [List.length_cons];omega
  split
  ·omega
  ·split
   ·omega
   ·rename_i h1 h2
    rcases ih with h | h
    ·omega
    ·subst h;exact absurd rfl h2
section
variable {prog:Prog} (H:HasU prog)
include H
theorem c257:Pus prog 257 [] (.mp wordL):=⟨.mp wordL,⟨st0,1,by simp only [acall,H.f257,H.o257]⟩,by simp [AV.strip]⟩
theorem c258 {n:Int} (h1:-9223372036854775808≤n) (h2:n<9223372036854775808):Pus prog 258 [.i .i64 n] (.s (num n)):=by
 obtain ⟨x,rfl,h⟩:=p258 H.f258 (n0:=n) (K:=fun x=>x=num n) (by
  unfold T258_0
  exact ⟨_,c15 H.toHas03 h1 h2,rfl⟩)
 exact h
theorem c197 (s:Bytes) (c:UInt8):Pus prog 197 [.s s,.s [c]] (.i .i64 (Lib.indexByte s c)):=by
 obtain ⟨x,rfl,h⟩:=p197 H.f197 (s0:=s) (substr1:=[c]) (K:=fun x=>x=Lib.indexByte s c) (by
  have t3 :∀b,(b=true→s=[c])→T197_3 prog (fun x=>x=Lib.indexByte s c) s [c] (([c]:Bytes).length:Int) b:=fun b hb=>by
   unfold T197_3
   refine ⟨fun h=>?_,fun _=>⟨fun _=>⟨c,rfl,_,c47 H.toHas03 s c,rfl⟩,fun h=>absurd rfl h⟩⟩
   rw [hb h,Lib.indexByte,if_pos (by simp)]
  unfold T197_0 T197_1 T197_2
  exact ⟨fun h=>absurd h (by simp),fun _=>t3 _ fun h=>(of_decide_eq_true h).symm⟩)
 exact h
theorem c266 {s:Bytes} (hs:s.length≤1000000000):Pus prog 266 [.s s,.s [32]] (.tup [.s (cutS s).1,.s (cutS s).2.1,.b (cutS s).2.2]):=by
 obtain ⟨x,y,z,⟨rfl,rfl,rfl⟩,h⟩:=p266 H.f266 (s0:=s) (sep1:=[32]) (K:=fun x y z=>x=(cutS s).1∧y=(cutS s).2.1∧z=(cutS s).2.2) (by
  have hl:=ib_le s 32
  have hg:=Lib.indexByte_ge s 32
  unfold T266_0
  refine ⟨_,c197 H s 32,fun h=>?_,fun h=>?_⟩
  ·have hlt:Lib.indexByte s 32<(s.length:Int):=by
    rcases hl with h' | rfl
    ·exact h'
    ·exact absurd h (by decide)
   have e1:(([32]:Bytes).length:Int)=1:=rfl
   rw [e1,wr_i64 (by omega) (by omega)]
   unfold cutS
   rw [if_pos (by omega)]
   exact ⟨by omega,by omega,by omega,by omega,rfl,rfl,rfl⟩
  ·unfold cutS
   rw [if_neg (by omega)]
   exact ⟨rfl,rfl,rfl⟩)
 exact h
theorem c260 {s:Bytes} (hs:s.length≤1000000000):Pus prog 260 [.s s,.s [32]] (.tup [.s (cutS s).1,.s (cutS s).2.1,.b (cutS s).2.2]):=by
 obtain ⟨x,y,z,⟨rfl,rfl,rfl⟩,h⟩:=p260 H.f260 (s0:=s) (sep1:=[32]) (K:=fun x y z=>x=(cutS s).1∧y=(cutS s).2.1∧z=(cutS s).2.2) (by
  unfold T260_0
  exact ⟨_,_,_,c266 H hs,rfl,rfl,rfl⟩)
 exact h
theorem c267 (s:Bytes):Pus prog 267 [.s s] (.tup [.i .i64 (numQ s).1,.b (numQ s).2]):=by
 obtain ⟨x,y,⟨rfl,rfl⟩,h⟩:=p267 H.f267 (s0:=s) (K:=fun x y=>x=(numQ s).1∧y=(numQ s).2) (by
  unfold T267_0 numQ
  refine ⟨_,_,c21 H.toHas03 s,fun h=>⟨fun h1=>⟨rfl,?_⟩,fun h1=>⟨rfl,?_⟩⟩,fun h=>⟨rfl,?_⟩⟩
  ·rw [decide_eq_true h,decide_eq_true (p:=0≤(unnum s).1) (by omega)];rfl
  ·rw [decide_eq_true h,decide_eq_false (p:=0≤(unnum s).1) (by omega)];rfl
  ·rw [decide_eq_false h];rfl)
 exact h
theorem c261 {kind:Int} {rest:Bytes} (hr:rest.length≤1000000000):Pus prog 261 [.i .u8 kind,.s rest] (.tup [(rdQ kind rest).1.av,.b (rdQ kind rest).2]):=by
 obtain ⟨x,y,⟨rfl,rfl⟩,h⟩:=p261 H.f261 (kind0:=kind) (rest1:=rest) (K:=fun x y=>x=(rdQ kind rest).1∧y=(rdQ kind rest).2) (by
  have t7 :∀(K:Qry→Bool→Prop) (ok is:Bool) (e:Int) (m q:Qry),K q (ok&&(is&&decide (e=0)))→T261_7 prog K ok is e m q:=fun K ok is e m q hk=>by
   unfold T261_7
   refine ⟨fun h=>⟨fun h'=>?_,fun h'=>?_⟩,fun h=>?_⟩
   ·rw [h,h'] at hk;exact hk
   ·rw [h,h'] at hk;exact hk
   ·rw [h] at hk;exact hk
  unfold T261_0 T261_1 T261_2 T261_3 T261_4 T261_5 T261_6
  refine ⟨fun h=>?_,fun h1=>⟨fun h=>?_,fun h3=>⟨fun h=>?_,fun h6=>⟨fun h=>?_,fun h7=>?_⟩⟩⟩⟩
  ·have h:=of_decide_eq_true h
   refine t7 _ _ _ _ _ _ ?_
   unfold rdQ
   rw [if_pos h,h]
   exact ⟨rfl,by simp⟩
  ·have h1:=of_decide_eq_false h1
   have hc1:(cutS rest).1.length≤1000000000:=by unfold cutS;split<;>simp<;>omega
   refine ⟨_,_,_,c260 H hr,_,_,c267 H _,_,_,c267 H _,fun hi=>t7 _ _ _ _ _ _ ?_,fun hi=>t7 _ _ _ _ _ _ ?_⟩
   ·unfold rdQ
    rw [if_neg h1,if_pos h,h,hi]
    exact ⟨rfl,by simp⟩
   ·unfold rdQ
    rw [if_neg h1,if_pos h,h,hi]
    exact ⟨rfl,by simp⟩
  ·have h1:=of_decide_eq_false h1
   refine ⟨_,_,c21 H.toHas03 rest,t7 _ _ _ _ _ _ ?_⟩
   unfold rdQ
   rw [if_neg h1,if_neg h3,if_pos h,h]
   exact ⟨rfl,by simp⟩
  ·have h1:=of_decide_eq_false h1
   unfold T261_8
   refine ⟨fun _=>⟨_,_,c25 H.toHas03 rest,t7 _ _ _ _ _ _ ?_⟩,fun h'=>absurd h (of_decide_eq_false h')⟩
   unfold rdQ
   rw [if_neg h1,if_neg h3,if_neg h6,if_pos (.inl h)]
   exact ⟨rfl,by simp⟩
  ·have h1:=of_decide_eq_false h1
   unfold T261_8
   refine ⟨fun h=>⟨_,_,c25 H.toHas03 rest,t7 _ _ _ _ _ _ ?_⟩,fun h=>⟨_,_,c267 H rest,t7 _ _ _ _ _ _ ?_⟩⟩
   ·have h:=of_decide_eq_true h
    unfold rdQ
    rw [if_neg h1,if_neg h3,if_neg h6,if_pos (.inr h)]
    exact ⟨rfl,by simp⟩
   ·have h:=of_decide_eq_false h
    unfold rdQ
    rw [if_neg h1,if_neg h3,if_neg h6,if_neg (by omega)]
    exact ⟨rfl,by simp⟩)
 exact h
theorem fin_chk {q b:Qry} {K:Int→Prop} (hb:bareQ q=b) (hk:1≤q.kind∧q.kind≤8) (h:K (chkQ q)) :
  ((!(eqQ q b))=true→K 8)∧((!(eqQ q b))=false→(q.g<0→K 8)∧(¬(q.g<0)→(q.g≥16→K 8)∧(¬(q.g≥16)→(q.k<0→K 8)∧(¬(q.k<0)→(q.k≥170→K 8)∧(¬(q.k≥170)→((q.name.length:Int)>16→K 8)∧(¬((q.name.length:Int)>16)→K 0)))))):=by
 have e:okQ q=(eqQ q b&&rngQ q):=by unfold okQ;rw [decide_eq_true hk,hb];rfl
 have no:okQ q=false→K 8:=fun h'=>by unfold chkQ at h;rw [h'] at h;exact h
 refine ⟨fun h1=>no ?_,fun h1=>?_⟩
 ·rw [e,show eqQ q b=false by simpa using h1];rfl
 have h1:eqQ q b=true:=by simpa using h1
 rw [h1,Bool.true_and] at e
 unfold rngQ at e
 refine ⟨fun h2=>no ?_,fun h2=>⟨fun h3=>no ?_,fun h3=>⟨fun h4=>no ?_,fun h4=>⟨fun h5=>no ?_,fun h5=>⟨fun h6=>no ?_,fun h6=>?_⟩⟩⟩⟩⟩
 ·rw [e,decide_eq_false (by omega)];rfl
 ·rw [e,decide_eq_false (by omega)];rfl
 ·rw [e,decide_eq_false (p:=0≤q.k∧_) (by omega)];simp
 ·rw [e,decide_eq_false (p:=0≤q.k∧_) (by omega)];simp
 ·rw [e,decide_eq_false (p:=q.name.length≤16) (by omega)];simp
 ·rw [decide_eq_true (by omega),decide_eq_true (by omega),decide_eq_true (by omega)] at e
  unfold chkQ at h
  rw [e] at h
  exact h
end
end Go.AM

/- Parts of the proof. -/
namespace Go.AM
open Go
theorem bare_1 {q:Qry} (h:q.kind=1):bareQ q=⟨q.kind,0,0,0,[]⟩:=by unfold bareQ;rw [if_pos h]
theorem bare_3 {q:Qry} (h:q.kind=3):bareQ q=⟨q.kind,q.g,q.k,0,[]⟩:=by unfold bareQ;rw [if_neg (by omega),if_pos h]
theorem bare_g {q:Qry} (h:q.kind=2∨q.kind=4∨q.kind=5):bareQ q=⟨q.kind,q.g,0,0,[]⟩:=by unfold bareQ;rw [if_neg (by omega),if_neg (by omega),if_pos h]
theorem bare_6 {q:Qry} (h:q.kind=6):bareQ q=⟨q.kind,0,0,q.key,[]⟩:=by unfold bareQ;rw [if_neg (by omega),if_neg (by omega),if_neg (by omega),if_pos h]
theorem bare_n {q:Qry} (h:q.kind=7∨q.kind=8):bareQ q=⟨q.kind,0,0,0,q.name⟩:=by unfold bareQ;rw [if_neg (by omega),if_neg (by omega),if_neg (by omega),if_neg (by omega)]
theorem chk_no {q:Qry} (h:¬(1≤q.kind∧q.kind≤8)):chkQ q=8:=by unfold chkQ okQ;rw [decide_eq_false h];rfl
section
variable {prog:Prog} (H:HasU prog)
include H
theorem c247 (q:Qry):Pus prog 247 [q.av] (.i .i64 (chkQ q)):=by
 obtain ⟨x,rfl,h⟩:=p247 H.f247 (q0:=q) (K:=fun x=>x=chkQ q) (by
  have fin :∀b,bareQ q=b→1≤q.kind∧q.kind≤8→T247_3 prog (fun x=>x=chkQ q) q b:=fun b hb hk=>by
   unfold T247_3
   exact fin_chk H (K:=fun x=>x=chkQ q) hb hk rfl
  have t4 :∀t,(t=true↔q.kind=2∨q.kind=4∨q.kind=5)→q.kind≠1→q.kind≠3→T247_4 prog (fun x=>x=chkQ q) q.kind t q ⟨q.kind,0,0,0,[]⟩:=fun t ht h1 h3=>by
   unfold T247_4 T247_5
   refine ⟨fun h=>fin _ (bare_g (ht.1 h)) (by have:=ht.1 h;omega),fun h=>?_⟩
   have hg:¬(q.kind=2∨q.kind=4∨q.kind=5):=fun h'=>by rw [ht.2 h'] at h;cases h
   refine ⟨fun h6=>fin _ (bare_6 h6) (by omega),fun h6=>⟨fun h7=>⟨fun _=>fin _ (bare_n (.inl h7)) (by omega),fun h'=>absurd h7 (of_decide_eq_false h')⟩,fun h7=>⟨fun h'=>fin _ (bare_n (.inr (of_decide_eq_true h'))) (by have:=of_decide_eq_true h';omega),fun h'=>?_⟩⟩⟩
   have h8:=of_decide_eq_false h'
   exact (chk_no (by omega)).symm
  unfold T247_0 T247_1 T247_2
  refine ⟨fun h=>fin _ (bare_1 h) (by omega),fun h1=>⟨fun h=>fin _ (bare_3 h) (by omega),fun h3=>⟨fun h=>t4 _ (by rw [decide_eq_true_eq];omega) h1 h3,fun h2=>⟨fun h=>t4 _ (by rw [decide_eq_true_eq];omega) h1 h3,fun h4=>t4 _ (by rw [decide_eq_true_eq];omega) h1 h3⟩⟩⟩⟩)
 exact h
theorem c243 {q:Qry} (hk:-9223372036854775808≤q.key∧q.key<9223372036854775808):Pus prog 243 [q.av] (.tup [.s (txtQ q).1,.i .i64 (txtQ q).2]):=by
 obtain ⟨x,y,⟨rfl,rfl⟩,h⟩:=p243 H.f243 (q0:=q) (K:=fun x y=>x=(txtQ q).1∧y=(txtQ q).2) (by
  unfold T243_0 T243_1
  refine ⟨_,c247 H q,fun h=>?_,fun h=>?_⟩
  ·have h':¬okQ q=true:=fun e=>h (chkQ_iff.2 e)
   unfold txtQ chkQ
   rw [if_neg h',if_neg h']
   exact ⟨rfl,rfl⟩
  have ho:okQ q=true:=chkQ_iff.1 (Decidable.not_not.1 h)
  have et:txtQ q=(shownQ q,0):=by unfold txtQ;rw [if_pos ho]
  rw [et]
  obtain ⟨k1,k8,_,hg,hk',hn⟩:=okQ_iff.1 ho
  have l1:=word_len (k:=q.kind)
  have l2:=num_len q.g
  have l3:=num_len q.k
  have l4:=num_len q.key
  have l5:=quo_len q.name
  have t4 :∀t,q.kind≠1→q.kind≠3→q.kind≠6→(t=true↔q.kind=7∨q.kind=8)→T243_4 prog (fun x y=>x=shownQ q∧y=0) (wordM q.kind) t q:=fun t h1 h3 h6 ht=>by
   unfold T243_4 T243_3
   have eq:quoR q.name=(quo q.name,0):=by unfold quoR;rw [if_neg (by omega)]
   refine ⟨fun h=>⟨_,_,c11 H.toHas03 q.name,fun h'=>?_,fun _=>⟨?_,?_,?_,rfl⟩⟩,fun h=>⟨_,c258 H (by omega) (by omega),?_,?_,?_,rfl⟩⟩
   case refine_1=>rw [eq] at h';exact absurd rfl h'
   case refine_4=>
    have:=ht.1 h
    unfold shownQ
    rw [if_neg h1,if_neg h3,if_neg h6,if_pos this,eq]
   case refine_7=>
    have:¬(q.kind=7∨q.kind=8):=fun h'=>by rw [ht.2 h'] at h;cases h
    unfold shownQ
    rw [if_neg h1,if_neg h3,if_neg h6,if_neg this]
   all_goals (rw [maxStr_eq];(try rw [eq]);simp only [List.length_append,List.length_cons,List.length_nil];omega)
  unfold T243_2
  refine ⟨fun h1=>?_,fun h1=>⟨fun h3=>⟨_,c258 H (by omega) (by omega),?_,?_,_,c258 H (by omega) (by omega),?_,?_,?_⟩,fun h3=>⟨fun h6=>⟨_,c15 H.toHas03 hk.1 hk.2,?_,?_,?_⟩,fun h6=>⟨fun h7=>t4 _ h1 h3 h6 (by rw [decide_eq_true_eq];omega),fun h7=>t4 _ h1 h3 h6 (by rw [decide_eq_true_eq];omega)⟩⟩⟩⟩
  case refine_1=>
   unfold T243_3 shownQ
   rw [if_pos h1]
   exact ⟨rfl,rfl⟩
  case refine_6=>
   unfold T243_3 shownQ
   rw [if_neg h1,if_pos h3]
   exact ⟨rfl,rfl⟩
  case refine_9=>
   unfold T243_3 shownQ
   rw [if_neg h1,if_neg h3,if_pos h6]
   exact ⟨rfl,rfl⟩
  all_goals (rw [maxStr_eq];simp only [List.length_append,List.length_cons,List.length_nil];omega))
 exact h
theorem c245 (s:Bytes):Pus prog 245 [.s s] (.tup [(rdTQ s).1.av,.i .i64 (rdTQ s).2]):=by
 obtain ⟨x,y,⟨rfl,rfl⟩,h⟩:=p245 H.f245 (s0:=s) (K:=fun x y=>x=(rdTQ s).1∧y=(rdTQ s).2) (by
  unfold T245_0
  refine ⟨fun h=>?_,fun h=>?_⟩
  ·unfold rdTQ
   rw [if_pos (by omega)]
   exact ⟨rfl,rfl⟩
  have hl:¬2000<s.length:=by omega
  have hr:(cutS s).2.1.length≤1000000000:=by unfold cutS;split<;>simp<;>omega
  have no:¬((gotQ s).2=true∧okQ (gotQ s).1=true∧shownQ (gotQ s).1=s)→rdTQ s=(qz,12):=fun h=>by
   unfold rdTQ
   rw [if_neg hl,if_neg h]
  refine ⟨_,_,_,c260 H (by omega),_,c257 H,_,_,c261 H hr,fun h=>?_,fun h=>⟨_,_,c243 H (gotQ_key s),fun h'=>?_,fun h'=>⟨fun h2=>?_,fun h2=>?_⟩⟩⟩
  ·have h:(!(gotQ s).2)=true:=h
   rw [no fun h'=>by rw [h'.1] at h;cases h]
   exact ⟨rfl,rfl⟩
  ·have h':(txtQ (gotQ s).1).2≠0:=h'
   rw [no fun h2=>by unfold txtQ at h';rw [if_pos h2.2.1] at h';exact h' rfl]
   exact ⟨rfl,rfl⟩
  ·have h':¬(txtQ (gotQ s).1).2≠0:=h'
   have h2:(txtQ (gotQ s).1).1≠s:=h2
   rw [no fun h3=>by unfold txtQ at h2;rw [if_pos h3.2.1] at h2;exact h2 h3.2.2]
   exact ⟨rfl,rfl⟩
  ·have h:(!(gotQ s).2)=false:=h
   have h':¬(txtQ (gotQ s).1).2≠0:=h'
   have h2:¬(txtQ (gotQ s).1).1≠s:=h2
   have ho:okQ (gotQ s).1=true:=by
    rcases Bool.eq_false_or_eq_true (okQ (gotQ s).1) with e | e
    ·exact e
    ·unfold txtQ at h'
     rw [e] at h'
     exact absurd (show (8:Int)≠0 by decide) h'
   unfold txtQ at h2
   rw [if_pos ho] at h2
   unfold rdTQ
   rw [if_neg hl,if_pos ⟨by simpa using h,ho,Decidable.not_not.1 h2⟩]
   exact ⟨rfl,rfl⟩)
 exact h
end
end Go.AM

/- Parts of the proof. -/
namespace Go.AM
open Go
section
variable {f:Bytes→Val × Bool × Bytes} {kind:Int} {e:UInt8}
end
theorem len0 {α:Type} {l:List α} (h:l.length=0):l=[]:=List.length_eq_zero_iff.1 h
theorem fine_ok {v:Val} (h:fine v=true):okv 130 v=true∧v.nodes≤5000:=by
 simpa [fine] using h
noncomputable def sameV (v w:Val):Bool:=@decide (v=w) (Classical.propDecidable _)
theorem sameV_true {v w:Val}:sameV v w=true↔v=w:=by unfold sameV;simp
theorem sameV_false {v w:Val}:sameV v w=false↔v≠w:=by
 rw [← Bool.not_eq_true,sameV_true]
end Go.AM

/- Parts of the proof. -/
namespace Go.AM
open Go
theorem bv_split {x m c:BitVec 64} (h:x &&& ~~~m=c):x=c ||| (x &&& m):=by
 subst h
 apply BitVec.eq_of_getLsbD_eq
 intro i hi
 simp only [BitVec.getLsbD_or,BitVec.getLsbD_and,BitVec.getLsbD_not,hi,decide_true,Bool.true_and]
 cases x.getLsbD i<;>cases m.getLsbD i<;>rfl
theorem bv_two (x:BitVec 64) (i:Nat):x &&& BitVec.twoPow 64 i=BitVec.twoPow 64 i∨x &&& BitVec.twoPow 64 i=0#64:=by
 rw [BitVec.and_twoPow]
 split
 ·exact .inl rfl
 ·exact .inr rfl
theorem wrap_toNat (x:BitVec 64):IntKind.u64.wrap (x.toNat:Int)=(x.toNat:Int):=wr_u64_nat x.isLt
theorem ofInt_toNat {f:Int} (h:0≤f∧f<18446744073709551616):f=((BitVec.ofInt 64 f).toNat:Int):=by
 rw [BitVec.toNat_ofInt];omega
theorem flag2 {f:Int} (h:0≤f∧f<18446744073709551616):bAndNot .u64 f 4=2↔f=2∨f=6:=by
 constructor
 ·intro h1
  have h1:IntKind.u64.wrap ((BitVec.ofInt 64 f &&& ~~~(BitVec.ofInt 64 4)).toNat:Int)=2:=h1
  rw [wrap_toNat] at h1
  have h2:BitVec.ofInt 64 f &&& ~~~(BitVec.ofInt 64 4)=2#64:=BitVec.eq_of_toNat_eq (by rw [show (2#64).toNat=2 from rfl];omega)
  have h3:=bv_split h2
  rw [show BitVec.ofInt 64 4=BitVec.twoPow 64 2 from by decide] at h3
  rcases bv_two (BitVec.ofInt 64 f) 2 with h4 | h4<;>rw [h4] at h3<;>have h5:=ofInt_toNat h<;>rw [h3] at h5
  ·exact .inr h5
  ·exact .inl h5
 ·rintro (rfl | rfl)<;>decide
theorem flag0 {f:Int} (h:0≤f∧f<18446744073709551616):bAndNot .u64 f 5=0↔f=0∨f=1∨f=4∨f=5:=by
 constructor
 ·intro h1
  have h1:IntKind.u64.wrap ((BitVec.ofInt 64 f &&& ~~~(BitVec.ofInt 64 5)).toNat:Int)=0:=h1
  rw [wrap_toNat] at h1
  have h2:BitVec.ofInt 64 f &&& ~~~(BitVec.ofInt 64 5)=0#64:=BitVec.eq_of_toNat_eq (by rw [show (0#64).toNat=0 from rfl];omega)
  have h3:=bv_split h2
  have e:BitVec.ofInt 64 f &&& BitVec.ofInt 64 5=(BitVec.ofInt 64 f &&& BitVec.twoPow 64 2) ||| (BitVec.ofInt 64 f &&& BitVec.twoPow 64 0):=by
   rw [show BitVec.ofInt 64 5=BitVec.twoPow 64 2 ||| BitVec.twoPow 64 0 from by decide]
   apply BitVec.eq_of_getLsbD_eq
   intro i hi
   simp only [BitVec.getLsbD_or,BitVec.getLsbD_and]
   cases (BitVec.ofInt 64 f).getLsbD i<;>rfl
  rw [e] at h3
  have h5:=ofInt_toNat h
  rcases bv_two (BitVec.ofInt 64 f) 2 with h4 | h4<;>rcases bv_two (BitVec.ofInt 64 f) 0 with h6 | h6<;>rw [h4,h6] at h3<;>rw [h3] at h5
  ·exact .inr (.inr (.inr h5))
  ·exact .inr (.inr (.inl h5))
  ·exact .inr (.inl h5)
  ·exact .inl h5
 ·rintro (rfl | rfl | rfl | rfl)<;>decide
def tExit:Bytes:=[101,120,105,116]
def tPan:Bytes:=[112,97,110,105,99,32]
def tRec:Bytes:=[32,114,101,99,111,118,101,114,101,100]
def tAb:Bytes:=[32,97,98,111,114,116,101,100]
def tF1:Bytes:=[102,97,117,108,116,32,49,58,32,100,105,118,105,115,105,111,110,32,98,121,32,122,101,114,111]
def tF2:Bytes:=[102,97,117,108,116,32,50,58,32,110,105,108,32,112,111,105,110,116,101,114]
def tF3:Bytes:=[102,97,117,108,116,32,51,58,32,111,117,116,32,111,102,32,114,97,110,103,101]
def faultT (n:Int):Bytes:=if n=1 then tF1 else if n=2 then tF2 else if n=3 then tF3 else []
def kindT (t:Int):Int:=if t=1 then 2 else if t=2 then 1 else if t=3 then 3 else if t=4 then 2 else 0
structure WfP (p:Pan):Prop where
 t:0≤p.tag∧p.tag<18446744073709551616
 v:Wf p.value
 f:0≤p.flags∧p.flags<18446744073709551616
def isZ (v:Val):Bool:=decide (v.kind=0)&&decide (v.int=0)&&decide (v.text=[])&&decide (v.list.length=0)&&!v.cut
theorem isZ_true {v:Val}:isZ v=true↔v=vz:=by
 unfold isZ
 simp only [Bool.and_eq_true,decide_eq_true_eq,Bool.not_eq_true',and_assoc,List.length_eq_zero_iff]
 cases v with
 | mk k n s l c=>simp
def okP (p:Pan):Bool:=decide (p.tag≤4)&&decide (p.value.kind=kindT p.tag)&&(if p.tag=0 then isZ p.value&&decide (p.flags=2∨p.flags=6)
 else decide (p.flags=0∨p.flags=1∨p.flags=4∨p.flags=5)&&decide (p.tag=4→1≤p.value.int∧p.value.int≤3)&&fine p.value)
def chkP (p:Pan):Int:=if okP p=true then 0 else 8
def baseP (p:Pan):Bytes:=if p.tag=0 then tExit else if p.tag=4 then faultT p.value.int else tPan++txt p.value
def sufP (f:Int):Bytes:=(if f % 2=1 then tRec else [])++(if 4≤f then tAb else [])
def shown (p:Pan):Bytes:=baseP p++sufP p.flags
def lnP (p:Pan):Bytes × Int:=if okP p=true then (shown p,0) else ([],8)
end Go.AM

/- Parts of the proof. -/
namespace Go.AM
open Go
theorem okP_flags {p:Pan} (h:okP p=true):(p.tag=0∧p.value=vz∧(p.flags=2∨p.flags=6))∨(p.tag≠0∧fine p.value=true∧(p.flags=0∨p.flags=1∨p.flags=4∨p.flags=5)):=by
 unfold okP at h
 simp only [Bool.and_eq_true,decide_eq_true_eq] at h
 obtain ⟨⟨h1,h2⟩,h3⟩:=h
 by_cases t0:p.tag=0
 ·rw [if_pos t0] at h3
  simp only [Bool.and_eq_true,decide_eq_true_eq] at h3
  exact .inl ⟨t0,isZ_true.1 h3.1,h3.2⟩
 ·rw [if_neg t0] at h3
  simp only [Bool.and_eq_true,decide_eq_true_eq] at h3
  exact .inr ⟨t0,h3.2,h3.1.1⟩
theorem txt_small {v:Val} (h:fine v=true) (hk:v.kind=1∨v.kind=2∨v.kind=3):(txt v).length≤300:=by
 have h7:=okv_head (fine_ok h).1
 unfold Val.okh Okh at h7
 have h8:=num_len v.int
 have h9:=quo_len v.text
 rw [txt_eq]
 rcases hk with h | h | h<;>rw [h]
 ·rw [if_pos rfl];split<;>decide
 ·show (num v.int).length≤300;omega
 ·show (quo v.text).length≤300;omega
theorem okP_kind {p:Pan} (h:okP p=true) (h0:p.tag≠0):p.value.kind=1∨p.value.kind=2∨p.value.kind=3:=by
 have hf:fine p.value=true:=by rcases okP_flags h with h | h;exact absurd h.1 h0;exact h.2.1
 unfold okP at h
 simp only [Bool.and_eq_true,decide_eq_true_eq] at h
 have h2:=h.1.2
 have h7:=okv_head (fine_ok hf).1
 unfold Val.okh Okh at h7
 unfold kindT at h2
 repeat' split at h2
 all_goals omega
theorem shown_len {p:Pan} (h:okP p=true):(shown p).length≤400:=by
 have hs:(sufP p.flags).length≤18:=by unfold sufP;split<;>split<;>decide
 have hb:(baseP p).length≤310:=by
  unfold baseP
  by_cases t0:p.tag=0
  ·rw [if_pos t0];decide
  rw [if_neg t0]
  split
  ·unfold faultT;repeat' split
   all_goals decide
  ·have hf:fine p.value=true:=by rcases okP_flags h with h | h;exact absurd h.1 t0;exact h.2.1
   have:=txt_small hf (okP_kind h t0)
   rw [List.length_append,show tPan.length=6 from rfl];omega
 unfold shown
 rw [List.length_append];omega
end Go.AM
