/- Parts of the proof: U40a, U40b, U40c, U40d, U40e, U44a, U44b, H44, U44c, S3. -/
import Derived.Test.YtbcdfamilcmjnaaGreatG2
import Derived.Test.YtbcdfamilcmjnaaGreatG1
import Derived.Maps.RangeRun
set_option linter.all false
/- Parts of the proof. -/
namespace Go.AM
open Go
set_option linter.unusedVariables false
set_option linter.unusedSimpArgs false
set_option maxRecDepth 4000
attribute [local irreducible] WO fillCells fillRows
abbrev H215 (Q:AE→Sl→St→Prop)(K:LB→Prop):Prop:=∀(σ:Sl)(st:St)(k0:Key)(v0:Nat)(res0:LB),σ 0=.p k0 v0 0→lk st.bx k0=some (v0,List.map AV.s res0)→res0.length=9→K res0→Q .ret σ st
section
variable {prog:Prog}{d:Nat}{Q:AE→Sl→St→Prop}{K:LB→Prop}(hQ:H215 Q K){σ:Sl}{st:St}
include hQ
end
def r216_0:List AI:=[oC 2 (.s [])]
def r216_1:List AI:=[oM 3 0,oQ 4 15 [3],oM 2 4]
abbrev b216:AC:=(sR 0 r216_0 (sR 1 r216_1 .ret))
def pf216:AF:={ nt:=5,res:=[.tmp 2],body:=b216 }
def T216_0 (prog:Prog)(K:BS→Prop)(n0:Int):Prop:=
  ∃c,Pus prog 15 [.i .i64 n0] (.s c)∧K c
section
variable {prog:Prog}{d:Nat}{Q:AE→Sl→St→Prop}{K:BS→Prop}(hQ:H1 AV.s 2 Q K){σ:Sl}{st:St}
include hQ
variable {n0:Int}
variable (H0:σ 0=.i .i64 n0)
include H0 in
theorem w216_0 (h:T216_0 prog K n0):W prog d (sR 0 r216_0 (sR 1 r216_1 .ret)) σ st Q:=
 q_ J (m_ (e_ (q_ J (m_ (h.elim fun _ c=>ca_ (sc1 H0 J) c.1 (m_ (er_ (hQ J c.2))))))))
end
theorem p216 {prog:Prog}(hf:prog.fn 216=some pf216){n0:Int}{K:BS→Prop}(h:T216_0 prog K n0) :∃res0:BS,K res0∧Pus prog 216 [.i .i64 n0] (.s res0):=
 P1 hf J (w216_0 (h1 J fun _=>J) J h)
abbrev H223 (Q:AE→Sl→St→Prop)(K:LB→Prop):Prop:=∀(σ:Sl)(st:St)(o0:Own)(res0:LB),σ 0=.sl o0 (List.map rowS res0)→K res0→Q .ret σ st
section
variable {prog:Prog}{d:Nat}{Q:AE→Sl→St→Prop}{K:LB→Prop}(hQ:H223 Q K){σ:Sl}{st:St}
include hQ
end
abbrev H226 (Q:AE→Sl→St→Prop)(K:BS→Prop):Prop:=∀(σ:Sl)(st:St)(res0:BS),σ 2=.s res0→K res0→Q .ret σ st
section
variable {prog:Prog}{d:Nat}{Q:AE→Sl→St→Prop}{K:BS→Prop}(hQ:H226 Q K){σ:Sl}{st:St}
include hQ
end
abbrev H209 (Q:AE→Sl→St→Prop)(K:BS→Int→Prop):Prop:=∀(σ:Sl)(st:St)(res0:BS)(res1:Int),σ 2=.s res0→σ 3=.i .i64 res1→K res0 res1→Q .ret σ st
section
variable {prog:Prog}{d:Nat}{Q:AE→Sl→St→Prop}{K:BS→Int→Prop}(hQ:H209 Q K){σ:Sl}{st:St}
include hQ
end
abbrev H210 (Q:AE→Sl→St→Prop)(K:BS→Int→Prop):Prop:=∀(σ:Sl)(st:St)(res0:BS)(res1:Int),σ 2=.s res0→σ 3=.i .i64 res1→K res0 res1→Q .ret σ st
section
variable {prog:Prog}{d:Nat}{Q:AE→Sl→St→Prop}{K:BS→Int→Prop}(hQ:H210 Q K){σ:Sl}{st:St}
include hQ
end
abbrev H211 (Q:AE→Sl→St→Prop)(K:Int→Int→Prop):Prop:=∀(σ:Sl)(st:St)(res0:Int)(res1:Int),σ 2=.i .u8 res0→σ 3=.i .i64 res1→K res0 res1→Q .ret σ st
section
variable {prog:Prog}{d:Nat}{Q:AE→Sl→St→Prop}{K:Int→Int→Prop}(hQ:H211 Q K){σ:Sl}{st:St}
include hQ
end
abbrev H212 (Q:AE→Sl→St→Prop)(K:Int→Int→Prop):Prop:=∀(σ:Sl)(st:St)(res0:Int)(res1:Int),σ 2=.i .u8 res0→σ 3=.i .i64 res1→K res0 res1→Q .ret σ st
section
variable {prog:Prog}{d:Nat}{Q:AE→Sl→St→Prop}{K:Int→Int→Prop}(hQ:H212 Q K){σ:Sl}{st:St}
include hQ
end
def r236_0:List AI:=[oI 4 0]
def r236_1:List AI:=[oM 6 0,oJ 7 6,oI 8 0]
def r236_2:List AI:=[oT 9 .lss 8 7]
def r236_3:List AI:=[oM 10 8,oM 5 10]
def r236_4:List AI:=[oM 11 1,oM 12 0,oM 13 5,oX 14 5 12 13,oK 15 5 14,oO 16 (.callv (.t 11) [(.t 15)])]
def r236_5:List AI:=[oM 17 5,oM 4 17]
def r236_6:List AI:=[oV 18 .add 8 1,oM 8 18]
def r236_7:List AI:=[oI 4 (-1)]
abbrev l236_0:AC:=(sR 2 r236_2 (.seq (.cond (.t 9) .skip (.exit 0)) (.seq (.block 1 (sR 3 r236_3 (sR 4 r236_4 (.cond (.t 16) (sR 5 r236_5 .ret) .skip)))) (.reg 6 r236_6))))
abbrev c236_1:AC:=(sR 7 r236_7 .ret)
abbrev b236:AC:=(sR 0 r236_0 (.seq (sR 1 r236_1 (.block 0 (.loop l236_0))) c236_1))
def pf236:AF:={ nt:=19,res:=[.tmp 4],body:=b236 }
abbrev I236_0 (prog:Prog)(d:Nat)(Q:AE→Sl→St→Prop)(st0:St)(s0:List Rou)(f1:Nat × List AV)(t7:Int)(t8:Int):Prop:=
  ∀(σ:Sl)(st:St)(o_s0:Own),σ 0=.sl o_s0 (List.map Rou.row s0)→σ 1=.fn f1.1 f1.2→σ 7=.i .i64 t7→σ 8=.i .i64 t8→Fr d (d,0) st0.bx st0.ow st.bx st.ow→W prog d (.loop l236_0) σ st (blockW 0 (thenW prog d c236_1 Q))
def T236_2 (prog:Prog)(K:Int→Prop) :Prop:=
  K (-1)
def T236_1 (prog:Prog)(K:Int→Prop)(P0:Int→Prop)(s0:List Rou)(f1:Nat × List AV)(t7:Int)(t8:Int):Prop:=
  (t8<t7→0≤t8∧∃e:Rou,s0[(t8).toNat]?=some e∧∃c,(PuN prog f1.1 ([e.av]++f1.2) (fun r=>r=.b c))∧(c=true→K t8)∧(c=false→P0 (IntKind.i64.wrap (t8+1))))∧(¬(t8<t7)→T236_2 prog K )
def T236_0 (prog:Prog)(K:Int→Prop)(s0:List Rou)(f1:Nat × List AV):Prop:=
  ∀P0:Int→Prop,(∀(t8:Int),T236_1 prog K P0 s0 f1 (s0.length:Int) t8→P0 t8)→P0 0
section
variable {prog:Prog}{d:Nat}{Q:AE→Sl→St→Prop}{K:Int→Prop}{st0:St}(hQ:HF d st0 (AV.i .i64) 4 Q K){σ:Sl}{st:St}
include hQ
variable {s0:List Rou}{f1:Nat × List AV}{t7 t8:Int}{P0:Int→Prop}{o_s0:Own}
variable (kP0 :∀(t8:Int),P0 t8→I236_0 prog d Q st0 s0 f1 t7 t8)(H0:σ 0=.sl o_s0 (List.map Rou.row s0))(H1:σ 1=.fn f1.1 f1.2)(H7:σ 7=.i .i64 t7)(H8:σ 8=.i .i64 t8)(FR:Fr d (d,0) st0.bx st0.ow st.bx st.ow)
include FR in
theorem w236_2 (h:T236_2 prog K ):W prog d c236_1 σ st Q:=
 q_ J (m_ (er_ (hQ J FR h)))
include kP0 H0 H1 H7 H8 FR in
theorem w236_1 (h:T236_1 prog K P0 s0 f1 t7 t8):W prog d l236_0 σ st (thenW prog d (.loop l236_0) (blockW 0 (thenW prog d c236_1 Q))):=
 q_ J (b_ H8 H7 lss_ (e_ (sq_ (cs_ J (fun c=>sk_ (sq_ (bk_ (q_ J (m_ (m_ (e_ (q_ J (m_ (s_mvL H0 (m_ ((h.1 c).2.elim fun o j=>ia_ J H8 (h.1 c).1 j.1 (Rou.row_eq o) J (lf_ J J J (j.2.elim fun _ e=>s_callV H1 (sec J sen) (e.1) (fun _ k=>e_ (cb_ J (fun i=>q_ J (m_ (m_ (er_ (hQ H8 (Fr.raw FR k) (e.2.1 i)))))) (fun i=>sk_ (W.reg0 J fun _ _=>b_ H8 J add_ (m_ (e_ (kP0 _ (e.2.2 i) _ _ _ H0 H1 H7 J (Fr.raw FR k)))))))))))))))))))))) (fun c=>ex_ (w236_2 hQ FR (h.2 c)))))))
include H0 H1 FR in
theorem w236_0 (h:T236_0 prog K s0 f1):W prog d (sR 0 r236_0 (.seq (sR 1 r236_1 (.block 0 (.loop l236_0))) c236_1)) σ st Q:=
 q_ J (m_ (e_ (sq_ (q_ J (s_mvL H0 (ll_ J (m_ (e_ (bk_ (h (I236_0 prog d Q st0 s0 f1 (s0.length:Int)) (fun _ hb _ _ _ H0 H1 H7 H8 FR=>W.loop (w236_1 hQ (fun _ x=>x) H0 H1 H7 H8 FR hb)) _ _ _ H0 H1 J J FR))))))))))
end
theorem p236 {prog:Prog}(hf:prog.fn 236=some pf236){s0:List Rou}{f1:Nat × List AV}{K:Int→Prop}(h:T236_0 prog K s0 f1)(o_s0:Own):PuN prog 236 [.sl o_s0 (List.map Rou.row s0),.fn f1.1 f1.2] (fun r=>∃res0:Int,(r=.i .i64 res0)∧K res0):=
 PF hf J J fun d st Q q=>w236_0 q J J Fr.refl h
def r237_0:List AI:=[oI 4 0]
def r237_1:List AI:=[oM 6 0,oJ 7 6,oI 8 0]
def r237_2:List AI:=[oT 9 .lss 8 7]
def r237_3:List AI:=[oM 10 8,oM 5 10]
def r237_4:List AI:=[oM 11 1,oM 12 0,oM 13 5,oX 14 4 12 13,oK 15 4 14,oO 16 (.callv (.t 11) [(.t 15)])]
def r237_5:List AI:=[oM 17 5,oM 4 17]
def r237_6:List AI:=[oV 18 .add 8 1,oM 8 18]
def r237_7:List AI:=[oI 4 (-1)]
abbrev l237_0:AC:=(sR 2 r237_2 (.seq (.cond (.t 9) .skip (.exit 0)) (.seq (.block 1 (sR 3 r237_3 (sR 4 r237_4 (.cond (.t 16) (sR 5 r237_5 .ret) .skip)))) (.reg 6 r237_6))))
abbrev c237_1:AC:=(sR 7 r237_7 .ret)
abbrev b237:AC:=(sR 0 r237_0 (.seq (sR 1 r237_1 (.block 0 (.loop l237_0))) c237_1))
def pf237:AF:={ nt:=19,res:=[.tmp 4],body:=b237 }
abbrev I237_0 (prog:Prog)(d:Nat)(Q:AE→Sl→St→Prop)(st0:St)(s0:List Frm)(f1:Nat × List AV)(t7:Int)(t8:Int):Prop:=
  ∀(σ:Sl)(st:St)(o_s0:Own),σ 0=.sl o_s0 (List.map Frm.row s0)→σ 1=.fn f1.1 f1.2→σ 7=.i .i64 t7→σ 8=.i .i64 t8→Fr d (d,0) st0.bx st0.ow st.bx st.ow→W prog d (.loop l237_0) σ st (blockW 0 (thenW prog d c237_1 Q))
def T237_2 (prog:Prog)(K:Int→Prop) :Prop:=
  K (-1)
def T237_1 (prog:Prog)(K:Int→Prop)(P0:Int→Prop)(s0:List Frm)(f1:Nat × List AV)(t7:Int)(t8:Int):Prop:=
  (t8<t7→0≤t8∧∃e:Frm,s0[(t8).toNat]?=some e∧∃c,(PuN prog f1.1 ([e.av]++f1.2) (fun r=>r=.b c))∧(c=true→K t8)∧(c=false→P0 (IntKind.i64.wrap (t8+1))))∧(¬(t8<t7)→T237_2 prog K )
def T237_0 (prog:Prog)(K:Int→Prop)(s0:List Frm)(f1:Nat × List AV):Prop:=
  ∀P0:Int→Prop,(∀(t8:Int),T237_1 prog K P0 s0 f1 (s0.length:Int) t8→P0 t8)→P0 0
section
variable {prog:Prog}{d:Nat}{Q:AE→Sl→St→Prop}{K:Int→Prop}{st0:St}(hQ:HF d st0 (AV.i .i64) 4 Q K){σ:Sl}{st:St}
include hQ
variable {s0:List Frm}{f1:Nat × List AV}{t7 t8:Int}{P0:Int→Prop}{o_s0:Own}
variable (kP0 :∀(t8:Int),P0 t8→I237_0 prog d Q st0 s0 f1 t7 t8)(H0:σ 0=.sl o_s0 (List.map Frm.row s0))(H1:σ 1=.fn f1.1 f1.2)(H7:σ 7=.i .i64 t7)(H8:σ 8=.i .i64 t8)(FR:Fr d (d,0) st0.bx st0.ow st.bx st.ow)
include FR in
theorem w237_2 (h:T237_2 prog K ):W prog d c237_1 σ st Q:=
 q_ J (m_ (er_ (hQ J FR h)))
include kP0 H0 H1 H7 H8 FR in
theorem w237_1 (h:T237_1 prog K P0 s0 f1 t7 t8):W prog d l237_0 σ st (thenW prog d (.loop l237_0) (blockW 0 (thenW prog d c237_1 Q))):=
 q_ J (b_ H8 H7 lss_ (e_ (sq_ (cs_ J (fun c=>sk_ (sq_ (bk_ (q_ J (m_ (m_ (e_ (q_ J (m_ (s_mvL H0 (m_ ((h.1 c).2.elim fun o j=>ia_ J H8 (h.1 c).1 j.1 (Frm.row_eq o) J (lf_ J J J (j.2.elim fun _ e=>s_callV H1 (sec J sen) (e.1) (fun _ k=>e_ (cb_ J (fun i=>q_ J (m_ (m_ (er_ (hQ H8 (Fr.raw FR k) (e.2.1 i)))))) (fun i=>sk_ (W.reg0 J fun _ _=>b_ H8 J add_ (m_ (e_ (kP0 _ (e.2.2 i) _ _ _ H0 H1 H7 J (Fr.raw FR k)))))))))))))))))))))) (fun c=>ex_ (w237_2 hQ FR (h.2 c)))))))
include H0 H1 FR in
theorem w237_0 (h:T237_0 prog K s0 f1):W prog d (sR 0 r237_0 (.seq (sR 1 r237_1 (.block 0 (.loop l237_0))) c237_1)) σ st Q:=
 q_ J (m_ (e_ (sq_ (q_ J (s_mvL H0 (ll_ J (m_ (e_ (bk_ (h (I237_0 prog d Q st0 s0 f1 (s0.length:Int)) (fun _ hb _ _ _ H0 H1 H7 H8 FR=>W.loop (w237_1 hQ (fun _ x=>x) H0 H1 H7 H8 FR hb)) _ _ _ H0 H1 J J FR))))))))))
end
theorem p237 {prog:Prog}(hf:prog.fn 237=some pf237){s0:List Frm}{f1:Nat × List AV}{K:Int→Prop}(h:T237_0 prog K s0 f1)(o_s0:Own):PuN prog 237 [.sl o_s0 (List.map Frm.row s0),.fn f1.1 f1.2] (fun r=>∃res0:Int,(r=.i .i64 res0)∧K res0):=
 PF hf J J fun d st Q q=>w237_0 q J J Fr.refl h
def r238_0:List AI:=[oI 4 0]
def r238_1:List AI:=[oM 6 0,oJ 7 6,oI 8 0]
def r238_2:List AI:=[oT 9 .lss 8 7]
def r238_3:List AI:=[oM 10 8,oM 5 10]
def r238_4:List AI:=[oM 11 1,oM 12 0,oM 13 5,oX 14 8 12 13,oK 15 8 14,oO 16 (.callv (.t 11) [(.t 15)])]
def r238_5:List AI:=[oM 17 5,oM 4 17]
def r238_6:List AI:=[oV 18 .add 8 1,oM 8 18]
def r238_7:List AI:=[oI 4 (-1)]
abbrev l238_0:AC:=(sR 2 r238_2 (.seq (.cond (.t 9) .skip (.exit 0)) (.seq (.block 1 (sR 3 r238_3 (sR 4 r238_4 (.cond (.t 16) (sR 5 r238_5 .ret) .skip)))) (.reg 6 r238_6))))
abbrev c238_1:AC:=(sR 7 r238_7 .ret)
abbrev b238:AC:=(sR 0 r238_0 (.seq (sR 1 r238_1 (.block 0 (.loop l238_0))) c238_1))
def pf238:AF:={ nt:=19,res:=[.tmp 4],body:=b238 }
abbrev I238_0 (prog:Prog)(d:Nat)(Q:AE→Sl→St→Prop)(st0:St)(s0:List Dfr)(f1:Nat × List AV)(t7:Int)(t8:Int):Prop:=
  ∀(σ:Sl)(st:St)(o_s0:Own),σ 0=.sl o_s0 (List.map Dfr.row s0)→σ 1=.fn f1.1 f1.2→σ 7=.i .i64 t7→σ 8=.i .i64 t8→Fr d (d,0) st0.bx st0.ow st.bx st.ow→W prog d (.loop l238_0) σ st (blockW 0 (thenW prog d c238_1 Q))
def T238_2 (prog:Prog)(K:Int→Prop) :Prop:=
  K (-1)
def T238_1 (prog:Prog)(K:Int→Prop)(P0:Int→Prop)(s0:List Dfr)(f1:Nat × List AV)(t7:Int)(t8:Int):Prop:=
  (t8<t7→0≤t8∧∃e:Dfr,s0[(t8).toNat]?=some e∧∃c,(PuN prog f1.1 ([e.av]++f1.2) (fun r=>r=.b c))∧(c=true→K t8)∧(c=false→P0 (IntKind.i64.wrap (t8+1))))∧(¬(t8<t7)→T238_2 prog K )
def T238_0 (prog:Prog)(K:Int→Prop)(s0:List Dfr)(f1:Nat × List AV):Prop:=
  ∀P0:Int→Prop,(∀(t8:Int),T238_1 prog K P0 s0 f1 (s0.length:Int) t8→P0 t8)→P0 0
section
variable {prog:Prog}{d:Nat}{Q:AE→Sl→St→Prop}{K:Int→Prop}{st0:St}(hQ:HF d st0 (AV.i .i64) 4 Q K){σ:Sl}{st:St}
include hQ
variable {s0:List Dfr}{f1:Nat × List AV}{t7 t8:Int}{P0:Int→Prop}{o_s0:Own}
variable (kP0 :∀(t8:Int),P0 t8→I238_0 prog d Q st0 s0 f1 t7 t8)(H0:σ 0=.sl o_s0 (List.map Dfr.row s0))(H1:σ 1=.fn f1.1 f1.2)(H7:σ 7=.i .i64 t7)(H8:σ 8=.i .i64 t8)(FR:Fr d (d,0) st0.bx st0.ow st.bx st.ow)
include FR in
theorem w238_2 (h:T238_2 prog K ):W prog d c238_1 σ st Q:=
 q_ J (m_ (er_ (hQ J FR h)))
include kP0 H0 H1 H7 H8 FR in
theorem w238_1 (h:T238_1 prog K P0 s0 f1 t7 t8):W prog d l238_0 σ st (thenW prog d (.loop l238_0) (blockW 0 (thenW prog d c238_1 Q))):=
 q_ J (b_ H8 H7 lss_ (e_ (sq_ (cs_ J (fun c=>sk_ (sq_ (bk_ (q_ J (m_ (m_ (e_ (q_ J (m_ (s_mvL H0 (m_ ((h.1 c).2.elim fun o j=>ia_ J H8 (h.1 c).1 j.1 (Dfr.row_eq o) J (lf_ J J J (j.2.elim fun _ e=>s_callV H1 (sec J sen) (e.1) (fun _ k=>e_ (cb_ J (fun i=>q_ J (m_ (m_ (er_ (hQ H8 (Fr.raw FR k) (e.2.1 i)))))) (fun i=>sk_ (W.reg0 J fun _ _=>b_ H8 J add_ (m_ (e_ (kP0 _ (e.2.2 i) _ _ _ H0 H1 H7 J (Fr.raw FR k)))))))))))))))))))))) (fun c=>ex_ (w238_2 hQ FR (h.2 c)))))))
include H0 H1 FR in
theorem w238_0 (h:T238_0 prog K s0 f1):W prog d (sR 0 r238_0 (.seq (sR 1 r238_1 (.block 0 (.loop l238_0))) c238_1)) σ st Q:=
 q_ J (m_ (e_ (sq_ (q_ J (s_mvL H0 (ll_ J (m_ (e_ (bk_ (h (I238_0 prog d Q st0 s0 f1 (s0.length:Int)) (fun _ hb _ _ _ H0 H1 H7 H8 FR=>W.loop (w238_1 hQ (fun _ x=>x) H0 H1 H7 H8 FR hb)) _ _ _ H0 H1 J J FR))))))))))
end
theorem p238 {prog:Prog}(hf:prog.fn 238=some pf238){s0:List Dfr}{f1:Nat × List AV}{K:Int→Prop}(h:T238_0 prog K s0 f1)(o_s0:Own):PuN prog 238 [.sl o_s0 (List.map Dfr.row s0),.fn f1.1 f1.2] (fun r=>∃res0:Int,(r=.i .i64 res0)∧K res0):=
 PF hf J J fun d st Q q=>w238_0 q J J Fr.refl h
def r239_0:List AI:=[oI 4 0]
def r239_1:List AI:=[oM 6 0,oJ 7 6,oI 8 0]
def r239_2:List AI:=[oT 9 .lss 8 7]
def r239_3:List AI:=[oM 10 8,oM 5 10]
def r239_4:List AI:=[oM 11 1,oM 12 0,oM 13 5,oX 14 7 12 13,oK 15 7 14,oO 16 (.callv (.t 11) [(.t 15)])]
def r239_5:List AI:=[oM 17 5,oM 4 17]
def r239_6:List AI:=[oV 18 .add 8 1,oM 8 18]
def r239_7:List AI:=[oI 4 (-1)]
abbrev l239_0:AC:=(sR 2 r239_2 (.seq (.cond (.t 9) .skip (.exit 0)) (.seq (.block 1 (sR 3 r239_3 (sR 4 r239_4 (.cond (.t 16) (sR 5 r239_5 .ret) .skip)))) (.reg 6 r239_6))))
abbrev c239_1:AC:=(sR 7 r239_7 .ret)
abbrev b239:AC:=(sR 0 r239_0 (.seq (sR 1 r239_1 (.block 0 (.loop l239_0))) c239_1))
def pf239:AF:={ nt:=19,res:=[.tmp 4],body:=b239 }
abbrev I239_0 (prog:Prog)(d:Nat)(Q:AE→Sl→St→Prop)(st0:St)(s0:List Pan)(f1:Nat × List AV)(t7:Int)(t8:Int):Prop:=
  ∀(σ:Sl)(st:St)(o_s0:Own),σ 0=.sl o_s0 (List.map Pan.row s0)→σ 1=.fn f1.1 f1.2→σ 7=.i .i64 t7→σ 8=.i .i64 t8→Fr d (d,0) st0.bx st0.ow st.bx st.ow→W prog d (.loop l239_0) σ st (blockW 0 (thenW prog d c239_1 Q))
def T239_2 (prog:Prog)(K:Int→Prop) :Prop:=
  K (-1)
def T239_1 (prog:Prog)(K:Int→Prop)(P0:Int→Prop)(s0:List Pan)(f1:Nat × List AV)(t7:Int)(t8:Int):Prop:=
  (t8<t7→0≤t8∧∃e:Pan,s0[(t8).toNat]?=some e∧∃c,(PuN prog f1.1 ([e.av]++f1.2) (fun r=>r=.b c))∧(c=true→K t8)∧(c=false→P0 (IntKind.i64.wrap (t8+1))))∧(¬(t8<t7)→T239_2 prog K )
def T239_0 (prog:Prog)(K:Int→Prop)(s0:List Pan)(f1:Nat × List AV):Prop:=
  ∀P0:Int→Prop,(∀(t8:Int),T239_1 prog K P0 s0 f1 (s0.length:Int) t8→P0 t8)→P0 0
section
variable {prog:Prog}{d:Nat}{Q:AE→Sl→St→Prop}{K:Int→Prop}{st0:St}(hQ:HF d st0 (AV.i .i64) 4 Q K){σ:Sl}{st:St}
include hQ
variable {s0:List Pan}{f1:Nat × List AV}{t7 t8:Int}{P0:Int→Prop}{o_s0:Own}
variable (kP0 :∀(t8:Int),P0 t8→I239_0 prog d Q st0 s0 f1 t7 t8)(H0:σ 0=.sl o_s0 (List.map Pan.row s0))(H1:σ 1=.fn f1.1 f1.2)(H7:σ 7=.i .i64 t7)(H8:σ 8=.i .i64 t8)(FR:Fr d (d,0) st0.bx st0.ow st.bx st.ow)
include FR in
theorem w239_2 (h:T239_2 prog K ):W prog d c239_1 σ st Q:=
 q_ J (m_ (er_ (hQ J FR h)))
include kP0 H0 H1 H7 H8 FR in
theorem w239_1 (h:T239_1 prog K P0 s0 f1 t7 t8):W prog d l239_0 σ st (thenW prog d (.loop l239_0) (blockW 0 (thenW prog d c239_1 Q))):=
 q_ J (b_ H8 H7 lss_ (e_ (sq_ (cs_ J (fun c=>sk_ (sq_ (bk_ (q_ J (m_ (m_ (e_ (q_ J (m_ (s_mvL H0 (m_ ((h.1 c).2.elim fun o j=>ia_ J H8 (h.1 c).1 j.1 (Pan.row_eq o) J (lf_ J J J (j.2.elim fun _ e=>s_callV H1 (sec J sen) (e.1) (fun _ k=>e_ (cb_ J (fun i=>q_ J (m_ (m_ (er_ (hQ H8 (Fr.raw FR k) (e.2.1 i)))))) (fun i=>sk_ (W.reg0 J fun _ _=>b_ H8 J add_ (m_ (e_ (kP0 _ (e.2.2 i) _ _ _ H0 H1 H7 J (Fr.raw FR k)))))))))))))))))))))) (fun c=>ex_ (w239_2 hQ FR (h.2 c)))))))
include H0 H1 FR in
theorem w239_0 (h:T239_0 prog K s0 f1):W prog d (sR 0 r239_0 (.seq (sR 1 r239_1 (.block 0 (.loop l239_0))) c239_1)) σ st Q:=
 q_ J (m_ (e_ (sq_ (q_ J (s_mvL H0 (ll_ J (m_ (e_ (bk_ (h (I239_0 prog d Q st0 s0 f1 (s0.length:Int)) (fun _ hb _ _ _ H0 H1 H7 H8 FR=>W.loop (w239_1 hQ (fun _ x=>x) H0 H1 H7 H8 FR hb)) _ _ _ H0 H1 J J FR))))))))))
end
theorem p239 {prog:Prog}(hf:prog.fn 239=some pf239){s0:List Pan}{f1:Nat × List AV}{K:Int→Prop}(h:T239_0 prog K s0 f1)(o_s0:Own):PuN prog 239 [.sl o_s0 (List.map Pan.row s0),.fn f1.1 f1.2] (fun r=>∃res0:Int,(r=.i .i64 res0)∧K res0):=
 PF hf J J fun d st Q q=>w239_0 q J J Fr.refl h
def r224_0:List AI:=[oC 4 (.b false)]
def r224_1:List AI:=[oM 5 0,oM 6 1,oO 7 (.call true 236 [(.t 5),(.t 6)]),oV 8 .geq 7 0,oM 4 8]
abbrev b224:AC:=(sR 0 r224_0 (sR 1 r224_1 .ret))
def pf224:AF:={ nt:=9,res:=[.tmp 4],body:=b224 }
def T224_0 (prog:Prog)(K:Bool→Prop)(s0:List Rou)(f1:Nat × List AV):Prop:=
  ∃c,(∀e:Own,PuN prog 236 [.sl e (List.map Rou.row s0),.fn f1.1 f1.2] (fun r=>r=.i .i64 c))∧K (decide (c≥0))
section
variable {prog:Prog}{d:Nat}{Q:AE→Sl→St→Prop}{K:Bool→Prop}{st0:St}(hQ:HF d st0 AV.b 4 Q K){σ:Sl}{st:St}
include hQ
variable {s0:List Rou}{f1:Nat × List AV}{o_s0:Own}
variable (H0:σ 0=.sl o_s0 (List.map Rou.row s0))(H1:σ 1=.fn f1.1 f1.2)(FR:Fr d (d,0) st0.bx st0.ow st.bx st.ow)
include H0 H1 FR in
theorem w224_0 (h:T224_0 prog K s0 f1):W prog d (sR 0 r224_0 (sR 1 r224_1 .ret)) σ st Q:=
 q_ J (m_ (e_ (q_ J (s_mvL H0 (m_ (h.elim fun _ c=>s_callN (sec J (sec H1 sen)) (c.1 _) (fun _ e=>b_ J J geq_ (m_ (er_ (hQ J (Fr.raw FR e) c.2))))))))))
end
theorem p224 {prog:Prog}(hf:prog.fn 224=some pf224){s0:List Rou}{f1:Nat × List AV}{K:Bool→Prop}(h:T224_0 prog K s0 f1)(o_s0:Own):PuN prog 224 [.sl o_s0 (List.map Rou.row s0),.fn f1.1 f1.2] (fun r=>∃res0:Bool,(r=.b res0)∧K res0):=
 PF hf J J fun d st Q q=>w224_0 q J J Fr.refl h
def r227_0:List AI:=[oC 4 (.b false)]
def r227_1:List AI:=[oM 5 0,oM 6 1,oO 7 (.call true 237 [(.t 5),(.t 6)]),oV 8 .geq 7 0,oM 4 8]
abbrev b227:AC:=(sR 0 r227_0 (sR 1 r227_1 .ret))
def pf227:AF:={ nt:=9,res:=[.tmp 4],body:=b227 }
def T227_0 (prog:Prog)(K:Bool→Prop)(s0:List Frm)(f1:Nat × List AV):Prop:=
  ∃c,(∀e:Own,PuN prog 237 [.sl e (List.map Frm.row s0),.fn f1.1 f1.2] (fun r=>r=.i .i64 c))∧K (decide (c≥0))
section
variable {prog:Prog}{d:Nat}{Q:AE→Sl→St→Prop}{K:Bool→Prop}{st0:St}(hQ:HF d st0 AV.b 4 Q K){σ:Sl}{st:St}
include hQ
variable {s0:List Frm}{f1:Nat × List AV}{o_s0:Own}
variable (H0:σ 0=.sl o_s0 (List.map Frm.row s0))(H1:σ 1=.fn f1.1 f1.2)(FR:Fr d (d,0) st0.bx st0.ow st.bx st.ow)
include H0 H1 FR in
theorem w227_0 (h:T227_0 prog K s0 f1):W prog d (sR 0 r227_0 (sR 1 r227_1 .ret)) σ st Q:=
 q_ J (m_ (e_ (q_ J (s_mvL H0 (m_ (h.elim fun _ c=>s_callN (sec J (sec H1 sen)) (c.1 _) (fun _ e=>b_ J J geq_ (m_ (er_ (hQ J (Fr.raw FR e) c.2))))))))))
end
theorem p227 {prog:Prog}(hf:prog.fn 227=some pf227){s0:List Frm}{f1:Nat × List AV}{K:Bool→Prop}(h:T227_0 prog K s0 f1)(o_s0:Own):PuN prog 227 [.sl o_s0 (List.map Frm.row s0),.fn f1.1 f1.2] (fun r=>∃res0:Bool,(r=.b res0)∧K res0):=
 PF hf J J fun d st Q q=>w227_0 q J J Fr.refl h
def r229_0:List AI:=[oC 4 (.b false)]
def r229_1:List AI:=[oM 5 0,oM 6 1,oO 7 (.call true 238 [(.t 5),(.t 6)]),oV 8 .geq 7 0,oM 4 8]
abbrev b229:AC:=(sR 0 r229_0 (sR 1 r229_1 .ret))
def pf229:AF:={ nt:=9,res:=[.tmp 4],body:=b229 }
def T229_0 (prog:Prog)(K:Bool→Prop)(s0:List Dfr)(f1:Nat × List AV):Prop:=
  ∃c,(∀e:Own,PuN prog 238 [.sl e (List.map Dfr.row s0),.fn f1.1 f1.2] (fun r=>r=.i .i64 c))∧K (decide (c≥0))
section
variable {prog:Prog}{d:Nat}{Q:AE→Sl→St→Prop}{K:Bool→Prop}{st0:St}(hQ:HF d st0 AV.b 4 Q K){σ:Sl}{st:St}
include hQ
variable {s0:List Dfr}{f1:Nat × List AV}{o_s0:Own}
variable (H0:σ 0=.sl o_s0 (List.map Dfr.row s0))(H1:σ 1=.fn f1.1 f1.2)(FR:Fr d (d,0) st0.bx st0.ow st.bx st.ow)
include H0 H1 FR in
theorem w229_0 (h:T229_0 prog K s0 f1):W prog d (sR 0 r229_0 (sR 1 r229_1 .ret)) σ st Q:=
 q_ J (m_ (e_ (q_ J (s_mvL H0 (m_ (h.elim fun _ c=>s_callN (sec J (sec H1 sen)) (c.1 _) (fun _ e=>b_ J J geq_ (m_ (er_ (hQ J (Fr.raw FR e) c.2))))))))))
end
theorem p229 {prog:Prog}(hf:prog.fn 229=some pf229){s0:List Dfr}{f1:Nat × List AV}{K:Bool→Prop}(h:T229_0 prog K s0 f1)(o_s0:Own):PuN prog 229 [.sl o_s0 (List.map Dfr.row s0),.fn f1.1 f1.2] (fun r=>∃res0:Bool,(r=.b res0)∧K res0):=
 PF hf J J fun d st Q q=>w229_0 q J J Fr.refl h
def r232_0:List AI:=[oC 4 (.b false)]
def r232_1:List AI:=[oM 5 0,oM 6 1,oO 7 (.call true 239 [(.t 5),(.t 6)]),oV 8 .geq 7 0,oM 4 8]
abbrev b232:AC:=(sR 0 r232_0 (sR 1 r232_1 .ret))
def pf232:AF:={ nt:=9,res:=[.tmp 4],body:=b232 }
def T232_0 (prog:Prog)(K:Bool→Prop)(s0:List Pan)(f1:Nat × List AV):Prop:=
  ∃c,(∀e:Own,PuN prog 239 [.sl e (List.map Pan.row s0),.fn f1.1 f1.2] (fun r=>r=.i .i64 c))∧K (decide (c≥0))
section
variable {prog:Prog}{d:Nat}{Q:AE→Sl→St→Prop}{K:Bool→Prop}{st0:St}(hQ:HF d st0 AV.b 4 Q K){σ:Sl}{st:St}
include hQ
variable {s0:List Pan}{f1:Nat × List AV}{o_s0:Own}
variable (H0:σ 0=.sl o_s0 (List.map Pan.row s0))(H1:σ 1=.fn f1.1 f1.2)(FR:Fr d (d,0) st0.bx st0.ow st.bx st.ow)
include H0 H1 FR in
theorem w232_0 (h:T232_0 prog K s0 f1):W prog d (sR 0 r232_0 (sR 1 r232_1 .ret)) σ st Q:=
 q_ J (m_ (e_ (q_ J (s_mvL H0 (m_ (h.elim fun _ c=>s_callN (sec J (sec H1 sen)) (c.1 _) (fun _ e=>b_ J J geq_ (m_ (er_ (hQ J (Fr.raw FR e) c.2))))))))))
end
theorem p232 {prog:Prog}(hf:prog.fn 232=some pf232){s0:List Pan}{f1:Nat × List AV}{K:Bool→Prop}(h:T232_0 prog K s0 f1)(o_s0:Own):PuN prog 232 [.sl o_s0 (List.map Pan.row s0),.fn f1.1 f1.2] (fun r=>∃res0:Bool,(r=.b res0)∧K res0):=
 PF hf J J fun d st Q q=>w232_0 q J J Fr.refl h
end Go.AM

/- Parts of the proof. -/
namespace Go.AM
open Go
set_option linter.unusedVariables false
set_option linter.unusedSimpArgs false
set_option maxRecDepth 4000
attribute [local irreducible] WO fillCells fillRows
def r228_0:List AI:=[oY 2 4 0,oC 3 (.b false)]
def r228_1:List AI:=[oK 4 3 1,oK 5 4 2,oQ 6 86 [4,5],oV 7 .neq 6 0,oM 3 7]
abbrev b228:AC:=(sR 0 r228_0 (sR 1 r228_1 .ret))
def pf228:AF:={ nt:=8,res:=[.tmp 3],body:=b228 }
def T228_0 (prog:Prog)(K:Bool→Prop)(y0:Frm)(t1:Img):Prop:=
  ∃c,Pus prog 86 [t1.av,y0.av] (.i .i64 c)∧K (decide (c≠0))
section
variable {prog:Prog}{d:Nat}{Q:AE→Sl→St→Prop}{K:Bool→Prop}{st0:St}(hQ:HF d st0 AV.b 3 Q K){σ:Sl}{st:St}
include hQ
variable {y0:Frm}{t1:Img}
variable (H0:σ 0=y0.av)(H1:σ 1=.fp [.sl .ext (List.map Typ.row t1.types),.sl .ext (List.map rowS t1.texts),.sl .ext (List.map Fun.row t1.funcs)])(FR:Fr d (d,0) st0.bx st0.ow st.bx st.ow)
include H0 H1 FR in
theorem w228_0 (h:T228_0 prog K y0 t1):W prog d (sR 0 r228_0 (sR 1 r228_1 .ret)) σ st Q:=
 q_ J (s_box H0 J (m_ (e_ (q_ J (lf_ H1 J J (l_ J lk_here J J (h.elim fun _ c=>ca_ (sc2 J J J) c.1 (b_ J J neq_ (m_ (er_ (hQ J (Fr.box FR) c.2)))))))))))
end
theorem p228 {prog:Prog}(hf:prog.fn 228=some pf228){y0:Frm}{t1:Img}{K:Bool→Prop}(h:T228_0 prog K y0 t1):PuN prog 228 [y0.av,.fp [.sl .ext (List.map Typ.row t1.types),.sl .ext (List.map rowS t1.texts),.sl .ext (List.map Fun.row t1.funcs)]] (fun r=>∃res0:Bool,(r=.b res0)∧K res0):=
 PF hf J J fun d st Q q=>w228_0 q J J Fr.refl h
def r230_0:List AI:=[oY 3 8 0,oC 4 (.b false)]
def r230_1:List AI:=[oK 5 3 1,oL 6 2,oK 7 8 3,oQ 8 231 [5,6,7],oZ 9 8,oM 4 9]
abbrev b230:AC:=(sR 0 r230_0 (sR 1 r230_1 .ret))
def pf230:AF:={ nt:=10,res:=[.tmp 4],body:=b230 }
def T230_0 (prog:Prog)(K:Bool→Prop)(y0:Dfr)(t1:Img)(t2:Int):Prop:=
  ∃c,Pus prog 231 [t1.av,.i .i64 t2,y0.av] (.b c)∧K (!c)
section
variable {prog:Prog}{d:Nat}{Q:AE→Sl→St→Prop}{K:Bool→Prop}{st0:St}(hQ:HF d st0 AV.b 4 Q K){σ:Sl}{st:St}
include hQ
variable {y0:Dfr}{t1:Img}{t2:Int}
variable (H0:σ 0=y0.av)(H1:σ 1=.fp [.sl .ext (List.map Typ.row t1.types),.sl .ext (List.map rowS t1.texts),.sl .ext (List.map Fun.row t1.funcs)])(H2:σ 2=.fp [.i .i64 t2])(FR:Fr d (d,0) st0.bx st0.ow st.bx st.ow)
include H0 H1 H2 FR in
theorem w230_0 (h:T230_0 prog K y0 t1 t2):W prog d (sR 0 r230_0 (sR 1 r230_1 .ret)) σ st Q:=
 q_ J (s_box H0 J (m_ (e_ (q_ J (lf_ H1 J J (lf_ H2 J J (l_ J lk_here J J (h.elim fun _ c=>ca_ (sc3 J J J J) c.1 (nt_ J (m_ (er_ (hQ J (Fr.box FR) c.2))))))))))))
end
theorem p230 {prog:Prog}(hf:prog.fn 230=some pf230){y0:Dfr}{t1:Img}{t2:Int}{K:Bool→Prop}(h:T230_0 prog K y0 t1 t2):PuN prog 230 [y0.av,.fp [.sl .ext (List.map Typ.row t1.types),.sl .ext (List.map rowS t1.texts),.sl .ext (List.map Fun.row t1.funcs)],.fp [.i .i64 t2]] (fun r=>∃res0:Bool,(r=.b res0)∧K res0):=
 PF hf J J fun d st Q q=>w230_0 q J J J Fr.refl h
def r233_0:List AI:=[oY 1 7 0,oC 2 (.b false)]
def r233_1:List AI:=[oK 3 7 1,oQ 4 158 [3],oV 5 .neq 4 0,oM 2 5]
abbrev b233:AC:=(sR 0 r233_0 (sR 1 r233_1 .ret))
def pf233:AF:={ nt:=6,res:=[.tmp 2],body:=b233 }
def T233_0 (prog:Prog)(K:Bool→Prop)(y0:Pan):Prop:=
  ∃c,Pus prog 158 [y0.av] (.i .i64 c)∧K (decide (c≠0))
section
variable {prog:Prog}{d:Nat}{Q:AE→Sl→St→Prop}{K:Bool→Prop}{st0:St}(hQ:HF d st0 AV.b 2 Q K){σ:Sl}{st:St}
include hQ
variable {y0:Pan}
variable (H0:σ 0=y0.av)(FR:Fr d (d,0) st0.bx st0.ow st.bx st.ow)
include H0 FR in
theorem w233_0 (h:T233_0 prog K y0):W prog d (sR 0 r233_0 (sR 1 r233_1 .ret)) σ st Q:=
 q_ J (s_box H0 J (m_ (e_ (q_ J (l_ J lk_here J J (h.elim fun _ c=>ca_ (sc1 J J) c.1 (b_ J J neq_ (m_ (er_ (hQ J (Fr.box FR) c.2))))))))))
end
theorem p233 {prog:Prog}(hf:prog.fn 233=some pf233){y0:Pan}{K:Bool→Prop}(h:T233_0 prog K y0):PuN prog 233 [y0.av] (fun r=>∃res0:Bool,(r=.b res0)∧K res0):=
 PF hf J J fun d st Q q=>w233_0 q J Fr.refl h
def r231_0:List AI:=[oY 3 3 0,oY 5 8 2,oC 6 (.b false)]
def r231_1:List AI:=[oF 8 0 5,oL 9 8,oV 10 .lss 9 0,oM 11 10,gF 11 (oF 12 0 5),gF 11 (oL 13 12),gF 11 (oM 14 1),gF 11 (oT 15 .geq 13 14),oR 16 11 15,oM 17 16,gF 17 (oF 18 1 5),gF 17 (oL 19 18),gF 17 (oV 20 .lss 19 0),oR 21 17 20,oM 22 21,gF 22 (oF 23 1 5),gF 22 (oL 24 23),gF 22 (oF 25 2 3),gF 22 (oL 26 25),gF 22 (oJ 27 26),gF 22 (oT 28 .geq 24 27),oR 29 22 28,oM 30 29,gF 30 (oF 31 2 3),gF 30 (oL 32 31),gF 30 (oF 33 1 5),gF 30 (oL 34 33),gF 30 (oX 35 7 32 34),gF 30 (oF 36 0 35),gF 30 (oL 37 36),gF 30 (oH 38 37),gF 30 (oV 39 .gtr 38 16),oR 40 30 39]
def r231_2:List AI:=[oC 6 (.b false)]
def r231_3:List AI:=[oF 41 2 5,oL 42 41,oZ 43 42]
def r231_4:List AI:=[oF 44 3 5,oK 45 5 44,oO 7 (.alloc [z8,z6,zs,zl,zb]),oS 5 7 45]
def r231_5:List AI:=[oF 46 0 7,oL 47 46,oW 48 .eql 47 0,oM 49 48,gT 49 (oF 50 1 7),gT 49 (oL 51 50),gT 49 (oV 52 .eql 51 0),oA 53 49 52,oM 54 53,gT 54 (oF 55 2 7),gT 54 (oL 56 55),gT 54 (oB 57 .eql (.t 56) (.c (.s []))),oA 58 54 57,oM 59 58,gT 59 (oF 60 3 7),gT 59 (oL 61 60),gT 59 (oJ 62 61),gT 59 (oV 63 .eql 62 0),oA 64 59 63,oM 65 64,gT 65 (oF 66 4 7),gT 65 (oL 67 66),gT 65 (oZ 68 67),oA 69 65 68,oM 6 69]
def r231_6:List AI:=[oF 70 3 5,oF 71 0 70,oL 72 71]
def r231_7:List AI:=[oW 74 .eql 72 1,oM 73 74]
def r231_8:List AI:=[oW 75 .eql 72 2,oM 73 75]
def r231_9:List AI:=[oW 76 .eql 72 4,oM 73 76]
def r231_10:List AI:=[oF 77 3 5,oK 78 5 77,oQ 79 76 [78],oV 80 .eql 79 0,oM 6 80]
def r231_11:List AI:=[oC 6 (.b false)]
abbrev c231_0:AC:=(.cond (.t 73) (sR 10 r231_10 .ret) .skip)
abbrev c231_1:AC:=(.seq (sR 6 r231_6 (.block 0 (.seq (sR 7 r231_7 (.cond (.t 73) .skip (sR 8 r231_8 (.cond (.t 73) .skip (.reg 9 r231_9))))) c231_0))) (sR 11 r231_11 .ret))
abbrev c231_2:AC:=(.seq (sR 3 r231_3 (.cond (.t 43) (sR 4 r231_4 (sR 5 r231_5 .ret)) .skip)) c231_1)
abbrev c231_3:AC:=(.seq (sR 1 r231_1 (.cond (.t 40) (sR 2 r231_2 .ret) .skip)) c231_2)
abbrev b231:AC:=(sR 0 r231_0 c231_3)
def pf231:AF:={ nt:=81,res:=[.tmp 6],body:=b231 }
def T231_4 (prog:Prog)(K:Bool→Prop)(t73:Bool)(m1:Dfr):Prop:=
  (t73=true→∃c,Pus prog 76 [m1.arg.av] (.i .i64 c)∧K (decide (c=0)))∧(t73=false→K false)
def T231_3 (prog:Prog)(K:Bool→Prop)(m1:Dfr):Prop:=
  (m1.arg.kind=1→T231_4 prog K (decide (m1.arg.kind=1)) m1)∧(¬(m1.arg.kind=1)→(m1.arg.kind=2→T231_4 prog K (decide (m1.arg.kind=2)) m1)∧(¬(m1.arg.kind=2)→T231_4 prog K (decide (m1.arg.kind=4)) m1))
def T231_2 (prog:Prog)(K:Bool→Prop)(m1:Dfr):Prop:=
  ((!m1.hasArg)=true→(m1.arg.kind=0→(m1.arg.int=0→(m1.arg.text=([]:BS)→((m1.arg.list.length:Int)=0→K (!m1.arg.cut))∧(¬((m1.arg.list.length:Int)=0)→K false))∧(¬(m1.arg.text=([]:BS))→K false))∧(¬(m1.arg.int=0)→K false))∧(¬(m1.arg.kind=0)→K false))∧((!m1.hasArg)=false→T231_3 prog K m1)
def T231_1 (prog:Prog)(K:Bool→Prop)(frames1:Int)(m0:Img)(m1:Dfr):Prop:=
  (m1.frame<0→K false)∧(¬(m1.frame<0)→(m1.frame≥frames1→K false)∧(¬(m1.frame≥frames1)→(m1.func<0→K false)∧(¬(m1.func<0)→(m1.func≥(m0.funcs.length:Int)→K false)∧(¬(m1.func≥(m0.funcs.length:Int))→0≤m1.func∧∃c:Fun,m0.funcs[(m1.func).toNat]?=some c∧((c.name.length:Int)>16→K false)∧(¬((c.name.length:Int)>16)→T231_2 prog K m1)))))
def T231_0 (prog:Prog)(K:Bool→Prop)(m0:Img)(frames1:Int)(d2:Dfr):Prop:=
  T231_1 prog K frames1 m0 d2
section
variable {prog:Prog}{d:Nat}{Q:AE→Sl→St→Prop}{K:Bool→Prop}(hQ:H1 AV.b 6 Q K){σ:Sl}{st:St}
include hQ
variable {t73:Bool}{m1:Dfr}{v1:Nat}{frames1:Int}{m0:Img}{v0:Nat}{d2:Dfr}
variable (H0:σ 0=m0.av)(H1:σ 1=.i .i64 frames1)(H3:σ 3=.p (d,0) v0 0)(H2:σ 2=d2.av)(H5:σ 5=.p (d,1) v1 0)(H73:σ 73=.b t73)(B0:lk st.bx (d,0)=some (v0,[.sl .ext (List.map Typ.row m0.types),.sl .ext (List.map rowS m0.texts),.sl .ext (List.map Fun.row m0.funcs)]))(B1:lk st.bx (d,1)=some (v1,[.i .i64 m1.frame,.i .i64 m1.func,.b m1.hasArg,.i .u8 m1.arg.kind,.i .i64 m1.arg.int,.s m1.arg.text,.sl .ext (List.map Val.row m1.arg.list),.b m1.arg.cut]))
include H5 H73 B1 in
theorem w231_4 (h:T231_4 prog K t73 m1):W prog d c231_0 σ st (blockW 0 (thenW prog d (sR 11 r231_11 .ret) Q)):=
 cb_ H73 (fun c=>q_ J (f_ H5 (l_ J B1 J J ((h.1 c).elim fun _ e=>ca_ (sc1 J J) e.1 (b_ J J eql_ (m_ (er_ (hQ J e.2)))))))) (fun c=>sk_ (q_ J (m_ (er_ (hQ J (h.2 c))))))
include H5 B1 in
theorem w231_3 (h:T231_3 prog K m1):W prog d c231_1 σ st Q:=
 sq_ (q_ J (f_ H5 (f_ J (l_ J B1 J J (e_ (bk_ (sq_ (q_ J (b_ J J eql_ (m_ (e_ (cs_ J (fun c=>sk_ (w231_4 hQ H5 J B1 (h.1 c))) (fun c=>q_ J (b_ J J eql_ (m_ (e_ (cs_ J (fun e=>sk_ (w231_4 hQ H5 J B1 ((h.2 c).1 e))) (fun e=>W.reg0 J fun _ _=>b_ J J eql_ (m_ (e_ (w231_4 hQ H5 J B1 ((h.2 c).2 e))))))))))))))))))))))
include H5 B1 in
theorem w231_2 (h:T231_2 prog K m1):W prog d c231_2 σ st Q:=
 sq_ (q_ J (f_ H5 (l_ J B1 J J (nt_ J (e_ (cb_ J (fun c=>sq_ (W.reg (f_ H5 (l_ J (lk_other J B1) J J (s_alloc (so_ J (show lk _ (d,16386)=some (_,([.i .u8 0,.i .i64 0,.s [],.sl .full (List.map Val.row ([]:List Val)),.b false]:List AV)) from lk_here) J J J (e_ (q_ J (f_ J (l_ J lk_here J J (b_ J J eql_ (s_mvB J (em_ (g:=49) J (fun e=>gy_ J (f_ J (gy_ J (l_ J lk_here J J (gy_ J (b_ J J eql_ (z_ 2 J (em_ (g:=54) J (fun j=>gy_ J (f_ J (gy_ J (l_ J lk_here J J (gy_ J (b_ J J seq_ (z_ 2 J (em_ (g:=59) J (fun k=>gy_ J (f_ J (gy_ J (l_ J lk_here J J (gy_ J (ll_ J (gy_ J (b_ J J eql_ (z_ 2 J (em_ (g:=65) J (fun o=>gy_ J (f_ J (gy_ J (l_ J lk_here J J (gy_ J (nt_ J (z_ 2 J (er_ (hQ J (((((h.1 c).1 e).1 j).1 k).1 o)))))))))) (fun o=>z_ 5 J (er_ (hQ J (((((h.1 c).1 e).1 j).1 k).2 o)))))))))))))) (fun k=>z_ 11 J (er_ (hQ J ((((h.1 c).1 e).1 j).2 k)))))))))))) (fun j=>z_ 16 J (er_ (hQ J (((h.1 c).1 e).2 j)))))))))))) (fun e=>z_ 21 J (er_ (hQ J ((h.1 c).2 e))))))))))))))))) (fun c=>sk_ (w231_3 hQ H5 B1 (h.2 c)))))))))
include H1 H3 H5 B0 B1 in
theorem w231_1 (h:T231_1 prog K frames1 m0 m1):W prog d c231_3 σ st Q:=
 sq_ (q_ J (f_ H5 (l_ J B1 J J (b_ J J lss_ (s_mvB J (em_ (g:=11) J (fun c=>z_ 29 J (e_ (ct_ J (q_ J (m_ (er_ (hQ J (h.1 c)))))))) (fun c=>gy_ J (f_ H5 (gy_ J (l_ J B1 J J (gy_ J (s_mvI H1 (gy_ J (b_ J J geq_ (z_ 2 J (em_ (g:=17) J (fun e=>z_ 23 J (e_ (ct_ J (q_ J (m_ (er_ (hQ J ((h.2 c).1 e)))))))) (fun e=>gy_ J (f_ H5 (gy_ J (l_ J B1 J J (gy_ J (b_ J J lss_ (z_ 2 J (em_ (g:=22) J (fun i=>z_ 18 J (e_ (ct_ J (q_ J (m_ (er_ (hQ J (((h.2 c).2 e).1 i)))))))) (fun i=>gy_ J (f_ H5 (gy_ J (l_ J B1 J J (gy_ J (f_ H3 (gy_ J (l_ J B0 J J (gy_ J (ll_ J (gy_ J (b_ J J geq_ (z_ 2 J (em_ (g:=30) J (fun j=>z_ 10 J (e_ (ct_ J (q_ J (m_ (er_ (hQ J ((((h.2 c).2 e).2 i).1 j)))))))) (fun j=>gy_ J (f_ H3 (gy_ J (l_ J B0 J J (gy_ J (f_ H5 (gy_ J (l_ J B1 J J (gy_ J (((((h.2 c).2 e).2 i).2 j).2.elim fun p k=>ia_ J J ((((h.2 c).2 e).2 i).2 j).1 k.1 (Fun.row_eq p) J (gy_ J (ff_ J (gy_ J (lf_ J J J (gy_ J (ln_ J (gy_ J (b_ J J gtr_ (pf_ J J (e_ (cs_ J (fun o=>q_ J (m_ (er_ (hQ J (k.2.1 o))))) (fun o=>sk_ (w231_2 hQ H5 B1 (k.2.2 o))))))))))))))))))))))))))))))))))))))))))))))))))))))))))))))
include H0 H1 H2 in
theorem w231_0 (h:T231_0 prog K m0 frames1 d2):W prog d (sR 0 r231_0 c231_3) σ st Q:=
 q_ J (s_box H0 J (s_box H2 J (m_ (e_ (w231_1 hQ H1 J J (lk_other J lk_here) lk_here h)))))
end
theorem p231 {prog:Prog}(hf:prog.fn 231=some pf231){m0:Img}{frames1:Int}{d2:Dfr}{K:Bool→Prop}(h:T231_0 prog K m0 frames1 d2) :∃res0:Bool,K res0∧Pus prog 231 [m0.av,.i .i64 frames1,d2.av] (.b res0):=
 P1 hf J (w231_0 (h1 J fun _=>J) J J J h)
def r219_0:List AI:=[oO 2 (.boxf 3 (.t 0)),oO 3 (.boxf 5 (.t 1)),oC 4 (.b false)]
def r219_1:List AI:=[oF 8 2 3,oO 9 (.ldf 1 false (.t 8)),oJ 10 9,oF 11 3 3,oO 12 (.ldf 1 false (.t 11)),oJ 13 12,oF 14 4 3,oO 15 (.ldf 1 false (.t 14)),oJ 16 15,oO 5 (.alloc [z6]),oS 1 5 10,oM 6 13,oM 7 16]
def r219_2:List AI:=[oF 17 0 3,oL 18 17]
def r219_3:List AI:=[oW 20 .eql 18 3,oM 19 20]
def r219_4:List AI:=[oW 22 .eql 18 1,oM 21 22]
def r219_5:List AI:=[oW 24 .eql 18 2,oM 23 24]
def r219_6:List AI:=[oL 25 5,oM 26 6,oT 27 .add 25 26,oM 28 7,oT 29 .add 27 28,oV 30 .eql 29 0,oM 31 30,gT 31 (oF 32 1 3),gT 31 (oL 33 32),gT 31 (oV 34 .eql 33 0),oA 35 31 34,oM 4 35]
def r219_7:List AI:=[oF 36 1 3,oL 37 36,oV 38 .neq 37 0]
def r219_8:List AI:=[oC 4 (.b false)]
def r219_9:List AI:=[oL 39 5,oV 40 .lss 39 1,oM 41 40,gF 41 (oL 42 5),gF 41 (oV 43 .gtr 42 170),oR 44 41 43,oM 45 44,gF 45 (oM 46 6),gF 45 (oV 47 .gtr 46 410),oR 48 45 47,oM 49 48,gF 49 (oM 50 7),gF 49 (oV 51 .gtr 50 410),oR 52 49 51]
def r219_10:List AI:=[oC 4 (.b false)]
def r219_11:List AI:=[oF 53 2 3,oL 54 53,oO 55 (.mkfn 228 [(.t 2)]),oO 56 (.call true 227 [(.t 54),(.t 55)]),oZ 57 56,oM 58 57,gT 58 (oF 59 3 3),gT 58 (oL 60 59),gT 58 (oO 61 (.mkfz 230 [(.t 2)] (.t 5) [])),gT 58 (oO 62 (.call true 229 [(.t 60),(.t 61)])),gT 58 (oZ 63 62),oA 64 58 63,oM 65 64,gT 65 (oF 66 4 3),gT 65 (oL 67 66),gT 65 (oO 68 (.call true 232 [(.t 67),(.c (.fn 233 []))])),gT 65 (oZ 69 68),oA 70 65 69,oM 4 70]
def r219_12:List AI:=[oC 4 (.b false)]
abbrev c219_0:AC:=(sR 7 r219_7 (.cond (.t 38) (sR 8 r219_8 .ret) .skip))
abbrev c219_1:AC:=(sR 11 r219_11 .ret)
abbrev c219_2:AC:=(.seq (.seq (sR 9 r219_9 (.cond (.t 52) (sR 10 r219_10 .ret) .skip)) c219_1) (.exit 0))
abbrev c219_3:AC:=(sR 12 r219_12 .ret)
abbrev c219_4:AC:=(sR 1 r219_1 (.seq (sR 2 r219_2 (.block 0 (.seq (.block 3 (.seq (.block 2 (.seq (.block 1 (.seq (.seq (sR 3 r219_3 (.cond (.t 19) (.exit 1) .skip)) (.seq (sR 4 r219_4 (.cond (.t 21) (.exit 2) .skip)) (sR 5 r219_5 (.cond (.t 23) (.exit 3) .skip)))) (.exit 0))) (.seq (sR 6 r219_6 .ret) (.exit 0)))) c219_0)) c219_2))) c219_3))
abbrev b219:AC:=(sR 0 r219_0 c219_4)
def pf219:AF:={ nt:=71,res:=[.tmp 4],fz:=[2,3,1000005],body:=b219 }
def T219_4 (prog:Prog)(K:Bool→Prop)(m2_0:List Typ)(m2_1:LB)(m2_2:List Fun)(x3_0:Int)(x3_1:Int)(x3_2:List Frm)(x3_3:List Dfr)(x3_4:List Pan)(m4105:Int):Prop:=
  ∃c,(∀o:Own,PuN prog 227 [.sl o (List.map Frm.row x3_2),.fn 228 [.fp [.sl .ext (List.map Typ.row m2_0),.sl .ext (List.map rowS m2_1),.sl .ext (List.map Fun.row m2_2)]]] (fun r=>r=.b c))∧((!c)=true→∃e,(∀p:Own,PuN prog 229 [.sl p (List.map Dfr.row x3_3),.fn 230 [.fp [.sl .ext (List.map Typ.row m2_0),.sl .ext (List.map rowS m2_1),.sl .ext (List.map Fun.row m2_2)],.fp [.i .i64 m4105]]] (fun r=>r=.b e))∧((!e)=true→∃j,(∀k:Own,PuN prog 232 [.sl k (List.map Pan.row x3_4),.fn 233 []] (fun r=>r=.b j))∧K (!j))∧((!e)=false→K false))∧((!c)=false→K false)
def T219_3 (prog:Prog)(K:Bool→Prop)(m2_0:List Typ)(m2_1:LB)(m2_2:List Fun)(x3_0:Int)(x3_1:Int)(x3_2:List Frm)(x3_3:List Dfr)(x3_4:List Pan)(d6:Int)(p7:Int)(m4105:Int):Prop:=
  (m4105<1→K false)∧(¬(m4105<1)→(m4105>170→K false)∧(¬(m4105>170)→(d6>410→K false)∧(¬(d6>410)→(p7>410→K false)∧(¬(p7>410)→T219_4 prog K m2_0 m2_1 m2_2 x3_0 x3_1 x3_2 x3_3 x3_4 m4105))))
def T219_2 (prog:Prog)(K:Bool→Prop)(m2_0:List Typ)(m2_1:LB)(m2_2:List Fun)(x3_0:Int)(x3_1:Int)(x3_2:List Frm)(x3_3:List Dfr)(x3_4:List Pan)(d6:Int)(p7:Int)(m4105:Int):Prop:=
  (x3_1≠0→K false)∧(¬(x3_1≠0)→T219_3 prog K m2_0 m2_1 m2_2 x3_0 x3_1 x3_2 x3_3 x3_4 d6 p7 m4105)
def T219_5 (prog:Prog)(K:Bool→Prop) :Prop:=
  K false
def T219_1 (prog:Prog)(K:Bool→Prop)(m2_0:List Typ)(m2_1:LB)(m2_2:List Fun)(x3_0:Int)(x3_1:Int)(x3_2:List Frm)(x3_3:List Dfr)(x3_4:List Pan):Prop:=
  (x3_0=3→((IntKind.i64.wrap ((IntKind.i64.wrap ((x3_2.length:Int)+(x3_3.length:Int)))+(x3_4.length:Int)))=0→K (decide (x3_1=0)))∧(¬((IntKind.i64.wrap ((IntKind.i64.wrap ((x3_2.length:Int)+(x3_3.length:Int)))+(x3_4.length:Int)))=0)→K false))∧(¬(x3_0=3)→(x3_0=1→T219_2 prog K m2_0 m2_1 m2_2 x3_0 x3_1 x3_2 x3_3 x3_4 (x3_3.length:Int) (x3_4.length:Int) (x3_2.length:Int))∧(¬(x3_0=1)→(x3_0=2→T219_3 prog K m2_0 m2_1 m2_2 x3_0 x3_1 x3_2 x3_3 x3_4 (x3_3.length:Int) (x3_4.length:Int) (x3_2.length:Int))∧(¬(x3_0=2)→T219_5 prog K )))
def T219_0 (prog:Prog)(K:Bool→Prop)(m0:Img)(x1:Rou):Prop:=
  T219_1 prog K m0.types m0.texts m0.funcs x1.status x1.key x1.frames x1.defers x1.panics
section
variable {prog:Prog}{d:Nat}{Q:AE→Sl→St→Prop}{K:Bool→Prop}(hQ:H1 AV.b 4 Q K){σ:Sl}{st:St}
include hQ
variable {m2_0:List Typ}{m2_1:LB}{m2_2:List Fun}{x3_0 x3_1:Int}{x3_2:List Frm}{x3_3:List Dfr}{x3_4:List Pan}{m4105:Int}{v4105:Nat}{d6 p7:Int}{m0:Img}{x1:Rou}
variable (H2:σ 2=.fp [.sl .ext (List.map Typ.row m2_0),.sl .ext (List.map rowS m2_1),.sl .ext (List.map Fun.row m2_2)])(H0:σ 0=m0.av)(H3:σ 3=.fp [.i .u8 x3_0,.i .i64 x3_1,.sl .ext (List.map Frm.row x3_2),.sl .ext (List.map Dfr.row x3_3),.sl .ext (List.map Pan.row x3_4)])(H1:σ 1=x1.av)(H5:σ 5=.p (d,4105) v4105 0)(H6:σ 6=.i .i64 d6)(H7:σ 7=.i .i64 p7)(B4105:lk st.bx (d,4105)=some (v4105,[.i .i64 m4105]))
include H2 H3 H5 B4105 in
theorem w219_4 (h:T219_4 prog K m2_0 m2_1 m2_2 x3_0 x3_1 x3_2 x3_3 x3_4 m4105):W prog d c219_1 σ st (thenW prog d (.exit 0) (blockW 0 (thenW prog d c219_3 Q))):=
 q_ J (ff_ H3 (lf_ J J J (s_mkfn (sec H2 sen) (h.elim fun _ e=>s_callN (sec J (sec J sen)) (e.1 _) (fun _ o=>nt_ J (s_mvB J (eb_ (g:=58) J (fun j=>gy_ J (ff_ H3 (gy_ J (lf_ J J J (gy_ J (s_mkfz (evs_map.symm.trans (sec H2 sen)) H5 (evs_map.symm.trans sen) ((o.1 (d,4105) (Nat.lt_succ_self d) key_dn).trans B4105) J (gy_ J ((e.2.1 j).elim fun _ c=>s_callN (sec J (sec J sen)) (c.1 _) (fun _ _=>gy_ J (nt_ J (z_ 2 J (eb_ (g:=65) J (fun i=>gy_ J (ff_ H3 (gy_ J (lf_ J J J (gy_ J ((c.2.1 i).elim fun _ k=>s_callN (sec J (sec J sen)) (k.1 _) (fun _ _=>gy_ J (nt_ J (z_ 2 J (er_ (hQ J k.2))))))))))) (fun i=>z_ 6 J (er_ (hQ J (c.2.2 i)))))))))))))))) (fun j=>z_ 13 J (er_ (hQ J (e.2.2 j)))))))))))
include H2 H3 H5 H6 H7 B4105 in
theorem w219_3 (h:T219_3 prog K m2_0 m2_1 m2_2 x3_0 x3_1 x3_2 x3_3 x3_4 d6 p7 m4105):W prog d c219_2 σ st (blockW 0 (thenW prog d c219_3 Q)):=
 sq_ (sq_ (q_ J (l_ H5 B4105 J J (b_ J J lss_ (s_mvB J (em_ (g:=41) J (fun c=>z_ 11 J (e_ (ct_ J (q_ J (m_ (er_ (hQ J (h.1 c)))))))) (fun c=>gy_ J (l_ H5 B4105 J J (gy_ J (b_ J J gtr_ (z_ 2 J (em_ (g:=45) J (fun e=>z_ 7 J (e_ (ct_ J (q_ J (m_ (er_ (hQ J ((h.2 c).1 e)))))))) (fun e=>gy_ J (s_mvI H6 (gy_ J (b_ J J gtr_ (z_ 2 J (em_ (g:=49) J (fun i=>z_ 3 J (e_ (ct_ J (q_ J (m_ (er_ (hQ J (((h.2 c).2 e).1 i)))))))) (fun i=>gy_ J (s_mvI H7 (gy_ J (b_ J J gtr_ (pf_ J J (e_ (cs_ J (fun j=>q_ J (m_ (er_ (hQ J ((((h.2 c).2 e).2 i).1 j))))) (fun j=>sk_ (w219_4 hQ H2 H3 H5 B4105 ((((h.2 c).2 e).2 i).2 j))))))))))))))))))))))))))))
include H2 H3 H5 H6 H7 B4105 in
theorem w219_2 (h:T219_2 prog K m2_0 m2_1 m2_2 x3_0 x3_1 x3_2 x3_3 x3_4 d6 p7 m4105):W prog d c219_0 σ st (blockW 3 (thenW prog d c219_2 (blockW 0 (thenW prog d c219_3 Q)))):=
 q_ J (ff_ H3 (lf_ J J J (b_ J J neq_ (e_ (cs_ J (fun c=>q_ J (m_ (er_ (hQ J (h.1 c))))) (fun c=>sk_ (w219_3 hQ H2 H3 H5 H6 H7 B4105 (h.2 c))))))))
theorem w219_5 (h:T219_5 prog K ):W prog d c219_3 σ st Q:=
 q_ J (m_ (er_ (hQ J h)))
include H2 H3 in
theorem w219_1 (h:T219_1 prog K m2_0 m2_1 m2_2 x3_0 x3_1 x3_2 x3_3 x3_4):W prog d c219_4 σ st Q:=
 sq_ (W.reg (ff_ H3 (s_ldf J J J (ll_ J (ff_ H3 (s_ldf J J J (ll_ J (ff_ H3 (s_ldf J J J (ll_ J (s_alloc (so_ J (show lk _ (d,4105)=some (_,([.i .i64 0]:List AV)) from lk_here) J J J (m_ (m_ (e_ (sq_ (q_ J (ff_ H3 (lf_ J J J (e_ (bk_ (sq_ (bk_ (sq_ (bk_ (sq_ (bk_ (sq_ (sq_ (q_ J (b_ J J eql_ (m_ (e_ (cs_ J (fun c=>ex_ (sq_ (q_ J (l_ J lk_here J J (s_mvI J (b_ J J add_ (s_mvI J (b_ J J add_ (b_ J J eql_ (s_mvB J (em_ (g:=31) J (fun j=>gy_ J (ff_ H3 (gy_ J (lf_ J J J (gy_ J (b_ J J eql_ (z_ 2 J (er_ (hQ J ((h.1 c).1 j)))))))))) (fun j=>z_ 5 J (er_ (hQ J ((h.1 c).2 j))))))))))))))) (fun c=>sk_ (sq_ (q_ J (b_ J J eql_ (m_ (e_ (cs_ J (fun e=>ex_ (w219_2 hQ H2 H3 J J J lk_here ((h.2 c).1 e))) (fun e=>sk_ (q_ J (b_ J J eql_ (m_ (e_ (cs_ J (fun k=>ex_ (w219_3 hQ H2 H3 J J J lk_here (((h.2 c).2 e).1 k))) (fun k=>sk_ (ex_ (w219_5 hQ (((h.2 c).2 e).2 k)))))))))))))))))))))))))))))))))))))))))))))))))))
include H0 H1 in
theorem w219_0 (h:T219_0 prog K m0 x1):W prog d (sR 0 r219_0 c219_4) σ st Q:=
 q_ J (s_boxf H0 J J (s_boxf H1 J J (m_ (e_ (w219_1 hQ J J h)))))
end
theorem p219 {prog:Prog}(hf:prog.fn 219=some pf219){m0:Img}{x1:Rou}{K:Bool→Prop}(h:T219_0 prog K m0 x1) :∃res0:Bool,K res0∧Pus prog 219 [m0.av,x1.av] (.b res0):=
 P1 hf J (w219_0 (h1 J fun _=>J) J J h)
def r225_0:List AI:=[oY 2 5 0,oC 3 (.b false)]
def r225_1:List AI:=[oK 4 3 1,oK 5 5 2,oQ 6 219 [4,5],oZ 7 6,oM 3 7]
abbrev b225:AC:=(sR 0 r225_0 (sR 1 r225_1 .ret))
def pf225:AF:={ nt:=8,res:=[.tmp 3],body:=b225 }
def T225_0 (prog:Prog)(K:Bool→Prop)(x0:Rou)(t1:Img):Prop:=
  ∃c,Pus prog 219 [t1.av,x0.av] (.b c)∧K (!c)
section
variable {prog:Prog}{d:Nat}{Q:AE→Sl→St→Prop}{K:Bool→Prop}{st0:St}(hQ:HF d st0 AV.b 3 Q K){σ:Sl}{st:St}
include hQ
variable {x0:Rou}{t1:Img}
variable (H0:σ 0=x0.av)(H1:σ 1=.fp [.sl .ext (List.map Typ.row t1.types),.sl .ext (List.map rowS t1.texts),.sl .ext (List.map Fun.row t1.funcs)])(FR:Fr d (d,0) st0.bx st0.ow st.bx st.ow)
include H0 H1 FR in
theorem w225_0 (h:T225_0 prog K x0 t1):W prog d (sR 0 r225_0 (sR 1 r225_1 .ret)) σ st Q:=
 q_ J (s_box H0 J (m_ (e_ (q_ J (lf_ H1 J J (l_ J lk_here J J (h.elim fun _ c=>ca_ (sc2 J J J) c.1 (nt_ J (m_ (er_ (hQ J (Fr.box FR) c.2)))))))))))
end
theorem p225 {prog:Prog}(hf:prog.fn 225=some pf225){x0:Rou}{t1:Img}{K:Bool→Prop}(h:T225_0 prog K x0 t1):PuN prog 225 [x0.av,.fp [.sl .ext (List.map Typ.row t1.types),.sl .ext (List.map rowS t1.texts),.sl .ext (List.map Fun.row t1.funcs)]] (fun r=>∃res0:Bool,(r=.b res0)∧K res0):=
 PF hf J J fun d st Q q=>w225_0 q J J Fr.refl h
def r213_0:List AI:=[oO 2 (.boxf 3 (.t 0)),oY 3 4 1,oI 4 0]
def r213_1:List AI:=[oF 6 3 3,oL 7 6,oJ 8 7,oM 5 8]
def r213_2:List AI:=[oF 9 0 3,oL 10 9,oW 11 .lss 10 1,oM 12 11,gF 12 (oF 13 0 3),gF 12 (oL 14 13),gF 12 (oW 15 .gtr 14 8),oR 16 12 15,oM 17 16,gF 17 (oF 18 2 3),gF 17 (oL 19 18),gF 17 (oV 20 .lss 19 0),oR 21 17 20,oM 22 21,gF 22 (oF 23 2 3),gF 22 (oL 24 23),gF 22 (oV 25 .gtr 24 5000),oR 26 22 25,oM 27 26,gF 27 (oM 28 5),gF 27 (oV 29 .gtr 28 16),oR 30 27 29,oM 31 30,gF 31 (oF 32 1 3),gF 31 (oL 33 32),gF 31 (oV 34 .lss 33 (-1)),oR 35 31 34,oM 36 35,gF 36 (oF 37 1 3),gF 36 (oL 38 37),gF 36 (oM 39 5),gF 36 (oT 40 .geq 38 39),oR 41 36 40,oM 42 41,gF 42 (oF 43 3 3),gF 42 (oL 44 43),gF 42 (oO 45 (.mkfn 225 [(.t 2)])),gF 42 (oO 46 (.call true 224 [(.t 44),(.t 45)])),oR 47 42 46]
def r213_3:List AI:=[oI 4 8]
def r213_4:List AI:=[oI 4 0]
abbrev b213:AC:=(sR 0 r213_0 (sR 1 r213_1 (.seq (sR 2 r213_2 (.cond (.t 47) (sR 3 r213_3 .ret) .skip)) (sR 4 r213_4 .ret))))
def pf213:AF:={ nt:=48,res:=[.tmp 4],fz:=[2],body:=b213 }
def T213_0 (prog:Prog)(K:Int→Prop)(m0:Img)(s1:Sta):Prop:=
  (s1.outcome<1→K 8)∧(¬(s1.outcome<1)→(s1.outcome>8→K 8)∧(¬(s1.outcome>8)→(s1.steps<0→K 8)∧(¬(s1.steps<0)→(s1.steps>5000→K 8)∧(¬(s1.steps>5000)→((s1.routines.length:Int)>16→K 8)∧(¬((s1.routines.length:Int)>16)→(s1.failing<(-1)→K 8)∧(¬(s1.failing<(-1))→(s1.failing≥(s1.routines.length:Int)→K 8)∧(¬(s1.failing≥(s1.routines.length:Int))→∃c,(∀e:Own,PuN prog 224 [.sl e (List.map Rou.row s1.routines),.fn 225 [.fp [.sl .ext (List.map Typ.row m0.types),.sl .ext (List.map rowS m0.texts),.sl .ext (List.map Fun.row m0.funcs)]]] (fun r=>r=.b c))∧(c=true→K 8)∧(c=false→K 0))))))))
section
variable {prog:Prog}{d:Nat}{Q:AE→Sl→St→Prop}{K:Int→Prop}(hQ:H1 (AV.i .i64) 4 Q K){σ:Sl}{st:St}
include hQ
variable {m0:Img}{s1:Sta}
variable (H0:σ 0=m0.av)(H1:σ 1=s1.av)
include H0 H1 in
theorem w213_0 (h:T213_0 prog K m0 s1):W prog d (sR 0 r213_0 (sR 1 r213_1 (.seq (sR 2 r213_2 (.cond (.t 47) (sR 3 r213_3 .ret) .skip)) (sR 4 r213_4 .ret)))) σ st Q:=
 q_ J (s_boxf H0 J J (s_box H1 J (m_ (e_ (q_ J (f_ J (l_ J lk_here J J (ll_ J (m_ (e_ (sq_ (q_ J (f_ J (l_ J lk_here J J (b_ J J lss_ (s_mvB J (em_ (g:=12) J (fun c=>z_ 35 J (e_ (ct_ J (q_ J (m_ (er_ (hQ J (h.1 c)))))))) (fun c=>gy_ J (f_ J (gy_ J (l_ J lk_here J J (gy_ J (b_ J J gtr_ (z_ 2 J (em_ (g:=17) J (fun e=>z_ 30 J (e_ (ct_ J (q_ J (m_ (er_ (hQ J ((h.2 c).1 e)))))))) (fun e=>gy_ J (f_ J (gy_ J (l_ J lk_here J J (gy_ J (b_ J J lss_ (z_ 2 J (em_ (g:=22) J (fun i=>z_ 25 J (e_ (ct_ J (q_ J (m_ (er_ (hQ J (((h.2 c).2 e).1 i)))))))) (fun i=>gy_ J (f_ J (gy_ J (l_ J lk_here J J (gy_ J (b_ J J gtr_ (z_ 2 J (em_ (g:=27) J (fun j=>z_ 20 J (e_ (ct_ J (q_ J (m_ (er_ (hQ J ((((h.2 c).2 e).2 i).1 j)))))))) (fun j=>gy_ J (s_mvI J (gy_ J (b_ J J gtr_ (z_ 2 J (em_ (g:=31) J (fun k=>z_ 16 J (e_ (ct_ J (q_ J (m_ (er_ (hQ J (((((h.2 c).2 e).2 i).2 j).1 k)))))))) (fun k=>gy_ J (f_ J (gy_ J (l_ J lk_here J J (gy_ J (b_ J J lss_ (z_ 2 J (em_ (g:=36) J (fun o=>z_ 11 J (e_ (ct_ J (q_ J (m_ (er_ (hQ J ((((((h.2 c).2 e).2 i).2 j).2 k).1 o)))))))) (fun o=>gy_ J (f_ J (gy_ J (l_ J lk_here J J (gy_ J (s_mvI J (gy_ J (b_ J J geq_ (z_ 2 J (em_ (g:=42) J (fun r=>z_ 5 J (e_ (ct_ J (q_ J (m_ (er_ (hQ J (((((((h.2 c).2 e).2 i).2 j).2 k).2 o).1 r)))))))) (fun r=>gy_ J (f_ J (gy_ J (l_ J lk_here J J (gy_ J (s_mkfn (sec J sen) (gy_ J ((((((((h.2 c).2 e).2 i).2 j).2 k).2 o).2 r).elim fun _ p=>s_callN (sec J (sec J sen)) (p.1 _) (fun _ _=>pf_ J J (e_ (cb_ J (fun q=>q_ J (m_ (er_ (hQ J (p.2.1 q))))) (fun q=>sk_ (q_ J (m_ (er_ (hQ J (p.2.2 q))))))))))))))))))))))))))))))))))))))))))))))))))))))))))))))))))))))))))))))))))
end
theorem p213 {prog:Prog}(hf:prog.fn 213=some pf213){m0:Img}{s1:Sta}{K:Int→Prop}(h:T213_0 prog K m0 s1) :∃res0:Int,K res0∧Pus prog 213 [m0.av,s1.av] (.i .i64 res0):=
 P1 hf J (w213_0 (h1 J fun _=>J) J J h)
def r235_0:List AI:=[oY 3 3 0,oY 5 8 2,oC 6 (.b false)]
def r235_1:List AI:=[oF 8 0 5,oL 9 8,oV 10 .lss 9 0,oM 11 10,gF 11 (oF 12 0 5),gF 11 (oL 13 12),gF 11 (oM 14 1),gF 11 (oT 15 .geq 13 14),oR 16 11 15,oM 17 16,gF 17 (oF 18 1 5),gF 17 (oL 19 18),gF 17 (oV 20 .lss 19 0),oR 21 17 20,oM 22 21,gF 22 (oF 23 1 5),gF 22 (oL 24 23),gF 22 (oF 25 2 3),gF 22 (oL 26 25),gF 22 (oJ 27 26),gF 22 (oT 28 .geq 24 27),oR 29 22 28,oM 30 29,gF 30 (oF 31 2 3),gF 30 (oL 32 31),gF 30 (oF 33 1 5),gF 30 (oL 34 33),gF 30 (oX 35 7 32 34),gF 30 (oF 36 0 35),gF 30 (oL 37 36),gF 30 (oH 38 37),gF 30 (oV 39 .gtr 38 16),oR 40 30 39]
def r235_2:List AI:=[oC 6 (.b false)]
def r235_3:List AI:=[oF 41 2 5,oL 42 41,oZ 43 42]
def r235_4:List AI:=[oF 44 3 5,oK 45 5 44,oO 46 (.build [z8,z6,zs,zl,zb] []),oQ 47 78 [45,46],oM 6 47]
def r235_5:List AI:=[oF 48 3 5,oF 49 0 48,oL 50 49,oM 7 50]
def r235_6:List AI:=[oM 51 7,oW 52 .eql 51 1,oM 53 52,gF 53 (oM 54 7),gF 53 (oW 55 .eql 54 2),oR 56 53 55,oM 57 56,gF 57 (oM 58 7),gF 57 (oW 59 .eql 58 4),oR 60 57 59,oM 61 60,gT 61 (oF 62 3 5),gT 61 (oK 63 5 62),gT 61 (oQ 64 77 [63]),gT 61 (oV 65 .eql 64 0),oA 66 61 65,oM 6 66]
abbrev c235_0:AC:=(.seq (sR 3 r235_3 (.cond (.t 43) (sR 4 r235_4 .ret) .skip)) (sR 5 r235_5 (sR 6 r235_6 .ret)))
abbrev c235_1:AC:=(.seq (sR 1 r235_1 (.cond (.t 40) (sR 2 r235_2 .ret) .skip)) c235_0)
abbrev b235:AC:=(sR 0 r235_0 c235_1)
def pf235:AF:={ nt:=67,res:=[.tmp 6],body:=b235 }
def T235_2 (prog:Prog)(K:Bool→Prop)(m1:Dfr):Prop:=
  ((!m1.hasArg)=true→∃c,Pus prog 78 [m1.arg.av,.ag [.i .u8 0,.i .i64 0,.s [],.sl .ext (List.map Val.row ([]:List Val)),.b false]] (.b c)∧K c)∧((!m1.hasArg)=false→(m1.arg.kind=1→∃j,Pus prog 77 [m1.arg.av] (.i .i64 j)∧K (decide (j=0)))∧(¬(m1.arg.kind=1)→(m1.arg.kind=2→∃k,Pus prog 77 [m1.arg.av] (.i .i64 k)∧K (decide (k=0)))∧(¬(m1.arg.kind=2)→(m1.arg.kind=4→∃e,Pus prog 77 [m1.arg.av] (.i .i64 e)∧K (decide (e=0)))∧(¬(m1.arg.kind=4)→K false))))
def T235_1 (prog:Prog)(K:Bool→Prop)(many1:Int)(m0:Img)(m1:Dfr):Prop:=
  (m1.frame<0→K false)∧(¬(m1.frame<0)→(m1.frame≥many1→K false)∧(¬(m1.frame≥many1)→(m1.func<0→K false)∧(¬(m1.func<0)→(m1.func≥(m0.funcs.length:Int)→K false)∧(¬(m1.func≥(m0.funcs.length:Int))→0≤m1.func∧∃c:Fun,m0.funcs[(m1.func).toNat]?=some c∧((c.name.length:Int)>16→K false)∧(¬((c.name.length:Int)>16)→T235_2 prog K m1)))))
def T235_0 (prog:Prog)(K:Bool→Prop)(m0:Img)(many1:Int)(d2:Dfr):Prop:=
  T235_1 prog K many1 m0 d2
section
variable {prog:Prog}{d:Nat}{Q:AE→Sl→St→Prop}{K:Bool→Prop}(hQ:H1 AV.b 6 Q K){σ:Sl}{st:St}
include hQ
variable {m1:Dfr}{v1:Nat}{many1:Int}{m0:Img}{v0:Nat}{d2:Dfr}
variable (H0:σ 0=m0.av)(H1:σ 1=.i .i64 many1)(H3:σ 3=.p (d,0) v0 0)(H2:σ 2=d2.av)(H5:σ 5=.p (d,1) v1 0)(B0:lk st.bx (d,0)=some (v0,[.sl .ext (List.map Typ.row m0.types),.sl .ext (List.map rowS m0.texts),.sl .ext (List.map Fun.row m0.funcs)]))(B1:lk st.bx (d,1)=some (v1,[.i .i64 m1.frame,.i .i64 m1.func,.b m1.hasArg,.i .u8 m1.arg.kind,.i .i64 m1.arg.int,.s m1.arg.text,.sl .ext (List.map Val.row m1.arg.list),.b m1.arg.cut]))
include H5 B1 in
theorem w235_2 (h:T235_2 prog K m1):W prog d c235_0 σ st Q:=
 sq_ (q_ J (f_ H5 (l_ J B1 J J (nt_ J (e_ (cb_ J (fun c=>q_ J (f_ H5 (l_ J B1 J J (s_build f_nil ((h.1 c).elim fun _ o=>ca_ (sc2 J J J) o.1 (m_ (er_ (hQ J o.2)))))))) (fun c=>sk_ (q_ J (f_ H5 (f_ J (l_ J B1 J J (m_ (e_ (q_ J (s_mvI J (b_ J J eql_ (s_mvB J (em_ (g:=53) J (fun e=>z_ 8 J (gy_ J (f_ H5 (gy_ J (l_ J B1 J J (gy_ J (((h.2 c).1 e).elim fun _ p=>ca_ (sc1 J J) p.1 (gy_ J (b_ J J eql_ (z_ 2 J (er_ (hQ J p.2)))))))))))) (fun e=>gy_ J (s_mvI J (gy_ J (b_ J J eql_ (z_ 2 J (em_ (g:=57) J (fun i=>z_ 4 J (gy_ J (f_ H5 (gy_ J (l_ J B1 J J (gy_ J ((((h.2 c).2 e).1 i).elim fun _ q=>ca_ (sc1 J J) q.1 (gy_ J (b_ J J eql_ (z_ 2 J (er_ (hQ J q.2)))))))))))) (fun i=>gy_ J (s_mvI J (gy_ J (b_ J J eql_ (z_ 2 J (em_ (g:=61) J (fun j=>gy_ J (f_ H5 (gy_ J (l_ J B1 J J (gy_ J (((((h.2 c).2 e).2 i).1 j).elim fun _ k=>ca_ (sc1 J J) k.1 (gy_ J (b_ J J eql_ (z_ 2 J (er_ (hQ J k.2))))))))))) (fun j=>z_ 6 J (er_ (hQ J ((((h.2 c).2 e).2 i).2 j))))))))))))))))))))))))))))))))))
include H1 H3 H5 B0 B1 in
theorem w235_1 (h:T235_1 prog K many1 m0 m1):W prog d c235_1 σ st Q:=
 sq_ (q_ J (f_ H5 (l_ J B1 J J (b_ J J lss_ (s_mvB J (em_ (g:=11) J (fun c=>z_ 29 J (e_ (ct_ J (q_ J (m_ (er_ (hQ J (h.1 c)))))))) (fun c=>gy_ J (f_ H5 (gy_ J (l_ J B1 J J (gy_ J (s_mvI H1 (gy_ J (b_ J J geq_ (z_ 2 J (em_ (g:=17) J (fun e=>z_ 23 J (e_ (ct_ J (q_ J (m_ (er_ (hQ J ((h.2 c).1 e)))))))) (fun e=>gy_ J (f_ H5 (gy_ J (l_ J B1 J J (gy_ J (b_ J J lss_ (z_ 2 J (em_ (g:=22) J (fun i=>z_ 18 J (e_ (ct_ J (q_ J (m_ (er_ (hQ J (((h.2 c).2 e).1 i)))))))) (fun i=>gy_ J (f_ H5 (gy_ J (l_ J B1 J J (gy_ J (f_ H3 (gy_ J (l_ J B0 J J (gy_ J (ll_ J (gy_ J (b_ J J geq_ (z_ 2 J (em_ (g:=30) J (fun j=>z_ 10 J (e_ (ct_ J (q_ J (m_ (er_ (hQ J ((((h.2 c).2 e).2 i).1 j)))))))) (fun j=>gy_ J (f_ H3 (gy_ J (l_ J B0 J J (gy_ J (f_ H5 (gy_ J (l_ J B1 J J (gy_ J (((((h.2 c).2 e).2 i).2 j).2.elim fun p k=>ia_ J J ((((h.2 c).2 e).2 i).2 j).1 k.1 (Fun.row_eq p) J (gy_ J (ff_ J (gy_ J (lf_ J J J (gy_ J (ln_ J (gy_ J (b_ J J gtr_ (pf_ J J (e_ (cs_ J (fun o=>q_ J (m_ (er_ (hQ J (k.2.1 o))))) (fun o=>sk_ (w235_2 hQ H5 B1 (k.2.2 o))))))))))))))))))))))))))))))))))))))))))))))))))))))))))))))
include H0 H1 H2 in
theorem w235_0 (h:T235_0 prog K m0 many1 d2):W prog d (sR 0 r235_0 c235_1) σ st Q:=
 q_ J (s_box H0 J (s_box H2 J (m_ (e_ (w235_1 hQ H1 J J (lk_other J lk_here) lk_here h)))))
end
theorem p235 {prog:Prog}(hf:prog.fn 235=some pf235){m0:Img}{many1:Int}{d2:Dfr}{K:Bool→Prop}(h:T235_0 prog K m0 many1 d2) :∃res0:Bool,K res0∧Pus prog 235 [m0.av,.i .i64 many1,d2.av] (.b res0):=
 P1 hf J (w235_0 (h1 J fun _=>J) J J J h)
def r221_0:List AI:=[oY 2 3 0,oY 3 5 1,oC 4 (.b false)]
def r221_1:List AI:=[oF 7 0 3,oL 8 7,oW 9 .eql 8 3]
def r221_2:List AI:=[oF 10 2 3,oL 11 10,oJ 12 11,oV 13 .eql 12 0,oM 14 13,gT 14 (oF 15 3 3),gT 14 (oL 16 15),gT 14 (oJ 17 16),gT 14 (oV 18 .eql 17 0),oA 19 14 18,oM 20 19,gT 20 (oF 21 4 3),gT 20 (oL 22 21),gT 20 (oJ 23 22),gT 20 (oV 24 .eql 23 0),oA 25 20 24,oM 26 25,gT 26 (oF 27 1 3),gT 26 (oL 28 27),gT 26 (oV 29 .eql 28 0),oA 30 26 29,oM 4 30]
def r221_3:List AI:=[oF 31 0 3,oL 32 31,oW 33 .neq 32 2,oM 34 33,gT 34 (oF 35 0 3),gT 34 (oL 36 35),gT 34 (oW 37 .neq 36 1),gT 34 (oM 38 37),gF 38 (oF 39 1 3),gF 38 (oL 40 39),gF 38 (oV 41 .neq 40 0),gT 34 (oR 42 38 41),oA 43 34 42]
def r221_4:List AI:=[oC 4 (.b false)]
def r221_5:List AI:=[oF 44 2 3,oL 45 44,oJ 46 45,oV 47 .lss 46 1,oM 48 47,gF 48 (oF 49 2 3),gF 48 (oL 50 49),gF 48 (oJ 51 50),gF 48 (oV 52 .gtr 51 170),oR 53 48 52,oM 54 53,gF 54 (oF 55 3 3),gF 54 (oL 56 55),gF 54 (oJ 57 56),gF 54 (oV 58 .gtr 57 410),oR 59 54 58,oM 60 59,gF 60 (oF 61 4 3),gF 60 (oL 62 61),gF 60 (oQ 63 163 [62]),gF 60 (oV 64 .neq 63 0),oR 65 60 64]
def r221_6:List AI:=[oC 4 (.b false)]
def r221_7:List AI:=[oI 5 0]
def r221_8:List AI:=[oM 66 5,oF 67 2 3,oL 68 67,oJ 69 68,oT 70 .lss 66 69]
def r221_9:List AI:=[oK 73 3 2,oF 74 2 3,oL 75 74,oM 76 5,oX 77 4 75 76,oK 78 4 77,oQ 79 87 [73,78],oV 80 .neq 79 0]
def r221_10:List AI:=[oC 4 (.b false)]
def r221_11:List AI:=[oM 71 5,oV 72 .add 71 1,oM 5 72]
def r221_12:List AI:=[oI 6 0]
def r221_13:List AI:=[oM 81 6,oF 82 3 3,oL 83 82,oJ 84 83,oT 85 .lss 81 84]
def r221_14:List AI:=[oK 88 3 2,oF 89 2 3,oL 90 89,oJ 91 90,oF 92 3 3,oL 93 92,oM 94 6,oX 95 8 93 94,oK 96 8 95,oQ 97 235 [88,91,96],oZ 98 97]
def r221_15:List AI:=[oC 4 (.b false)]
def r221_16:List AI:=[oM 86 6,oV 87 .add 86 1,oM 6 87]
def r221_17:List AI:=[oC 4 (.b true)]
abbrev l221_0:AC:=(.seq (sR 8 r221_8 (.cond (.t 70) .skip (.exit 0))) (.seq (.block 1 (sR 10 r221_9 (.cond (.t 80) (sR 11 r221_10 .ret) .skip))) (.reg 9 r221_11)))
abbrev l221_1:AC:=(.seq (sR 13 r221_13 (.cond (.t 85) .skip (.exit 2))) (.seq (.block 3 (sR 15 r221_14 (.cond (.t 98) (sR 16 r221_15 .ret) .skip))) (.reg 14 r221_16)))
abbrev c221_2:AC:=(sR 17 r221_17 .ret)
abbrev c221_3:AC:=(.seq (sR 12 r221_12 (.block 2 (.loop l221_1))) c221_2)
abbrev c221_4:AC:=(.seq (sR 7 r221_7 (.block 0 (.loop l221_0))) c221_3)
abbrev c221_5:AC:=(.seq (sR 5 r221_5 (.cond (.t 65) (sR 6 r221_6 .ret) .skip)) c221_4)
abbrev c221_6:AC:=(.seq (sR 3 r221_3 (.cond (.t 43) (sR 4 r221_4 .ret) .skip)) c221_5)
abbrev c221_7:AC:=(.seq (sR 1 r221_1 (.cond (.t 9) (sR 2 r221_2 .ret) .skip)) c221_6)
abbrev b221:AC:=(sR 0 r221_0 c221_7)
def pf221:AF:={ nt:=99,res:=[.tmp 4],body:=b221 }
abbrev I221_0 (prog:Prog)(d:Nat)(Q:AE→Sl→St→Prop)(i5:Int)(m0:Img)(m1:Rou):Prop:=
  ∀(σ:Sl)(st:St) (v0 v1:Nat),σ 2=.p (d,0) v0 0→σ 3=.p (d,1) v1 0→σ 5=.i .i64 i5→lk st.bx (d,0)=some (v0,[.sl .ext (List.map Typ.row m0.types),.sl .ext (List.map rowS m0.texts),.sl .ext (List.map Fun.row m0.funcs)])→lk st.bx (d,1)=some (v1,[.i .u8 m1.status,.i .i64 m1.key,.sl .ext (List.map Frm.row m1.frames),.sl .ext (List.map Dfr.row m1.defers),.sl .ext (List.map Pan.row m1.panics)])→W prog d (.loop l221_0) σ st (blockW 0 (thenW prog d c221_3 Q))
abbrev I221_1 (prog:Prog)(d:Nat)(Q:AE→Sl→St→Prop)(i6:Int)(m0:Img)(m1:Rou):Prop:=
  ∀(σ:Sl)(st:St) (v0 v1:Nat),σ 2=.p (d,0) v0 0→σ 3=.p (d,1) v1 0→σ 6=.i .i64 i6→lk st.bx (d,0)=some (v0,[.sl .ext (List.map Typ.row m0.types),.sl .ext (List.map rowS m0.texts),.sl .ext (List.map Fun.row m0.funcs)])→lk st.bx (d,1)=some (v1,[.i .u8 m1.status,.i .i64 m1.key,.sl .ext (List.map Frm.row m1.frames),.sl .ext (List.map Dfr.row m1.defers),.sl .ext (List.map Pan.row m1.panics)])→W prog d (.loop l221_1) σ st (blockW 2 (thenW prog d c221_2 Q))
def T221_8 (prog:Prog)(K:Bool→Prop) :Prop:=
  K true
def T221_7 (prog:Prog)(K:Bool→Prop)(P1:Int→Img→Rou→Prop)(i6:Int)(m0:Img)(m1:Rou):Prop:=
  (i6<(m1.defers.length:Int)→0≤i6∧∃e:Dfr,m1.defers[(i6).toNat]?=some e∧∃c,Pus prog 235 [m0.av,.i .i64 (m1.frames.length:Int),e.av] (.b c)∧((!c)=true→K false)∧((!c)=false→P1 (IntKind.i64.wrap (i6+1)) m0 m1))∧(¬(i6<(m1.defers.length:Int))→T221_8 prog K )
def T221_6 (prog:Prog)(K:Bool→Prop)(m0:Img)(m1:Rou):Prop:=
  ∀P1:Int→Img→Rou→Prop,(∀(i6:Int)(m0:Img)(m1:Rou),T221_7 prog K P1 i6 m0 m1→P1 i6 m0 m1)→P1 0 m0 m1
def T221_5 (prog:Prog)(K:Bool→Prop)(P0:Int→Img→Rou→Prop)(i5:Int)(m0:Img)(m1:Rou):Prop:=
  (i5<(m1.frames.length:Int)→0≤i5∧∃e:Frm,m1.frames[(i5).toNat]?=some e∧∃c,Pus prog 87 [m0.av,e.av] (.i .i64 c)∧(c≠0→K false)∧(¬(c≠0)→P0 (IntKind.i64.wrap (i5+1)) m0 m1))∧(¬(i5<(m1.frames.length:Int))→T221_6 prog K m0 m1)
def T221_4 (prog:Prog)(K:Bool→Prop)(m0:Img)(m1:Rou):Prop:=
  ∀P0:Int→Img→Rou→Prop,(∀(i5:Int)(m0:Img)(m1:Rou),T221_5 prog K P0 i5 m0 m1→P0 i5 m0 m1)→P0 0 m0 m1
def T221_3 (prog:Prog)(K:Bool→Prop)(m0:Img)(m1:Rou):Prop:=
  ((m1.frames.length:Int)<1→K false)∧(¬((m1.frames.length:Int)<1)→((m1.frames.length:Int)>170→K false)∧(¬((m1.frames.length:Int)>170)→((m1.defers.length:Int)>410→K false)∧(¬((m1.defers.length:Int)>410)→∃c,Pus prog 163 [.sl .ext (List.map Pan.row m1.panics)] (.i .i64 c)∧(c≠0→K false)∧(¬(c≠0)→T221_4 prog K m0 m1))))
def T221_2 (prog:Prog)(K:Bool→Prop)(m0:Img)(m1:Rou):Prop:=
  (m1.status≠2→(m1.status≠1→K false)∧(¬(m1.status≠1)→(m1.key≠0→K false)∧(¬(m1.key≠0)→T221_3 prog K m0 m1)))∧(¬(m1.status≠2)→T221_3 prog K m0 m1)
def T221_1 (prog:Prog)(K:Bool→Prop)(m0:Img)(m1:Rou):Prop:=
  (m1.status=3→((m1.frames.length:Int)=0→((m1.defers.length:Int)=0→((m1.panics.length:Int)=0→K (decide (m1.key=0)))∧(¬((m1.panics.length:Int)=0)→K false))∧(¬((m1.defers.length:Int)=0)→K false))∧(¬((m1.frames.length:Int)=0)→K false))∧(¬(m1.status=3)→T221_2 prog K m0 m1)
def T221_0 (prog:Prog)(K:Bool→Prop)(m0:Img)(x1:Rou):Prop:=
  T221_1 prog K m0 x1
section
variable {prog:Prog}{d:Nat}{Q:AE→Sl→St→Prop}{K:Bool→Prop}(hQ:H1 AV.b 4 Q K){σ:Sl}{st:St}
include hQ
variable {i6:Int}{m0:Img}{m1:Rou}{P1:Int→Img→Rou→Prop}{v0 v1:Nat}{i5:Int}{P0:Int→Img→Rou→Prop}{x1:Rou}
variable (kP1 :∀(i6:Int)(m0:Img)(m1:Rou),P1 i6 m0 m1→I221_1 prog d Q i6 m0 m1) (kP0 :∀(i5:Int)(m0:Img)(m1:Rou),P0 i5 m0 m1→I221_0 prog d Q i5 m0 m1)(H0:σ 0=m0.av)(H2:σ 2=.p (d,0) v0 0)(H1:σ 1=x1.av)(H3:σ 3=.p (d,1) v1 0)(H6:σ 6=.i .i64 i6)(H5:σ 5=.i .i64 i5)(B0:lk st.bx (d,0)=some (v0,[.sl .ext (List.map Typ.row m0.types),.sl .ext (List.map rowS m0.texts),.sl .ext (List.map Fun.row m0.funcs)]))(B1:lk st.bx (d,1)=some (v1,[.i .u8 m1.status,.i .i64 m1.key,.sl .ext (List.map Frm.row m1.frames),.sl .ext (List.map Dfr.row m1.defers),.sl .ext (List.map Pan.row m1.panics)]))
theorem w221_8 (h:T221_8 prog K ):W prog d c221_2 σ st Q:=
 q_ J (m_ (er_ (hQ J h)))
include kP1 H2 H3 H6 B0 B1 in
theorem w221_7 (h:T221_7 prog K P1 i6 m0 m1):W prog d l221_1 σ st (thenW prog d (.loop l221_1) (blockW 2 (thenW prog d c221_2 Q))):=
 sq_ (q_ J (m_ (f_ H3 (l_ J B1 J J (ll_ J (b_ H6 J lss_ (e_ (cs_ J (fun c=>sk_ (sq_ (bk_ (q_ J (l_ H2 B0 J J (f_ H3 (l_ J B1 J J (ll_ J (f_ H3 (l_ J B1 J J (m_ ((h.1 c).2.elim fun k j=>ia_ J H6 (h.1 c).1 j.1 (Dfr.row_eq k) J (lf_ J J J (j.2.elim fun _ e=>ca_ (sc3 J J J J) e.1 (nt_ J (e_ (cb_ J (fun i=>q_ J (m_ (er_ (hQ J (e.2.1 i))))) (fun i=>sk_ (W.reg0 J fun _ _=>m_ (b_ H6 J add_ (m_ (e_ (kP1 _ _ _ (e.2.2 i) _ _ _ _ H2 H3 J B0 B1))))))))))))))))))))))) (fun c=>ex_ (w221_8 hQ (h.2 c)))))))))))
include H2 H3 B0 B1 in
theorem w221_6 (h:T221_6 prog K m0 m1):W prog d c221_3 σ st Q:=
 sq_ (q_ J (m_ (e_ (bk_ (h (I221_1 prog d Q ) (fun _ _ _ hb _ _ _ _ H2 H3 H6 B0 B1=>W.loop (w221_7 hQ (fun _ _ _ x=>x) H2 H3 H6 B0 B1 hb)) _ _ _ _ H2 H3 J B0 B1)))))
include kP0 H2 H3 H5 B0 B1 in
theorem w221_5 (h:T221_5 prog K P0 i5 m0 m1):W prog d l221_0 σ st (thenW prog d (.loop l221_0) (blockW 0 (thenW prog d c221_3 Q))):=
 sq_ (q_ J (m_ (f_ H3 (l_ J B1 J J (ll_ J (b_ H5 J lss_ (e_ (cs_ J (fun c=>sk_ (sq_ (bk_ (q_ J (l_ H2 B0 J J (f_ H3 (l_ J B1 J J (m_ ((h.1 c).2.elim fun k j=>ia_ J H5 (h.1 c).1 j.1 (Frm.row_eq k) J (lf_ J J J (j.2.elim fun _ e=>ca_ (sc2 J J J) e.1 (b_ J J neq_ (e_ (cs_ J (fun i=>q_ J (m_ (er_ (hQ J (e.2.1 i))))) (fun i=>sk_ (W.reg0 J fun _ _=>m_ (b_ H5 J add_ (m_ (e_ (kP0 _ _ _ (e.2.2 i) _ _ _ _ H2 H3 J B0 B1)))))))))))))))))))) (fun c=>ex_ (w221_6 hQ H2 H3 B0 B1 (h.2 c)))))))))))
include H2 H3 B0 B1 in
theorem w221_4 (h:T221_4 prog K m0 m1):W prog d c221_4 σ st Q:=
 sq_ (q_ J (m_ (e_ (bk_ (h (I221_0 prog d Q ) (fun _ _ _ hb _ _ _ _ H2 H3 H5 B0 B1=>W.loop (w221_5 hQ (fun _ _ _ x=>x) H2 H3 H5 B0 B1 hb)) _ _ _ _ H2 H3 J B0 B1)))))
include H2 H3 B0 B1 in
theorem w221_3 (h:T221_3 prog K m0 m1):W prog d c221_5 σ st Q:=
 sq_ (q_ J (f_ H3 (l_ J B1 J J (ll_ J (b_ J J lss_ (s_mvB J (em_ (g:=48) J (fun c=>z_ 17 J (e_ (ct_ J (q_ J (m_ (er_ (hQ J (h.1 c)))))))) (fun c=>gy_ J (f_ H3 (gy_ J (l_ J B1 J J (gy_ J (ll_ J (gy_ J (b_ J J gtr_ (z_ 2 J (em_ (g:=54) J (fun e=>z_ 11 J (e_ (ct_ J (q_ J (m_ (er_ (hQ J ((h.2 c).1 e)))))))) (fun e=>gy_ J (f_ H3 (gy_ J (l_ J B1 J J (gy_ J (ll_ J (gy_ J (b_ J J gtr_ (z_ 2 J (em_ (g:=60) J (fun j=>z_ 5 J (e_ (ct_ J (q_ J (m_ (er_ (hQ J (((h.2 c).2 e).1 j)))))))) (fun j=>gy_ J (f_ H3 (gy_ J (l_ J B1 J J (gy_ J ((((h.2 c).2 e).2 j).elim fun _ i=>ca_ (sc1 J J) i.1 (gy_ J (b_ J J neq_ (pf_ J J (e_ (cs_ J (fun k=>q_ J (m_ (er_ (hQ J (i.2.1 k))))) (fun k=>sk_ (w221_4 hQ H2 H3 B0 B1 (i.2.2 k)))))))))))))))))))))))))))))))))))))))))
include H2 H3 B0 B1 in
theorem w221_2 (h:T221_2 prog K m0 m1):W prog d c221_6 σ st Q:=
 sq_ (q_ J (f_ H3 (l_ J B1 J J (b_ J J neq_ (s_mvB J (em_ (g:=34) J (fun c=>gy_ J (f_ H3 (gy_ J (l_ J B1 J J (gy_ J (b_ J J neq_ (gy_ J (s_mvB J (em_ (g:=38) J (fun e=>z_ 3 J (gy_ J (z_ 2 J (e_ (ct_ J (q_ J (m_ (er_ (hQ J ((h.1 c).1 e)))))))))) (fun e=>gy_ J (f_ H3 (gy_ J (l_ J B1 J J (gy_ J (b_ J J neq_ (gy_ J (z_ 2 J (e_ (cs_ J (fun i=>q_ J (m_ (er_ (hQ J (((h.1 c).2 e).1 i))))) (fun i=>sk_ (w221_3 hQ H2 H3 B0 B1 (((h.1 c).2 e).2 i)))))))))))))))))))))) (fun c=>z_ 4 J (gt_ J (gt_ J (gt_ J (z_ 2 J (e_ (cf_ J (sk_ (w221_3 hQ H2 H3 B0 B1 (h.2 c))))))))))))))))
include H2 H3 B0 B1 in
theorem w221_1 (h:T221_1 prog K m0 m1):W prog d c221_7 σ st Q:=
 sq_ (q_ J (f_ H3 (l_ J B1 J J (b_ J J eql_ (e_ (cs_ J (fun c=>q_ J (f_ H3 (l_ J B1 J J (ll_ J (b_ J J eql_ (s_mvB J (em_ (g:=14) J (fun e=>gy_ J (f_ H3 (gy_ J (l_ J B1 J J (gy_ J (ll_ J (gy_ J (b_ J J eql_ (z_ 2 J (em_ (g:=20) J (fun i=>gy_ J (f_ H3 (gy_ J (l_ J B1 J J (gy_ J (ll_ J (gy_ J (b_ J J eql_ (z_ 2 J (em_ (g:=26) J (fun j=>gy_ J (f_ H3 (gy_ J (l_ J B1 J J (gy_ J (b_ J J eql_ (z_ 2 J (er_ (hQ J ((((h.1 c).1 e).1 i).1 j)))))))))) (fun j=>z_ 5 J (er_ (hQ J ((((h.1 c).1 e).1 i).2 j)))))))))))))) (fun i=>z_ 11 J (er_ (hQ J (((h.1 c).1 e).2 i)))))))))))))) (fun e=>z_ 17 J (er_ (hQ J ((h.1 c).2 e))))))))))) (fun c=>sk_ (w221_2 hQ H2 H3 B0 B1 (h.2 c)))))))))
include H0 H1 in
theorem w221_0 (h:T221_0 prog K m0 x1):W prog d (sR 0 r221_0 c221_7) σ st Q:=
 q_ J (s_box H0 J (s_box H1 J (m_ (e_ (w221_1 hQ J J (lk_other J lk_here) lk_here h)))))
end
theorem p221 {prog:Prog}(hf:prog.fn 221=some pf221){m0:Img}{x1:Rou}{K:Bool→Prop}(h:T221_0 prog K m0 x1) :∃res0:Bool,K res0∧Pus prog 221 [m0.av,x1.av] (.b res0):=
 P1 hf J (w221_0 (h1 J fun _=>J) J J h)
def r214_0:List AI:=[oY 2 3 0,oY 3 4 1,oI 4 0]
def r214_1:List AI:=[oF 6 0 3,oL 7 6,oW 8 .lss 7 1,oM 9 8,gF 9 (oF 10 0 3),gF 9 (oL 11 10),gF 9 (oW 12 .gtr 11 8),oR 13 9 12,oM 14 13,gF 14 (oF 15 2 3),gF 14 (oL 16 15),gF 14 (oV 17 .lss 16 0),oR 18 14 17,oM 19 18,gF 19 (oF 20 2 3),gF 19 (oL 21 20),gF 19 (oV 22 .gtr 21 5000),oR 23 19 22,oM 24 23,gF 24 (oF 25 3 3),gF 24 (oL 26 25),gF 24 (oJ 27 26),gF 24 (oV 28 .gtr 27 16),oR 29 24 28,oM 30 29,gF 30 (oF 31 1 3),gF 30 (oL 32 31),gF 30 (oV 33 .lss 32 (-1)),oR 34 30 33,oM 35 34,gF 35 (oF 36 1 3),gF 35 (oL 37 36),gF 35 (oF 38 3 3),gF 35 (oL 39 38),gF 35 (oJ 40 39),gF 35 (oT 41 .geq 37 40),oR 42 35 41]
def r214_2:List AI:=[oI 4 8]
def r214_3:List AI:=[oI 5 0]
def r214_4:List AI:=[oM 43 5,oF 44 3 3,oL 45 44,oJ 46 45,oT 47 .lss 43 46]
def r214_5:List AI:=[oK 50 3 2,oF 51 3 3,oL 52 51,oM 53 5,oX 54 5 52 53,oK 55 5 54,oQ 56 221 [50,55],oZ 57 56]
def r214_6:List AI:=[oI 4 8]
def r214_7:List AI:=[oM 48 5,oV 49 .add 48 1,oM 5 49]
def r214_8:List AI:=[oI 4 0]
abbrev l214_0:AC:=(.seq (sR 4 r214_4 (.cond (.t 47) .skip (.exit 0))) (.seq (.block 1 (sR 6 r214_5 (.cond (.t 57) (sR 7 r214_6 .ret) .skip))) (.reg 5 r214_7)))
abbrev c214_1:AC:=(sR 8 r214_8 .ret)
abbrev c214_2:AC:=(.seq (sR 3 r214_3 (.block 0 (.loop l214_0))) c214_1)
abbrev b214:AC:=(sR 0 r214_0 (.seq (sR 1 r214_1 (.cond (.t 42) (sR 2 r214_2 .ret) .skip)) c214_2))
def pf214:AF:={ nt:=58,res:=[.tmp 4],body:=b214 }
abbrev I214_0 (prog:Prog)(d:Nat)(Q:AE→Sl→St→Prop)(i5:Int)(m0:Img)(m1:Sta):Prop:=
  ∀(σ:Sl)(st:St) (v0 v1:Nat),σ 2=.p (d,0) v0 0→σ 3=.p (d,1) v1 0→σ 5=.i .i64 i5→lk st.bx (d,0)=some (v0,[.sl .ext (List.map Typ.row m0.types),.sl .ext (List.map rowS m0.texts),.sl .ext (List.map Fun.row m0.funcs)])→lk st.bx (d,1)=some (v1,[.i .u8 m1.outcome,.i .i64 m1.failing,.i .i64 m1.steps,.sl .ext (List.map Rou.row m1.routines)])→W prog d (.loop l214_0) σ st (blockW 0 (thenW prog d c214_1 Q))
def T214_3 (prog:Prog)(K:Int→Prop) :Prop:=
  K 0
def T214_2 (prog:Prog)(K:Int→Prop)(P0:Int→Img→Sta→Prop)(i5:Int)(m0:Img)(m1:Sta):Prop:=
  (i5<(m1.routines.length:Int)→0≤i5∧∃e:Rou,m1.routines[(i5).toNat]?=some e∧∃c,Pus prog 221 [m0.av,e.av] (.b c)∧((!c)=true→K 8)∧((!c)=false→P0 (IntKind.i64.wrap (i5+1)) m0 m1))∧(¬(i5<(m1.routines.length:Int))→T214_3 prog K )
def T214_1 (prog:Prog)(K:Int→Prop)(m0:Img)(m1:Sta):Prop:=
  ∀P0:Int→Img→Sta→Prop,(∀(i5:Int)(m0:Img)(m1:Sta),T214_2 prog K P0 i5 m0 m1→P0 i5 m0 m1)→P0 0 m0 m1
def T214_0 (prog:Prog)(K:Int→Prop)(m0:Img)(s1:Sta):Prop:=
  (s1.outcome<1→K 8)∧(¬(s1.outcome<1)→(s1.outcome>8→K 8)∧(¬(s1.outcome>8)→(s1.steps<0→K 8)∧(¬(s1.steps<0)→(s1.steps>5000→K 8)∧(¬(s1.steps>5000)→((s1.routines.length:Int)>16→K 8)∧(¬((s1.routines.length:Int)>16)→(s1.failing<(-1)→K 8)∧(¬(s1.failing<(-1))→(s1.failing≥(s1.routines.length:Int)→K 8)∧(¬(s1.failing≥(s1.routines.length:Int))→T214_1 prog K m0 s1)))))))
section
variable {prog:Prog}{d:Nat}{Q:AE→Sl→St→Prop}{K:Int→Prop}(hQ:H1 (AV.i .i64) 4 Q K){σ:Sl}{st:St}
include hQ
variable {i5:Int}{m0:Img}{m1:Sta}{P0:Int→Img→Sta→Prop}{v0 v1:Nat}{s1:Sta}
variable (kP0 :∀(i5:Int)(m0:Img)(m1:Sta),P0 i5 m0 m1→I214_0 prog d Q i5 m0 m1)(H0:σ 0=m0.av)(H2:σ 2=.p (d,0) v0 0)(H1:σ 1=s1.av)(H3:σ 3=.p (d,1) v1 0)(H5:σ 5=.i .i64 i5)(B0:lk st.bx (d,0)=some (v0,[.sl .ext (List.map Typ.row m0.types),.sl .ext (List.map rowS m0.texts),.sl .ext (List.map Fun.row m0.funcs)]))(B1:lk st.bx (d,1)=some (v1,[.i .u8 m1.outcome,.i .i64 m1.failing,.i .i64 m1.steps,.sl .ext (List.map Rou.row m1.routines)]))
theorem w214_3 (h:T214_3 prog K ):W prog d c214_1 σ st Q:=
 q_ J (m_ (er_ (hQ J h)))
include kP0 H2 H3 H5 B0 B1 in
theorem w214_2 (h:T214_2 prog K P0 i5 m0 m1):W prog d l214_0 σ st (thenW prog d (.loop l214_0) (blockW 0 (thenW prog d c214_1 Q))):=
 sq_ (q_ J (m_ (f_ H3 (l_ J B1 J J (ll_ J (b_ H5 J lss_ (e_ (cs_ J (fun c=>sk_ (sq_ (bk_ (q_ J (l_ H2 B0 J J (f_ H3 (l_ J B1 J J (m_ ((h.1 c).2.elim fun k j=>ia_ J H5 (h.1 c).1 j.1 (Rou.row_eq k) J (lf_ J J J (j.2.elim fun _ e=>ca_ (sc2 J J J) e.1 (nt_ J (e_ (cb_ J (fun i=>q_ J (m_ (er_ (hQ J (e.2.1 i))))) (fun i=>sk_ (W.reg0 J fun _ _=>m_ (b_ H5 J add_ (m_ (e_ (kP0 _ _ _ (e.2.2 i) _ _ _ _ H2 H3 J B0 B1)))))))))))))))))))) (fun c=>ex_ (w214_3 hQ (h.2 c)))))))))))
include H2 H3 B0 B1 in
theorem w214_1 (h:T214_1 prog K m0 m1):W prog d c214_2 σ st Q:=
 sq_ (q_ J (m_ (e_ (bk_ (h (I214_0 prog d Q ) (fun _ _ _ hb _ _ _ _ H2 H3 H5 B0 B1=>W.loop (w214_2 hQ (fun _ _ _ x=>x) H2 H3 H5 B0 B1 hb)) _ _ _ _ H2 H3 J B0 B1)))))
include H0 H1 in
theorem w214_0 (h:T214_0 prog K m0 s1):W prog d (sR 0 r214_0 (.seq (sR 1 r214_1 (.cond (.t 42) (sR 2 r214_2 .ret) .skip)) c214_2)) σ st Q:=
 q_ J (s_box H0 J (s_box H1 J (m_ (e_ (sq_ (q_ J (f_ J (l_ J lk_here J J (b_ J J lss_ (s_mvB J (em_ (g:=9) J (fun c=>z_ 33 J (e_ (ct_ J (q_ J (m_ (er_ (hQ J (h.1 c)))))))) (fun c=>gy_ J (f_ J (gy_ J (l_ J lk_here J J (gy_ J (b_ J J gtr_ (z_ 2 J (em_ (g:=14) J (fun e=>z_ 28 J (e_ (ct_ J (q_ J (m_ (er_ (hQ J ((h.2 c).1 e)))))))) (fun e=>gy_ J (f_ J (gy_ J (l_ J lk_here J J (gy_ J (b_ J J lss_ (z_ 2 J (em_ (g:=19) J (fun i=>z_ 23 J (e_ (ct_ J (q_ J (m_ (er_ (hQ J (((h.2 c).2 e).1 i)))))))) (fun i=>gy_ J (f_ J (gy_ J (l_ J lk_here J J (gy_ J (b_ J J gtr_ (z_ 2 J (em_ (g:=24) J (fun j=>z_ 18 J (e_ (ct_ J (q_ J (m_ (er_ (hQ J ((((h.2 c).2 e).2 i).1 j)))))))) (fun j=>gy_ J (f_ J (gy_ J (l_ J lk_here J J (gy_ J (ll_ J (gy_ J (b_ J J gtr_ (z_ 2 J (em_ (g:=30) J (fun k=>z_ 12 J (e_ (ct_ J (q_ J (m_ (er_ (hQ J (((((h.2 c).2 e).2 i).2 j).1 k)))))))) (fun k=>gy_ J (f_ J (gy_ J (l_ J lk_here J J (gy_ J (b_ J J lss_ (z_ 2 J (em_ (g:=35) J (fun o=>z_ 7 J (e_ (ct_ J (q_ J (m_ (er_ (hQ J ((((((h.2 c).2 e).2 i).2 j).2 k).1 o)))))))) (fun o=>gy_ J (f_ J (gy_ J (l_ J lk_here J J (gy_ J (f_ J (gy_ J (l_ J lk_here J J (gy_ J (ll_ J (gy_ J (b_ J J geq_ (pf_ J J (e_ (cs_ J (fun p=>q_ J (m_ (er_ (hQ J (((((((h.2 c).2 e).2 i).2 j).2 k).2 o).1 p))))) (fun p=>sk_ (w214_1 hQ J J (lk_other J lk_here) lk_here (((((((h.2 c).2 e).2 i).2 j).2 k).2 o).2 p)))))))))))))))))))))))))))))))))))))))))))))))))))))))))))))))))))))))
end
theorem p214 {prog:Prog}(hf:prog.fn 214=some pf214){m0:Img}{s1:Sta}{K:Int→Prop}(h:T214_0 prog K m0 s1) :∃res0:Int,K res0∧Pus prog 214 [m0.av,s1.av] (.i .i64 res0):=
 P1 hf J (w214_0 (h1 J fun _=>J) J J h)
end Go.AM

/- Parts of the proof. -/
namespace Go.AM
open Go
set_option linter.unusedVariables false
set_option linter.unusedSimpArgs false
set_option maxRecDepth 4000
attribute [local irreducible] WO fillCells fillRows
def r234_0:List AI:=[oY 2 3 0,oY 3 8 1,oC 4 (.s []),oI 5 0]
def r234_1:List AI:=[oF 12 2 2,oL 13 12,oF 14 1 3,oL 15 14,oX 16 7 13 15,oF 17 0 16,oL 18 17,oQ 19 11 [18],oM 11 19,oE 20 0 11,oE 21 1 11,oM 6 20,oM 7 21]
def r234_2:List AI:=[oM 22 7,oV 23 .neq 22 0]
def r234_3:List AI:=[oM 24 7,oC 4 (.s []),oM 5 24]
def r234_4:List AI:=[oF 25 0 3,oL 26 25,oQ 27 216 [26],oB 28 .add (.c (.s [100,101,102,101,114,32])) (.t 27),oB 29 .add (.t 28) (.c (.s [32])),oF 30 1 3,oL 31 30,oQ 32 216 [31],oT 33 .add 29 32,oB 34 .add (.t 33) (.c (.s [32])),oM 35 6,oT 36 .add 34 35,oM 8 36]
def r234_5:List AI:=[oF 37 2 3,oL 38 37]
def r234_6:List AI:=[oF 40 3 3,oK 41 5 40,oQ 42 72 [41],oM 39 42,oE 43 0 39,oE 44 1 39,oM 9 43,oM 10 44]
def r234_7:List AI:=[oM 45 10,oV 46 .neq 45 0]
def r234_8:List AI:=[oM 47 10,oC 4 (.s []),oM 5 47]
def r234_9:List AI:=[oM 48 8,oM 49 9,oB 50 .add (.c (.s [32,119,105,116,104,32])) (.t 49),oT 51 .add 48 50,oM 8 51]
def r234_10:List AI:=[oM 52 8,oM 4 52,oI 5 0]
abbrev c234_0:AC:=(sR 10 r234_10 .ret)
abbrev b234:AC:=(sR 0 r234_0 (sR 1 r234_1 (.seq (sR 2 r234_2 (.cond (.t 23) (sR 3 r234_3 .ret) .skip)) (sR 4 r234_4 (.seq (sR 5 r234_5 (.cond (.t 38) (sR 6 r234_6 (.seq (sR 7 r234_7 (.cond (.t 46) (sR 8 r234_8 .ret) .skip)) (.reg 9 r234_9))) .skip)) c234_0)))))
def pf234:AF:={ nt:=53,res:=[.tmp 4,.tmp 5],body:=b234 }
def T234_1 (prog:Prog)(K:BS→Int→Prop)(s8:BS):Prop:=
  K s8 0
def T234_0 (prog:Prog)(K:BS→Int→Prop)(m0:Img)(d1:Dfr):Prop:=
  0≤d1.func∧∃q:Fun,m0.funcs[(d1.func).toNat]?=some q∧∃j:BS,∃p,Pus prog 11 [.s q.name] (.tup [.s j,.i .i64 p])∧(p≠0→K ([]:BS) p)∧(¬(p≠0)→∃c:BS,Pus prog 216 [.i .i64 d1.frame] (.s c)∧([100,101,102,101,114,32]:BS).length+c.length≤maxStr∧(([100,101,102,101,114,32]:BS)++c).length+([32]:BS).length≤maxStr∧∃e:BS,Pus prog 216 [.i .i64 d1.func] (.s e)∧((([100,101,102,101,114,32]:BS)++c)++([32]:BS)).length+e.length≤maxStr∧(((([100,101,102,101,114,32]:BS)++c)++([32]:BS))++e).length+([32]:BS).length≤maxStr∧((((([100,101,102,101,114,32]:BS)++c)++([32]:BS))++e)++([32]:BS)).length+j.length≤maxStr∧(d1.hasArg=true→∃o:BS,∃k,Pus prog 72 [d1.arg.av] (.tup [.s o,.i .i64 k])∧(k≠0→K ([]:BS) k)∧(¬(k≠0)→([32,119,105,116,104,32]:BS).length+o.length≤maxStr∧(((((([100,101,102,101,114,32]:BS)++c)++([32]:BS))++e)++([32]:BS))++j).length+(([32,119,105,116,104,32]:BS)++o).length≤maxStr∧T234_1 prog K ((((((([100,101,102,101,114,32]:BS)++c)++([32]:BS))++e)++([32]:BS))++j)++(([32,119,105,116,104,32]:BS)++o))))∧(d1.hasArg=false→T234_1 prog K (((((([100,101,102,101,114,32]:BS)++c)++([32]:BS))++e)++([32]:BS))++j)))
section
variable {prog:Prog}{d:Nat}{Q:AE→Sl→St→Prop}{K:BS→Int→Prop}(hQ:H2 AV.s (AV.i .i64) 4 5 Q K){σ:Sl}{st:St}
include hQ
variable {s8:BS}{m0:Img}{d1:Dfr}
variable (H8:σ 8=.s s8)(H0:σ 0=m0.av)(H1:σ 1=d1.av)
include H8 in
theorem w234_1 (h:T234_1 prog K s8):W prog d c234_0 σ st Q:=
 q_ J (m_ (m_ (m_ (er_ (hQ H8 J h)))))
include H0 H1 in
theorem w234_0 (h:T234_0 prog K m0 d1):W prog d (sR 0 r234_0 (sR 1 r234_1 (.seq (sR 2 r234_2 (.cond (.t 23) (sR 3 r234_3 .ret) .skip)) (sR 4 r234_4 (.seq (sR 5 r234_5 (.cond (.t 38) (sR 6 r234_6 (.seq (sR 7 r234_7 (.cond (.t 46) (sR 8 r234_8 .ret) .skip)) (.reg 9 r234_9))) .skip)) c234_0))))) σ st Q:=
 q_ J (s_box H0 J (s_box H1 J (m_ (m_ (e_ (q_ J (f_ J (l_ J (lk_other J lk_here) J J (f_ J (l_ J lk_here J J (h.2.elim fun r q=>ia_ J J h.1 q.1 (Fun.row_eq r) J (ff_ J (lf_ J J J (x2 q.2 fun _ _ k=>ca_ (sc1 J J) k.1 (m_ (x_ J J (x_ J J (m_ (m_ (e_ (sq_ (q_ J (m_ (b_ J J neq_ (e_ (cs_ J (fun p=>q_ J (m_ (m_ (m_ (er_ (hQ J J (k.2.1 p))))))) (fun p=>sk_ (q_ J (f_ J (l_ J lk_here J J ((k.2.2 p).elim fun _ j=>ca_ (sc1 J J) j.1 (b_ J J (abin_cat' j.2.1) (b_ J J (abin_cat' j.2.2.1) (f_ J (l_ J lk_here J J (j.2.2.2.elim fun _ c=>ca_ (sc1 J J) c.1 (b_ J J (abin_cat' c.2.1) (b_ J J (abin_cat' c.2.2.1) (m_ (b_ J J (abin_cat' c.2.2.2.1) (m_ (e_ (sq_ (q_ J (f_ J (l_ J lk_here J J (e_ (cb_ J (fun o=>q_ J (f_ J (l_ J lk_here J J (x2 (c.2.2.2.2.1 o) fun _ _ e=>ca_ (sc1 J J) e.1 (m_ (x_ J J (x_ J J (m_ (m_ (e_ (sq_ (q_ J (m_ (b_ J J neq_ (e_ (cs_ J (fun i=>q_ J (m_ (m_ (m_ (er_ (hQ J J (e.2.1 i))))))) (fun i=>sk_ (W.reg0 J fun _ _=>m_ (m_ (b_ J J (abin_cat' (e.2.2 i).1) (b_ J J (abin_cat' (e.2.2 i).2.1) (m_ (e_ (w234_1 hQ J (e.2.2 i).2.2)))))))))))))))))))))))) (fun o=>sk_ (w234_1 hQ J (c.2.2.2.2.2 o)))))))))))))))))))))))))))))))))))))))))))))))))))
end
theorem p234 {prog:Prog}(hf:prog.fn 234=some pf234){m0:Img}{d1:Dfr}{K:BS→Int→Prop}(h:T234_0 prog K m0 d1) :∃res0:BS,∃res1:Int,K res0 res1∧Pus prog 234 [m0.av,d1.av] (.tup [.s res0,.i .i64 res1]):=
 P2 hf J (w234_0 (h2 J fun _ _=>J) J J h)
def r220_0:List AI:=[oY 2 3 0,oY 3 5 1,oC 4 (.sl .full []),oI 5 0]
def r220_1:List AI:=[oC 6 (.sl .full [])]
def r220_2:List AI:=[oF 19 2 3,oL 20 19,oJ 21 20,oI 22 0]
def r220_3:List AI:=[oT 23 .lss 22 21]
def r220_4:List AI:=[oM 24 22,oX 25 4 20 22,oK 26 4 25,oO 8 (.alloc [z6,z6,z7,zl]),oM 7 24,oS 4 8 26]
def r220_5:List AI:=[oK 28 3 2,oM 29 7,oK 30 4 8,oQ 31 82 [28,29,30],oM 27 31,oE 32 0 27,oE 33 1 27,oM 9 32,oM 10 33]
def r220_6:List AI:=[oM 34 10,oV 35 .neq 34 0]
def r220_7:List AI:=[oM 36 10,oC 4 (.sl .full []),oM 5 36]
def r220_8:List AI:=[oM 37 6,oM 38 9,oO 39 (.app 1 16 (.t 37) (.t 38)),oM 6 39]
def r220_9:List AI:=[oV 40 .add 22 1,oM 22 40]
def r220_10:List AI:=[oF 41 3 3,oL 42 41,oJ 43 42,oI 44 0]
def r220_11:List AI:=[oT 45 .lss 44 43]
def r220_12:List AI:=[oX 46 8 42 44,oK 47 8 46,oO 12 (.alloc [z6,z6,zb,z8,z6,zs,zl,zb]),oS 8 12 47]
def r220_13:List AI:=[oK 49 3 2,oK 50 8 12,oQ 51 234 [49,50],oM 48 51,oE 52 0 48,oE 53 1 48,oM 13 52,oM 14 53]
def r220_14:List AI:=[oM 54 14,oV 55 .neq 54 0]
def r220_15:List AI:=[oM 56 14,oC 4 (.sl .full []),oM 5 56]
def r220_16:List AI:=[oM 57 6,oM 58 13,oO 59 (.bslice [zs] 1 [(0,(.t 58))]),oO 60 (.app 1 16 (.t 57) (.t 59)),oM 6 60]
def r220_17:List AI:=[oV 61 .add 44 1,oM 44 61]
def r220_18:List AI:=[oF 62 4 3,oL 63 62,oJ 64 63,oI 65 0]
def r220_19:List AI:=[oT 66 .lss 65 64]
def r220_20:List AI:=[oX 67 7 63 65,oK 68 7 67,oO 16 (.alloc [z7,z8,z6,zs,zl,zb,z7]),oS 7 16 68]
def r220_21:List AI:=[oK 70 7 16,oQ 71 154 [70],oM 69 71,oE 72 0 69,oE 73 1 69,oM 17 72,oM 18 73]
def r220_22:List AI:=[oM 74 18,oV 75 .neq 74 0]
def r220_23:List AI:=[oM 76 18,oC 4 (.sl .full []),oM 5 76]
def r220_24:List AI:=[oM 77 6,oM 78 17,oO 79 (.bslice [zs] 1 [(0,(.t 78))]),oO 80 (.app 1 16 (.t 77) (.t 79)),oM 6 80]
def r220_25:List AI:=[oV 81 .add 65 1,oM 65 81]
def r220_26:List AI:=[oM 82 6,oM 4 82,oI 5 0]
abbrev l220_0:AC:=(sR 3 r220_3 (.seq (.cond (.t 23) .skip (.exit 0)) (.seq (.block 1 (sR 4 r220_4 (sR 5 r220_5 (.seq (sR 6 r220_6 (.cond (.t 35) (sR 7 r220_7 .ret) .skip)) (.reg 8 r220_8))))) (.reg 9 r220_9))))
abbrev l220_1:AC:=(sR 11 r220_11 (.seq (.cond (.t 45) .skip (.exit 2)) (.seq (.block 3 (sR 12 r220_12 (sR 13 r220_13 (.seq (sR 14 r220_14 (.cond (.t 55) (sR 15 r220_15 .ret) .skip)) (.reg 16 r220_16))))) (.reg 17 r220_17))))
abbrev l220_2:AC:=(sR 19 r220_19 (.seq (.cond (.t 66) .skip (.exit 4)) (.seq (.block 5 (sR 20 r220_20 (sR 21 r220_21 (.seq (sR 22 r220_22 (.cond (.t 75) (sR 23 r220_23 .ret) .skip)) (.reg 24 r220_24))))) (.reg 25 r220_25))))
abbrev c220_3:AC:=(sR 26 r220_26 .ret)
abbrev c220_4:AC:=(.seq (sR 18 r220_18 (.block 4 (.loop l220_2))) c220_3)
abbrev c220_5:AC:=(.seq (sR 10 r220_10 (.block 2 (.loop l220_1))) c220_4)
abbrev c220_6:AC:=(.seq (sR 2 r220_2 (.block 0 (.loop l220_0))) c220_5)
abbrev c220_7:AC:=(sR 1 r220_1 c220_6)
abbrev b220:AC:=(sR 0 r220_0 c220_7)
def pf220:AF:={ nt:=83,res:=[.tmp 4,.tmp 5],body:=b220 }
abbrev I220_0 (prog:Prog)(d:Nat)(Q:AE→Sl→St→Prop)(t20:List Frm)(t21:Int)(out6:LB)(t22:Int)(m0:Img)(m1:Rou):Prop:=
  ∀(σ:Sl)(st:St) (o_out6 o_t20:Own) (v0 v1:Nat),σ 2=.p (d,0) v0 0→σ 3=.p (d,1) v1 0→σ 6=.sl o_out6 (List.map rowS out6)→σ 20=.sl o_t20 (List.map Frm.row t20)→σ 21=.i .i64 t21→σ 22=.i .i64 t22→ApM d st.ow o_out6 out6.length→lk st.bx (d,0)=some (v0,[.sl .ext (List.map Typ.row m0.types),.sl .ext (List.map rowS m0.texts),.sl .ext (List.map Fun.row m0.funcs)])→lk st.bx (d,1)=some (v1,[.i .u8 m1.status,.i .i64 m1.key,.sl .ext (List.map Frm.row m1.frames),.sl .ext (List.map Dfr.row m1.defers),.sl .ext (List.map Pan.row m1.panics)])→W prog d (.loop l220_0) σ st (blockW 0 (thenW prog d c220_5 Q))
abbrev I220_1 (prog:Prog)(d:Nat)(Q:AE→Sl→St→Prop)(t42:List Dfr)(t43:Int)(out6:LB)(t44:Int)(m0:Img)(m1:Rou):Prop:=
  ∀(σ:Sl)(st:St) (o_out6 o_t42:Own) (v0 v1:Nat),σ 2=.p (d,0) v0 0→σ 3=.p (d,1) v1 0→σ 6=.sl o_out6 (List.map rowS out6)→σ 42=.sl o_t42 (List.map Dfr.row t42)→σ 43=.i .i64 t43→σ 44=.i .i64 t44→ApM d st.ow o_out6 out6.length→lk st.bx (d,0)=some (v0,[.sl .ext (List.map Typ.row m0.types),.sl .ext (List.map rowS m0.texts),.sl .ext (List.map Fun.row m0.funcs)])→lk st.bx (d,1)=some (v1,[.i .u8 m1.status,.i .i64 m1.key,.sl .ext (List.map Frm.row m1.frames),.sl .ext (List.map Dfr.row m1.defers),.sl .ext (List.map Pan.row m1.panics)])→W prog d (.loop l220_1) σ st (blockW 2 (thenW prog d c220_4 Q))
abbrev I220_2 (prog:Prog)(d:Nat)(Q:AE→Sl→St→Prop)(t63:List Pan)(t64:Int)(out6:LB)(t65:Int):Prop:=
  ∀(σ:Sl)(st:St) (o_out6 o_t63:Own),σ 6=.sl o_out6 (List.map rowS out6)→σ 63=.sl o_t63 (List.map Pan.row t63)→σ 64=.i .i64 t64→σ 65=.i .i64 t65→ApM d st.ow o_out6 out6.length→W prog d (.loop l220_2) σ st (blockW 4 (thenW prog d c220_3 Q))
def T220_8 (prog:Prog)(K:LB→Int→Prop)(out6:LB):Prop:=
  K out6 0
def T220_7 (prog:Prog)(K:LB→Int→Prop)(P2:LB→Int→Prop)(out6:LB)(t63:List Pan)(t64:Int)(t65:Int):Prop:=
  (t65<t64→0≤t65∧∃j:Pan,t63[(t65).toNat]?=some j∧∃e c,Pus prog 154 [j.av] (.tup [.s e,.i .i64 c])∧(c≠0→K ([]:LB) c)∧(¬(c≠0)→Fit (out6.length+[e].length) 16∧P2 (out6++[e]) (IntKind.i64.wrap (t65+1))))∧(¬(t65<t64)→T220_8 prog K out6)
def T220_6 (prog:Prog)(K:LB→Int→Prop)(out6:LB)(m1:Rou):Prop:=
  ∀P2:LB→Int→Prop,(∀(out6:LB)(t65:Int),T220_7 prog K P2 out6 m1.panics (m1.panics.length:Int) t65→P2 out6 t65)→P2 out6 0
def T220_5 (prog:Prog)(K:LB→Int→Prop)(P1:LB→Int→Img→Rou→Prop)(out6:LB)(t42:List Dfr)(t43:Int)(t44:Int)(m0:Img)(m1:Rou):Prop:=
  (t44<t43→0≤t44∧∃j:Dfr,t42[(t44).toNat]?=some j∧∃e c,Pus prog 234 [m0.av,j.av] (.tup [.s e,.i .i64 c])∧(c≠0→K ([]:LB) c)∧(¬(c≠0)→Fit (out6.length+[e].length) 16∧P1 (out6++[e]) (IntKind.i64.wrap (t44+1)) m0 m1))∧(¬(t44<t43)→T220_6 prog K out6 m1)
def T220_4 (prog:Prog)(K:LB→Int→Prop)(out6:LB)(m0:Img)(m1:Rou):Prop:=
  ∀P1:LB→Int→Img→Rou→Prop,(∀(out6:LB)(t44:Int)(m0:Img)(m1_b:Rou),T220_5 prog K P1 out6 m1.defers (m1.defers.length:Int) t44 m0 m1_b→P1 out6 t44 m0 m1_b)→P1 out6 0 m0 m1
def T220_3 (prog:Prog)(K:LB→Int→Prop)(P0:LB→Int→Img→Rou→Prop)(out6:LB)(t20:List Frm)(t21:Int)(t22:Int)(m0:Img)(m1:Rou):Prop:=
  (t22<t21→0≤t22∧∃j:Frm,t20[(t22).toNat]?=some j∧∃e:LB,∃c,Pus prog 82 [m0.av,.i .i64 t22,j.av] (.tup [.sl .ext (List.map rowS e),.i .i64 c])∧(c≠0→K ([]:LB) c)∧(¬(c≠0)→Fit (out6.length+e.length) 16∧P0 (out6++e) (IntKind.i64.wrap (t22+1)) m0 m1))∧(¬(t22<t21)→T220_4 prog K out6 m0 m1)
def T220_2 (prog:Prog)(K:LB→Int→Prop)(out6:LB)(m0:Img)(m1:Rou):Prop:=
  ∀P0:LB→Int→Img→Rou→Prop,(∀(out6:LB)(t22:Int)(m0:Img)(m1_b:Rou),T220_3 prog K P0 out6 m1.frames (m1.frames.length:Int) t22 m0 m1_b→P0 out6 t22 m0 m1_b)→P0 out6 0 m0 m1
def T220_1 (prog:Prog)(K:LB→Int→Prop)(m0:Img)(m1:Rou):Prop:=
  T220_2 prog K ([]:LB) m0 m1
def T220_0 (prog:Prog)(K:LB→Int→Prop)(m0:Img)(x1:Rou):Prop:=
  T220_1 prog K m0 x1
section
variable {prog:Prog}{d:Nat}{Q:AE→Sl→St→Prop}{K:LB→Int→Prop}(hQ:HM rowS (AV.i .i64) 4 5 Q K){σ:Sl}{st:St}
include hQ
variable {out6:LB}{o_out6:Own}{t63:List Pan}{t64 t65:Int}{P2:LB→Int→Prop}{o_t63:Own}{m1:Rou}{v1:Nat}{t42:List Dfr}{t43 t44:Int}{m0:Img}{P1:LB→Int→Img→Rou→Prop}{o_t42:Own}{v0:Nat}{t20:List Frm}{t21 t22:Int}{P0:LB→Int→Img→Rou→Prop}{o_t20:Own}{x1:Rou}
variable (kP2 :∀(out6:LB)(t65:Int),P2 out6 t65→I220_2 prog d Q t63 t64 out6 t65) (kP1 :∀(out6:LB)(t44:Int)(m0:Img)(m1:Rou),P1 out6 t44 m0 m1→I220_1 prog d Q t42 t43 out6 t44 m0 m1) (kP0 :∀(out6:LB)(t22:Int)(m0:Img)(m1:Rou),P0 out6 t22 m0 m1→I220_0 prog d Q t20 t21 out6 t22 m0 m1)(H0:σ 0=m0.av)(H2:σ 2=.p (d,0) v0 0)(H1:σ 1=x1.av)(H3:σ 3=.p (d,1) v1 0)(H6:σ 6=.sl o_out6 (List.map rowS out6))(H63:σ 63=.sl o_t63 (List.map Pan.row t63))(H42:σ 42=.sl o_t42 (List.map Dfr.row t42))(H20:σ 20=.sl o_t20 (List.map Frm.row t20))(H64:σ 64=.i .i64 t64)(H43:σ 43=.i .i64 t43)(H21:σ 21=.i .i64 t21)(H65:σ 65=.i .i64 t65)(H44:σ 44=.i .i64 t44)(H22:σ 22=.i .i64 t22)(A6:ApM d st.ow o_out6 out6.length)(B0:lk st.bx (d,0)=some (v0,[.sl .ext (List.map Typ.row m0.types),.sl .ext (List.map rowS m0.texts),.sl .ext (List.map Fun.row m0.funcs)]))(B1:lk st.bx (d,1)=some (v1,[.i .u8 m1.status,.i .i64 m1.key,.sl .ext (List.map Frm.row m1.frames),.sl .ext (List.map Dfr.row m1.defers),.sl .ext (List.map Pan.row m1.panics)]))
include H6 A6 in
theorem w220_8 (h:T220_8 prog K out6):W prog d c220_3 σ st Q:=
 q_ J (s_mvL H6 (s_mvL J (m_ (er_ (hQ J J h)))))
include kP2 H6 H63 H64 H65 A6 in
theorem w220_7 (h:T220_7 prog K P2 out6 t63 t64 t65):W prog d l220_2 σ st (thenW prog d (.loop l220_2) (blockW 4 (thenW prog d c220_3 Q))):=
 q_ J (b_ H65 H64 lss_ (e_ (sq_ (cs_ J (fun e=>sk_ (sq_ (bk_ (sq_ (W.reg ((h.1 e).2.elim fun p k=>ia_ H63 H65 (h.1 e).1 k.1 (Pan.row_eq p) J (lf_ J J J (s_alloc (so_ J (show lk _ (d,81922)=some (_,([.i .u64 0,.i .u8 0,.i .i64 0,.s [],.sl .full (List.map Val.row ([]:List Val)),.b false,.i .u64 0]:List AV)) from lk_here) J J J (e_ (q_ J (l_ J lk_here J J (x2 k.2 fun r _ c=>ca_ (sc1 J J) c.1 (m_ (x_ J J (x_ J J (m_ (m_ (e_ (sq_ (q_ J (m_ (b_ J J neq_ (e_ (cs_ J (fun j=>q_ J (m_ (s_mvL (f:=rowS) (l:=[]) J (m_ (er_ (hQ J J (c.2.1 j))))))) (fun j=>sk_ (W.reg0 J fun _ _=>s_mvL H6 (m_ (s_bslM (f:=rowS) (l:=[r]) J J (g_cons J J J g_nil) J (s_app rowS_len J J J A6.1 (c.2.2 j).1 J (fun _ _ o _ q=>s_mvL J (e_ (W.reg0 J fun _ _=>b_ H65 J add_ (m_ (e_ (kP2 _ _ (c.2.2 j).2 _ _ _ _ J H63 H64 J (ApM.mk o (Mine.app A6.2 J q)))))))))))))))))))))))))))))))))))))) (fun e=>ex_ (w220_8 hQ H6 A6 (h.2 e)))))))
include H3 H6 A6 B1 in
theorem w220_6 (h:T220_6 prog K out6 m1):W prog d c220_4 σ st Q:=
 sq_ (q_ J (f_ H3 (l_ J B1 J J (ll_ J (m_ (e_ (bk_ (h (I220_2 prog d Q m1.panics (m1.panics.length:Int)) (fun _ _ hb _ _ _ _ H6 H63 H64 H65 A6=>W.loop (w220_7 hQ (fun _ _ x=>x) H6 H63 H64 H65 A6 hb)) _ _ _ _ H6 J J J A6))))))))
include kP1 H2 H3 H6 H42 H43 H44 A6 B0 B1 in
theorem w220_5 (h:T220_5 prog K P1 out6 t42 t43 t44 m0 m1):W prog d l220_1 σ st (thenW prog d (.loop l220_1) (blockW 2 (thenW prog d c220_4 Q))):=
 q_ J (b_ H44 H43 lss_ (e_ (sq_ (cs_ J (fun e=>sk_ (sq_ (bk_ (sq_ (W.reg ((h.1 e).2.elim fun p k=>ia_ H42 H44 (h.1 e).1 k.1 (Dfr.row_eq p) J (lf_ J J J (s_alloc (so_ J (show lk _ (d,49154)=some (_,([.i .i64 0,.i .i64 0,.b false,.i .u8 0,.i .i64 0,.s [],.sl .full (List.map Val.row ([]:List Val)),.b false]:List AV)) from lk_here) J J J (e_ (q_ J (l_ H2 (lk_other J (lk_other J B0)) J J (l_ J lk_here J J (x2 k.2 fun r _ c=>ca_ (sc2 J J J) c.1 (m_ (x_ J J (x_ J J (m_ (m_ (e_ (sq_ (q_ J (m_ (b_ J J neq_ (e_ (cs_ J (fun j=>q_ J (m_ (s_mvL (f:=rowS) (l:=[]) J (m_ (er_ (hQ J J (c.2.1 j))))))) (fun j=>sk_ (W.reg0 J fun _ _=>s_mvL H6 (m_ (s_bslM (f:=rowS) (l:=[r]) J J (g_cons J J J g_nil) J (s_app rowS_len J J J A6.1 (c.2.2 j).1 J (fun _ _ o _ q=>s_mvL J (e_ (W.reg0 J fun _ _=>b_ H44 J add_ (m_ (e_ (kP1 _ _ _ _ (c.2.2 j).2 _ _ _ _ _ _ H2 H3 J H42 H43 J (ApM.mk o (Mine.app A6.2 J q)) (lk_other J (lk_other J B0)) (lk_other J (lk_other J B1))))))))))))))))))))))))))))))))))))))) (fun e=>ex_ (w220_6 hQ H3 H6 A6 B1 (h.2 e)))))))
include H2 H3 H6 A6 B0 B1 in
theorem w220_4 (h:T220_4 prog K out6 m0 m1):W prog d c220_5 σ st Q:=
 sq_ (q_ J (f_ H3 (l_ J B1 J J (ll_ J (m_ (e_ (bk_ (h (I220_1 prog d Q m1.defers (m1.defers.length:Int)) (fun _ _ _ _ hb _ _ _ _ _ _ H2 H3 H6 H42 H43 H44 A6 B0 B1=>W.loop (w220_5 hQ (fun _ _ _ _ x=>x) H2 H3 H6 H42 H43 H44 A6 B0 B1 hb)) _ _ _ _ _ _ H2 H3 H6 J J J A6 B0 B1))))))))
include kP0 H2 H3 H6 H20 H21 H22 A6 B0 B1 in
theorem w220_3 (h:T220_3 prog K P0 out6 t20 t21 t22 m0 m1):W prog d l220_0 σ st (thenW prog d (.loop l220_0) (blockW 0 (thenW prog d c220_5 Q))):=
 q_ J (b_ H22 H21 lss_ (e_ (sq_ (cs_ J (fun e=>sk_ (sq_ (bk_ (sq_ (W.reg (m_ ((h.1 e).2.elim fun p k=>ia_ H20 H22 (h.1 e).1 k.1 (Frm.row_eq p) J (lf_ J J J (s_alloc (m_ (so_ J (show lk _ (d,16387)=some (_,([.i .i64 0,.i .i64 0,.i .u64 0,.sl .full (List.map Loc.row ([]:List Loc))]:List AV)) from lk_here) J J J (e_ (q_ J (l_ H2 (lk_other J (lk_other J B0)) J J (m_ (l_ J lk_here J J (x2 k.2 fun _ _ c=>ca_ (sc3 J H22 J J) c.1 (m_ (x_ J J (x_ J J (s_mvL J (m_ (e_ (sq_ (q_ J (m_ (b_ J J neq_ (e_ (cs_ J (fun j=>q_ J (m_ (s_mvL (f:=rowS) (l:=[]) J (m_ (er_ (hQ J J (c.2.1 j))))))) (fun j=>sk_ (W.reg0 J fun _ _=>s_mvL H6 (s_mvL J (s_app rowS_len J J J A6.1 (c.2.2 j).1 J (fun _ _ o _ q=>s_mvL J (e_ (W.reg0 J fun _ _=>b_ H22 J add_ (m_ (e_ (kP0 _ _ _ _ (c.2.2 j).2 _ _ _ _ _ _ H2 H3 J H20 H21 J (ApM.mk o (Mine.app A6.2 J q)) (lk_other J (lk_other J B0)) (lk_other J (lk_other J B1))))))))))))))))))))))))))))))))))))))))) (fun e=>ex_ (w220_4 hQ H2 H3 H6 A6 B0 B1 (h.2 e)))))))
include H2 H3 H6 A6 B0 B1 in
theorem w220_2 (h:T220_2 prog K out6 m0 m1):W prog d c220_6 σ st Q:=
 sq_ (q_ J (f_ H3 (l_ J B1 J J (ll_ J (m_ (e_ (bk_ (h (I220_0 prog d Q m1.frames (m1.frames.length:Int)) (fun _ _ _ _ hb _ _ _ _ _ _ H2 H3 H6 H20 H21 H22 A6 B0 B1=>W.loop (w220_3 hQ (fun _ _ _ _ x=>x) H2 H3 H6 H20 H21 H22 A6 B0 B1 hb)) _ _ _ _ _ _ H2 H3 H6 J J J A6 B0 B1))))))))
include H2 H3 B0 B1 in
theorem w220_1 (h:T220_1 prog K m0 m1):W prog d c220_7 σ st Q:=
 q_ J (s_mvL (f:=rowS) (l:=[]) J (e_ (w220_2 hQ H2 H3 J ApM.full B0 B1 h)))
include H0 H1 in
theorem w220_0 (h:T220_0 prog K m0 x1):W prog d (sR 0 r220_0 c220_7) σ st Q:=
 q_ J (s_box H0 J (s_box H1 J (s_mvL (f:=rowS) (l:=[]) J (m_ (e_ (w220_1 hQ J J (lk_other J lk_here) lk_here h))))))
end
theorem p220 {prog:Prog}(hf:prog.fn 220=some pf220){m0:Img}{x1:Rou}{K:LB→Int→Prop}(h:T220_0 prog K m0 x1) :∃res0:LB,∃res1:Int,K res0 res1∧Pus prog 220 [m0.av,x1.av] (.tup [.sl .ext (List.map rowS res0),.i .i64 res1]):=
 P2 hf J (w220_0 (hM J fun _ _ _=>J) J J h)
def r207_0:List AI:=[oY 3 3 0,oY 5 5 2,oC 6 (.sl .full []),oI 7 0]
def r207_1:List AI:=[oM 13 1,oV 14 .lss 13 0,oM 15 14,gF 15 (oM 16 1),gF 15 (oV 17 .geq 16 16),oR 18 15 17]
def r207_2:List AI:=[oC 6 (.sl .full []),oI 7 2]
def r207_3:List AI:=[oK 19 3 3,oK 20 5 5,oQ 21 219 [19,20],oZ 22 21]
def r207_4:List AI:=[oC 6 (.sl .full []),oI 7 8]
def r207_5:List AI:=[oK 24 3 3,oK 25 5 5,oQ 26 220 [24,25],oM 23 26,oE 27 0 23,oE 28 1 23,oM 8 27,oM 9 28]
def r207_6:List AI:=[oM 29 9,oV 30 .neq 29 0]
def r207_7:List AI:=[oM 31 9,oC 6 (.sl .full []),oM 7 31]
def r207_8:List AI:=[oM 32 1,oQ 33 216 [32],oB 34 .add (.c (.s [103,111,114,111,117,116,105,110,101,32])) (.t 33),oB 35 .add (.t 34) (.c (.s [58,32])),oF 36 1 5,oL 37 36,oQ 38 15 [37],oB 39 .add (.c (.s [98,108,111,99,107,101,100,32])) (.t 38),oO 40 (.build [zs,zs,zs,zs] [(1,1,(.c (.s [114,101,97,100,121]))),(3,1,(.c (.s [100,111,110,101]))),(2,1,(.t 39))]),oF 41 0 5,oL 42 41,oO 43 (.ixA 4 1 false (.t 40) (.t 42)),oT 44 .add 35 43,oO 45 (.bslice [zs] 1 [(0,(.t 44))]),oM 10 45]
def r207_9:List AI:=[oM 46 8,oJ 47 46,oI 48 0]
def r207_10:List AI:=[oT 49 .lss 48 47]
def r207_11:List AI:=[oX 50 1 46 48,oL 51 50,oM 12 51]
def r207_12:List AI:=[oM 52 10,oM 53 12,oB 54 .add (.c (.s [32,32])) (.t 53),oO 55 (.bslice [zs] 1 [(0,(.t 54))]),oO 56 (.app 1 16 (.t 52) (.t 55)),oM 10 56]
def r207_13:List AI:=[oV 57 .add 48 1,oM 48 57]
def r207_14:List AI:=[oM 58 10,oM 6 58,oI 7 0]
abbrev l207_0:AC:=(sR 10 r207_10 (.seq (.cond (.t 49) .skip (.exit 0)) (.seq (.block 1 (sR 11 r207_11 (.reg 12 r207_12))) (.reg 13 r207_13))))
abbrev c207_1:AC:=(sR 14 r207_14 .ret)
abbrev c207_2:AC:=(.seq (sR 3 r207_3 (.cond (.t 22) (sR 4 r207_4 .ret) .skip)) (sR 5 r207_5 (.seq (sR 6 r207_6 (.cond (.t 30) (sR 7 r207_7 .ret) .skip)) (sR 8 r207_8 (.seq (sR 9 r207_9 (.block 0 (.loop l207_0))) c207_1)))))
abbrev b207:AC:=(sR 0 r207_0 (.seq (sR 1 r207_1 (.cond (.t 18) (sR 2 r207_2 .ret) .skip)) c207_2))
def pf207:AF:={ nt:=59,res:=[.tmp 6,.tmp 7],body:=b207 }
abbrev I207_0 (prog:Prog)(d:Nat)(Q:AE→Sl→St→Prop)(t46:LB)(t47:Int)(out10:LB)(t48:Int):Prop:=
  ∀(σ:Sl)(st:St) (o_out10 o_t46:Own),σ 10=.sl o_out10 (List.map rowS out10)→σ 46=.sl o_t46 (List.map rowS t46)→σ 47=.i .i64 t47→σ 48=.i .i64 t48→ApM d st.ow o_out10 out10.length→W prog d (.loop l207_0) σ st (blockW 0 (thenW prog d c207_1 Q))
def T207_3 (prog:Prog)(K:LB→Int→Prop)(out10:LB):Prop:=
  K out10 0
def T207_2 (prog:Prog)(K:LB→Int→Prop)(P0:LB→Int→Prop)(out10:LB)(t46:LB)(t47:Int)(t48:Int):Prop:=
  (t48<t47→0≤t48∧∃c:BS,t46[(t48).toNat]?=some c∧([32,32]:BS).length+c.length≤maxStr∧Fit (out10.length+[(([32,32]:BS)++c)].length) 16∧P0 (out10++[(([32,32]:BS)++c)]) (IntKind.i64.wrap (t48+1)))∧(¬(t48<t47)→T207_3 prog K out10)
def T207_1 (prog:Prog)(K:LB→Int→Prop)(g1:Int)(m0:Img)(m1:Rou):Prop:=
  ∃c,Pus prog 219 [m0.av,m1.av] (.b c)∧((!c)=true→K ([]:LB) 8)∧((!c)=false→∃o:LB,∃j,Pus prog 220 [m0.av,m1.av] (.tup [.sl .ext (List.map rowS o),.i .i64 j])∧(j≠0→K ([]:LB) j)∧(¬(j≠0)→∃e:BS,Pus prog 216 [.i .i64 g1] (.s e)∧([103,111,114,111,117,116,105,110,101,32]:BS).length+e.length≤maxStr∧(([103,111,114,111,117,116,105,110,101,32]:BS)++e).length+([58,32]:BS).length≤maxStr∧∃k:BS,Pus prog 15 [.i .i64 m1.key] (.s k)∧([98,108,111,99,107,101,100,32]:BS).length+k.length≤maxStr∧0≤m1.status∧∃p:BS,([[],([114,101,97,100,121]:BS),(([98,108,111,99,107,101,100,32]:BS)++k),([100,111,110,101]:BS)]:LB)[(m1.status).toNat]?=some p∧((([103,111,114,111,117,116,105,110,101,32]:BS)++e)++([58,32]:BS)).length+p.length≤maxStr∧∀P0:LB→Int→Prop,(∀(out10:LB)(t48:Int),T207_2 prog K P0 out10 o (o.length:Int) t48→P0 out10 t48)→P0 [(((([103,111,114,111,117,116,105,110,101,32]:BS)++e)++([58,32]:BS))++p)] 0))
def T207_0 (prog:Prog)(K:LB→Int→Prop)(m0:Img)(g1:Int)(x2:Rou):Prop:=
  (g1<0→K ([]:LB) 2)∧(¬(g1<0)→(g1≥16→K ([]:LB) 2)∧(¬(g1≥16)→T207_1 prog K g1 m0 x2))
section
variable {prog:Prog}{d:Nat}{Q:AE→Sl→St→Prop}{K:LB→Int→Prop}(hQ:HM rowS (AV.i .i64) 6 7 Q K){σ:Sl}{st:St}
include hQ
variable {out10:LB}{o_out10:Own}{t46:LB}{t47 t48:Int}{P0:LB→Int→Prop}{o_t46:Own}{g1:Int}{m0:Img}{m1:Rou}{v0 v1:Nat}{x2:Rou}
variable (kP0 :∀(out10:LB)(t48:Int),P0 out10 t48→I207_0 prog d Q t46 t47 out10 t48)(H0:σ 0=m0.av)(H10:σ 10=.sl o_out10 (List.map rowS out10))(H1:σ 1=.i .i64 g1)(H46:σ 46=.sl o_t46 (List.map rowS t46))(H3:σ 3=.p (d,0) v0 0)(H2:σ 2=x2.av)(H47:σ 47=.i .i64 t47)(H5:σ 5=.p (d,1) v1 0)(H48:σ 48=.i .i64 t48)(B0:lk st.bx (d,0)=some (v0,[.sl .ext (List.map Typ.row m0.types),.sl .ext (List.map rowS m0.texts),.sl .ext (List.map Fun.row m0.funcs)]))(A10:ApM d st.ow o_out10 out10.length)(B1:lk st.bx (d,1)=some (v1,[.i .u8 m1.status,.i .i64 m1.key,.sl .ext (List.map Frm.row m1.frames),.sl .ext (List.map Dfr.row m1.defers),.sl .ext (List.map Pan.row m1.panics)]))
include H10 A10 in
theorem w207_3 (h:T207_3 prog K out10):W prog d c207_1 σ st Q:=
 q_ J (s_mvL H10 (s_mvL J (m_ (er_ (hQ J J h)))))
include kP0 H10 H46 H47 H48 A10 in
theorem w207_2 (h:T207_2 prog K P0 out10 t46 t47 t48):W prog d l207_0 σ st (thenW prog d (.loop l207_0) (blockW 0 (thenW prog d c207_1 Q))):=
 q_ J (b_ H48 H47 lss_ (e_ (sq_ (cs_ J (fun e=>sk_ (sq_ (bk_ (q_ J ((h.1 e).2.elim fun j c=>ia_ H46 H48 (h.1 e).1 c.1 J J (lf_ J J J (m_ (e_ (W.reg0 J fun _ _=>s_mvL H10 (m_ (b_ J J (abin_cat' c.2.1) (s_bslM (f:=rowS) (l:=[(([32,32]:BS)++j)]) J J (g_cons J J J g_nil) J (s_app rowS_len J J J A10.1 c.2.2.1 J (fun _ _ i _ k=>s_mvL J (e_ (W.reg0 J fun _ _=>b_ H48 J add_ (m_ (e_ (kP0 _ _ c.2.2.2 _ _ _ _ J H46 H47 J (ApM.mk i (Mine.app A10.2 J k))))))))))))))))))))) (fun e=>ex_ (w207_3 hQ H10 A10 (h.2 e)))))))
include H1 H3 H5 B0 B1 in
theorem w207_1 (h:T207_1 prog K g1 m0 m1):W prog d c207_2 σ st Q:=
 sq_ (q_ J (l_ H3 B0 J J (l_ H5 B1 J J (h.elim fun _ j=>ca_ (sc2 J J J) j.1 (nt_ J (e_ (cb_ J (fun o=>q_ J (s_mvL (f:=rowS) (l:=[]) J (m_ (er_ (hQ J J (j.2.1 o)))))) (fun o=>sk_ (q_ J (l_ H3 B0 J J (l_ H5 B1 J J (x2 (j.2.2 o) fun q _ k=>ca_ (sc2 J J J) k.1 (m_ (x_ J J (x_ J J (s_mvL J (m_ (e_ (sq_ (q_ J (m_ (b_ J J neq_ (e_ (cs_ J (fun p=>q_ J (m_ (s_mvL (f:=rowS) (l:=[]) J (m_ (er_ (hQ J J (k.2.1 p))))))) (fun p=>sk_ (q_ J (m_ ((k.2.2 p).elim fun v e=>ca_ (sc1 H1 J) e.1 (b_ J J (abin_cat' e.2.1) (b_ J J (abin_cat' e.2.2.1) (f_ H5 (l_ J B1 J J (e.2.2.2.elim fun u c=>ca_ (sc1 J J) c.1 (b_ J J (abin_cat' c.2.1) (s_buildM (f:=AV.s) (l:=[[],([114,101,97,100,121]:BS),(([98,108,111,99,107,101,100,32]:BS)++u),([100,111,110,101]:BS)]) (f_cons J J (f_cons J J (f_cons J J f_nil))) J (f_ H5 (l_ J B1 J J (c.2.2.2.elim fun r i=>s_ixA (f:=AV.s) J J J c.2.2.1 i.1 (b_ J J (abin_cat' i.2.1) (s_bslM (f:=rowS) (l:=[(((([103,111,114,111,117,116,105,110,101,32]:BS)++v)++([58,32]:BS))++r)]) J J (g_cons J J J g_nil) J (s_mvL J (e_ (sq_ (q_ J (s_mvL J (ll_ J (m_ (e_ (bk_ (i.2.2 (I207_0 prog d Q q (q.length:Int)) (fun _ _ hb _ _ _ _ H10 H46 H47 H48 A10=>W.loop (w207_2 hQ (fun _ _ x=>x) H10 H46 H47 H48 A10 hb)) _ _ _ _ J J J J ApM.full))))))))))))))))))))))))))))))))))))))))))))))))))
include H0 H1 H2 in
theorem w207_0 (h:T207_0 prog K m0 g1 x2):W prog d (sR 0 r207_0 (.seq (sR 1 r207_1 (.cond (.t 18) (sR 2 r207_2 .ret) .skip)) c207_2)) σ st Q:=
 q_ J (s_box H0 J (s_box H2 J (s_mvL (f:=rowS) (l:=[]) J (m_ (e_ (sq_ (q_ J (s_mvI H1 (b_ J J lss_ (s_mvB J (em_ (g:=15) J (fun c=>z_ 3 J (e_ (ct_ J (q_ J (s_mvL (f:=rowS) (l:=[]) J (m_ (er_ (hQ J J (h.1 c))))))))) (fun c=>gy_ J (s_mvI H1 (gy_ J (b_ J J geq_ (pf_ J J (e_ (cs_ J (fun e=>q_ J (s_mvL (f:=rowS) (l:=[]) J (m_ (er_ (hQ J J ((h.2 c).1 e)))))) (fun e=>sk_ (w207_1 hQ H1 J J (lk_other J lk_here) lk_here ((h.2 c).2 e)))))))))))))))))))))
end
theorem p207 {prog:Prog}(hf:prog.fn 207=some pf207){m0:Img}{g1:Int}{x2:Rou}{K:LB→Int→Prop}(h:T207_0 prog K m0 g1 x2) :∃res0:LB,∃res1:Int,K res0 res1∧Pus prog 207 [m0.av,.i .i64 g1,x2.av] (.tup [.sl .ext (List.map rowS res0),.i .i64 res1]):=
 P2 hf J (w207_0 (hM J fun _ _ _=>J) J J J h)
abbrev H222 (Q:AE→Sl→St→Prop)(K:LB→Prop):Prop:=∀(σ:Sl)(st:St)(o0:Own)(res0:LB),σ 6=.sl o0 (List.map rowS res0)→K res0→Q .ret σ st
section
variable {prog:Prog}{d:Nat}{Q:AE→Sl→St→Prop}{K:LB→Prop}(hQ:H222 Q K){σ:Sl}{st:St}
include hQ
end
abbrev H208 (Q:AE→Sl→St→Prop)(K:LB→Int→Prop):Prop:=∀(σ:Sl)(st:St)(o0:Own)(res0:LB)(res1:Int),σ 6=.sl o0 (List.map rowS res0)→σ 7=.i .i64 res1→K res0 res1→Q .ret σ st
section
variable {prog:Prog}{d:Nat}{Q:AE→Sl→St→Prop}{K:LB→Int→Prop}(hQ:H208 Q K){σ:Sl}{st:St}
include hQ
end
abbrev H205 (Q:AE→Sl→St→Prop)(K:BS→Int→Prop):Prop:=∀(σ:Sl)(st:St)(res0:BS)(res1:Int),σ 4=.s res0→σ 5=.i .i64 res1→K res0 res1→Q .ret σ st
section
variable {prog:Prog}{d:Nat}{Q:AE→Sl→St→Prop}{K:BS→Int→Prop}(hQ:H205 Q K){σ:Sl}{st:St}
include hQ
end
abbrev H218 (Q:AE→Sl→St→Prop)(K:BS→Prop):Prop:=∀(σ:Sl)(st:St)(res0:BS),σ 4=.s res0→K res0→Q .ret σ st
section
variable {prog:Prog}{d:Nat}{Q:AE→Sl→St→Prop}{K:BS→Prop}(hQ:H218 Q K){σ:Sl}{st:St}
include hQ
end
abbrev H206 (Q:AE→Sl→St→Prop)(K:BS→Int→Prop):Prop:=∀(σ:Sl)(st:St)(res0:BS)(res1:Int),σ 4=.s res0→σ 5=.i .i64 res1→K res0 res1→Q .ret σ st
section
variable {prog:Prog}{d:Nat}{Q:AE→Sl→St→Prop}{K:BS→Int→Prop}(hQ:H206 Q K){σ:Sl}{st:St}
include hQ
end
end Go.AM

/- Parts of the proof. -/
namespace Go.AM
open Go
set_option linter.unusedVariables false
set_option linter.unusedSimpArgs false
set_option maxRecDepth 4000
attribute [local irreducible] WO fillCells fillRows
def r203_0:List AI:=[oY 1 4 0,oC 2 (.b false)]
def r203_1:List AI:=[oI 3 0]
def r203_2:List AI:=[oM 4 3,oF 5 3 1,oL 6 5,oJ 7 6,oT 8 .lss 4 7,oM 9 8,gT 9 (oM 10 3),gT 9 (oV 11 .leq 10 20),oA 12 9 11]
def r203_3:List AI:=[oF 15 3 1,oL 16 15,oM 17 3,oX 18 5 16 17,oK 19 5 18,oQ 20 204 [19]]
def r203_4:List AI:=[oC 2 (.b true)]
def r203_5:List AI:=[oM 13 3,oV 14 .add 13 1,oM 3 14]
def r203_6:List AI:=[oF 21 3 1,oL 22 21,oJ 23 22,oV 24 .gtr 23 20,oM 2 24]
abbrev c203_0:AC:=(.seq (.block 1 (sR 4 r203_3 (.cond (.t 20) (sR 5 r203_4 .ret) .skip))) (.reg 3 r203_5))
abbrev l203_0:AC:=(.seq (sR 2 r203_2 (.cond (.t 12) .skip (.exit 0))) c203_0)
abbrev c203_2:AC:=(sR 6 r203_6 .ret)
abbrev b203:AC:=(sR 0 r203_0 (.seq (sR 1 r203_1 (.block 0 (.loop l203_0))) c203_2))
def pf203:AF:={ nt:=25,res:=[.tmp 2],body:=b203 }
abbrev I203_0 (prog:Prog)(d:Nat)(Q:AE→Sl→St→Prop)(i3:Int)(m0:Sta):Prop:=
  ∀(σ:Sl)(st:St)(v0:Nat),σ 1=.p (d,0) v0 0→σ 3=.i .i64 i3→lk st.bx (d,0)=some (v0,[.i .u8 m0.outcome,.i .i64 m0.failing,.i .i64 m0.steps,.sl .ext (List.map Rou.row m0.routines)])→W prog d (.loop l203_0) σ st (blockW 0 (thenW prog d c203_2 Q))
def T203_2 (prog:Prog)(K:Bool→Prop)(P0:Int→Sta→Prop)(i3:Int)(m0:Sta):Prop:=
  0≤i3∧∃e:Rou,m0.routines[(i3).toNat]?=some e∧∃c,Pus prog 204 [e.av] (.b c)∧(c=true→K true)∧(c=false→P0 (IntKind.i64.wrap (i3+1)) m0)
def T203_3 (prog:Prog)(K:Bool→Prop)(m0:Sta):Prop:=
  K (decide ((m0.routines.length:Int)>20))
def T203_1 (prog:Prog)(K:Bool→Prop)(P0:Int→Sta→Prop)(i3:Int)(m0:Sta):Prop:=
  (i3<(m0.routines.length:Int)→(i3≤20→T203_2 prog K P0 i3 m0)∧(¬(i3≤20)→T203_3 prog K m0))∧(¬(i3<(m0.routines.length:Int))→T203_3 prog K m0)
def T203_0 (prog:Prog)(K:Bool→Prop)(s0:Sta):Prop:=
  ∀P0:Int→Sta→Prop,(∀(i3:Int)(m0:Sta),T203_1 prog K P0 i3 m0→P0 i3 m0)→P0 0 s0
section
variable {prog:Prog}{d:Nat}{Q:AE→Sl→St→Prop}{K:Bool→Prop}(hQ:H1 AV.b 2 Q K){σ:Sl}{st:St}
include hQ
variable {i3:Int}{m0:Sta}{P0:Int→Sta→Prop}{v0:Nat}{s0:Sta}
variable (kP0 :∀(i3:Int)(m0:Sta),P0 i3 m0→I203_0 prog d Q i3 m0)(H0:σ 0=s0.av)(H1:σ 1=.p (d,0) v0 0)(H3:σ 3=.i .i64 i3)(B0:lk st.bx (d,0)=some (v0,[.i .u8 m0.outcome,.i .i64 m0.failing,.i .i64 m0.steps,.sl .ext (List.map Rou.row m0.routines)]))
include kP0 H1 H3 B0 in
theorem w203_2 (h:T203_2 prog K P0 i3 m0):W prog d c203_0 σ st (thenW prog d (.loop l203_0) (blockW 0 (thenW prog d c203_2 Q))):=
 sq_ (bk_ (q_ J (f_ H1 (l_ J B0 J J (m_ (h.2.elim fun j i=>ia_ J H3 h.1 i.1 (Rou.row_eq j) J (lf_ J J J (i.2.elim fun _ c=>ca_ (sc1 J J) c.1 (e_ (cb_ J (fun e=>q_ J (m_ (er_ (hQ J (c.2.1 e))))) (fun e=>sk_ (W.reg0 J fun _ _=>m_ (b_ H3 J add_ (m_ (e_ (kP0 _ _ (c.2.2 e) _ _ _ H1 J B0))))))))))))))))
include H1 B0 in
theorem w203_3 (h:T203_3 prog K m0):W prog d c203_2 σ st Q:=
 q_ J (f_ H1 (l_ J B0 J J (ll_ J (b_ J J gtr_ (m_ (er_ (hQ J h)))))))
include kP0 H1 H3 B0 in
theorem w203_1 (h:T203_1 prog K P0 i3 m0):W prog d l203_0 σ st (thenW prog d (.loop l203_0) (blockW 0 (thenW prog d c203_2 Q))):=
 sq_ (q_ J (s_mvI H3 (f_ H1 (l_ J B0 J J (ll_ J (b_ J J lss_ (s_mvB J (em_ (g:=9) J (fun c=>gy_ J (s_mvI H3 (gy_ J (b_ J J leq_ (pt_ J J (e_ (cs_ J (fun e=>sk_ (w203_2 hQ kP0 H1 H3 B0 ((h.1 c).1 e))) (fun e=>ex_ (w203_3 hQ H1 B0 ((h.1 c).2 e)))))))))) (fun c=>z_ 3 J (e_ (cf_ J (ex_ (w203_3 hQ H1 B0 (h.2 c))))))))))))))
include H0 in
theorem w203_0 (h:T203_0 prog K s0):W prog d (sR 0 r203_0 (.seq (sR 1 r203_1 (.block 0 (.loop l203_0))) c203_2)) σ st Q:=
 q_ J (s_box H0 J (m_ (e_ (sq_ (q_ J (m_ (e_ (bk_ (h (I203_0 prog d Q ) (fun _ _ hb _ _ _ H1 H3 B0=>W.loop (w203_1 hQ (fun _ _ x=>x) H1 H3 B0 hb)) _ _ _ J J lk_here)))))))))
end
theorem p203 {prog:Prog}(hf:prog.fn 203=some pf203){s0:Sta}{K:Bool→Prop}(h:T203_0 prog K s0) :∃res0:Bool,K res0∧Pus prog 203 [s0.av] (.b res0):=
 P1 hf J (w203_0 (h1 J fun _=>J) J h)
def r204_0:List AI:=[oY 1 5 0,oC 2 (.b false)]
def r204_1:List AI:=[oF 5 2 1,oL 6 5,oJ 7 6,oV 8 .gtr 7 12,oM 9 8,gF 9 (oF 10 3 1),gF 9 (oL 11 10),gF 9 (oJ 12 11),gF 9 (oV 13 .gtr 12 12),oR 14 9 13,oM 15 14,gF 15 (oF 16 4 1),gF 15 (oL 17 16),gF 15 (oJ 18 17),gF 15 (oV 19 .gtr 18 20),oR 20 15 19,oM 21 20,gF 21 (oF 22 4 1),gF 21 (oL 23 22),gF 21 (oQ 24 162 [23]),oR 25 21 24]
def r204_2:List AI:=[oC 2 (.b true)]
def r204_3:List AI:=[oI 3 0]
def r204_4:List AI:=[oM 26 3,oF 27 2 1,oL 28 27,oJ 29 28,oT 30 .lss 26 29]
def r204_5:List AI:=[oF 33 2 1,oL 34 33,oM 35 3,oX 36 4 34 35,oK 37 4 36,oQ 38 80 [37]]
def r204_6:List AI:=[oC 2 (.b true)]
def r204_7:List AI:=[oM 31 3,oV 32 .add 31 1,oM 3 32]
def r204_8:List AI:=[oI 4 0]
def r204_9:List AI:=[oM 39 4,oF 40 3 1,oL 41 40,oJ 42 41,oT 43 .lss 39 42]
def r204_10:List AI:=[oF 46 3 1,oL 47 46,oM 48 4,oX 49 8 47 48,oF 50 3 49,oK 51 5 50,oQ 52 71 [51]]
def r204_11:List AI:=[oC 2 (.b true)]
def r204_12:List AI:=[oM 44 4,oV 45 .add 44 1,oM 4 45]
def r204_13:List AI:=[oC 2 (.b false)]
abbrev l204_0:AC:=(.seq (sR 4 r204_4 (.cond (.t 30) .skip (.exit 0))) (.seq (.block 1 (sR 6 r204_5 (.cond (.t 38) (sR 7 r204_6 .ret) .skip))) (.reg 5 r204_7)))
abbrev l204_1:AC:=(.seq (sR 9 r204_9 (.cond (.t 43) .skip (.exit 2))) (.seq (.block 3 (sR 11 r204_10 (.cond (.t 52) (sR 12 r204_11 .ret) .skip))) (.reg 10 r204_12)))
abbrev c204_2:AC:=(sR 13 r204_13 .ret)
abbrev c204_3:AC:=(.seq (sR 8 r204_8 (.block 2 (.loop l204_1))) c204_2)
abbrev c204_4:AC:=(.seq (sR 3 r204_3 (.block 0 (.loop l204_0))) c204_3)
abbrev b204:AC:=(sR 0 r204_0 (.seq (sR 1 r204_1 (.cond (.t 25) (sR 2 r204_2 .ret) .skip)) c204_4))
def pf204:AF:={ nt:=53,res:=[.tmp 2],body:=b204 }
abbrev I204_0 (prog:Prog)(d:Nat)(Q:AE→Sl→St→Prop)(i3:Int)(m0:Rou):Prop:=
  ∀(σ:Sl)(st:St)(v0:Nat),σ 1=.p (d,0) v0 0→σ 3=.i .i64 i3→lk st.bx (d,0)=some (v0,[.i .u8 m0.status,.i .i64 m0.key,.sl .ext (List.map Frm.row m0.frames),.sl .ext (List.map Dfr.row m0.defers),.sl .ext (List.map Pan.row m0.panics)])→W prog d (.loop l204_0) σ st (blockW 0 (thenW prog d c204_3 Q))
abbrev I204_1 (prog:Prog)(d:Nat)(Q:AE→Sl→St→Prop)(i4:Int)(m0:Rou):Prop:=
  ∀(σ:Sl)(st:St)(v0:Nat),σ 1=.p (d,0) v0 0→σ 4=.i .i64 i4→lk st.bx (d,0)=some (v0,[.i .u8 m0.status,.i .i64 m0.key,.sl .ext (List.map Frm.row m0.frames),.sl .ext (List.map Dfr.row m0.defers),.sl .ext (List.map Pan.row m0.panics)])→W prog d (.loop l204_1) σ st (blockW 2 (thenW prog d c204_2 Q))
def T204_5 (prog:Prog)(K:Bool→Prop) :Prop:=
  K false
def T204_4 (prog:Prog)(K:Bool→Prop)(P1:Int→Rou→Prop)(i4:Int)(m0:Rou):Prop:=
  (i4<(m0.defers.length:Int)→0≤i4∧∃e:Dfr,m0.defers[(i4).toNat]?=some e∧∃c,Pus prog 71 [e.arg.av] (.b c)∧(c=true→K true)∧(c=false→P1 (IntKind.i64.wrap (i4+1)) m0))∧(¬(i4<(m0.defers.length:Int))→T204_5 prog K )
def T204_3 (prog:Prog)(K:Bool→Prop)(m0:Rou):Prop:=
  ∀P1:Int→Rou→Prop,(∀(i4:Int)(m0:Rou),T204_4 prog K P1 i4 m0→P1 i4 m0)→P1 0 m0
def T204_2 (prog:Prog)(K:Bool→Prop)(P0:Int→Rou→Prop)(i3:Int)(m0:Rou):Prop:=
  (i3<(m0.frames.length:Int)→0≤i3∧∃e:Frm,m0.frames[(i3).toNat]?=some e∧∃c,Pus prog 80 [e.av] (.b c)∧(c=true→K true)∧(c=false→P0 (IntKind.i64.wrap (i3+1)) m0))∧(¬(i3<(m0.frames.length:Int))→T204_3 prog K m0)
def T204_1 (prog:Prog)(K:Bool→Prop)(m0:Rou):Prop:=
  ∀P0:Int→Rou→Prop,(∀(i3:Int)(m0:Rou),T204_2 prog K P0 i3 m0→P0 i3 m0)→P0 0 m0
def T204_0 (prog:Prog)(K:Bool→Prop)(x0:Rou):Prop:=
  ((x0.frames.length:Int)>12→K true)∧(¬((x0.frames.length:Int)>12)→((x0.defers.length:Int)>12→K true)∧(¬((x0.defers.length:Int)>12)→((x0.panics.length:Int)>20→K true)∧(¬((x0.panics.length:Int)>20)→∃c,Pus prog 162 [.sl .ext (List.map Pan.row x0.panics)] (.b c)∧(c=true→K true)∧(c=false→T204_1 prog K x0))))
section
variable {prog:Prog}{d:Nat}{Q:AE→Sl→St→Prop}{K:Bool→Prop}(hQ:H1 AV.b 2 Q K){σ:Sl}{st:St}
include hQ
variable {i4:Int}{m0:Rou}{P1:Int→Rou→Prop}{v0:Nat}{i3:Int}{P0:Int→Rou→Prop}{x0:Rou}
variable (kP1 :∀(i4:Int)(m0:Rou),P1 i4 m0→I204_1 prog d Q i4 m0) (kP0 :∀(i3:Int)(m0:Rou),P0 i3 m0→I204_0 prog d Q i3 m0)(H0:σ 0=x0.av)(H1:σ 1=.p (d,0) v0 0)(H4:σ 4=.i .i64 i4)(H3:σ 3=.i .i64 i3)(B0:lk st.bx (d,0)=some (v0,[.i .u8 m0.status,.i .i64 m0.key,.sl .ext (List.map Frm.row m0.frames),.sl .ext (List.map Dfr.row m0.defers),.sl .ext (List.map Pan.row m0.panics)]))
theorem w204_5 (h:T204_5 prog K ):W prog d c204_2 σ st Q:=
 q_ J (m_ (er_ (hQ J h)))
include kP1 H1 H4 B0 in
theorem w204_4 (h:T204_4 prog K P1 i4 m0):W prog d l204_1 σ st (thenW prog d (.loop l204_1) (blockW 2 (thenW prog d c204_2 Q))):=
 sq_ (q_ J (m_ (f_ H1 (l_ J B0 J J (ll_ J (b_ H4 J lss_ (e_ (cs_ J (fun c=>sk_ (sq_ (bk_ (q_ J (f_ H1 (l_ J B0 J J (m_ ((h.1 c).2.elim fun k j=>ia_ J H4 (h.1 c).1 j.1 (Dfr.row_eq k) J (ff_ J (lf_ J J J (j.2.elim fun _ e=>ca_ (sc1 J J) e.1 (e_ (cb_ J (fun i=>q_ J (m_ (er_ (hQ J (e.2.1 i))))) (fun i=>sk_ (W.reg0 J fun _ _=>m_ (b_ H4 J add_ (m_ (e_ (kP1 _ _ (e.2.2 i) _ _ _ H1 J B0))))))))))))))))))) (fun c=>ex_ (w204_5 hQ (h.2 c)))))))))))
include H1 B0 in
theorem w204_3 (h:T204_3 prog K m0):W prog d c204_3 σ st Q:=
 sq_ (q_ J (m_ (e_ (bk_ (h (I204_1 prog d Q ) (fun _ _ hb _ _ _ H1 H4 B0=>W.loop (w204_4 hQ (fun _ _ x=>x) H1 H4 B0 hb)) _ _ _ H1 J B0)))))
include kP0 H1 H3 B0 in
theorem w204_2 (h:T204_2 prog K P0 i3 m0):W prog d l204_0 σ st (thenW prog d (.loop l204_0) (blockW 0 (thenW prog d c204_3 Q))):=
 sq_ (q_ J (m_ (f_ H1 (l_ J B0 J J (ll_ J (b_ H3 J lss_ (e_ (cs_ J (fun c=>sk_ (sq_ (bk_ (q_ J (f_ H1 (l_ J B0 J J (m_ ((h.1 c).2.elim fun k j=>ia_ J H3 (h.1 c).1 j.1 (Frm.row_eq k) J (lf_ J J J (j.2.elim fun _ e=>ca_ (sc1 J J) e.1 (e_ (cb_ J (fun i=>q_ J (m_ (er_ (hQ J (e.2.1 i))))) (fun i=>sk_ (W.reg0 J fun _ _=>m_ (b_ H3 J add_ (m_ (e_ (kP0 _ _ (e.2.2 i) _ _ _ H1 J B0)))))))))))))))))) (fun c=>ex_ (w204_3 hQ H1 B0 (h.2 c)))))))))))
include H1 B0 in
theorem w204_1 (h:T204_1 prog K m0):W prog d c204_4 σ st Q:=
 sq_ (q_ J (m_ (e_ (bk_ (h (I204_0 prog d Q ) (fun _ _ hb _ _ _ H1 H3 B0=>W.loop (w204_2 hQ (fun _ _ x=>x) H1 H3 B0 hb)) _ _ _ H1 J B0)))))
include H0 in
theorem w204_0 (h:T204_0 prog K x0):W prog d (sR 0 r204_0 (.seq (sR 1 r204_1 (.cond (.t 25) (sR 2 r204_2 .ret) .skip)) c204_4)) σ st Q:=
 q_ J (s_box H0 J (m_ (e_ (sq_ (q_ J (f_ J (l_ J lk_here J J (ll_ J (b_ J J gtr_ (s_mvB J (em_ (g:=9) J (fun c=>z_ 16 J (e_ (ct_ J (q_ J (m_ (er_ (hQ J (h.1 c)))))))) (fun c=>gy_ J (f_ J (gy_ J (l_ J lk_here J J (gy_ J (ll_ J (gy_ J (b_ J J gtr_ (z_ 2 J (em_ (g:=15) J (fun e=>z_ 10 J (e_ (ct_ J (q_ J (m_ (er_ (hQ J ((h.2 c).1 e)))))))) (fun e=>gy_ J (f_ J (gy_ J (l_ J lk_here J J (gy_ J (ll_ J (gy_ J (b_ J J gtr_ (z_ 2 J (em_ (g:=21) J (fun j=>z_ 4 J (e_ (ct_ J (q_ J (m_ (er_ (hQ J (((h.2 c).2 e).1 j)))))))) (fun j=>gy_ J (f_ J (gy_ J (l_ J lk_here J J (gy_ J ((((h.2 c).2 e).2 j).elim fun _ i=>ca_ (sc1 J J) i.1 (pf_ J J (e_ (cb_ J (fun k=>q_ J (m_ (er_ (hQ J (i.2.1 k))))) (fun k=>sk_ (w204_1 hQ J lk_here (i.2.2 k)))))))))))))))))))))))))))))))))))))))))))
end
theorem p204 {prog:Prog}(hf:prog.fn 204=some pf204){x0:Rou}{K:Bool→Prop}(h:T204_0 prog K x0) :∃res0:Bool,K res0∧Pus prog 204 [x0.av] (.b res0):=
 P1 hf J (w204_0 (h1 J fun _=>J) J h)
abbrev H202 (Q:AE→Sl→St→Prop)(K:Bool→Prop):Prop:=∀(σ:Sl)(st:St)(res0:Bool),σ 12=.b res0→K res0→Q .ret σ st
section
variable {prog:Prog}{d:Nat}{Q:AE→Sl→St→Prop}{K:Bool→Prop}(hQ:H202 Q K){σ:Sl}{st:St}
include hQ
end
end Go.AM

/- Parts of the proof. -/
namespace Go.AM
open Go
end Go.AM

/- Parts of the proof. -/
namespace Go.AM
open Go
set_option linter.unusedVariables false
set_option linter.unusedSimpArgs false
set_option maxRecDepth 4000
attribute [local irreducible] WO fillCells fillRows
def r258_0:List AI:=[oC 2 (.s [])]
def r258_1:List AI:=[oM 3 0,oQ 4 15 [3],oM 2 4]
abbrev b258:AC:=(sR 0 r258_0 (sR 1 r258_1 .ret))
def pf258:AF:={ nt:=5,res:=[.tmp 2],body:=b258 }
def T258_0 (prog:Prog)(K:BS→Prop)(n0:Int):Prop:=
  ∃c,Pus prog 15 [.i .i64 n0] (.s c)∧K c
section
variable {prog:Prog}{d:Nat}{Q:AE→Sl→St→Prop}{K:BS→Prop}(hQ:H1 AV.s 2 Q K){σ:Sl}{st:St}
include hQ
variable {n0:Int}
variable (H0:σ 0=.i .i64 n0)
include H0 in
theorem w258_0 (h:T258_0 prog K n0):W prog d (sR 0 r258_0 (sR 1 r258_1 .ret)) σ st Q:=
 q_ J (m_ (e_ (q_ J (m_ (h.elim fun _ c=>ca_ (sc1 H0 J) c.1 (m_ (er_ (hQ J c.2))))))))
end
theorem p258 {prog:Prog}(hf:prog.fn 258=some pf258){n0:Int}{K:BS→Prop}(h:T258_0 prog K n0) :∃res0:BS,K res0∧Pus prog 258 [.i .i64 n0] (.s res0):=
 P1 hf J (w258_0 (h1 J fun _=>J) J h)
abbrev H263 (Q:AE→Sl→St→Prop)(K:LB→Prop):Prop:=∀(σ:Sl)(st:St)(o0:Own)(res0:LB),σ 0=.sl o0 (List.map rowS res0)→K res0→Q .ret σ st
section
variable {prog:Prog}{d:Nat}{Q:AE→Sl→St→Prop}{K:LB→Prop}(hQ:H263 Q K){σ:Sl}{st:St}
include hQ
end
abbrev H265 (Q:AE→Sl→St→Prop)(K:BS→Prop):Prop:=∀(σ:Sl)(st:St)(res0:BS),σ 2=.s res0→K res0→Q .ret σ st
section
variable {prog:Prog}{d:Nat}{Q:AE→Sl→St→Prop}{K:BS→Prop}(hQ:H265 Q K){σ:Sl}{st:St}
include hQ
end
def r266_0:List AI:=[oC 4 (.s []),oC 5 (.s []),oC 6 (.b false)]
def r266_1:List AI:=[oM 8 0,oM 9 1,oQ 10 197 [8,9],oM 7 10]
def r266_2:List AI:=[oM 11 7,oV 12 .geq 11 0]
def r266_3:List AI:=[oM 13 0,oM 14 7,oO 15 (.slS (.t 13) none (some (.t 14))),oM 16 0,oM 17 7,oM 18 1,oH 19 18,oT 20 .add 17 19,oO 21 (.slS (.t 16) (some (.t 20)) none),oM 4 15,oM 5 21,oC 6 (.b true)]
def r266_4:List AI:=[oM 22 0,oM 4 22,oC 5 (.s []),oC 6 (.b false)]
abbrev b266:AC:=(sR 0 r266_0 (.seq (sR 1 r266_1 (sR 2 r266_2 (.cond (.t 12) (sR 3 r266_3 .ret) .skip))) (sR 4 r266_4 .ret)))
def pf266:AF:={ nt:=23,res:=[.tmp 4,.tmp 5,.tmp 6],body:=b266 }
abbrev H266 (Q:AE→Sl→St→Prop)(K:BS→BS→Bool→Prop):Prop:=∀(σ:Sl)(st:St)(res0:BS)(res1:BS)(res2:Bool),σ 4=.s res0→σ 5=.s res1→σ 6=.b res2→K res0 res1 res2→Q .ret σ st
def T266_0 (prog:Prog)(K:BS→BS→Bool→Prop)(s0:BS)(sep1:BS):Prop:=
  ∃c,Pus prog 197 [.s s0,.s sep1] (.i .i64 c)∧(c≥0→0≤c∧(c).toNat≤s0.length∧0≤(IntKind.i64.wrap (c+(sep1.length:Int)))∧(IntKind.i64.wrap (c+(sep1.length:Int))).toNat≤s0.length∧K (s0.take (c).toNat) (s0.drop (IntKind.i64.wrap (c+(sep1.length:Int))).toNat) true)∧(¬(c≥0)→K s0 ([]:BS) false)
section
variable {prog:Prog}{d:Nat}{Q:AE→Sl→St→Prop}{K:BS→BS→Bool→Prop}(hQ:H266 Q K){σ:Sl}{st:St}
include hQ
variable {s0 sep1:BS}
variable (H0:σ 0=.s s0)(H1:σ 1=.s sep1)
include H0 H1 in
theorem w266_0 (h:T266_0 prog K s0 sep1):W prog d (sR 0 r266_0 (.seq (sR 1 r266_1 (sR 2 r266_2 (.cond (.t 12) (sR 3 r266_3 .ret) .skip))) (sR 4 r266_4 .ret))) σ st Q:=
 q_ J (m_ (m_ (m_ (e_ (sq_ (q_ J (m_ (m_ (h.elim fun _ c=>ca_ (sc2 H0 H1 J) c.1 (m_ (e_ (q_ J (m_ (b_ J J geq_ (e_ (cs_ J (fun e=>q_ J (m_ (m_ (s_slS_hi H0 J (c.2.1 e).1 (c.2.1 e).2.1 (m_ (m_ (m_ (ln_ H1 (b_ J J add_ (s_slS_lo H0 J (c.2.1 e).2.2.1 (c.2.1 e).2.2.2.1 (m_ (m_ (m_ (er_ (hQ _ _ _ _ _ J J J (c.2.1 e).2.2.2.2))))))))))))))) (fun e=>sk_ (q_ J (m_ (m_ (m_ (m_ (er_ (hQ _ _ _ _ _ H0 J J (c.2.2 e)))))))))))))))))))))))))
end
theorem p266 {prog:Prog}(hf:prog.fn 266=some pf266){s0:BS}{sep1:BS}{K:BS→BS→Bool→Prop}(h:T266_0 prog K s0 sep1) :∃res0:BS,∃res1:BS,∃res2:Bool,K res0 res1 res2∧Pus prog 266 [.s s0,.s sep1] (.tup [.s res0,.s res1,.b res2]):=by
  obtain ⟨v,hv,res0,res1,res2,hk,rfl⟩:=Pus.of (K:=fun v=>∃res0:BS,∃res1:BS,∃res2:Bool,K res0 res1 res2∧v=.tup [.s res0,.s res1,.b res2]) hf rfl (w266_0 (σ:=sl0 [.s s0,.s sep1]) (fun σ st   res0 res1 res2 H4 H5 H6 hk=>⟨.tup [.s res0,.s res1,.b res2],by simp only [pf266,ares,aresL,H4,H5,H6,ares1,Option.map_some],_,rfl,res0,res1,res2,hk,rfl⟩) rfl rfl h)
  exact ⟨res0,res1,res2,hk,hv⟩
def r260_0:List AI:=[oC 4 (.s []),oC 5 (.s []),oC 6 (.b false)]
def r260_1:List AI:=[oM 7 0,oM 8 1,oQ 9 266 [7,8],oE 10 0 9,oE 11 1 9,oE 12 2 9,oM 4 10,oM 5 11,oM 6 12]
abbrev b260:AC:=(sR 0 r260_0 (sR 1 r260_1 .ret))
def pf260:AF:={ nt:=13,res:=[.tmp 4,.tmp 5,.tmp 6],body:=b260 }
abbrev H260 (Q:AE→Sl→St→Prop)(K:BS→BS→Bool→Prop):Prop:=∀(σ:Sl)(st:St)(res0:BS)(res1:BS)(res2:Bool),σ 4=.s res0→σ 5=.s res1→σ 6=.b res2→K res0 res1 res2→Q .ret σ st
def T260_0 (prog:Prog)(K:BS→BS→Bool→Prop)(s0:BS)(sep1:BS):Prop:=
  ∃e c i,Pus prog 266 [.s s0,.s sep1] (.tup [.s e,.s c,.b i])∧K e c i
section
variable {prog:Prog}{d:Nat}{Q:AE→Sl→St→Prop}{K:BS→BS→Bool→Prop}(hQ:H260 Q K){σ:Sl}{st:St}
include hQ
variable {s0 sep1:BS}
variable (H0:σ 0=.s s0)(H1:σ 1=.s sep1)
include H0 H1 in
theorem w260_0 (h:T260_0 prog K s0 sep1):W prog d (sR 0 r260_0 (sR 1 r260_1 .ret)) σ st Q:=
 q_ J (m_ (m_ (m_ (e_ (q_ J (m_ (m_ (x2 h fun _ _ e=>e.elim fun _ c=>ca_ (sc2 H0 H1 J) c.1 (x_ J J (x_ J J (x_ J J (m_ (m_ (m_ (er_ (hQ _ _ _ _ _ J J J c.2))))))))))))))))
end
theorem p260 {prog:Prog}(hf:prog.fn 260=some pf260){s0:BS}{sep1:BS}{K:BS→BS→Bool→Prop}(h:T260_0 prog K s0 sep1) :∃res0:BS,∃res1:BS,∃res2:Bool,K res0 res1 res2∧Pus prog 260 [.s s0,.s sep1] (.tup [.s res0,.s res1,.b res2]):=by
  obtain ⟨v,hv,res0,res1,res2,hk,rfl⟩:=Pus.of (K:=fun v=>∃res0:BS,∃res1:BS,∃res2:Bool,K res0 res1 res2∧v=.tup [.s res0,.s res1,.b res2]) hf rfl (w260_0 (σ:=sl0 [.s s0,.s sep1]) (fun σ st   res0 res1 res2 H4 H5 H6 hk=>⟨.tup [.s res0,.s res1,.b res2],by simp only [pf260,ares,aresL,H4,H5,H6,ares1,Option.map_some],_,rfl,res0,res1,res2,hk,rfl⟩) rfl rfl h)
  exact ⟨res0,res1,res2,hk,hv⟩
abbrev H262 (Q:AE→Sl→St→Prop)(K:BS→BS→Prop):Prop:=∀(σ:Sl)(st:St)(res0:BS)(res1:BS),σ 2=.s res0→σ 3=.s res1→K res0 res1→Q .ret σ st
section
variable {prog:Prog}{d:Nat}{Q:AE→Sl→St→Prop}{K:BS→BS→Prop}(hQ:H262 Q K){σ:Sl}{st:St}
include hQ
end
def r267_0:List AI:=[oI 2 0,oC 3 (.b false)]
def r267_1:List AI:=[oM 7 0,oQ 8 21 [7],oM 6 8,oE 9 0 6,oE 10 1 6,oM 4 9,oM 5 10]
def r267_2:List AI:=[oM 11 4,oM 12 5,oV 13 .eql 12 0,oM 14 13,gT 14 (oM 15 4),gT 14 (oV 16 .geq 15 0),oA 17 14 16,oM 18 17,gT 18 (oM 19 4),gT 18 (oV 20 .lss 19 1000),oA 21 18 20,oM 2 11,oM 3 21]
abbrev b267:AC:=(sR 0 r267_0 (sR 1 r267_1 (sR 2 r267_2 .ret)))
def pf267:AF:={ nt:=22,res:=[.tmp 2,.tmp 3],body:=b267 }
def T267_0 (prog:Prog)(K:Int→Bool→Prop)(s0:BS):Prop:=
  ∃c e,Pus prog 21 [.s s0] (.tup [.i .i64 c,.i .i64 e])∧(e=0→(c≥0→K c (decide (c<1000)))∧(¬(c≥0)→K c false))∧(¬(e=0)→K c false)
section
variable {prog:Prog}{d:Nat}{Q:AE→Sl→St→Prop}{K:Int→Bool→Prop}(hQ:H2 (AV.i .i64) AV.b 2 3 Q K){σ:Sl}{st:St}
include hQ
variable {s0:BS}
variable (H0:σ 0=.s s0)
include H0 in
theorem w267_0 (h:T267_0 prog K s0):W prog d (sR 0 r267_0 (sR 1 r267_1 (sR 2 r267_2 .ret))) σ st Q:=
 q_ J (m_ (m_ (e_ (q_ J (m_ (x2 h fun _ _ c=>ca_ (sc1 H0 J) c.1 (m_ (x_ J J (x_ J J (m_ (m_ (e_ (q_ J (s_mvI J (s_mvI J (b_ J J eql_ (s_mvB J (em_ (g:=14) J (fun e=>gy_ J (s_mvI J (gy_ J (b_ J J geq_ (z_ 2 J (em_ (g:=18) J (fun i=>gy_ J (s_mvI J (gy_ J (b_ J J lss_ (pt_ J J (s_mvI J (s_mvB J (er_ (hQ J J ((c.2.1 e).1 i)))))))))) (fun i=>z_ 3 J (s_mvI J (s_mvB J (er_ (hQ J J ((c.2.1 e).2 i)))))))))))) (fun e=>z_ 7 J (s_mvI J (s_mvB J (er_ (hQ J J (c.2.2 e))))))))))))))))))))))))
end
theorem p267 {prog:Prog}(hf:prog.fn 267=some pf267){s0:BS}{K:Int→Bool→Prop}(h:T267_0 prog K s0) :∃res0:Int,∃res1:Bool,K res0 res1∧Pus prog 267 [.s s0] (.tup [.i .i64 res0,.b res1]):=
 P2 hf J (w267_0 (h2 J fun _ _=>J) J h)
def r261_0:List AI:=[oO 4 (.alloc [z8,z6,z6,z6,zs]),oC 5 (.b false)]
def r261_1:List AI:=[oM 13 0,oO 14 (.build [z8,z6,z6,z6,zs] [(0,1,(.t 13))]),oO 6 (.alloc [z8,z6,z6,z6,zs]),oS 5 6 14]
def r261_2:List AI:=[oC 7 (.b true),oC 8 (.b true)]
def r261_3:List AI:=[oI 9 0]
def r261_4:List AI:=[oM 15 0]
def r261_5:List AI:=[oW 23 .eql 15 1,oM 22 23]
def r261_6:List AI:=[oM 24 1,oB 25 .eql (.t 24) (.c (.s [])),oM 7 25]
def r261_7:List AI:=[oW 27 .eql 15 3,oM 26 27]
def r261_8:List AI:=[oM 29 1,oO 30 (.call false 260 [(.t 29),(.c (.s [32]))]),oM 28 30,oE 31 0 28,oE 32 1 28,oE 33 2 28,oM 10 31,oM 11 32,oM 12 33]
def r261_9:List AI:=[oM 35 10,oQ 36 267 [35],oM 34 36,oE 37 0 34,oE 38 1 34,oF 39 1 6,oS 1 39 37,oM 7 38]
def r261_10:List AI:=[oM 41 11,oQ 42 267 [41],oM 40 42,oE 43 0 40,oE 44 1 40,oF 45 2 6,oS 1 45 43,oM 8 44]
def r261_11:List AI:=[oM 46 8,oM 47 46,gT 47 (oM 48 12),oA 49 47 48,oM 8 49]
def r261_12:List AI:=[oW 51 .eql 15 6,oM 50 51]
def r261_13:List AI:=[oM 53 1,oQ 54 21 [53],oM 52 54,oE 55 0 52,oE 56 1 52,oF 57 3 6,oS 1 57 55,oM 9 56]
def r261_14:List AI:=[oW 59 .eql 15 7,oM 58 59]
def r261_15:List AI:=[oW 60 .eql 15 8,oM 58 60]
def r261_16:List AI:=[oM 62 1,oQ 63 25 [62],oM 61 63,oE 64 0 61,oE 65 1 61,oF 66 4 6,oS 1 66 64,oM 9 65]
def r261_17:List AI:=[oM 17 1,oQ 18 267 [17],oM 16 18,oE 19 0 16,oE 20 1 16,oF 21 1 6,oS 1 21 19,oM 7 20]
def r261_18:List AI:=[oK 67 5 6,oM 68 7,oM 69 68,gT 69 (oM 70 8),oA 71 69 70,oM 72 71,gT 72 (oM 73 9),gT 72 (oV 74 .eql 73 0),oA 75 72 74,oS 5 4 67,oM 5 75]
abbrev c261_0:AC:=(.cond (.t 58) (.reg 17 r261_16) (.reg 5 r261_17))
abbrev c261_1:AC:=(.cond (.t 22) (.reg 7 r261_6) (sR 8 r261_7 (.cond (.t 26) (sR 9 r261_8 (sR 10 r261_9 (sR 11 r261_10 (.reg 12 r261_11)))) (sR 13 r261_12 (.cond (.t 50) (.reg 14 r261_13) (.seq (sR 15 r261_14 (.cond (.t 58) .skip (.reg 16 r261_15))) c261_0))))))
abbrev c261_2:AC:=(.block 0 (sR 6 r261_5 c261_1))
abbrev c261_3:AC:=(sR 18 r261_18 .ret)
abbrev c261_4:AC:=(.seq (sR 4 r261_4 c261_2) c261_3)
abbrev c261_5:AC:=(sR 3 r261_3 c261_4)
abbrev c261_6:AC:=(sR 2 r261_2 c261_5)
abbrev c261_7:AC:=(sR 1 r261_1 c261_6)
abbrev b261:AC:=(sR 0 r261_0 c261_7)
def pf261:AF:={ nt:=76,res:=[.cell 4 5 true,.tmp 5],body:=b261 }
abbrev H261 (Q:AE→Sl→St→Prop)(K:Qry→Bool→Prop):Prop:=∀(σ:Sl)(st:St)(k0:Key)(v0:Nat)(res0:Qry)(res1:Bool),σ 4=.p k0 v0 0→lk st.bx k0=some (v0,[.i .u8 res0.kind,.i .i64 res0.g,.i .i64 res0.k,.i .i64 res0.key,.s res0.name])→σ 5=.b res1→K res0 res1→Q .ret σ st
def T261_7 (prog:Prog)(K:Qry→Bool→Prop)(ok7:Bool)(is8:Bool)(e9:Int)(m0:Qry)(m4098:Qry):Prop:=
  (ok7=true→(is8=true→K m4098 (decide (e9=0)))∧(is8=false→K m4098 false))∧(ok7=false→K m4098 false)
def T261_8 (prog:Prog)(K:Qry→Bool→Prop)(rest1:BS)(ok7:Bool)(is8:Bool)(e9:Int)(t58:Bool)(m0:Qry)(m4098:Qry):Prop:=
  (t58=true→∃c o,Pus prog 25 [.s rest1] (.tup [.s c,.i .i64 o])∧T261_7 prog K ok7 is8 o m0 (Qry.mk m4098.kind m4098.g m4098.k m4098.key c))∧(t58=false→∃e j,Pus prog 267 [.s rest1] (.tup [.i .i64 e,.b j])∧T261_7 prog K j is8 e9 m0 (Qry.mk m4098.kind e m4098.k m4098.key m4098.name))
def T261_6 (prog:Prog)(K:Qry→Bool→Prop)(rest1:BS)(ok7:Bool)(is8:Bool)(e9:Int)(t15:Int)(t22:Bool)(m0:Qry)(m4098:Qry):Prop:=
  (t22=true→T261_7 prog K (decide (rest1=([]:BS))) is8 e9 m0 m4098)∧(t22=false→(t15=3→∃q r u,Pus prog 260 [.s rest1,.s ([32]:BS)] (.tup [.s q,.s r,.b u])∧∃c o,Pus prog 267 [.s q] (.tup [.i .i64 c,.b o])∧∃e j,Pus prog 267 [.s r] (.tup [.i .i64 e,.b j])∧(j=true→T261_7 prog K o u e9 m0 (Qry.mk m4098.kind c e m4098.key m4098.name))∧(j=false→T261_7 prog K o false e9 m0 (Qry.mk m4098.kind c e m4098.key m4098.name)))∧(¬(t15=3)→(t15=6→∃p v,Pus prog 21 [.s rest1] (.tup [.i .i64 p,.i .i64 v])∧T261_7 prog K ok7 is8 v m0 (Qry.mk m4098.kind m4098.g m4098.k p m4098.name))∧(¬(t15=6)→(t15=7→T261_8 prog K rest1 ok7 is8 e9 (decide (t15=7)) m0 m4098)∧(¬(t15=7)→T261_8 prog K rest1 ok7 is8 e9 (decide (t15=8)) m0 m4098))))
def T261_5 (prog:Prog)(K:Qry→Bool→Prop)(rest1:BS)(ok7:Bool)(is8:Bool)(e9:Int)(t15:Int)(m0:Qry)(m4098:Qry):Prop:=
  T261_6 prog K rest1 ok7 is8 e9 t15 (decide (t15=1)) m0 m4098
def T261_4 (prog:Prog)(K:Qry→Bool→Prop)(kind0:Int)(rest1:BS)(ok7:Bool)(is8:Bool)(e9:Int)(m0:Qry)(m4098:Qry):Prop:=
  T261_5 prog K rest1 ok7 is8 e9 kind0 m0 m4098
def T261_3 (prog:Prog)(K:Qry→Bool→Prop)(kind0:Int)(rest1:BS)(ok7:Bool)(is8:Bool)(m0:Qry)(m4098:Qry):Prop:=
  T261_4 prog K kind0 rest1 ok7 is8 0 m0 m4098
def T261_2 (prog:Prog)(K:Qry→Bool→Prop)(kind0:Int)(rest1:BS)(m0:Qry)(m4098:Qry):Prop:=
  T261_3 prog K kind0 rest1 true true m0 m4098
def T261_1 (prog:Prog)(K:Qry→Bool→Prop)(kind0:Int)(rest1:BS)(m0:Qry):Prop:=
  T261_2 prog K kind0 rest1 m0 (Qry.mk kind0 0 0 0 [])
def T261_0 (prog:Prog)(K:Qry→Bool→Prop)(kind0:Int)(rest1:BS):Prop:=
  T261_1 prog K kind0 rest1 (Qry.mk 0 0 0 0 [])
section
variable {prog:Prog}{d:Nat}{Q:AE→Sl→St→Prop}{K:Qry→Bool→Prop}(hQ:H261 Q K){σ:Sl}{st:St}
include hQ
variable {ok7 is8:Bool}{e9:Int}{m0 m4098:Qry}{v0 v4098:Nat}{rest1:BS}{t58:Bool}{t15:Int}{t22:Bool}{kind0:Int}
variable (H0:σ 0=.i .u8 kind0)(H1:σ 1=.s rest1)(H4:σ 4=.p (d,0) v0 0)(H6:σ 6=.p (d,4098) v4098 0)(H7:σ 7=.b ok7)(H8:σ 8=.b is8)(H9:σ 9=.i .i64 e9)(H58:σ 58=.b t58)(H15:σ 15=.i .u8 t15)(H22:σ 22=.b t22)(B0:lk st.bx (d,0)=some (v0,[.i .u8 m0.kind,.i .i64 m0.g,.i .i64 m0.k,.i .i64 m0.key,.s m0.name]))(B4098:lk st.bx (d,4098)=some (v4098,[.i .u8 m4098.kind,.i .i64 m4098.g,.i .i64 m4098.k,.i .i64 m4098.key,.s m4098.name]))
include H4 H6 H7 H8 H9 B0 B4098 in
theorem w261_7 (h:T261_7 prog K ok7 is8 e9 m0 m4098):W prog d c261_3 σ st Q:=
 q_ J (l_ H6 B4098 J J (s_mvB H7 (s_mvB J (eb_ (g:=69) J (fun c=>gy_ J (s_mvB H8 (z_ 2 J (eb_ (g:=72) J (fun e=>gy_ J (s_mvI H9 (gy_ J (b_ J J eql_ (pt_ J J (so_ H4 B0 J J J (s_mvB J (er_ (hQ _ _ _ _ _ _ H4 lk_here J ((h.1 c).1 e)))))))))) (fun e=>z_ 3 J (so_ H4 B0 J J J (s_mvB J (er_ (hQ _ _ _ _ _ _ H4 lk_here J ((h.1 c).2 e)))))))))) (fun c=>z_ 6 J (so_ H4 B0 J J J (s_mvB J (er_ (hQ _ _ _ _ _ _ H4 lk_here J (h.2 c))))))))))
include H1 H4 H6 H7 H8 H9 H58 B0 B4098 in
theorem w261_8 (h:T261_8 prog K rest1 ok7 is8 e9 t58 m0 m4098):W prog d c261_0 σ st (blockW 0 (thenW prog d c261_3 Q)):=
 cb_ H58 (fun c=>W.reg0 J fun _ _=>m_ (x2 (h.1 c) fun j _ e=>ca_ (sc1 H1 J) e.1 (m_ (x_ J J (x_ J J (f_ H6 (so_ J B4098 J J J (m_ (e_ (w261_7 (m4098:=(Qry.mk m4098.kind m4098.g m4098.k m4098.key j)) hQ H4 H6 H7 H8 J (lk_other J B0) lk_here e.2)))))))))) (fun c=>W.reg0 J fun _ _=>m_ (x2 (h.2 c) fun o _ i=>ca_ (sc1 H1 J) i.1 (m_ (x_ J J (x_ J J (f_ H6 (so_ J B4098 J J J (m_ (e_ (w261_7 (m4098:=(Qry.mk m4098.kind o m4098.k m4098.key m4098.name)) hQ H4 H6 J H8 H9 (lk_other J B0) lk_here i.2))))))))))
include H1 H4 H6 H7 H8 H9 H15 H22 B0 B4098 in
theorem w261_6 (h:T261_6 prog K rest1 ok7 is8 e9 t15 t22 m0 m4098):W prog d c261_1 σ st (blockW 0 (thenW prog d c261_3 Q)):=
 cb_ H22 (fun c=>W.reg0 J fun _ _=>m_ (b_ H1 J seq_ (m_ (e_ (w261_7 hQ H4 H6 J H8 H9 B0 B4098 (h.1 c)))))) (fun c=>q_ J (b_ H15 J eql_ (m_ (e_ (cs_ J (fun e=>q_ J (m_ (x2 ((h.2 c).1 e) fun _ _ w=>w.elim fun _ r=>ca_ (sc2 H1 J J) r.1 (m_ (x_ J J (x_ J J (x_ J J (m_ (m_ (m_ (e_ (q_ J (m_ (x2 r.2 fun v _ s=>ca_ (sc1 J J) s.1 (m_ (x_ J J (x_ J J (f_ H6 (so_ J B4098 J J J (m_ (e_ (q_ J (m_ (x2 s.2 fun u _ j=>ca_ (sc1 J J) j.1 (m_ (x_ J J (x_ J J (f_ H6 (so_ J lk_here J J J (m_ (e_ (W.reg0 J fun _ _=>z_ 2 J (eb_ (g:=47) J (fun o=>gy_ J (z_ 3 J (e_ (w261_7 (m4098:=(Qry.mk m4098.kind v u m4098.key m4098.name)) hQ H4 H6 J J H9 (lk_other J (lk_other J B0)) lk_here (j.2.1 o))))) (fun o=>z_ 3 J (e_ (w261_7 (m4098:=(Qry.mk m4098.kind v u m4098.key m4098.name)) hQ H4 H6 J J H9 (lk_other J (lk_other J B0)) lk_here (j.2.2 o))))))))))))))))))))))))))))))))))))) (fun e=>q_ J (b_ H15 J eql_ (m_ (e_ (cs_ J (fun i=>W.reg0 J fun _ _=>m_ (x2 (((h.2 c).2 e).1 i) fun x _ q=>ca_ (sc1 H1 J) q.1 (m_ (x_ J J (x_ J J (f_ H6 (so_ J B4098 J J J (m_ (e_ (w261_7 (m4098:=(Qry.mk m4098.kind m4098.g m4098.k x m4098.name)) hQ H4 H6 H7 H8 J (lk_other J B0) lk_here q.2)))))))))) (fun i=>sq_ (q_ J (b_ H15 J eql_ (m_ (e_ (cs_ J (fun p=>sk_ (w261_8 hQ H1 H4 H6 H7 H8 H9 J B0 B4098 ((((h.2 c).2 e).2 i).1 p))) (fun p=>W.reg0 J fun _ _=>b_ H15 J eql_ (m_ (e_ (w261_8 hQ H1 H4 H6 H7 H8 H9 J B0 B4098 ((((h.2 c).2 e).2 i).2 p)))))))))))))))))))))
include H1 H4 H6 H7 H8 H9 H15 B0 B4098 in
theorem w261_5 (h:T261_5 prog K rest1 ok7 is8 e9 t15 m0 m4098):W prog d c261_2 σ st (thenW prog d c261_3 Q):=
 bk_ (q_ J (b_ H15 J eql_ (m_ (e_ (w261_6 hQ H1 H4 H6 H7 H8 H9 H15 J B0 B4098 h)))))
include H0 H1 H4 H6 H7 H8 H9 B0 B4098 in
theorem w261_4 (h:T261_4 prog K kind0 rest1 ok7 is8 e9 m0 m4098):W prog d c261_4 σ st Q:=
 sq_ (q_ J (m_ (e_ (w261_5 hQ H1 H4 H6 H7 H8 H9 H0 B0 B4098 h))))
include H0 H1 H4 H6 H7 H8 B0 B4098 in
theorem w261_3 (h:T261_3 prog K kind0 rest1 ok7 is8 m0 m4098):W prog d c261_5 σ st Q:=
 q_ J (m_ (e_ (w261_4 hQ H0 H1 H4 H6 H7 H8 J B0 B4098 h)))
include H0 H1 H4 H6 B0 B4098 in
theorem w261_2 (h:T261_2 prog K kind0 rest1 m0 m4098):W prog d c261_6 σ st Q:=
 q_ J (m_ (m_ (e_ (w261_3 hQ H0 H1 H4 H6 J J B0 B4098 h))))
include H0 H1 H4 B0 in
theorem w261_1 (h:T261_1 prog K kind0 rest1 m0):W prog d c261_7 σ st Q:=
 sq_ (W.reg (m_ (s_build (f_cons H0 J f_nil) (s_alloc (so_ J (show lk _ (d,4098)=some (_,([.i .u8 0,.i .i64 0,.i .i64 0,.i .i64 0,.s []]:List AV)) from lk_here) J J J (e_ (w261_2 (m4098:=(Qry.mk kind0 0 0 0 [])) hQ H0 H1 H4 J (lk_other J (lk_other J B0)) lk_here h)))))))
include H0 H1 in
theorem w261_0 (h:T261_0 prog K kind0 rest1):W prog d (sR 0 r261_0 c261_7) σ st Q:=
 sq_ (W.reg (s_alloc (m_ (e_ (w261_1 (m0:=(Qry.mk 0 0 0 0 [])) hQ H0 H1 J (show lk _ (d,0)=some (_,([.i .u8 0,.i .i64 0,.i .i64 0,.i .i64 0,.s []]:List AV)) from lk_here) h)))))
end
theorem p261 {prog:Prog}(hf:prog.fn 261=some pf261){kind0:Int}{rest1:BS}{K:Qry→Bool→Prop}(h:T261_0 prog K kind0 rest1) :∃res0:Qry,∃res1:Bool,K res0 res1∧Pus prog 261 [.i .u8 kind0,.s rest1] (.tup [res0.av,.b res1]):=by
  obtain ⟨v,hv,res0,res1,hk,rfl⟩:=Pus.of (K:=fun v=>∃res0:Qry,∃res1:Bool,K res0 res1∧v=.tup [res0.av,.b res1]) hf rfl (w261_0 (σ:=sl0 [.i .u8 kind0,.s rest1]) (fun σ st k0 v0  res0 res1 H4 HB4 H5 hk=>⟨.tup [res0.av,.b res1],by simp only [pf261,ares,aresL,ares_cellA (n:=5) H4 HB4 rfl,H5,ares_tmp,Option.map_some],_,rfl,res0,res1,hk,rfl⟩) rfl rfl h)
  exact ⟨res0,res1,hk,hv⟩
def r247_0:List AI:=[oY 1 5 0,oI 2 0]
def r247_1:List AI:=[oF 4 0 1,oL 5 4,oO 6 (.build [z8,z6,z6,z6,zs] [(0,1,(.t 5))]),oO 3 (.alloc [z8,z6,z6,z6,zs]),oS 5 3 6]
def r247_2:List AI:=[oF 7 0 1,oL 8 7]
def r247_3:List AI:=[oW 10 .eql 8 1,oM 9 10]
def r247_4:List AI:=[oW 12 .eql 8 3,oM 11 12]
def r247_5:List AI:=[oF 13 2 1,oL 14 13,oF 15 2 3,oS 1 15 14]
def r247_6:List AI:=[oF 16 1 1,oL 17 16,oF 18 1 3,oS 1 18 17]
def r247_7:List AI:=[oW 20 .eql 8 2,oM 19 20]
def r247_8:List AI:=[oW 21 .eql 8 4,oM 19 21]
def r247_9:List AI:=[oW 22 .eql 8 5,oM 19 22]
def r247_10:List AI:=[oF 23 1 1,oL 24 23,oF 25 1 3,oS 1 25 24]
def r247_11:List AI:=[oW 27 .eql 8 6,oM 26 27]
def r247_12:List AI:=[oF 28 3 1,oL 29 28,oF 30 3 3,oS 1 30 29]
def r247_13:List AI:=[oW 32 .eql 8 7,oM 31 32]
def r247_14:List AI:=[oW 33 .eql 8 8,oM 31 33]
def r247_15:List AI:=[oF 34 4 1,oL 35 34,oF 36 4 3,oS 1 36 35]
def r247_16:List AI:=[oI 2 8]
def r247_17:List AI:=[oK 37 5 1,oK 38 5 3,oO 39 (.aeq true [0,0,0,0,2] (.t 37) (.t 38)),oM 40 39,gF 40 (oF 41 1 1),gF 40 (oL 42 41),gF 40 (oV 43 .lss 42 0),oR 44 40 43,oM 45 44,gF 45 (oF 46 1 1),gF 45 (oL 47 46),gF 45 (oV 48 .geq 47 16),oR 49 45 48,oM 50 49,gF 50 (oF 51 2 1),gF 50 (oL 52 51),gF 50 (oV 53 .lss 52 0),oR 54 50 53,oM 55 54,gF 55 (oF 56 2 1),gF 55 (oL 57 56),gF 55 (oV 58 .geq 57 170),oR 59 55 58,oM 60 59,gF 60 (oF 61 4 1),gF 60 (oL 62 61),gF 60 (oH 63 62),gF 60 (oV 64 .gtr 63 16),oR 65 60 64]
def r247_18:List AI:=[oI 2 8]
def r247_19:List AI:=[oI 2 0]
abbrev c247_0:AC:=(.cond (.t 31) (.reg 16 r247_15) (sR 3 r247_16 .ret))
abbrev c247_1:AC:=(.cond (.t 19) (.reg 11 r247_10) (sR 12 r247_11 (.cond (.t 26) (.reg 13 r247_12) (.seq (sR 14 r247_13 (.cond (.t 31) .skip (.reg 15 r247_14))) c247_0))))
abbrev c247_2:AC:=(.seq (sR 17 r247_17 (.cond (.t 65) (sR 18 r247_18 .ret) .skip)) (sR 19 r247_19 .ret))
abbrev c247_3:AC:=(.seq (sR 2 r247_2 (.block 0 (sR 4 r247_3 (.cond (.t 9) .skip (sR 5 r247_4 (.cond (.t 11) (sR 6 r247_5 (.reg 7 r247_6)) (.seq (sR 8 r247_7 (.cond (.t 19) .skip (sR 9 r247_8 (.cond (.t 19) .skip (.reg 10 r247_9))))) c247_1))))))) c247_2)
abbrev c247_4:AC:=(sR 1 r247_1 c247_3)
abbrev b247:AC:=(sR 0 r247_0 c247_4)
def pf247:AF:={ nt:=66,res:=[.tmp 2],body:=b247 }
def T247_3 (prog:Prog)(K:Int→Prop)(m0:Qry)(m4099:Qry):Prop:=
  ((!((m0.kind)==(m4099.kind)&&((m0.g)==(m4099.g)&&((m0.k)==(m4099.k)&&((m0.key)==(m4099.key)&&((m0.name)==(m4099.name)&&true))))))=true→K 8)∧((!((m0.kind)==(m4099.kind)&&((m0.g)==(m4099.g)&&((m0.k)==(m4099.k)&&((m0.key)==(m4099.key)&&((m0.name)==(m4099.name)&&true))))))=false→(m0.g<0→K 8)∧(¬(m0.g<0)→(m0.g≥16→K 8)∧(¬(m0.g≥16)→(m0.k<0→K 8)∧(¬(m0.k<0)→(m0.k≥170→K 8)∧(¬(m0.k≥170)→((m0.name.length:Int)>16→K 8)∧(¬((m0.name.length:Int)>16)→K 0))))))
def T247_5 (prog:Prog)(K:Int→Prop)(t31:Bool)(m0:Qry)(m4099:Qry):Prop:=
  (t31=true→T247_3 prog K m0 (Qry.mk m4099.kind m4099.g m4099.k m4099.key m0.name))∧(t31=false→K 8)
def T247_4 (prog:Prog)(K:Int→Prop)(t8:Int)(t19:Bool)(m0:Qry)(m4099:Qry):Prop:=
  (t19=true→T247_3 prog K m0 (Qry.mk m4099.kind m0.g m4099.k m4099.key m4099.name))∧(t19=false→(t8=6→T247_3 prog K m0 (Qry.mk m4099.kind m4099.g m4099.k m0.key m4099.name))∧(¬(t8=6)→(t8=7→T247_5 prog K (decide (t8=7)) m0 m4099)∧(¬(t8=7)→T247_5 prog K (decide (t8=8)) m0 m4099)))
def T247_2 (prog:Prog)(K:Int→Prop)(m0:Qry)(m4099:Qry):Prop:=
  (m0.kind=1→T247_3 prog K m0 m4099)∧(¬(m0.kind=1)→(m0.kind=3→T247_3 prog K m0 (Qry.mk m4099.kind m0.g m0.k m4099.key m4099.name))∧(¬(m0.kind=3)→(m0.kind=2→T247_4 prog K m0.kind (decide (m0.kind=2)) m0 m4099)∧(¬(m0.kind=2)→(m0.kind=4→T247_4 prog K m0.kind (decide (m0.kind=4)) m0 m4099)∧(¬(m0.kind=4)→T247_4 prog K m0.kind (decide (m0.kind=5)) m0 m4099))))
def T247_1 (prog:Prog)(K:Int→Prop)(m0:Qry):Prop:=
  T247_2 prog K m0 (Qry.mk m0.kind 0 0 0 [])
def T247_0 (prog:Prog)(K:Int→Prop)(q0:Qry):Prop:=
  T247_1 prog K q0
section
variable {prog:Prog}{d:Nat}{Q:AE→Sl→St→Prop}{K:Int→Prop}(hQ:H1 (AV.i .i64) 2 Q K){σ:Sl}{st:St}
include hQ
variable {m0 m4099:Qry}{v0 v4099:Nat}{t31:Bool}{t8:Int}{t19:Bool}{q0:Qry}
variable (H1:σ 1=.p (d,0) v0 0)(H0:σ 0=q0.av)(H3:σ 3=.p (d,4099) v4099 0)(H31:σ 31=.b t31)(H8:σ 8=.i .u8 t8)(H19:σ 19=.b t19)(B0:lk st.bx (d,0)=some (v0,[.i .u8 m0.kind,.i .i64 m0.g,.i .i64 m0.k,.i .i64 m0.key,.s m0.name]))(B4099:lk st.bx (d,4099)=some (v4099,[.i .u8 m4099.kind,.i .i64 m4099.g,.i .i64 m4099.k,.i .i64 m4099.key,.s m4099.name]))
include H1 H3 B0 B4099 in
theorem w247_3 (h:T247_3 prog K m0 m4099):W prog d c247_2 σ st Q:=
 sq_ (q_ J (l_ H1 B0 J J (l_ H3 B4099 J J (s_aeqN J J J (s_mvB J (eb_ (g:=40) J (fun c=>z_ 25 J (e_ (ct_ J (q_ J (m_ (er_ (hQ J (h.1 c)))))))) (fun c=>gy_ J (f_ H1 (gy_ J (l_ J B0 J J (gy_ J (b_ J J lss_ (z_ 2 J (em_ (g:=45) J (fun e=>z_ 20 J (e_ (ct_ J (q_ J (m_ (er_ (hQ J ((h.2 c).1 e)))))))) (fun e=>gy_ J (f_ H1 (gy_ J (l_ J B0 J J (gy_ J (b_ J J geq_ (z_ 2 J (em_ (g:=50) J (fun i=>z_ 15 J (e_ (ct_ J (q_ J (m_ (er_ (hQ J (((h.2 c).2 e).1 i)))))))) (fun i=>gy_ J (f_ H1 (gy_ J (l_ J B0 J J (gy_ J (b_ J J lss_ (z_ 2 J (em_ (g:=55) J (fun j=>z_ 10 J (e_ (ct_ J (q_ J (m_ (er_ (hQ J ((((h.2 c).2 e).2 i).1 j)))))))) (fun j=>gy_ J (f_ H1 (gy_ J (l_ J B0 J J (gy_ J (b_ J J geq_ (z_ 2 J (em_ (g:=60) J (fun k=>z_ 5 J (e_ (ct_ J (q_ J (m_ (er_ (hQ J (((((h.2 c).2 e).2 i).2 j).1 k)))))))) (fun k=>gy_ J (f_ H1 (gy_ J (l_ J B0 J J (gy_ J (ln_ J (gy_ J (b_ J J gtr_ (pf_ J J (e_ (cs_ J (fun o=>q_ J (m_ (er_ (hQ J ((((((h.2 c).2 e).2 i).2 j).2 k).1 o))))) (fun o=>sk_ (q_ J (m_ (er_ (hQ J ((((((h.2 c).2 e).2 i).2 j).2 k).2 o)))))))))))))))))))))))))))))))))))))))))))))))))))))))
include H1 H3 H31 B0 B4099 in
theorem w247_5 (h:T247_5 prog K t31 m0 m4099):W prog d c247_0 σ st (blockW 0 (thenW prog d c247_2 Q)):=
 cb_ H31 (fun c=>W.reg0 J fun _ _=>f_ H1 (l_ J B0 J J (f_ H3 (so_ J B4099 J J J (e_ (w247_3 (m4099:=(Qry.mk m4099.kind m4099.g m4099.k m4099.key m0.name)) hQ H1 H3 (lk_other J B0) lk_here (h.1 c))))))) (fun c=>q_ J (m_ (er_ (hQ J (h.2 c)))))
include H1 H3 H8 H19 B0 B4099 in
theorem w247_4 (h:T247_4 prog K t8 t19 m0 m4099):W prog d c247_1 σ st (blockW 0 (thenW prog d c247_2 Q)):=
 cb_ H19 (fun c=>W.reg0 J fun _ _=>f_ H1 (l_ J B0 J J (f_ H3 (so_ J B4099 J J J (e_ (w247_3 (m4099:=(Qry.mk m4099.kind m0.g m4099.k m4099.key m4099.name)) hQ H1 H3 (lk_other J B0) lk_here (h.1 c))))))) (fun c=>q_ J (b_ H8 J eql_ (m_ (e_ (cs_ J (fun e=>W.reg0 J fun _ _=>f_ H1 (l_ J B0 J J (f_ H3 (so_ J B4099 J J J (e_ (w247_3 (m4099:=(Qry.mk m4099.kind m4099.g m4099.k m0.key m4099.name)) hQ H1 H3 (lk_other J B0) lk_here ((h.2 c).1 e))))))) (fun e=>sq_ (q_ J (b_ H8 J eql_ (m_ (e_ (cs_ J (fun i=>sk_ (w247_5 hQ H1 H3 J B0 B4099 (((h.2 c).2 e).1 i))) (fun i=>W.reg0 J fun _ _=>b_ H8 J eql_ (m_ (e_ (w247_5 hQ H1 H3 J B0 B4099 (((h.2 c).2 e).2 i))))))))))))))))
include H1 H3 B0 B4099 in
theorem w247_2 (h:T247_2 prog K m0 m4099):W prog d c247_3 σ st Q:=
 sq_ (q_ J (f_ H1 (l_ J B0 J J (e_ (bk_ (q_ J (b_ J J eql_ (m_ (e_ (cs_ J (fun c=>sk_ (w247_3 hQ H1 H3 B0 B4099 (h.1 c))) (fun c=>q_ J (b_ J J eql_ (m_ (e_ (cs_ J (fun e=>q_ J (f_ H1 (l_ J B0 J J (f_ H3 (so_ J B4099 J J J (e_ (W.reg0 J fun _ _=>f_ H1 (l_ J (lk_other J B0) J J (f_ H3 (so_ J lk_here J J J (e_ (w247_3 (m4099:=(Qry.mk m4099.kind m0.g m0.k m4099.key m4099.name)) hQ H1 H3 (lk_other J (lk_other J B0)) lk_here ((h.2 c).1 e))))))))))))) (fun e=>sq_ (q_ J (b_ J J eql_ (m_ (e_ (cs_ J (fun i=>sk_ (w247_4 hQ H1 H3 J J B0 B4099 (((h.2 c).2 e).1 i))) (fun i=>q_ J (b_ J J eql_ (m_ (e_ (cs_ J (fun j=>sk_ (w247_4 hQ H1 H3 J J B0 B4099 ((((h.2 c).2 e).2 i).1 j))) (fun j=>W.reg0 J fun _ _=>b_ J J eql_ (m_ (e_ (w247_4 hQ H1 H3 J J B0 B4099 ((((h.2 c).2 e).2 i).2 j)))))))))))))))))))))))))))))))
include H1 B0 in
theorem w247_1 (h:T247_1 prog K m0):W prog d c247_4 σ st Q:=
 sq_ (W.reg (f_ H1 (l_ J (lk_other J B0) J J (s_build (f_cons J J f_nil) (s_alloc (so_ J (show lk _ (d,4099)=some (_,([.i .u8 0,.i .i64 0,.i .i64 0,.i .i64 0,.s []]:List AV)) from lk_here) J J J (e_ (w247_2 (m4099:=(Qry.mk m0.kind 0 0 0 [])) hQ H1 J (lk_other J (lk_other J B0)) lk_here h))))))))
include H0 in
theorem w247_0 (h:T247_0 prog K q0):W prog d (sR 0 r247_0 c247_4) σ st Q:=
 q_ J (s_box H0 J (m_ (e_ (w247_1 hQ J lk_here h))))
end
theorem p247 {prog:Prog}(hf:prog.fn 247=some pf247){q0:Qry}{K:Int→Prop}(h:T247_0 prog K q0) :∃res0:Int,K res0∧Pus prog 247 [q0.av] (.i .i64 res0):=
 P1 hf J (w247_0 (h1 J fun _=>J) J h)
abbrev H248 (Q:AE→Sl→St→Prop)(K:Int→Prop):Prop:=∀(σ:Sl)(st:St)(res0:Int),σ 2=.i .i64 res0→K res0→Q .ret σ st
section
variable {prog:Prog}{d:Nat}{Q:AE→Sl→St→Prop}{K:Int→Prop}(hQ:H248 Q K){σ:Sl}{st:St}
include hQ
end
abbrev H259 (Q:AE→Sl→St→Prop)(K:BS→Prop):Prop:=∀(σ:Sl)(st:St)(res0:BS),σ 2=.s res0→K res0→Q .ret σ st
section
variable {prog:Prog}{d:Nat}{Q:AE→Sl→St→Prop}{K:BS→Prop}(hQ:H259 Q K){σ:Sl}{st:St}
include hQ
end
def r197_0:List AI:=[oI 4 0]
def r197_1:List AI:=[oM 14 1,oH 15 14,oM 5 15]
def r197_2:List AI:=[oM 17 5,oV 18 .eql 17 0,oM 19 18,gF 19 (oM 20 1),gF 19 (oM 21 0),gF 19 (oT 22 .eql 20 21),oR 23 19 22,oM 16 23]
def r197_3:List AI:=[oI 4 0]
def r197_4:List AI:=[oM 25 5,oV 26 .eql 25 1,oM 24 26]
def r197_5:List AI:=[oM 27 0,oM 28 1,oO 29 (.ixS (.t 28) (.c (.i .i64 0))),oQ 30 47 [27,29],oM 4 30]
def r197_6:List AI:=[oM 32 5,oM 33 0,oH 34 33,oT 35 .geq 32 34,oM 31 35]
def r197_7:List AI:=[oI 4 (-1)]
def r197_8:List AI:=[oM 37 5,oO 38 (.load 1 false (.c (.u))),oT 39 .leq 37 38,oM 40 39,gT 40 (oM 41 0),gT 40 (oH 42 41),gT 40 (oV 43 .leq 42 64),oA 44 40 43,oM 36 44]
def r197_9:List AI:=[oM 45 0,oM 46 1,oO 47 (.bad),oM 4 47]
def r197_10:List AI:=[oM 48 1,oO 49 (.ixS (.t 48) (.c (.i .i64 0))),oM 6 49]
def r197_11:List AI:=[oM 50 1,oO 51 (.ixS (.t 50) (.c (.i .i64 1))),oM 7 51]
def r197_12:List AI:=[oI 8 0]
def r197_13:List AI:=[oM 52 0,oH 53 52,oM 54 5,oT 55 .sub 53 54,oV 56 .add 55 1,oM 9 56]
def r197_14:List AI:=[oI 10 0]
def r197_15:List AI:=[oM 57 8,oM 58 9,oT 59 .lss 57 58]
def r197_16:List AI:=[oM 60 0,oM 61 8,oO 62 (.ixS (.t 60) (.t 61)),oM 63 6,oT 64 .neq 62 63]
def r197_17:List AI:=[oM 65 0,oM 66 8,oV 67 .add 66 1,oM 68 9,oO 69 (.slS (.t 65) (some (.t 67)) (some (.t 68))),oM 70 6,oQ 71 47 [69,70],oM 11 71]
def r197_18:List AI:=[oM 72 11,oV 73 .lss 72 0]
def r197_19:List AI:=[oI 4 (-1)]
def r197_20:List AI:=[oM 74 8,oM 75 11,oV 76 .add 75 1,oT 77 .add 74 76,oM 8 77]
def r197_21:List AI:=[oM 78 0,oM 79 8,oV 80 .add 79 1,oO 81 (.ixS (.t 78) (.t 80)),oM 82 7,oT 83 .eql 81 82,oM 84 83,gT 84 (oM 85 0),gT 84 (oM 86 8),gT 84 (oM 87 8),gT 84 (oM 88 5),gT 84 (oT 89 .add 87 88),gT 84 (oO 90 (.slS (.t 85) (some (.t 86)) (some (.t 89)))),gT 84 (oM 91 1),gT 84 (oT 92 .eql 90 91),oA 93 84 92]
def r197_22:List AI:=[oM 94 8,oM 4 94]
def r197_23:List AI:=[oM 95 8,oV 96 .add 95 1,oM 8 96]
def r197_24:List AI:=[oM 97 10,oV 98 .add 97 1,oM 10 98]
def r197_25:List AI:=[oM 99 5,oO 100 (.load 1 false (.c (.u))),oT 101 .leq 99 100,oM 102 101,gT 102 (oM 103 10),gT 102 (oM 104 8),gT 102 (oQ 105 199 [104]),gT 102 (oT 106 .gtr 103 105),oA 107 102 106]
def r197_26:List AI:=[oM 108 0,oM 109 8,oO 110 (.slS (.t 108) (some (.t 109)) none),oM 111 1,oO 112 (.bad),oM 12 112]
def r197_27:List AI:=[oM 113 12,oV 114 .geq 113 0]
def r197_28:List AI:=[oM 115 12,oM 116 8,oT 117 .add 115 116,oM 4 117]
def r197_29:List AI:=[oI 4 (-1)]
def r197_30:List AI:=[oM 118 5,oO 119 (.load 1 false (.c (.u))),oT 120 .gtr 118 119,oM 121 120,gT 121 (oM 122 10),gT 121 (oM 123 8),gT 121 (oB 124 .shr (.t 123) (.c (.i .u64 4))),gT 121 (oB 125 .add (.c (.i .i64 4)) (.t 124)),gT 121 (oT 126 .geq 122 125),oA 127 121 126,oM 128 127,gT 128 (oM 129 8),gT 128 (oM 130 9),gT 128 (oT 131 .lss 129 130),oA 132 128 131]
def r197_31:List AI:=[oM 133 0,oM 134 8,oO 135 (.slS (.t 133) (some (.t 134)) none),oM 136 1,oQ 137 200 [135,136],oM 13 137]
def r197_32:List AI:=[oM 138 13,oV 139 .lss 138 0]
def r197_33:List AI:=[oI 4 (-1)]
def r197_34:List AI:=[oM 140 8,oM 141 13,oT 142 .add 140 141,oM 4 142]
def r197_35:List AI:=[oI 4 (-1)]
abbrev c197_0:AC:=(.cond (.t 36) (sR 9 r197_9 .ret) .skip)
abbrev c197_1:AC:=(.cond (.t 16) (sR 3 r197_3 .ret) (sR 4 r197_4 (.cond (.t 24) (sR 5 r197_5 .ret) (sR 6 r197_6 (.cond (.t 31) (sR 7 r197_7 .ret) (sR 8 r197_8 c197_0))))))
abbrev c197_2:AC:=(.cond (.t 132) (sR 31 r197_31 (.seq (sR 32 r197_32 (.cond (.t 139) (sR 33 r197_33 .ret) .skip)) (sR 34 r197_34 .ret))) .skip)
abbrev c197_3:AC:=(.cond (.t 107) (sR 26 r197_26 (.seq (sR 27 r197_27 (.cond (.t 114) (sR 28 r197_28 .ret) .skip)) (sR 29 r197_29 .ret))) (sR 30 r197_30 c197_2))
abbrev c197_4:AC:=(sR 23 r197_23 (sR 24 r197_24 (sR 25 r197_25 c197_3)))
abbrev c197_5:AC:=(.seq (sR 21 r197_21 (.cond (.t 93) (sR 22 r197_22 .ret) .skip)) c197_4)
abbrev c197_6:AC:=(.block 2 (.seq (sR 16 r197_16 (.cond (.t 64) (sR 17 r197_17 (.seq (sR 18 r197_18 (.cond (.t 73) (sR 19 r197_19 .ret) .skip)) (.reg 20 r197_20))) .skip)) c197_5))
abbrev l197_0:AC:=(.seq (sR 15 r197_15 (.cond (.t 59) .skip (.exit 1))) c197_6)
abbrev c197_8:AC:=(sR 35 r197_35 .ret)
abbrev c197_9:AC:=(.seq (.block 1 (.loop l197_0)) c197_8)
abbrev c197_10:AC:=(sR 14 r197_14 c197_9)
abbrev c197_11:AC:=(sR 13 r197_13 c197_10)
abbrev c197_12:AC:=(sR 12 r197_12 c197_11)
abbrev c197_13:AC:=(sR 11 r197_11 c197_12)
abbrev c197_14:AC:=(sR 10 r197_10 c197_13)
abbrev c197_15:AC:=(.seq (.block 0 (sR 2 r197_2 c197_1)) c197_14)
abbrev c197_16:AC:=(sR 1 r197_1 c197_15)
abbrev b197:AC:=(sR 0 r197_0 c197_16)
def pf197:AF:={ nt:=143,res:=[.tmp 4],body:=b197 }
def T197_3 (prog:Prog)(K:Int→Prop)(s0:BS)(substr1:BS)(n5:Int)(t16:Bool):Prop:=
  (t16=true→K 0)∧(t16=false→(n5=1→∃e:UInt8,substr1[0]?=some e∧∃c,Pus prog 47 [.s s0,.i .u8 (e.toNat:Int)] (.i .i64 c)∧K c)∧(¬(n5=1)→(n5≥(s0.length:Int)→K (-1))∧(¬(n5≥(s0.length:Int))→False)))
def T197_2 (prog:Prog)(K:Int→Prop)(s0:BS)(substr1:BS)(n5:Int):Prop:=
  (n5=0→T197_3 prog K s0 substr1 n5 true)∧(¬(n5=0)→T197_3 prog K s0 substr1 n5 (decide (substr1=s0)))
def T197_1 (prog:Prog)(K:Int→Prop)(s0:BS)(substr1:BS):Prop:=
  T197_2 prog K s0 substr1 (substr1.length:Int)
def T197_0 (prog:Prog)(K:Int→Prop)(s0:BS)(substr1:BS):Prop:=
  T197_1 prog K s0 substr1
section
variable {prog:Prog}{d:Nat}{Q:AE→Sl→St→Prop}{K:Int→Prop}(hQ:H1 (AV.i .i64) 4 Q K){σ:Sl}{st:St}
include hQ
variable {s0 substr1:BS}{n5:Int}{t16:Bool}
variable (H0:σ 0=.s s0)(H1:σ 1=.s substr1)(H5:σ 5=.i .i64 n5)(H16:σ 16=.b t16)
include H0 H1 H5 H16 in
theorem w197_3 (h:T197_3 prog K s0 substr1 n5 t16):W prog d c197_1 σ st (blockW 0 (thenW prog d c197_14 Q)):=
 cb_ H16 (fun c=>q_ J (m_ (er_ (hQ J (h.1 c))))) (fun c=>q_ J (m_ (b_ H5 J eql_ (m_ (e_ (cs_ J (fun e=>q_ J (m_ (m_ (((h.2 c).1 e).elim fun _ j=>s_ixS H1 J (by decide) j.1 (j.2.elim fun _ k=>ca_ (sc2 H0 J J) k.1 (m_ (er_ (hQ J k.2)))))))) (fun e=>q_ J (m_ (m_ (ln_ H0 (b_ H5 J geq_ (m_ (e_ (cs_ J (fun i=>q_ J (m_ (er_ (hQ J (((h.2 c).2 e).1 i))))) (fun i=>q_ J (s_mvI H5 ((((h.2 c).2 e).2 i).elim)))))))))))))))))
include H0 H1 H5 in
theorem w197_2 (h:T197_2 prog K s0 substr1 n5):W prog d c197_15 σ st Q:=
 sq_ (bk_ (q_ J (s_mvI H5 (b_ J J eql_ (s_mvB J (em_ (g:=19) J (fun c=>z_ 5 J (e_ (w197_3 hQ H0 H1 H5 J (h.1 c)))) (fun c=>gy_ J (s_mvS H1 (gy_ J (s_mvS H0 (gy_ J (b_ J J seq_ (z_ 2 J (e_ (w197_3 hQ H0 H1 H5 J (h.2 c))))))))))))))))
include H0 H1 in
theorem w197_1 (h:T197_1 prog K s0 substr1):W prog d c197_16 σ st Q:=
 q_ J (m_ (ln_ H1 (m_ (e_ (w197_2 hQ H0 H1 J h)))))
include H0 H1 in
theorem w197_0 (h:T197_0 prog K s0 substr1):W prog d (sR 0 r197_0 c197_16) σ st Q:=
 q_ J (m_ (e_ (w197_1 hQ H0 H1 h)))
end
theorem p197 {prog:Prog}(hf:prog.fn 197=some pf197){s0:BS}{substr1:BS}{K:Int→Prop}(h:T197_0 prog K s0 substr1) :∃res0:Int,K res0∧Pus prog 197 [.s s0,.s substr1] (.i .i64 res0):=
 P1 hf J (w197_0 (h1 J fun _=>J) J J h)
end Go.AM

/- Parts of the proof. -/
namespace Go.AM
open Go
set_option linter.unusedVariables false
set_option linter.unusedSimpArgs false
set_option maxRecDepth 4000
attribute [local irreducible] WO fillCells fillRows
abbrev H244 (Q:AE→Sl→St→Prop)(K:BS→Int→Prop):Prop:=∀(σ:Sl)(st:St)(res0:BS)(res1:Int),σ 2=.s res0→σ 3=.i .i64 res1→K res0 res1→Q .ret σ st
section
variable {prog:Prog}{d:Nat}{Q:AE→Sl→St→Prop}{K:BS→Int→Prop}(hQ:H244 Q K){σ:Sl}{st:St}
include hQ
end
def r245_0:List AI:=[oO 2 (.alloc [z8,z6,z6,z6,zs]),oI 3 0]
def r245_1:List AI:=[oM 11 0,oH 12 11,oV 13 .gtr 12 2000]
def r245_2:List AI:=[oO 14 (.build [z8,z6,z6,z6,zs] []),oS 5 2 14,oI 3 4]
def r245_3:List AI:=[oM 16 0,oO 17 (.call false 260 [(.t 16),(.c (.s [32]))]),oM 15 17,oE 18 0 15,oE 19 1 15,oE 20 2 15,oM 4 18,oM 5 19,oM 6 20]
def r245_4:List AI:=[oQ 22 257 [],oM 23 4,oO 24 (.lkp (.t 22) (.t 23)),oM 25 5,oQ 26 261 [24,25],oM 21 26,oE 27 0 21,oE 28 1 21,oO 7 (.alloc [z8,z6,z6,z6,zs]),oS 5 7 27,oM 8 28]
def r245_5:List AI:=[oM 29 8,oZ 30 29]
def r245_6:List AI:=[oO 31 (.build [z8,z6,z6,z6,zs] []),oS 5 2 31,oI 3 12]
def r245_7:List AI:=[oK 33 5 7,oQ 34 243 [33],oM 32 34,oE 35 0 32,oE 36 1 32,oM 9 35,oM 10 36]
def r245_8:List AI:=[oM 37 10,oV 38 .neq 37 0,oM 39 38,gF 39 (oM 40 9),gF 39 (oM 41 0),gF 39 (oT 42 .neq 40 41),oR 43 39 42]
def r245_9:List AI:=[oO 44 (.build [z8,z6,z6,z6,zs] []),oS 5 2 44,oI 3 12]
def r245_10:List AI:=[oK 45 5 7,oS 5 2 45,oI 3 0]
abbrev b245:AC:=(sR 0 r245_0 (.seq (sR 1 r245_1 (.cond (.t 13) (sR 2 r245_2 .ret) .skip)) (sR 3 r245_3 (sR 4 r245_4 (.seq (sR 5 r245_5 (.cond (.t 30) (sR 6 r245_6 .ret) .skip)) (.seq (sR 7 r245_7 (sR 8 r245_8 (.cond (.t 43) (sR 9 r245_9 .ret) .skip))) (sR 10 r245_10 .ret)))))))
def pf245:AF:={ nt:=46,res:=[.cell 2 5 true,.tmp 3],body:=b245 }
abbrev H245 (Q:AE→Sl→St→Prop)(K:Qry→Int→Prop):Prop:=∀(σ:Sl)(st:St)(k0:Key)(v0:Nat)(res0:Qry)(res1:Int),σ 2=.p k0 v0 0→lk st.bx k0=some (v0,[.i .u8 res0.kind,.i .i64 res0.g,.i .i64 res0.k,.i .i64 res0.key,.s res0.name])→σ 3=.i .i64 res1→K res0 res1→Q .ret σ st
def T245_0 (prog:Prog)(K:Qry→Int→Prop)(s0:BS):Prop:=
  ((s0.length:Int)>2000→K (Qry.mk 0 0 0 0 []) 4)∧(¬((s0.length:Int)>2000)→∃o q r,Pus prog 260 [.s s0,.s ([32]:BS)] (.tup [.s o,.s q,.b r])∧∃p,Pus prog 257 [] (.mp p)∧∃k:Qry,∃e,Pus prog 261 [.i .u8 (mpAt p o),.s q] (.tup [k.av,.b e])∧((!e)=true→K (Qry.mk 0 0 0 0 []) 12)∧((!e)=false→∃j c,Pus prog 243 [k.av] (.tup [.s j,.i .i64 c])∧(c≠0→K (Qry.mk 0 0 0 0 []) 12)∧(¬(c≠0)→(j≠s0→K (Qry.mk 0 0 0 0 []) 12)∧(¬(j≠s0)→K k 0))))
section
variable {prog:Prog}{d:Nat}{Q:AE→Sl→St→Prop}{K:Qry→Int→Prop}(hQ:H245 Q K){σ:Sl}{st:St}
include hQ
variable {s0:BS}
variable (H0:σ 0=.s s0)
include H0 in
theorem w245_0 (h:T245_0 prog K s0):W prog d (sR 0 r245_0 (.seq (sR 1 r245_1 (.cond (.t 13) (sR 2 r245_2 .ret) .skip)) (sR 3 r245_3 (sR 4 r245_4 (.seq (sR 5 r245_5 (.cond (.t 30) (sR 6 r245_6 .ret) .skip)) (.seq (sR 7 r245_7 (sR 8 r245_8 (.cond (.t 43) (sR 9 r245_9 .ret) .skip))) (sR 10 r245_10 .ret))))))) σ st Q:=
 sq_ (W.reg (s_alloc (m_ (e_ (sq_ (q_ J (m_ (ln_ H0 (b_ J J gtr_ (e_ (cs_ J (fun k=>q_ J (s_build f_nil (so_ J (show lk _ (d,0)=some (_,([.i .u8 0,.i .i64 0,.i .i64 0,.i .i64 0,.s []]:List AV)) from lk_here) J J J (m_ (er_ (hQ _ _ _ _ _ _ J lk_here J (h.1 k))))))) (fun k=>sk_ (q_ J (m_ (x2 (h.2 k) fun _ _ u=>u.elim fun _ q=>ca_ (sc2 H0 J J) q.1 (m_ (x_ J J (x_ J J (x_ J J (m_ (m_ (m_ (e_ (sq_ (W.reg (q.2.elim fun _ r=>ca_ sn r.1 (m_ (s_lkp J J (m_ (x2 r.2 fun _ _ j=>ca_ (sc2 J J J) j.1 (m_ (x_ J J (x_ J J (s_alloc (so_ J (show lk _ (d,16392)=some (_,([.i .u8 0,.i .i64 0,.i .i64 0,.i .i64 0,.s []]:List AV)) from lk_here) J J J (m_ (e_ (sq_ (q_ J (m_ (nt_ J (e_ (cb_ J (fun o=>q_ J (s_build f_nil (so_ J (lk_other J (lk_other J (show lk _ (d,0)=some (_,([.i .u8 0,.i .i64 0,.i .i64 0,.i .i64 0,.s []]:List AV)) from lk_here))) J J J (m_ (er_ (hQ _ _ _ _ _ _ J lk_here J (j.2.1 o))))))) (fun o=>sk_ (sq_ (q_ J (l_ J lk_here J J (x2 (j.2.2 o) fun _ _ c=>ca_ (sc1 J J) c.1 (m_ (x_ J J (x_ J J (m_ (m_ (e_ (q_ J (s_mvI J (b_ J J neq_ (s_mvB J (em_ (g:=39) J (fun e=>z_ 4 J (e_ (ct_ J (q_ J (s_build f_nil (so_ J (lk_other J (lk_other J (show lk _ (d,0)=some (_,([.i .u8 0,.i .i64 0,.i .i64 0,.i .i64 0,.s []]:List AV)) from lk_here))) J J J (m_ (er_ (hQ _ _ _ _ _ _ J lk_here J (c.2.1 e)))))))))) (fun e=>gy_ J (s_mvS J (gy_ J (s_mvS H0 (gy_ J (b_ J J sne_ (pf_ J J (e_ (cs_ J (fun p=>q_ J (s_build f_nil (so_ J (lk_other J (lk_other J (show lk _ (d,0)=some (_,([.i .u8 0,.i .i64 0,.i .i64 0,.i .i64 0,.s []]:List AV)) from lk_here))) J J J (m_ (er_ (hQ _ _ _ _ _ _ J lk_here J ((c.2.2 e).1 p))))))) (fun p=>sk_ (q_ J (l_ J lk_here J J (so_ J (lk_other J (lk_other J (show lk _ (d,0)=some (_,([.i .u8 0,.i .i64 0,.i .i64 0,.i .i64 0,.s []]:List AV)) from lk_here))) J J J (m_ (er_ (hQ _ _ _ _ _ _ J lk_here J ((c.2.2 e).2 p))))))))))))))))))))))))))))))))))))))))))))))))))))))))))))))))))))))))))))
end
theorem p245 {prog:Prog}(hf:prog.fn 245=some pf245){s0:BS}{K:Qry→Int→Prop}(h:T245_0 prog K s0) :∃res0:Qry,∃res1:Int,K res0 res1∧Pus prog 245 [.s s0] (.tup [res0.av,.i .i64 res1]):=by
  obtain ⟨v,hv,res0,res1,hk,rfl⟩:=Pus.of (K:=fun v=>∃res0:Qry,∃res1:Int,K res0 res1∧v=.tup [res0.av,.i .i64 res1]) hf rfl (w245_0 (σ:=sl0 [.s s0]) (fun σ st k0 v0  res0 res1 H2 HB2 H3 hk=>⟨.tup [res0.av,.i .i64 res1],by simp only [pf245,ares,aresL,ares_cellA (n:=5) H2 HB2 rfl,H3,ares_tmp,Option.map_some],_,rfl,res0,res1,hk,rfl⟩) rfl h)
  exact ⟨res0,res1,hk,hv⟩
abbrev H246 (Q:AE→Sl→St→Prop)(K:Qry→Int→Prop):Prop:=∀(σ:Sl)(st:St)(k0:Key)(v0:Nat)(res0:Qry)(res1:Int),σ 2=.p k0 v0 0→lk st.bx k0=some (v0,[.i .u8 res0.kind,.i .i64 res0.g,.i .i64 res0.k,.i .i64 res0.key,.s res0.name])→σ 3=.i .i64 res1→K res0 res1→Q .ret σ st
section
variable {prog:Prog}{d:Nat}{Q:AE→Sl→St→Prop}{K:Qry→Int→Prop}(hQ:H246 Q K){σ:Sl}{st:St}
include hQ
end
abbrev H240 (Q:AE→Sl→St→Prop)(K:Bool→Prop):Prop:=∀(σ:Sl)(st:St)(res0:Bool),σ 4=.b res0→K res0→Q .ret σ st
section
variable {prog:Prog}{d:Nat}{Q:AE→Sl→St→Prop}{K:Bool→Prop}(hQ:H240 Q K){σ:Sl}{st:St}
include hQ
end
end Go.AM

/- Parts of the proof. -/
namespace Go.AM
open Go Go.RowKit Go.BigFrame Go.ChangeMaps
def wordL:List (List UInt8 × Int):=[([103,111,114,111,117,116,105,110,101,115],1),([102,114,97,109,101,115],2),([108,111,99,97,108,115],3),([100,101,102,101,114,115],4),([112,97,110,105,99,115],5),([119,97,105,116,115],6),([105,110],7),([115,108,111,116],8)]
def wordM (n:Int):List UInt8:=match wordL.find? (fun x=>x.2==n) with | some x=>x.1 | none=>[]
def wordE (j:Nat):MapEntry:=⟨.string ⟨(wordM ((j:Int)+1)).toArray⟩,.int .u8 ((j:Int)+1),j⟩
def wordEs:Array MapEntry:=#[wordE 0,wordE 1,wordE 2,wordE 3,wordE 4,wordE 5,wordE 6,wordE 7]
theorem wordEs_mem {e:MapEntry} (h:e∈wordEs.toList) :∃j,j<8∧e=wordE j:=by
 simp only [wordEs,List.mem_cons,List.not_mem_nil,or_false] at h
 rcases h with h | h | h | h | h | h | h | h
 ·exact ⟨0,by decide,h⟩
 ·exact ⟨1,by decide,h⟩
 ·exact ⟨2,by decide,h⟩
 ·exact ⟨3,by decide,h⟩
 ·exact ⟨4,by decide,h⟩
 ·exact ⟨5,by decide,h⟩
 ·exact ⟨6,by decide,h⟩
 ·exact ⟨7,by decide,h⟩
theorem wordE_mem {j:Nat} (h:j<8):wordE j∈wordEs.toList:=by
 simp only [wordEs,List.mem_cons,List.not_mem_nil,or_false]
 match j,h with
 | 0,_ | 1,_ | 2,_ | 3,_ | 4,_ | 5,_ | 6,_ | 7,_=>simp
theorem wordEs_map:wordEs.toList.map (fun e=>(e.key,e.val))=wordL.map fun x=>(Value.string ⟨x.1.toArray⟩,Value.int .u8 x.2):=rfl
theorem wordEs_nodup:(wordEs.toList.map (·.born)).Nodup:=by
 show [0,1,2,3,4,5,6,7].Nodup
 decide
theorem wordEs_born {e:MapEntry} (h:e∈wordEs.toList):e.born<8:=by
 obtain ⟨j,hj,rfl⟩:=wordEs_mem h
 exact hj
theorem wordM_no {n:Int} (h:¬(1≤n∧n≤8)):wordM n=[]:=by
 have e:wordL.find? (fun x=>x.2==n)=none:=by
  rw [List.find?_eq_none]
  intro x hx
  have:1≤x.2∧x.2≤8:=by
   simp only [wordL,List.mem_cons,List.not_mem_nil,or_false] at hx
   rcases hx with rfl | rfl | rfl | rfl | rfl | rfl | rfl | rfl<;>decide
  simp only [beq_iff_eq]
  omega
 unfold wordM
 rw [e]
theorem setBlock_at {w:World} {r:Nat} {o:Obj} (h:r<w.heap.size):(setBlock w r o).heap[r]?=some o:=by
 simp [setBlock,h]
theorem setBlock_ne {w:World} {r i:Nat} {o:Obj} (h:i≠r):(setBlock w r o).heap[i]?=w.heap[i]?:=by
 simp only [setBlock]
 rw [Array.getElem?_setIfInBounds_ne (by omega)]
theorem setBlock_below {w0 w:World} {n r:Nat} {o:Obj} (h:Below n w0 w) (hr:n≤r):Below n w0 (setBlock w r o):=
 ⟨h.os,h.tape,h.output,by simpa [setBlock] using h.size,fun i hi=>(setBlock_ne (by omega)).trans (h.block i hi)⟩
section
variable {P:Program}
theorem setObj_map {w:World} {r:Nat} {es:Array MapEntry} {c:Nat} (h:w.heap[r]?=some (.map es c)) (o':Obj):(setObj r o').run P w=.ok () (setBlock w r o'):=by
 simp [setObj,Sem.run,h,setBlock]
theorem insert_run {w:World} {r clock tm k e:Nat} {es:Array MapEntry} {l:List (List UInt8 × Int)} (hun:P.underlying tm=some (.map k e)) (hks:P.underlying k=some .string) (hb:w.heap[r]?=some (.map es clock))
  (hm:es.toList.map (fun e=>(e.key,e.val))=l.map fun x=>(Value.string ⟨x.1.toArray⟩,Value.int .u8 x.2)) {s:List UInt8} (hf:l.find? (fun x=>x.1==s)=none) (v:Value) :
  (Instr.mapUpdate tm (.map (some r)) (.string ⟨s.toArray⟩) v).run P w=.ok () (setBlock w r (.map (es.push ⟨.string ⟨s.toArray⟩,v,clock⟩) (clock+1))):=by
 have hget:(getObj r).run P w=.ok (.map es clock) w:=by simp [getObj,Sem.run,hb]
 have hck:(Instr.checkKey false 10000 k (.string ⟨s.toArray⟩)).run P w=.ok () w:=by
  rw [Instr.checkKey]
  simp [run_underlying hks]
 have hfn:Instr.findNow .string (.string ⟨s.toArray⟩) es.toList 0=some none:=by
  rcases findNow_ok s es.toList l 0 hm with ⟨h,_⟩ | ⟨j,x,_,h⟩
  ·exact h
  ·rw [hf] at h;cases h
 have hfk:(Instr.findKey k (.string ⟨s.toArray⟩) es.toList).run P w=.ok none w:=by
  simp [Instr.findKey,run_underlying hks,hfn]
 simp only [Instr.mapUpdate,Sem.run_bind,run_underlying hun,Result.andThen_ok,hget,hck,hfk]
 exact setObj_map hb _
end
def OpsAre (ops:Array Oper) (l:List (Option Nat × Op)):Prop:=ops.toList.map (fun o=>(o.dst,o.op))=l∧∀o∈ops.toList,o.guard=none
theorem OpsAre.at {ops:Array Oper} {l:List (Option Nat × Op)} (h:OpsAre ops l) {i:Nat} {d:Option Nat} {p:Op} (hi:l[i]?=some (d,p)) :∃o,ops[i]?=some o∧o.dst=d∧o.op=p∧o.guard=none:=by
 rw [← h.1,List.getElem?_map,Option.map_eq_some_iff] at hi
 obtain ⟨o,h1,h2⟩:=hi
 injection h2 with h2 h3
 exact ⟨o,by simpa using h1,h2,h3,h.2 o (List.mem_of_getElem? h1)⟩
theorem OpsAre.size {ops:Array Oper} {l:List (Option Nat × Op)} (h:OpsAre ops l):ops.size=l.length:=by
 rw [← h.1];simp
def tv (a:Act) (t:Nat):Value:=a.tmps.getD t undef
theorem tv_put (a:Act) (d:Nat) (v:Value) (t:Nat) (h:d<a.tmps.size):tv (a.put (some d) v) t=if t=d then v else tv a t:=by
 unfold tv Act.put
 simp only [Array.getD_eq_getD_getElem?,Array.getElem?_setIfInBounds]
 by_cases e:t=d
 ·subst e;simp [h]
 ·rw [if_neg (fun e'=>e e'.symm),if_neg e]
section
variable {P:Program} {ops:Array Oper} {l:List (Option Nat × Op)} {Q:Exit→Act→World→Prop} {i:Nat} {rest:List Nat} {a:Act} {w w':World}
theorem st_val (h:OpsAre ops l) {d:Nat} {p:Op} (hi:l[i]?=some (some d,p)) {v:Value} (hr :∀o:Oper,o.op=p→(execOp a.eval o).run P w=.ok (.value v) w') (hk:wpOps P ops Q rest (a.put (some d) v) w'):wpOps P ops Q (i::rest) a w:=by
 obtain ⟨o,h1,h2,h3,h4⟩:=h.at hi
 rw [wpOps_cons]
 exact step_val (G:=⟨fun _ _=>none,fun _ _=>none,fun _ _=>none,fun _=>none,fun _=>none⟩) (nt:=0) h1 h4 (hr o h3) (by rw [h2];exact hk)
theorem st_valo {o:Oper} (h1:ops[i]?=some o) {d:Nat} (h2:o.dst=some d) (h4:o.guard=none) {v:Value} (hr:(execOp a.eval o).run P w=.ok (.value v) w') (hk:wpOps P ops Q rest (a.put (some d) v) w'):wpOps P ops Q (i::rest) a w:=by
 rw [wpOps_cons]
 exact step_val (G:=⟨fun _ _=>none,fun _ _=>none,fun _ _=>none,fun _=>none,fun _=>none⟩) (nt:=0) h1 h4 hr (by rw [h2];exact hk)
theorem st_unit (h:OpsAre ops l) {p:Op} (hi:l[i]?=some (none,p)) (hr :∀o:Oper,o.op=p→(execOp a.eval o).run P w=.ok .skip w') (hk:wpOps P ops Q rest a w'):wpOps P ops Q (i::rest) a w:=by
 obtain ⟨o,h1,h2,h3,h4⟩:=h.at hi
 rw [wpOps_cons]
 unfold wpOp
 rw [h1]
 simp only
 rw [if_pos (by simp [Region.wanted,h4])]
 refine .inl ?_
 unfold Oper.wp
 rw [hr o h3,Oper.upon_skip,h2]
 exact hk
theorem st_call (h:OpsAre ops l) {d:Nat} {p:Op} (hi:l[i]?=some (some d,p)) {f:FuncId} {args:Array Value} (hr :∀o:Oper,o.op=p→(execOp a.eval o).run P w=.ok (.enter f args) w) (hk:Calls P f args w fun e w''=>match e with | .returned v=>wpOps P ops Q rest (a.put (some d) v) w'' | _=>False):wpOps P ops Q (i::rest) a w:=by
 obtain ⟨o,h1,h2,h3,h4⟩:=h.at hi
 rw [wpOps_cons]
 unfold wpOp
 rw [h1]
 simp only
 rw [if_pos (by simp [Region.wanted,h4])]
 refine .inl ?_
 unfold Oper.wp
 rw [hr o h3,Oper.upon_enter,h2]
 refine hk.mono fun e w'' he=>?_
 cases e with
 | returned v=>exact he
 | panicked c=>exact he.elim
 | outgrown=>exact he.elim
end
def insOp (tm:Nat) (j:Nat):Op:=.insert tm (.tmp 1) (.const (.string ⟨(wordM ((j:Int)+1)).toArray⟩)) (.const (.int .u8 ((j:Int)+1)))
theorem words_find {j:Nat} (h:j<8):(wordL.take j).find? (fun x=>x.1==wordM ((j:Int)+1))=none:=by
 match j,h with
 | 0,_ | 1,_ | 2,_ | 3,_ | 4,_ | 5,_ | 6,_ | 7,_=>rfl
theorem words_map {j:Nat} (h:j≤8):(wordEs.toList.take j).map (fun e=>(e.key,e.val))=(wordL.take j).map fun x=>(Value.string ⟨x.1.toArray⟩,Value.int .u8 x.2):=by
 rw [List.map_take,wordEs_map,← List.map_take]
theorem words_push {j:Nat} (h:j<8):(wordEs.toList.take j).toArray.push (wordE j)=(wordEs.toList.take (j+1)).toArray:=by
 match j,h with
 | 0,_ | 1,_ | 2,_ | 3,_ | 4,_ | 5,_ | 6,_ | 7,_=>rfl
def WordsR (w:World):Ending→World→Prop:=fun e w'=>∃b,e=.returned (.map (some b))∧w'.heap[b]?=some (.map wordEs 8)∧w.heap.size≤b∧Below w.heap.size w w'
section
variable {P:Program}
theorem words_calls {fw tm k e:Nat} {fn:Func} {ops0 ops1:Array Oper} (hf:P.funcs[fw]?=some fn) (hb:fn.body=some (.seq (.region 0 ops0 false) (.seq (.region 1 ops1 false) .ret))) (hn:fn.ntmps=3) (hres:fn.results=#[.tmp 0])
  (hun:P.underlying tm=some (.map k e)) (hks:P.underlying k=some .string)
  (h0:OpsAre ops0 [(some 0,.assign (.const (.map none)))])
  (h1:OpsAre ops1 [(some 1,.makeMap tm none),(none,insOp tm 0),(none,insOp tm 1),(none,insOp tm 2),(none,insOp tm 3),(none,insOp tm 4),(none,insOp tm 5),(none,insOp tm 6),(none,insOp tm 7),(some 2,.move (.tmp 1)),(some 0,.assign (.tmp 2))]) (w:World) :
  Calls P fw #[] w (WordsR w):=by
 refine calls_of_wp hf hb ?_
 rw [hn]
 refine wp_seq (wp_region ?_)
 rw [h0.size]
 show wpOps P ops0 _ [0] _ _
 refine st_val h0 (d:=0) (v:=.map none) (w':=w) rfl (fun o ho=>by simp only [execOp,ho];rfl) ?_
 refine wp_seq (wp_region ?_)
 rw [h1.size]
 show wpOps P ops1 _ [0,1,2,3,4,5,6,7,8,9,10] _ _
 refine st_val h1 (d:=1) (v:=.map (some w.heap.size)) (w':=w.alloc (.map #[] 0)) rfl (fun o ho=>by simp only [execOp,ho];exact run_val (by simp [Instr.makeMap,run_newObj])) ?_
 have start:(w.alloc (.map #[] 0)).heap[w.heap.size]?=some (.map (wordEs.toList.take 0).toArray 0)∧Below w.heap.size w (w.alloc (.map #[] 0)):=⟨heap_alloc_new w _,(Below.refl _ _).alloc (Nat.le_refl _) _⟩
 generalize w.alloc (.map #[] 0)=w1 at start ⊢
 have ins :∀{j:Nat} {w2:World} (rest:List Nat) (a:Act) (Q:Exit→Act→World→Prop),j<8→tv a 1=.map (some w.heap.size)→w2.heap[w.heap.size]?=some (.map (wordEs.toList.take j).toArray j)∧Below w.heap.size w w2→
   (∀w3:World,w3.heap[w.heap.size]?=some (.map (wordEs.toList.take (j+1)).toArray (j+1))∧Below w.heap.size w w3→wpOps P ops1 Q rest a w3)→wpOps P ops1 Q ((j+1)::rest) a w2:=by
  intro j w2 rest a Q hj ha ⟨q1,q2⟩ hk
  have hlt:w.heap.size<w2.heap.size:=(Array.getElem?_eq_some_iff.1 q1).1
  refine st_unit h1 (p:=insOp tm j) (w':=setBlock w2 w.heap.size (.map ((wordEs.toList.take j).toArray.push (wordE j)) (j+1))) ?_ (fun o ho=>?_) (hk _ ⟨?_,setBlock_below q2 (Nat.le_refl _)⟩)
  ·match j,hj with
   | 0,_ | 1,_ | 2,_ | 3,_ | 4,_ | 5,_ | 6,_ | 7,_=>rfl
  ·simp only [execOp,ho,insOp]
   refine run_unit ?_
   rw [show a.eval (.tmp 1)=.map (some w.heap.size) from ha]
   exact insert_run hun hks q1 (l:=wordL.take j) (by rw [List.toList_toArray];exact words_map (by omega)) (words_find hj) _
  ·rw [setBlock_at hlt,words_push hj]
 refine ins _ _ _ (by decide) (by rfl) start fun w2 s2=>ins _ _ _ (by decide) (by rfl) s2 fun w3 s3=>ins _ _ _ (by decide) (by rfl) s3 fun w4 s4=>ins _ _ _ (by decide) (by rfl) s4 fun w5 s5=>ins _ _ _ (by decide) (by rfl) s5 fun w6 s6=>ins _ _ _ (by decide) (by rfl) s6 fun w7 s7=>ins _ _ _ (by decide) (by rfl) s7 fun w8 s8=>ins _ _ _ (by decide) (by rfl) s8 fun w9 s9=>?_
 refine st_val h1 (d:=2) (v:=.map (some w.heap.size)) (w':=w9) rfl (fun o ho=>by simp only [execOp,ho];rfl) ?_
 refine st_val h1 (d:=0) (v:=.map (some w.heap.size)) (w':=w9) rfl (fun o ho=>by simp only [execOp,ho];rfl) ?_
 refine wp_ret ?_
 refine ⟨rfl,.map (some w.heap.size),?_,_,rfl,s9.1,Nat.le_refl _,s9.2⟩
 rw [results_eq,hres]
 have h2:(resVar ((((({ tmps:=#[]++Array.replicate (3-(#[]:Array Value).size) undef,defers:=[] }:Act).put (some 0) (Value.map none)).put (some 1) (Value.map (some w.heap.size))).put (some 2) (Value.map (some w.heap.size))).put (some 0) (Value.map (some w.heap.size))).tmps (.tmp 0)).run P w9=.ok (.map (some w.heap.size)) w9:=rfl
 simpa using h2
end
def hwSlots:List Nat:=[6,7,15,16,17,18,19,20,21,22,23,24,25,26]
def hs243 (n:Int) (σ:Sl):Sl:=fun t=>if t=5 then .s (wordM n) else if hwSlots.contains t=true then .u else σ t
def hw243 (σ:Sl) (st:St):Option (AE × Sl × St):=match σ 1,σ 5 with
 | .p k v 0,.s []=>match lk st.bx k with
  | some (v',.i .u8 n::_)=>if v'=v then some (.normal,hs243 n σ,st) else none
  | _=>none
 | _,_=>none
theorem hw243_eq {σ:Sl} {st:St} {k:Key} {v:Nat} {n:Int} {cs:List AV} (h1:σ 1=.p k v 0) (h5:σ 5=.s []) (hk:lk st.bx k=some (v,.i .u8 n::cs)):hw243 σ st=some (.normal,hs243 n σ,st):=by
 unfold hw243
 rw [h1,h5]
 simp only [hk,if_true]
theorem hw243_inv {σ σ':Sl} {st st':St} {e:AE} (h:hw243 σ st=some (e,σ',st')) :∃k v n cs,σ 1=.p k v 0∧σ 5=.s []∧lk st.bx k=some (v,.i .u8 n::cs)∧e=.normal∧σ'=hs243 n σ∧st'=st:=by
 unfold hw243 at h
 split at h
 ·rename_i k v h1 h5
  split at h
  ·rename_i v' n cs hk
   split at h
   ·rename_i hv
    subst hv
    cases h
    exact ⟨k,v',n,cs,h1,h5,hk,rfl,rfl,rfl⟩
   ·cases h
  ·cases h
 ·cases h
def curOf (n:Int) (seen:Array Nat):List UInt8:=if 1≤n∧n≤8∧seen.contains (n-1).toNat=true then wordM n else []
theorem cur_push {n:Int} {seen:Array Nat} {j:Nat} (hj:j<8):curOf n (seen.push j)=if (n==(j:Int)+1)=true then wordM ((j:Int)+1) else curOf n seen:=by
 unfold curOf
 by_cases h:n=(j:Int)+1
 ·subst h
  rw [if_pos ⟨by omega,by omega,by simp⟩,if_pos (by simp)]
 ·rw [if_neg (c:=(n==(j:Int)+1)=true) (by simpa using h)]
  by_cases h1:1≤n∧n≤8
  ·have:(seen.push j).contains (n-1).toNat=seen.contains (n-1).toNat:=by
    simp only [Array.contains_push]
    have:((n-1).toNat==j)=false:=by simp;omega
    rw [this,Bool.or_false]
   rw [this]
  ·rw [if_neg (fun h=>h1 ⟨h.1,h.2.1⟩),if_neg (fun h=>h1 ⟨h.1,h.2.1⟩)]
theorem cur_all {n:Int} {seen:Array Nat} (h:(leftOf wordEs seen).size=0):curOf n seen=wordM n:=by
 unfold curOf
 by_cases h1:1≤n∧n≤8
 ·rw [if_pos]
  refine ⟨h1.1,h1.2,?_⟩
  have hm:wordE (n-1).toNat∈wordEs:=by simpa using wordE_mem (j:=(n-1).toNat) (by omega)
  have h2:leftOf wordEs seen=#[]:=Array.eq_empty_of_size_eq_zero h
  unfold leftOf at h2
  rw [Array.filter_eq_empty_iff] at h2
  have:=h2 _ hm
  simpa [wordE] using this
 ·rw [if_neg (fun h=>h1 ⟨h.1,h.2.1⟩),wordM_no h1]
theorem words_size:wordEs.size=8:=rfl
theorem left_le (seen:Array Nat):(leftOf wordEs seen).size<9:=by
 have h:(leftOf wordEs seen).size≤wordEs.size:=by
  unfold leftOf
  exact Array.size_filter_le
 rw [words_size] at h
 omega
theorem left_push {seen:Array Nat} {e:MapEntry} (h:e∈(leftOf wordEs seen).toList):(leftOf wordEs (seen.push e.born)).size<(leftOf wordEs seen).size:=by
 have e1:leftOf wordEs (seen.push e.born)=(leftOf wordEs seen).filter (fun x=>!(x.born==e.born)):=by
  unfold leftOf
  rw [Array.filter_filter]
  congr 1
  funext x
  simp only [Array.contains_push,Bool.not_or,Bool.and_comm]
 rw [e1,Array.size_filter_lt_size_iff_exists]
 exact ⟨e,by simpa using h,by simp⟩
section
variable {P:Program} {X:Cx}
set_option maxHeartbeats 1000000 in
theorem range_hand {nt d fw tm ts t5 k e:Nat} {ops5 ops6 ops7 ops8 ops9:Array Oper} (hnt:27≤nt) (hun:P.underlying tm=some (.map k e)) (hT:TTok P X.T) {fs:List (Nat × Nat)} (hst:(TK.st fs).ok P ts) (hf0:fs[0]?=some (t5,0)) {i5':TI} (hi5:X.T t5=some i5') (hi5s:i5'.size=1) (hi5a:i5'.kind.agg=false)
  (hw :∀w,(callFunc fw #[]).run P w=.ok (.enter fw #[]) w∧Calls P fw #[] w (WordsR w))
  (h5:OpsAre ops5 [(some 15,.call ⟨.value (.func fw),#[],#[]⟩),(some 16,.range tm (.tmp 15))])
  (h6:OpsAre ops6 [(some 17,.next (.tmp 16) false),(some 18,.extract (.tmp 17) 0)])
  (h7:OpsAre ops7 [(some 19,.entry (.tmp 16)),(some 20,.extract (.tmp 19) 0),(some 21,.extract (.tmp 19) 1),(some 6,.assign (.tmp 20)),(some 7,.assign (.tmp 21))])
  (h8:OpsAre ops8 [(some 22,.move (.tmp 7)),(some 23,.fieldAddr ts (.tmp 1) 0),(some 24,.load t5 (.tmp 23)),(some 25,.binOp .eql t5 (.tmp 22) (.tmp 24) t5)])
  (h9:OpsAre ops9 [(some 26,.move (.tmp 6)),(some 5,.assign (.tmp 26))]) :
  CodeOk P X nt d hw243 (.seq (.region 5 ops5 false) (.block 0 (.loop (.seq (.region 6 ops6 false) (.seq (.cond (.tmp 18) .skip (.exit 0)) (.block 1 (.seq (.region 7 ops7 false) (.seq (.region 8 ops8 false) (.cond (.tmp 25) (.region 9 ops9 false) .skip))))))))):=by
 intro σ st e' σ' st' h G w0 w a hfm hA hR Q hQ
 obtain ⟨kk,v,n,cs,q1,q5,qb,rfl,rfl,rfl⟩:=hw243_inv h
 have hsz:a.tmps.size=nt:=hA.2.1
 -- region 5
 refine wp_seq (wp_region ?_)
 rw [h5.size]
 show wpOps P ops5 _ [0,1] _ _
 refine st_call h5 (d:=15) rfl (f:=fw) (args:=#[]) (fun o ho=>?_) ((hw w).2.mono fun e1 w1 he=>?_)
 ·simp only [execOp,ho,resolve,Act.eval,Deferred.ofValue,invoke,Sem.run_bind,Sem.run_pure,Result.andThen_ok]
  simpa using (hw w).1
 obtain ⟨b,rfl,hb,hge,hbel⟩:=he
 refine st_val h5 (d:=16) (v:=.pointer (some ⟨w1.heap.size,0,none⟩)) (w':=w1.alloc (.mapIter (some b) 8 #[] 8)) rfl (fun o ho=>?_) ?_
 ·simp only [execOp,ho]
  refine run_val ?_
  rw [show (a.put (some 15) (.map (some b))).eval (.tmp 15)=.map (some b) from by
   show tv _ 15=_
   rw [tv_put _ _ _ _ (by omega),if_pos rfl]]
  have hg:(getObj b).run P w1=.ok (.map wordEs 8) w1:=by simp [getObj,Sem.run,hb]
  simp [Instr.range,run_underlying hun,hg]
 have hlt1:w1.heap.size<(w1.alloc (.mapIter (some b) 8 #[] 8)).heap.size:=by simp
 have hb1:b<w1.heap.size:=(Array.getElem?_eq_some_iff.1 hb).1
 have hbel1:Below w.heap.size w (w1.alloc (.mapIter (some b) 8 #[] 8)):=hbel.alloc (Nat.le_trans hbel.size (Nat.le_refl _)) _
 have hbm:(w1.alloc (.mapIter (some b) 8 #[] 8)).heap[b]?=some (.map wordEs 8):=(Below.heap_alloc _ _ _ hb1).trans hb
 have hrm:(w1.alloc (.mapIter (some b) 8 #[] 8)).heap[w1.heap.size]?=some (.mapIter (some b) 8 #[] 8):=heap_alloc_new w1 _
 have hr0:w.heap.size≤w1.heap.size:=hbel.size
 generalize hr:w1.heap.size=r at *
 generalize w1.alloc (.mapIter (some b) 8 #[] 8)=w2 at *
 clear hlt1 hb hbel hb1
 -- what holds between two rounds
 let Inv:Array Nat→Act→World→Prop:=fun seen b' w'=>b'.defers=[]∧b'.tmps.size=nt∧(∀t,t≠5→hwSlots.contains t=false→R G (σ t) (tv b' t))∧tv b' 16=.pointer (some ⟨r,0,none⟩)∧tv b' 5=.string ⟨(curOf n seen).toArray⟩∧
  w'.heap[b]?=some (.map wordEs 8)∧(∃c,w'.heap[r]?=some (.mapIter (some b) 8 seen c)∧8≤c)∧Below w.heap.size w w'
 have out :∀{b':Act} {w':World} {seen:Array Nat},Inv seen b' w'→(leftOf wordEs seen).size=0→Q .normal b' w':=by
  intro b' w' seen hI h0
  obtain ⟨i1,i2,i3,i4,i5,i6,i7,i8⟩:=hI
  refine hQ b' w' G ⟨i1,i2,fun t=>?_⟩ ⟨.refl G,hR.below i8,Nat.le_refl _,fun _ _ _=>⟨rfl,rfl⟩,fun _ _ _ _ _ _ h=>h,fun _ _ _ h=>.inl h⟩
  unfold hs243
  split
  ·rename_i ht
   subst ht
   rw [cur_all h0] at i5
   have:R G (.s (wordM n)) (tv b' 5):=by rw [i5];exact .fz _ _ (.s _)
   exact this
  ·split
   ·exact .fz _ _ (.u _)
   ·rename_i h1 h2
    exact i3 t h1 (by simpa using h2)
 have init:Inv #[] ((a.put (some 15) (.map (some b))).put (some 16) (.pointer (some ⟨r,0,none⟩))) w2:=by
  have s15:(a.put (some 15) (.map (some b))).tmps.size=nt:=by simp [Act.put,hsz]
  refine ⟨hA.1,by simp [Act.put,hsz],fun t h1 h2=>?_,?_,?_,hbm,⟨8,hrm,Nat.le_refl _⟩,hbel1⟩
  ·have n15:t≠15:=by rintro rfl;simp [hwSlots] at h2
   have n16:t≠16:=by rintro rfl;simp [hwSlots] at h2
   rw [tv_put _ _ _ _ (by omega),if_neg n16,tv_put _ _ _ _ (by omega),if_neg n15]
   exact hA.2.2 t
  ·rw [tv_put _ _ _ _ (by omega),if_pos rfl]
  ·rw [tv_put _ _ _ _ (by omega),if_neg (by decide),tv_put _ _ _ _ (by omega),if_neg (by decide)]
   have h3:=hA.2.2 5
   rw [q5] at h3
   rw [show tv a 5=.string ⟨([]:List UInt8).toArray⟩ from h3.str_inv]
   unfold curOf
   rw [if_neg (by simp)]
 generalize (a.put (some 15) (.map (some b))).put (some 16) (.pointer (some ⟨r,0,none⟩))=a1 at init
 show wpOps P ops5 _ [] a1 w2
 show Code.wp P _ _ a1 w2
 refine wp_block (wp_loop_rounds 9 ?_)
 have rounds :∀(m:Nat) (seen:Array Nat) (b':Act) (w':World),Inv seen b' w'→(leftOf wordEs seen).size<m→Code.rounds P (.seq (.region 6 ops6 false) (.seq (.cond (.tmp 18) .skip (.exit 0)) (.block 1 (.seq (.region 7 ops7 false) (.seq (.region 8 ops8 false) (.cond (.tmp 25) (.region 9 ops9 false) .skip)))))) (Exit.inBlock 0 Q) m b' w':=by
  intro m
  induction m with
  | zero=>intro seen b' w' _ h;exact absurd h (Nat.not_lt_zero _)
  | succ m ih=>
   intro seen b' w' hI hm
   rw [rounds_succ]
   obtain ⟨i1,i2,i3,i4,i5,i6,⟨c,i7,i7c⟩,i8⟩:=hI
   refine wp_seq (wp_region ?_)
   rw [h6.size]
   show wpOps P ops6 _ [0,1] _ _
   obtain ⟨o0,o1,o2,o3,o4⟩:=h6.at (i:=0) rfl
   rcases run_next_at (P:=P) w' o0.type r b 8 c seen wordEs 8 i7 i6 (fun x hx=>wordEs_born hx) i7c with ⟨hz,hrun⟩ | ⟨ent,hent,w3,hw3,hrun⟩
   · -- all have come
    refine st_valo o1 o2 o4 (v:=.tuple #[.bool false]) (w':=w') ?_ ?_
    ·simp only [execOp,o3]
     refine run_val ?_
     rw [show b'.eval (.tmp 16)=.pointer (some ⟨r,0,none⟩) from i4]
     exact hrun
    have e17:tv (b'.put (some 17) (.tuple #[.bool false])) 17=.tuple #[.bool false]:=by rw [tv_put _ _ _ _ (by omega),if_pos rfl]
    refine st_val h6 (d:=18) (v:=.bool false) (w':=w') rfl (fun o ho=>?_) ?_
    ·simp only [execOp,ho]
     refine run_val ?_
     rw [show (b'.put (some 17) (.tuple #[.bool false])).eval (.tmp 17)=.tuple #[.bool false] from e17]
     simp [Instr.extract]
    refine wp_seq (wp_cond_false ?_ (wp_exit ?_))
    ·show tv _ 18=_
     rw [tv_put _ _ _ _ (by simp [Act.put];omega),if_pos rfl]
    ·show Exit.inBlock 0 Q (.exit 0) _ _
     simp only [Exit.inBlock,if_true]
     refine out (seen:=seen) ⟨i1,by simp [Act.put,i2],fun t h1 h2=>?_,?_,?_,i6,⟨c,i7,i7c⟩,i8⟩ hz
     ·have n17:t≠17:=by rintro rfl;simp [hwSlots] at h2
      have n18:t≠18:=by rintro rfl;simp [hwSlots] at h2
      rw [tv_put _ _ _ _ (by simp [Act.put];omega),if_neg n18,tv_put _ _ _ _ (by omega),if_neg n17]
      exact i3 t h1 h2
     ·rw [tv_put _ _ _ _ (by simp [Act.put];omega),if_neg (by decide),tv_put _ _ _ _ (by omega),if_neg (by decide)]
      exact i4
     ·rw [tv_put _ _ _ _ (by simp [Act.put];omega),if_neg (by decide),tv_put _ _ _ _ (by omega),if_neg (by decide)]
      exact i5
   · -- one more
    have hmem:ent∈wordEs.toList:=by
     unfold leftOf at hent
     simp only [Array.toList_filter',List.mem_filter] at hent
     exact hent.1
    obtain ⟨j,hj,rfl⟩:=wordEs_mem hmem
    have hlt:=left_push hent
    have hrne:b≠r:=by rintro rfl;rw [i6] at i7;cases i7
    have hrlt:r<w'.heap.size:=(Array.getElem?_eq_some_iff.1 i7).1
    have h3:w3.heap=w'.heap:=by rcases hw3 with rfl | rfl<;>rfl
    have hbel3:Below w.heap.size w w3:=by
     rcases hw3 with rfl | rfl
     ·exact i8
     ·exact i8.drew
    have hb3:(setBlock w3 r (.mapIter (some b) 8 (seen.push j) 8)).heap[b]?=some (.map wordEs 8):=(setBlock_ne hrne).trans (by rw [h3];exact i6)
    have hr3:(setBlock w3 r (.mapIter (some b) 8 (seen.push j) 8)).heap[r]?=some (.mapIter (some b) 8 (seen.push j) 8):=setBlock_at (by rw [h3];exact hrlt)
    have hbel4:Below w.heap.size w (setBlock w3 r (.mapIter (some b) 8 (seen.push j) 8)):=setBlock_below hbel3 hr0
    have hrun':(Instr.next (.pointer (some ⟨r,0,none⟩)) false o0.type).run P w'=.ok (.tuple #[.bool true,.string ⟨(wordM ((j:Int)+1)).toArray⟩,.int .u8 ((j:Int)+1)]) (setBlock w3 r (.mapIter (some b) 8 (seen.push j) 8)):=hrun
    generalize setBlock w3 r (.mapIter (some b) 8 (seen.push j) 8)=w4 at *
    have hrel:Rel G w0 st' w4:=hR.below hbel4
    refine st_valo o1 o2 o4 (v:=.tuple #[.bool true,.string ⟨(wordM ((j:Int)+1)).toArray⟩,.int .u8 ((j:Int)+1)]) (w':=w4) ?_ ?_
    ·simp only [execOp,o3]
     refine run_val ?_
     rw [show b'.eval (.tmp 16)=.pointer (some ⟨r,0,none⟩) from i4]
     exact hrun'
    -- what the slots hold
    let A:(Nat→Value)→Act→Prop:=fun f b'=>b'.defers=[]∧b'.tmps.size=nt∧∀t,tv b' t=f t
    have put :∀{f:Nat→Value} {b':Act} (d:Nat) (v:Value),d<27→A f b'→A (fun t=>if t=d then v else f t) (b'.put (some d) v):=by
     rintro f b' d v hd ⟨p1,p2,p3⟩
     refine ⟨p1,by simp [Act.put,p2],fun t=>?_⟩
     rw [tv_put _ _ _ _ (by omega),p3]
    have a0:A (tv b') b':=⟨i1,i2,fun _=>rfl⟩
    have a17:=put 17 (.tuple #[.bool true,.string ⟨(wordM ((j:Int)+1)).toArray⟩,.int .u8 ((j:Int)+1)]) (by decide) a0
    generalize b'.put (some 17) (.tuple #[.bool true,.string ⟨(wordM ((j:Int)+1)).toArray⟩,.int .u8 ((j:Int)+1)])=b1 at a17 ⊢
    refine st_val h6 (d:=18) (v:=.bool true) (w':=w4) rfl (fun o ho=>?_) ?_
    ·simp only [execOp,ho]
     refine run_val ?_
     rw [show b1.eval (.tmp 17)=_ from a17.2.2 17]
     simp [Instr.extract]
    have a18:=put 18 (.bool true) (by decide) a17
    generalize b1.put (some 18) (.bool true)=b2 at a18 ⊢
    show Code.wp P _ _ b2 w4
    refine wp_seq (wp_cond_true (a18.2.2 18) (wp_skip ?_))
    show Code.wp P _ _ b2 w4
    refine wp_block (wp_seq (wp_region ?_))
    rw [h7.size]
    show wpOps P ops7 _ [0,1,2,3,4] _ _
    refine st_val h7 (d:=19) (v:=.tuple #[.string ⟨(wordM ((j:Int)+1)).toArray⟩,.int .u8 ((j:Int)+1)]) (w':=w4) rfl (fun o ho=>?_) ?_
    ·simp only [execOp,ho]
     refine run_val ?_
     rw [show b2.eval (.tmp 16)=.pointer (some ⟨r,0,none⟩) from (a18.2.2 16).trans i4]
     exact run_entry_at w4 r b 8 seen wordEs 8 (wordE j) hr3 hb3 hmem wordEs_nodup
    have a19:=put 19 (.tuple #[.string ⟨(wordM ((j:Int)+1)).toArray⟩,.int .u8 ((j:Int)+1)]) (by decide) a18
    generalize b2.put (some 19) (.tuple #[.string ⟨(wordM ((j:Int)+1)).toArray⟩,.int .u8 ((j:Int)+1)])=b3 at a19 ⊢
    refine st_val h7 (d:=20) (v:=.string ⟨(wordM ((j:Int)+1)).toArray⟩) (w':=w4) rfl (fun o ho=>?_) ?_
    ·simp only [execOp,ho]
     refine run_val ?_
     rw [show b3.eval (.tmp 19)=_ from a19.2.2 19]
     simp [Instr.extract]
    have a20:=put 20 (.string ⟨(wordM ((j:Int)+1)).toArray⟩) (by decide) a19
    generalize b3.put (some 20) (.string ⟨(wordM ((j:Int)+1)).toArray⟩)=b4 at a20 ⊢
    refine st_val h7 (d:=21) (v:=.int .u8 ((j:Int)+1)) (w':=w4) rfl (fun o ho=>?_) ?_
    ·simp only [execOp,ho]
     refine run_val ?_
     rw [show b4.eval (.tmp 19)=_ from a20.2.2 19]
     simp [Instr.extract]
    have a21:=put 21 (.int .u8 ((j:Int)+1)) (by decide) a20
    generalize b4.put (some 21) (.int .u8 ((j:Int)+1))=b5 at a21 ⊢
    refine st_val h7 (d:=6) (v:=.string ⟨(wordM ((j:Int)+1)).toArray⟩) (w':=w4) rfl (fun o ho=>?_) ?_
    ·simp only [execOp,ho]
     rw [show b5.eval (.tmp 20)=_ from a21.2.2 20]
     rfl
    have a6:=put 6 (.string ⟨(wordM ((j:Int)+1)).toArray⟩) (by decide) a21
    generalize b5.put (some 6) (.string ⟨(wordM ((j:Int)+1)).toArray⟩)=b6 at a6 ⊢
    refine st_val h7 (d:=7) (v:=.int .u8 ((j:Int)+1)) (w':=w4) rfl (fun o ho=>?_) ?_
    ·simp only [execOp,ho]
     rw [show b6.eval (.tmp 21)=_ from a6.2.2 21]
     rfl
    have a7:=put 7 (.int .u8 ((j:Int)+1)) (by decide) a6
    generalize b6.put (some 7) (.int .u8 ((j:Int)+1))=b7 at a7 ⊢
    show Code.wp P _ _ b7 w4
    refine wp_seq (wp_region ?_)
    rw [h8.size]
    show wpOps P ops8 _ [0,1,2,3] _ _
    refine st_val h8 (d:=22) (v:=.int .u8 ((j:Int)+1)) (w':=w4) rfl (fun o ho=>?_) ?_
    ·simp only [execOp,ho]
     rw [show b7.eval (.tmp 7)=_ from a7.2.2 7]
     rfl
    have a22:=put 22 (.int .u8 ((j:Int)+1)) (by decide) a7
    generalize b7.put (some 22) (.int .u8 ((j:Int)+1))=b8 at a22 ⊢
    have hp1:R G (.p kk v 0) (tv b8 1):=by
     rw [a22.2.2 1,← q1]
     exact i3 1 (by decide) (by decide)
    obtain ⟨ti,hti,hsz5,_⟩:=(hT t5 i5' hi5).ti
    obtain ⟨va,hva,hRa⟩:=fad_ok (P:=P) (w:=w4) hst hf0 hti (by omega) (x:=.p kk v 0) (r:=.p kk v (0+0)) rfl hp1
    refine st_val h8 (d:=23) (v:=va) (w':=w4) rfl (fun o ho=>?_) ?_
    ·simp only [execOp,ho]
     exact run_val hva
    have a23:=put 23 va (by decide) a22
    generalize b8.put (some 23) va=b9 at a23 ⊢
    obtain ⟨vl,hvl,hRl⟩:=aload_ok (P:=P) hrel (hT t5 i5' hi5) (fun _=>hi5s) (x:=.p kk v (0+0)) (r:=.i .u8 n) (by rw [hi5s,hi5a];simp [aload,qb,ofCells]) hRa
    refine st_val h8 (d:=24) (v:=.int .u8 n) (w':=w4) rfl (fun o ho=>?_) ?_
    ·simp only [execOp,ho]
     refine run_val ?_
     rw [show b9.eval (.tmp 23)=va from a23.2.2 23,← hRl.int_inv]
     exact hvl
    have a24:=put 24 (.int .u8 n) (by decide) a23
    generalize b9.put (some 24) (.int .u8 n)=b10 at a24 ⊢
    refine st_val h8 (d:=25) (v:=.bool (((j:Int)+1)==n)) (w':=w4) rfl (fun o ho=>?_) ?_
    ·simp only [execOp,ho]
     refine run_val ?_
     rw [show b10.eval (.tmp 22)=.int .u8 ((j:Int)+1) from a24.2.2 22,show b10.eval (.tmp 24)=.int .u8 n from a24.2.2 24]
     simp only [Sem.run_bind,eqGuard_int,Result.andThen_ok]
     simp [binOp,Op.intCmp]
    have a25:=put 25 (.bool (((j:Int)+1)==n)) (by decide) a24
    generalize b10.put (some 25) (.bool (((j:Int)+1)==n))=b11 at a25 ⊢
    show Code.wp P _ _ b11 w4
    have hcp:=cur_push (n:=n) (seen:=seen) hj
    have next :∀(f:Nat→Value) (b':Act),A f b'→(∀t,t≠5→hwSlots.contains t=false→f t=tv b11 t)→f 16=.pointer (some ⟨r,0,none⟩)→f 5=.string ⟨(curOf n (seen.push j)).toArray⟩→Code.rounds P (.seq (.region 6 ops6 false) (.seq (.cond (.tmp 18) .skip (.exit 0)) (.block 1 (.seq (.region 7 ops7 false) (.seq (.region 8 ops8 false) (.cond (.tmp 25) (.region 9 ops9 false) .skip)))))) (Exit.inBlock 0 Q) m b' w4:=by
     rintro f b' ⟨p1,p2,p3⟩ p4 p5 p6
     refine ih (seen.push j) b' w4 ⟨p1,p2,fun t h1 h2=>?_,by rw [p3];exact p5,by rw [p3];exact p6,hb3,⟨8,hr3,Nat.le_refl _⟩,hbel4⟩ (by have:(wordE j).born=j:=rfl;rw [this] at hlt;omega)
     rw [p3,p4 t h1 h2,a25.2.2 t]
     have hn :∀d,hwSlots.contains d=true→t≠d:=by rintro d hd rfl;rw [hd] at h2;cases h2
     simp only [if_neg (hn 25 rfl),if_neg (hn 24 rfl),if_neg (hn 23 rfl),if_neg (hn 22 rfl),if_neg (hn 7 rfl),if_neg (hn 6 rfl),if_neg (hn 21 rfl),if_neg (hn 20 rfl),if_neg (hn 19 rfl),if_neg (hn 18 rfl),if_neg (hn 17 rfl)]
     exact i3 t h1 h2
    cases hq:(((j:Int)+1)==n) with
    | false=>
     refine wp_cond_false ?_ (wp_skip ?_)
     ·rw [← hq];exact a25.2.2 25
     ·refine next _ b11 ⟨a25.1,a25.2.1,fun _=>rfl⟩ (fun _ _ _=>rfl) ((a25.2.2 16).trans i4) ?_
      rw [hcp,if_neg (by rw [Bool.not_eq_true];simp only [beq_eq_false_iff_ne,ne_eq] at hq ⊢;exact fun h=>hq h.symm)]
      exact (a25.2.2 5).trans i5
    | true=>
     refine wp_cond_true ?_ (wp_region ?_)
     ·rw [← hq];exact a25.2.2 25
     rw [h9.size]
     show wpOps P ops9 _ [0,1] _ _
     refine st_val h9 (d:=26) (v:=.string ⟨(wordM ((j:Int)+1)).toArray⟩) (w':=w4) rfl (fun o ho=>?_) ?_
     ·simp only [execOp,ho]
      rw [show b11.eval (.tmp 6)=_ from a25.2.2 6]
      rfl
     have a26:=put 26 (.string ⟨(wordM ((j:Int)+1)).toArray⟩) (by decide) a25
     have e26 :∀t,t≠26→tv (b11.put (some 26) (.string ⟨(wordM ((j:Int)+1)).toArray⟩)) t=tv b11 t:=fun t ht=>by rw [tv_put _ _ _ _ (by have:=a25.2.1;omega),if_neg ht]
     generalize b11.put (some 26) (.string ⟨(wordM ((j:Int)+1)).toArray⟩)=b12 at a26 e26 ⊢
     refine st_val h9 (d:=5) (v:=.string ⟨(wordM ((j:Int)+1)).toArray⟩) (w':=w4) rfl (fun o ho=>?_) ?_
     ·simp only [execOp,ho]
      rw [show b12.eval (.tmp 26)=_ from a26.2.2 26]
      rfl
     have a5:=put 5 (.string ⟨(wordM ((j:Int)+1)).toArray⟩) (by decide) (show A (tv b12) b12 from ⟨a26.1,a26.2.1,fun _=>rfl⟩)
     generalize b12.put (some 5) (.string ⟨(wordM ((j:Int)+1)).toArray⟩)=b13 at a5 ⊢
     refine next _ b13 a5 (fun t h1 h2=>?_) ?_ ?_
     ·have n26:t≠26:=by rintro rfl;simp [hwSlots] at h2
      show (if t=5 then _ else tv b12 t)=_
      rw [if_neg h1,e26 t n26]
     ·show (if (16:Nat)=5 then _ else tv b12 16)=_
      rw [if_neg (by decide),e26 16 (by decide)]
      exact (a25.2.2 16).trans i4
     ·show (if (5:Nat)=5 then _ else tv b12 5)=_
      rw [if_pos rfl,hcp,if_pos (by simp only [beq_iff_eq] at hq ⊢;exact hq.symm)]
 exact rounds 9 #[] a1 w2 init (left_le _)
end
end Go.AM

/- Parts of the proof. -/
namespace Go.AM
open Go
set_option linter.unusedVariables false
set_option linter.unusedSimpArgs false
set_option maxRecDepth 4000
attribute [local irreducible] WO fillCells fillRows
def r243_0:List AI:=[oY 1 5 0,oC 2 (.s []),oI 3 0]
def r243_1:List AI:=[oK 10 5 1,oQ 11 247 [10],oM 4 11]
def r243_2:List AI:=[oM 12 4,oV 13 .neq 12 0]
def r243_3:List AI:=[oM 14 4,oC 2 (.s []),oM 3 14]
def r243_4:List AI:=[oC 5 (.s [])]
def r243_5:List AI:=[oF 27 0 1,oL 28 27]
def r243_6:List AI:=[oW 36 .eql 28 1,oM 35 36]
def r243_7:List AI:=[oW 38 .eql 28 3,oM 37 38]
def r243_8:List AI:=[oM 39 5,oF 40 1 1,oL 41 40,oQ 42 258 [41],oB 43 .add (.c (.s [32])) (.t 42),oB 44 .add (.t 43) (.c (.s [32])),oF 45 2 1,oL 46 45,oQ 47 258 [46],oT 48 .add 44 47,oT 49 .add 39 48,oM 5 49]
def r243_9:List AI:=[oW 51 .eql 28 6,oM 50 51]
def r243_10:List AI:=[oM 52 5,oF 53 3 1,oL 54 53,oQ 55 15 [54],oB 56 .add (.c (.s [32])) (.t 55),oT 57 .add 52 56,oM 5 57]
def r243_11:List AI:=[oW 59 .eql 28 7,oM 58 59]
def r243_12:List AI:=[oW 60 .eql 28 8,oM 58 60]
def r243_13:List AI:=[oF 62 4 1,oL 63 62,oQ 64 11 [63],oM 61 64,oE 65 0 61,oE 66 1 61,oM 8 65,oM 9 66]
def r243_14:List AI:=[oM 67 9,oV 68 .neq 67 0]
def r243_15:List AI:=[oM 69 9,oC 2 (.s []),oM 3 69]
def r243_16:List AI:=[oM 70 5,oM 71 8,oB 72 .add (.c (.s [32])) (.t 71),oT 73 .add 70 72,oM 5 73]
def r243_17:List AI:=[oM 29 5,oF 30 1 1,oL 31 30,oQ 32 258 [31],oB 33 .add (.c (.s [32])) (.t 32),oT 34 .add 29 33,oM 5 34]
def r243_18:List AI:=[oM 74 5,oM 2 74,oI 3 0]
abbrev c243_0:AC:=(.cond (.t 58) (sR 19 r243_13 (.seq (sR 20 r243_14 (.cond (.t 68) (sR 21 r243_15 .ret) .skip)) (.reg 22 r243_16))) (.reg 11 r243_17))
abbrev c243_1:AC:=(sR 23 r243_18 .ret)
abbrev c243_2:AC:=(sR 4 r243_4 (.seq (.hand hw243) (.seq (sR 10 r243_5 (.block 2 (sR 12 r243_6 (.cond (.t 35) .skip (sR 13 r243_7 (.cond (.t 37) (.reg 14 r243_8) (sR 15 r243_9 (.cond (.t 50) (.reg 16 r243_10) (.seq (sR 17 r243_11 (.cond (.t 58) .skip (.reg 18 r243_12))) c243_0))))))))) c243_1)))
abbrev c243_3:AC:=(.seq (sR 1 r243_1 (sR 2 r243_2 (.cond (.t 13) (sR 3 r243_3 .ret) .skip))) c243_2)
abbrev b243:AC:=(sR 0 r243_0 c243_3)
def pf243:AF:={ nt:=75,res:=[.tmp 2,.tmp 3],body:=b243 }
def T243_3 (prog:Prog)(K:BS→Int→Prop)(s5:BS):Prop:=
  K s5 0
def T243_4 (prog:Prog)(K:BS→Int→Prop)(s5:BS)(t58:Bool)(m0:Qry):Prop:=
  (t58=true→∃c:BS,∃j,Pus prog 11 [.s m0.name] (.tup [.s c,.i .i64 j])∧(j≠0→K ([]:BS) j)∧(¬(j≠0)→([32]:BS).length+c.length≤maxStr∧s5.length+(([32]:BS)++c).length≤maxStr∧T243_3 prog K (s5++(([32]:BS)++c))))∧(t58=false→∃e:BS,Pus prog 258 [.i .i64 m0.g] (.s e)∧([32]:BS).length+e.length≤maxStr∧s5.length+(([32]:BS)++e).length≤maxStr∧T243_3 prog K (s5++(([32]:BS)++e)))
def T243_2 (prog:Prog)(K:BS→Int→Prop)(m0:Qry):Prop:=
  (m0.kind=1→T243_3 prog K (wordM m0.kind))∧(¬(m0.kind=1)→(m0.kind=3→∃c:BS,Pus prog 258 [.i .i64 m0.g] (.s c)∧([32]:BS).length+c.length≤maxStr∧(([32]:BS)++c).length+([32]:BS).length≤maxStr∧∃e:BS,Pus prog 258 [.i .i64 m0.k] (.s e)∧((([32]:BS)++c)++([32]:BS)).length+e.length≤maxStr∧(wordM m0.kind).length+(((([32]:BS)++c)++([32]:BS))++e).length≤maxStr∧T243_3 prog K ((wordM m0.kind)++(((([32]:BS)++c)++([32]:BS))++e)))∧(¬(m0.kind=3)→(m0.kind=6→∃j:BS,Pus prog 15 [.i .i64 m0.key] (.s j)∧([32]:BS).length+j.length≤maxStr∧(wordM m0.kind).length+(([32]:BS)++j).length≤maxStr∧T243_3 prog K ((wordM m0.kind)++(([32]:BS)++j)))∧(¬(m0.kind=6)→(m0.kind=7→T243_4 prog K (wordM m0.kind) (decide (m0.kind=7)) m0)∧(¬(m0.kind=7)→T243_4 prog K (wordM m0.kind) (decide (m0.kind=8)) m0))))
def T243_1 (prog:Prog)(K:BS→Int→Prop)(m0:Qry):Prop:=
  ∃c,Pus prog 247 [m0.av] (.i .i64 c)∧(c≠0→K ([]:BS) c)∧(¬(c≠0)→T243_2 prog K m0)
def T243_0 (prog:Prog)(K:BS→Int→Prop)(q0:Qry):Prop:=
  T243_1 prog K q0
section
variable {prog:Prog}{d:Nat}{Q:AE→Sl→St→Prop}{K:BS→Int→Prop}(hQ:H2 AV.s (AV.i .i64) 2 3 Q K){σ:Sl}{st:St}
include hQ
variable {s5:BS}{t58:Bool}{m0:Qry}{v0:Nat}{q0:Qry}
variable (H1:σ 1=.p (d,0) v0 0)(H0:σ 0=q0.av)(H5:σ 5=.s s5)(H58:σ 58=.b t58)(B0:lk st.bx (d,0)=some (v0,[.i .u8 m0.kind,.i .i64 m0.g,.i .i64 m0.k,.i .i64 m0.key,.s m0.name]))
include H5 in
theorem w243_3 (h:T243_3 prog K s5):W prog d c243_1 σ st Q:=
 q_ J (m_ (m_ (m_ (er_ (hQ H5 J h)))))
include H1 H5 H58 B0 in
theorem w243_4 (h:T243_4 prog K s5 t58 m0):W prog d c243_0 σ st (blockW 2 (thenW prog d c243_1 Q)):=
 cb_ H58 (fun j=>q_ J (f_ H1 (l_ J B0 J J (x2 (h.1 j) fun _ _ c=>ca_ (sc1 J J) c.1 (m_ (x_ J J (x_ J J (m_ (m_ (e_ (sq_ (q_ J (m_ (b_ J J neq_ (e_ (cs_ J (fun e=>q_ J (m_ (m_ (m_ (er_ (hQ J J (c.2.1 e))))))) (fun e=>sk_ (W.reg0 J fun _ _=>m_ (m_ (b_ J J (abin_cat' (c.2.2 e).1) (b_ H5 J (abin_cat' (c.2.2 e).2.1) (m_ (e_ (w243_3 hQ J (c.2.2 e).2.2)))))))))))))))))))))))) (fun j=>W.reg0 J fun _ _=>m_ (f_ H1 (l_ J B0 J J ((h.2 j).elim fun _ i=>ca_ (sc1 J J) i.1 (b_ J J (abin_cat' i.2.1) (b_ H5 J (abin_cat' i.2.2.1) (m_ (e_ (w243_3 hQ J i.2.2.2)))))))))
include H1 B0 in
theorem w243_2 (h:T243_2 prog K m0):W prog d c243_2 σ st Q:=
 q_ J (m_ (e_ (sq_ (W.hand (hw243_eq H1 J B0) (sq_ (q_ J (f_ H1 (l_ J B0 J J (e_ (bk_ (q_ J (b_ J J eql_ (m_ (e_ (cs_ J (fun c=>sk_ (w243_3 hQ J (h.1 c))) (fun c=>q_ J (b_ J J eql_ (m_ (e_ (cs_ J (fun e=>W.reg0 J fun _ _=>m_ (f_ H1 (l_ J B0 J J (((h.2 c).1 e).elim fun _ i=>ca_ (sc1 J J) i.1 (b_ J J (abin_cat' i.2.1) (b_ J J (abin_cat' i.2.2.1) (f_ H1 (l_ J B0 J J (i.2.2.2.elim fun _ j=>ca_ (sc1 J J) j.1 (b_ J J (abin_cat' j.2.1) (b_ J J (abin_cat' j.2.2.1) (m_ (e_ (w243_3 hQ J j.2.2.2)))))))))))))) (fun e=>q_ J (b_ J J eql_ (m_ (e_ (cs_ J (fun o=>W.reg0 J fun _ _=>m_ (f_ H1 (l_ J B0 J J ((((h.2 c).2 e).1 o).elim fun _ k=>ca_ (sc1 J J) k.1 (b_ J J (abin_cat' k.2.1) (b_ J J (abin_cat' k.2.2.1) (m_ (e_ (w243_3 hQ J k.2.2.2))))))))) (fun o=>sq_ (q_ J (b_ J J eql_ (m_ (e_ (cs_ J (fun p=>sk_ (w243_4 hQ H1 J J B0 ((((h.2 c).2 e).2 o).1 p))) (fun p=>W.reg0 J fun _ _=>b_ J J eql_ (m_ (e_ (w243_4 hQ H1 J J B0 ((((h.2 c).2 e).2 o).2 p))))))))))))))))))))))))))))))))))))
include H1 B0 in
theorem w243_1 (h:T243_1 prog K m0):W prog d c243_3 σ st Q:=
 sq_ (q_ J (l_ H1 B0 J J (h.elim fun _ c=>ca_ (sc1 J J) c.1 (m_ (e_ (q_ J (m_ (b_ J J neq_ (e_ (cs_ J (fun e=>q_ J (m_ (m_ (m_ (er_ (hQ J J (c.2.1 e))))))) (fun e=>sk_ (w243_2 hQ H1 B0 (c.2.2 e)))))))))))))
include H0 in
theorem w243_0 (h:T243_0 prog K q0):W prog d (sR 0 r243_0 c243_3) σ st Q:=
 q_ J (s_box H0 J (m_ (m_ (e_ (w243_1 hQ J lk_here h)))))
end
theorem p243 {prog:Prog}(hf:prog.fn 243=some pf243){q0:Qry}{K:BS→Int→Prop}(h:T243_0 prog K q0) :∃res0:BS,∃res1:Int,K res0 res1∧Pus prog 243 [q0.av] (.tup [.s res0,.i .i64 res1]):=
 P2 hf J (w243_0 (h2 J fun _ _=>J) J h)
end Go.AM

/- Parts of the proof. -/
namespace Go.AM
open Go
structure Dsk where
 image:Img
 state:Sta
 query:Qry
 out:List (List UInt8)
def AppD (ow:Ows) (o:Own) (n:Nat):Prop:=
 match o with
 | .ext=>False
 | .full=>True
 | .id k v=>(lk ow k=some (v,n)∧0<n)∧midSite≤k.2∧k.2<bigSite
theorem AppD.app {ow:Ows} {o:Own} {n:Nat} (h:AppD ow o n):App ow o n:=by
 cases o with
 | ext=>exact h
 | full=>exact h
 | id k v=>exact h.1
abbrev Dsk.fix (m:Dsk):List AV:=[.sl .ext (List.map Typ.row m.image.types),.sl .ext (List.map rowS m.image.texts),.sl .ext (List.map Fun.row m.image.funcs),.i .u8 m.state.outcome,.i .i64 m.state.failing,.i .i64 m.state.steps,.sl .ext (List.map Rou.row m.state.routines),.i .u8 m.query.kind,.i .i64 m.query.g,.i .i64 m.query.k,.i .i64 m.query.key,.s m.query.name]
def Dk (m:Dsk):BC:=fun bx ow k v=>∃o,lk bx k=some (v,m.fix++[.sl o (List.map rowS m.out)])∧AppD ow o m.out.length
theorem Dk.other {m:Dsk} {bx:Bxs} {ow:Ows} {k q:Key} {v:Nat} {a:Nat × List AV} (hn:q≠k) (h:Dk m bx ow k v):Dk m (st_ bx q a) ow k v:=by
 obtain ⟨o,h1,h2⟩:=h
 exact ⟨o,by rw [lk_ne hn];exact h1,h2⟩
theorem Dk.out {m:Dsk}:Out (Dk m):=fun d bx ow k v hk ⟨o,h1,h2⟩=>⟨o,by rw [lk_out hk];exact h1,h2⟩
theorem Dk.new {m:Dsk} {bx:Bxs} {ow:Ows} {k:Key} {v:Nat} {cs:List AV} (h:lk bx k=some (v,cs)) (hc:cs=m.fix++[.sl .full (List.map rowS m.out)]):Dk m bx ow k v:=⟨.full,by rw [← hc];exact h,trivial⟩
def ApS (S:List Nat) (d:Nat) (ow:Ows) (o:Own) (n:Nat):Prop:=App ow o n∧∀k v,o=.id k v→k.1=d∧S.contains k.2=true
theorem ApS.full {S:List Nat} {d n:Nat} {ow:Ows}:ApS S d ow .full n:=⟨trivial,fun _ _ h=>by cases h⟩
theorem ApS.new {S:List Nat} {d n n' site:Nat} {ow ow':Ows} {o o':Own} (h:ApS S d ow o n) (a:App ow' o' n') (he:ownKey o'=ownKey o∨ownKey o'=some (d,site)) (hs:S.contains site=true):ApS S d ow' o' n':=by
 refine ⟨a,fun k v e=>?_⟩
 subst e
 rcases he with he | he
 ·cases o with
  | ext=>cases he
  | full=>cases he
  | id k' v'=>
   injection he with he
   subst he
   exact h.2 _ _ rfl
 ·injection he with he
  subst he
  exact ⟨rfl,hs⟩
theorem ApS.keep {S1 S2:List Nat} {d n n2 site:Nat} {ow ow':Ows} {o o2:Own} (h2:ApS S2 d ow o2 n2) (h1:ApS S1 d ow o n) (hw :∀k,some k≠ownKey o→k≠(d,site)→lk ow' k=lk ow k) (hs:S1.contains site=true) (hd:(S1.all fun x=>!S2.contains x)=true):ApS S2 d ow' o2 n2:=by
 refine ⟨?_,h2.2⟩
 have hn :∀x,S1.contains x=true→S2.contains x=false:=fun x hx=>by
  have:=List.all_eq_true.1 hd x (by simpa using hx)
  simpa using this
 cases o2 with
 | ext=>exact h2.1
 | full=>exact h2.1
 | id k v=>
  obtain ⟨e1,e2⟩:=h2.2 k v rfl
  obtain ⟨a1,a2⟩:=h2.1
  refine ⟨(hw k ?_ ?_).trans a1,a2⟩
  ·intro e
   cases o with
   | ext=>cases e
   | full=>cases e
   | id k' v'=>
    injection e with e
    subst e
    have:=hn _ (h1.2 _ _ rfl).2
    rw [e2] at this
    cases this
  ·rintro rfl
   have:=hn _ hs
   rw [e2] at this
   cases this
def PuXF (prog:Prog) (f:Nat) (B:BC) (args:Key→Nat→List AV) (RR:AV→Prop) (B':BC):Prop:=
 ∀d (st:St) (k:Key) (v:Nat),k.1<d→B st.bx st.ow k v→∃r st',Fn prog d f (.p k v 0::args k v) st r st'∧RR r∧B' st'.bx st'.ow k v∧Fr d k st.bx st.ow st'.bx st'.ow
def PuXFK {β:Type} (prog:Prog) (f:Nat) (B:BC) (args:Key→Nat→List AV) (KK:AV→β→Prop) (B':β→BC):Prop:=
 ∀d (st:St) (k:Key) (v:Nat),k.1<d→B st.bx st.ow k v→∃r st' b,Fn prog d f (.p k v 0::args k v) st r st'∧KK r b∧B' b st'.bx st'.ow k v∧Fr d k st.bx st.ow st'.bx st'.ow
theorem PuXFK.to {β:Type} {prog:Prog} {f:Nat} {B:BC} {args:Key→Nat→List AV} {KK:AV→β→Prop} {B':β→BC} {RR:AV→Prop} {b:β} (h:PuXFK prog f B args KK B') (hk :∀r b',KK r b'→RR r∧b'=b):PuXF prog f B args RR (B' b):=by
 intro d st k v h1 h2
 obtain ⟨r,st',b',h3,h4,h5,h6⟩:=h d st k v h1 h2
 obtain ⟨h7,rfl⟩:=hk r b' h4
 exact ⟨r,st',h3,h7,h5,h6⟩
theorem PuXFK.of {β:Type} {prog:Prog} {f:Nat} {F:AF} {B:BC} {B':β→BC} {args:Key→Nat→List AV} {KK:AV→β→Prop} (hf:prog.fn f=some F) (hn :∀k v,Nat.ble ((args k v).length+1) F.nt=true) (ho :∀b,Out (B' b))
  (h :∀(d:Nat) (st:St) (k:Key) (v:Nat),k.1<d→B st.bx st.ow k v→W prog d F.body (sl0 (.p k v 0::args k v)) st fun e σ st'=>(e=.normal∨e=.ret)∧∃r b,ares σ st' F.res=some r∧KK r b∧B' b st'.bx st'.ow k v∧Fr d k st.bx st.ow st'.bx st'.ow):PuXFK prog f B args KK B':=by
 intro d st k v hk hB
 obtain ⟨r,st',h1,b,h2,h3,h4⟩:=Fn.of' (prog:=prog) (K:=fun r st'=>∃b,KK r b∧B' b st'.bx st'.ow k v∧Fr d k st.bx st.ow st'.bx st'.ow) hf (by simpa using Nat.le_of_ble_eq_true (hn k v)) ((h d st k v hk hB).mono fun e σ st' hq=>by
  obtain ⟨he,r,b,h1,h2,h3,h4⟩:=hq
  rcases he with rfl | rfl
  ·exact ⟨r,h1,b,h2,ho b d _ _ k v hk h3,h4.out⟩
  ·exact ⟨r,h1,b,h2,ho b d _ _ k v hk h3,h4.out⟩)
 exact ⟨r,st',b,h1,h2,h3,h4⟩
def PuV (prog:Prog) (f:Nat) (B:BC) (RR:AV→Prop) (B':BC):Prop:=
 ∀d (st:St) (q:Key) (u:Nat) (k:Key) (v:Nat),q.1<d→k.1<d→lk st.bx q=some (u,[.p k v 0])→B st.bx st.ow k v→∃r st',Fn prog d f [.p q u 0] st r st'∧RR r∧B' st'.bx st'.ow k v∧Fr d k st.bx st.ow st'.bx st'.ow
section
variable {prog:Prog} {d id base i:Nat} {σ:Sl} {st:St} {K:Sl→St→Prop} {r:List AI} {t:Option Nat} {x y:Opd}
theorem s_loadD {m:Dsk} {n o v:Nat} {agg:Bool} {k:Key} {w:AV} (hx:x.ev σ=.p k v o) (hB:Dk m st.bx st.ow k v) (hn:Nat.ble (o+n) 12=true) (hv:ofCells agg ((m.fix.drop o).take n)=some w) (h:WO prog d id base (i+1) r (upO σ t w) st K):WO prog d id base i (⟨t,.load n agg x,none⟩::r) σ st K:=by
 obtain ⟨q,hb,_⟩:=hB
 have hn:=Nat.le_of_ble_eq_true hn
 refine s_loadP hx hb (by rw [Nat.ble_eq];simp;omega) ?_ h
 rw [← hv,List.drop_append_of_le_length (by simp;omega),List.take_append_of_le_length (by simp;omega)]
theorem s_loadO {m:Dsk} {v:Nat} {k:Key} (hx:x.ev σ=.p k v 12) (hB:Dk m st.bx st.ow k v) (h :∀o,WO prog d id base (i+1) r (upO σ t (.sl o (List.map rowS m.out))) st K):WO prog d id base i (⟨t,.load 1 false x,none⟩::r) σ st K:=by
 obtain ⟨q,hb,_⟩:=hB
 exact s_loadP hx hb rfl rfl (h q)
theorem s_callXF {f:Nat} {args:List Opd} {vs:Key→Nat→List AV} {B B':BC} {F:AV} {k:Key} {v:Nat} (hs:evs σ args=.p k v 0::vs k v) (hp:PuXF prog f B vs (fun r=>r=F) B') (hk:k.1<d+1) (hB:B st.bx st.ow k v)
  (h :∀st':St,B' st'.bx st'.ow k v→Fr (d+1) k st.bx st.ow st'.bx st'.ow→WO prog d id base (i+1) r (upO σ t F) st' K):WO prog d id base i (⟨t,.call true f args,none⟩::r) σ st K:=by
 refine s_one ?_
 obtain ⟨r',st',h1,rfl,h3,h4⟩:=hp (d+1) st k v hk hB
 rw [WOp_callp,hs]
 exact ⟨_,_,h1,h st' h3 h4⟩
theorem s_callB {f:Nat} {args:List Opd} {vs:List AV} {B B':BC} {F:AV} {k:Key} {v:Nat} (hx:x.ev σ=.bf f [.p k v 0]) (hs:evs σ args=vs) (hp:PuX prog f B vs (fun r=>r=F) B') (hk:k.1<d+1) (hB:B st.bx st.ow k v)
  (h :∀st':St,B' st'.bx st'.ow k v→Fr (d+1) k st.bx st.ow st'.bx st'.ow→WO prog d id base (i+1) r (upO σ t F) st' K):WO prog d id base i (⟨t,.callv x args,none⟩::r) σ st K:=by
 refine s_one ?_
 obtain ⟨r',st',h1,rfl,h3,h4⟩:=hp (d+1) st k v hk hB
 show onCv (x.ev σ) (evs σ args) (fun g l=>WF prog (d+1) g l st _)
 rw [hx,hs]
 exact ⟨_,_,h1,h st' h3 h4⟩
theorem s_callVV {f:Nat} {B B':BC} {F:AV} {q k:Key} {u v:Nat} (hx:x.ev σ=.fn f [.p q u 0]) (hp:PuV prog f B (fun r=>r=F) B') (hq:q.1<d+1) (hk:k.1<d+1) (hb:lk st.bx q=some (u,[.p k v 0])) (hB:B st.bx st.ow k v)
  (h :∀st':St,B' st'.bx st'.ow k v→Fr (d+1) k st.bx st.ow st'.bx st'.ow→WO prog d id base (i+1) r (upO σ t F) st' K):WO prog d id base i (⟨t,.callv x [],none⟩::r) σ st K:=by
 refine s_one ?_
 obtain ⟨r',st',h1,rfl,h3,h4⟩:=hp (d+1) st q u k v hq hk hb hB
 show onCv (x.ev σ) (evs σ []) (fun g l=>WF prog (d+1) g l st _)
 rw [hx]
 exact ⟨_,_,h1,h st' h3 h4⟩
end
end Go.AM
