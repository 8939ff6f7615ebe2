/- Parts of the proof: U40c, U40d, U40e, U40f, U40g, U40h, U40k, U40m, K40z, C30, C30b. -/
import Derived.Test.YtheacfnopahmjaaGreatDoorG2
import Derived.Test.YtheacfnopahmjaaGreatDoorRows
import Derived.Test.YtheacfnopahmjaaGreatDoorG3
import Derived.Test.YtheacfnopahmjaaGreatDoorG4
import Derived.Shelf.Strings.Builder1
import Derived.Shelf.Strings.Split
import Derived.Shelf.Strings.Cut
set_option linter.all false
namespace Go.AM
open Go
set_option linter.unusedVariables false
set_option linter.unusedSimpArgs false
set_option maxRecDepth 4000
set_option maxHeartbeats 2000000
attribute [local irreducible] Decidable.decide W WO fillCells fillRows
def r234_0:List AI:=[oY 2 3 0,oY 3 8 1,oC 4 (.s []),oI 5 0]
def r234_1:List AI:=[oF 12 2 2,oL 13 12,oF 14 1 3,oL 15 14,oX 16 7 13 15,oF 17 0 16,oL 18 17,oQ 19 11 [18],oM 11 19,oE 20 0 11,oE 21 1 11,oM 6 20,oM 7 21]
def r234_2:List AI:=[oM 22 7,oV 23 .neq 22 0]
def r234_3:List AI:=[oM 24 7,oC 4 (.s []),oM 5 24]
def r234_4:List AI:=[oF 25 0 3,oL 26 25,oQ 27 216 [26],oB 28 .add (.c (.s [100,101,102,101,114,32])) (.t 27),oB 29 .add (.t 28) (.c (.s [32])),oF 30 1 3,oL 31 30,oQ 32 216 [31],oT 33 .add 29 32,oB 34 .add (.t 33) (.c (.s [32])),oM 35 6,oT 36 .add 34 35,oM 8 36]
def r234_5:List AI:=[oF 37 2 3,oL 38 37]
def r234_6:List AI:=[oF 40 3 3,oK 41 5 40,oQ 42 72 [41],oM 39 42,oE 43 0 39,oE 44 1 39,oM 9 43,oM 10 44]
def r234_7:List AI:=[oM 45 10,oV 46 .neq 45 0]
def r234_8:List AI:=[oM 47 10,oC 4 (.s []),oM 5 47]
def r234_9:List AI:=[oM 48 8,oM 49 9,oB 50 .add (.c (.s [32,119,105,116,104,32])) (.t 49),oT 51 .add 48 50,oM 8 51]
def r234_10:List AI:=[oM 52 8,oM 4 52,oI 5 0]
abbrev c234_0:AC:=(sR 10 r234_10 .ret)
abbrev b234:AC:=(sR 0 r234_0 (sR 1 r234_1 (.seq (sR 2 r234_2 (.cond (.t 23) (sR 3 r234_3 .ret) .skip)) (sR 4 r234_4 (.seq (sR 5 r234_5 (.cond (.t 38) (sR 6 r234_6 (.seq (sR 7 r234_7 (.cond (.t 46) (sR 8 r234_8 .ret) .skip)) (.reg 9 r234_9))) .skip)) c234_0)))))
def pf234:AF:={ nt:=53,res:=[.tmp 4,.tmp 5],body:=b234 }
def T234_1 (prog:Prog)(K:BS→Int→Prop)(s8:BS):Prop:=
  K s8 0
def T234_0 (prog:Prog)(K:BS→Int→Prop)(m0:Img)(d1:Dfr):Prop:=
  0≤d1.func∧∃q:Fun,m0.funcs[(d1.func).toNat]?=some q∧∃j:BS,∃k,Pus prog 11 [.s q.name] (.tup [.s j,.i .i64 k])∧(k≠0→K ([]:BS) k)∧(¬(k≠0)→∃c:BS,Pus prog 216 [.i .i64 d1.frame] (.s c)∧([100,101,102,101,114,32]:BS).length+c.length≤maxStr∧(([100,101,102,101,114,32]:BS)++c).length+([32]:BS).length≤maxStr∧∃e:BS,Pus prog 216 [.i .i64 d1.func] (.s e)∧((([100,101,102,101,114,32]:BS)++c)++([32]:BS)).length+e.length≤maxStr∧(((([100,101,102,101,114,32]:BS)++c)++([32]:BS))++e).length+([32]:BS).length≤maxStr∧((((([100,101,102,101,114,32]:BS)++c)++([32]:BS))++e)++([32]:BS)).length+j.length≤maxStr∧(d1.hasArg=true→∃p:BS,∃o,Pus prog 72 [d1.arg.av] (.tup [.s p,.i .i64 o])∧(o≠0→K ([]:BS) o)∧(¬(o≠0)→([32,119,105,116,104,32]:BS).length+p.length≤maxStr∧(((((([100,101,102,101,114,32]:BS)++c)++([32]:BS))++e)++([32]:BS))++j).length+(([32,119,105,116,104,32]:BS)++p).length≤maxStr∧T234_1 prog K ((((((([100,101,102,101,114,32]:BS)++c)++([32]:BS))++e)++([32]:BS))++j)++(([32,119,105,116,104,32]:BS)++p))))∧(d1.hasArg=false→T234_1 prog K (((((([100,101,102,101,114,32]:BS)++c)++([32]:BS))++e)++([32]:BS))++j)))
section
variable {prog:Prog}{d:Nat}{Q:AE→Sl→St→Prop}{K:BS→Int→Prop}(hQ:H2 AV.s (AV.i .i64) 4 5 Q K){σ:Sl}{st:St}
include hQ
variable {s8:BS}{m0:Img}{d1:Dfr}
variable (H8:σ 8=.s s8)(H0:σ 0=m0.av)(H1:σ 1=d1.av)
include H8 in
theorem w234_1 (h:T234_1 prog K s8):W prog d c234_0 σ st Q:=
 au trivial
include H0 H1 in
theorem w234_0 (h:T234_0 prog K m0 d1):W prog d (sR 0 r234_0 (sR 1 r234_1 (.seq (sR 2 r234_2 (.cond (.t 23) (sR 3 r234_3 .ret) .skip)) (sR 4 r234_4 (.seq (sR 5 r234_5 (.cond (.t 38) (sR 6 r234_6 (.seq (sR 7 r234_7 (.cond (.t 46) (sR 8 r234_8 .ret) .skip)) (.reg 9 r234_9))) .skip)) c234_0))))) σ st Q:=
 au @w234_1
end
theorem p234 {prog:Prog}(hf:prog.fn 234=some pf234){m0:Img}{d1:Dfr}{K:BS→Int→Prop}(h:T234_0 prog K m0 d1) :∃res0:BS,∃res1:Int,K res0 res1∧Pus prog 234 [m0.av,d1.av] (.tup [.s res0,.i .i64 res1]):=
 P2 hf J (w234_0 (h2 J fun _ _=>J) J J h)
def r220_0:List AI:=[oY 2 3 0,oY 3 5 1,oC 4 (.sl .full []),oI 5 0]
def r220_1:List AI:=[oC 6 (.sl .full [])]
def r220_2:List AI:=[oF 19 2 3,oL 20 19,oJ 21 20,oI 22 0]
def r220_3:List AI:=[oT 23 .lss 22 21]
def r220_4:List AI:=[oM 24 22,oX 25 4 20 22,oK 26 4 25,oO 8 (.alloc [z6,z6,z7,zl]),oM 7 24,oS 4 8 26]
def r220_5:List AI:=[oK 28 3 2,oM 29 7,oK 30 4 8,oQ 31 82 [28,29,30],oM 27 31,oE 32 0 27,oE 33 1 27,oM 9 32,oM 10 33]
def r220_6:List AI:=[oM 34 10,oV 35 .neq 34 0]
def r220_7:List AI:=[oM 36 10,oC 4 (.sl .full []),oM 5 36]
def r220_8:List AI:=[oM 37 6,oM 38 9,oO 39 (.app 1 16 (.t 37) (.t 38)),oM 6 39]
def r220_9:List AI:=[oV 40 .add 22 1,oM 22 40]
def r220_10:List AI:=[oF 41 3 3,oL 42 41,oJ 43 42,oI 44 0]
def r220_11:List AI:=[oT 45 .lss 44 43]
def r220_12:List AI:=[oX 46 8 42 44,oK 47 8 46,oO 12 (.alloc [z6,z6,zb,z8,z6,zs,zl,zb]),oS 8 12 47]
def r220_13:List AI:=[oK 49 3 2,oK 50 8 12,oQ 51 234 [49,50],oM 48 51,oE 52 0 48,oE 53 1 48,oM 13 52,oM 14 53]
def r220_14:List AI:=[oM 54 14,oV 55 .neq 54 0]
def r220_15:List AI:=[oM 56 14,oC 4 (.sl .full []),oM 5 56]
def r220_16:List AI:=[oM 57 6,oM 58 13,oO 59 (.bslice [zs] 1 [(0,(.t 58))]),oO 60 (.app 1 16 (.t 57) (.t 59)),oM 6 60]
def r220_17:List AI:=[oV 61 .add 44 1,oM 44 61]
def r220_18:List AI:=[oF 62 4 3,oL 63 62,oJ 64 63,oI 65 0]
def r220_19:List AI:=[oT 66 .lss 65 64]
def r220_20:List AI:=[oX 67 7 63 65,oK 68 7 67,oO 16 (.alloc [z7,z8,z6,zs,zl,zb,z7]),oS 7 16 68]
def r220_21:List AI:=[oK 70 7 16,oQ 71 154 [70],oM 69 71,oE 72 0 69,oE 73 1 69,oM 17 72,oM 18 73]
def r220_22:List AI:=[oM 74 18,oV 75 .neq 74 0]
def r220_23:List AI:=[oM 76 18,oC 4 (.sl .full []),oM 5 76]
def r220_24:List AI:=[oM 77 6,oM 78 17,oO 79 (.bslice [zs] 1 [(0,(.t 78))]),oO 80 (.app 1 16 (.t 77) (.t 79)),oM 6 80]
def r220_25:List AI:=[oV 81 .add 65 1,oM 65 81]
def r220_26:List AI:=[oM 82 6,oM 4 82,oI 5 0]
abbrev l220_0:AC:=(sR 3 r220_3 (.seq (.cond (.t 23) .skip (.exit 0)) (.seq (.block 1 (sR 4 r220_4 (sR 5 r220_5 (.seq (sR 6 r220_6 (.cond (.t 35) (sR 7 r220_7 .ret) .skip)) (.reg 8 r220_8))))) (.reg 9 r220_9))))
abbrev l220_1:AC:=(sR 11 r220_11 (.seq (.cond (.t 45) .skip (.exit 2)) (.seq (.block 3 (sR 12 r220_12 (sR 13 r220_13 (.seq (sR 14 r220_14 (.cond (.t 55) (sR 15 r220_15 .ret) .skip)) (.reg 16 r220_16))))) (.reg 17 r220_17))))
abbrev l220_2:AC:=(sR 19 r220_19 (.seq (.cond (.t 66) .skip (.exit 4)) (.seq (.block 5 (sR 20 r220_20 (sR 21 r220_21 (.seq (sR 22 r220_22 (.cond (.t 75) (sR 23 r220_23 .ret) .skip)) (.reg 24 r220_24))))) (.reg 25 r220_25))))
abbrev c220_3:AC:=(sR 26 r220_26 .ret)
abbrev c220_4:AC:=(.seq (sR 18 r220_18 (.block 4 (.loop l220_2))) c220_3)
abbrev c220_5:AC:=(.seq (sR 10 r220_10 (.block 2 (.loop l220_1))) c220_4)
abbrev c220_6:AC:=(.seq (sR 2 r220_2 (.block 0 (.loop l220_0))) c220_5)
abbrev c220_7:AC:=(sR 1 r220_1 c220_6)
abbrev b220:AC:=(sR 0 r220_0 c220_7)
def pf220:AF:={ nt:=83,res:=[.tmp 4,.tmp 5],body:=b220 }
abbrev I220_0 (prog:Prog)(d:Nat)(Q:AE→Sl→St→Prop)(t20:List Frm)(t21:Int)(out6:LB)(t22:Int)(m0:Img)(m1:Rou):Prop:=
  ∀(σ:Sl)(st:St) (o_out6 o_t20:Own) (v0 v1:Nat),σ 2=.p (d,0) v0 0→σ 3=.p (d,1) v1 0→σ 6=.sl o_out6 (List.map rowS out6)→σ 20=.sl o_t20 (List.map Frm.row t20)→σ 21=.i .i64 t21→σ 22=.i .i64 t22→ApM d st.ow o_out6 out6.length→lk st.bx (d,0)=some (v0,Img.cs m0)→lk st.bx (d,1)=some (v1,Rou.cs m1)→W prog d (.loop l220_0) σ st (blockW 0 (thenW prog d c220_5 Q))
abbrev I220_1 (prog:Prog)(d:Nat)(Q:AE→Sl→St→Prop)(t42:List Dfr)(t43:Int)(out6:LB)(t44:Int)(m0:Img)(m1:Rou):Prop:=
  ∀(σ:Sl)(st:St) (o_out6 o_t42:Own) (v0 v1:Nat),σ 2=.p (d,0) v0 0→σ 3=.p (d,1) v1 0→σ 6=.sl o_out6 (List.map rowS out6)→σ 42=.sl o_t42 (List.map Dfr.row t42)→σ 43=.i .i64 t43→σ 44=.i .i64 t44→ApM d st.ow o_out6 out6.length→lk st.bx (d,0)=some (v0,Img.cs m0)→lk st.bx (d,1)=some (v1,Rou.cs m1)→W prog d (.loop l220_1) σ st (blockW 2 (thenW prog d c220_4 Q))
abbrev I220_2 (prog:Prog)(d:Nat)(Q:AE→Sl→St→Prop)(t63:List Pan)(t64:Int)(out6:LB)(t65:Int):Prop:=
  ∀(σ:Sl)(st:St) (o_out6 o_t63:Own),σ 6=.sl o_out6 (List.map rowS out6)→σ 63=.sl o_t63 (List.map Pan.row t63)→σ 64=.i .i64 t64→σ 65=.i .i64 t65→ApM d st.ow o_out6 out6.length→W prog d (.loop l220_2) σ st (blockW 4 (thenW prog d c220_3 Q))
def T220_8 (prog:Prog)(K:LB→Int→Prop)(out6:LB):Prop:=
  K out6 0
def T220_7 (prog:Prog)(K:LB→Int→Prop)(P2:LB→Int→Prop)(out6:LB)(t63:List Pan)(t64:Int)(t65:Int):Prop:=
  (t65<t64→0≤t65∧∃j:Pan,t63[(t65).toNat]?=some j∧∃e c,Pus prog 154 [j.av] (.tup [.s e,.i .i64 c])∧(c≠0→K ([]:LB) c)∧(¬(c≠0)→Fit (out6.length+[e].length) 16∧P2 (out6++[e]) (IntKind.i64.wrap (t65+1))))∧(¬(t65<t64)→T220_8 prog K out6)
def T220_6 (prog:Prog)(K:LB→Int→Prop)(out6:LB)(m1:Rou):Prop:=
  ∀P2:LB→Int→Prop,(∀(out6:LB)(t65:Int),T220_7 prog K P2 out6 m1.panics (m1.panics.length:Int) t65→P2 out6 t65)→P2 out6 0
def T220_5 (prog:Prog)(K:LB→Int→Prop)(P1:LB→Int→Img→Rou→Prop)(out6:LB)(t42:List Dfr)(t43:Int)(t44:Int)(m0:Img)(m1:Rou):Prop:=
  (t44<t43→0≤t44∧∃j:Dfr,t42[(t44).toNat]?=some j∧∃e c,Pus prog 234 [m0.av,j.av] (.tup [.s e,.i .i64 c])∧(c≠0→K ([]:LB) c)∧(¬(c≠0)→Fit (out6.length+[e].length) 16∧P1 (out6++[e]) (IntKind.i64.wrap (t44+1)) m0 m1))∧(¬(t44<t43)→T220_6 prog K out6 m1)
def T220_4 (prog:Prog)(K:LB→Int→Prop)(out6:LB)(m0:Img)(m1:Rou):Prop:=
  ∀P1:LB→Int→Img→Rou→Prop,(∀(out6:LB)(t44:Int)(m0:Img)(m1_b:Rou),T220_5 prog K P1 out6 m1.defers (m1.defers.length:Int) t44 m0 m1_b→P1 out6 t44 m0 m1_b)→P1 out6 0 m0 m1
def T220_3 (prog:Prog)(K:LB→Int→Prop)(P0:LB→Int→Img→Rou→Prop)(out6:LB)(t20:List Frm)(t21:Int)(t22:Int)(m0:Img)(m1:Rou):Prop:=
  (t22<t21→0≤t22∧∃j:Frm,t20[(t22).toNat]?=some j∧∃e:LB,∃c,Pus prog 82 [m0.av,.i .i64 t22,j.av] (.tup [.sl .ext (List.map rowS e),.i .i64 c])∧(c≠0→K ([]:LB) c)∧(¬(c≠0)→Fit (out6.length+e.length) 16∧P0 (out6++e) (IntKind.i64.wrap (t22+1)) m0 m1))∧(¬(t22<t21)→T220_4 prog K out6 m0 m1)
def T220_2 (prog:Prog)(K:LB→Int→Prop)(out6:LB)(m0:Img)(m1:Rou):Prop:=
  ∀P0:LB→Int→Img→Rou→Prop,(∀(out6:LB)(t22:Int)(m0:Img)(m1_b:Rou),T220_3 prog K P0 out6 m1.frames (m1.frames.length:Int) t22 m0 m1_b→P0 out6 t22 m0 m1_b)→P0 out6 0 m0 m1
def T220_1 (prog:Prog)(K:LB→Int→Prop)(m0:Img)(m1:Rou):Prop:=
  T220_2 prog K ([]:LB) m0 m1
def T220_0 (prog:Prog)(K:LB→Int→Prop)(m0:Img)(x1:Rou):Prop:=
  T220_1 prog K m0 x1
section
variable {prog:Prog}{d:Nat}{Q:AE→Sl→St→Prop}{K:LB→Int→Prop}(hQ:HM rowS (AV.i .i64) 4 5 Q K){σ:Sl}{st:St}
include hQ
variable {out6:LB}{o_out6:Own}{t63:List Pan}{t64 t65:Int}{P2:LB→Int→Prop}{o_t63:Own}{m1:Rou}{v1:Nat}{t42:List Dfr}{t43 t44:Int}{m0:Img}{P1:LB→Int→Img→Rou→Prop}{o_t42:Own}{v0:Nat}{t20:List Frm}{t21 t22:Int}{P0:LB→Int→Img→Rou→Prop}{o_t20:Own}{x1:Rou}
variable (kP2 :∀(out6:LB)(t65:Int),P2 out6 t65→I220_2 prog d Q t63 t64 out6 t65) (kP1 :∀(out6:LB)(t44:Int)(m0:Img)(m1:Rou),P1 out6 t44 m0 m1→I220_1 prog d Q t42 t43 out6 t44 m0 m1) (kP0 :∀(out6:LB)(t22:Int)(m0:Img)(m1:Rou),P0 out6 t22 m0 m1→I220_0 prog d Q t20 t21 out6 t22 m0 m1)(H0:σ 0=m0.av)(H2:σ 2=.p (d,0) v0 0)(H1:σ 1=x1.av)(H3:σ 3=.p (d,1) v1 0)(H6:σ 6=.sl o_out6 (List.map rowS out6))(H63:σ 63=.sl o_t63 (List.map Pan.row t63))(H42:σ 42=.sl o_t42 (List.map Dfr.row t42))(H20:σ 20=.sl o_t20 (List.map Frm.row t20))(H64:σ 64=.i .i64 t64)(H43:σ 43=.i .i64 t43)(H21:σ 21=.i .i64 t21)(H65:σ 65=.i .i64 t65)(H44:σ 44=.i .i64 t44)(H22:σ 22=.i .i64 t22)(A6:ApM d st.ow o_out6 out6.length)(B0:lk st.bx (d,0)=some (v0,Img.cs m0))(B1:lk st.bx (d,1)=some (v1,Rou.cs m1))
include H6 A6 in
theorem w220_8 (h:T220_8 prog K out6):W prog d c220_3 σ st Q:=
 au trivial
include kP2 H6 H63 H64 H65 A6 in
theorem w220_7 (h:T220_7 prog K P2 out6 t63 t64 t65):W prog d l220_2 σ st (thenW prog d (.loop l220_2) (blockW 4 (thenW prog d c220_3 Q))):=
 q_ J (b_ H65 H64 lss_ (e_ (sq_ (cs_ J (fun e=>sk_ (sq_ (bk_ (sq_ (W.reg ((h.1 e).2.elim fun p k=>ia_ H63 H65 (h.1 e).1 k.1 (Pan.row_eq p) J (lf_ J J J (s_alloc (so_ J (show lk _ (d,81922)=some (_,([.i .u64 0,.i .u8 0,.i .i64 0,.s [],.sl .full (List.map Val.row ([]:List Val)),.b false,.i .u64 0]:List AV)) from lk_here) J J J (e_ (q_ J (l_ J lk_here J J (x2 k.2 fun r _ c=>ca_ (sc1 J J) c.1 (m_ (x_ J J (x_ J J (m_ (m_ (e_ (sq_ (q_ J (m_ (b_ J J neq_ (e_ (cs_ J (fun j=>q_ J (m_ (s_mvL (f:=rowS) (l:=[]) J (m_ (er_ (hQ J J (c.2.1 j))))))) (fun j=>sk_ (W.reg0 J fun _ _=>s_mvL H6 (m_ (s_bslM (f:=rowS) (l:=[r]) J J (g_cons J J J g_nil) J (s_app rowS_len J J J A6.1 (c.2.2 j).1 J (fun _ _ o _ q=>s_mvL J (e_ (W.reg0 J fun _ _=>b_ H65 J add_ (m_ (e_ (kP2 _ _ (c.2.2 j).2 _ _ _ _ J H63 H64 J (ApM.mk o (Mine.app A6.2 J q)))))))))))))))))))))))))))))))))))))) (fun e=>ex_ (w220_8 hQ H6 A6 (h.2 e)))))))
include H3 H6 A6 B1 in
theorem w220_6 (h:T220_6 prog K out6 m1):W prog d c220_4 σ st Q:=
 sq_ (q_ J (f_ H3 (l_ J B1 J J (ll_ J (m_ (e_ (bk_ (h (I220_2 prog d Q m1.panics (m1.panics.length:Int)) (fun _ _ hb _ _ _ _ H6 H63 H64 H65 A6=>W.loop (w220_7 hQ (fun _ _ x=>x) H6 H63 H64 H65 A6 hb)) _ _ _ _ H6 J J J A6))))))))
include kP1 H2 H3 H6 H42 H43 H44 A6 B0 B1 in
theorem w220_5 (h:T220_5 prog K P1 out6 t42 t43 t44 m0 m1):W prog d l220_1 σ st (thenW prog d (.loop l220_1) (blockW 2 (thenW prog d c220_4 Q))):=
 q_ J (b_ H44 H43 lss_ (e_ (sq_ (cs_ J (fun e=>sk_ (sq_ (bk_ (sq_ (W.reg ((h.1 e).2.elim fun p k=>ia_ H42 H44 (h.1 e).1 k.1 (Dfr.row_eq p) J (lf_ J J J (s_alloc (so_ J (show lk _ (d,49154)=some (_,([.i .i64 0,.i .i64 0,.b false,.i .u8 0,.i .i64 0,.s [],.sl .full (List.map Val.row ([]:List Val)),.b false]:List AV)) from lk_here) J J J (e_ (q_ J (l_ H2 (lk_other J (lk_other J B0)) J J (l_ J lk_here J J (x2 k.2 fun r _ c=>ca_ (sc2 J J J) c.1 (m_ (x_ J J (x_ J J (m_ (m_ (e_ (sq_ (q_ J (m_ (b_ J J neq_ (e_ (cs_ J (fun j=>q_ J (m_ (s_mvL (f:=rowS) (l:=[]) J (m_ (er_ (hQ J J (c.2.1 j))))))) (fun j=>sk_ (W.reg0 J fun _ _=>s_mvL H6 (m_ (s_bslM (f:=rowS) (l:=[r]) J J (g_cons J J J g_nil) J (s_app rowS_len J J J A6.1 (c.2.2 j).1 J (fun _ _ o _ q=>s_mvL J (e_ (W.reg0 J fun _ _=>b_ H44 J add_ (m_ (e_ (kP1 _ _ _ _ (c.2.2 j).2 _ _ _ _ _ _ H2 H3 J H42 H43 J (ApM.mk o (Mine.app A6.2 J q)) (lk_other J (lk_other J B0)) (lk_other J (lk_other J B1))))))))))))))))))))))))))))))))))))))) (fun e=>ex_ (w220_6 hQ H3 H6 A6 B1 (h.2 e)))))))
include H2 H3 H6 A6 B0 B1 in
theorem w220_4 (h:T220_4 prog K out6 m0 m1):W prog d c220_5 σ st Q:=
 sq_ (q_ J (f_ H3 (l_ J B1 J J (ll_ J (m_ (e_ (bk_ (h (I220_1 prog d Q m1.defers (m1.defers.length:Int)) (fun _ _ _ _ hb _ _ _ _ _ _ H2 H3 H6 H42 H43 H44 A6 B0 B1=>W.loop (w220_5 hQ (fun _ _ _ _ x=>x) H2 H3 H6 H42 H43 H44 A6 B0 B1 hb)) _ _ _ _ _ _ H2 H3 H6 J J J A6 B0 B1))))))))
include kP0 H2 H3 H6 H20 H21 H22 A6 B0 B1 in
theorem w220_3 (h:T220_3 prog K P0 out6 t20 t21 t22 m0 m1):W prog d l220_0 σ st (thenW prog d (.loop l220_0) (blockW 0 (thenW prog d c220_5 Q))):=
 au @w220_4
include H2 H3 H6 A6 B0 B1 in
theorem w220_2 (h:T220_2 prog K out6 m0 m1):W prog d c220_6 σ st Q:=
 sq_ (q_ J (f_ H3 (l_ J B1 J J (ll_ J (m_ (e_ (bk_ (h (I220_0 prog d Q m1.frames (m1.frames.length:Int)) (fun _ _ _ _ hb _ _ _ _ _ _ H2 H3 H6 H20 H21 H22 A6 B0 B1=>W.loop (w220_3 hQ (fun _ _ _ _ x=>x) H2 H3 H6 H20 H21 H22 A6 B0 B1 hb)) _ _ _ _ _ _ H2 H3 H6 J J J A6 B0 B1))))))))
include H2 H3 B0 B1 in
theorem w220_1 (h:T220_1 prog K m0 m1):W prog d c220_7 σ st Q:=
 au @w220_2
include H0 H1 in
theorem w220_0 (h:T220_0 prog K m0 x1):W prog d (sR 0 r220_0 c220_7) σ st Q:=
 q_ J (s_box H0 J (s_box H1 J (s_mvL (f:=rowS) (l:=[]) J (m_ (e_ (w220_1 hQ J J (lk_other J lk_here) lk_here h))))))
end
theorem p220 {prog:Prog}(hf:prog.fn 220=some pf220){m0:Img}{x1:Rou}{K:LB→Int→Prop}(h:T220_0 prog K m0 x1) :∃res0:LB,∃res1:Int,K res0 res1∧Pus prog 220 [m0.av,x1.av] (.tup [.sl .ext (List.map rowS res0),.i .i64 res1]):=
 P2 hf J (w220_0 (hM J fun _ _ _=>J) J J h)
def r207_0:List AI:=[oY 3 3 0,oY 5 5 2,oC 6 (.sl .full []),oI 7 0]
def r207_1:List AI:=[oM 13 1,oV 14 .lss 13 0,oM 15 14,gF 15 (oM 16 1),gF 15 (oV 17 .geq 16 16),oR 18 15 17]
def r207_2:List AI:=[oC 6 (.sl .full []),oI 7 2]
def r207_3:List AI:=[oK 19 3 3,oK 20 5 5,oQ 21 219 [19,20],oZ 22 21]
def r207_4:List AI:=[oC 6 (.sl .full []),oI 7 8]
def r207_5:List AI:=[oK 24 3 3,oK 25 5 5,oQ 26 220 [24,25],oM 23 26,oE 27 0 23,oE 28 1 23,oM 8 27,oM 9 28]
def r207_6:List AI:=[oM 29 9,oV 30 .neq 29 0]
def r207_7:List AI:=[oM 31 9,oC 6 (.sl .full []),oM 7 31]
def r207_8:List AI:=[oM 32 1,oQ 33 216 [32],oB 34 .add (.c (.s [103,111,114,111,117,116,105,110,101,32])) (.t 33),oB 35 .add (.t 34) (.c (.s [58,32])),oF 36 1 5,oL 37 36,oQ 38 15 [37],oB 39 .add (.c (.s [98,108,111,99,107,101,100,32])) (.t 38),oO 40 (.build [zs,zs,zs,zs] [(1,1,(.c (.s [114,101,97,100,121]))),(3,1,(.c (.s [100,111,110,101]))),(2,1,(.t 39))]),oF 41 0 5,oL 42 41,oO 43 (.ixA 4 1 false (.t 40) (.t 42)),oT 44 .add 35 43,oO 45 (.bslice [zs] 1 [(0,(.t 44))]),oM 10 45]
def r207_9:List AI:=[oM 46 8,oJ 47 46,oI 48 0]
def r207_10:List AI:=[oT 49 .lss 48 47]
def r207_11:List AI:=[oX 50 1 46 48,oL 51 50,oM 12 51]
def r207_12:List AI:=[oM 52 10,oM 53 12,oB 54 .add (.c (.s [32,32])) (.t 53),oO 55 (.bslice [zs] 1 [(0,(.t 54))]),oO 56 (.app 1 16 (.t 52) (.t 55)),oM 10 56]
def r207_13:List AI:=[oV 57 .add 48 1,oM 48 57]
def r207_14:List AI:=[oM 58 10,oM 6 58,oI 7 0]
abbrev l207_0:AC:=(sR 10 r207_10 (.seq (.cond (.t 49) .skip (.exit 0)) (.seq (.block 1 (sR 11 r207_11 (.reg 12 r207_12))) (.reg 13 r207_13))))
abbrev c207_1:AC:=(sR 14 r207_14 .ret)
abbrev c207_2:AC:=(.seq (sR 3 r207_3 (.cond (.t 22) (sR 4 r207_4 .ret) .skip)) (sR 5 r207_5 (.seq (sR 6 r207_6 (.cond (.t 30) (sR 7 r207_7 .ret) .skip)) (sR 8 r207_8 (.seq (sR 9 r207_9 (.block 0 (.loop l207_0))) c207_1)))))
abbrev b207:AC:=(sR 0 r207_0 (.seq (sR 1 r207_1 (.cond (.t 18) (sR 2 r207_2 .ret) .skip)) c207_2))
def pf207:AF:={ nt:=59,res:=[.tmp 6,.tmp 7],body:=b207 }
abbrev I207_0 (prog:Prog)(d:Nat)(Q:AE→Sl→St→Prop)(t46:LB)(t47:Int)(out10:LB)(t48:Int):Prop:=
  ∀(σ:Sl)(st:St) (o_out10 o_t46:Own),σ 10=.sl o_out10 (List.map rowS out10)→σ 46=.sl o_t46 (List.map rowS t46)→σ 47=.i .i64 t47→σ 48=.i .i64 t48→ApM d st.ow o_out10 out10.length→W prog d (.loop l207_0) σ st (blockW 0 (thenW prog d c207_1 Q))
def T207_3 (prog:Prog)(K:LB→Int→Prop)(out10:LB):Prop:=
  K out10 0
def T207_2 (prog:Prog)(K:LB→Int→Prop)(P0:LB→Int→Prop)(out10:LB)(t46:LB)(t47:Int)(t48:Int):Prop:=
  (t48<t47→0≤t48∧∃c:BS,t46[(t48).toNat]?=some c∧([32,32]:BS).length+c.length≤maxStr∧Fit (out10.length+[(([32,32]:BS)++c)].length) 16∧P0 (out10++[(([32,32]:BS)++c)]) (IntKind.i64.wrap (t48+1)))∧(¬(t48<t47)→T207_3 prog K out10)
def T207_1 (prog:Prog)(K:LB→Int→Prop)(g1:Int)(m0:Img)(m1:Rou):Prop:=
  ∃c,Pus prog 219 [m0.av,m1.av] (.b c)∧((!c)=true→K ([]:LB) 8)∧((!c)=false→∃o:LB,∃j,Pus prog 220 [m0.av,m1.av] (.tup [.sl .ext (List.map rowS o),.i .i64 j])∧(j≠0→K ([]:LB) j)∧(¬(j≠0)→∃e:BS,Pus prog 216 [.i .i64 g1] (.s e)∧([103,111,114,111,117,116,105,110,101,32]:BS).length+e.length≤maxStr∧(([103,111,114,111,117,116,105,110,101,32]:BS)++e).length+([58,32]:BS).length≤maxStr∧∃p:BS,Pus prog 15 [.i .i64 m1.key] (.s p)∧([98,108,111,99,107,101,100,32]:BS).length+p.length≤maxStr∧0≤m1.status∧∃k:BS,([[],([114,101,97,100,121]:BS),(([98,108,111,99,107,101,100,32]:BS)++p),([100,111,110,101]:BS)]:LB)[(m1.status).toNat]?=some k∧((([103,111,114,111,117,116,105,110,101,32]:BS)++e)++([58,32]:BS)).length+k.length≤maxStr∧∀P0:LB→Int→Prop,(∀(out10:LB)(t48:Int),T207_2 prog K P0 out10 o (o.length:Int) t48→P0 out10 t48)→P0 [(((([103,111,114,111,117,116,105,110,101,32]:BS)++e)++([58,32]:BS))++k)] 0))
def T207_0 (prog:Prog)(K:LB→Int→Prop)(m0:Img)(g1:Int)(x2:Rou):Prop:=
  (g1<0→K ([]:LB) 2)∧(¬(g1<0)→(g1≥16→K ([]:LB) 2)∧(¬(g1≥16)→T207_1 prog K g1 m0 x2))
section
variable {prog:Prog}{d:Nat}{Q:AE→Sl→St→Prop}{K:LB→Int→Prop}(hQ:HM rowS (AV.i .i64) 6 7 Q K){σ:Sl}{st:St}
include hQ
variable {out10:LB}{o_out10:Own}{t46:LB}{t47 t48:Int}{P0:LB→Int→Prop}{o_t46:Own}{g1:Int}{m0:Img}{m1:Rou}{v0 v1:Nat}{x2:Rou}
variable (kP0 :∀(out10:LB)(t48:Int),P0 out10 t48→I207_0 prog d Q t46 t47 out10 t48)(H0:σ 0=m0.av)(H10:σ 10=.sl o_out10 (List.map rowS out10))(H1:σ 1=.i .i64 g1)(H46:σ 46=.sl o_t46 (List.map rowS t46))(H3:σ 3=.p (d,0) v0 0)(H2:σ 2=x2.av)(H47:σ 47=.i .i64 t47)(H5:σ 5=.p (d,1) v1 0)(H48:σ 48=.i .i64 t48)(B0:lk st.bx (d,0)=some (v0,Img.cs m0))(A10:ApM d st.ow o_out10 out10.length)(B1:lk st.bx (d,1)=some (v1,Rou.cs m1))
include H10 A10 in
theorem w207_3 (h:T207_3 prog K out10):W prog d c207_1 σ st Q:=
 au trivial
include kP0 H10 H46 H47 H48 A10 in
theorem w207_2 (h:T207_2 prog K P0 out10 t46 t47 t48):W prog d l207_0 σ st (thenW prog d (.loop l207_0) (blockW 0 (thenW prog d c207_1 Q))):=
 q_ J (b_ H48 H47 lss_ (e_ (sq_ (cs_ J (fun e=>sk_ (sq_ (bk_ (q_ J ((h.1 e).2.elim fun j c=>ia_ H46 H48 (h.1 e).1 c.1 J J (lf_ J J J (m_ (e_ (W.reg0 J fun _ _=>s_mvL H10 (m_ (b_ J J (abin_cat' c.2.1) (s_bslM (f:=rowS) (l:=[(([32,32]:BS)++j)]) J J (g_cons J J J g_nil) J (s_app rowS_len J J J A10.1 c.2.2.1 J (fun _ _ i _ k=>s_mvL J (e_ (W.reg0 J fun _ _=>b_ H48 J add_ (m_ (e_ (kP0 _ _ c.2.2.2 _ _ _ _ J H46 H47 J (ApM.mk i (Mine.app A10.2 J k))))))))))))))))))))) (fun e=>ex_ (w207_3 hQ H10 A10 (h.2 e)))))))
include H1 H3 H5 B0 B1 in
theorem w207_1 (h:T207_1 prog K g1 m0 m1):W prog d c207_2 σ st Q:=
 sq_ (q_ J (l_ H3 B0 J J (l_ H5 B1 J J (h.elim fun _ j=>ca_ (sc2 J J J) j.1 (nt_ J (e_ (cb_ J (fun o=>q_ J (s_mvL (f:=rowS) (l:=[]) J (m_ (er_ (hQ J J (j.2.1 o)))))) (fun o=>sk_ (q_ J (l_ H3 B0 J J (l_ H5 B1 J J (x2 (j.2.2 o) fun q _ k=>ca_ (sc2 J J J) k.1 (m_ (x_ J J (x_ J J (s_mvL J (m_ (e_ (sq_ (q_ J (m_ (b_ J J neq_ (e_ (cs_ J (fun p=>q_ J (m_ (s_mvL (f:=rowS) (l:=[]) J (m_ (er_ (hQ J J (k.2.1 p))))))) (fun p=>sk_ (q_ J (m_ ((k.2.2 p).elim fun v e=>ca_ (sc1 H1 J) e.1 (b_ J J (abin_cat' e.2.1) (b_ J J (abin_cat' e.2.2.1) (f_ H5 (l_ J B1 J J (e.2.2.2.elim fun u c=>ca_ (sc1 J J) c.1 (b_ J J (abin_cat' c.2.1) (s_buildM (f:=AV.s) (l:=[[],([114,101,97,100,121]:BS),(([98,108,111,99,107,101,100,32]:BS)++u),([100,111,110,101]:BS)]) (f_cons J J (f_cons J J (f_cons J J f_nil))) J (f_ H5 (l_ J B1 J J (c.2.2.2.elim fun r i=>s_ixA (f:=AV.s) J J J c.2.2.1 i.1 (b_ J J (abin_cat' i.2.1) (s_bslM (f:=rowS) (l:=[(((([103,111,114,111,117,116,105,110,101,32]:BS)++v)++([58,32]:BS))++r)]) J J (g_cons J J J g_nil) J (s_mvL J (e_ (sq_ (q_ J (s_mvL J (ll_ J (m_ (e_ (bk_ (i.2.2 (I207_0 prog d Q q (q.length:Int)) (fun _ _ hb _ _ _ _ H10 H46 H47 H48 A10=>W.loop (w207_2 hQ (fun _ _ x=>x) H10 H46 H47 H48 A10 hb)) _ _ _ _ J J J J ApM.full))))))))))))))))))))))))))))))))))))))))))))))))))
include H0 H1 H2 in
theorem w207_0 (h:T207_0 prog K m0 g1 x2):W prog d (sR 0 r207_0 (.seq (sR 1 r207_1 (.cond (.t 18) (sR 2 r207_2 .ret) .skip)) c207_2)) σ st Q:=
 q_ J (s_box H0 J (s_box H2 J (s_mvL (f:=rowS) (l:=[]) J (m_ (e_ (sq_ (q_ J (s_mvI H1 (b_ J J lss_ (s_mvB J (em_ (g:=15) J (fun c=>z_ 3 J (e_ (ct_ J (q_ J (s_mvL (f:=rowS) (l:=[]) J (m_ (er_ (hQ J J (h.1 c))))))))) (fun c=>gy_ J (s_mvI H1 (gy_ J (b_ J J geq_ (pf_ J J (e_ (cs_ J (fun e=>q_ J (s_mvL (f:=rowS) (l:=[]) J (m_ (er_ (hQ J J ((h.2 c).1 e)))))) (fun e=>sk_ (w207_1 hQ H1 J J (lk_other J lk_here) lk_here ((h.2 c).2 e)))))))))))))))))))))
end
theorem p207 {prog:Prog}(hf:prog.fn 207=some pf207){m0:Img}{g1:Int}{x2:Rou}{K:LB→Int→Prop}(h:T207_0 prog K m0 g1 x2) :∃res0:LB,∃res1:Int,K res0 res1∧Pus prog 207 [m0.av,.i .i64 g1,x2.av] (.tup [.sl .ext (List.map rowS res0),.i .i64 res1]):=
 P2 hf J (w207_0 (hM J fun _ _ _=>J) J J J h)
abbrev H222 (Q:AE→Sl→St→Prop)(K:LB→Prop):Prop:=∀(σ:Sl)(st:St)(o0:Own)(res0:LB),σ 6=.sl o0 (List.map rowS res0)→K res0→Q .ret σ st
section
variable {prog:Prog}{d:Nat}{Q:AE→Sl→St→Prop}{K:LB→Prop}(hQ:H222 Q K){σ:Sl}{st:St}
include hQ
end
abbrev H208 (Q:AE→Sl→St→Prop)(K:LB→Int→Prop):Prop:=∀(σ:Sl)(st:St)(o0:Own)(res0:LB)(res1:Int),σ 6=.sl o0 (List.map rowS res0)→σ 7=.i .i64 res1→K res0 res1→Q .ret σ st
section
variable {prog:Prog}{d:Nat}{Q:AE→Sl→St→Prop}{K:LB→Int→Prop}(hQ:H208 Q K){σ:Sl}{st:St}
include hQ
end
def r205_0:List AI:=[oY 2 3 0,oY 3 4 1,oC 4 (.s []),oI 5 0]
def r205_1:List AI:=[oK 14 3 2,oK 15 4 3,oQ 16 213 [14,15],oM 6 16]
def r205_2:List AI:=[oM 17 6,oV 18 .neq 17 0]
def r205_3:List AI:=[oM 19 6,oC 4 (.s []),oM 5 19]
def r205_4:List AI:=[oO 7 (.alloc [.np,.sl .full []])]
def r205_5:List AI:=[oQ 20 215 [],oF 21 0 3,oL 22 21,oO 23 (.ixA 9 1 false (.t 20) (.t 22)),oB 24 .add (.c (.s [111,117,116,99,111,109,101,32])) (.t 23),oB 25 .add (.t 24) (.c (.s [44,32,102,97,105,108,105,110,103,32])),oF 26 1 3,oL 27 26,oQ 28 216 [27],oT 29 .add 25 28,oB 30 .add (.t 29) (.c (.s [44,32,115,116,101,112,115,32])),oF 31 2 3,oL 32 31,oQ 33 216 [32],oT 34 .add 30 33,oB 35 .add (.t 34) (.c (.s [10])),oO 36 (.call true 126 [(.t 7),(.t 35)])]
def r205_6:List AI:=[oF 37 3 3,oL 38 37,oJ 39 38,oI 40 0]
def r205_7:List AI:=[oT 41 .lss 40 39]
def r205_8:List AI:=[oM 42 40,oX 43 5 38 40,oK 44 5 43,oO 9 (.alloc [z8,z6,zl,zl,zl]),oM 8 42,oS 5 9 44]
def r205_9:List AI:=[oK 46 3 2,oM 47 8,oK 48 5 9,oQ 49 207 [46,47,48],oM 45 49,oE 50 0 45,oE 51 1 45,oM 10 50,oM 11 51]
def r205_10:List AI:=[oM 52 11,oV 53 .neq 52 0]
def r205_11:List AI:=[oM 54 11,oC 4 (.s []),oM 5 54]
def r205_12:List AI:=[oM 55 10,oJ 56 55,oI 57 0]
def r205_13:List AI:=[oT 58 .lss 57 56]
def r205_14:List AI:=[oX 59 1 55 57,oL 60 59,oM 13 60]
def r205_15:List AI:=[oM 61 13,oB 62 .add (.t 61) (.c (.s [10])),oO 63 (.call true 126 [(.t 7),(.t 62)])]
def r205_16:List AI:=[oV 64 .add 57 1,oM 57 64]
def r205_17:List AI:=[oV 65 .add 40 1,oM 40 65]
def r205_18:List AI:=[oO 66 (.call true 217 [(.t 7)]),oV 67 .gtr 66 300000]
def r205_19:List AI:=[oC 4 (.s []),oI 5 4]
def r205_20:List AI:=[oO 68 (.call true 105 [(.t 7)]),oM 4 68,oI 5 0]
abbrev l205_1:AC:=(sR 13 r205_13 (.seq (.cond (.t 58) .skip (.exit 2)) (.seq (.block 3 (sR 14 r205_14 (.reg 15 r205_15))) (.reg 16 r205_16))))
abbrev c205_1:AC:=(.reg 17 r205_17)
abbrev l205_0:AC:=(sR 7 r205_7 (.seq (.cond (.t 41) .skip (.exit 0)) (.seq (.block 1 (sR 8 r205_8 (sR 9 r205_9 (.seq (sR 10 r205_10 (.cond (.t 53) (sR 11 r205_11 .ret) .skip)) (sR 12 r205_12 (.block 2 (.loop l205_1))))))) c205_1)))
abbrev c205_3:AC:=(.seq (sR 18 r205_18 (.cond (.t 67) (sR 19 r205_19 .ret) .skip)) (sR 20 r205_20 .ret))
abbrev c205_4:AC:=(sR 5 r205_5 (.seq (sR 6 r205_6 (.block 0 (.loop l205_0))) c205_3))
abbrev c205_5:AC:=(sR 1000004 r205_4 c205_4)
abbrev c205_6:AC:=(.seq (sR 1 r205_1 (sR 2 r205_2 (.cond (.t 18) (sR 3 r205_3 .ret) .skip))) c205_5)
abbrev b205:AC:=(sR 0 r205_0 c205_6)
def pf205:AF:={ nt:=69,res:=[.tmp 4,.tmp 5],body:=b205 }
abbrev I205_0 (prog:Prog)(d:Nat)(Q:AE→Sl→St→Prop)(t38:List Rou)(t39:Int)(t40:Int)(m0:Img)(m4096016384:BS):Prop:=
  ∀(σ:Sl)(st:St)(o_t38:Own) (v0 v4096016384:Nat),σ 2=.p (d,0) v0 0→σ 7=.p (d,1000004*4096+0) v4096016384 0→σ 38=.sl o_t38 (List.map Rou.row t38)→σ 39=.i .i64 t39→σ 40=.i .i64 t40→lk st.bx (d,0)=some (v0,Img.cs m0)→Bl m4096016384 st.bx st.ow (d,1000004*4096+0) v4096016384→W prog d (.loop l205_0) σ st (blockW 0 (thenW prog d c205_3 Q))
abbrev I205_1 (prog:Prog)(d:Nat)(Q:AE→Sl→St→Prop)(t38:List Rou)(t39:Int)(t40:Int)(t55:LB)(t56:Int)(t57:Int)(m0:Img)(m4096016384:BS):Prop:=
  ∀(σ:Sl)(st:St) (o_t38 o_t55:Own) (v0 v4096016384:Nat),σ 2=.p (d,0) v0 0→σ 7=.p (d,1000004*4096+0) v4096016384 0→σ 38=.sl o_t38 (List.map Rou.row t38)→σ 39=.i .i64 t39→σ 40=.i .i64 t40→σ 55=.sl o_t55 (List.map rowS t55)→σ 56=.i .i64 t56→σ 57=.i .i64 t57→lk st.bx (d,0)=some (v0,Img.cs m0)→Bl m4096016384 st.bx st.ow (d,1000004*4096+0) v4096016384→W prog d (.loop l205_1) σ st (blockW 2 (blockW 1 (thenW prog d c205_1 (thenW prog d (.loop l205_0) (blockW 0 (thenW prog d c205_3 Q))))))
def T205_6 (prog:Prog)(K:BS→Int→Prop)(P0:Int→Img→BS→Prop)(t38:List Rou)(t39:Int)(t40:Int)(m0:Img)(m4096016384:BS):Prop:=
  P0 (IntKind.i64.wrap (t40+1)) m0 m4096016384
def T205_5 (prog:Prog)(K:BS→Int→Prop)(P1:Int→Img→BS→Prop)(P0:Int→Img→BS→Prop)(t38:List Rou)(t39:Int)(t40:Int)(t55:LB)(t56:Int)(t57:Int)(m0:Img)(m4096016384:BS):Prop:=
  (t57<t56→0≤t57∧∃c:BS,t55[(t57).toNat]?=some c∧c.length+([10]:BS).length≤maxStr∧∃j,∃e:BS,PuX prog 126 (Bl m4096016384) [.s (c++([10]:BS))] (fun r=>r=.tup [.i .i64 j,.ni]) ((Bl e))∧P1 (IntKind.i64.wrap (t57+1)) m0 e)∧(¬(t57<t56)→T205_6 prog K P0 t38 t39 t40 m0 m4096016384)
def T205_7 (prog:Prog)(K:BS→Int→Prop)(m4096016384:BS):Prop:=
  ∃c,∃e:BS,PuX prog 217 (Bl m4096016384) [] (fun r=>r=.i .i64 c) ((Bl e))∧(c>300000→K ([]:BS) 4)∧(¬(c>300000)→∃j,PuX prog 105 (Bl e) [] (fun r=>r=.s j) (fun _ _ _ _=>True)∧K j 0)
def T205_4 (prog:Prog)(K:BS→Int→Prop)(P0:Int→Img→BS→Prop)(t38:List Rou)(t39:Int)(t40:Int)(m0:Img)(m4096016384:BS):Prop:=
  (t40<t39→0≤t40∧∃j:Rou,t38[(t40).toNat]?=some j∧∃e:LB,∃c,Pus prog 207 [m0.av,.i .i64 t40,j.av] (.tup [.sl .ext (List.map rowS e),.i .i64 c])∧(c≠0→K ([]:BS) c)∧(¬(c≠0)→∀P1:Int→Img→BS→Prop,(∀(t57:Int)(m0:Img)(m4096016384:BS),T205_5 prog K P1 P0 t38 t39 t40 e (e.length:Int) t57 m0 m4096016384→P1 t57 m0 m4096016384)→P1 0 m0 m4096016384))∧(¬(t40<t39)→T205_7 prog K m4096016384)
def T205_3 (prog:Prog)(K:BS→Int→Prop)(m0:Img)(m1:Sta)(m4096016384:BS):Prop:=
  ∃c:LB,Pus prog 215 [] (.ag (List.map AV.s c))∧c.length=9∧0≤m1.outcome∧∃e:BS,(c:LB)[(m1.outcome).toNat]?=some e∧([111,117,116,99,111,109,101,32]:BS).length+e.length≤maxStr∧(([111,117,116,99,111,109,101,32]:BS)++e).length+([44,32,102,97,105,108,105,110,103,32]:BS).length≤maxStr∧∃j:BS,Pus prog 216 [.i .i64 m1.failing] (.s j)∧((([111,117,116,99,111,109,101,32]:BS)++e)++([44,32,102,97,105,108,105,110,103,32]:BS)).length+j.length≤maxStr∧(((([111,117,116,99,111,109,101,32]:BS)++e)++([44,32,102,97,105,108,105,110,103,32]:BS))++j).length+([44,32,115,116,101,112,115,32]:BS).length≤maxStr∧∃k:BS,Pus prog 216 [.i .i64 m1.steps] (.s k)∧((((([111,117,116,99,111,109,101,32]:BS)++e)++([44,32,102,97,105,108,105,110,103,32]:BS))++j)++([44,32,115,116,101,112,115,32]:BS)).length+k.length≤maxStr∧(((((([111,117,116,99,111,109,101,32]:BS)++e)++([44,32,102,97,105,108,105,110,103,32]:BS))++j)++([44,32,115,116,101,112,115,32]:BS))++k).length+([10]:BS).length≤maxStr∧∃p,∃o:BS,PuX prog 126 (Bl m4096016384) [.s ((((((([111,117,116,99,111,109,101,32]:BS)++e)++([44,32,102,97,105,108,105,110,103,32]:BS))++j)++([44,32,115,116,101,112,115,32]:BS))++k)++([10]:BS))] (fun r=>r=.tup [.i .i64 p,.ni]) ((Bl o))∧∀P0:Int→Img→BS→Prop,(∀(t40:Int)(m0:Img)(m4096016384:BS),T205_4 prog K P0 m1.routines (m1.routines.length:Int) t40 m0 m4096016384→P0 t40 m0 m4096016384)→P0 0 m0 o
def T205_2 (prog:Prog)(K:BS→Int→Prop)(m0:Img)(m1:Sta):Prop:=
  T205_3 prog K m0 m1 ([]:BS)
def T205_1 (prog:Prog)(K:BS→Int→Prop)(m0:Img)(m1:Sta):Prop:=
  ∃c,Pus prog 213 [m0.av,m1.av] (.i .i64 c)∧(c≠0→K ([]:BS) c)∧(¬(c≠0)→T205_2 prog K m0 m1)
def T205_0 (prog:Prog)(K:BS→Int→Prop)(m0:Img)(s1:Sta):Prop:=
  T205_1 prog K m0 s1
section
variable {prog:Prog}{d:Nat}{Q:AE→Sl→St→Prop}{K:BS→Int→Prop}(hQ:H2 AV.s (AV.i .i64) 4 5 Q K){σ:Sl}{st:St}
include hQ
variable {t38:List Rou}{t39 t40:Int}{m0:Img}{m4096016384:BS}{P0:Int→Img→BS→Prop}{o_t38:Own}{v0 v4096016384:Nat}{t55:LB}{t56 t57:Int}{P1:Int→Img→BS→Prop}{o_t55:Own}{m1:Sta}{v1:Nat}{s1:Sta}
variable (kP1 :∀(t57:Int)(m0:Img)(m4096016384:BS),P1 t57 m0 m4096016384→I205_1 prog d Q t38 t39 t40 t55 t56 t57 m0 m4096016384)(H0:σ 0=m0.av) (kP0 :∀(t40:Int)(m0:Img)(m4096016384:BS),P0 t40 m0 m4096016384→I205_0 prog d Q t38 t39 t40 m0 m4096016384)(H1:σ 1=s1.av)(H2:σ 2=.p (d,0) v0 0)(H3:σ 3=.p (d,1) v1 0)(H7:σ 7=.p (d,1000004*4096+0) v4096016384 0)(H38:σ 38=.sl o_t38 (List.map Rou.row t38))(H39:σ 39=.i .i64 t39)(H40:σ 40=.i .i64 t40)(H55:σ 55=.sl o_t55 (List.map rowS t55))(H56:σ 56=.i .i64 t56)(H57:σ 57=.i .i64 t57)(B0:lk st.bx (d,0)=some (v0,Img.cs m0))(B1:lk st.bx (d,1)=some (v1,Sta.cs m1))(B4096016384:Bl m4096016384 st.bx st.ow (d,1000004*4096+0) v4096016384)
include kP0 H2 H7 H38 H39 H40 B0 B4096016384 in
theorem w205_6 (h:T205_6 prog K P0 t38 t39 t40 m0 m4096016384):W prog d c205_1 σ st (thenW prog d (.loop l205_0) (blockW 0 (thenW prog d c205_3 Q))):=
 au trivial
include kP1 kP0 H2 H7 H38 H39 H40 H55 H56 H57 B0 B4096016384 in
theorem w205_5 (h:T205_5 prog K P1 P0 t38 t39 t40 t55 t56 t57 m0 m4096016384):W prog d l205_1 σ st (thenW prog d (.loop l205_1) (blockW 2 (blockW 1 (thenW prog d c205_1 (thenW prog d (.loop l205_0) (blockW 0 (thenW prog d c205_3 Q))))))):=
 q_ J (b_ H57 H56 lss_ (e_ (sq_ (cs_ J (fun c=>sk_ (sq_ (bk_ (q_ J ((h.1 c).2.elim fun _ e=>ia_ H55 H57 (h.1 c).1 e.1 J J (lf_ J J J (m_ (e_ (W.reg0 J fun _ _=>m_ (b_ J J (abin_cat' e.2.1) (e.2.2.elim fun _ j=>j.elim fun _ i=>cX_ (sec H7 (sec J sen)) i.1 (Nat.lt_succ_self d) B4096016384 (fun _ k o=>e_ (W.reg0 J fun _ _=>b_ H57 J add_ (m_ (e_ (kP1 _ _ _ i.2 _ _ _ _ _ _ H2 H7 H38 H39 H40 H55 H56 J ((o.1 (d,0) (Nat.lt_succ_self d) (key_LL J)).trans B0) k)))))))))))))))) (fun c=>ex_ (w205_6 hQ kP0 H2 H7 H38 H39 H40 B0 B4096016384 (h.2 c)))))))
include H7 B4096016384 in
theorem w205_7 (h:T205_7 prog K m4096016384):W prog d c205_3 σ st Q:=
 sq_ (q_ J (h.elim fun _ j=>j.elim fun _ c=>cX_ (sec H7 sen) c.1 (Nat.lt_succ_self d) B4096016384 (fun _ k _=>b_ J J gtr_ (e_ (cs_ J (fun e=>q_ J (m_ (m_ (er_ (hQ J J (c.2.1 e)))))) (fun e=>sk_ (q_ J ((c.2.2 e).elim fun _ i=>cX_ (sec H7 sen) i.1 (Nat.lt_succ_self d) k (fun _ _ _=>m_ (m_ (er_ (hQ J J i.2))))))))))))
include kP0 H2 H7 H38 H39 H40 B0 B4096016384 in
theorem w205_4 (h:T205_4 prog K P0 t38 t39 t40 m0 m4096016384):W prog d l205_0 σ st (thenW prog d (.loop l205_0) (blockW 0 (thenW prog d c205_3 Q))):=
 q_ J (b_ H40 H39 lss_ (e_ (sq_ (cs_ J (fun c=>sk_ (sq_ (bk_ (sq_ (W.reg (m_ ((h.1 c).2.elim fun p k=>ia_ H38 H40 (h.1 c).1 k.1 (Rou.row_eq p) J (lf_ J J J (s_alloc (m_ (so_ J (show lk _ (d,32771)=some (_,([.i .u8 0,.i .i64 0,.sl .full (List.map Frm.row ([]:List Frm)),.sl .full (List.map Dfr.row ([]:List Dfr)),.sl .full (List.map Pan.row ([]:List Pan))]:List AV)) from lk_here) J J J (e_ (q_ J (l_ H2 (lk_other J (lk_other J B0)) J J (m_ (l_ J lk_here J J (x2 k.2 fun o _ e=>ca_ (sc3 J H40 J J) e.1 (m_ (x_ J J (x_ J J (s_mvL J (m_ (e_ (sq_ (q_ J (m_ (b_ J J neq_ (e_ (cs_ J (fun j=>q_ J (m_ (m_ (m_ (er_ (hQ J J (e.2.1 j))))))) (fun j=>sk_ (q_ J (s_mvL J (ll_ J (m_ (e_ (bk_ ((e.2.2 j) (I205_1 prog d Q t38 t39 t40 o (o.length:Int)) (fun _ _ _ hb _ _ _ _ _ _ H2 H7 H38 H39 H40 H55 H56 H57 B0 B4096016384=>W.loop (w205_5 hQ (fun _ _ _ x=>x) kP0 H2 H7 H38 H39 H40 H55 H56 H57 B0 B4096016384 hb)) _ _ _ _ _ _ H2 H7 H38 H39 H40 J J J (lk_other J (lk_other J B0)) (Bl.other (key_LL J) (Bl.other (key_LL J) B4096016384))))))))))))))))))))))))))))))))))))))) (fun c=>ex_ (w205_7 hQ H7 B4096016384 (h.2 c)))))))
include H2 H3 H7 B0 B1 B4096016384 in
theorem w205_3 (h:T205_3 prog K m0 m1 m4096016384):W prog d c205_4 σ st Q:=
 q_ J (h.elim fun _ e=>ca_ sn e.1 (f_ H3 (l_ J B1 J J (e.2.2.2.elim fun _ j=>s_ixA (f:=AV.s) e.2.1 J J e.2.2.1 j.1 (b_ J J (abin_cat' j.2.1) (b_ J J (abin_cat' j.2.2.1) (f_ H3 (l_ J B1 J J (j.2.2.2.elim fun _ c=>ca_ (sc1 J J) c.1 (b_ J J (abin_cat' c.2.1) (b_ J J (abin_cat' c.2.2.1) (f_ H3 (l_ J B1 J J (c.2.2.2.elim fun _ i=>ca_ (sc1 J J) i.1 (b_ J J (abin_cat' i.2.1) (b_ J J (abin_cat' i.2.2.1) (i.2.2.2.elim fun _ p=>p.elim fun _ k=>cX_ (sec H7 (sec J sen)) k.1 (Nat.lt_succ_self d) B4096016384 (fun _ q o=>e_ (sq_ (q_ J (f_ H3 (l_ J ((o.1 (d,1) (Nat.lt_succ_self d) (key_LL J)).trans B1) J J (ll_ J (m_ (e_ (bk_ (k.2 (I205_0 prog d Q m1.routines (m1.routines.length:Int)) (fun _ _ _ hb _ _ _ _ _ H2 H7 H38 H39 H40 B0 B4096016384=>W.loop (w205_4 hQ (fun _ _ _ x=>x) H2 H7 H38 H39 H40 B0 B4096016384 hb)) _ _ _ _ _ H2 H7 J J J ((o.1 (d,0) (Nat.lt_succ_self d) (key_LL J)).trans B0) q)))))))))))))))))))))))))))
include H2 H3 B0 B1 in
theorem w205_2 (h:T205_2 prog K m0 m1):W prog d c205_5 σ st Q:=
 sq_ (W.regB J (fun _ _ _ e c=>w205_3 hQ H2 H3 J ((c (d,0) (key_LL J)).trans B0) ((c (d,1) (key_LL J)).trans B1) e h))
include H2 H3 B0 B1 in
theorem w205_1 (h:T205_1 prog K m0 m1):W prog d c205_6 σ st Q:=
 sq_ (q_ J (l_ H2 B0 J J (l_ H3 B1 J J (h.elim fun _ c=>ca_ (sc2 J J J) c.1 (m_ (e_ (q_ J (m_ (b_ J J neq_ (e_ (cs_ J (fun e=>q_ J (m_ (m_ (m_ (er_ (hQ J J (c.2.1 e))))))) (fun e=>sk_ (w205_2 hQ H2 H3 B0 B1 (c.2.2 e))))))))))))))
include H0 H1 in
theorem w205_0 (h:T205_0 prog K m0 s1):W prog d (sR 0 r205_0 c205_6) σ st Q:=
 q_ J (s_box H0 J (s_box H1 J (m_ (m_ (e_ (w205_1 hQ J J (lk_other J lk_here) lk_here h))))))
end
theorem p205 {prog:Prog}(hf:prog.fn 205=some pf205){m0:Img}{s1:Sta}{K:BS→Int→Prop}(h:T205_0 prog K m0 s1) :∃res0:BS,∃res1:Int,K res0 res1∧Pus prog 205 [m0.av,s1.av] (.tup [.s res0,.i .i64 res1]):=
 P2 hf J (w205_0 (h2 J fun _ _=>J) J J h)
def r218_0:List AI:=[oY 2 3 0,oY 3 4 1,oC 4 (.s [])]
def r218_1:List AI:=[oQ 9 223 [],oF 10 0 3,oL 11 10,oX 12 1 9 11,oL 13 12,oB 14 .add (.c (.s [111,117,116,99,111,109,101,32])) (.t 13),oB 15 .add (.t 14) (.c (.s [44,32,102,97,105,108,105,110,103,32])),oF 16 1 3,oL 17 16,oQ 18 226 [17],oT 19 .add 15 18,oB 20 .add (.t 19) (.c (.s [44,32,115,116,101,112,115,32])),oF 21 2 3,oL 22 21,oQ 23 226 [22],oT 24 .add 20 23,oB 25 .add (.t 24) (.c (.s [10])),oM 5 25]
def r218_2:List AI:=[oI 6 0]
def r218_3:List AI:=[oM 26 6,oF 27 3 3,oL 28 27,oJ 29 28,oT 30 .lss 26 29]
def r218_4:List AI:=[oK 33 3 2,oM 34 6,oF 35 3 3,oL 36 35,oM 37 6,oX 38 5 36 37,oK 39 5 38,oQ 40 222 [33,34,39],oM 7 40]
def r218_5:List AI:=[oI 8 0]
def r218_6:List AI:=[oM 41 8,oM 42 7,oJ 43 42,oT 44 .lss 41 43]
def r218_7:List AI:=[oM 47 5,oM 48 7,oM 49 8,oX 50 1 48 49,oL 51 50,oB 52 .add (.t 51) (.c (.s [10])),oT 53 .add 47 52,oM 5 53]
def r218_8:List AI:=[oM 45 8,oV 46 .add 45 1,oM 8 46]
def r218_9:List AI:=[oM 31 6,oV 32 .add 31 1,oM 6 32]
def r218_10:List AI:=[oM 54 5,oM 4 54]
abbrev l218_1:AC:=(.seq (sR 7 r218_6 (.cond (.t 44) .skip (.exit 2))) (.seq (.block 3 (.reg 9 r218_7)) (.reg 8 r218_8)))
abbrev c218_1:AC:=(.reg 4 r218_9)
abbrev l218_0:AC:=(.seq (sR 3 r218_3 (.cond (.t 30) .skip (.exit 0))) (.seq (.block 1 (sR 5 r218_4 (sR 6 r218_5 (.block 2 (.loop l218_1))))) c218_1))
abbrev c218_3:AC:=(sR 10 r218_10 .ret)
abbrev b218:AC:=(sR 0 r218_0 (sR 1 r218_1 (.seq (sR 2 r218_2 (.block 0 (.loop l218_0))) c218_3)))
def pf218:AF:={ nt:=55,res:=[.tmp 4],body:=b218 }
abbrev H218 (Q:AE→Sl→St→Prop)(K:BS→Prop):Prop:=∀(σ:Sl)(st:St)(res0:BS),σ 4=.s res0→K res0→Q .ret σ st
section
variable {prog:Prog}{d:Nat}{Q:AE→Sl→St→Prop}{K:BS→Prop}(hQ:H218 Q K){σ:Sl}{st:St}
include hQ
end
abbrev H206 (Q:AE→Sl→St→Prop)(K:BS→Int→Prop):Prop:=∀(σ:Sl)(st:St)(res0:BS)(res1:Int),σ 4=.s res0→σ 5=.i .i64 res1→K res0 res1→Q .ret σ st
section
variable {prog:Prog}{d:Nat}{Q:AE→Sl→St→Prop}{K:BS→Int→Prop}(hQ:H206 Q K){σ:Sl}{st:St}
include hQ
end
end Go.AM

namespace Go.AM
open Go
set_option linter.unusedVariables false
set_option linter.unusedSimpArgs false
set_option maxRecDepth 4000
attribute [local irreducible] WO fillCells fillRows
def r203_0:List AI:=[oY 1 4 0,oC 2 (.b false)]
def r203_1:List AI:=[oI 3 0]
def r203_2:List AI:=[oM 4 3,oF 5 3 1,oL 6 5,oJ 7 6,oT 8 .lss 4 7,oM 9 8,gT 9 (oM 10 3),gT 9 (oV 11 .leq 10 20),oA 12 9 11]
def r203_3:List AI:=[oF 15 3 1,oL 16 15,oM 17 3,oX 18 5 16 17,oK 19 5 18,oQ 20 204 [19]]
def r203_4:List AI:=[oC 2 (.b true)]
def r203_5:List AI:=[oM 13 3,oV 14 .add 13 1,oM 3 14]
def r203_6:List AI:=[oF 21 3 1,oL 22 21,oJ 23 22,oV 24 .gtr 23 20,oM 2 24]
abbrev c203_0:AC:=(.seq (.block 1 (sR 4 r203_3 (.cond (.t 20) (sR 5 r203_4 .ret) .skip))) (.reg 3 r203_5))
abbrev l203_0:AC:=(.seq (sR 2 r203_2 (.cond (.t 12) .skip (.exit 0))) c203_0)
abbrev c203_2:AC:=(sR 6 r203_6 .ret)
abbrev b203:AC:=(sR 0 r203_0 (.seq (sR 1 r203_1 (.block 0 (.loop l203_0))) c203_2))
def pf203:AF:={ nt:=25,res:=[.tmp 2],body:=b203 }
abbrev I203_0 (prog:Prog)(d:Nat)(Q:AE→Sl→St→Prop)(i3:Int)(m0:Sta):Prop:=
  ∀(σ:Sl)(st:St)(v0:Nat),σ 1=.p (d,0) v0 0→σ 3=.i .i64 i3→lk st.bx (d,0)=some (v0,Sta.cs m0)→W prog d (.loop l203_0) σ st (blockW 0 (thenW prog d c203_2 Q))
def T203_2 (prog:Prog)(K:Bool→Prop)(P0:Int→Sta→Prop)(i3:Int)(m0:Sta):Prop:=
  0≤i3∧∃e:Rou,m0.routines[(i3).toNat]?=some e∧∃c,Pus prog 204 [e.av] (.b c)∧(c=true→K true)∧(c=false→P0 (IntKind.i64.wrap (i3+1)) m0)
def T203_3 (prog:Prog)(K:Bool→Prop)(m0:Sta):Prop:=
  K (decide ((m0.routines.length:Int)>20))
def T203_1 (prog:Prog)(K:Bool→Prop)(P0:Int→Sta→Prop)(i3:Int)(m0:Sta):Prop:=
  (i3<(m0.routines.length:Int)→(i3≤20→T203_2 prog K P0 i3 m0)∧(¬(i3≤20)→T203_3 prog K m0))∧(¬(i3<(m0.routines.length:Int))→T203_3 prog K m0)
def T203_0 (prog:Prog)(K:Bool→Prop)(s0:Sta):Prop:=
  ∀P0:Int→Sta→Prop,(∀(i3:Int)(m0:Sta),T203_1 prog K P0 i3 m0→P0 i3 m0)→P0 0 s0
section
variable {prog:Prog}{d:Nat}{Q:AE→Sl→St→Prop}{K:Bool→Prop}(hQ:H1 AV.b 2 Q K){σ:Sl}{st:St}
include hQ
variable {i3:Int}{m0:Sta}{P0:Int→Sta→Prop}{v0:Nat}{s0:Sta}
variable (kP0 :∀(i3:Int)(m0:Sta),P0 i3 m0→I203_0 prog d Q i3 m0)(H0:σ 0=s0.av)(H1:σ 1=.p (d,0) v0 0)(H3:σ 3=.i .i64 i3)(B0:lk st.bx (d,0)=some (v0,Sta.cs m0))
include kP0 H1 H3 B0 in
theorem w203_2 (h:T203_2 prog K P0 i3 m0):W prog d c203_0 σ st (thenW prog d (.loop l203_0) (blockW 0 (thenW prog d c203_2 Q))):=
 sq_ (bk_ (q_ J (f_ H1 (l_ J B0 J J (m_ (h.2.elim fun j i=>ia_ J H3 h.1 i.1 (Rou.row_eq j) J (lf_ J J J (i.2.elim fun _ c=>ca_ (sc1 J J) c.1 (e_ (cb_ J (fun e=>q_ J (m_ (er_ (hQ J (c.2.1 e))))) (fun e=>sk_ (W.reg0 J fun _ _=>m_ (b_ H3 J add_ (m_ (e_ (kP0 _ _ (c.2.2 e) _ _ _ H1 J B0))))))))))))))))
include H1 B0 in
theorem w203_3 (h:T203_3 prog K m0):W prog d c203_2 σ st Q:=
 q_ J (f_ H1 (l_ J B0 J J (ll_ J (b_ J J gtr_ (m_ (er_ (hQ J h)))))))
include kP0 H1 H3 B0 in
theorem w203_1 (h:T203_1 prog K P0 i3 m0):W prog d l203_0 σ st (thenW prog d (.loop l203_0) (blockW 0 (thenW prog d c203_2 Q))):=
 sq_ (q_ J (s_mvI H3 (f_ H1 (l_ J B0 J J (ll_ J (b_ J J lss_ (s_mvB J (em_ (g:=9) J (fun c=>gy_ J (s_mvI H3 (gy_ J (b_ J J leq_ (pt_ J J (e_ (cs_ J (fun e=>sk_ (w203_2 hQ kP0 H1 H3 B0 ((h.1 c).1 e))) (fun e=>ex_ (w203_3 hQ H1 B0 ((h.1 c).2 e)))))))))) (fun c=>z_ 3 J (e_ (cf_ J (ex_ (w203_3 hQ H1 B0 (h.2 c))))))))))))))
include H0 in
theorem w203_0 (h:T203_0 prog K s0):W prog d (sR 0 r203_0 (.seq (sR 1 r203_1 (.block 0 (.loop l203_0))) c203_2)) σ st Q:=
 q_ J (s_box H0 J (m_ (e_ (sq_ (q_ J (m_ (e_ (bk_ (h (I203_0 prog d Q ) (fun _ _ hb _ _ _ H1 H3 B0=>W.loop (w203_1 hQ (fun _ _ x=>x) H1 H3 B0 hb)) _ _ _ J J lk_here)))))))))
end
theorem p203 {prog:Prog}(hf:prog.fn 203=some pf203){s0:Sta}{K:Bool→Prop}(h:T203_0 prog K s0) :∃res0:Bool,K res0∧Pus prog 203 [s0.av] (.b res0):=
 P1 hf J (w203_0 (h1 J fun _=>J) J h)
def r204_0:List AI:=[oY 1 5 0,oC 2 (.b false)]
def r204_1:List AI:=[oF 5 2 1,oL 6 5,oJ 7 6,oV 8 .gtr 7 12,oM 9 8,gF 9 (oF 10 3 1),gF 9 (oL 11 10),gF 9 (oJ 12 11),gF 9 (oV 13 .gtr 12 12),oR 14 9 13,oM 15 14,gF 15 (oF 16 4 1),gF 15 (oL 17 16),gF 15 (oJ 18 17),gF 15 (oV 19 .gtr 18 20),oR 20 15 19,oM 21 20,gF 21 (oF 22 4 1),gF 21 (oL 23 22),gF 21 (oQ 24 162 [23]),oR 25 21 24]
def r204_2:List AI:=[oC 2 (.b true)]
def r204_3:List AI:=[oI 3 0]
def r204_4:List AI:=[oM 26 3,oF 27 2 1,oL 28 27,oJ 29 28,oT 30 .lss 26 29]
def r204_5:List AI:=[oF 33 2 1,oL 34 33,oM 35 3,oX 36 4 34 35,oK 37 4 36,oQ 38 80 [37]]
def r204_6:List AI:=[oC 2 (.b true)]
def r204_7:List AI:=[oM 31 3,oV 32 .add 31 1,oM 3 32]
def r204_8:List AI:=[oI 4 0]
def r204_9:List AI:=[oM 39 4,oF 40 3 1,oL 41 40,oJ 42 41,oT 43 .lss 39 42]
def r204_10:List AI:=[oF 46 3 1,oL 47 46,oM 48 4,oX 49 8 47 48,oF 50 3 49,oK 51 5 50,oQ 52 71 [51]]
def r204_11:List AI:=[oC 2 (.b true)]
def r204_12:List AI:=[oM 44 4,oV 45 .add 44 1,oM 4 45]
def r204_13:List AI:=[oC 2 (.b false)]
abbrev l204_0:AC:=(.seq (sR 4 r204_4 (.cond (.t 30) .skip (.exit 0))) (.seq (.block 1 (sR 6 r204_5 (.cond (.t 38) (sR 7 r204_6 .ret) .skip))) (.reg 5 r204_7)))
abbrev l204_1:AC:=(.seq (sR 9 r204_9 (.cond (.t 43) .skip (.exit 2))) (.seq (.block 3 (sR 11 r204_10 (.cond (.t 52) (sR 12 r204_11 .ret) .skip))) (.reg 10 r204_12)))
abbrev c204_2:AC:=(sR 13 r204_13 .ret)
abbrev c204_3:AC:=(.seq (sR 8 r204_8 (.block 2 (.loop l204_1))) c204_2)
abbrev c204_4:AC:=(.seq (sR 3 r204_3 (.block 0 (.loop l204_0))) c204_3)
abbrev b204:AC:=(sR 0 r204_0 (.seq (sR 1 r204_1 (.cond (.t 25) (sR 2 r204_2 .ret) .skip)) c204_4))
def pf204:AF:={ nt:=53,res:=[.tmp 2],body:=b204 }
abbrev I204_0 (prog:Prog)(d:Nat)(Q:AE→Sl→St→Prop)(i3:Int)(m0:Rou):Prop:=
  ∀(σ:Sl)(st:St)(v0:Nat),σ 1=.p (d,0) v0 0→σ 3=.i .i64 i3→lk st.bx (d,0)=some (v0,Rou.cs m0)→W prog d (.loop l204_0) σ st (blockW 0 (thenW prog d c204_3 Q))
abbrev I204_1 (prog:Prog)(d:Nat)(Q:AE→Sl→St→Prop)(i4:Int)(m0:Rou):Prop:=
  ∀(σ:Sl)(st:St)(v0:Nat),σ 1=.p (d,0) v0 0→σ 4=.i .i64 i4→lk st.bx (d,0)=some (v0,Rou.cs m0)→W prog d (.loop l204_1) σ st (blockW 2 (thenW prog d c204_2 Q))
def T204_5 (prog:Prog)(K:Bool→Prop) :Prop:=
  K false
def T204_4 (prog:Prog)(K:Bool→Prop)(P1:Int→Rou→Prop)(i4:Int)(m0:Rou):Prop:=
  (i4<(m0.defers.length:Int)→0≤i4∧∃e:Dfr,m0.defers[(i4).toNat]?=some e∧∃c,Pus prog 71 [e.arg.av] (.b c)∧(c=true→K true)∧(c=false→P1 (IntKind.i64.wrap (i4+1)) m0))∧(¬(i4<(m0.defers.length:Int))→T204_5 prog K )
def T204_3 (prog:Prog)(K:Bool→Prop)(m0:Rou):Prop:=
  ∀P1:Int→Rou→Prop,(∀(i4:Int)(m0:Rou),T204_4 prog K P1 i4 m0→P1 i4 m0)→P1 0 m0
def T204_2 (prog:Prog)(K:Bool→Prop)(P0:Int→Rou→Prop)(i3:Int)(m0:Rou):Prop:=
  (i3<(m0.frames.length:Int)→0≤i3∧∃e:Frm,m0.frames[(i3).toNat]?=some e∧∃c,Pus prog 80 [e.av] (.b c)∧(c=true→K true)∧(c=false→P0 (IntKind.i64.wrap (i3+1)) m0))∧(¬(i3<(m0.frames.length:Int))→T204_3 prog K m0)
def T204_1 (prog:Prog)(K:Bool→Prop)(m0:Rou):Prop:=
  ∀P0:Int→Rou→Prop,(∀(i3:Int)(m0:Rou),T204_2 prog K P0 i3 m0→P0 i3 m0)→P0 0 m0
def T204_0 (prog:Prog)(K:Bool→Prop)(x0:Rou):Prop:=
  ((x0.frames.length:Int)>12→K true)∧(¬((x0.frames.length:Int)>12)→((x0.defers.length:Int)>12→K true)∧(¬((x0.defers.length:Int)>12)→((x0.panics.length:Int)>20→K true)∧(¬((x0.panics.length:Int)>20)→∃c,Pus prog 162 [.sl .ext (List.map Pan.row x0.panics)] (.b c)∧(c=true→K true)∧(c=false→T204_1 prog K x0))))
section
variable {prog:Prog}{d:Nat}{Q:AE→Sl→St→Prop}{K:Bool→Prop}(hQ:H1 AV.b 2 Q K){σ:Sl}{st:St}
include hQ
variable {i4:Int}{m0:Rou}{P1:Int→Rou→Prop}{v0:Nat}{i3:Int}{P0:Int→Rou→Prop}{x0:Rou}
variable (kP1 :∀(i4:Int)(m0:Rou),P1 i4 m0→I204_1 prog d Q i4 m0) (kP0 :∀(i3:Int)(m0:Rou),P0 i3 m0→I204_0 prog d Q i3 m0)(H0:σ 0=x0.av)(H1:σ 1=.p (d,0) v0 0)(H4:σ 4=.i .i64 i4)(H3:σ 3=.i .i64 i3)(B0:lk st.bx (d,0)=some (v0,Rou.cs m0))
theorem w204_5 (h:T204_5 prog K ):W prog d c204_2 σ st Q:=
 q_ J (m_ (er_ (hQ J h)))
include kP1 H1 H4 B0 in
theorem w204_4 (h:T204_4 prog K P1 i4 m0):W prog d l204_1 σ st (thenW prog d (.loop l204_1) (blockW 2 (thenW prog d c204_2 Q))):=
 sq_ (q_ J (m_ (f_ H1 (l_ J B0 J J (ll_ J (b_ H4 J lss_ (e_ (cs_ J (fun c=>sk_ (sq_ (bk_ (q_ J (f_ H1 (l_ J B0 J J (m_ ((h.1 c).2.elim fun k j=>ia_ J H4 (h.1 c).1 j.1 (Dfr.row_eq k) J (ff_ J (lf_ J J J (j.2.elim fun _ e=>ca_ (sc1 J J) e.1 (e_ (cb_ J (fun i=>q_ J (m_ (er_ (hQ J (e.2.1 i))))) (fun i=>sk_ (W.reg0 J fun _ _=>m_ (b_ H4 J add_ (m_ (e_ (kP1 _ _ (e.2.2 i) _ _ _ H1 J B0))))))))))))))))))) (fun c=>ex_ (w204_5 hQ (h.2 c)))))))))))
include H1 B0 in
theorem w204_3 (h:T204_3 prog K m0):W prog d c204_3 σ st Q:=
 sq_ (q_ J (m_ (e_ (bk_ (h (I204_1 prog d Q ) (fun _ _ hb _ _ _ H1 H4 B0=>W.loop (w204_4 hQ (fun _ _ x=>x) H1 H4 B0 hb)) _ _ _ H1 J B0)))))
include kP0 H1 H3 B0 in
theorem w204_2 (h:T204_2 prog K P0 i3 m0):W prog d l204_0 σ st (thenW prog d (.loop l204_0) (blockW 0 (thenW prog d c204_3 Q))):=
 sq_ (q_ J (m_ (f_ H1 (l_ J B0 J J (ll_ J (b_ H3 J lss_ (e_ (cs_ J (fun c=>sk_ (sq_ (bk_ (q_ J (f_ H1 (l_ J B0 J J (m_ ((h.1 c).2.elim fun k j=>ia_ J H3 (h.1 c).1 j.1 (Frm.row_eq k) J (lf_ J J J (j.2.elim fun _ e=>ca_ (sc1 J J) e.1 (e_ (cb_ J (fun i=>q_ J (m_ (er_ (hQ J (e.2.1 i))))) (fun i=>sk_ (W.reg0 J fun _ _=>m_ (b_ H3 J add_ (m_ (e_ (kP0 _ _ (e.2.2 i) _ _ _ H1 J B0)))))))))))))))))) (fun c=>ex_ (w204_3 hQ H1 B0 (h.2 c)))))))))))
include H1 B0 in
theorem w204_1 (h:T204_1 prog K m0):W prog d c204_4 σ st Q:=
 sq_ (q_ J (m_ (e_ (bk_ (h (I204_0 prog d Q ) (fun _ _ hb _ _ _ H1 H3 B0=>W.loop (w204_2 hQ (fun _ _ x=>x) H1 H3 B0 hb)) _ _ _ H1 J B0)))))
include H0 in
theorem w204_0 (h:T204_0 prog K x0):W prog d (sR 0 r204_0 (.seq (sR 1 r204_1 (.cond (.t 25) (sR 2 r204_2 .ret) .skip)) c204_4)) σ st Q:=
 q_ J (s_box H0 J (m_ (e_ (sq_ (q_ J (f_ J (l_ J lk_here J J (ll_ J (b_ J J gtr_ (s_mvB J (em_ (g:=9) J (fun c=>z_ 16 J (e_ (ct_ J (q_ J (m_ (er_ (hQ J (h.1 c)))))))) (fun c=>gy_ J (f_ J (gy_ J (l_ J lk_here J J (gy_ J (ll_ J (gy_ J (b_ J J gtr_ (z_ 2 J (em_ (g:=15) J (fun e=>z_ 10 J (e_ (ct_ J (q_ J (m_ (er_ (hQ J ((h.2 c).1 e)))))))) (fun e=>gy_ J (f_ J (gy_ J (l_ J lk_here J J (gy_ J (ll_ J (gy_ J (b_ J J gtr_ (z_ 2 J (em_ (g:=21) J (fun j=>z_ 4 J (e_ (ct_ J (q_ J (m_ (er_ (hQ J (((h.2 c).2 e).1 j)))))))) (fun j=>gy_ J (f_ J (gy_ J (l_ J lk_here J J (gy_ J ((((h.2 c).2 e).2 j).elim fun _ i=>ca_ (sc1 J J) i.1 (pf_ J J (e_ (cb_ J (fun k=>q_ J (m_ (er_ (hQ J (i.2.1 k))))) (fun k=>sk_ (w204_1 hQ J lk_here (i.2.2 k)))))))))))))))))))))))))))))))))))))))))))
end
theorem p204 {prog:Prog}(hf:prog.fn 204=some pf204){x0:Rou}{K:Bool→Prop}(h:T204_0 prog K x0) :∃res0:Bool,K res0∧Pus prog 204 [x0.av] (.b res0):=
 P1 hf J (w204_0 (h1 J fun _=>J) J h)
abbrev H202 (Q:AE→Sl→St→Prop)(K:Bool→Prop):Prop:=∀(σ:Sl)(st:St)(res0:Bool),σ 12=.b res0→K res0→Q .ret σ st
section
variable {prog:Prog}{d:Nat}{Q:AE→Sl→St→Prop}{K:Bool→Prop}(hQ:H202 Q K){σ:Sl}{st:St}
include hQ
end
end Go.AM

namespace Go.AM
open Go
def pf217:AF:={ nt:=8,res:=[.tmp 2],fz:=[],body:=
  (.seq (.reg 0 [⟨(some 2),.mv (.c (.i .i64 0)),none⟩])
  (.seq (.reg 1000001 [⟨(some 3),.mv (.t 0),none⟩,
    ⟨(some 4),.nilc (.t 3),none⟩,
    ⟨(some 5),.fad 1 (.t 4),none⟩,
    ⟨(some 6),.load 1 false (.t 5),none⟩,
    ⟨(some 7),.len false (.t 6),none⟩,
    ⟨(some 2),.mv (.t 7),none⟩])
  .ret)) }
end Go.AM

namespace Go.AM
open Go
set_option linter.unusedVariables false
set_option linter.unusedSimpArgs false
set_option maxRecDepth 4000
set_option maxHeartbeats 1000000
set_option maxHeartbeats 2000000
attribute [local irreducible] Decidable.decide W WO fillCells fillRows
def r306_0:List AI:=[oC 4 (.b false)]
def r306_1:List AI:=[oM 5 0,oM 6 1,oQ 7 46 [5,6],oM 4 7]
abbrev b306:AC:=(sR 0 r306_0 (sR 1 r306_1 .ret))
def pf306:AF:={ nt:=8,res:=[.tmp 4],body:=b306 }
def T306_0 (prog:Prog)(K:Bool→Prop)(s0:BS)(prefix1:BS):Prop:=
  ∃c,Pus prog 46 [.s s0,.s prefix1] (.b c)∧K c
section
variable {prog:Prog}{d:Nat}{Q:AE→Sl→St→Prop}{K:Bool→Prop}(hQ:H1 AV.b 4 Q K){σ:Sl}{st:St}
include hQ
variable {s0 prefix1:BS}
variable (H0:σ 0=.s s0)(H1:σ 1=.s prefix1)
include H0 H1 in
theorem w306_0 (h:T306_0 prog K s0 prefix1):W prog d (sR 0 r306_0 (sR 1 r306_1 .ret)) σ st Q:=
 q_ J (m_ (e_ (q_ J (m_ (m_ (h.elim fun _ c=>ca_ (sc2 H0 H1 J) c.1 (m_ (er_ (hQ J c.2)))))))))
end
theorem p306 {prog:Prog}(hf:prog.fn 306=some pf306){s0:BS}{prefix1:BS}{K:Bool→Prop}(h:T306_0 prog K s0 prefix1) :∃res0:Bool,K res0∧Pus prog 306 [.s s0,.s prefix1] (.b res0):=
 P1 hf J (w306_0 (h1 J fun _=>J) J J h)
def r316_0:List AI:=[oC 4 (.s [])]
def r316_1:List AI:=[oM 5 0,oM 6 1,oQ 7 322 [5,6],oM 4 7]
abbrev b316:AC:=(sR 0 r316_0 (sR 1 r316_1 .ret))
def pf316:AF:={ nt:=8,res:=[.tmp 4],body:=b316 }
def T316_0 (prog:Prog)(K:BS→Prop)(s0:BS)(prefix1:BS):Prop:=
  ∃c,Pus prog 322 [.s s0,.s prefix1] (.s c)∧K c
section
variable {prog:Prog}{d:Nat}{Q:AE→Sl→St→Prop}{K:BS→Prop}(hQ:H1 AV.s 4 Q K){σ:Sl}{st:St}
include hQ
variable {s0 prefix1:BS}
variable (H0:σ 0=.s s0)(H1:σ 1=.s prefix1)
include H0 H1 in
theorem w316_0 (h:T316_0 prog K s0 prefix1):W prog d (sR 0 r316_0 (sR 1 r316_1 .ret)) σ st Q:=
 q_ J (m_ (e_ (q_ J (m_ (m_ (h.elim fun _ c=>ca_ (sc2 H0 H1 J) c.1 (m_ (er_ (hQ J c.2)))))))))
end
theorem p316 {prog:Prog}(hf:prog.fn 316=some pf316){s0:BS}{prefix1:BS}{K:BS→Prop}(h:T316_0 prog K s0 prefix1) :∃res0:BS,K res0∧Pus prog 316 [.s s0,.s prefix1] (.s res0):=
 P1 hf J (w316_0 (h1 J fun _=>J) J J h)
def r322_0:List AI:=[oC 4 (.s [])]
def r322_1:List AI:=[oM 5 0,oM 6 1,oQ 7 46 [5,6]]
def r322_2:List AI:=[oM 8 0,oM 9 1,oH 10 9,oO 11 (.slS (.t 8) (some (.t 10)) none),oM 4 11]
def r322_3:List AI:=[oM 12 0,oM 4 12]
abbrev b322:AC:=(sR 0 r322_0 (.seq (sR 1 r322_1 (.cond (.t 7) (sR 2 r322_2 .ret) .skip)) (sR 3 r322_3 .ret)))
def pf322:AF:={ nt:=13,res:=[.tmp 4],body:=b322 }
def T322_0 (prog:Prog)(K:BS→Prop)(s0:BS)(prefix1:BS):Prop:=
  ∃c,Pus prog 46 [.s s0,.s prefix1] (.b c)∧(c=true→0≤(prefix1.length:Int)∧(prefix1.length:Int).toNat≤s0.length∧K (s0.drop (prefix1.length:Int).toNat))∧(c=false→K s0)
section
variable {prog:Prog}{d:Nat}{Q:AE→Sl→St→Prop}{K:BS→Prop}(hQ:H1 AV.s 4 Q K){σ:Sl}{st:St}
include hQ
variable {s0 prefix1:BS}
variable (H0:σ 0=.s s0)(H1:σ 1=.s prefix1)
include H0 H1 in
theorem w322_0 (h:T322_0 prog K s0 prefix1):W prog d (sR 0 r322_0 (.seq (sR 1 r322_1 (.cond (.t 7) (sR 2 r322_2 .ret) .skip)) (sR 3 r322_3 .ret))) σ st Q:=
 q_ J (m_ (e_ (sq_ (q_ J (m_ (m_ (h.elim fun _ c=>ca_ (sc2 H0 H1 J) c.1 (e_ (cb_ J (fun e=>q_ J (m_ (m_ (ln_ H1 (s_slS_lo H0 J (c.2.1 e).1 (c.2.1 e).2.1 (m_ (er_ (hQ J (c.2.1 e).2.2)))))))) (fun e=>sk_ (q_ J (m_ (m_ (er_ (hQ H0 (c.2.2 e))))))))))))))))
end
theorem p322 {prog:Prog}(hf:prog.fn 322=some pf322){s0:BS}{prefix1:BS}{K:BS→Prop}(h:T322_0 prog K s0 prefix1) :∃res0:BS,K res0∧Pus prog 322 [.s s0,.s prefix1] (.s res0):=
 P1 hf J (w322_0 (h1 J fun _=>J) J J h)
def r260_0:List AI:=[oC 4 (.s []),oC 5 (.s []),oC 6 (.b false)]
def r260_1:List AI:=[oM 7 0,oM 8 1,oQ 9 266 [7,8],oE 10 0 9,oE 11 1 9,oE 12 2 9,oM 4 10,oM 5 11,oM 6 12]
abbrev b260:AC:=(sR 0 r260_0 (sR 1 r260_1 .ret))
def pf260:AF:={ nt:=13,res:=[.tmp 4,.tmp 5,.tmp 6],body:=b260 }
abbrev H260 (Q:AE→Sl→St→Prop)(K:BS→BS→Bool→Prop):Prop:=∀(σ:Sl)(st:St)(res0:BS)(res1:BS)(res2:Bool),σ 4=.s res0→σ 5=.s res1→σ 6=.b res2→K res0 res1 res2→Q .ret σ st
def T260_0 (prog:Prog)(K:BS→BS→Bool→Prop)(s0:BS)(sep1:BS):Prop:=
  ∃e c i,Pus prog 266 [.s s0,.s sep1] (.tup [.s e,.s c,.b i])∧K e c i
section
variable {prog:Prog}{d:Nat}{Q:AE→Sl→St→Prop}{K:BS→BS→Bool→Prop}(hQ:H260 Q K){σ:Sl}{st:St}
include hQ
variable {s0 sep1:BS}
variable (H0:σ 0=.s s0)(H1:σ 1=.s sep1)
include H0 H1 in
theorem w260_0 (h:T260_0 prog K s0 sep1):W prog d (sR 0 r260_0 (sR 1 r260_1 .ret)) σ st Q:=
 au trivial
end
theorem p260 {prog:Prog}(hf:prog.fn 260=some pf260){s0:BS}{sep1:BS}{K:BS→BS→Bool→Prop}(h:T260_0 prog K s0 sep1) :∃res0:BS,∃res1:BS,∃res2:Bool,K res0 res1 res2∧Pus prog 260 [.s s0,.s sep1] (.tup [.s res0,.s res1,.b res2]):=by
  obtain ⟨v,hv,res0,res1,res2,hk,rfl⟩:=Pus.of (K:=fun v=>∃res0:BS,∃res1:BS,∃res2:Bool,K res0 res1 res2∧v=.tup [.s res0,.s res1,.b res2]) hf rfl (w260_0 (σ:=sl0 [.s s0,.s sep1]) (fun σ st   res0 res1 res2 H4 H5 H6 hk=>⟨.tup [.s res0,.s res1,.b res2],by simp only [pf260,ares,aresL,H4,H5,H6,ares1,Option.map_some],_,rfl,res0,res1,res2,hk,rfl⟩) rfl rfl h)
  exact ⟨res0,res1,res2,hk,hv⟩
def r266_0:List AI:=[oC 4 (.s []),oC 5 (.s []),oC 6 (.b false)]
def r266_1:List AI:=[oM 8 0,oM 9 1,oQ 10 197 [8,9],oM 7 10]
def r266_2:List AI:=[oM 11 7,oV 12 .geq 11 0]
def r266_3:List AI:=[oM 13 0,oM 14 7,oO 15 (.slS (.t 13) none (some (.t 14))),oM 16 0,oM 17 7,oM 18 1,oH 19 18,oT 20 .add 17 19,oO 21 (.slS (.t 16) (some (.t 20)) none),oM 4 15,oM 5 21,oC 6 (.b true)]
def r266_4:List AI:=[oM 22 0,oM 4 22,oC 5 (.s []),oC 6 (.b false)]
abbrev b266:AC:=(sR 0 r266_0 (.seq (sR 1 r266_1 (sR 2 r266_2 (.cond (.t 12) (sR 3 r266_3 .ret) .skip))) (sR 4 r266_4 .ret)))
def pf266:AF:={ nt:=23,res:=[.tmp 4,.tmp 5,.tmp 6],body:=b266 }
abbrev H266 (Q:AE→Sl→St→Prop)(K:BS→BS→Bool→Prop):Prop:=∀(σ:Sl)(st:St)(res0:BS)(res1:BS)(res2:Bool),σ 4=.s res0→σ 5=.s res1→σ 6=.b res2→K res0 res1 res2→Q .ret σ st
def T266_0 (prog:Prog)(K:BS→BS→Bool→Prop)(s0:BS)(sep1:BS):Prop:=
  ∃c,Pus prog 197 [.s s0,.s sep1] (.i .i64 c)∧(c≥0→0≤c∧(c).toNat≤s0.length∧0≤(IntKind.i64.wrap (c+(sep1.length:Int)))∧(IntKind.i64.wrap (c+(sep1.length:Int))).toNat≤s0.length∧K (s0.take (c).toNat) (s0.drop (IntKind.i64.wrap (c+(sep1.length:Int))).toNat) true)∧(¬(c≥0)→K s0 ([]:BS) false)
section
variable {prog:Prog}{d:Nat}{Q:AE→Sl→St→Prop}{K:BS→BS→Bool→Prop}(hQ:H266 Q K){σ:Sl}{st:St}
include hQ
variable {s0 sep1:BS}
variable (H0:σ 0=.s s0)(H1:σ 1=.s sep1)
include H0 H1 in
theorem w266_0 (h:T266_0 prog K s0 sep1):W prog d (sR 0 r266_0 (.seq (sR 1 r266_1 (sR 2 r266_2 (.cond (.t 12) (sR 3 r266_3 .ret) .skip))) (sR 4 r266_4 .ret))) σ st Q:=
 au trivial
end
theorem p266 {prog:Prog}(hf:prog.fn 266=some pf266){s0:BS}{sep1:BS}{K:BS→BS→Bool→Prop}(h:T266_0 prog K s0 sep1) :∃res0:BS,∃res1:BS,∃res2:Bool,K res0 res1 res2∧Pus prog 266 [.s s0,.s sep1] (.tup [.s res0,.s res1,.b res2]):=by
  obtain ⟨v,hv,res0,res1,res2,hk,rfl⟩:=Pus.of (K:=fun v=>∃res0:BS,∃res1:BS,∃res2:Bool,K res0 res1 res2∧v=.tup [.s res0,.s res1,.b res2]) hf rfl (w266_0 (σ:=sl0 [.s s0,.s sep1]) (fun σ st   res0 res1 res2 H4 H5 H6 hk=>⟨.tup [.s res0,.s res1,.b res2],by simp only [pf266,ares,aresL,H4,H5,H6,ares1,Option.map_some],_,rfl,res0,res1,res2,hk,rfl⟩) rfl rfl h)
  exact ⟨res0,res1,res2,hk,hv⟩
def r317_0:List AI:=[oI 2 0,oC 3 (.b false)]
def r317_1:List AI:=[oM 7 0,oQ 8 21 [7],oM 6 8,oE 9 0 6,oE 10 1 6,oM 4 9,oM 5 10]
def r317_2:List AI:=[oM 11 4,oM 12 5,oV 13 .eql 12 0,oM 2 11,oM 3 13]
abbrev b317:AC:=(sR 0 r317_0 (sR 1 r317_1 (sR 2 r317_2 .ret)))
def pf317:AF:={ nt:=14,res:=[.tmp 2,.tmp 3],body:=b317 }
def T317_0 (prog:Prog)(K:Int→Bool→Prop)(s0:BS):Prop:=
  ∃e c,Pus prog 21 [.s s0] (.tup [.i .i64 e,.i .i64 c])∧K e (decide (c=0))
section
variable {prog:Prog}{d:Nat}{Q:AE→Sl→St→Prop}{K:Int→Bool→Prop}(hQ:H2 (AV.i .i64) AV.b 2 3 Q K){σ:Sl}{st:St}
include hQ
variable {s0:BS}
variable (H0:σ 0=.s s0)
include H0 in
theorem w317_0 (h:T317_0 prog K s0):W prog d (sR 0 r317_0 (sR 1 r317_1 (sR 2 r317_2 .ret))) σ st Q:=
 q_ J (m_ (m_ (e_ (q_ J (m_ (x2 h fun _ _ c=>ca_ (sc1 H0 J) c.1 (m_ (x_ J J (x_ J J (m_ (m_ (e_ (q_ J (m_ (m_ (b_ J J eql_ (m_ (m_ (er_ (hQ J J c.2))))))))))))))))))))
end
theorem p317 {prog:Prog}(hf:prog.fn 317=some pf317){s0:BS}{K:Int→Bool→Prop}(h:T317_0 prog K s0) :∃res0:Int,∃res1:Bool,K res0 res1∧Pus prog 317 [.s s0] (.tup [.i .i64 res0,.b res1]):=
 P2 hf J (w317_0 (h2 J fun _ _=>J) J h)
def r308_0:List AI:=[oO 2 (.alloc [z8,z6,zl,zl,zl]),oC 3 (.b false)]
def r308_1:List AI:=[oM 12 0,oO 13 (.call false 260 [(.t 12),(.c (.s [58,32]))]),oM 11 13,oE 14 0 11,oE 15 1 11,oE 16 2 11,oM 4 14,oM 5 15,oM 6 16]
def r308_2:List AI:=[oM 18 5,oO 19 (.call false 36 [(.t 18),(.c (.s [98,108,111,99,107,101,100,32]))]),oM 17 19,oE 20 0 17,oE 21 1 17,oM 7 20,oM 8 21]
def r308_3:List AI:=[oM 23 6,oZ 24 23,oM 22 24]
def r308_4:List AI:=[oO 25 (.build [z8,z6,zl,zl,zl] []),oS 5 2 25,oC 3 (.b false)]
def r308_5:List AI:=[oM 27 8,oM 26 27]
def r308_6:List AI:=[oM 29 7,oQ 30 21 [29],oM 28 30,oE 31 0 28,oE 32 1 28,oM 9 31,oM 10 32]
def r308_7:List AI:=[oM 33 9,oO 34 (.build [z8,z6,zl,zl,zl] [(0,1,(.c (.i .u8 2))),(1,1,(.t 33))]),oM 35 10,oV 36 .eql 35 0,oS 5 2 34,oM 3 36]
def r308_8:List AI:=[oM 38 5,oB 39 .eql (.t 38) (.c (.s [114,101,97,100,121])),oM 37 39]
def r308_9:List AI:=[oO 40 (.build [z8,z6,zl,zl,zl] [(0,1,(.c (.i .u8 1)))]),oS 5 2 40,oC 3 (.b true)]
def r308_10:List AI:=[oO 41 (.build [z8,z6,zl,zl,zl] [(0,1,(.c (.i .u8 3)))]),oM 42 5,oB 43 .eql (.t 42) (.c (.s [100,111,110,101])),oS 5 2 41,oM 3 43]
abbrev b308:AC:=(sR 0 r308_0 (sR 1 r308_1 (sR 2 r308_2 (.seq (.block 0 (sR 3 r308_3 (.cond (.t 22) (sR 4 r308_4 .ret) (sR 5 r308_5 (.cond (.t 26) (sR 6 r308_6 (sR 7 r308_7 .ret)) (sR 8 r308_8 (.cond (.t 37) (sR 9 r308_9 .ret) .skip))))))) (sR 10 r308_10 .ret)))))
def pf308:AF:={ nt:=44,res:=[.cell 2 5 true,.tmp 3],body:=b308 }
abbrev H308 (d:Nat)(st0:St)(Q:AE→Sl→St→Prop)(K:Rou→Bool→Prop):Prop:=∀(σ:Sl)(st:St)(k0:Key)(v0:Nat)(res0:Rou)(res1:Bool),σ 2=.p k0 v0 0→lk st.bx k0=some (v0,[.i .u8 res0.status,.i .i64 res0.key,.sl .full (List.map Frm.row res0.frames),.sl .full (List.map Dfr.row res0.defers),.sl .full (List.map Pan.row res0.panics)])→σ 3=.b res1→Fr d (d,0) st0.bx st0.ow st.bx st.ow→K res0 res1→Q .ret σ st
def T308_0 (prog:Prog)(K:Rou→Bool→Prop)(s0:BS):Prop:=
  ∃c e j,Pus prog 260 [.s s0,.s ([58,32]:BS)] (.tup [.s c,.s e,.b j])∧∃p k,Pus prog 36 [.s e,.s ([98,108,111,99,107,101,100,32]:BS)] (.tup [.s p,.b k])∧((!j)=true→K (Rou.mk 0 0 ([]:List Frm) ([]:List Dfr) ([]:List Pan)) false)∧((!j)=false→(k=true→∃q o,Pus prog 21 [.s p] (.tup [.i .i64 q,.i .i64 o])∧K (Rou.mk 2 q ([]:List Frm) ([]:List Dfr) ([]:List Pan)) (decide (o=0)))∧(k=false→(e=([114,101,97,100,121]:BS)→K (Rou.mk 1 0 ([]:List Frm) ([]:List Dfr) ([]:List Pan)) true)∧(¬(e=([114,101,97,100,121]:BS))→K (Rou.mk 3 0 ([]:List Frm) ([]:List Dfr) ([]:List Pan)) (decide (e=([100,111,110,101]:BS))))))
section
variable {prog:Prog}{d:Nat}{Q:AE→Sl→St→Prop}{K:Rou→Bool→Prop}{st0:St}(hQ:H308 d st0 Q K){σ:Sl}{st:St}
include hQ
variable {s0:BS}
variable (H0:σ 0=.s s0)(FR:Fr d (d,0) st0.bx st0.ow st.bx st.ow)
include H0 FR in
theorem w308_0 (h:T308_0 prog K s0):W prog d (sR 0 r308_0 (sR 1 r308_1 (sR 2 r308_2 (.seq (.block 0 (sR 3 r308_3 (.cond (.t 22) (sR 4 r308_4 .ret) (sR 5 r308_5 (.cond (.t 26) (sR 6 r308_6 (sR 7 r308_7 .ret)) (sR 8 r308_8 (.cond (.t 37) (sR 9 r308_9 .ret) .skip))))))) (sR 10 r308_10 .ret))))) σ st Q:=
 sq_ (W.reg (s_alloc (m_ (e_ (q_ J (m_ (x2 h fun _ _ q=>q.elim fun _ p=>ca_ (sc2 H0 J J) p.1 (m_ (x_ J J (x_ J J (x_ J J (m_ (m_ (m_ (e_ (q_ J (m_ (x2 p.2 fun _ _ c=>ca_ (sc2 J J J) c.1 (m_ (x_ J J (x_ J J (m_ (m_ (e_ (sq_ (bk_ (q_ J (m_ (nt_ J (m_ (e_ (cb_ J (fun e=>q_ J (s_build f_nil (so_ J (show lk _ (d,0)=some (_,([.i .u8 0,.i .i64 0,.sl .full (List.map Frm.row ([]:List Frm)),.sl .full (List.map Dfr.row ([]:List Dfr)),.sl .full (List.map Pan.row ([]:List Pan))]:List AV)) from lk_here) J J J (m_ (er_ (hQ _ _ _ _ _ _ J lk_here J (Fr.box (Fr.box FR)) (c.2.1 e))))))) (fun e=>q_ J (m_ (m_ (e_ (cb_ J (fun j=>q_ J (m_ (x2 ((c.2.2 e).1 j) fun _ _ o=>ca_ (sc1 J J) o.1 (m_ (x_ J J (x_ J J (m_ (m_ (e_ (q_ J (m_ (s_build (f_cons J J (f_cons J J f_nil)) (m_ (b_ J J eql_ (so_ J (show lk _ (d,0)=some (_,([.i .u8 0,.i .i64 0,.sl .full (List.map Frm.row ([]:List Frm)),.sl .full (List.map Dfr.row ([]:List Dfr)),.sl .full (List.map Pan.row ([]:List Pan))]:List AV)) from lk_here) J J J (m_ (er_ (hQ _ _ _ _ _ _ J lk_here J (Fr.box (Fr.box FR)) o.2)))))))))))))))))) (fun j=>q_ J (m_ (b_ J J seq_ (m_ (e_ (cs_ J (fun k=>q_ J (s_build (f_cons J J f_nil) (so_ J (show lk _ (d,0)=some (_,([.i .u8 0,.i .i64 0,.sl .full (List.map Frm.row ([]:List Frm)),.sl .full (List.map Dfr.row ([]:List Dfr)),.sl .full (List.map Pan.row ([]:List Pan))]:List AV)) from lk_here) J J J (m_ (er_ (hQ _ _ _ _ _ _ J lk_here J (Fr.box (Fr.box FR)) (((c.2.2 e).2 j).1 k))))))) (fun k=>sk_ (q_ J (s_build (f_cons J J f_nil) (m_ (b_ J J seq_ (so_ J (show lk _ (d,0)=some (_,([.i .u8 0,.i .i64 0,.sl .full (List.map Frm.row ([]:List Frm)),.sl .full (List.map Dfr.row ([]:List Dfr)),.sl .full (List.map Pan.row ([]:List Pan))]:List AV)) from lk_here) J J J (m_ (er_ (hQ _ _ _ _ _ _ J lk_here J (Fr.box (Fr.box FR)) (((c.2.2 e).2 j).2 k)))))))))))))))))))))))))))))))))))))))))))))))))))))
end
theorem p308 {prog:Prog}(hf:prog.fn 308=some pf308){s0:BS}{K:Rou→Bool→Prop}(h:T308_0 prog K s0):PuN prog 308 [.s s0] (fun r=>∃res0:Rou,∃res1:Bool,(r=.tup [.ag [.i .u8 res0.status,.i .i64 res0.key,.sl .full (List.map Frm.row res0.frames),.sl .full (List.map Dfr.row res0.defers),.sl .full (List.map Pan.row res0.panics)],.b res1])∧K res0 res1):=
  PuN.of hf rfl fun d st=>w308_0 (st0:=st) (Q:=fun e σ st'=>(e=.normal∨e=.ret)∧∃r,ares σ st' pf308.res=some r∧_∧Fr d (d,0) st.bx st.ow st'.bx st'.ow) (fun σ st' k0 v0  res0 res1 H2 HB2 H3 hf hk=>⟨.inr rfl,.tup [.ag [.i .u8 res0.status,.i .i64 res0.key,.sl .full (List.map Frm.row res0.frames),.sl .full (List.map Dfr.row res0.defers),.sl .full (List.map Pan.row res0.panics)],.b res1],by simp only [pf308,ares,aresL,ares_cellA (n:=5) H2 HB2 rfl,H3,ares_tmp,Option.map_some,ares_cellA (n:=5) H2 HB2 rfl,H3],⟨res0,res1,rfl,hk⟩,hf⟩) (σ:=sl0 [.s s0]) rfl Fr.refl h
def r318_0:List AI:=[oY 2 3 0,oO 4 (.alloc [z6,z6,zb,z8,z6,zs,zl,zb]),oC 5 (.b false)]
def r318_1:List AI:=[oO 6 (.alloc [z6,z6,zb,z8,z6,zs,zl,zb])]
def r318_2:List AI:=[oM 14 1,oO 15 (.call false 323 [(.t 14),(.c (.s [32])),(.c (.i .i64 4))]),oM 7 15]
def r318_3:List AI:=[oM 16 7,oJ 17 16,oV 18 .lss 17 4]
def r318_4:List AI:=[oK 19 8 6,oS 8 4 19,oC 5 (.b false)]
def r318_5:List AI:=[oC 8 (.b false),oC 9 (.b false)]
def r318_6:List AI:=[oM 21 7,oO 22 (.iaL 1 (.t 21) (.c (.i .i64 1))),oL 23 22,oQ 24 317 [23],oM 20 24,oE 25 0 20,oE 26 1 20,oF 27 0 6,oS 1 27 25,oM 8 26]
def r318_7:List AI:=[oM 29 7,oO 30 (.iaL 1 (.t 29) (.c (.i .i64 2))),oL 31 30,oQ 32 317 [31],oM 28 32,oE 33 0 28,oE 34 1 28,oF 35 1 6,oS 1 35 33,oM 9 34]
def r318_8:List AI:=[oM 36 8,oZ 37 36,oM 38 37,gF 38 (oM 39 9),gF 38 (oZ 40 39),oR 41 38 40,oM 42 41,gF 42 (oF 43 1 6),gF 42 (oL 44 43),gF 42 (oV 45 .lss 44 0),oR 46 42 45,oM 47 46,gF 47 (oF 48 1 6),gF 47 (oL 49 48),gF 47 (oF 50 2 2),gF 47 (oL 51 50),gF 47 (oJ 52 51),gF 47 (oT 53 .geq 49 52),oR 54 47 53]
def r318_9:List AI:=[oK 55 8 6,oS 8 4 55,oC 5 (.b false)]
def r318_10:List AI:=[oF 57 2 2,oL 58 57,oF 59 1 6,oL 60 59,oX 61 7 58 60,oF 62 0 61,oL 63 62,oQ 64 11 [63],oM 56 64,oE 65 0 56,oE 66 1 56,oM 10 65,oM 11 66]
def r318_11:List AI:=[oM 68 7,oO 69 (.iaL 1 (.t 68) (.c (.i .i64 3))),oL 70 69,oM 71 10,oQ 72 36 [70,71],oM 67 72,oE 73 0 67,oE 74 1 67,oM 12 73,oM 8 74]
def r318_12:List AI:=[oM 75 11,oV 76 .neq 75 0,oM 77 76,gF 77 (oM 78 8),gF 77 (oZ 79 78),oR 80 77 79]
def r318_13:List AI:=[oK 81 8 6,oS 8 4 81,oC 5 (.b false)]
def r318_14:List AI:=[oM 82 12,oB 83 .eql (.t 82) (.c (.s []))]
def r318_15:List AI:=[oK 84 8 6,oS 8 4 84,oC 5 (.b true)]
def r318_16:List AI:=[oM 86 12,oO 87 (.call false 316 [(.t 86),(.c (.s [32,119,105,116,104,32]))]),oQ 88 74 [87],oM 85 88,oE 89 0 85,oE 90 1 85,oO 13 (.alloc [z8,z6,zs,zl,zb]),oS 5 13 89,oM 11 90]
def r318_17:List AI:=[oO 91 (.ldf 5 true (.t 13)),oF 92 2 6,⟨none,.store 1 (.t 92) (.c (.b true)),none⟩,oF 93 3 6,oS 5 93 91]
def r318_18:List AI:=[oK 94 8 6,oM 95 11,oV 96 .eql 95 0,oS 8 4 94,oM 5 96]
abbrev c318_0:AC:=(.seq (sR 14 r318_14 (.cond (.t 83) (sR 15 r318_15 .ret) .skip)) (.seq (sR 16 r318_16 (.frz 13)) (sR 17 r318_17 (sR 18 r318_18 .ret))))
abbrev c318_1:AC:=(sR 10 r318_10 (sR 11 r318_11 (.seq (sR 12 r318_12 (.cond (.t 80) (sR 13 r318_13 .ret) .skip)) c318_0)))
abbrev c318_2:AC:=(.seq (sR 8 r318_8 (.cond (.t 54) (sR 9 r318_9 .ret) .skip)) c318_1)
abbrev c318_3:AC:=(sR 7 r318_7 c318_2)
abbrev c318_4:AC:=(sR 6 r318_6 c318_3)
abbrev c318_5:AC:=(sR 5 r318_5 c318_4)
abbrev c318_6:AC:=(.seq (sR 3 r318_3 (.cond (.t 18) (sR 4 r318_4 .ret) .skip)) c318_5)
abbrev c318_7:AC:=(sR 2 r318_2 c318_6)
abbrev c318_8:AC:=(sR 1 r318_1 c318_7)
abbrev b318:AC:=(sR 0 r318_0 c318_8)
def pf318:AF:={ nt:=97,res:=[.cell 4 8 true,.tmp 5],fz:=[13],body:=b318 }
abbrev H318 (Q:AE→Sl→St→Prop)(K:Dfr→Bool→Prop):Prop:=∀(σ:Sl)(st:St)(k0:Key)(v0:Nat)(o0_0:Own)(res0:Dfr)(res1:Bool),σ 4=.p k0 v0 0→lk st.bx k0=some (v0,[.i .i64 res0.frame,.i .i64 res0.func,.b res0.hasArg,.i .u8 res0.arg.kind,.i .i64 res0.arg.int,.s res0.arg.text,.sl o0_0 (List.map Val.row res0.arg.list),.b res0.arg.cut])→σ 5=.b res1→K res0 res1→Q .ret σ st
def T318_9 (prog:Prog)(K:Dfr→Bool→Prop)(rest12:BS)(m1:Dfr)(m4096:Dfr):Prop:=
  (rest12=([]:BS)→K m4096 true)∧(¬(rest12=([]:BS))→∃c,Pus prog 316 [.s rest12,.s ([32,119,105,116,104,32]:BS)] (.s c)∧∃j:Val,∃e,Pus prog 74 [.s c] (.tup [j.av,.i .i64 e])∧K (Dfr.mk m4096.frame m4096.func true j) (decide (e=0)))
def T318_8 (prog:Prog)(K:Dfr→Bool→Prop)(w7:LB)(m0:Img)(m1:Dfr)(m4096:Dfr):Prop:=
  0≤m4096.func∧∃k:Fun,m0.funcs[(m4096.func).toNat]?=some k∧∃o c,Pus prog 11 [.s k.name] (.tup [.s o,.i .i64 c])∧∃j,w7[3]?=some j∧∃p e,Pus prog 36 [.s j,.s o] (.tup [.s p,.b e])∧(c≠0→K m4096 false)∧(¬(c≠0)→((!e)=true→K m4096 false)∧((!e)=false→T318_9 prog K p m1 m4096))
def T318_7 (prog:Prog)(K:Dfr→Bool→Prop)(w7:LB)(ok8:Bool)(is9:Bool)(m0:Img)(m1:Dfr)(m4096:Dfr):Prop:=
  ((!ok8)=true→K m4096 false)∧((!ok8)=false→((!is9)=true→K m4096 false)∧((!is9)=false→(m4096.func<0→K m4096 false)∧(¬(m4096.func<0)→(m4096.func≥(m0.funcs.length:Int)→K m4096 false)∧(¬(m4096.func≥(m0.funcs.length:Int))→T318_8 prog K w7 m0 m1 m4096))))
def T318_6 (prog:Prog)(K:Dfr→Bool→Prop)(w7:LB)(ok8:Bool)(m0:Img)(m1:Dfr)(m4096:Dfr):Prop:=
  ∃c,w7[2]?=some c∧∃j e,Pus prog 317 [.s c] (.tup [.i .i64 j,.b e])∧T318_7 prog K w7 ok8 e m0 m1 (Dfr.mk m4096.frame j m4096.hasArg m4096.arg)
def T318_5 (prog:Prog)(K:Dfr→Bool→Prop)(w7:LB)(m0:Img)(m1:Dfr)(m4096:Dfr):Prop:=
  ∃c,w7[1]?=some c∧∃j e,Pus prog 317 [.s c] (.tup [.i .i64 j,.b e])∧T318_6 prog K w7 e m0 m1 (Dfr.mk j m4096.func m4096.hasArg m4096.arg)
def T318_4 (prog:Prog)(K:Dfr→Bool→Prop)(w7:LB)(m0:Img)(m1:Dfr)(m4096:Dfr):Prop:=
  T318_5 prog K w7 m0 m1 m4096
def T318_3 (prog:Prog)(K:Dfr→Bool→Prop)(w7:LB)(m0:Img)(m1:Dfr)(m4096:Dfr):Prop:=
  ((w7.length:Int)<4→K m4096 false)∧(¬((w7.length:Int)<4)→T318_4 prog K w7 m0 m1 m4096)
def T318_2 (prog:Prog)(K:Dfr→Bool→Prop)(s1:BS)(m0:Img)(m1:Dfr)(m4096:Dfr):Prop:=
  ∃c,Pus prog 323 [.s s1,.s ([32]:BS),.i .i64 4] (.sl .ext (List.map rowS c))∧T318_3 prog K c m0 m1 m4096
def T318_1 (prog:Prog)(K:Dfr→Bool→Prop)(s1:BS)(m0:Img)(m1:Dfr):Prop:=
  T318_2 prog K s1 m0 m1 (Dfr.mk 0 0 false (Val.mk 0 0 [] ([]:List Val) false))
def T318_0 (prog:Prog)(K:Dfr→Bool→Prop)(m0:Img)(s1:BS):Prop:=
  T318_1 prog K s1 m0 (Dfr.mk 0 0 false (Val.mk 0 0 [] ([]:List Val) false))
section
variable {prog:Prog}{d:Nat}{Q:AE→Sl→St→Prop}{K:Dfr→Bool→Prop}(hQ:H318 Q K){σ:Sl}{st:St}
include hQ
variable {rest12:BS}{m1 m4096:Dfr}{o_m1_6 o_m4096_6:Own}{v1 v4096:Nat}{w7:LB}{m0:Img}{o_w7:Own}{v0:Nat}{ok8 is9:Bool}{s1:BS}
variable (H0:σ 0=m0.av)(H1:σ 1=.s s1)(H2:σ 2=.p (d,0) v0 0)(H4:σ 4=.p (d,1) v1 0)(H6:σ 6=.p (d,4096) v4096 0)(H12:σ 12=.s rest12)(H7:σ 7=.sl o_w7 (List.map rowS w7))(H8:σ 8=.b ok8)(H9:σ 9=.b is9)(Ab4096:ApM d st.ow o_m4096_6 m4096.arg.list.length)(B0:lk st.bx (d,0)=some (v0,Img.cs m0))(B1:lk st.bx (d,1)=some (v1,[.i .i64 m1.frame,.i .i64 m1.func,.b m1.hasArg,.i .u8 m1.arg.kind,.i .i64 m1.arg.int,.s m1.arg.text,.sl o_m1_6 (List.map Val.row m1.arg.list),.b m1.arg.cut]))(B4096:lk st.bx (d,4096)=some (v4096,[.i .i64 m4096.frame,.i .i64 m4096.func,.b m4096.hasArg,.i .u8 m4096.arg.kind,.i .i64 m4096.arg.int,.s m4096.arg.text,.sl o_m4096_6 (List.map Val.row m4096.arg.list),.b m4096.arg.cut]))
include H4 H6 H12 Ab4096 B1 B4096 in
theorem w318_9 (h:T318_9 prog K rest12 m1 m4096):W prog d c318_0 σ st Q:=
 sq_ (q_ J (m_ (b_ H12 J seq_ (e_ (cs_ J (fun c=>q_ J (l_ H6 B4096 J J (so_ H4 B1 J J J (m_ (er_ (hQ _ _ _ _ _ _ _ H4 lk_here J (h.1 c))))))) (fun c=>sk_ (sq_ (sq_ (W.reg (m_ ((h.2 c).elim fun _ e=>ca_ (sc2 H12 J J) e.1 (x2 e.2 fun _ _ j=>ca_ (sc1 J J) j.1 (m_ (x_ J J (x_ J J (s_alloc (so_ J (show lk _ (d,65542)=some (_,([.i .u8 0,.i .i64 0,.s [],.sl .full (List.map Val.row ([]:List Val)),.b false]:List AV)) from lk_here) J J J (m_ (e_ (W.frz J lk_here J (q_ J (s_ldf J J J (f_ H6 (so_ J (lk_del_other J (lk_other J (lk_other J B4096))) J J J (f_ H6 (so_ J lk_here J J J (e_ (q_ J (l_ H6 lk_here J J (m_ (b_ J J eql_ (so_ H4 (lk_other J (lk_other J (lk_del_other J (lk_other J (lk_other J B1))))) J J J (m_ (er_ (hQ _ _ _ _ _ _ _ H4 lk_here J j.2)))))))))))))))))))))))))))))))))))
include H2 H4 H6 H7 Ab4096 B0 B1 B4096 in
theorem w318_8 (h:T318_8 prog K w7 m0 m1 m4096):W prog d c318_1 σ st Q:=
 q_ J (f_ H2 (l_ J B0 J J (f_ H6 (l_ J B4096 J J (h.2.elim fun p j=>ia_ J J h.1 j.1 (Fun.row_eq p) J (ff_ J (lf_ J J J (x2 j.2 fun _ _ k=>ca_ (sc1 J J) k.1 (m_ (x_ J J (x_ J J (m_ (m_ (e_ (q_ J (s_mvL H7 (k.2.elim fun _ o=>ia_ J J (by decide) o.1 J J (lf_ J J J (m_ (x2 o.2 fun _ _ c=>ca_ (sc2 J J J) c.1 (m_ (x_ J J (x_ J J (m_ (m_ (e_ (sq_ (q_ J (s_mvI J (b_ J J neq_ (s_mvB J (em_ (g:=77) J (fun e=>z_ 3 J (e_ (ct_ J (q_ J (l_ H6 B4096 J J (so_ H4 B1 J J J (m_ (er_ (hQ _ _ _ _ _ _ _ H4 lk_here J (c.2.1 e)))))))))) (fun e=>gy_ J (s_mvB J (gy_ J (nt_ J (pf_ J J (e_ (cb_ J (fun i=>q_ J (l_ H6 B4096 J J (so_ H4 B1 J J J (m_ (er_ (hQ _ _ _ _ _ _ _ H4 lk_here J ((c.2.2 e).1 i))))))) (fun i=>sk_ (w318_9 hQ H4 H6 J Ab4096 B1 B4096 ((c.2.2 e).2 i))))))))))))))))))))))))))))))))))))))))))
include H2 H4 H6 H7 H8 H9 Ab4096 B0 B1 B4096 in
theorem w318_7 (h:T318_7 prog K w7 ok8 is9 m0 m1 m4096):W prog d c318_2 σ st Q:=
 sq_ (q_ J (s_mvB H8 (nt_ J (s_mvB J (eb_ (g:=38) J (fun c=>z_ 16 J (e_ (ct_ J (q_ J (l_ H6 B4096 J J (so_ H4 B1 J J J (m_ (er_ (hQ _ _ _ _ _ _ _ H4 lk_here J (h.1 c)))))))))) (fun c=>gy_ J (s_mvB H9 (gy_ J (nt_ J (z_ 2 J (eb_ (g:=42) J (fun e=>z_ 12 J (e_ (ct_ J (q_ J (l_ H6 B4096 J J (so_ H4 B1 J J J (m_ (er_ (hQ _ _ _ _ _ _ _ H4 lk_here J ((h.2 c).1 e)))))))))) (fun e=>gy_ J (f_ H6 (gy_ J (l_ J B4096 J J (gy_ J (b_ J J lss_ (z_ 2 J (em_ (g:=47) J (fun i=>z_ 7 J (e_ (ct_ J (q_ J (l_ H6 B4096 J J (so_ H4 B1 J J J (m_ (er_ (hQ _ _ _ _ _ _ _ H4 lk_here J (((h.2 c).2 e).1 i)))))))))) (fun i=>gy_ J (f_ H6 (gy_ J (l_ J B4096 J J (gy_ J (f_ H2 (gy_ J (l_ J B0 J J (gy_ J (ll_ J (gy_ J (b_ J J geq_ (pf_ J J (e_ (cs_ J (fun j=>q_ J (l_ H6 B4096 J J (so_ H4 B1 J J J (m_ (er_ (hQ _ _ _ _ _ _ _ H4 lk_here J ((((h.2 c).2 e).2 i).1 j))))))) (fun j=>sk_ (w318_8 hQ H2 H4 H6 H7 Ab4096 B0 B1 B4096 ((((h.2 c).2 e).2 i).2 j)))))))))))))))))))))))))))))))))))))
include H2 H4 H6 H7 H8 Ab4096 B0 B1 B4096 in
theorem w318_6 (h:T318_6 prog K w7 ok8 m0 m1 m4096):W prog d c318_3 σ st Q:=
 q_ J (s_mvL H7 (h.elim fun _ c=>ia_ J J (by decide) c.1 J J (lf_ J J J (x2 c.2 fun i _ e=>ca_ (sc1 J J) e.1 (m_ (x_ J J (x_ J J (f_ H6 (so_ J B4096 J J J (m_ (e_ (w318_7 (m4096:=(Dfr.mk m4096.frame i m4096.hasArg m4096.arg)) hQ H2 H4 H6 H7 H8 J Ab4096 (lk_other J B0) (lk_other J B1) lk_here e.2))))))))))))
include H2 H4 H6 H7 Ab4096 B0 B1 B4096 in
theorem w318_5 (h:T318_5 prog K w7 m0 m1 m4096):W prog d c318_4 σ st Q:=
 q_ J (s_mvL H7 (h.elim fun _ c=>ia_ J J (by decide) c.1 J J (lf_ J J J (x2 c.2 fun i _ e=>ca_ (sc1 J J) e.1 (m_ (x_ J J (x_ J J (f_ H6 (so_ J B4096 J J J (m_ (e_ (w318_6 (m4096:=(Dfr.mk i m4096.func m4096.hasArg m4096.arg)) hQ H2 H4 H6 H7 J Ab4096 (lk_other J B0) (lk_other J B1) lk_here e.2))))))))))))
include H2 H4 H6 H7 Ab4096 B0 B1 B4096 in
theorem w318_4 (h:T318_4 prog K w7 m0 m1 m4096):W prog d c318_5 σ st Q:=
 q_ J (m_ (m_ (e_ (w318_5 hQ H2 H4 H6 H7 Ab4096 B0 B1 B4096 h))))
include H2 H4 H6 H7 Ab4096 B0 B1 B4096 in
theorem w318_3 (h:T318_3 prog K w7 m0 m1 m4096):W prog d c318_6 σ st Q:=
 sq_ (q_ J (s_mvL H7 (ll_ J (b_ J J lss_ (e_ (cs_ J (fun c=>q_ J (l_ H6 B4096 J J (so_ H4 B1 J J J (m_ (er_ (hQ _ _ _ _ _ _ _ H4 lk_here J (h.1 c))))))) (fun c=>sk_ (w318_4 hQ H2 H4 H6 H7 Ab4096 B0 B1 B4096 (h.2 c)))))))))
include H1 H2 H4 H6 Ab4096 B0 B1 B4096 in
theorem w318_2 (h:T318_2 prog K s1 m0 m1 m4096):W prog d c318_7 σ st Q:=
 q_ J (m_ (h.elim fun _ c=>ca_ (sc3 H1 J J J) c.1 (s_mvL J (e_ (w318_3 hQ H2 H4 H6 J Ab4096 B0 B1 B4096 c.2)))))
include H1 H2 H4 B0 B1 in
theorem w318_1 (h:T318_1 prog K s1 m0 m1):W prog d c318_8 σ st Q:=
 sq_ (W.reg (s_alloc (e_ (w318_2 (m4096:=(Dfr.mk 0 0 false (Val.mk 0 0 [] ([]:List Val) false))) hQ H1 H2 H4 J ApM.full (lk_other J B0) (lk_other J B1) (show lk _ (d,4096)=some (_,([.i .i64 0,.i .i64 0,.b false,.i .u8 0,.i .i64 0,.s [],.sl .full (List.map Val.row ([]:List Val)),.b false]:List AV)) from lk_here) h))))
include H0 H1 in
theorem w318_0 (h:T318_0 prog K m0 s1):W prog d (sR 0 r318_0 c318_8) σ st Q:=
 sq_ (W.reg (s_box H0 J (s_alloc (m_ (e_ (w318_1 (m1:=(Dfr.mk 0 0 false (Val.mk 0 0 [] ([]:List Val) false))) hQ H1 J J lk_here (lk_other J (show lk _ (d,1)=some (_,([.i .i64 0,.i .i64 0,.b false,.i .u8 0,.i .i64 0,.s [],.sl .full (List.map Val.row ([]:List Val)),.b false]:List AV)) from lk_here)) h))))))
end
theorem p318 {prog:Prog}(hf:prog.fn 318=some pf318){m0:Img}{s1:BS}{K:Dfr→Bool→Prop}(h:T318_0 prog K m0 s1) :∃res0:Dfr,∃res1:Bool,K res0 res1∧Pus prog 318 [m0.av,.s s1] (.tup [res0.av,.b res1]):=by
  obtain ⟨v,hv,res0,res1,hk,rfl⟩:=Pus.of (K:=fun v=>∃res0:Dfr,∃res1:Bool,K res0 res1∧v=.tup [res0.av,.b res1]) hf rfl (w318_0 (σ:=sl0 [m0.av,.s s1]) (fun σ st k0 v0 o0_0 res0 res1 H4 HB4 H5 hk=>⟨.tup [res0.avo o0_0,.b res1],by simp only [pf318,ares,aresL,ares_cellA (n:=8) H4 HB4 rfl,H5,ares_tmp,Option.map_some],_,rfl,res0,res1,hk,rfl⟩) rfl rfl h)
  exact ⟨res0,res1,hk,hv⟩
end Go.AM

namespace Go.AM
open Go
set_option linter.unusedVariables false
set_option linter.unusedSimpArgs false
set_option maxRecDepth 4000
set_option maxHeartbeats 1000000
attribute [local irreducible] WO fillCells fillRows
def r302_0:List AI:=[oY 2 4 0,oY 3 4 1,oC 4 (.b false)]
def r302_1:List AI:=[oF 6 0 2,oL 7 6,oF 8 0 3,oL 9 8,oT 10 .neq 7 9,oM 11 10,gF 11 (oF 12 1 2),gF 11 (oL 13 12),gF 11 (oF 14 1 3),gF 11 (oL 15 14),gF 11 (oT 16 .neq 13 15),oR 17 11 16,oM 18 17,gF 18 (oF 19 2 2),gF 18 (oL 20 19),gF 18 (oF 21 2 3),gF 18 (oL 22 21),gF 18 (oT 23 .neq 20 22),oR 24 18 23,oM 25 24,gF 25 (oF 26 3 2),gF 25 (oL 27 26),gF 25 (oJ 28 27),gF 25 (oF 29 3 3),gF 25 (oL 30 29),gF 25 (oJ 31 30),gF 25 (oT 32 .neq 28 31),oR 33 25 32]
def r302_2:List AI:=[oC 4 (.b false)]
def r302_3:List AI:=[oI 5 0]
def r302_4:List AI:=[oM 34 5,oF 35 3 2,oL 36 35,oJ 37 36,oT 38 .lss 34 37]
def r302_5:List AI:=[oF 41 3 2,oL 42 41,oM 43 5,oX 44 5 42 43,oK 45 5 44,oF 46 3 3,oL 47 46,oM 48 5,oX 49 5 47 48,oK 50 5 49,oQ 51 314 [45,50],oZ 52 51]
def r302_6:List AI:=[oC 4 (.b false)]
def r302_7:List AI:=[oM 39 5,oV 40 .add 39 1,oM 5 40]
def r302_8:List AI:=[oC 4 (.b true)]
abbrev l302_0:AC:=(.seq (sR 4 r302_4 (.cond (.t 38) .skip (.exit 0))) (.seq (.block 1 (sR 6 r302_5 (.cond (.t 52) (sR 7 r302_6 .ret) .skip))) (.reg 5 r302_7)))
abbrev c302_1:AC:=(sR 8 r302_8 .ret)
abbrev c302_2:AC:=(.seq (sR 3 r302_3 (.block 0 (.loop l302_0))) c302_1)
abbrev b302:AC:=(sR 0 r302_0 (.seq (sR 1 r302_1 (.cond (.t 33) (sR 2 r302_2 .ret) .skip)) c302_2))
def pf302:AF:={ nt:=53,res:=[.tmp 4],body:=b302 }
abbrev I302_0 (prog:Prog)(d:Nat)(Q:AE→Sl→St→Prop)(i5:Int)(m0:Sta)(m1:Sta):Prop:=
  ∀(σ:Sl)(st:St) (v0 v1:Nat),σ 2=.p (d,0) v0 0→σ 3=.p (d,1) v1 0→σ 5=.i .i64 i5→lk st.bx (d,0)=some (v0,Sta.cs m0)→lk st.bx (d,1)=some (v1,Sta.cs m1)→W prog d (.loop l302_0) σ st (blockW 0 (thenW prog d c302_1 Q))
def T302_3 (prog:Prog)(K:Bool→Prop) :Prop:=
  K true
def T302_2 (prog:Prog)(K:Bool→Prop)(P0:Int→Sta→Sta→Prop)(i5:Int)(m0:Sta)(m1:Sta):Prop:=
  (i5<(m0.routines.length:Int)→0≤i5∧∃e:Rou,m0.routines[(i5).toNat]?=some e∧0≤i5∧∃i:Rou,m1.routines[(i5).toNat]?=some i∧∃c,Pus prog 314 [e.av,i.av] (.b c)∧((!c)=true→K false)∧((!c)=false→P0 (IntKind.i64.wrap (i5+1)) m0 m1))∧(¬(i5<(m0.routines.length:Int))→T302_3 prog K )
def T302_1 (prog:Prog)(K:Bool→Prop)(m0:Sta)(m1:Sta):Prop:=
  ∀P0:Int→Sta→Sta→Prop,(∀(i5:Int)(m0:Sta)(m1:Sta),T302_2 prog K P0 i5 m0 m1→P0 i5 m0 m1)→P0 0 m0 m1
def T302_0 (prog:Prog)(K:Bool→Prop)(a0:Sta)(b1:Sta):Prop:=
  (a0.outcome≠b1.outcome→K false)∧(¬(a0.outcome≠b1.outcome)→(a0.failing≠b1.failing→K false)∧(¬(a0.failing≠b1.failing)→(a0.steps≠b1.steps→K false)∧(¬(a0.steps≠b1.steps)→((a0.routines.length:Int)≠(b1.routines.length:Int)→K false)∧(¬((a0.routines.length:Int)≠(b1.routines.length:Int))→T302_1 prog K a0 b1))))
section
variable {prog:Prog}{d:Nat}{Q:AE→Sl→St→Prop}{K:Bool→Prop}(hQ:H1 AV.b 4 Q K){σ:Sl}{st:St}
include hQ
variable {i5:Int}{m0 m1:Sta}{P0:Int→Sta→Sta→Prop}{v0 v1:Nat}{a0 b1:Sta}
variable (kP0 :∀(i5:Int)(m0:Sta)(m1:Sta),P0 i5 m0 m1→I302_0 prog d Q i5 m0 m1)(H0:σ 0=a0.av)(H2:σ 2=.p (d,0) v0 0)(H1:σ 1=b1.av)(H3:σ 3=.p (d,1) v1 0)(H5:σ 5=.i .i64 i5)(B0:lk st.bx (d,0)=some (v0,Sta.cs m0))(B1:lk st.bx (d,1)=some (v1,Sta.cs m1))
theorem w302_3 (h:T302_3 prog K ):W prog d c302_1 σ st Q:=
 q_ J (m_ (er_ (hQ J h)))
include kP0 H2 H3 H5 B0 B1 in
theorem w302_2 (h:T302_2 prog K P0 i5 m0 m1):W prog d l302_0 σ st (thenW prog d (.loop l302_0) (blockW 0 (thenW prog d c302_1 Q))):=
 sq_ (q_ J (m_ (f_ H2 (l_ J B0 J J (ll_ J (b_ H5 J lss_ (e_ (cs_ J (fun c=>sk_ (sq_ (bk_ (q_ J (f_ H2 (l_ J B0 J J (m_ ((h.1 c).2.elim fun o e=>ia_ J H5 (h.1 c).1 e.1 (Rou.row_eq o) J (lf_ J J J (f_ H3 (l_ J B1 J J (m_ (e.2.2.elim fun p k=>ia_ J H5 e.2.1 k.1 (Rou.row_eq p) J (lf_ J J J (k.2.elim fun _ i=>ca_ (sc2 J J J) i.1 (nt_ J (e_ (cb_ J (fun j=>q_ J (m_ (er_ (hQ J (i.2.1 j))))) (fun j=>sk_ (W.reg0 J fun _ _=>m_ (b_ H5 J add_ (m_ (e_ (kP0 _ _ _ (i.2.2 j) _ _ _ _ H2 H3 J B0 B1)))))))))))))))))))))))) (fun c=>ex_ (w302_3 hQ (h.2 c)))))))))))
include H2 H3 B0 B1 in
theorem w302_1 (h:T302_1 prog K m0 m1):W prog d c302_2 σ st Q:=
 sq_ (q_ J (m_ (e_ (bk_ (h (I302_0 prog d Q ) (fun _ _ _ hb _ _ _ _ H2 H3 H5 B0 B1=>W.loop (w302_2 hQ (fun _ _ _ x=>x) H2 H3 H5 B0 B1 hb)) _ _ _ _ H2 H3 J B0 B1)))))
include H0 H1 in
theorem w302_0 (h:T302_0 prog K a0 b1):W prog d (sR 0 r302_0 (.seq (sR 1 r302_1 (.cond (.t 33) (sR 2 r302_2 .ret) .skip)) c302_2)) σ st Q:=
 q_ J (s_box H0 J (s_box H1 J (m_ (e_ (sq_ (q_ J (f_ J (l_ J (lk_other J lk_here) J J (f_ J (l_ J lk_here J J (b_ J J neq_ (s_mvB J (em_ (g:=11) J (fun c=>z_ 22 J (e_ (ct_ J (q_ J (m_ (er_ (hQ J (h.1 c)))))))) (fun c=>gy_ J (f_ J (gy_ J (l_ J (lk_other J lk_here) J J (gy_ J (f_ J (gy_ J (l_ J lk_here J J (gy_ J (b_ J J neq_ (z_ 2 J (em_ (g:=18) J (fun e=>z_ 15 J (e_ (ct_ J (q_ J (m_ (er_ (hQ J ((h.2 c).1 e)))))))) (fun e=>gy_ J (f_ J (gy_ J (l_ J (lk_other J lk_here) J J (gy_ J (f_ J (gy_ J (l_ J lk_here J J (gy_ J (b_ J J neq_ (z_ 2 J (em_ (g:=25) J (fun i=>z_ 8 J (e_ (ct_ J (q_ J (m_ (er_ (hQ J (((h.2 c).2 e).1 i)))))))) (fun i=>gy_ J (f_ J (gy_ J (l_ J (lk_other J lk_here) J J (gy_ J (ll_ J (gy_ J (f_ J (gy_ J (l_ J lk_here J J (gy_ J (ll_ J (gy_ J (b_ J J neq_ (pf_ J J (e_ (cs_ J (fun j=>q_ J (m_ (er_ (hQ J ((((h.2 c).2 e).2 i).1 j))))) (fun j=>sk_ (w302_1 hQ J J (lk_other J lk_here) lk_here ((((h.2 c).2 e).2 i).2 j)))))))))))))))))))))))))))))))))))))))))))))))))))))))))
end
theorem p302 {prog:Prog}(hf:prog.fn 302=some pf302){a0:Sta}{b1:Sta}{K:Bool→Prop}(h:T302_0 prog K a0 b1) :∃res0:Bool,K res0∧Pus prog 302 [a0.av,b1.av] (.b res0):=
 P1 hf J (w302_0 (h1 J fun _=>J) J J h)
def r314_0:List AI:=[oO 2 (.boxf 5 (.t 0)),oO 3 (.boxf 5 (.t 1)),oC 4 (.b false)]
def r314_1:List AI:=[oF 9 0 2,oL 10 9,oF 11 0 3,oL 12 11,oT 13 .neq 10 12,oM 14 13,gF 14 (oF 15 1 2),gF 14 (oL 16 15),gF 14 (oF 17 1 3),gF 14 (oL 18 17),gF 14 (oT 19 .neq 16 18),oR 20 14 19,oM 21 20,gF 21 (oF 22 2 2),gF 21 (oL 23 22),gF 21 (oJ 24 23),gF 21 (oF 25 2 3),gF 21 (oL 26 25),gF 21 (oJ 27 26),gF 21 (oT 28 .neq 24 27),oR 29 21 28,oM 30 29,gF 30 (oF 31 3 2),gF 30 (oL 32 31),gF 30 (oJ 33 32),gF 30 (oF 34 3 3),gF 30 (oL 35 34),gF 30 (oJ 36 35),gF 30 (oT 37 .neq 33 36),oR 38 30 37,oM 39 38,gF 39 (oF 40 4 2),gF 39 (oL 41 40),gF 39 (oF 42 4 3),gF 39 (oL 43 42),gF 39 (oQ 44 170 [41,43]),gF 39 (oZ 45 44),oR 46 39 45]
def r314_2:List AI:=[oC 4 (.b false)]
def r314_3:List AI:=[oI 5 0]
def r314_4:List AI:=[oM 47 5,oF 48 2 2,oL 49 48,oJ 50 49,oT 51 .lss 47 50]
def r314_5:List AI:=[oF 54 2 2,oL 55 54,oM 56 5,oX 57 4 55 56,oK 58 4 57,oF 59 2 3,oL 60 59,oM 61 5,oX 62 4 60 61,oK 63 4 62,oQ 64 88 [58,63],oZ 65 64]
def r314_6:List AI:=[oC 4 (.b false)]
def r314_7:List AI:=[oM 52 5,oV 53 .add 52 1,oM 5 53]
def r314_8:List AI:=[oI 6 0]
def r314_9:List AI:=[oM 66 6,oF 67 3 2,oL 68 67,oJ 69 68,oT 70 .lss 66 69]
def r314_10:List AI:=[oF 73 3 2,oO 74 (.ldf 1 false (.t 73)),oM 75 6,oX 76 8 74 75,oO 77 (.ldf 8 true (.t 76)),oF 78 3 3,oO 79 (.ldf 1 false (.t 78)),oM 80 6,oX 81 8 79 80,oO 82 (.ldf 8 true (.t 81)),oO 7 (.alloc [z6,z6,zb,z8,z6,zs,zl,zb]),oO 8 (.alloc [z6,z6,zb,z8,z6,zs,zl,zb]),oS 8 7 77,oS 8 8 82]
def r314_11:List AI:=[oF 83 0 7,oL 84 83,oF 85 0 8,oL 86 85,oT 87 .neq 84 86,oM 88 87,gF 88 (oF 89 1 7),gF 88 (oL 90 89),gF 88 (oF 91 1 8),gF 88 (oL 92 91),gF 88 (oT 93 .neq 90 92),oR 94 88 93,oM 95 94,gF 95 (oF 96 2 7),gF 95 (oL 97 96),gF 95 (oF 98 2 8),gF 95 (oL 99 98),gF 95 (oO 100 (.beq true (.t 97) (.t 99))),oR 101 95 100,oM 102 101,gF 102 (oF 103 3 7),gF 102 (oK 104 5 103),gF 102 (oF 105 3 8),gF 102 (oK 106 5 105),gF 102 (oQ 107 78 [104,106]),gF 102 (oZ 108 107),oR 109 102 108]
def r314_12:List AI:=[oC 4 (.b false)]
def r314_13:List AI:=[oM 71 6,oV 72 .add 71 1,oM 6 72]
def r314_14:List AI:=[oC 4 (.b true)]
abbrev l314_0:AC:=(.seq (sR 4 r314_4 (.cond (.t 51) .skip (.exit 0))) (.seq (.block 1 (sR 6 r314_5 (.cond (.t 65) (sR 7 r314_6 .ret) .skip))) (.reg 5 r314_7)))
abbrev l314_1:AC:=(.seq (sR 9 r314_9 (.cond (.t 70) .skip (.exit 2))) (.seq (.block 3 (sR 11 r314_10 (sR 12 r314_11 (.cond (.t 109) (sR 13 r314_12 .ret) .skip)))) (.reg 10 r314_13)))
abbrev c314_2:AC:=(sR 14 r314_14 .ret)
abbrev c314_3:AC:=(.seq (sR 8 r314_8 (.block 2 (.loop l314_1))) c314_2)
abbrev c314_4:AC:=(.seq (sR 3 r314_3 (.block 0 (.loop l314_0))) c314_3)
abbrev c314_5:AC:=(.seq (sR 1 r314_1 (.cond (.t 46) (sR 2 r314_2 .ret) .skip)) c314_4)
abbrev b314:AC:=(sR 0 r314_0 c314_5)
def pf314:AF:={ nt:=110,res:=[.tmp 4],fz:=[2,3],body:=b314 }
abbrev I314_0 (prog:Prog)(d:Nat)(Q:AE→Sl→St→Prop)(a2_0:Int)(a2_1:Int)(a2_2:List Frm)(a2_3:List Dfr)(a2_4:List Pan)(b3_0:Int)(b3_1:Int)(b3_2:List Frm)(b3_3:List Dfr)(b3_4:List Pan)(i5:Int):Prop:=
  ∀(σ:Sl)(st:St),σ 2=.fp [.i .u8 a2_0,.i .i64 a2_1,.sl .ext (List.map Frm.row a2_2),.sl .ext (List.map Dfr.row a2_3),.sl .ext (List.map Pan.row a2_4)]→σ 3=.fp [.i .u8 b3_0,.i .i64 b3_1,.sl .ext (List.map Frm.row b3_2),.sl .ext (List.map Dfr.row b3_3),.sl .ext (List.map Pan.row b3_4)]→σ 5=.i .i64 i5→W prog d (.loop l314_0) σ st (blockW 0 (thenW prog d c314_3 Q))
abbrev I314_1 (prog:Prog)(d:Nat)(Q:AE→Sl→St→Prop)(a2_0:Int)(a2_1:Int)(a2_2:List Frm)(a2_3:List Dfr)(a2_4:List Pan)(b3_0:Int)(b3_1:Int)(b3_2:List Frm)(b3_3:List Dfr)(b3_4:List Pan)(i6:Int):Prop:=
  ∀(σ:Sl)(st:St),σ 2=.fp [.i .u8 a2_0,.i .i64 a2_1,.sl .ext (List.map Frm.row a2_2),.sl .ext (List.map Dfr.row a2_3),.sl .ext (List.map Pan.row a2_4)]→σ 3=.fp [.i .u8 b3_0,.i .i64 b3_1,.sl .ext (List.map Frm.row b3_2),.sl .ext (List.map Dfr.row b3_3),.sl .ext (List.map Pan.row b3_4)]→σ 6=.i .i64 i6→W prog d (.loop l314_1) σ st (blockW 2 (thenW prog d c314_2 Q))
def T314_6 (prog:Prog)(K:Bool→Prop) :Prop:=
  K true
def T314_5 (prog:Prog)(K:Bool→Prop)(P1:Int→Prop)(a2_0:Int)(a2_1:Int)(a2_2:List Frm)(a2_3:List Dfr)(a2_4:List Pan)(b3_0:Int)(b3_1:Int)(b3_2:List Frm)(b3_3:List Dfr)(b3_4:List Pan)(i6:Int):Prop:=
  (i6<(a2_3.length:Int)→0≤i6∧∃c:Dfr,a2_3[(i6).toNat]?=some c∧0≤i6∧∃e:Dfr,b3_3[(i6).toNat]?=some e∧(c.frame≠e.frame→K false)∧(¬(c.frame≠e.frame)→(c.func≠e.func→K false)∧(¬(c.func≠e.func)→(c.hasArg≠e.hasArg→K false)∧(¬(c.hasArg≠e.hasArg)→∃i,Pus prog 78 [c.arg.av,e.arg.av] (.b i)∧((!i)=true→K false)∧((!i)=false→P1 (IntKind.i64.wrap (i6+1)))))))∧(¬(i6<(a2_3.length:Int))→T314_6 prog K )
def T314_4 (prog:Prog)(K:Bool→Prop)(a2_0:Int)(a2_1:Int)(a2_2:List Frm)(a2_3:List Dfr)(a2_4:List Pan)(b3_0:Int)(b3_1:Int)(b3_2:List Frm)(b3_3:List Dfr)(b3_4:List Pan):Prop:=
  ∀P1:Int→Prop,(∀(i6:Int),T314_5 prog K P1 a2_0 a2_1 a2_2 a2_3 a2_4 b3_0 b3_1 b3_2 b3_3 b3_4 i6→P1 i6)→P1 0
def T314_3 (prog:Prog)(K:Bool→Prop)(P0:Int→Prop)(a2_0:Int)(a2_1:Int)(a2_2:List Frm)(a2_3:List Dfr)(a2_4:List Pan)(b3_0:Int)(b3_1:Int)(b3_2:List Frm)(b3_3:List Dfr)(b3_4:List Pan)(i5:Int):Prop:=
  (i5<(a2_2.length:Int)→0≤i5∧∃e:Frm,a2_2[(i5).toNat]?=some e∧0≤i5∧∃i:Frm,b3_2[(i5).toNat]?=some i∧∃c,Pus prog 88 [e.av,i.av] (.b c)∧((!c)=true→K false)∧((!c)=false→P0 (IntKind.i64.wrap (i5+1))))∧(¬(i5<(a2_2.length:Int))→T314_4 prog K a2_0 a2_1 a2_2 a2_3 a2_4 b3_0 b3_1 b3_2 b3_3 b3_4)
def T314_2 (prog:Prog)(K:Bool→Prop)(a2_0:Int)(a2_1:Int)(a2_2:List Frm)(a2_3:List Dfr)(a2_4:List Pan)(b3_0:Int)(b3_1:Int)(b3_2:List Frm)(b3_3:List Dfr)(b3_4:List Pan):Prop:=
  ∀P0:Int→Prop,(∀(i5:Int),T314_3 prog K P0 a2_0 a2_1 a2_2 a2_3 a2_4 b3_0 b3_1 b3_2 b3_3 b3_4 i5→P0 i5)→P0 0
def T314_1 (prog:Prog)(K:Bool→Prop)(a2_0:Int)(a2_1:Int)(a2_2:List Frm)(a2_3:List Dfr)(a2_4:List Pan)(b3_0:Int)(b3_1:Int)(b3_2:List Frm)(b3_3:List Dfr)(b3_4:List Pan):Prop:=
  (a2_0≠b3_0→K false)∧(¬(a2_0≠b3_0)→(a2_1≠b3_1→K false)∧(¬(a2_1≠b3_1)→((a2_2.length:Int)≠(b3_2.length:Int)→K false)∧(¬((a2_2.length:Int)≠(b3_2.length:Int))→((a2_3.length:Int)≠(b3_3.length:Int)→K false)∧(¬((a2_3.length:Int)≠(b3_3.length:Int))→∃c,Pus prog 170 [.sl .ext (List.map Pan.row a2_4),.sl .ext (List.map Pan.row b3_4)] (.b c)∧((!c)=true→K false)∧((!c)=false→T314_2 prog K a2_0 a2_1 a2_2 a2_3 a2_4 b3_0 b3_1 b3_2 b3_3 b3_4)))))
def T314_0 (prog:Prog)(K:Bool→Prop)(a0:Rou)(b1:Rou):Prop:=
  T314_1 prog K a0.status a0.key a0.frames a0.defers a0.panics b1.status b1.key b1.frames b1.defers b1.panics
section
variable {prog:Prog}{d:Nat}{Q:AE→Sl→St→Prop}{K:Bool→Prop}(hQ:H1 AV.b 4 Q K){σ:Sl}{st:St}
include hQ
variable {a2_0 a2_1:Int}{a2_2:List Frm}{a2_3:List Dfr}{a2_4:List Pan}{b3_0 b3_1:Int}{b3_2:List Frm}{b3_3:List Dfr}{b3_4:List Pan}{i6:Int}{P1:Int→Prop}{i5:Int}{P0:Int→Prop}{a0 b1:Rou}
variable (kP1 :∀(i6:Int),P1 i6→I314_1 prog d Q a2_0 a2_1 a2_2 a2_3 a2_4 b3_0 b3_1 b3_2 b3_3 b3_4 i6) (kP0 :∀(i5:Int),P0 i5→I314_0 prog d Q a2_0 a2_1 a2_2 a2_3 a2_4 b3_0 b3_1 b3_2 b3_3 b3_4 i5)(H0:σ 0=a0.av)(H2:σ 2=.fp [.i .u8 a2_0,.i .i64 a2_1,.sl .ext (List.map Frm.row a2_2),.sl .ext (List.map Dfr.row a2_3),.sl .ext (List.map Pan.row a2_4)])(H1:σ 1=b1.av)(H3:σ 3=.fp [.i .u8 b3_0,.i .i64 b3_1,.sl .ext (List.map Frm.row b3_2),.sl .ext (List.map Dfr.row b3_3),.sl .ext (List.map Pan.row b3_4)])(H6:σ 6=.i .i64 i6)(H5:σ 5=.i .i64 i5)
theorem w314_6 (h:T314_6 prog K ):W prog d c314_2 σ st Q:=
 q_ J (m_ (er_ (hQ J h)))
include kP1 H2 H3 H6 in
theorem w314_5 (h:T314_5 prog K P1 a2_0 a2_1 a2_2 a2_3 a2_4 b3_0 b3_1 b3_2 b3_3 b3_4 i6):W prog d l314_1 σ st (thenW prog d (.loop l314_1) (blockW 2 (thenW prog d c314_2 Q))):=
 sq_ (q_ J (m_ (ff_ H2 (lf_ J J J (ll_ J (b_ H6 J lss_ (e_ (cs_ J (fun j=>sk_ (sq_ (bk_ (sq_ (W.reg (ff_ H2 (s_ldf J J J (m_ ((h.1 j).2.elim fun u p=>ia_ J H6 (h.1 j).1 p.1 (Dfr.row_eq u) J (s_ldf J J J (ff_ H3 (s_ldf J J J (m_ (p.2.2.elim fun v c=>ia_ J H6 p.2.1 c.1 (Dfr.row_eq v) J (s_ldf J J J (s_alloc (s_alloc (so_ J (show lk _ (d,45066)=some (_,([.i .i64 0,.i .i64 0,.b false,.i .u8 0,.i .i64 0,.s [],.sl .full (List.map Val.row ([]:List Val)),.b false]:List AV)) from (lk_other J lk_here)) J J J (so_ J (lk_other J (show lk _ (d,45067)=some (_,([.i .i64 0,.i .i64 0,.b false,.i .u8 0,.i .i64 0,.s [],.sl .full (List.map Val.row ([]:List Val)),.b false]:List AV)) from lk_here)) J J J (e_ (q_ J (f_ J (l_ J (lk_other J lk_here) J J (f_ J (l_ J lk_here J J (b_ J J neq_ (s_mvB J (em_ (g:=88) J (fun e=>z_ 21 J (e_ (ct_ J (q_ J (m_ (er_ (hQ J (c.2.1 e)))))))) (fun e=>gy_ J (f_ J (gy_ J (l_ J (lk_other J lk_here) J J (gy_ J (f_ J (gy_ J (l_ J lk_here J J (gy_ J (b_ J J neq_ (z_ 2 J (em_ (g:=95) J (fun k=>z_ 14 J (e_ (ct_ J (q_ J (m_ (er_ (hQ J ((c.2.2 e).1 k)))))))) (fun k=>gy_ J (f_ J (gy_ J (l_ J (lk_other J lk_here) J J (gy_ J (f_ J (gy_ J (l_ J lk_here J J (gy_ J (s_bne J J (z_ 2 J (em_ (g:=102) J (fun r=>z_ 7 J (e_ (ct_ J (q_ J (m_ (er_ (hQ J (((c.2.2 e).2 k).1 r)))))))) (fun r=>gy_ J (f_ J (gy_ J (l_ J (lk_other J lk_here) J J (gy_ J (f_ J (gy_ J (l_ J lk_here J J (gy_ J ((((c.2.2 e).2 k).2 r).elim fun _ o=>ca_ (sc2 J J J) o.1 (gy_ J (nt_ J (pf_ J J (e_ (cb_ J (fun q=>q_ J (m_ (er_ (hQ J (o.2.1 q))))) (fun q=>sk_ (W.reg0 J fun _ _=>m_ (b_ H6 J add_ (m_ (e_ (kP1 _ (o.2.2 q) _ _ H2 H3 J))))))))))))))))))))))))))))))))))))))))))))))))))))))))))))))))))))))))) (fun j=>ex_ (w314_6 hQ (h.2 j)))))))))))
include H2 H3 in
theorem w314_4 (h:T314_4 prog K a2_0 a2_1 a2_2 a2_3 a2_4 b3_0 b3_1 b3_2 b3_3 b3_4):W prog d c314_3 σ st Q:=
 sq_ (q_ J (m_ (e_ (bk_ (h (I314_1 prog d Q a2_0 a2_1 a2_2 a2_3 a2_4 b3_0 b3_1 b3_2 b3_3 b3_4) (fun _ hb _ _ H2 H3 H6=>W.loop (w314_5 hQ (fun _ x=>x) H2 H3 H6 hb)) _ _ H2 H3 J)))))
include kP0 H2 H3 H5 in
theorem w314_3 (h:T314_3 prog K P0 a2_0 a2_1 a2_2 a2_3 a2_4 b3_0 b3_1 b3_2 b3_3 b3_4 i5):W prog d l314_0 σ st (thenW prog d (.loop l314_0) (blockW 0 (thenW prog d c314_3 Q))):=
 sq_ (q_ J (m_ (ff_ H2 (lf_ J J J (ll_ J (b_ H5 J lss_ (e_ (cs_ J (fun c=>sk_ (sq_ (bk_ (q_ J (ff_ H2 (lf_ J J J (m_ ((h.1 c).2.elim fun o e=>ia_ J H5 (h.1 c).1 e.1 (Frm.row_eq o) J (lf_ J J J (ff_ H3 (lf_ J J J (m_ (e.2.2.elim fun p k=>ia_ J H5 e.2.1 k.1 (Frm.row_eq p) J (lf_ J J J (k.2.elim fun _ i=>ca_ (sc2 J J J) i.1 (nt_ J (e_ (cb_ J (fun j=>q_ J (m_ (er_ (hQ J (i.2.1 j))))) (fun j=>sk_ (W.reg0 J fun _ _=>m_ (b_ H5 J add_ (m_ (e_ (kP0 _ (i.2.2 j) _ _ H2 H3 J)))))))))))))))))))))))) (fun c=>ex_ (w314_4 hQ H2 H3 (h.2 c)))))))))))
include H2 H3 in
theorem w314_2 (h:T314_2 prog K a2_0 a2_1 a2_2 a2_3 a2_4 b3_0 b3_1 b3_2 b3_3 b3_4):W prog d c314_4 σ st Q:=
 sq_ (q_ J (m_ (e_ (bk_ (h (I314_0 prog d Q a2_0 a2_1 a2_2 a2_3 a2_4 b3_0 b3_1 b3_2 b3_3 b3_4) (fun _ hb _ _ H2 H3 H5=>W.loop (w314_3 hQ (fun _ x=>x) H2 H3 H5 hb)) _ _ H2 H3 J)))))
include H2 H3 in
theorem w314_1 (h:T314_1 prog K a2_0 a2_1 a2_2 a2_3 a2_4 b3_0 b3_1 b3_2 b3_3 b3_4):W prog d c314_5 σ st Q:=
 sq_ (q_ J (ff_ H2 (lf_ J J J (ff_ H3 (lf_ J J J (b_ J J neq_ (s_mvB J (em_ (g:=14) J (fun c=>z_ 32 J (e_ (ct_ J (q_ J (m_ (er_ (hQ J (h.1 c)))))))) (fun c=>gy_ J (ff_ H2 (gy_ J (lf_ J J J (gy_ J (ff_ H3 (gy_ J (lf_ J J J (gy_ J (b_ J J neq_ (z_ 2 J (em_ (g:=21) J (fun e=>z_ 25 J (e_ (ct_ J (q_ J (m_ (er_ (hQ J ((h.2 c).1 e)))))))) (fun e=>gy_ J (ff_ H2 (gy_ J (lf_ J J J (gy_ J (ll_ J (gy_ J (ff_ H3 (gy_ J (lf_ J J J (gy_ J (ll_ J (gy_ J (b_ J J neq_ (z_ 2 J (em_ (g:=30) J (fun i=>z_ 16 J (e_ (ct_ J (q_ J (m_ (er_ (hQ J (((h.2 c).2 e).1 i)))))))) (fun i=>gy_ J (ff_ H2 (gy_ J (lf_ J J J (gy_ J (ll_ J (gy_ J (ff_ H3 (gy_ J (lf_ J J J (gy_ J (ll_ J (gy_ J (b_ J J neq_ (z_ 2 J (em_ (g:=39) J (fun k=>z_ 7 J (e_ (ct_ J (q_ J (m_ (er_ (hQ J ((((h.2 c).2 e).2 i).1 k)))))))) (fun k=>gy_ J (ff_ H2 (gy_ J (lf_ J J J (gy_ J (ff_ H3 (gy_ J (lf_ J J J (gy_ J (((((h.2 c).2 e).2 i).2 k).elim fun _ j=>ca_ (sc2 J J J) j.1 (gy_ J (nt_ J (pf_ J J (e_ (cb_ J (fun o=>q_ J (m_ (er_ (hQ J (j.2.1 o))))) (fun o=>sk_ (w314_2 hQ H2 H3 (j.2.2 o))))))))))))))))))))))))))))))))))))))))))))))))))))))))))))))))))))))
include H0 H1 in
theorem w314_0 (h:T314_0 prog K a0 b1):W prog d (sR 0 r314_0 c314_5) σ st Q:=
 q_ J (s_boxf H0 J J (s_boxf H1 J J (m_ (e_ (w314_1 hQ J J h)))))
end
theorem p314 {prog:Prog}(hf:prog.fn 314=some pf314){a0:Rou}{b1:Rou}{K:Bool→Prop}(h:T314_0 prog K a0 b1) :∃res0:Bool,K res0∧Pus prog 314 [a0.av,b1.av] (.b res0):=
 P1 hf J (w314_0 (h1 J fun _=>J) J J h)
def r292_0:List AI:=[oO 2 (.alloc [z8,z6,zs,zl,zb])]
def r292_1:List AI:=[oM 3 0,oO 4 (.build [z8,z6,zs,zl,zb] [(0,1,(.c (.i .u8 2))),(1,1,(.t 3))]),oS 5 2 4]
abbrev b292:AC:=(sR 0 r292_0 (sR 1 r292_1 .ret))
def pf292:AF:={ nt:=5,res:=[.cell 2 5 true],body:=b292 }
abbrev H292 (Q:AE→Sl→St→Prop)(K:Val→Prop):Prop:=∀(σ:Sl)(st:St)(k0:Key)(v0:Nat)(o0_0:Own)(res0:Val),σ 2=.p k0 v0 0→lk st.bx k0=some (v0,[.i .u8 res0.kind,.i .i64 res0.int,.s res0.text,.sl o0_0 (List.map Val.row res0.list),.b res0.cut])→K res0→Q .ret σ st
def T292_0 (prog:Prog)(K:Val→Prop)(n0:Int):Prop:=
  K (Val.mk 2 n0 [] ([]:List Val) false)
section
variable {prog:Prog}{d:Nat}{Q:AE→Sl→St→Prop}{K:Val→Prop}(hQ:H292 Q K){σ:Sl}{st:St}
include hQ
variable {n0:Int}
variable (H0:σ 0=.i .i64 n0)
include H0 in
theorem w292_0 (h:T292_0 prog K n0):W prog d (sR 0 r292_0 (sR 1 r292_1 .ret)) σ st Q:=
 sq_ (W.reg (s_alloc (e_ (q_ J (m_ (s_build (f_cons J J (f_cons H0 J f_nil)) (so_ J (show lk _ (d,0)=some (_,([.i .u8 0,.i .i64 0,.s [],.sl .full (List.map Val.row ([]:List Val)),.b false]:List AV)) from lk_here) J J J (er_ (hQ _ _ _ _ _ _ J lk_here h)))))))))
end
theorem p292 {prog:Prog}(hf:prog.fn 292=some pf292){n0:Int}{K:Val→Prop}(h:T292_0 prog K n0) :∃res0:Val,K res0∧Pus prog 292 [.i .i64 n0] (res0.av):=by
  obtain ⟨v,hv,res0,hk,rfl⟩:=Pus.of (K:=fun v=>∃res0:Val,K res0∧v=res0.av) hf rfl (w292_0 (σ:=sl0 [.i .i64 n0]) (fun σ st k0 v0 o0_0 res0 H2 HB2 hk=>⟨res0.avo o0_0,by simp only [pf292,ares,aresL,ares_cellA (n:=5) H2 HB2 rfl,ares_tmp,Option.map_some],_,rfl,res0,hk,rfl⟩) rfl h)
  exact ⟨res0,hk,hv⟩
def r303_0:List AI:=[oO 0 (.alloc [z8,z6,zs,zl,zb])]
def r303_1:List AI:=[oO 1 (.build [z8,z6,zs,zl,zb] [(0,1,(.c (.i .u8 1))),(1,1,(.c (.i .i64 1)))]),oS 5 0 1]
abbrev b303:AC:=(sR 0 r303_0 (sR 1 r303_1 .ret))
def pf303:AF:={ nt:=2,res:=[.cell 0 5 true],body:=b303 }
abbrev H303 (Q:AE→Sl→St→Prop)(K:Val→Prop):Prop:=∀(σ:Sl)(st:St)(k0:Key)(v0:Nat)(o0_0:Own)(res0:Val),σ 0=.p k0 v0 0→lk st.bx k0=some (v0,[.i .u8 res0.kind,.i .i64 res0.int,.s res0.text,.sl o0_0 (List.map Val.row res0.list),.b res0.cut])→K res0→Q .ret σ st
def T303_0 (prog:Prog)(K:Val→Prop) :Prop:=
  K (Val.mk 1 1 [] ([]:List Val) false)
section
variable {prog:Prog}{d:Nat}{Q:AE→Sl→St→Prop}{K:Val→Prop}(hQ:H303 Q K){σ:Sl}{st:St}
include hQ
theorem w303_0 (h:T303_0 prog K ):W prog d (sR 0 r303_0 (sR 1 r303_1 .ret)) σ st Q:=
 sq_ (W.reg (s_alloc (e_ (q_ J (s_build (f_cons J J (f_cons J J f_nil)) (so_ J (show lk _ (d,0)=some (_,([.i .u8 0,.i .i64 0,.s [],.sl .full (List.map Val.row ([]:List Val)),.b false]:List AV)) from lk_here) J J J (er_ (hQ _ _ _ _ _ _ J lk_here h))))))))
end
theorem p303 {prog:Prog}(hf:prog.fn 303=some pf303)  {K:Val→Prop}(h:T303_0 prog K ) :∃res0:Val,K res0∧Pus prog 303 [] (res0.av):=by
  obtain ⟨v,hv,res0,hk,rfl⟩:=Pus.of (K:=fun v=>∃res0:Val,K res0∧v=res0.av) hf rfl (w303_0 (σ:=sl0 []) (fun σ st k0 v0 o0_0 res0 H0 HB0 hk=>⟨res0.avo o0_0,by simp only [pf303,ares,aresL,ares_cellA (n:=5) H0 HB0 rfl,ares_tmp,Option.map_some],_,rfl,res0,hk,rfl⟩)  h)
  exact ⟨res0,hk,hv⟩
def r294_0:List AI:=[oO 0 (.alloc [z8,z6,zl,zl,zl])]
def r294_1:List AI:=[oO 1 (.build [z6,z6,z7,zl] [(1,1,(.c (.i .i64 1)))]),oO 2 (.bslice [z6,z6,z7,zl] 1 [(0,(.t 1))]),oQ 3 303 [],oO 4 (.build [z6,z6,zb,z8,z6,zs,zl,zb] [(1,1,(.c (.i .i64 1))),(2,1,(.c (.b true))),(3,5,(.t 3))]),oO 5 (.bslice [z6,z6,zb,z8,z6,zs,zl,zb] 1 [(0,(.t 4))]),oO 6 (.build [z8,z6,zl,zl,zl] [(0,1,(.c (.i .u8 2))),(1,1,(.c (.i .i64 (-3)))),(2,1,(.t 2)),(3,1,(.t 5))]),oS 5 0 6]
abbrev b294:AC:=(sR 0 r294_0 (sR 1 r294_1 .ret))
def pf294:AF:={ nt:=7,res:=[.cell 0 5 true],body:=b294 }
abbrev H294 (Q:AE→Sl→St→Prop)(K:Rou→Prop):Prop:=∀(σ:Sl)(st:St)(k0:Key)(v0:Nat) (o0_0 o0_1 o0_2:Own)(res0:Rou),σ 0=.p k0 v0 0→lk st.bx k0=some (v0,[.i .u8 res0.status,.i .i64 res0.key,.sl o0_0 (List.map Frm.row res0.frames),.sl o0_1 (List.map Dfr.row res0.defers),.sl o0_2 (List.map Pan.row res0.panics)])→K res0→Q .ret σ st
def T294_0 (prog:Prog)(K:Rou→Prop) :Prop:=
  ∃c:Val,Pus prog 303 [] (c.av)∧K (Rou.mk 2 (-3) [(Frm.mk 0 1 0 ([]:List Loc))] [(Dfr.mk 0 1 true c)] ([]:List Pan))
section
variable {prog:Prog}{d:Nat}{Q:AE→Sl→St→Prop}{K:Rou→Prop}(hQ:H294 Q K){σ:Sl}{st:St}
include hQ
theorem w294_0 (h:T294_0 prog K ):W prog d (sR 0 r294_0 (sR 1 r294_1 .ret)) σ st Q:=
 sq_ (W.reg (s_alloc (e_ (q_ J (s_build (f_cons J J f_nil) (s_bslM (f:=Frm.row) (l:=[(Frm.mk 0 1 0 ([]:List Loc))]) J J (g_cons J J J g_nil) (by simp only [List.map_cons,List.map_nil,Frm.row_eq];rfl) (h.elim fun e c=>ca_ sn c.1 (s_build (f_cons J J (f_cons J J (f_cons J J f_nil))) (s_bslM (f:=Dfr.row) (l:=[(Dfr.mk 0 1 true e)]) J J (g_cons J J J g_nil) (by simp only [List.map_cons,List.map_nil,Dfr.row_eq];rfl) (s_build (f_cons J J (f_cons J J (f_cons J J (f_cons J J f_nil)))) (so_ J (show lk _ (d,0)=some (_,([.i .u8 0,.i .i64 0,.sl .full (List.map Frm.row ([]:List Frm)),.sl .full (List.map Dfr.row ([]:List Dfr)),.sl .full (List.map Pan.row ([]:List Pan))]:List AV)) from lk_here) J J J (er_ (hQ _ _ _ _ _ _ _ _ J lk_here c.2)))))))))))))
end
theorem p294 {prog:Prog}(hf:prog.fn 294=some pf294)  {K:Rou→Prop}(h:T294_0 prog K ) :∃res0:Rou,K res0∧Pus prog 294 [] (res0.av):=by
  obtain ⟨v,hv,res0,hk,rfl⟩:=Pus.of (K:=fun v=>∃res0:Rou,K res0∧v=res0.av) hf rfl (w294_0 (σ:=sl0 []) (fun σ st k0 v0 o0_0 o0_1 o0_2 res0 H0 HB0 hk=>⟨.ag [.i .u8 res0.status,.i .i64 res0.key,.sl o0_0 (List.map Frm.row res0.frames),.sl o0_1 (List.map Dfr.row res0.defers),.sl o0_2 (List.map Pan.row res0.panics)],by simp only [pf294,ares,aresL,ares_cellA (n:=5) H0 HB0 rfl,ares_tmp,Option.map_some],_,rfl,res0,hk,rfl⟩)  h)
  exact ⟨res0,hk,hv⟩
def r296_0:List AI:=[oO 0 (.alloc [z8,z6,z6,zl])]
def r296_1:List AI:=[oO 1 (.build [z6,z6,z7,zl] [(1,1,(.c (.i .i64 4)))]),oO 2 (.bslice [z6,z6,z7,zl] 1 [(0,(.t 1))]),oO 3 (.call false 292 [(.c (.i .i64 5))]),oO 4 (.build [z7,z8,z6,zs,zl,zb,z7] [(0,1,(.c (.i .u64 1))),(1,5,(.t 3))]),oO 5 (.bslice [z7,z8,z6,zs,zl,zb,z7] 1 [(0,(.t 4))]),oO 6 (.build [z8,z6,zl,zl,zl] [(0,1,(.c (.i .u8 1))),(2,1,(.t 2)),(4,1,(.t 5))]),oO 7 (.bslice [z8,z6,zl,zl,zl] 1 [(0,(.t 6))]),oO 8 (.build [z8,z6,z6,zl] [(0,1,(.c (.i .u8 2))),(2,1,(.c (.i .i64 17))),(3,1,(.t 7))]),oS 4 0 8]
abbrev b296:AC:=(sR 0 r296_0 (sR 1 r296_1 .ret))
def pf296:AF:={ nt:=9,res:=[.cell 0 4 true],body:=b296 }
abbrev H296 (Q:AE→Sl→St→Prop)(K:Sta→Prop):Prop:=∀(σ:Sl)(st:St)(k0:Key)(v0:Nat)(o0_0:Own)(res0:Sta),σ 0=.p k0 v0 0→lk st.bx k0=some (v0,[.i .u8 res0.outcome,.i .i64 res0.failing,.i .i64 res0.steps,.sl o0_0 (List.map Rou.row res0.routines)])→K res0→Q .ret σ st
def T296_0 (prog:Prog)(K:Sta→Prop) :Prop:=
  ∃c:Val,Pus prog 292 [.i .i64 5] (c.av)∧K (Sta.mk 2 0 17 [(Rou.mk 1 0 [(Frm.mk 0 4 0 ([]:List Loc))] ([]:List Dfr) [(Pan.mk 1 c 0)])])
section
variable {prog:Prog}{d:Nat}{Q:AE→Sl→St→Prop}{K:Sta→Prop}(hQ:H296 Q K){σ:Sl}{st:St}
include hQ
theorem w296_0 (h:T296_0 prog K ):W prog d (sR 0 r296_0 (sR 1 r296_1 .ret)) σ st Q:=
 sq_ (W.reg (s_alloc (e_ (q_ J (s_build (f_cons J J f_nil) (s_bslM (f:=Frm.row) (l:=[(Frm.mk 0 4 0 ([]:List Loc))]) J J (g_cons J J J g_nil) (by simp only [List.map_cons,List.map_nil,Frm.row_eq];rfl) (h.elim fun e c=>ca_ (sc1 J J) c.1 (s_build (f_cons J J (f_cons J J f_nil)) (s_bslM (f:=Pan.row) (l:=[(Pan.mk 1 e 0)]) J J (g_cons J J J g_nil) (by simp only [List.map_cons,List.map_nil,Pan.row_eq];rfl) (s_build (f_cons J J (f_cons J J (f_cons J J f_nil))) (s_bslM (f:=Rou.row) (l:=[(Rou.mk 1 0 [(Frm.mk 0 4 0 ([]:List Loc))] ([]:List Dfr) [(Pan.mk 1 e 0)])]) J J (g_cons J J J g_nil) (by simp only [List.map_cons,List.map_nil,Rou.row_eq];rfl) (s_build (f_cons J J (f_cons J J (f_cons J J f_nil))) (so_ J (show lk _ (d,0)=some (_,([.i .u8 0,.i .i64 0,.i .i64 0,.sl .full (List.map Rou.row ([]:List Rou))]:List AV)) from lk_here) J J J (er_ (hQ _ _ _ _ _ _ J lk_here c.2)))))))))))))))
end
theorem p296 {prog:Prog}(hf:prog.fn 296=some pf296)  {K:Sta→Prop}(h:T296_0 prog K ) :∃res0:Sta,K res0∧Pus prog 296 [] (res0.av):=by
  obtain ⟨v,hv,res0,hk,rfl⟩:=Pus.of (K:=fun v=>∃res0:Sta,K res0∧v=res0.av) hf rfl (w296_0 (σ:=sl0 []) (fun σ st k0 v0 o0_0 res0 H0 HB0 hk=>⟨res0.avo o0_0,by simp only [pf296,ares,aresL,ares_cellA (n:=4) H0 HB0 rfl,ares_tmp,Option.map_some],_,rfl,res0,hk,rfl⟩)  h)
  exact ⟨res0,hk,hv⟩
def r297_0:List AI:=[oO 0 (.alloc [zl,zl,zl])]
def r297_1:List AI:=[oO 2 (.mks [z8,z6,z6,z6] 32 (.c (.i .i64 6)) (.c (.i .i64 6))),oM 1 2]
def r297_2:List AI:=[oM 3 1,oO 4 (.build [zs,z6,z6,zl,zl,zl,zl] [(0,1,(.c (.s [109,97,105,110]))),(4,1,(.t 3))]),oM 5 1,oO 6 (.build [zs,z6] [(0,1,(.c (.s [120])))]),oO 7 (.bslice [zs,z6] 1 [(0,(.t 6))]),oO 8 (.build [zs,z6,z6,zl,zl,zl,zl] [(0,1,(.c (.s [102]))),(4,1,(.t 5)),(3,1,(.t 7))]),oO 9 (.bslice [zs,z6,z6,zl,zl,zl,zl] 2 [(0,(.t 4)),(1,(.t 8))]),oO 10 (.build [zl,zl,zl] [(2,1,(.t 9))]),oS 3 0 10]
abbrev b297:AC:=(sR 0 r297_0 (sR 1 r297_1 (sR 2 r297_2 .ret)))
def pf297:AF:={ nt:=11,res:=[.cell 0 3 true],body:=b297 }
abbrev H297 (Q:AE→Sl→St→Prop)(K:Img→Prop):Prop:=∀(σ:Sl)(st:St)(k0:Key)(v0:Nat) (o0_0 o0_1 o0_2:Own)(res0:Img),σ 0=.p k0 v0 0→lk st.bx k0=some (v0,[.sl o0_0 (List.map Typ.row res0.types),.sl o0_1 (List.map rowS res0.texts),.sl o0_2 (List.map Fun.row res0.funcs)])→K res0→Q .ret σ st
def T297_0 (prog:Prog)(K:Img→Prop) :Prop:=
  K (Img.mk ([]:List Typ) ([]:LB) [(Fun.mk ([109,97,105,110]:BS) 0 0 ([]:List Fld) (rep 6 Ins.zero) ([]:List Rnn) ([]:List Rnn)),(Fun.mk ([102]:BS) 0 0 [(Fld.mk ([120]:BS) 0)] (rep 6 Ins.zero) ([]:List Rnn) ([]:List Rnn))])
section
variable {prog:Prog}{d:Nat}{Q:AE→Sl→St→Prop}{K:Img→Prop}(hQ:H297 Q K){σ:Sl}{st:St}
include hQ
theorem w297_0 (h:T297_0 prog K ):W prog d (sR 0 r297_0 (sR 1 r297_1 (sR 2 r297_2 .ret))) σ st Q:=
 sq_ (W.reg (s_alloc (e_ (q_ J (s_mks (n:=6) (m:=6) (f:=Ins.row) (a:=Ins.zero) J J J J J (by decide) J ⟨by decide,by decide⟩ (s_mvL J (e_ (q_ J (s_mvL J (s_build (f_cons J J (f_cons J J f_nil)) (s_mvL J (s_build (f_cons J J f_nil) (s_bslM (f:=Fld.row) (l:=[(Fld.mk ([120]:BS) 0)]) J J (g_cons J J J g_nil) (by simp only [List.map_cons,List.map_nil,Fld.row_eq];rfl) (s_build (f_cons J J (f_cons J J (f_cons J J f_nil))) (s_bslM (f:=Fun.row) (l:=[(Fun.mk ([109,97,105,110]:BS) 0 0 ([]:List Fld) (rep 6 Ins.zero) ([]:List Rnn) ([]:List Rnn)),(Fun.mk ([102]:BS) 0 0 [(Fld.mk ([120]:BS) 0)] (rep 6 Ins.zero) ([]:List Rnn) ([]:List Rnn))]) J J (g_cons J J J (g_cons J J J g_nil)) (by simp only [List.map_cons,List.map_nil,Fun.row_eq];rfl) (s_build (f_cons J J f_nil) (so_ J (show lk _ (d,0)=some (_,([.sl .full (List.map Typ.row ([]:List Typ)),.sl .full (List.map rowS ([]:LB)),.sl .full (List.map Fun.row ([]:List Fun))]:List AV)) from lk_here) J J J (er_ (hQ _ _ _ _ _ _ _ _ J lk_here h)))))))))))))))))))
end
theorem p297 {prog:Prog}(hf:prog.fn 297=some pf297)  {K:Img→Prop}(h:T297_0 prog K ) :∃res0:Img,K res0∧Pus prog 297 [] (res0.av):=by
  obtain ⟨v,hv,res0,hk,rfl⟩:=Pus.of (K:=fun v=>∃res0:Img,K res0∧v=res0.av) hf rfl (w297_0 (σ:=sl0 []) (fun σ st k0 v0 o0_0 o0_1 o0_2 res0 H0 HB0 hk=>⟨.ag [.sl o0_0 (List.map Typ.row res0.types),.sl o0_1 (List.map rowS res0.texts),.sl o0_2 (List.map Fun.row res0.funcs)],by simp only [pf297,ares,aresL,ares_cellA (n:=3) H0 HB0 rfl,ares_tmp,Option.map_some],_,rfl,res0,hk,rfl⟩)  h)
  exact ⟨res0,hk,hv⟩
def r293_0:List AI:=[oY 2 4 0,oC 4 (.b false)]
def r293_1:List AI:=[oQ 10 297 [],oK 11 4 2,oQ 12 205 [10,11],oM 9 12,oE 13 0 9,oE 14 1 9,oM 5 13,oM 6 14]
def r293_2:List AI:=[oQ 16 297 [],oM 17 1,oQ 18 299 [16,17],oM 15 18,oE 19 0 15,oE 20 1 15,oO 7 (.alloc [z8,z6,z6,zl]),oS 4 7 19,oM 8 20]
def r293_3:List AI:=[oM 21 6,oV 22 .eql 21 0,oM 23 22,gT 23 (oM 24 5),gT 23 (oM 25 1),gT 23 (oT 26 .eql 24 25),oA 27 23 26,oM 28 27,gT 28 (oM 29 8),gT 28 (oV 30 .eql 29 0),oA 31 28 30,oM 32 31,gT 32 (oK 33 4 2),gT 32 (oK 34 4 7),gT 32 (oQ 35 302 [33,34]),oA 36 32 35,oM 4 36]
abbrev b293:AC:=(sR 0 r293_0 (sR 1 r293_1 (sR 2 r293_2 (sR 3 r293_3 .ret))))
def pf293:AF:={ nt:=37,res:=[.tmp 4],body:=b293 }
def T293_0 (prog:Prog)(K:Bool→Prop)(s0:Sta)(want1:BS):Prop:=
  ∃c:Img,Pus prog 297 [] (c.av)∧∃j e,Pus prog 205 [c.av,s0.av] (.tup [.s j,.i .i64 e])∧∃p:Img,Pus prog 297 [] (p.av)∧∃q:Sta,∃k,Pus prog 299 [p.av,.s want1] (.tup [q.av,.i .i64 k])∧(e=0→(j=want1→(k=0→∃o,Pus prog 302 [s0.av,q.av] (.b o)∧K o)∧(¬(k=0)→K false))∧(¬(j=want1)→K false))∧(¬(e=0)→K false)
section
variable {prog:Prog}{d:Nat}{Q:AE→Sl→St→Prop}{K:Bool→Prop}(hQ:H1 AV.b 4 Q K){σ:Sl}{st:St}
include hQ
variable {s0:Sta}{want1:BS}
variable (H0:σ 0=s0.av)(H1:σ 1=.s want1)
include H0 H1 in
theorem w293_0 (h:T293_0 prog K s0 want1):W prog d (sR 0 r293_0 (sR 1 r293_1 (sR 2 r293_2 (sR 3 r293_3 .ret)))) σ st Q:=
 q_ J (s_box H0 J (m_ (e_ (q_ J (h.elim fun _ p=>ca_ sn p.1 (l_ J lk_here J J (x2 p.2 fun _ _ q=>ca_ (sc2 J J J) q.1 (m_ (x_ J J (x_ J J (m_ (m_ (e_ (sq_ (W.reg (q.2.elim fun _ r=>ca_ sn r.1 (m_ (x2 r.2 fun _ _ c=>ca_ (sc2 J H1 J) c.1 (m_ (x_ J J (x_ J J (s_alloc (so_ J (show lk _ (d,8198)=some (_,([.i .u8 0,.i .i64 0,.i .i64 0,.sl .full (List.map Rou.row ([]:List Rou))]:List AV)) from lk_here) J J J (m_ (e_ (q_ J (s_mvI J (b_ J J eql_ (s_mvB J (em_ (g:=23) J (fun e=>gy_ J (s_mvS J (gy_ J (s_mvS H1 (gy_ J (b_ J J seq_ (z_ 2 J (em_ (g:=28) J (fun j=>gy_ J (s_mvI J (gy_ J (b_ J J eql_ (z_ 2 J (em_ (g:=32) J (fun k=>gy_ J (l_ J (lk_other J (lk_other J lk_here)) J J (gy_ J (l_ J lk_here J J (gy_ J ((((c.2.1 e).1 j).1 k).elim fun _ o=>ca_ (sc2 J J J) o.1 (z_ 2 J (er_ (hQ J o.2))))))))) (fun k=>z_ 5 J (er_ (hQ J (((c.2.1 e).1 j).2 k)))))))))) (fun j=>z_ 9 J (er_ (hQ J ((c.2.1 e).2 j)))))))))))) (fun e=>z_ 14 J (er_ (hQ J (c.2.2 e))))))))))))))))))))))))))))))))))
end
theorem p293 {prog:Prog}(hf:prog.fn 293=some pf293){s0:Sta}{want1:BS}{K:Bool→Prop}(h:T293_0 prog K s0 want1) :∃res0:Bool,K res0∧Pus prog 293 [s0.av,.s want1] (.b res0):=
 P1 hf J (w293_0 (h1 J fun _=>J) J J h)
def r290_0:List AI:=[oC 0 (.b false)]
def r290_1:List AI:=[oQ 4 297 [],oQ 5 294 [],oO 6 (.call false 207 [(.t 4),(.c (.i .i64 0)),(.t 5)]),oM 3 6,oE 7 0 3,oE 8 1 3,oM 1 7,oM 2 8]
def r290_2:List AI:=[oQ 9 296 [],oO 10 (.call false 293 [(.t 9),(.c (.s [111,117,116,99,111,109,101,32,112,97,110,105,99,44,32,102,97,105,108,105,110,103,32,48,44,32,115,116,101,112,115,32,49,55,10,103,111,114,111,117,116,105,110,101,32,48,58,32,114,101,97,100,121,10,32,32,35,48,32,48,32,34,109,97,105,110,34,32,97,116,32,52,32,99,97,108,108,10,32,32,112,97,110,105,99,32,53,10]))]),oM 11 10,gT 11 (oM 12 2),gT 11 (oV 13 .eql 12 0),oA 14 11 13,oM 15 14,gT 15 (oM 16 1),gT 15 (oO 17 (.bslice [zs] 3 [(0,(.c (.s [103,111,114,111,117,116,105,110,101,32,48,58,32,98,108,111,99,107,101,100,32,45,51]))),(1,(.c (.s [32,32,35,48,32,48,32,34,109,97,105,110,34,32,97,116,32,49,32,99,97,108,108]))),(2,(.c (.s [32,32,100,101,102,101,114,32,48,32,49,32,34,102,34,32,119,105,116,104,32,116,114,117,101])))])),gT 15 (oQ 18 29 [16,17]),oA 19 15 18,oM 0 19]
abbrev b290:AC:=(sR 0 r290_0 (sR 1 r290_1 (sR 2 r290_2 .ret)))
def pf290:AF:={ nt:=20,res:=[.tmp 0],body:=b290 }
def T290_0 (prog:Prog)(K:Bool→Prop) :Prop:=
  ∃c:Img,Pus prog 297 [] (c.av)∧∃o:Rou,Pus prog 294 [] (o.av)∧∃p e,Pus prog 207 [c.av,.i .i64 0,o.av] (.tup [.sl .ext (List.map rowS p),.i .i64 e])∧∃q:Sta,Pus prog 296 [] (q.av)∧∃j,Pus prog 293 [q.av,.s ([111,117,116,99,111,109,101,32,112,97,110,105,99,44,32,102,97,105,108,105,110,103,32,48,44,32,115,116,101,112,115,32,49,55,10,103,111,114,111,117,116,105,110,101,32,48,58,32,114,101,97,100,121,10,32,32,35,48,32,48,32,34,109,97,105,110,34,32,97,116,32,52,32,99,97,108,108,10,32,32,112,97,110,105,99,32,53,10]:BS)] (.b j)∧(j=true→(e=0→∃k,Pus prog 29 [.sl .ext (List.map rowS p),.sl .ext (List.map rowS [([103,111,114,111,117,116,105,110,101,32,48,58,32,98,108,111,99,107,101,100,32,45,51]:BS),([32,32,35,48,32,48,32,34,109,97,105,110,34,32,97,116,32,49,32,99,97,108,108]:BS),([32,32,100,101,102,101,114,32,48,32,49,32,34,102,34,32,119,105,116,104,32,116,114,117,101]:BS)])] (.b k)∧K k)∧(¬(e=0)→K false))∧(j=false→K false)
section
variable {prog:Prog}{d:Nat}{Q:AE→Sl→St→Prop}{K:Bool→Prop}(hQ:H1 AV.b 0 Q K){σ:Sl}{st:St}
include hQ
theorem w290_0 (h:T290_0 prog K ):W prog d (sR 0 r290_0 (sR 1 r290_1 (sR 2 r290_2 .ret))) σ st Q:=
 q_ J (m_ (e_ (q_ J (h.elim fun _ k=>ca_ sn k.1 (k.2.elim fun _ o=>ca_ sn o.1 (x2 o.2 fun _ _ p=>ca_ (sc3 J J J J) p.1 (m_ (x_ J J (x_ J J (s_mvL J (m_ (e_ (q_ J (p.2.elim fun _ q=>ca_ sn q.1 (q.2.elim fun _ c=>ca_ (sc2 J J J) c.1 (s_mvB J (eb_ (g:=11) J (fun e=>gy_ J (s_mvI J (gy_ J (b_ J J eql_ (z_ 2 J (em_ (g:=15) J (fun i=>gy_ J (s_mvL J (gy_ J (s_bslM (f:=rowS) (l:=[([103,111,114,111,117,116,105,110,101,32,48,58,32,98,108,111,99,107,101,100,32,45,51]:BS),([32,32,35,48,32,48,32,34,109,97,105,110,34,32,97,116,32,49,32,99,97,108,108]:BS),([32,32,100,101,102,101,114,32,48,32,49,32,34,102,34,32,119,105,116,104,32,116,114,117,101]:BS)]) J J (g_cons J J J (g_cons J J J (g_cons J J J g_nil))) J (gy_ J (((c.2.1 e).1 i).elim fun _ j=>ca_ (sc2 J J J) j.1 (z_ 2 J (er_ (hQ J j.2))))))))) (fun i=>z_ 5 J (er_ (hQ J ((c.2.1 e).2 i)))))))))) (fun e=>z_ 9 J (er_ (hQ J (c.2.2 e)))))))))))))))))))))
end
theorem p290 {prog:Prog}(hf:prog.fn 290=some pf290)  {K:Bool→Prop}(h:T290_0 prog K ) :∃res0:Bool,K res0∧Pus prog 290 [] (.b res0):=
 P1 hf J (w290_0 (h1 J fun _=>J)  h)
abbrev H291 (Q:AE→Sl→St→Prop)(K:Bool→Prop):Prop:=∀(σ:Sl)(st:St)(res0:Bool),σ 6=.b res0→K res0→Q .ret σ st
section
variable {prog:Prog}{d:Nat}{Q:AE→Sl→St→Prop}{K:Bool→Prop}(hQ:H291 Q K){σ:Sl}{st:St}
include hQ
end
end Go.AM

namespace Go.AM
open Go
set_option linter.unusedVariables false
set_option linter.unusedSimpArgs false
set_option maxRecDepth 4000
set_option maxHeartbeats 1000000
attribute [local irreducible] WO fillCells fillRows
def r289_0:List AI:=[oY 3 3 0,oY 4 4 1,oY 5 4 2,oC 6 (.b false)]
def r289_1:List AI:=[oQ 12 290 [],oM 7 12]
def r289_2:List AI:=[oK 13 3 3,oQ 14 79 [13],oM 15 14,gF 15 (oK 16 4 4),gF 15 (oQ 17 203 [16]),oR 18 15 17,oM 19 18,gF 19 (oK 20 4 5),gF 19 (oQ 21 203 [20]),oR 22 19 21,oM 23 22,gF 23 (oM 24 7),gF 23 (oZ 25 24),oR 26 23 25]
def r289_3:List AI:=[oM 27 7,oM 6 27]
def r289_4:List AI:=[oK 29 3 3,oK 30 4 4,oQ 31 205 [29,30],oM 28 31,oE 32 0 28,oE 33 1 28,oM 8 32,oM 9 33]
def r289_5:List AI:=[oK 35 3 3,oK 36 4 5,oQ 37 205 [35,36],oM 34 37,oE 38 0 34,oE 39 1 34,oM 10 38,oM 11 39]
def r289_6:List AI:=[oM 40 9,oV 41 .neq 40 0,oM 42 41,gF 42 (oM 43 11),gF 42 (oV 44 .neq 43 0),oR 45 42 44]
def r289_7:List AI:=[oM 46 7,oM 47 46,gT 47 (oM 48 9),gT 47 (oV 49 .eql 48 0),gT 47 (oM 50 49),gF 50 (oM 51 8),gF 50 (oH 52 51),gF 50 (oV 53 .eql 52 0),gT 47 (oR 54 50 53),oA 55 47 54,oM 56 55,gT 56 (oM 57 11),gT 56 (oV 58 .eql 57 0),gT 56 (oM 59 58),gF 59 (oM 60 10),gF 59 (oH 61 60),gF 59 (oV 62 .eql 61 0),gT 56 (oR 63 59 62),oA 64 56 63,oM 6 64]
def r289_8:List AI:=[oM 65 7,oM 66 65,gT 66 (oM 67 8),gT 66 (oM 68 10),gT 66 (oT 69 .eql 67 68),gT 66 (oK 70 4 4),gT 66 (oK 71 4 5),gT 66 (oQ 72 302 [70,71]),gT 66 (oO 73 (.beq false (.t 69) (.t 72))),oA 74 66 73,oM 6 74]
abbrev c289_0:AC:=(.cond (.t 45) (sR 7 r289_7 .ret) .skip)
abbrev c289_1:AC:=(sR 8 r289_8 .ret)
abbrev c289_2:AC:=(sR 4 r289_4 (sR 5 r289_5 (.seq (sR 6 r289_6 c289_0) c289_1)))
abbrev c289_3:AC:=(.seq (sR 2 r289_2 (.cond (.t 26) (sR 3 r289_3 .ret) .skip)) c289_2)
abbrev c289_4:AC:=(sR 1 r289_1 c289_3)
abbrev b289:AC:=(sR 0 r289_0 c289_4)
def pf289:AF:={ nt:=75,res:=[.tmp 6],body:=b289 }
def T289_5 (prog:Prog)(K:Bool→Prop)(ok7:Bool)(a8:BS)(b10:BS)(m1:Sta)(m2:Sta):Prop:=
  (ok7=true→∃c,Pus prog 302 [m1.av,m2.av] (.b c)∧K (decide ((decide (a8=b10))=c)))∧(ok7=false→K false)
def T289_4 (prog:Prog)(K:Bool→Prop)(ok7:Bool)(a8:BS)(e9:Int)(b10:BS)(f11:Int)(t45:Bool)(m1:Sta)(m2:Sta):Prop:=
  (t45=true→(ok7=true→(e9=0→(f11=0→K true)∧(¬(f11=0)→K (decide ((b10.length:Int)=0))))∧(¬(e9=0)→((a8.length:Int)=0→(f11=0→K true)∧(¬(f11=0)→K (decide ((b10.length:Int)=0))))∧(¬((a8.length:Int)=0)→K false)))∧(ok7=false→K false))∧(t45=false→T289_5 prog K ok7 a8 b10 m1 m2)
def T289_3 (prog:Prog)(K:Bool→Prop)(ok7:Bool)(m0:Img)(m1:Sta)(m2:Sta):Prop:=
  ∃j c,Pus prog 205 [m0.av,m1.av] (.tup [.s j,.i .i64 c])∧∃k e,Pus prog 205 [m0.av,m2.av] (.tup [.s k,.i .i64 e])∧(c≠0→T289_4 prog K ok7 j c k e true m1 m2)∧(¬(c≠0)→T289_4 prog K ok7 j c k e (decide (e≠0)) m1 m2)
def T289_2 (prog:Prog)(K:Bool→Prop)(ok7:Bool)(m0:Img)(m1:Sta)(m2:Sta):Prop:=
  ∃e,Pus prog 79 [m0.av] (.b e)∧(e=true→K ok7)∧(e=false→∃i,Pus prog 203 [m1.av] (.b i)∧(i=true→K ok7)∧(i=false→∃c,Pus prog 203 [m2.av] (.b c)∧(c=true→K ok7)∧(c=false→((!ok7)=true→K ok7)∧((!ok7)=false→T289_3 prog K ok7 m0 m1 m2))))
def T289_1 (prog:Prog)(K:Bool→Prop)(m0:Img)(m1:Sta)(m2:Sta):Prop:=
  ∃c,Pus prog 290 [] (.b c)∧T289_2 prog K c m0 m1 m2
def T289_0 (prog:Prog)(K:Bool→Prop)(m0:Img)(s1:Sta)(t2:Sta):Prop:=
  T289_1 prog K m0 s1 t2
section
variable {prog:Prog}{d:Nat}{Q:AE→Sl→St→Prop}{K:Bool→Prop}(hQ:H1 AV.b 6 Q K){σ:Sl}{st:St}
include hQ
variable {ok7:Bool}{a8 b10:BS}{m1 m2:Sta}{v1 v2:Nat}{e9 f11:Int}{t45:Bool}{m0:Img}{v0:Nat}{s1 t2:Sta}
variable (H3:σ 3=.p (d,0) v0 0)(H0:σ 0=m0.av)(H4:σ 4=.p (d,1) v1 0)(H1:σ 1=s1.av)(H5:σ 5=.p (d,2) v2 0)(H2:σ 2=t2.av)(H7:σ 7=.b ok7)(H8:σ 8=.s a8)(B0:lk st.bx (d,0)=some (v0,Img.cs m0))(H9:σ 9=.i .i64 e9)(H10:σ 10=.s b10)(H11:σ 11=.i .i64 f11)(H45:σ 45=.b t45)(B1:lk st.bx (d,1)=some (v1,Sta.cs m1))(B2:lk st.bx (d,2)=some (v2,Sta.cs m2))
include H4 H5 H7 H8 H10 B1 B2 in
theorem w289_5 (h:T289_5 prog K ok7 a8 b10 m1 m2):W prog d c289_1 σ st Q:=
 q_ J (s_mvB H7 (s_mvB J (eb_ (g:=66) J (fun c=>gy_ J (s_mvS H8 (gy_ J (s_mvS H10 (gy_ J (b_ J J seq_ (gy_ J (l_ H4 B1 J J (gy_ J (l_ H5 B2 J J (gy_ J ((h.1 c).elim fun _ e=>ca_ (sc2 J J J) e.1 (gy_ J (s_beq J J (z_ 2 J (er_ (hQ J e.2))))))))))))))))) (fun c=>z_ 9 J (er_ (hQ J (h.2 c)))))))
include H4 H5 H7 H8 H9 H10 H11 H45 B1 B2 in
theorem w289_4 (h:T289_4 prog K ok7 a8 e9 b10 f11 t45 m1 m2):W prog d c289_0 σ st (thenW prog d c289_1 Q):=
 cb_ H45 (fun c=>q_ J (s_mvB H7 (s_mvB J (eb_ (g:=47) J (fun e=>gy_ J (s_mvI H9 (gy_ J (b_ J J eql_ (gy_ J (s_mvB J (em_ (g:=50) J (fun i=>z_ 3 J (gy_ J (z_ 3 J (gy_ J (s_mvI H11 (gy_ J (b_ J J eql_ (gy_ J (s_mvB J (em_ (g:=59) J (fun k=>z_ 3 J (gy_ J (z_ 3 J (er_ (hQ J ((((h.1 c).1 e).1 i).1 k)))))) (fun k=>gy_ J (s_mvS H10 (gy_ J (ln_ J (gy_ J (b_ J J eql_ (gy_ J (z_ 3 J (er_ (hQ J ((((h.1 c).1 e).1 i).2 k))))))))))))))))))))) (fun i=>gy_ J (s_mvS H8 (gy_ J (ln_ J (gy_ J (b_ J J eql_ (gy_ J (z_ 3 J (em_ (g:=56) J (fun j=>gy_ J (s_mvI H11 (gy_ J (b_ J J eql_ (gy_ J (s_mvB J (em_ (g:=59) J (fun o=>z_ 3 J (gy_ J (z_ 3 J (er_ (hQ J (((((h.1 c).1 e).2 i).1 j).1 o)))))) (fun o=>gy_ J (s_mvS H10 (gy_ J (ln_ J (gy_ J (b_ J J eql_ (gy_ J (z_ 3 J (er_ (hQ J (((((h.1 c).1 e).2 i).1 j).2 o)))))))))))))))))) (fun j=>z_ 3 J (gt_ J (gt_ J (gt_ J (z_ 3 J (er_ (hQ J ((((h.1 c).1 e).2 i).2 j)))))))))))))))))))))))) (fun e=>z_ 3 J (gt_ J (gt_ J (gt_ J (z_ 6 J (gt_ J (gt_ J (gt_ J (z_ 3 J (er_ (hQ J ((h.1 c).2 e)))))))))))))))) (fun c=>sk_ (w289_5 hQ H4 H5 H7 H8 H10 B1 B2 (h.2 c)))
include H3 H4 H5 H7 B0 B1 B2 in
theorem w289_3 (h:T289_3 prog K ok7 m0 m1 m2):W prog d c289_2 σ st Q:=
 q_ J (l_ H3 B0 J J (l_ H4 B1 J J (x2 h fun _ _ i=>ca_ (sc2 J J J) i.1 (m_ (x_ J J (x_ J J (m_ (m_ (e_ (q_ J (l_ H3 B0 J J (l_ H5 B2 J J (x2 i.2 fun _ _ c=>ca_ (sc2 J J J) c.1 (m_ (x_ J J (x_ J J (m_ (m_ (e_ (sq_ (q_ J (s_mvI J (b_ J J neq_ (s_mvB J (em_ (g:=42) J (fun e=>z_ 3 J (e_ (w289_4 hQ H4 H5 H7 J J J J J B1 B2 (c.2.1 e)))) (fun e=>gy_ J (s_mvI J (gy_ J (b_ J J neq_ (pf_ J J (e_ (w289_4 hQ H4 H5 H7 J J J J J B1 B2 (c.2.2 e)))))))))))))))))))))))))))))))))
include H3 H4 H5 H7 B0 B1 B2 in
theorem w289_2 (h:T289_2 prog K ok7 m0 m1 m2):W prog d c289_3 σ st Q:=
 sq_ (q_ J (l_ H3 B0 J J (h.elim fun _ i=>ca_ (sc1 J J) i.1 (s_mvB J (eb_ (g:=15) J (fun o=>z_ 11 J (e_ (ct_ J (q_ J (m_ (m_ (er_ (hQ H7 (i.2.1 o))))))))) (fun o=>gy_ J (l_ H4 B1 J J (gy_ J ((i.2.2 o).elim fun _ j=>ca_ (sc1 J J) j.1 (z_ 2 J (eb_ (g:=19) J (fun p=>z_ 7 J (e_ (ct_ J (q_ J (m_ (m_ (er_ (hQ H7 (j.2.1 p))))))))) (fun p=>gy_ J (l_ H5 B2 J J (gy_ J ((j.2.2 p).elim fun _ c=>ca_ (sc1 J J) c.1 (z_ 2 J (eb_ (g:=23) J (fun e=>z_ 3 J (e_ (ct_ J (q_ J (m_ (m_ (er_ (hQ H7 (c.2.1 e))))))))) (fun e=>gy_ J (s_mvB H7 (gy_ J (nt_ J (pf_ J J (e_ (cb_ J (fun k=>q_ J (m_ (m_ (er_ (hQ H7 ((c.2.2 e).1 k)))))) (fun k=>sk_ (w289_3 hQ H3 H4 H5 H7 B0 B1 B2 ((c.2.2 e).2 k)))))))))))))))))))))))))))
include H3 H4 H5 B0 B1 B2 in
theorem w289_1 (h:T289_1 prog K m0 m1 m2):W prog d c289_4 σ st Q:=
 q_ J (h.elim fun _ c=>ca_ sn c.1 (m_ (e_ (w289_2 hQ H3 H4 H5 J B0 B1 B2 c.2))))
include H0 H1 H2 in
theorem w289_0 (h:T289_0 prog K m0 s1 t2):W prog d (sR 0 r289_0 c289_4) σ st Q:=
 q_ J (s_box H0 J (s_box H1 J (s_box H2 J (m_ (e_ (w289_1 hQ J J J (lk_other J (lk_other J lk_here)) (lk_other J lk_here) lk_here h))))))
end
theorem p289 {prog:Prog}(hf:prog.fn 289=some pf289){m0:Img}{s1:Sta}{t2:Sta}{K:Bool→Prop}(h:T289_0 prog K m0 s1 t2) :∃res0:Bool,K res0∧Pus prog 289 [m0.av,s1.av,t2.av] (.b res0):=
 P1 hf J (w289_0 (h1 J fun _=>J) J J J h)
abbrev H286 (Q:AE→Sl→St→Prop)(K:Bool→Prop):Prop:=∀(σ:Sl)(st:St)(res0:Bool),σ 4=.b res0→K res0→Q .ret σ st
section
variable {prog:Prog}{d:Nat}{Q:AE→Sl→St→Prop}{K:Bool→Prop}(hQ:H286 Q K){σ:Sl}{st:St}
include hQ
end
end Go.AM

namespace Go.AM
open Go
set_option linter.unusedVariables false
set_option linter.unusedSimpArgs false
set_option maxRecDepth 4000
set_option maxHeartbeats 1000000
attribute [local irreducible] WO fillCells fillRows
def r307_0:List AI:=[oO 2 (.alloc [z8,z6,z6,zl]),oC 3 (.b false)]
def r307_1:List AI:=[oO 4 (.alloc [z8,z6,z6,zl])]
def r307_2:List AI:=[oM 16 0,oO 17 (.call false 316 [(.t 16),(.c (.s [111,117,116,99,111,109,101,32]))]),oO 18 (.call false 260 [(.t 17),(.c (.s [44,32,102,97,105,108,105,110,103,32]))]),oM 15 18,oE 19 0 15,oE 20 1 15,oE 21 2 15,oM 5 19,oM 6 20,oM 7 21]
def r307_3:List AI:=[oM 23 6,oO 24 (.call false 260 [(.t 23),(.c (.s [44,32,115,116,101,112,115,32]))]),oM 22 24,oE 25 0 22,oE 26 1 22,oE 27 2 22,oM 8 25,oM 9 26,oM 10 27]
def r307_4:List AI:=[oM 29 5,oQ 30 211 [29],oM 28 30,oE 31 0 28,oE 32 1 28,oM 11 31,oM 12 32]
def r307_5:List AI:=[oM 33 11,oF 34 0 4,oS 1 34 33]
def r307_6:List AI:=[oC 13 (.b false),oC 14 (.b false)]
def r307_7:List AI:=[oM 36 8,oQ 37 317 [36],oM 35 37,oE 38 0 35,oE 39 1 35,oF 40 1 4,oS 1 40 38,oM 13 39]
def r307_8:List AI:=[oM 42 9,oQ 43 317 [42],oM 41 43,oE 44 0 41,oE 45 1 41,oF 46 2 4,oS 1 46 44,oM 14 45]
def r307_9:List AI:=[oK 47 4 4,oM 48 7,oM 49 48,gT 49 (oM 50 10),oA 51 49 50,oM 52 51,gT 52 (oM 53 13),oA 54 52 53,oM 55 54,gT 55 (oM 56 14),oA 57 55 56,oM 58 57,gT 58 (oM 59 12),gT 58 (oV 60 .eql 59 0),oA 61 58 60,oS 4 2 47,oM 3 61]
abbrev c307_0:AC:=(sR 9 r307_9 .ret)
abbrev c307_1:AC:=(sR 8 r307_8 c307_0)
abbrev c307_2:AC:=(sR 7 r307_7 c307_1)
abbrev c307_3:AC:=(sR 6 r307_6 c307_2)
abbrev c307_4:AC:=(sR 5 r307_5 c307_3)
abbrev c307_5:AC:=(sR 4 r307_4 c307_4)
abbrev c307_6:AC:=(sR 3 r307_3 c307_5)
abbrev c307_7:AC:=(sR 2 r307_2 c307_6)
abbrev c307_8:AC:=(sR 1 r307_1 c307_7)
abbrev b307:AC:=(sR 0 r307_0 c307_8)
def pf307:AF:={ nt:=62,res:=[.cell 2 4 true,.tmp 3],body:=b307 }
abbrev H307 (d:Nat)(st0:St)(Q:AE→Sl→St→Prop)(K:Sta→Bool→Prop):Prop:=∀(σ:Sl)(st:St)(k0:Key)(v0:Nat)(res0:Sta)(res1:Bool),σ 2=.p k0 v0 0→lk st.bx k0=some (v0,[.i .u8 res0.outcome,.i .i64 res0.failing,.i .i64 res0.steps,.sl .full (List.map Rou.row res0.routines)])→σ 3=.b res1→Fr d (d,0) st0.bx st0.ow st.bx st.ow→K res0 res1→Q .ret σ st
def T307_9 (prog:Prog)(K:Sta→Bool→Prop)(a7:Bool)(b10:Bool)(e12:Int)(ok13:Bool)(is14:Bool)(m0:Sta)(m4096:Sta):Prop:=
  (a7=true→(b10=true→(ok13=true→(is14=true→K m4096 (decide (e12=0)))∧(is14=false→K m4096 false))∧(ok13=false→K m4096 false))∧(b10=false→K m4096 false))∧(a7=false→K m4096 false)
def T307_8 (prog:Prog)(K:Sta→Bool→Prop)(a7:Bool)(steps9:BS)(b10:Bool)(e12:Int)(ok13:Bool)(m0:Sta)(m4096:Sta):Prop:=
  ∃e c,Pus prog 317 [.s steps9] (.tup [.i .i64 e,.b c])∧T307_9 prog K a7 b10 e12 ok13 c m0 (Sta.mk m4096.outcome m4096.failing e m4096.routines)
def T307_7 (prog:Prog)(K:Sta→Bool→Prop)(a7:Bool)(failing8:BS)(steps9:BS)(b10:Bool)(e12:Int)(m0:Sta)(m4096:Sta):Prop:=
  ∃e c,Pus prog 317 [.s failing8] (.tup [.i .i64 e,.b c])∧T307_8 prog K a7 steps9 b10 e12 c m0 (Sta.mk m4096.outcome e m4096.steps m4096.routines)
def T307_6 (prog:Prog)(K:Sta→Bool→Prop)(a7:Bool)(failing8:BS)(steps9:BS)(b10:Bool)(e12:Int)(m0:Sta)(m4096:Sta):Prop:=
  T307_7 prog K a7 failing8 steps9 b10 e12 m0 m4096
def T307_5 (prog:Prog)(K:Sta→Bool→Prop)(a7:Bool)(failing8:BS)(steps9:BS)(b10:Bool)(n11:Int)(e12:Int)(m0:Sta)(m4096:Sta):Prop:=
  T307_6 prog K a7 failing8 steps9 b10 e12 m0 (Sta.mk n11 m4096.failing m4096.steps m4096.routines)
def T307_4 (prog:Prog)(K:Sta→Bool→Prop)(word5:BS)(a7:Bool)(failing8:BS)(steps9:BS)(b10:Bool)(m0:Sta)(m4096:Sta):Prop:=
  ∃e c,Pus prog 211 [.s word5] (.tup [.i .u8 e,.i .i64 c])∧T307_5 prog K a7 failing8 steps9 b10 e c m0 m4096
def T307_3 (prog:Prog)(K:Sta→Bool→Prop)(word5:BS)(rest6:BS)(a7:Bool)(m0:Sta)(m4096:Sta):Prop:=
  ∃e c i,Pus prog 260 [.s rest6,.s ([44,32,115,116,101,112,115,32]:BS)] (.tup [.s e,.s c,.b i])∧T307_4 prog K word5 a7 e c i m0 m4096
def T307_2 (prog:Prog)(K:Sta→Bool→Prop)(s0:BS)(m0:Sta)(m4096:Sta):Prop:=
  ∃e,Pus prog 316 [.s s0,.s ([111,117,116,99,111,109,101,32]:BS)] (.s e)∧∃j i c,Pus prog 260 [.s e,.s ([44,32,102,97,105,108,105,110,103,32]:BS)] (.tup [.s j,.s i,.b c])∧T307_3 prog K j i c m0 m4096
def T307_1 (prog:Prog)(K:Sta→Bool→Prop)(s0:BS)(m0:Sta):Prop:=
  T307_2 prog K s0 m0 (Sta.mk 0 0 0 ([]:List Rou))
def T307_0 (prog:Prog)(K:Sta→Bool→Prop)(s0:BS):Prop:=
  T307_1 prog K s0 (Sta.mk 0 0 0 ([]:List Rou))
section
variable {prog:Prog}{d:Nat}{Q:AE→Sl→St→Prop}{K:Sta→Bool→Prop}{st0:St}(hQ:H307 d st0 Q K){σ:Sl}{st:St}
include hQ
variable {a7 b10:Bool}{e12:Int}{ok13 is14:Bool}{m0 m4096:Sta}{v0 v4096:Nat}{steps9 failing8:BS}{n11:Int}{word5 rest6 s0:BS}
variable (H0:σ 0=.s s0)(H2:σ 2=.p (d,0) v0 0)(H4:σ 4=.p (d,4096) v4096 0)(H5:σ 5=.s word5)(H6:σ 6=.s rest6)(H7:σ 7=.b a7)(H8:σ 8=.s failing8)(H9:σ 9=.s steps9)(H10:σ 10=.b b10)(H11:σ 11=.i .u8 n11)(H12:σ 12=.i .i64 e12)(H13:σ 13=.b ok13)(H14:σ 14=.b is14)(B0:lk st.bx (d,0)=some (v0,[.i .u8 m0.outcome,.i .i64 m0.failing,.i .i64 m0.steps,.sl .full (List.map Rou.row m0.routines)]))(B4096:lk st.bx (d,4096)=some (v4096,[.i .u8 m4096.outcome,.i .i64 m4096.failing,.i .i64 m4096.steps,.sl .full (List.map Rou.row m4096.routines)]))(FR:Fr d (d,0) st0.bx st0.ow st.bx st.ow)
include H2 H4 H7 H10 H12 H13 H14 B0 B4096 FR in
theorem w307_9 (h:T307_9 prog K a7 b10 e12 ok13 is14 m0 m4096):W prog d c307_0 σ st Q:=
 q_ J (l_ H4 B4096 J J (s_mvB H7 (s_mvB J (eb_ (g:=49) J (fun c=>gy_ J (s_mvB H10 (z_ 2 J (eb_ (g:=52) J (fun e=>gy_ J (s_mvB H13 (z_ 2 J (eb_ (g:=55) J (fun i=>gy_ J (s_mvB H14 (z_ 2 J (eb_ (g:=58) J (fun j=>gy_ J (s_mvI H12 (gy_ J (b_ J J eql_ (pt_ J J (so_ H2 B0 J J J (s_mvB J (er_ (hQ _ _ _ _ _ _ H2 lk_here J (Fr.box FR) ((((h.1 c).1 e).1 i).1 j)))))))))) (fun j=>z_ 3 J (so_ H2 B0 J J J (s_mvB J (er_ (hQ _ _ _ _ _ _ H2 lk_here J (Fr.box FR) ((((h.1 c).1 e).1 i).2 j)))))))))) (fun i=>z_ 6 J (so_ H2 B0 J J J (s_mvB J (er_ (hQ _ _ _ _ _ _ H2 lk_here J (Fr.box FR) (((h.1 c).1 e).2 i)))))))))) (fun e=>z_ 9 J (so_ H2 B0 J J J (s_mvB J (er_ (hQ _ _ _ _ _ _ H2 lk_here J (Fr.box FR) ((h.1 c).2 e)))))))))) (fun c=>z_ 12 J (so_ H2 B0 J J J (s_mvB J (er_ (hQ _ _ _ _ _ _ H2 lk_here J (Fr.box FR) (h.2 c))))))))))
include H2 H4 H7 H9 H10 H12 H13 B0 B4096 FR in
theorem w307_8 (h:T307_8 prog K a7 steps9 b10 e12 ok13 m0 m4096):W prog d c307_1 σ st Q:=
 q_ J (m_ (x2 h fun e _ c=>ca_ (sc1 H9 J) c.1 (m_ (x_ J J (x_ J J (f_ H4 (so_ J B4096 J J J (m_ (e_ (w307_9 (m4096:=(Sta.mk m4096.outcome m4096.failing e m4096.routines)) hQ H2 H4 H7 H10 H12 H13 J (lk_other J B0) lk_here (Fr.box FR) c.2))))))))))
include H2 H4 H7 H8 H9 H10 H12 B0 B4096 FR in
theorem w307_7 (h:T307_7 prog K a7 failing8 steps9 b10 e12 m0 m4096):W prog d c307_2 σ st Q:=
 q_ J (m_ (x2 h fun e _ c=>ca_ (sc1 H8 J) c.1 (m_ (x_ J J (x_ J J (f_ H4 (so_ J B4096 J J J (m_ (e_ (w307_8 (m4096:=(Sta.mk m4096.outcome e m4096.steps m4096.routines)) hQ H2 H4 H7 H9 H10 H12 J (lk_other J B0) lk_here (Fr.box FR) c.2))))))))))
include H2 H4 H7 H8 H9 H10 H12 B0 B4096 FR in
theorem w307_6 (h:T307_6 prog K a7 failing8 steps9 b10 e12 m0 m4096):W prog d c307_3 σ st Q:=
 q_ J (m_ (m_ (e_ (w307_7 hQ H2 H4 H7 H8 H9 H10 H12 B0 B4096 FR h))))
include H2 H4 H7 H8 H9 H10 H11 H12 B0 B4096 FR in
theorem w307_5 (h:T307_5 prog K a7 failing8 steps9 b10 n11 e12 m0 m4096):W prog d c307_4 σ st Q:=
 q_ J (m_ (f_ H4 (so_ J B4096 H11 J J (e_ (w307_6 (m4096:=(Sta.mk n11 m4096.failing m4096.steps m4096.routines)) hQ H2 H4 H7 H8 H9 H10 H12 (lk_other J B0) lk_here (Fr.box FR) h)))))
include H2 H4 H5 H7 H8 H9 H10 B0 B4096 FR in
theorem w307_4 (h:T307_4 prog K word5 a7 failing8 steps9 b10 m0 m4096):W prog d c307_5 σ st Q:=
 q_ J (m_ (x2 h fun _ _ c=>ca_ (sc1 H5 J) c.1 (m_ (x_ J J (x_ J J (m_ (m_ (e_ (w307_5 hQ H2 H4 H7 H8 H9 H10 J J B0 B4096 FR c.2)))))))))
include H2 H4 H5 H6 H7 B0 B4096 FR in
theorem w307_3 (h:T307_3 prog K word5 rest6 a7 m0 m4096):W prog d c307_6 σ st Q:=
 q_ J (m_ (x2 h fun _ _ e=>e.elim fun _ c=>ca_ (sc2 H6 J J) c.1 (m_ (x_ J J (x_ J J (x_ J J (m_ (m_ (m_ (e_ (w307_4 hQ H2 H4 H5 H7 J J J B0 B4096 FR c.2)))))))))))
include H0 H2 H4 B0 B4096 FR in
theorem w307_2 (h:T307_2 prog K s0 m0 m4096):W prog d c307_7 σ st Q:=
 q_ J (m_ (h.elim fun _ c=>ca_ (sc2 H0 J J) c.1 (x2 c.2 fun _ _ i=>i.elim fun _ e=>ca_ (sc2 J J J) e.1 (m_ (x_ J J (x_ J J (x_ J J (m_ (m_ (m_ (e_ (w307_3 hQ H2 H4 J J J B0 B4096 FR e.2))))))))))))
include H0 H2 B0 FR in
theorem w307_1 (h:T307_1 prog K s0 m0):W prog d c307_8 σ st Q:=
 sq_ (W.reg (s_alloc (e_ (w307_2 (m4096:=(Sta.mk 0 0 0 ([]:List Rou))) hQ H0 H2 J (lk_other J B0) (show lk _ (d,4096)=some (_,([.i .u8 0,.i .i64 0,.i .i64 0,.sl .full (List.map Rou.row ([]:List Rou))]:List AV)) from lk_here) (Fr.box FR) h))))
include H0 FR in
theorem w307_0 (h:T307_0 prog K s0):W prog d (sR 0 r307_0 c307_8) σ st Q:=
 sq_ (W.reg (s_alloc (m_ (e_ (w307_1 (m0:=(Sta.mk 0 0 0 ([]:List Rou))) hQ H0 J (show lk _ (d,0)=some (_,([.i .u8 0,.i .i64 0,.i .i64 0,.sl .full (List.map Rou.row ([]:List Rou))]:List AV)) from lk_here) (Fr.box FR) h)))))
end
theorem p307 {prog:Prog}(hf:prog.fn 307=some pf307){s0:BS}{K:Sta→Bool→Prop}(h:T307_0 prog K s0):PuN prog 307 [.s s0] (fun r=>∃res0:Sta,∃res1:Bool,(r=.tup [res0.avo .full,.b res1])∧K res0 res1):=
  PuN.of hf rfl fun d st=>w307_0 (st0:=st) (Q:=fun e σ st'=>(e=.normal∨e=.ret)∧∃r,ares σ st' pf307.res=some r∧_∧Fr d (d,0) st.bx st.ow st'.bx st'.ow) (fun σ st' k0 v0  res0 res1 H2 HB2 H3 hf hk=>⟨.inr rfl,.tup [res0.avo .full,.b res1],by simp only [pf307,ares,aresL,ares_cellA (n:=4) H2 HB2 rfl,H3,ares_tmp,Option.map_some,ares_cellA (n:=4) H2 HB2 rfl,H3],⟨res0,res1,rfl,hk⟩,hf⟩) (σ:=sl0 [.s s0]) rfl Fr.refl h
end Go.AM

namespace Go.AM
open Go
set_option linter.unusedVariables false
set_option linter.unusedSimpArgs false
set_option maxRecDepth 4000
set_option maxHeartbeats 1000000
attribute [local irreducible] WO fillCells fillRows
def r305_0:List AI:=[oC 3 (.s []),oC 4 (.b false)]
def r305_1:List AI:=[oL 6 1,oJ 7 6,oV 8 .eql 7 0,oM 9 8,gF 9 (oL 10 1),gF 9 (oO 11 (.iaL 1 (.t 10) (.c (.i .i64 0)))),gF 9 (oL 12 11),gF 9 (oM 13 0),gF 9 (oQ 14 306 [12,13]),gF 9 (oZ 15 14),oR 16 9 15]
def r305_2:List AI:=[oC 3 (.s []),oC 4 (.b false)]
def r305_3:List AI:=[oL 17 1,oO 18 (.iaL 1 (.t 17) (.c (.i .i64 0))),oL 19 18,oM 5 19]
def r305_4:List AI:=[oL 20 1,oO 21 (.slL 1 (.t 20) (some (.c (.i .i64 1))) none),oS 1 1 21]
def r305_5:List AI:=[oM 22 5,oM 3 22,oC 4 (.b true)]
abbrev c305_0:AC:=(sR 3 r305_3 (sR 4 r305_4 (sR 5 r305_5 .ret)))
abbrev b305:AC:=(sR 0 r305_0 (.seq (sR 1 r305_1 (.cond (.t 16) (sR 2 r305_2 .ret) .skip)) c305_0))
def pf305:AF:={ nt:=23,res:=[.tmp 3,.tmp 4],body:=b305 }
def r309_0:List AI:=[oY 3 3 0,oC 6 (.b false)]
def r309_1:List AI:=[oM 23 2,oO 24 (.callv (.t 23) [(.c (.s [32,32,35]))]),oM 22 24,oE 25 0 22,oE 26 1 22,oM 7 25,oM 8 26]
def r309_2:List AI:=[oM 27 8,oZ 28 27]
def r309_3:List AI:=[oM 29 7,oO 30 (.slS (.t 29) (some (.c (.i .i64 2))) none),oO 31 (.bslice [zs] 1 [(0,(.t 30))]),oM 9 31]
def r309_4:List AI:=[oM 33 2,oO 34 (.callv (.t 33) [(.c (.s [32,32,32,32]))]),oM 32 34,oE 35 0 32,oE 36 1 32,oM 10 35,oM 11 36]
def r309_5:List AI:=[oM 37 11,oZ 38 37]
def r309_6:List AI:=[oM 39 9,oM 40 10,oO 41 (.slS (.t 40) (some (.c (.i .i64 2))) none),oO 42 (.bslice [zs] 1 [(0,(.t 41))]),oO 43 (.app 1 16 (.t 39) (.t 42)),oM 9 43]
def r309_7:List AI:=[oK 45 3 3,oM 46 9,oQ 47 84 [45,46],oM 44 47,oE 48 0 44,oE 49 1 44,oE 50 2 44,oO 13 (.alloc [z6,z6,z7,zl]),oM 12 48,oS 4 13 49,oM 14 50]
def r309_8:List AI:=[oM 51 14,oV 52 .neq 51 0]
def r309_9:List AI:=[oC 6 (.b false)]
def r309_10:List AI:=[oM 53 1,oM 54 1,oN 55 54,oF 56 2 55,oL 57 56,oK 58 4 13,oO 59 (.bslice [z6,z6,z7,zl] 1 [(0,(.t 58))]),oO 60 (.app 4 48 (.t 57) (.t 59)),oN 61 53,oF 62 2 61,oS 1 62 60]
def r309_11:List AI:=[oM 64 2,oO 65 (.callv (.t 64) [(.c (.s [32,32,100,101,102,101,114,32]))]),oM 63 65,oE 66 0 63,oE 67 1 63,oM 15 66,oM 16 67]
def r309_12:List AI:=[oM 68 16,oZ 69 68]
def r309_13:List AI:=[oK 71 3 3,oM 72 15,oO 73 (.slS (.t 72) (some (.c (.i .i64 2))) none),oQ 74 318 [71,73],oM 70 74,oE 75 0 70,oE 76 1 70,oO 17 (.alloc [z6,z6,zb,z8,z6,zs,zl,zb]),oS 8 17 75,oM 16 76]
def r309_14:List AI:=[oM 77 16,oZ 78 77]
def r309_15:List AI:=[oC 6 (.b false)]
def r309_16:List AI:=[oM 79 1,oM 80 1,oN 81 80,oF 82 3 81,oL 83 82,oK 84 8 17,oO 85 (.bslice [z6,z6,zb,z8,z6,zs,zl,zb] 1 [(0,(.t 84))]),oO 86 (.app 8 88 (.t 83) (.t 85)),oN 87 79,oF 88 3 87,oS 1 88 86]
def r309_17:List AI:=[oM 90 2,oO 91 (.callv (.t 90) [(.c (.s [32,32]))]),oM 89 91,oE 92 0 89,oE 93 1 89,oM 18 92,oM 19 93]
def r309_18:List AI:=[oM 94 19,oZ 95 94]
def r309_19:List AI:=[oC 6 (.b true)]
def r309_20:List AI:=[oM 97 18,oO 98 (.slS (.t 97) (some (.c (.i .i64 2))) none),oQ 99 156 [98],oM 96 99,oE 100 0 96,oE 101 1 96,oO 20 (.alloc [z7,z8,z6,zs,zl,zb,z7]),oS 7 20 100,oM 21 101]
def r309_21:List AI:=[oM 102 21,oV 103 .neq 102 0]
def r309_22:List AI:=[oC 6 (.b false)]
def r309_23:List AI:=[oM 104 1,oM 105 1,oN 106 105,oF 107 4 106,oL 108 107,oK 109 7 20,oO 110 (.bslice [z7,z8,z6,zs,zl,zb,z7] 1 [(0,(.t 109))]),oO 111 (.app 7 80 (.t 108) (.t 110)),oN 112 104,oF 113 4 112,oS 1 113 111]
abbrev l309_1:AC:=(.block 3 (sR 4 r309_4 (.seq (sR 5 r309_5 (.cond (.t 38) (.exit 2) .skip)) (.reg 6 r309_6))))
abbrev c309_1:AC:=(sR 7 r309_7 (.seq (sR 8 r309_8 (.cond (.t 52) (sR 9 r309_9 .ret) .skip)) (.reg 10 r309_10)))
abbrev l309_0:AC:=(.block 1 (sR 1 r309_1 (.seq (sR 2 r309_2 (.cond (.t 28) (.exit 0) .skip)) (sR 3 r309_3 (.seq (.block 2 (.loop l309_1)) c309_1)))))
abbrev l309_2:AC:=(.block 5 (sR 11 r309_11 (.seq (sR 12 r309_12 (.cond (.t 69) (.exit 4) .skip)) (sR 13 r309_13 (.seq (sR 14 r309_14 (.cond (.t 78) (sR 15 r309_15 .ret) .skip)) (.reg 16 r309_16))))))
abbrev l309_3:AC:=(.block 7 (sR 17 r309_17 (.seq (sR 18 r309_18 (.cond (.t 95) (sR 19 r309_19 .ret) .skip)) (sR 20 r309_20 (.seq (sR 21 r309_21 (.cond (.t 103) (sR 22 r309_22 .ret) .skip)) (.reg 23 r309_23))))))
abbrev c309_5:AC:=(.block 6 (.loop l309_3))
abbrev c309_6:AC:=(.seq (.block 4 (.loop l309_2)) c309_5)
abbrev c309_7:AC:=(.seq (.block 0 (.loop l309_0)) c309_6)
abbrev b309:AC:=(sR 0 r309_0 c309_7)
def pf309:AF:={ nt:=114,res:=[.tmp 6],body:=b309 }
def r299_0:List AI:=[oY 2 3 0,oO 4 (.alloc [z8,z6,z6,zl]),oI 5 0]
def r299_1:List AI:=[oM 17 1,oH 18 17,oV 19 .gtr 18 300000]
def r299_2:List AI:=[oO 20 (.build [z8,z6,z6,zl] []),oS 4 4 20,oI 5 4]
def r299_3:List AI:=[oM 21 1,oO 22 (.call false 304 [(.t 21),(.c (.s [10]))]),oO 6 (.alloc [zl]),oS 1 6 22]
def r299_4:List AI:=[oO 23 (.mkfn 305 [(.t 6)]),oM 7 23]
def r299_5:List AI:=[oM 25 7,oO 26 (.callv (.t 25) [(.c (.s [111,117,116,99,111,109,101,32]))]),oM 24 26,oE 27 0 24,oE 28 1 24,oM 8 27,oM 9 28]
def r299_6:List AI:=[oM 30 8,oO 31 (.call true 307 [(.t 30)]),oM 29 31,oE 32 0 29,oE 33 1 29,oO 10 (.alloc [z8,z6,z6,zl]),oS 4 10 32,oM 11 33]
def r299_7:List AI:=[oM 34 9,oZ 35 34,oM 36 35,gF 36 (oM 37 11),gF 36 (oZ 38 37),oR 39 36 38]
def r299_8:List AI:=[oO 40 (.build [z8,z6,z6,zl] []),oS 4 4 40,oI 5 12]
def r299_9:List AI:=[oM 42 7,oO 43 (.callv (.t 42) [(.c (.s [103,111,114,111,117,116,105,110,101,32]))]),oM 41 43,oE 44 0 41,oE 45 1 41,oM 12 44,oM 13 45]
def r299_10:List AI:=[oM 46 13,oZ 47 46]
def r299_11:List AI:=[oM 49 12,oO 50 (.call true 308 [(.t 49)]),oM 48 50,oE 51 0 48,oE 52 1 48,oO 14 (.alloc [z8,z6,zl,zl,zl]),oS 5 14 51,oM 13 52]
def r299_12:List AI:=[oM 53 13,oZ 54 53,oM 55 54,gF 55 (oK 56 3 2),gF 55 (oM 57 7),gF 55 (oO 58 (.call true 309 [(.t 56),(.t 14),(.t 57)])),gF 55 (oZ 59 58),oR 60 55 59]
def r299_13:List AI:=[oO 61 (.build [z8,z6,z6,zl] []),oS 4 4 61,oI 5 12]
def r299_14:List AI:=[oF 62 3 10,oL 63 62,oK 64 5 14,oO 65 (.bslice [z8,z6,zl,zl,zl] 1 [(0,(.t 64))]),oO 66 (.app 5 88 (.t 63) (.t 65)),oF 67 3 10,oS 1 67 66]
def r299_15:List AI:=[oK 69 3 2,oK 70 4 10,oQ 71 205 [69,70],oM 68 71,oE 72 0 68,oE 73 1 68,oM 15 72,oM 16 73]
def r299_16:List AI:=[oM 74 16,oV 75 .neq 74 0,oM 76 75,gF 76 (oM 77 15),gF 76 (oM 78 1),gF 76 (oT 79 .neq 77 78),oR 80 76 79]
def r299_17:List AI:=[oO 81 (.build [z8,z6,z6,zl] []),oS 4 4 81,oI 5 12]
def r299_18:List AI:=[oK 82 4 10,oS 4 4 82,oI 5 0]
abbrev c299_0:AC:=(.reg 14 r299_14)
abbrev l299_0:AC:=(.block 1 (sR 9 r299_9 (.seq (sR 10 r299_10 (.cond (.t 47) (.exit 0) .skip)) (sR 11 r299_11 (.seq (sR 12 r299_12 (.cond (.t 60) (sR 13 r299_13 .ret) .skip)) c299_0)))))
abbrev c299_2:AC:=(.seq (sR 15 r299_15 (sR 16 r299_16 (.cond (.t 80) (sR 17 r299_17 .ret) .skip))) (sR 18 r299_18 .ret))
abbrev c299_3:AC:=(.seq (.block 0 (.loop l299_0)) c299_2)
abbrev c299_4:AC:=(.seq (sR 7 r299_7 (.cond (.t 39) (sR 8 r299_8 .ret) .skip)) c299_3)
abbrev c299_5:AC:=(sR 6 r299_6 c299_4)
abbrev c299_6:AC:=(sR 5 r299_5 c299_5)
abbrev c299_7:AC:=(sR 4 r299_4 c299_6)
abbrev c299_8:AC:=(sR 3 r299_3 c299_7)
abbrev c299_9:AC:=(.seq (sR 1 r299_1 (.cond (.t 19) (sR 2 r299_2 .ret) .skip)) c299_8)
abbrev b299:AC:=(sR 0 r299_0 c299_9)
def pf299:AF:={ nt:=83,res:=[.cell 4 4 true,.tmp 5],body:=b299 }
end Go.AM

/- MADE BY PROGRAM (seat2.py): the types of the program, and that its code is the machine's. -/
namespace Go.Proofs
open Go.Shelf
def Tryz.lays169_ren : Go.Shelf.Ren := ⟨fun | 169 => 36 | n => n, fun | 70 => 89 | 9 => 9 | 0 => 0 | 72 => 91 | 37 => 75 | 127 => 134 | 3 => 3 | 5 => 5 | n => n, fun | n => n⟩
theorem Tryz.lays169 : Go.Proofs.Lays.n169 Tryz.prog Tryz.lays169_ren := {
  mixed := by kernel_rfl
  f169 := Tryz.func36.trans (congrArg some (by kernel_rfl))
  t0 := Tryz.underlying0
  a0 := Tryz.isAgg0
  z0 := Tryz.sizeOf0
  v0 := Tryz.zeroValue0
  t3 := Tryz.underlying3
  a3 := Tryz.isAgg3
  z3 := Tryz.sizeOf3
  v3 := Tryz.zeroValue3
  t9 := Tryz.underlying9
  a9 := Tryz.isAgg9
  z9 := Tryz.sizeOf9
  v9 := Tryz.zeroValue9
  t37 := Tryz.underlying75
  a37 := Tryz.isAgg75
  z37 := Tryz.sizeOf75
  v37 := Tryz.zeroValue75
  t70 := Tryz.underlying89
  a70 := Tryz.isAgg89
  z70 := Tryz.sizeOf89
  v70 := Tryz.zeroValue89
  t72 := Tryz.underlying91
  a72 := Tryz.isAgg91
  z72 := Tryz.sizeOf91
  v72 := Tryz.zeroValue91
  t127 := Tryz.underlying134
  a127 := Tryz.isAgg134
  z127 := Tryz.sizeOf134
  v127 := Tryz.zeroValue134 }

theorem Tryz.extraB : Builder.Extra Tryz.prog Tryz.lays169_ren := {
  sizeBuilder := by kernel_rfl
  liesBuilder := by kernel_rfl
  t5 := Tryz.underlying5
  a5 := Tryz.isAgg5
  z5 := Tryz.sizeOf5
  v5 := Tryz.zeroValue5
  infoByte := by kernel_rfl
  cellsByte := by kernel_rfl
  sizeByte := by kernel_rfl
  neB5 := by decide }
def Tryz.lays146_ren : Go.Shelf.Ren := ⟨fun | 146 => 46 | 221 => 84 | 268 => 124 | 138 => 125 | 143 => 126 | 195 => 155 | 197 => 156 | 218 => 157 | 219 => 158 | 260 => 175 | 217 => 176 | 225 => 177 | 224 => 178 | 267 => 179 | 266 => 185 | 314 => 186 | n => n, fun | 9 => 9 | 31 => 23 | 3 => 3 | 4 => 4 | 0 => 0 | 105 => 222 | 21 => 21 | 5 => 5 | 46 => 238 | 119 => 245 | 139 => 248 | 138 => 247 | 146 => 250 | 51 => 249 | n => n, fun | 1 => 0 | 3 => 1 | 4 => 2 | n => n⟩
theorem Tryz.lays146 : Go.Proofs.Lays.n146 Tryz.prog Tryz.lays146_ren := {
  mixed := by kernel_rfl
  f138 := Tryz.func125.trans (congrArg some (by kernel_rfl))
  f143 := Tryz.func126.trans (congrArg some (by kernel_rfl))
  f146 := Tryz.func46.trans (congrArg some (by kernel_rfl))
  f195 := Tryz.func155.trans (congrArg some (by kernel_rfl))
  f197 := Tryz.func156.trans (congrArg some (by kernel_rfl))
  f217 := Tryz.func176.trans (congrArg some (by kernel_rfl))
  f218 := Tryz.func157.trans (congrArg some (by kernel_rfl))
  f219 := Tryz.func158.trans (congrArg some (by kernel_rfl))
  f221 := Tryz.func84.trans (congrArg some (by kernel_rfl))
  f224 := Tryz.func178.trans (congrArg some (by kernel_rfl))
  f225 := Tryz.func177.trans (congrArg some (by kernel_rfl))
  f260 := Tryz.func175.trans (congrArg some (by kernel_rfl))
  f266 := Tryz.func185.trans (congrArg some (by kernel_rfl))
  f267 := Tryz.func179.trans (congrArg some (by kernel_rfl))
  f268 := Tryz.func124.trans (congrArg some (by kernel_rfl))
  f314 := Tryz.func186.trans (congrArg some (by kernel_rfl))
  t0 := Tryz.underlying0
  a0 := Tryz.isAgg0
  z0 := Tryz.sizeOf0
  v0 := Tryz.zeroValue0
  t3 := Tryz.underlying3
  a3 := Tryz.isAgg3
  z3 := Tryz.sizeOf3
  v3 := Tryz.zeroValue3
  t4 := Tryz.underlying4
  a4 := Tryz.isAgg4
  z4 := Tryz.sizeOf4
  v4 := Tryz.zeroValue4
  t5 := Tryz.underlying5
  a5 := Tryz.isAgg5
  z5 := Tryz.sizeOf5
  v5 := Tryz.zeroValue5
  t9 := Tryz.underlying9
  a9 := Tryz.isAgg9
  z9 := Tryz.sizeOf9
  v9 := Tryz.zeroValue9
  t21 := Tryz.underlying21
  a21 := Tryz.isAgg21
  z21 := Tryz.sizeOf21
  v21 := Tryz.zeroValue21
  t31 := Tryz.underlying23
  a31 := Tryz.isAgg23
  z31 := Tryz.sizeOf23
  v31 := Tryz.zeroValue23
  t46 := Tryz.underlying238
  a46 := Tryz.isAgg238
  z46 := Tryz.sizeOf238
  v46 := Tryz.zeroValue238
  t51 := Tryz.underlying249
  a51 := Tryz.isAgg249
  z51 := Tryz.sizeOf249
  v51 := Tryz.zeroValue249
  t105 := Tryz.underlying222
  a105 := Tryz.isAgg222
  z105 := Tryz.sizeOf222
  v105 := Tryz.zeroValue222
  t119 := Tryz.underlying245
  a119 := Tryz.isAgg245
  z119 := Tryz.sizeOf245
  t138 := Tryz.underlying247
  a138 := Tryz.isAgg247
  z138 := Tryz.sizeOf247
  v138 := Tryz.zeroValue247
  t139 := Tryz.underlying248
  a139 := Tryz.isAgg248
  z139 := Tryz.sizeOf248
  v139 := Tryz.zeroValue248
  t146 := Tryz.underlying250
  a146 := Tryz.isAgg250
  z146 := Tryz.sizeOf250
  v146 := Tryz.zeroValue250
  g1 := by kernel_rfl
  g3 := by kernel_rfl
  g4 := by kernel_rfl }

def Tryz.lays147_ren : Go.Shelf.Ren := ⟨fun | 147 => 136 | 221 => 84 | 268 => 124 | 138 => 125 | 143 => 126 | 195 => 155 | 197 => 156 | 218 => 157 | 219 => 158 | 260 => 175 | 217 => 176 | 225 => 177 | 224 => 178 | 267 => 179 | 266 => 185 | 314 => 186 | n => n, fun | 9 => 9 | 3 => 3 | 31 => 23 | 4 => 4 | 0 => 0 | 105 => 222 | 21 => 21 | 5 => 5 | 46 => 238 | 119 => 245 | 139 => 248 | 138 => 247 | 146 => 250 | 51 => 249 | n => n, fun | 1 => 0 | 3 => 1 | 4 => 2 | n => n⟩
theorem Tryz.lays147 : Go.Proofs.Lays.n147 Tryz.prog Tryz.lays147_ren := {
  mixed := by kernel_rfl
  f138 := Tryz.func125.trans (congrArg some (by kernel_rfl))
  f143 := Tryz.func126.trans (congrArg some (by kernel_rfl))
  f147 := Tryz.func136.trans (congrArg some (by kernel_rfl))
  f195 := Tryz.func155.trans (congrArg some (by kernel_rfl))
  f197 := Tryz.func156.trans (congrArg some (by kernel_rfl))
  f217 := Tryz.func176.trans (congrArg some (by kernel_rfl))
  f218 := Tryz.func157.trans (congrArg some (by kernel_rfl))
  f219 := Tryz.func158.trans (congrArg some (by kernel_rfl))
  f221 := Tryz.func84.trans (congrArg some (by kernel_rfl))
  f224 := Tryz.func178.trans (congrArg some (by kernel_rfl))
  f225 := Tryz.func177.trans (congrArg some (by kernel_rfl))
  f260 := Tryz.func175.trans (congrArg some (by kernel_rfl))
  f266 := Tryz.func185.trans (congrArg some (by kernel_rfl))
  f267 := Tryz.func179.trans (congrArg some (by kernel_rfl))
  f268 := Tryz.func124.trans (congrArg some (by kernel_rfl))
  f314 := Tryz.func186.trans (congrArg some (by kernel_rfl))
  t0 := Tryz.underlying0
  a0 := Tryz.isAgg0
  z0 := Tryz.sizeOf0
  v0 := Tryz.zeroValue0
  t3 := Tryz.underlying3
  a3 := Tryz.isAgg3
  z3 := Tryz.sizeOf3
  v3 := Tryz.zeroValue3
  t4 := Tryz.underlying4
  a4 := Tryz.isAgg4
  z4 := Tryz.sizeOf4
  v4 := Tryz.zeroValue4
  t5 := Tryz.underlying5
  a5 := Tryz.isAgg5
  z5 := Tryz.sizeOf5
  v5 := Tryz.zeroValue5
  t9 := Tryz.underlying9
  a9 := Tryz.isAgg9
  z9 := Tryz.sizeOf9
  v9 := Tryz.zeroValue9
  t21 := Tryz.underlying21
  a21 := Tryz.isAgg21
  z21 := Tryz.sizeOf21
  v21 := Tryz.zeroValue21
  t31 := Tryz.underlying23
  a31 := Tryz.isAgg23
  z31 := Tryz.sizeOf23
  v31 := Tryz.zeroValue23
  t46 := Tryz.underlying238
  a46 := Tryz.isAgg238
  z46 := Tryz.sizeOf238
  v46 := Tryz.zeroValue238
  t51 := Tryz.underlying249
  a51 := Tryz.isAgg249
  z51 := Tryz.sizeOf249
  v51 := Tryz.zeroValue249
  t105 := Tryz.underlying222
  a105 := Tryz.isAgg222
  z105 := Tryz.sizeOf222
  v105 := Tryz.zeroValue222
  t119 := Tryz.underlying245
  a119 := Tryz.isAgg245
  z119 := Tryz.sizeOf245
  t138 := Tryz.underlying247
  a138 := Tryz.isAgg247
  z138 := Tryz.sizeOf247
  v138 := Tryz.zeroValue247
  t139 := Tryz.underlying248
  a139 := Tryz.isAgg248
  z139 := Tryz.sizeOf248
  v139 := Tryz.zeroValue248
  t146 := Tryz.underlying250
  a146 := Tryz.isAgg250
  z146 := Tryz.sizeOf250
  v146 := Tryz.zeroValue250
  g1 := by kernel_rfl
  g3 := by kernel_rfl
  g4 := by kernel_rfl }

def Tryz.lays219_ren : Go.Shelf.Ren := ⟨fun | 219 => 158 | 217 => 176 | 225 => 177 | 224 => 178 | 267 => 179 | 266 => 185 | 314 => 186 | n => n, fun | 9 => 9 | 3 => 3 | 4 => 4 | 5 => 5 | 46 => 238 | 146 => 250 | 51 => 249 | n => n, fun | 1 => 0 | n => n⟩
theorem Tryz.lays219 : Go.Proofs.Lays.n219 Tryz.prog Tryz.lays219_ren := {
  mixed := by kernel_rfl
  f217 := Tryz.func176.trans (congrArg some (by kernel_rfl))
  f219 := Tryz.func158.trans (congrArg some (by kernel_rfl))
  f224 := Tryz.func178.trans (congrArg some (by kernel_rfl))
  f225 := Tryz.func177.trans (congrArg some (by kernel_rfl))
  f266 := Tryz.func185.trans (congrArg some (by kernel_rfl))
  f267 := Tryz.func179.trans (congrArg some (by kernel_rfl))
  f314 := Tryz.func186.trans (congrArg some (by kernel_rfl))
  t3 := Tryz.underlying3
  a3 := Tryz.isAgg3
  z3 := Tryz.sizeOf3
  v3 := Tryz.zeroValue3
  t4 := Tryz.underlying4
  a4 := Tryz.isAgg4
  z4 := Tryz.sizeOf4
  v4 := Tryz.zeroValue4
  t5 := Tryz.underlying5
  a5 := Tryz.isAgg5
  z5 := Tryz.sizeOf5
  v5 := Tryz.zeroValue5
  t9 := Tryz.underlying9
  a9 := Tryz.isAgg9
  z9 := Tryz.sizeOf9
  v9 := Tryz.zeroValue9
  t46 := Tryz.underlying238
  a46 := Tryz.isAgg238
  z46 := Tryz.sizeOf238
  v46 := Tryz.zeroValue238
  t51 := Tryz.underlying249
  a51 := Tryz.isAgg249
  z51 := Tryz.sizeOf249
  v51 := Tryz.zeroValue249
  t146 := Tryz.underlying250
  a146 := Tryz.isAgg250
  z146 := Tryz.sizeOf250
  v146 := Tryz.zeroValue250
  g1 := by kernel_rfl }

end Go.Proofs
namespace Go.Proofs.YtheacfnopahmjaaGreatDoor
open Go Go.AM

def tys : List (Nat × TI) := [
(2, ⟨.int .i64, 1, 8, [z6]⟩),
  (3, ⟨.int .i64, 1, 8, [z6]⟩),
  (4, ⟨.bool, 1, 1, [zb]⟩),
  (5, ⟨.int .u8, 1, 1, [z8]⟩),
  (9, ⟨.str, 1, 16, [zs]⟩),
  (22, ⟨.sl 267, 1, 24, [zl]⟩),
  (23, ⟨.sl 9, 1, 24, [zl]⟩),
  (24, ⟨.sl 85, 1, 24, [zl]⟩),
  (26, ⟨.st [(22, 0), (23, 1), (24, 2)], 3, 72, [zl, zl, zl]⟩),
  (27, ⟨.sl 43, 1, 24, [zl]⟩),
  (29, ⟨.st [(5, 0), (3, 1), (3, 2), (27, 3)], 4, 48, [z8, z6, z6, zl]⟩),
  (34, ⟨.int .i64, 1, 8, [z6]⟩),
  (39, ⟨.sl 55, 1, 24, [zl]⟩),
  (40, ⟨.sl 63, 1, 24, [zl]⟩),
  (41, ⟨.sl 65, 1, 24, [zl]⟩),
  (43, ⟨.st [(5, 0), (2, 1), (39, 2), (40, 3), (41, 4)], 5, 88, [z8, z6, zl, zl, zl]⟩),
  (52, ⟨.int .u64, 1, 8, [z7]⟩),
  (53, ⟨.sl 61, 1, 24, [zl]⟩),
  (55, ⟨.st [(3, 0), (3, 1), (52, 2), (53, 3)], 4, 48, [z6, z6, z7, zl]⟩),
  (56, ⟨.sl 58, 1, 24, [zl]⟩),
  (58, ⟨.st [(5, 0), (2, 1), (9, 2), (56, 3), (4, 4)], 5, 64, [z8, z6, zs, zl, zb]⟩),
  (61, ⟨.st [(3, 0), (58, 1)], 6, 72, [z6, z8, z6, zs, zl, zb]⟩),
  (63, ⟨.st [(3, 0), (3, 1), (4, 2), (58, 3)], 8, 88, [z6, z6, zb, z8, z6, zs, zl, zb]⟩),
  (65, ⟨.st [(52, 0), (58, 1), (52, 6)], 7, 80, [z7, z8, z6, zs, zl, zb, z7]⟩),
  (68, ⟨.other, 1, 8, [.nf]⟩),
  (72, ⟨.other, 1, 8, [.nf]⟩),
  (75, ⟨.sl 5, 1, 24, [zl]⟩),
  (81, ⟨.sl 87, 1, 24, [zl]⟩),
  (82, ⟨.sl 269, 1, 24, [zl]⟩),
  (83, ⟨.sl 271, 1, 24, [zl]⟩),
  (85, ⟨.st [(9, 0), (3, 1), (3, 2), (81, 3), (82, 4), (83, 5), (83, 6)], 7, 128, [zs, z6, z6, zl, zl, zl, zl]⟩),
  (87, ⟨.st [(9, 0), (3, 1)], 2, 24, [zs, z6]⟩),
  (89, ⟨.ptr 91, 1, 8, [.np]⟩),
  (91, ⟨.st [(89, 0), (75, 1)], 2, 32, [.np, .sl .full []]⟩),
  (93, ⟨.other, 1, 16, [.ni]⟩),
  (96, ⟨.arr 9 9, 9, 144, [zs, zs, zs, zs, zs, zs, zs, zs, zs]⟩),
  (103, ⟨.arr 4 9, 4, 64, [zs, zs, zs, zs]⟩),
  (111, ⟨.other, 1, 8, [.nf]⟩),
  (118, ⟨.ptr 43, 1, 8, [.np]⟩),
  (129, ⟨.other, 1, 8, [.nf]⟩),
  (138, ⟨.other, 1, 8, [.nf]⟩),
  (141, ⟨.other, 1, 8, [.nf]⟩),
  (185, ⟨.uptr, 1, 8, [.np]⟩),
  (189, ⟨.other, 1, 8, [.nf]⟩),
  (193, ⟨.arr 5 5, 5, 5, [z8, z8, z8, z8, z8]⟩),
  (196, ⟨.arr 64 5, 64, 64, [z8, z8, z8, z8, z8, z8, z8, z8, z8, z8, z8, z8, z8, z8, z8, z8, z8, z8, z8, z8, z8, z8, z8, z8, z8, z8, z8, z8, z8, z8, z8, z8, z8, z8, z8, z8, z8, z8, z8, z8, z8, z8, z8, z8, z8, z8, z8, z8, z8, z8, z8, z8, z8, z8, z8, z8, z8, z8, z8, z8, z8, z8, z8, z8]⟩),
  (221, ⟨.arr 8 9, 8, 128, [zs, zs, zs, zs, zs, zs, zs, zs]⟩),
  (226, ⟨.ptr 228, 1, 8, [.np]⟩),
  (228, ⟨.st [(9, 0)], 1, 16, [zs]⟩),
  (267, ⟨.st [(5, 0), (3, 1), (3, 2), (81, 3)], 4, 48, [z8, z6, z6, zl]⟩),
  (269, ⟨.st [(5, 0), (3, 1), (3, 2), (3, 3)], 4, 32, [z8, z6, z6, z6]⟩),
  (271, ⟨.st [(3, 0), (52, 1)], 2, 16, [z6, z7]⟩)]
theorem tys_ok : ∀ x ∈ tys, TOk Tryz.prog x.1 x.2 :=
 tC (tK Tryz.t2 kE) (tC (tK Tryz.t3 kE) (tC (tK Tryz.t4 kE) (tC (tK Tryz.t5 kE) (tC (tK Tryz.t9 kE) (tC (tK Tryz.t22 kE) (tC (tK Tryz.t23 kE) (tC (tK Tryz.t24 kE) (tC (tK Tryz.t26 kS) (tC (tK Tryz.t27 kE) (tC (tK Tryz.t29 kS) (tC (tK Tryz.t34 kE) (tC (tK Tryz.t39 kE) (tC (tK Tryz.t40 kE) (tC (tK Tryz.t41 kE) (tC (tK Tryz.t43 kS) (tC (tK Tryz.t52 kE) (tC (tK Tryz.t53 kE) (tC (tK Tryz.t55 kS) (tC (tK Tryz.t56 kE) (tC (tK Tryz.t58 kS) (tC (tK Tryz.t61 kS) (tC (tK Tryz.t63 kS) (tC (tK Tryz.t65 kS) (tC (tK Tryz.t68 kO) (tC (tK Tryz.t72 kO) (tC (tK Tryz.t75 kE) (tC (tK Tryz.t81 kE) (tC (tK Tryz.t82 kE) (tC (tK Tryz.t83 kE) (tC (tK Tryz.t85 kS) (tC (tK Tryz.t87 kS) (tC (tK Tryz.t89 (And.intro (by kernel_rfl) (by kernel_rfl))) (tC (tK Tryz.t91 kS) (tC (tK Tryz.t93 kO) (tC (tK Tryz.t96 kE) (tC (tK Tryz.t103 kE) (tC (tK Tryz.t111 kO) (tC (tK Tryz.t118 (And.intro (by kernel_rfl) (by kernel_rfl))) (tC (tK Tryz.t129 kO) (tC (tK Tryz.t138 kO) (tC (tK Tryz.t141 kO) (tC (tK Tryz.t185 kE) (tC (tK Tryz.t189 kO) (tC (tK Tryz.t193 kE) (tC (tK Tryz.t196 kE) (tC (tK Tryz.t221 kE) (tC (tK Tryz.t226 (And.intro (by kernel_rfl) (by kernel_rfl))) (tC (tK Tryz.t228 kS) (tC (tK Tryz.t267 kS) (tC (tK Tryz.t269 kS) (tC (tK Tryz.t271 kS) (tN))))))))))))))))))))))))))))))))))))))))))))))))))))
def fms : List (Nat × Nat) := [(2, 2), (3, 286), (4, 287), (5, 288), (6, 289), (7, 290), (8, 79), (9, 203), (10, 214), (11, 205), (12, 177), (13, 207), (14, 29), (15, 291), (16, 209), (17, 211), (18, 292), (19, 293), (20, 294), (21, 295), (22, 296), (23, 297), (24, 213), (25, 298), (26, 299), (27, 300), (28, 301), (29, 302), (30, 204), (31, 221), (32, 126), (33, 215), (34, 216), (35, 217), (36, 105), (37, 219), (38, 220), (39, 15), (40, 82), (41, 154), (42, 141), (43, 303), (44, 224), (45, 225), (46, 304), (47, 305), (48, 306), (49, 307), (50, 308), (51, 309), (52, 310), (53, 311), (54, 312), (55, 85), (56, 313), (57, 157), (58, 218), (59, 314), (60, 162), (61, 80), (62, 71), (63, 163), (64, 87), (65, 235), (66, 145), (67, 227), (68, 228), (69, 86), (70, 229), (71, 230), (72, 231), (73, 232), (74, 233), (75, 158), (76, 234), (77, 34), (78, 111), (79, 112), (80, 113), (81, 72), (82, 178), (83, 236), (84, 315), (85, 46), (86, 260), (87, 316), (88, 317), (89, 36), (90, 21), (91, 84), (92, 318), (93, 156), (94, 319), (95, 212), (96, 320), (97, 22), (98, 120), (99, 121), (100, 114), (101, 75), (102, 182), (103, 159), (104, 179), (105, 223), (106, 226), (107, 222), (108, 170), (109, 88), (110, 78), (111, 102), (112, 103), (113, 77), (114, 146), (115, 237), (116, 122), (117, 123), (118, 76), (119, 238), (120, 239), (121, 183), (122, 11), (123, 104), (124, 321), (125, 187), (126, 194), (127, 266), (128, 322), (129, 42), (130, 37), (131, 115), (132, 116), (133, 117), (134, 118), (135, 119), (136, 323), (137, 74), (138, 180), (139, 181), (140, 38), (141, 142), (142, 143), (143, 31), (144, 138), (145, 137), (146, 106), (147, 108), (148, 16), (149, 160), (150, 124), (151, 110), (152, 144), (153, 109), (154, 30), (155, 192), (156, 324), (158, 197), (159, 43), (160, 139), (161, 128), (162, 140), (163, 107), (164, 190), (165, 44), (166, 132), (167, 135), (168, 41), (169, 127), (170, 133), (171, 134), (172, 26), (173, 35), (174, 136), (175, 325), (176, 47), (178, 199), (179, 200), (180, 131), (181, 129), (182, 130), (183, 191), (184, 40), (185, 48), (186, 201), (187, 25), (188, 39), (189, 45), (212, 330), (1000000000000, 1000000091), (1000000000001, 1000000005), (1000000000004, 1000000000)]
def X : Cx := ⟨tabOf tys, fmOf fms, fun c => [30, 89, 104, 105, 107, 115, 116, 117, 120, 122, 123, 126, 128, 129, 130, 131, 139, 140, 144, 145, 146, 184, 217, 224, 225, 227, 228, 229, 230, 232, 233, 236, 237, 238, 239, 252, 268, 269, 270, 271, 272, 273, 274, 275, 276, 307, 308, 309, 311, 312].contains c, []⟩
theorem ok42 : FnOk Tryz.prog X 129 pf42 := fK Tryz.func129
theorem ok46 : FnOk Tryz.prog X 85 pf46 := fK Tryz.func85
theorem ok36 : FnOk Tryz.prog X 89 pf36 := fK Tryz.func89
theorem ok43 : FnOk Tryz.prog X 159 pf43 := fK Tryz.func159
theorem ok47 : FnOk Tryz.prog X 176 pf47 := fK Tryz.func176
theorem ok11 : FnOk Tryz.prog X 122 pf11 := fK Tryz.func122
theorem ok15 : FnOk Tryz.prog X 39 pf15 := fK Tryz.func39
theorem ok21 : FnOk Tryz.prog X 90 pf21 := fK Tryz.func90
theorem ok25 : FnOk Tryz.prog X 187 pf25 := fK Tryz.func187
theorem ok30 : FnOk Tryz.prog X 154 pf30 := fK Tryz.func154
theorem ok34 : FnOk Tryz.prog X 77 pf34 := fK Tryz.func77
theorem ok37 : FnOk Tryz.prog X 130 pf37 := fK Tryz.func130
theorem ok39 : FnOk Tryz.prog X 188 pf39 := fK Tryz.func188
theorem ok45 : FnOk Tryz.prog X 189 pf45 := fK Tryz.func189
theorem ok29 : FnOk Tryz.prog X 14 pf29 := fK Tryz.func14
theorem ok145 : FnOk Tryz.prog X 66 pf145 := fK Tryz.func66
theorem ok126 : FnOk Tryz.prog X 32 pf126 := fK Tryz.func32
theorem ok71 : FnOk Tryz.prog X 62 pf71 := fK Tryz.func62
theorem ok72 : FnOk Tryz.prog X 81 pf72 := fK Tryz.func81
theorem ok74 : FnOk Tryz.prog X 137 pf74 := fK Tryz.func137
theorem ok76 : FnOk Tryz.prog X 118 pf76 := fK Tryz.func118
theorem ok78 : FnOk Tryz.prog X 110 pf78 := fK Tryz.func110
theorem ok102 : FnOk Tryz.prog X 111 pf102 := fK Tryz.func111
theorem ok103 : FnOk Tryz.prog X 112 pf103 := fK Tryz.func112
theorem ok104 : FnOk Tryz.prog X 123 pf104 := fK Tryz.func123
theorem ok107 : FnOk Tryz.prog X 163 pf107 := fK Tryz.func163
theorem ok109 : FnOk Tryz.prog X 153 pf109 := fK Tryz.func153
theorem ok128 : FnOk Tryz.prog X 161 pf128 := fK Tryz.func161
theorem ok129 : FnOk Tryz.prog X 181 pf129 := fK Tryz.func181
theorem ok130 : FnOk Tryz.prog X 182 pf130 := fK Tryz.func182
theorem ok131 : FnOk Tryz.prog X 180 pf131 := fK Tryz.func180
theorem ok136 : FnOk Tryz.prog X 174 pf136 := fK Tryz.func174
theorem ok154 : FnOk Tryz.prog X 41 pf154 := fK Tryz.func41
theorem ok158 : FnOk Tryz.prog X 75 pf158 := fK Tryz.func75
theorem ok178 : FnOk Tryz.prog X 82 pf178 := fK Tryz.func82
theorem ok180 : FnOk Tryz.prog X 138 pf180 := fK Tryz.func138
theorem ok183 : FnOk Tryz.prog X 121 pf183 := fK Tryz.func121
theorem ok190 : FnOk Tryz.prog X 164 pf190 := fK Tryz.func164
theorem ok191 : FnOk Tryz.prog X 183 pf191 := fK Tryz.func183
theorem ok156 : FnOk Tryz.prog X 93 pf156 := fK Tryz.func93
theorem ok160 : FnOk Tryz.prog X 149 pf160 := fK Tryz.func149
theorem ok181 : FnOk Tryz.prog X 139 pf181 := fK Tryz.func139
theorem ok162 : FnOk Tryz.prog X 60 pf162 := fK Tryz.func60
theorem ok170 : FnOk Tryz.prog X 108 pf170 := fK Tryz.func108
theorem ok79 : FnOk Tryz.prog X 8 pf79 := fK Tryz.func8
theorem ok80 : FnOk Tryz.prog X 61 pf80 := fK Tryz.func61
theorem ok82 : FnOk Tryz.prog X 40 pf82 := fK Tryz.func40
theorem ok86 : FnOk Tryz.prog X 69 pf86 := fK Tryz.func69
theorem ok88 : FnOk Tryz.prog X 109 pf88 := fK Tryz.func109
theorem ok111 : FnOk Tryz.prog X 78 pf111 := fK Tryz.func78
theorem ok112 : FnOk Tryz.prog X 79 pf112 := fK Tryz.func79
theorem ok113 : FnOk Tryz.prog X 80 pf113 := fK Tryz.func80
theorem ok115 : FnOk Tryz.prog X 131 pf115 := fK Tryz.func131
theorem ok116 : FnOk Tryz.prog X 132 pf116 := fK Tryz.func132
theorem ok119 : FnOk Tryz.prog X 135 pf119 := fK Tryz.func135
theorem ok122 : FnOk Tryz.prog X 116 pf122 := fK Tryz.func116
theorem ok123 : FnOk Tryz.prog X 117 pf123 := fK Tryz.func117
theorem ok124 : FnOk Tryz.prog X 150 pf124 := fK Tryz.func150
theorem ok138 : FnOk Tryz.prog X 144 pf138 := fK Tryz.func144
theorem ok139 : FnOk Tryz.prog X 160 pf139 := fK Tryz.func160
theorem ok141 : FnOk Tryz.prog X 42 pf141 := fK Tryz.func42
theorem ok144 : FnOk Tryz.prog X 152 pf144 := fK Tryz.func152
theorem ok203 : FnOk Tryz.prog X 9 pf203 := fK Tryz.func9
theorem ok204 : FnOk Tryz.prog X 30 pf204 := fK Tryz.func30
theorem ok205 : FnOk Tryz.prog X 11 pf205 := fK Tryz.func11
theorem ok207 : FnOk Tryz.prog X 13 pf207 := fK Tryz.func13
theorem ok211 : FnOk Tryz.prog X 17 pf211 := fK Tryz.func17
theorem ok213 : FnOk Tryz.prog X 24 pf213 := fK Tryz.func24
theorem ok215 : FnOk Tryz.prog X 33 pf215 := fK Tryz.func33
theorem ok216 : FnOk Tryz.prog X 34 pf216 := fK Tryz.func34
theorem ok217 : FnOk Tryz.prog X 35 pf217 := fK Tryz.func35
theorem ok218 : FnOk Tryz.prog X 58 pf218 := fK Tryz.func58
theorem ok219 : FnOk Tryz.prog X 37 pf219 := fK Tryz.func37
theorem ok220 : FnOk Tryz.prog X 38 pf220 := fK Tryz.func38
theorem ok221 : FnOk Tryz.prog X 31 pf221 := fK Tryz.func31
theorem ok224 : FnOk Tryz.prog X 44 pf224 := fK Tryz.func44
theorem ok225 : FnOk Tryz.prog X 45 pf225 := fK Tryz.func45
theorem ok227 : FnOk Tryz.prog X 67 pf227 := fK Tryz.func67
theorem ok228 : FnOk Tryz.prog X 68 pf228 := fK Tryz.func68
theorem ok229 : FnOk Tryz.prog X 70 pf229 := fK Tryz.func70
theorem ok230 : FnOk Tryz.prog X 71 pf230 := fK Tryz.func71
theorem ok231 : FnOk Tryz.prog X 72 pf231 := fK Tryz.func72
theorem ok232 : FnOk Tryz.prog X 73 pf232 := fK Tryz.func73
theorem ok233 : FnOk Tryz.prog X 74 pf233 := fK Tryz.func74
theorem ok234 : FnOk Tryz.prog X 76 pf234 := fK Tryz.func76
theorem ok236 : FnOk Tryz.prog X 83 pf236 := fK Tryz.func83
theorem ok237 : FnOk Tryz.prog X 115 pf237 := fK Tryz.func115
theorem ok238 : FnOk Tryz.prog X 119 pf238 := fK Tryz.func119
theorem ok239 : FnOk Tryz.prog X 120 pf239 := fK Tryz.func120
theorem ok84 : FnOk Tryz.prog X 91 pf84 := fK Tryz.func91
theorem ok117 : FnOk Tryz.prog X 133 pf117 := fK Tryz.func133
theorem ok118 : FnOk Tryz.prog X 134 pf118 := fK Tryz.func134
theorem ok140 : FnOk Tryz.prog X 162 pf140 := fK Tryz.func162
theorem ok143 : FnOk Tryz.prog X 142 pf143 := fK Tryz.func142
theorem ok306 : FnOk Tryz.prog X 48 pf306 := fK Tryz.func48
theorem ok316 : FnOk Tryz.prog X 87 pf316 := fK Tryz.func87
theorem ok322 : FnOk Tryz.prog X 128 pf322 := fK Tryz.func128
theorem ok260 : FnOk Tryz.prog X 86 pf260 := fK Tryz.func86
theorem ok266 : FnOk Tryz.prog X 127 pf266 := fK Tryz.func127
theorem ok317 : FnOk Tryz.prog X 88 pf317 := fK Tryz.func88
theorem ok307 : FnOk Tryz.prog X 49 pf307 := fK Tryz.func49
theorem ok308 : FnOk Tryz.prog X 50 pf308 := fK Tryz.func50
theorem ok318 : FnOk Tryz.prog X 92 pf318 := fK Tryz.func92
theorem ok299 : FnOk Tryz.prog X 26 pf299 := fK Tryz.func26
theorem ok305 : FnOk Tryz.prog X 47 pf305 := fK Tryz.func47
theorem ok309 : FnOk Tryz.prog X 51 pf309 := fK Tryz.func51
theorem ok302 : FnOk Tryz.prog X 29 pf302 := fK Tryz.func29
theorem ok314 : FnOk Tryz.prog X 59 pf314 := fK Tryz.func59
theorem ok292 : FnOk Tryz.prog X 18 pf292 := fK Tryz.func18
theorem ok303 : FnOk Tryz.prog X 43 pf303 := fK Tryz.func43
theorem ok294 : FnOk Tryz.prog X 20 pf294 := fK Tryz.func20
theorem ok296 : FnOk Tryz.prog X 22 pf296 := fK Tryz.func22
theorem ok297 : FnOk Tryz.prog X 23 pf297 := fK Tryz.func23
theorem ok293 : FnOk Tryz.prog X 19 pf293 := fK Tryz.func19
theorem ok290 : FnOk Tryz.prog X 7 pf290 := fK Tryz.func7
theorem tyVal : TyVal X.T 58 := ⟨5, 2, 9, 56, 4, ⟨_, rfl, rfl, rfl⟩, ⟨_, rfl, rfl, rfl⟩, ⟨_, rfl, rfl, rfl⟩, ⟨_, rfl, rfl, rfl⟩, ⟨_, rfl, rfl, rfl⟩, ⟨_, rfl, rfl, rfl⟩⟩
theorem tyFld : TyFld X.T 87 := ⟨9, 3, ⟨_, rfl, rfl, rfl⟩, ⟨_, rfl, rfl, rfl⟩, ⟨_, rfl, rfl, rfl⟩⟩
theorem tyIns : TyIns X.T 269 := ⟨5, 3, 3, 3, ⟨_, rfl, rfl, rfl⟩, ⟨_, rfl, rfl, rfl⟩, ⟨_, rfl, rfl, rfl⟩, ⟨_, rfl, rfl, rfl⟩, ⟨_, rfl, rfl, rfl⟩⟩
theorem tyRnn : TyRnn X.T 271 := ⟨3, 52, ⟨_, rfl, rfl, rfl⟩, ⟨_, rfl, rfl, rfl⟩, ⟨_, rfl, rfl, rfl⟩⟩
theorem tyTyp : TyTyp X.T 267 := ⟨5, 3, 3, 81, 87, ⟨_, rfl, rfl, rfl⟩, ⟨_, rfl, rfl, rfl⟩, ⟨_, rfl, rfl, rfl⟩, ⟨_, rfl, rfl, rfl⟩, ⟨_, rfl, rfl, rfl⟩, tyFld⟩
theorem tyFun : TyFun X.T 85 := ⟨9, 3, 3, 81, 82, 83, 83, 87, 269, 271, 271, ⟨_, rfl, rfl, rfl⟩, ⟨_, rfl, rfl, rfl⟩, ⟨_, rfl, rfl, rfl⟩, ⟨_, rfl, rfl, rfl⟩, ⟨_, rfl, rfl, rfl⟩, tyFld, ⟨_, rfl, rfl, rfl⟩, tyIns, ⟨_, rfl, rfl, rfl⟩, tyRnn, ⟨_, rfl, rfl, rfl⟩, tyRnn⟩
theorem tyImg : TyImg X.T 26 := ⟨22, 23, 24, 267, 9, 85, ⟨_, rfl, rfl, rfl⟩, ⟨_, rfl, rfl, rfl⟩, tyTyp, ⟨_, rfl, rfl, rfl⟩, ⟨_, rfl, rfl, rfl⟩, ⟨_, rfl, rfl, rfl⟩, tyFun⟩
theorem tyLoc : TyLoc X.T 61 := ⟨3, 58, ⟨_, rfl, rfl, rfl⟩, ⟨_, rfl, rfl, rfl⟩, tyVal⟩
theorem tyFrm : TyFrm X.T 55 := ⟨3, 3, 52, 53, 61, ⟨_, rfl, rfl, rfl⟩, ⟨_, rfl, rfl, rfl⟩, ⟨_, rfl, rfl, rfl⟩, ⟨_, rfl, rfl, rfl⟩, ⟨_, rfl, rfl, rfl⟩, tyLoc⟩
theorem tyPan : TyPan X.T 65 := ⟨52, 58, 52, ⟨_, rfl, rfl, rfl⟩, ⟨_, rfl, rfl, rfl⟩, tyVal, ⟨_, rfl, rfl, rfl⟩⟩
theorem tyDfr : TyDfr X.T 63 := ⟨3, 3, 4, 58, ⟨_, rfl, rfl, rfl⟩, ⟨_, rfl, rfl, rfl⟩, ⟨_, rfl, rfl, rfl⟩, ⟨_, rfl, rfl, rfl⟩, tyVal⟩
theorem tyRou : TyRou X.T 43 := ⟨5, 2, 39, 40, 41, 55, 63, 65, ⟨_, rfl, rfl, rfl⟩, ⟨_, rfl, rfl, rfl⟩, ⟨_, rfl, rfl, rfl⟩, ⟨_, rfl, rfl, rfl⟩, tyFrm, ⟨_, rfl, rfl, rfl⟩, tyDfr, ⟨_, rfl, rfl, rfl⟩, tyPan⟩
theorem tySta : TySta X.T 29 := ⟨5, 3, 3, 27, 43, ⟨_, rfl, rfl, rfl⟩, ⟨_, rfl, rfl, rfl⟩, ⟨_, rfl, rfl, rfl⟩, ⟨_, rfl, rfl, rfl⟩, ⟨_, rfl, rfl, rfl⟩, tyRou⟩
end Go.Proofs.YtheacfnopahmjaaGreatDoor

namespace Go.AM
open Go
structure Has03 (prog:Prog):Prop where
 f42:prog.fn 42=some pf42
 f46:prog.fn 46=some pf46
 f36:prog.fn 36=some pf36
 f43:prog.fn 43=some pf43
 f47:prog.fn 47=some pf47
 f11:prog.fn 11=some pf11
 f15:prog.fn 15=some pf15
 f21:prog.fn 21=some pf21
 f25:prog.fn 25=some pf25
 f30:prog.fn 30=some pf30
 f34:prog.fn 34=some pf34
 f37:prog.fn 37=some pf37
 f39:prog.fn 39=some pf39
 f45:prog.fn 45=some pf45
 f29:prog.fn 29=some pf29
 f48:prog.fn 48=none
 o48 :∀(s:Bytes) (c:UInt8),prog.orac 48 [.s s,.i .u8 (c.toNat:Int)]=some (.i .i64 (Lib.indexByte s c))
section
variable {prog:Prog} (H:Has03 prog)
include H
theorem c30 {s b:Bytes} (hs:s.length≤10000000) (hb:b.length≤1000000000):PuA prog 30 (b.map row8) [.s s] ((b++quo s).map row8):=by
 refine PuAK.to ?_
 have hp:=p30 H.f30 (b0:=b) (s1:=s) (K:=fun x=>x=b++quo s) (by
  unfold T30_0 T30_1
  refine ⟨⟨by simp only [List.length_cons,List.length_nil,maxBytes_eq];omega,by simp only [List.length_cons,List.length_nil,maxBytes_eq];omega⟩,fun P hP=>?_⟩
  refine loop_up (fun i=>b++34::chrs (s.take i)) s.length ?_ ?_
  ·apply hP
   unfold T30_2 T30_4
   have h1:=chrs_len (s.take s.length)
   simp only [List.take_length] at h1 ⊢
   refine ⟨fun h=>absurd h (by omega),fun _=>⟨⟨?_,?_⟩,?_⟩⟩
   ·simp only [List.length_append,List.length_cons,List.length_nil,maxBytes_eq];omega
   ·simp only [List.length_append,List.length_cons,List.length_nil,maxBytes_eq];omega
   ·simp only [quo,List.append_assoc,List.cons_append]
  ·intro i hi ih
   apply hP
   have h1:=chrs_len (s.take i)
   have hc:=s[i].toNat_lt
   rw [chrs_take hi] at ih
   rw [← List.cons_append,← List.append_assoc] at ih
   generalize hx:s[i]=c at ih hc
   have w1:bShr .u8 (c.toNat:Int) 4=((c.toNat / 16:Nat):Int):=by
    show (c.toNat:Int).fdiv 16=_
    rw [Int.fdiv_eq_ediv_of_nonneg _ (by omega)];omega
   have w2:bAnd .u8 (c.toNat:Int) 15=((c.toNat % 16:Nat):Int):=by
    unfold bAnd
    have hx:(BitVec.ofInt IntKind.u8.bits (c.toNat:Int) &&& BitVec.ofInt IntKind.u8.bits 15).toNat=c.toNat % 16:=by
     show (BitVec.ofInt 8 (c.toNat:Int) &&& BitVec.ofInt 8 15).toNat=c.toNat % 16
     rw [BitVec.toNat_and]
     have h1:(BitVec.ofInt 8 (c.toNat:Int)).toNat=c.toNat:=by
      simp
     rw [h1]
     exact Nat.and_two_pow_sub_one_eq_mod c.toNat 4
    rw [hx]
    exact wr_u8 (by omega) (by omega)
   have fit :∀x:Bytes,x.length≤4→Fit ((b++34::chrs (s.take i)).length+x.length) 1:=by
    intro x hx
    simp only [List.length_take] at h1
    refine ⟨?_,?_⟩<;>(simp only [List.length_append,List.length_cons,maxBytes_eq];omega)
   unfold T30_2 T30_3
   rw [wr_succ (by omega)]
   refine ⟨fun _=>⟨by omega,c,by rw [toNat_cast,List.getElem?_eq_getElem hi,hx],?_⟩,fun h=>absurd (show (i:Int)<s.length by omega) h⟩
   simp only [w1,w2,toNat_cast,hexd_get (show c.toNat / 16<16 by omega),hexd_get (show c.toNat % 16<16 by omega),Option.some.injEq,exists_eq_left']
   unfold chr at ih
   refine ⟨fun h2=>⟨fit _ (by simp),?_⟩,fun h2=>⟨fun h3=>⟨fit _ (by simp),?_⟩,fun h3=>⟨fun h4=>⟨fit _ (by simp),?_⟩,fun h4=>⟨fun h5=>⟨by omega,by omega,fit _ (by simp),?_⟩,fun h5=>⟨fun h6=>⟨by omega,by omega,fit _ (by simp),?_⟩,fun h6=>⟨fit _ (by simp),?_⟩⟩⟩⟩⟩⟩
   ·rwa [if_pos (by omega)] at ih
   ·rwa [if_pos (by omega)] at ih
   ·rwa [if_neg (by omega),if_pos (by omega)] at ih
   ·rwa [if_neg (by omega),if_neg (by omega),if_pos (by omega)] at ih
   ·rwa [if_neg (by omega),if_neg (by omega),if_pos (by omega)] at ih
   ·rwa [if_neg (by omega),if_neg (by omega),if_neg (by omega)] at ih)
 intro d st o ha
 obtain ⟨o',st',rows',⟨x,rfl,rfl⟩,h1,h2⟩:=hp d st o ha
 exact ⟨o',st',_,rfl,h1,h2⟩
theorem c11 (s:Bytes):Pus prog 11 [.s s] (.tup [.s (quoR s).1,.i .i64 (quoR s).2]):=by
 obtain ⟨x,y,⟨rfl,rfl⟩,h⟩:=p11 H.f11 (s0:=s) (K:=fun x y=>x=(quoR s).1∧y=(quoR s).2) (by
  unfold T11_0 quoR
  refine ⟨fun h=>?_,fun h=>⟨_,c30 H (b:=[]) (s:=s) (by omega) (by simp),?_⟩⟩
  ·rw [if_pos (by omega)];exact ⟨rfl,rfl⟩
  ·rw [if_neg (by omega)];exact ⟨rfl,rfl⟩)
 exact h
theorem c34 {n b:Nat} (hb:2≤b) (hb':b≤16) (hn:n<18446744073709551616):Pus prog 34 [.i .u64 (n:Int),.i .u64 (b:Int)] (.s (digs b n)):=by
 obtain ⟨x,rfl,h⟩:=p34 H.f34 (n0:=(n:Int)) (base1:=(b:Int)) (K:=fun x=>x=digs b n) (by
  unfold T34_0
  intro P hP
  have key :∀f n',n'<b ^ f→0<f→n'<18446744073709551616→∀a:Nat,f≤a→a≤64→∀m:Bytes,m.length=64→(ds b f n'++m.drop a=digs b n)→P (n':Int) (a:Int) m:=by
   intro f
   induction f with
   | zero=>intro _ _ h;exact absurd h (Nat.lt_irrefl _)
   | succ f ih=>
    intro n' hf _ hn' a ha ha' m hm hd
    apply hP
    have e1:(n':Int).tmod (b:Int)=((n' % b:Nat):Int):=by rw [Int.tmod_eq_emod_of_nonneg (by omega)];omega
    have e2:(n':Int).tdiv (b:Int)=((n' / b:Nat):Int):=by rw [Int.tdiv_eq_ediv_of_nonneg (by omega)];omega
    have e3:IntKind.i64.wrap ((a:Int)-1)=((a-1:Nat):Int):=by rw [wr_i64 (by omega) (by omega)];omega
    have hq:n' / b≤n':=Nat.div_le_self _ _
    have hr:n' % b<b:=Nat.mod_lt _ (by omega)
    have e4:IntKind.u64.wrap ((n' / b:Nat):Int)=((n' / b:Nat):Int):=wr_u64_nat (by omega)
    have hset :∀c:UInt8,(m.set (a-1) c).drop (a-1)=c::m.drop a:=by
     intro c
     rw [List.drop_eq_getElem_cons (by simp;omega),List.getElem_set_self,List.drop_set_of_lt (by omega),show a-1+1=a by omega]
    unfold T34_1
    simp only [e1,e2,e3,e4,toNat_cast,hset]
    refine ⟨by omega,by omega,hexd (n' % b),hexd_get (by omega),by omega,by omega,by omega,by omega,fun h=>⟨by simp [hm],by omega,by omega,?_⟩,fun h=>?_⟩
    ·rw [← hd]
     unfold ds
     have hz:n' / b=0:=by omega
     have hlt:n'<b:=by
      rcases Nat.lt_or_ge n' b with h | h
      ·exact h
      ·have:=Nat.div_pos h (by omega);omega
     rw [if_pos hlt,Nat.mod_eq_of_lt hlt]
     rfl
    ·have hz:n' / b≠0:=by omega
     have hlt:¬ n'<b:=fun h=>hz (Nat.div_eq_of_lt h)
     have h1:n' / b<b ^ f:=by
      rw [Nat.div_lt_iff_lt_mul (by omega)]
      rw [Nat.pow_succ] at hf
      exact hf
     have h2:0<f:=by
      rcases Nat.eq_zero_or_pos f with rfl | h
      ·simp at h1;omega
      ·exact h
     refine ih (n' / b) h1 h2 (by omega) (a-1) (by omega) (by omega) _ (by simp [hm]) ?_
     rw [hset,← hd]
     conv=>rhs;unfold ds
     rw [if_neg hlt,List.append_assoc]
     rfl
  refine key 64 n ?_ (by omega) hn 64 (by omega) (by omega) _ (by simp) ?_
  ·calc n<2 ^ 64:=hn
    _≤b ^ 64:=Nat.pow_le_pow_left hb 64
  ·simp [digs])
 exact h
theorem c15 {n:Int} (h1:-9223372036854775808≤n) (h2:n<9223372036854775808):Pus prog 15 [.i .i64 n] (.s (num n)):=by
 obtain ⟨x,rfl,h⟩:=p15 H.f15 (n0:=n) (K:=fun x=>x=num n) (by
  unfold T15_0
  refine ⟨fun h=>?_,fun h=>?_⟩
  ·have e:IntKind.u64.wrap (0-(IntKind.u64.wrap n))=(((-n).toNat:Nat):Int):=by rw [IntKind.wrap_u64,IntKind.wrap_u64];omega
   rw [e]
   refine ⟨_,c34 H (b:=10) (by omega) (by omega) (by omega),?_,?_⟩
   ·have:=ds_len 10 64 (-n).toNat
    simp only [digs,List.length_cons,List.length_nil,maxStr_eq];omega
   ·unfold num;rw [if_pos h];rfl
  ·have e:IntKind.u64.wrap n=((n.toNat:Nat):Int):=by rw [IntKind.wrap_u64];omega
   rw [e]
   refine ⟨_,c34 H (b:=10) (by omega) (by omega) (by omega),?_⟩
   unfold num;rw [if_neg h])
 exact h
end
end Go.AM

namespace Go.AM
open Go
def cutp (p s:Bytes):Bytes × Bool:=if s.take p.length=p then (s.drop p.length,true) else (s,false)
def EscK (s:Bytes) (c:Int) (r:Bytes) (ok:Bool):Prop:=match esc s with | some (x,y)=>c=(x.toNat:Int)∧r=y∧ok=true | none=>ok=false
theorem EscK.yes {s:Bytes} {x:UInt8} {y:Bytes} {c:Int} (h:esc s=some (x,y)) (hc:c=(x.toNat:Int)):EscK s c y true:=by
 unfold EscK;rw [h];exact ⟨hc,rfl,rfl⟩
theorem EscK.no {s:Bytes} {c:Int} {y:Bytes} (h:esc s=none):EscK s c y false:=by
 unfold EscK;rw [h]
section
variable {prog:Prog} (H:Has03 prog)
include H
theorem c46 (s p:Bytes):Pus prog 46 [.s s,.s p] (.b (decide (s.take p.length=p))):=by
 obtain ⟨x,rfl,h⟩:=p46 H.f46 (s0:=s) (prefix1:=p) (K:=fun x=>x=decide (s.take p.length=p)) (by
  unfold T46_0
  refine ⟨fun h=>⟨by omega,by omega,rfl⟩,fun h=>?_⟩
  refine (decide_eq_false fun h1=>?_).symm
  have:=congrArg List.length h1
  simp only [List.length_take] at this
  omega)
 exact h
theorem c42 (s p:Bytes):Pus prog 42 [.s s,.s p] (.tup [.s (cutp p s).1,.b (cutp p s).2]):=by
 obtain ⟨x,y,⟨rfl,rfl⟩,h⟩:=p42 H.f42 (s0:=s) (prefix1:=p) (K:=fun x y=>x=(cutp p s).1∧y=(cutp p s).2) (by
  unfold T42_0 cutp
  refine ⟨_,c46 H s p,fun h=>?_,fun h=>?_⟩
  ·have h1:¬ s.take p.length=p:=by simpa using h
   rw [if_neg h1];exact ⟨rfl,rfl⟩
  ·have h1:s.take p.length=p:=by simpa using h
   have h2:=congrArg List.length h1
   simp only [List.length_take] at h2
   rw [if_pos h1];exact ⟨by omega,by omega,rfl,rfl⟩)
 exact h
theorem c36 (s p:Bytes):Pus prog 36 [.s s,.s p] (.tup [.s (cutp p s).1,.b (cutp p s).2]):=by
 obtain ⟨x,y,⟨rfl,rfl⟩,h⟩:=p36 H.f36 (s0:=s) (prefix1:=p) (K:=fun x y=>x=(cutp p s).1∧y=(cutp p s).2) (by
  unfold T36_0
  exact ⟨_,_,c42 H s p,rfl,rfl⟩)
 exact h
theorem c47 (s:Bytes) (c:UInt8):Pus prog 47 [.s s,.i .u8 (c.toNat:Int)] (.i .i64 (Lib.indexByte s c)):=by
 obtain ⟨x,rfl,h⟩:=p47 H.f47 (s0:=s) (c1:=(c.toNat:Int)) (K:=fun x=>x=Lib.indexByte s c) (by
  unfold T47_0
  exact ⟨_,Pus.orac H.f48 (H.o48 s c) rfl,rfl⟩)
 exact h
theorem c43 (s:Bytes) (c:UInt8):Pus prog 43 [.s s,.i .u8 (c.toNat:Int)] (.i .i64 (Lib.indexByte s c)):=by
 obtain ⟨x,rfl,h⟩:=p43 H.f43 (s0:=s) (c1:=(c.toNat:Int)) (K:=fun x=>x=Lib.indexByte s c) (by
  unfold T43_0
  exact ⟨_,c47 H s c,rfl⟩)
 exact h
theorem c37 {b most:Nat} (hb:2≤b) (hb':b≤16) (hm:16≤most) (hm':most<18446744073709551616) {s:Bytes} (hs:s.length≤10000000):Pus prog 37 [.s s,.i .u64 (b:Int),.i .u64 (most:Int)] (.tup [.i .u64 ((rd b most s).1:Int),.i .i64 (rd b most s).2]):=by
 obtain ⟨x,y,⟨rfl,rfl⟩,h⟩:=p37 H.f37 (s0:=s) (base1:=(b:Int)) (most2:=(most:Int)) (K:=fun x y=>x=((rd b most s).1:Int)∧y=(rd b most s).2) (by
  unfold T37_0 T37_1 T37_2
  intro P hP
  have key :∀m i:Nat,i+m=s.length→okd b (s.take i)=true→(2≤i→s.head?≠some 48)→∀(n:Nat) (far:Bool),(far=false→n=vals b (s.take i)∧n≤most)→(far=true→most<vals b (s.take i))→P (n:Int) far (i:Int):=by
   intro m
   induction m with
   | zero=>
    intro i hi ho h48 n far h0 h1
    simp only [Nat.add_zero] at hi
    subst hi
    rw [List.take_length] at ho h0 h1
    apply hP
    unfold T37_3 T37_5
    refine ⟨fun h=>absurd h (by omega),fun _=>⟨fun h=>?_,fun h=>?_⟩⟩
    ·subst h;exact ⟨rfl,rfl⟩
    ·have hbad:badn b s=false:=by
      unfold badn
      rw [decide_eq_false h,ho]
      simp only [Bool.false_or,Bool.not_true]
      by_cases h2:1<s.length
      ·rw [decide_eq_false (h48 h2),Bool.and_false]
      ·rw [decide_eq_false h2,Bool.false_and]
     refine ⟨fun hf=>?_,fun hf=>?_⟩
     ·unfold rd
      rw [if_neg (by rw [hbad];decide),if_pos (h1 hf)]
      exact ⟨rfl,rfl⟩
     ·obtain ⟨h2,h3⟩:=h0 hf
      unfold rd
      rw [if_neg (by rw [hbad];decide),if_neg (by omega),h2]
      exact ⟨rfl,rfl⟩
   | succ m ih=>
    intro i hi ho h48 n far h0 h1
    have hil:i<s.length:=by omega
    have hd:=dv_lt hb' s[i]
    have hv:=vals_take (b:=b) hil
    have hk:=okd_take (b:=b) hil
    have bad12:badn b s=true→(0:Int)=((rd b most s).1:Int)∧(12:Int)=(rd b most s).2:=by
     intro h
     unfold rd
     rw [if_pos h]
     exact ⟨rfl,rfl⟩
    apply hP
    unfold T37_3 T37_4
    refine ⟨fun _=>⟨by omega,by rw [toNat_cast];exact hb',by omega,s[i],by rw [toNat_cast,List.getElem?_eq_getElem hil],dv b s[i],c43 H _ _,fun h=>?_,fun h=>?_⟩,fun h=>absurd h (by omega)⟩
    ·refine bad12 ?_
     unfold badn
     rw [okd_of hil h]
     simp
    ·have hd0:0≤dv b s[i]:=by omega
     rw [ho,decide_eq_true hd0,Bool.and_true] at hk
     generalize hdd:(dv b s[i]).toNat=d at hv
     have hdi:dv b s[i]=(d:Int):=by omega
     have e1:IntKind.u64.wrap (dv b s[i])=(d:Int):=by rw [hdi];exact wr_u64_nat (by omega)
     have e2:IntKind.u64.wrap ((most:Int)-(d:Int))=((most-d:Nat):Int):=by rw [wr_u64 (by omega) (by omega)];omega
     have e3:(((most-d:Nat):Int)).tdiv (b:Int)=(((most-d) / b:Nat):Int):=by rw [Int.tdiv_eq_ediv_of_nonneg (by omega)];omega
     have hq:(most-d) / b≤most-d:=Nat.div_le_self _ _
     have e4:IntKind.u64.wrap (((most-d) / b:Nat):Int)=(((most-d) / b:Nat):Int):=wr_u64_nat (by omega)
     have hfi:=far_iff (n:=n) (show 0<b by omega) (show d≤most by omega)
     rw [wr_succ (by omega)]
     simp only [e1,e2,e3,e4]
     have go:(2≤i+1→s.head?≠some 48)→(far=true→P (n:Int) true ((i+1:Nat):Int))∧(far=false→(b:Int)≠0∧(¬((n:Int)>(((most-d) / b:Nat):Int))→P (IntKind.u64.wrap ((IntKind.u64.wrap ((n:Int)*(b:Int)))+(d:Int))) (decide ((n:Int)>(((most-d) / b:Nat):Int))) ((i+1:Nat):Int))∧(¬(¬((n:Int)>(((most-d) / b:Nat):Int)))→P (n:Int) (decide ((n:Int)>(((most-d) / b:Nat):Int))) ((i+1:Nat):Int))):=by
      intro h2
      refine ⟨fun hf=>?_,fun hf=>⟨by omega,fun h3=>?_,fun h3=>?_⟩⟩
      ·refine ih (i+1) (by omega) hk h2 n true (fun h=>by cases h) fun _=>?_
       rw [hv]
       have h4:=h1 hf
       have:vals b (s.take i)≤vals b (s.take i)*b:=Nat.le_mul_of_pos_right _ (by omega)
       omega
      ·obtain ⟨h4,h5⟩:=h0 hf
       have h6:n*b+d≤most:=by
        have:¬ (most-d) / b<n:=by omega
        rw [hfi] at this
        omega
       have hnb:(n:Int)*(b:Int)=((n*b:Nat):Int):=by rw [Int.natCast_mul]
       have e5:IntKind.u64.wrap ((n:Int)*(b:Int))=((n*b:Nat):Int):=by rw [hnb];exact wr_u64_nat (by omega)
       have e6:IntKind.u64.wrap (((n*b:Nat):Int)+(d:Int))=((n*b+d:Nat):Int):=by rw [wr_u64 (by omega) (by omega)];omega
       rw [e5,e6,decide_eq_false h3]
       refine ih (i+1) (by omega) hk h2 _ false (fun _=>⟨?_,h6⟩) fun h=>by cases h
       rw [hv,h4]
      ·have h3':(n:Int)>(((most-d) / b:Nat):Int):=by omega
       obtain ⟨h4,h5⟩:=h0 hf
       rw [decide_eq_true h3']
       refine ih (i+1) (by omega) hk h2 n true (fun h=>by cases h) fun _=>?_
       rw [hv,← h4]
       exact hfi.1 (Int.ofNat_lt.1 h3')
     have hd0:s.head?=s[0]?:=List.head?_eq_getElem?
     refine ⟨fun hi1=>?_,fun hi1=>?_⟩
     ·have h0s:s[0]?=some s[0]:=List.getElem?_eq_getElem (by omega)
      refine ⟨s[0],h0s,fun h2=>?_,fun h2=>?_⟩
      ·refine bad12 ?_
       have h3:s[0]=48:=u8_eq (by have e:(48:UInt8).toNat=48:=rfl;omega)
       unfold badn
       rw [decide_eq_true (show 1<s.length by omega),decide_eq_true (show s.head?=some 48 by rw [hd0,h0s,h3])]
       simp
      ·refine go fun _=>?_
       rw [hd0,h0s]
       intro h3
       injection h3 with h3
       exact h2 (by rw [h3];rfl)
     ·refine go fun h2=>?_
      have h3:i≠1:=by omega
      have h4:i≠0:=by omega
      exact h48 (by omega)
  exact key s.length 0 (by omega) rfl (by omega) 0 false (fun _=>⟨rfl,by omega⟩) fun h=>by cases h)
 exact h
theorem c21 (s:Bytes):Pus prog 21 [.s s] (.tup [.i .i64 (unnum s).1,.i .i64 (unnum s).2]):=by
 obtain ⟨x,y,⟨rfl,rfl⟩,h⟩:=p21 H.f21 (s0:=s) (K:=fun x y=>x=(unnum s).1∧y=(unnum s).2) (by
  unfold T21_0 T21_1
  refine ⟨fun h=>by unfold unnum;rw [if_pos (by omega)];exact ⟨rfl,rfl⟩,fun hs=>⟨_,_,c36 H s [45],?_⟩⟩
  unfold unnum
  rw [if_neg (by omega)]
  by_cases hm:s.take 1=[45]
  ·have ec:cutp [45] s=(s.drop 1,true):=by unfold cutp;rw [if_pos (by exact hm)];rfl
   rw [ec,if_pos hm]
   refine ⟨fun h=>by simp at h,fun _=>?_⟩
   have hl:=rd_le 10 9223372036854775808 (s.drop 1)
   refine ⟨_,_,c37 H (b:=10) (most:=9223372036854775808) (by omega) (by omega) (by omega) (by omega) (s:=s.drop 1) (by simp;omega),fun h=>⟨fun h0=>?_,fun h0=>?_⟩,fun h=>?_⟩
   ·have e:(rd 10 9223372036854775808 (s.drop 1)).1=0:=by omega
    rw [if_pos ⟨h,e⟩,e]
    exact ⟨rfl,rfl⟩
   ·rw [if_neg (fun hh=>h0 (by rw [hh.2];rfl))]
    refine ⟨?_,rfl⟩
    rw [IntKind.wrap_u64,IntKind.wrap_i64]
    simp only
    omega
   ·have e:=rd_err h
    rw [if_neg (fun hh=>h hh.1),e]
    exact ⟨rfl,rfl⟩
  ·have ec:cutp [45] s=(s,false):=by unfold cutp;rw [if_neg (by exact hm)]
   rw [ec,if_neg hm]
   refine ⟨fun _=>?_,fun h=>by simp at h⟩
   have hl:=rd_le 10 9223372036854775807 s
   exact ⟨_,_,c37 H (b:=10) (most:=9223372036854775807) (by omega) (by omega) (by omega) (by omega) (s:=s) (by omega),wr_i64 (by omega) (by omega),rfl⟩)
 exact h
theorem c45 (s:Bytes) :∃c r ok,EscK s c r ok∧Pus prog 45 [.s s] (.tup [.i .u8 c,.s r,.b ok]):=by
 refine p45 H.f45 (s0:=s) (K:=EscK s) ?_
 unfold T45_0 T45_1
 refine ⟨fun h=>by subst h;exact EscK.no rfl,fun h=>?_⟩
 cases s with
 | nil=>exact absurd rfl h
 | cons c r=>
  have lit :∀{n:Nat} (_:n<256),(UInt8.ofNat n).toNat=n:=by intro n hn;simp;omega
  unfold T45_2
  refine ⟨c,rfl,?_⟩
  have t4:T45_4 prog (EscK (c::r)) (c::r) (c.toNat:Int) (decide (c.toNat=34∨c.toNat=92)):=by
   unfold T45_4
   refine ⟨fun h1=>⟨c,rfl,by simp,?_⟩,fun h1=>?_⟩
   ·have h1:=of_decide_eq_true h1
    exact EscK.yes (show (if c.toNat=34∨c.toNat=92 then some (c,r) else _)=some (c,r) from if_pos h1) rfl
   ·have h1:=of_decide_eq_false h1
    have e0:esc (c::r)=if c.toNat=110 then some (10,r) else if c.toNat=120 then esx r else none:=by
     show (if c.toNat=34∨c.toNat=92 then some (c,r) else if c.toNat=110 then some (10,r) else if c.toNat=120 then esx r else none)=_
     rw [if_neg h1]
    refine ⟨fun h2=>⟨by simp,?_⟩,fun h2=>⟨fun h3=>?_,fun h3=>?_⟩⟩
    ·exact EscK.yes (by rw [e0,if_pos (by omega)];rfl) rfl
    ·have e:esc (c::r)=esx r:=by rw [e0,if_neg (by omega),if_pos (by omega)]
     refine ⟨fun h4=>?_,fun h4=>?_⟩
     ·refine EscK.no ?_
      rw [e]
      match r,h4 with
      | [],_=>rfl
      | [a],_=>rfl
      | a::b::r',h4=>simp at h4;omega
     ·match r,h4,e with
      | [],h4,_=>exact absurd (by simp) h4
      | [a],h4,_=>exact absurd (by simp) h4
      | a::b::r',_,e=>
       have la:=dv_lt (b:=16) (by omega) a
       have lb:=dv_lt (b:=16) (by omega) b
       have ca:Pus prog 43 [.s DIG,.i .u8 (a.toNat:Int)] (.i .i64 (dv 16 a)):=c43 H DIG a
       have cb:Pus prog 43 [.s DIG,.i .u8 (b.toNat:Int)] (.i .i64 (dv 16 b)):=c43 H DIG b
       refine ⟨a,rfl,_,ca,b,rfl,_,cb,by simp,?_⟩
       simp only [esx] at e
       by_cases hv:0≤dv 16 a∧0≤dv 16 b
       ·have hw:IntKind.u8.wrap (IntKind.i64.wrap ((IntKind.i64.wrap (16*dv 16 a))+dv 16 b))=16*dv 16 a+dv 16 b:=by
         rw [wr_i64 (z:=16*dv 16 a) (by omega) (by omega),wr_i64 (by omega) (by omega),wr_u8 (by omega) (by omega)]
        have en:=lit (n:=(16*dv 16 a+dv 16 b).toNat) (by omega)
        rw [hw]
        refine ⟨fun _=>⟨fun _=>⟨fun h5=>⟨fun h6=>?_,fun h6=>?_⟩,fun h5=>?_⟩,fun h5=>absurd hv.2 h5⟩,fun h5=>absurd hv.1 h5⟩
        ·rw [if_pos ⟨hv.1,hv.2,by omega,by omega⟩] at e
         exact EscK.yes e (by rw [en];omega)
        ·by_cases h7:126<16*dv 16 a+dv 16 b
         ·rw [if_pos ⟨hv.1,hv.2,by omega,by omega⟩] at e
          rw [decide_eq_true h7]
          exact EscK.yes e (by rw [en];omega)
         ·rw [if_neg (by omega)] at e
          rw [decide_eq_false h7]
          exact EscK.no e
        ·rw [if_neg (by omega)] at e
         exact EscK.no e
       ·rw [if_neg (by omega)] at e
        exact ⟨fun h5=>⟨fun h6=>absurd ⟨h5,h6⟩ hv,fun _=>EscK.no e⟩,fun _=>EscK.no e⟩
    ·exact EscK.no (by rw [e0,if_neg (by omega),if_neg (by omega)])
  unfold T45_3
  refine ⟨fun h1=>?_,fun h1=>?_⟩
  ·rw [show decide ((c.toNat:Int)=34)=decide (c.toNat=34∨c.toNat=92) from decide_eq_decide.2 (by omega)]
   exact t4
  ·rw [show decide ((c.toNat:Int)=92)=decide (c.toNat=34∨c.toNat=92) from decide_eq_decide.2 (by omega)]
   exact t4
theorem c39 {s:Bytes} (hs:s.length≤10000000):Pus prog 39 [.s s] (.tup [.s (nxtR s).1,.s (nxtR s).2.1,.b (nxtR s).2.2]):=by
 obtain ⟨x,y,z,⟨rfl,rfl,rfl⟩,h⟩:=p39 H.f39 (s0:=s) (K:=fun x y z=>x=(nxtR s).1∧y=(nxtR s).2.1∧z=(nxtR s).2.2) (by
  have no:nxt s=none→([]:Bytes)=(nxtR s).1∧([]:Bytes)=(nxtR s).2.1∧false=(nxtR s).2.2:=by
   intro h
   unfold nxtR
   rw [h]
   exact ⟨rfl,rfl,rfl⟩
  unfold T39_0 T39_1
  refine ⟨_,_,c36 H s [34],?_⟩
  cases s with
  | nil=>
   rw [show cutp [34] []=([],false) from rfl]
   exact ⟨fun _=>no rfl,fun h=>by simp at h⟩
  | cons q s=>
   by_cases hq:q.toNat=34
   ·have hq':q=34:=u8_eq hq
    subst hq'
    have ec:cutp [34] (34::s)=(s,true):=by unfold cutp;rw [if_pos (show List.take ([34]:Bytes).length (34::s)=[34] from rfl)];rfl
    rw [ec]
    refine ⟨fun h=>by simp at h,fun _ P hP=>?_⟩
    have hn:nxt (34::s)=nxtB (s.length+1) [] s:=by
     simp only [nxt]
     rw [if_pos hq]
    have key :∀n b r,r.length<n→b.length+r.length≤10000000→nxtB n b r=nxt (34::s)→P r b:=by
     intro n
     induction n with
     | zero=>intro b r h;exact absurd h (Nat.not_lt_zero _)
     | succ n ih=>
      intro b r hr hb hx
      apply hP
      unfold T39_2
      cases r with
      | nil=>exact ⟨fun h=>absurd rfl h,fun _=>no (by rw [← hx];rfl)⟩
      | cons c r=>
       simp only [nxtB] at hx
       refine ⟨fun _=>⟨c,rfl,by simp,fun h1=>?_,fun h1=>⟨fun h2=>?_,fun h2=>⟨fun h3=>?_,fun h3=>⟨fun h4=>?_,fun h4=>?_⟩⟩⟩⟩,fun h=>absurd (by simp) h⟩
       ·rw [if_pos (by omega)] at hx
        unfold nxtR
        rw [← hx]
        exact ⟨rfl,rfl,rfl⟩
       ·refine no ?_
        rw [← hx,if_neg (by omega),show one (c::r)=none by simp only [one];rw [if_pos (by omega)]]
       ·refine no ?_
        rw [← hx,if_neg (by omega),show one (c::r)=none by simp only [one];rw [if_pos (by omega)]]
       ·rw [if_neg (by omega),show one (c::r)=esc r by simp only [one];rw [if_neg (by omega),if_pos (by omega)]] at hx
        obtain ⟨a,r',ok,hk,hp⟩:=c45 H r
        refine ⟨a,r',ok,hp,fun h5=>?_,fun h5=>?_⟩
        ·unfold EscK at hk
         cases he:esc r with
         | none=>rw [he] at hx;exact no hx.symm
         | some p=>
          rw [he] at hk
          obtain ⟨_,_,hk⟩:=hk
          rw [hk] at h5
          exact absurd h5 (by decide)
        ·unfold EscK at hk
         cases he:esc r with
         | none=>
          rw [he] at hk
          simp only at hk
          rw [hk] at h5
          exact absurd h5 (by decide)
         | some p=>
          obtain ⟨u,v⟩:=p
          rw [he] at hk hx
          obtain ⟨h6,h7,h8⟩:=hk
          simp only at hx h6 h7
          subst h6;subst h7
          have hl:r'.length<(c::r).length:=one_len (c:=u) (by simp only [one];rw [if_neg (by omega),if_pos (by omega)];exact he)
          simp only [List.length_cons] at hl hb hr
          unfold T39_3
          refine ⟨u,rfl,⟨?_,?_⟩,ih _ _ (by omega) ?_ hx⟩
          ·simp only [List.length_cons,List.length_nil,maxBytes_eq];omega
          ·simp only [List.length_cons,List.length_nil,maxBytes_eq];omega
          ·simp only [List.length_append,List.length_cons,List.length_nil];omega
       ·rw [if_neg (by omega),show one (c::r)=some (c,r) by simp only [one];rw [if_neg (by omega),if_neg (by omega)]] at hx
        simp only [List.length_cons] at hb hr
        unfold T39_3
        refine ⟨c,rfl,⟨?_,?_⟩,ih _ _ (show r.length<n by omega) ?_ hx⟩
        ·simp only [List.length_cons,List.length_nil,maxBytes_eq];omega
        ·simp only [List.length_cons,List.length_nil,maxBytes_eq];omega
        ·simp only [List.drop_succ_cons,List.drop_zero,List.length_append,List.length_cons,List.length_nil];omega
    exact key (s.length+1) [] s (by omega) (by simp at hs ⊢;omega) hn.symm
   ·have ec:cutp [34] (q::s)=(q::s,false):=by
     unfold cutp
     rw [if_neg ?_]
     intro h
     injection h with h
     exact hq (by rw [h];rfl)
    rw [ec]
    refine ⟨fun _=>no ?_,fun h=>by simp at h⟩
    simp only [nxt]
    rw [if_neg hq])
 exact h
theorem c25 (s:Bytes):Pus prog 25 [.s s] (.tup [.s (unquo s).1,.i .i64 (unquo s).2]):=by
 obtain ⟨x,y,⟨rfl,rfl⟩,h⟩:=p25 H.f25 (s0:=s) (K:=fun x y=>x=(unquo s).1∧y=(unquo s).2) (by
  unfold T25_0 unquo
  refine ⟨fun h=>by rw [if_pos (by omega)];exact ⟨rfl,rfl⟩,fun hs=>⟨_,_,_,c39 H (by omega),?_⟩⟩
  rw [if_neg (by omega)]
  unfold nxtR
  cases nxt s with
  | none=>exact ⟨fun _=>⟨rfl,rfl⟩,fun h=>by simp at h⟩
  | some p=>
   obtain ⟨x,r⟩:=p
   refine ⟨fun h=>by simp at h,fun _=>⟨fun h=>?_,fun h=>?_⟩⟩
   ·cases r with
    | nil=>exact absurd rfl h
    | cons c r=>exact ⟨rfl,rfl⟩
   ·have h:r=[]:=Classical.not_not.1 h
    subst h
    refine ⟨fun h=>?_,fun h=>?_⟩
    ·simp only at h ⊢
     rw [if_pos (by omega)];exact ⟨rfl,rfl⟩
    ·simp only at h ⊢
     rw [if_neg (by omega)];exact ⟨rfl,rfl⟩)
 exact h
theorem c29 {a b:List Bytes} (ha:a.length≤1000000000):Pus prog 29 [.sl .ext (a.map rowS),.sl .ext (b.map rowS)] (.b (decide (a=b))):=by
 obtain ⟨x,rfl,h⟩:=p29 H.f29 (a0:=a) (b1:=b) (K:=fun x=>x=decide (a=b)) (by
  unfold T29_0
  refine ⟨fun h=>(decide_eq_false fun e=>h (by rw [e])).symm,fun hl P hP=>?_⟩
  have hlen:a.length=b.length:=by omega
  have key :∀m i:Nat,i+m=a.length→(∀j,j<i→a[j]?=b[j]?)→P (i:Int):=by
   intro m
   induction m with
   | zero=>
    intro i hi hj
    apply hP
    unfold T29_1 T29_2
    refine ⟨fun h=>absurd h (by omega),fun _=>(decide_eq_true ?_).symm⟩
    apply List.ext_getElem?
    intro j
    rcases Nat.lt_or_ge j i with h | h
    ·exact hj j h
    ·rw [List.getElem?_eq_none (by omega),List.getElem?_eq_none (by omega)]
   | succ m ih=>
    intro i hi hj
    have h1:i<a.length:=by omega
    have h2:i<b.length:=by omega
    apply hP
    unfold T29_1
    refine ⟨fun _=>⟨by omega,a[i],by rw [toNat_cast,List.getElem?_eq_getElem h1],by omega,b[i],by rw [toNat_cast,List.getElem?_eq_getElem h2],fun h=>?_,fun h=>?_⟩,fun h=>absurd h (by omega)⟩
    ·refine (decide_eq_false fun e=>h ?_).symm
     subst e
     rfl
    ·rw [wr_succ (by omega)]
     refine ih (i+1) (by omega) fun j hj'=>?_
     rcases Nat.lt_or_ge j i with h3 | h3
     ·exact hj j h3
     ·have:j=i:=by omega
      subst this
      rw [List.getElem?_eq_getElem h1,List.getElem?_eq_getElem h2,Classical.not_not.1 h]
  exact key a.length 0 (by omega) (by simp))
 exact h
end
end Go.AM
