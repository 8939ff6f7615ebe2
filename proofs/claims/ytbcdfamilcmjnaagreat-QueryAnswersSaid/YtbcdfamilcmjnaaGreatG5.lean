/- Parts of the proof: U44a, U44b, H44, U44c, U44d, U44e, U44f, U44g, U44h, U44i. -/
import Derived.Test.YtbcdfamilcmjnaaGreatG2
import Derived.Test.YtbcdfamilcmjnaaGreatG1
import Derived.Maps.RangeRun
set_option linter.all false
namespace Go.AM
open Go
set_option linter.unusedVariables false
set_option linter.unusedSimpArgs false
set_option maxRecDepth 4000
set_option maxHeartbeats 2000000
attribute [local irreducible] Decidable.decide W WO fillCells fillRows
def r258_0:List AI:=[oC 2 (.s [])]
def r258_1:List AI:=[oM 3 0,oQ 4 15 [3],oM 2 4]
abbrev b258:AC:=(sR 0 r258_0 (sR 1 r258_1 .ret))
def pf258:AF:={ nt:=5,res:=[.tmp 2],body:=b258 }
def T258_0 (prog:Prog)(K:BS→Prop)(n0:Int):Prop:=
  ∃c,Pus prog 15 [.i .i64 n0] (.s c)∧K c
section
variable {prog:Prog}{d:Nat}{Q:AE→Sl→St→Prop}{K:BS→Prop}(hQ:H1 AV.s 2 Q K){σ:Sl}{st:St}
include hQ
variable {n0:Int}
variable (H0:σ 0=.i .i64 n0)
include H0 in
theorem w258_0 (h:T258_0 prog K n0):W prog d (sR 0 r258_0 (sR 1 r258_1 .ret)) σ st Q:=
 au trivial
end
theorem p258 {prog:Prog}(hf:prog.fn 258=some pf258){n0:Int}{K:BS→Prop}(h:T258_0 prog K n0) :∃res0:BS,K res0∧Pus prog 258 [.i .i64 n0] (.s res0):=
 P1 hf J (w258_0 (h1 J fun _=>J) J h)
def r263_0:List AI:=[oC 0 (.sl .full [])]
def r263_1:List AI:=[oO 1 (.bslice [zs] 9 [(0,(.c (.s []))),(1,(.c (.s [103,111,114,111,117,116,105,110,101,115]))),(2,(.c (.s [102,114,97,109,101,115]))),(3,(.c (.s [108,111,99,97,108,115]))),(4,(.c (.s [100,101,102,101,114,115]))),(5,(.c (.s [112,97,110,105,99,115]))),(6,(.c (.s [119,97,105,116,115]))),(7,(.c (.s [105,110]))),(8,(.c (.s [115,108,111,116])))]),oM 0 1]
abbrev b263:AC:=(sR 0 r263_0 (sR 1 r263_1 .ret))
def pf263:AF:={ nt:=2,res:=[.tmp 0],body:=b263 }
def T263_0 (prog:Prog)(K:LB→Prop) :Prop:=
  K [([]:BS),([103,111,114,111,117,116,105,110,101,115]:BS),([102,114,97,109,101,115]:BS),([108,111,99,97,108,115]:BS),([100,101,102,101,114,115]:BS),([112,97,110,105,99,115]:BS),([119,97,105,116,115]:BS),([105,110]:BS),([115,108,111,116]:BS)]
section
variable {prog:Prog}{d:Nat}{Q:AE→Sl→St→Prop}{K:LB→Prop}(hQ:HL rowS 0 Q K){σ:Sl}{st:St}
include hQ
theorem w263_0 (h:T263_0 prog K ):W prog d (sR 0 r263_0 (sR 1 r263_1 .ret)) σ st Q:=
 q_ J (s_mvL (f:=rowS) (l:=[]) J (e_ (q_ J (s_bslM (f:=rowS) (l:=[([]:BS),([103,111,114,111,117,116,105,110,101,115]:BS),([102,114,97,109,101,115]:BS),([108,111,99,97,108,115]:BS),([100,101,102,101,114,115]:BS),([112,97,110,105,99,115]:BS),([119,97,105,116,115]:BS),([105,110]:BS),([115,108,111,116]:BS)]) J J (g_cons J J J (g_cons J J J (g_cons J J J (g_cons J J J (g_cons J J J (g_cons J J J (g_cons J J J (g_cons J J J (g_cons J J J g_nil))))))))) J (s_mvL J (er_ (hQ J h)))))))
end
theorem p263 {prog:Prog}(hf:prog.fn 263=some pf263)  {K:LB→Prop}(h:T263_0 prog K ) :∃res0:LB,K res0∧Pus prog 263 [] (.sl .ext (List.map rowS res0)):=
 P1 hf J (w263_0 (hL J)  h)
def r265_0:List AI:=[oC 2 (.s [])]
def r265_1:List AI:=[oM 3 0,oQ 4 16 [3],oM 2 4]
abbrev b265:AC:=(sR 0 r265_0 (sR 1 r265_1 .ret))
def pf265:AF:={ nt:=5,res:=[.tmp 2],body:=b265 }
def T265_0 (prog:Prog)(K:BS→Prop)(n0:Int):Prop:=
  ∃c,Pus prog 16 [.i .i64 n0] (.s c)∧K c
section
variable {prog:Prog}{d:Nat}{Q:AE→Sl→St→Prop}{K:BS→Prop}(hQ:H1 AV.s 2 Q K){σ:Sl}{st:St}
include hQ
variable {n0:Int}
variable (H0:σ 0=.i .i64 n0)
include H0 in
theorem w265_0 (h:T265_0 prog K n0):W prog d (sR 0 r265_0 (sR 1 r265_1 .ret)) σ st Q:=
 au trivial
end
theorem p265 {prog:Prog}(hf:prog.fn 265=some pf265){n0:Int}{K:BS→Prop}(h:T265_0 prog K n0) :∃res0:BS,K res0∧Pus prog 265 [.i .i64 n0] (.s res0):=
 P1 hf J (w265_0 (h1 J fun _=>J) J h)
def r266_0:List AI:=[oC 4 (.s []),oC 5 (.s []),oC 6 (.b false)]
def r266_1:List AI:=[oM 8 0,oM 9 1,oQ 10 197 [8,9],oM 7 10]
def r266_2:List AI:=[oM 11 7,oV 12 .geq 11 0]
def r266_3:List AI:=[oM 13 0,oM 14 7,oO 15 (.slS (.t 13) none (some (.t 14))),oM 16 0,oM 17 7,oM 18 1,oH 19 18,oT 20 .add 17 19,oO 21 (.slS (.t 16) (some (.t 20)) none),oM 4 15,oM 5 21,oC 6 (.b true)]
def r266_4:List AI:=[oM 22 0,oM 4 22,oC 5 (.s []),oC 6 (.b false)]
abbrev b266:AC:=(sR 0 r266_0 (.seq (sR 1 r266_1 (sR 2 r266_2 (.cond (.t 12) (sR 3 r266_3 .ret) .skip))) (sR 4 r266_4 .ret)))
def pf266:AF:={ nt:=23,res:=[.tmp 4,.tmp 5,.tmp 6],body:=b266 }
abbrev H266 (Q:AE→Sl→St→Prop)(K:BS→BS→Bool→Prop):Prop:=∀(σ:Sl)(st:St)(res0:BS)(res1:BS)(res2:Bool),σ 4=.s res0→σ 5=.s res1→σ 6=.b res2→K res0 res1 res2→Q .ret σ st
def T266_0 (prog:Prog)(K:BS→BS→Bool→Prop)(s0:BS)(sep1:BS):Prop:=
  ∃c,Pus prog 197 [.s s0,.s sep1] (.i .i64 c)∧(c≥0→0≤c∧(c).toNat≤s0.length∧0≤(IntKind.i64.wrap (c+(sep1.length:Int)))∧(IntKind.i64.wrap (c+(sep1.length:Int))).toNat≤s0.length∧K (s0.take (c).toNat) (s0.drop (IntKind.i64.wrap (c+(sep1.length:Int))).toNat) true)∧(¬(c≥0)→K s0 ([]:BS) false)
section
variable {prog:Prog}{d:Nat}{Q:AE→Sl→St→Prop}{K:BS→BS→Bool→Prop}(hQ:H266 Q K){σ:Sl}{st:St}
include hQ
variable {s0 sep1:BS}
variable (H0:σ 0=.s s0)(H1:σ 1=.s sep1)
include H0 H1 in
theorem w266_0 (h:T266_0 prog K s0 sep1):W prog d (sR 0 r266_0 (.seq (sR 1 r266_1 (sR 2 r266_2 (.cond (.t 12) (sR 3 r266_3 .ret) .skip))) (sR 4 r266_4 .ret))) σ st Q:=
 au trivial
end
theorem p266 {prog:Prog}(hf:prog.fn 266=some pf266){s0:BS}{sep1:BS}{K:BS→BS→Bool→Prop}(h:T266_0 prog K s0 sep1) :∃res0:BS,∃res1:BS,∃res2:Bool,K res0 res1 res2∧Pus prog 266 [.s s0,.s sep1] (.tup [.s res0,.s res1,.b res2]):=by
  obtain ⟨v,hv,res0,res1,res2,hk,rfl⟩:=Pus.of (K:=fun v=>∃res0:BS,∃res1:BS,∃res2:Bool,K res0 res1 res2∧v=.tup [.s res0,.s res1,.b res2]) hf rfl (w266_0 (σ:=sl0 [.s s0,.s sep1]) (fun σ st   res0 res1 res2 H4 H5 H6 hk=>⟨.tup [.s res0,.s res1,.b res2],by simp only [pf266,ares,aresL,H4,H5,H6,ares1,Option.map_some],_,rfl,res0,res1,res2,hk,rfl⟩) rfl rfl h)
  exact ⟨res0,res1,res2,hk,hv⟩
def r260_0:List AI:=[oC 4 (.s []),oC 5 (.s []),oC 6 (.b false)]
def r260_1:List AI:=[oM 7 0,oM 8 1,oQ 9 266 [7,8],oE 10 0 9,oE 11 1 9,oE 12 2 9,oM 4 10,oM 5 11,oM 6 12]
abbrev b260:AC:=(sR 0 r260_0 (sR 1 r260_1 .ret))
def pf260:AF:={ nt:=13,res:=[.tmp 4,.tmp 5,.tmp 6],body:=b260 }
abbrev H260 (Q:AE→Sl→St→Prop)(K:BS→BS→Bool→Prop):Prop:=∀(σ:Sl)(st:St)(res0:BS)(res1:BS)(res2:Bool),σ 4=.s res0→σ 5=.s res1→σ 6=.b res2→K res0 res1 res2→Q .ret σ st
def T260_0 (prog:Prog)(K:BS→BS→Bool→Prop)(s0:BS)(sep1:BS):Prop:=
  ∃c e i,Pus prog 266 [.s s0,.s sep1] (.tup [.s c,.s e,.b i])∧K c e i
section
variable {prog:Prog}{d:Nat}{Q:AE→Sl→St→Prop}{K:BS→BS→Bool→Prop}(hQ:H260 Q K){σ:Sl}{st:St}
include hQ
variable {s0 sep1:BS}
variable (H0:σ 0=.s s0)(H1:σ 1=.s sep1)
include H0 H1 in
theorem w260_0 (h:T260_0 prog K s0 sep1):W prog d (sR 0 r260_0 (sR 1 r260_1 .ret)) σ st Q:=
 au trivial
end
theorem p260 {prog:Prog}(hf:prog.fn 260=some pf260){s0:BS}{sep1:BS}{K:BS→BS→Bool→Prop}(h:T260_0 prog K s0 sep1) :∃res0:BS,∃res1:BS,∃res2:Bool,K res0 res1 res2∧Pus prog 260 [.s s0,.s sep1] (.tup [.s res0,.s res1,.b res2]):=by
  obtain ⟨v,hv,res0,res1,res2,hk,rfl⟩:=Pus.of (K:=fun v=>∃res0:BS,∃res1:BS,∃res2:Bool,K res0 res1 res2∧v=.tup [.s res0,.s res1,.b res2]) hf rfl (w260_0 (σ:=sl0 [.s s0,.s sep1]) (fun σ st   res0 res1 res2 H4 H5 H6 hk=>⟨.tup [.s res0,.s res1,.b res2],by simp only [pf260,ares,aresL,H4,H5,H6,ares1,Option.map_some],_,rfl,res0,res1,res2,hk,rfl⟩) rfl rfl h)
  exact ⟨res0,res1,res2,hk,hv⟩
def r262_0:List AI:=[oC 2 (.s []),oC 3 (.s [])]
def r262_1:List AI:=[oI 4 0]
def r262_2:List AI:=[oM 5 4,oM 6 0,oH 7 6,oT 8 .lss 5 7]
def r262_3:List AI:=[oM 11 0,oM 12 4,oO 13 (.ixS (.t 11) (.t 12)),oW 14 .eql 13 32]
def r262_4:List AI:=[oM 15 0,oM 16 4,oO 17 (.slS (.t 15) none (some (.t 16))),oM 18 0,oM 19 4,oV 20 .add 19 1,oO 21 (.slS (.t 18) (some (.t 20)) none),oM 2 17,oM 3 21]
def r262_5:List AI:=[oM 9 4,oV 10 .add 9 1,oM 4 10]
def r262_6:List AI:=[oM 22 0,oM 2 22,oC 3 (.s [])]
abbrev l262_0:AC:=(.seq (sR 2 r262_2 (.cond (.t 8) .skip (.exit 0))) (.seq (.block 1 (sR 4 r262_3 (.cond (.t 14) (sR 5 r262_4 .ret) .skip))) (.reg 3 r262_5)))
abbrev c262_1:AC:=(sR 6 r262_6 .ret)
abbrev b262:AC:=(sR 0 r262_0 (.seq (sR 1 r262_1 (.block 0 (.loop l262_0))) c262_1))
def pf262:AF:={ nt:=23,res:=[.tmp 2,.tmp 3],body:=b262 }
abbrev I262_0 (prog:Prog)(d:Nat)(Q:AE→Sl→St→Prop)(s0:BS)(i4:Int):Prop:=
  ∀(σ:Sl)(st:St),σ 0=.s s0→σ 4=.i .i64 i4→W prog d (.loop l262_0) σ st (blockW 0 (thenW prog d c262_1 Q))
def T262_2 (prog:Prog)(K:BS→BS→Prop)(s0:BS):Prop:=
  K s0 ([]:BS)
def T262_1 (prog:Prog)(K:BS→BS→Prop)(P0:Int→Prop)(s0:BS)(i4:Int):Prop:=
  (i4<(s0.length:Int)→0≤i4∧∃c:UInt8,s0[(i4).toNat]?=some c∧((c.toNat:Int)=32→0≤i4∧(i4).toNat≤s0.length∧0≤(IntKind.i64.wrap (i4+1))∧(IntKind.i64.wrap (i4+1)).toNat≤s0.length∧K (s0.take (i4).toNat) (s0.drop (IntKind.i64.wrap (i4+1)).toNat))∧(¬((c.toNat:Int)=32)→P0 (IntKind.i64.wrap (i4+1))))∧(¬(i4<(s0.length:Int))→T262_2 prog K s0)
def T262_0 (prog:Prog)(K:BS→BS→Prop)(s0:BS):Prop:=
  ∀P0:Int→Prop,(∀(i4:Int),T262_1 prog K P0 s0 i4→P0 i4)→P0 0
section
variable {prog:Prog}{d:Nat}{Q:AE→Sl→St→Prop}{K:BS→BS→Prop}(hQ:H2 AV.s AV.s 2 3 Q K){σ:Sl}{st:St}
include hQ
variable {s0:BS}{i4:Int}{P0:Int→Prop}
variable (kP0 :∀(i4:Int),P0 i4→I262_0 prog d Q s0 i4)(H0:σ 0=.s s0)(H4:σ 4=.i .i64 i4)
include H0 in
theorem w262_2 (h:T262_2 prog K s0):W prog d c262_1 σ st Q:=
 au trivial
include kP0 H0 H4 in
theorem w262_1 (h:T262_1 prog K P0 s0 i4):W prog d l262_0 σ st (thenW prog d (.loop l262_0) (blockW 0 (thenW prog d c262_1 Q))):=
 au @w262_2
include H0 in
theorem w262_0 (h:T262_0 prog K s0):W prog d (sR 0 r262_0 (.seq (sR 1 r262_1 (.block 0 (.loop l262_0))) c262_1)) σ st Q:=
 q_ J (m_ (m_ (e_ (sq_ (q_ J (m_ (e_ (bk_ (h (I262_0 prog d Q s0) (fun _ hb _ _ H0 H4=>W.loop (w262_1 hQ (fun _ x=>x) H0 H4 hb)) _ _ H0 J)))))))))
end
theorem p262 {prog:Prog}(hf:prog.fn 262=some pf262){s0:BS}{K:BS→BS→Prop}(h:T262_0 prog K s0) :∃res0:BS,∃res1:BS,K res0 res1∧Pus prog 262 [.s s0] (.tup [.s res0,.s res1]):=
 P2 hf J (w262_0 (h2 J fun _ _=>J) J h)
def r267_0:List AI:=[oI 2 0,oC 3 (.b false)]
def r267_1:List AI:=[oM 7 0,oQ 8 21 [7],oM 6 8,oE 9 0 6,oE 10 1 6,oM 4 9,oM 5 10]
def r267_2:List AI:=[oM 11 4,oM 12 5,oV 13 .eql 12 0,oM 14 13,gT 14 (oM 15 4),gT 14 (oV 16 .geq 15 0),oA 17 14 16,oM 18 17,gT 18 (oM 19 4),gT 18 (oV 20 .lss 19 1000),oA 21 18 20,oM 2 11,oM 3 21]
abbrev b267:AC:=(sR 0 r267_0 (sR 1 r267_1 (sR 2 r267_2 .ret)))
def pf267:AF:={ nt:=22,res:=[.tmp 2,.tmp 3],body:=b267 }
def T267_0 (prog:Prog)(K:Int→Bool→Prop)(s0:BS):Prop:=
  ∃c e,Pus prog 21 [.s s0] (.tup [.i .i64 c,.i .i64 e])∧(e=0→(c≥0→K c (decide (c<1000)))∧(¬(c≥0)→K c false))∧(¬(e=0)→K c false)
section
variable {prog:Prog}{d:Nat}{Q:AE→Sl→St→Prop}{K:Int→Bool→Prop}(hQ:H2 (AV.i .i64) AV.b 2 3 Q K){σ:Sl}{st:St}
include hQ
variable {s0:BS}
variable (H0:σ 0=.s s0)
include H0 in
theorem w267_0 (h:T267_0 prog K s0):W prog d (sR 0 r267_0 (sR 1 r267_1 (sR 2 r267_2 .ret))) σ st Q:=
 au trivial
end
theorem p267 {prog:Prog}(hf:prog.fn 267=some pf267){s0:BS}{K:Int→Bool→Prop}(h:T267_0 prog K s0) :∃res0:Int,∃res1:Bool,K res0 res1∧Pus prog 267 [.s s0] (.tup [.i .i64 res0,.b res1]):=
 P2 hf J (w267_0 (h2 J fun _ _=>J) J h)
def r261_0:List AI:=[oO 4 (.alloc [z8,z6,z6,z6,zs]),oC 5 (.b false)]
def r261_1:List AI:=[oM 13 0,oO 14 (.build [z8,z6,z6,z6,zs] [(0,1,(.t 13))]),oO 6 (.alloc [z8,z6,z6,z6,zs]),oS 5 6 14]
def r261_2:List AI:=[oC 7 (.b true),oC 8 (.b true)]
def r261_3:List AI:=[oI 9 0]
def r261_4:List AI:=[oM 15 0]
def r261_5:List AI:=[oW 23 .eql 15 1,oM 22 23]
def r261_6:List AI:=[oM 24 1,oB 25 .eql (.t 24) (.c (.s [])),oM 7 25]
def r261_7:List AI:=[oW 27 .eql 15 3,oM 26 27]
def r261_8:List AI:=[oM 29 1,oO 30 (.call false 260 [(.t 29),(.c (.s [32]))]),oM 28 30,oE 31 0 28,oE 32 1 28,oE 33 2 28,oM 10 31,oM 11 32,oM 12 33]
def r261_9:List AI:=[oM 35 10,oQ 36 267 [35],oM 34 36,oE 37 0 34,oE 38 1 34,oF 39 1 6,oS 1 39 37,oM 7 38]
def r261_10:List AI:=[oM 41 11,oQ 42 267 [41],oM 40 42,oE 43 0 40,oE 44 1 40,oF 45 2 6,oS 1 45 43,oM 8 44]
def r261_11:List AI:=[oM 46 8,oM 47 46,gT 47 (oM 48 12),oA 49 47 48,oM 8 49]
def r261_12:List AI:=[oW 51 .eql 15 6,oM 50 51]
def r261_13:List AI:=[oM 53 1,oQ 54 21 [53],oM 52 54,oE 55 0 52,oE 56 1 52,oF 57 3 6,oS 1 57 55,oM 9 56]
def r261_14:List AI:=[oW 59 .eql 15 7,oM 58 59]
def r261_15:List AI:=[oW 60 .eql 15 8,oM 58 60]
def r261_16:List AI:=[oM 62 1,oQ 63 25 [62],oM 61 63,oE 64 0 61,oE 65 1 61,oF 66 4 6,oS 1 66 64,oM 9 65]
def r261_17:List AI:=[oM 17 1,oQ 18 267 [17],oM 16 18,oE 19 0 16,oE 20 1 16,oF 21 1 6,oS 1 21 19,oM 7 20]
def r261_18:List AI:=[oK 67 5 6,oM 68 7,oM 69 68,gT 69 (oM 70 8),oA 71 69 70,oM 72 71,gT 72 (oM 73 9),gT 72 (oV 74 .eql 73 0),oA 75 72 74,oS 5 4 67,oM 5 75]
abbrev c261_0:AC:=(.cond (.t 58) (.reg 17 r261_16) (.reg 5 r261_17))
abbrev c261_1:AC:=(.cond (.t 22) (.reg 7 r261_6) (sR 8 r261_7 (.cond (.t 26) (sR 9 r261_8 (sR 10 r261_9 (sR 11 r261_10 (.reg 12 r261_11)))) (sR 13 r261_12 (.cond (.t 50) (.reg 14 r261_13) (.seq (sR 15 r261_14 (.cond (.t 58) .skip (.reg 16 r261_15))) c261_0))))))
abbrev c261_2:AC:=(.block 0 (sR 6 r261_5 c261_1))
abbrev c261_3:AC:=(sR 18 r261_18 .ret)
abbrev c261_4:AC:=(.seq (sR 4 r261_4 c261_2) c261_3)
abbrev c261_5:AC:=(sR 3 r261_3 c261_4)
abbrev c261_6:AC:=(sR 2 r261_2 c261_5)
abbrev c261_7:AC:=(sR 1 r261_1 c261_6)
abbrev b261:AC:=(sR 0 r261_0 c261_7)
def pf261:AF:={ nt:=76,res:=[.cell 4 5 true,.tmp 5],body:=b261 }
abbrev H261 (Q:AE→Sl→St→Prop)(K:Qry→Bool→Prop):Prop:=∀(σ:Sl)(st:St)(k0:Key)(v0:Nat)(res0:Qry)(res1:Bool),σ 4=.p k0 v0 0→lk st.bx k0=some (v0,Qry.cs res0)→σ 5=.b res1→K res0 res1→Q .ret σ st
def T261_7 (prog:Prog)(K:Qry→Bool→Prop)(ok7:Bool)(is8:Bool)(e9:Int)(m0:Qry)(m4098:Qry):Prop:=
  (ok7=true→(is8=true→K m4098 (decide (e9=0)))∧(is8=false→K m4098 false))∧(ok7=false→K m4098 false)
def T261_8 (prog:Prog)(K:Qry→Bool→Prop)(rest1:BS)(ok7:Bool)(is8:Bool)(e9:Int)(t58:Bool)(m0:Qry)(m4098:Qry):Prop:=
  (t58=true→∃e c,Pus prog 25 [.s rest1] (.tup [.s e,.i .i64 c])∧T261_7 prog K ok7 is8 c m0 (Qry.mk m4098.kind m4098.g m4098.k m4098.key e))∧(t58=false→∃j o,Pus prog 267 [.s rest1] (.tup [.i .i64 j,.b o])∧T261_7 prog K o is8 e9 m0 (Qry.mk m4098.kind j m4098.k m4098.key m4098.name))
def T261_6 (prog:Prog)(K:Qry→Bool→Prop)(rest1:BS)(ok7:Bool)(is8:Bool)(e9:Int)(t15:Int)(t22:Bool)(m0:Qry)(m4098:Qry):Prop:=
  (t22=true→T261_7 prog K (decide (rest1=([]:BS))) is8 e9 m0 m4098)∧(t22=false→(t15=3→∃u q r,Pus prog 260 [.s rest1,.s ([32]:BS)] (.tup [.s u,.s q,.b r])∧∃e j,Pus prog 267 [.s u] (.tup [.i .i64 e,.b j])∧∃c o,Pus prog 267 [.s q] (.tup [.i .i64 c,.b o])∧(o=true→T261_7 prog K j r e9 m0 (Qry.mk m4098.kind e c m4098.key m4098.name))∧(o=false→T261_7 prog K j false e9 m0 (Qry.mk m4098.kind e c m4098.key m4098.name)))∧(¬(t15=3)→(t15=6→∃v p,Pus prog 21 [.s rest1] (.tup [.i .i64 v,.i .i64 p])∧T261_7 prog K ok7 is8 p m0 (Qry.mk m4098.kind m4098.g m4098.k v m4098.name))∧(¬(t15=6)→(t15=7→T261_8 prog K rest1 ok7 is8 e9 (decide (t15=7)) m0 m4098)∧(¬(t15=7)→T261_8 prog K rest1 ok7 is8 e9 (decide (t15=8)) m0 m4098))))
def T261_5 (prog:Prog)(K:Qry→Bool→Prop)(rest1:BS)(ok7:Bool)(is8:Bool)(e9:Int)(t15:Int)(m0:Qry)(m4098:Qry):Prop:=
  T261_6 prog K rest1 ok7 is8 e9 t15 (decide (t15=1)) m0 m4098
def T261_4 (prog:Prog)(K:Qry→Bool→Prop)(kind0:Int)(rest1:BS)(ok7:Bool)(is8:Bool)(e9:Int)(m0:Qry)(m4098:Qry):Prop:=
  T261_5 prog K rest1 ok7 is8 e9 kind0 m0 m4098
def T261_3 (prog:Prog)(K:Qry→Bool→Prop)(kind0:Int)(rest1:BS)(ok7:Bool)(is8:Bool)(m0:Qry)(m4098:Qry):Prop:=
  T261_4 prog K kind0 rest1 ok7 is8 0 m0 m4098
def T261_2 (prog:Prog)(K:Qry→Bool→Prop)(kind0:Int)(rest1:BS)(m0:Qry)(m4098:Qry):Prop:=
  T261_3 prog K kind0 rest1 true true m0 m4098
def T261_1 (prog:Prog)(K:Qry→Bool→Prop)(kind0:Int)(rest1:BS)(m0:Qry):Prop:=
  T261_2 prog K kind0 rest1 m0 (Qry.mk kind0 0 0 0 [])
def T261_0 (prog:Prog)(K:Qry→Bool→Prop)(kind0:Int)(rest1:BS):Prop:=
  T261_1 prog K kind0 rest1 (Qry.mk 0 0 0 0 [])
section
variable {prog:Prog}{d:Nat}{Q:AE→Sl→St→Prop}{K:Qry→Bool→Prop}(hQ:H261 Q K){σ:Sl}{st:St}
include hQ
variable {ok7 is8:Bool}{e9:Int}{m0 m4098:Qry}{v0 v4098:Nat}{rest1:BS}{t58:Bool}{t15:Int}{t22:Bool}{kind0:Int}
variable (H0:σ 0=.i .u8 kind0)(H1:σ 1=.s rest1)(H4:σ 4=.p (d,0) v0 0)(H6:σ 6=.p (d,4098) v4098 0)(H7:σ 7=.b ok7)(H8:σ 8=.b is8)(H9:σ 9=.i .i64 e9)(H58:σ 58=.b t58)(H15:σ 15=.i .u8 t15)(H22:σ 22=.b t22)(B0:lk st.bx (d,0)=some (v0,Qry.cs m0))(B4098:lk st.bx (d,4098)=some (v4098,Qry.cs m4098))
include H4 H6 H7 H8 H9 B0 B4098 in
theorem w261_7 (h:T261_7 prog K ok7 is8 e9 m0 m4098):W prog d c261_3 σ st Q:=
 au trivial
include H1 H4 H6 H7 H8 H9 H58 B0 B4098 in
theorem w261_8 (h:T261_8 prog K rest1 ok7 is8 e9 t58 m0 m4098):W prog d c261_0 σ st (blockW 0 (thenW prog d c261_3 Q)):=
 au @w261_7
include H1 H4 H6 H7 H8 H9 H15 H22 B0 B4098 in
theorem w261_6 (h:T261_6 prog K rest1 ok7 is8 e9 t15 t22 m0 m4098):W prog d c261_1 σ st (blockW 0 (thenW prog d c261_3 Q)):=
 cb_ H22 (fun c=>W.reg0 J fun _ _=>m_ (b_ H1 J seq_ (m_ (e_ (w261_7 hQ H4 H6 J H8 H9 B0 B4098 (h.1 c)))))) (fun c=>q_ J (b_ H15 J eql_ (m_ (e_ (cs_ J (fun e=>q_ J (m_ (x2 ((h.2 c).1 e) fun _ _ w=>w.elim fun _ r=>ca_ (sc2 H1 J J) r.1 (m_ (x_ J J (x_ J J (x_ J J (m_ (m_ (m_ (e_ (q_ J (m_ (x2 r.2 fun v _ s=>ca_ (sc1 J J) s.1 (m_ (x_ J J (x_ J J (f_ H6 (so_ J B4098 J J J (m_ (e_ (q_ J (m_ (x2 s.2 fun u _ j=>ca_ (sc1 J J) j.1 (m_ (x_ J J (x_ J J (f_ H6 (so_ J lk_here J J J (m_ (e_ (W.reg0 J fun _ _=>z_ 2 J (eb_ (g:=47) J (fun o=>gy_ J (z_ 3 J (e_ (w261_7 (m4098:=(Qry.mk m4098.kind v u m4098.key m4098.name)) hQ H4 H6 J J H9 (lk_other J (lk_other J B0)) lk_here (j.2.1 o))))) (fun o=>z_ 3 J (e_ (w261_7 (m4098:=(Qry.mk m4098.kind v u m4098.key m4098.name)) hQ H4 H6 J J H9 (lk_other J (lk_other J B0)) lk_here (j.2.2 o))))))))))))))))))))))))))))))))))))) (fun e=>q_ J (b_ H15 J eql_ (m_ (e_ (cs_ J (fun i=>W.reg0 J fun _ _=>m_ (x2 (((h.2 c).2 e).1 i) fun x _ q=>ca_ (sc1 H1 J) q.1 (m_ (x_ J J (x_ J J (f_ H6 (so_ J B4098 J J J (m_ (e_ (w261_7 (m4098:=(Qry.mk m4098.kind m4098.g m4098.k x m4098.name)) hQ H4 H6 H7 H8 J (lk_other J B0) lk_here q.2)))))))))) (fun i=>sq_ (q_ J (b_ H15 J eql_ (m_ (e_ (cs_ J (fun p=>sk_ (w261_8 hQ H1 H4 H6 H7 H8 H9 J B0 B4098 ((((h.2 c).2 e).2 i).1 p))) (fun p=>W.reg0 J fun _ _=>b_ H15 J eql_ (m_ (e_ (w261_8 hQ H1 H4 H6 H7 H8 H9 J B0 B4098 ((((h.2 c).2 e).2 i).2 p)))))))))))))))))))))
include H1 H4 H6 H7 H8 H9 H15 B0 B4098 in
theorem w261_5 (h:T261_5 prog K rest1 ok7 is8 e9 t15 m0 m4098):W prog d c261_2 σ st (thenW prog d c261_3 Q):=
 bk_ (q_ J (b_ H15 J eql_ (m_ (e_ (w261_6 hQ H1 H4 H6 H7 H8 H9 H15 J B0 B4098 h)))))
include H0 H1 H4 H6 H7 H8 H9 B0 B4098 in
theorem w261_4 (h:T261_4 prog K kind0 rest1 ok7 is8 e9 m0 m4098):W prog d c261_4 σ st Q:=
 au @w261_5
include H0 H1 H4 H6 H7 H8 B0 B4098 in
theorem w261_3 (h:T261_3 prog K kind0 rest1 ok7 is8 m0 m4098):W prog d c261_5 σ st Q:=
 au @w261_4
include H0 H1 H4 H6 B0 B4098 in
theorem w261_2 (h:T261_2 prog K kind0 rest1 m0 m4098):W prog d c261_6 σ st Q:=
 q_ J (m_ (m_ (e_ (w261_3 hQ H0 H1 H4 H6 J J B0 B4098 h))))
include H0 H1 H4 B0 in
theorem w261_1 (h:T261_1 prog K kind0 rest1 m0):W prog d c261_7 σ st Q:=
 sq_ (W.reg (m_ (s_build (f_cons H0 J f_nil) (s_alloc (so_ J (show lk _ (d,4098)=some (_,([.i .u8 0,.i .i64 0,.i .i64 0,.i .i64 0,.s []]:List AV)) from lk_here) J J J (e_ (w261_2 (m4098:=(Qry.mk kind0 0 0 0 [])) hQ H0 H1 H4 J (lk_other J (lk_other J B0)) lk_here h)))))))
include H0 H1 in
theorem w261_0 (h:T261_0 prog K kind0 rest1):W prog d (sR 0 r261_0 c261_7) σ st Q:=
 au @w261_1
end
theorem p261 {prog:Prog}(hf:prog.fn 261=some pf261){kind0:Int}{rest1:BS}{K:Qry→Bool→Prop}(h:T261_0 prog K kind0 rest1) :∃res0:Qry,∃res1:Bool,K res0 res1∧Pus prog 261 [.i .u8 kind0,.s rest1] (.tup [res0.av,.b res1]):=by
  obtain ⟨v,hv,res0,res1,hk,rfl⟩:=Pus.of (K:=fun v=>∃res0:Qry,∃res1:Bool,K res0 res1∧v=.tup [res0.av,.b res1]) hf rfl (w261_0 (σ:=sl0 [.i .u8 kind0,.s rest1]) (fun σ st k0 v0  res0 res1 H4 HB4 H5 hk=>⟨.tup [res0.av,.b res1],by simp only [pf261,ares,aresL,ares_cellA (n:=5) H4 HB4 rfl,H5,ares_tmp,Option.map_some],_,rfl,res0,res1,hk,rfl⟩) rfl rfl h)
  exact ⟨res0,res1,hk,hv⟩
def r247_0:List AI:=[oY 1 5 0,oI 2 0]
def r247_1:List AI:=[oF 4 0 1,oL 5 4,oO 6 (.build [z8,z6,z6,z6,zs] [(0,1,(.t 5))]),oO 3 (.alloc [z8,z6,z6,z6,zs]),oS 5 3 6]
def r247_2:List AI:=[oF 7 0 1,oL 8 7]
def r247_3:List AI:=[oW 10 .eql 8 1,oM 9 10]
def r247_4:List AI:=[oW 12 .eql 8 3,oM 11 12]
def r247_5:List AI:=[oF 13 2 1,oL 14 13,oF 15 2 3,oS 1 15 14]
def r247_6:List AI:=[oF 16 1 1,oL 17 16,oF 18 1 3,oS 1 18 17]
def r247_7:List AI:=[oW 20 .eql 8 2,oM 19 20]
def r247_8:List AI:=[oW 21 .eql 8 4,oM 19 21]
def r247_9:List AI:=[oW 22 .eql 8 5,oM 19 22]
def r247_10:List AI:=[oF 23 1 1,oL 24 23,oF 25 1 3,oS 1 25 24]
def r247_11:List AI:=[oW 27 .eql 8 6,oM 26 27]
def r247_12:List AI:=[oF 28 3 1,oL 29 28,oF 30 3 3,oS 1 30 29]
def r247_13:List AI:=[oW 32 .eql 8 7,oM 31 32]
def r247_14:List AI:=[oW 33 .eql 8 8,oM 31 33]
def r247_15:List AI:=[oF 34 4 1,oL 35 34,oF 36 4 3,oS 1 36 35]
def r247_16:List AI:=[oI 2 8]
def r247_17:List AI:=[oK 37 5 1,oK 38 5 3,oO 39 (.aeq true [0,0,0,0,2] (.t 37) (.t 38)),oM 40 39,gF 40 (oF 41 1 1),gF 40 (oL 42 41),gF 40 (oV 43 .lss 42 0),oR 44 40 43,oM 45 44,gF 45 (oF 46 1 1),gF 45 (oL 47 46),gF 45 (oV 48 .geq 47 16),oR 49 45 48,oM 50 49,gF 50 (oF 51 2 1),gF 50 (oL 52 51),gF 50 (oV 53 .lss 52 0),oR 54 50 53,oM 55 54,gF 55 (oF 56 2 1),gF 55 (oL 57 56),gF 55 (oV 58 .geq 57 170),oR 59 55 58,oM 60 59,gF 60 (oF 61 4 1),gF 60 (oL 62 61),gF 60 (oH 63 62),gF 60 (oV 64 .gtr 63 16),oR 65 60 64]
def r247_18:List AI:=[oI 2 8]
def r247_19:List AI:=[oI 2 0]
abbrev c247_0:AC:=(.cond (.t 31) (.reg 16 r247_15) (sR 3 r247_16 .ret))
abbrev c247_1:AC:=(.cond (.t 19) (.reg 11 r247_10) (sR 12 r247_11 (.cond (.t 26) (.reg 13 r247_12) (.seq (sR 14 r247_13 (.cond (.t 31) .skip (.reg 15 r247_14))) c247_0))))
abbrev c247_2:AC:=(.seq (sR 17 r247_17 (.cond (.t 65) (sR 18 r247_18 .ret) .skip)) (sR 19 r247_19 .ret))
abbrev c247_3:AC:=(.seq (sR 2 r247_2 (.block 0 (sR 4 r247_3 (.cond (.t 9) .skip (sR 5 r247_4 (.cond (.t 11) (sR 6 r247_5 (.reg 7 r247_6)) (.seq (sR 8 r247_7 (.cond (.t 19) .skip (sR 9 r247_8 (.cond (.t 19) .skip (.reg 10 r247_9))))) c247_1))))))) c247_2)
abbrev c247_4:AC:=(sR 1 r247_1 c247_3)
abbrev b247:AC:=(sR 0 r247_0 c247_4)
def pf247:AF:={ nt:=66,res:=[.tmp 2],body:=b247 }
def T247_3 (prog:Prog)(K:Int→Prop)(m0:Qry)(m4099:Qry):Prop:=
  ((!((m0.kind)==(m4099.kind)&&((m0.g)==(m4099.g)&&((m0.k)==(m4099.k)&&((m0.key)==(m4099.key)&&((m0.name)==(m4099.name)&&true))))))=true→K 8)∧((!((m0.kind)==(m4099.kind)&&((m0.g)==(m4099.g)&&((m0.k)==(m4099.k)&&((m0.key)==(m4099.key)&&((m0.name)==(m4099.name)&&true))))))=false→(m0.g<0→K 8)∧(¬(m0.g<0)→(m0.g≥16→K 8)∧(¬(m0.g≥16)→(m0.k<0→K 8)∧(¬(m0.k<0)→(m0.k≥170→K 8)∧(¬(m0.k≥170)→((m0.name.length:Int)>16→K 8)∧(¬((m0.name.length:Int)>16)→K 0))))))
def T247_5 (prog:Prog)(K:Int→Prop)(t31:Bool)(m0:Qry)(m4099:Qry):Prop:=
  (t31=true→T247_3 prog K m0 (Qry.mk m4099.kind m4099.g m4099.k m4099.key m0.name))∧(t31=false→K 8)
def T247_4 (prog:Prog)(K:Int→Prop)(t8:Int)(t19:Bool)(m0:Qry)(m4099:Qry):Prop:=
  (t19=true→T247_3 prog K m0 (Qry.mk m4099.kind m0.g m4099.k m4099.key m4099.name))∧(t19=false→(t8=6→T247_3 prog K m0 (Qry.mk m4099.kind m4099.g m4099.k m0.key m4099.name))∧(¬(t8=6)→(t8=7→T247_5 prog K (decide (t8=7)) m0 m4099)∧(¬(t8=7)→T247_5 prog K (decide (t8=8)) m0 m4099)))
def T247_2 (prog:Prog)(K:Int→Prop)(m0:Qry)(m4099:Qry):Prop:=
  (m0.kind=1→T247_3 prog K m0 m4099)∧(¬(m0.kind=1)→(m0.kind=3→T247_3 prog K m0 (Qry.mk m4099.kind m0.g m0.k m4099.key m4099.name))∧(¬(m0.kind=3)→(m0.kind=2→T247_4 prog K m0.kind (decide (m0.kind=2)) m0 m4099)∧(¬(m0.kind=2)→(m0.kind=4→T247_4 prog K m0.kind (decide (m0.kind=4)) m0 m4099)∧(¬(m0.kind=4)→T247_4 prog K m0.kind (decide (m0.kind=5)) m0 m4099))))
def T247_1 (prog:Prog)(K:Int→Prop)(m0:Qry):Prop:=
  T247_2 prog K m0 (Qry.mk m0.kind 0 0 0 [])
def T247_0 (prog:Prog)(K:Int→Prop)(q0:Qry):Prop:=
  T247_1 prog K q0
section
variable {prog:Prog}{d:Nat}{Q:AE→Sl→St→Prop}{K:Int→Prop}(hQ:H1 (AV.i .i64) 2 Q K){σ:Sl}{st:St}
include hQ
variable {m0 m4099:Qry}{v0 v4099:Nat}{t31:Bool}{t8:Int}{t19:Bool}{q0:Qry}
variable (H1:σ 1=.p (d,0) v0 0)(H0:σ 0=q0.av)(H3:σ 3=.p (d,4099) v4099 0)(H31:σ 31=.b t31)(H8:σ 8=.i .u8 t8)(H19:σ 19=.b t19)(B0:lk st.bx (d,0)=some (v0,Qry.cs m0))(B4099:lk st.bx (d,4099)=some (v4099,Qry.cs m4099))
include H1 H3 B0 B4099 in
theorem w247_3 (h:T247_3 prog K m0 m4099):W prog d c247_2 σ st Q:=
 sq_ (q_ J (l_ H1 B0 J J (l_ H3 B4099 J J (s_aeqN J J J (s_mvB J (eb_ (g:=40) J (fun c=>z_ 25 J (e_ (ct_ J (q_ J (m_ (er_ (hQ J (h.1 c)))))))) (fun c=>gy_ J (f_ H1 (gy_ J (l_ J B0 J J (gy_ J (b_ J J lss_ (z_ 2 J (em_ (g:=45) J (fun e=>z_ 20 J (e_ (ct_ J (q_ J (m_ (er_ (hQ J ((h.2 c).1 e)))))))) (fun e=>gy_ J (f_ H1 (gy_ J (l_ J B0 J J (gy_ J (b_ J J geq_ (z_ 2 J (em_ (g:=50) J (fun i=>z_ 15 J (e_ (ct_ J (q_ J (m_ (er_ (hQ J (((h.2 c).2 e).1 i)))))))) (fun i=>gy_ J (f_ H1 (gy_ J (l_ J B0 J J (gy_ J (b_ J J lss_ (z_ 2 J (em_ (g:=55) J (fun j=>z_ 10 J (e_ (ct_ J (q_ J (m_ (er_ (hQ J ((((h.2 c).2 e).2 i).1 j)))))))) (fun j=>gy_ J (f_ H1 (gy_ J (l_ J B0 J J (gy_ J (b_ J J geq_ (z_ 2 J (em_ (g:=60) J (fun k=>z_ 5 J (e_ (ct_ J (q_ J (m_ (er_ (hQ J (((((h.2 c).2 e).2 i).2 j).1 k)))))))) (fun k=>gy_ J (f_ H1 (gy_ J (l_ J B0 J J (gy_ J (ln_ J (gy_ J (b_ J J gtr_ (pf_ J J (e_ (cs_ J (fun o=>q_ J (m_ (er_ (hQ J ((((((h.2 c).2 e).2 i).2 j).2 k).1 o))))) (fun o=>sk_ (q_ J (m_ (er_ (hQ J ((((((h.2 c).2 e).2 i).2 j).2 k).2 o)))))))))))))))))))))))))))))))))))))))))))))))))))))))
include H1 H3 H31 B0 B4099 in
theorem w247_5 (h:T247_5 prog K t31 m0 m4099):W prog d c247_0 σ st (blockW 0 (thenW prog d c247_2 Q)):=
 au @w247_3
include H1 H3 H8 H19 B0 B4099 in
theorem w247_4 (h:T247_4 prog K t8 t19 m0 m4099):W prog d c247_1 σ st (blockW 0 (thenW prog d c247_2 Q)):=
 au (And.intro @w247_3 @w247_5)
include H1 H3 B0 B4099 in
theorem w247_2 (h:T247_2 prog K m0 m4099):W prog d c247_3 σ st Q:=
 au (And.intro @w247_3 @w247_4)
include H1 B0 in
theorem w247_1 (h:T247_1 prog K m0):W prog d c247_4 σ st Q:=
 sq_ (W.reg (f_ H1 (l_ J (lk_other J B0) J J (s_build (f_cons J J f_nil) (s_alloc (so_ J (show lk _ (d,4099)=some (_,([.i .u8 0,.i .i64 0,.i .i64 0,.i .i64 0,.s []]:List AV)) from lk_here) J J J (e_ (w247_2 (m4099:=(Qry.mk m0.kind 0 0 0 [])) hQ H1 J (lk_other J (lk_other J B0)) lk_here h))))))))
include H0 in
theorem w247_0 (h:T247_0 prog K q0):W prog d (sR 0 r247_0 c247_4) σ st Q:=
 au @w247_1
end
theorem p247 {prog:Prog}(hf:prog.fn 247=some pf247){q0:Qry}{K:Int→Prop}(h:T247_0 prog K q0) :∃res0:Int,K res0∧Pus prog 247 [q0.av] (.i .i64 res0):=
 P1 hf J (w247_0 (h1 J fun _=>J) J h)
def r248_0:List AI:=[oO 1 (.boxf 5 (.t 0)),oI 2 0]
def r248_1:List AI:=[oF 4 0 1,oL 5 4,oO 6 (.build [z8,z6,z6,z6,zs] [(0,1,(.t 5))]),oO 3 (.alloc [z8,z6,z6,z6,zs]),oS 5 3 6]
def r248_2:List AI:=[oF 7 0 1,oL 8 7]
def r248_3:List AI:=[oW 10 .eql 8 1,oM 9 10]
def r248_4:List AI:=[oW 12 .eql 8 2,oM 11 12]
def r248_5:List AI:=[oW 13 .eql 8 4,oM 11 13]
def r248_6:List AI:=[oW 14 .eql 8 5,oM 11 14]
def r248_7:List AI:=[oF 15 1 1,oL 16 15,oF 17 1 3,oS 1 17 16]
def r248_8:List AI:=[oW 19 .eql 8 3,oM 18 19]
def r248_9:List AI:=[oF 20 1 1,oO 21 (.ldf 1 false (.t 20)),oF 22 2 1,oO 23 (.ldf 1 false (.t 22)),oF 24 1 3,oS 1 24 21,oF 25 2 3,oS 1 25 23]
def r248_10:List AI:=[oW 27 .eql 8 6,oM 26 27]
def r248_11:List AI:=[oF 28 3 1,oL 29 28,oF 30 3 3,oS 1 30 29]
def r248_12:List AI:=[oW 32 .eql 8 7,oM 31 32]
def r248_13:List AI:=[oW 33 .eql 8 8,oM 31 33]
def r248_14:List AI:=[oF 34 4 1,oL 35 34,oF 36 4 3,oS 1 36 35]
def r248_15:List AI:=[oI 2 8]
def r248_16:List AI:=[oK 37 5 1,oK 38 5 3,oO 39 (.aeq true [0,0,0,0,2] (.t 37) (.t 38)),oM 40 39,gF 40 (oF 41 1 1),gF 40 (oL 42 41),gF 40 (oV 43 .lss 42 0),oR 44 40 43,oM 45 44,gF 45 (oF 46 1 1),gF 45 (oL 47 46),gF 45 (oV 48 .geq 47 16),oR 49 45 48,oM 50 49,gF 50 (oF 51 2 1),gF 50 (oL 52 51),gF 50 (oV 53 .lss 52 0),oR 54 50 53,oM 55 54,gF 55 (oF 56 2 1),gF 55 (oL 57 56),gF 55 (oV 58 .geq 57 170),oR 59 55 58,oM 60 59,gF 60 (oF 61 4 1),gF 60 (oL 62 61),gF 60 (oH 63 62),gF 60 (oV 64 .gtr 63 16),oR 65 60 64]
def r248_17:List AI:=[oI 2 8]
def r248_18:List AI:=[oI 2 0]
abbrev c248_0:AC:=(.cond (.t 31) (.reg 15 r248_14) (sR 3 r248_15 .ret))
abbrev c248_1:AC:=(.cond (.t 11) (.reg 8 r248_7) (sR 9 r248_8 (.cond (.t 18) (.reg 10 r248_9) (sR 11 r248_10 (.cond (.t 26) (.reg 12 r248_11) (.seq (sR 13 r248_12 (.cond (.t 31) .skip (.reg 14 r248_13))) c248_0))))))
abbrev c248_2:AC:=(.seq (sR 16 r248_16 (.cond (.t 65) (sR 17 r248_17 .ret) .skip)) (sR 18 r248_18 .ret))
abbrev c248_3:AC:=(.seq (sR 2 r248_2 (.block 0 (sR 4 r248_3 (.cond (.t 9) .skip (.seq (sR 5 r248_4 (.cond (.t 11) .skip (sR 6 r248_5 (.cond (.t 11) .skip (.reg 7 r248_6))))) c248_1))))) c248_2)
abbrev c248_4:AC:=(sR 1 r248_1 c248_3)
abbrev b248:AC:=(sR 0 r248_0 c248_4)
def pf248:AF:={ nt:=66,res:=[.tmp 2],fz:=[1],body:=b248 }
def T248_3 (prog:Prog)(K:Int→Prop)(q1_0:Int)(q1_1:Int)(q1_2:Int)(q1_3:Int)(q1_4:BS)(m4099:Qry):Prop:=
  ((!((q1_0)==(m4099.kind)&&((q1_1)==(m4099.g)&&((q1_2)==(m4099.k)&&((q1_3)==(m4099.key)&&((q1_4)==(m4099.name)&&true))))))=true→K 8)∧((!((q1_0)==(m4099.kind)&&((q1_1)==(m4099.g)&&((q1_2)==(m4099.k)&&((q1_3)==(m4099.key)&&((q1_4)==(m4099.name)&&true))))))=false→(q1_1<0→K 8)∧(¬(q1_1<0)→(q1_1≥16→K 8)∧(¬(q1_1≥16)→(q1_2<0→K 8)∧(¬(q1_2<0)→(q1_2≥170→K 8)∧(¬(q1_2≥170)→((q1_4.length:Int)>16→K 8)∧(¬((q1_4.length:Int)>16)→K 0))))))
def T248_5 (prog:Prog)(K:Int→Prop)(q1_0:Int)(q1_1:Int)(q1_2:Int)(q1_3:Int)(q1_4:BS)(t31:Bool)(m4099:Qry):Prop:=
  (t31=true→T248_3 prog K q1_0 q1_1 q1_2 q1_3 q1_4 (Qry.mk m4099.kind m4099.g m4099.k m4099.key q1_4))∧(t31=false→K 8)
def T248_4 (prog:Prog)(K:Int→Prop)(q1_0:Int)(q1_1:Int)(q1_2:Int)(q1_3:Int)(q1_4:BS)(t8:Int)(t11:Bool)(m4099:Qry):Prop:=
  (t11=true→T248_3 prog K q1_0 q1_1 q1_2 q1_3 q1_4 (Qry.mk m4099.kind q1_1 m4099.k m4099.key m4099.name))∧(t11=false→(t8=3→T248_3 prog K q1_0 q1_1 q1_2 q1_3 q1_4 (Qry.mk m4099.kind q1_1 q1_2 m4099.key m4099.name))∧(¬(t8=3)→(t8=6→T248_3 prog K q1_0 q1_1 q1_2 q1_3 q1_4 (Qry.mk m4099.kind m4099.g m4099.k q1_3 m4099.name))∧(¬(t8=6)→(t8=7→T248_5 prog K q1_0 q1_1 q1_2 q1_3 q1_4 (decide (t8=7)) m4099)∧(¬(t8=7)→T248_5 prog K q1_0 q1_1 q1_2 q1_3 q1_4 (decide (t8=8)) m4099))))
def T248_2 (prog:Prog)(K:Int→Prop)(q1_0:Int)(q1_1:Int)(q1_2:Int)(q1_3:Int)(q1_4:BS)(m4099:Qry):Prop:=
  (q1_0=1→T248_3 prog K q1_0 q1_1 q1_2 q1_3 q1_4 m4099)∧(¬(q1_0=1)→(q1_0=2→T248_4 prog K q1_0 q1_1 q1_2 q1_3 q1_4 q1_0 (decide (q1_0=2)) m4099)∧(¬(q1_0=2)→(q1_0=4→T248_4 prog K q1_0 q1_1 q1_2 q1_3 q1_4 q1_0 (decide (q1_0=4)) m4099)∧(¬(q1_0=4)→T248_4 prog K q1_0 q1_1 q1_2 q1_3 q1_4 q1_0 (decide (q1_0=5)) m4099)))
def T248_1 (prog:Prog)(K:Int→Prop)(q1_0:Int)(q1_1:Int)(q1_2:Int)(q1_3:Int)(q1_4:BS):Prop:=
  T248_2 prog K q1_0 q1_1 q1_2 q1_3 q1_4 (Qry.mk q1_0 0 0 0 [])
def T248_0 (prog:Prog)(K:Int→Prop)(q0:Qry):Prop:=
  T248_1 prog K q0.kind q0.g q0.k q0.key q0.name
section
variable {prog:Prog}{d:Nat}{Q:AE→Sl→St→Prop}{K:Int→Prop}(hQ:H1 (AV.i .i64) 2 Q K){σ:Sl}{st:St}
include hQ
variable {q1_0 q1_1 q1_2 q1_3:Int}{q1_4:BS}{m4099:Qry}{v4099:Nat}{t31:Bool}{t8:Int}{t11:Bool}{q0:Qry}
variable (H1:σ 1=.fp [.i .u8 q1_0,.i .i64 q1_1,.i .i64 q1_2,.i .i64 q1_3,.s q1_4])(H0:σ 0=q0.av)(H3:σ 3=.p (d,4099) v4099 0)(H31:σ 31=.b t31)(H8:σ 8=.i .u8 t8)(H11:σ 11=.b t11)(B4099:lk st.bx (d,4099)=some (v4099,Qry.cs m4099))
include H1 H3 B4099 in
theorem w248_3 (h:T248_3 prog K q1_0 q1_1 q1_2 q1_3 q1_4 m4099):W prog d c248_2 σ st Q:=
 sq_ (q_ J (lf_ H1 J J (l_ H3 B4099 J J (s_aeqN J J J (s_mvB J (eb_ (g:=40) J (fun c=>z_ 25 J (e_ (ct_ J (q_ J (m_ (er_ (hQ J (h.1 c)))))))) (fun c=>gy_ J (ff_ H1 (gy_ J (lf_ J J J (gy_ J (b_ J J lss_ (z_ 2 J (em_ (g:=45) J (fun e=>z_ 20 J (e_ (ct_ J (q_ J (m_ (er_ (hQ J ((h.2 c).1 e)))))))) (fun e=>gy_ J (ff_ H1 (gy_ J (lf_ J J J (gy_ J (b_ J J geq_ (z_ 2 J (em_ (g:=50) J (fun i=>z_ 15 J (e_ (ct_ J (q_ J (m_ (er_ (hQ J (((h.2 c).2 e).1 i)))))))) (fun i=>gy_ J (ff_ H1 (gy_ J (lf_ J J J (gy_ J (b_ J J lss_ (z_ 2 J (em_ (g:=55) J (fun j=>z_ 10 J (e_ (ct_ J (q_ J (m_ (er_ (hQ J ((((h.2 c).2 e).2 i).1 j)))))))) (fun j=>gy_ J (ff_ H1 (gy_ J (lf_ J J J (gy_ J (b_ J J geq_ (z_ 2 J (em_ (g:=60) J (fun k=>z_ 5 J (e_ (ct_ J (q_ J (m_ (er_ (hQ J (((((h.2 c).2 e).2 i).2 j).1 k)))))))) (fun k=>gy_ J (ff_ H1 (gy_ J (lf_ J J J (gy_ J (ln_ J (gy_ J (b_ J J gtr_ (pf_ J J (e_ (cs_ J (fun o=>q_ J (m_ (er_ (hQ J ((((((h.2 c).2 e).2 i).2 j).2 k).1 o))))) (fun o=>sk_ (q_ J (m_ (er_ (hQ J ((((((h.2 c).2 e).2 i).2 j).2 k).2 o)))))))))))))))))))))))))))))))))))))))))))))))))))))))
include H1 H3 H31 B4099 in
theorem w248_5 (h:T248_5 prog K q1_0 q1_1 q1_2 q1_3 q1_4 t31 m4099):W prog d c248_0 σ st (blockW 0 (thenW prog d c248_2 Q)):=
 au @w248_3
include H1 H3 H8 H11 B4099 in
theorem w248_4 (h:T248_4 prog K q1_0 q1_1 q1_2 q1_3 q1_4 t8 t11 m4099):W prog d c248_1 σ st (blockW 0 (thenW prog d c248_2 Q)):=
 au (And.intro @w248_3 @w248_5)
include H1 H3 B4099 in
theorem w248_2 (h:T248_2 prog K q1_0 q1_1 q1_2 q1_3 q1_4 m4099):W prog d c248_3 σ st Q:=
 au (And.intro @w248_3 @w248_4)
include H1 in
theorem w248_1 (h:T248_1 prog K q1_0 q1_1 q1_2 q1_3 q1_4):W prog d c248_4 σ st Q:=
 sq_ (W.reg (ff_ H1 (lf_ J J J (s_build (f_cons J J f_nil) (s_alloc (so_ J (show lk _ (d,4099)=some (_,([.i .u8 0,.i .i64 0,.i .i64 0,.i .i64 0,.s []]:List AV)) from lk_here) J J J (e_ (w248_2 (m4099:=(Qry.mk q1_0 0 0 0 [])) hQ H1 J lk_here h))))))))
include H0 in
theorem w248_0 (h:T248_0 prog K q0):W prog d (sR 0 r248_0 c248_4) σ st Q:=
 au @w248_1
end
theorem p248 {prog:Prog}(hf:prog.fn 248=some pf248){q0:Qry}{K:Int→Prop}(h:T248_0 prog K q0) :∃res0:Int,K res0∧Pus prog 248 [q0.av] (.i .i64 res0):=
 P1 hf J (w248_0 (h1 J fun _=>J) J h)
def r259_0:List AI:=[oY 1 5 0,oC 2 (.s [])]
def r259_1:List AI:=[oQ 4 263 [],oF 5 0 1,oL 6 5,oX 7 1 4 6,oL 8 7,oM 3 8]
def r259_2:List AI:=[oF 9 0 1,oL 10 9]
def r259_3:List AI:=[oW 12 .eql 10 2,oM 11 12]
def r259_4:List AI:=[oW 13 .eql 10 4,oM 11 13]
def r259_5:List AI:=[oW 14 .eql 10 5,oM 11 14]
def r259_6:List AI:=[oM 15 3,oF 16 1 1,oL 17 16,oQ 18 265 [17],oB 19 .add (.c (.s [32])) (.t 18),oT 20 .add 15 19,oM 3 20]
def r259_7:List AI:=[oW 22 .eql 10 3,oM 21 22]
def r259_8:List AI:=[oM 23 3,oF 24 1 1,oL 25 24,oQ 26 265 [25],oB 27 .add (.c (.s [32])) (.t 26),oB 28 .add (.t 27) (.c (.s [32])),oF 29 2 1,oL 30 29,oQ 31 265 [30],oT 32 .add 28 31,oT 33 .add 23 32,oM 3 33]
def r259_9:List AI:=[oW 35 .eql 10 6,oM 34 35]
def r259_10:List AI:=[oM 36 3,oF 37 3 1,oL 38 37,oQ 39 16 [38],oB 40 .add (.c (.s [32])) (.t 39),oT 41 .add 36 40,oM 3 41]
def r259_11:List AI:=[oW 43 .eql 10 7,oM 42 43]
def r259_12:List AI:=[oW 44 .eql 10 8,oM 42 44]
def r259_13:List AI:=[oM 45 3,oF 46 4 1,oL 47 46,oQ 48 31 [47],oB 49 .add (.c (.s [32])) (.t 48),oT 50 .add 45 49,oM 3 50]
def r259_14:List AI:=[oM 51 3,oM 2 51]
abbrev c259_0:AC:=(.cond (.t 42) (.reg 13 r259_13) .skip)
abbrev c259_1:AC:=(.cond (.t 11) (.reg 6 r259_6) (sR 7 r259_7 (.cond (.t 21) (.reg 8 r259_8) (sR 9 r259_9 (.cond (.t 34) (.reg 10 r259_10) (.seq (sR 11 r259_11 (.cond (.t 42) .skip (.reg 12 r259_12))) c259_0))))))
abbrev c259_2:AC:=(sR 14 r259_14 .ret)
abbrev b259:AC:=(sR 0 r259_0 (sR 1 r259_1 (.seq (sR 2 r259_2 (.block 0 (.seq (sR 3 r259_3 (.cond (.t 11) .skip (sR 4 r259_4 (.cond (.t 11) .skip (.reg 5 r259_5))))) c259_1))) c259_2)))
def pf259:AF:={ nt:=52,res:=[.tmp 2],body:=b259 }
def T259_2 (prog:Prog)(K:BS→Prop)(s3:BS):Prop:=
  K s3
def T259_3 (prog:Prog)(K:BS→Prop)(s3:BS)(t42:Bool)(m0:Qry):Prop:=
  (t42=true→∃c:BS,Pus prog 31 [.s m0.name] (.s c)∧([32]:BS).length+c.length≤maxStr∧s3.length+(([32]:BS)++c).length≤maxStr∧T259_2 prog K (s3++(([32]:BS)++c)))∧(t42=false→T259_2 prog K s3)
def T259_1 (prog:Prog)(K:BS→Prop)(s3:BS)(t10:Int)(t11:Bool)(m0:Qry):Prop:=
  (t11=true→∃j:BS,Pus prog 265 [.i .i64 m0.g] (.s j)∧([32]:BS).length+j.length≤maxStr∧s3.length+(([32]:BS)++j).length≤maxStr∧T259_2 prog K (s3++(([32]:BS)++j)))∧(t11=false→(t10=3→∃c:BS,Pus prog 265 [.i .i64 m0.g] (.s c)∧([32]:BS).length+c.length≤maxStr∧(([32]:BS)++c).length+([32]:BS).length≤maxStr∧∃e:BS,Pus prog 265 [.i .i64 m0.k] (.s e)∧((([32]:BS)++c)++([32]:BS)).length+e.length≤maxStr∧s3.length+(((([32]:BS)++c)++([32]:BS))++e).length≤maxStr∧T259_2 prog K (s3++(((([32]:BS)++c)++([32]:BS))++e)))∧(¬(t10=3)→(t10=6→∃o:BS,Pus prog 16 [.i .i64 m0.key] (.s o)∧([32]:BS).length+o.length≤maxStr∧s3.length+(([32]:BS)++o).length≤maxStr∧T259_2 prog K (s3++(([32]:BS)++o)))∧(¬(t10=6)→(t10=7→T259_3 prog K s3 (decide (t10=7)) m0)∧(¬(t10=7)→T259_3 prog K s3 (decide (t10=8)) m0))))
def T259_0 (prog:Prog)(K:BS→Prop)(q0:Qry):Prop:=
  ∃e,Pus prog 263 [] (.sl .ext (List.map rowS e))∧0≤q0.kind∧∃c,e[(q0.kind).toNat]?=some c∧(q0.kind=2→T259_1 prog K c q0.kind (decide (q0.kind=2)) q0)∧(¬(q0.kind=2)→(q0.kind=4→T259_1 prog K c q0.kind (decide (q0.kind=4)) q0)∧(¬(q0.kind=4)→T259_1 prog K c q0.kind (decide (q0.kind=5)) q0))
section
variable {prog:Prog}{d:Nat}{Q:AE→Sl→St→Prop}{K:BS→Prop}(hQ:H1 AV.s 2 Q K){σ:Sl}{st:St}
include hQ
variable {s3:BS}{t42:Bool}{m0:Qry}{v0:Nat}{t10:Int}{t11:Bool}{q0:Qry}
variable (H1:σ 1=.p (d,0) v0 0)(H0:σ 0=q0.av)(H3:σ 3=.s s3)(H42:σ 42=.b t42)(H10:σ 10=.i .u8 t10)(H11:σ 11=.b t11)(B0:lk st.bx (d,0)=some (v0,Qry.cs m0))
include H3 in
theorem w259_2 (h:T259_2 prog K s3):W prog d c259_2 σ st Q:=
 au trivial
include H1 H3 H42 B0 in
theorem w259_3 (h:T259_3 prog K s3 t42 m0):W prog d c259_0 σ st (blockW 0 (thenW prog d c259_2 Q)):=
 au @w259_2
include H1 H3 H10 H11 B0 in
theorem w259_1 (h:T259_1 prog K s3 t10 t11 m0):W prog d c259_1 σ st (blockW 0 (thenW prog d c259_2 Q)):=
 au (And.intro @w259_2 @w259_3)
include H0 in
theorem w259_0 (h:T259_0 prog K q0):W prog d (sR 0 r259_0 (sR 1 r259_1 (.seq (sR 2 r259_2 (.block 0 (.seq (sR 3 r259_3 (.cond (.t 11) .skip (sR 4 r259_4 (.cond (.t 11) .skip (.reg 5 r259_5))))) c259_1))) c259_2))) σ st Q:=
 au @w259_1
end
theorem p259 {prog:Prog}(hf:prog.fn 259=some pf259){q0:Qry}{K:BS→Prop}(h:T259_0 prog K q0) :∃res0:BS,K res0∧Pus prog 259 [q0.av] (.s res0):=
 P1 hf J (w259_0 (h1 J fun _=>J) J h)
def r197_0:List AI:=[oI 4 0]
def r197_1:List AI:=[oM 14 1,oH 15 14,oM 5 15]
def r197_2:List AI:=[oM 17 5,oV 18 .eql 17 0,oM 19 18,gF 19 (oM 20 1),gF 19 (oM 21 0),gF 19 (oT 22 .eql 20 21),oR 23 19 22,oM 16 23]
def r197_3:List AI:=[oI 4 0]
def r197_4:List AI:=[oM 25 5,oV 26 .eql 25 1,oM 24 26]
def r197_5:List AI:=[oM 27 0,oM 28 1,oO 29 (.ixS (.t 28) (.c (.i .i64 0))),oQ 30 47 [27,29],oM 4 30]
def r197_6:List AI:=[oM 32 5,oM 33 0,oH 34 33,oT 35 .geq 32 34,oM 31 35]
def r197_7:List AI:=[oI 4 (-1)]
def r197_8:List AI:=[oM 37 5,oO 38 (.load 1 false (.c (.u))),oT 39 .leq 37 38,oM 40 39,gT 40 (oM 41 0),gT 40 (oH 42 41),gT 40 (oV 43 .leq 42 64),oA 44 40 43,oM 36 44]
def r197_9:List AI:=[oM 45 0,oM 46 1,oO 47 (.bad),oM 4 47]
def r197_10:List AI:=[oM 48 1,oO 49 (.ixS (.t 48) (.c (.i .i64 0))),oM 6 49]
def r197_11:List AI:=[oM 50 1,oO 51 (.ixS (.t 50) (.c (.i .i64 1))),oM 7 51]
def r197_12:List AI:=[oI 8 0]
def r197_13:List AI:=[oM 52 0,oH 53 52,oM 54 5,oT 55 .sub 53 54,oV 56 .add 55 1,oM 9 56]
def r197_14:List AI:=[oI 10 0]
def r197_15:List AI:=[oM 57 8,oM 58 9,oT 59 .lss 57 58]
def r197_16:List AI:=[oM 60 0,oM 61 8,oO 62 (.ixS (.t 60) (.t 61)),oM 63 6,oT 64 .neq 62 63]
def r197_17:List AI:=[oM 65 0,oM 66 8,oV 67 .add 66 1,oM 68 9,oO 69 (.slS (.t 65) (some (.t 67)) (some (.t 68))),oM 70 6,oQ 71 47 [69,70],oM 11 71]
def r197_18:List AI:=[oM 72 11,oV 73 .lss 72 0]
def r197_19:List AI:=[oI 4 (-1)]
def r197_20:List AI:=[oM 74 8,oM 75 11,oV 76 .add 75 1,oT 77 .add 74 76,oM 8 77]
def r197_21:List AI:=[oM 78 0,oM 79 8,oV 80 .add 79 1,oO 81 (.ixS (.t 78) (.t 80)),oM 82 7,oT 83 .eql 81 82,oM 84 83,gT 84 (oM 85 0),gT 84 (oM 86 8),gT 84 (oM 87 8),gT 84 (oM 88 5),gT 84 (oT 89 .add 87 88),gT 84 (oO 90 (.slS (.t 85) (some (.t 86)) (some (.t 89)))),gT 84 (oM 91 1),gT 84 (oT 92 .eql 90 91),oA 93 84 92]
def r197_22:List AI:=[oM 94 8,oM 4 94]
def r197_23:List AI:=[oM 95 8,oV 96 .add 95 1,oM 8 96]
def r197_24:List AI:=[oM 97 10,oV 98 .add 97 1,oM 10 98]
def r197_25:List AI:=[oM 99 5,oO 100 (.load 1 false (.c (.u))),oT 101 .leq 99 100,oM 102 101,gT 102 (oM 103 10),gT 102 (oM 104 8),gT 102 (oQ 105 199 [104]),gT 102 (oT 106 .gtr 103 105),oA 107 102 106]
def r197_26:List AI:=[oM 108 0,oM 109 8,oO 110 (.slS (.t 108) (some (.t 109)) none),oM 111 1,oO 112 (.bad),oM 12 112]
def r197_27:List AI:=[oM 113 12,oV 114 .geq 113 0]
def r197_28:List AI:=[oM 115 12,oM 116 8,oT 117 .add 115 116,oM 4 117]
def r197_29:List AI:=[oI 4 (-1)]
def r197_30:List AI:=[oM 118 5,oO 119 (.load 1 false (.c (.u))),oT 120 .gtr 118 119,oM 121 120,gT 121 (oM 122 10),gT 121 (oM 123 8),gT 121 (oB 124 .shr (.t 123) (.c (.i .u64 4))),gT 121 (oB 125 .add (.c (.i .i64 4)) (.t 124)),gT 121 (oT 126 .geq 122 125),oA 127 121 126,oM 128 127,gT 128 (oM 129 8),gT 128 (oM 130 9),gT 128 (oT 131 .lss 129 130),oA 132 128 131]
def r197_31:List AI:=[oM 133 0,oM 134 8,oO 135 (.slS (.t 133) (some (.t 134)) none),oM 136 1,oQ 137 200 [135,136],oM 13 137]
def r197_32:List AI:=[oM 138 13,oV 139 .lss 138 0]
def r197_33:List AI:=[oI 4 (-1)]
def r197_34:List AI:=[oM 140 8,oM 141 13,oT 142 .add 140 141,oM 4 142]
def r197_35:List AI:=[oI 4 (-1)]
abbrev c197_0:AC:=(.cond (.t 36) (sR 9 r197_9 .ret) .skip)
abbrev c197_1:AC:=(.cond (.t 16) (sR 3 r197_3 .ret) (sR 4 r197_4 (.cond (.t 24) (sR 5 r197_5 .ret) (sR 6 r197_6 (.cond (.t 31) (sR 7 r197_7 .ret) (sR 8 r197_8 c197_0))))))
abbrev c197_2:AC:=(.cond (.t 132) (sR 31 r197_31 (.seq (sR 32 r197_32 (.cond (.t 139) (sR 33 r197_33 .ret) .skip)) (sR 34 r197_34 .ret))) .skip)
abbrev c197_3:AC:=(.cond (.t 107) (sR 26 r197_26 (.seq (sR 27 r197_27 (.cond (.t 114) (sR 28 r197_28 .ret) .skip)) (sR 29 r197_29 .ret))) (sR 30 r197_30 c197_2))
abbrev c197_4:AC:=(sR 23 r197_23 (sR 24 r197_24 (sR 25 r197_25 c197_3)))
abbrev c197_5:AC:=(.seq (sR 21 r197_21 (.cond (.t 93) (sR 22 r197_22 .ret) .skip)) c197_4)
abbrev c197_6:AC:=(.block 2 (.seq (sR 16 r197_16 (.cond (.t 64) (sR 17 r197_17 (.seq (sR 18 r197_18 (.cond (.t 73) (sR 19 r197_19 .ret) .skip)) (.reg 20 r197_20))) .skip)) c197_5))
abbrev l197_0:AC:=(.seq (sR 15 r197_15 (.cond (.t 59) .skip (.exit 1))) c197_6)
abbrev c197_8:AC:=(sR 35 r197_35 .ret)
abbrev c197_9:AC:=(.seq (.block 1 (.loop l197_0)) c197_8)
abbrev c197_10:AC:=(sR 14 r197_14 c197_9)
abbrev c197_11:AC:=(sR 13 r197_13 c197_10)
abbrev c197_12:AC:=(sR 12 r197_12 c197_11)
abbrev c197_13:AC:=(sR 11 r197_11 c197_12)
abbrev c197_14:AC:=(sR 10 r197_10 c197_13)
abbrev c197_15:AC:=(.seq (.block 0 (sR 2 r197_2 c197_1)) c197_14)
abbrev c197_16:AC:=(sR 1 r197_1 c197_15)
abbrev b197:AC:=(sR 0 r197_0 c197_16)
def pf197:AF:={ nt:=143,res:=[.tmp 4],body:=b197 }
def T197_3 (prog:Prog)(K:Int→Prop)(s0:BS)(substr1:BS)(n5:Int)(t16:Bool):Prop:=
  (t16=true→K 0)∧(t16=false→(n5=1→∃e:UInt8,substr1[0]?=some e∧∃c,Pus prog 47 [.s s0,.i .u8 (e.toNat:Int)] (.i .i64 c)∧K c)∧(¬(n5=1)→(n5≥(s0.length:Int)→K (-1))∧(¬(n5≥(s0.length:Int))→False)))
def T197_2 (prog:Prog)(K:Int→Prop)(s0:BS)(substr1:BS)(n5:Int):Prop:=
  (n5=0→T197_3 prog K s0 substr1 n5 true)∧(¬(n5=0)→T197_3 prog K s0 substr1 n5 (decide (substr1=s0)))
def T197_1 (prog:Prog)(K:Int→Prop)(s0:BS)(substr1:BS):Prop:=
  T197_2 prog K s0 substr1 (substr1.length:Int)
def T197_0 (prog:Prog)(K:Int→Prop)(s0:BS)(substr1:BS):Prop:=
  T197_1 prog K s0 substr1
section
variable {prog:Prog}{d:Nat}{Q:AE→Sl→St→Prop}{K:Int→Prop}(hQ:H1 (AV.i .i64) 4 Q K){σ:Sl}{st:St}
include hQ
variable {s0 substr1:BS}{n5:Int}{t16:Bool}
variable (H0:σ 0=.s s0)(H1:σ 1=.s substr1)(H5:σ 5=.i .i64 n5)(H16:σ 16=.b t16)
include H0 H1 H5 H16 in
theorem w197_3 (h:T197_3 prog K s0 substr1 n5 t16):W prog d c197_1 σ st (blockW 0 (thenW prog d c197_14 Q)):=
 cb_ H16 (fun c=>q_ J (m_ (er_ (hQ J (h.1 c))))) (fun c=>q_ J (m_ (b_ H5 J eql_ (m_ (e_ (cs_ J (fun e=>q_ J (m_ (m_ (((h.2 c).1 e).elim fun _ j=>s_ixS H1 J (by decide) j.1 (j.2.elim fun _ k=>ca_ (sc2 H0 J J) k.1 (m_ (er_ (hQ J k.2)))))))) (fun e=>q_ J (m_ (m_ (ln_ H0 (b_ H5 J geq_ (m_ (e_ (cs_ J (fun i=>q_ J (m_ (er_ (hQ J (((h.2 c).2 e).1 i))))) (fun i=>q_ J (s_mvI H5 ((((h.2 c).2 e).2 i).elim)))))))))))))))))
include H0 H1 H5 in
theorem w197_2 (h:T197_2 prog K s0 substr1 n5):W prog d c197_15 σ st Q:=
 sq_ (bk_ (q_ J (s_mvI H5 (b_ J J eql_ (s_mvB J (em_ (g:=19) J (fun c=>z_ 5 J (e_ (w197_3 hQ H0 H1 H5 J (h.1 c)))) (fun c=>gy_ J (s_mvS H1 (gy_ J (s_mvS H0 (gy_ J (b_ J J seq_ (z_ 2 J (e_ (w197_3 hQ H0 H1 H5 J (h.2 c))))))))))))))))
include H0 H1 in
theorem w197_1 (h:T197_1 prog K s0 substr1):W prog d c197_16 σ st Q:=
 au @w197_2
include H0 H1 in
theorem w197_0 (h:T197_0 prog K s0 substr1):W prog d (sR 0 r197_0 c197_16) σ st Q:=
 q_ J (m_ (e_ (w197_1 hQ H0 H1 h)))
end
theorem p197 {prog:Prog}(hf:prog.fn 197=some pf197){s0:BS}{substr1:BS}{K:Int→Prop}(h:T197_0 prog K s0 substr1) :∃res0:Int,K res0∧Pus prog 197 [.s s0,.s substr1] (.i .i64 res0):=
 P1 hf J (w197_0 (h1 J fun _=>J) J J h)
end Go.AM

namespace Go.AM
open Go
set_option linter.unusedVariables false
set_option linter.unusedSimpArgs false
set_option maxRecDepth 4000
set_option maxHeartbeats 2000000
attribute [local irreducible] Decidable.decide W WO fillCells fillRows
abbrev H244 (Q:AE→Sl→St→Prop)(K:BS→Int→Prop):Prop:=∀(σ:Sl)(st:St)(res0:BS)(res1:Int),σ 2=.s res0→σ 3=.i .i64 res1→K res0 res1→Q .ret σ st
section
variable {prog:Prog}{d:Nat}{Q:AE→Sl→St→Prop}{K:BS→Int→Prop}(hQ:H244 Q K){σ:Sl}{st:St}
include hQ
end
def r245_0:List AI:=[oO 2 (.alloc [z8,z6,z6,z6,zs]),oI 3 0]
def r245_1:List AI:=[oM 11 0,oH 12 11,oV 13 .gtr 12 2000]
def r245_2:List AI:=[oO 14 (.build [z8,z6,z6,z6,zs] []),oS 5 2 14,oI 3 4]
def r245_3:List AI:=[oM 16 0,oO 17 (.call false 260 [(.t 16),(.c (.s [32]))]),oM 15 17,oE 18 0 15,oE 19 1 15,oE 20 2 15,oM 4 18,oM 5 19,oM 6 20]
def r245_4:List AI:=[oQ 22 257 [],oM 23 4,oO 24 (.lkp (.t 22) (.t 23)),oM 25 5,oQ 26 261 [24,25],oM 21 26,oE 27 0 21,oE 28 1 21,oO 7 (.alloc [z8,z6,z6,z6,zs]),oS 5 7 27,oM 8 28]
def r245_5:List AI:=[oM 29 8,oZ 30 29]
def r245_6:List AI:=[oO 31 (.build [z8,z6,z6,z6,zs] []),oS 5 2 31,oI 3 12]
def r245_7:List AI:=[oK 33 5 7,oQ 34 243 [33],oM 32 34,oE 35 0 32,oE 36 1 32,oM 9 35,oM 10 36]
def r245_8:List AI:=[oM 37 10,oV 38 .neq 37 0,oM 39 38,gF 39 (oM 40 9),gF 39 (oM 41 0),gF 39 (oT 42 .neq 40 41),oR 43 39 42]
def r245_9:List AI:=[oO 44 (.build [z8,z6,z6,z6,zs] []),oS 5 2 44,oI 3 12]
def r245_10:List AI:=[oK 45 5 7,oS 5 2 45,oI 3 0]
abbrev b245:AC:=(sR 0 r245_0 (.seq (sR 1 r245_1 (.cond (.t 13) (sR 2 r245_2 .ret) .skip)) (sR 3 r245_3 (sR 4 r245_4 (.seq (sR 5 r245_5 (.cond (.t 30) (sR 6 r245_6 .ret) .skip)) (.seq (sR 7 r245_7 (sR 8 r245_8 (.cond (.t 43) (sR 9 r245_9 .ret) .skip))) (sR 10 r245_10 .ret)))))))
def pf245:AF:={ nt:=46,res:=[.cell 2 5 true,.tmp 3],body:=b245 }
abbrev H245 (Q:AE→Sl→St→Prop)(K:Qry→Int→Prop):Prop:=∀(σ:Sl)(st:St)(k0:Key)(v0:Nat)(res0:Qry)(res1:Int),σ 2=.p k0 v0 0→lk st.bx k0=some (v0,Qry.cs res0)→σ 3=.i .i64 res1→K res0 res1→Q .ret σ st
def T245_0 (prog:Prog)(K:Qry→Int→Prop)(s0:BS):Prop:=
  ((s0.length:Int)>2000→K (Qry.mk 0 0 0 0 []) 4)∧(¬((s0.length:Int)>2000)→∃o q r,Pus prog 260 [.s s0,.s ([32]:BS)] (.tup [.s o,.s q,.b r])∧∃p,Pus prog 257 [] (.mp p)∧∃j:Qry,∃c,Pus prog 261 [.i .u8 (mpAt p o),.s q] (.tup [j.av,.b c])∧((!c)=true→K (Qry.mk 0 0 0 0 []) 12)∧((!c)=false→∃k e,Pus prog 243 [j.av] (.tup [.s k,.i .i64 e])∧(e≠0→K (Qry.mk 0 0 0 0 []) 12)∧(¬(e≠0)→(k≠s0→K (Qry.mk 0 0 0 0 []) 12)∧(¬(k≠s0)→K j 0))))
section
variable {prog:Prog}{d:Nat}{Q:AE→Sl→St→Prop}{K:Qry→Int→Prop}(hQ:H245 Q K){σ:Sl}{st:St}
include hQ
variable {s0:BS}
variable (H0:σ 0=.s s0)
include H0 in
theorem w245_0 (h:T245_0 prog K s0):W prog d (sR 0 r245_0 (.seq (sR 1 r245_1 (.cond (.t 13) (sR 2 r245_2 .ret) .skip)) (sR 3 r245_3 (sR 4 r245_4 (.seq (sR 5 r245_5 (.cond (.t 30) (sR 6 r245_6 .ret) .skip)) (.seq (sR 7 r245_7 (sR 8 r245_8 (.cond (.t 43) (sR 9 r245_9 .ret) .skip))) (sR 10 r245_10 .ret))))))) σ st Q:=
 sq_ (W.reg (s_alloc (m_ (e_ (sq_ (q_ J (m_ (ln_ H0 (b_ J J gtr_ (e_ (cs_ J (fun k=>q_ J (s_build f_nil (so_ J (show lk _ (d,0)=some (_,([.i .u8 0,.i .i64 0,.i .i64 0,.i .i64 0,.s []]:List AV)) from lk_here) J J J (m_ (er_ (hQ _ _ _ _ _ _ J lk_here J (h.1 k))))))) (fun k=>sk_ (q_ J (m_ (x2 (h.2 k) fun _ _ u=>u.elim fun _ q=>ca_ (sc2 H0 J J) q.1 (m_ (x_ J J (x_ J J (x_ J J (m_ (m_ (m_ (e_ (sq_ (W.reg (q.2.elim fun _ r=>ca_ sn r.1 (m_ (s_lkp J J (m_ (x2 r.2 fun _ _ j=>ca_ (sc2 J J J) j.1 (m_ (x_ J J (x_ J J (s_alloc (so_ J (show lk _ (d,16392)=some (_,([.i .u8 0,.i .i64 0,.i .i64 0,.i .i64 0,.s []]:List AV)) from lk_here) J J J (m_ (e_ (sq_ (q_ J (m_ (nt_ J (e_ (cb_ J (fun o=>q_ J (s_build f_nil (so_ J (lk_other J (lk_other J (show lk _ (d,0)=some (_,([.i .u8 0,.i .i64 0,.i .i64 0,.i .i64 0,.s []]:List AV)) from lk_here))) J J J (m_ (er_ (hQ _ _ _ _ _ _ J lk_here J (j.2.1 o))))))) (fun o=>sk_ (sq_ (q_ J (l_ J lk_here J J (x2 (j.2.2 o) fun _ _ c=>ca_ (sc1 J J) c.1 (m_ (x_ J J (x_ J J (m_ (m_ (e_ (q_ J (s_mvI J (b_ J J neq_ (s_mvB J (em_ (g:=39) J (fun e=>z_ 4 J (e_ (ct_ J (q_ J (s_build f_nil (so_ J (lk_other J (lk_other J (show lk _ (d,0)=some (_,([.i .u8 0,.i .i64 0,.i .i64 0,.i .i64 0,.s []]:List AV)) from lk_here))) J J J (m_ (er_ (hQ _ _ _ _ _ _ J lk_here J (c.2.1 e)))))))))) (fun e=>gy_ J (s_mvS J (gy_ J (s_mvS H0 (gy_ J (b_ J J sne_ (pf_ J J (e_ (cs_ J (fun p=>q_ J (s_build f_nil (so_ J (lk_other J (lk_other J (show lk _ (d,0)=some (_,([.i .u8 0,.i .i64 0,.i .i64 0,.i .i64 0,.s []]:List AV)) from lk_here))) J J J (m_ (er_ (hQ _ _ _ _ _ _ J lk_here J ((c.2.2 e).1 p))))))) (fun p=>sk_ (q_ J (l_ J lk_here J J (so_ J (lk_other J (lk_other J (show lk _ (d,0)=some (_,([.i .u8 0,.i .i64 0,.i .i64 0,.i .i64 0,.s []]:List AV)) from lk_here))) J J J (m_ (er_ (hQ _ _ _ _ _ _ J lk_here J ((c.2.2 e).2 p))))))))))))))))))))))))))))))))))))))))))))))))))))))))))))))))))))))))))))
end
theorem p245 {prog:Prog}(hf:prog.fn 245=some pf245){s0:BS}{K:Qry→Int→Prop}(h:T245_0 prog K s0) :∃res0:Qry,∃res1:Int,K res0 res1∧Pus prog 245 [.s s0] (.tup [res0.av,.i .i64 res1]):=by
  obtain ⟨v,hv,res0,res1,hk,rfl⟩:=Pus.of (K:=fun v=>∃res0:Qry,∃res1:Int,K res0 res1∧v=.tup [res0.av,.i .i64 res1]) hf rfl (w245_0 (σ:=sl0 [.s s0]) (fun σ st k0 v0  res0 res1 H2 HB2 H3 hk=>⟨.tup [res0.av,.i .i64 res1],by simp only [pf245,ares,aresL,ares_cellA (n:=5) H2 HB2 rfl,H3,ares_tmp,Option.map_some],_,rfl,res0,res1,hk,rfl⟩) rfl h)
  exact ⟨res0,res1,hk,hv⟩
def r246_0:List AI:=[oO 2 (.alloc [z8,z6,z6,z6,zs]),oI 3 0]
def r246_1:List AI:=[oM 14 0,oH 15 14,oV 16 .gtr 15 2000]
def r246_2:List AI:=[oO 17 (.build [z8,z6,z6,z6,zs] []),oS 5 2 17,oI 3 4]
def r246_3:List AI:=[oM 19 0,oQ 20 262 [19],oM 18 20,oE 21 0 18,oE 22 1 18,oM 4 21,oM 5 22]
def r246_4:List AI:=[oU 6 1]
def r246_5:List AI:=[oM 23 6,oW 24 .leq 23 8]
def r246_6:List AI:=[oQ 27 263 [],oM 28 6,oX 29 1 27 28,oL 30 29,oM 31 4,oT 32 .neq 30 31]
def r246_7:List AI:=[oM 33 6,oO 34 (.build [z8,z6,z6,z6,zs] [(0,1,(.t 33))]),oO 7 (.alloc [z8,z6,z6,z6,zs]),oS 5 7 34]
def r246_8:List AI:=[oM 35 6]
def r246_9:List AI:=[oW 37 .eql 35 2,oM 36 37]
def r246_10:List AI:=[oW 38 .eql 35 4,oM 36 38]
def r246_11:List AI:=[oW 39 .eql 35 5,oM 36 39]
def r246_12:List AI:=[oW 40 .eql 35 3,oM 36 40]
def r246_13:List AI:=[oM 42 5,oQ 43 262 [42],oM 41 43,oE 44 0 41,oE 45 1 41,oM 8 44,oM 9 45]
def r246_14:List AI:=[oM 47 8,oQ 48 22 [47],oM 46 48,oE 49 0 46,oE 50 1 46,oM 10 49,oM 11 50]
def r246_15:List AI:=[oM 51 10,oF 52 1 7,oS 1 52 51]
def r246_16:List AI:=[oM 53 6,oW 54 .eql 53 3]
def r246_17:List AI:=[oM 56 9,oQ 57 22 [56],oM 55 57,oE 58 0 55,oE 59 1 55,oM 12 58,oM 13 59]
def r246_18:List AI:=[oM 60 12,oF 61 2 7,oS 1 61 60]
def r246_19:List AI:=[oW 63 .eql 35 6,oM 62 63]
def r246_20:List AI:=[oM 65 5,oQ 66 22 [65],oM 64 66,oE 67 0 64,oE 68 1 64,oF 69 3 7,oS 1 69 67]
def r246_21:List AI:=[oW 71 .eql 35 7,oM 70 71]
def r246_22:List AI:=[oW 72 .eql 35 8,oM 70 72]
def r246_23:List AI:=[oM 74 5,oQ 75 26 [74],oM 73 75,oE 76 0 73,oE 77 1 73,oF 78 4 7,oS 1 78 76]
def r246_24:List AI:=[oK 79 5 7,oQ 80 248 [79],oV 81 .eql 80 0,oM 82 81,gT 82 (oK 83 5 7),gT 82 (oQ 84 259 [83]),gT 82 (oM 85 0),gT 82 (oT 86 .eql 84 85),oA 87 82 86]
def r246_25:List AI:=[oK 88 5 7,oS 5 2 88,oI 3 0]
def r246_26:List AI:=[oM 25 6,oW 26 .add 25 1,oM 6 26]
def r246_27:List AI:=[oO 89 (.build [z8,z6,z6,z6,zs] []),oS 5 2 89,oI 3 12]
abbrev c246_0:AC:=(.cond (.t 70) (.reg 24 r246_23) .skip)
abbrev c246_1:AC:=(.cond (.t 36) (sR 14 r246_13 (sR 15 r246_14 (sR 16 r246_15 (sR 17 r246_16 (.cond (.t 54) (sR 18 r246_17 (.reg 19 r246_18)) .skip))))) (sR 20 r246_19 (.cond (.t 62) (.reg 21 r246_20) (.seq (sR 22 r246_21 (.cond (.t 70) .skip (.reg 23 r246_22))) c246_0))))
abbrev c246_2:AC:=(sR 25 r246_24 (.cond (.t 87) (sR 26 r246_25 .ret) .skip))
abbrev c246_3:AC:=(.seq (sR 9 r246_8 (.block 2 (.seq (sR 10 r246_9 (.cond (.t 36) .skip (sR 11 r246_10 (.cond (.t 36) .skip (sR 12 r246_11 (.cond (.t 36) .skip (.reg 13 r246_12))))))) c246_1))) c246_2)
abbrev c246_4:AC:=(sR 8 r246_7 c246_3)
abbrev c246_5:AC:=(.reg 6 r246_26)
abbrev c246_6:AC:=(.seq (.block 1 (.seq (sR 7 r246_6 (.cond (.t 32) (.exit 1) .skip)) c246_4)) c246_5)
abbrev l246_0:AC:=(.seq (sR 5 r246_5 (.cond (.t 24) .skip (.exit 0))) c246_6)
abbrev c246_8:AC:=(.block 0 (.loop l246_0))
abbrev c246_9:AC:=(sR 27 r246_27 .ret)
abbrev c246_10:AC:=(.seq (sR 4 r246_4 c246_8) c246_9)
abbrev c246_11:AC:=(sR 3 r246_3 c246_10)
abbrev c246_12:AC:=(.seq (sR 1 r246_1 (.cond (.t 16) (sR 2 r246_2 .ret) .skip)) c246_11)
abbrev b246:AC:=(sR 0 r246_0 c246_12)
def pf246:AF:={ nt:=90,res:=[.cell 2 5 true,.tmp 3],body:=b246 }
abbrev H246 (Q:AE→Sl→St→Prop)(K:Qry→Int→Prop):Prop:=∀(σ:Sl)(st:St)(k0:Key)(v0:Nat)(res0:Qry)(res1:Int),σ 2=.p k0 v0 0→lk st.bx k0=some (v0,Qry.cs res0)→σ 3=.i .i64 res1→K res0 res1→Q .ret σ st
abbrev I246_0 (prog:Prog)(d:Nat)(Q:AE→Sl→St→Prop)(s0:BS)(word4:BS)(rest5:BS)(kind6:Int)(m0:Qry):Prop:=
  ∀(σ:Sl)(st:St)(v0:Nat),σ 0=.s s0→σ 2=.p (d,0) v0 0→σ 4=.s word4→σ 5=.s rest5→σ 6=.i .u8 kind6→lk st.bx (d,0)=some (v0,Qry.cs m0)→W prog d (.loop l246_0) σ st (blockW 0 (thenW prog d c246_9 Q))
def T246_7 (prog:Prog)(K:Qry→Int→Prop)(P0:Int→Qry→Prop)(s0:BS)(word4:BS)(rest5:BS)(kind6:Int)(m0:Qry):Prop:=
  P0 (IntKind.u8.wrap (kind6+1)) m0
def T246_11 (prog:Prog)(K:Qry→Int→Prop)(P0:Int→Qry→Prop)(s0:BS)(word4:BS)(rest5:BS)(kind6:Int)(m0:Qry)(m32770:Qry):Prop:=
  ∃c,Pus prog 248 [m32770.av] (.i .i64 c)∧(c=0→∃e,Pus prog 259 [m32770.av] (.s e)∧(e=s0→K m32770 0)∧(¬(e=s0)→T246_7 prog K P0 s0 word4 rest5 kind6 m0))∧(¬(c=0)→T246_7 prog K P0 s0 word4 rest5 kind6 m0)
def T246_12 (prog:Prog)(K:Qry→Int→Prop)(P0:Int→Qry→Prop)(s0:BS)(word4:BS)(rest5:BS)(kind6:Int)(t70:Bool)(m0:Qry)(m32770:Qry):Prop:=
  (t70=true→∃c e,Pus prog 26 [.s rest5] (.tup [.s c,.i .i64 e])∧T246_11 prog K P0 s0 word4 rest5 kind6 m0 (Qry.mk m32770.kind m32770.g m32770.k m32770.key c))∧(t70=false→T246_11 prog K P0 s0 word4 rest5 kind6 m0 m32770)
def T246_10 (prog:Prog)(K:Qry→Int→Prop)(P0:Int→Qry→Prop)(s0:BS)(word4:BS)(rest5:BS)(kind6:Int)(t35:Int)(t36:Bool)(m0:Qry)(m32770:Qry):Prop:=
  (t36=true→∃j o,Pus prog 262 [.s rest5] (.tup [.s j,.s o])∧∃c u,Pus prog 22 [.s j] (.tup [.i .i64 c,.i .i64 u])∧(kind6=3→∃e q,Pus prog 22 [.s o] (.tup [.i .i64 e,.i .i64 q])∧T246_11 prog K P0 s0 word4 rest5 kind6 m0 (Qry.mk m32770.kind c e m32770.key m32770.name))∧(¬(kind6=3)→T246_11 prog K P0 s0 word4 rest5 kind6 m0 (Qry.mk m32770.kind c m32770.k m32770.key m32770.name)))∧(t36=false→(t35=6→∃p r,Pus prog 22 [.s rest5] (.tup [.i .i64 p,.i .i64 r])∧T246_11 prog K P0 s0 word4 rest5 kind6 m0 (Qry.mk m32770.kind m32770.g m32770.k p m32770.name))∧(¬(t35=6)→(t35=7→T246_12 prog K P0 s0 word4 rest5 kind6 (decide (t35=7)) m0 m32770)∧(¬(t35=7)→T246_12 prog K P0 s0 word4 rest5 kind6 (decide (t35=8)) m0 m32770)))
def T246_9 (prog:Prog)(K:Qry→Int→Prop)(P0:Int→Qry→Prop)(s0:BS)(word4:BS)(rest5:BS)(kind6:Int)(m0:Qry)(m32770:Qry):Prop:=
  (kind6=2→T246_10 prog K P0 s0 word4 rest5 kind6 kind6 (decide (kind6=2)) m0 m32770)∧(¬(kind6=2)→(kind6=4→T246_10 prog K P0 s0 word4 rest5 kind6 kind6 (decide (kind6=4)) m0 m32770)∧(¬(kind6=4)→(kind6=5→T246_10 prog K P0 s0 word4 rest5 kind6 kind6 (decide (kind6=5)) m0 m32770)∧(¬(kind6=5)→T246_10 prog K P0 s0 word4 rest5 kind6 kind6 (decide (kind6=3)) m0 m32770)))
def T246_8 (prog:Prog)(K:Qry→Int→Prop)(P0:Int→Qry→Prop)(s0:BS)(word4:BS)(rest5:BS)(kind6:Int)(m0:Qry):Prop:=
  T246_9 prog K P0 s0 word4 rest5 kind6 m0 (Qry.mk kind6 0 0 0 [])
def T246_6 (prog:Prog)(K:Qry→Int→Prop)(P0:Int→Qry→Prop)(s0:BS)(word4:BS)(rest5:BS)(kind6:Int)(m0:Qry):Prop:=
  ∃e,Pus prog 263 [] (.sl .ext (List.map rowS e))∧0≤kind6∧∃c,e[(kind6).toNat]?=some c∧(c≠word4→T246_7 prog K P0 s0 word4 rest5 kind6 m0)∧(¬(c≠word4)→T246_8 prog K P0 s0 word4 rest5 kind6 m0)
def T246_13 (prog:Prog)(K:Qry→Int→Prop)(m0:Qry):Prop:=
  K (Qry.mk 0 0 0 0 []) 12
def T246_5 (prog:Prog)(K:Qry→Int→Prop)(P0:Int→Qry→Prop)(s0:BS)(word4:BS)(rest5:BS)(kind6:Int)(m0:Qry):Prop:=
  (kind6≤8→T246_6 prog K P0 s0 word4 rest5 kind6 m0)∧(¬(kind6≤8)→T246_13 prog K m0)
def T246_4 (prog:Prog)(K:Qry→Int→Prop)(s0:BS)(word4:BS)(rest5:BS)(kind6:Int)(m0:Qry):Prop:=
  ∀P0:Int→Qry→Prop,(∀(kind6:Int)(m0:Qry),T246_5 prog K P0 s0 word4 rest5 kind6 m0→P0 kind6 m0)→P0 kind6 m0
def T246_3 (prog:Prog)(K:Qry→Int→Prop)(s0:BS)(word4:BS)(rest5:BS)(m0:Qry):Prop:=
  T246_4 prog K s0 word4 rest5 1 m0
def T246_2 (prog:Prog)(K:Qry→Int→Prop)(s0:BS)(m0:Qry):Prop:=
  ∃c e,Pus prog 262 [.s s0] (.tup [.s c,.s e])∧T246_3 prog K s0 c e m0
def T246_1 (prog:Prog)(K:Qry→Int→Prop)(s0:BS)(m0:Qry):Prop:=
  ((s0.length:Int)>2000→K (Qry.mk 0 0 0 0 []) 4)∧(¬((s0.length:Int)>2000)→T246_2 prog K s0 m0)
def T246_0 (prog:Prog)(K:Qry→Int→Prop)(s0:BS):Prop:=
  T246_1 prog K s0 (Qry.mk 0 0 0 0 [])
section
variable {prog:Prog}{d:Nat}{Q:AE→Sl→St→Prop}{K:Qry→Int→Prop}(hQ:H246 Q K){σ:Sl}{st:St}
include hQ
variable {s0 word4 rest5:BS}{kind6:Int}{m0:Qry}{P0:Int→Qry→Prop}{v0:Nat}{m32770:Qry}{v32770:Nat}{t70:Bool}{t35:Int}{t36:Bool}
variable (kP0 :∀(kind6:Int)(m0:Qry),P0 kind6 m0→I246_0 prog d Q s0 word4 rest5 kind6 m0)(H0:σ 0=.s s0)(H2:σ 2=.p (d,0) v0 0)(H4:σ 4=.s word4)(H5:σ 5=.s rest5)(H6:σ 6=.i .u8 kind6)(H7:σ 7=.p (d,32770) v32770 0)(H70:σ 70=.b t70)(H35:σ 35=.i .u8 t35)(H36:σ 36=.b t36)(B0:lk st.bx (d,0)=some (v0,Qry.cs m0))(B32770:lk st.bx (d,32770)=some (v32770,Qry.cs m32770))
include kP0 H0 H2 H4 H5 H6 B0 in
theorem w246_7 (h:T246_7 prog K P0 s0 word4 rest5 kind6 m0):W prog d c246_5 σ st (thenW prog d (.loop l246_0) (blockW 0 (thenW prog d c246_9 Q))):=
 au trivial
include kP0 H0 H2 H4 H5 H6 H7 B0 B32770 in
theorem w246_11 (h:T246_11 prog K P0 s0 word4 rest5 kind6 m0 m32770):W prog d c246_2 σ st (blockW 1 (thenW prog d c246_5 (thenW prog d (.loop l246_0) (blockW 0 (thenW prog d c246_9 Q))))):=
 au @w246_7
include kP0 H0 H2 H4 H5 H6 H7 H70 B0 B32770 in
theorem w246_12 (h:T246_12 prog K P0 s0 word4 rest5 kind6 t70 m0 m32770):W prog d c246_0 σ st (blockW 2 (thenW prog d c246_2 (blockW 1 (thenW prog d c246_5 (thenW prog d (.loop l246_0) (blockW 0 (thenW prog d c246_9 Q))))))):=
 au @w246_11
include kP0 H0 H2 H4 H5 H6 H7 H35 H36 B0 B32770 in
theorem w246_10 (h:T246_10 prog K P0 s0 word4 rest5 kind6 t35 t36 m0 m32770):W prog d c246_1 σ st (blockW 2 (thenW prog d c246_2 (blockW 1 (thenW prog d c246_5 (thenW prog d (.loop l246_0) (blockW 0 (thenW prog d c246_9 Q))))))):=
 au (And.intro @w246_11 @w246_12)
include kP0 H0 H2 H4 H5 H6 H7 B0 B32770 in
theorem w246_9 (h:T246_9 prog K P0 s0 word4 rest5 kind6 m0 m32770):W prog d c246_3 σ st (blockW 1 (thenW prog d c246_5 (thenW prog d (.loop l246_0) (blockW 0 (thenW prog d c246_9 Q))))):=
 sq_ (q_ J (m_ (e_ (bk_ (sq_ (q_ J (b_ H6 J eql_ (m_ (e_ (cs_ J (fun c=>sk_ (w246_10 hQ kP0 H0 H2 H4 H5 H6 H7 H6 J B0 B32770 (h.1 c))) (fun c=>q_ J (b_ H6 J eql_ (m_ (e_ (cs_ J (fun e=>sk_ (w246_10 hQ kP0 H0 H2 H4 H5 H6 H7 H6 J B0 B32770 ((h.2 c).1 e))) (fun e=>q_ J (b_ H6 J eql_ (m_ (e_ (cs_ J (fun i=>sk_ (w246_10 hQ kP0 H0 H2 H4 H5 H6 H7 H6 J B0 B32770 (((h.2 c).2 e).1 i))) (fun i=>W.reg0 J fun _ _=>b_ H6 J eql_ (m_ (e_ (w246_10 hQ kP0 H0 H2 H4 H5 H6 H7 H6 J B0 B32770 (((h.2 c).2 e).2 i)))))))))))))))))))))))))
include kP0 H0 H2 H4 H5 H6 B0 in
theorem w246_8 (h:T246_8 prog K P0 s0 word4 rest5 kind6 m0):W prog d c246_4 σ st (blockW 1 (thenW prog d c246_5 (thenW prog d (.loop l246_0) (blockW 0 (thenW prog d c246_9 Q))))):=
 sq_ (W.reg (m_ (s_build (f_cons H6 J f_nil) (s_alloc (so_ J (show lk _ (d,32770)=some (_,([.i .u8 0,.i .i64 0,.i .i64 0,.i .i64 0,.s []]:List AV)) from lk_here) J J J (e_ (w246_9 (m32770:=(Qry.mk kind6 0 0 0 [])) hQ kP0 H0 H2 H4 H5 H6 J (lk_other J (lk_other J B0)) lk_here h)))))))
include kP0 H0 H2 H4 H5 H6 B0 in
theorem w246_6 (h:T246_6 prog K P0 s0 word4 rest5 kind6 m0):W prog d c246_6 σ st (thenW prog d (.loop l246_0) (blockW 0 (thenW prog d c246_9 Q))):=
 au (And.intro @w246_7 @w246_8)
include H2 B0 in
theorem w246_13 (h:T246_13 prog K m0):W prog d c246_9 σ st Q:=
 au trivial
include kP0 H0 H2 H4 H5 H6 B0 in
theorem w246_5 (h:T246_5 prog K P0 s0 word4 rest5 kind6 m0):W prog d l246_0 σ st (thenW prog d (.loop l246_0) (blockW 0 (thenW prog d c246_9 Q))):=
 sq_ (q_ J (m_ (b_ H6 J leq_ (e_ (cs_ J (fun c=>sk_ (w246_6 hQ kP0 H0 H2 H4 H5 H6 B0 (h.1 c))) (fun c=>ex_ (w246_13 hQ H2 B0 (h.2 c))))))))
include H0 H2 H4 H5 H6 B0 in
theorem w246_4 (h:T246_4 prog K s0 word4 rest5 kind6 m0):W prog d c246_8 σ st (thenW prog d c246_9 Q):=
 bk_ (h (I246_0 prog d Q s0 word4 rest5) (fun _ _ hb _ _ _ H0 H2 H4 H5 H6 B0=>W.loop (w246_5 hQ (fun _ _ x=>x) H0 H2 H4 H5 H6 B0 hb)) _ _ _ H0 H2 H4 H5 H6 B0)
include H0 H2 H4 H5 B0 in
theorem w246_3 (h:T246_3 prog K s0 word4 rest5 m0):W prog d c246_10 σ st Q:=
 au @w246_4
include H0 H2 B0 in
theorem w246_2 (h:T246_2 prog K s0 m0):W prog d c246_11 σ st Q:=
 au @w246_3
include H0 H2 B0 in
theorem w246_1 (h:T246_1 prog K s0 m0):W prog d c246_12 σ st Q:=
 sq_ (q_ J (m_ (ln_ H0 (b_ J J gtr_ (e_ (cs_ J (fun c=>q_ J (s_build f_nil (so_ H2 B0 J J J (m_ (er_ (hQ _ _ _ _ _ _ H2 lk_here J (h.1 c))))))) (fun c=>sk_ (w246_2 hQ H0 H2 B0 (h.2 c)))))))))
include H0 in
theorem w246_0 (h:T246_0 prog K s0):W prog d (sR 0 r246_0 c246_12) σ st Q:=
 au @w246_1
end
theorem p246 {prog:Prog}(hf:prog.fn 246=some pf246){s0:BS}{K:Qry→Int→Prop}(h:T246_0 prog K s0) :∃res0:Qry,∃res1:Int,K res0 res1∧Pus prog 246 [.s s0] (.tup [res0.av,.i .i64 res1]):=by
  obtain ⟨v,hv,res0,res1,hk,rfl⟩:=Pus.of (K:=fun v=>∃res0:Qry,∃res1:Int,K res0 res1∧v=.tup [res0.av,.i .i64 res1]) hf rfl (w246_0 (σ:=sl0 [.s s0]) (fun σ st k0 v0  res0 res1 H2 HB2 H3 hk=>⟨.tup [res0.av,.i .i64 res1],by simp only [pf246,ares,aresL,ares_cellA (n:=5) H2 HB2 rfl,H3,ares_tmp,Option.map_some],_,rfl,res0,res1,hk,rfl⟩) rfl h)
  exact ⟨res0,res1,hk,hv⟩
abbrev H240 (Q:AE→Sl→St→Prop)(K:Bool→Prop):Prop:=∀(σ:Sl)(st:St)(res0:Bool),σ 4=.b res0→K res0→Q .ret σ st
section
variable {prog:Prog}{d:Nat}{Q:AE→Sl→St→Prop}{K:Bool→Prop}(hQ:H240 Q K){σ:Sl}{st:St}
include hQ
end
end Go.AM

namespace Go.AM
open Go Go.RowKit Go.BigFrame Go.ChangeMaps
def wordL:List (List UInt8 × Int):=[([103,111,114,111,117,116,105,110,101,115],1),([102,114,97,109,101,115],2),([108,111,99,97,108,115],3),([100,101,102,101,114,115],4),([112,97,110,105,99,115],5),([119,97,105,116,115],6),([105,110],7),([115,108,111,116],8)]
def wordM (n:Int):List UInt8:=match wordL.find? (fun x=>x.2==n) with | some x=>x.1 | none=>[]
def wordE (j:Nat):MapEntry:=⟨.string ⟨(wordM ((j:Int)+1)).toArray⟩,.int .u8 ((j:Int)+1),j⟩
def wordEs:Array MapEntry:=#[wordE 0,wordE 1,wordE 2,wordE 3,wordE 4,wordE 5,wordE 6,wordE 7]
theorem wordEs_mem {e:MapEntry} (h:e∈wordEs.toList) :∃j,j<8∧e=wordE j:=by
 simp only [wordEs,List.mem_cons,List.not_mem_nil,or_false] at h
 rcases h with h | h | h | h | h | h | h | h
 ·exact ⟨0,by decide,h⟩
 ·exact ⟨1,by decide,h⟩
 ·exact ⟨2,by decide,h⟩
 ·exact ⟨3,by decide,h⟩
 ·exact ⟨4,by decide,h⟩
 ·exact ⟨5,by decide,h⟩
 ·exact ⟨6,by decide,h⟩
 ·exact ⟨7,by decide,h⟩
theorem wordE_mem {j:Nat} (h:j<8):wordE j∈wordEs.toList:=by
 simp only [wordEs,List.mem_cons,List.not_mem_nil,or_false]
 match j,h with
 | 0,_ | 1,_ | 2,_ | 3,_ | 4,_ | 5,_ | 6,_ | 7,_=>simp
theorem wordEs_map:wordEs.toList.map (fun e=>(e.key,e.val))=wordL.map fun x=>(Value.string ⟨x.1.toArray⟩,Value.int .u8 x.2):=rfl
theorem wordEs_nodup:(wordEs.toList.map (·.born)).Nodup:=by
 show [0,1,2,3,4,5,6,7].Nodup
 decide
theorem wordEs_born {e:MapEntry} (h:e∈wordEs.toList):e.born<8:=by
 obtain ⟨j,hj,rfl⟩:=wordEs_mem h
 exact hj
theorem wordM_no {n:Int} (h:¬(1≤n∧n≤8)):wordM n=[]:=by
 have e:wordL.find? (fun x=>x.2==n)=none:=by
  rw [List.find?_eq_none]
  intro x hx
  have:1≤x.2∧x.2≤8:=by
   simp only [wordL,List.mem_cons,List.not_mem_nil,or_false] at hx
   rcases hx with rfl | rfl | rfl | rfl | rfl | rfl | rfl | rfl<;>decide
  simp only [beq_iff_eq]
  omega
 unfold wordM
 rw [e]
theorem setBlock_at {w:World} {r:Nat} {o:Obj} (h:r<w.heap.size):(setBlock w r o).heap[r]?=some o:=by
 simp [setBlock,h]
theorem setBlock_ne {w:World} {r i:Nat} {o:Obj} (h:i≠r):(setBlock w r o).heap[i]?=w.heap[i]?:=by
 simp only [setBlock]
 rw [Array.getElem?_setIfInBounds_ne (by omega)]
theorem setBlock_below {w0 w:World} {n r:Nat} {o:Obj} (h:Below n w0 w) (hr:n≤r):Below n w0 (setBlock w r o):=
 ⟨h.os,h.tape,h.output,by simpa [setBlock] using h.size,fun i hi=>(setBlock_ne (by omega)).trans (h.block i hi)⟩
section
variable {P:Program}
theorem setObj_map {w:World} {r:Nat} {es:Array MapEntry} {c:Nat} (h:w.heap[r]?=some (.map es c)) (o':Obj):(setObj r o').run P w=.ok () (setBlock w r o'):=by
 simp [setObj,Sem.run,h,setBlock]
theorem insert_run {w:World} {r clock tm k e:Nat} {es:Array MapEntry} {l:List (List UInt8 × Int)} (hun:P.underlying tm=some (.map k e)) (hks:P.underlying k=some .string) (hb:w.heap[r]?=some (.map es clock))
  (hm:es.toList.map (fun e=>(e.key,e.val))=l.map fun x=>(Value.string ⟨x.1.toArray⟩,Value.int .u8 x.2)) {s:List UInt8} (hf:l.find? (fun x=>x.1==s)=none) (v:Value) :
  (Instr.mapUpdate tm (.map (some r)) (.string ⟨s.toArray⟩) v).run P w=.ok () (setBlock w r (.map (es.push ⟨.string ⟨s.toArray⟩,v,clock⟩) (clock+1))):=by
 have hget:(getObj r).run P w=.ok (.map es clock) w:=by simp [getObj,Sem.run,hb]
 have hck:(Instr.checkKey false 10000 k (.string ⟨s.toArray⟩)).run P w=.ok () w:=by
  rw [Instr.checkKey]
  simp [run_underlying hks]
 have hfn:Instr.findNow .string (.string ⟨s.toArray⟩) es.toList 0=some none:=by
  rcases findNow_ok s es.toList l 0 hm with ⟨h,_⟩ | ⟨j,x,_,h⟩
  ·exact h
  ·rw [hf] at h;cases h
 have hfk:(Instr.findKey k (.string ⟨s.toArray⟩) es.toList).run P w=.ok none w:=by
  simp [Instr.findKey,run_underlying hks,hfn]
 simp only [Instr.mapUpdate,Sem.run_bind,run_underlying hun,Result.andThen_ok,hget,hck,hfk]
 exact setObj_map hb _
end
def OpsAre (ops:Array Oper) (l:List (Option Nat × Op)):Prop:=ops.toList.map (fun o=>(o.dst,o.op))=l∧∀o∈ops.toList,o.guard=none
theorem OpsAre.at {ops:Array Oper} {l:List (Option Nat × Op)} (h:OpsAre ops l) {i:Nat} {d:Option Nat} {p:Op} (hi:l[i]?=some (d,p)) :∃o,ops[i]?=some o∧o.dst=d∧o.op=p∧o.guard=none:=by
 rw [← h.1,List.getElem?_map,Option.map_eq_some_iff] at hi
 obtain ⟨o,h1,h2⟩:=hi
 injection h2 with h2 h3
 exact ⟨o,by simpa using h1,h2,h3,h.2 o (List.mem_of_getElem? h1)⟩
theorem OpsAre.size {ops:Array Oper} {l:List (Option Nat × Op)} (h:OpsAre ops l):ops.size=l.length:=by
 rw [← h.1];simp
def tv (a:Act) (t:Nat):Value:=a.tmps.getD t undef
theorem tv_put (a:Act) (d:Nat) (v:Value) (t:Nat) (h:d<a.tmps.size):tv (a.put (some d) v) t=if t=d then v else tv a t:=by
 unfold tv Act.put
 simp only [Array.getD_eq_getD_getElem?,Array.getElem?_setIfInBounds]
 by_cases e:t=d
 ·subst e;simp [h]
 ·rw [if_neg (fun e'=>e e'.symm),if_neg e]
section
variable {P:Program} {ops:Array Oper} {l:List (Option Nat × Op)} {Q:Exit→Act→World→Prop} {i:Nat} {rest:List Nat} {a:Act} {w w':World}
theorem st_val (h:OpsAre ops l) {d:Nat} {p:Op} (hi:l[i]?=some (some d,p)) {v:Value} (hr :∀o:Oper,o.op=p→(execOp a.eval o).run P w=.ok (.value v) w') (hk:wpOps P ops Q rest (a.put (some d) v) w'):wpOps P ops Q (i::rest) a w:=by
 obtain ⟨o,h1,h2,h3,h4⟩:=h.at hi
 rw [wpOps_cons]
 exact step_val (G:=⟨fun _ _=>none,fun _ _=>none,fun _ _=>none,fun _=>none,fun _=>none⟩) (nt:=0) h1 h4 (hr o h3) (by rw [h2];exact hk)
theorem st_valo {o:Oper} (h1:ops[i]?=some o) {d:Nat} (h2:o.dst=some d) (h4:o.guard=none) {v:Value} (hr:(execOp a.eval o).run P w=.ok (.value v) w') (hk:wpOps P ops Q rest (a.put (some d) v) w'):wpOps P ops Q (i::rest) a w:=by
 rw [wpOps_cons]
 exact step_val (G:=⟨fun _ _=>none,fun _ _=>none,fun _ _=>none,fun _=>none,fun _=>none⟩) (nt:=0) h1 h4 hr (by rw [h2];exact hk)
theorem st_unit (h:OpsAre ops l) {p:Op} (hi:l[i]?=some (none,p)) (hr :∀o:Oper,o.op=p→(execOp a.eval o).run P w=.ok .skip w') (hk:wpOps P ops Q rest a w'):wpOps P ops Q (i::rest) a w:=by
 obtain ⟨o,h1,h2,h3,h4⟩:=h.at hi
 rw [wpOps_cons]
 unfold wpOp
 rw [h1]
 simp only
 rw [if_pos (by simp [Region.wanted,h4])]
 refine .inl ?_
 unfold Oper.wp
 rw [hr o h3,Oper.upon_skip,h2]
 exact hk
theorem st_call (h:OpsAre ops l) {d:Nat} {p:Op} (hi:l[i]?=some (some d,p)) {f:FuncId} {args:Array Value} (hr :∀o:Oper,o.op=p→(execOp a.eval o).run P w=.ok (.enter f args) w) (hk:Calls P f args w fun e w''=>match e with | .returned v=>wpOps P ops Q rest (a.put (some d) v) w'' | _=>False):wpOps P ops Q (i::rest) a w:=by
 obtain ⟨o,h1,h2,h3,h4⟩:=h.at hi
 rw [wpOps_cons]
 unfold wpOp
 rw [h1]
 simp only
 rw [if_pos (by simp [Region.wanted,h4])]
 refine .inl ?_
 unfold Oper.wp
 rw [hr o h3,Oper.upon_enter,h2]
 refine hk.mono fun e w'' he=>?_
 cases e with
 | returned v=>exact he
 | panicked c=>exact he.elim
 | outgrown=>exact he.elim
end
def insOp (tm:Nat) (j:Nat):Op:=.insert tm (.tmp 1) (.const (.string ⟨(wordM ((j:Int)+1)).toArray⟩)) (.const (.int .u8 ((j:Int)+1)))
theorem words_find {j:Nat} (h:j<8):(wordL.take j).find? (fun x=>x.1==wordM ((j:Int)+1))=none:=by
 match j,h with
 | 0,_ | 1,_ | 2,_ | 3,_ | 4,_ | 5,_ | 6,_ | 7,_=>rfl
theorem words_map {j:Nat} (h:j≤8):(wordEs.toList.take j).map (fun e=>(e.key,e.val))=(wordL.take j).map fun x=>(Value.string ⟨x.1.toArray⟩,Value.int .u8 x.2):=by
 rw [List.map_take,wordEs_map,← List.map_take]
theorem words_push {j:Nat} (h:j<8):(wordEs.toList.take j).toArray.push (wordE j)=(wordEs.toList.take (j+1)).toArray:=by
 match j,h with
 | 0,_ | 1,_ | 2,_ | 3,_ | 4,_ | 5,_ | 6,_ | 7,_=>rfl
def WordsR (w:World):Ending→World→Prop:=fun e w'=>∃b,e=.returned (.map (some b))∧w'.heap[b]?=some (.map wordEs 8)∧w.heap.size≤b∧Below w.heap.size w w'
section
variable {P:Program}
theorem words_calls {fw tm k e:Nat} {fn:Func} {ops0 ops1:Array Oper} (hf:P.funcs[fw]?=some fn) (hb:fn.body=some (.seq (.region 0 ops0 false) (.seq (.region 1 ops1 false) .ret))) (hn:fn.ntmps=3) (hres:fn.results=#[.tmp 0])
  (hun:P.underlying tm=some (.map k e)) (hks:P.underlying k=some .string)
  (h0:OpsAre ops0 [(some 0,.assign (.const (.map none)))])
  (h1:OpsAre ops1 [(some 1,.makeMap tm none),(none,insOp tm 0),(none,insOp tm 1),(none,insOp tm 2),(none,insOp tm 3),(none,insOp tm 4),(none,insOp tm 5),(none,insOp tm 6),(none,insOp tm 7),(some 2,.move (.tmp 1)),(some 0,.assign (.tmp 2))]) (w:World) :
  Calls P fw #[] w (WordsR w):=by
 refine calls_of_wp hf hb ?_
 rw [hn]
 refine wp_seq (wp_region ?_)
 rw [h0.size]
 show wpOps P ops0 _ [0] _ _
 refine st_val h0 (d:=0) (v:=.map none) (w':=w) rfl (fun o ho=>by simp only [execOp,ho];rfl) ?_
 refine wp_seq (wp_region ?_)
 rw [h1.size]
 show wpOps P ops1 _ [0,1,2,3,4,5,6,7,8,9,10] _ _
 refine st_val h1 (d:=1) (v:=.map (some w.heap.size)) (w':=w.alloc (.map #[] 0)) rfl (fun o ho=>by simp only [execOp,ho];exact run_val (by simp [Instr.makeMap,run_newObj])) ?_
 have start:(w.alloc (.map #[] 0)).heap[w.heap.size]?=some (.map (wordEs.toList.take 0).toArray 0)∧Below w.heap.size w (w.alloc (.map #[] 0)):=⟨heap_alloc_new w _,(Below.refl _ _).alloc (Nat.le_refl _) _⟩
 generalize w.alloc (.map #[] 0)=w1 at start ⊢
 have ins :∀{j:Nat} {w2:World} (rest:List Nat) (a:Act) (Q:Exit→Act→World→Prop),j<8→tv a 1=.map (some w.heap.size)→w2.heap[w.heap.size]?=some (.map (wordEs.toList.take j).toArray j)∧Below w.heap.size w w2→
   (∀w3:World,w3.heap[w.heap.size]?=some (.map (wordEs.toList.take (j+1)).toArray (j+1))∧Below w.heap.size w w3→wpOps P ops1 Q rest a w3)→wpOps P ops1 Q ((j+1)::rest) a w2:=by
  intro j w2 rest a Q hj ha ⟨q1,q2⟩ hk
  have hlt:w.heap.size<w2.heap.size:=(Array.getElem?_eq_some_iff.1 q1).1
  refine st_unit h1 (p:=insOp tm j) (w':=setBlock w2 w.heap.size (.map ((wordEs.toList.take j).toArray.push (wordE j)) (j+1))) ?_ (fun o ho=>?_) (hk _ ⟨?_,setBlock_below q2 (Nat.le_refl _)⟩)
  ·match j,hj with
   | 0,_ | 1,_ | 2,_ | 3,_ | 4,_ | 5,_ | 6,_ | 7,_=>rfl
  ·simp only [execOp,ho,insOp]
   refine run_unit ?_
   rw [show a.eval (.tmp 1)=.map (some w.heap.size) from ha]
   exact insert_run hun hks q1 (l:=wordL.take j) (by rw [List.toList_toArray];exact words_map (by omega)) (words_find hj) _
  ·rw [setBlock_at hlt,words_push hj]
 refine ins _ _ _ (by decide) (by rfl) start fun w2 s2=>ins _ _ _ (by decide) (by rfl) s2 fun w3 s3=>ins _ _ _ (by decide) (by rfl) s3 fun w4 s4=>ins _ _ _ (by decide) (by rfl) s4 fun w5 s5=>ins _ _ _ (by decide) (by rfl) s5 fun w6 s6=>ins _ _ _ (by decide) (by rfl) s6 fun w7 s7=>ins _ _ _ (by decide) (by rfl) s7 fun w8 s8=>ins _ _ _ (by decide) (by rfl) s8 fun w9 s9=>?_
 refine st_val h1 (d:=2) (v:=.map (some w.heap.size)) (w':=w9) rfl (fun o ho=>by simp only [execOp,ho];rfl) ?_
 refine st_val h1 (d:=0) (v:=.map (some w.heap.size)) (w':=w9) rfl (fun o ho=>by simp only [execOp,ho];rfl) ?_
 refine wp_ret ?_
 refine ⟨rfl,.map (some w.heap.size),?_,_,rfl,s9.1,Nat.le_refl _,s9.2⟩
 rw [results_eq,hres]
 have h2:(resVar ((((({ tmps:=#[]++Array.replicate (3-(#[]:Array Value).size) undef,defers:=[] }:Act).put (some 0) (Value.map none)).put (some 1) (Value.map (some w.heap.size))).put (some 2) (Value.map (some w.heap.size))).put (some 0) (Value.map (some w.heap.size))).tmps (.tmp 0)).run P w9=.ok (.map (some w.heap.size)) w9:=rfl
 simpa using h2
end
def hwSlots:List Nat:=[6,7,15,16,17,18,19,20,21,22,23,24,25,26]
def hs243 (n:Int) (σ:Sl):Sl:=fun t=>if t=5 then .s (wordM n) else if hwSlots.contains t=true then .u else σ t
def hw243 (σ:Sl) (st:St):Option (AE × Sl × St):=match σ 1,σ 5 with
 | .p k v 0,.s []=>match lk st.bx k with
  | some (v',.i .u8 n::_)=>if v'=v then some (.normal,hs243 n σ,st) else none
  | _=>none
 | _,_=>none
theorem hw243_eq {σ:Sl} {st:St} {k:Key} {v:Nat} {n:Int} {cs:List AV} (h1:σ 1=.p k v 0) (h5:σ 5=.s []) (hk:lk st.bx k=some (v,.i .u8 n::cs)):hw243 σ st=some (.normal,hs243 n σ,st):=by
 unfold hw243
 rw [h1,h5]
 simp only [hk,if_true]
theorem hw243_inv {σ σ':Sl} {st st':St} {e:AE} (h:hw243 σ st=some (e,σ',st')) :∃k v n cs,σ 1=.p k v 0∧σ 5=.s []∧lk st.bx k=some (v,.i .u8 n::cs)∧e=.normal∧σ'=hs243 n σ∧st'=st:=by
 unfold hw243 at h
 split at h
 ·rename_i k v h1 h5
  split at h
  ·rename_i v' n cs hk
   split at h
   ·rename_i hv
    subst hv
    cases h
    exact ⟨k,v',n,cs,h1,h5,hk,rfl,rfl,rfl⟩
   ·cases h
  ·cases h
 ·cases h
def curOf (n:Int) (seen:Array Nat):List UInt8:=if 1≤n∧n≤8∧seen.contains (n-1).toNat=true then wordM n else []
theorem cur_push {n:Int} {seen:Array Nat} {j:Nat} (hj:j<8):curOf n (seen.push j)=if (n==(j:Int)+1)=true then wordM ((j:Int)+1) else curOf n seen:=by
 unfold curOf
 by_cases h:n=(j:Int)+1
 ·subst h
  rw [if_pos ⟨by omega,by omega,by simp⟩,if_pos (by simp)]
 ·rw [if_neg (c:=(n==(j:Int)+1)=true) (by simpa using h)]
  by_cases h1:1≤n∧n≤8
  ·have:(seen.push j).contains (n-1).toNat=seen.contains (n-1).toNat:=by
    simp only [Array.contains_push]
    have:((n-1).toNat==j)=false:=by simp;omega
    rw [this,Bool.or_false]
   rw [this]
  ·rw [if_neg (fun h=>h1 ⟨h.1,h.2.1⟩),if_neg (fun h=>h1 ⟨h.1,h.2.1⟩)]
theorem cur_all {n:Int} {seen:Array Nat} (h:(leftOf wordEs seen).size=0):curOf n seen=wordM n:=by
 unfold curOf
 by_cases h1:1≤n∧n≤8
 ·rw [if_pos]
  refine ⟨h1.1,h1.2,?_⟩
  have hm:wordE (n-1).toNat∈wordEs:=by simpa using wordE_mem (j:=(n-1).toNat) (by omega)
  have h2:leftOf wordEs seen=#[]:=Array.eq_empty_of_size_eq_zero h
  unfold leftOf at h2
  rw [Array.filter_eq_empty_iff] at h2
  have:=h2 _ hm
  simpa [wordE] using this
 ·rw [if_neg (fun h=>h1 ⟨h.1,h.2.1⟩),wordM_no h1]
theorem words_size:wordEs.size=8:=rfl
theorem left_le (seen:Array Nat):(leftOf wordEs seen).size<9:=by
 have h:(leftOf wordEs seen).size≤wordEs.size:=by
  unfold leftOf
  exact Array.size_filter_le
 rw [words_size] at h
 omega
theorem left_push {seen:Array Nat} {e:MapEntry} (h:e∈(leftOf wordEs seen).toList):(leftOf wordEs (seen.push e.born)).size<(leftOf wordEs seen).size:=by
 have e1:leftOf wordEs (seen.push e.born)=(leftOf wordEs seen).filter (fun x=>!(x.born==e.born)):=by
  unfold leftOf
  rw [Array.filter_filter]
  congr 1
  funext x
  simp only [Array.contains_push,Bool.not_or,Bool.and_comm]
 rw [e1,Array.size_filter_lt_size_iff_exists]
 exact ⟨e,by simpa using h,by simp⟩
section
variable {P:Program} {X:Cx}
set_option maxHeartbeats 1000000 in
theorem range_hand {nt d fw tm ts t5 k e:Nat} {ops5 ops6 ops7 ops8 ops9:Array Oper} (hnt:27≤nt) (hun:P.underlying tm=some (.map k e)) (hT:TTok P X.T) {fs:List (Nat × Nat)} (hst:(TK.st fs).ok P ts) (hf0:fs[0]?=some (t5,0)) {i5':TI} (hi5:X.T t5=some i5') (hi5s:i5'.size=1) (hi5a:i5'.kind.agg=false)
  (hw :∀w,(callFunc fw #[]).run P w=.ok (.enter fw #[]) w∧Calls P fw #[] w (WordsR w))
  (h5:OpsAre ops5 [(some 15,.call ⟨.value (.func fw),#[],#[]⟩),(some 16,.range tm (.tmp 15))])
  (h6:OpsAre ops6 [(some 17,.next (.tmp 16) false),(some 18,.extract (.tmp 17) 0)])
  (h7:OpsAre ops7 [(some 19,.entry (.tmp 16)),(some 20,.extract (.tmp 19) 0),(some 21,.extract (.tmp 19) 1),(some 6,.assign (.tmp 20)),(some 7,.assign (.tmp 21))])
  (h8:OpsAre ops8 [(some 22,.move (.tmp 7)),(some 23,.fieldAddr ts (.tmp 1) 0),(some 24,.load t5 (.tmp 23)),(some 25,.binOp .eql t5 (.tmp 22) (.tmp 24) t5)])
  (h9:OpsAre ops9 [(some 26,.move (.tmp 6)),(some 5,.assign (.tmp 26))]) :
  CodeOk P X nt d hw243 (.seq (.region 5 ops5 false) (.block 0 (.loop (.seq (.region 6 ops6 false) (.seq (.cond (.tmp 18) .skip (.exit 0)) (.block 1 (.seq (.region 7 ops7 false) (.seq (.region 8 ops8 false) (.cond (.tmp 25) (.region 9 ops9 false) .skip))))))))):=by
 intro σ st e' σ' st' h G w0 w a hfm hA hR Q hQ
 obtain ⟨kk,v,n,cs,q1,q5,qb,rfl,rfl,rfl⟩:=hw243_inv h
 have hsz:a.tmps.size=nt:=hA.2.1
 -- region 5
 refine wp_seq (wp_region ?_)
 rw [h5.size]
 show wpOps P ops5 _ [0,1] _ _
 refine st_call h5 (d:=15) rfl (f:=fw) (args:=#[]) (fun o ho=>?_) ((hw w).2.mono fun e1 w1 he=>?_)
 ·simp only [execOp,ho,resolve,Act.eval,Deferred.ofValue,invoke,Sem.run_bind,Sem.run_pure,Result.andThen_ok]
  simpa using (hw w).1
 obtain ⟨b,rfl,hb,hge,hbel⟩:=he
 refine st_val h5 (d:=16) (v:=.pointer (some ⟨w1.heap.size,0,none⟩)) (w':=w1.alloc (.mapIter (some b) 8 #[] 8)) rfl (fun o ho=>?_) ?_
 ·simp only [execOp,ho]
  refine run_val ?_
  rw [show (a.put (some 15) (.map (some b))).eval (.tmp 15)=.map (some b) from by
   show tv _ 15=_
   rw [tv_put _ _ _ _ (by omega),if_pos rfl]]
  have hg:(getObj b).run P w1=.ok (.map wordEs 8) w1:=by simp [getObj,Sem.run,hb]
  simp [Instr.range,run_underlying hun,hg]
 have hlt1:w1.heap.size<(w1.alloc (.mapIter (some b) 8 #[] 8)).heap.size:=by simp
 have hb1:b<w1.heap.size:=(Array.getElem?_eq_some_iff.1 hb).1
 have hbel1:Below w.heap.size w (w1.alloc (.mapIter (some b) 8 #[] 8)):=hbel.alloc (Nat.le_trans hbel.size (Nat.le_refl _)) _
 have hbm:(w1.alloc (.mapIter (some b) 8 #[] 8)).heap[b]?=some (.map wordEs 8):=(Below.heap_alloc _ _ _ hb1).trans hb
 have hrm:(w1.alloc (.mapIter (some b) 8 #[] 8)).heap[w1.heap.size]?=some (.mapIter (some b) 8 #[] 8):=heap_alloc_new w1 _
 have hr0:w.heap.size≤w1.heap.size:=hbel.size
 generalize hr:w1.heap.size=r at *
 generalize w1.alloc (.mapIter (some b) 8 #[] 8)=w2 at *
 clear hlt1 hb hbel hb1
 -- what holds between two rounds
 let Inv:Array Nat→Act→World→Prop:=fun seen b' w'=>b'.defers=[]∧b'.tmps.size=nt∧(∀t,t≠5→hwSlots.contains t=false→R G (σ t) (tv b' t))∧tv b' 16=.pointer (some ⟨r,0,none⟩)∧tv b' 5=.string ⟨(curOf n seen).toArray⟩∧
  w'.heap[b]?=some (.map wordEs 8)∧(∃c,w'.heap[r]?=some (.mapIter (some b) 8 seen c)∧8≤c)∧Below w.heap.size w w'
 have out :∀{b':Act} {w':World} {seen:Array Nat},Inv seen b' w'→(leftOf wordEs seen).size=0→Q .normal b' w':=by
  intro b' w' seen hI h0
  obtain ⟨i1,i2,i3,i4,i5,i6,i7,i8⟩:=hI
  refine hQ b' w' G ⟨i1,i2,fun t=>?_⟩ ⟨.refl G,hR.below i8,Nat.le_refl _,fun _ _ _=>⟨rfl,rfl⟩,fun _ _ _ _ _ _ h=>h,fun _ _ _ h=>.inl h⟩
  unfold hs243
  split
  ·rename_i ht
   subst ht
   rw [cur_all h0] at i5
   have:R G (.s (wordM n)) (tv b' 5):=by rw [i5];exact .fz _ _ (.s _)
   exact this
  ·split
   ·exact .fz _ _ (.u _)
   ·rename_i h1 h2
    exact i3 t h1 (by simpa using h2)
 have init:Inv #[] ((a.put (some 15) (.map (some b))).put (some 16) (.pointer (some ⟨r,0,none⟩))) w2:=by
  have s15:(a.put (some 15) (.map (some b))).tmps.size=nt:=by simp [Act.put,hsz]
  refine ⟨hA.1,by simp [Act.put,hsz],fun t h1 h2=>?_,?_,?_,hbm,⟨8,hrm,Nat.le_refl _⟩,hbel1⟩
  ·have n15:t≠15:=by rintro rfl;simp [hwSlots] at h2
   have n16:t≠16:=by rintro rfl;simp [hwSlots] at h2
   rw [tv_put _ _ _ _ (by omega),if_neg n16,tv_put _ _ _ _ (by omega),if_neg n15]
   exact hA.2.2 t
  ·rw [tv_put _ _ _ _ (by omega),if_pos rfl]
  ·rw [tv_put _ _ _ _ (by omega),if_neg (by decide),tv_put _ _ _ _ (by omega),if_neg (by decide)]
   have h3:=hA.2.2 5
   rw [q5] at h3
   rw [show tv a 5=.string ⟨([]:List UInt8).toArray⟩ from h3.str_inv]
   unfold curOf
   rw [if_neg (by simp)]
 generalize (a.put (some 15) (.map (some b))).put (some 16) (.pointer (some ⟨r,0,none⟩))=a1 at init
 show wpOps P ops5 _ [] a1 w2
 show Code.wp P _ _ a1 w2
 refine wp_block (wp_loop_rounds 9 ?_)
 have rounds :∀(m:Nat) (seen:Array Nat) (b':Act) (w':World),Inv seen b' w'→(leftOf wordEs seen).size<m→Code.rounds P (.seq (.region 6 ops6 false) (.seq (.cond (.tmp 18) .skip (.exit 0)) (.block 1 (.seq (.region 7 ops7 false) (.seq (.region 8 ops8 false) (.cond (.tmp 25) (.region 9 ops9 false) .skip)))))) (Exit.inBlock 0 Q) m b' w':=by
  intro m
  induction m with
  | zero=>intro seen b' w' _ h;exact absurd h (Nat.not_lt_zero _)
  | succ m ih=>
   intro seen b' w' hI hm
   rw [rounds_succ]
   obtain ⟨i1,i2,i3,i4,i5,i6,⟨c,i7,i7c⟩,i8⟩:=hI
   refine wp_seq (wp_region ?_)
   rw [h6.size]
   show wpOps P ops6 _ [0,1] _ _
   obtain ⟨o0,o1,o2,o3,o4⟩:=h6.at (i:=0) rfl
   rcases run_next_at (P:=P) w' o0.type r b 8 c seen wordEs 8 i7 i6 (fun x hx=>wordEs_born hx) i7c with ⟨hz,hrun⟩ | ⟨ent,hent,w3,hw3,hrun⟩
   · -- all have come
    refine st_valo o1 o2 o4 (v:=.tuple #[.bool false]) (w':=w') ?_ ?_
    ·simp only [execOp,o3]
     refine run_val ?_
     rw [show b'.eval (.tmp 16)=.pointer (some ⟨r,0,none⟩) from i4]
     exact hrun
    have e17:tv (b'.put (some 17) (.tuple #[.bool false])) 17=.tuple #[.bool false]:=by rw [tv_put _ _ _ _ (by omega),if_pos rfl]
    refine st_val h6 (d:=18) (v:=.bool false) (w':=w') rfl (fun o ho=>?_) ?_
    ·simp only [execOp,ho]
     refine run_val ?_
     rw [show (b'.put (some 17) (.tuple #[.bool false])).eval (.tmp 17)=.tuple #[.bool false] from e17]
     simp [Instr.extract]
    refine wp_seq (wp_cond_false ?_ (wp_exit ?_))
    ·show tv _ 18=_
     rw [tv_put _ _ _ _ (by simp [Act.put];omega),if_pos rfl]
    ·show Exit.inBlock 0 Q (.exit 0) _ _
     simp only [Exit.inBlock,if_true]
     refine out (seen:=seen) ⟨i1,by simp [Act.put,i2],fun t h1 h2=>?_,?_,?_,i6,⟨c,i7,i7c⟩,i8⟩ hz
     ·have n17:t≠17:=by rintro rfl;simp [hwSlots] at h2
      have n18:t≠18:=by rintro rfl;simp [hwSlots] at h2
      rw [tv_put _ _ _ _ (by simp [Act.put];omega),if_neg n18,tv_put _ _ _ _ (by omega),if_neg n17]
      exact i3 t h1 h2
     ·rw [tv_put _ _ _ _ (by simp [Act.put];omega),if_neg (by decide),tv_put _ _ _ _ (by omega),if_neg (by decide)]
      exact i4
     ·rw [tv_put _ _ _ _ (by simp [Act.put];omega),if_neg (by decide),tv_put _ _ _ _ (by omega),if_neg (by decide)]
      exact i5
   · -- one more
    have hmem:ent∈wordEs.toList:=by
     unfold leftOf at hent
     simp only [Array.toList_filter',List.mem_filter] at hent
     exact hent.1
    obtain ⟨j,hj,rfl⟩:=wordEs_mem hmem
    have hlt:=left_push hent
    have hrne:b≠r:=by rintro rfl;rw [i6] at i7;cases i7
    have hrlt:r<w'.heap.size:=(Array.getElem?_eq_some_iff.1 i7).1
    have h3:w3.heap=w'.heap:=by rcases hw3 with rfl | rfl<;>rfl
    have hbel3:Below w.heap.size w w3:=by
     rcases hw3 with rfl | rfl
     ·exact i8
     ·exact i8.drew
    have hb3:(setBlock w3 r (.mapIter (some b) 8 (seen.push j) 8)).heap[b]?=some (.map wordEs 8):=(setBlock_ne hrne).trans (by rw [h3];exact i6)
    have hr3:(setBlock w3 r (.mapIter (some b) 8 (seen.push j) 8)).heap[r]?=some (.mapIter (some b) 8 (seen.push j) 8):=setBlock_at (by rw [h3];exact hrlt)
    have hbel4:Below w.heap.size w (setBlock w3 r (.mapIter (some b) 8 (seen.push j) 8)):=setBlock_below hbel3 hr0
    have hrun':(Instr.next (.pointer (some ⟨r,0,none⟩)) false o0.type).run P w'=.ok (.tuple #[.bool true,.string ⟨(wordM ((j:Int)+1)).toArray⟩,.int .u8 ((j:Int)+1)]) (setBlock w3 r (.mapIter (some b) 8 (seen.push j) 8)):=hrun
    generalize setBlock w3 r (.mapIter (some b) 8 (seen.push j) 8)=w4 at *
    have hrel:Rel G w0 st' w4:=hR.below hbel4
    refine st_valo o1 o2 o4 (v:=.tuple #[.bool true,.string ⟨(wordM ((j:Int)+1)).toArray⟩,.int .u8 ((j:Int)+1)]) (w':=w4) ?_ ?_
    ·simp only [execOp,o3]
     refine run_val ?_
     rw [show b'.eval (.tmp 16)=.pointer (some ⟨r,0,none⟩) from i4]
     exact hrun'
    -- what the slots hold
    let A:(Nat→Value)→Act→Prop:=fun f b'=>b'.defers=[]∧b'.tmps.size=nt∧∀t,tv b' t=f t
    have put :∀{f:Nat→Value} {b':Act} (d:Nat) (v:Value),d<27→A f b'→A (fun t=>if t=d then v else f t) (b'.put (some d) v):=by
     rintro f b' d v hd ⟨p1,p2,p3⟩
     refine ⟨p1,by simp [Act.put,p2],fun t=>?_⟩
     rw [tv_put _ _ _ _ (by omega),p3]
    have a0:A (tv b') b':=⟨i1,i2,fun _=>rfl⟩
    have a17:=put 17 (.tuple #[.bool true,.string ⟨(wordM ((j:Int)+1)).toArray⟩,.int .u8 ((j:Int)+1)]) (by decide) a0
    generalize b'.put (some 17) (.tuple #[.bool true,.string ⟨(wordM ((j:Int)+1)).toArray⟩,.int .u8 ((j:Int)+1)])=b1 at a17 ⊢
    refine st_val h6 (d:=18) (v:=.bool true) (w':=w4) rfl (fun o ho=>?_) ?_
    ·simp only [execOp,ho]
     refine run_val ?_
     rw [show b1.eval (.tmp 17)=_ from a17.2.2 17]
     simp [Instr.extract]
    have a18:=put 18 (.bool true) (by decide) a17
    generalize b1.put (some 18) (.bool true)=b2 at a18 ⊢
    show Code.wp P _ _ b2 w4
    refine wp_seq (wp_cond_true (a18.2.2 18) (wp_skip ?_))
    show Code.wp P _ _ b2 w4
    refine wp_block (wp_seq (wp_region ?_))
    rw [h7.size]
    show wpOps P ops7 _ [0,1,2,3,4] _ _
    refine st_val h7 (d:=19) (v:=.tuple #[.string ⟨(wordM ((j:Int)+1)).toArray⟩,.int .u8 ((j:Int)+1)]) (w':=w4) rfl (fun o ho=>?_) ?_
    ·simp only [execOp,ho]
     refine run_val ?_
     rw [show b2.eval (.tmp 16)=.pointer (some ⟨r,0,none⟩) from (a18.2.2 16).trans i4]
     exact run_entry_at w4 r b 8 seen wordEs 8 (wordE j) hr3 hb3 hmem wordEs_nodup
    have a19:=put 19 (.tuple #[.string ⟨(wordM ((j:Int)+1)).toArray⟩,.int .u8 ((j:Int)+1)]) (by decide) a18
    generalize b2.put (some 19) (.tuple #[.string ⟨(wordM ((j:Int)+1)).toArray⟩,.int .u8 ((j:Int)+1)])=b3 at a19 ⊢
    refine st_val h7 (d:=20) (v:=.string ⟨(wordM ((j:Int)+1)).toArray⟩) (w':=w4) rfl (fun o ho=>?_) ?_
    ·simp only [execOp,ho]
     refine run_val ?_
     rw [show b3.eval (.tmp 19)=_ from a19.2.2 19]
     simp [Instr.extract]
    have a20:=put 20 (.string ⟨(wordM ((j:Int)+1)).toArray⟩) (by decide) a19
    generalize b3.put (some 20) (.string ⟨(wordM ((j:Int)+1)).toArray⟩)=b4 at a20 ⊢
    refine st_val h7 (d:=21) (v:=.int .u8 ((j:Int)+1)) (w':=w4) rfl (fun o ho=>?_) ?_
    ·simp only [execOp,ho]
     refine run_val ?_
     rw [show b4.eval (.tmp 19)=_ from a20.2.2 19]
     simp [Instr.extract]
    have a21:=put 21 (.int .u8 ((j:Int)+1)) (by decide) a20
    generalize b4.put (some 21) (.int .u8 ((j:Int)+1))=b5 at a21 ⊢
    refine st_val h7 (d:=6) (v:=.string ⟨(wordM ((j:Int)+1)).toArray⟩) (w':=w4) rfl (fun o ho=>?_) ?_
    ·simp only [execOp,ho]
     rw [show b5.eval (.tmp 20)=_ from a21.2.2 20]
     rfl
    have a6:=put 6 (.string ⟨(wordM ((j:Int)+1)).toArray⟩) (by decide) a21
    generalize b5.put (some 6) (.string ⟨(wordM ((j:Int)+1)).toArray⟩)=b6 at a6 ⊢
    refine st_val h7 (d:=7) (v:=.int .u8 ((j:Int)+1)) (w':=w4) rfl (fun o ho=>?_) ?_
    ·simp only [execOp,ho]
     rw [show b6.eval (.tmp 21)=_ from a6.2.2 21]
     rfl
    have a7:=put 7 (.int .u8 ((j:Int)+1)) (by decide) a6
    generalize b6.put (some 7) (.int .u8 ((j:Int)+1))=b7 at a7 ⊢
    show Code.wp P _ _ b7 w4
    refine wp_seq (wp_region ?_)
    rw [h8.size]
    show wpOps P ops8 _ [0,1,2,3] _ _
    refine st_val h8 (d:=22) (v:=.int .u8 ((j:Int)+1)) (w':=w4) rfl (fun o ho=>?_) ?_
    ·simp only [execOp,ho]
     rw [show b7.eval (.tmp 7)=_ from a7.2.2 7]
     rfl
    have a22:=put 22 (.int .u8 ((j:Int)+1)) (by decide) a7
    generalize b7.put (some 22) (.int .u8 ((j:Int)+1))=b8 at a22 ⊢
    have hp1:R G (.p kk v 0) (tv b8 1):=by
     rw [a22.2.2 1,← q1]
     exact i3 1 (by decide) (by decide)
    obtain ⟨ti,hti,hsz5,_⟩:=(hT t5 i5' hi5).ti
    obtain ⟨va,hva,hRa⟩:=fad_ok (P:=P) (w:=w4) hst hf0 hti (by omega) (x:=.p kk v 0) (r:=.p kk v (0+0)) rfl hp1
    refine st_val h8 (d:=23) (v:=va) (w':=w4) rfl (fun o ho=>?_) ?_
    ·simp only [execOp,ho]
     exact run_val hva
    have a23:=put 23 va (by decide) a22
    generalize b8.put (some 23) va=b9 at a23 ⊢
    obtain ⟨vl,hvl,hRl⟩:=aload_ok (P:=P) hrel (hT t5 i5' hi5) (fun _=>hi5s) (x:=.p kk v (0+0)) (r:=.i .u8 n) (by rw [hi5s,hi5a];simp [aload,qb,ofCells]) hRa
    refine st_val h8 (d:=24) (v:=.int .u8 n) (w':=w4) rfl (fun o ho=>?_) ?_
    ·simp only [execOp,ho]
     refine run_val ?_
     rw [show b9.eval (.tmp 23)=va from a23.2.2 23,← hRl.int_inv]
     exact hvl
    have a24:=put 24 (.int .u8 n) (by decide) a23
    generalize b9.put (some 24) (.int .u8 n)=b10 at a24 ⊢
    refine st_val h8 (d:=25) (v:=.bool (((j:Int)+1)==n)) (w':=w4) rfl (fun o ho=>?_) ?_
    ·simp only [execOp,ho]
     refine run_val ?_
     rw [show b10.eval (.tmp 22)=.int .u8 ((j:Int)+1) from a24.2.2 22,show b10.eval (.tmp 24)=.int .u8 n from a24.2.2 24]
     simp only [Sem.run_bind,eqGuard_int,Result.andThen_ok]
     simp [binOp,Op.intCmp]
    have a25:=put 25 (.bool (((j:Int)+1)==n)) (by decide) a24
    generalize b10.put (some 25) (.bool (((j:Int)+1)==n))=b11 at a25 ⊢
    show Code.wp P _ _ b11 w4
    have hcp:=cur_push (n:=n) (seen:=seen) hj
    have next :∀(f:Nat→Value) (b':Act),A f b'→(∀t,t≠5→hwSlots.contains t=false→f t=tv b11 t)→f 16=.pointer (some ⟨r,0,none⟩)→f 5=.string ⟨(curOf n (seen.push j)).toArray⟩→Code.rounds P (.seq (.region 6 ops6 false) (.seq (.cond (.tmp 18) .skip (.exit 0)) (.block 1 (.seq (.region 7 ops7 false) (.seq (.region 8 ops8 false) (.cond (.tmp 25) (.region 9 ops9 false) .skip)))))) (Exit.inBlock 0 Q) m b' w4:=by
     rintro f b' ⟨p1,p2,p3⟩ p4 p5 p6
     refine ih (seen.push j) b' w4 ⟨p1,p2,fun t h1 h2=>?_,by rw [p3];exact p5,by rw [p3];exact p6,hb3,⟨8,hr3,Nat.le_refl _⟩,hbel4⟩ (by have:(wordE j).born=j:=rfl;rw [this] at hlt;omega)
     rw [p3,p4 t h1 h2,a25.2.2 t]
     have hn :∀d,hwSlots.contains d=true→t≠d:=by rintro d hd rfl;rw [hd] at h2;cases h2
     simp only [if_neg (hn 25 rfl),if_neg (hn 24 rfl),if_neg (hn 23 rfl),if_neg (hn 22 rfl),if_neg (hn 7 rfl),if_neg (hn 6 rfl),if_neg (hn 21 rfl),if_neg (hn 20 rfl),if_neg (hn 19 rfl),if_neg (hn 18 rfl),if_neg (hn 17 rfl)]
     exact i3 t h1 h2
    cases hq:(((j:Int)+1)==n) with
    | false=>
     refine wp_cond_false ?_ (wp_skip ?_)
     ·rw [← hq];exact a25.2.2 25
     ·refine next _ b11 ⟨a25.1,a25.2.1,fun _=>rfl⟩ (fun _ _ _=>rfl) ((a25.2.2 16).trans i4) ?_
      rw [hcp,if_neg (by rw [Bool.not_eq_true];simp only [beq_eq_false_iff_ne,ne_eq] at hq ⊢;exact fun h=>hq h.symm)]
      exact (a25.2.2 5).trans i5
    | true=>
     refine wp_cond_true ?_ (wp_region ?_)
     ·rw [← hq];exact a25.2.2 25
     rw [h9.size]
     show wpOps P ops9 _ [0,1] _ _
     refine st_val h9 (d:=26) (v:=.string ⟨(wordM ((j:Int)+1)).toArray⟩) (w':=w4) rfl (fun o ho=>?_) ?_
     ·simp only [execOp,ho]
      rw [show b11.eval (.tmp 6)=_ from a25.2.2 6]
      rfl
     have a26:=put 26 (.string ⟨(wordM ((j:Int)+1)).toArray⟩) (by decide) a25
     have e26 :∀t,t≠26→tv (b11.put (some 26) (.string ⟨(wordM ((j:Int)+1)).toArray⟩)) t=tv b11 t:=fun t ht=>by rw [tv_put _ _ _ _ (by have:=a25.2.1;omega),if_neg ht]
     generalize b11.put (some 26) (.string ⟨(wordM ((j:Int)+1)).toArray⟩)=b12 at a26 e26 ⊢
     refine st_val h9 (d:=5) (v:=.string ⟨(wordM ((j:Int)+1)).toArray⟩) (w':=w4) rfl (fun o ho=>?_) ?_
     ·simp only [execOp,ho]
      rw [show b12.eval (.tmp 26)=_ from a26.2.2 26]
      rfl
     have a5:=put 5 (.string ⟨(wordM ((j:Int)+1)).toArray⟩) (by decide) (show A (tv b12) b12 from ⟨a26.1,a26.2.1,fun _=>rfl⟩)
     generalize b12.put (some 5) (.string ⟨(wordM ((j:Int)+1)).toArray⟩)=b13 at a5 ⊢
     refine next _ b13 a5 (fun t h1 h2=>?_) ?_ ?_
     ·have n26:t≠26:=by rintro rfl;simp [hwSlots] at h2
      show (if t=5 then _ else tv b12 t)=_
      rw [if_neg h1,e26 t n26]
     ·show (if (16:Nat)=5 then _ else tv b12 16)=_
      rw [if_neg (by decide),e26 16 (by decide)]
      exact (a25.2.2 16).trans i4
     ·show (if (5:Nat)=5 then _ else tv b12 5)=_
      rw [if_pos rfl,hcp,if_pos (by simp only [beq_iff_eq] at hq ⊢;exact hq.symm)]
 exact rounds 9 #[] a1 w2 init (left_le _)
end
end Go.AM

namespace Go.AM
open Go
set_option linter.unusedVariables false
set_option linter.unusedSimpArgs false
set_option maxRecDepth 4000
attribute [local irreducible] WO fillCells fillRows
def r243_0:List AI:=[oY 1 5 0,oC 2 (.s []),oI 3 0]
def r243_1:List AI:=[oK 10 5 1,oQ 11 247 [10],oM 4 11]
def r243_2:List AI:=[oM 12 4,oV 13 .neq 12 0]
def r243_3:List AI:=[oM 14 4,oC 2 (.s []),oM 3 14]
def r243_4:List AI:=[oC 5 (.s [])]
def r243_5:List AI:=[oF 27 0 1,oL 28 27]
def r243_6:List AI:=[oW 36 .eql 28 1,oM 35 36]
def r243_7:List AI:=[oW 38 .eql 28 3,oM 37 38]
def r243_8:List AI:=[oM 39 5,oF 40 1 1,oL 41 40,oQ 42 258 [41],oB 43 .add (.c (.s [32])) (.t 42),oB 44 .add (.t 43) (.c (.s [32])),oF 45 2 1,oL 46 45,oQ 47 258 [46],oT 48 .add 44 47,oT 49 .add 39 48,oM 5 49]
def r243_9:List AI:=[oW 51 .eql 28 6,oM 50 51]
def r243_10:List AI:=[oM 52 5,oF 53 3 1,oL 54 53,oQ 55 15 [54],oB 56 .add (.c (.s [32])) (.t 55),oT 57 .add 52 56,oM 5 57]
def r243_11:List AI:=[oW 59 .eql 28 7,oM 58 59]
def r243_12:List AI:=[oW 60 .eql 28 8,oM 58 60]
def r243_13:List AI:=[oF 62 4 1,oL 63 62,oQ 64 11 [63],oM 61 64,oE 65 0 61,oE 66 1 61,oM 8 65,oM 9 66]
def r243_14:List AI:=[oM 67 9,oV 68 .neq 67 0]
def r243_15:List AI:=[oM 69 9,oC 2 (.s []),oM 3 69]
def r243_16:List AI:=[oM 70 5,oM 71 8,oB 72 .add (.c (.s [32])) (.t 71),oT 73 .add 70 72,oM 5 73]
def r243_17:List AI:=[oM 29 5,oF 30 1 1,oL 31 30,oQ 32 258 [31],oB 33 .add (.c (.s [32])) (.t 32),oT 34 .add 29 33,oM 5 34]
def r243_18:List AI:=[oM 74 5,oM 2 74,oI 3 0]
abbrev c243_0:AC:=(.cond (.t 58) (sR 19 r243_13 (.seq (sR 20 r243_14 (.cond (.t 68) (sR 21 r243_15 .ret) .skip)) (.reg 22 r243_16))) (.reg 11 r243_17))
abbrev c243_1:AC:=(sR 23 r243_18 .ret)
abbrev c243_2:AC:=(sR 4 r243_4 (.seq (.hand hw243) (.seq (sR 10 r243_5 (.block 2 (sR 12 r243_6 (.cond (.t 35) .skip (sR 13 r243_7 (.cond (.t 37) (.reg 14 r243_8) (sR 15 r243_9 (.cond (.t 50) (.reg 16 r243_10) (.seq (sR 17 r243_11 (.cond (.t 58) .skip (.reg 18 r243_12))) c243_0))))))))) c243_1)))
abbrev c243_3:AC:=(.seq (sR 1 r243_1 (sR 2 r243_2 (.cond (.t 13) (sR 3 r243_3 .ret) .skip))) c243_2)
abbrev b243:AC:=(sR 0 r243_0 c243_3)
def pf243:AF:={ nt:=75,res:=[.tmp 2,.tmp 3],body:=b243 }
def T243_3 (prog:Prog)(K:BS→Int→Prop)(s5:BS):Prop:=
  K s5 0
def T243_4 (prog:Prog)(K:BS→Int→Prop)(s5:BS)(t58:Bool)(m0:Qry):Prop:=
  (t58=true→∃e:BS,∃c,Pus prog 11 [.s m0.name] (.tup [.s e,.i .i64 c])∧(c≠0→K ([]:BS) c)∧(¬(c≠0)→([32]:BS).length+e.length≤maxStr∧s5.length+(([32]:BS)++e).length≤maxStr∧T243_3 prog K (s5++(([32]:BS)++e))))∧(t58=false→∃j:BS,Pus prog 258 [.i .i64 m0.g] (.s j)∧([32]:BS).length+j.length≤maxStr∧s5.length+(([32]:BS)++j).length≤maxStr∧T243_3 prog K (s5++(([32]:BS)++j)))
def T243_2 (prog:Prog)(K:BS→Int→Prop)(m0:Qry):Prop:=
  (m0.kind=1→T243_3 prog K (wordM m0.kind))∧(¬(m0.kind=1)→(m0.kind=3→∃c:BS,Pus prog 258 [.i .i64 m0.g] (.s c)∧([32]:BS).length+c.length≤maxStr∧(([32]:BS)++c).length+([32]:BS).length≤maxStr∧∃e:BS,Pus prog 258 [.i .i64 m0.k] (.s e)∧((([32]:BS)++c)++([32]:BS)).length+e.length≤maxStr∧(wordM m0.kind).length+(((([32]:BS)++c)++([32]:BS))++e).length≤maxStr∧T243_3 prog K ((wordM m0.kind)++(((([32]:BS)++c)++([32]:BS))++e)))∧(¬(m0.kind=3)→(m0.kind=6→∃j:BS,Pus prog 15 [.i .i64 m0.key] (.s j)∧([32]:BS).length+j.length≤maxStr∧(wordM m0.kind).length+(([32]:BS)++j).length≤maxStr∧T243_3 prog K ((wordM m0.kind)++(([32]:BS)++j)))∧(¬(m0.kind=6)→(m0.kind=7→T243_4 prog K (wordM m0.kind) (decide (m0.kind=7)) m0)∧(¬(m0.kind=7)→T243_4 prog K (wordM m0.kind) (decide (m0.kind=8)) m0))))
def T243_1 (prog:Prog)(K:BS→Int→Prop)(m0:Qry):Prop:=
  ∃c,Pus prog 247 [m0.av] (.i .i64 c)∧(c≠0→K ([]:BS) c)∧(¬(c≠0)→T243_2 prog K m0)
def T243_0 (prog:Prog)(K:BS→Int→Prop)(q0:Qry):Prop:=
  T243_1 prog K q0
section
variable {prog:Prog}{d:Nat}{Q:AE→Sl→St→Prop}{K:BS→Int→Prop}(hQ:H2 AV.s (AV.i .i64) 2 3 Q K){σ:Sl}{st:St}
include hQ
variable {s5:BS}{t58:Bool}{m0:Qry}{v0:Nat}{q0:Qry}
variable (H1:σ 1=.p (d,0) v0 0)(H0:σ 0=q0.av)(H5:σ 5=.s s5)(H58:σ 58=.b t58)(B0:lk st.bx (d,0)=some (v0,Qry.cs m0))
include H5 in
theorem w243_3 (h:T243_3 prog K s5):W prog d c243_1 σ st Q:=
 q_ J (m_ (m_ (m_ (er_ (hQ H5 J h)))))
include H1 H5 H58 B0 in
theorem w243_4 (h:T243_4 prog K s5 t58 m0):W prog d c243_0 σ st (blockW 2 (thenW prog d c243_1 Q)):=
 cb_ H58 (fun j=>q_ J (f_ H1 (l_ J B0 J J (x2 (h.1 j) fun _ _ c=>ca_ (sc1 J J) c.1 (m_ (x_ J J (x_ J J (m_ (m_ (e_ (sq_ (q_ J (m_ (b_ J J neq_ (e_ (cs_ J (fun e=>q_ J (m_ (m_ (m_ (er_ (hQ J J (c.2.1 e))))))) (fun e=>sk_ (W.reg0 J fun _ _=>m_ (m_ (b_ J J (abin_cat' (c.2.2 e).1) (b_ H5 J (abin_cat' (c.2.2 e).2.1) (m_ (e_ (w243_3 hQ J (c.2.2 e).2.2)))))))))))))))))))))))) (fun j=>W.reg0 J fun _ _=>m_ (f_ H1 (l_ J B0 J J ((h.2 j).elim fun _ i=>ca_ (sc1 J J) i.1 (b_ J J (abin_cat' i.2.1) (b_ H5 J (abin_cat' i.2.2.1) (m_ (e_ (w243_3 hQ J i.2.2.2)))))))))
include H1 B0 in
theorem w243_2 (h:T243_2 prog K m0):W prog d c243_2 σ st Q:=
 q_ J (m_ (e_ (sq_ (W.hand (hw243_eq H1 J B0) (sq_ (q_ J (f_ H1 (l_ J B0 J J (e_ (bk_ (q_ J (b_ J J eql_ (m_ (e_ (cs_ J (fun c=>sk_ (w243_3 hQ J (h.1 c))) (fun c=>q_ J (b_ J J eql_ (m_ (e_ (cs_ J (fun e=>W.reg0 J fun _ _=>m_ (f_ H1 (l_ J B0 J J (((h.2 c).1 e).elim fun _ i=>ca_ (sc1 J J) i.1 (b_ J J (abin_cat' i.2.1) (b_ J J (abin_cat' i.2.2.1) (f_ H1 (l_ J B0 J J (i.2.2.2.elim fun _ j=>ca_ (sc1 J J) j.1 (b_ J J (abin_cat' j.2.1) (b_ J J (abin_cat' j.2.2.1) (m_ (e_ (w243_3 hQ J j.2.2.2)))))))))))))) (fun e=>q_ J (b_ J J eql_ (m_ (e_ (cs_ J (fun o=>W.reg0 J fun _ _=>m_ (f_ H1 (l_ J B0 J J ((((h.2 c).2 e).1 o).elim fun _ k=>ca_ (sc1 J J) k.1 (b_ J J (abin_cat' k.2.1) (b_ J J (abin_cat' k.2.2.1) (m_ (e_ (w243_3 hQ J k.2.2.2))))))))) (fun o=>sq_ (q_ J (b_ J J eql_ (m_ (e_ (cs_ J (fun p=>sk_ (w243_4 hQ H1 J J B0 ((((h.2 c).2 e).2 o).1 p))) (fun p=>W.reg0 J fun _ _=>b_ J J eql_ (m_ (e_ (w243_4 hQ H1 J J B0 ((((h.2 c).2 e).2 o).2 p))))))))))))))))))))))))))))))))))))
include H1 B0 in
theorem w243_1 (h:T243_1 prog K m0):W prog d c243_3 σ st Q:=
 sq_ (q_ J (l_ H1 B0 J J (h.elim fun _ c=>ca_ (sc1 J J) c.1 (m_ (e_ (q_ J (m_ (b_ J J neq_ (e_ (cs_ J (fun e=>q_ J (m_ (m_ (m_ (er_ (hQ J J (c.2.1 e))))))) (fun e=>sk_ (w243_2 hQ H1 B0 (c.2.2 e)))))))))))))
include H0 in
theorem w243_0 (h:T243_0 prog K q0):W prog d (sR 0 r243_0 c243_3) σ st Q:=
 q_ J (s_box H0 J (m_ (m_ (e_ (w243_1 hQ J lk_here h)))))
end
theorem p243 {prog:Prog}(hf:prog.fn 243=some pf243){q0:Qry}{K:BS→Int→Prop}(h:T243_0 prog K q0) :∃res0:BS,∃res1:Int,K res0 res1∧Pus prog 243 [q0.av] (.tup [.s res0,.i .i64 res1]):=
 P2 hf J (w243_0 (h2 J fun _ _=>J) J h)
end Go.AM

namespace Go.AM
open Go
set_option linter.unusedVariables false
set_option linter.unusedSimpArgs false
set_option maxRecDepth 4000
set_option maxHeartbeats 2000000
attribute [local irreducible] Decidable.decide W WO fillCells fillRows
def r276_0:List AI:=[oM 4 0,oM 5 0,oN 6 5,oF 7 12 6,oL 8 7,oM 9 1,oO 10 (.bslice [zs] 1 [(0,(.t 9))]),oO 11 (.app 1 16 (.t 8) (.t 10)),oN 12 4,oF 13 12 12,oS 1 13 11]
abbrev b276:AC:=(.reg 500000 r276_0)
def pf276:AF:={ nt:=14,res:=[],body:=b276 }
def r271_0:List AI:=[oI 1 0]
def r271_1:List AI:=[oL 2 0,oL 3 0,oO 4 (.mkbf 273 [(.t 3)]),oO 5 (.call true 272 [(.t 2),(.t 4)]),oM 1 5]
abbrev b271:AC:=(sR 0 r271_0 (sR 1 r271_1 .ret))
def pf271:AF:={ nt:=6,res:=[.tmp 1],body:=b271 }
def r274_0:List AI:=[oI 1 0]
def r274_1:List AI:=[oL 2 0,oL 3 0,oO 4 (.mkbf 275 [(.t 3)]),oO 5 (.call true 272 [(.t 2),(.t 4)]),oM 1 5]
abbrev b274:AC:=(sR 0 r274_0 (sR 1 r274_1 .ret))
def pf274:AF:={ nt:=6,res:=[.tmp 1],body:=b274 }
def r273_0:List AI:=[oY 7 4 3,oI 8 0]
def r273_1:List AI:=[oM 9 0,oN 10 9,oF 11 0 10,oF 12 2 11,oL 13 12,oF 14 0 7,oL 15 14,oX 16 7 13 15,oF 17 0 16,oL 18 17,oM 19 0,oN 20 19,oF 21 7 20,oF 22 4 21,oL 23 22,oT 24 .eql 18 23]
def r273_2:List AI:=[oM 25 0,oM 26 1,oQ 27 258 [26],oB 28 .add (.t 27) (.c (.s [32])),oM 29 2,oQ 30 258 [29],oT 31 .add 28 30,oB 32 .add (.t 31) (.c (.s [32,97,116,32])),oF 33 1 7,oL 34 33,oQ 35 258 [34],oT 36 .add 32 35,oO 37 (.call true 276 [(.t 25),(.t 36)])]
def r273_3:List AI:=[oI 8 0]
abbrev c273_0:AC:=(sR 3 r273_3 .ret)
abbrev b273:AC:=(sR 0 r273_0 (.seq (sR 1 r273_1 (.cond (.t 24) (.reg 2 r273_2) .skip)) c273_0))
def pf273:AF:={ nt:=38,res:=[.tmp 8],body:=b273 }
def T273_1 (prog:Prog)(K:Int→Dsk→Prop)(mP:Dsk):Prop:=
  K 0 mP
def T273_0 (prog:Prog)(K:Int→Dsk→Prop)(g1:Int)(k2:Int)(x3:Frm)(mP:Dsk):Prop:=
  0≤x3.func∧∃j:Fun,mP.image.funcs[(x3.func).toNat]?=some j∧(j.name=mP.query.name→∃c:BS,Pus prog 258 [.i .i64 g1] (.s c)∧c.length+([32]:BS).length≤maxStr∧∃e:BS,Pus prog 258 [.i .i64 k2] (.s e)∧(c++([32]:BS)).length+e.length≤maxStr∧((c++([32]:BS))++e).length+([32,97,116,32]:BS).length≤maxStr∧∃k:BS,Pus prog 258 [.i .i64 x3.pos] (.s k)∧(((c++([32]:BS))++e)++([32,97,116,32]:BS)).length+k.length≤maxStr∧∃o:Dsk,PuX prog 276 (Dk mP) [.s ((((c++([32]:BS))++e)++([32,97,116,32]:BS))++k)] (fun r=>r=.tup []) ((Dk o))∧T273_1 prog K o)∧(¬(j.name=mP.query.name)→T273_1 prog K mP)
section
variable {prog:Prog}{d:Nat}{Q:AE→Sl→St→Prop}{K:Int→Dsk→Prop}{st0:St}{kp:Key}{vp:Nat}(hQ:HD d st0 kp vp Dk (AV.i .i64) 8 Q K)(hkp:kp.1<d){σ:Sl}{st:St}
include hQ hkp
variable {mP:Dsk}{g1 k2:Int}{x3:Frm}
variable (H0:σ 0=.p kp vp 0)(H1:σ 1=.i .i64 g1)(H2:σ 2=.i .i64 k2)(H3:σ 3=x3.av)(BP:Dk mP st.bx st.ow kp vp)(FR:Fr d kp st0.bx st0.ow st.bx st.ow)
include BP FR in
theorem w273_1 (h:T273_1 prog K mP):W prog d c273_0 σ st Q:=
 au trivial
include H0 H1 H2 H3 BP FR in
theorem w273_0 (h:T273_0 prog K g1 k2 x3 mP):W prog d (sR 0 r273_0 (.seq (sR 1 r273_1 (.cond (.t 24) (.reg 2 r273_2) .skip)) c273_0)) σ st Q:=
 q_ J (s_box H3 J (m_ (e_ (sq_ (q_ J (m_ (s_nilP H0 (f_ J (f_ J (s_loadD J (Dk.other (key_LP hkp) BP) J J (f_ J (l_ J lk_here J J (h.2.elim fun p e=>ia_ J J h.1 e.1 (Fun.row_eq p) J (ff_ J (lf_ J J J (m_ (s_nilP H0 (f_ J (f_ J (s_loadD J (Dk.other (key_LP hkp) BP) J J (b_ J J seq_ (e_ (cs_ J (fun k=>W.reg0 J fun _ _=>m_ (m_ ((e.2.1 k).elim fun _ i=>ca_ (sc1 H1 J) i.1 (b_ J J (abin_cat' i.2.1) (m_ (i.2.2.elim fun _ c=>ca_ (sc1 H2 J) c.1 (b_ J J (abin_cat' c.2.1) (b_ J J (abin_cat' c.2.2.1) (f_ J (l_ J lk_here J J (c.2.2.2.elim fun _ j=>ca_ (sc1 J J) j.1 (b_ J J (abin_cat' j.2.1) (j.2.2.elim fun _ o=>cX_ (sec H0 (sec J sen)) o.1 (Nat.lt_succ_of_lt hkp) (Dk.other (key_LP hkp) BP) (fun _ q r=>e_ (w273_1 hQ hkp q (Fr.pass (Fr.box FR) r) o.2))))))))))))))) (fun k=>sk_ (w273_1 hQ hkp (Dk.other (key_LP hkp) BP) (Fr.box FR) (e.2.2 k))))))))))))))))))))))))))
end
theorem p273 {prog:Prog}(hf:prog.fn 273=some pf273){g1:Int}{k2:Int}{x3:Frm}{mP:Dsk}{K:Int→Dsk→Prop}(h:T273_0 prog K g1 k2 x3 mP):PuXK prog 273 (Dk mP) [.i .i64 g1,.i .i64 k2,x3.av] (fun r (b_:Dsk)=>∃res0:Int,(r=.i .i64 res0)∧K res0 b_) (fun b_=>(Dk b_)):=
 PD hf J J (fun _=>Dk.out) fun d st kp vp hkp hB Q q=>w273_0 q hkp J J J J hB Fr.refl h
def r270_0:List AI:=[oI 2 0]
def r270_1:List AI:=[oM 5 0,oN 6 5,oF 7 3 6,oF 8 3 7,oL 9 8,oJ 10 9,oI 11 0]
def r270_2:List AI:=[oT 12 .lss 11 10]
def r270_3:List AI:=[oM 13 11,oX 14 5 9 11,oK 15 5 14,oO 4 (.alloc [z8,z6,zl,zl,zl]),oM 3 13,oS 5 4 15]
def r270_4:List AI:=[oF 16 0 4,oL 17 16,oW 18 .eql 17 2,oM 19 18,gT 19 (oF 20 1 4),gT 19 (oL 21 20),gT 19 (oM 22 0),gT 19 (oN 23 22),gT 19 (oF 24 7 23),gT 19 (oF 25 3 24),gT 19 (oL 26 25),gT 19 (oT 27 .eql 21 26),oA 28 19 27]
def r270_5:List AI:=[oM 29 0,oM 30 3,oQ 31 258 [30],oB 32 .add (.c (.s [103,111,114,111,117,116,105,110,101,32])) (.t 31),oO 33 (.call true 276 [(.t 29),(.t 32)])]
def r270_6:List AI:=[oV 34 .add 11 1,oM 11 34]
def r270_7:List AI:=[oI 2 0]
abbrev c270_0:AC:=(.cond (.t 28) (.reg 5 r270_5) .skip)
abbrev c270_1:AC:=(.reg 6 r270_6)
abbrev l270_0:AC:=(sR 2 r270_2 (.seq (.cond (.t 12) .skip (.exit 0)) (.seq (.block 1 (sR 3 r270_3 (sR 4 r270_4 c270_0))) c270_1)))
abbrev c270_3:AC:=(sR 7 r270_7 .ret)
abbrev b270:AC:=(sR 0 r270_0 (.seq (sR 1 r270_1 (.block 0 (.loop l270_0))) c270_3))
def pf270:AF:={ nt:=35,res:=[.tmp 2],body:=b270 }
abbrev I270_0 (prog:Prog)(d:Nat)(Q:AE→Sl→St→Prop)(st0:St)(kp:Key)(vp:Nat)(t9:List Rou)(t10:Int)(t11:Int)(mP:Dsk):Prop:=
  ∀(σ:Sl)(st:St)(o_t9:Own),σ 0=.p kp vp 0→σ 9=.sl o_t9 (List.map Rou.row t9)→σ 10=.i .i64 t10→σ 11=.i .i64 t11→Dk mP st.bx st.ow kp vp→Fr d kp st0.bx st0.ow st.bx st.ow→W prog d (.loop l270_0) σ st (blockW 0 (thenW prog d c270_3 Q))
def T270_3 (prog:Prog)(K:Int→Dsk→Prop)(P0:Int→Dsk→Prop)(t9:List Rou)(t10:Int)(t11:Int)(mP:Dsk):Prop:=
  P0 (IntKind.i64.wrap (t11+1)) mP
def T270_2 (prog:Prog)(K:Int→Dsk→Prop)(P0:Int→Dsk→Prop)(g3:Int)(t9:List Rou)(t10:Int)(t11:Int)(t28:Bool)(mP:Dsk):Prop:=
  (t28=true→∃c:BS,Pus prog 258 [.i .i64 g3] (.s c)∧([103,111,114,111,117,116,105,110,101,32]:BS).length+c.length≤maxStr∧∃e:Dsk,PuX prog 276 (Dk mP) [.s (([103,111,114,111,117,116,105,110,101,32]:BS)++c)] (fun r=>r=.tup []) ((Dk e))∧T270_3 prog K P0 t9 t10 t11 e)∧(t28=false→T270_3 prog K P0 t9 t10 t11 mP)
def T270_4 (prog:Prog)(K:Int→Dsk→Prop)(mP:Dsk):Prop:=
  K 0 mP
def T270_1 (prog:Prog)(K:Int→Dsk→Prop)(P0:Int→Dsk→Prop)(t9:List Rou)(t10:Int)(t11:Int)(mP:Dsk):Prop:=
  (t11<t10→0≤t11∧∃c:Rou,t9[(t11).toNat]?=some c∧(c.status=2→T270_2 prog K P0 t11 t9 t10 t11 (decide (c.key=mP.query.key)) mP)∧(¬(c.status=2)→T270_2 prog K P0 t11 t9 t10 t11 false mP))∧(¬(t11<t10)→T270_4 prog K mP)
def T270_0 (prog:Prog)(K:Int→Dsk→Prop)(mP:Dsk):Prop:=
  ∀P0:Int→Dsk→Prop,(∀(t11:Int)(mP_b:Dsk),T270_1 prog K P0 mP.state.routines (mP.state.routines.length:Int) t11 mP_b→P0 t11 mP_b)→P0 0 mP
section
variable {prog:Prog}{d:Nat}{Q:AE→Sl→St→Prop}{K:Int→Dsk→Prop}{st0:St}{kp:Key}{vp:Nat}(hQ:HD d st0 kp vp Dk (AV.i .i64) 2 Q K)(hkp:kp.1<d){σ:Sl}{st:St}
include hQ hkp
variable {t9:List Rou}{t10 t11:Int}{mP:Dsk}{P0:Int→Dsk→Prop}{o_t9:Own}{g3:Int}{t28:Bool}
variable (kP0 :∀(t11:Int)(mP:Dsk),P0 t11 mP→I270_0 prog d Q st0 kp vp t9 t10 t11 mP)(H0:σ 0=.p kp vp 0)(H3:σ 3=.i .i64 g3)(H9:σ 9=.sl o_t9 (List.map Rou.row t9))(H10:σ 10=.i .i64 t10)(H11:σ 11=.i .i64 t11)(H28:σ 28=.b t28)(BP:Dk mP st.bx st.ow kp vp)(FR:Fr d kp st0.bx st0.ow st.bx st.ow)
include kP0 H0 H9 H10 H11 BP FR in
theorem w270_3 (h:T270_3 prog K P0 t9 t10 t11 mP):W prog d c270_1 σ st (thenW prog d (.loop l270_0) (blockW 0 (thenW prog d c270_3 Q))):=
 au trivial
include kP0 H0 H3 H9 H10 H11 H28 BP FR in
theorem w270_2 (h:T270_2 prog K P0 g3 t9 t10 t11 t28 mP):W prog d c270_0 σ st (blockW 1 (thenW prog d c270_1 (thenW prog d (.loop l270_0) (blockW 0 (thenW prog d c270_3 Q))))):=
 cb_ H28 (fun e=>W.reg0 J fun _ _=>m_ (m_ ((h.1 e).elim fun _ c=>ca_ (sc1 H3 J) c.1 (b_ J J (abin_cat' c.2.1) (c.2.2.elim fun _ i=>cX_ (sec H0 (sec J sen)) i.1 (Nat.lt_succ_of_lt hkp) BP (fun _ j k=>e_ (w270_3 hQ hkp kP0 H0 H9 H10 H11 j (Fr.pass FR k) i.2))))))) (fun e=>sk_ (w270_3 hQ hkp kP0 H0 H9 H10 H11 BP FR (h.2 e)))
include BP FR in
theorem w270_4 (h:T270_4 prog K mP):W prog d c270_3 σ st Q:=
 au trivial
include kP0 H0 H9 H10 H11 BP FR in
theorem w270_1 (h:T270_1 prog K P0 t9 t10 t11 mP):W prog d l270_0 σ st (thenW prog d (.loop l270_0) (blockW 0 (thenW prog d c270_3 Q))):=
 q_ J (b_ H11 H10 lss_ (e_ (sq_ (cs_ J (fun c=>sk_ (sq_ (bk_ (sq_ (W.reg (m_ ((h.1 c).2.elim fun k e=>ia_ H9 H11 (h.1 c).1 e.1 (Rou.row_eq k) J (lf_ J J J (s_alloc (m_ (so_ J (show lk _ (d,12291)=some (_,([.i .u8 0,.i .i64 0,.sl .full (List.map Frm.row ([]:List Frm)),.sl .full (List.map Dfr.row ([]:List Dfr)),.sl .full (List.map Pan.row ([]:List Pan))]:List AV)) from lk_here) J J J (e_ (q_ J (f_ J (l_ J lk_here J J (b_ J J eql_ (s_mvB J (em_ (g:=19) J (fun j=>gy_ J (f_ J (gy_ J (l_ J lk_here J J (gy_ J (s_mv H0 (gy_ J (s_nilP J (gy_ J (f_ J (gy_ J (f_ J (gy_ J (s_loadD J (Dk.other (key_LP hkp) (Dk.other (key_LP hkp) BP)) J J (gy_ J (b_ J J eql_ (pt_ J J (e_ (w270_2 hQ hkp kP0 H0 H11 H9 H10 H11 J (Dk.other (key_LP hkp) (Dk.other (key_LP hkp) BP)) (Fr.box (Fr.box FR)) (e.2.1 j)))))))))))))))))))) (fun j=>z_ 9 J (e_ (w270_2 hQ hkp kP0 H0 H11 H9 H10 H11 J (Dk.other (key_LP hkp) (Dk.other (key_LP hkp) BP)) (Fr.box (Fr.box FR)) (e.2.2 j)))))))))))))))))))))) (fun c=>ex_ (w270_4 hQ hkp BP FR (h.2 c)))))))
include H0 BP FR in
theorem w270_0 (h:T270_0 prog K mP):W prog d (sR 0 r270_0 (.seq (sR 1 r270_1 (.block 0 (.loop l270_0))) c270_3)) σ st Q:=
 q_ J (m_ (e_ (sq_ (q_ J (m_ (s_nilP H0 (f_ J (f_ J (s_loadD J BP J J (ll_ J (m_ (e_ (bk_ (h (I270_0 prog d Q st0 kp vp mP.state.routines (mP.state.routines.length:Int)) (fun _ _ hb _ _ _ H0 H9 H10 H11 BP FR=>W.loop (w270_1 hQ hkp (fun _ _ x=>x) H0 H9 H10 H11 BP FR hb)) _ _ _ H0 J J J BP FR))))))))))))))
end
theorem p270 {prog:Prog}(hf:prog.fn 270=some pf270){mP:Dsk}{K:Int→Dsk→Prop}(h:T270_0 prog K mP):PuXK prog 270 (Dk mP) [] (fun r (b_:Dsk)=>∃res0:Int,(r=.i .i64 res0)∧K res0 b_) (fun b_=>(Dk b_)):=
 PD hf J J (fun _=>Dk.out) fun d st kp vp hkp hB Q q=>w270_0 q hkp J hB Fr.refl h
def r269_0:List AI:=[oI 2 0]
def r269_1:List AI:=[oM 7 0,oN 8 7,oF 9 3 8,oF 10 3 9,oL 11 10,oJ 12 11,oI 13 0]
def r269_2:List AI:=[oT 14 .lss 13 12]
def r269_3:List AI:=[oM 15 13,oX 16 5 11 13,oK 17 5 16,oO 4 (.alloc [z8,z6,zl,zl,zl]),oM 3 15,oS 5 4 17]
def r269_4:List AI:=[oM 19 0,oN 20 19,oF 21 0 20,oK 22 3 21,oM 23 3,oK 24 5 4,oQ 25 207 [22,23,24],oM 18 25,oE 26 0 18,oE 27 1 18,oM 5 26,oM 6 27]
def r269_5:List AI:=[oM 28 6,oV 29 .neq 28 0]
def r269_6:List AI:=[oM 30 6,oM 2 30]
def r269_7:List AI:=[oM 31 0,oM 32 5,oO 33 (.iaL 1 (.t 32) (.c (.i .i64 0))),oL 34 33,oO 35 (.call true 276 [(.t 31),(.t 34)])]
def r269_8:List AI:=[oV 36 .add 13 1,oM 13 36]
def r269_9:List AI:=[oI 2 0]
abbrev l269_0:AC:=(sR 2 r269_2 (.seq (.cond (.t 14) .skip (.exit 0)) (.seq (.block 1 (sR 3 r269_3 (sR 4 r269_4 (.seq (sR 5 r269_5 (.cond (.t 29) (sR 6 r269_6 .ret) .skip)) (.reg 7 r269_7))))) (.reg 8 r269_8))))
abbrev c269_1:AC:=(sR 9 r269_9 .ret)
abbrev b269:AC:=(sR 0 r269_0 (.seq (sR 1 r269_1 (.block 0 (.loop l269_0))) c269_1))
def pf269:AF:={ nt:=37,res:=[.tmp 2],body:=b269 }
abbrev I269_0 (prog:Prog)(d:Nat)(Q:AE→Sl→St→Prop)(st0:St)(kp:Key)(vp:Nat)(t11:List Rou)(t12:Int)(t13:Int)(mP:Dsk):Prop:=
  ∀(σ:Sl)(st:St)(o_t11:Own),σ 0=.p kp vp 0→σ 11=.sl o_t11 (List.map Rou.row t11)→σ 12=.i .i64 t12→σ 13=.i .i64 t13→Dk mP st.bx st.ow kp vp→Fr d kp st0.bx st0.ow st.bx st.ow→W prog d (.loop l269_0) σ st (blockW 0 (thenW prog d c269_1 Q))
def T269_2 (prog:Prog)(K:Int→Dsk→Prop)(mP:Dsk):Prop:=
  K 0 mP
def T269_1 (prog:Prog)(K:Int→Dsk→Prop)(P0:Int→Dsk→Prop)(t11:List Rou)(t12:Int)(t13:Int)(mP:Dsk):Prop:=
  (t13<t12→0≤t13∧∃j:Rou,t11[(t13).toNat]?=some j∧∃k c,Pus prog 207 [mP.image.av,.i .i64 t13,j.av] (.tup [.sl .ext (List.map rowS k),.i .i64 c])∧(c≠0→K c mP)∧(¬(c≠0)→∃o,k[0]?=some o∧∃e:Dsk,PuX prog 276 (Dk mP) [.s o] (fun r=>r=.tup []) ((Dk e))∧P0 (IntKind.i64.wrap (t13+1)) e))∧(¬(t13<t12)→T269_2 prog K mP)
def T269_0 (prog:Prog)(K:Int→Dsk→Prop)(mP:Dsk):Prop:=
  ∀P0:Int→Dsk→Prop,(∀(t13:Int)(mP_b:Dsk),T269_1 prog K P0 mP.state.routines (mP.state.routines.length:Int) t13 mP_b→P0 t13 mP_b)→P0 0 mP
section
variable {prog:Prog}{d:Nat}{Q:AE→Sl→St→Prop}{K:Int→Dsk→Prop}{st0:St}{kp:Key}{vp:Nat}(hQ:HD d st0 kp vp Dk (AV.i .i64) 2 Q K)(hkp:kp.1<d){σ:Sl}{st:St}
include hQ hkp
variable {mP:Dsk}{t11:List Rou}{t12 t13:Int}{P0:Int→Dsk→Prop}{o_t11:Own}
variable (kP0 :∀(t13:Int)(mP:Dsk),P0 t13 mP→I269_0 prog d Q st0 kp vp t11 t12 t13 mP)(H0:σ 0=.p kp vp 0)(H11:σ 11=.sl o_t11 (List.map Rou.row t11))(H12:σ 12=.i .i64 t12)(H13:σ 13=.i .i64 t13)(BP:Dk mP st.bx st.ow kp vp)(FR:Fr d kp st0.bx st0.ow st.bx st.ow)
include BP FR in
theorem w269_2 (h:T269_2 prog K mP):W prog d c269_1 σ st Q:=
 au trivial
include kP0 H0 H11 H12 H13 BP FR in
theorem w269_1 (h:T269_1 prog K P0 t11 t12 t13 mP):W prog d l269_0 σ st (thenW prog d (.loop l269_0) (blockW 0 (thenW prog d c269_1 Q))):=
 q_ J (b_ H13 H12 lss_ (e_ (sq_ (cs_ J (fun c=>sk_ (sq_ (bk_ (sq_ (W.reg (m_ ((h.1 c).2.elim fun q o=>ia_ H11 H13 (h.1 c).1 o.1 (Rou.row_eq q) J (lf_ J J J (s_alloc (m_ (so_ J (show lk _ (d,12291)=some (_,([.i .u8 0,.i .i64 0,.sl .full (List.map Frm.row ([]:List Frm)),.sl .full (List.map Dfr.row ([]:List Dfr)),.sl .full (List.map Pan.row ([]:List Pan))]:List AV)) from lk_here) J J J (e_ (q_ J (m_ (s_nilP H0 (f_ J (s_loadD J (Dk.other (key_LP hkp) (Dk.other (key_LP hkp) BP)) J J (m_ (l_ J lk_here J J (x2 o.2 fun _ _ e=>ca_ (sc3 J H13 J J) e.1 (m_ (x_ J J (x_ J J (s_mvL J (m_ (e_ (sq_ (q_ J (m_ (b_ J J neq_ (e_ (cs_ J (fun j=>q_ J (m_ (m_ (er_ (hQ J (Dk.other (key_LP hkp) (Dk.other (key_LP hkp) BP)) (Fr.box (Fr.box FR)) (e.2.1 j)))))) (fun j=>sk_ (W.reg0 J fun _ _=>m_ (s_mvL J ((e.2.2 j).elim fun _ p=>ia_ J J (by decide) p.1 J J (lf_ J J J (p.2.elim fun _ k=>cX_ (sec H0 (sec J sen)) k.1 (Nat.lt_succ_of_lt hkp) (Dk.other (key_LP hkp) (Dk.other (key_LP hkp) BP)) (fun _ r s=>e_ (W.reg0 J fun _ _=>b_ H13 J add_ (m_ (e_ (kP0 _ _ k.2 _ _ _ H0 H11 H12 J r (Fr.pass (Fr.box (Fr.box FR)) s)))))))))))))))))))))))))))))))))))))))))))) (fun c=>ex_ (w269_2 hQ hkp BP FR (h.2 c)))))))
include H0 BP FR in
theorem w269_0 (h:T269_0 prog K mP):W prog d (sR 0 r269_0 (.seq (sR 1 r269_1 (.block 0 (.loop l269_0))) c269_1)) σ st Q:=
 q_ J (m_ (e_ (sq_ (q_ J (m_ (s_nilP H0 (f_ J (f_ J (s_loadD J BP J J (ll_ J (m_ (e_ (bk_ (h (I269_0 prog d Q st0 kp vp mP.state.routines (mP.state.routines.length:Int)) (fun _ _ hb _ _ _ H0 H11 H12 H13 BP FR=>W.loop (w269_1 hQ hkp (fun _ _ x=>x) H0 H11 H12 H13 BP FR hb)) _ _ _ H0 J J J BP FR))))))))))))))
end
theorem p269 {prog:Prog}(hf:prog.fn 269=some pf269){mP:Dsk}{K:Int→Dsk→Prop}(h:T269_0 prog K mP):PuXK prog 269 (Dk mP) [] (fun r (b_:Dsk)=>∃res0:Int,(r=.i .i64 res0)∧K res0 b_) (fun b_=>(Dk b_)):=
 PD hf J J (fun _=>Dk.out) fun d st kp vp hkp hB Q q=>w269_0 q hkp J hB Fr.refl h
def r275_0:List AI:=[oY 7 4 3,oI 8 0]
def r275_1:List AI:=[oF 13 3 7,oL 14 13,oJ 15 14,oI 16 0]
def r275_2:List AI:=[oT 17 .lss 16 15]
def r275_3:List AI:=[oX 18 6 14 16,oK 19 6 18,oO 10 (.alloc [z6,z8,z6,zs,zl,zb]),oS 6 10 19]
def r275_4:List AI:=[oM 20 0,oN 21 20,oF 22 0 21,oF 23 2 22,oL 24 23,oF 25 0 7,oL 26 25,oX 27 7 24 26,oF 28 3 27,oL 29 28,oF 30 0 10,oL 31 30,oX 32 2 29 31,oF 33 0 32,oL 34 33,oM 35 0,oN 36 35,oF 37 7 36,oF 38 4 37,oL 39 38,oT 40 .neq 34 39]
def r275_5:List AI:=[oF 42 1 10,oK 43 5 42,oQ 44 72 [43],oM 41 44,oE 45 0 41,oE 46 1 41,oM 11 45,oM 12 46]
def r275_6:List AI:=[oM 47 12,oV 48 .neq 47 0]
def r275_7:List AI:=[oM 49 12,oM 8 49]
def r275_8:List AI:=[oM 50 0,oM 51 1,oQ 52 258 [51],oB 53 .add (.t 52) (.c (.s [32])),oM 54 2,oQ 55 258 [54],oT 56 .add 53 55,oB 57 .add (.t 56) (.c (.s [32])),oF 58 0 10,oL 59 58,oQ 60 258 [59],oT 61 .add 57 60,oB 62 .add (.t 61) (.c (.s [32,61,32])),oM 63 11,oT 64 .add 62 63,oO 65 (.call true 276 [(.t 50),(.t 64)])]
def r275_9:List AI:=[oV 66 .add 16 1,oM 16 66]
def r275_10:List AI:=[oI 8 0]
abbrev c275_0:AC:=(.reg 9 r275_9)
abbrev l275_0:AC:=(sR 2 r275_2 (.seq (.cond (.t 17) .skip (.exit 0)) (.seq (.block 1 (sR 3 r275_3 (.seq (sR 4 r275_4 (.cond (.t 40) (.exit 1) .skip)) (sR 5 r275_5 (.seq (sR 6 r275_6 (.cond (.t 48) (sR 7 r275_7 .ret) .skip)) (.reg 8 r275_8)))))) c275_0)))
abbrev c275_2:AC:=(sR 10 r275_10 .ret)
abbrev c275_3:AC:=(.seq (sR 1 r275_1 (.block 0 (.loop l275_0))) c275_2)
abbrev b275:AC:=(sR 0 r275_0 c275_3)
def pf275:AF:={ nt:=67,res:=[.tmp 8],body:=b275 }
abbrev I275_0 (prog:Prog)(d:Nat)(Q:AE→Sl→St→Prop)(st0:St)(kp:Key)(vp:Nat)(g1:Int)(k2:Int)(t14:List Loc)(t15:Int)(t16:Int)(m0:Frm)(mP:Dsk):Prop:=
  ∀(σ:Sl)(st:St)(o_t14:Own)(v0:Nat),σ 0=.p kp vp 0→σ 1=.i .i64 g1→σ 2=.i .i64 k2→σ 7=.p (d,0) v0 0→σ 14=.sl o_t14 (List.map Loc.row t14)→σ 15=.i .i64 t15→σ 16=.i .i64 t16→lk st.bx (d,0)=some (v0,Frm.cs m0)→Dk mP st.bx st.ow kp vp→Fr d kp st0.bx st0.ow st.bx st.ow→W prog d (.loop l275_0) σ st (blockW 0 (thenW prog d c275_2 Q))
def T275_3 (prog:Prog)(K:Int→Dsk→Prop)(P0:Int→Frm→Dsk→Prop)(g1:Int)(k2:Int)(t14:List Loc)(t15:Int)(t16:Int)(m0:Frm)(mP:Dsk):Prop:=
  P0 (IntKind.i64.wrap (t16+1)) m0 mP
def T275_4 (prog:Prog)(K:Int→Dsk→Prop)(mP:Dsk):Prop:=
  K 0 mP
def T275_2 (prog:Prog)(K:Int→Dsk→Prop)(P0:Int→Frm→Dsk→Prop)(g1:Int)(k2:Int)(t14:List Loc)(t15:Int)(t16:Int)(m0:Frm)(mP:Dsk):Prop:=
  (t16<t15→0≤t16∧∃k:Loc,t14[(t16).toNat]?=some k∧0≤m0.func∧∃v:Fun,mP.image.funcs[(m0.func).toNat]?=some v∧0≤k.slot∧∃q:Fld,v.slots[(k.slot).toNat]?=some q∧(q.name≠mP.query.name→T275_3 prog K P0 g1 k2 t14 t15 t16 m0 mP)∧(¬(q.name≠mP.query.name)→∃p:BS,∃o,Pus prog 72 [k.value.av] (.tup [.s p,.i .i64 o])∧(o≠0→K o mP)∧(¬(o≠0)→∃c:BS,Pus prog 258 [.i .i64 g1] (.s c)∧c.length+([32]:BS).length≤maxStr∧∃e:BS,Pus prog 258 [.i .i64 k2] (.s e)∧(c++([32]:BS)).length+e.length≤maxStr∧((c++([32]:BS))++e).length+([32]:BS).length≤maxStr∧∃j:BS,Pus prog 258 [.i .i64 k.slot] (.s j)∧(((c++([32]:BS))++e)++([32]:BS)).length+j.length≤maxStr∧((((c++([32]:BS))++e)++([32]:BS))++j).length+([32,61,32]:BS).length≤maxStr∧(((((c++([32]:BS))++e)++([32]:BS))++j)++([32,61,32]:BS)).length+p.length≤maxStr∧∃u:Dsk,PuX prog 276 (Dk mP) [.s ((((((c++([32]:BS))++e)++([32]:BS))++j)++([32,61,32]:BS))++p)] (fun r=>r=.tup []) ((Dk u))∧T275_3 prog K P0 g1 k2 t14 t15 t16 m0 u)))∧(¬(t16<t15)→T275_4 prog K mP)
def T275_1 (prog:Prog)(K:Int→Dsk→Prop)(g1:Int)(k2:Int)(m0:Frm)(mP:Dsk):Prop:=
  ∀P0:Int→Frm→Dsk→Prop,(∀(t16:Int)(m0_b:Frm)(mP:Dsk),T275_2 prog K P0 g1 k2 m0.locals (m0.locals.length:Int) t16 m0_b mP→P0 t16 m0_b mP)→P0 0 m0 mP
def T275_0 (prog:Prog)(K:Int→Dsk→Prop)(g1:Int)(k2:Int)(x3:Frm)(mP:Dsk):Prop:=
  T275_1 prog K g1 k2 x3 mP
section
variable {prog:Prog}{d:Nat}{Q:AE→Sl→St→Prop}{K:Int→Dsk→Prop}{st0:St}{kp:Key}{vp:Nat}(hQ:HD d st0 kp vp Dk (AV.i .i64) 8 Q K)(hkp:kp.1<d){σ:Sl}{st:St}
include hQ hkp
variable {g1 k2:Int}{t14:List Loc}{t15 t16:Int}{m0:Frm}{mP:Dsk}{P0:Int→Frm→Dsk→Prop}{o_t14:Own}{v0:Nat}{x3:Frm}
variable (kP0 :∀(t16:Int)(m0:Frm)(mP:Dsk),P0 t16 m0 mP→I275_0 prog d Q st0 kp vp g1 k2 t14 t15 t16 m0 mP)(H0:σ 0=.p kp vp 0)(H1:σ 1=.i .i64 g1)(H2:σ 2=.i .i64 k2)(H7:σ 7=.p (d,0) v0 0)(H3:σ 3=x3.av)(H14:σ 14=.sl o_t14 (List.map Loc.row t14))(H15:σ 15=.i .i64 t15)(H16:σ 16=.i .i64 t16)(B0:lk st.bx (d,0)=some (v0,Frm.cs m0))(BP:Dk mP st.bx st.ow kp vp)(FR:Fr d kp st0.bx st0.ow st.bx st.ow)
include kP0 H0 H1 H2 H7 H14 H15 H16 B0 BP FR in
theorem w275_3 (h:T275_3 prog K P0 g1 k2 t14 t15 t16 m0 mP):W prog d c275_0 σ st (thenW prog d (.loop l275_0) (blockW 0 (thenW prog d c275_2 Q))):=
 au trivial
include BP FR in
theorem w275_4 (h:T275_4 prog K mP):W prog d c275_2 σ st Q:=
 au trivial
include kP0 H0 H1 H2 H7 H14 H15 H16 B0 BP FR in
theorem w275_2 (h:T275_2 prog K P0 g1 k2 t14 t15 t16 m0 mP):W prog d l275_0 σ st (thenW prog d (.loop l275_0) (blockW 0 (thenW prog d c275_2 Q))):=
 q_ J (b_ H16 H15 lss_ (e_ (sq_ (cs_ J (fun j=>sk_ (sq_ (bk_ (sq_ (W.reg ((h.1 j).2.elim fun y p=>ia_ H14 H16 (h.1 j).1 p.1 (Loc.row_eq y) J (lf_ J J J (s_alloc (so_ J (show lk _ (d,12290)=some (_,([.i .i64 0,.i .u8 0,.i .i64 0,.s [],.sl .full (List.map Val.row ([]:List Val)),.b false]:List AV)) from lk_here) J J J (e_ (sq_ (q_ J (m_ (s_nilP H0 (f_ J (f_ J (s_loadD J (Dk.other (key_LP hkp) (Dk.other (key_LP hkp) BP)) J J (f_ H7 (l_ J (lk_other J (lk_other J B0)) J J (p.2.2.elim fun z q=>ia_ J J p.2.1 q.1 (Fun.row_eq z) J (ff_ J (lf_ J J J (f_ J (l_ J lk_here J J (q.2.2.elim fun a0 r=>ia_ J J q.2.1 r.1 (Fld.row_eq a0) J (ff_ J (lf_ J J J (m_ (s_nilP H0 (f_ J (f_ J (s_loadD J (Dk.other (key_LP hkp) (Dk.other (key_LP hkp) BP)) J J (b_ J J sne_ (e_ (cs_ J (fun v=>ex_ (w275_3 hQ hkp kP0 H0 H1 H2 H7 H14 H15 H16 (lk_other J (lk_other J B0)) (Dk.other (key_LP hkp) (Dk.other (key_LP hkp) BP)) (Fr.box (Fr.box FR)) (r.2.1 v))) (fun v=>sk_ (q_ J (f_ J (l_ J lk_here J J (x2 (r.2.2 v) fun _ _ k=>ca_ (sc1 J J) k.1 (m_ (x_ J J (x_ J J (m_ (m_ (e_ (sq_ (q_ J (m_ (b_ J J neq_ (e_ (cs_ J (fun u=>q_ J (m_ (m_ (er_ (hQ J (Dk.other (key_LP hkp) (Dk.other (key_LP hkp) BP)) (Fr.box (Fr.box FR)) (k.2.1 u)))))) (fun u=>sk_ (W.reg0 J fun _ _=>m_ (m_ ((k.2.2 u).elim fun _ o=>ca_ (sc1 H1 J) o.1 (b_ J J (abin_cat' o.2.1) (m_ (o.2.2.elim fun _ e=>ca_ (sc1 H2 J) e.1 (b_ J J (abin_cat' e.2.1) (b_ J J (abin_cat' e.2.2.1) (f_ J (l_ J lk_here J J (e.2.2.2.elim fun _ c=>ca_ (sc1 J J) c.1 (b_ J J (abin_cat' c.2.1) (b_ J J (abin_cat' c.2.2.1) (m_ (b_ J J (abin_cat' c.2.2.2.1) (c.2.2.2.2.elim fun _ w=>cX_ (sec H0 (sec J sen)) w.1 (Nat.lt_succ_of_lt hkp) (Dk.other (key_LP hkp) (Dk.other (key_LP hkp) BP)) (fun _ a1 x=>e_ (w275_3 hQ hkp kP0 H0 H1 H2 H7 H14 H15 H16 ((x.1 (d,0) (Nat.lt_succ_self d) (key_LP hkp)).trans (lk_other J (lk_other J B0))) a1 (Fr.pass (Fr.box (Fr.box FR)) x) w.2))))))))))))))))))))))))))))))))))))))))))))))))))))))))))))))))))))))) (fun j=>ex_ (w275_4 hQ hkp BP FR (h.2 j)))))))
include H0 H1 H2 H7 B0 BP FR in
theorem w275_1 (h:T275_1 prog K g1 k2 m0 mP):W prog d c275_3 σ st Q:=
 sq_ (q_ J (f_ H7 (l_ J B0 J J (ll_ J (m_ (e_ (bk_ (h (I275_0 prog d Q st0 kp vp g1 k2 m0.locals (m0.locals.length:Int)) (fun _ _ _ hb _ _ _ _ H0 H1 H2 H7 H14 H15 H16 B0 BP FR=>W.loop (w275_2 hQ hkp (fun _ _ _ x=>x) H0 H1 H2 H7 H14 H15 H16 B0 BP FR hb)) _ _ _ _ H0 H1 H2 H7 J J J B0 BP FR))))))))
include H0 H1 H2 H3 BP FR in
theorem w275_0 (h:T275_0 prog K g1 k2 x3 mP):W prog d (sR 0 r275_0 c275_3) σ st Q:=
 q_ J (s_box H3 J (m_ (e_ (w275_1 hQ hkp H0 H1 H2 J lk_here (Dk.other (key_LP hkp) BP) (Fr.box FR) h))))
end
theorem p275 {prog:Prog}(hf:prog.fn 275=some pf275){g1:Int}{k2:Int}{x3:Frm}{mP:Dsk}{K:Int→Dsk→Prop}(h:T275_0 prog K g1 k2 x3 mP):PuXK prog 275 (Dk mP) [.i .i64 g1,.i .i64 k2,x3.av] (fun r (b_:Dsk)=>∃res0:Int,(r=.i .i64 res0)∧K res0 b_) (fun b_=>(Dk b_)):=
 PD hf J J (fun _=>Dk.out) fun d st kp vp hkp hB Q q=>w275_0 q hkp J J J J hB Fr.refl h
end Go.AM

namespace Go.AM
open Go
set_option linter.unusedVariables false
set_option linter.unusedSimpArgs false
set_option maxRecDepth 4000
set_option maxHeartbeats 2000000
attribute [local irreducible] Decidable.decide W WO fillCells fillRows
def r272_0:List AI:=[oI 4 0]
def r272_1:List AI:=[oM 10 0,oN 11 10,oF 12 3 11,oF 13 3 12,oL 14 13,oJ 15 14,oI 16 0]
def r272_2:List AI:=[oT 17 .lss 16 15]
def r272_3:List AI:=[oM 18 16,oX 19 5 14 16,oK 20 5 19,oO 6 (.alloc [z8,z6,zl,zl,zl]),oM 5 18,oS 5 6 20]
def r272_4:List AI:=[oF 21 2 6,oL 22 21,oJ 23 22,oI 24 0]
def r272_5:List AI:=[oT 25 .lss 24 23]
def r272_6:List AI:=[oM 26 24,oX 27 4 22 24,oK 28 4 27,oO 8 (.alloc [z6,z6,z7,zl]),oM 7 26,oS 4 8 28]
def r272_7:List AI:=[oM 29 1,oM 30 5,oM 31 7,oK 32 4 8,oO 33 (.callv (.t 29) [(.t 30),(.t 31),(.t 32)]),oM 9 33]
def r272_8:List AI:=[oM 34 9,oV 35 .neq 34 0]
def r272_9:List AI:=[oM 36 9,oM 4 36]
def r272_10:List AI:=[oV 37 .add 24 1,oM 24 37]
def r272_11:List AI:=[oV 38 .add 16 1,oM 16 38]
def r272_12:List AI:=[oI 4 0]
abbrev l272_1:AC:=(sR 5 r272_5 (.seq (.cond (.t 25) .skip (.exit 2)) (.seq (.block 3 (sR 6 r272_6 (sR 7 r272_7 (sR 8 r272_8 (.cond (.t 35) (sR 9 r272_9 .ret) .skip))))) (.reg 10 r272_10))))
abbrev c272_1:AC:=(.reg 11 r272_11)
abbrev l272_0:AC:=(sR 2 r272_2 (.seq (.cond (.t 17) .skip (.exit 0)) (.seq (.block 1 (sR 3 r272_3 (sR 4 r272_4 (.block 2 (.loop l272_1))))) c272_1)))
abbrev c272_3:AC:=(sR 12 r272_12 .ret)
abbrev b272:AC:=(sR 0 r272_0 (.seq (sR 1 r272_1 (.block 0 (.loop l272_0))) c272_3))
def pf272:AF:={ nt:=39,res:=[.tmp 4],body:=b272 }
abbrev H272 (d:Nat)(st0:St)(kp:Key)(vp:Nat)(Q:AE→Sl→St→Prop)(K:Int→Dsk→Prop):Prop:=∀(σ:Sl)(st:St)(res0:Int)(b_:Dsk),σ 4=.i .i64 res0→Dk b_ st.bx st.ow kp vp→Fr d kp st0.bx st0.ow st.bx st.ow→K res0 b_→Q .ret σ st
abbrev I272_0 (prog:Prog)(d:Nat)(Q:AE→Sl→St→Prop)(st0:St)(kp:Key)(vp:Nat)(t14:List Rou)(t15:Int)(t16:Int)(mP:Dsk):Prop:=
  ∀(σ:Sl)(st:St)(o_t14:Own),σ 1=.bf 273 [.p kp vp 0]→σ 14=.sl o_t14 (List.map Rou.row t14)→σ 15=.i .i64 t15→σ 16=.i .i64 t16→Dk mP st.bx st.ow kp vp→Fr d kp st0.bx st0.ow st.bx st.ow→W prog d (.loop l272_0) σ st (blockW 0 (thenW prog d c272_3 Q))
abbrev I272_1 (prog:Prog)(d:Nat)(Q:AE→Sl→St→Prop)(st0:St)(kp:Key)(vp:Nat)(g5:Int)(t14:List Rou)(t15:Int)(t16:Int)(t22:List Frm)(t23:Int)(t24:Int)(mP:Dsk):Prop:=
  ∀(σ:Sl)(st:St) (o_t14 o_t22:Own),σ 1=.bf 273 [.p kp vp 0]→σ 5=.i .i64 g5→σ 14=.sl o_t14 (List.map Rou.row t14)→σ 15=.i .i64 t15→σ 16=.i .i64 t16→σ 22=.sl o_t22 (List.map Frm.row t22)→σ 23=.i .i64 t23→σ 24=.i .i64 t24→Dk mP st.bx st.ow kp vp→Fr d kp st0.bx st0.ow st.bx st.ow→W prog d (.loop l272_1) σ st (blockW 2 (blockW 1 (thenW prog d c272_1 (thenW prog d (.loop l272_0) (blockW 0 (thenW prog d c272_3 Q))))))
def T272_3 (prog:Prog)(K:Int→Dsk→Prop)(P0:Int→Dsk→Prop)(t14:List Rou)(t15:Int)(t16:Int)(mP:Dsk):Prop:=
  P0 (IntKind.i64.wrap (t16+1)) mP
def T272_2 (prog:Prog)(K:Int→Dsk→Prop)(P1:Int→Dsk→Prop)(P0:Int→Dsk→Prop)(g5:Int)(t14:List Rou)(t15:Int)(t16:Int)(t22:List Frm)(t23:Int)(t24:Int)(mP:Dsk):Prop:=
  (t24<t23→0≤t24∧∃j:Frm,t22[(t24).toNat]?=some j∧∃c,∃e:Dsk,PuX prog 273 (Dk mP) [.i .i64 g5,.i .i64 t24,j.av] (fun r=>r=.i .i64 c) ((Dk e))∧(c≠0→K c e)∧(¬(c≠0)→P1 (IntKind.i64.wrap (t24+1)) e))∧(¬(t24<t23)→T272_3 prog K P0 t14 t15 t16 mP)
def T272_4 (prog:Prog)(K:Int→Dsk→Prop)(mP:Dsk):Prop:=
  K 0 mP
def T272_1 (prog:Prog)(K:Int→Dsk→Prop)(P0:Int→Dsk→Prop)(t14:List Rou)(t15:Int)(t16:Int)(mP:Dsk):Prop:=
  (t16<t15→0≤t16∧∃c:Rou,t14[(t16).toNat]?=some c∧∀P1:Int→Dsk→Prop,(∀(t24:Int)(mP:Dsk),T272_2 prog K P1 P0 t16 t14 t15 t16 c.frames (c.frames.length:Int) t24 mP→P1 t24 mP)→P1 0 mP)∧(¬(t16<t15)→T272_4 prog K mP)
def T272_0 (prog:Prog)(K:Int→Dsk→Prop)(mP:Dsk):Prop:=
  ∀P0:Int→Dsk→Prop,(∀(t16:Int)(mP_b:Dsk),T272_1 prog K P0 mP.state.routines (mP.state.routines.length:Int) t16 mP_b→P0 t16 mP_b)→P0 0 mP
section
variable {prog:Prog}{d:Nat}{Q:AE→Sl→St→Prop}{K:Int→Dsk→Prop}{st0:St}{kp:Key}{vp:Nat}(hQ:H272 d st0 kp vp Q K)(hkp:kp.1<d){σ:Sl}{st:St}
include hQ hkp
variable {t14:List Rou}{t15 t16:Int}{mP:Dsk}{P0:Int→Dsk→Prop}{o_t14:Own}{g5:Int}{t22:List Frm}{t23 t24:Int}{P1:Int→Dsk→Prop}{o_t22:Own}
variable (kP1 :∀(t24:Int)(mP:Dsk),P1 t24 mP→I272_1 prog d Q st0 kp vp g5 t14 t15 t16 t22 t23 t24 mP)(H0:σ 0=.p kp vp 0) (kP0 :∀(t16:Int)(mP:Dsk),P0 t16 mP→I272_0 prog d Q st0 kp vp t14 t15 t16 mP)(H1:σ 1=.bf 273 [.p kp vp 0])(H5:σ 5=.i .i64 g5)(H14:σ 14=.sl o_t14 (List.map Rou.row t14))(H15:σ 15=.i .i64 t15)(H16:σ 16=.i .i64 t16)(H22:σ 22=.sl o_t22 (List.map Frm.row t22))(H23:σ 23=.i .i64 t23)(H24:σ 24=.i .i64 t24)(BP:Dk mP st.bx st.ow kp vp)(FR:Fr d kp st0.bx st0.ow st.bx st.ow)
include kP0 H1 H14 H15 H16 BP FR in
theorem w272_3 (h:T272_3 prog K P0 t14 t15 t16 mP):W prog d c272_1 σ st (thenW prog d (.loop l272_0) (blockW 0 (thenW prog d c272_3 Q))):=
 au trivial
include kP1 kP0 H1 H5 H14 H15 H16 H22 H23 H24 BP FR in
theorem w272_2 (h:T272_2 prog K P1 P0 g5 t14 t15 t16 t22 t23 t24 mP):W prog d l272_1 σ st (thenW prog d (.loop l272_1) (blockW 2 (blockW 1 (thenW prog d c272_1 (thenW prog d (.loop l272_0) (blockW 0 (thenW prog d c272_3 Q))))))):=
 q_ J (b_ H24 H23 lss_ (e_ (sq_ (cs_ J (fun c=>sk_ (sq_ (bk_ (sq_ (W.reg (m_ ((h.1 c).2.elim fun q k=>ia_ H22 H24 (h.1 c).1 k.1 (Frm.row_eq q) J (lf_ J J J (s_alloc (m_ (so_ J (show lk _ (d,24579)=some (_,([.i .i64 0,.i .i64 0,.i .u64 0,.sl .full (List.map Loc.row ([]:List Loc))]:List AV)) from lk_here) J J J (e_ (q_ J (m_ (m_ (m_ (l_ J lk_here J J (k.2.elim fun _ r=>r.elim fun _ e=>s_callB H1 (sec H5 (sec H24 (sec J sen))) e.1 (Nat.lt_succ_of_lt hkp) (Dk.other (key_LP hkp) (Dk.other (key_LP hkp) BP)) (fun _ o p=>m_ (e_ (q_ J (m_ (b_ J J neq_ (e_ (cs_ J (fun j=>q_ J (m_ (m_ (er_ (hQ _ _ _ _ J o (Fr.pass (Fr.box (Fr.box FR)) p) (e.2.1 j)))))) (fun j=>sk_ (W.reg0 J fun _ _=>b_ H24 J add_ (m_ (e_ (kP1 _ _ (e.2.2 j) _ _ _ _ H1 H5 H14 H15 H16 H22 H23 J o (Fr.pass (Fr.box (Fr.box FR)) p))))))))))))))))))))))))))))))) (fun c=>ex_ (w272_3 hQ hkp kP0 H1 H14 H15 H16 BP FR (h.2 c)))))))
include BP FR in
theorem w272_4 (h:T272_4 prog K mP):W prog d c272_3 σ st Q:=
 au trivial
include kP0 H1 H14 H15 H16 BP FR in
theorem w272_1 (h:T272_1 prog K P0 t14 t15 t16 mP):W prog d l272_0 σ st (thenW prog d (.loop l272_0) (blockW 0 (thenW prog d c272_3 Q))):=
 q_ J (b_ H16 H15 lss_ (e_ (sq_ (cs_ J (fun c=>sk_ (sq_ (bk_ (sq_ (W.reg (m_ ((h.1 c).2.elim fun e j=>ia_ H14 H16 (h.1 c).1 j.1 (Rou.row_eq e) J (lf_ J J J (s_alloc (m_ (so_ J (show lk _ (d,12291)=some (_,([.i .u8 0,.i .i64 0,.sl .full (List.map Frm.row ([]:List Frm)),.sl .full (List.map Dfr.row ([]:List Dfr)),.sl .full (List.map Pan.row ([]:List Pan))]:List AV)) from lk_here) J J J (e_ (q_ J (f_ J (l_ J lk_here J J (ll_ J (m_ (e_ (bk_ (j.2 (I272_1 prog d Q st0 kp vp t16 t14 t15 t16 e.frames (e.frames.length:Int)) (fun _ _ hb _ _ _ _ H1 H5 H14 H15 H16 H22 H23 H24 BP FR=>W.loop (w272_2 hQ hkp (fun _ _ x=>x) kP0 H1 H5 H14 H15 H16 H22 H23 H24 BP FR hb)) _ _ _ _ H1 H16 H14 H15 H16 J J J (Dk.other (key_LP hkp) (Dk.other (key_LP hkp) BP)) (Fr.box (Fr.box FR)))))))))))))))))))))) (fun c=>ex_ (w272_4 hQ hkp BP FR (h.2 c)))))))
include H0 H1 BP FR in
theorem w272_0 (h:T272_0 prog K mP):W prog d (sR 0 r272_0 (.seq (sR 1 r272_1 (.block 0 (.loop l272_0))) c272_3)) σ st Q:=
 q_ J (m_ (e_ (sq_ (q_ J (m_ (s_nilP H0 (f_ J (f_ J (s_loadD J BP J J (ll_ J (m_ (e_ (bk_ (h (I272_0 prog d Q st0 kp vp mP.state.routines (mP.state.routines.length:Int)) (fun _ _ hb _ _ _ H1 H14 H15 H16 BP FR=>W.loop (w272_1 hQ hkp (fun _ _ x=>x) H1 H14 H15 H16 BP FR hb)) _ _ _ H1 J J J BP FR))))))))))))))
end
theorem p272 {prog:Prog}(hf:prog.fn 272=some pf272){mP:Dsk}{K:Int→Dsk→Prop}(h:T272_0 prog K mP):PuXFK prog 272 (Dk mP) (fun kp vp=>[.bf 273 [.p kp vp 0]]) (fun r (b_:Dsk)=>∃res0:Int,(r=.i .i64 res0)∧K res0 b_) (fun b_=>(Dk b_)):=
  PuXFK.of hf (fun _ _=>rfl) (fun _=>Dk.out) fun d st kp vp hkp hB=>w272_0 (st0:=st) (Q:=fun e σ st'=>(e=.normal∨e=.ret)∧∃r b_,ares σ st' pf272.res=some r∧_∧_∧Fr d kp st.bx st.ow st'.bx st'.ow) (fun σ st'   res0 b_ H4 hb hf hk=>⟨.inr rfl,.i .i64 res0,b_,by simp only [pf272,ares,aresL,H4,ares1,Option.map_some,H4],⟨res0,rfl,hk⟩,hb,hf⟩) hkp (σ:=sl0 [.p kp vp 0,.bf 273 [.p kp vp 0]]) rfl rfl hB Fr.refl h
end Go.AM

namespace Go.AM.SlotV
open Go
set_option linter.unusedVariables false
set_option linter.unusedSimpArgs false
set_option maxRecDepth 4000
attribute [local irreducible] WO fillCells fillRows
def r272_0:List AI:=[oI 4 0]
def r272_1:List AI:=[oM 10 0,oN 11 10,oF 12 3 11,oF 13 3 12,oL 14 13,oJ 15 14,oI 16 0]
def r272_2:List AI:=[oT 17 .lss 16 15]
def r272_3:List AI:=[oM 18 16,oX 19 5 14 16,oK 20 5 19,oO 6 (.alloc [z8,z6,zl,zl,zl]),oM 5 18,oS 5 6 20]
def r272_4:List AI:=[oF 21 2 6,oL 22 21,oJ 23 22,oI 24 0]
def r272_5:List AI:=[oT 25 .lss 24 23]
def r272_6:List AI:=[oM 26 24,oX 27 4 22 24,oK 28 4 27,oO 8 (.alloc [z6,z6,z7,zl]),oM 7 26,oS 4 8 28]
def r272_7:List AI:=[oM 29 1,oM 30 5,oM 31 7,oK 32 4 8,oO 33 (.callv (.t 29) [(.t 30),(.t 31),(.t 32)]),oM 9 33]
def r272_8:List AI:=[oM 34 9,oV 35 .neq 34 0]
def r272_9:List AI:=[oM 36 9,oM 4 36]
def r272_10:List AI:=[oV 37 .add 24 1,oM 24 37]
def r272_11:List AI:=[oV 38 .add 16 1,oM 16 38]
def r272_12:List AI:=[oI 4 0]
abbrev l272_1:AC:=(sR 5 r272_5 (.seq (.cond (.t 25) .skip (.exit 2)) (.seq (.block 3 (sR 6 r272_6 (sR 7 r272_7 (sR 8 r272_8 (.cond (.t 35) (sR 9 r272_9 .ret) .skip))))) (.reg 10 r272_10))))
abbrev c272_1:AC:=(.reg 11 r272_11)
abbrev l272_0:AC:=(sR 2 r272_2 (.seq (.cond (.t 17) .skip (.exit 0)) (.seq (.block 1 (sR 3 r272_3 (sR 4 r272_4 (.block 2 (.loop l272_1))))) c272_1)))
abbrev c272_3:AC:=(sR 12 r272_12 .ret)
abbrev b272:AC:=(sR 0 r272_0 (.seq (sR 1 r272_1 (.block 0 (.loop l272_0))) c272_3))
def pf272:AF:={ nt:=39,res:=[.tmp 4],body:=b272 }
abbrev H272 (d:Nat)(st0:St)(kp:Key)(vp:Nat)(Q:AE→Sl→St→Prop)(K:Int→Dsk→Prop):Prop:=∀(σ:Sl)(st:St)(res0:Int)(b_:Dsk),σ 4=.i .i64 res0→Dk b_ st.bx st.ow kp vp→Fr d kp st0.bx st0.ow st.bx st.ow→K res0 b_→Q .ret σ st
abbrev I272_0 (prog:Prog)(d:Nat)(Q:AE→Sl→St→Prop)(st0:St)(kp:Key)(vp:Nat)(t14:List Rou)(t15:Int)(t16:Int)(mP:Dsk):Prop:=
  ∀(σ:Sl)(st:St)(o_t14:Own),σ 1=.bf 275 [.p kp vp 0]→σ 14=.sl o_t14 (List.map Rou.row t14)→σ 15=.i .i64 t15→σ 16=.i .i64 t16→Dk mP st.bx st.ow kp vp→Fr d kp st0.bx st0.ow st.bx st.ow→W prog d (.loop l272_0) σ st (blockW 0 (thenW prog d c272_3 Q))
abbrev I272_1 (prog:Prog)(d:Nat)(Q:AE→Sl→St→Prop)(st0:St)(kp:Key)(vp:Nat)(g5:Int)(t14:List Rou)(t15:Int)(t16:Int)(t22:List Frm)(t23:Int)(t24:Int)(mP:Dsk):Prop:=
  ∀(σ:Sl)(st:St) (o_t14 o_t22:Own),σ 1=.bf 275 [.p kp vp 0]→σ 5=.i .i64 g5→σ 14=.sl o_t14 (List.map Rou.row t14)→σ 15=.i .i64 t15→σ 16=.i .i64 t16→σ 22=.sl o_t22 (List.map Frm.row t22)→σ 23=.i .i64 t23→σ 24=.i .i64 t24→Dk mP st.bx st.ow kp vp→Fr d kp st0.bx st0.ow st.bx st.ow→W prog d (.loop l272_1) σ st (blockW 2 (blockW 1 (thenW prog d c272_1 (thenW prog d (.loop l272_0) (blockW 0 (thenW prog d c272_3 Q))))))
def T272_3 (prog:Prog)(K:Int→Dsk→Prop)(P0:Int→Dsk→Prop)(t14:List Rou)(t15:Int)(t16:Int)(mP:Dsk):Prop:=
  P0 (IntKind.i64.wrap (t16+1)) mP
def T272_2 (prog:Prog)(K:Int→Dsk→Prop)(P1:Int→Dsk→Prop)(P0:Int→Dsk→Prop)(g5:Int)(t14:List Rou)(t15:Int)(t16:Int)(t22:List Frm)(t23:Int)(t24:Int)(mP:Dsk):Prop:=
  (t24<t23→0≤t24∧∃j:Frm,t22[(t24).toNat]?=some j∧∃c,∃e:Dsk,PuX prog 275 (Dk mP) [.i .i64 g5,.i .i64 t24,j.av] (fun r=>r=.i .i64 c) ((Dk e))∧(c≠0→K c e)∧(¬(c≠0)→P1 (IntKind.i64.wrap (t24+1)) e))∧(¬(t24<t23)→T272_3 prog K P0 t14 t15 t16 mP)
def T272_4 (prog:Prog)(K:Int→Dsk→Prop)(mP:Dsk):Prop:=
  K 0 mP
def T272_1 (prog:Prog)(K:Int→Dsk→Prop)(P0:Int→Dsk→Prop)(t14:List Rou)(t15:Int)(t16:Int)(mP:Dsk):Prop:=
  (t16<t15→0≤t16∧∃c:Rou,t14[(t16).toNat]?=some c∧∀P1:Int→Dsk→Prop,(∀(t24:Int)(mP:Dsk),T272_2 prog K P1 P0 t16 t14 t15 t16 c.frames (c.frames.length:Int) t24 mP→P1 t24 mP)→P1 0 mP)∧(¬(t16<t15)→T272_4 prog K mP)
def T272_0 (prog:Prog)(K:Int→Dsk→Prop)(mP:Dsk):Prop:=
  ∀P0:Int→Dsk→Prop,(∀(t16:Int)(mP_b:Dsk),T272_1 prog K P0 mP.state.routines (mP.state.routines.length:Int) t16 mP_b→P0 t16 mP_b)→P0 0 mP
section
variable {prog:Prog}{d:Nat}{Q:AE→Sl→St→Prop}{K:Int→Dsk→Prop}{st0:St}{kp:Key}{vp:Nat}(hQ:H272 d st0 kp vp Q K)(hkp:kp.1<d){σ:Sl}{st:St}
include hQ hkp
variable {t14:List Rou}{t15 t16:Int}{mP:Dsk}{P0:Int→Dsk→Prop}{o_t14:Own}{g5:Int}{t22:List Frm}{t23 t24:Int}{P1:Int→Dsk→Prop}{o_t22:Own}
variable (kP1 :∀(t24:Int)(mP:Dsk),P1 t24 mP→I272_1 prog d Q st0 kp vp g5 t14 t15 t16 t22 t23 t24 mP)(H0:σ 0=.p kp vp 0) (kP0 :∀(t16:Int)(mP:Dsk),P0 t16 mP→I272_0 prog d Q st0 kp vp t14 t15 t16 mP)(H1:σ 1=.bf 275 [.p kp vp 0])(H5:σ 5=.i .i64 g5)(H14:σ 14=.sl o_t14 (List.map Rou.row t14))(H15:σ 15=.i .i64 t15)(H16:σ 16=.i .i64 t16)(H22:σ 22=.sl o_t22 (List.map Frm.row t22))(H23:σ 23=.i .i64 t23)(H24:σ 24=.i .i64 t24)(BP:Dk mP st.bx st.ow kp vp)(FR:Fr d kp st0.bx st0.ow st.bx st.ow)
include kP0 H1 H14 H15 H16 BP FR in
theorem w272_3 (h:T272_3 prog K P0 t14 t15 t16 mP):W prog d c272_1 σ st (thenW prog d (.loop l272_0) (blockW 0 (thenW prog d c272_3 Q))):=
 W.reg0 J fun _ _=>b_ H16 J add_ (m_ (e_ (kP0 _ _ h _ _ _ H1 H14 H15 J BP FR)))
include kP1 kP0 H1 H5 H14 H15 H16 H22 H23 H24 BP FR in
theorem w272_2 (h:T272_2 prog K P1 P0 g5 t14 t15 t16 t22 t23 t24 mP):W prog d l272_1 σ st (thenW prog d (.loop l272_1) (blockW 2 (blockW 1 (thenW prog d c272_1 (thenW prog d (.loop l272_0) (blockW 0 (thenW prog d c272_3 Q))))))):=
 q_ J (b_ H24 H23 lss_ (e_ (sq_ (cs_ J (fun c=>sk_ (sq_ (bk_ (sq_ (W.reg (m_ ((h.1 c).2.elim fun q k=>ia_ H22 H24 (h.1 c).1 k.1 (Frm.row_eq q) J (lf_ J J J (s_alloc (m_ (so_ J (show lk _ (d,24579)=some (_,([.i .i64 0,.i .i64 0,.i .u64 0,.sl .full (List.map Loc.row ([]:List Loc))]:List AV)) from lk_here) J J J (e_ (q_ J (m_ (m_ (m_ (l_ J lk_here J J (k.2.elim fun _ r=>r.elim fun _ e=>s_callB H1 (sec H5 (sec H24 (sec J sen))) e.1 (Nat.lt_succ_of_lt hkp) (Dk.other (key_LP hkp) (Dk.other (key_LP hkp) BP)) (fun _ o p=>m_ (e_ (q_ J (m_ (b_ J J neq_ (e_ (cs_ J (fun j=>q_ J (m_ (m_ (er_ (hQ _ _ _ _ J o (Fr.pass (Fr.box (Fr.box FR)) p) (e.2.1 j)))))) (fun j=>sk_ (W.reg0 J fun _ _=>b_ H24 J add_ (m_ (e_ (kP1 _ _ (e.2.2 j) _ _ _ _ H1 H5 H14 H15 H16 H22 H23 J o (Fr.pass (Fr.box (Fr.box FR)) p))))))))))))))))))))))))))))))) (fun c=>ex_ (w272_3 hQ hkp kP0 H1 H14 H15 H16 BP FR (h.2 c)))))))
include BP FR in
theorem w272_4 (h:T272_4 prog K mP):W prog d c272_3 σ st Q:=
 q_ J (m_ (er_ (hQ _ _ _ _ J BP FR h)))
include kP0 H1 H14 H15 H16 BP FR in
theorem w272_1 (h:T272_1 prog K P0 t14 t15 t16 mP):W prog d l272_0 σ st (thenW prog d (.loop l272_0) (blockW 0 (thenW prog d c272_3 Q))):=
 q_ J (b_ H16 H15 lss_ (e_ (sq_ (cs_ J (fun c=>sk_ (sq_ (bk_ (sq_ (W.reg (m_ ((h.1 c).2.elim fun e j=>ia_ H14 H16 (h.1 c).1 j.1 (Rou.row_eq e) J (lf_ J J J (s_alloc (m_ (so_ J (show lk _ (d,12291)=some (_,([.i .u8 0,.i .i64 0,.sl .full (List.map Frm.row ([]:List Frm)),.sl .full (List.map Dfr.row ([]:List Dfr)),.sl .full (List.map Pan.row ([]:List Pan))]:List AV)) from lk_here) J J J (e_ (q_ J (f_ J (l_ J lk_here J J (ll_ J (m_ (e_ (bk_ (j.2 (I272_1 prog d Q st0 kp vp t16 t14 t15 t16 e.frames (e.frames.length:Int)) (fun _ _ hb _ _ _ _ H1 H5 H14 H15 H16 H22 H23 H24 BP FR=>W.loop (w272_2 hQ hkp (fun _ _ x=>x) kP0 H1 H5 H14 H15 H16 H22 H23 H24 BP FR hb)) _ _ _ _ H1 H16 H14 H15 H16 J J J (Dk.other (key_LP hkp) (Dk.other (key_LP hkp) BP)) (Fr.box (Fr.box FR)))))))))))))))))))))) (fun c=>ex_ (w272_4 hQ hkp BP FR (h.2 c)))))))
include H0 H1 BP FR in
theorem w272_0 (h:T272_0 prog K mP):W prog d (sR 0 r272_0 (.seq (sR 1 r272_1 (.block 0 (.loop l272_0))) c272_3)) σ st Q:=
 q_ J (m_ (e_ (sq_ (q_ J (m_ (s_nilP H0 (f_ J (f_ J (s_loadD J BP J J (ll_ J (m_ (e_ (bk_ (h (I272_0 prog d Q st0 kp vp mP.state.routines (mP.state.routines.length:Int)) (fun _ _ hb _ _ _ H1 H14 H15 H16 BP FR=>W.loop (w272_1 hQ hkp (fun _ _ x=>x) H1 H14 H15 H16 BP FR hb)) _ _ _ H1 J J J BP FR))))))))))))))
end
theorem p272 {prog:Prog}(hf:prog.fn 272=some pf272){mP:Dsk}{K:Int→Dsk→Prop}(h:T272_0 prog K mP):PuXFK prog 272 (Dk mP) (fun kp vp=>[.bf 275 [.p kp vp 0]]) (fun r (b_:Dsk)=>∃res0:Int,(r=.i .i64 res0)∧K res0 b_) (fun b_=>(Dk b_)):=
  PuXFK.of hf (fun _ _=>rfl) (fun _=>Dk.out) fun d st kp vp hkp hB=>w272_0 (st0:=st) (Q:=fun e σ st'=>(e=.normal∨e=.ret)∧∃r b_,ares σ st' pf272.res=some r∧_∧_∧Fr d kp st.bx st.ow st'.bx st'.ow) (fun σ st'   res0 b_ H4 hb hf hk=>⟨.inr rfl,.i .i64 res0,b_,by simp only [pf272,ares,aresL,H4,ares1,Option.map_some,H4],⟨res0,rfl,hk⟩,hb,hf⟩) hkp (σ:=sl0 [.p kp vp 0,.bf 275 [.p kp vp 0]]) rfl rfl hB Fr.refl h
end Go.AM.SlotV

namespace Go.AM
open Go
set_option linter.unusedVariables false
set_option linter.unusedSimpArgs false
set_option maxRecDepth 4000
set_option maxHeartbeats 2000000
attribute [local irreducible] Decidable.decide W WO fillCells fillRows
def r268_0:List AI:=[oI 2 0]
def r268_1:List AI:=[oM 15 0,oN 16 15,oF 17 7 16,oF 18 1 17,oL 19 18,oM 3 19]
def r268_2:List AI:=[oM 20 3,oM 21 0,oN 22 21,oF 23 3 22,oF 24 3 23,oL 25 24,oJ 26 25,oT 27 .geq 20 26]
def r268_3:List AI:=[oI 2 6]
def r268_4:List AI:=[oM 28 0,oN 29 28,oF 30 3 29,oF 31 3 30,oL 32 31,oM 33 3,oX 34 5 32 33,oK 35 5 34,oO 4 (.alloc [z8,z6,zl,zl,zl]),oS 5 4 35]
def r268_5:List AI:=[oM 36 0,oN 37 36,oF 38 7 37,oF 39 0 38,oL 40 39,oW 41 .eql 40 3,oM 42 41,gT 42 (oM 43 0),gT 42 (oN 44 43),gT 42 (oF 45 7 44),gT 42 (oF 46 2 45),gT 42 (oL 47 46),gT 42 (oF 48 2 4),gT 42 (oL 49 48),gT 42 (oJ 50 49),gT 42 (oT 51 .geq 47 50),oA 52 42 51]
def r268_6:List AI:=[oI 2 6]
def r268_7:List AI:=[oM 54 0,oN 55 54,oF 56 0 55,oK 57 3 56,oM 58 3,oK 59 5 4,oQ 60 207 [57,58,59],oM 53 60,oE 61 0 53,oE 62 1 53,oM 5 61,oM 6 62]
def r268_8:List AI:=[oM 63 6,oV 64 .neq 63 0]
def r268_9:List AI:=[oM 65 6,oM 2 65]
def r268_10:List AI:=[oM 66 5,oO 67 (.slL 1 (.t 66) (some (.c (.i .i64 1))) none),oM 5 67]
def r268_11:List AI:=[oF 68 2 4,oL 69 68,oJ 70 69,oI 71 0]
def r268_12:List AI:=[oT 72 .lss 71 70]
def r268_13:List AI:=[oM 73 71,oX 74 4 69 71,oK 75 4 74,oO 8 (.alloc [z6,z6,z7,zl]),oM 7 73,oS 4 8 75]
def r268_14:List AI:=[oF 76 3 8,oL 77 76,oJ 78 77,oB 79 .add (.c (.i .i64 1)) (.t 78),oM 9 79]
def r268_15:List AI:=[oM 80 0,oN 81 80,oF 82 7 81,oF 83 0 82,oL 84 83,oW 85 .eql 84 2]
def r268_16:List AI:=[oM 86 0,oM 87 5,oO 88 (.iaL 1 (.t 87) (.c (.i .i64 0))),oL 89 88,oO 90 (.slS (.t 89) (some (.c (.i .i64 2))) none),oO 91 (.call true 276 [(.t 86),(.t 90)])]
def r268_17:List AI:=[oM 92 0,oN 93 92,oF 94 7 93,oF 95 0 94,oL 96 95,oW 97 .eql 96 3,oM 98 97,gT 98 (oM 99 0),gT 98 (oN 100 99),gT 98 (oF 101 7 100),gT 98 (oF 102 2 101),gT 98 (oL 103 102),gT 98 (oM 104 7),gT 98 (oT 105 .eql 103 104),oA 106 98 105]
def r268_18:List AI:=[oM 107 5,oM 108 9,oO 109 (.slL 1 (.t 107) (some (.c (.i .i64 1))) (some (.t 108))),oJ 110 109,oI 111 0]
def r268_19:List AI:=[oT 112 .lss 111 110]
def r268_20:List AI:=[oX 113 1 109 111,oL 114 113,oM 11 114]
def r268_21:List AI:=[oM 115 0,oM 116 11,oO 117 (.slS (.t 116) (some (.c (.i .i64 2))) none),oO 118 (.call true 276 [(.t 115),(.t 117)])]
def r268_22:List AI:=[oV 119 .add 111 1,oM 111 119]
def r268_23:List AI:=[oM 120 5,oM 121 9,oO 122 (.slL 1 (.t 120) (some (.t 121)) none),oM 5 122]
def r268_24:List AI:=[oV 123 .add 71 1,oM 71 123]
def r268_25:List AI:=[oF 124 3 4,oL 125 124,oJ 126 125,oM 12 126]
def r268_26:List AI:=[oM 127 0,oN 128 127,oF 129 7 128,oF 130 0 129,oL 131 130]
def r268_27:List AI:=[oW 133 .eql 131 4,oM 132 133]
def r268_28:List AI:=[oM 134 5,oM 135 12,oO 136 (.slL 1 (.t 134) none (some (.t 135))),oM 5 136]
def r268_29:List AI:=[oW 138 .eql 131 5,oM 137 138]
def r268_30:List AI:=[oM 139 5,oM 140 12,oO 141 (.slL 1 (.t 139) (some (.t 140)) none),oM 5 141]
def r268_31:List AI:=[oC 5 (.sl .full [])]
def r268_32:List AI:=[oM 142 5,oJ 143 142,oI 144 0]
def r268_33:List AI:=[oT 145 .lss 144 143]
def r268_34:List AI:=[oX 146 1 142 144,oL 147 146,oM 14 147]
def r268_35:List AI:=[oM 148 0,oM 149 14,oO 150 (.slS (.t 149) (some (.c (.i .i64 2))) none),oO 151 (.call true 276 [(.t 148),(.t 150)])]
def r268_36:List AI:=[oV 152 .add 144 1,oM 144 152]
def r268_37:List AI:=[oI 2 0]
abbrev l268_1:AC:=(sR 19 r268_19 (.seq (.cond (.t 112) .skip (.exit 2)) (.seq (.block 3 (sR 20 r268_20 (.reg 21 r268_21))) (.reg 22 r268_22))))
abbrev c268_1:AC:=(.cond (.t 106) (sR 18 r268_18 (.block 2 (.loop l268_1))) .skip)
abbrev c268_2:AC:=(.reg 23 r268_23)
abbrev c268_3:AC:=(.seq (sR 17 r268_17 c268_1) c268_2)
abbrev c268_4:AC:=(.reg 24 r268_24)
abbrev l268_0:AC:=(sR 12 r268_12 (.seq (.cond (.t 72) .skip (.exit 0)) (.seq (.block 1 (sR 13 r268_13 (sR 14 r268_14 (.seq (sR 15 r268_15 (.cond (.t 85) (.reg 16 r268_16) .skip)) c268_3)))) c268_4)))
abbrev l268_2:AC:=(sR 33 r268_33 (.seq (.cond (.t 145) .skip (.exit 5)) (.seq (.block 6 (sR 34 r268_34 (.reg 35 r268_35))) (.reg 36 r268_36))))
abbrev c268_7:AC:=(sR 37 r268_37 .ret)
abbrev c268_8:AC:=(.seq (sR 32 r268_32 (.block 5 (.loop l268_2))) c268_7)
abbrev c268_9:AC:=(sR 25 r268_25 (.seq (sR 26 r268_26 (.block 4 (sR 28 r268_27 (.cond (.t 132) (.reg 29 r268_28) (sR 30 r268_29 (.cond (.t 137) (.reg 31 r268_30) (.reg 27 r268_31))))))) c268_8))
abbrev c268_10:AC:=(.seq (sR 11 r268_11 (.block 0 (.loop l268_0))) c268_9)
abbrev c268_11:AC:=(sR 10 r268_10 c268_10)
abbrev c268_12:AC:=(.seq (sR 8 r268_8 (.cond (.t 64) (sR 9 r268_9 .ret) .skip)) c268_11)
abbrev c268_13:AC:=(sR 7 r268_7 c268_12)
abbrev c268_14:AC:=(.seq (sR 5 r268_5 (.cond (.t 52) (sR 6 r268_6 .ret) .skip)) c268_13)
abbrev c268_15:AC:=(sR 4 r268_4 c268_14)
abbrev c268_16:AC:=(.seq (sR 2 r268_2 (.cond (.t 27) (sR 3 r268_3 .ret) .skip)) c268_15)
abbrev c268_17:AC:=(sR 1 r268_1 c268_16)
abbrev b268:AC:=(sR 0 r268_0 c268_17)
def pf268:AF:={ nt:=153,res:=[.tmp 2],body:=b268 }
abbrev I268_0 (prog:Prog)(d:Nat)(Q:AE→Sl→St→Prop)(st0:St)(kp:Key)(vp:Nat)(t69:List Frm)(t70:Int)(l5:LB)(t71:Int)(m16392:Rou)(mP:Dsk):Prop:=
  ∀(σ:Sl)(st:St) (o_l5 o_t69:Own)(v16392:Nat),σ 0=.p kp vp 0→σ 4=.p (d,16392) v16392 0→σ 5=.sl o_l5 (List.map rowS l5)→σ 69=.sl o_t69 (List.map Frm.row t69)→σ 70=.i .i64 t70→σ 71=.i .i64 t71→lk st.bx (d,16392)=some (v16392,Rou.cs m16392)→Dk mP st.bx st.ow kp vp→Fr d kp st0.bx st0.ow st.bx st.ow→W prog d (.loop l268_0) σ st (blockW 0 (thenW prog d c268_9 Q))
abbrev I268_1 (prog:Prog)(d:Nat)(Q:AE→Sl→St→Prop)(st0:St)(kp:Key)(vp:Nat)(l5:LB)(n9:Int)(t69:List Frm)(t70:Int)(t71:Int)(t109:LB)(t110:Int)(t111:Int)(m16392:Rou)(mP:Dsk):Prop:=
  ∀(σ:Sl)(st:St) (o_l5 o_t69 o_t109:Own)(v16392:Nat),σ 0=.p kp vp 0→σ 4=.p (d,16392) v16392 0→σ 5=.sl o_l5 (List.map rowS l5)→σ 9=.i .i64 n9→σ 69=.sl o_t69 (List.map Frm.row t69)→σ 70=.i .i64 t70→σ 71=.i .i64 t71→σ 109=.sl o_t109 (List.map rowS t109)→σ 110=.i .i64 t110→σ 111=.i .i64 t111→lk st.bx (d,16392)=some (v16392,Rou.cs m16392)→Dk mP st.bx st.ow kp vp→Fr d kp st0.bx st0.ow st.bx st.ow→W prog d (.loop l268_1) σ st (blockW 2 (thenW prog d c268_2 (blockW 1 (thenW prog d c268_4 (thenW prog d (.loop l268_0) (blockW 0 (thenW prog d c268_9 Q)))))))
def T268_14 (prog:Prog)(K:Int→Dsk→Prop)(P0:LB→Int→Rou→Dsk→Prop)(l5:LB)(t69:List Frm)(t70:Int)(t71:Int)(m16392:Rou)(mP:Dsk):Prop:=
  P0 l5 (IntKind.i64.wrap (t71+1)) m16392 mP
def T268_13 (prog:Prog)(K:Int→Dsk→Prop)(P0:LB→Int→Rou→Dsk→Prop)(l5:LB)(n9:Int)(t69:List Frm)(t70:Int)(t71:Int)(m16392:Rou)(mP:Dsk):Prop:=
  0≤n9∧(n9).toNat≤l5.length∧T268_14 prog K P0 (l5.drop (n9).toNat) t69 t70 t71 m16392 mP
def T268_12 (prog:Prog)(K:Int→Dsk→Prop)(P1:Int→Rou→Dsk→Prop)(P0:LB→Int→Rou→Dsk→Prop)(l5:LB)(n9:Int)(t69:List Frm)(t70:Int)(t71:Int)(t109:LB)(t110:Int)(t111:Int)(m16392:Rou)(mP:Dsk):Prop:=
  (t111<t110→0≤t111∧∃c:BS,t109[(t111).toNat]?=some c∧2≤c.length∧∃e:Dsk,PuX prog 276 (Dk mP) [.s (c.drop 2)] (fun r=>r=.tup []) ((Dk e))∧P1 (IntKind.i64.wrap (t111+1)) m16392 e)∧(¬(t111<t110)→T268_13 prog K P0 l5 n9 t69 t70 t71 m16392 mP)
def T268_11 (prog:Prog)(K:Int→Dsk→Prop)(P0:LB→Int→Rou→Dsk→Prop)(l5:LB)(n9:Int)(t69:List Frm)(t70:Int)(t71:Int)(t106:Bool)(m16392:Rou)(mP:Dsk):Prop:=
  (t106=true→0≤(1:Int)∧1≤n9∧(n9).toNat≤l5.length∧∀P1:Int→Rou→Dsk→Prop,(∀(t111:Int)(m16392:Rou)(mP:Dsk),T268_12 prog K P1 P0 l5 n9 t69 t70 t71 ((l5.drop 1).take ((n9).toNat-1)) (((l5.drop 1).take ((n9).toNat-1)).length:Int) t111 m16392 mP→P1 t111 m16392 mP)→P1 0 m16392 mP)∧(t106=false→T268_13 prog K P0 l5 n9 t69 t70 t71 m16392 mP)
def T268_10 (prog:Prog)(K:Int→Dsk→Prop)(P0:LB→Int→Rou→Dsk→Prop)(l5:LB)(k7:Int)(n9:Int)(t69:List Frm)(t70:Int)(t71:Int)(m16392:Rou)(mP:Dsk):Prop:=
  (mP.query.kind=3→T268_11 prog K P0 l5 n9 t69 t70 t71 (decide (mP.query.k=k7)) m16392 mP)∧(¬(mP.query.kind=3)→T268_11 prog K P0 l5 n9 t69 t70 t71 false m16392 mP)
abbrev I268_2 (prog:Prog)(d:Nat)(Q:AE→Sl→St→Prop)(st0:St)(kp:Key)(vp:Nat)(t142:LB)(t143:Int)(t144:Int)(mP:Dsk):Prop:=
  ∀(σ:Sl)(st:St)(o_t142:Own),σ 0=.p kp vp 0→σ 142=.sl o_t142 (List.map rowS t142)→σ 143=.i .i64 t143→σ 144=.i .i64 t144→Dk mP st.bx st.ow kp vp→Fr d kp st0.bx st0.ow st.bx st.ow→W prog d (.loop l268_2) σ st (blockW 5 (thenW prog d c268_7 Q))
def T268_18 (prog:Prog)(K:Int→Dsk→Prop)(mP:Dsk):Prop:=
  K 0 mP
def T268_17 (prog:Prog)(K:Int→Dsk→Prop)(P2:Int→Dsk→Prop)(t142:LB)(t143:Int)(t144:Int)(mP:Dsk):Prop:=
  (t144<t143→0≤t144∧∃c:BS,t142[(t144).toNat]?=some c∧2≤c.length∧∃e:Dsk,PuX prog 276 (Dk mP) [.s (c.drop 2)] (fun r=>r=.tup []) ((Dk e))∧P2 (IntKind.i64.wrap (t144+1)) e)∧(¬(t144<t143)→T268_18 prog K mP)
def T268_16 (prog:Prog)(K:Int→Dsk→Prop)(l5:LB)(mP:Dsk):Prop:=
  ∀P2:Int→Dsk→Prop,(∀(t144:Int)(mP:Dsk),T268_17 prog K P2 l5 (l5.length:Int) t144 mP→P2 t144 mP)→P2 0 mP
def T268_15 (prog:Prog)(K:Int→Dsk→Prop)(l5:LB)(m16392:Rou)(mP:Dsk):Prop:=
  (mP.query.kind=4→0≤(m16392.defers.length:Int)∧(m16392.defers.length:Int).toNat≤l5.length∧T268_16 prog K (l5.take (m16392.defers.length:Int).toNat) mP)∧(¬(mP.query.kind=4)→(mP.query.kind=5→0≤(m16392.defers.length:Int)∧(m16392.defers.length:Int).toNat≤l5.length∧T268_16 prog K (l5.drop (m16392.defers.length:Int).toNat) mP)∧(¬(mP.query.kind=5)→T268_16 prog K ([]:LB) mP))
def T268_9 (prog:Prog)(K:Int→Dsk→Prop)(P0:LB→Int→Rou→Dsk→Prop)(l5:LB)(t69:List Frm)(t70:Int)(t71:Int)(m16392:Rou)(mP:Dsk):Prop:=
  (t71<t70→0≤t71∧∃e:Frm,t69[(t71).toNat]?=some e∧(mP.query.kind=2→∃c:BS,l5[0]?=some c∧2≤c.length∧∃i:Dsk,PuX prog 276 (Dk mP) [.s (c.drop 2)] (fun r=>r=.tup []) ((Dk i))∧T268_10 prog K P0 l5 t71 (IntKind.i64.wrap (1+(e.locals.length:Int))) t69 t70 t71 m16392 i)∧(¬(mP.query.kind=2)→T268_10 prog K P0 l5 t71 (IntKind.i64.wrap (1+(e.locals.length:Int))) t69 t70 t71 m16392 mP))∧(¬(t71<t70)→T268_15 prog K l5 m16392 mP)
def T268_8 (prog:Prog)(K:Int→Dsk→Prop)(l5:LB)(m16392:Rou)(mP:Dsk):Prop:=
  ∀P0:LB→Int→Rou→Dsk→Prop,(∀(l5:LB)(t71:Int)(m16392_b:Rou)(mP:Dsk),T268_9 prog K P0 l5 m16392.frames (m16392.frames.length:Int) t71 m16392_b mP→P0 l5 t71 m16392_b mP)→P0 l5 0 m16392 mP
def T268_7 (prog:Prog)(K:Int→Dsk→Prop)(l5:LB)(m16392:Rou)(mP:Dsk):Prop:=
  1≤l5.length∧T268_8 prog K (l5.drop 1) m16392 mP
def T268_6 (prog:Prog)(K:Int→Dsk→Prop)(l5:LB)(e6:Int)(m16392:Rou)(mP:Dsk):Prop:=
  (e6≠0→K e6 mP)∧(¬(e6≠0)→T268_7 prog K l5 m16392 mP)
def T268_5 (prog:Prog)(K:Int→Dsk→Prop)(g3:Int)(m16392:Rou)(mP:Dsk):Prop:=
  ∃c e,Pus prog 207 [mP.image.av,.i .i64 g3,m16392.av] (.tup [.sl .ext (List.map rowS c),.i .i64 e])∧T268_6 prog K c e m16392 mP
def T268_4 (prog:Prog)(K:Int→Dsk→Prop)(g3:Int)(m16392:Rou)(mP:Dsk):Prop:=
  (mP.query.kind=3→(mP.query.k≥(m16392.frames.length:Int)→K 6 mP)∧(¬(mP.query.k≥(m16392.frames.length:Int))→T268_5 prog K g3 m16392 mP))∧(¬(mP.query.kind=3)→T268_5 prog K g3 m16392 mP)
def T268_3 (prog:Prog)(K:Int→Dsk→Prop)(g3:Int)(mP:Dsk):Prop:=
  0≤g3∧∃c,mP.state.routines[(g3).toNat]?=some c∧T268_4 prog K g3 c mP
def T268_2 (prog:Prog)(K:Int→Dsk→Prop)(g3:Int)(mP:Dsk):Prop:=
  (g3≥(mP.state.routines.length:Int)→K 6 mP)∧(¬(g3≥(mP.state.routines.length:Int))→T268_3 prog K g3 mP)
def T268_1 (prog:Prog)(K:Int→Dsk→Prop)(mP:Dsk):Prop:=
  T268_2 prog K mP.query.g mP
def T268_0 (prog:Prog)(K:Int→Dsk→Prop)(mP:Dsk):Prop:=
  T268_1 prog K mP
section
variable {prog:Prog}{d:Nat}{Q:AE→Sl→St→Prop}{K:Int→Dsk→Prop}{st0:St}{kp:Key}{vp:Nat}(hQ:HD d st0 kp vp Dk (AV.i .i64) 2 Q K)(hkp:kp.1<d){σ:Sl}{st:St}
include hQ hkp
variable {l5:LB}{t69:List Frm}{t70 t71:Int}{m16392:Rou}{mP:Dsk}{P0:LB→Int→Rou→Dsk→Prop}{o_l5 o_t69:Own}{v16392:Nat}{n9:Int}{t109:LB}{t110 t111:Int}{P1:Int→Rou→Dsk→Prop}{o_t109:Own}{t106:Bool}{k7:Int}{t142:LB}{t143 t144:Int}{P2:Int→Dsk→Prop}{o_t142:Own}{e6 g3:Int}
variable (kP1 :∀(t111:Int)(m16392:Rou)(mP:Dsk),P1 t111 m16392 mP→I268_1 prog d Q st0 kp vp l5 n9 t69 t70 t71 t109 t110 t111 m16392 mP) (kP2 :∀(t144:Int)(mP:Dsk),P2 t144 mP→I268_2 prog d Q st0 kp vp t142 t143 t144 mP) (kP0 :∀(l5:LB)(t71:Int)(m16392:Rou)(mP:Dsk),P0 l5 t71 m16392 mP→I268_0 prog d Q st0 kp vp t69 t70 l5 t71 m16392 mP)(H0:σ 0=.p kp vp 0)(H142:σ 142=.sl o_t142 (List.map rowS t142))(H3:σ 3=.i .i64 g3)(H143:σ 143=.i .i64 t143)(H4:σ 4=.p (d,16392) v16392 0)(H144:σ 144=.i .i64 t144)(H5:σ 5=.sl o_l5 (List.map rowS l5))(H7:σ 7=.i .i64 k7)(H6:σ 6=.i .i64 e6)(H9:σ 9=.i .i64 n9)(H69:σ 69=.sl o_t69 (List.map Frm.row t69))(H70:σ 70=.i .i64 t70)(H71:σ 71=.i .i64 t71)(H109:σ 109=.sl o_t109 (List.map rowS t109))(H106:σ 106=.b t106)(H110:σ 110=.i .i64 t110)(H111:σ 111=.i .i64 t111)(B16392:lk st.bx (d,16392)=some (v16392,Rou.cs m16392))(BP:Dk mP st.bx st.ow kp vp)(FR:Fr d kp st0.bx st0.ow st.bx st.ow)
include kP0 H0 H4 H5 H69 H70 H71 B16392 BP FR in
theorem w268_14 (h:T268_14 prog K P0 l5 t69 t70 t71 m16392 mP):W prog d c268_4 σ st (thenW prog d (.loop l268_0) (blockW 0 (thenW prog d c268_9 Q))):=
 au trivial
include kP0 H0 H4 H5 H9 H69 H70 H71 B16392 BP FR in
theorem w268_13 (h:T268_13 prog K P0 l5 n9 t69 t70 t71 m16392 mP):W prog d c268_2 σ st (blockW 1 (thenW prog d c268_4 (thenW prog d (.loop l268_0) (blockW 0 (thenW prog d c268_9 Q))))):=
 W.reg0 J fun _ _=>s_mvL H5 (m_ (s_slL_lo rowS_len J H9 h.1 h.2.1 (s_mvL J (e_ (w268_14 hQ hkp kP0 H0 H4 J H69 H70 H71 B16392 BP FR h.2.2)))))
include kP1 kP0 H0 H4 H5 H9 H69 H70 H71 H109 H110 H111 B16392 BP FR in
theorem w268_12 (h:T268_12 prog K P1 P0 l5 n9 t69 t70 t71 t109 t110 t111 m16392 mP):W prog d l268_1 σ st (thenW prog d (.loop l268_1) (blockW 2 (thenW prog d c268_2 (blockW 1 (thenW prog d c268_4 (thenW prog d (.loop l268_0) (blockW 0 (thenW prog d c268_9 Q)))))))):=
 q_ J (b_ H111 H110 lss_ (e_ (sq_ (cs_ J (fun c=>sk_ (sq_ (bk_ (q_ J ((h.1 c).2.elim fun _ e=>ia_ H109 H111 (h.1 c).1 e.1 J J (lf_ J J J (m_ (e_ (W.reg0 J fun _ _=>m_ (m_ (s_slS_lo J J (by decide) e.2.1 (e.2.2.elim fun _ i=>cX_ (sec H0 (sec J sen)) i.1 (Nat.lt_succ_of_lt hkp) BP (fun _ k j=>e_ (W.reg0 J fun _ _=>b_ H111 J add_ (m_ (e_ (kP1 _ _ _ i.2 _ _ _ _ _ _ H0 H4 H5 H9 H69 H70 H71 H109 H110 J ((j.1 (d,16392) (Nat.lt_succ_self d) (key_LP hkp)).trans B16392) k (Fr.pass FR j)))))))))))))))))) (fun c=>ex_ (w268_13 hQ hkp kP0 H0 H4 H5 H9 H69 H70 H71 B16392 BP FR (h.2 c)))))))
include kP0 H0 H4 H5 H9 H69 H70 H71 H106 B16392 BP FR in
theorem w268_11 (h:T268_11 prog K P0 l5 n9 t69 t70 t71 t106 m16392 mP):W prog d c268_1 σ st (thenW prog d c268_2 (blockW 1 (thenW prog d c268_4 (thenW prog d (.loop l268_0) (blockW 0 (thenW prog d c268_9 Q)))))):=
 cb_ H106 (fun c=>q_ J (s_mvL H5 (m_ (s_slL rowS_len J J H9 (h.1 c).1 (h.1 c).2.1 (h.1 c).2.2.1 (ll_ J (m_ (e_ (bk_ ((h.1 c).2.2.2 (I268_1 prog d Q st0 kp vp l5 n9 t69 t70 t71 ((l5.drop 1).take ((n9).toNat-1)) (((l5.drop 1).take ((n9).toNat-1)).length:Int)) (fun _ _ _ hb _ _ _ _ _ _ H0 H4 H5 H9 H69 H70 H71 H109 H110 H111 B16392 BP FR=>W.loop (w268_12 hQ hkp (fun _ _ _ x=>x) kP0 H0 H4 H5 H9 H69 H70 H71 H109 H110 H111 B16392 BP FR hb)) _ _ _ _ _ _ H0 H4 H5 H9 H69 H70 H71 J J J B16392 BP FR))))))))) (fun c=>sk_ (w268_13 hQ hkp kP0 H0 H4 H5 H9 H69 H70 H71 B16392 BP FR (h.2 c)))
include kP0 H0 H4 H5 H7 H9 H69 H70 H71 B16392 BP FR in
theorem w268_10 (h:T268_10 prog K P0 l5 k7 n9 t69 t70 t71 m16392 mP):W prog d c268_3 σ st (blockW 1 (thenW prog d c268_4 (thenW prog d (.loop l268_0) (blockW 0 (thenW prog d c268_9 Q))))):=
 sq_ (q_ J (s_mv H0 (s_nilP J (f_ J (f_ J (s_loadD J BP J J (b_ J J eql_ (s_mvB J (em_ (g:=98) J (fun c=>gy_ J (s_mv H0 (gy_ J (s_nilP J (gy_ J (f_ J (gy_ J (f_ J (gy_ J (s_loadD J BP J J (gy_ J (s_mvI H7 (gy_ J (b_ J J eql_ (pt_ J J (e_ (w268_11 hQ hkp kP0 H0 H4 H5 H9 H69 H70 H71 J B16392 BP FR (h.1 c)))))))))))))))))) (fun c=>z_ 8 J (e_ (w268_11 hQ hkp kP0 H0 H4 H5 H9 H69 H70 H71 J B16392 BP FR (h.2 c)))))))))))))
include BP FR in
theorem w268_18 (h:T268_18 prog K mP):W prog d c268_7 σ st Q:=
 au trivial
include kP2 H0 H142 H143 H144 BP FR in
theorem w268_17 (h:T268_17 prog K P2 t142 t143 t144 mP):W prog d l268_2 σ st (thenW prog d (.loop l268_2) (blockW 5 (thenW prog d c268_7 Q))):=
 q_ J (b_ H144 H143 lss_ (e_ (sq_ (cs_ J (fun c=>sk_ (sq_ (bk_ (q_ J ((h.1 c).2.elim fun _ e=>ia_ H142 H144 (h.1 c).1 e.1 J J (lf_ J J J (m_ (e_ (W.reg0 J fun _ _=>m_ (m_ (s_slS_lo J J (by decide) e.2.1 (e.2.2.elim fun _ i=>cX_ (sec H0 (sec J sen)) i.1 (Nat.lt_succ_of_lt hkp) BP (fun _ j k=>e_ (W.reg0 J fun _ _=>b_ H144 J add_ (m_ (e_ (kP2 _ _ i.2 _ _ _ H0 H142 H143 J j (Fr.pass FR k)))))))))))))))))) (fun c=>ex_ (w268_18 hQ hkp BP FR (h.2 c)))))))
include H0 H5 BP FR in
theorem w268_16 (h:T268_16 prog K l5 mP):W prog d c268_8 σ st Q:=
 sq_ (q_ J (s_mvL H5 (ll_ J (m_ (e_ (bk_ (h (I268_2 prog d Q st0 kp vp l5 (l5.length:Int)) (fun _ _ hb _ _ _ H0 H142 H143 H144 BP FR=>W.loop (w268_17 hQ hkp (fun _ _ x=>x) H0 H142 H143 H144 BP FR hb)) _ _ _ H0 J J J BP FR)))))))
include H0 H4 H5 B16392 BP FR in
theorem w268_15 (h:T268_15 prog K l5 m16392 mP):W prog d c268_9 σ st Q:=
 q_ J (f_ H4 (l_ J B16392 J J (ll_ J (m_ (e_ (sq_ (q_ J (m_ (s_nilP H0 (f_ J (f_ J (s_loadD J BP J J (e_ (bk_ (q_ J (b_ J J eql_ (m_ (e_ (cs_ J (fun c=>W.reg0 J fun _ _=>s_mvL H5 (m_ (s_slL_hi rowS_len J J (h.1 c).1 (h.1 c).2.1 (s_mvL J (e_ (w268_16 hQ hkp H0 J BP FR (h.1 c).2.2)))))) (fun c=>q_ J (b_ J J eql_ (m_ (e_ (cs_ J (fun e=>W.reg0 J fun _ _=>s_mvL H5 (m_ (s_slL_lo rowS_len J J ((h.2 c).1 e).1 ((h.2 c).1 e).2.1 (s_mvL J (e_ (w268_16 hQ hkp H0 J BP FR ((h.2 c).1 e).2.2)))))) (fun e=>W.reg0 J fun _ _=>s_mvL (f:=rowS) (l:=[]) J (e_ (w268_16 hQ hkp H0 J BP FR ((h.2 c).2 e))))))))))))))))))))))))))))
include kP0 H0 H4 H5 H69 H70 H71 B16392 BP FR in
theorem w268_9 (h:T268_9 prog K P0 l5 t69 t70 t71 m16392 mP):W prog d l268_0 σ st (thenW prog d (.loop l268_0) (blockW 0 (thenW prog d c268_9 Q))):=
 q_ J (b_ H71 H70 lss_ (e_ (sq_ (cs_ J (fun c=>sk_ (sq_ (bk_ (sq_ (W.reg (m_ ((h.1 c).2.elim fun q e=>ia_ H69 H71 (h.1 c).1 e.1 (Frm.row_eq q) J (lf_ J J J (s_alloc (m_ (so_ J (show lk _ (d,53251)=some (_,([.i .i64 0,.i .i64 0,.i .u64 0,.sl .full (List.map Loc.row ([]:List Loc))]:List AV)) from lk_here) J J J (e_ (q_ J (f_ J (l_ J lk_here J J (ll_ J (b_ J J add_ (m_ (e_ (sq_ (q_ J (m_ (s_nilP H0 (f_ J (f_ J (s_loadD J (Dk.other (key_LP hkp) (Dk.other (key_LP hkp) BP)) J J (b_ J J eql_ (e_ (cs_ J (fun k=>W.reg0 J fun _ _=>m_ (s_mvL H5 ((e.2.1 k).elim fun _ j=>ia_ J J (by decide) j.1 J J (lf_ J J J (s_slS_lo J J (by decide) j.2.1 (j.2.2.elim fun _ o=>cX_ (sec H0 (sec J sen)) o.1 (Nat.lt_succ_of_lt hkp) (Dk.other (key_LP hkp) (Dk.other (key_LP hkp) BP)) (fun _ r p=>e_ (w268_10 hQ hkp kP0 H0 H4 H5 H71 J H69 H70 H71 ((p.1 (d,16392) (Nat.lt_succ_self d) (key_LP hkp)).trans (lk_other J (lk_other J B16392))) r (Fr.pass (Fr.box (Fr.box FR)) p) o.2)))))))) (fun k=>sk_ (w268_10 hQ hkp kP0 H0 H4 H5 H71 J H69 H70 H71 (lk_other J (lk_other J B16392)) (Dk.other (key_LP hkp) (Dk.other (key_LP hkp) BP)) (Fr.box (Fr.box FR)) (e.2.2 k)))))))))))))))))))))))))))))))) (fun c=>ex_ (w268_15 hQ hkp H0 H4 H5 B16392 BP FR (h.2 c)))))))
include H0 H4 H5 B16392 BP FR in
theorem w268_8 (h:T268_8 prog K l5 m16392 mP):W prog d c268_10 σ st Q:=
 sq_ (q_ J (f_ H4 (l_ J B16392 J J (ll_ J (m_ (e_ (bk_ (h (I268_0 prog d Q st0 kp vp m16392.frames (m16392.frames.length:Int)) (fun _ _ _ _ hb _ _ _ _ _ H0 H4 H5 H69 H70 H71 B16392 BP FR=>W.loop (w268_9 hQ hkp (fun _ _ _ _ x=>x) H0 H4 H5 H69 H70 H71 B16392 BP FR hb)) _ _ _ _ _ H0 H4 H5 J J J B16392 BP FR))))))))
include H0 H4 H5 B16392 BP FR in
theorem w268_7 (h:T268_7 prog K l5 m16392 mP):W prog d c268_11 σ st Q:=
 q_ J (s_mvL H5 (s_slL_lo rowS_len J J (by decide) h.1 (s_mvL J (e_ (w268_8 hQ hkp H0 H4 J B16392 BP FR h.2)))))
include H0 H4 H5 H6 B16392 BP FR in
theorem w268_6 (h:T268_6 prog K l5 e6 m16392 mP):W prog d c268_12 σ st Q:=
 sq_ (q_ J (m_ (b_ H6 J neq_ (e_ (cs_ J (fun c=>q_ J (m_ (m_ (er_ (hQ H6 BP FR (h.1 c)))))) (fun c=>sk_ (w268_7 hQ hkp H0 H4 H5 B16392 BP FR (h.2 c))))))))
include H0 H3 H4 B16392 BP FR in
theorem w268_5 (h:T268_5 prog K g3 m16392 mP):W prog d c268_13 σ st Q:=
 q_ J (m_ (s_nilP H0 (f_ J (s_loadD J BP J J (m_ (l_ H4 B16392 J J (x2 h fun _ _ c=>ca_ (sc3 J H3 J J) c.1 (m_ (x_ J J (x_ J J (s_mvL J (m_ (e_ (w268_6 hQ hkp H0 H4 J J B16392 BP FR c.2))))))))))))))
include H0 H3 H4 B16392 BP FR in
theorem w268_4 (h:T268_4 prog K g3 m16392 mP):W prog d c268_14 σ st Q:=
 sq_ (q_ J (s_mv H0 (s_nilP J (f_ J (f_ J (s_loadD J BP J J (b_ J J eql_ (s_mvB J (em_ (g:=42) J (fun c=>gy_ J (s_mv H0 (gy_ J (s_nilP J (gy_ J (f_ J (gy_ J (f_ J (gy_ J (s_loadD J BP J J (gy_ J (f_ H4 (gy_ J (l_ J B16392 J J (gy_ J (ll_ J (gy_ J (b_ J J geq_ (pt_ J J (e_ (cs_ J (fun e=>q_ J (m_ (er_ (hQ J BP FR ((h.1 c).1 e))))) (fun e=>sk_ (w268_5 hQ hkp H0 H3 H4 B16392 BP FR ((h.1 c).2 e)))))))))))))))))))))))) (fun c=>z_ 10 J (e_ (cf_ J (sk_ (w268_5 hQ hkp H0 H3 H4 B16392 BP FR (h.2 c)))))))))))))))
include H0 H3 BP FR in
theorem w268_3 (h:T268_3 prog K g3 mP):W prog d c268_15 σ st Q:=
 sq_ (W.reg (m_ (s_nilP H0 (f_ J (f_ J (s_loadD J (Dk.other (key_LP hkp) BP) J J (m_ (h.2.elim fun e c=>ia_ J H3 h.1 c.1 (Rou.row_eq e) J (lf_ J J J (s_alloc (so_ J (show lk _ (d,16392)=some (_,([.i .u8 0,.i .i64 0,.sl .full (List.map Frm.row ([]:List Frm)),.sl .full (List.map Dfr.row ([]:List Dfr)),.sl .full (List.map Pan.row ([]:List Pan))]:List AV)) from lk_here) J J J (e_ (w268_4 hQ hkp H0 H3 J lk_here (Dk.other (key_LP hkp) (Dk.other (key_LP hkp) BP)) (Fr.box (Fr.box FR)) c.2)))))))))))))
include H0 H3 BP FR in
theorem w268_2 (h:T268_2 prog K g3 mP):W prog d c268_16 σ st Q:=
 sq_ (q_ J (m_ (m_ (s_nilP H0 (f_ J (f_ J (s_loadD J BP J J (ll_ J (b_ H3 J geq_ (e_ (cs_ J (fun c=>q_ J (m_ (er_ (hQ J BP FR (h.1 c))))) (fun c=>sk_ (w268_3 hQ hkp H0 H3 BP FR (h.2 c))))))))))))))
include H0 BP FR in
theorem w268_1 (h:T268_1 prog K mP):W prog d c268_17 σ st Q:=
 q_ J (m_ (s_nilP H0 (f_ J (f_ J (s_loadD J BP J J (m_ (e_ (w268_2 hQ hkp H0 J BP FR h))))))))
include H0 BP FR in
theorem w268_0 (h:T268_0 prog K mP):W prog d (sR 0 r268_0 c268_17) σ st Q:=
 q_ J (m_ (e_ (w268_1 hQ hkp H0 BP FR h)))
end
theorem p268 {prog:Prog}(hf:prog.fn 268=some pf268){mP:Dsk}{K:Int→Dsk→Prop}(h:T268_0 prog K mP):PuXK prog 268 (Dk mP) [] (fun r (b_:Dsk)=>∃res0:Int,(r=.i .i64 res0)∧K res0 b_) (fun b_=>(Dk b_)):=
 PD hf J J (fun _=>Dk.out) fun d st kp vp hkp hB Q q=>w268_0 q hkp J hB Fr.refl h
end Go.AM

namespace Go.AM
open Go
set_option linter.unusedVariables false
set_option linter.unusedSimpArgs false
set_option maxRecDepth 4000
set_option maxHeartbeats 2000000
attribute [local irreducible] Decidable.decide W WO fillCells fillRows
abbrev H249 (Q:AE→Sl→St→Prop)(K:Bool→Prop):Prop:=∀(σ:Sl)(st:St)(res0:Bool),σ 4=.b res0→K res0→Q .ret σ st
section
variable {prog:Prog}{d:Nat}{Q:AE→Sl→St→Prop}{K:Bool→Prop}(hQ:H249 Q K){σ:Sl}{st:St}
include hQ
end
abbrev H250 (Q:AE→Sl→St→Prop)(K:Bool→Prop):Prop:=∀(σ:Sl)(st:St)(res0:Bool),σ 2=.b res0→K res0→Q .ret σ st
section
variable {prog:Prog}{d:Nat}{Q:AE→Sl→St→Prop}{K:Bool→Prop}(hQ:H250 Q K){σ:Sl}{st:St}
include hQ
end
abbrev H251 (Q:AE→Sl→St→Prop)(K:Bool→Prop):Prop:=∀(σ:Sl)(st:St)(res0:Bool),σ 4=.b res0→K res0→Q .ret σ st
section
variable {prog:Prog}{d:Nat}{Q:AE→Sl→St→Prop}{K:Bool→Prop}(hQ:H251 Q K){σ:Sl}{st:St}
include hQ
end
abbrev H252 (d:Nat)(st0:St)(Q:AE→Sl→St→Prop)(K:Sta→Prop):Prop:=∀(σ:Sl)(st:St)(k0:Key)(v0:Nat)(res0:Sta),σ 0=.p k0 v0 0→lk st.bx k0=some (v0,[.i .u8 res0.outcome,.i .i64 res0.failing,.i .i64 res0.steps,.sl .full (List.map Rou.row res0.routines)])→Fr d (d,0) st0.bx st0.ow st.bx st.ow→K res0→Q .ret σ st
section
variable {prog:Prog}{d:Nat}{Q:AE→Sl→St→Prop}{K:Sta→Prop}{st0:St}(hQ:H252 d st0 Q K){σ:Sl}{st:St}
include hQ
end
abbrev H253 (Q:AE→Sl→St→Prop)(K:Bool→Prop):Prop:=∀(σ:Sl)(st:St)(res0:Bool),σ 6=.b res0→K res0→Q .ret σ st
section
variable {prog:Prog}{d:Nat}{Q:AE→Sl→St→Prop}{K:Bool→Prop}(hQ:H253 Q K){σ:Sl}{st:St}
include hQ
end
def r254_0:List AI:=[oY 3 3 0,oY 4 4 1,oC 6 (.sl .full []),oI 7 0]
def r254_1:List AI:=[oM 11 2,oQ 12 245 [11],oM 10 12,oE 13 0 10,oE 14 1 10,oO 8 (.alloc [z8,z6,z6,z6,zs]),oS 5 8 13,oM 9 14]
def r254_2:List AI:=[oM 15 9,oV 16 .neq 15 0]
def r254_3:List AI:=[oM 17 9,oC 6 (.sl .full []),oM 7 17]
def r254_4:List AI:=[oK 18 3 3,oK 19 4 4,oK 20 5 8,oQ 21 264 [18,19,20],oE 22 0 21,oE 23 1 21,oM 6 22,oM 7 23]
abbrev b254:AC:=(sR 0 r254_0 (sR 1 r254_1 (.seq (sR 2 r254_2 (.cond (.t 16) (sR 3 r254_3 .ret) .skip)) (sR 4 r254_4 .ret))))
def pf254:AF:={ nt:=24,res:=[.tmp 6,.tmp 7],body:=b254 }
def T254_0 (prog:Prog)(K:LB→Int→Prop)(m0:Img)(s1:Sta)(text2:BS):Prop:=
  ∃e:Qry,∃c,Pus prog 245 [.s text2] (.tup [e.av,.i .i64 c])∧(c≠0→K ([]:LB) c)∧(¬(c≠0)→∃k j,Pus prog 264 [m0.av,s1.av,e.av] (.tup [.sl .ext (List.map rowS k),.i .i64 j])∧K k j)
section
variable {prog:Prog}{d:Nat}{Q:AE→Sl→St→Prop}{K:LB→Int→Prop}(hQ:HM rowS (AV.i .i64) 6 7 Q K){σ:Sl}{st:St}
include hQ
variable {m0:Img}{s1:Sta}{text2:BS}
variable (H0:σ 0=m0.av)(H1:σ 1=s1.av)(H2:σ 2=.s text2)
include H0 H1 H2 in
theorem w254_0 (h:T254_0 prog K m0 s1 text2):W prog d (sR 0 r254_0 (sR 1 r254_1 (.seq (sR 2 r254_2 (.cond (.t 16) (sR 3 r254_3 .ret) .skip)) (sR 4 r254_4 .ret)))) σ st Q:=
 au trivial
end
theorem p254 {prog:Prog}(hf:prog.fn 254=some pf254){m0:Img}{s1:Sta}{text2:BS}{K:LB→Int→Prop}(h:T254_0 prog K m0 s1 text2) :∃res0:LB,∃res1:Int,K res0 res1∧Pus prog 254 [m0.av,s1.av,.s text2] (.tup [.sl .ext (List.map rowS res0),.i .i64 res1]):=
 P2 hf J (w254_0 (hM J fun _ _ _=>J) J J J h)
abbrev H255 (Q:AE→Sl→St→Prop)(K:Img→Prop):Prop:=∀(σ:Sl)(st:St)(k0:Key)(v0:Nat) (o0_0 o0_1 o0_2:Own)(res0:Img),σ 0=.p k0 v0 0→lk st.bx k0=some (v0,[.sl o0_0 (List.map Typ.row res0.types),.sl o0_1 (List.map rowS res0.texts),.sl o0_2 (List.map Fun.row res0.funcs)])→K res0→Q .ret σ st
section
variable {prog:Prog}{d:Nat}{Q:AE→Sl→St→Prop}{K:Img→Prop}(hQ:H255 Q K){σ:Sl}{st:St}
include hQ
end
abbrev H256 (Q:AE→Sl→St→Prop)(K:Bool→Prop):Prop:=∀(σ:Sl)(st:St)(res0:Bool),σ 0=.b res0→K res0→Q .ret σ st
section
variable {prog:Prog}{d:Nat}{Q:AE→Sl→St→Prop}{K:Bool→Prop}(hQ:H256 Q K){σ:Sl}{st:St}
include hQ
end
abbrev H242 (Q:AE→Sl→St→Prop)(K:Bool→Prop):Prop:=∀(σ:Sl)(st:St)(res0:Bool),σ 4=.b res0→K res0→Q .ret σ st
section
variable {prog:Prog}{d:Nat}{Q:AE→Sl→St→Prop}{K:Bool→Prop}(hQ:H242 Q K){σ:Sl}{st:St}
include hQ
end
end Go.AM

namespace Go.AM
open Go
set_option linter.unusedVariables false
set_option linter.unusedSimpArgs false
set_option maxRecDepth 4000
attribute [local irreducible] WO fillCells fillRows
def r264_0:List AI:=[oY 3 3 0,oY 4 4 1,oY 5 5 2,oC 6 (.sl .full []),oI 7 0]
def r264_1:List AI:=[oK 13 5 5,oQ 14 247 [13],oM 8 14]
def r264_2:List AI:=[oM 15 8,oV 16 .neq 15 0]
def r264_3:List AI:=[oM 17 8,oC 6 (.sl .full []),oM 7 17]
def r264_4:List AI:=[oK 18 3 3,oK 19 4 4,oQ 20 213 [18,19],oM 9 20]
def r264_5:List AI:=[oM 21 9,oV 22 .neq 21 0]
def r264_6:List AI:=[oM 23 9,oC 6 (.sl .full []),oM 7 23]
def r264_7:List AI:=[oK 24 3 3,oK 25 4 4,oK 26 5 5,oO 27 (.build [zl,zl,zl,z8,z6,z6,zl,z8,z6,z6,z6,zs,zl] [(0,3,(.t 24)),(3,4,(.t 25)),(7,5,(.t 26))]),oY 28 13 27,oO 10 (.alloc [.np]),oS 1 10 28]
def r264_8:List AI:=[oL 29 10,oO 30 (.mkbf 268 [(.t 29)]),oM 11 30]
def r264_9:List AI:=[oF 31 0 5,oL 32 31]
def r264_10:List AI:=[oW 34 .eql 32 1,oM 33 34]
def r264_11:List AI:=[oL 35 10,oO 36 (.mkbf 269 [(.t 35)]),oM 11 36]
def r264_12:List AI:=[oW 38 .eql 32 6,oM 37 38]
def r264_13:List AI:=[oL 39 10,oO 40 (.mkbf 270 [(.t 39)]),oM 11 40]
def r264_14:List AI:=[oW 42 .eql 32 7,oM 41 42]
def r264_15:List AI:=[oO 43 (.mkfn 271 [(.t 10)]),oM 11 43]
def r264_16:List AI:=[oW 45 .eql 32 8,oM 44 45]
def r264_17:List AI:=[oO 46 (.mkfn 274 [(.t 10)]),oM 11 46]
def r264_18:List AI:=[oM 47 11,oO 48 (.callv (.t 47) []),oM 12 48]
def r264_19:List AI:=[oM 49 12,oV 50 .neq 49 0]
def r264_20:List AI:=[oM 51 12,oC 6 (.sl .full []),oM 7 51]
def r264_21:List AI:=[oL 52 10,oN 53 52,oF 54 12 53,oL 55 54,oM 6 55,oI 7 0]
abbrev c264_0:AC:=(.seq (sR 18 r264_18 (sR 19 r264_19 (.cond (.t 50) (sR 20 r264_20 .ret) .skip))) (sR 500021 r264_21 .ret))
abbrev c264_1:AC:=(.seq (sR 1 r264_1 (sR 2 r264_2 (.cond (.t 16) (sR 3 r264_3 .ret) .skip))) (.seq (sR 4 r264_4 (sR 5 r264_5 (.cond (.t 22) (sR 6 r264_6 .ret) .skip))) (sR 7 r264_7 (sR 8 r264_8 (.seq (sR 9 r264_9 (.block 0 (sR 10 r264_10 (.cond (.t 33) (.reg 11 r264_11) (sR 12 r264_12 (.cond (.t 37) (.reg 13 r264_13) (sR 14 r264_14 (.cond (.t 41) (.reg 15 r264_15) (sR 16 r264_16 (.cond (.t 44) (.reg 17 r264_17) .skip)))))))))) c264_0)))))
abbrev b264:AC:=(sR 0 r264_0 c264_1)
def pf264:AF:={ nt:=56,res:=[.tmp 6,.tmp 7],body:=b264 }
def T264_1 (prog:Prog)(K:LB→Int→Prop)(m0:Img)(m1:Sta)(m2:Qry):Prop:=
  ∃c,Pus prog 247 [m2.av] (.i .i64 c)∧(c≠0→K ([]:LB) c)∧(¬(c≠0)→∃e,Pus prog 213 [m0.av,m1.av] (.i .i64 e)∧(e≠0→K ([]:LB) e)∧(¬(e≠0)→(m2.kind=1→∃p,∃x:Dsk,PuX prog 269 (Dk (Dsk.mk m0 m1 m2 ([]:LB))) [] (fun r=>r=.i .i64 p) ((Dk x))∧(p≠0→K ([]:LB) p)∧(¬(p≠0)→K x.out 0))∧(¬(m2.kind=1)→(m2.kind=6→∃q,∃u:Dsk,PuX prog 270 (Dk (Dsk.mk m0 m1 m2 ([]:LB))) [] (fun r=>r=.i .i64 q) ((Dk u))∧(q≠0→K ([]:LB) q)∧(¬(q≠0)→K u.out 0))∧(¬(m2.kind=6)→(m2.kind=7→∃o,∃s:Dsk,PuV prog 271 (Dk (Dsk.mk m0 m1 m2 ([]:LB))) (fun r=>r=.i .i64 o) ((Dk s))∧(o≠0→K ([]:LB) o)∧(¬(o≠0)→K s.out 0))∧(¬(m2.kind=7)→(m2.kind=8→∃j,∃w:Dsk,PuV prog 274 (Dk (Dsk.mk m0 m1 m2 ([]:LB))) (fun r=>r=.i .i64 j) ((Dk w))∧(j≠0→K ([]:LB) j)∧(¬(j≠0)→K w.out 0))∧(¬(m2.kind=8)→∃k,∃v:Dsk,PuX prog 268 (Dk (Dsk.mk m0 m1 m2 ([]:LB))) [] (fun r=>r=.i .i64 k) ((Dk v))∧(k≠0→K ([]:LB) k)∧(¬(k≠0)→K v.out 0)))))))
def T264_0 (prog:Prog)(K:LB→Int→Prop)(m0:Img)(s1:Sta)(q2:Qry):Prop:=
  T264_1 prog K m0 s1 q2
section
variable {prog:Prog}{d:Nat}{Q:AE→Sl→St→Prop}{K:LB→Int→Prop}(hQ:HM rowS (AV.i .i64) 6 7 Q K){σ:Sl}{st:St}
include hQ
variable {m0:Img}{m1:Sta}{m2:Qry}{v0 v1 v2:Nat}{s1:Sta}{q2:Qry}
variable (H3:σ 3=.p (d,0) v0 0)(H0:σ 0=m0.av)(H4:σ 4=.p (d,1) v1 0)(H1:σ 1=s1.av)(H5:σ 5=.p (d,2) v2 0)(H2:σ 2=q2.av)(B0:lk st.bx (d,0)=some (v0,Img.cs m0))(B1:lk st.bx (d,1)=some (v1,Sta.cs m1))(B2:lk st.bx (d,2)=some (v2,Qry.cs m2))
include H3 H4 H5 B0 B1 B2 in
theorem w264_1 (h:T264_1 prog K m0 m1 m2):W prog d c264_1 σ st Q:=
 sq_ (q_ J (l_ H5 B2 J J (h.elim fun _ r=>ca_ (sc1 J J) r.1 (m_ (e_ (q_ J (m_ (b_ J J neq_ (e_ (cs_ J (fun a0=>q_ J (m_ (s_mvL (f:=rowS) (l:=[]) J (m_ (er_ (hQ J J (r.2.1 a0))))))) (fun a0=>sk_ (sq_ (q_ J (l_ H3 B0 J J (l_ H4 B1 J J ((r.2.2 a0).elim fun _ c=>ca_ (sc2 J J J) c.1 (m_ (e_ (q_ J (m_ (b_ J J neq_ (e_ (cs_ J (fun e=>q_ J (m_ (s_mvL (f:=rowS) (l:=[]) J (m_ (er_ (hQ J J (c.2.1 e))))))) (fun e=>sk_ (sq_ (W.reg (l_ H3 (lk_other J B0) J J (l_ H4 (lk_other J B1) J J (l_ H5 (lk_other J B2) J J (s_build (f_cons J J (f_cons J J (f_cons J J f_nil))) (s_box J J (s_alloc (so_ J (lk_other J (show lk _ (d,28677)=some (_,([.np]:List AV)) from lk_here)) J J J (e_ (q_ J (l_ J lk_here J J (s_mkbf (sec J sen) (m_ (e_ (sq_ (q_ J (f_ H5 (l_ J (lk_other J (lk_other J (lk_other J B2))) J J (e_ (bk_ (q_ J (b_ J J eql_ (m_ (e_ (cs_ J (fun j=>W.reg0 J fun _ _=>l_ J lk_here J J (s_mkbf (sec J sen) (m_ (e_ (sq_ (q_ J (m_ (((c.2.2 e).1 j).elim fun _ a5=>a5.elim fun _ q=>s_callB J sen q.1 (Nat.lt_succ_self d) (Dk.other (key_LL J) (Dk.new (m:=(Dsk.mk m0 m1 m2 ([]:LB))) (show lk _ (d,28676)=some (_,([.sl .ext (List.map Typ.row m0.types),.sl .ext (List.map rowS m0.texts),.sl .ext (List.map Fun.row m0.funcs),.i .u8 m1.outcome,.i .i64 m1.failing,.i .i64 m1.steps,.sl .ext (List.map Rou.row m1.routines),.i .u8 m2.kind,.i .i64 m2.g,.i .i64 m2.k,.i .i64 m2.key,.s m2.name,.sl .full (List.map rowS ([]:LB))]:List AV)) from lk_here) J)) (fun _ b0 b5=>m_ (e_ (q_ J (m_ (b_ J J neq_ (e_ (cs_ J (fun y=>q_ J (m_ (s_mvL (f:=rowS) (l:=[]) J (m_ (er_ (hQ J J (q.2.1 y))))))) (fun y=>sk_ (q_ J (l_ J ((b5.1 (d,28677) (Nat.lt_succ_self d) (key_LL J)).trans lk_here) J J (s_nilP J (f_ J (s_loadO J b0 (fun _=>s_mvL J (m_ (er_ (hQ J J (q.2.2 y)))))))))))))))))))))))))) (fun j=>q_ J (b_ J J eql_ (m_ (e_ (cs_ J (fun o=>W.reg0 J fun _ _=>l_ J lk_here J J (s_mkbf (sec J sen) (m_ (e_ (sq_ (q_ J (m_ ((((c.2.2 e).2 j).1 o).elim fun _ a6=>a6.elim fun _ u=>s_callB J sen u.1 (Nat.lt_succ_self d) (Dk.other (key_LL J) (Dk.new (m:=(Dsk.mk m0 m1 m2 ([]:LB))) (show lk _ (d,28676)=some (_,([.sl .ext (List.map Typ.row m0.types),.sl .ext (List.map rowS m0.texts),.sl .ext (List.map Fun.row m0.funcs),.i .u8 m1.outcome,.i .i64 m1.failing,.i .i64 m1.steps,.sl .ext (List.map Rou.row m1.routines),.i .u8 m2.kind,.i .i64 m2.g,.i .i64 m2.k,.i .i64 m2.key,.s m2.name,.sl .full (List.map rowS ([]:LB))]:List AV)) from lk_here) J)) (fun _ b1 b6=>m_ (e_ (q_ J (m_ (b_ J J neq_ (e_ (cs_ J (fun z=>q_ J (m_ (s_mvL (f:=rowS) (l:=[]) J (m_ (er_ (hQ J J (u.2.1 z))))))) (fun z=>sk_ (q_ J (l_ J ((b6.1 (d,28677) (Nat.lt_succ_self d) (key_LL J)).trans lk_here) J J (s_nilP J (f_ J (s_loadO J b1 (fun _=>s_mvL J (m_ (er_ (hQ J J (u.2.2 z)))))))))))))))))))))))))) (fun o=>q_ J (b_ J J eql_ (m_ (e_ (cs_ J (fun p=>W.reg0 J fun _ _=>s_mkfn (sec J sen) (m_ (e_ (sq_ (q_ J (m_ (((((c.2.2 e).2 j).2 o).1 p).elim fun _ a7=>a7.elim fun _ v=>s_callVV J v.1 (Nat.lt_succ_self d) (Nat.lt_succ_self d) lk_here (Dk.other (key_LL J) (Dk.new (m:=(Dsk.mk m0 m1 m2 ([]:LB))) (show lk _ (d,28676)=some (_,([.sl .ext (List.map Typ.row m0.types),.sl .ext (List.map rowS m0.texts),.sl .ext (List.map Fun.row m0.funcs),.i .u8 m1.outcome,.i .i64 m1.failing,.i .i64 m1.steps,.sl .ext (List.map Rou.row m1.routines),.i .u8 m2.kind,.i .i64 m2.g,.i .i64 m2.k,.i .i64 m2.key,.s m2.name,.sl .full (List.map rowS ([]:LB))]:List AV)) from lk_here) J)) (fun _ b2 b7=>m_ (e_ (q_ J (m_ (b_ J J neq_ (e_ (cs_ J (fun a1=>q_ J (m_ (s_mvL (f:=rowS) (l:=[]) J (m_ (er_ (hQ J J (v.2.1 a1))))))) (fun a1=>sk_ (q_ J (l_ J ((b7.1 (d,28677) (Nat.lt_succ_self d) (key_LL J)).trans lk_here) J J (s_nilP J (f_ J (s_loadO J b2 (fun _=>s_mvL J (m_ (er_ (hQ J J (v.2.2 a1))))))))))))))))))))))))) (fun p=>q_ J (b_ J J eql_ (m_ (e_ (cs_ J (fun a2=>W.reg0 J fun _ _=>s_mkfn (sec J sen) (m_ (e_ (sq_ (q_ J (m_ ((((((c.2.2 e).2 j).2 o).2 p).1 a2).elim fun _ a8=>a8.elim fun _ w=>s_callVV J w.1 (Nat.lt_succ_self d) (Nat.lt_succ_self d) lk_here (Dk.other (key_LL J) (Dk.new (m:=(Dsk.mk m0 m1 m2 ([]:LB))) (show lk _ (d,28676)=some (_,([.sl .ext (List.map Typ.row m0.types),.sl .ext (List.map rowS m0.texts),.sl .ext (List.map Fun.row m0.funcs),.i .u8 m1.outcome,.i .i64 m1.failing,.i .i64 m1.steps,.sl .ext (List.map Rou.row m1.routines),.i .u8 m2.kind,.i .i64 m2.g,.i .i64 m2.k,.i .i64 m2.key,.s m2.name,.sl .full (List.map rowS ([]:LB))]:List AV)) from lk_here) J)) (fun _ b3 b8=>m_ (e_ (q_ J (m_ (b_ J J neq_ (e_ (cs_ J (fun a3=>q_ J (m_ (s_mvL (f:=rowS) (l:=[]) J (m_ (er_ (hQ J J (w.2.1 a3))))))) (fun a3=>sk_ (q_ J (l_ J ((b8.1 (d,28677) (Nat.lt_succ_self d) (key_LL J)).trans lk_here) J J (s_nilP J (f_ J (s_loadO J b3 (fun _=>s_mvL J (m_ (er_ (hQ J J (w.2.2 a3))))))))))))))))))))))))) (fun a2=>sk_ (sq_ (q_ J (m_ ((((((c.2.2 e).2 j).2 o).2 p).2 a2).elim fun _ a9=>a9.elim fun _ x=>s_callB J sen x.1 (Nat.lt_succ_self d) (Dk.other (key_LL J) (Dk.new (m:=(Dsk.mk m0 m1 m2 ([]:LB))) (show lk _ (d,28676)=some (_,([.sl .ext (List.map Typ.row m0.types),.sl .ext (List.map rowS m0.texts),.sl .ext (List.map Fun.row m0.funcs),.i .u8 m1.outcome,.i .i64 m1.failing,.i .i64 m1.steps,.sl .ext (List.map Rou.row m1.routines),.i .u8 m2.kind,.i .i64 m2.g,.i .i64 m2.k,.i .i64 m2.key,.s m2.name,.sl .full (List.map rowS ([]:LB))]:List AV)) from lk_here) J)) (fun _ b4 b9=>m_ (e_ (q_ J (m_ (b_ J J neq_ (e_ (cs_ J (fun a4=>q_ J (m_ (s_mvL (f:=rowS) (l:=[]) J (m_ (er_ (hQ J J (x.2.1 a4))))))) (fun a4=>sk_ (q_ J (l_ J ((b9.1 (d,28677) (Nat.lt_succ_self d) (key_LL J)).trans lk_here) J J (s_nilP J (f_ J (s_loadO J b4 (fun _=>s_mvL J (m_ (er_ (hQ J J (x.2.2 a4))))))))))))))))))))))))))))))))))))))))))))))))))))))))))))))))))))))))))))))))))))))))
include H0 H1 H2 in
theorem w264_0 (h:T264_0 prog K m0 s1 q2):W prog d (sR 0 r264_0 c264_1) σ st Q:=
 q_ J (s_box H0 J (s_box H1 J (s_box H2 J (s_mvL (f:=rowS) (l:=[]) J (m_ (e_ (w264_1 hQ J J J (lk_other J (lk_other J lk_here)) (lk_other J lk_here) lk_here h)))))))
end
theorem p264 {prog:Prog}(hf:prog.fn 264=some pf264){m0:Img}{s1:Sta}{q2:Qry}{K:LB→Int→Prop}(h:T264_0 prog K m0 s1 q2) :∃res0:LB,∃res1:Int,K res0 res1∧Pus prog 264 [m0.av,s1.av,q2.av] (.tup [.sl .ext (List.map rowS res0),.i .i64 res1]):=
 P2 hf J (w264_0 (hM J fun _ _ _=>J) J J J h)
end Go.AM
