/- Parts of the proof: U30a, U30b, U38a, U38b, U38c, U38d, U38e. -/
import Derived.Test.YtbcdfamilcmjnaaGreatG2
import Derived.Test.YtbcdfamilcmjnaaGreatG0
set_option linter.all false
namespace Go.AM
open Go
set_option linter.unusedVariables false
set_option linter.unusedSimpArgs false
set_option maxRecDepth 4000
set_option maxHeartbeats 2000000
attribute [local irreducible] Decidable.decide W WO fillCells fillRows
def r42_0:List AI:=[oC 4 (.s []),oC 5 (.b false)]
def r42_1:List AI:=[oM 6 0,oM 7 1,oQ 8 46 [6,7],oZ 9 8]
def r42_2:List AI:=[oM 10 0,oM 4 10,oC 5 (.b false)]
def r42_3:List AI:=[oM 11 0,oM 12 1,oH 13 12,oO 14 (.slS (.t 11) (some (.t 13)) none),oM 4 14,oC 5 (.b true)]
abbrev b42:AC:=(sR 0 r42_0 (.seq (sR 1 r42_1 (.cond (.t 9) (sR 2 r42_2 .ret) .skip)) (sR 3 r42_3 .ret)))
def pf42:AF:={ nt:=15,res:=[.tmp 4,.tmp 5],body:=b42 }
def T42_0 (prog:Prog)(K:BS→Bool→Prop)(s0:BS)(prefix1:BS):Prop:=
  ∃c,Pus prog 46 [.s s0,.s prefix1] (.b c)∧((!c)=true→K s0 false)∧((!c)=false→0≤(prefix1.length:Int)∧(prefix1.length:Int).toNat≤s0.length∧K (s0.drop (prefix1.length:Int).toNat) true)
section
variable {prog:Prog}{d:Nat}{Q:AE→Sl→St→Prop}{K:BS→Bool→Prop}(hQ:H2 AV.s AV.b 4 5 Q K){σ:Sl}{st:St}
include hQ
variable {s0 prefix1:BS}
variable (H0:σ 0=.s s0)(H1:σ 1=.s prefix1)
include H0 H1 in
theorem w42_0 (h:T42_0 prog K s0 prefix1):W prog d (sR 0 r42_0 (.seq (sR 1 r42_1 (.cond (.t 9) (sR 2 r42_2 .ret) .skip)) (sR 3 r42_3 .ret))) σ st Q:=
 au trivial
end
theorem p42 {prog:Prog}(hf:prog.fn 42=some pf42){s0:BS}{prefix1:BS}{K:BS→Bool→Prop}(h:T42_0 prog K s0 prefix1) :∃x0:BS,∃x1:Bool,K x0 x1∧Pus prog 42 [.s s0,.s prefix1] (.tup [.s x0,.b x1]):=
 P2 hf J (w42_0 (h2 J fun _ _=>J) J J h)
def r46_0:List AI:=[oC 4 (.b false)]
def r46_1:List AI:=[oM 5 0,oH 6 5,oM 7 1,oH 8 7,oT 9 .geq 6 8,oM 10 9,gT 10 (oM 11 0),gT 10 (oM 12 1),gT 10 (oH 13 12),gT 10 (oO 14 (.slS (.t 11) none (some (.t 13)))),gT 10 (oM 15 1),gT 10 (oT 16 .eql 14 15),oA 17 10 16,oM 4 17]
abbrev b46:AC:=(sR 0 r46_0 (sR 1 r46_1 .ret))
def pf46:AF:={ nt:=18,res:=[.tmp 4],body:=b46 }
def T46_0 (prog:Prog)(K:Bool→Prop)(s0:BS)(prefix1:BS):Prop:=
  ((s0.length:Int)≥(prefix1.length:Int)→0≤(prefix1.length:Int)∧(prefix1.length:Int).toNat≤s0.length∧K (decide ((s0.take (prefix1.length:Int).toNat)=prefix1)))∧(¬((s0.length:Int)≥(prefix1.length:Int))→K false)
section
variable {prog:Prog}{d:Nat}{Q:AE→Sl→St→Prop}{K:Bool→Prop}(hQ:H1 AV.b 4 Q K){σ:Sl}{st:St}
include hQ
variable {s0 prefix1:BS}
variable (H0:σ 0=.s s0)(H1:σ 1=.s prefix1)
include H0 H1 in
theorem w46_0 (h:T46_0 prog K s0 prefix1):W prog d (sR 0 r46_0 (sR 1 r46_1 .ret)) σ st Q:=
 au trivial
end
theorem p46 {prog:Prog}(hf:prog.fn 46=some pf46){s0:BS}{prefix1:BS}{K:Bool→Prop}(h:T46_0 prog K s0 prefix1) :∃x0:Bool,K x0∧Pus prog 46 [.s s0,.s prefix1] (.b x0):=
 P1 hf J (w46_0 (h1 J fun _=>J) J J h)
def r36_0:List AI:=[oC 4 (.s []),oC 5 (.b false)]
def r36_1:List AI:=[oM 6 0,oM 7 1,oQ 8 42 [6,7],oE 9 0 8,oE 10 1 8,oM 4 9,oM 5 10]
abbrev b36:AC:=(sR 0 r36_0 (sR 1 r36_1 .ret))
def pf36:AF:={ nt:=11,res:=[.tmp 4,.tmp 5],body:=b36 }
def T36_0 (prog:Prog)(K:BS→Bool→Prop)(s0:BS)(prefix1:BS):Prop:=
  ∃c e,Pus prog 42 [.s s0,.s prefix1] (.tup [.s c,.b e])∧K c e
section
variable {prog:Prog}{d:Nat}{Q:AE→Sl→St→Prop}{K:BS→Bool→Prop}(hQ:H2 AV.s AV.b 4 5 Q K){σ:Sl}{st:St}
include hQ
variable {s0 prefix1:BS}
variable (H0:σ 0=.s s0)(H1:σ 1=.s prefix1)
include H0 H1 in
theorem w36_0 (h:T36_0 prog K s0 prefix1):W prog d (sR 0 r36_0 (sR 1 r36_1 .ret)) σ st Q:=
 au trivial
end
theorem p36 {prog:Prog}(hf:prog.fn 36=some pf36){s0:BS}{prefix1:BS}{K:BS→Bool→Prop}(h:T36_0 prog K s0 prefix1) :∃x0:BS,∃x1:Bool,K x0 x1∧Pus prog 36 [.s s0,.s prefix1] (.tup [.s x0,.b x1]):=
 P2 hf J (w36_0 (h2 J fun _ _=>J) J J h)
def r43_0:List AI:=[oI 4 0]
def r43_1:List AI:=[oM 5 0,oM 6 1,oQ 7 47 [5,6],oM 4 7]
abbrev b43:AC:=(sR 0 r43_0 (sR 1 r43_1 .ret))
def pf43:AF:={ nt:=8,res:=[.tmp 4],body:=b43 }
def T43_0 (prog:Prog)(K:Int→Prop)(s0:BS)(c1:Int):Prop:=
  ∃c,Pus prog 47 [.s s0,.i .u8 c1] (.i .i64 c)∧K c
section
variable {prog:Prog}{d:Nat}{Q:AE→Sl→St→Prop}{K:Int→Prop}(hQ:H1 (AV.i .i64) 4 Q K){σ:Sl}{st:St}
include hQ
variable {s0:BS}{c1:Int}
variable (H0:σ 0=.s s0)(H1:σ 1=.i .u8 c1)
include H0 H1 in
theorem w43_0 (h:T43_0 prog K s0 c1):W prog d (sR 0 r43_0 (sR 1 r43_1 .ret)) σ st Q:=
 au trivial
end
theorem p43 {prog:Prog}(hf:prog.fn 43=some pf43){s0:BS}{c1:Int}{K:Int→Prop}(h:T43_0 prog K s0 c1) :∃x0:Int,K x0∧Pus prog 43 [.s s0,.i .u8 c1] (.i .i64 x0):=
 P1 hf J (w43_0 (h1 J fun _=>J) J J h)
def r47_0:List AI:=[oI 4 0]
def r47_1:List AI:=[oM 5 0,oM 6 1,oQ 7 48 [5,6],oM 4 7]
abbrev b47:AC:=(sR 0 r47_0 (sR 1 r47_1 .ret))
def pf47:AF:={ nt:=8,res:=[.tmp 4],body:=b47 }
def T47_0 (prog:Prog)(K:Int→Prop)(s0:BS)(c1:Int):Prop:=
  ∃c,Pus prog 48 [.s s0,.i .u8 c1] (.i .i64 c)∧K c
section
variable {prog:Prog}{d:Nat}{Q:AE→Sl→St→Prop}{K:Int→Prop}(hQ:H1 (AV.i .i64) 4 Q K){σ:Sl}{st:St}
include hQ
variable {s0:BS}{c1:Int}
variable (H0:σ 0=.s s0)(H1:σ 1=.i .u8 c1)
include H0 H1 in
theorem w47_0 (h:T47_0 prog K s0 c1):W prog d (sR 0 r47_0 (sR 1 r47_1 .ret)) σ st Q:=
 au trivial
end
theorem p47 {prog:Prog}(hf:prog.fn 47=some pf47){s0:BS}{c1:Int}{K:Int→Prop}(h:T47_0 prog K s0 c1) :∃x0:Int,K x0∧Pus prog 47 [.s s0,.i .u8 c1] (.i .i64 x0):=
 P1 hf J (w47_0 (h1 J fun _=>J) J J h)
def r11_0:List AI:=[oC 2 (.s []),oI 3 0]
def r11_1:List AI:=[oM 4 0,oH 5 4,oV 6 .gtr 5 400]
def r11_2:List AI:=[oC 2 (.s []),oI 3 4]
def r11_3:List AI:=[oM 7 0,oO 8 (.call true 30 [(.c (.sl .full [])),(.t 7)]),oO 9 (.b2s (.t 8)),oM 2 9,oI 3 0]
abbrev b11:AC:=(sR 0 r11_0 (.seq (sR 1 r11_1 (.cond (.t 6) (sR 2 r11_2 .ret) .skip)) (sR 3 r11_3 .ret)))
def pf11:AF:={ nt:=10,res:=[.tmp 2,.tmp 3],body:=b11 }
def T11_0 (prog:Prog)(K:BS→Int→Prop)(s0:BS):Prop:=
  ((s0.length:Int)>400→K ([]:BS) 4)∧(¬((s0.length:Int)>400)→∃c,PuA prog 30 (List.map row8 ([]:BS)) [.s s0] (List.map row8 c)∧K c 0)
section
variable {prog:Prog}{d:Nat}{Q:AE→Sl→St→Prop}{K:BS→Int→Prop}(hQ:H2 AV.s (AV.i .i64) 2 3 Q K){σ:Sl}{st:St}
include hQ
variable {s0:BS}
variable (H0:σ 0=.s s0)
include H0 in
theorem w11_0 (h:T11_0 prog K s0):W prog d (sR 0 r11_0 (.seq (sR 1 r11_1 (.cond (.t 6) (sR 2 r11_2 .ret) .skip)) (sR 3 r11_3 .ret))) σ st Q:=
 au trivial
end
theorem p11 {prog:Prog}(hf:prog.fn 11=some pf11){s0:BS}{K:BS→Int→Prop}(h:T11_0 prog K s0) :∃x0:BS,∃x1:Int,K x0 x1∧Pus prog 11 [.s s0] (.tup [.s x0,.i .i64 x1]):=
 P2 hf J (w11_0 (h2 J fun _ _=>J) J h)
def r15_0:List AI:=[oC 2 (.s [])]
def r15_1:List AI:=[oM 3 0,oV 4 .lss 3 0]
def r15_2:List AI:=[oM 5 0,oO 6 (.cvi .u64 (.t 5)),oO 7 (.un .neg (.t 6)),oO 8 (.call false 34 [(.t 7),(.c (.i .u64 10))]),oB 9 .add (.c (.s [45])) (.t 8),oM 2 9]
def r15_3:List AI:=[oM 10 0,oO 11 (.cvi .u64 (.t 10)),oO 12 (.call false 34 [(.t 11),(.c (.i .u64 10))]),oM 2 12]
abbrev b15:AC:=(sR 0 r15_0 (.seq (sR 1 r15_1 (.cond (.t 4) (sR 2 r15_2 .ret) .skip)) (sR 3 r15_3 .ret)))
def pf15:AF:={ nt:=13,res:=[.tmp 2],body:=b15 }
def T15_0 (prog:Prog)(K:BS→Prop)(n0:Int):Prop:=
  (n0<0→∃c:BS,Pus prog 34 [.i .u64 (IntKind.u64.wrap (0-(IntKind.u64.wrap n0))),.i .u64 10] (.s c)∧([45]:BS).length+c.length≤maxStr∧K (([45]:BS)++c))∧(¬(n0<0)→∃e,Pus prog 34 [.i .u64 (IntKind.u64.wrap n0),.i .u64 10] (.s e)∧K e)
section
variable {prog:Prog}{d:Nat}{Q:AE→Sl→St→Prop}{K:BS→Prop}(hQ:H1 AV.s 2 Q K){σ:Sl}{st:St}
include hQ
variable {n0:Int}
variable (H0:σ 0=.i .i64 n0)
include H0 in
theorem w15_0 (h:T15_0 prog K n0):W prog d (sR 0 r15_0 (.seq (sR 1 r15_1 (.cond (.t 4) (sR 2 r15_2 .ret) .skip)) (sR 3 r15_3 .ret))) σ st Q:=
 au trivial
end
theorem p15 {prog:Prog}(hf:prog.fn 15=some pf15){n0:Int}{K:BS→Prop}(h:T15_0 prog K n0) :∃x0:BS,K x0∧Pus prog 15 [.i .i64 n0] (.s x0):=
 P1 hf J (w15_0 (h1 J fun _=>J) J h)
def r21_0:List AI:=[oI 2 0,oI 3 0]
def r21_1:List AI:=[oM 10 0,oH 11 10,oV 12 .gtr 11 2000]
def r21_2:List AI:=[oI 2 0,oI 3 4]
def r21_3:List AI:=[oM 14 0,oO 15 (.call false 36 [(.t 14),(.c (.s [45]))]),oM 13 15,oE 16 0 13,oE 17 1 13,oM 4 16,oM 5 17]
def r21_4:List AI:=[oM 18 5,oZ 19 18]
def r21_5:List AI:=[oM 21 0,oO 22 (.call false 37 [(.t 21),(.c (.i .u64 10)),(.c (.i .u64 9223372036854775807))]),oM 20 22,oE 23 0 20,oE 24 1 20,oM 6 23,oM 7 24]
def r21_6:List AI:=[oM 25 6,oO 26 (.cvi .i64 (.t 25)),oM 27 7,oM 2 26,oM 3 27]
def r21_7:List AI:=[oM 29 4,oO 30 (.call false 37 [(.t 29),(.c (.i .u64 10)),(.c (.i .u64 9223372036854775808))]),oM 28 30,oE 31 0 28,oE 32 1 28,oM 8 31,oM 9 32]
def r21_8:List AI:=[oM 33 9,oV 34 .eql 33 0,oM 35 34,gT 35 (oM 36 8),gT 35 (oB 37 .eql (.t 36) (.c (.i .u64 0))),oA 38 35 37]
def r21_9:List AI:=[oI 9 12]
def r21_10:List AI:=[oM 39 8,oO 40 (.un .neg (.t 39)),oO 41 (.cvi .i64 (.t 40)),oM 42 9,oM 2 41,oM 3 42]
abbrev c21_0:AC:=(sR 10 r21_10 .ret)
abbrev b21:AC:=(sR 0 r21_0 (.seq (sR 1 r21_1 (.cond (.t 12) (sR 2 r21_2 .ret) .skip)) (sR 3 r21_3 (.seq (sR 4 r21_4 (.cond (.t 19) (sR 5 r21_5 (sR 6 r21_6 .ret)) .skip)) (sR 7 r21_7 (.seq (sR 8 r21_8 (.cond (.t 38) (.reg 9 r21_9) .skip)) c21_0))))))
def pf21:AF:={ nt:=43,res:=[.tmp 2,.tmp 3],body:=b21 }
def T21_1 (prog:Prog)(K:Int→Int→Prop)(n8:Int)(e9:Int):Prop:=
  K (IntKind.i64.wrap (IntKind.u64.wrap (0-n8))) e9
def T21_0 (prog:Prog)(K:Int→Int→Prop)(s0:BS):Prop:=
  ((s0.length:Int)>2000→K 0 4)∧(¬((s0.length:Int)>2000)→∃o j,Pus prog 36 [.s s0,.s ([45]:BS)] (.tup [.s o,.b j])∧((!j)=true→∃p k,Pus prog 37 [.s s0,.i .u64 10,.i .u64 9223372036854775807] (.tup [.i .u64 p,.i .i64 k])∧K (IntKind.i64.wrap p) k)∧((!j)=false→∃c e,Pus prog 37 [.s o,.i .u64 10,.i .u64 9223372036854775808] (.tup [.i .u64 c,.i .i64 e])∧(e=0→(c=0→T21_1 prog K c 12)∧(¬(c=0)→T21_1 prog K c e))∧(¬(e=0)→T21_1 prog K c e)))
section
variable {prog:Prog}{d:Nat}{Q:AE→Sl→St→Prop}{K:Int→Int→Prop}(hQ:H2 (AV.i .i64) (AV.i .i64) 2 3 Q K){σ:Sl}{st:St}
include hQ
variable {n8 e9:Int}{s0:BS}
variable (H8:σ 8=.i .u64 n8)(H0:σ 0=.s s0)(H9:σ 9=.i .i64 e9)
include H8 H9 in
theorem w21_1 (h:T21_1 prog K n8 e9):W prog d c21_0 σ st Q:=
 au trivial
include H0 in
theorem w21_0 (h:T21_0 prog K s0):W prog d (sR 0 r21_0 (.seq (sR 1 r21_1 (.cond (.t 12) (sR 2 r21_2 .ret) .skip)) (sR 3 r21_3 (.seq (sR 4 r21_4 (.cond (.t 19) (sR 5 r21_5 (sR 6 r21_6 .ret)) .skip)) (sR 7 r21_7 (.seq (sR 8 r21_8 (.cond (.t 38) (.reg 9 r21_9) .skip)) c21_0)))))) σ st Q:=
 au @w21_1
end
theorem p21 {prog:Prog}(hf:prog.fn 21=some pf21){s0:BS}{K:Int→Int→Prop}(h:T21_0 prog K s0) :∃x0:Int,∃x1:Int,K x0 x1∧Pus prog 21 [.s s0] (.tup [.i .i64 x0,.i .i64 x1]):=
 P2 hf J (w21_0 (h2 J fun _ _=>J) J h)
def r25_0:List AI:=[oC 2 (.s []),oI 3 0]
def r25_1:List AI:=[oM 7 0,oH 8 7,oV 9 .gtr 8 2000]
def r25_2:List AI:=[oC 2 (.s []),oI 3 4]
def r25_3:List AI:=[oM 11 0,oQ 12 39 [11],oM 10 12,oE 13 0 10,oE 14 1 10,oE 15 2 10,oM 4 13,oM 5 14,oM 6 15]
def r25_4:List AI:=[oM 17 6,oZ 18 17,oM 19 18,gF 19 (oM 20 5),gF 19 (oB 21 .neq (.t 20) (.c (.s []))),oR 22 19 21,oM 16 22]
def r25_5:List AI:=[oC 2 (.s []),oI 3 12]
def r25_6:List AI:=[oM 24 4,oH 25 24,oV 26 .gtr 25 400,oM 23 26]
def r25_7:List AI:=[oC 2 (.s []),oI 3 4]
def r25_8:List AI:=[oM 27 4,oM 2 27,oI 3 0]
abbrev b25:AC:=(sR 0 r25_0 (.seq (sR 1 r25_1 (.cond (.t 9) (sR 2 r25_2 .ret) .skip)) (sR 3 r25_3 (.seq (.block 0 (sR 4 r25_4 (.cond (.t 16) (sR 5 r25_5 .ret) (sR 6 r25_6 (.cond (.t 23) (sR 7 r25_7 .ret) .skip))))) (sR 8 r25_8 .ret)))))
def pf25:AF:={ nt:=28,res:=[.tmp 2,.tmp 3],body:=b25 }
def T25_0 (prog:Prog)(K:BS→Int→Prop)(s0:BS):Prop:=
  ((s0.length:Int)>2000→K ([]:BS) 4)∧(¬((s0.length:Int)>2000)→∃c:BS,∃e i,Pus prog 39 [.s s0] (.tup [.s c,.s e,.b i])∧((!i)=true→K ([]:BS) 12)∧((!i)=false→(e≠([]:BS)→K ([]:BS) 12)∧(¬(e≠([]:BS))→((c.length:Int)>400→K ([]:BS) 4)∧(¬((c.length:Int)>400)→K c 0))))
section
variable {prog:Prog}{d:Nat}{Q:AE→Sl→St→Prop}{K:BS→Int→Prop}(hQ:H2 AV.s (AV.i .i64) 2 3 Q K){σ:Sl}{st:St}
include hQ
variable {s0:BS}
variable (H0:σ 0=.s s0)
include H0 in
theorem w25_0 (h:T25_0 prog K s0):W prog d (sR 0 r25_0 (.seq (sR 1 r25_1 (.cond (.t 9) (sR 2 r25_2 .ret) .skip)) (sR 3 r25_3 (.seq (.block 0 (sR 4 r25_4 (.cond (.t 16) (sR 5 r25_5 .ret) (sR 6 r25_6 (.cond (.t 23) (sR 7 r25_7 .ret) .skip))))) (sR 8 r25_8 .ret))))) σ st Q:=
 au trivial
end
theorem p25 {prog:Prog}(hf:prog.fn 25=some pf25){s0:BS}{K:BS→Int→Prop}(h:T25_0 prog K s0) :∃x0:BS,∃x1:Int,K x0 x1∧Pus prog 25 [.s s0] (.tup [.s x0,.i .i64 x1]):=
 P2 hf J (w25_0 (h2 J fun _ _=>J) J h)
def r30_0:List AI:=[oC 4 (.sl .full [])]
def r30_1:List AI:=[oM 7 0,oO 8 (.bslice [z8] 1 [(0,(.c (.i .u8 34)))]),oO 9 (.app 1 1 (.t 7) (.t 8)),oM 0 9]
def r30_2:List AI:=[oM 10 1,oH 11 10,oI 12 0]
def r30_3:List AI:=[oT 13 .lss 12 11]
def r30_4:List AI:=[oM 14 12,oM 5 14]
def r30_5:List AI:=[oM 15 1,oM 16 5,oO 17 (.ixS (.t 15) (.t 16)),oM 6 17]
def r30_6:List AI:=[oM 23 6,oW 24 .eql 23 34,oM 25 24,gF 25 (oM 26 6),gF 25 (oW 27 .eql 26 92),oR 28 25 27,oM 22 28]
def r30_7:List AI:=[oM 29 0,oM 30 6,oO 31 (.bslice [z8] 2 [(0,(.c (.i .u8 92))),(1,(.t 30))]),oO 32 (.app 1 1 (.t 29) (.t 31)),oM 0 32]
def r30_8:List AI:=[oM 34 6,oW 35 .eql 34 10,oM 33 35]
def r30_9:List AI:=[oM 36 0,oO 37 (.bslice [z8] 2 [(0,(.c (.i .u8 92))),(1,(.c (.i .u8 110)))]),oO 38 (.app 1 1 (.t 36) (.t 37)),oM 0 38]
def r30_10:List AI:=[oM 40 6,oW 41 .lss 40 32,oM 42 41,gF 42 (oM 43 6),gF 42 (oW 44 .gtr 43 126),oR 45 42 44,oM 39 45]
def r30_11:List AI:=[oM 46 0,oM 47 6,oB 48 .shr (.t 47) (.c (.i .u64 4)),oO 49 (.ixS (.c (.s [48,49,50,51,52,53,54,55,56,57,97,98,99,100,101,102])) (.t 48)),oM 50 6,oW 51 .and 50 15,oO 52 (.ixS (.c (.s [48,49,50,51,52,53,54,55,56,57,97,98,99,100,101,102])) (.t 51)),oO 53 (.bslice [z8] 4 [(0,(.c (.i .u8 92))),(1,(.c (.i .u8 120))),(2,(.t 49)),(3,(.t 52))]),oO 54 (.app 1 1 (.t 46) (.t 53)),oM 0 54]
def r30_12:List AI:=[oM 18 0,oM 19 6,oO 20 (.bslice [z8] 1 [(0,(.t 19))]),oO 21 (.app 1 1 (.t 18) (.t 20)),oM 0 21]
def r30_13:List AI:=[oV 55 .add 12 1,oM 12 55]
def r30_14:List AI:=[oM 56 0,oO 57 (.bslice [z8] 1 [(0,(.c (.i .u8 34)))]),oO 58 (.app 1 1 (.t 56) (.t 57)),oM 4 58]
abbrev c30_0:AC:=(.reg 13 r30_13)
abbrev l30_0:AC:=(sR 3 r30_3 (.seq (.cond (.t 13) .skip (.exit 0)) (.seq (.block 1 (sR 4 r30_4 (sR 5 r30_5 (.block 2 (sR 7 r30_6 (.cond (.t 22) (.reg 8 r30_7) (sR 9 r30_8 (.cond (.t 33) (.reg 10 r30_9) (sR 11 r30_10 (.cond (.t 39) (.reg 12 r30_11) (.reg 6 r30_12))))))))))) c30_0)))
abbrev c30_2:AC:=(sR 14 r30_14 .ret)
abbrev c30_3:AC:=(sR 1 r30_1 (.seq (sR 2 r30_2 (.block 0 (.loop l30_0))) c30_2))
abbrev b30:AC:=(sR 0 r30_0 c30_3)
def pf30:AF:={ nt:=59,res:=[.tmp 4],body:=b30 }
abbrev H30 (Q:AE→Sl→St→Prop)(K:BS→Prop):Prop:=∀(σ:Sl)(st:St)(o0:Own)(x0:BS),σ 4=.sl o0 (List.map row8 x0)→App st.ow o0 x0.length→K x0→Q .ret σ st
abbrev I30_0 (prog:Prog)(d:Nat)(Q:AE→Sl→St→Prop)(s1:BS)(t11:Int)(b0:BS)(t12:Int):Prop:=
  ∀(σ:Sl)(st:St)(o_b0:Own),σ 0=.sl o_b0 (List.map row8 b0)→σ 1=.s s1→σ 11=.i .i64 t11→σ 12=.i .i64 t12→App st.ow o_b0 b0.length→W prog d (.loop l30_0) σ st (blockW 0 (thenW prog d c30_2 Q))
def T30_3 (prog:Prog)(K:BS→Prop)(P0:BS→Int→Prop)(b0:BS)(s1:BS)(t11:Int)(t12:Int):Prop:=
  P0 b0 (IntKind.i64.wrap (t12+1))
def T30_4 (prog:Prog)(K:BS→Prop)(b0:BS):Prop:=
  Fit (b0.length+[(34:UInt8)].length) 1∧K (b0++[(34:UInt8)])
def T30_2 (prog:Prog)(K:BS→Prop)(P0:BS→Int→Prop)(b0:BS)(s1:BS)(t11:Int)(t12:Int):Prop:=
  (t12<t11→0≤t12∧∃c:UInt8,s1[(t12).toNat]?=some c∧((c.toNat:Int)=34→Fit (b0.length+[(92:UInt8),c].length) 1∧T30_3 prog K P0 (b0++[(92:UInt8),c]) s1 t11 t12)∧(¬((c.toNat:Int)=34)→((c.toNat:Int)=92→Fit (b0.length+[(92:UInt8),c].length) 1∧T30_3 prog K P0 (b0++[(92:UInt8),c]) s1 t11 t12)∧(¬((c.toNat:Int)=92)→((c.toNat:Int)=10→Fit (b0.length+[(92:UInt8),(110:UInt8)].length) 1∧T30_3 prog K P0 (b0++[(92:UInt8),(110:UInt8)]) s1 t11 t12)∧(¬((c.toNat:Int)=10)→((c.toNat:Int)<32→0≤(bShr .u8 (c.toNat:Int) 4)∧∃e,([48,49,50,51,52,53,54,55,56,57,97,98,99,100,101,102]:BS)[(bShr .u8 (c.toNat:Int) 4).toNat]?=some e∧0≤(bAnd .u8 (c.toNat:Int) 15)∧∃k,([48,49,50,51,52,53,54,55,56,57,97,98,99,100,101,102]:BS)[(bAnd .u8 (c.toNat:Int) 15).toNat]?=some k∧Fit (b0.length+[(92:UInt8),(120:UInt8),e,k].length) 1∧T30_3 prog K P0 (b0++[(92:UInt8),(120:UInt8),e,k]) s1 t11 t12)∧(¬((c.toNat:Int)<32)→((c.toNat:Int)>126→0≤(bShr .u8 (c.toNat:Int) 4)∧∃i,([48,49,50,51,52,53,54,55,56,57,97,98,99,100,101,102]:BS)[(bShr .u8 (c.toNat:Int) 4).toNat]?=some i∧0≤(bAnd .u8 (c.toNat:Int) 15)∧∃j,([48,49,50,51,52,53,54,55,56,57,97,98,99,100,101,102]:BS)[(bAnd .u8 (c.toNat:Int) 15).toNat]?=some j∧Fit (b0.length+[(92:UInt8),(120:UInt8),i,j].length) 1∧T30_3 prog K P0 (b0++[(92:UInt8),(120:UInt8),i,j]) s1 t11 t12)∧(¬((c.toNat:Int)>126)→Fit (b0.length+[c].length) 1∧T30_3 prog K P0 (b0++[c]) s1 t11 t12))))))∧(¬(t12<t11)→T30_4 prog K b0)
def T30_1 (prog:Prog)(K:BS→Prop)(b0:BS)(s1:BS):Prop:=
  Fit (b0.length+[(34:UInt8)].length) 1∧∀P0:BS→Int→Prop,(∀(b0:BS)(t12:Int),T30_2 prog K P0 b0 s1 (s1.length:Int) t12→P0 b0 t12)→P0 (b0++[(34:UInt8)]) 0
def T30_0 (prog:Prog)(K:BS→Prop)(b0:BS)(s1:BS):Prop:=
  T30_1 prog K b0 s1
section
variable {prog:Prog}{d:Nat}{Q:AE→Sl→St→Prop}{K:BS→Prop}(hQ:H30 Q K){σ:Sl}{st:St}
include hQ
variable {b0 s1:BS}{t11 t12:Int}{P0:BS→Int→Prop}{o_b0:Own}
variable (kP0 :∀(b0:BS)(t12:Int),P0 b0 t12→I30_0 prog d Q s1 t11 b0 t12)(H0:σ 0=.sl o_b0 (List.map row8 b0))(H1:σ 1=.s s1)(H11:σ 11=.i .i64 t11)(H12:σ 12=.i .i64 t12)(A0:App st.ow o_b0 b0.length)
include kP0 H0 H1 H11 H12 A0 in
theorem w30_3 (h:T30_3 prog K P0 b0 s1 t11 t12):W prog d c30_0 σ st (thenW prog d (.loop l30_0) (blockW 0 (thenW prog d c30_2 Q))):=
 au trivial
include H0 A0 in
theorem w30_4 (h:T30_4 prog K b0):W prog d c30_2 σ st Q:=
 q_ J (s_mvL H0 (s_bslM (f:=row8) (l:=[(34:UInt8)]) J J (g_cons J J J g_nil) J (s_app row8_len J J J A0 h.1 J (fun _ _ c _ _=>s_mvL J (er_ (hQ _ _ _ _ J c h.2))))))
include kP0 H0 H1 H11 H12 A0 in
theorem w30_2 (h:T30_2 prog K P0 b0 s1 t11 t12):W prog d l30_0 σ st (thenW prog d (.loop l30_0) (blockW 0 (thenW prog d c30_2 Q))):=
 q_ J (b_ H12 H11 lss_ (e_ (sq_ (cs_ J (fun p=>sk_ (sq_ (bk_ (q_ J (m_ (m_ (e_ (q_ J (m_ (m_ ((h.1 p).2.elim fun q c=>s_ixS H1 H12 (h.1 p).1 c.1 (m_ (e_ (bk_ (q_ J (s_mvI J (b_ J J eql_ (s_mvB J (em_ (g:=25) J (fun e=>z_ 4 J (e_ (ct_ J (W.reg0 J fun _ _=>s_mvL H0 (m_ (s_bslM (f:=row8) (l:=[(92:UInt8),q]) J J (g_cons J J J (g_cons J J J g_nil)) J (s_app row8_len J J J A0 (c.2.1 e).1 J (fun _ _ a1 _ _=>s_mvL J (e_ (w30_3 hQ kP0 J H1 H11 H12 a1 (c.2.1 e).2)))))))))) (fun e=>gy_ J (s_mvI J (gy_ J (b_ J J eql_ (z_ 2 J (e_ (cs_ J (fun i=>W.reg0 J fun _ _=>s_mvL H0 (m_ (s_bslM (f:=row8) (l:=[(92:UInt8),q]) J J (g_cons J J J (g_cons J J J g_nil)) J (s_app row8_len J J J A0 ((c.2.2 e).1 i).1 J (fun _ _ w _ _=>s_mvL J (e_ (w30_3 hQ kP0 J H1 H11 H12 w ((c.2.2 e).1 i).2))))))) (fun i=>q_ J (m_ (b_ J J eql_ (m_ (e_ (cs_ J (fun j=>W.reg0 J fun _ _=>s_mvL H0 (s_bslM (f:=row8) (l:=[(92:UInt8),(110:UInt8)]) J J (g_cons J J J (g_cons J J J g_nil)) J (s_app row8_len J J J A0 (((c.2.2 e).2 i).1 j).1 J (fun _ _ x _ _=>s_mvL J (e_ (w30_3 hQ kP0 J H1 H11 H12 x (((c.2.2 e).2 i).1 j).2)))))) (fun j=>q_ J (s_mvI J (b_ J J lss_ (s_mvB J (em_ (g:=42) J (fun k=>z_ 4 J (e_ (ct_ J (W.reg0 J fun _ _=>s_mvL H0 (m_ (b_ J J (abin_shr' (by decide)) (((((c.2.2 e).2 i).2 j).1 k).2.elim fun a2 r=>s_ixS J J ((((c.2.2 e).2 i).2 j).1 k).1 r.1 (m_ (b_ J J (abin_and _ _ _) (r.2.2.elim fun a3 s=>s_ixS J J r.2.1 s.1 (s_bslM (f:=row8) (l:=[(92:UInt8),(120:UInt8),a2,a3]) J J (g_cons J J J (g_cons J J J (g_cons J J J (g_cons J J J g_nil)))) J (s_app row8_len J J J A0 s.2.1 J (fun _ _ y _ _=>s_mvL J (e_ (w30_3 hQ kP0 J H1 H11 H12 y s.2.2))))))))))))))) (fun k=>gy_ J (s_mvI J (gy_ J (b_ J J gtr_ (z_ 2 J (e_ (cs_ J (fun o=>W.reg0 J fun _ _=>s_mvL H0 (m_ (b_ J J (abin_shr' (by decide)) ((((((c.2.2 e).2 i).2 j).2 k).1 o).2.elim fun a4 u=>s_ixS J J (((((c.2.2 e).2 i).2 j).2 k).1 o).1 u.1 (m_ (b_ J J (abin_and _ _ _) (u.2.2.elim fun a5 v=>s_ixS J J u.2.1 v.1 (s_bslM (f:=row8) (l:=[(92:UInt8),(120:UInt8),a4,a5]) J J (g_cons J J J (g_cons J J J (g_cons J J J (g_cons J J J g_nil)))) J (s_app row8_len J J J A0 v.2.1 J (fun _ _ z _ _=>s_mvL J (e_ (w30_3 hQ kP0 J H1 H11 H12 z v.2.2)))))))))))) (fun o=>W.reg0 J fun _ _=>s_mvL H0 (m_ (s_bslM (f:=row8) (l:=[q]) J J (g_cons J J J g_nil) J (s_app row8_len J J J A0 (((((c.2.2 e).2 i).2 j).2 k).2 o).1 J (fun _ _ a0 _ _=>s_mvL J (e_ (w30_3 hQ kP0 J H1 H11 H12 a0 (((((c.2.2 e).2 i).2 j).2 k).2 o).2))))))))))))))))))))))))))))))))))))))))))))))))))) (fun p=>ex_ (w30_4 hQ H0 A0 (h.2 p)))))))
include H0 H1 A0 in
theorem w30_1 (h:T30_1 prog K b0 s1):W prog d c30_3 σ st Q:=
 q_ J (s_mvL H0 (s_bslM (f:=row8) (l:=[(34:UInt8)]) J J (g_cons J J J g_nil) J (s_app row8_len J J J A0 h.1 J (fun _ _ c _ _=>s_mvL J (e_ (sq_ (q_ J (m_ (ln_ H1 (m_ (e_ (bk_ (h.2 (I30_0 prog d Q s1 (s1.length:Int)) (fun _ _ hb _ _ _ H0 H1 H11 H12 A0=>W.loop (w30_2 hQ (fun _ _ x=>x) H0 H1 H11 H12 A0 hb)) _ _ _ J H1 J J c)))))))))))))
include H0 H1 A0 in
theorem w30_0 (h:T30_0 prog K b0 s1):W prog d (sR 0 r30_0 c30_3) σ st Q:=
 q_ J (s_mvL (f:=row8) (l:=[]) J (e_ (w30_1 hQ H0 H1 A0 h)))
end
theorem p30 {prog:Prog}(hf:prog.fn 30=some pf30){b0:BS}{s1:BS}{K:BS→Prop}(h:T30_0 prog K b0 s1):PuAK prog 30 (List.map row8 b0) [.s s1] fun rows=>∃x:BS,K x∧rows=List.map row8 x:=
  PuAK.of hf rfl fun d st o ha=>w30_0 (Q:=endW d _ (appK _)) (fun σ st' o' x h2 ha' hk=>⟨.sl o' (List.map row8 x),by simp only [pf30,ares,ares1,h2],_,_,rfl,by simpa using ha',⟨_,hk,rfl⟩⟩) rfl rfl (by simpa using ha) h
def r34_0:List AI:=[oC 4 (.s [])]
def r34_1:List AI:=[oO 5 (.alloc [z8,z8,z8,z8,z8,z8,z8,z8,z8,z8,z8,z8,z8,z8,z8,z8,z8,z8,z8,z8,z8,z8,z8,z8,z8,z8,z8,z8,z8,z8,z8,z8,z8,z8,z8,z8,z8,z8,z8,z8,z8,z8,z8,z8,z8,z8,z8,z8,z8,z8,z8,z8,z8,z8,z8,z8,z8,z8,z8,z8,z8,z8,z8,z8])]
def r34_2:List AI:=[oI 6 64]
def r34_3:List AI:=[oM 7 6,oV 8 .sub 7 1,oM 6 8]
def r34_4:List AI:=[oM 9 6,oM 10 0,oM 11 1,oT 12 .rem 10 11,oO 13 (.ixS (.c (.s [48,49,50,51,52,53,54,55,56,57,97,98,99,100,101,102])) (.t 12)),oO 14 (.iaA 64 1 (.t 5) (.t 9)),oS 1 14 13]
def r34_5:List AI:=[oM 15 0,oM 16 1,oT 17 .quo 15 16,oM 0 17]
def r34_6:List AI:=[oM 18 0,oB 19 .eql (.t 18) (.c (.i .u64 0))]
def r34_7:List AI:=[oM 20 6,oO 21 (.slA 64 1 (.t 5) (some (.t 20)) none),oO 22 (.b2s (.t 21)),oM 4 22]
abbrev l34_0:AC:=(.block 1 (sR 3 r34_3 (sR 4 r34_4 (sR 5 r34_5 (sR 6 r34_6 (.cond (.t 19) (sR 7 r34_7 .ret) .skip))))))
abbrev b34:AC:=(sR 0 r34_0 (sR 1 r34_1 (sR 2 r34_2 (.block 0 (.loop l34_0)))))
def pf34:AF:={ nt:=23,res:=[.tmp 4],body:=b34 }
abbrev I34_0 (prog:Prog)(d:Nat)(Q:AE→Sl→St→Prop)(base1:Int)(n0:Int)(at6:Int)(m4096:List (UInt8)):Prop:=
  ∀(σ:Sl)(st:St)(v4096:Nat),σ 0=.i .u64 n0→σ 1=.i .u64 base1→σ 5=.p (d,4096) v4096 0→σ 6=.i .i64 at6→lk st.bx (d,4096)=some (v4096,List.map c8 m4096)→W prog d (.loop l34_0) σ st (blockW 0 Q)
def T34_1 (prog:Prog)(K:BS→Prop)(P0:Int→Int→List (UInt8)→Prop)(n0:Int)(base1:Int)(at6:Int)(m4096:List (UInt8)):Prop:=
  base1≠0∧0≤((n0:Int).tmod base1)∧∃c,([48,49,50,51,52,53,54,55,56,57,97,98,99,100,101,102]:BS)[((n0:Int).tmod base1).toNat]?=some c∧0≤(IntKind.i64.wrap (at6-1))∧(IntKind.i64.wrap (at6-1)).toNat<64∧(IntKind.i64.wrap (at6-1)).toNat<m4096.length∧base1≠0∧((IntKind.u64.wrap ((n0:Int).tdiv base1))=0→(m4096.set ((IntKind.i64.wrap (at6-1)).toNat) c).length=64∧0≤(IntKind.i64.wrap (at6-1))∧(IntKind.i64.wrap (at6-1)).toNat≤64∧K ((m4096.set ((IntKind.i64.wrap (at6-1)).toNat) c).drop (IntKind.i64.wrap (at6-1)).toNat))∧(¬((IntKind.u64.wrap ((n0:Int).tdiv base1))=0)→P0 (IntKind.u64.wrap ((n0:Int).tdiv base1)) (IntKind.i64.wrap (at6-1)) (m4096.set ((IntKind.i64.wrap (at6-1)).toNat) c))
def T34_0 (prog:Prog)(K:BS→Prop)(n0:Int)(base1:Int):Prop:=
  ∀P0:Int→Int→List (UInt8)→Prop,(∀(n0:Int)(at6:Int)(m4096:List (UInt8)),T34_1 prog K P0 n0 base1 at6 m4096→P0 n0 at6 m4096)→P0 n0 64 (List.replicate 64 0)
section
variable {prog:Prog}{d:Nat}{Q:AE→Sl→St→Prop}{K:BS→Prop}(hQ:H1 AV.s 4 Q K){σ:Sl}{st:St}
include hQ
variable {n0 base1 at6:Int}{m4096:List (UInt8)}{P0:Int→Int→List (UInt8)→Prop}{v4096:Nat}
variable (kP0 :∀(n0:Int)(at6:Int)(m4096:List (UInt8)),P0 n0 at6 m4096→I34_0 prog d Q base1 n0 at6 m4096)(H0:σ 0=.i .u64 n0)(H1:σ 1=.i .u64 base1)(H5:σ 5=.p (d,4096) v4096 0)(H6:σ 6=.i .i64 at6)(B4096:lk st.bx (d,4096)=some (v4096,List.map c8 m4096))
include kP0 H0 H1 H5 H6 B4096 in
theorem w34_1 (h:T34_1 prog K P0 n0 base1 at6 m4096):W prog d l34_0 σ st (thenW prog d (.loop l34_0) (blockW 0 Q)):=
 bk_ (q_ J (m_ (b_ H6 J sub_ (m_ (e_ (q_ J (m_ (m_ (m_ (b_ H0 H1 (abin_rem' h.1) (h.2.2.elim fun i c=>s_ixS J J h.2.1 c.1 (s_iaP1 H5 J c.2.1 c.2.2.1 (s_storeA (f:=c8) (a:=i) c8_one J B4096 J c.2.2.2.1 (e_ (q_ J (m_ (m_ (b_ H0 H1 (abin_quo' c.2.2.2.2.1) (m_ (e_ (q_ J (m_ (b_ J J eql_ (e_ (cs_ J (fun e=>q_ J (m_ (s_slA_lo H5 lk_here (c.2.2.2.2.2.1 e).1 J J (c.2.2.2.2.2.1 e).2.1 (c.2.2.2.2.2.1 e).2.2.1 (s_b2s J (m_ (er_ (hQ J (c.2.2.2.2.2.1 e).2.2.2))))))) (fun e=>sk_ (kP0 _ _ _ (c.2.2.2.2.2.2 e) _ _ _ J H1 H5 J lk_here)))))))))))))))))))))))))))
include H0 H1 in
theorem w34_0 (h:T34_0 prog K n0 base1):W prog d (sR 0 r34_0 (sR 1 r34_1 (sR 2 r34_2 (.block 0 (.loop l34_0))))) σ st Q:=
 q_ J (m_ (e_ (sq_ (W.reg (s_alloc (e_ (q_ J (m_ (e_ (bk_ (h (I34_0 prog d Q base1) (fun _ _ _ hb _ _ _ H0 H1 H5 H6 B4096=>W.loop (w34_1 hQ (fun _ _ _ x=>x) H0 H1 H5 H6 B4096 hb)) _ _ _ H0 H1 J J (show lk _ (d,4096)=some (_,(List.map c8 (List.replicate 64 0):List AV)) from lk_here))))))))))))
end
theorem p34 {prog:Prog}(hf:prog.fn 34=some pf34){n0:Int}{base1:Int}{K:BS→Prop}(h:T34_0 prog K n0 base1) :∃x0:BS,K x0∧Pus prog 34 [.i .u64 n0,.i .u64 base1] (.s x0):=
 P1 hf J (w34_0 (h1 J fun _=>J) J J h)
def r37_0:List AI:=[oC 6 (.i .u64 0),oI 7 0]
def r37_1:List AI:=[oC 8 (.i .u64 0),oC 9 (.b false)]
def r37_2:List AI:=[oM 12 0,oH 13 12,oI 14 0]
def r37_3:List AI:=[oT 15 .lss 14 13]
def r37_4:List AI:=[oM 16 14,oM 10 16]
def r37_5:List AI:=[oM 17 1,oO 18 (.slS (.c (.s [48,49,50,51,52,53,54,55,56,57,97,98,99,100,101,102])) none (some (.t 17))),oM 19 0,oM 20 10,oO 21 (.ixS (.t 19) (.t 20)),oQ 22 43 [18,21],oM 11 22]
def r37_6:List AI:=[oM 23 11,oV 24 .lss 23 0,oM 25 24,gF 25 (oM 26 10),gF 25 (oV 27 .eql 26 1),gF 25 (oM 28 27),gT 28 (oM 29 0),gT 28 (oO 30 (.ixS (.t 29) (.c (.i .i64 0)))),gT 28 (oW 31 .eql 30 48),gF 25 (oA 32 28 31),oR 33 25 32]
def r37_7:List AI:=[oC 6 (.i .u64 0),oI 7 12]
def r37_8:List AI:=[oM 34 9,oM 35 34,gF 35 (oM 36 8),gF 35 (oM 37 2),gF 35 (oM 38 11),gF 35 (oO 39 (.cvi .u64 (.t 38))),gF 35 (oT 40 .sub 37 39),gF 35 (oM 41 1),gF 35 (oT 42 .quo 40 41),gF 35 (oT 43 .gtr 36 42),oR 44 35 43,oM 9 44]
def r37_9:List AI:=[oM 45 9,oZ 46 45]
def r37_10:List AI:=[oM 47 8,oM 48 1,oT 49 .mul 47 48,oM 50 11,oO 51 (.cvi .u64 (.t 50)),oT 52 .add 49 51,oM 8 52]
def r37_11:List AI:=[oV 53 .add 14 1,oM 14 53]
def r37_12:List AI:=[oM 55 0,oB 56 .eql (.t 55) (.c (.s [])),oM 54 56]
def r37_13:List AI:=[oC 6 (.i .u64 0),oI 7 12]
def r37_14:List AI:=[oM 58 9,oM 57 58]
def r37_15:List AI:=[oC 6 (.i .u64 0),oI 7 16]
def r37_16:List AI:=[oM 59 8,oM 6 59,oI 7 0]
abbrev c37_0:AC:=(.reg 11 r37_11)
abbrev l37_0:AC:=(sR 3 r37_3 (.seq (.cond (.t 15) .skip (.exit 0)) (.seq (.block 1 (sR 4 r37_4 (sR 5 r37_5 (.seq (sR 6 r37_6 (.cond (.t 33) (sR 7 r37_7 .ret) .skip)) (sR 8 r37_8 (sR 9 r37_9 (.cond (.t 46) (.reg 10 r37_10) .skip))))))) c37_0)))
abbrev c37_2:AC:=(.seq (.block 2 (sR 12 r37_12 (.cond (.t 54) (sR 13 r37_13 .ret) (sR 14 r37_14 (.cond (.t 57) (sR 15 r37_15 .ret) .skip))))) (sR 16 r37_16 .ret))
abbrev c37_3:AC:=(.seq (sR 2 r37_2 (.block 0 (.loop l37_0))) c37_2)
abbrev c37_4:AC:=(sR 1 r37_1 c37_3)
abbrev b37:AC:=(sR 0 r37_0 c37_4)
def pf37:AF:={ nt:=60,res:=[.tmp 6,.tmp 7],body:=b37 }
abbrev I37_0 (prog:Prog)(d:Nat)(Q:AE→Sl→St→Prop)(s0:BS)(base1:Int)(most2:Int)(t13:Int)(n8:Int)(far9:Bool)(t14:Int):Prop:=
  ∀(σ:Sl)(st:St),σ 0=.s s0→σ 1=.i .u64 base1→σ 2=.i .u64 most2→σ 8=.i .u64 n8→σ 9=.b far9→σ 13=.i .i64 t13→σ 14=.i .i64 t14→W prog d (.loop l37_0) σ st (blockW 0 (thenW prog d c37_2 Q))
def T37_4 (prog:Prog)(K:Int→Int→Prop)(P0:Int→Bool→Int→Prop)(s0:BS)(base1:Int)(most2:Int)(n8:Int)(far9:Bool)(t13:Int)(t14:Int):Prop:=
  P0 n8 far9 (IntKind.i64.wrap (t14+1))
def T37_5 (prog:Prog)(K:Int→Int→Prop)(s0:BS)(n8:Int)(far9:Bool):Prop:=
  (s0=([]:BS)→K 0 12)∧(¬(s0=([]:BS))→(far9=true→K 0 16)∧(far9=false→K n8 0))
def T37_3 (prog:Prog)(K:Int→Int→Prop)(P0:Int→Bool→Int→Prop)(s0:BS)(base1:Int)(most2:Int)(n8:Int)(far9:Bool)(t13:Int)(t14:Int):Prop:=
  (t14<t13→0≤base1∧(base1).toNat≤([48,49,50,51,52,53,54,55,56,57,97,98,99,100,101,102]:BS).length∧0≤t14∧∃j:UInt8,s0[(t14).toNat]?=some j∧∃c,Pus prog 43 [.s (([48,49,50,51,52,53,54,55,56,57,97,98,99,100,101,102]:BS).take (base1).toNat),.i .u8 (j.toNat:Int)] (.i .i64 c)∧(c<0→K 0 12)∧(¬(c<0)→(t14=1→∃e:UInt8,s0[0]?=some e∧((e.toNat:Int)=48→K 0 12)∧(¬((e.toNat:Int)=48)→(far9=true→T37_4 prog K P0 s0 base1 most2 n8 true t13 t14)∧(far9=false→base1≠0∧(¬(n8>(IntKind.u64.wrap (((IntKind.u64.wrap (most2-(IntKind.u64.wrap c))):Int).tdiv base1)))→T37_4 prog K P0 s0 base1 most2 (IntKind.u64.wrap ((IntKind.u64.wrap (n8*base1))+(IntKind.u64.wrap c))) (decide (n8>(IntKind.u64.wrap (((IntKind.u64.wrap (most2-(IntKind.u64.wrap c))):Int).tdiv base1)))) t13 t14)∧(¬(¬(n8>(IntKind.u64.wrap (((IntKind.u64.wrap (most2-(IntKind.u64.wrap c))):Int).tdiv base1))))→T37_4 prog K P0 s0 base1 most2 n8 (decide (n8>(IntKind.u64.wrap (((IntKind.u64.wrap (most2-(IntKind.u64.wrap c))):Int).tdiv base1)))) t13 t14))))∧(¬(t14=1)→(far9=true→T37_4 prog K P0 s0 base1 most2 n8 true t13 t14)∧(far9=false→base1≠0∧(¬(n8>(IntKind.u64.wrap (((IntKind.u64.wrap (most2-(IntKind.u64.wrap c))):Int).tdiv base1)))→T37_4 prog K P0 s0 base1 most2 (IntKind.u64.wrap ((IntKind.u64.wrap (n8*base1))+(IntKind.u64.wrap c))) (decide (n8>(IntKind.u64.wrap (((IntKind.u64.wrap (most2-(IntKind.u64.wrap c))):Int).tdiv base1)))) t13 t14)∧(¬(¬(n8>(IntKind.u64.wrap (((IntKind.u64.wrap (most2-(IntKind.u64.wrap c))):Int).tdiv base1))))→T37_4 prog K P0 s0 base1 most2 n8 (decide (n8>(IntKind.u64.wrap (((IntKind.u64.wrap (most2-(IntKind.u64.wrap c))):Int).tdiv base1)))) t13 t14)))))∧(¬(t14<t13)→T37_5 prog K s0 n8 far9)
def T37_2 (prog:Prog)(K:Int→Int→Prop)(s0:BS)(base1:Int)(most2:Int)(n8:Int)(far9:Bool):Prop:=
  ∀P0:Int→Bool→Int→Prop,(∀(n8:Int)(far9:Bool)(t14:Int),T37_3 prog K P0 s0 base1 most2 n8 far9 (s0.length:Int) t14→P0 n8 far9 t14)→P0 n8 far9 0
def T37_1 (prog:Prog)(K:Int→Int→Prop)(s0:BS)(base1:Int)(most2:Int):Prop:=
  T37_2 prog K s0 base1 most2 0 false
def T37_0 (prog:Prog)(K:Int→Int→Prop)(s0:BS)(base1:Int)(most2:Int):Prop:=
  T37_1 prog K s0 base1 most2
section
variable {prog:Prog}{d:Nat}{Q:AE→Sl→St→Prop}{K:Int→Int→Prop}(hQ:H2 (AV.i .u64) (AV.i .i64) 6 7 Q K){σ:Sl}{st:St}
include hQ
variable {s0:BS}{base1 most2 n8:Int}{far9:Bool}{t13 t14:Int}{P0:Int→Bool→Int→Prop}
variable (kP0 :∀(n8:Int)(far9:Bool)(t14:Int),P0 n8 far9 t14→I37_0 prog d Q s0 base1 most2 t13 n8 far9 t14)(H0:σ 0=.s s0)(H1:σ 1=.i .u64 base1)(H2:σ 2=.i .u64 most2)(H8:σ 8=.i .u64 n8)(H9:σ 9=.b far9)(H13:σ 13=.i .i64 t13)(H14:σ 14=.i .i64 t14)
include kP0 H0 H1 H2 H8 H9 H13 H14 in
theorem w37_4 (h:T37_4 prog K P0 s0 base1 most2 n8 far9 t13 t14):W prog d c37_0 σ st (thenW prog d (.loop l37_0) (blockW 0 (thenW prog d c37_2 Q))):=
 au trivial
include H0 H8 H9 in
theorem w37_5 (h:T37_5 prog K s0 n8 far9):W prog d c37_2 σ st Q:=
 au trivial
include kP0 H0 H1 H2 H8 H9 H13 H14 in
theorem w37_3 (h:T37_3 prog K P0 s0 base1 most2 n8 far9 t13 t14):W prog d l37_0 σ st (thenW prog d (.loop l37_0) (blockW 0 (thenW prog d c37_2 Q))):=
 au (And.intro @w37_4 @w37_5)
include H0 H1 H2 H8 H9 in
theorem w37_2 (h:T37_2 prog K s0 base1 most2 n8 far9):W prog d c37_3 σ st Q:=
 sq_ (q_ J (m_ (ln_ H0 (m_ (e_ (bk_ (h (I37_0 prog d Q s0 base1 most2 (s0.length:Int)) (fun _ _ _ hb _ _ H0 H1 H2 H8 H9 H13 H14=>W.loop (w37_3 hQ (fun _ _ _ x=>x) H0 H1 H2 H8 H9 H13 H14 hb)) _ _ H0 H1 H2 H8 H9 J J)))))))
include H0 H1 H2 in
theorem w37_1 (h:T37_1 prog K s0 base1 most2):W prog d c37_4 σ st Q:=
 au @w37_2
include H0 H1 H2 in
theorem w37_0 (h:T37_0 prog K s0 base1 most2):W prog d (sR 0 r37_0 c37_4) σ st Q:=
 q_ J (m_ (m_ (e_ (w37_1 hQ H0 H1 H2 h))))
end
theorem p37 {prog:Prog}(hf:prog.fn 37=some pf37){s0:BS}{base1:Int}{most2:Int}{K:Int→Int→Prop}(h:T37_0 prog K s0 base1 most2) :∃x0:Int,∃x1:Int,K x0 x1∧Pus prog 37 [.s s0,.i .u64 base1,.i .u64 most2] (.tup [.i .u64 x0,.i .i64 x1]):=
 P2 hf J (w37_0 (h2 J fun _ _=>J) J J J h)
def r39_0:List AI:=[oC 2 (.s []),oC 3 (.s []),oC 4 (.b false)]
def r39_1:List AI:=[oM 11 0,oO 12 (.call false 36 [(.t 11),(.c (.s [34]))]),oM 10 12,oE 13 0 10,oE 14 1 10,oM 5 13,oM 6 14]
def r39_2:List AI:=[oM 15 6,oZ 16 15]
def r39_3:List AI:=[oC 2 (.s []),oC 3 (.s []),oC 4 (.b false)]
def r39_4:List AI:=[oC 7 (.sl .full [])]
def r39_5:List AI:=[oM 17 5,oB 18 .neq (.t 17) (.c (.s []))]
def r39_6:List AI:=[oM 19 5,oO 20 (.ixS (.t 19) (.c (.i .i64 0))),oM 8 20]
def r39_7:List AI:=[oM 21 5,oO 22 (.slS (.t 21) (some (.c (.i .i64 1))) none),oM 5 22]
def r39_8:List AI:=[oM 24 8,oW 25 .eql 24 34,oM 23 25]
def r39_9:List AI:=[oM 26 7,oO 27 (.b2s (.t 26)),oM 28 5,oM 2 27,oM 3 28,oC 4 (.b true)]
def r39_10:List AI:=[oM 30 8,oW 31 .lss 30 32,oM 32 31,gF 32 (oM 33 8),gF 32 (oW 34 .gtr 33 126),oR 35 32 34,oM 29 35]
def r39_11:List AI:=[oC 2 (.s []),oC 3 (.s []),oC 4 (.b false)]
def r39_12:List AI:=[oM 37 8,oW 38 .eql 37 92,oM 36 38]
def r39_13:List AI:=[oC 9 (.b false)]
def r39_14:List AI:=[oM 40 5,oQ 41 45 [40],oM 39 41,oE 42 0 39,oE 43 1 39,oE 44 2 39,oM 8 42,oM 5 43,oM 9 44]
def r39_15:List AI:=[oM 45 9,oZ 46 45]
def r39_16:List AI:=[oC 2 (.s []),oC 3 (.s []),oC 4 (.b false)]
def r39_17:List AI:=[oM 47 7,oM 48 8,oO 49 (.bslice [z8] 1 [(0,(.t 48))]),oO 50 (.app 1 1 (.t 47) (.t 49)),oM 7 50]
def r39_18:List AI:=[oC 2 (.s []),oC 3 (.s []),oC 4 (.b false)]
abbrev c39_0:AC:=(.reg 17 r39_17)
abbrev l39_0:AC:=(.seq (sR 5 r39_5 (.cond (.t 18) .skip (.exit 0))) (.block 1 (sR 6 r39_6 (sR 7 r39_7 (.seq (.block 2 (sR 8 r39_8 (.cond (.t 23) (sR 9 r39_9 .ret) (sR 10 r39_10 (.cond (.t 29) (sR 11 r39_11 .ret) (sR 12 r39_12 (.cond (.t 36) (sR 13 r39_13 (sR 14 r39_14 (sR 15 r39_15 (.cond (.t 46) (sR 16 r39_16 .ret) .skip)))) .skip))))))) c39_0)))))
abbrev c39_2:AC:=(sR 18 r39_18 .ret)
abbrev c39_3:AC:=(sR 1 r39_1 (.seq (sR 2 r39_2 (.cond (.t 16) (sR 3 r39_3 .ret) .skip)) (sR 4 r39_4 (.seq (.block 0 (.loop l39_0)) c39_2))))
abbrev b39:AC:=(sR 0 r39_0 c39_3)
def pf39:AF:={ nt:=51,res:=[.tmp 2,.tmp 3,.tmp 4],body:=b39 }
abbrev H39 (Q:AE→Sl→St→Prop)(K:BS→BS→Bool→Prop):Prop:=∀(σ:Sl)(st:St)(x0:BS)(x1:BS)(x2:Bool),σ 2=.s x0→σ 3=.s x1→σ 4=.b x2→K x0 x1 x2→Q .ret σ st
abbrev I39_0 (prog:Prog)(d:Nat)(Q:AE→Sl→St→Prop)(rest5:BS)(b7:BS):Prop:=
  ∀(σ:Sl)(st:St)(o_b7:Own),σ 5=.s rest5→σ 7=.sl o_b7 (List.map row8 b7)→ApM d st.ow o_b7 b7.length→W prog d (.loop l39_0) σ st (blockW 0 (thenW prog d c39_2 Q))
def T39_3 (prog:Prog)(K:BS→BS→Bool→Prop)(P0:BS→BS→Prop)(rest5:BS)(b7:BS)(c8:Int):Prop:=
  ∃c:UInt8,c8=(c.toNat:Int)∧Fit (b7.length+[c].length) 1∧P0 rest5 (b7++[c])
def T39_4 (prog:Prog)(K:BS→BS→Bool→Prop) :Prop:=
  K ([]:BS) ([]:BS) false
def T39_2 (prog:Prog)(K:BS→BS→Bool→Prop)(P0:BS→BS→Prop)(rest5:BS)(b7:BS):Prop:=
  (rest5≠([]:BS)→∃c:UInt8,rest5[0]?=some c∧1≤rest5.length∧((c.toNat:Int)=34→K b7 (rest5.drop 1) true)∧(¬((c.toNat:Int)=34)→((c.toNat:Int)<32→K ([]:BS) ([]:BS) false)∧(¬((c.toNat:Int)<32)→((c.toNat:Int)>126→K ([]:BS) ([]:BS) false)∧(¬((c.toNat:Int)>126)→((c.toNat:Int)=92→∃k j e,Pus prog 45 [.s (rest5.drop 1)] (.tup [.i .u8 k,.s j,.b e])∧((!e)=true→K ([]:BS) ([]:BS) false)∧((!e)=false→T39_3 prog K P0 j b7 k))∧(¬((c.toNat:Int)=92)→T39_3 prog K P0 (rest5.drop 1) b7 (c.toNat:Int))))))∧(¬(rest5≠([]:BS))→T39_4 prog K )
def T39_1 (prog:Prog)(K:BS→BS→Bool→Prop)(s0:BS):Prop:=
  ∃e c,Pus prog 36 [.s s0,.s ([34]:BS)] (.tup [.s e,.b c])∧((!c)=true→K ([]:BS) ([]:BS) false)∧((!c)=false→∀P0:BS→BS→Prop,(∀(rest5:BS)(b7:BS),T39_2 prog K P0 rest5 b7→P0 rest5 b7)→P0 e ([]:BS))
def T39_0 (prog:Prog)(K:BS→BS→Bool→Prop)(s0:BS):Prop:=
  T39_1 prog K s0
section
variable {prog:Prog}{d:Nat}{Q:AE→Sl→St→Prop}{K:BS→BS→Bool→Prop}(hQ:H39 Q K){σ:Sl}{st:St}
include hQ
variable {rest5 b7:BS}{c8:Int}{P0:BS→BS→Prop}{o_b7:Own}{s0:BS}
variable (kP0 :∀(rest5:BS)(b7:BS),P0 rest5 b7→I39_0 prog d Q rest5 b7)(H0:σ 0=.s s0)(H5:σ 5=.s rest5)(H7:σ 7=.sl o_b7 (List.map row8 b7))(H8:σ 8=.i .u8 c8)(A7:ApM d st.ow o_b7 b7.length)
include kP0 H5 H7 H8 A7 in
theorem w39_3 (h:T39_3 prog K P0 rest5 b7 c8):W prog d c39_0 σ st (blockW 1 (thenW prog d (.loop l39_0) (blockW 0 (thenW prog d c39_2 Q)))):=
 au trivial
theorem w39_4 (h:T39_4 prog K ):W prog d c39_2 σ st Q:=
 au trivial
include kP0 H5 H7 A7 in
theorem w39_2 (h:T39_2 prog K P0 rest5 b7):W prog d l39_0 σ st (thenW prog d (.loop l39_0) (blockW 0 (thenW prog d c39_2 Q))):=
 sq_ (q_ J (m_ (b_ H5 J sne_ (e_ (cs_ J (fun o=>sk_ (bk_ (q_ J (m_ ((h.1 o).elim fun _ c=>s_ixS H5 J (by decide) c.1 (m_ (e_ (q_ J (m_ (s_slS_lo H5 J (by decide) c.2.1 (m_ (e_ (sq_ (bk_ (q_ J (m_ (b_ J J eql_ (m_ (e_ (cs_ J (fun e=>q_ J (s_mvL H7 (s_b2s J (m_ (m_ (m_ (m_ (er_ (hQ _ _ _ _ _ J J J (c.2.2.1 e)))))))))) (fun e=>q_ J (s_mvI J (b_ J J lss_ (s_mvB J (em_ (g:=32) J (fun i=>z_ 4 J (e_ (ct_ J (q_ J (m_ (m_ (m_ (er_ (hQ _ _ _ _ _ J J J ((c.2.2.2 e).1 i)))))))))) (fun i=>gy_ J (s_mvI J (gy_ J (b_ J J gtr_ (z_ 2 J (e_ (cs_ J (fun j=>q_ J (m_ (m_ (m_ (er_ (hQ _ _ _ _ _ J J J (((c.2.2.2 e).2 i).1 j))))))) (fun j=>q_ J (m_ (b_ J J eql_ (m_ (e_ (cs_ J (fun q=>q_ J (m_ (e_ (q_ J (m_ (x2 ((((c.2.2.2 e).2 i).2 j).1 q) fun _ _ r=>r.elim fun _ k=>ca_ (sc1 J J) k.1 (m_ (x_ J J (x_ J J (x_ J J (m_ (m_ (m_ (e_ (q_ J (m_ (nt_ J (e_ (cb_ J (fun p=>q_ J (m_ (m_ (m_ (er_ (hQ _ _ _ _ _ J J J (k.2.1 p))))))) (fun p=>sk_ (w39_3 hQ kP0 J H7 J A7 (k.2.2 p)))))))))))))))))))))) (fun q=>sk_ (w39_3 hQ kP0 J H7 J A7 ((((c.2.2.2 e).2 i).2 j).2 q))))))))))))))))))))))))))))))))))))))))) (fun o=>ex_ (w39_4 hQ (h.2 o))))))))
include H0 in
theorem w39_1 (h:T39_1 prog K s0):W prog d c39_3 σ st Q:=
 q_ J (m_ (x2 h fun _ _ c=>ca_ (sc2 H0 J J) c.1 (m_ (x_ J J (x_ J J (m_ (m_ (e_ (sq_ (q_ J (m_ (nt_ J (e_ (cb_ J (fun e=>q_ J (m_ (m_ (m_ (er_ (hQ _ _ _ _ _ J J J (c.2.1 e))))))) (fun e=>sk_ (q_ J (s_mvL (f:=row8) (l:=[]) J (e_ (sq_ (bk_ ((c.2.2 e) (I39_0 prog d Q ) (fun _ _ hb _ _ _ H5 H7 A7=>W.loop (w39_2 hQ (fun _ _ x=>x) H5 H7 A7 hb)) _ _ _ J J ApM.full)))))))))))))))))))))
include H0 in
theorem w39_0 (h:T39_0 prog K s0):W prog d (sR 0 r39_0 c39_3) σ st Q:=
 q_ J (m_ (m_ (m_ (e_ (w39_1 hQ H0 h)))))
end
theorem p39 {prog:Prog}(hf:prog.fn 39=some pf39){s0:BS}{K:BS→BS→Bool→Prop}(h:T39_0 prog K s0) :∃x0:BS,∃x1:BS,∃x2:Bool,K x0 x1 x2∧Pus prog 39 [.s s0] (.tup [.s x0,.s x1,.b x2]):=by
  obtain ⟨v,hv,x0,x1,x2,hk,rfl⟩:=Pus.of (K:=fun v=>∃x0:BS,∃x1:BS,∃x2:Bool,K x0 x1 x2∧v=.tup [.s x0,.s x1,.b x2]) hf rfl (w39_0 (σ:=sl0 [.s s0]) (fun σ st   x0 x1 x2 H2 H3 H4 hk=>⟨.tup [.s x0,.s x1,.b x2],by simp only [pf39,ares,aresL,H2,H3,H4,ares1,Option.map_some],_,rfl,x0,x1,x2,hk,rfl⟩) rfl h)
  exact ⟨x0,x1,x2,hk,hv⟩
def r45_0:List AI:=[oU 2 0,oC 3 (.s []),oC 4 (.b false)]
def r45_1:List AI:=[oM 8 0,oB 9 .eql (.t 8) (.c (.s []))]
def r45_2:List AI:=[oU 2 0,oC 3 (.s []),oC 4 (.b false)]
def r45_3:List AI:=[oM 10 0,oO 11 (.ixS (.t 10) (.c (.i .i64 0)))]
def r45_4:List AI:=[oW 13 .eql 11 34,oM 12 13]
def r45_5:List AI:=[oW 14 .eql 11 92,oM 12 14]
def r45_6:List AI:=[oM 15 0,oO 16 (.ixS (.t 15) (.c (.i .i64 0))),oM 17 0,oO 18 (.slS (.t 17) (some (.c (.i .i64 1))) none),oM 2 16,oM 3 18,oC 4 (.b true)]
def r45_7:List AI:=[oW 20 .eql 11 110,oM 19 20]
def r45_8:List AI:=[oM 21 0,oO 22 (.slS (.t 21) (some (.c (.i .i64 1))) none),oU 2 10,oM 3 22,oC 4 (.b true)]
def r45_9:List AI:=[oW 24 .eql 11 120,oM 23 24]
def r45_10:List AI:=[oM 25 0,oH 26 25,oV 27 .lss 26 3]
def r45_11:List AI:=[oU 2 0,oC 3 (.s []),oC 4 (.b false)]
def r45_12:List AI:=[oM 28 0,oO 29 (.ixS (.t 28) (.c (.i .i64 1))),oO 30 (.call false 43 [(.c (.s [48,49,50,51,52,53,54,55,56,57,97,98,99,100,101,102])),(.t 29)]),oM 31 0,oO 32 (.ixS (.t 31) (.c (.i .i64 2))),oO 33 (.call false 43 [(.c (.s [48,49,50,51,52,53,54,55,56,57,97,98,99,100,101,102])),(.t 32)]),oM 5 30,oM 6 33]
def r45_13:List AI:=[oM 34 5,oB 35 .mul (.c (.i .i64 16)) (.t 34),oM 36 6,oT 37 .add 35 36,oO 38 (.cvi .u8 (.t 37)),oM 7 38]
def r45_14:List AI:=[oM 39 7,oM 40 0,oO 41 (.slS (.t 40) (some (.c (.i .i64 3))) none),oM 42 5,oV 43 .geq 42 0,oM 44 43,gT 44 (oM 45 6),gT 44 (oV 46 .geq 45 0),oA 47 44 46,oM 48 47,gT 48 (oM 49 7),gT 48 (oW 50 .neq 49 10),oA 51 48 50,oM 52 51,gT 52 (oM 53 7),gT 52 (oW 54 .lss 53 32),gT 52 (oM 55 54),gF 55 (oM 56 7),gF 55 (oW 57 .gtr 56 126),gT 52 (oR 58 55 57),oA 59 52 58,oM 2 39,oM 3 41,oM 4 59]
def r45_15:List AI:=[oU 2 0,oC 3 (.s []),oC 4 (.b false)]
abbrev c45_0:AC:=(.cond (.t 12) (sR 6 r45_6 .ret) (sR 7 r45_7 (.cond (.t 19) (sR 8 r45_8 .ret) (sR 9 r45_9 (.cond (.t 23) (.seq (sR 10 r45_10 (.cond (.t 27) (sR 11 r45_11 .ret) .skip)) (sR 12 r45_12 (sR 13 r45_13 (sR 14 r45_14 .ret)))) .skip)))))
abbrev c45_1:AC:=(.block 0 (.seq (sR 4 r45_4 (.cond (.t 12) .skip (.reg 5 r45_5))) c45_0))
abbrev c45_2:AC:=(.seq (sR 3 r45_3 c45_1) (sR 15 r45_15 .ret))
abbrev c45_3:AC:=(.seq (sR 1 r45_1 (.cond (.t 9) (sR 2 r45_2 .ret) .skip)) c45_2)
abbrev b45:AC:=(sR 0 r45_0 c45_3)
def pf45:AF:={ nt:=60,res:=[.tmp 2,.tmp 3,.tmp 4],body:=b45 }
abbrev H45 (Q:AE→Sl→St→Prop)(K:Int→BS→Bool→Prop):Prop:=∀(σ:Sl)(st:St)(x0:Int)(x1:BS)(x2:Bool),σ 2=.i .u8 x0→σ 3=.s x1→σ 4=.b x2→K x0 x1 x2→Q .ret σ st
def T45_4 (prog:Prog)(K:Int→BS→Bool→Prop)(s0:BS)(t11:Int)(t12:Bool):Prop:=
  (t12=true→∃k:UInt8,s0[0]?=some k∧1≤s0.length∧K (k.toNat:Int) (s0.drop 1) true)∧(t12=false→(t11=110→1≤s0.length∧K 10 (s0.drop 1) true)∧(¬(t11=110)→(t11=120→((s0.length:Int)<3→K 0 ([]:BS) false)∧(¬((s0.length:Int)<3)→∃j:UInt8,s0[1]?=some j∧∃c,Pus prog 43 [.s ([48,49,50,51,52,53,54,55,56,57,97,98,99,100,101,102]:BS),.i .u8 (j.toNat:Int)] (.i .i64 c)∧∃o:UInt8,s0[2]?=some o∧∃e,Pus prog 43 [.s ([48,49,50,51,52,53,54,55,56,57,97,98,99,100,101,102]:BS),.i .u8 (o.toNat:Int)] (.i .i64 e)∧3≤s0.length∧(c≥0→(e≥0→((IntKind.u8.wrap (IntKind.i64.wrap ((IntKind.i64.wrap (16*c))+e)))≠10→((IntKind.u8.wrap (IntKind.i64.wrap ((IntKind.i64.wrap (16*c))+e)))<32→K (IntKind.u8.wrap (IntKind.i64.wrap ((IntKind.i64.wrap (16*c))+e))) (s0.drop 3) true)∧(¬((IntKind.u8.wrap (IntKind.i64.wrap ((IntKind.i64.wrap (16*c))+e)))<32)→K (IntKind.u8.wrap (IntKind.i64.wrap ((IntKind.i64.wrap (16*c))+e))) (s0.drop 3) (decide ((IntKind.u8.wrap (IntKind.i64.wrap ((IntKind.i64.wrap (16*c))+e)))>126))))∧(¬((IntKind.u8.wrap (IntKind.i64.wrap ((IntKind.i64.wrap (16*c))+e)))≠10)→K (IntKind.u8.wrap (IntKind.i64.wrap ((IntKind.i64.wrap (16*c))+e))) (s0.drop 3) false))∧(¬(e≥0)→K (IntKind.u8.wrap (IntKind.i64.wrap ((IntKind.i64.wrap (16*c))+e))) (s0.drop 3) false))∧(¬(c≥0)→K (IntKind.u8.wrap (IntKind.i64.wrap ((IntKind.i64.wrap (16*c))+e))) (s0.drop 3) false)))∧(¬(t11=120)→K 0 ([]:BS) false)))
def T45_3 (prog:Prog)(K:Int→BS→Bool→Prop)(s0:BS)(t11:Int):Prop:=
  (t11=34→T45_4 prog K s0 t11 (decide (t11=34)))∧(¬(t11=34)→T45_4 prog K s0 t11 (decide (t11=92)))
def T45_2 (prog:Prog)(K:Int→BS→Bool→Prop)(s0:BS):Prop:=
  ∃c:UInt8,s0[0]?=some c∧T45_3 prog K s0 (c.toNat:Int)
def T45_1 (prog:Prog)(K:Int→BS→Bool→Prop)(s0:BS):Prop:=
  (s0=([]:BS)→K 0 ([]:BS) false)∧(¬(s0=([]:BS))→T45_2 prog K s0)
def T45_0 (prog:Prog)(K:Int→BS→Bool→Prop)(s0:BS):Prop:=
  T45_1 prog K s0
section
variable {prog:Prog}{d:Nat}{Q:AE→Sl→St→Prop}{K:Int→BS→Bool→Prop}(hQ:H45 Q K){σ:Sl}{st:St}
include hQ
variable {s0:BS}{t11:Int}{t12:Bool}
variable (H0:σ 0=.s s0)(H11:σ 11=.i .u8 t11)(H12:σ 12=.b t12)
include H0 H11 H12 in
theorem w45_4 (h:T45_4 prog K s0 t11 t12):W prog d c45_0 σ st (blockW 0 (thenW prog d (sR 15 r45_15 .ret) Q)):=
 au trivial
include H0 H11 in
theorem w45_3 (h:T45_3 prog K s0 t11):W prog d c45_1 σ st (thenW prog d (sR 15 r45_15 .ret) Q):=
 au @w45_4
include H0 in
theorem w45_2 (h:T45_2 prog K s0):W prog d c45_2 σ st Q:=
 au @w45_3
include H0 in
theorem w45_1 (h:T45_1 prog K s0):W prog d c45_3 σ st Q:=
 au @w45_2
include H0 in
theorem w45_0 (h:T45_0 prog K s0):W prog d (sR 0 r45_0 c45_3) σ st Q:=
 au @w45_1
end
theorem p45 {prog:Prog}(hf:prog.fn 45=some pf45){s0:BS}{K:Int→BS→Bool→Prop}(h:T45_0 prog K s0) :∃x0:Int,∃x1:BS,∃x2:Bool,K x0 x1 x2∧Pus prog 45 [.s s0] (.tup [.i .u8 x0,.s x1,.b x2]):=by
  obtain ⟨v,hv,x0,x1,x2,hk,rfl⟩:=Pus.of (K:=fun v=>∃x0:Int,∃x1:BS,∃x2:Bool,K x0 x1 x2∧v=.tup [.i .u8 x0,.s x1,.b x2]) hf rfl (w45_0 (σ:=sl0 [.s s0]) (fun σ st   x0 x1 x2 H2 H3 H4 hk=>⟨.tup [.i .u8 x0,.s x1,.b x2],by simp only [pf45,ares,aresL,H2,H3,H4,ares1,Option.map_some],_,rfl,x0,x1,x2,hk,rfl⟩) rfl h)
  exact ⟨x0,x1,x2,hk,hv⟩
end Go.AM

namespace Go.AM
open Go
set_option linter.unusedVariables false
set_option linter.unusedSimpArgs false
set_option maxRecDepth 4000
set_option maxHeartbeats 2000000
attribute [local irreducible] Decidable.decide W WO fillCells fillRows
def r16_0:List AI:=[oC 2 (.s [])]
def r16_1:List AI:=[oM 3 0,oV 4 .geq 3 0]
def r16_2:List AI:=[oM 5 0,oO 6 (.cvi .u64 (.t 5)),oO 7 (.call false 35 [(.t 6),(.c (.i .u64 10))]),oM 2 7]
def r16_3:List AI:=[oM 8 0,oV 9 .add 8 1,oO 10 (.un .neg (.t 9)),oO 11 (.cvi .u64 (.t 10)),oB 12 .add (.t 11) (.c (.i .u64 1)),oO 13 (.call false 35 [(.t 12),(.c (.i .u64 10))]),oB 14 .add (.c (.s [45])) (.t 13),oM 2 14]
abbrev b16:AC:=(sR 0 r16_0 (.seq (sR 1 r16_1 (.cond (.t 4) (sR 2 r16_2 .ret) .skip)) (sR 3 r16_3 .ret)))
def pf16:AF:={ nt:=15,res:=[.tmp 2],body:=b16 }
def T16_0 (prog:Prog)(K:BS→Prop)(n0:Int):Prop:=
  (n0≥0→∃e,Pus prog 35 [.i .u64 (IntKind.u64.wrap n0),.i .u64 10] (.s e)∧K e)∧(¬(n0≥0)→∃c:BS,Pus prog 35 [.i .u64 (IntKind.u64.wrap ((IntKind.u64.wrap (IntKind.i64.wrap (0-(IntKind.i64.wrap (n0+1)))))+1)),.i .u64 10] (.s c)∧([45]:BS).length+c.length≤maxStr∧K (([45]:BS)++c))
section
variable {prog:Prog}{d:Nat}{Q:AE→Sl→St→Prop}{K:BS→Prop}(hQ:H1 AV.s 2 Q K){σ:Sl}{st:St}
include hQ
variable {n0:Int}
variable (H0:σ 0=.i .i64 n0)
include H0 in
theorem w16_0 (h:T16_0 prog K n0):W prog d (sR 0 r16_0 (.seq (sR 1 r16_1 (.cond (.t 4) (sR 2 r16_2 .ret) .skip)) (sR 3 r16_3 .ret))) σ st Q:=
 au trivial
end
theorem p16 {prog:Prog}(hf:prog.fn 16=some pf16){n0:Int}{K:BS→Prop}(h:T16_0 prog K n0) :∃x0:BS,K x0∧Pus prog 16 [.i .i64 n0] (.s x0):=
 P1 hf J (w16_0 (h1 J fun _=>J) J h)
def r22_0:List AI:=[oI 2 0,oI 3 0]
def r22_1:List AI:=[oM 8 0,oH 9 8,oV 10 .gtr 9 2000]
def r22_2:List AI:=[oI 2 0,oI 3 4]
def r22_3:List AI:=[oM 11 0,oH 12 11,oV 13 .gtr 12 0,oM 14 13,gT 14 (oM 15 0),gT 14 (oO 16 (.ixS (.t 15) (.c (.i .i64 0)))),gT 14 (oW 17 .eql 16 45),oA 18 14 17]
def r22_4:List AI:=[oM 19 0,oB 20 .eql (.t 19) (.c (.s [45,48]))]
def r22_5:List AI:=[oI 2 0,oI 3 12]
def r22_6:List AI:=[oM 22 0,oO 23 (.slS (.t 22) (some (.c (.i .i64 1))) none),oO 24 (.call false 38 [(.t 23),(.c (.i .u64 10)),(.c (.i .u64 9223372036854775808))]),oM 21 24,oE 25 0 21,oE 26 1 21,oM 4 25,oM 5 26]
def r22_7:List AI:=[oM 27 5,oV 28 .neq 27 0]
def r22_8:List AI:=[oM 29 5,oI 2 0,oM 3 29]
def r22_9:List AI:=[oM 30 4,oB 31 .sub (.t 30) (.c (.i .u64 1)),oO 32 (.cvi .i64 (.t 31)),oO 33 (.un .neg (.t 32)),oV 34 .sub 33 1,oM 2 34,oI 3 0]
def r22_10:List AI:=[oM 36 0,oO 37 (.call false 38 [(.t 36),(.c (.i .u64 10)),(.c (.i .u64 9223372036854775807))]),oM 35 37,oE 38 0 35,oE 39 1 35,oM 6 38,oM 7 39]
def r22_11:List AI:=[oM 40 7,oV 41 .neq 40 0]
def r22_12:List AI:=[oM 42 7,oI 2 0,oM 3 42]
def r22_13:List AI:=[oM 43 6,oO 44 (.cvi .i64 (.t 43)),oM 2 44,oI 3 0]
abbrev b22:AC:=(sR 0 r22_0 (.seq (sR 1 r22_1 (.cond (.t 10) (sR 2 r22_2 .ret) .skip)) (.seq (sR 3 r22_3 (.cond (.t 18) (.seq (sR 4 r22_4 (.cond (.t 20) (sR 5 r22_5 .ret) .skip)) (sR 6 r22_6 (.seq (sR 7 r22_7 (.cond (.t 28) (sR 8 r22_8 .ret) .skip)) (sR 9 r22_9 .ret)))) .skip)) (sR 10 r22_10 (.seq (sR 11 r22_11 (.cond (.t 41) (sR 12 r22_12 .ret) .skip)) (sR 13 r22_13 .ret))))))
def pf22:AF:={ nt:=45,res:=[.tmp 2,.tmp 3],body:=b22 }
def T22_0 (prog:Prog)(K:Int→Int→Prop)(s0:BS):Prop:=
  ((s0.length:Int)>2000→K 0 4)∧(¬((s0.length:Int)>2000)→((s0.length:Int)>0→∃k:UInt8,s0[0]?=some k∧((k.toNat:Int)=45→(s0=([45,48]:BS)→K 0 12)∧(¬(s0=([45,48]:BS))→1≤s0.length∧∃q e,Pus prog 38 [.s (s0.drop 1),.i .u64 10,.i .u64 9223372036854775808] (.tup [.i .u64 q,.i .i64 e])∧(e≠0→K 0 e)∧(¬(e≠0)→K (IntKind.i64.wrap ((IntKind.i64.wrap (0-(IntKind.i64.wrap (IntKind.u64.wrap (q-1)))))-1)) 0)))∧(¬((k.toNat:Int)=45)→∃o j,Pus prog 38 [.s s0,.i .u64 10,.i .u64 9223372036854775807] (.tup [.i .u64 o,.i .i64 j])∧(j≠0→K 0 j)∧(¬(j≠0)→K (IntKind.i64.wrap o) 0)))∧(¬((s0.length:Int)>0)→∃p c,Pus prog 38 [.s s0,.i .u64 10,.i .u64 9223372036854775807] (.tup [.i .u64 p,.i .i64 c])∧(c≠0→K 0 c)∧(¬(c≠0)→K (IntKind.i64.wrap p) 0)))
section
variable {prog:Prog}{d:Nat}{Q:AE→Sl→St→Prop}{K:Int→Int→Prop}(hQ:H2 (AV.i .i64) (AV.i .i64) 2 3 Q K){σ:Sl}{st:St}
include hQ
variable {s0:BS}
variable (H0:σ 0=.s s0)
include H0 in
theorem w22_0 (h:T22_0 prog K s0):W prog d (sR 0 r22_0 (.seq (sR 1 r22_1 (.cond (.t 10) (sR 2 r22_2 .ret) .skip)) (.seq (sR 3 r22_3 (.cond (.t 18) (.seq (sR 4 r22_4 (.cond (.t 20) (sR 5 r22_5 .ret) .skip)) (sR 6 r22_6 (.seq (sR 7 r22_7 (.cond (.t 28) (sR 8 r22_8 .ret) .skip)) (sR 9 r22_9 .ret)))) .skip)) (sR 10 r22_10 (.seq (sR 11 r22_11 (.cond (.t 41) (sR 12 r22_12 .ret) .skip)) (sR 13 r22_13 .ret)))))) σ st Q:=
 au trivial
end
theorem p22 {prog:Prog}(hf:prog.fn 22=some pf22){s0:BS}{K:Int→Int→Prop}(h:T22_0 prog K s0) :∃x0:Int,∃x1:Int,K x0 x1∧Pus prog 22 [.s s0] (.tup [.i .i64 x0,.i .i64 x1]):=
 P2 hf J (w22_0 (h2 J fun _ _=>J) J h)
def r26_0:List AI:=[oC 2 (.s []),oI 3 0]
def r26_1:List AI:=[oM 7 0,oH 8 7,oV 9 .gtr 8 2000]
def r26_2:List AI:=[oC 2 (.s []),oI 3 4]
def r26_3:List AI:=[oM 11 0,oQ 12 40 [11],oM 10 12,oE 13 0 10,oE 14 1 10,oE 15 2 10,oM 4 13,oM 5 14,oM 6 15]
def r26_4:List AI:=[oM 16 6,oZ 17 16,oM 18 17,gF 18 (oM 19 5),gF 18 (oB 20 .neq (.t 19) (.c (.s []))),oR 21 18 20]
def r26_5:List AI:=[oC 2 (.s []),oI 3 12]
def r26_6:List AI:=[oM 22 4,oH 23 22,oV 24 .gtr 23 400]
def r26_7:List AI:=[oC 2 (.s []),oI 3 4]
def r26_8:List AI:=[oM 25 4,oM 2 25,oI 3 0]
abbrev b26:AC:=(sR 0 r26_0 (.seq (sR 1 r26_1 (.cond (.t 9) (sR 2 r26_2 .ret) .skip)) (sR 3 r26_3 (.seq (sR 4 r26_4 (.cond (.t 21) (sR 5 r26_5 .ret) .skip)) (.seq (sR 6 r26_6 (.cond (.t 24) (sR 7 r26_7 .ret) .skip)) (sR 8 r26_8 .ret))))))
def pf26:AF:={ nt:=26,res:=[.tmp 2,.tmp 3],body:=b26 }
def T26_0 (prog:Prog)(K:BS→Int→Prop)(s0:BS):Prop:=
  ((s0.length:Int)>2000→K ([]:BS) 4)∧(¬((s0.length:Int)>2000)→∃c:BS,∃e i,Pus prog 40 [.s s0] (.tup [.s c,.s e,.b i])∧((!i)=true→K ([]:BS) 12)∧((!i)=false→(e≠([]:BS)→K ([]:BS) 12)∧(¬(e≠([]:BS))→((c.length:Int)>400→K ([]:BS) 4)∧(¬((c.length:Int)>400)→K c 0))))
section
variable {prog:Prog}{d:Nat}{Q:AE→Sl→St→Prop}{K:BS→Int→Prop}(hQ:H2 AV.s (AV.i .i64) 2 3 Q K){σ:Sl}{st:St}
include hQ
variable {s0:BS}
variable (H0:σ 0=.s s0)
include H0 in
theorem w26_0 (h:T26_0 prog K s0):W prog d (sR 0 r26_0 (.seq (sR 1 r26_1 (.cond (.t 9) (sR 2 r26_2 .ret) .skip)) (sR 3 r26_3 (.seq (sR 4 r26_4 (.cond (.t 21) (sR 5 r26_5 .ret) .skip)) (.seq (sR 6 r26_6 (.cond (.t 24) (sR 7 r26_7 .ret) .skip)) (sR 8 r26_8 .ret)))))) σ st Q:=
 au trivial
end
theorem p26 {prog:Prog}(hf:prog.fn 26=some pf26){s0:BS}{K:BS→Int→Prop}(h:T26_0 prog K s0) :∃x0:BS,∃x1:Int,K x0 x1∧Pus prog 26 [.s s0] (.tup [.s x0,.i .i64 x1]):=
 P2 hf J (w26_0 (h2 J fun _ _=>J) J h)
def r29_0:List AI:=[oC 4 (.b false)]
def r29_1:List AI:=[oM 6 0,oJ 7 6,oM 8 1,oJ 9 8,oT 10 .neq 7 9]
def r29_2:List AI:=[oC 4 (.b false)]
def r29_3:List AI:=[oI 5 0]
def r29_4:List AI:=[oM 11 5,oM 12 0,oJ 13 12,oT 14 .lss 11 13]
def r29_5:List AI:=[oM 17 0,oM 18 5,oX 19 1 17 18,oL 20 19,oM 21 1,oM 22 5,oX 23 1 21 22,oL 24 23,oT 25 .neq 20 24]
def r29_6:List AI:=[oC 4 (.b false)]
def r29_7:List AI:=[oM 15 5,oV 16 .add 15 1,oM 5 16]
def r29_8:List AI:=[oC 4 (.b true)]
abbrev l29_0:AC:=(.seq (sR 4 r29_4 (.cond (.t 14) .skip (.exit 0))) (.seq (.block 1 (sR 6 r29_5 (.cond (.t 25) (sR 7 r29_6 .ret) .skip))) (.reg 5 r29_7)))
abbrev c29_1:AC:=(sR 8 r29_8 .ret)
abbrev b29:AC:=(sR 0 r29_0 (.seq (sR 1 r29_1 (.cond (.t 10) (sR 2 r29_2 .ret) .skip)) (.seq (sR 3 r29_3 (.block 0 (.loop l29_0))) c29_1)))
def pf29:AF:={ nt:=26,res:=[.tmp 4],body:=b29 }
abbrev I29_0 (prog:Prog)(d:Nat)(Q:AE→Sl→St→Prop)(a0:LB)(b1:LB)(i5:Int):Prop:=
  ∀(σ:Sl)(st:St) (o_a0 o_b1:Own),σ 0=.sl o_a0 (List.map rowS a0)→σ 1=.sl o_b1 (List.map rowS b1)→σ 5=.i .i64 i5→W prog d (.loop l29_0) σ st (blockW 0 (thenW prog d c29_1 Q))
def T29_2 (prog:Prog)(K:Bool→Prop) :Prop:=
  K true
def T29_1 (prog:Prog)(K:Bool→Prop)(P0:Int→Prop)(a0:LB)(b1:LB)(i5:Int):Prop:=
  (i5<(a0.length:Int)→0≤i5∧∃c,a0[(i5).toNat]?=some c∧0≤i5∧∃e,b1[(i5).toNat]?=some e∧(c≠e→K false)∧(¬(c≠e)→P0 (IntKind.i64.wrap (i5+1))))∧(¬(i5<(a0.length:Int))→T29_2 prog K )
def T29_0 (prog:Prog)(K:Bool→Prop)(a0:LB)(b1:LB):Prop:=
  ((a0.length:Int)≠(b1.length:Int)→K false)∧(¬((a0.length:Int)≠(b1.length:Int))→∀P0:Int→Prop,(∀(i5:Int),T29_1 prog K P0 a0 b1 i5→P0 i5)→P0 0)
section
variable {prog:Prog}{d:Nat}{Q:AE→Sl→St→Prop}{K:Bool→Prop}(hQ:H1 AV.b 4 Q K){σ:Sl}{st:St}
include hQ
variable {a0 b1:LB}{i5:Int}{P0:Int→Prop}{o_a0 o_b1:Own}
variable (kP0 :∀(i5:Int),P0 i5→I29_0 prog d Q a0 b1 i5)(H0:σ 0=.sl o_a0 (List.map rowS a0))(H1:σ 1=.sl o_b1 (List.map rowS b1))(H5:σ 5=.i .i64 i5)
theorem w29_2 (h:T29_2 prog K ):W prog d c29_1 σ st Q:=
 au trivial
include kP0 H0 H1 H5 in
theorem w29_1 (h:T29_1 prog K P0 a0 b1 i5):W prog d l29_0 σ st (thenW prog d (.loop l29_0) (blockW 0 (thenW prog d c29_1 Q))):=
 au @w29_2
include H0 H1 in
theorem w29_0 (h:T29_0 prog K a0 b1):W prog d (sR 0 r29_0 (.seq (sR 1 r29_1 (.cond (.t 10) (sR 2 r29_2 .ret) .skip)) (.seq (sR 3 r29_3 (.block 0 (.loop l29_0))) c29_1))) σ st Q:=
 q_ J (m_ (e_ (sq_ (q_ J (s_mvL H0 (ll_ J (s_mvL H1 (ll_ J (b_ J J neq_ (e_ (cs_ J (fun c=>q_ J (m_ (er_ (hQ J (h.1 c))))) (fun c=>sk_ (sq_ (q_ J (m_ (e_ (bk_ ((h.2 c) (I29_0 prog d Q a0 b1) (fun _ hb _ _ _ _ H0 H1 H5=>W.loop (w29_1 hQ (fun _ x=>x) H0 H1 H5 hb)) _ _ _ _ H0 H1 J))))))))))))))))))
end
theorem p29 {prog:Prog}(hf:prog.fn 29=some pf29){a0:LB}{b1:LB}{K:Bool→Prop}(h:T29_0 prog K a0 b1) :∃x0:Bool,K x0∧Pus prog 29 [.sl .ext (List.map rowS a0),.sl .ext (List.map rowS b1)] (.b x0):=
 P1 hf J (w29_0 (h1 J fun _=>J) J J h)
def r31_0:List AI:=[oC 2 (.s [])]
def r31_1:List AI:=[oC 3 (.s [34])]
def r31_2:List AI:=[oI 4 0]
def r31_3:List AI:=[oM 5 4,oM 6 0,oH 7 6,oT 8 .lss 5 7]
def r31_4:List AI:=[oM 11 3,oM 12 0,oM 13 4,oO 14 (.ixS (.t 12) (.t 13)),oQ 15 41 [14],oT 16 .add 11 15,oM 3 16]
def r31_5:List AI:=[oM 9 4,oV 10 .add 9 1,oM 4 10]
def r31_6:List AI:=[oM 17 3,oB 18 .add (.t 17) (.c (.s [34])),oM 2 18]
abbrev l31_0:AC:=(.seq (sR 3 r31_3 (.cond (.t 8) .skip (.exit 0))) (.seq (.block 1 (.reg 5 r31_4)) (.reg 4 r31_5)))
abbrev c31_1:AC:=(sR 6 r31_6 .ret)
abbrev b31:AC:=(sR 0 r31_0 (sR 1 r31_1 (.seq (sR 2 r31_2 (.block 0 (.loop l31_0))) c31_1)))
def pf31:AF:={ nt:=19,res:=[.tmp 2],body:=b31 }
abbrev I31_0 (prog:Prog)(d:Nat)(Q:AE→Sl→St→Prop)(s0:BS)(out3:BS)(i4:Int):Prop:=
  ∀(σ:Sl)(st:St),σ 0=.s s0→σ 3=.s out3→σ 4=.i .i64 i4→W prog d (.loop l31_0) σ st (blockW 0 (thenW prog d c31_1 Q))
def T31_2 (prog:Prog)(K:BS→Prop)(out3:BS):Prop:=
  out3.length+([34]:BS).length≤maxStr∧K (out3++([34]:BS))
def T31_1 (prog:Prog)(K:BS→Prop)(P0:BS→Int→Prop)(s0:BS)(out3:BS)(i4:Int):Prop:=
  (i4<(s0.length:Int)→0≤i4∧∃e:UInt8,s0[(i4).toNat]?=some e∧∃c:BS,Pus prog 41 [.i .u8 (e.toNat:Int)] (.s c)∧out3.length+c.length≤maxStr∧P0 (out3++c) (IntKind.i64.wrap (i4+1)))∧(¬(i4<(s0.length:Int))→T31_2 prog K out3)
def T31_0 (prog:Prog)(K:BS→Prop)(s0:BS):Prop:=
  ∀P0:BS→Int→Prop,(∀(out3:BS)(i4:Int),T31_1 prog K P0 s0 out3 i4→P0 out3 i4)→P0 ([34]:BS) 0
section
variable {prog:Prog}{d:Nat}{Q:AE→Sl→St→Prop}{K:BS→Prop}(hQ:H1 AV.s 2 Q K){σ:Sl}{st:St}
include hQ
variable {out3 s0:BS}{i4:Int}{P0:BS→Int→Prop}
variable (kP0 :∀(out3:BS)(i4:Int),P0 out3 i4→I31_0 prog d Q s0 out3 i4)(H0:σ 0=.s s0)(H3:σ 3=.s out3)(H4:σ 4=.i .i64 i4)
include H3 in
theorem w31_2 (h:T31_2 prog K out3):W prog d c31_1 σ st Q:=
 au trivial
include kP0 H0 H3 H4 in
theorem w31_1 (h:T31_1 prog K P0 s0 out3 i4):W prog d l31_0 σ st (thenW prog d (.loop l31_0) (blockW 0 (thenW prog d c31_1 Q))):=
 au @w31_2
include H0 in
theorem w31_0 (h:T31_0 prog K s0):W prog d (sR 0 r31_0 (sR 1 r31_1 (.seq (sR 2 r31_2 (.block 0 (.loop l31_0))) c31_1))) σ st Q:=
 q_ J (m_ (e_ (q_ J (m_ (e_ (sq_ (q_ J (m_ (e_ (bk_ (h (I31_0 prog d Q s0) (fun _ _ hb _ _ H0 H3 H4=>W.loop (w31_1 hQ (fun _ _ x=>x) H0 H3 H4 hb)) _ _ H0 J J)))))))))))
end
theorem p31 {prog:Prog}(hf:prog.fn 31=some pf31){s0:BS}{K:BS→Prop}(h:T31_0 prog K s0) :∃x0:BS,K x0∧Pus prog 31 [.s s0] (.s x0):=
 P1 hf J (w31_0 (h1 J fun _=>J) J h)
def r35_0:List AI:=[oC 4 (.s [])]
def r35_1:List AI:=[oC 5 (.s [])]
def r35_2:List AI:=[oM 6 0,oM 7 1,oT 8 .geq 6 7]
def r35_3:List AI:=[oM 9 0,oM 10 1,oT 11 .rem 9 10,oM 12 0,oM 13 1,oT 14 .rem 12 13,oB 15 .add (.t 14) (.c (.i .u64 1)),oO 16 (.slS (.c (.s [48,49,50,51,52,53,54,55,56,57,97,98,99,100,101,102])) (some (.t 11)) (some (.t 15))),oM 17 5,oT 18 .add 16 17,oM 5 18]
def r35_4:List AI:=[oM 19 0,oM 20 1,oT 21 .quo 19 20,oM 0 21]
def r35_5:List AI:=[oM 22 0,oM 23 0,oB 24 .add (.t 23) (.c (.i .u64 1)),oO 25 (.slS (.c (.s [48,49,50,51,52,53,54,55,56,57,97,98,99,100,101,102])) (some (.t 22)) (some (.t 24))),oM 26 5,oT 27 .add 25 26,oM 4 27]
abbrev l35_0:AC:=(.seq (sR 2 r35_2 (.cond (.t 8) .skip (.exit 0))) (.block 1 (sR 3 r35_3 (.reg 4 r35_4))))
abbrev c35_1:AC:=(sR 5 r35_5 .ret)
abbrev b35:AC:=(sR 0 r35_0 (sR 1 r35_1 (.seq (.block 0 (.loop l35_0)) c35_1)))
def pf35:AF:={ nt:=28,res:=[.tmp 4],body:=b35 }
abbrev I35_0 (prog:Prog)(d:Nat)(Q:AE→Sl→St→Prop)(base1:Int)(n0:Int)(s5:BS):Prop:=
  ∀(σ:Sl)(st:St),σ 0=.i .u64 n0→σ 1=.i .u64 base1→σ 5=.s s5→W prog d (.loop l35_0) σ st (blockW 0 (thenW prog d c35_1 Q))
def T35_2 (prog:Prog)(K:BS→Prop)(n0:Int)(s5:BS):Prop:=
  0≤n0∧n0≤(IntKind.u64.wrap (n0+1))∧(IntKind.u64.wrap (n0+1)).toNat≤([48,49,50,51,52,53,54,55,56,57,97,98,99,100,101,102]:BS).length∧((([48,49,50,51,52,53,54,55,56,57,97,98,99,100,101,102]:BS).drop (n0).toNat).take ((IntKind.u64.wrap (n0+1)).toNat-(n0).toNat)).length+s5.length≤maxStr∧K (((([48,49,50,51,52,53,54,55,56,57,97,98,99,100,101,102]:BS).drop (n0).toNat).take ((IntKind.u64.wrap (n0+1)).toNat-(n0).toNat))++s5)
def T35_1 (prog:Prog)(K:BS→Prop)(P0:Int→BS→Prop)(n0:Int)(base1:Int)(s5:BS):Prop:=
  (n0≥base1→base1≠0∧base1≠0∧0≤((n0:Int).tmod base1)∧((n0:Int).tmod base1)≤(IntKind.u64.wrap (((n0:Int).tmod base1)+1))∧(IntKind.u64.wrap (((n0:Int).tmod base1)+1)).toNat≤([48,49,50,51,52,53,54,55,56,57,97,98,99,100,101,102]:BS).length∧((([48,49,50,51,52,53,54,55,56,57,97,98,99,100,101,102]:BS).drop ((n0:Int).tmod base1).toNat).take ((IntKind.u64.wrap (((n0:Int).tmod base1)+1)).toNat-((n0:Int).tmod base1).toNat)).length+s5.length≤maxStr∧base1≠0∧P0 (IntKind.u64.wrap ((n0:Int).tdiv base1)) (((([48,49,50,51,52,53,54,55,56,57,97,98,99,100,101,102]:BS).drop ((n0:Int).tmod base1).toNat).take ((IntKind.u64.wrap (((n0:Int).tmod base1)+1)).toNat-((n0:Int).tmod base1).toNat))++s5))∧(¬(n0≥base1)→T35_2 prog K n0 s5)
def T35_0 (prog:Prog)(K:BS→Prop)(n0:Int)(base1:Int):Prop:=
  ∀P0:Int→BS→Prop,(∀(n0:Int)(s5:BS),T35_1 prog K P0 n0 base1 s5→P0 n0 s5)→P0 n0 ([]:BS)
section
variable {prog:Prog}{d:Nat}{Q:AE→Sl→St→Prop}{K:BS→Prop}(hQ:H1 AV.s 4 Q K){σ:Sl}{st:St}
include hQ
variable {n0:Int}{s5:BS}{base1:Int}{P0:Int→BS→Prop}
variable (kP0 :∀(n0:Int)(s5:BS),P0 n0 s5→I35_0 prog d Q base1 n0 s5)(H0:σ 0=.i .u64 n0)(H1:σ 1=.i .u64 base1)(H5:σ 5=.s s5)
include H0 H5 in
theorem w35_2 (h:T35_2 prog K n0 s5):W prog d c35_1 σ st Q:=
 au trivial
include kP0 H0 H1 H5 in
theorem w35_1 (h:T35_1 prog K P0 n0 base1 s5):W prog d l35_0 σ st (thenW prog d (.loop l35_0) (blockW 0 (thenW prog d c35_1 Q))):=
 au @w35_2
include H0 H1 in
theorem w35_0 (h:T35_0 prog K n0 base1):W prog d (sR 0 r35_0 (sR 1 r35_1 (.seq (.block 0 (.loop l35_0)) c35_1))) σ st Q:=
 q_ J (m_ (e_ (q_ J (m_ (e_ (sq_ (bk_ (h (I35_0 prog d Q base1) (fun _ _ hb _ _ H0 H1 H5=>W.loop (w35_1 hQ (fun _ _ x=>x) H0 H1 H5 hb)) _ _ H0 H1 J))))))))
end
theorem p35 {prog:Prog}(hf:prog.fn 35=some pf35){n0:Int}{base1:Int}{K:BS→Prop}(h:T35_0 prog K n0 base1) :∃x0:BS,K x0∧Pus prog 35 [.i .u64 n0,.i .u64 base1] (.s x0):=
 P1 hf J (w35_0 (h1 J fun _=>J) J J h)
def r38_0:List AI:=[oC 6 (.i .u64 0),oI 7 0]
def r38_1:List AI:=[oM 12 0,oH 13 12,oV 14 .eql 13 0,oM 15 14,gF 15 (oM 16 0),gF 15 (oO 17 (.ixS (.t 16) (.c (.i .i64 0)))),gF 15 (oW 18 .eql 17 48),gF 15 (oM 19 18),gT 19 (oM 20 0),gT 19 (oH 21 20),gT 19 (oV 22 .gtr 21 1),gF 15 (oA 23 19 22),oR 24 15 23]
def r38_2:List AI:=[oC 6 (.i .u64 0),oI 7 12]
def r38_3:List AI:=[oI 8 0]
def r38_4:List AI:=[oM 25 8,oM 26 0,oH 27 26,oT 28 .lss 25 27]
def r38_5:List AI:=[oM 31 0,oM 32 8,oO 33 (.ixS (.t 31) (.t 32)),oM 34 1,oO 35 (.cvi .i64 (.t 34)),oQ 36 44 [33,35],oV 37 .lss 36 0]
def r38_6:List AI:=[oC 6 (.i .u64 0),oI 7 12]
def r38_7:List AI:=[oM 29 8,oV 30 .add 29 1,oM 8 30]
def r38_8:List AI:=[oC 9 (.i .u64 0)]
def r38_9:List AI:=[oI 10 0]
def r38_10:List AI:=[oM 38 10,oM 39 0,oH 40 39,oT 41 .lss 38 40]
def r38_11:List AI:=[oM 44 0,oM 45 10,oO 46 (.ixS (.t 44) (.t 45)),oM 47 1,oO 48 (.cvi .i64 (.t 47)),oQ 49 44 [46,48],oO 50 (.cvi .u64 (.t 49)),oM 11 50]
def r38_12:List AI:=[oM 51 9,oM 52 2,oM 53 11,oT 54 .sub 52 53,oM 55 1,oT 56 .quo 54 55,oT 57 .gtr 51 56]
def r38_13:List AI:=[oC 6 (.i .u64 0),oI 7 16]
def r38_14:List AI:=[oM 58 9,oM 59 1,oT 60 .mul 58 59,oM 61 11,oT 62 .add 60 61,oM 9 62]
def r38_15:List AI:=[oM 42 10,oV 43 .add 42 1,oM 10 43]
def r38_16:List AI:=[oM 63 9,oM 6 63,oI 7 0]
abbrev l38_0:AC:=(.seq (sR 4 r38_4 (.cond (.t 28) .skip (.exit 0))) (.seq (.block 1 (sR 6 r38_5 (.cond (.t 37) (sR 7 r38_6 .ret) .skip))) (.reg 5 r38_7)))
abbrev l38_1:AC:=(.seq (sR 10 r38_10 (.cond (.t 41) .skip (.exit 2))) (.seq (.block 3 (sR 12 r38_11 (.seq (sR 13 r38_12 (.cond (.t 57) (sR 14 r38_13 .ret) .skip)) (.reg 15 r38_14)))) (.reg 11 r38_15)))
abbrev c38_2:AC:=(sR 16 r38_16 .ret)
abbrev c38_3:AC:=(sR 8 r38_8 (.seq (sR 9 r38_9 (.block 2 (.loop l38_1))) c38_2))
abbrev c38_4:AC:=(.seq (sR 1 r38_1 (.cond (.t 24) (sR 2 r38_2 .ret) .skip)) (.seq (sR 3 r38_3 (.block 0 (.loop l38_0))) c38_3))
abbrev b38:AC:=(sR 0 r38_0 c38_4)
def pf38:AF:={ nt:=64,res:=[.tmp 6,.tmp 7],body:=b38 }
abbrev I38_0 (prog:Prog)(d:Nat)(Q:AE→Sl→St→Prop)(s0:BS)(base1:Int)(most2:Int)(i8:Int):Prop:=
  ∀(σ:Sl)(st:St),σ 0=.s s0→σ 1=.i .u64 base1→σ 2=.i .u64 most2→σ 8=.i .i64 i8→W prog d (.loop l38_0) σ st (blockW 0 (thenW prog d c38_3 Q))
abbrev I38_1 (prog:Prog)(d:Nat)(Q:AE→Sl→St→Prop)(s0:BS)(base1:Int)(most2:Int)(n9:Int)(i10:Int):Prop:=
  ∀(σ:Sl)(st:St),σ 0=.s s0→σ 1=.i .u64 base1→σ 2=.i .u64 most2→σ 9=.i .u64 n9→σ 10=.i .i64 i10→W prog d (.loop l38_1) σ st (blockW 2 (thenW prog d c38_2 Q))
def T38_5 (prog:Prog)(K:Int→Int→Prop)(n9:Int):Prop:=
  K n9 0
def T38_4 (prog:Prog)(K:Int→Int→Prop)(P1:Int→Int→Prop)(s0:BS)(base1:Int)(most2:Int)(n9:Int)(i10:Int):Prop:=
  (i10<(s0.length:Int)→0≤i10∧∃e:UInt8,s0[(i10).toNat]?=some e∧∃c,Pus prog 44 [.i .u8 (e.toNat:Int),.i .i64 (IntKind.i64.wrap base1)] (.i .i64 c)∧base1≠0∧(n9>(IntKind.u64.wrap (((IntKind.u64.wrap (most2-(IntKind.u64.wrap c))):Int).tdiv base1))→K 0 16)∧(¬(n9>(IntKind.u64.wrap (((IntKind.u64.wrap (most2-(IntKind.u64.wrap c))):Int).tdiv base1)))→P1 (IntKind.u64.wrap ((IntKind.u64.wrap (n9*base1))+(IntKind.u64.wrap c))) (IntKind.i64.wrap (i10+1))))∧(¬(i10<(s0.length:Int))→T38_5 prog K n9)
def T38_3 (prog:Prog)(K:Int→Int→Prop)(s0:BS)(base1:Int)(most2:Int):Prop:=
  ∀P1:Int→Int→Prop,(∀(n9:Int)(i10:Int),T38_4 prog K P1 s0 base1 most2 n9 i10→P1 n9 i10)→P1 0 0
def T38_2 (prog:Prog)(K:Int→Int→Prop)(P0:Int→Prop)(s0:BS)(base1:Int)(most2:Int)(i8:Int):Prop:=
  (i8<(s0.length:Int)→0≤i8∧∃e:UInt8,s0[(i8).toNat]?=some e∧∃c,Pus prog 44 [.i .u8 (e.toNat:Int),.i .i64 (IntKind.i64.wrap base1)] (.i .i64 c)∧(c<0→K 0 12)∧(¬(c<0)→P0 (IntKind.i64.wrap (i8+1))))∧(¬(i8<(s0.length:Int))→T38_3 prog K s0 base1 most2)
def T38_1 (prog:Prog)(K:Int→Int→Prop)(s0:BS)(base1:Int)(most2:Int):Prop:=
  ((s0.length:Int)=0→K 0 12)∧(¬((s0.length:Int)=0)→∃c:UInt8,s0[0]?=some c∧((c.toNat:Int)=48→((s0.length:Int)>1→K 0 12)∧(¬((s0.length:Int)>1)→∀P0:Int→Prop,(∀(i8:Int),T38_2 prog K P0 s0 base1 most2 i8→P0 i8)→P0 0))∧(¬((c.toNat:Int)=48)→∀P0:Int→Prop,(∀(i8:Int),T38_2 prog K P0 s0 base1 most2 i8→P0 i8)→P0 0))
def T38_0 (prog:Prog)(K:Int→Int→Prop)(s0:BS)(base1:Int)(most2:Int):Prop:=
  T38_1 prog K s0 base1 most2
section
variable {prog:Prog}{d:Nat}{Q:AE→Sl→St→Prop}{K:Int→Int→Prop}(hQ:H2 (AV.i .u64) (AV.i .i64) 6 7 Q K){σ:Sl}{st:St}
include hQ
variable {n9:Int}{s0:BS}{base1 most2 i10:Int}{P1:Int→Int→Prop}{i8:Int}{P0:Int→Prop}
variable (kP1 :∀(n9:Int)(i10:Int),P1 n9 i10→I38_1 prog d Q s0 base1 most2 n9 i10) (kP0 :∀(i8:Int),P0 i8→I38_0 prog d Q s0 base1 most2 i8)(H0:σ 0=.s s0)(H1:σ 1=.i .u64 base1)(H2:σ 2=.i .u64 most2)(H9:σ 9=.i .u64 n9)(H8:σ 8=.i .i64 i8)(H10:σ 10=.i .i64 i10)
include H9 in
theorem w38_5 (h:T38_5 prog K n9):W prog d c38_2 σ st Q:=
 au trivial
include kP1 H0 H1 H2 H9 H10 in
theorem w38_4 (h:T38_4 prog K P1 s0 base1 most2 n9 i10):W prog d l38_1 σ st (thenW prog d (.loop l38_1) (blockW 2 (thenW prog d c38_2 Q))):=
 au @w38_5
include H0 H1 H2 in
theorem w38_3 (h:T38_3 prog K s0 base1 most2):W prog d c38_3 σ st Q:=
 q_ J (m_ (e_ (sq_ (q_ J (m_ (e_ (bk_ (h (I38_1 prog d Q s0 base1 most2) (fun _ _ hb _ _ H0 H1 H2 H9 H10=>W.loop (w38_4 hQ (fun _ _ x=>x) H0 H1 H2 H9 H10 hb)) _ _ H0 H1 H2 J J))))))))
include kP0 H0 H1 H2 H8 in
theorem w38_2 (h:T38_2 prog K P0 s0 base1 most2 i8):W prog d l38_0 σ st (thenW prog d (.loop l38_0) (blockW 0 (thenW prog d c38_3 Q))):=
 sq_ (q_ J (m_ (m_ (ln_ H0 (b_ H8 J lss_ (e_ (cs_ J (fun c=>sk_ (sq_ (bk_ (q_ J (m_ (m_ ((h.1 c).2.elim fun _ j=>s_ixS H0 H8 (h.1 c).1 j.1 (m_ (s_cvi H1 (j.2.elim fun _ e=>ca_ (sc2 J J J) e.1 (b_ J J lss_ (e_ (cs_ J (fun i=>q_ J (m_ (m_ (er_ (hQ J J (e.2.1 i)))))) (fun i=>sk_ (W.reg0 J fun _ _=>m_ (b_ H8 J add_ (m_ (e_ (kP0 _ (e.2.2 i) _ _ H0 H1 H2 J))))))))))))))))))) (fun c=>ex_ (w38_3 hQ H0 H1 H2 (h.2 c))))))))))
include H0 H1 H2 in
theorem w38_1 (h:T38_1 prog K s0 base1 most2):W prog d c38_4 σ st Q:=
 sq_ (q_ J (s_mvS H0 (ln_ J (b_ J J eql_ (s_mvB J (em_ (g:=15) J (fun i=>z_ 4 J (gt_ J (gt_ J (gt_ J (z_ 2 J (e_ (ct_ J (q_ J (m_ (m_ (er_ (hQ J J (h.1 i))))))))))))) (fun i=>gy_ J (s_mvS H0 (gy_ J ((h.2 i).elim fun _ c=>s_ixS J J (by decide) c.1 (gy_ J (b_ J J eql_ (gy_ J (s_mvB J (em_ (g:=19) J (fun e=>gy_ J (s_mvS H0 (gy_ J (ln_ J (gy_ J (b_ J J gtr_ (gy_ J (z_ 2 J (e_ (cs_ J (fun j=>q_ J (m_ (m_ (er_ (hQ J J ((c.2.1 e).1 j)))))) (fun j=>sk_ (sq_ (q_ J (m_ (e_ (bk_ (((c.2.1 e).2 j) (I38_0 prog d Q s0 base1 most2) (fun _ hb _ _ H0 H1 H2 H8=>W.loop (w38_2 hQ (fun _ x=>x) H0 H1 H2 H8 hb)) _ _ H0 H1 H2 J))))))))))))))))) (fun e=>z_ 3 J (gy_ J (z_ 2 J (e_ (cf_ J (sk_ (sq_ (q_ J (m_ (e_ (bk_ ((c.2.2 e) (I38_0 prog d Q s0 base1 most2) (fun _ hb _ _ H0 H1 H2 H8=>W.loop (w38_2 hQ (fun _ x=>x) H0 H1 H2 H8 hb)) _ _ H0 H1 H2 J)))))))))))))))))))))))))))
include H0 H1 H2 in
theorem w38_0 (h:T38_0 prog K s0 base1 most2):W prog d (sR 0 r38_0 c38_4) σ st Q:=
 au @w38_1
end
theorem p38 {prog:Prog}(hf:prog.fn 38=some pf38){s0:BS}{base1:Int}{most2:Int}{K:Int→Int→Prop}(h:T38_0 prog K s0 base1 most2) :∃x0:Int,∃x1:Int,K x0 x1∧Pus prog 38 [.s s0,.i .u64 base1,.i .u64 most2] (.tup [.i .u64 x0,.i .i64 x1]):=
 P2 hf J (w38_0 (h2 J fun _ _=>J) J J J h)
def r40_0:List AI:=[oC 2 (.s []),oC 3 (.s []),oC 4 (.b false)]
def r40_1:List AI:=[oM 9 0,oH 10 9,oV 11 .eql 10 0,oM 12 11,gF 12 (oM 13 0),gF 12 (oO 14 (.ixS (.t 13) (.c (.i .i64 0)))),gF 12 (oW 15 .neq 14 34),oR 16 12 15]
def r40_2:List AI:=[oC 2 (.s []),oC 3 (.s []),oC 4 (.b false)]
def r40_3:List AI:=[oM 17 0,oO 18 (.slS (.t 17) (some (.c (.i .i64 1))) none),oM 0 18]
def r40_4:List AI:=[oC 5 (.s [])]
def r40_5:List AI:=[oM 19 0,oH 20 19,oV 21 .gtr 20 0,oM 22 21,gT 22 (oM 23 0),gT 22 (oO 24 (.ixS (.t 23) (.c (.i .i64 0)))),gT 22 (oW 25 .neq 24 34),oA 26 22 25]
def r40_6:List AI:=[oC 6 (.b false)]
def r40_7:List AI:=[oI 7 0]
def r40_8:List AI:=[oM 27 7,oV 28 .lss 27 256,oM 29 28,gT 29 (oM 30 6),gT 29 (oZ 31 30),oA 32 29 31]
def r40_9:List AI:=[oM 35 7,oO 36 (.cvi .u8 (.t 35)),oQ 37 41 [36],oM 8 37]
def r40_10:List AI:=[oM 38 0,oH 39 38,oM 40 8,oH 41 40,oT 42 .geq 39 41,oM 43 42,gT 43 (oM 44 0),gT 43 (oM 45 8),gT 43 (oH 46 45),gT 43 (oO 47 (.slS (.t 44) none (some (.t 46)))),gT 43 (oM 48 8),gT 43 (oT 49 .eql 47 48),oA 50 43 49]
def r40_11:List AI:=[oM 51 5,oM 52 7,oO 53 (.cvi .u8 (.t 52)),oO 54 (.bslice [z8] 1 [(0,(.t 53))]),oO 55 (.b2s (.t 54)),oT 56 .add 51 55,oM 5 56]
def r40_12:List AI:=[oM 57 0,oM 58 8,oH 59 58,oO 60 (.slS (.t 57) (some (.t 59)) none),oM 0 60]
def r40_13:List AI:=[oC 6 (.b true)]
def r40_14:List AI:=[oM 33 7,oV 34 .add 33 1,oM 7 34]
def r40_15:List AI:=[oM 61 6,oZ 62 61]
def r40_16:List AI:=[oC 2 (.s []),oC 3 (.s []),oC 4 (.b false)]
def r40_17:List AI:=[oM 63 0,oH 64 63,oV 65 .eql 64 0]
def r40_18:List AI:=[oC 2 (.s []),oC 3 (.s []),oC 4 (.b false)]
def r40_19:List AI:=[oM 66 5,oM 67 0,oO 68 (.slS (.t 67) (some (.c (.i .i64 1))) none),oM 2 66,oM 3 68,oC 4 (.b true)]
abbrev c40_0:AC:=(.reg 9 r40_14)
abbrev l40_1:AC:=(.seq (sR 8 r40_8 (.cond (.t 32) .skip (.exit 2))) (.seq (.block 3 (sR 10 r40_9 (sR 11 r40_10 (.cond (.t 50) (sR 12 r40_11 (sR 13 r40_12 (.reg 14 r40_13))) .skip)))) c40_0))
abbrev c40_2:AC:=(sR 15 r40_15 (.cond (.t 62) (sR 16 r40_16 .ret) .skip))
abbrev l40_0:AC:=(.seq (sR 5 r40_5 (.cond (.t 26) .skip (.exit 0))) (.block 1 (sR 6 r40_6 (.seq (sR 7 r40_7 (.block 2 (.loop l40_1))) c40_2))))
abbrev c40_4:AC:=(.seq (sR 17 r40_17 (.cond (.t 65) (sR 18 r40_18 .ret) .skip)) (sR 19 r40_19 .ret))
abbrev c40_5:AC:=(.seq (.block 0 (.loop l40_0)) c40_4)
abbrev c40_6:AC:=(sR 4 r40_4 c40_5)
abbrev c40_7:AC:=(sR 3 r40_3 c40_6)
abbrev c40_8:AC:=(.seq (sR 1 r40_1 (.cond (.t 16) (sR 2 r40_2 .ret) .skip)) c40_7)
abbrev b40:AC:=(sR 0 r40_0 c40_8)
def pf40:AF:={ nt:=69,res:=[.tmp 2,.tmp 3,.tmp 4],body:=b40 }
abbrev H40 (Q:AE→Sl→St→Prop)(K:BS→BS→Bool→Prop):Prop:=∀(σ:Sl)(st:St)(x0:BS)(x1:BS)(x2:Bool),σ 2=.s x0→σ 3=.s x1→σ 4=.b x2→K x0 x1 x2→Q .ret σ st
abbrev I40_0 (prog:Prog)(d:Nat)(Q:AE→Sl→St→Prop)(s0:BS)(out5:BS):Prop:=
  ∀(σ:Sl)(st:St),σ 0=.s s0→σ 5=.s out5→W prog d (.loop l40_0) σ st (blockW 0 (thenW prog d c40_4 Q))
abbrev I40_1 (prog:Prog)(d:Nat)(Q:AE→Sl→St→Prop)(s0:BS)(out5:BS)(found6:Bool)(c7:Int):Prop:=
  ∀(σ:Sl)(st:St),σ 0=.s s0→σ 5=.s out5→σ 6=.b found6→σ 7=.i .i64 c7→W prog d (.loop l40_1) σ st (blockW 2 (thenW prog d c40_2 (blockW 1 (thenW prog d (.loop l40_0) (blockW 0 (thenW prog d c40_4 Q))))))
def T40_7 (prog:Prog)(K:BS→BS→Bool→Prop)(P1:BS→BS→Bool→Int→Prop)(P0:BS→BS→Prop)(s0:BS)(out5:BS)(found6:Bool)(c7:Int):Prop:=
  P1 s0 out5 found6 (IntKind.i64.wrap (c7+1))
def T40_8 (prog:Prog)(K:BS→BS→Bool→Prop)(P0:BS→BS→Prop)(s0:BS)(out5:BS)(found6:Bool):Prop:=
  ((!found6)=true→K ([]:BS) ([]:BS) false)∧((!found6)=false→P0 s0 out5)
def T40_6 (prog:Prog)(K:BS→BS→Bool→Prop)(P1:BS→BS→Bool→Int→Prop)(P0:BS→BS→Prop)(s0:BS)(out5:BS)(found6:Bool)(c7:Int):Prop:=
  (c7<256→((!found6)=true→∃c:BS,Pus prog 41 [.i .u8 (IntKind.u8.wrap c7)] (.s c)∧((s0.length:Int)≥(c.length:Int)→0≤(c.length:Int)∧(c.length:Int).toNat≤s0.length∧((s0.take (c.length:Int).toNat)=c→∃e:UInt8,(IntKind.u8.wrap c7)=(e.toNat:Int)∧out5.length+[e].length≤maxStr∧0≤(c.length:Int)∧(c.length:Int).toNat≤s0.length∧T40_7 prog K P1 P0 (s0.drop (c.length:Int).toNat) (out5++[e]) true c7)∧(¬((s0.take (c.length:Int).toNat)=c)→T40_7 prog K P1 P0 s0 out5 found6 c7))∧(¬((s0.length:Int)≥(c.length:Int))→T40_7 prog K P1 P0 s0 out5 found6 c7))∧((!found6)=false→T40_8 prog K P0 s0 out5 found6))∧(¬(c7<256)→T40_8 prog K P0 s0 out5 found6)
def T40_9 (prog:Prog)(K:BS→BS→Bool→Prop)(s0:BS)(out5:BS):Prop:=
  ((s0.length:Int)=0→K ([]:BS) ([]:BS) false)∧(¬((s0.length:Int)=0)→1≤s0.length∧K out5 (s0.drop 1) true)
def T40_5 (prog:Prog)(K:BS→BS→Bool→Prop)(P0:BS→BS→Prop)(s0:BS)(out5:BS):Prop:=
  ((s0.length:Int)>0→∃c:UInt8,s0[0]?=some c∧((c.toNat:Int)≠34→∀P1:BS→BS→Bool→Int→Prop,(∀(s0:BS)(out5:BS)(found6:Bool)(c7:Int),T40_6 prog K P1 P0 s0 out5 found6 c7→P1 s0 out5 found6 c7)→P1 s0 out5 false 0)∧(¬((c.toNat:Int)≠34)→T40_9 prog K s0 out5))∧(¬((s0.length:Int)>0)→T40_9 prog K s0 out5)
def T40_4 (prog:Prog)(K:BS→BS→Bool→Prop)(s0:BS)(out5:BS):Prop:=
  ∀P0:BS→BS→Prop,(∀(s0:BS)(out5:BS),T40_5 prog K P0 s0 out5→P0 s0 out5)→P0 s0 out5
def T40_3 (prog:Prog)(K:BS→BS→Bool→Prop)(s0:BS):Prop:=
  T40_4 prog K s0 ([]:BS)
def T40_2 (prog:Prog)(K:BS→BS→Bool→Prop)(s0:BS):Prop:=
  1≤s0.length∧T40_3 prog K (s0.drop 1)
def T40_1 (prog:Prog)(K:BS→BS→Bool→Prop)(s0:BS):Prop:=
  ((s0.length:Int)=0→K ([]:BS) ([]:BS) false)∧(¬((s0.length:Int)=0)→∃c:UInt8,s0[0]?=some c∧((c.toNat:Int)≠34→K ([]:BS) ([]:BS) false)∧(¬((c.toNat:Int)≠34)→T40_2 prog K s0))
def T40_0 (prog:Prog)(K:BS→BS→Bool→Prop)(s0:BS):Prop:=
  T40_1 prog K s0
section
variable {prog:Prog}{d:Nat}{Q:AE→Sl→St→Prop}{K:BS→BS→Bool→Prop}(hQ:H40 Q K){σ:Sl}{st:St}
include hQ
variable {s0 out5:BS}{found6:Bool}{c7:Int}{P1:BS→BS→Bool→Int→Prop}{P0:BS→BS→Prop}
variable (kP1 :∀(s0:BS)(out5:BS)(found6:Bool)(c7:Int),P1 s0 out5 found6 c7→I40_1 prog d Q s0 out5 found6 c7) (kP0 :∀(s0:BS)(out5:BS),P0 s0 out5→I40_0 prog d Q s0 out5)(H0:σ 0=.s s0)(H5:σ 5=.s out5)(H6:σ 6=.b found6)(H7:σ 7=.i .i64 c7)
include kP1 kP0 H0 H5 H6 H7 in
theorem w40_7 (h:T40_7 prog K P1 P0 s0 out5 found6 c7):W prog d c40_0 σ st (thenW prog d (.loop l40_1) (blockW 2 (thenW prog d c40_2 (blockW 1 (thenW prog d (.loop l40_0) (blockW 0 (thenW prog d c40_4 Q))))))):=
 au trivial
include kP0 H0 H5 H6 in
theorem w40_8 (h:T40_8 prog K P0 s0 out5 found6):W prog d c40_2 σ st (blockW 1 (thenW prog d (.loop l40_0) (blockW 0 (thenW prog d c40_4 Q)))):=
 au trivial
include kP1 kP0 H0 H5 H6 H7 in
theorem w40_6 (h:T40_6 prog K P1 P0 s0 out5 found6 c7):W prog d l40_1 σ st (thenW prog d (.loop l40_1) (blockW 2 (thenW prog d c40_2 (blockW 1 (thenW prog d (.loop l40_0) (blockW 0 (thenW prog d c40_4 Q))))))):=
 au (And.intro @w40_7 @w40_8)
include H0 H5 in
theorem w40_9 (h:T40_9 prog K s0 out5):W prog d c40_4 σ st Q:=
 au trivial
include kP0 H0 H5 in
theorem w40_5 (h:T40_5 prog K P0 s0 out5):W prog d l40_0 σ st (thenW prog d (.loop l40_0) (blockW 0 (thenW prog d c40_4 Q))):=
 sq_ (q_ J (s_mvS H0 (ln_ J (b_ J J gtr_ (s_mvB J (em_ (g:=22) J (fun e=>gy_ J (s_mvS H0 (gy_ J ((h.1 e).elim fun _ c=>s_ixS J J (by decide) c.1 (gy_ J (b_ J J neq_ (pt_ J J (e_ (cs_ J (fun i=>sk_ (bk_ (q_ J (m_ (e_ (sq_ (q_ J (m_ (e_ (bk_ ((c.2.1 i) (I40_1 prog d Q ) (fun _ _ _ _ hb _ _ H0 H5 H6 H7=>W.loop (w40_6 hQ (fun _ _ _ _ x=>x) kP0 H0 H5 H6 H7 hb)) _ _ H0 H5 J J))))))))))) (fun i=>ex_ (w40_9 hQ H0 H5 (c.2.2 i)))))))))))) (fun e=>z_ 4 J (e_ (cf_ J (ex_ (w40_9 hQ H0 H5 (h.2 e))))))))))))
include H0 H5 in
theorem w40_4 (h:T40_4 prog K s0 out5):W prog d c40_5 σ st Q:=
 sq_ (bk_ (h (I40_0 prog d Q ) (fun _ _ hb _ _ H0 H5=>W.loop (w40_5 hQ (fun _ _ x=>x) H0 H5 hb)) _ _ H0 H5))
include H0 in
theorem w40_3 (h:T40_3 prog K s0):W prog d c40_6 σ st Q:=
 au @w40_4
include H0 in
theorem w40_2 (h:T40_2 prog K s0):W prog d c40_7 σ st Q:=
 q_ J (m_ (s_slS_lo H0 J (by decide) h.1 (m_ (e_ (w40_3 hQ J h.2)))))
include H0 in
theorem w40_1 (h:T40_1 prog K s0):W prog d c40_8 σ st Q:=
 sq_ (q_ J (s_mvS H0 (ln_ J (b_ J J eql_ (s_mvB J (em_ (g:=12) J (fun e=>z_ 4 J (e_ (ct_ J (q_ J (m_ (m_ (m_ (er_ (hQ _ _ _ _ _ J J J (h.1 e)))))))))) (fun e=>gy_ J (s_mvS H0 (gy_ J ((h.2 e).elim fun _ c=>s_ixS J J (by decide) c.1 (gy_ J (b_ J J neq_ (pf_ J J (e_ (cs_ J (fun i=>q_ J (m_ (m_ (m_ (er_ (hQ _ _ _ _ _ J J J (c.2.1 i))))))) (fun i=>sk_ (w40_2 hQ H0 (c.2.2 i))))))))))))))))))
include H0 in
theorem w40_0 (h:T40_0 prog K s0):W prog d (sR 0 r40_0 c40_8) σ st Q:=
 au @w40_1
end
theorem p40 {prog:Prog}(hf:prog.fn 40=some pf40){s0:BS}{K:BS→BS→Bool→Prop}(h:T40_0 prog K s0) :∃x0:BS,∃x1:BS,∃x2:Bool,K x0 x1 x2∧Pus prog 40 [.s s0] (.tup [.s x0,.s x1,.b x2]):=by
  obtain ⟨v,hv,x0,x1,x2,hk,rfl⟩:=Pus.of (K:=fun v=>∃x0:BS,∃x1:BS,∃x2:Bool,K x0 x1 x2∧v=.tup [.s x0,.s x1,.b x2]) hf rfl (w40_0 (σ:=sl0 [.s s0]) (fun σ st   x0 x1 x2 H2 H3 H4 hk=>⟨.tup [.s x0,.s x1,.b x2],by simp only [pf40,ares,aresL,H2,H3,H4,ares1,Option.map_some],_,rfl,x0,x1,x2,hk,rfl⟩) rfl h)
  exact ⟨x0,x1,x2,hk,hv⟩
def r41_0:List AI:=[oC 2 (.s [])]
def r41_1:List AI:=[oM 3 0,oW 4 .eql 3 34,oM 5 4,gF 5 (oM 6 0),gF 5 (oW 7 .eql 6 92),oR 8 5 7]
def r41_2:List AI:=[oM 9 0,oO 10 (.bslice [z8] 2 [(0,(.c (.i .u8 92))),(1,(.t 9))]),oO 11 (.b2s (.t 10)),oM 2 11]
def r41_3:List AI:=[oM 12 0,oW 13 .eql 12 10]
def r41_4:List AI:=[oC 2 (.s [92,110])]
def r41_5:List AI:=[oM 14 0,oW 15 .geq 14 32,oM 16 15,gT 16 (oM 17 0),gT 16 (oW 18 .leq 17 126),oA 19 16 18]
def r41_6:List AI:=[oM 20 0,oO 21 (.bslice [z8] 1 [(0,(.t 20))]),oO 22 (.b2s (.t 21)),oM 2 22]
def r41_7:List AI:=[oM 23 0,oW 24 .quo 23 16,oM 25 0,oW 26 .quo 25 16,oW 27 .add 26 1,oO 28 (.slS (.c (.s [48,49,50,51,52,53,54,55,56,57,97,98,99,100,101,102])) (some (.t 24)) (some (.t 27))),oB 29 .add (.c (.s [92,120])) (.t 28),oM 30 0,oW 31 .rem 30 16,oM 32 0,oW 33 .rem 32 16,oW 34 .add 33 1,oO 35 (.slS (.c (.s [48,49,50,51,52,53,54,55,56,57,97,98,99,100,101,102])) (some (.t 31)) (some (.t 34))),oT 36 .add 29 35,oM 2 36]
abbrev b41:AC:=(sR 0 r41_0 (.seq (sR 1 r41_1 (.cond (.t 8) (sR 2 r41_2 .ret) .skip)) (.seq (sR 3 r41_3 (.cond (.t 13) (sR 4 r41_4 .ret) .skip)) (.seq (sR 5 r41_5 (.cond (.t 19) (sR 6 r41_6 .ret) .skip)) (sR 7 r41_7 .ret)))))
def pf41:AF:={ nt:=37,res:=[.tmp 2],body:=b41 }
def T41_0 (prog:Prog)(K:BS→Prop)(c0:Int):Prop:=
  (c0=34→∃e:UInt8,c0=(e.toNat:Int)∧K [(92:UInt8),e])∧(¬(c0=34)→(c0=92→∃c:UInt8,c0=(c.toNat:Int)∧K [(92:UInt8),c])∧(¬(c0=92)→(c0=10→K ([92,110]:BS))∧(¬(c0=10)→(c0≥32→(c0≤126→∃i:UInt8,c0=(i.toNat:Int)∧K [i])∧(¬(c0≤126)→0≤(IntKind.u8.wrap ((c0:Int).tdiv 16))∧(IntKind.u8.wrap ((c0:Int).tdiv 16))≤(IntKind.u8.wrap ((IntKind.u8.wrap ((c0:Int).tdiv 16))+1))∧(IntKind.u8.wrap ((IntKind.u8.wrap ((c0:Int).tdiv 16))+1)).toNat≤([48,49,50,51,52,53,54,55,56,57,97,98,99,100,101,102]:BS).length∧([92,120]:BS).length+((([48,49,50,51,52,53,54,55,56,57,97,98,99,100,101,102]:BS).drop (IntKind.u8.wrap ((c0:Int).tdiv 16)).toNat).take ((IntKind.u8.wrap ((IntKind.u8.wrap ((c0:Int).tdiv 16))+1)).toNat-(IntKind.u8.wrap ((c0:Int).tdiv 16)).toNat)).length≤maxStr∧0≤((c0:Int).tmod 16)∧((c0:Int).tmod 16)≤(IntKind.u8.wrap (((c0:Int).tmod 16)+1))∧(IntKind.u8.wrap (((c0:Int).tmod 16)+1)).toNat≤([48,49,50,51,52,53,54,55,56,57,97,98,99,100,101,102]:BS).length∧(([92,120]:BS)++((([48,49,50,51,52,53,54,55,56,57,97,98,99,100,101,102]:BS).drop (IntKind.u8.wrap ((c0:Int).tdiv 16)).toNat).take ((IntKind.u8.wrap ((IntKind.u8.wrap ((c0:Int).tdiv 16))+1)).toNat-(IntKind.u8.wrap ((c0:Int).tdiv 16)).toNat))).length+((([48,49,50,51,52,53,54,55,56,57,97,98,99,100,101,102]:BS).drop ((c0:Int).tmod 16).toNat).take ((IntKind.u8.wrap (((c0:Int).tmod 16)+1)).toNat-((c0:Int).tmod 16).toNat)).length≤maxStr∧K ((([92,120]:BS)++((([48,49,50,51,52,53,54,55,56,57,97,98,99,100,101,102]:BS).drop (IntKind.u8.wrap ((c0:Int).tdiv 16)).toNat).take ((IntKind.u8.wrap ((IntKind.u8.wrap ((c0:Int).tdiv 16))+1)).toNat-(IntKind.u8.wrap ((c0:Int).tdiv 16)).toNat)))++((([48,49,50,51,52,53,54,55,56,57,97,98,99,100,101,102]:BS).drop ((c0:Int).tmod 16).toNat).take ((IntKind.u8.wrap (((c0:Int).tmod 16)+1)).toNat-((c0:Int).tmod 16).toNat)))))∧(¬(c0≥32)→0≤(IntKind.u8.wrap ((c0:Int).tdiv 16))∧(IntKind.u8.wrap ((c0:Int).tdiv 16))≤(IntKind.u8.wrap ((IntKind.u8.wrap ((c0:Int).tdiv 16))+1))∧(IntKind.u8.wrap ((IntKind.u8.wrap ((c0:Int).tdiv 16))+1)).toNat≤([48,49,50,51,52,53,54,55,56,57,97,98,99,100,101,102]:BS).length∧([92,120]:BS).length+((([48,49,50,51,52,53,54,55,56,57,97,98,99,100,101,102]:BS).drop (IntKind.u8.wrap ((c0:Int).tdiv 16)).toNat).take ((IntKind.u8.wrap ((IntKind.u8.wrap ((c0:Int).tdiv 16))+1)).toNat-(IntKind.u8.wrap ((c0:Int).tdiv 16)).toNat)).length≤maxStr∧0≤((c0:Int).tmod 16)∧((c0:Int).tmod 16)≤(IntKind.u8.wrap (((c0:Int).tmod 16)+1))∧(IntKind.u8.wrap (((c0:Int).tmod 16)+1)).toNat≤([48,49,50,51,52,53,54,55,56,57,97,98,99,100,101,102]:BS).length∧(([92,120]:BS)++((([48,49,50,51,52,53,54,55,56,57,97,98,99,100,101,102]:BS).drop (IntKind.u8.wrap ((c0:Int).tdiv 16)).toNat).take ((IntKind.u8.wrap ((IntKind.u8.wrap ((c0:Int).tdiv 16))+1)).toNat-(IntKind.u8.wrap ((c0:Int).tdiv 16)).toNat))).length+((([48,49,50,51,52,53,54,55,56,57,97,98,99,100,101,102]:BS).drop ((c0:Int).tmod 16).toNat).take ((IntKind.u8.wrap (((c0:Int).tmod 16)+1)).toNat-((c0:Int).tmod 16).toNat)).length≤maxStr∧K ((([92,120]:BS)++((([48,49,50,51,52,53,54,55,56,57,97,98,99,100,101,102]:BS).drop (IntKind.u8.wrap ((c0:Int).tdiv 16)).toNat).take ((IntKind.u8.wrap ((IntKind.u8.wrap ((c0:Int).tdiv 16))+1)).toNat-(IntKind.u8.wrap ((c0:Int).tdiv 16)).toNat)))++((([48,49,50,51,52,53,54,55,56,57,97,98,99,100,101,102]:BS).drop ((c0:Int).tmod 16).toNat).take ((IntKind.u8.wrap (((c0:Int).tmod 16)+1)).toNat-((c0:Int).tmod 16).toNat)))))))
section
variable {prog:Prog}{d:Nat}{Q:AE→Sl→St→Prop}{K:BS→Prop}(hQ:H1 AV.s 2 Q K){σ:Sl}{st:St}
include hQ
variable {c0:Int}
variable (H0:σ 0=.i .u8 c0)
include H0 in
theorem w41_0 (h:T41_0 prog K c0):W prog d (sR 0 r41_0 (.seq (sR 1 r41_1 (.cond (.t 8) (sR 2 r41_2 .ret) .skip)) (.seq (sR 3 r41_3 (.cond (.t 13) (sR 4 r41_4 .ret) .skip)) (.seq (sR 5 r41_5 (.cond (.t 19) (sR 6 r41_6 .ret) .skip)) (sR 7 r41_7 .ret))))) σ st Q:=
 q_ J (m_ (e_ (sq_ (q_ J (s_mvI H0 (b_ J J eql_ (s_mvB J (em_ (g:=5) J (fun c=>z_ 3 J (e_ (ct_ J (q_ J (m_ ((h.1 c).elim fun s p=>s_bslM (f:=row8) (l:=[(92:UInt8),s]) J J (g_cons J J J (g_cons (g_u8 H0 p.1) J J g_nil)) J (s_b2s J (m_ (er_ (hQ J p.2)))))))))) (fun c=>gy_ J (s_mvI H0 (gy_ J (b_ J J eql_ (pf_ J J (e_ (cs_ J (fun e=>q_ J (m_ (((h.2 c).1 e).elim fun u q=>s_bslM (f:=row8) (l:=[(92:UInt8),u]) J J (g_cons J J J (g_cons (g_u8 H0 q.1) J J g_nil)) J (s_b2s J (m_ (er_ (hQ J q.2))))))) (fun e=>sk_ (sq_ (q_ J (m_ (b_ H0 J eql_ (e_ (cs_ J (fun i=>q_ J (m_ (er_ (hQ J (((h.2 c).2 e).1 i))))) (fun i=>sk_ (sq_ (q_ J (s_mvI H0 (b_ J J geq_ (s_mvB J (em_ (g:=16) J (fun j=>gy_ J (s_mvI H0 (gy_ J (b_ J J leq_ (pt_ J J (e_ (cs_ J (fun k=>q_ J (m_ ((((((h.2 c).2 e).2 i).1 j).1 k).elim fun r o=>s_bslM (f:=row8) (l:=[r]) J J (g_cons (g_u8 H0 o.1) J J g_nil) J (s_b2s J (m_ (er_ (hQ J o.2))))))) (fun k=>sk_ (q_ J (m_ (b_ H0 J (abin_quo' (by decide)) (m_ (b_ H0 J (abin_quo' (by decide)) (b_ J J add_ (s_slS J J J (((((h.2 c).2 e).2 i).1 j).2 k).1 (((((h.2 c).2 e).2 i).1 j).2 k).2.1 (((((h.2 c).2 e).2 i).1 j).2 k).2.2.1 (b_ J J (abin_cat' (((((h.2 c).2 e).2 i).1 j).2 k).2.2.2.1) (m_ (b_ H0 J (abin_rem' (by decide)) (m_ (b_ H0 J (abin_rem' (by decide)) (b_ J J add_ (s_slS J J J (((((h.2 c).2 e).2 i).1 j).2 k).2.2.2.2.1 (((((h.2 c).2 e).2 i).1 j).2 k).2.2.2.2.2.1 (((((h.2 c).2 e).2 i).1 j).2 k).2.2.2.2.2.2.1 (b_ J J (abin_cat' (((((h.2 c).2 e).2 i).1 j).2 k).2.2.2.2.2.2.2.1) (m_ (er_ (hQ J (((((h.2 c).2 e).2 i).1 j).2 k).2.2.2.2.2.2.2.2)))))))))))))))))))))))))) (fun j=>z_ 3 J (e_ (cf_ J (sk_ (q_ J (m_ (b_ H0 J (abin_quo' (by decide)) (m_ (b_ H0 J (abin_quo' (by decide)) (b_ J J add_ (s_slS J J J ((((h.2 c).2 e).2 i).2 j).1 ((((h.2 c).2 e).2 i).2 j).2.1 ((((h.2 c).2 e).2 i).2 j).2.2.1 (b_ J J (abin_cat' ((((h.2 c).2 e).2 i).2 j).2.2.2.1) (m_ (b_ H0 J (abin_rem' (by decide)) (m_ (b_ H0 J (abin_rem' (by decide)) (b_ J J add_ (s_slS J J J ((((h.2 c).2 e).2 i).2 j).2.2.2.2.1 ((((h.2 c).2 e).2 i).2 j).2.2.2.2.2.1 ((((h.2 c).2 e).2 i).2 j).2.2.2.2.2.2.1 (b_ J J (abin_cat' ((((h.2 c).2 e).2 i).2 j).2.2.2.2.2.2.2.1) (m_ (er_ (hQ J ((((h.2 c).2 e).2 i).2 j).2.2.2.2.2.2.2.2)))))))))))))))))))))))))))))))))))))))))))))))))))
end
theorem p41 {prog:Prog}(hf:prog.fn 41=some pf41){c0:Int}{K:BS→Prop}(h:T41_0 prog K c0) :∃x0:BS,K x0∧Pus prog 41 [.i .u8 c0] (.s x0):=
 P1 hf J (w41_0 (h1 J fun _=>J) J h)
def r44_0:List AI:=[oI 4 0]
def r44_1:List AI:=[oI 5 0]
def r44_2:List AI:=[oM 6 5,oM 7 1,oT 8 .lss 6 7]
def r44_3:List AI:=[oM 11 5,oO 12 (.ixS (.c (.s [48,49,50,51,52,53,54,55,56,57,97,98,99,100,101,102])) (.t 11)),oM 13 0,oT 14 .eql 12 13]
def r44_4:List AI:=[oM 15 5,oM 4 15]
def r44_5:List AI:=[oM 9 5,oV 10 .add 9 1,oM 5 10]
def r44_6:List AI:=[oI 4 (-1)]
abbrev l44_0:AC:=(.seq (sR 2 r44_2 (.cond (.t 8) .skip (.exit 0))) (.seq (.block 1 (sR 4 r44_3 (.cond (.t 14) (sR 5 r44_4 .ret) .skip))) (.reg 3 r44_5)))
abbrev c44_1:AC:=(sR 6 r44_6 .ret)
abbrev b44:AC:=(sR 0 r44_0 (.seq (sR 1 r44_1 (.block 0 (.loop l44_0))) c44_1))
def pf44:AF:={ nt:=16,res:=[.tmp 4],body:=b44 }
abbrev I44_0 (prog:Prog)(d:Nat)(Q:AE→Sl→St→Prop)(c0:Int)(base1:Int)(i5:Int):Prop:=
  ∀(σ:Sl)(st:St),σ 0=.i .u8 c0→σ 1=.i .i64 base1→σ 5=.i .i64 i5→W prog d (.loop l44_0) σ st (blockW 0 (thenW prog d c44_1 Q))
def T44_2 (prog:Prog)(K:Int→Prop) :Prop:=
  K (-1)
def T44_1 (prog:Prog)(K:Int→Prop)(P0:Int→Prop)(c0:Int)(base1:Int)(i5:Int):Prop:=
  (i5<base1→0≤i5∧∃c:UInt8,([48,49,50,51,52,53,54,55,56,57,97,98,99,100,101,102]:BS)[(i5).toNat]?=some c∧((c.toNat:Int)=c0→K i5)∧(¬((c.toNat:Int)=c0)→P0 (IntKind.i64.wrap (i5+1))))∧(¬(i5<base1)→T44_2 prog K )
def T44_0 (prog:Prog)(K:Int→Prop)(c0:Int)(base1:Int):Prop:=
  ∀P0:Int→Prop,(∀(i5:Int),T44_1 prog K P0 c0 base1 i5→P0 i5)→P0 0
section
variable {prog:Prog}{d:Nat}{Q:AE→Sl→St→Prop}{K:Int→Prop}(hQ:H1 (AV.i .i64) 4 Q K){σ:Sl}{st:St}
include hQ
variable {c0 base1 i5:Int}{P0:Int→Prop}
variable (kP0 :∀(i5:Int),P0 i5→I44_0 prog d Q c0 base1 i5)(H0:σ 0=.i .u8 c0)(H1:σ 1=.i .i64 base1)(H5:σ 5=.i .i64 i5)
theorem w44_2 (h:T44_2 prog K ):W prog d c44_1 σ st Q:=
 au trivial
include kP0 H0 H1 H5 in
theorem w44_1 (h:T44_1 prog K P0 c0 base1 i5):W prog d l44_0 σ st (thenW prog d (.loop l44_0) (blockW 0 (thenW prog d c44_1 Q))):=
 au @w44_2
include H0 H1 in
theorem w44_0 (h:T44_0 prog K c0 base1):W prog d (sR 0 r44_0 (.seq (sR 1 r44_1 (.block 0 (.loop l44_0))) c44_1)) σ st Q:=
 q_ J (m_ (e_ (sq_ (q_ J (m_ (e_ (bk_ (h (I44_0 prog d Q c0 base1) (fun _ hb _ _ H0 H1 H5=>W.loop (w44_1 hQ (fun _ x=>x) H0 H1 H5 hb)) _ _ H0 H1 J))))))))
end
theorem p44 {prog:Prog}(hf:prog.fn 44=some pf44){c0:Int}{base1:Int}{K:Int→Prop}(h:T44_0 prog K c0 base1) :∃x0:Int,K x0∧Pus prog 44 [.i .u8 c0,.i .i64 base1] (.i .i64 x0):=
 P1 hf J (w44_0 (h1 J fun _=>J) J J h)
end Go.AM

namespace Go.AM
open Go
set_option linter.unusedVariables false
set_option linter.unusedSimpArgs false
set_option maxRecDepth 4000
set_option maxHeartbeats 2000000
attribute [local irreducible] Decidable.decide W WO fillCells fillRows
def r71_0:List AI:=[oY 1 5 0,oC 2 (.b false)]
def r71_1:List AI:=[oK 3 5 1,oO 4 (.call false 102 [(.t 3),(.c (.i .i64 14))]),oM 5 4,gF 5 (oK 6 5 1),gF 5 (oQ 7 103 [6]),gF 5 (oV 8 .gtr 7 400),oR 9 5 8,oM 2 9]
abbrev b71:AC:=(sR 0 r71_0 (sR 1 r71_1 .ret))
def pf71:AF:={ nt:=10,res:=[.tmp 2],body:=b71 }
def T71_0 (prog:Prog)(K:Bool→Prop)(v0:Val):Prop:=
  ∃c,Pus prog 102 [v0.av,.i .i64 14] (.b c)∧(c=true→K true)∧(c=false→∃e,Pus prog 103 [v0.av] (.i .i64 e)∧K (decide (e>400)))
section
variable {prog:Prog}{d:Nat}{Q:AE→Sl→St→Prop}{K:Bool→Prop}(hQ:H1 AV.b 2 Q K){σ:Sl}{st:St}
include hQ
variable {v0:Val}
variable (H0:σ 0=v0.av)
include H0 in
theorem w71_0 (h:T71_0 prog K v0):W prog d (sR 0 r71_0 (sR 1 r71_1 .ret)) σ st Q:=
 au trivial
end
theorem p71 {prog:Prog}(hf:prog.fn 71=some pf71){v0:Val}{K:Bool→Prop}(h:T71_0 prog K v0) :∃res0:Bool,K res0∧Pus prog 71 [v0.av] (.b res0):=
 P1 hf J (w71_0 (h1 J fun _=>J) J h)
def r72_0:List AI:=[oY 1 5 0,oC 2 (.s []),oI 3 0]
def r72_1:List AI:=[oK 7 5 1,oQ 8 76 [7],oM 4 8]
def r72_2:List AI:=[oM 9 4,oV 10 .neq 9 0]
def r72_3:List AI:=[oM 11 4,oC 2 (.s []),oM 3 11]
def r72_4:List AI:=[oO 5 (.alloc [.np,.sl .full []])]
def r72_5:List AI:=[oK 12 5 1,oO 13 (.call true 104 [(.t 5),(.t 12)]),oM 6 13]
def r72_6:List AI:=[oM 14 6,oV 15 .neq 14 0]
def r72_7:List AI:=[oM 16 6,oC 2 (.s []),oM 3 16]
def r72_8:List AI:=[oO 17 (.call true 105 [(.t 5)]),oM 2 17,oI 3 0]
abbrev b72:AC:=(sR 0 r72_0 (.seq (sR 1 r72_1 (sR 2 r72_2 (.cond (.t 10) (sR 3 r72_3 .ret) .skip))) (sR 1000004 r72_4 (.seq (sR 5 r72_5 (sR 6 r72_6 (.cond (.t 15) (sR 7 r72_7 .ret) .skip))) (sR 8 r72_8 .ret)))))
def pf72:AF:={ nt:=18,res:=[.tmp 2,.tmp 3],body:=b72 }
def T72_0 (prog:Prog)(K:BS→Int→Prop)(v0:Val):Prop:=
  ∃c,Pus prog 76 [v0.av] (.i .i64 c)∧(c≠0→K ([]:BS) c)∧(¬(c≠0)→∃e,∃k:BS,PuX prog 104 (Bl ([]:BS)) [v0.av] (fun r=>r=.i .i64 e) ((Bl k))∧(e≠0→K ([]:BS) e)∧(¬(e≠0)→∃j,PuX prog 105 (Bl k) [] (fun r=>r=.s j) (fun _ _ _ _=>True)∧K j 0))
section
variable {prog:Prog}{d:Nat}{Q:AE→Sl→St→Prop}{K:BS→Int→Prop}(hQ:H2 AV.s (AV.i .i64) 2 3 Q K){σ:Sl}{st:St}
include hQ
variable {v0:Val}
variable (H0:σ 0=v0.av)
include H0 in
theorem w72_0 (h:T72_0 prog K v0):W prog d (sR 0 r72_0 (.seq (sR 1 r72_1 (sR 2 r72_2 (.cond (.t 10) (sR 3 r72_3 .ret) .skip))) (sR 1000004 r72_4 (.seq (sR 5 r72_5 (sR 6 r72_6 (.cond (.t 15) (sR 7 r72_7 .ret) .skip))) (sR 8 r72_8 .ret))))) σ st Q:=
 q_ J (s_box H0 J (m_ (m_ (e_ (sq_ (q_ J (l_ J lk_here J J (h.elim fun _ e=>ca_ (sc1 J J) e.1 (m_ (e_ (q_ J (m_ (b_ J J neq_ (e_ (cs_ J (fun j=>q_ J (m_ (m_ (m_ (er_ (hQ J J (e.2.1 j))))))) (fun j=>sk_ (sq_ (W.regB J (fun _ _ _ q r=>sq_ (q_ J (l_ J ((r (d,0) (key_LL J)).trans lk_here) J J ((e.2.2 j).elim fun _ o=>o.elim fun _ c=>cX_ (sec J (sec J sen)) c.1 (Nat.lt_succ_self d) q (fun _ p _=>m_ (e_ (q_ J (m_ (b_ J J neq_ (e_ (cs_ J (fun i=>q_ J (m_ (m_ (m_ (er_ (hQ J J (c.2.1 i))))))) (fun i=>sk_ (q_ J ((c.2.2 i).elim fun _ k=>cX_ (sec J sen) k.1 (Nat.lt_succ_self d) p (fun _ _ _=>m_ (m_ (er_ (hQ J J k.2))))))))))))))))))))))))))))))))))))
end
theorem p72 {prog:Prog}(hf:prog.fn 72=some pf72){v0:Val}{K:BS→Int→Prop}(h:T72_0 prog K v0) :∃res0:BS,∃res1:Int,K res0 res1∧Pus prog 72 [v0.av] (.tup [.s res0,.i .i64 res1]):=
 P2 hf J (w72_0 (h2 J fun _ _=>J) J h)
abbrev H73 (Q:AE→Sl→St→Prop)(K:BS→Int→Prop):Prop:=∀(σ:Sl)(st:St)(res0:BS)(res1:Int),σ 2=.s res0→σ 3=.i .i64 res1→K res0 res1→Q .ret σ st
section
variable {prog:Prog}{d:Nat}{Q:AE→Sl→St→Prop}{K:BS→Int→Prop}(hQ:H73 Q K){σ:Sl}{st:St}
include hQ
end
def r76_0:List AI:=[oY 1 5 0,oI 2 0]
def r76_1:List AI:=[oK 6 5 1,oO 7 (.call false 109 [(.t 6),(.c (.i .i64 130))]),oM 5 7,oE 8 0 5,oE 9 1 5,oM 3 8,oM 4 9]
def r76_2:List AI:=[oM 10 4,oZ 11 10]
def r76_3:List AI:=[oI 2 8]
def r76_4:List AI:=[oI 2 0]
abbrev b76:AC:=(sR 0 r76_0 (.seq (sR 1 r76_1 (sR 2 r76_2 (.cond (.t 11) (sR 3 r76_3 .ret) .skip))) (sR 4 r76_4 .ret)))
def pf76:AF:={ nt:=12,res:=[.tmp 2],body:=b76 }
def T76_0 (prog:Prog)(K:Int→Prop)(v0:Val):Prop:=
  ∃e c,Pus prog 109 [v0.av,.i .i64 130] (.tup [.i .i64 e,.b c])∧((!c)=true→K 8)∧((!c)=false→K 0)
section
variable {prog:Prog}{d:Nat}{Q:AE→Sl→St→Prop}{K:Int→Prop}(hQ:H1 (AV.i .i64) 2 Q K){σ:Sl}{st:St}
include hQ
variable {v0:Val}
variable (H0:σ 0=v0.av)
include H0 in
theorem w76_0 (h:T76_0 prog K v0):W prog d (sR 0 r76_0 (.seq (sR 1 r76_1 (sR 2 r76_2 (.cond (.t 11) (sR 3 r76_3 .ret) .skip))) (sR 4 r76_4 .ret))) σ st Q:=
 au trivial
end
theorem p76 {prog:Prog}(hf:prog.fn 76=some pf76){v0:Val}{K:Int→Prop}(h:T76_0 prog K v0) :∃res0:Int,K res0∧Pus prog 76 [v0.av] (.i .i64 res0):=
 P1 hf J (w76_0 (h1 J fun _=>J) J h)
def r77_0:List AI:=[oY 1 5 0,oI 2 0]
def r77_1:List AI:=[oK 3 5 1,oO 4 (.call false 110 [(.t 3),(.c (.i .i64 130))]),oZ 5 4,oM 6 5,gF 6 (oK 7 5 1),gF 6 (oQ 8 103 [7]),gF 6 (oV 9 .gtr 8 5000),oR 10 6 9]
def r77_2:List AI:=[oI 2 8]
def r77_3:List AI:=[oI 2 0]
abbrev b77:AC:=(sR 0 r77_0 (.seq (sR 1 r77_1 (.cond (.t 10) (sR 2 r77_2 .ret) .skip)) (sR 3 r77_3 .ret)))
def pf77:AF:={ nt:=11,res:=[.tmp 2],body:=b77 }
def T77_0 (prog:Prog)(K:Int→Prop)(v0:Val):Prop:=
  ∃c,Pus prog 110 [v0.av,.i .i64 130] (.b c)∧((!c)=true→K 8)∧((!c)=false→∃e,Pus prog 103 [v0.av] (.i .i64 e)∧(e>5000→K 8)∧(¬(e>5000)→K 0))
section
variable {prog:Prog}{d:Nat}{Q:AE→Sl→St→Prop}{K:Int→Prop}(hQ:H1 (AV.i .i64) 2 Q K){σ:Sl}{st:St}
include hQ
variable {v0:Val}
variable (H0:σ 0=v0.av)
include H0 in
theorem w77_0 (h:T77_0 prog K v0):W prog d (sR 0 r77_0 (.seq (sR 1 r77_1 (.cond (.t 10) (sR 2 r77_2 .ret) .skip)) (sR 3 r77_3 .ret))) σ st Q:=
 au trivial
end
theorem p77 {prog:Prog}(hf:prog.fn 77=some pf77){v0:Val}{K:Int→Prop}(h:T77_0 prog K v0) :∃res0:Int,K res0∧Pus prog 77 [v0.av] (.i .i64 res0):=
 P1 hf J (w77_0 (h1 J fun _=>J) J h)
def r102_0:List AI:=[oY 2 5 0,oC 4 (.b false)]
def r102_1:List AI:=[oM 6 1,oV 7 .eql 6 0,oM 8 7,gF 8 (oF 9 2 2),gF 8 (oL 10 9),gF 8 (oH 11 10),gF 8 (oV 12 .gtr 11 100),oR 13 8 12,oM 14 13,gF 14 (oF 15 3 2),gF 14 (oL 16 15),gF 14 (oJ 17 16),gF 14 (oV 18 .gtr 17 400),oR 19 14 18]
def r102_2:List AI:=[oC 4 (.b true)]
def r102_3:List AI:=[oI 5 0]
def r102_4:List AI:=[oM 20 5,oF 21 3 2,oL 22 21,oJ 23 22,oT 24 .lss 20 23]
def r102_5:List AI:=[oF 27 3 2,oL 28 27,oM 29 5,oX 30 5 28 29,oK 31 5 30,oM 32 1,oV 33 .sub 32 1,oQ 34 102 [31,33]]
def r102_6:List AI:=[oC 4 (.b true)]
def r102_7:List AI:=[oM 25 5,oV 26 .add 25 1,oM 5 26]
def r102_8:List AI:=[oC 4 (.b false)]
abbrev l102_0:AC:=(.seq (sR 4 r102_4 (.cond (.t 24) .skip (.exit 0))) (.seq (.block 1 (sR 6 r102_5 (.cond (.t 34) (sR 7 r102_6 .ret) .skip))) (.reg 5 r102_7)))
abbrev c102_1:AC:=(sR 8 r102_8 .ret)
abbrev b102:AC:=(sR 0 r102_0 (.seq (sR 1 r102_1 (.cond (.t 19) (sR 2 r102_2 .ret) .skip)) (.seq (sR 3 r102_3 (.block 0 (.loop l102_0))) c102_1)))
def pf102:AF:={ nt:=35,res:=[.tmp 4],body:=b102 }
abbrev I102_0 (prog:Prog)(d:Nat)(Q:AE→Sl→St→Prop)(most1:Int)(i5:Int)(m0:Val):Prop:=
  ∀(σ:Sl)(st:St)(v0:Nat),σ 1=.i .i64 most1→σ 2=.p (d,0) v0 0→σ 5=.i .i64 i5→lk st.bx (d,0)=some (v0,Val.cs m0)→W prog d (.loop l102_0) σ st (blockW 0 (thenW prog d c102_1 Q))
def T102_2 (prog:Prog)(K:Bool→Prop) :Prop:=
  K false
def T102_1 (prog:Prog)(K:Bool→Prop)(P0:Int→Val→Prop)(most1:Int)(i5:Int)(m0:Val):Prop:=
  (i5<(m0.list.length:Int)→0≤i5∧∃e:Val,m0.list[(i5).toNat]?=some e∧∃c,Pus prog 102 [e.av,.i .i64 (IntKind.i64.wrap (most1-1))] (.b c)∧(c=true→K true)∧(c=false→P0 (IntKind.i64.wrap (i5+1)) m0))∧(¬(i5<(m0.list.length:Int))→T102_2 prog K )
def T102_0 (prog:Prog)(K:Bool→Prop)(v0:Val)(most1:Int):Prop:=
  (most1=0→K true)∧(¬(most1=0)→((v0.text.length:Int)>100→K true)∧(¬((v0.text.length:Int)>100)→((v0.list.length:Int)>400→K true)∧(¬((v0.list.length:Int)>400)→∀P0:Int→Val→Prop,(∀(i5:Int)(m0:Val),T102_1 prog K P0 most1 i5 m0→P0 i5 m0)→P0 0 v0)))
section
variable {prog:Prog}{d:Nat}{Q:AE→Sl→St→Prop}{K:Bool→Prop}(hQ:H1 AV.b 4 Q K){σ:Sl}{st:St}
include hQ
variable {most1 i5:Int}{m0:Val}{P0:Int→Val→Prop}{v0:Nat}
variable (kP0 :∀(i5:Int)(m0:Val),P0 i5 m0→I102_0 prog d Q most1 i5 m0)(H1:σ 1=.i .i64 most1)(H2:σ 2=.p (d,0) v0 0)(H5:σ 5=.i .i64 i5)(B0:lk st.bx (d,0)=some (v0,Val.cs m0))
theorem w102_2 (h:T102_2 prog K ):W prog d c102_1 σ st Q:=
 au trivial
include kP0 H1 H2 H5 B0 in
theorem w102_1 (h:T102_1 prog K P0 most1 i5 m0):W prog d l102_0 σ st (thenW prog d (.loop l102_0) (blockW 0 (thenW prog d c102_1 Q))):=
 au @w102_2
theorem w102_0 {v0:Val}{most1:Int}(H0:σ 0=v0.av)(H1:σ 1=.i .i64 most1)(h:T102_0 prog K v0 most1):W prog d (sR 0 r102_0 (.seq (sR 1 r102_1 (.cond (.t 19) (sR 2 r102_2 .ret) .skip)) (.seq (sR 3 r102_3 (.block 0 (.loop l102_0))) c102_1))) σ st Q:=
 q_ J (s_box H0 J (m_ (e_ (sq_ (q_ J (s_mvI H1 (b_ J J eql_ (s_mvB J (em_ (g:=8) J (fun c=>z_ 11 J (e_ (ct_ J (q_ J (m_ (er_ (hQ J (h.1 c)))))))) (fun c=>gy_ J (f_ J (gy_ J (l_ J lk_here J J (gy_ J (ln_ J (gy_ J (b_ J J gtr_ (z_ 2 J (em_ (g:=14) J (fun e=>z_ 5 J (e_ (ct_ J (q_ J (m_ (er_ (hQ J ((h.2 c).1 e)))))))) (fun e=>gy_ J (f_ J (gy_ J (l_ J lk_here J J (gy_ J (ll_ J (gy_ J (b_ J J gtr_ (pf_ J J (e_ (cs_ J (fun i=>q_ J (m_ (er_ (hQ J (((h.2 c).2 e).1 i))))) (fun i=>sk_ (sq_ (q_ J (m_ (e_ (bk_ ((((h.2 c).2 e).2 i) (I102_0 prog d Q most1) (fun _ _ hb _ _ _ H1 H2 H5 B0=>W.loop (w102_1 hQ (fun _ _ x=>x) H1 H2 H5 B0 hb)) _ _ _ H1 J J lk_here)))))))))))))))))))))))))))))))))))))
end
theorem p102 {prog:Prog}(hf:prog.fn 102=some pf102){v0:Val}{most1:Int}{K:Bool→Prop}(h:T102_0 prog K v0 most1) :∃res0:Bool,K res0∧Pus prog 102 [v0.av,.i .i64 most1] (.b res0):=
 P1 hf J (w102_0 (h1 J fun _=>J) J J h)
def r103_0:List AI:=[oY 1 5 0,oI 2 0]
def r103_1:List AI:=[oI 3 1]
def r103_2:List AI:=[oI 4 0]
def r103_3:List AI:=[oM 5 4,oF 6 3 1,oL 7 6,oJ 8 7,oT 9 .lss 5 8,oM 10 9,gT 10 (oM 11 3),gT 10 (oV 12 .leq 11 5000),oA 13 10 12]
def r103_4:List AI:=[oM 16 3,oF 17 3 1,oL 18 17,oM 19 4,oX 20 5 18 19,oK 21 5 20,oQ 22 103 [21],oT 23 .add 16 22,oM 3 23]
def r103_5:List AI:=[oM 14 4,oV 15 .add 14 1,oM 4 15]
def r103_6:List AI:=[oM 24 3,oM 2 24]
abbrev l103_0:AC:=(.seq (sR 3 r103_3 (.cond (.t 13) .skip (.exit 0))) (.seq (.block 1 (.reg 5 r103_4)) (.reg 4 r103_5)))
abbrev c103_1:AC:=(sR 6 r103_6 .ret)
abbrev b103:AC:=(sR 0 r103_0 (sR 1 r103_1 (.seq (sR 2 r103_2 (.block 0 (.loop l103_0))) c103_1)))
def pf103:AF:={ nt:=25,res:=[.tmp 2],body:=b103 }
abbrev I103_0 (prog:Prog)(d:Nat)(Q:AE→Sl→St→Prop)(n3:Int)(i4:Int)(m0:Val):Prop:=
  ∀(σ:Sl)(st:St)(v0:Nat),σ 1=.p (d,0) v0 0→σ 3=.i .i64 n3→σ 4=.i .i64 i4→lk st.bx (d,0)=some (v0,Val.cs m0)→W prog d (.loop l103_0) σ st (blockW 0 (thenW prog d c103_1 Q))
def T103_2 (prog:Prog)(K:Int→Prop)(n3:Int):Prop:=
  K n3
def T103_1 (prog:Prog)(K:Int→Prop)(P0:Int→Int→Val→Prop)(n3:Int)(i4:Int)(m0:Val):Prop:=
  (i4<(m0.list.length:Int)→(n3≤5000→0≤i4∧∃e:Val,m0.list[(i4).toNat]?=some e∧∃c,Pus prog 103 [e.av] (.i .i64 c)∧P0 (IntKind.i64.wrap (n3+c)) (IntKind.i64.wrap (i4+1)) m0)∧(¬(n3≤5000)→T103_2 prog K n3))∧(¬(i4<(m0.list.length:Int))→T103_2 prog K n3)
def T103_0 (prog:Prog)(K:Int→Prop)(v0:Val):Prop:=
  ∀P0:Int→Int→Val→Prop,(∀(n3:Int)(i4:Int)(m0:Val),T103_1 prog K P0 n3 i4 m0→P0 n3 i4 m0)→P0 1 0 v0
section
variable {prog:Prog}{d:Nat}{Q:AE→Sl→St→Prop}{K:Int→Prop}(hQ:H1 (AV.i .i64) 2 Q K){σ:Sl}{st:St}
include hQ
variable {n3 i4:Int}{m0:Val}{P0:Int→Int→Val→Prop}{v0:Nat}
variable (kP0 :∀(n3:Int)(i4:Int)(m0:Val),P0 n3 i4 m0→I103_0 prog d Q n3 i4 m0)(H1:σ 1=.p (d,0) v0 0)(H3:σ 3=.i .i64 n3)(H4:σ 4=.i .i64 i4)(B0:lk st.bx (d,0)=some (v0,Val.cs m0))
include H3 in
theorem w103_2 (h:T103_2 prog K n3):W prog d c103_1 σ st Q:=
 au trivial
include kP0 H1 H3 H4 B0 in
theorem w103_1 (h:T103_1 prog K P0 n3 i4 m0):W prog d l103_0 σ st (thenW prog d (.loop l103_0) (blockW 0 (thenW prog d c103_1 Q))):=
 au @w103_2
theorem w103_0 {v0:Val}(H0:σ 0=v0.av)(h:T103_0 prog K v0):W prog d (sR 0 r103_0 (sR 1 r103_1 (.seq (sR 2 r103_2 (.block 0 (.loop l103_0))) c103_1))) σ st Q:=
 q_ J (s_box H0 J (m_ (e_ (q_ J (m_ (e_ (sq_ (q_ J (m_ (e_ (bk_ (h (I103_0 prog d Q ) (fun _ _ _ hb _ _ _ H1 H3 H4 B0=>W.loop (w103_1 hQ (fun _ _ _ x=>x) H1 H3 H4 B0 hb)) _ _ _ J J J lk_here))))))))))))
end
theorem p103 {prog:Prog}(hf:prog.fn 103=some pf103){v0:Val}{K:Int→Prop}(h:T103_0 prog K v0) :∃res0:Int,K res0∧Pus prog 103 [v0.av] (.i .i64 res0):=
 P1 hf J (w103_0 (h1 J fun _=>J) J h)
def r104_0:List AI:=[oY 3 5 1,oI 4 0]
def r104_1:List AI:=[oO 11 (.build [zs,zs,zs,zs,zs,zs,zs,zs] [(5,1,(.c (.s [123,125]))),(6,1,(.c (.s [91,93]))),(7,1,(.c (.s [60,62])))]),oF 12 0 3,oL 13 12,oO 14 (.ixA 8 1 false (.t 11) (.t 13)),oM 5 14]
def r104_2:List AI:=[oF 43 0 3,oL 44 43,oW 45 .eql 44 1,oM 46 45,gT 46 (oF 47 1 3),gT 46 (oL 48 47),gT 46 (oV 49 .eql 48 1),oA 50 46 49,oM 42 50]
def r104_3:List AI:=[oM 51 0,oO 52 (.call true 126 [(.t 51),(.c (.s [116,114,117,101]))])]
def r104_4:List AI:=[oF 54 0 3,oL 55 54,oW 56 .eql 55 1,oM 53 56]
def r104_5:List AI:=[oM 57 0,oO 58 (.call true 126 [(.t 57),(.c (.s [102,97,108,115,101]))])]
def r104_6:List AI:=[oF 60 0 3,oL 61 60,oW 62 .eql 61 2,oM 59 62]
def r104_7:List AI:=[oM 63 0,oF 64 1 3,oL 65 64,oQ 66 15 [65],oO 67 (.call true 126 [(.t 63),(.t 66)])]
def r104_8:List AI:=[oF 69 0 3,oL 70 69,oW 71 .eql 70 3,oM 68 71]
def r104_9:List AI:=[oF 73 2 3,oL 74 73,oQ 75 11 [74],oM 72 75,oE 76 0 72,oE 77 1 72,oM 6 76,oM 7 77]
def r104_10:List AI:=[oM 78 0,oM 79 6,oO 80 (.call true 126 [(.t 78),(.t 79)])]
def r104_11:List AI:=[oM 81 7,oM 4 81]
def r104_12:List AI:=[oF 83 0 3,oL 84 83,oW 85 .eql 84 4,oM 86 85,gT 86 (oF 87 4 3),gT 86 (oL 88 87),oA 89 86 88,oM 82 89]
def r104_13:List AI:=[oM 90 0,oO 91 (.call true 126 [(.t 90),(.c (.s [38,46,46,46]))])]
def r104_14:List AI:=[oF 93 0 3,oL 94 93,oW 95 .eql 94 4,oM 96 95,gT 96 (oF 97 3 3),gT 96 (oL 98 97),gT 96 (oJ 99 98),gT 96 (oV 100 .eql 99 0),oA 101 96 100,oM 92 101]
def r104_15:List AI:=[oM 102 0,oO 103 (.call true 126 [(.t 102),(.c (.s [110,105,108]))])]
def r104_16:List AI:=[oF 105 0 3,oL 106 105,oW 107 .eql 106 4,oM 104 107]
def r104_17:List AI:=[oM 108 0,oO 109 (.call true 126 [(.t 108),(.c (.s [38]))])]
def r104_18:List AI:=[oM 110 0,oF 111 3 3,oL 112 111,oO 113 (.iaL 5 (.t 112) (.c (.i .i64 0))),oK 114 5 113,oO 115 (.call true 104 [(.t 110),(.t 114)]),oM 4 115]
def r104_19:List AI:=[oF 117 4 3,oL 118 117,oM 116 118]
def r104_20:List AI:=[oM 119 0,oO 120 (.call true 126 [(.t 119),(.c (.s [60,46,46,46,62]))])]
def r104_21:List AI:=[oM 15 0,oM 16 5,oO 17 (.slS (.t 16) none (some (.c (.i .i64 1)))),oO 18 (.call true 126 [(.t 15),(.t 17)])]
def r104_22:List AI:=[oF 19 3 3,oL 20 19,oJ 21 20,oI 22 0]
def r104_23:List AI:=[oT 23 .lss 22 21]
def r104_24:List AI:=[oM 24 22,oX 25 5 20 22,oK 26 5 25,oO 9 (.alloc [z8,z6,zs,zl,zb]),oM 8 24,oS 5 9 26]
def r104_25:List AI:=[oM 27 8,oV 28 .gtr 27 0]
def r104_26:List AI:=[oM 29 0,oO 30 (.call true 126 [(.t 29),(.c (.s [44,32]))])]
def r104_27:List AI:=[oM 31 0,oK 32 5 9,oO 33 (.call true 104 [(.t 31),(.t 32)]),oM 10 33]
def r104_28:List AI:=[oM 34 10,oV 35 .neq 34 0]
def r104_29:List AI:=[oM 36 10,oM 4 36]
def r104_30:List AI:=[oV 37 .add 22 1,oM 22 37]
def r104_31:List AI:=[oM 38 0,oM 39 5,oO 40 (.slS (.t 39) (some (.c (.i .i64 1))) none),oO 41 (.call true 126 [(.t 38),(.t 40)])]
def r104_32:List AI:=[oI 4 0]
abbrev c104_0:AC:=(sR 8 r104_27 (sR 9 r104_28 (.cond (.t 35) (sR 10 r104_29 .ret) .skip)))
abbrev l104_0:AC:=(sR 4 r104_23 (.seq (.cond (.t 23) .skip (.exit 1)) (.seq (.block 2 (sR 5 r104_24 (.seq (sR 6 r104_25 (.cond (.t 28) (.reg 7 r104_26) .skip)) c104_0))) (.reg 11 r104_30))))
abbrev c104_2:AC:=(.reg 12 r104_31)
abbrev c104_3:AC:=(.cond (.t 82) (.reg 24 r104_13) (sR 25 r104_14 (.cond (.t 92) (.reg 26 r104_15) (sR 27 r104_16 (.cond (.t 104) (sR 28 r104_17 (sR 29 r104_18 .ret)) (sR 30 r104_19 (.cond (.t 116) (.reg 31 r104_20) (sR 2 r104_21 (.seq (sR 3 r104_22 (.block 1 (.loop l104_0))) c104_2)))))))))
abbrev c104_4:AC:=(.cond (.t 68) (sR 20 r104_9 (sR 21 r104_10 (sR 22 r104_11 .ret))) (sR 23 r104_12 c104_3))
abbrev c104_5:AC:=(.cond (.t 59) (.reg 18 r104_7) (sR 19 r104_8 c104_4))
abbrev c104_6:AC:=(.cond (.t 53) (.reg 16 r104_5) (sR 17 r104_6 c104_5))
abbrev c104_7:AC:=(.cond (.t 42) (.reg 14 r104_3) (sR 15 r104_4 c104_6))
abbrev c104_8:AC:=(sR 32 r104_32 .ret)
abbrev c104_9:AC:=(.seq (.block 0 (sR 13 r104_2 c104_7)) c104_8)
abbrev c104_10:AC:=(sR 1 r104_1 c104_9)
abbrev b104:AC:=(sR 0 r104_0 c104_10)
def pf104:AF:={ nt:=121,res:=[.tmp 4],body:=b104 }
abbrev H104 (d:Nat)(st0:St)(kp:Key)(vp:Nat)(Q:AE→Sl→St→Prop)(K:Int→BS→Prop):Prop:=∀(σ:Sl)(st:St)(res0:Int)(b_:BS),σ 4=.i .i64 res0→Bl b_ st.bx st.ow kp vp→Fr d kp st0.bx st0.ow st.bx st.ow→K res0 b_→Q .ret σ st
def T104_4 (prog:Prog)(K:Int→BS→Prop)(mP:BS):Prop:=
  K 0 mP
abbrev I104_0 (prog:Prog)(d:Nat)(Q:AE→Sl→St→Prop)(st0:St)(kp:Key)(vp:Nat)(ends5:BS)(t20:List Val)(t21:Int)(t22:Int)(mP:BS):Prop:=
  ∀(σ:Sl)(st:St)(o_t20:Own),σ 0=.p kp vp 0→σ 5=.s ends5→σ 20=.sl o_t20 (List.map Val.row t20)→σ 21=.i .i64 t21→σ 22=.i .i64 t22→Bl mP st.bx st.ow kp vp→Fr d kp st0.bx st0.ow st.bx st.ow→W prog d (.loop l104_0) σ st (blockW 1 (thenW prog d c104_2 (blockW 0 (thenW prog d c104_8 Q))))
def T104_10 (prog:Prog)(K:Int→BS→Prop)(P0:Int→BS→Prop)(ends5:BS)(t20:List Val)(t21:Int)(t22:Int)(m20483:Val)(mP:BS):Prop:=
  ∃c,∃e:BS,PuX prog 104 (Bl mP) [m20483.av] (fun r=>r=.i .i64 c) ((Bl e))∧(c≠0→K c e)∧(¬(c≠0)→P0 (IntKind.i64.wrap (t22+1)) e)
def T104_11 (prog:Prog)(K:Int→BS→Prop)(ends5:BS)(mP:BS):Prop:=
  1≤ends5.length∧∃e,∃c:BS,PuX prog 126 (Bl mP) [.s (ends5.drop 1)] (fun r=>r=.tup [.i .i64 e,.ni]) ((Bl c))∧T104_4 prog K c
def T104_9 (prog:Prog)(K:Int→BS→Prop)(P0:Int→BS→Prop)(ends5:BS)(t20:List Val)(t21:Int)(t22:Int)(mP:BS):Prop:=
  (t22<t21→0≤t22∧∃c,t20[(t22).toNat]?=some c∧(t22>0→∃j,∃e:BS,PuX prog 126 (Bl mP) [.s ([44,32]:BS)] (fun r=>r=.tup [.i .i64 j,.ni]) ((Bl e))∧T104_10 prog K P0 ends5 t20 t21 t22 c e)∧(¬(t22>0)→T104_10 prog K P0 ends5 t20 t21 t22 c mP))∧(¬(t22<t21)→T104_11 prog K ends5 mP)
def T104_8 (prog:Prog)(K:Int→BS→Prop)(ends5:BS)(t82:Bool)(m0:Val)(mP:BS):Prop:=
  (t82=true→∃e,∃c:BS,PuX prog 126 (Bl mP) [.s ([38,46,46,46]:BS)] (fun r=>r=.tup [.i .i64 e,.ni]) ((Bl c))∧T104_4 prog K c)∧(t82=false→(m0.kind=4→((m0.list.length:Int)=0→∃a7,∃p:BS,PuX prog 126 (Bl mP) [.s ([110,105,108]:BS)] (fun r=>r=.tup [.i .i64 a7,.ni]) ((Bl p))∧T104_4 prog K p)∧(¬((m0.list.length:Int)=0)→(m0.kind=4→∃a8,∃q:BS,PuX prog 126 (Bl mP) [.s ([38]:BS)] (fun r=>r=.tup [.i .i64 a8,.ni]) ((Bl q))∧∃j:Val,m0.list[0]?=some j∧∃a0,∃w:BS,PuX prog 104 (Bl q) [j.av] (fun r=>r=.i .i64 a0) ((Bl w))∧K a0 w)∧(¬(m0.kind=4)→(m0.cut=true→∃a4,∃o:BS,PuX prog 126 (Bl mP) [.s ([60,46,46,46,62]:BS)] (fun r=>r=.tup [.i .i64 a4,.ni]) ((Bl o))∧T104_4 prog K o)∧(m0.cut=false→1≤ends5.length∧∃a2,∃a1:BS,PuX prog 126 (Bl mP) [.s (ends5.take 1)] (fun r=>r=.tup [.i .i64 a2,.ni]) ((Bl a1))∧∀P0:Int→BS→Prop,(∀(t22:Int)(mP:BS),T104_9 prog K P0 ends5 m0.list (m0.list.length:Int) t22 mP→P0 t22 mP)→P0 0 a1))))∧(¬(m0.kind=4)→(m0.kind=4→∃a3,∃z:BS,PuX prog 126 (Bl mP) [.s ([38]:BS)] (fun r=>r=.tup [.i .i64 a3,.ni]) ((Bl z))∧∃x:Val,m0.list[0]?=some x∧∃k,∃y:BS,PuX prog 104 (Bl z) [x.av] (fun r=>r=.i .i64 k) ((Bl y))∧K k y)∧(¬(m0.kind=4)→(m0.cut=true→∃a6,∃v:BS,PuX prog 126 (Bl mP) [.s ([60,46,46,46,62]:BS)] (fun r=>r=.tup [.i .i64 a6,.ni]) ((Bl v))∧T104_4 prog K v)∧(m0.cut=false→1≤ends5.length∧∃a5,∃u:BS,PuX prog 126 (Bl mP) [.s (ends5.take 1)] (fun r=>r=.tup [.i .i64 a5,.ni]) ((Bl u))∧∀P0:Int→BS→Prop,(∀(t22:Int)(mP:BS),T104_9 prog K P0 ends5 m0.list (m0.list.length:Int) t22 mP→P0 t22 mP)→P0 0 u))))
def T104_7 (prog:Prog)(K:Int→BS→Prop)(ends5:BS)(t68:Bool)(m0:Val)(mP:BS):Prop:=
  (t68=true→∃j e,Pus prog 11 [.s m0.text] (.tup [.s j,.i .i64 e])∧∃k,∃c:BS,PuX prog 126 (Bl mP) [.s j] (fun r=>r=.tup [.i .i64 k,.ni]) ((Bl c))∧K e c)∧(t68=false→(m0.kind=4→T104_8 prog K ends5 m0.cut m0 mP)∧(¬(m0.kind=4)→T104_8 prog K ends5 false m0 mP))
def T104_6 (prog:Prog)(K:Int→BS→Prop)(ends5:BS)(t59:Bool)(m0:Val)(mP:BS):Prop:=
  (t59=true→∃e,Pus prog 15 [.i .i64 m0.int] (.s e)∧∃j,∃c:BS,PuX prog 126 (Bl mP) [.s e] (fun r=>r=.tup [.i .i64 j,.ni]) ((Bl c))∧T104_4 prog K c)∧(t59=false→T104_7 prog K ends5 (decide (m0.kind=3)) m0 mP)
def T104_5 (prog:Prog)(K:Int→BS→Prop)(ends5:BS)(t53:Bool)(m0:Val)(mP:BS):Prop:=
  (t53=true→∃e,∃c:BS,PuX prog 126 (Bl mP) [.s ([102,97,108,115,101]:BS)] (fun r=>r=.tup [.i .i64 e,.ni]) ((Bl c))∧T104_4 prog K c)∧(t53=false→T104_6 prog K ends5 (decide (m0.kind=2)) m0 mP)
def T104_3 (prog:Prog)(K:Int→BS→Prop)(ends5:BS)(t42:Bool)(m0:Val)(mP:BS):Prop:=
  (t42=true→∃e,∃c:BS,PuX prog 126 (Bl mP) [.s ([116,114,117,101]:BS)] (fun r=>r=.tup [.i .i64 e,.ni]) ((Bl c))∧T104_4 prog K c)∧(t42=false→T104_5 prog K ends5 (decide (m0.kind=1)) m0 mP)
def T104_2 (prog:Prog)(K:Int→BS→Prop)(ends5:BS)(m0:Val)(mP:BS):Prop:=
  (m0.kind=1→T104_3 prog K ends5 (decide (m0.int=1)) m0 mP)∧(¬(m0.kind=1)→T104_3 prog K ends5 false m0 mP)
def T104_1 (prog:Prog)(K:Int→BS→Prop)(m0:Val)(mP:BS):Prop:=
  0≤m0.kind∧∃c,([[],[],[],[],[],([123,125]:BS),([91,93]:BS),([60,62]:BS)]:LB)[(m0.kind).toNat]?=some c∧T104_2 prog K c m0 mP
def T104_0 (prog:Prog)(K:Int→BS→Prop)(v1:Val)(mP:BS):Prop:=
  T104_1 prog K v1 mP
section
variable {prog:Prog}{d:Nat}{Q:AE→Sl→St→Prop}{K:Int→BS→Prop}{st0:St}{kp:Key}{vp:Nat}(hQ:H104 d st0 kp vp Q K)(hkp:kp.1<d){σ:Sl}{st:St}
include hQ hkp
variable {mP ends5:BS}{t20:List Val}{t21 t22:Int}{m20483:Val}{P0:Int→BS→Prop}{o_t20:Own}{v20483:Nat}{t82:Bool}{m0:Val}{v0:Nat}{t68 t59 t53 t42:Bool}{v1:Val}
variable (kP0 :∀(t22:Int)(mP:BS),P0 t22 mP→I104_0 prog d Q st0 kp vp ends5 t20 t21 t22 mP)(H0:σ 0=.p kp vp 0)(H3:σ 3=.p (d,0) v0 0)(H1:σ 1=v1.av)(H5:σ 5=.s ends5)(H9:σ 9=.p (d,20483) v20483 0)(H82:σ 82=.b t82)(H68:σ 68=.b t68)(H59:σ 59=.b t59)(H53:σ 53=.b t53)(H42:σ 42=.b t42)(H20:σ 20=.sl o_t20 (List.map Val.row t20))(B0:lk st.bx (d,0)=some (v0,Val.cs m0))(H21:σ 21=.i .i64 t21)(H22:σ 22=.i .i64 t22)(B20483:lk st.bx (d,20483)=some (v20483,Val.cs m20483))(BP:Bl mP st.bx st.ow kp vp)(FR:Fr d kp st0.bx st0.ow st.bx st.ow)
include BP FR in
theorem w104_4 (h:T104_4 prog K mP):W prog d c104_8 σ st Q:=
 au trivial
include kP0 H0 H5 H9 H20 H21 H22 B20483 BP FR in
theorem w104_10 (h:T104_10 prog K P0 ends5 t20 t21 t22 m20483 mP):W prog d c104_0 σ st (blockW 2 (thenW prog d (.reg 11 r104_30) (thenW prog d (.loop l104_0) (blockW 1 (thenW prog d c104_2 (blockW 0 (thenW prog d c104_8 Q))))))):=
 q_ J (m_ (l_ H9 B20483 J J (h.elim fun _ k=>k.elim fun _ c=>cX_ (sec H0 (sec J sen)) c.1 (Nat.lt_succ_of_lt hkp) BP (fun _ i j=>m_ (e_ (q_ J (m_ (b_ J J neq_ (e_ (cs_ J (fun e=>q_ J (m_ (m_ (er_ (hQ _ _ _ _ J i (Fr.pass FR j) (c.2.1 e)))))) (fun e=>sk_ (W.reg0 J fun _ _=>b_ H22 J add_ (m_ (e_ (kP0 _ _ (c.2.2 e) _ _ _ H0 H5 H20 H21 J i (Fr.pass FR j))))))))))))))))
include H0 H5 BP FR in
theorem w104_11 (h:T104_11 prog K ends5 mP):W prog d c104_2 σ st (blockW 0 (thenW prog d c104_8 Q)):=
 W.reg0 J fun _ _=>m_ (m_ (s_slS_lo H5 J (by decide) h.1 (h.2.elim fun _ e=>e.elim fun _ c=>cX_ (sec H0 (sec J sen)) c.1 (Nat.lt_succ_of_lt hkp) BP (fun _ i j=>e_ (w104_4 hQ hkp i (Fr.pass FR j) c.2)))))
include kP0 H0 H5 H20 H21 H22 BP FR in
theorem w104_9 (h:T104_9 prog K P0 ends5 t20 t21 t22 mP):W prog d l104_0 σ st (thenW prog d (.loop l104_0) (blockW 1 (thenW prog d c104_2 (blockW 0 (thenW prog d c104_8 Q))))):=
 q_ J (b_ H22 H21 lss_ (e_ (sq_ (cs_ J (fun c=>sk_ (sq_ (bk_ (sq_ (W.reg (m_ ((h.1 c).2.elim fun p e=>ia_ H20 H22 (h.1 c).1 e.1 (Val.row_eq p) J (lf_ J J J (s_alloc (m_ (so_ J (show lk _ (d,20483)=some (_,([.i .u8 0,.i .i64 0,.s [],.sl .full (List.map Val.row ([]:List Val)),.b false]:List AV)) from lk_here) J J J (e_ (sq_ (q_ J (m_ (b_ H22 J gtr_ (e_ (cs_ J (fun j=>W.reg0 J fun _ _=>m_ ((e.2.1 j).elim fun _ q=>q.elim fun _ k=>cX_ (sec H0 (sec J sen)) k.1 (Nat.lt_succ_of_lt hkp) (Bl.other (key_LP hkp) (Bl.other (key_LP hkp) BP)) (fun _ r o=>e_ (w104_10 hQ hkp kP0 H0 H5 J H20 H21 H22 ((o.1 (d,20483) (Nat.lt_succ_self d) (key_LP hkp)).trans lk_here) r (Fr.pass (Fr.box (Fr.box FR)) o) k.2)))) (fun j=>sk_ (w104_10 hQ hkp kP0 H0 H5 J H20 H21 H22 lk_here (Bl.other (key_LP hkp) (Bl.other (key_LP hkp) BP)) (Fr.box (Fr.box FR)) (e.2.2 j))))))))))))))))))))) (fun c=>ex_ (w104_11 hQ hkp H0 H5 BP FR (h.2 c)))))))
include H0 H3 H5 H82 B0 BP FR in
theorem w104_8 (h:T104_8 prog K ends5 t82 m0 mP):W prog d c104_3 σ st (blockW 0 (thenW prog d c104_8 Q)):=
 cb_ H82 (fun c=>W.reg0 J fun _ _=>m_ ((h.1 c).elim fun _ b8=>b8.elim fun _ v=>cX_ (sec H0 (sec J sen)) v.1 (Nat.lt_succ_of_lt hkp) BP (fun _ c5 d4=>e_ (w104_4 hQ hkp c5 (Fr.pass FR d4) v.2)))) (fun c=>q_ J (f_ H3 (l_ J B0 J J (b_ J J eql_ (s_mvB J (em_ (g:=96) J (fun e=>gy_ J (f_ H3 (gy_ J (l_ J B0 J J (gy_ J (ll_ J (gy_ J (b_ J J eql_ (z_ 2 J (e_ (cs_ J (fun i=>W.reg0 J fun _ _=>m_ ((((h.2 c).1 e).1 i).elim fun _ b0=>b0.elim fun _ q=>cX_ (sec H0 (sec J sen)) q.1 (Nat.lt_succ_of_lt hkp) BP (fun _ c0 d1=>e_ (w104_4 hQ hkp c0 (Fr.pass FR d1) q.2)))) (fun i=>q_ J (f_ H3 (l_ J B0 J J (b_ J J eql_ (m_ (e_ (cs_ J (fun j=>q_ J (m_ (((((h.2 c).1 e).2 i).1 j).elim fun _ b2=>b2.elim fun _ r=>cX_ (sec H0 (sec J sen)) r.1 (Nat.lt_succ_of_lt hkp) BP (fun _ c1 a4=>e_ (q_ J (m_ (f_ H3 (l_ J ((a4.1 (d,0) (Nat.lt_succ_self d) (key_LP hkp)).trans B0) J J (r.2.elim fun a8 s=>ia_ J J (by decide) s.1 (Val.row_eq a8) J (lf_ J J J (s.2.elim fun _ b1=>b1.elim fun _ u=>cX_ (sec H0 (sec J sen)) u.1 (Nat.lt_succ_of_lt hkp) c1 (fun _ c2 d2=>m_ (er_ (hQ _ _ _ _ J c2 (Fr.pass (Fr.pass FR a4) d2) u.2)))))))))))))) (fun j=>q_ J (f_ H3 (l_ J B0 J J (m_ (e_ (cb_ J (fun o=>W.reg0 J fun _ _=>m_ ((((((h.2 c).1 e).2 i).2 j).1 o).elim fun _ b3=>b3.elim fun _ w=>cX_ (sec H0 (sec J sen)) w.1 (Nat.lt_succ_of_lt hkp) BP (fun _ c3 d3=>e_ (w104_4 hQ hkp c3 (Fr.pass FR d3) w.2)))) (fun o=>q_ J (m_ (m_ (s_slS_hi H5 J (by decide) (((((h.2 c).1 e).2 i).2 j).2 o).1 ((((((h.2 c).1 e).2 i).2 j).2 o).2.elim fun _ b4=>b4.elim fun _ y=>cX_ (sec H0 (sec J sen)) y.1 (Nat.lt_succ_of_lt hkp) BP (fun _ c4 a5=>e_ (sq_ (q_ J (f_ H3 (l_ J ((a5.1 (d,0) (Nat.lt_succ_self d) (key_LP hkp)).trans B0) J J (ll_ J (m_ (e_ (bk_ (y.2 (I104_0 prog d Q st0 kp vp ends5 m0.list (m0.list.length:Int)) (fun _ _ hb _ _ _ H0 H5 H20 H21 H22 BP FR=>W.loop (w104_9 hQ hkp (fun _ _ x=>x) H0 H5 H20 H21 H22 BP FR hb)) _ _ _ H0 H5 J J J c4 (Fr.pass FR a5)))))))))))))))))))))))))))))))))))))))) (fun e=>z_ 6 J (e_ (cf_ J (q_ J (f_ H3 (l_ J B0 J J (b_ J J eql_ (m_ (e_ (cs_ J (fun k=>q_ J (m_ ((((h.2 c).2 e).1 k).elim fun _ b6=>b6.elim fun _ z=>cX_ (sec H0 (sec J sen)) z.1 (Nat.lt_succ_of_lt hkp) BP (fun _ c6 a6=>e_ (q_ J (m_ (f_ H3 (l_ J ((a6.1 (d,0) (Nat.lt_succ_self d) (key_LP hkp)).trans B0) J J (z.2.elim fun a9 a0=>ia_ J J (by decide) a0.1 (Val.row_eq a9) J (lf_ J J J (a0.2.elim fun _ b5=>b5.elim fun _ a1=>cX_ (sec H0 (sec J sen)) a1.1 (Nat.lt_succ_of_lt hkp) c6 (fun _ c7 d5=>m_ (er_ (hQ _ _ _ _ J c7 (Fr.pass (Fr.pass FR a6) d5) a1.2)))))))))))))) (fun k=>q_ J (f_ H3 (l_ J B0 J J (m_ (e_ (cb_ J (fun p=>W.reg0 J fun _ _=>m_ (((((h.2 c).2 e).2 k).1 p).elim fun _ b7=>b7.elim fun _ a2=>cX_ (sec H0 (sec J sen)) a2.1 (Nat.lt_succ_of_lt hkp) BP (fun _ c9 d6=>e_ (w104_4 hQ hkp c9 (Fr.pass FR d6) a2.2)))) (fun p=>q_ J (m_ (m_ (s_slS_hi H5 J (by decide) ((((h.2 c).2 e).2 k).2 p).1 (((((h.2 c).2 e).2 k).2 p).2.elim fun _ b9=>b9.elim fun _ a3=>cX_ (sec H0 (sec J sen)) a3.1 (Nat.lt_succ_of_lt hkp) BP (fun _ d0 a7=>e_ (sq_ (q_ J (f_ H3 (l_ J ((a7.1 (d,0) (Nat.lt_succ_self d) (key_LP hkp)).trans B0) J J (ll_ J (m_ (e_ (bk_ (a3.2 (I104_0 prog d Q st0 kp vp ends5 m0.list (m0.list.length:Int)) (fun _ _ hb _ _ _ H0 H5 H20 H21 H22 BP FR=>W.loop (w104_9 hQ hkp (fun _ _ x=>x) H0 H5 H20 H21 H22 BP FR hb)) _ _ _ H0 H5 J J J d0 (Fr.pass FR a7))))))))))))))))))))))))))))))))))))))
include H0 H3 H5 H68 B0 BP FR in
theorem w104_7 (h:T104_7 prog K ends5 t68 m0 mP):W prog d c104_4 σ st (blockW 0 (thenW prog d c104_8 Q)):=
 cb_ H68 (fun c=>q_ J (f_ H3 (l_ J B0 J J (x2 (h.1 c) fun _ _ i=>ca_ (sc1 J J) i.1 (m_ (x_ J J (x_ J J (m_ (m_ (e_ (q_ J (m_ (m_ (i.2.elim fun _ k=>k.elim fun _ j=>cX_ (sec H0 (sec J sen)) j.1 (Nat.lt_succ_of_lt hkp) BP (fun _ o p=>e_ (q_ J (m_ (m_ (er_ (hQ _ _ _ _ J o (Fr.pass FR p) j.2)))))))))))))))))))) (fun c=>q_ J (f_ H3 (l_ J B0 J J (b_ J J eql_ (s_mvB J (em_ (g:=86) J (fun e=>gy_ J (f_ H3 (gy_ J (l_ J B0 J J (z_ 2 J (e_ (w104_8 hQ hkp H0 H3 H5 J B0 BP FR ((h.2 c).1 e)))))))) (fun e=>z_ 4 J (e_ (w104_8 hQ hkp H0 H3 H5 J B0 BP FR ((h.2 c).2 e))))))))))
include H0 H3 H5 H59 B0 BP FR in
theorem w104_6 (h:T104_6 prog K ends5 t59 m0 mP):W prog d c104_5 σ st (blockW 0 (thenW prog d c104_8 Q)):=
 cb_ H59 (fun c=>W.reg0 J fun _ _=>m_ (f_ H3 (l_ J B0 J J ((h.1 c).elim fun _ e=>ca_ (sc1 J J) e.1 (e.2.elim fun _ j=>j.elim fun _ i=>cX_ (sec H0 (sec J sen)) i.1 (Nat.lt_succ_of_lt hkp) BP (fun _ k o=>e_ (w104_4 hQ hkp k (Fr.pass FR o) i.2))))))) (fun c=>q_ J (f_ H3 (l_ J B0 J J (b_ J J eql_ (m_ (e_ (w104_7 hQ hkp H0 H3 H5 J B0 BP FR (h.2 c))))))))
include H0 H3 H5 H53 B0 BP FR in
theorem w104_5 (h:T104_5 prog K ends5 t53 m0 mP):W prog d c104_6 σ st (blockW 0 (thenW prog d c104_8 Q)):=
 cb_ H53 (fun c=>W.reg0 J fun _ _=>m_ ((h.1 c).elim fun _ i=>i.elim fun _ e=>cX_ (sec H0 (sec J sen)) e.1 (Nat.lt_succ_of_lt hkp) BP (fun _ j k=>e_ (w104_4 hQ hkp j (Fr.pass FR k) e.2)))) (fun c=>q_ J (f_ H3 (l_ J B0 J J (b_ J J eql_ (m_ (e_ (w104_6 hQ hkp H0 H3 H5 J B0 BP FR (h.2 c))))))))
include H0 H3 H5 H42 B0 BP FR in
theorem w104_3 (h:T104_3 prog K ends5 t42 m0 mP):W prog d c104_7 σ st (blockW 0 (thenW prog d c104_8 Q)):=
 cb_ H42 (fun c=>W.reg0 J fun _ _=>m_ ((h.1 c).elim fun _ i=>i.elim fun _ e=>cX_ (sec H0 (sec J sen)) e.1 (Nat.lt_succ_of_lt hkp) BP (fun _ j k=>e_ (w104_4 hQ hkp j (Fr.pass FR k) e.2)))) (fun c=>q_ J (f_ H3 (l_ J B0 J J (b_ J J eql_ (m_ (e_ (w104_5 hQ hkp H0 H3 H5 J B0 BP FR (h.2 c))))))))
include H0 H3 H5 B0 BP FR in
theorem w104_2 (h:T104_2 prog K ends5 m0 mP):W prog d c104_9 σ st Q:=
 sq_ (bk_ (q_ J (f_ H3 (l_ J B0 J J (b_ J J eql_ (s_mvB J (em_ (g:=46) J (fun c=>gy_ J (f_ H3 (gy_ J (l_ J B0 J J (gy_ J (b_ J J eql_ (z_ 2 J (e_ (w104_3 hQ hkp H0 H3 H5 J B0 BP FR (h.1 c)))))))))) (fun c=>z_ 5 J (e_ (w104_3 hQ hkp H0 H3 H5 J B0 BP FR (h.2 c)))))))))))
include H0 H3 B0 BP FR in
theorem w104_1 (h:T104_1 prog K m0 mP):W prog d c104_10 σ st Q:=
 q_ J (s_buildM (f:=AV.s) (l:=[[],[],[],[],[],([123,125]:BS),([91,93]:BS),([60,62]:BS)]) (f_cons J J (f_cons J J (f_cons J J f_nil))) J (f_ H3 (l_ J B0 J J (h.2.elim fun _ c=>s_ixA (f:=AV.s) J J J h.1 c.1 (m_ (e_ (w104_2 hQ hkp H0 H3 J B0 BP FR c.2)))))))
include H0 H1 BP FR in
theorem w104_0 (h:T104_0 prog K v1 mP):W prog d (sR 0 r104_0 c104_10) σ st Q:=
 q_ J (s_box H1 J (m_ (e_ (w104_1 hQ hkp H0 J lk_here (Bl.other (key_LP hkp) BP) (Fr.box FR) h))))
end
theorem p104 {prog:Prog}(hf:prog.fn 104=some pf104){v1:Val}{mP:BS}{K:Int→BS→Prop}(h:T104_0 prog K v1 mP):PuXK prog 104 (Bl mP) [v1.av] (fun r (b_:BS)=>∃res0:Int,(r=.i .i64 res0)∧K res0 b_) (fun b_=>(Bl b_)):=
  PuXK.of hf rfl (fun _=>Bl.out) fun d st kp vp hkp hB=>w104_0 (st0:=st) (Q:=fun e σ st'=>(e=.normal∨e=.ret)∧∃r b_,ares σ st' pf104.res=some r∧_∧_∧Fr d kp st.bx st.ow st'.bx st'.ow) (fun σ st'   res0 b_ H4 hb hf hk=>⟨.inr rfl,.i .i64 res0,b_,by simp only [pf104,ares,aresL,H4,ares1,Option.map_some,H4],⟨res0,rfl,hk⟩,hb,hf⟩) hkp (σ:=sl0 [.p kp vp 0,v1.av]) rfl rfl hB Fr.refl h
def r106_0:List AI:=[oY 1 5 0,oC 2 (.s [])]
def r106_1:List AI:=[oF 3 0 1,oL 4 3]
def r106_2:List AI:=[oW 6 .eql 4 1,oM 5 6]
def r106_3:List AI:=[oF 7 1 1,oL 8 7,oV 9 .eql 8 1]
def r106_4:List AI:=[oC 2 (.s [116,114,117,101])]
def r106_5:List AI:=[oC 2 (.s [102,97,108,115,101])]
def r106_6:List AI:=[oW 11 .eql 4 2,oM 10 11]
def r106_7:List AI:=[oF 12 1 1,oL 13 12,oQ 14 16 [13],oM 2 14]
def r106_8:List AI:=[oW 16 .eql 4 3,oM 15 16]
def r106_9:List AI:=[oF 17 2 1,oL 18 17,oQ 19 31 [18],oM 2 19]
def r106_10:List AI:=[oW 21 .eql 4 5,oM 20 21]
def r106_11:List AI:=[oF 22 3 1,oL 23 22,oQ 24 127 [23],oB 25 .add (.c (.s [123])) (.t 24),oB 26 .add (.t 25) (.c (.s [125])),oM 2 26]
def r106_12:List AI:=[oW 28 .eql 4 6,oM 27 28]
def r106_13:List AI:=[oF 29 3 1,oL 30 29,oQ 31 127 [30],oB 32 .add (.c (.s [91])) (.t 31),oB 33 .add (.t 32) (.c (.s [93])),oM 2 33]
def r106_14:List AI:=[oW 35 .eql 4 7,oM 34 35]
def r106_15:List AI:=[oF 36 4 1,oL 37 36]
def r106_16:List AI:=[oC 2 (.s [60,46,46,46,62])]
def r106_17:List AI:=[oF 38 3 1,oL 39 38,oQ 40 127 [39],oB 41 .add (.c (.s [60])) (.t 40),oB 42 .add (.t 41) (.c (.s [62])),oM 2 42]
def r106_18:List AI:=[oF 43 4 1,oL 44 43]
def r106_19:List AI:=[oC 2 (.s [38,46,46,46])]
def r106_20:List AI:=[oF 45 3 1,oL 46 45,oJ 47 46,oV 48 .eql 47 0]
def r106_21:List AI:=[oC 2 (.s [110,105,108])]
def r106_22:List AI:=[oF 49 3 1,oL 50 49,oO 51 (.iaL 5 (.t 50) (.c (.i .i64 0))),oK 52 5 51,oQ 53 106 [52],oB 54 .add (.c (.s [38])) (.t 53),oM 2 54]
abbrev c106_0:AC:=(.seq (sR 1 r106_1 (.block 0 (sR 2 r106_2 (.cond (.t 5) (.seq (sR 3 r106_3 (.cond (.t 9) (sR 4 r106_4 .ret) .skip)) (sR 5 r106_5 .ret)) (sR 6 r106_6 (.cond (.t 10) (sR 7 r106_7 .ret) (sR 8 r106_8 (.cond (.t 15) (sR 9 r106_9 .ret) (sR 10 r106_10 (.cond (.t 20) (sR 11 r106_11 .ret) (sR 12 r106_12 (.cond (.t 27) (sR 13 r106_13 .ret) (sR 14 r106_14 (.cond (.t 34) (.seq (sR 15 r106_15 (.cond (.t 37) (sR 16 r106_16 .ret) .skip)) (sR 17 r106_17 .ret)) .skip)))))))))))))) (.seq (sR 18 r106_18 (.cond (.t 44) (sR 19 r106_19 .ret) .skip)) (.seq (sR 20 r106_20 (.cond (.t 48) (sR 21 r106_21 .ret) .skip)) (sR 22 r106_22 .ret))))
abbrev b106:AC:=(sR 0 r106_0 c106_0)
def pf106:AF:={ nt:=55,res:=[.tmp 2],body:=b106 }
def T106_1 (prog:Prog)(K:BS→Prop)(m0:Val):Prop:=
  (m0.kind=1→(m0.int=1→K ([116,114,117,101]:BS))∧(¬(m0.int=1)→K ([102,97,108,115,101]:BS)))∧(¬(m0.kind=1)→(m0.kind=2→∃p,Pus prog 16 [.i .i64 m0.int] (.s p)∧K p)∧(¬(m0.kind=2)→(m0.kind=3→∃o,Pus prog 31 [.s m0.text] (.s o)∧K o)∧(¬(m0.kind=3)→(m0.kind=5→∃c:BS,Pus prog 127 [.sl .ext (List.map Val.row m0.list)] (.s c)∧([123]:BS).length+c.length≤maxStr∧(([123]:BS)++c).length+([125]:BS).length≤maxStr∧K ((([123]:BS)++c)++([125]:BS)))∧(¬(m0.kind=5)→(m0.kind=6→∃j:BS,Pus prog 127 [.sl .ext (List.map Val.row m0.list)] (.s j)∧([91]:BS).length+j.length≤maxStr∧(([91]:BS)++j).length+([93]:BS).length≤maxStr∧K ((([91]:BS)++j)++([93]:BS)))∧(¬(m0.kind=6)→(m0.kind=7→(m0.cut=true→K ([60,46,46,46,62]:BS))∧(m0.cut=false→∃e:BS,Pus prog 127 [.sl .ext (List.map Val.row m0.list)] (.s e)∧([60]:BS).length+e.length≤maxStr∧(([60]:BS)++e).length+([62]:BS).length≤maxStr∧K ((([60]:BS)++e)++([62]:BS))))∧(¬(m0.kind=7)→(m0.cut=true→K ([38,46,46,46]:BS))∧(m0.cut=false→((m0.list.length:Int)=0→K ([110,105,108]:BS))∧(¬((m0.list.length:Int)=0)→∃q:Val,m0.list[0]?=some q∧∃k:BS,Pus prog 106 [q.av] (.s k)∧([38]:BS).length+k.length≤maxStr∧K (([38]:BS)++k)))))))))
def T106_0 (prog:Prog)(K:BS→Prop)(v0:Val):Prop:=
  T106_1 prog K v0
section
variable {prog:Prog}{d:Nat}{Q:AE→Sl→St→Prop}{K:BS→Prop}(hQ:H1 AV.s 2 Q K){σ:Sl}{st:St}
include hQ
variable {m0:Val}{v0:Nat}
variable (H1:σ 1=.p (d,0) v0 0)(B0:lk st.bx (d,0)=some (v0,Val.cs m0))
include H1 B0 in
theorem w106_1 (h:T106_1 prog K m0):W prog d c106_0 σ st Q:=
 au trivial
theorem w106_0 {v0:Val}(H0:σ 0=v0.av)(h:T106_0 prog K v0):W prog d (sR 0 r106_0 c106_0) σ st Q:=
 au @w106_1
end
theorem p106 {prog:Prog}(hf:prog.fn 106=some pf106){v0:Val}{K:BS→Prop}(h:T106_0 prog K v0) :∃res0:BS,K res0∧Pus prog 106 [v0.av] (.s res0):=
 P1 hf J (w106_0 (h1 J fun _=>J) J h)
def r109_0:List AI:=[oY 2 5 0,oI 4 0,oC 5 (.b false)]
def r109_1:List AI:=[oF 15 0 2,oL 16 15,oO 17 (.build [z8,z6,zs,zl,zb] [(0,1,(.t 16))]),oO 6 (.alloc [z8,z6,zs,zl,zb]),oS 5 6 17,oI 7 0,oI 8 0]
def r109_2:List AI:=[oF 18 0 2,oL 19 18]
def r109_3:List AI:=[oW 21 .eql 19 1,oM 20 21]
def r109_4:List AI:=[oF 22 1 2,oL 23 22,oV 24 .and 23 1,oF 25 1 6,oS 1 25 24]
def r109_5:List AI:=[oW 27 .eql 19 2,oM 26 27]
def r109_6:List AI:=[oF 28 1 2,oL 29 28,oF 30 1 6,oS 1 30 29]
def r109_7:List AI:=[oW 32 .eql 19 3,oM 31 32]
def r109_8:List AI:=[oF 33 2 2,oL 34 33,oF 35 2 6,oS 1 35 34]
def r109_9:List AI:=[oW 37 .eql 19 4,oM 36 37]
def r109_10:List AI:=[oF 38 4 2,oL 39 38,oF 40 4 6,oS 1 40 39,oI 7 1]
def r109_11:List AI:=[oW 42 .eql 19 5,oM 41 42]
def r109_12:List AI:=[oI 7 8]
def r109_13:List AI:=[oW 44 .eql 19 6,oM 43 44]
def r109_14:List AI:=[oI 7 16,oI 8 1]
def r109_15:List AI:=[oW 46 .eql 19 7,oM 45 46]
def r109_16:List AI:=[oF 47 4 2,oL 48 47,oF 49 4 6,oS 1 49 48,oI 7 16]
def r109_17:List AI:=[oI 4 0,oC 5 (.b false)]
def r109_18:List AI:=[oF 50 3 2,oL 51 50,oJ 52 51,oM 9 52]
def r109_19:List AI:=[oM 53 1,oV 54 .eql 53 0,oM 55 54,gF 55 (oF 56 1 6),gF 55 (oL 57 56),gF 55 (oF 58 1 2),gF 55 (oL 59 58),gF 55 (oT 60 .neq 57 59),oR 61 55 60,oM 62 61,gF 62 (oF 63 2 6),gF 62 (oL 64 63),gF 62 (oF 65 2 2),gF 62 (oL 66 65),gF 62 (oT 67 .neq 64 66),oR 68 62 67,oM 69 68,gF 69 (oF 70 2 2),gF 69 (oL 71 70),gF 69 (oH 72 71),gF 69 (oV 73 .gtr 72 64),oR 74 69 73,oM 75 74,gF 75 (oF 76 4 6),gF 75 (oL 77 76),gF 75 (oF 78 4 2),gF 75 (oL 79 78),gF 75 (oO 80 (.beq true (.t 77) (.t 79))),oR 81 75 80,oM 82 81,gF 82 (oF 83 4 2),gF 82 (oL 84 83),gF 82 (oM 85 84),gT 85 (oM 86 9),gT 85 (oV 87 .gtr 86 0),gF 82 (oA 88 85 87),oR 89 82 88,oM 90 89,gF 90 (oM 91 9),gF 90 (oM 92 7),gF 90 (oT 93 .gtr 91 92),oR 94 90 93,oM 95 94,gF 95 (oM 96 9),gF 95 (oM 97 8),gF 95 (oT 98 .lss 96 97),oR 99 95 98]
def r109_20:List AI:=[oI 4 0,oC 5 (.b false)]
def r109_21:List AI:=[oI 10 1]
def r109_22:List AI:=[oF 100 3 2,oL 101 100,oJ 102 101,oI 103 0]
def r109_23:List AI:=[oT 104 .lss 103 102]
def r109_24:List AI:=[oX 105 5 101 103,oK 106 5 105,oO 12 (.alloc [z8,z6,zs,zl,zb]),oS 5 12 106]
def r109_25:List AI:=[oK 108 5 12,oM 109 1,oV 110 .sub 109 1,oQ 111 109 [108,110],oM 107 111,oE 112 0 107,oE 113 1 107,oM 13 112,oM 14 113]
def r109_26:List AI:=[oM 114 10,oM 115 13,oT 116 .add 114 115,oM 10 116]
def r109_27:List AI:=[oM 117 14,oZ 118 117,oM 119 118,gF 119 (oM 120 10),gF 119 (oV 121 .gtr 120 5000),oR 122 119 121]
def r109_28:List AI:=[oI 4 0,oC 5 (.b false)]
def r109_29:List AI:=[oV 123 .add 103 1,oM 103 123]
def r109_30:List AI:=[oM 124 10,oM 4 124,oC 5 (.b true)]
abbrev l109_0:AC:=(sR 23 r109_23 (.seq (.cond (.t 104) .skip (.exit 1)) (.seq (.block 2 (sR 24 r109_24 (sR 25 r109_25 (sR 26 r109_26 (sR 27 r109_27 (.cond (.t 122) (sR 28 r109_28 .ret) .skip)))))) (.reg 29 r109_29))))
abbrev c109_1:AC:=(sR 30 r109_30 .ret)
abbrev c109_2:AC:=(.seq (sR 19 r109_19 (.cond (.t 99) (sR 20 r109_20 .ret) .skip)) (sR 21 r109_21 (.seq (sR 22 r109_22 (.block 1 (.loop l109_0))) c109_1)))
abbrev c109_3:AC:=(sR 18 r109_18 c109_2)
abbrev c109_4:AC:=(.seq (sR 2 r109_2 (.block 0 (sR 4 r109_3 (.cond (.t 20) (.reg 5 r109_4) (sR 6 r109_5 (.cond (.t 26) (.reg 7 r109_6) (sR 8 r109_7 (.cond (.t 31) (.reg 9 r109_8) (sR 10 r109_9 (.cond (.t 36) (.reg 11 r109_10) (sR 12 r109_11 (.cond (.t 41) (.reg 13 r109_12) (sR 14 r109_13 (.cond (.t 43) (.reg 15 r109_14) (sR 16 r109_15 (.cond (.t 45) (.reg 17 r109_16) (sR 3 r109_17 .ret))))))))))))))))) c109_3)
abbrev c109_5:AC:=(sR 1 r109_1 c109_4)
abbrev b109:AC:=(sR 0 r109_0 c109_5)
def pf109:AF:={ nt:=125,res:=[.tmp 4,.tmp 5],body:=b109 }
abbrev I109_0 (prog:Prog)(d:Nat)(Q:AE→Sl→St→Prop)(nest1:Int)(t101:List Val)(t102:Int)(sum10:Int)(t103:Int):Prop:=
  ∀(σ:Sl)(st:St)(o_t101:Own),σ 1=.i .i64 nest1→σ 10=.i .i64 sum10→σ 101=.sl o_t101 (List.map Val.row t101)→σ 102=.i .i64 t102→σ 103=.i .i64 t103→W prog d (.loop l109_0) σ st (blockW 1 (thenW prog d c109_1 Q))
def T109_6 (prog:Prog)(K:Int→Bool→Prop)(sum10:Int):Prop:=
  K sum10 true
def T109_5 (prog:Prog)(K:Int→Bool→Prop)(P0:Int→Int→Prop)(nest1:Int)(sum10:Int)(t101:List Val)(t102:Int)(t103:Int):Prop:=
  (t103<t102→0≤t103∧∃j:Val,t101[(t103).toNat]?=some j∧∃c e,Pus prog 109 [j.av,.i .i64 (IntKind.i64.wrap (nest1-1))] (.tup [.i .i64 c,.b e])∧((!e)=true→K 0 false)∧((!e)=false→((IntKind.i64.wrap (sum10+c))>5000→K 0 false)∧(¬((IntKind.i64.wrap (sum10+c))>5000)→P0 (IntKind.i64.wrap (sum10+c)) (IntKind.i64.wrap (t103+1)))))∧(¬(t103<t102)→T109_6 prog K sum10)
def T109_4 (prog:Prog)(K:Int→Bool→Prop)(nest1:Int)(most7:Int)(least8:Int)(n9:Int)(m0:Val)(m4099:Val):Prop:=
  (nest1=0→K 0 false)∧(¬(nest1=0)→(m4099.int≠m0.int→K 0 false)∧(¬(m4099.int≠m0.int)→(m4099.text≠m0.text→K 0 false)∧(¬(m4099.text≠m0.text)→((m0.text.length:Int)>64→K 0 false)∧(¬((m0.text.length:Int)>64)→(m4099.cut≠m0.cut→K 0 false)∧(¬(m4099.cut≠m0.cut)→(m0.cut=true→(n9>0→K 0 false)∧(¬(n9>0)→(n9>most7→K 0 false)∧(¬(n9>most7)→(n9<least8→K 0 false)∧(¬(n9<least8)→∀P0:Int→Int→Prop,(∀(sum10:Int)(t103:Int),T109_5 prog K P0 nest1 sum10 m0.list (m0.list.length:Int) t103→P0 sum10 t103)→P0 1 0))))∧(m0.cut=false→(n9>most7→K 0 false)∧(¬(n9>most7)→(n9<least8→K 0 false)∧(¬(n9<least8)→∀P0:Int→Int→Prop,(∀(sum10:Int)(t103:Int),T109_5 prog K P0 nest1 sum10 m0.list (m0.list.length:Int) t103→P0 sum10 t103)→P0 1 0))))))))
def T109_3 (prog:Prog)(K:Int→Bool→Prop)(nest1:Int)(most7:Int)(least8:Int)(m0:Val)(m4099:Val):Prop:=
  T109_4 prog K nest1 most7 least8 (m0.list.length:Int) m0 m4099
def T109_2 (prog:Prog)(K:Int→Bool→Prop)(nest1:Int)(most7:Int)(least8:Int)(m0:Val)(m4099:Val):Prop:=
  (m0.kind=1→T109_3 prog K nest1 most7 least8 m0 (Val.mk m4099.kind (bAnd .i64 m0.int 1) m4099.text m4099.list m4099.cut))∧(¬(m0.kind=1)→(m0.kind=2→T109_3 prog K nest1 most7 least8 m0 (Val.mk m4099.kind m0.int m4099.text m4099.list m4099.cut))∧(¬(m0.kind=2)→(m0.kind=3→T109_3 prog K nest1 most7 least8 m0 (Val.mk m4099.kind m4099.int m0.text m4099.list m4099.cut))∧(¬(m0.kind=3)→(m0.kind=4→T109_3 prog K nest1 1 least8 m0 (Val.mk m4099.kind m4099.int m4099.text m4099.list m0.cut))∧(¬(m0.kind=4)→(m0.kind=5→T109_3 prog K nest1 8 least8 m0 m4099)∧(¬(m0.kind=5)→(m0.kind=6→T109_3 prog K nest1 16 1 m0 m4099)∧(¬(m0.kind=6)→(m0.kind=7→T109_3 prog K nest1 16 least8 m0 (Val.mk m4099.kind m4099.int m4099.text m4099.list m0.cut))∧(¬(m0.kind=7)→K 0 false)))))))
def T109_1 (prog:Prog)(K:Int→Bool→Prop)(nest1:Int)(m0:Val):Prop:=
  T109_2 prog K nest1 0 0 m0 (Val.mk m0.kind 0 [] ([]:List Val) false)
def T109_0 (prog:Prog)(K:Int→Bool→Prop)(v0:Val)(nest1:Int):Prop:=
  T109_1 prog K nest1 v0
section
variable {prog:Prog}{d:Nat}{Q:AE→Sl→St→Prop}{K:Int→Bool→Prop}(hQ:H2 (AV.i .i64) AV.b 4 5 Q K){σ:Sl}{st:St}
include hQ
variable {sum10 nest1:Int}{t101:List Val}{t102 t103:Int}{P0:Int→Int→Prop}{o_t101:Own}{most7 least8 n9:Int}{m0 m4099:Val}{o_m4099_3:Own}{v0 v4099:Nat}
variable (kP0 :∀(sum10:Int)(t103:Int),P0 sum10 t103→I109_0 prog d Q nest1 t101 t102 sum10 t103)(H1:σ 1=.i .i64 nest1)(H10:σ 10=.i .i64 sum10)(H2:σ 2=.p (d,0) v0 0)(H101:σ 101=.sl o_t101 (List.map Val.row t101))(H6:σ 6=.p (d,4099) v4099 0)(H102:σ 102=.i .i64 t102)(H7:σ 7=.i .i64 most7)(H103:σ 103=.i .i64 t103)(H8:σ 8=.i .i64 least8)(H9:σ 9=.i .i64 n9)(Ab4099:ApM d st.ow o_m4099_3 m4099.list.length)(B0:lk st.bx (d,0)=some (v0,Val.cs m0))(B4099:lk st.bx (d,4099)=some (v4099,[.i .u8 m4099.kind,.i .i64 m4099.int,.s m4099.text,.sl o_m4099_3 (List.map Val.row m4099.list),.b m4099.cut]))
include H10 in
theorem w109_6 (h:T109_6 prog K sum10):W prog d c109_1 σ st Q:=
 au trivial
include kP0 H1 H10 H101 H102 H103 in
theorem w109_5 (h:T109_5 prog K P0 nest1 sum10 t101 t102 t103):W prog d l109_0 σ st (thenW prog d (.loop l109_0) (blockW 1 (thenW prog d c109_1 Q))):=
 au @w109_6
include H1 H2 H6 H7 H8 H9 Ab4099 B0 B4099 in
theorem w109_4 (h:T109_4 prog K nest1 most7 least8 n9 m0 m4099):W prog d c109_2 σ st Q:=
 sq_ (q_ J (s_mvI H1 (b_ J J eql_ (s_mvB J (em_ (g:=55) J (fun c=>z_ 30 J (gt_ J (gt_ J (z_ 12 J (e_ (ct_ J (q_ J (m_ (m_ (er_ (hQ J J (h.1 c)))))))))))) (fun c=>gy_ J (f_ H6 (gy_ J (l_ J B4099 J J (gy_ J (f_ H2 (gy_ J (l_ J B0 J J (gy_ J (b_ J J neq_ (z_ 2 J (em_ (g:=62) J (fun e=>z_ 23 J (gt_ J (gt_ J (z_ 12 J (e_ (ct_ J (q_ J (m_ (m_ (er_ (hQ J J ((h.2 c).1 e)))))))))))) (fun e=>gy_ J (f_ H6 (gy_ J (l_ J B4099 J J (gy_ J (f_ H2 (gy_ J (l_ J B0 J J (gy_ J (b_ J J sne_ (z_ 2 J (em_ (g:=69) J (fun i=>z_ 16 J (gt_ J (gt_ J (z_ 12 J (e_ (ct_ J (q_ J (m_ (m_ (er_ (hQ J J (((h.2 c).2 e).1 i)))))))))))) (fun i=>gy_ J (f_ H2 (gy_ J (l_ J B0 J J (gy_ J (ln_ J (gy_ J (b_ J J gtr_ (z_ 2 J (em_ (g:=75) J (fun j=>z_ 10 J (gt_ J (gt_ J (z_ 12 J (e_ (ct_ J (q_ J (m_ (m_ (er_ (hQ J J ((((h.2 c).2 e).2 i).1 j)))))))))))) (fun j=>gy_ J (f_ H6 (gy_ J (l_ J B4099 J J (gy_ J (f_ H2 (gy_ J (l_ J B0 J J (gy_ J (s_bne J J (z_ 2 J (em_ (g:=82) J (fun k=>z_ 3 J (gt_ J (gt_ J (z_ 12 J (e_ (ct_ J (q_ J (m_ (m_ (er_ (hQ J J (((((h.2 c).2 e).2 i).2 j).1 k)))))))))))) (fun k=>gy_ J (f_ H2 (gy_ J (l_ J B0 J J (gy_ J (s_mvB J (eb_ (g:=85) J (fun o=>gy_ J (s_mvI H9 (gy_ J (b_ J J gtr_ (gy_ J (z_ 3 J (em_ (g:=90) J (fun p=>z_ 9 J (e_ (ct_ J (q_ J (m_ (m_ (er_ (hQ J J (((((((h.2 c).2 e).2 i).2 j).2 k).1 o).1 p))))))))) (fun p=>gy_ J (s_mvI H9 (gy_ J (s_mvI H7 (gy_ J (b_ J J gtr_ (z_ 2 J (em_ (g:=95) J (fun r=>z_ 4 J (e_ (ct_ J (q_ J (m_ (m_ (er_ (hQ J J ((((((((h.2 c).2 e).2 i).2 j).2 k).1 o).2 p).1 r))))))))) (fun r=>gy_ J (s_mvI H9 (gy_ J (s_mvI H8 (gy_ J (b_ J J lss_ (pf_ J J (e_ (cs_ J (fun u=>q_ J (m_ (m_ (er_ (hQ J J (((((((((h.2 c).2 e).2 i).2 j).2 k).1 o).2 p).2 r).1 u)))))) (fun u=>sk_ (q_ J (m_ (e_ (sq_ (q_ J (f_ H2 (l_ J B0 J J (ll_ J (m_ (e_ (bk_ ((((((((((h.2 c).2 e).2 i).2 j).2 k).1 o).2 p).2 r).2 u) (I109_0 prog d Q nest1 m0.list (m0.list.length:Int)) (fun _ _ hb _ _ _ H1 H10 H101 H102 H103=>W.loop (w109_5 hQ (fun _ _ x=>x) H1 H10 H101 H102 H103 hb)) _ _ _ H1 J J J J))))))))))))))))))))))))))))))))))))) (fun o=>z_ 2 J (gy_ J (z_ 3 J (gy_ J (s_mvI H9 (gy_ J (s_mvI H7 (gy_ J (b_ J J gtr_ (z_ 2 J (em_ (g:=95) J (fun q=>z_ 4 J (e_ (ct_ J (q_ J (m_ (m_ (er_ (hQ J J (((((((h.2 c).2 e).2 i).2 j).2 k).2 o).1 q))))))))) (fun q=>gy_ J (s_mvI H9 (gy_ J (s_mvI H8 (gy_ J (b_ J J lss_ (pf_ J J (e_ (cs_ J (fun s=>q_ J (m_ (m_ (er_ (hQ J J ((((((((h.2 c).2 e).2 i).2 j).2 k).2 o).2 q).1 s)))))) (fun s=>sk_ (q_ J (m_ (e_ (sq_ (q_ J (f_ H2 (l_ J B0 J J (ll_ J (m_ (e_ (bk_ (((((((((h.2 c).2 e).2 i).2 j).2 k).2 o).2 q).2 s) (I109_0 prog d Q nest1 m0.list (m0.list.length:Int)) (fun _ _ hb _ _ _ H1 H10 H101 H102 H103=>W.loop (w109_5 hQ (fun _ _ x=>x) H1 H10 H101 H102 H103 hb)) _ _ _ H1 J J J J)))))))))))))))))))))))))))))))))))))))))))))))))))))))))))))))))))))))))))))))))))))))))))
include H1 H2 H6 H7 H8 Ab4099 B0 B4099 in
theorem w109_3 (h:T109_3 prog K nest1 most7 least8 m0 m4099):W prog d c109_3 σ st Q:=
 au @w109_4
include H1 H2 H6 H7 H8 Ab4099 B0 B4099 in
theorem w109_2 (h:T109_2 prog K nest1 most7 least8 m0 m4099):W prog d c109_4 σ st Q:=
 sq_ (q_ J (f_ H2 (l_ J B0 J J (e_ (bk_ (q_ J (b_ J J eql_ (m_ (e_ (cs_ J (fun c=>W.reg0 J fun _ _=>f_ H2 (l_ J B0 J J (b_ J J (abin_and _ _ _) (f_ H6 (so_ J B4099 J J J (e_ (w109_3 (m4099:=(Val.mk m4099.kind (bAnd .i64 m0.int 1) m4099.text m4099.list m4099.cut)) hQ H1 H2 H6 H7 H8 Ab4099 (lk_other J B0) lk_here (h.1 c)))))))) (fun c=>q_ J (b_ J J eql_ (m_ (e_ (cs_ J (fun e=>W.reg0 J fun _ _=>f_ H2 (l_ J B0 J J (f_ H6 (so_ J B4099 J J J (e_ (w109_3 (m4099:=(Val.mk m4099.kind m0.int m4099.text m4099.list m4099.cut)) hQ H1 H2 H6 H7 H8 Ab4099 (lk_other J B0) lk_here ((h.2 c).1 e))))))) (fun e=>q_ J (b_ J J eql_ (m_ (e_ (cs_ J (fun i=>W.reg0 J fun _ _=>f_ H2 (l_ J B0 J J (f_ H6 (so_ J B4099 J J J (e_ (w109_3 (m4099:=(Val.mk m4099.kind m4099.int m0.text m4099.list m4099.cut)) hQ H1 H2 H6 H7 H8 Ab4099 (lk_other J B0) lk_here (((h.2 c).2 e).1 i))))))) (fun i=>q_ J (b_ J J eql_ (m_ (e_ (cs_ J (fun j=>W.reg0 J fun _ _=>f_ H2 (l_ J B0 J J (f_ H6 (so_ J B4099 J J J (m_ (e_ (w109_3 (m4099:=(Val.mk m4099.kind m4099.int m4099.text m4099.list m0.cut)) hQ H1 H2 H6 J H8 Ab4099 (lk_other J B0) lk_here ((((h.2 c).2 e).2 i).1 j)))))))) (fun j=>q_ J (b_ J J eql_ (m_ (e_ (cs_ J (fun k=>W.reg0 J fun _ _=>m_ (e_ (w109_3 hQ H1 H2 H6 J H8 Ab4099 B0 B4099 (((((h.2 c).2 e).2 i).2 j).1 k)))) (fun k=>q_ J (b_ J J eql_ (m_ (e_ (cs_ J (fun o=>W.reg0 J fun _ _=>m_ (m_ (e_ (w109_3 hQ H1 H2 H6 J J Ab4099 B0 B4099 ((((((h.2 c).2 e).2 i).2 j).2 k).1 o))))) (fun o=>q_ J (b_ J J eql_ (m_ (e_ (cs_ J (fun p=>W.reg0 J fun _ _=>f_ H2 (l_ J B0 J J (f_ H6 (so_ J B4099 J J J (m_ (e_ (w109_3 (m4099:=(Val.mk m4099.kind m4099.int m4099.text m4099.list m0.cut)) hQ H1 H2 H6 J H8 Ab4099 (lk_other J B0) lk_here (((((((h.2 c).2 e).2 i).2 j).2 k).2 o).1 p)))))))) (fun p=>q_ J (m_ (m_ (er_ (hQ J J (((((((h.2 c).2 e).2 i).2 j).2 k).2 o).2 p))))))))))))))))))))))))))))))))))))))))))))))
include H1 H2 B0 in
theorem w109_1 (h:T109_1 prog K nest1 m0):W prog d c109_5 σ st Q:=
 sq_ (W.reg (f_ H2 (l_ J (lk_other J B0) J J (s_build (f_cons J J f_nil) (s_alloc (so_ J (show lk _ (d,4099)=some (_,([.i .u8 0,.i .i64 0,.s [],.sl .full (List.map Val.row ([]:List Val)),.b false]:List AV)) from lk_here) J J J (m_ (m_ (e_ (w109_2 (m4099:=(Val.mk m0.kind 0 [] ([]:List Val) false)) hQ H1 H2 J J J ApM.full (lk_other J (lk_other J B0)) lk_here h))))))))))
theorem w109_0 {v0:Val}{nest1:Int}(H0:σ 0=v0.av)(H1:σ 1=.i .i64 nest1)(h:T109_0 prog K v0 nest1):W prog d (sR 0 r109_0 c109_5) σ st Q:=
 au @w109_1
end
theorem p109 {prog:Prog}(hf:prog.fn 109=some pf109){v0:Val}{nest1:Int}{K:Int→Bool→Prop}(h:T109_0 prog K v0 nest1) :∃res0:Int,∃res1:Bool,K res0 res1∧Pus prog 109 [v0.av,.i .i64 nest1] (.tup [.i .i64 res0,.b res1]):=
 P2 hf J (w109_0 (h2 J fun _ _=>J) J J h)
def r110_0:List AI:=[oY 2 5 0,oC 4 (.b false)]
def r110_1:List AI:=[oM 7 1,oV 8 .eql 7 0]
def r110_2:List AI:=[oC 4 (.b false)]
def r110_3:List AI:=[oF 9 0 2,oL 10 9]
def r110_4:List AI:=[oW 12 .eql 10 1,oM 11 12]
def r110_5:List AI:=[oK 13 5 2,oQ 14 136 [13],oM 15 14,gT 15 (oF 16 2 2),gT 15 (oL 17 16),gT 15 (oB 18 .eql (.t 17) (.c (.s []))),oA 19 15 18,oM 20 19,gT 20 (oF 21 1 2),gT 20 (oL 22 21),gT 20 (oV 23 .eql 22 0),gT 20 (oM 24 23),gF 24 (oF 25 1 2),gF 24 (oL 26 25),gF 24 (oV 27 .eql 26 1),gT 20 (oR 28 24 27),oA 29 20 28,oM 4 29]
def r110_6:List AI:=[oW 31 .eql 10 2,oM 30 31]
def r110_7:List AI:=[oK 32 5 2,oQ 33 136 [32],oM 34 33,gT 34 (oF 35 2 2),gT 34 (oL 36 35),gT 34 (oB 37 .eql (.t 36) (.c (.s []))),oA 38 34 37,oM 4 38]
def r110_8:List AI:=[oW 40 .eql 10 3,oM 39 40]
def r110_9:List AI:=[oK 41 5 2,oQ 42 136 [41],oM 43 42,gT 43 (oF 44 1 2),gT 43 (oL 45 44),gT 43 (oV 46 .eql 45 0),oA 47 43 46,oM 48 47,gT 48 (oF 49 2 2),gT 48 (oL 50 49),gT 48 (oH 51 50),gT 48 (oV 52 .leq 51 64),oA 53 48 52,oM 4 53]
def r110_10:List AI:=[oF 54 0 2,oL 55 54,oW 56 .lss 55 4,oM 57 56,gF 57 (oF 58 0 2),gF 57 (oL 59 58),gF 57 (oW 60 .gtr 59 7),oR 61 57 60,oM 62 61,gF 62 (oF 63 1 2),gF 62 (oL 64 63),gF 62 (oV 65 .neq 64 0),oR 66 62 65,oM 67 66,gF 67 (oF 68 2 2),gF 67 (oL 69 68),gF 67 (oB 70 .neq (.t 69) (.c (.s []))),oR 71 67 70]
def r110_11:List AI:=[oC 4 (.b false)]
def r110_12:List AI:=[oI 5 16]
def r110_13:List AI:=[oF 72 0 2,oL 73 72,oW 74 .eql 73 4]
def r110_14:List AI:=[oI 5 1]
def r110_15:List AI:=[oF 75 0 2,oL 76 75,oW 77 .eql 76 5]
def r110_16:List AI:=[oI 5 8]
def r110_17:List AI:=[oF 78 3 2,oL 79 78,oJ 80 79,oM 81 5,oT 82 .gtr 80 81,oM 83 82,gF 83 (oF 84 0 2),gF 83 (oL 85 84),gF 83 (oW 86 .eql 85 6),gF 83 (oM 87 86),gT 87 (oF 88 3 2),gT 87 (oL 89 88),gT 87 (oJ 90 89),gT 87 (oV 91 .eql 90 0),gF 83 (oA 92 87 91),oR 93 83 92]
def r110_18:List AI:=[oC 4 (.b false)]
def r110_19:List AI:=[oF 94 4 2,oL 95 94,oM 96 95,gT 96 (oF 97 3 2),gT 96 (oL 98 97),gT 96 (oJ 99 98),gT 96 (oV 100 .gtr 99 0),gT 96 (oM 101 100),gF 101 (oF 102 0 2),gF 101 (oL 103 102),gF 101 (oW 104 .neq 103 4),gF 101 (oM 105 104),gT 105 (oF 106 0 2),gT 105 (oL 107 106),gT 105 (oW 108 .neq 107 7),gF 101 (oA 109 105 108),gT 96 (oR 110 101 109),oA 111 96 110]
def r110_20:List AI:=[oC 4 (.b false)]
def r110_21:List AI:=[oI 6 0]
def r110_22:List AI:=[oM 112 6,oF 113 3 2,oL 114 113,oJ 115 114,oT 116 .lss 112 115]
def r110_23:List AI:=[oF 119 3 2,oL 120 119,oM 121 6,oX 122 5 120 121,oK 123 5 122,oM 124 1,oV 125 .sub 124 1,oQ 126 110 [123,125],oZ 127 126]
def r110_24:List AI:=[oC 4 (.b false)]
def r110_25:List AI:=[oM 117 6,oV 118 .add 117 1,oM 6 118]
def r110_26:List AI:=[oC 4 (.b true)]
abbrev l110_0:AC:=(.seq (sR 22 r110_22 (.cond (.t 116) .skip (.exit 1))) (.seq (.block 2 (sR 24 r110_23 (.cond (.t 127) (sR 25 r110_24 .ret) .skip))) (.reg 23 r110_25)))
abbrev c110_1:AC:=(sR 26 r110_26 .ret)
abbrev c110_2:AC:=(.seq (sR 17 r110_17 (.cond (.t 93) (sR 18 r110_18 .ret) .skip)) (.seq (sR 19 r110_19 (.cond (.t 111) (sR 20 r110_20 .ret) .skip)) (.seq (sR 21 r110_21 (.block 1 (.loop l110_0))) c110_1)))
abbrev c110_3:AC:=(.seq (sR 15 r110_15 (.cond (.t 77) (.reg 16 r110_16) .skip)) c110_2)
abbrev c110_4:AC:=(.seq (sR 13 r110_13 (.cond (.t 74) (.reg 14 r110_14) .skip)) c110_3)
abbrev c110_5:AC:=(sR 12 r110_12 c110_4)
abbrev c110_6:AC:=(.seq (sR 10 r110_10 (.cond (.t 71) (sR 11 r110_11 .ret) .skip)) c110_5)
abbrev c110_7:AC:=(.seq (sR 3 r110_3 (.block 0 (sR 4 r110_4 (.cond (.t 11) (sR 5 r110_5 .ret) (sR 6 r110_6 (.cond (.t 30) (sR 7 r110_7 .ret) (sR 8 r110_8 (.cond (.t 39) (sR 9 r110_9 .ret) .skip)))))))) c110_6)
abbrev c110_8:AC:=(.seq (sR 1 r110_1 (.cond (.t 8) (sR 2 r110_2 .ret) .skip)) c110_7)
abbrev b110:AC:=(sR 0 r110_0 c110_8)
def pf110:AF:={ nt:=128,res:=[.tmp 4],body:=b110 }
abbrev I110_0 (prog:Prog)(d:Nat)(Q:AE→Sl→St→Prop)(deep1:Int)(i6:Int)(m0:Val):Prop:=
  ∀(σ:Sl)(st:St)(v0:Nat),σ 1=.i .i64 deep1→σ 2=.p (d,0) v0 0→σ 6=.i .i64 i6→lk st.bx (d,0)=some (v0,Val.cs m0)→W prog d (.loop l110_0) σ st (blockW 1 (thenW prog d c110_1 Q))
def T110_9 (prog:Prog)(K:Bool→Prop) :Prop:=
  K true
def T110_8 (prog:Prog)(K:Bool→Prop)(P0:Int→Val→Prop)(deep1:Int)(i6:Int)(m0:Val):Prop:=
  (i6<(m0.list.length:Int)→0≤i6∧∃e:Val,m0.list[(i6).toNat]?=some e∧∃c,Pus prog 110 [e.av,.i .i64 (IntKind.i64.wrap (deep1-1))] (.b c)∧((!c)=true→K false)∧((!c)=false→P0 (IntKind.i64.wrap (i6+1)) m0))∧(¬(i6<(m0.list.length:Int))→T110_9 prog K )
def T110_7 (prog:Prog)(K:Bool→Prop)(deep1:Int)(most5:Int)(m0:Val):Prop:=
  ((m0.list.length:Int)>most5→K false)∧(¬((m0.list.length:Int)>most5)→(m0.kind=6→((m0.list.length:Int)=0→K false)∧(¬((m0.list.length:Int)=0)→(m0.cut=true→((m0.list.length:Int)>0→K false)∧(¬((m0.list.length:Int)>0)→(m0.kind≠4→(m0.kind≠7→K false)∧(¬(m0.kind≠7)→∀P0:Int→Val→Prop,(∀(i6:Int)(m0:Val),T110_8 prog K P0 deep1 i6 m0→P0 i6 m0)→P0 0 m0))∧(¬(m0.kind≠4)→∀P0:Int→Val→Prop,(∀(i6:Int)(m0:Val),T110_8 prog K P0 deep1 i6 m0→P0 i6 m0)→P0 0 m0)))∧(m0.cut=false→∀P0:Int→Val→Prop,(∀(i6:Int)(m0:Val),T110_8 prog K P0 deep1 i6 m0→P0 i6 m0)→P0 0 m0)))∧(¬(m0.kind=6)→(m0.cut=true→((m0.list.length:Int)>0→K false)∧(¬((m0.list.length:Int)>0)→(m0.kind≠4→(m0.kind≠7→K false)∧(¬(m0.kind≠7)→∀P0:Int→Val→Prop,(∀(i6:Int)(m0:Val),T110_8 prog K P0 deep1 i6 m0→P0 i6 m0)→P0 0 m0))∧(¬(m0.kind≠4)→∀P0:Int→Val→Prop,(∀(i6:Int)(m0:Val),T110_8 prog K P0 deep1 i6 m0→P0 i6 m0)→P0 0 m0)))∧(m0.cut=false→∀P0:Int→Val→Prop,(∀(i6:Int)(m0:Val),T110_8 prog K P0 deep1 i6 m0→P0 i6 m0)→P0 0 m0)))
def T110_6 (prog:Prog)(K:Bool→Prop)(deep1:Int)(most5:Int)(m0:Val):Prop:=
  (m0.kind=5→T110_7 prog K deep1 8 m0)∧(¬(m0.kind=5)→T110_7 prog K deep1 most5 m0)
def T110_5 (prog:Prog)(K:Bool→Prop)(deep1:Int)(most5:Int)(m0:Val):Prop:=
  (m0.kind=4→T110_6 prog K deep1 1 m0)∧(¬(m0.kind=4)→T110_6 prog K deep1 most5 m0)
def T110_4 (prog:Prog)(K:Bool→Prop)(deep1:Int)(m0:Val):Prop:=
  T110_5 prog K deep1 16 m0
def T110_3 (prog:Prog)(K:Bool→Prop)(deep1:Int)(m0:Val):Prop:=
  (m0.kind<4→K false)∧(¬(m0.kind<4)→(m0.kind>7→K false)∧(¬(m0.kind>7)→(m0.int≠0→K false)∧(¬(m0.int≠0)→(m0.text≠([]:BS)→K false)∧(¬(m0.text≠([]:BS))→T110_4 prog K deep1 m0))))
def T110_2 (prog:Prog)(K:Bool→Prop)(deep1:Int)(m0:Val):Prop:=
  (m0.kind=1→∃c,Pus prog 136 [m0.av] (.b c)∧(c=true→(m0.text=([]:BS)→(m0.int=0→K true)∧(¬(m0.int=0)→K (decide (m0.int=1))))∧(¬(m0.text=([]:BS))→K false))∧(c=false→K false))∧(¬(m0.kind=1)→(m0.kind=2→∃i,Pus prog 136 [m0.av] (.b i)∧(i=true→K (decide (m0.text=([]:BS))))∧(i=false→K false))∧(¬(m0.kind=2)→(m0.kind=3→∃e,Pus prog 136 [m0.av] (.b e)∧(e=true→(m0.int=0→K (decide ((m0.text.length:Int)≤64)))∧(¬(m0.int=0)→K false))∧(e=false→K false))∧(¬(m0.kind=3)→T110_3 prog K deep1 m0)))
def T110_1 (prog:Prog)(K:Bool→Prop)(deep1:Int)(m0:Val):Prop:=
  (deep1=0→K false)∧(¬(deep1=0)→T110_2 prog K deep1 m0)
def T110_0 (prog:Prog)(K:Bool→Prop)(v0:Val)(deep1:Int):Prop:=
  T110_1 prog K deep1 v0
section
variable {prog:Prog}{d:Nat}{Q:AE→Sl→St→Prop}{K:Bool→Prop}(hQ:H1 AV.b 4 Q K){σ:Sl}{st:St}
include hQ
variable {deep1 i6:Int}{m0:Val}{P0:Int→Val→Prop}{v0:Nat}{most5:Int}
variable (kP0 :∀(i6:Int)(m0:Val),P0 i6 m0→I110_0 prog d Q deep1 i6 m0)(H1:σ 1=.i .i64 deep1)(H2:σ 2=.p (d,0) v0 0)(H6:σ 6=.i .i64 i6)(H5:σ 5=.i .i64 most5)(B0:lk st.bx (d,0)=some (v0,Val.cs m0))
theorem w110_9 (h:T110_9 prog K ):W prog d c110_1 σ st Q:=
 au trivial
include kP0 H1 H2 H6 B0 in
theorem w110_8 (h:T110_8 prog K P0 deep1 i6 m0):W prog d l110_0 σ st (thenW prog d (.loop l110_0) (blockW 1 (thenW prog d c110_1 Q))):=
 au @w110_9
include H1 H2 H5 B0 in
theorem w110_7 (h:T110_7 prog K deep1 most5 m0):W prog d c110_2 σ st Q:=
 sq_ (q_ J (f_ H2 (l_ J B0 J J (ll_ J (s_mvI H5 (b_ J J gtr_ (s_mvB J (em_ (g:=83) J (fun c=>z_ 4 J (gt_ J (gt_ J (gt_ J (gt_ J (z_ 2 J (e_ (ct_ J (q_ J (m_ (er_ (hQ J (h.1 c))))))))))))) (fun c=>gy_ J (f_ H2 (gy_ J (l_ J B0 J J (gy_ J (b_ J J eql_ (gy_ J (s_mvB J (em_ (g:=87) J (fun e=>gy_ J (f_ H2 (gy_ J (l_ J B0 J J (gy_ J (ll_ J (gy_ J (b_ J J eql_ (gy_ J (z_ 2 J (e_ (cs_ J (fun i=>q_ J (m_ (er_ (hQ J (((h.2 c).1 e).1 i))))) (fun i=>sk_ (sq_ (q_ J (f_ H2 (l_ J B0 J J (s_mvB J (eb_ (g:=96) J (fun j=>gy_ J (f_ H2 (gy_ J (l_ J B0 J J (gy_ J (ll_ J (gy_ J (b_ J J gtr_ (gy_ J (s_mvB J (em_ (g:=101) J (fun o=>z_ 4 J (gt_ J (gt_ J (gt_ J (nT J (gy_ J (z_ 2 J (e_ (ct_ J (q_ J (m_ (er_ (hQ J (((((h.2 c).1 e).2 i).1 j).1 o)))))))))))))) (fun o=>gy_ J (f_ H2 (gy_ J (l_ J B0 J J (gy_ J (b_ J J neq_ (gy_ J (s_mvB J (em_ (g:=105) J (fun r=>gy_ J (f_ H2 (gy_ J (l_ J B0 J J (gy_ J (b_ J J neq_ (gy_ J (pt_ J J (gy_ J (z_ 2 J (e_ (cs_ J (fun u=>q_ J (m_ (er_ (hQ J (((((((h.2 c).1 e).2 i).1 j).2 o).1 r).1 u))))) (fun u=>sk_ (sq_ (q_ J (m_ (e_ (bk_ ((((((((h.2 c).1 e).2 i).1 j).2 o).1 r).2 u) (I110_0 prog d Q deep1) (fun _ _ hb _ _ _ H1 H2 H6 B0=>W.loop (w110_8 hQ (fun _ _ x=>x) H1 H2 H6 B0 hb)) _ _ _ H1 H2 J B0))))))))))))))))))) (fun r=>z_ 3 J (gy_ J (pf_ J J (gy_ J (z_ 2 J (e_ (cf_ J (sk_ (sq_ (q_ J (m_ (e_ (bk_ (((((((h.2 c).1 e).2 i).1 j).2 o).2 r) (I110_0 prog d Q deep1) (fun _ _ hb _ _ _ H1 H2 H6 B0=>W.loop (w110_8 hQ (fun _ _ x=>x) H1 H2 H6 B0 hb)) _ _ _ H1 H2 J B0)))))))))))))))))))))))))))))))))) (fun j=>z_ 5 J (gt_ J (gt_ J (gt_ J (gt_ J (gt_ J (gt_ J (gt_ J (gt_ J (z_ 2 J (e_ (cf_ J (sk_ (sq_ (q_ J (m_ (e_ (bk_ (((((h.2 c).1 e).2 i).2 j) (I110_0 prog d Q deep1) (fun _ _ hb _ _ _ H1 H2 H6 B0=>W.loop (w110_8 hQ (fun _ _ x=>x) H1 H2 H6 B0 hb)) _ _ _ H1 H2 J B0)))))))))))))))))))))))))))))))))))))) (fun e=>z_ 4 J (gy_ J (z_ 2 J (e_ (cf_ J (sk_ (sq_ (q_ J (f_ H2 (l_ J B0 J J (s_mvB J (eb_ (g:=96) J (fun k=>gy_ J (f_ H2 (gy_ J (l_ J B0 J J (gy_ J (ll_ J (gy_ J (b_ J J gtr_ (gy_ J (s_mvB J (em_ (g:=101) J (fun p=>z_ 4 J (gt_ J (gt_ J (gt_ J (nT J (gy_ J (z_ 2 J (e_ (ct_ J (q_ J (m_ (er_ (hQ J ((((h.2 c).2 e).1 k).1 p)))))))))))))) (fun p=>gy_ J (f_ H2 (gy_ J (l_ J B0 J J (gy_ J (b_ J J neq_ (gy_ J (s_mvB J (em_ (g:=105) J (fun q=>gy_ J (f_ H2 (gy_ J (l_ J B0 J J (gy_ J (b_ J J neq_ (gy_ J (pt_ J J (gy_ J (z_ 2 J (e_ (cs_ J (fun s=>q_ J (m_ (er_ (hQ J ((((((h.2 c).2 e).1 k).2 p).1 q).1 s))))) (fun s=>sk_ (sq_ (q_ J (m_ (e_ (bk_ (((((((h.2 c).2 e).1 k).2 p).1 q).2 s) (I110_0 prog d Q deep1) (fun _ _ hb _ _ _ H1 H2 H6 B0=>W.loop (w110_8 hQ (fun _ _ x=>x) H1 H2 H6 B0 hb)) _ _ _ H1 H2 J B0))))))))))))))))))) (fun q=>z_ 3 J (gy_ J (pf_ J J (gy_ J (z_ 2 J (e_ (cf_ J (sk_ (sq_ (q_ J (m_ (e_ (bk_ ((((((h.2 c).2 e).1 k).2 p).2 q) (I110_0 prog d Q deep1) (fun _ _ hb _ _ _ H1 H2 H6 B0=>W.loop (w110_8 hQ (fun _ _ x=>x) H1 H2 H6 B0 hb)) _ _ _ H1 H2 J B0)))))))))))))))))))))))))))))))))) (fun k=>z_ 5 J (gt_ J (gt_ J (gt_ J (gt_ J (gt_ J (gt_ J (gt_ J (gt_ J (z_ 2 J (e_ (cf_ J (sk_ (sq_ (q_ J (m_ (e_ (bk_ ((((h.2 c).2 e).2 k) (I110_0 prog d Q deep1) (fun _ _ hb _ _ _ H1 H2 H6 B0=>W.loop (w110_8 hQ (fun _ _ x=>x) H1 H2 H6 B0 hb)) _ _ _ H1 H2 J B0))))))))))))))))))))))))))))))))))))))))))))))))
include H1 H2 H5 B0 in
theorem w110_6 (h:T110_6 prog K deep1 most5 m0):W prog d c110_3 σ st Q:=
 au @w110_7
include H1 H2 H5 B0 in
theorem w110_5 (h:T110_5 prog K deep1 most5 m0):W prog d c110_4 σ st Q:=
 au @w110_6
include H1 H2 B0 in
theorem w110_4 (h:T110_4 prog K deep1 m0):W prog d c110_5 σ st Q:=
 au @w110_5
include H1 H2 B0 in
theorem w110_3 (h:T110_3 prog K deep1 m0):W prog d c110_6 σ st Q:=
 sq_ (q_ J (f_ H2 (l_ J B0 J J (b_ J J lss_ (s_mvB J (em_ (g:=57) J (fun c=>z_ 14 J (e_ (ct_ J (q_ J (m_ (er_ (hQ J (h.1 c)))))))) (fun c=>gy_ J (f_ H2 (gy_ J (l_ J B0 J J (gy_ J (b_ J J gtr_ (z_ 2 J (em_ (g:=62) J (fun e=>z_ 9 J (e_ (ct_ J (q_ J (m_ (er_ (hQ J ((h.2 c).1 e)))))))) (fun e=>gy_ J (f_ H2 (gy_ J (l_ J B0 J J (gy_ J (b_ J J neq_ (z_ 2 J (em_ (g:=67) J (fun i=>z_ 4 J (e_ (ct_ J (q_ J (m_ (er_ (hQ J (((h.2 c).2 e).1 i)))))))) (fun i=>gy_ J (f_ H2 (gy_ J (l_ J B0 J J (gy_ J (b_ J J sne_ (pf_ J J (e_ (cs_ J (fun j=>q_ J (m_ (er_ (hQ J ((((h.2 c).2 e).2 i).1 j))))) (fun j=>sk_ (w110_4 hQ H1 H2 B0 ((((h.2 c).2 e).2 i).2 j))))))))))))))))))))))))))))))))))
include H1 H2 B0 in
theorem w110_2 (h:T110_2 prog K deep1 m0):W prog d c110_7 σ st Q:=
 au @w110_3
include H1 H2 B0 in
theorem w110_1 (h:T110_1 prog K deep1 m0):W prog d c110_8 σ st Q:=
 au @w110_2
theorem w110_0 {v0:Val}{deep1:Int}(H0:σ 0=v0.av)(H1:σ 1=.i .i64 deep1)(h:T110_0 prog K v0 deep1):W prog d (sR 0 r110_0 c110_8) σ st Q:=
 au @w110_1
end
theorem p110 {prog:Prog}(hf:prog.fn 110=some pf110){v0:Val}{deep1:Int}{K:Bool→Prop}(h:T110_0 prog K v0 deep1) :∃res0:Bool,K res0∧Pus prog 110 [v0.av,.i .i64 deep1] (.b res0):=
 P1 hf J (w110_0 (h1 J fun _=>J) J J h)
def r127_0:List AI:=[oC 2 (.s [])]
def r127_1:List AI:=[oC 3 (.s [])]
def r127_2:List AI:=[oI 4 0]
def r127_3:List AI:=[oM 5 4,oM 6 0,oJ 7 6,oT 8 .lss 5 7]
def r127_4:List AI:=[oM 11 4,oV 12 .gtr 11 0]
def r127_5:List AI:=[oM 13 3,oB 14 .add (.t 13) (.c (.s [44,32])),oM 3 14]
def r127_6:List AI:=[oM 15 3,oM 16 0,oM 17 4,oX 18 5 16 17,oK 19 5 18,oQ 20 106 [19],oT 21 .add 15 20,oM 3 21]
def r127_7:List AI:=[oM 9 4,oV 10 .add 9 1,oM 4 10]
def r127_8:List AI:=[oM 22 3,oM 2 22]
abbrev c127_0:AC:=(.reg 7 r127_6)
abbrev l127_0:AC:=(.seq (sR 3 r127_3 (.cond (.t 8) .skip (.exit 0))) (.seq (.block 1 (.seq (sR 5 r127_4 (.cond (.t 12) (.reg 6 r127_5) .skip)) c127_0)) (.reg 4 r127_7)))
abbrev c127_2:AC:=(sR 8 r127_8 .ret)
abbrev b127:AC:=(sR 0 r127_0 (sR 1 r127_1 (.seq (sR 2 r127_2 (.block 0 (.loop l127_0))) c127_2)))
def pf127:AF:={ nt:=23,res:=[.tmp 2],body:=b127 }
abbrev I127_0 (prog:Prog)(d:Nat)(Q:AE→Sl→St→Prop)(l0:List Val)(s3:BS)(i4:Int):Prop:=
  ∀(σ:Sl)(st:St)(o_l0:Own),σ 0=.sl o_l0 (List.map Val.row l0)→σ 3=.s s3→σ 4=.i .i64 i4→W prog d (.loop l127_0) σ st (blockW 0 (thenW prog d c127_2 Q))
def T127_2 (prog:Prog)(K:BS→Prop)(P0:BS→Int→Prop)(l0:List Val)(s3:BS)(i4:Int):Prop:=
  0≤i4∧∃e:Val,l0[(i4).toNat]?=some e∧∃c:BS,Pus prog 106 [e.av] (.s c)∧s3.length+c.length≤maxStr∧P0 (s3++c) (IntKind.i64.wrap (i4+1))
def T127_3 (prog:Prog)(K:BS→Prop)(s3:BS):Prop:=
  K s3
def T127_1 (prog:Prog)(K:BS→Prop)(P0:BS→Int→Prop)(l0:List Val)(s3:BS)(i4:Int):Prop:=
  (i4<(l0.length:Int)→(i4>0→s3.length+([44,32]:BS).length≤maxStr∧T127_2 prog K P0 l0 (s3++([44,32]:BS)) i4)∧(¬(i4>0)→T127_2 prog K P0 l0 s3 i4))∧(¬(i4<(l0.length:Int))→T127_3 prog K s3)
def T127_0 (prog:Prog)(K:BS→Prop)(l0:List Val):Prop:=
  ∀P0:BS→Int→Prop,(∀(s3:BS)(i4:Int),T127_1 prog K P0 l0 s3 i4→P0 s3 i4)→P0 ([]:BS) 0
section
variable {prog:Prog}{d:Nat}{Q:AE→Sl→St→Prop}{K:BS→Prop}(hQ:H1 AV.s 2 Q K){σ:Sl}{st:St}
include hQ
variable {l0:List Val}{s3:BS}{i4:Int}{P0:BS→Int→Prop}{o_l0:Own}
variable (kP0 :∀(s3:BS)(i4:Int),P0 s3 i4→I127_0 prog d Q l0 s3 i4)(H0:σ 0=.sl o_l0 (List.map Val.row l0))(H3:σ 3=.s s3)(H4:σ 4=.i .i64 i4)
include kP0 H0 H3 H4 in
theorem w127_2 (h:T127_2 prog K P0 l0 s3 i4):W prog d c127_0 σ st (blockW 1 (thenW prog d (.reg 4 r127_7) (thenW prog d (.loop l127_0) (blockW 0 (thenW prog d c127_2 Q))))):=
 au trivial
include H3 in
theorem w127_3 (h:T127_3 prog K s3):W prog d c127_2 σ st Q:=
 au trivial
include kP0 H0 H3 H4 in
theorem w127_1 (h:T127_1 prog K P0 l0 s3 i4):W prog d l127_0 σ st (thenW prog d (.loop l127_0) (blockW 0 (thenW prog d c127_2 Q))):=
 au (And.intro @w127_2 @w127_3)
include H0 in
theorem w127_0 (h:T127_0 prog K l0):W prog d (sR 0 r127_0 (sR 1 r127_1 (.seq (sR 2 r127_2 (.block 0 (.loop l127_0))) c127_2))) σ st Q:=
 q_ J (m_ (e_ (q_ J (m_ (e_ (sq_ (q_ J (m_ (e_ (bk_ (h (I127_0 prog d Q l0) (fun _ _ hb _ _ _ H0 H3 H4=>W.loop (w127_1 hQ (fun _ _ x=>x) H0 H3 H4 hb)) _ _ _ H0 J J)))))))))))
end
theorem p127 {prog:Prog}(hf:prog.fn 127=some pf127){l0:List Val}{K:BS→Prop}(h:T127_0 prog K l0) :∃res0:BS,K res0∧Pus prog 127 [.sl .ext (List.map Val.row l0)] (.s res0):=
 P1 hf J (w127_0 (h1 J fun _=>J) J h)
def r136_0:List AI:=[oY 1 5 0,oC 2 (.b false)]
def r136_1:List AI:=[oF 3 3 1,oL 4 3,oJ 5 4,oV 6 .eql 5 0,oM 7 6,gT 7 (oF 8 4 1),gT 7 (oL 9 8),gT 7 (oZ 10 9),oA 11 7 10,oM 2 11]
abbrev b136:AC:=(sR 0 r136_0 (sR 1 r136_1 .ret))
def pf136:AF:={ nt:=12,res:=[.tmp 2],body:=b136 }
def T136_0 (prog:Prog)(K:Bool→Prop)(v0:Val):Prop:=
  ((v0.list.length:Int)=0→K (!v0.cut))∧(¬((v0.list.length:Int)=0)→K false)
section
variable {prog:Prog}{d:Nat}{Q:AE→Sl→St→Prop}{K:Bool→Prop}(hQ:H1 AV.b 2 Q K){σ:Sl}{st:St}
include hQ
variable {v0:Val}
variable (H0:σ 0=v0.av)
include H0 in
theorem w136_0 (h:T136_0 prog K v0):W prog d (sR 0 r136_0 (sR 1 r136_1 .ret)) σ st Q:=
 au trivial
end
theorem p136 {prog:Prog}(hf:prog.fn 136=some pf136){v0:Val}{K:Bool→Prop}(h:T136_0 prog K v0) :∃res0:Bool,K res0∧Pus prog 136 [v0.av] (.b res0):=
 P1 hf J (w136_0 (h1 J fun _=>J) J h)
end Go.AM

namespace Go.AM
open Go
set_option linter.unusedVariables false
set_option linter.unusedSimpArgs false
set_option maxRecDepth 4000
set_option maxHeartbeats 2000000
attribute [local irreducible] Decidable.decide W WO fillCells fillRows
abbrev H128 (d:Nat)(st0:St)(kp:Key)(vp:Nat)(Q:AE→Sl→St→Prop)(K:Bool→Sc→Prop):Prop:=∀(σ:Sl)(st:St)(res0:Bool)(b_:Sc),σ 4=.b res0→lk st.bx kp=some (vp,[.s b_.left])→Fr d kp st0.bx st0.ow st.bx st.ow→K res0 b_→Q .ret σ st
section
variable {prog:Prog}{d:Nat}{Q:AE→Sl→St→Prop}{K:Bool→Sc→Prop}{st0:St}{kp:Key}{vp:Nat}(hQ:H128 d st0 kp vp Q K)(hkp:kp.1<d){σ:Sl}{st:St}
include hQ hkp
end
abbrev H129 (d:Nat)(st0:St)(kp:Key)(vp:Nat)(Q:AE→Sl→St→Prop)(K:Val→Bool→Sc→Prop):Prop:=∀(σ:Sl)(st:St)(k0:Key)(v0:Nat)(o0_0:Own)(res0:Val)(res1:Bool)(b_:Sc),σ 8=.p k0 v0 0→lk st.bx k0=some (v0,[.i .u8 res0.kind,.i .i64 res0.int,.s res0.text,.sl o0_0 (List.map Val.row res0.list),.b res0.cut])→σ 9=.b res1→lk st.bx kp=some (vp,[.s b_.left])→Fr d kp st0.bx st0.ow st.bx st.ow→K res0 res1 b_→Q .ret σ st
section
variable {prog:Prog}{d:Nat}{Q:AE→Sl→St→Prop}{K:Val→Bool→Sc→Prop}{st0:St}{kp:Key}{vp:Nat}(hQ:H129 d st0 kp vp Q K)(hkp:kp.1<d){σ:Sl}{st:St}
include hQ hkp
end
abbrev H107 (d:Nat)(st0:St)(kp:Key)(vp:Nat)(Q:AE→Sl→St→Prop)(K:Val→Bool→Sc→Prop):Prop:=∀(σ:Sl)(st:St)(k0:Key)(v0:Nat)(o0_0:Own)(res0:Val)(res1:Bool)(b_:Sc),σ 4=.p k0 v0 0→lk st.bx k0=some (v0,[.i .u8 res0.kind,.i .i64 res0.int,.s res0.text,.sl o0_0 (List.map Val.row res0.list),.b res0.cut])→σ 5=.b res1→lk st.bx kp=some (vp,[.s b_.left])→Fr d kp st0.bx st0.ow st.bx st.ow→K res0 res1 b_→Q .ret σ st
section
variable {prog:Prog}{d:Nat}{Q:AE→Sl→St→Prop}{K:Val→Bool→Sc→Prop}{st0:St}{kp:Key}{vp:Nat}(hQ:H107 d st0 kp vp Q K)(hkp:kp.1<d){σ:Sl}{st:St}
include hQ hkp
end
abbrev H74 (Q:AE→Sl→St→Prop)(K:Val→Int→Prop):Prop:=∀(σ:Sl)(st:St)(k0:Key)(v0:Nat)(o0_0:Own)(res0:Val)(res1:Int),σ 2=.p k0 v0 0→lk st.bx k0=some (v0,[.i .u8 res0.kind,.i .i64 res0.int,.s res0.text,.sl o0_0 (List.map Val.row res0.list),.b res0.cut])→σ 3=.i .i64 res1→K res0 res1→Q .ret σ st
section
variable {prog:Prog}{d:Nat}{Q:AE→Sl→St→Prop}{K:Val→Int→Prop}(hQ:H74 Q K){σ:Sl}{st:St}
include hQ
end
abbrev H75 (Q:AE→Sl→St→Prop)(K:Val→Int→Prop):Prop:=∀(σ:Sl)(st:St)(k0:Key)(v0:Nat)(o0_0:Own)(res0:Val)(res1:Int),σ 2=.p k0 v0 0→lk st.bx k0=some (v0,[.i .u8 res0.kind,.i .i64 res0.int,.s res0.text,.sl o0_0 (List.map Val.row res0.list),.b res0.cut])→σ 3=.i .i64 res1→K res0 res1→Q .ret σ st
section
variable {prog:Prog}{d:Nat}{Q:AE→Sl→St→Prop}{K:Val→Int→Prop}(hQ:H75 Q K){σ:Sl}{st:St}
include hQ
end
abbrev H108 (Q:AE→Sl→St→Prop)(K:Val→BS→Bool→Prop):Prop:=∀(σ:Sl)(st:St)(k0:Key)(v0:Nat)(o0_0:Own)(res0:Val)(res1:BS)(res2:Bool),σ 4=.p k0 v0 0→lk st.bx k0=some (v0,[.i .u8 res0.kind,.i .i64 res0.int,.s res0.text,.sl o0_0 (List.map Val.row res0.list),.b res0.cut])→σ 5=.s res1→σ 6=.b res2→K res0 res1 res2→Q .ret σ st
section
variable {prog:Prog}{d:Nat}{Q:AE→Sl→St→Prop}{K:Val→BS→Bool→Prop}(hQ:H108 Q K){σ:Sl}{st:St}
include hQ
end
abbrev H132 (Q:AE→Sl→St→Prop)(K:Bool→Prop):Prop:=∀(σ:Sl)(st:St)(res0:Bool),σ 4=.b res0→K res0→Q .ret σ st
section
variable {prog:Prog}{d:Nat}{Q:AE→Sl→St→Prop}{K:Bool→Prop}(hQ:H132 Q K){σ:Sl}{st:St}
include hQ
end
abbrev H133 (Q:AE→Sl→St→Prop)(K:Val→BS→Bool→Prop):Prop:=∀(σ:Sl)(st:St)(k0:Key)(v0:Nat)(o0_0:Own)(res0:Val)(res1:BS)(res2:Bool),σ 8=.p k0 v0 0→lk st.bx k0=some (v0,[.i .u8 res0.kind,.i .i64 res0.int,.s res0.text,.sl o0_0 (List.map Val.row res0.list),.b res0.cut])→σ 9=.s res1→σ 10=.b res2→K res0 res1 res2→Q .ret σ st
section
variable {prog:Prog}{d:Nat}{Q:AE→Sl→St→Prop}{K:Val→BS→Bool→Prop}(hQ:H133 Q K){σ:Sl}{st:St}
include hQ
end
abbrev H134 (Q:AE→Sl→St→Prop)(K:Int→Prop):Prop:=∀(σ:Sl)(st:St)(res0:Int),σ 2=.i .i64 res0→K res0→Q .ret σ st
section
variable {prog:Prog}{d:Nat}{Q:AE→Sl→St→Prop}{K:Int→Prop}(hQ:H134 Q K){σ:Sl}{st:St}
include hQ
end
abbrev H135 (Q:AE→Sl→St→Prop)(K:Int→Prop):Prop:=∀(σ:Sl)(st:St)(res0:Int),σ 2=.i .i64 res0→K res0→Q .ret σ st
section
variable {prog:Prog}{d:Nat}{Q:AE→Sl→St→Prop}{K:Int→Prop}(hQ:H135 Q K){σ:Sl}{st:St}
include hQ
end
def r78_0:List AI:=[oY 2 5 0,oY 3 5 1,oC 4 (.b false)]
def r78_1:List AI:=[oF 6 0 2,oL 7 6,oF 8 0 3,oL 9 8,oT 10 .neq 7 9,oM 11 10,gF 11 (oF 12 1 2),gF 11 (oL 13 12),gF 11 (oF 14 1 3),gF 11 (oL 15 14),gF 11 (oT 16 .neq 13 15),oR 17 11 16,oM 18 17,gF 18 (oF 19 2 2),gF 18 (oL 20 19),gF 18 (oF 21 2 3),gF 18 (oL 22 21),gF 18 (oT 23 .neq 20 22),oR 24 18 23,oM 25 24,gF 25 (oF 26 4 2),gF 25 (oL 27 26),gF 25 (oF 28 4 3),gF 25 (oL 29 28),gF 25 (oO 30 (.beq true (.t 27) (.t 29))),oR 31 25 30,oM 32 31,gF 32 (oF 33 3 2),gF 32 (oL 34 33),gF 32 (oJ 35 34),gF 32 (oF 36 3 3),gF 32 (oL 37 36),gF 32 (oJ 38 37),gF 32 (oT 39 .neq 35 38),oR 40 32 39]
def r78_2:List AI:=[oC 4 (.b false)]
def r78_3:List AI:=[oI 5 0]
def r78_4:List AI:=[oM 41 5,oF 42 3 2,oL 43 42,oJ 44 43,oT 45 .lss 41 44]
def r78_5:List AI:=[oF 48 3 2,oL 49 48,oM 50 5,oX 51 5 49 50,oK 52 5 51,oF 53 3 3,oL 54 53,oM 55 5,oX 56 5 54 55,oK 57 5 56,oQ 58 78 [52,57],oZ 59 58]
def r78_6:List AI:=[oC 4 (.b false)]
def r78_7:List AI:=[oM 46 5,oV 47 .add 46 1,oM 5 47]
def r78_8:List AI:=[oC 4 (.b true)]
abbrev l78_0:AC:=(.seq (sR 4 r78_4 (.cond (.t 45) .skip (.exit 0))) (.seq (.block 1 (sR 6 r78_5 (.cond (.t 59) (sR 7 r78_6 .ret) .skip))) (.reg 5 r78_7)))
abbrev c78_1:AC:=(sR 8 r78_8 .ret)
abbrev b78:AC:=(sR 0 r78_0 (.seq (sR 1 r78_1 (.cond (.t 40) (sR 2 r78_2 .ret) .skip)) (.seq (sR 3 r78_3 (.block 0 (.loop l78_0))) c78_1)))
def pf78:AF:={ nt:=60,res:=[.tmp 4],body:=b78 }
abbrev I78_0 (prog:Prog)(d:Nat)(Q:AE→Sl→St→Prop)(i5:Int)(m0:Val)(m1:Val):Prop:=
  ∀(σ:Sl)(st:St) (v0 v1:Nat),σ 2=.p (d,0) v0 0→σ 3=.p (d,1) v1 0→σ 5=.i .i64 i5→lk st.bx (d,0)=some (v0,Val.cs m0)→lk st.bx (d,1)=some (v1,Val.cs m1)→W prog d (.loop l78_0) σ st (blockW 0 (thenW prog d c78_1 Q))
def T78_2 (prog:Prog)(K:Bool→Prop) :Prop:=
  K true
def T78_1 (prog:Prog)(K:Bool→Prop)(P0:Int→Val→Val→Prop)(i5:Int)(m0:Val)(m1:Val):Prop:=
  (i5<(m0.list.length:Int)→0≤i5∧∃e:Val,m0.list[(i5).toNat]?=some e∧0≤i5∧∃i:Val,m1.list[(i5).toNat]?=some i∧∃c,Pus prog 78 [e.av,i.av] (.b c)∧((!c)=true→K false)∧((!c)=false→P0 (IntKind.i64.wrap (i5+1)) m0 m1))∧(¬(i5<(m0.list.length:Int))→T78_2 prog K )
def T78_0 (prog:Prog)(K:Bool→Prop)(a0:Val)(b1:Val):Prop:=
  (a0.kind≠b1.kind→K false)∧(¬(a0.kind≠b1.kind)→(a0.int≠b1.int→K false)∧(¬(a0.int≠b1.int)→(a0.text≠b1.text→K false)∧(¬(a0.text≠b1.text)→(a0.cut≠b1.cut→K false)∧(¬(a0.cut≠b1.cut)→((a0.list.length:Int)≠(b1.list.length:Int)→K false)∧(¬((a0.list.length:Int)≠(b1.list.length:Int))→∀P0:Int→Val→Val→Prop,(∀(i5:Int)(m0:Val)(m1:Val),T78_1 prog K P0 i5 m0 m1→P0 i5 m0 m1)→P0 0 a0 b1)))))
section
variable {prog:Prog}{d:Nat}{Q:AE→Sl→St→Prop}{K:Bool→Prop}(hQ:H1 AV.b 4 Q K){σ:Sl}{st:St}
include hQ
variable {i5:Int}{m0 m1:Val}{P0:Int→Val→Val→Prop}{v0 v1:Nat}{a0 b1:Val}
variable (kP0 :∀(i5:Int)(m0:Val)(m1:Val),P0 i5 m0 m1→I78_0 prog d Q i5 m0 m1)(H0:σ 0=a0.av)(H2:σ 2=.p (d,0) v0 0)(H1:σ 1=b1.av)(H3:σ 3=.p (d,1) v1 0)(H5:σ 5=.i .i64 i5)(B0:lk st.bx (d,0)=some (v0,Val.cs m0))(B1:lk st.bx (d,1)=some (v1,Val.cs m1))
theorem w78_2 (h:T78_2 prog K ):W prog d c78_1 σ st Q:=
 au trivial
include kP0 H2 H3 H5 B0 B1 in
theorem w78_1 (h:T78_1 prog K P0 i5 m0 m1):W prog d l78_0 σ st (thenW prog d (.loop l78_0) (blockW 0 (thenW prog d c78_1 Q))):=
 au @w78_2
include H0 H1 in
theorem w78_0 (h:T78_0 prog K a0 b1):W prog d (sR 0 r78_0 (.seq (sR 1 r78_1 (.cond (.t 40) (sR 2 r78_2 .ret) .skip)) (.seq (sR 3 r78_3 (.block 0 (.loop l78_0))) c78_1))) σ st Q:=
 q_ J (s_box H0 J (s_box H1 J (m_ (e_ (sq_ (q_ J (f_ J (l_ J (lk_other J lk_here) J J (f_ J (l_ J lk_here J J (b_ J J neq_ (s_mvB J (em_ (g:=11) J (fun c=>z_ 29 J (e_ (ct_ J (q_ J (m_ (er_ (hQ J (h.1 c)))))))) (fun c=>gy_ J (f_ J (gy_ J (l_ J (lk_other J lk_here) J J (gy_ J (f_ J (gy_ J (l_ J lk_here J J (gy_ J (b_ J J neq_ (z_ 2 J (em_ (g:=18) J (fun e=>z_ 22 J (e_ (ct_ J (q_ J (m_ (er_ (hQ J ((h.2 c).1 e)))))))) (fun e=>gy_ J (f_ J (gy_ J (l_ J (lk_other J lk_here) J J (gy_ J (f_ J (gy_ J (l_ J lk_here J J (gy_ J (b_ J J sne_ (z_ 2 J (em_ (g:=25) J (fun i=>z_ 15 J (e_ (ct_ J (q_ J (m_ (er_ (hQ J (((h.2 c).2 e).1 i)))))))) (fun i=>gy_ J (f_ J (gy_ J (l_ J (lk_other J lk_here) J J (gy_ J (f_ J (gy_ J (l_ J lk_here J J (gy_ J (s_bne J J (z_ 2 J (em_ (g:=32) J (fun j=>z_ 8 J (e_ (ct_ J (q_ J (m_ (er_ (hQ J ((((h.2 c).2 e).2 i).1 j)))))))) (fun j=>gy_ J (f_ J (gy_ J (l_ J (lk_other J lk_here) J J (gy_ J (ll_ J (gy_ J (f_ J (gy_ J (l_ J lk_here J J (gy_ J (ll_ J (gy_ J (b_ J J neq_ (pf_ J J (e_ (cs_ J (fun k=>q_ J (m_ (er_ (hQ J (((((h.2 c).2 e).2 i).2 j).1 k))))) (fun k=>sk_ (sq_ (q_ J (m_ (e_ (bk_ ((((((h.2 c).2 e).2 i).2 j).2 k) (I78_0 prog d Q ) (fun _ _ _ hb _ _ _ _ H2 H3 H5 B0 B1=>W.loop (w78_1 hQ (fun _ _ _ x=>x) H2 H3 H5 B0 B1 hb)) _ _ _ _ J J J (lk_other J lk_here) lk_here)))))))))))))))))))))))))))))))))))))))))))))))))))))))))))))))))))))))))
end
theorem p78 {prog:Prog}(hf:prog.fn 78=some pf78){a0:Val}{b1:Val}{K:Bool→Prop}(h:T78_0 prog K a0 b1) :∃res0:Bool,K res0∧Pus prog 78 [a0.av,b1.av] (.b res0):=
 P1 hf J (w78_0 (h1 J fun _=>J) J J h)
end Go.AM

namespace Go.AM
open Go
set_option linter.unusedVariables false
set_option linter.unusedSimpArgs false
set_option maxRecDepth 4000
attribute [local irreducible] WO fillCells fillRows
abbrev H130 (d:Nat)(st0:St)(kp:Key)(vp:Nat)(Q:AE→Sl→St→Prop)(K:BS→Bool→Sc→Prop):Prop:=∀(σ:Sl)(st:St)(res0:BS)(res1:Bool)(b_:Sc),σ 2=.s res0→σ 3=.b res1→lk st.bx kp=some (vp,[.s b_.left])→Fr d kp st0.bx st0.ow st.bx st.ow→K res0 res1 b_→Q .ret σ st
section
variable {prog:Prog}{d:Nat}{Q:AE→Sl→St→Prop}{K:BS→Bool→Sc→Prop}{st0:St}{kp:Key}{vp:Nat}(hQ:H130 d st0 kp vp Q K)(hkp:kp.1<d){σ:Sl}{st:St}
include hQ hkp
end
abbrev H131 (d:Nat)(st0:St)(kp:Key)(vp:Nat)(Q:AE→Sl→St→Prop)(K:Int→Bool→Sc→Prop):Prop:=∀(σ:Sl)(st:St)(res0:Int)(res1:Bool)(b_:Sc),σ 2=.i .i64 res0→σ 3=.b res1→lk st.bx kp=some (vp,[.s b_.left])→Fr d kp st0.bx st0.ow st.bx st.ow→K res0 res1 b_→Q .ret σ st
section
variable {prog:Prog}{d:Nat}{Q:AE→Sl→St→Prop}{K:Int→Bool→Sc→Prop}{st0:St}{kp:Key}{vp:Nat}(hQ:H131 d st0 kp vp Q K)(hkp:kp.1<d){σ:Sl}{st:St}
include hQ hkp
end
abbrev H66 (Q:AE→Sl→St→Prop)(K:Bool→Prop):Prop:=∀(σ:Sl)(st:St)(res0:Bool),σ 4=.b res0→K res0→Q .ret σ st
section
variable {prog:Prog}{d:Nat}{Q:AE→Sl→St→Prop}{K:Bool→Prop}(hQ:H66 Q K){σ:Sl}{st:St}
include hQ
end
end Go.AM

namespace Go.AM
open Go
set_option linter.unusedVariables false
set_option linter.unusedSimpArgs false
set_option maxRecDepth 4000
set_option maxHeartbeats 2000000
attribute [local irreducible] Decidable.decide W WO fillCells fillRows
def r111_0:List AI:=[oC 2 (.s [])]
def r111_1:List AI:=[oM 3 0,oQ 4 15 [3],oM 2 4]
abbrev b111:AC:=(sR 0 r111_0 (sR 1 r111_1 .ret))
def pf111:AF:={ nt:=5,res:=[.tmp 2],body:=b111 }
def T111_0 (prog:Prog)(K:BS→Prop)(n0:Int):Prop:=
  ∃c,Pus prog 15 [.i .i64 n0] (.s c)∧K c
section
variable {prog:Prog}{d:Nat}{Q:AE→Sl→St→Prop}{K:BS→Prop}(hQ:H1 AV.s 2 Q K){σ:Sl}{st:St}
include hQ
variable {n0:Int}
variable (H0:σ 0=.i .i64 n0)
include H0 in
theorem w111_0 (h:T111_0 prog K n0):W prog d (sR 0 r111_0 (sR 1 r111_1 .ret)) σ st Q:=
 au trivial
end
theorem p111 {prog:Prog}(hf:prog.fn 111=some pf111){n0:Int}{K:BS→Prop}(h:T111_0 prog K n0) :∃res0:BS,K res0∧Pus prog 111 [.i .i64 n0] (.s res0):=
 P1 hf J (w111_0 (h1 J fun _=>J) J h)
def r112_0:List AI:=[oC 2 (.s [])]
def r112_1:List AI:=[oM 6 0,oQ 7 11 [6],oM 5 7,oE 8 0 5,oE 9 1 5,oM 3 8,oM 4 9]
def r112_2:List AI:=[oM 10 3,oM 2 10]
abbrev b112:AC:=(sR 0 r112_0 (sR 1 r112_1 (sR 2 r112_2 .ret)))
def pf112:AF:={ nt:=11,res:=[.tmp 2],body:=b112 }
def T112_0 (prog:Prog)(K:BS→Prop)(s0:BS):Prop:=
  ∃c e,Pus prog 11 [.s s0] (.tup [.s c,.i .i64 e])∧K c
section
variable {prog:Prog}{d:Nat}{Q:AE→Sl→St→Prop}{K:BS→Prop}(hQ:H1 AV.s 2 Q K){σ:Sl}{st:St}
include hQ
variable {s0:BS}
variable (H0:σ 0=.s s0)
include H0 in
theorem w112_0 (h:T112_0 prog K s0):W prog d (sR 0 r112_0 (sR 1 r112_1 (sR 2 r112_2 .ret))) σ st Q:=
 au trivial
end
theorem p112 {prog:Prog}(hf:prog.fn 112=some pf112){s0:BS}{K:BS→Prop}(h:T112_0 prog K s0) :∃res0:BS,K res0∧Pus prog 112 [.s s0] (.s res0):=
 P1 hf J (w112_0 (h1 J fun _=>J) J h)
def r113_0:List AI:=[oO 0 (.alloc [zs,zs,zs,zs])]
def r113_1:List AI:=[oO 1 (.build [zs,zs,zs,zs] [(0,1,(.c (.s [99,97,108,108]))),(1,1,(.c (.s [100,101,102,101,114]))),(2,1,(.c (.s [112,97,110,105,99]))),(3,1,(.c (.s [101,120,105,116])))]),oS 4 0 1]
abbrev b113:AC:=(sR 0 r113_0 (sR 1 r113_1 .ret))
def pf113:AF:={ nt:=2,res:=[.cell 0 4 true],body:=b113 }
abbrev H113 (Q:AE→Sl→St→Prop)(K:LB→Prop):Prop:=∀(σ:Sl)(st:St)(k0:Key)(v0:Nat)(res0:LB),σ 0=.p k0 v0 0→lk st.bx k0=some (v0,List.map AV.s res0)→res0.length=4→K res0→Q .ret σ st
def T113_0 (prog:Prog)(K:LB→Prop) :Prop:=
  K [([99,97,108,108]:BS),([100,101,102,101,114]:BS),([112,97,110,105,99]:BS),([101,120,105,116]:BS)]
section
variable {prog:Prog}{d:Nat}{Q:AE→Sl→St→Prop}{K:LB→Prop}(hQ:H113 Q K){σ:Sl}{st:St}
include hQ
theorem w113_0 (h:T113_0 prog K ):W prog d (sR 0 r113_0 (sR 1 r113_1 .ret)) σ st Q:=
 sq_ (W.reg (s_alloc (e_ (q_ J (s_buildM (f:=AV.s) (l:=[([99,97,108,108]:BS),([100,101,102,101,114]:BS),([112,97,110,105,99]:BS),([101,120,105,116]:BS)]) (f_cons J J (f_cons J J (f_cons J J (f_cons J J f_nil)))) J (s_storeArr (f:=AV.s) (fun _=>J) J (show lk _ (d,0)=some (_,(List.map AV.s (List.replicate 4 ([]:BS)):List AV)) from lk_here) (by simp) J J (er_ (hQ _ _ _ _ _ J lk_here (by simp) h))))))))
end
theorem p113 {prog:Prog}(hf:prog.fn 113=some pf113)  {K:LB→Prop}(h:T113_0 prog K ) :∃res0:LB,K res0∧Pus prog 113 [] (.ag (List.map AV.s res0)):=by
  obtain ⟨v,hv,res0,hk,rfl⟩:=Pus.of (K:=fun v=>∃res0:LB,K res0∧v=.ag (List.map AV.s res0)) hf rfl (w113_0 (σ:=sl0 []) (fun σ st k0 v0  res0 H0 HB0 HL0 hk=>⟨.ag (List.map AV.s res0),by simp only [pf113,ares,aresL,ares_cellA (n:=4) H0 HB0 (by simpa using HL0),ares_tmp,Option.map_some],_,strip_ag AV.s (fun _=>rfl) _,res0,hk,rfl⟩)  h)
  exact ⟨res0,hk,hv⟩
abbrev H115 (d:Nat)(st0:St)(Q:AE→Sl→St→Prop)(K:Bool→Prop):Prop:=∀(σ:Sl)(st:St)(res0:Bool),σ 4=.b res0→Fr d (d,0) st0.bx st0.ow st.bx st.ow→K res0→Q .ret σ st
section
variable {prog:Prog}{d:Nat}{Q:AE→Sl→St→Prop}{K:Bool→Prop}{st0:St}(hQ:H115 d st0 Q K){σ:Sl}{st:St}
include hQ
end
abbrev H116 (d:Nat)(st0:St)(Q:AE→Sl→St→Prop)(K:Bool→Prop):Prop:=∀(σ:Sl)(st:St)(res0:Bool),σ 2=.b res0→Fr d (d,0) st0.bx st0.ow st.bx st.ow→K res0→Q .ret σ st
section
variable {prog:Prog}{d:Nat}{Q:AE→Sl→St→Prop}{K:Bool→Prop}{st0:St}(hQ:H116 d st0 Q K){σ:Sl}{st:St}
include hQ
end
abbrev H139 (d:Nat)(st0:St)(Q:AE→Sl→St→Prop)(K:Int→Prop):Prop:=∀(σ:Sl)(st:St)(res0:Int),σ 4=.i .i64 res0→Fr d (d,0) st0.bx st0.ow st.bx st.ow→K res0→Q .ret σ st
section
variable {prog:Prog}{d:Nat}{Q:AE→Sl→St→Prop}{K:Int→Prop}{st0:St}(hQ:H139 d st0 Q K){σ:Sl}{st:St}
include hQ
end
def r122_0:List AI:=[oC 4 (.b false)]
def r122_1:List AI:=[oM 5 0,oM 6 1,oO 7 (.call true 144 [(.t 5),(.t 6)]),oV 8 .geq 7 0,oM 4 8]
abbrev b122:AC:=(sR 0 r122_0 (sR 1 r122_1 .ret))
def pf122:AF:={ nt:=9,res:=[.tmp 4],body:=b122 }
def T122_0 (prog:Prog)(K:Bool→Prop)(s0:List Fld)(f1:Nat × List AV):Prop:=
  ∃c,(∀e:Own,PuN prog 144 [.sl e (List.map Fld.row s0),.fn f1.1 f1.2] (fun r=>r=.i .i64 c))∧K (decide (c≥0))
section
variable {prog:Prog}{d:Nat}{Q:AE→Sl→St→Prop}{K:Bool→Prop}{st0:St}(hQ:HF d st0 AV.b 4 Q K){σ:Sl}{st:St}
include hQ
variable {s0:List Fld}{f1:Nat × List AV}{o_s0:Own}
variable (H0:σ 0=.sl o_s0 (List.map Fld.row s0))(H1:σ 1=.fn f1.1 f1.2)(FR:Fr d (d,0) st0.bx st0.ow st.bx st.ow)
include H0 H1 FR in
theorem w122_0 (h:T122_0 prog K s0 f1):W prog d (sR 0 r122_0 (sR 1 r122_1 .ret)) σ st Q:=
 q_ J (m_ (e_ (q_ J (s_mvL H0 (m_ (h.elim fun _ c=>s_callN (sec J (sec H1 sen)) (c.1 _) (fun _ e=>b_ J J geq_ (m_ (er_ (hQ J (Fr.raw FR e) c.2))))))))))
end
theorem p122 {prog:Prog}(hf:prog.fn 122=some pf122){s0:List Fld}{f1:Nat × List AV}{K:Bool→Prop}(h:T122_0 prog K s0 f1)(o_s0:Own):PuN prog 122 [.sl o_s0 (List.map Fld.row s0),.fn f1.1 f1.2] (fun r=>∃res0:Bool,(r=.b res0)∧K res0):=
 PF hf J J fun d st Q q=>w122_0 q J J Fr.refl h
def r123_0:List AI:=[oY 1 2 0,oC 2 (.b false)]
def r123_1:List AI:=[oF 3 0 1,oL 4 3,oH 5 4,oV 6 .gtr 5 16,oM 2 6]
abbrev b123:AC:=(sR 0 r123_0 (sR 1 r123_1 .ret))
def pf123:AF:={ nt:=7,res:=[.tmp 2],body:=b123 }
def T123_0 (prog:Prog)(K:Bool→Prop)(s0:Fld):Prop:=
  K (decide ((s0.name.length:Int)>16))
section
variable {prog:Prog}{d:Nat}{Q:AE→Sl→St→Prop}{K:Bool→Prop}{st0:St}(hQ:HF d st0 AV.b 2 Q K){σ:Sl}{st:St}
include hQ
variable {s0:Fld}
variable (H0:σ 0=s0.av)(FR:Fr d (d,0) st0.bx st0.ow st.bx st.ow)
include H0 FR in
theorem w123_0 (h:T123_0 prog K s0):W prog d (sR 0 r123_0 (sR 1 r123_1 .ret)) σ st Q:=
 au trivial
end
theorem p123 {prog:Prog}(hf:prog.fn 123=some pf123){s0:Fld}{K:Bool→Prop}(h:T123_0 prog K s0):PuN prog 123 [s0.av] (fun r=>∃res0:Bool,(r=.b res0)∧K res0):=
 PF hf J J fun d st Q q=>w123_0 q J Fr.refl h
def r144_0:List AI:=[oI 4 0]
def r144_1:List AI:=[oM 6 0,oJ 7 6,oI 8 0]
def r144_2:List AI:=[oT 9 .lss 8 7]
def r144_3:List AI:=[oM 10 8,oM 5 10]
def r144_4:List AI:=[oM 11 1,oM 12 0,oM 13 5,oX 14 2 12 13,oK 15 2 14,oO 16 (.callv (.t 11) [(.t 15)])]
def r144_5:List AI:=[oM 17 5,oM 4 17]
def r144_6:List AI:=[oV 18 .add 8 1,oM 8 18]
def r144_7:List AI:=[oI 4 (-1)]
abbrev l144_0:AC:=(sR 2 r144_2 (.seq (.cond (.t 9) .skip (.exit 0)) (.seq (.block 1 (sR 3 r144_3 (sR 4 r144_4 (.cond (.t 16) (sR 5 r144_5 .ret) .skip)))) (.reg 6 r144_6))))
abbrev c144_1:AC:=(sR 7 r144_7 .ret)
abbrev b144:AC:=(sR 0 r144_0 (.seq (sR 1 r144_1 (.block 0 (.loop l144_0))) c144_1))
def pf144:AF:={ nt:=19,res:=[.tmp 4],body:=b144 }
abbrev I144_0 (prog:Prog)(d:Nat)(Q:AE→Sl→St→Prop)(st0:St)(s0:List Fld)(f1:Nat × List AV)(t7:Int)(t8:Int):Prop:=
  ∀(σ:Sl)(st:St)(o_s0:Own),σ 0=.sl o_s0 (List.map Fld.row s0)→σ 1=.fn f1.1 f1.2→σ 7=.i .i64 t7→σ 8=.i .i64 t8→Fr d (d,0) st0.bx st0.ow st.bx st.ow→W prog d (.loop l144_0) σ st (blockW 0 (thenW prog d c144_1 Q))
def T144_2 (prog:Prog)(K:Int→Prop) :Prop:=
  K (-1)
def T144_1 (prog:Prog)(K:Int→Prop)(P0:Int→Prop)(s0:List Fld)(f1:Nat × List AV)(t7:Int)(t8:Int):Prop:=
  (t8<t7→0≤t8∧∃e:Fld,s0[(t8).toNat]?=some e∧∃c,(PuN prog f1.1 ([e.av]++f1.2) (fun r=>r=.b c))∧(c=true→K t8)∧(c=false→P0 (IntKind.i64.wrap (t8+1))))∧(¬(t8<t7)→T144_2 prog K )
def T144_0 (prog:Prog)(K:Int→Prop)(s0:List Fld)(f1:Nat × List AV):Prop:=
  ∀P0:Int→Prop,(∀(t8:Int),T144_1 prog K P0 s0 f1 (s0.length:Int) t8→P0 t8)→P0 0
section
variable {prog:Prog}{d:Nat}{Q:AE→Sl→St→Prop}{K:Int→Prop}{st0:St}(hQ:HF d st0 (AV.i .i64) 4 Q K){σ:Sl}{st:St}
include hQ
variable {s0:List Fld}{f1:Nat × List AV}{t7 t8:Int}{P0:Int→Prop}{o_s0:Own}
variable (kP0 :∀(t8:Int),P0 t8→I144_0 prog d Q st0 s0 f1 t7 t8)(H0:σ 0=.sl o_s0 (List.map Fld.row s0))(H1:σ 1=.fn f1.1 f1.2)(H7:σ 7=.i .i64 t7)(H8:σ 8=.i .i64 t8)(FR:Fr d (d,0) st0.bx st0.ow st.bx st.ow)
include FR in
theorem w144_2 (h:T144_2 prog K ):W prog d c144_1 σ st Q:=
 au trivial
include kP0 H0 H1 H7 H8 FR in
theorem w144_1 (h:T144_1 prog K P0 s0 f1 t7 t8):W prog d l144_0 σ st (thenW prog d (.loop l144_0) (blockW 0 (thenW prog d c144_1 Q))):=
 q_ J (b_ H8 H7 lss_ (e_ (sq_ (cs_ J (fun c=>sk_ (sq_ (bk_ (q_ J (m_ (m_ (e_ (q_ J (m_ (s_mvL H0 (m_ ((h.1 c).2.elim fun o j=>ia_ J H8 (h.1 c).1 j.1 (Fld.row_eq o) J (lf_ J J J (j.2.elim fun _ e=>s_callV H1 (sec J sen) (e.1) (fun _ k=>e_ (cb_ J (fun i=>q_ J (m_ (m_ (er_ (hQ H8 (Fr.raw FR k) (e.2.1 i)))))) (fun i=>sk_ (W.reg0 J fun _ _=>b_ H8 J add_ (m_ (e_ (kP0 _ (e.2.2 i) _ _ _ H0 H1 H7 J (Fr.raw FR k)))))))))))))))))))))) (fun c=>ex_ (w144_2 hQ FR (h.2 c)))))))
include H0 H1 FR in
theorem w144_0 (h:T144_0 prog K s0 f1):W prog d (sR 0 r144_0 (.seq (sR 1 r144_1 (.block 0 (.loop l144_0))) c144_1)) σ st Q:=
 q_ J (m_ (e_ (sq_ (q_ J (s_mvL H0 (ll_ J (m_ (e_ (bk_ (h (I144_0 prog d Q st0 s0 f1 (s0.length:Int)) (fun _ hb _ _ _ H0 H1 H7 H8 FR=>W.loop (w144_1 hQ (fun _ x=>x) H0 H1 H7 H8 FR hb)) _ _ _ H0 H1 J J FR))))))))))
end
theorem p144 {prog:Prog}(hf:prog.fn 144=some pf144){s0:List Fld}{f1:Nat × List AV}{K:Int→Prop}(h:T144_0 prog K s0 f1)(o_s0:Own):PuN prog 144 [.sl o_s0 (List.map Fld.row s0),.fn f1.1 f1.2] (fun r=>∃res0:Int,(r=.i .i64 res0)∧K res0):=
 PF hf J J fun d st Q q=>w144_0 q J J Fr.refl h
abbrev H141 (Q:AE→Sl→St→Prop)(K:Int→Prop):Prop:=∀(σ:Sl)(st:St)(res0:Int),σ 4=.i .i64 res0→K res0→Q .ret σ st
section
variable {prog:Prog}{d:Nat}{Q:AE→Sl→St→Prop}{K:Int→Prop}(hQ:H141 Q K){σ:Sl}{st:St}
include hQ
end
abbrev H119 (Q:AE→Sl→St→Prop)(K:Bool→Prop):Prop:=∀(σ:Sl)(st:St)(res0:Bool),σ 4=.b res0→K res0→Q .ret σ st
section
variable {prog:Prog}{d:Nat}{Q:AE→Sl→St→Prop}{K:Bool→Prop}(hQ:H119 Q K){σ:Sl}{st:St}
include hQ
end
def r86_0:List AI:=[oY 2 3 0,oY 3 4 1,oI 4 0]
def r86_1:List AI:=[oF 9 0 3,oL 10 9,oV 11 .lss 10 0,oM 12 11,gF 12 (oF 13 0 3),gF 12 (oL 14 13),gF 12 (oF 15 2 2),gF 12 (oL 16 15),gF 12 (oJ 17 16),gF 12 (oT 18 .geq 14 17),oR 19 12 18,oM 20 19,gF 20 (oF 21 2 3),gF 20 (oL 22 21),gF 20 (oB 23 .gtr (.t 22) (.c (.i .u64 3))),oR 24 20 23]
def r86_2:List AI:=[oI 4 8]
def r86_3:List AI:=[oF 25 2 2,oL 26 25,oF 27 0 3,oL 28 27,oX 29 7 26 28,oK 30 7 29,oO 5 (.alloc [zs,z6,z6,zl,zl,zl,zl]),oS 7 5 30]
def r86_4:List AI:=[oF 31 3 5,oL 32 31,oJ 33 32,oV 34 .gtr 33 16,oM 35 34,gF 35 (oF 36 0 5),gF 35 (oL 37 36),gF 35 (oH 38 37),gF 35 (oV 39 .gtr 38 16),oR 40 35 39,oM 41 40,gF 41 (oF 42 1 3),gF 41 (oL 43 42),gF 41 (oV 44 .lss 43 0),oR 45 41 44,oM 46 45,gF 46 (oF 47 1 3),gF 46 (oL 48 47),gF 46 (oF 49 4 5),gF 46 (oL 50 49),gF 46 (oJ 51 50),gF 46 (oT 52 .geq 48 51),oR 53 46 52,oM 54 53,gF 54 (oF 55 3 5),gF 54 (oL 56 55),gF 54 (oO 57 (.call true 122 [(.t 56),(.c (.fn 123 []))])),oR 58 54 57]
def r86_5:List AI:=[oI 4 8]
def r86_6:List AI:=[oI 6 (-1)]
def r86_7:List AI:=[oF 59 3 3,oL 60 59,oJ 61 60,oI 62 0]
def r86_8:List AI:=[oT 63 .lss 62 61]
def r86_9:List AI:=[oX 64 6 60 62,oK 65 6 64,oO 8 (.alloc [z6,z8,z6,zs,zl,zb]),oS 6 8 65]
def r86_10:List AI:=[oF 66 0 8,oL 67 66,oM 68 6,oT 69 .leq 67 68,oM 70 69,gF 70 (oF 71 0 8),gF 70 (oL 72 71),gF 70 (oF 73 3 5),gF 70 (oL 74 73),gF 70 (oJ 75 74),gF 70 (oT 76 .geq 72 75),oR 77 70 76,oM 78 77,gF 78 (oF 79 1 8),gF 78 (oK 80 5 79),gF 78 (oQ 81 76 [80]),gF 78 (oV 82 .neq 81 0),oR 83 78 82]
def r86_11:List AI:=[oI 4 8]
def r86_12:List AI:=[oF 84 0 8,oL 85 84,oM 6 85]
def r86_13:List AI:=[oV 86 .add 62 1,oM 62 86]
def r86_14:List AI:=[oI 4 0]
abbrev l86_0:AC:=(sR 8 r86_8 (.seq (.cond (.t 63) .skip (.exit 0)) (.seq (.block 1 (sR 9 r86_9 (.seq (sR 10 r86_10 (.cond (.t 83) (sR 11 r86_11 .ret) .skip)) (.reg 12 r86_12)))) (.reg 13 r86_13))))
abbrev c86_1:AC:=(sR 14 r86_14 .ret)
abbrev c86_2:AC:=(sR 6 r86_6 (.seq (sR 7 r86_7 (.block 0 (.loop l86_0))) c86_1))
abbrev c86_3:AC:=(.seq (sR 4 r86_4 (.cond (.t 58) (sR 5 r86_5 .ret) .skip)) c86_2)
abbrev c86_4:AC:=(sR 3 r86_3 c86_3)
abbrev c86_5:AC:=(.seq (sR 1 r86_1 (.cond (.t 24) (sR 2 r86_2 .ret) .skip)) c86_4)
abbrev b86:AC:=(sR 0 r86_0 c86_5)
def pf86:AF:={ nt:=87,res:=[.tmp 4],body:=b86 }
abbrev I86_0 (prog:Prog)(d:Nat)(Q:AE→Sl→St→Prop)(t60:List Loc)(t61:Int)(last6:Int)(t62:Int)(m12294:Fun):Prop:=
  ∀(σ:Sl)(st:St)(o_t60:Own)(v12294:Nat),σ 5=.p (d,12294) v12294 0→σ 6=.i .i64 last6→σ 60=.sl o_t60 (List.map Loc.row t60)→σ 61=.i .i64 t61→σ 62=.i .i64 t62→lk st.bx (d,12294)=some (v12294,Fun.cs m12294)→W prog d (.loop l86_0) σ st (blockW 0 (thenW prog d c86_1 Q))
def T86_6 (prog:Prog)(K:Int→Prop) :Prop:=
  K 0
def T86_5 (prog:Prog)(K:Int→Prop)(P0:Int→Int→Fun→Prop)(last6:Int)(t60:List Loc)(t61:Int)(t62:Int)(m12294:Fun):Prop:=
  (t62<t61→0≤t62∧∃c:Loc,t60[(t62).toNat]?=some c∧(c.slot≤last6→K 8)∧(¬(c.slot≤last6)→(c.slot≥(m12294.slots.length:Int)→K 8)∧(¬(c.slot≥(m12294.slots.length:Int))→∃e,Pus prog 76 [c.value.av] (.i .i64 e)∧(e≠0→K 8)∧(¬(e≠0)→P0 c.slot (IntKind.i64.wrap (t62+1)) m12294))))∧(¬(t62<t61)→T86_6 prog K )
def T86_4 (prog:Prog)(K:Int→Prop)(m1:Frm)(m12294:Fun):Prop:=
  ∀P0:Int→Int→Fun→Prop,(∀(last6:Int)(t62:Int)(m12294:Fun),T86_5 prog K P0 last6 m1.locals (m1.locals.length:Int) t62 m12294→P0 last6 t62 m12294)→P0 (-1) 0 m12294
def T86_3 (prog:Prog)(K:Int→Prop)(m1:Frm)(m12294:Fun):Prop:=
  ((m12294.slots.length:Int)>16→K 8)∧(¬((m12294.slots.length:Int)>16)→((m12294.name.length:Int)>16→K 8)∧(¬((m12294.name.length:Int)>16)→(m1.pos<0→K 8)∧(¬(m1.pos<0)→(m1.pos≥(m12294.code.length:Int)→K 8)∧(¬(m1.pos≥(m12294.code.length:Int))→∃c,(∀e:Own,PuN prog 122 [.sl e (List.map Fld.row m12294.slots),.fn 123 []] (fun r=>r=.b c))∧(c=true→K 8)∧(c=false→T86_4 prog K m1 m12294)))))
def T86_2 (prog:Prog)(K:Int→Prop)(m0:Img)(m1:Frm):Prop:=
  0≤m1.func∧∃c,m0.funcs[(m1.func).toNat]?=some c∧T86_3 prog K m1 c
def T86_1 (prog:Prog)(K:Int→Prop)(m0:Img)(m1:Frm):Prop:=
  (m1.func<0→K 8)∧(¬(m1.func<0)→(m1.func≥(m0.funcs.length:Int)→K 8)∧(¬(m1.func≥(m0.funcs.length:Int))→(m1.mode>3→K 8)∧(¬(m1.mode>3)→T86_2 prog K m0 m1)))
def T86_0 (prog:Prog)(K:Int→Prop)(m0:Img)(x1:Frm):Prop:=
  T86_1 prog K m0 x1
section
variable {prog:Prog}{d:Nat}{Q:AE→Sl→St→Prop}{K:Int→Prop}(hQ:H1 (AV.i .i64) 4 Q K){σ:Sl}{st:St}
include hQ
variable {last6:Int}{t60:List Loc}{t61 t62:Int}{m12294:Fun}{P0:Int→Int→Fun→Prop}{o_t60:Own}{v12294:Nat}{m1:Frm}{v1:Nat}{m0:Img}{v0:Nat}{x1:Frm}
variable (kP0 :∀(last6:Int)(t62:Int)(m12294:Fun),P0 last6 t62 m12294→I86_0 prog d Q t60 t61 last6 t62 m12294)(H2:σ 2=.p (d,0) v0 0)(H0:σ 0=m0.av)(H3:σ 3=.p (d,1) v1 0)(H1:σ 1=x1.av)(H5:σ 5=.p (d,12294) v12294 0)(B0:lk st.bx (d,0)=some (v0,Img.cs m0))(H6:σ 6=.i .i64 last6)(B1:lk st.bx (d,1)=some (v1,Frm.cs m1))(H60:σ 60=.sl o_t60 (List.map Loc.row t60))(H61:σ 61=.i .i64 t61)(H62:σ 62=.i .i64 t62)(B12294:lk st.bx (d,12294)=some (v12294,Fun.cs m12294))
theorem w86_6 (h:T86_6 prog K ):W prog d c86_1 σ st Q:=
 au trivial
include kP0 H5 H6 H60 H61 H62 B12294 in
theorem w86_5 (h:T86_5 prog K P0 last6 t60 t61 t62 m12294):W prog d l86_0 σ st (thenW prog d (.loop l86_0) (blockW 0 (thenW prog d c86_1 Q))):=
 au @w86_6
include H3 H5 B1 B12294 in
theorem w86_4 (h:T86_4 prog K m1 m12294):W prog d c86_2 σ st Q:=
 q_ J (m_ (e_ (sq_ (q_ J (f_ H3 (l_ J B1 J J (ll_ J (m_ (e_ (bk_ (h (I86_0 prog d Q m1.locals (m1.locals.length:Int)) (fun _ _ _ hb _ _ _ _ H5 H6 H60 H61 H62 B12294=>W.loop (w86_5 hQ (fun _ _ _ x=>x) H5 H6 H60 H61 H62 B12294 hb)) _ _ _ _ H5 J J J J B12294)))))))))))
include H3 H5 B1 B12294 in
theorem w86_3 (h:T86_3 prog K m1 m12294):W prog d c86_3 σ st Q:=
 sq_ (q_ J (f_ H5 (l_ J B12294 J J (ll_ J (b_ J J gtr_ (s_mvB J (em_ (g:=35) J (fun c=>z_ 23 J (e_ (ct_ J (q_ J (m_ (er_ (hQ J (h.1 c)))))))) (fun c=>gy_ J (f_ H5 (gy_ J (l_ J B12294 J J (gy_ J (ln_ J (gy_ J (b_ J J gtr_ (z_ 2 J (em_ (g:=41) J (fun e=>z_ 17 J (e_ (ct_ J (q_ J (m_ (er_ (hQ J ((h.2 c).1 e)))))))) (fun e=>gy_ J (f_ H3 (gy_ J (l_ J B1 J J (gy_ J (b_ J J lss_ (z_ 2 J (em_ (g:=46) J (fun i=>z_ 12 J (e_ (ct_ J (q_ J (m_ (er_ (hQ J (((h.2 c).2 e).1 i)))))))) (fun i=>gy_ J (f_ H3 (gy_ J (l_ J B1 J J (gy_ J (f_ H5 (gy_ J (l_ J B12294 J J (gy_ J (ll_ J (gy_ J (b_ J J geq_ (z_ 2 J (em_ (g:=54) J (fun o=>z_ 4 J (e_ (ct_ J (q_ J (m_ (er_ (hQ J ((((h.2 c).2 e).2 i).1 o)))))))) (fun o=>gy_ J (f_ H5 (gy_ J (l_ J B12294 J J (gy_ J (((((h.2 c).2 e).2 i).2 o).elim fun _ j=>s_callN (sec J (sec J sen)) (j.1 _) (fun _ p=>pf_ J J (e_ (cb_ J (fun k=>q_ J (m_ (er_ (hQ J (j.2.1 k))))) (fun k=>sk_ (w86_4 hQ H3 H5 ((p.1 (d,1) (Nat.lt_succ_self d) key_dn).trans B1) ((p.1 (d,12294) (Nat.lt_succ_self d) key_dn).trans B12294) (j.2.2 k)))))))))))))))))))))))))))))))))))))))))))))))))))
include H2 H3 B0 B1 in
theorem w86_2 (h:T86_2 prog K m0 m1):W prog d c86_4 σ st Q:=
 au @w86_3
include H2 H3 B0 B1 in
theorem w86_1 (h:T86_1 prog K m0 m1):W prog d c86_5 σ st Q:=
 au @w86_2
include H0 H1 in
theorem w86_0 (h:T86_0 prog K m0 x1):W prog d (sR 0 r86_0 c86_5) σ st Q:=
 au @w86_1
end
theorem p86 {prog:Prog}(hf:prog.fn 86=some pf86){m0:Img}{x1:Frm}{K:Int→Prop}(h:T86_0 prog K m0 x1) :∃res0:Int,K res0∧Pus prog 86 [m0.av,x1.av] (.i .i64 res0):=
 P1 hf J (w86_0 (h1 J fun _=>J) J J h)
def r82_0:List AI:=[oY 3 3 0,oY 5 4 2,oC 6 (.sl .full []),oI 7 0]
def r82_1:List AI:=[oM 15 1,oV 16 .lss 15 0,oM 17 16,gF 17 (oM 18 1),gF 17 (oV 19 .geq 18 170),oR 20 17 19]
def r82_2:List AI:=[oC 6 (.sl .full []),oI 7 2]
def r82_3:List AI:=[oK 21 3 3,oK 22 4 5,oQ 23 86 [21,22],oM 8 23]
def r82_4:List AI:=[oM 24 8,oV 25 .neq 24 0]
def r82_5:List AI:=[oM 26 8,oC 6 (.sl .full []),oM 7 26]
def r82_6:List AI:=[oF 27 2 3,oL 28 27,oF 29 0 5,oL 30 29,oX 31 7 28 30,oK 32 7 31,oO 9 (.alloc [zs,z6,z6,zl,zl,zl,zl]),oS 7 9 32]
def r82_7:List AI:=[oM 33 1,oQ 34 111 [33],oB 35 .add (.c (.s [35])) (.t 34),oB 36 .add (.t 35) (.c (.s [32])),oF 37 0 5,oL 38 37,oQ 39 111 [38],oT 40 .add 36 39,oB 41 .add (.t 40) (.c (.s [32])),oF 42 0 9,oL 43 42,oQ 44 112 [43],oT 45 .add 41 44,oB 46 .add (.t 45) (.c (.s [32,97,116,32])),oF 47 1 5,oL 48 47,oQ 49 111 [48],oT 50 .add 46 49,oB 51 .add (.t 50) (.c (.s [32])),oQ 52 113 [],oF 53 2 5,oL 54 53,oO 55 (.ixA 4 1 false (.t 52) (.t 54)),oT 56 .add 51 55,oO 57 (.bslice [zs] 1 [(0,(.t 56))]),oM 10 57]
def r82_8:List AI:=[oF 58 3 5,oL 59 58,oJ 60 59,oI 61 0]
def r82_9:List AI:=[oT 62 .lss 61 60]
def r82_10:List AI:=[oX 63 6 59 61,oK 64 6 63,oO 12 (.alloc [z6,z8,z6,zs,zl,zb]),oS 6 12 64]
def r82_11:List AI:=[oF 66 1 12,oK 67 5 66,oQ 68 72 [67],oM 65 68,oE 69 0 65,oE 70 1 65,oM 13 69,oM 14 70]
def r82_12:List AI:=[oM 71 14,oV 72 .neq 71 0]
def r82_13:List AI:=[oM 73 14,oC 6 (.sl .full []),oM 7 73]
def r82_14:List AI:=[oM 74 10,oF 75 0 12,oL 76 75,oQ 77 111 [76],oB 78 .add (.c (.s [32,32])) (.t 77),oB 79 .add (.t 78) (.c (.s [32])),oF 80 3 9,oL 81 80,oF 82 0 12,oL 83 82,oX 84 2 81 83,oF 85 0 84,oL 86 85,oQ 87 112 [86],oT 88 .add 79 87,oB 89 .add (.t 88) (.c (.s [32,61,32])),oM 90 13,oT 91 .add 89 90,oO 92 (.bslice [zs] 1 [(0,(.t 91))]),oO 93 (.app 1 16 (.t 74) (.t 92)),oM 10 93]
def r82_15:List AI:=[oV 94 .add 61 1,oM 61 94]
def r82_16:List AI:=[oM 95 10,oM 6 95,oI 7 0]
abbrev l82_0:AC:=(sR 9 r82_9 (.seq (.cond (.t 62) .skip (.exit 0)) (.seq (.block 1 (sR 10 r82_10 (sR 11 r82_11 (.seq (sR 12 r82_12 (.cond (.t 72) (sR 13 r82_13 .ret) .skip)) (.reg 14 r82_14))))) (.reg 15 r82_15))))
abbrev c82_1:AC:=(sR 16 r82_16 .ret)
abbrev c82_2:AC:=(sR 7 r82_7 (.seq (sR 8 r82_8 (.block 0 (.loop l82_0))) c82_1))
abbrev c82_3:AC:=(sR 6 r82_6 c82_2)
abbrev c82_4:AC:=(.seq (sR 3 r82_3 (sR 4 r82_4 (.cond (.t 25) (sR 5 r82_5 .ret) .skip))) c82_3)
abbrev c82_5:AC:=(.seq (sR 1 r82_1 (.cond (.t 20) (sR 2 r82_2 .ret) .skip)) c82_4)
abbrev b82:AC:=(sR 0 r82_0 c82_5)
def pf82:AF:={ nt:=96,res:=[.tmp 6,.tmp 7],body:=b82 }
abbrev I82_0 (prog:Prog)(d:Nat)(Q:AE→Sl→St→Prop)(t59:List Loc)(t60:Int)(out10:LB)(t61:Int)(m24582:Fun):Prop:=
  ∀(σ:Sl)(st:St) (o_out10 o_t59:Own)(v24582:Nat),σ 9=.p (d,24582) v24582 0→σ 10=.sl o_out10 (List.map rowS out10)→σ 59=.sl o_t59 (List.map Loc.row t59)→σ 60=.i .i64 t60→σ 61=.i .i64 t61→ApM d st.ow o_out10 out10.length→lk st.bx (d,24582)=some (v24582,Fun.cs m24582)→W prog d (.loop l82_0) σ st (blockW 0 (thenW prog d c82_1 Q))
def T82_6 (prog:Prog)(K:LB→Int→Prop)(out10:LB):Prop:=
  K out10 0
def T82_5 (prog:Prog)(K:LB→Int→Prop)(P0:LB→Int→Fun→Prop)(out10:LB)(t59:List Loc)(t60:Int)(t61:Int)(m24582:Fun):Prop:=
  (t61<t60→0≤t61∧∃j:Loc,t59[(t61).toNat]?=some j∧∃k:BS,∃o,Pus prog 72 [j.value.av] (.tup [.s k,.i .i64 o])∧(o≠0→K ([]:LB) o)∧(¬(o≠0)→∃c:BS,Pus prog 111 [.i .i64 j.slot] (.s c)∧([32,32]:BS).length+c.length≤maxStr∧(([32,32]:BS)++c).length+([32]:BS).length≤maxStr∧0≤j.slot∧∃p:Fld,m24582.slots[(j.slot).toNat]?=some p∧∃e:BS,Pus prog 112 [.s p.name] (.s e)∧((([32,32]:BS)++c)++([32]:BS)).length+e.length≤maxStr∧(((([32,32]:BS)++c)++([32]:BS))++e).length+([32,61,32]:BS).length≤maxStr∧((((([32,32]:BS)++c)++([32]:BS))++e)++([32,61,32]:BS)).length+k.length≤maxStr∧Fit (out10.length+[(((((([32,32]:BS)++c)++([32]:BS))++e)++([32,61,32]:BS))++k)].length) 16∧P0 (out10++[(((((([32,32]:BS)++c)++([32]:BS))++e)++([32,61,32]:BS))++k)]) (IntKind.i64.wrap (t61+1)) m24582))∧(¬(t61<t60)→T82_6 prog K out10)
def T82_4 (prog:Prog)(K:LB→Int→Prop)(k1:Int)(m1:Frm)(m24582:Fun):Prop:=
  ∃c:BS,Pus prog 111 [.i .i64 k1] (.s c)∧([35]:BS).length+c.length≤maxStr∧(([35]:BS)++c).length+([32]:BS).length≤maxStr∧∃e:BS,Pus prog 111 [.i .i64 m1.func] (.s e)∧((([35]:BS)++c)++([32]:BS)).length+e.length≤maxStr∧(((([35]:BS)++c)++([32]:BS))++e).length+([32]:BS).length≤maxStr∧∃j:BS,Pus prog 112 [.s m24582.name] (.s j)∧((((([35]:BS)++c)++([32]:BS))++e)++([32]:BS)).length+j.length≤maxStr∧(((((([35]:BS)++c)++([32]:BS))++e)++([32]:BS))++j).length+([32,97,116,32]:BS).length≤maxStr∧∃k:BS,Pus prog 111 [.i .i64 m1.pos] (.s k)∧((((((([35]:BS)++c)++([32]:BS))++e)++([32]:BS))++j)++([32,97,116,32]:BS)).length+k.length≤maxStr∧(((((((([35]:BS)++c)++([32]:BS))++e)++([32]:BS))++j)++([32,97,116,32]:BS))++k).length+([32]:BS).length≤maxStr∧∃o:LB,Pus prog 113 [] (.ag (List.map AV.s o))∧o.length=4∧0≤m1.mode∧∃p:BS,(o:LB)[(m1.mode).toNat]?=some p∧((((((((([35]:BS)++c)++([32]:BS))++e)++([32]:BS))++j)++([32,97,116,32]:BS))++k)++([32]:BS)).length+p.length≤maxStr∧∀P0:LB→Int→Fun→Prop,(∀(out10:LB)(t61:Int)(m24582:Fun),T82_5 prog K P0 out10 m1.locals (m1.locals.length:Int) t61 m24582→P0 out10 t61 m24582)→P0 [(((((((((([35]:BS)++c)++([32]:BS))++e)++([32]:BS))++j)++([32,97,116,32]:BS))++k)++([32]:BS))++p)] 0 m24582
def T82_3 (prog:Prog)(K:LB→Int→Prop)(k1:Int)(m0:Img)(m1:Frm):Prop:=
  0≤m1.func∧∃c,m0.funcs[(m1.func).toNat]?=some c∧T82_4 prog K k1 m1 c
def T82_2 (prog:Prog)(K:LB→Int→Prop)(k1:Int)(m0:Img)(m1:Frm):Prop:=
  ∃c,Pus prog 86 [m0.av,m1.av] (.i .i64 c)∧(c≠0→K ([]:LB) c)∧(¬(c≠0)→T82_3 prog K k1 m0 m1)
def T82_1 (prog:Prog)(K:LB→Int→Prop)(k1:Int)(m0:Img)(m1:Frm):Prop:=
  (k1<0→K ([]:LB) 2)∧(¬(k1<0)→(k1≥170→K ([]:LB) 2)∧(¬(k1≥170)→T82_2 prog K k1 m0 m1))
def T82_0 (prog:Prog)(K:LB→Int→Prop)(m0:Img)(k1:Int)(x2:Frm):Prop:=
  T82_1 prog K k1 m0 x2
section
variable {prog:Prog}{d:Nat}{Q:AE→Sl→St→Prop}{K:LB→Int→Prop}(hQ:HM rowS (AV.i .i64) 6 7 Q K){σ:Sl}{st:St}
include hQ
variable {out10:LB}{o_out10:Own}{t59:List Loc}{t60 t61:Int}{m24582:Fun}{P0:LB→Int→Fun→Prop}{o_t59:Own}{v24582:Nat}{k1:Int}{m1:Frm}{v1:Nat}{m0:Img}{v0:Nat}{x2:Frm}
variable (kP0 :∀(out10:LB)(t61:Int)(m24582:Fun),P0 out10 t61 m24582→I82_0 prog d Q t59 t60 out10 t61 m24582)(H0:σ 0=m0.av)(H1:σ 1=.i .i64 k1)(H3:σ 3=.p (d,0) v0 0)(H2:σ 2=x2.av)(H5:σ 5=.p (d,1) v1 0)(H9:σ 9=.p (d,24582) v24582 0)(B0:lk st.bx (d,0)=some (v0,Img.cs m0))(H10:σ 10=.sl o_out10 (List.map rowS out10))(B1:lk st.bx (d,1)=some (v1,Frm.cs m1))(H59:σ 59=.sl o_t59 (List.map Loc.row t59))(H60:σ 60=.i .i64 t60)(H61:σ 61=.i .i64 t61)(A10:ApM d st.ow o_out10 out10.length)(B24582:lk st.bx (d,24582)=some (v24582,Fun.cs m24582))
include H10 A10 in
theorem w82_6 (h:T82_6 prog K out10):W prog d c82_1 σ st Q:=
 au trivial
include kP0 H9 H10 H59 H60 H61 A10 B24582 in
theorem w82_5 (h:T82_5 prog K P0 out10 t59 t60 t61 m24582):W prog d l82_0 σ st (thenW prog d (.loop l82_0) (blockW 0 (thenW prog d c82_1 Q))):=
 q_ J (b_ H61 H60 lss_ (e_ (sq_ (cs_ J (fun j=>sk_ (sq_ (bk_ (sq_ (W.reg ((h.1 j).2.elim fun v q=>ia_ H59 H61 (h.1 j).1 q.1 (Loc.row_eq v) J (lf_ J J J (s_alloc (so_ J (show lk _ (d,40962)=some (_,([.i .i64 0,.i .u8 0,.i .i64 0,.s [],.sl .full (List.map Val.row ([]:List Val)),.b false]:List AV)) from lk_here) J J J (e_ (q_ J (f_ J (l_ J lk_here J J (x2 q.2 fun y _ k=>ca_ (sc1 J J) k.1 (m_ (x_ J J (x_ J J (m_ (m_ (e_ (sq_ (q_ J (m_ (b_ J J neq_ (e_ (cs_ J (fun o=>q_ J (m_ (s_mvL (f:=rowS) (l:=[]) J (m_ (er_ (hQ J J (k.2.1 o))))))) (fun o=>sk_ (W.reg0 J fun _ _=>s_mvL H10 (f_ J (l_ J lk_here J J ((k.2.2 o).elim fun z e=>ca_ (sc1 J J) e.1 (b_ J J (abin_cat' e.2.1) (b_ J J (abin_cat' e.2.2.1) (f_ H9 (l_ J (lk_other J (lk_other J B24582)) J J (f_ J (l_ J lk_here J J (e.2.2.2.2.elim fun u p=>ia_ J J e.2.2.2.1 p.1 (Fld.row_eq u) J (ff_ J (lf_ J J J (p.2.elim fun x c=>ca_ (sc1 J J) c.1 (b_ J J (abin_cat' c.2.1) (b_ J J (abin_cat' c.2.2.1) (m_ (b_ J J (abin_cat' c.2.2.2.1) (s_bslM (f:=rowS) (l:=[(((((([32,32]:BS)++z)++([32]:BS))++x)++([32,61,32]:BS))++y)]) J J (g_cons J J J g_nil) J (s_app rowS_len J J J A10.1 c.2.2.2.2.1 J (fun _ _ r _ w=>s_mvL J (e_ (W.reg0 J fun _ _=>b_ H61 J add_ (m_ (e_ (kP0 _ _ _ c.2.2.2.2.2 _ _ _ _ _ H9 J H59 H60 J (ApM.mk r (Mine.app A10.2 J w)) (lk_other J (lk_other J B24582))))))))))))))))))))))))))))))))))))))))))))))))))))))) (fun j=>ex_ (w82_6 hQ H10 A10 (h.2 j)))))))
include H1 H5 H9 B1 B24582 in
theorem w82_4 (h:T82_4 prog K k1 m1 m24582):W prog d c82_2 σ st Q:=
 q_ J (m_ (h.elim fun q e=>ca_ (sc1 H1 J) e.1 (b_ J J (abin_cat' e.2.1) (b_ J J (abin_cat' e.2.2.1) (f_ H5 (l_ J B1 J J (e.2.2.2.elim fun r i=>ca_ (sc1 J J) i.1 (b_ J J (abin_cat' i.2.1) (b_ J J (abin_cat' i.2.2.1) (f_ H9 (l_ J B24582 J J (i.2.2.2.elim fun u j=>ca_ (sc1 J J) j.1 (b_ J J (abin_cat' j.2.1) (b_ J J (abin_cat' j.2.2.1) (f_ H5 (l_ J B1 J J (j.2.2.2.elim fun v k=>ca_ (sc1 J J) k.1 (b_ J J (abin_cat' k.2.1) (b_ J J (abin_cat' k.2.2.1) (k.2.2.2.elim fun _ c=>ca_ sn c.1 (f_ H5 (l_ J B1 J J (c.2.2.2.elim fun p o=>s_ixA (f:=AV.s) c.2.1 J J c.2.2.1 o.1 (b_ J J (abin_cat' o.2.1) (s_bslM (f:=rowS) (l:=[(((((((((([35]:BS)++q)++([32]:BS))++r)++([32]:BS))++u)++([32,97,116,32]:BS))++v)++([32]:BS))++p)]) J J (g_cons J J J g_nil) J (s_mvL J (e_ (sq_ (q_ J (f_ H5 (l_ J B1 J J (ll_ J (m_ (e_ (bk_ (o.2.2 (I82_0 prog d Q m1.locals (m1.locals.length:Int)) (fun _ _ _ hb _ _ _ _ _ H9 H10 H59 H60 H61 A10 B24582=>W.loop (w82_5 hQ (fun _ _ _ x=>x) H9 H10 H59 H60 H61 A10 B24582 hb)) _ _ _ _ _ H9 J J J J ApM.full B24582))))))))))))))))))))))))))))))))))))
include H1 H3 H5 B0 B1 in
theorem w82_3 (h:T82_3 prog K k1 m0 m1):W prog d c82_3 σ st Q:=
 sq_ (W.reg (f_ H3 (l_ J (lk_other J B0) J J (f_ H5 (l_ J (lk_other J B1) J J (h.2.elim fun e c=>ia_ J J h.1 c.1 (Fun.row_eq e) J (lf_ J J J (s_alloc (so_ J (show lk _ (d,24582)=some (_,([.s [],.i .i64 0,.i .i64 0,.sl .full (List.map Fld.row ([]:List Fld)),.sl .full (List.map Ins.row ([]:List Ins)),.sl .full (List.map Rnn.row ([]:List Rnn)),.sl .full (List.map Rnn.row ([]:List Rnn))]:List AV)) from lk_here) J J J (e_ (w82_4 hQ H1 H5 J (lk_other J (lk_other J B1)) lk_here c.2)))))))))))
include H1 H3 H5 B0 B1 in
theorem w82_2 (h:T82_2 prog K k1 m0 m1):W prog d c82_4 σ st Q:=
 au @w82_3
include H1 H3 H5 B0 B1 in
theorem w82_1 (h:T82_1 prog K k1 m0 m1):W prog d c82_5 σ st Q:=
 sq_ (q_ J (s_mvI H1 (b_ J J lss_ (s_mvB J (em_ (g:=17) J (fun c=>z_ 3 J (e_ (ct_ J (q_ J (s_mvL (f:=rowS) (l:=[]) J (m_ (er_ (hQ J J (h.1 c))))))))) (fun c=>gy_ J (s_mvI H1 (gy_ J (b_ J J geq_ (pf_ J J (e_ (cs_ J (fun e=>q_ J (s_mvL (f:=rowS) (l:=[]) J (m_ (er_ (hQ J J ((h.2 c).1 e)))))) (fun e=>sk_ (w82_2 hQ H1 H3 H5 B0 B1 ((h.2 c).2 e)))))))))))))))
include H0 H1 H2 in
theorem w82_0 (h:T82_0 prog K m0 k1 x2):W prog d (sR 0 r82_0 c82_5) σ st Q:=
 au @w82_1
end
theorem p82 {prog:Prog}(hf:prog.fn 82=some pf82){m0:Img}{k1:Int}{x2:Frm}{K:LB→Int→Prop}(h:T82_0 prog K m0 k1 x2) :∃res0:LB,∃res1:Int,K res0 res1∧Pus prog 82 [m0.av,.i .i64 k1,x2.av] (.tup [.sl .ext (List.map rowS res0),.i .i64 res1]):=
 P2 hf J (w82_0 (hM J fun _ _ _=>J) J J J h)
end Go.AM

namespace Go.AM
open Go
set_option linter.unusedVariables false
set_option linter.unusedSimpArgs false
set_option maxRecDepth 4000
attribute [local irreducible] WO fillCells fillRows
abbrev H140 (d:Nat)(st0:St)(kp:Key)(vp:Nat)(Q:AE→Sl→St→Prop)(K:Int→Bool→Sc→Prop):Prop:=∀(σ:Sl)(st:St)(res0:Int)(res1:Bool)(b_:Sc),σ 4=.i .i64 res0→σ 5=.b res1→lk st.bx kp=some (vp,[.s b_.left])→Fr d kp st0.bx st0.ow st.bx st.ow→K res0 res1 b_→Q .ret σ st
section
variable {prog:Prog}{d:Nat}{Q:AE→Sl→St→Prop}{K:Int→Bool→Sc→Prop}{st0:St}{kp:Key}{vp:Nat}(hQ:H140 d st0 kp vp Q K)(hkp:kp.1<d){σ:Sl}{st:St}
include hQ hkp
end
abbrev H117 (d:Nat)(st0:St)(Q:AE→Sl→St→Prop)(K:Int→Frm→Bool→Prop):Prop:=∀(σ:Sl)(st:St)(k1:Key)(v1:Nat)(res0:Int)(res1:Frm)(res2:Bool),σ 4=.i .i64 res0→σ 5=.p k1 v1 0→lk st.bx k1=some (v1,[.i .i64 res1.func,.i .i64 res1.pos,.i .u64 res1.mode,.sl .full (List.map Loc.row res1.locals)])→σ 6=.b res2→Fr d (d,0) st0.bx st0.ow st.bx st.ow→K res0 res1 res2→Q .ret σ st
section
variable {prog:Prog}{d:Nat}{Q:AE→Sl→St→Prop}{K:Int→Frm→Bool→Prop}{st0:St}(hQ:H117 d st0 Q K){σ:Sl}{st:St}
include hQ
end
abbrev H118 (Q:AE→Sl→St→Prop)(K:Loc→Bool→Prop):Prop:=∀(σ:Sl)(st:St)(k0:Key)(v0:Nat)(o0_0:Own)(res0:Loc)(res1:Bool),σ 4=.p k0 v0 0→lk st.bx k0=some (v0,[.i .i64 res0.slot,.i .u8 res0.value.kind,.i .i64 res0.value.int,.s res0.value.text,.sl o0_0 (List.map Val.row res0.value.list),.b res0.value.cut])→σ 5=.b res1→K res0 res1→Q .ret σ st
section
variable {prog:Prog}{d:Nat}{Q:AE→Sl→St→Prop}{K:Loc→Bool→Prop}(hQ:H118 Q K){σ:Sl}{st:St}
include hQ
end
abbrev H84 (Q:AE→Sl→St→Prop)(K:Int→Frm→Int→Prop):Prop:=∀(σ:Sl)(st:St)(k1:Key)(v1:Nat)(o1_0:Own)(res0:Int)(res1:Frm)(res2:Int),σ 4=.i .i64 res0→σ 5=.p k1 v1 0→lk st.bx k1=some (v1,[.i .i64 res1.func,.i .i64 res1.pos,.i .u64 res1.mode,.sl o1_0 (List.map Loc.row res1.locals)])→σ 6=.i .i64 res2→K res0 res1 res2→Q .ret σ st
section
variable {prog:Prog}{d:Nat}{Q:AE→Sl→St→Prop}{K:Int→Frm→Int→Prop}(hQ:H84 Q K){σ:Sl}{st:St}
include hQ
end
end Go.AM
