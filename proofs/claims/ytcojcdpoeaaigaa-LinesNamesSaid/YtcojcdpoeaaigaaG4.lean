/- Parts of the proof: U38h, S3, S4, U38i, H44, Hf, Hg, Hh, Hi, Hj, U38j, Hk, Hl. -/
import Derived.Test.YtcojcdpoeaaigaaG2
import Derived.Test.YtcojcdpoeaaigaaG1
import Derived.Maps.RangeRun
set_option linter.all false
namespace Go.AM
open Go
set_option maxRecDepth 4000
attribute [local irreducible] WO fillCells fillRows
abbrev H67 (Q:AE→Sl→St→Prop)(K:Bool→Prop):Prop:=∀(σ:Sl)(st:St)(res0:Bool),σ 8=.b res0→K res0→Q .ret σ st
section
variable {prog:Prog}{d:Nat}{Q:AE→Sl→St→Prop}{K:Bool→Prop}(hQ:H67 Q K){σ:Sl}{st:St}
include hQ
end
abbrev H69 (Q:AE→Sl→St→Prop)(K:Bool→Prop):Prop:=∀(σ:Sl)(st:St)(res0:Bool),σ 4=.b res0→K res0→Q .ret σ st
section
variable {prog:Prog}{d:Nat}{Q:AE→Sl→St→Prop}{K:Bool→Prop}(hQ:H69 Q K){σ:Sl}{st:St}
include hQ
end
abbrev H70 (Q:AE→Sl→St→Prop)(K:Bool→Prop):Prop:=∀(σ:Sl)(st:St)(res0:Bool),σ 4=.b res0→K res0→Q .ret σ st
section
variable {prog:Prog}{d:Nat}{Q:AE→Sl→St→Prop}{K:Bool→Prop}(hQ:H70 Q K){σ:Sl}{st:St}
include hQ
end
def r89_0:List AI:=[oO 4 (.alloc [z8,z6,zs,zl,zb])]
def r89_1:List AI:=[oM 5 0,oM 6 1,oO 7 (.build [z8,z6,zs,zl,zb] [(0,1,(.t 5)),(3,1,(.t 6))]),oS 5 4 7]
abbrev b89:AC:=(sR 0 r89_0 (sR 1 r89_1 .ret))
def pf89:AF:={ nt:=8,res:=[.cell 4 5 true],body:=b89 }
abbrev H89 (d:Nat)(st0:St)(Q:AE→Sl→St→Prop)(K:Val→Prop):Prop:=∀(σ:Sl)(st:St)(k0:Key)(v0:Nat)(res0:Val),σ 4=.p k0 v0 0→lk st.bx k0=some (v0,[.i .u8 res0.kind,.i .i64 res0.int,.s res0.text,.sl .full (List.map Val.row res0.list),.b res0.cut])→Fr d (d,0) st0.bx st0.ow st.bx st.ow→K res0→Q .ret σ st
def T89_0 (prog:Prog)(K:Val→Prop)(kind0:Int)(l1:List Val):Prop:=
  K (Val.mk kind0 0 [] l1 false)
section
variable {prog:Prog}{d:Nat}{Q:AE→Sl→St→Prop}{K:Val→Prop}{st0:St}(hQ:H89 d st0 Q K){σ:Sl}{st:St}
include hQ
variable {kind0:Int}{l1:List Val}
variable (H0:σ 0=.i .u8 kind0)(H1:σ 1=.sl .full (List.map Val.row l1))(FR:Fr d (d,0) st0.bx st0.ow st.bx st.ow)
include H0 H1 FR in
theorem w89_0 (h:T89_0 prog K kind0 l1):W prog d (sR 0 r89_0 (sR 1 r89_1 .ret)) σ st Q:=
 sq_ (W.reg (s_alloc (e_ (q_ J (m_ (s_mvL H1 (s_build (f_cons H0 J (f_cons J J f_nil)) (so_ J (show lk _ (d,0)=some (_,([.i .u8 0,.i .i64 0,.s [],.sl .full (List.map Val.row ([]:List Val)),.b false]:List AV)) from lk_here) J J J (er_ (hQ _ _ _ _ _ J lk_here (Fr.box (Fr.box FR)) h))))))))))
end
theorem p89 {prog:Prog}(hf:prog.fn 89=some pf89){kind0:Int}{l1:List Val}{K:Val→Prop}(h:T89_0 prog K kind0 l1):PuN prog 89 [.i .u8 kind0,.sl .full (List.map Val.row l1)] (fun r=>∃res0:Val,(r=res0.avo .full)∧K res0):=
  PuN.of hf rfl fun d st=>w89_0 (st0:=st) (Q:=fun e σ st'=>(e=.normal∨e=.ret)∧∃r,ares σ st' pf89.res=some r∧_∧Fr d (d,0) st.bx st.ow st'.bx st'.ow) (fun σ st' k0 v0  res0 H4 HB4 hf hk=>⟨.inr rfl,res0.avo .full,by simp only [pf89,ares,aresL,ares_cellA (n:=5) H4 HB4 rfl,ares_tmp,Option.map_some,ares_cellA (n:=5) H4 HB4 rfl],⟨res0,rfl,hk⟩,hf⟩) (σ:=sl0 [.i .u8 kind0,.sl .full (List.map Val.row l1)]) rfl rfl Fr.refl h
def r90_0:List AI:=[oO 0 (.alloc [z8,z6,zs,zl,zb])]
def r90_1:List AI:=[oO 1 (.build [z8,z6,zs,zl,zb] [(0,1,(.c (.i .u8 1))),(1,1,(.c (.i .i64 1)))]),oS 5 0 1]
abbrev b90:AC:=(sR 0 r90_0 (sR 1 r90_1 .ret))
def pf90:AF:={ nt:=2,res:=[.cell 0 5 true],body:=b90 }
abbrev H90 (Q:AE→Sl→St→Prop)(K:Val→Prop):Prop:=∀(σ:Sl)(st:St)(k0:Key)(v0:Nat)(o0_0:Own)(res0:Val),σ 0=.p k0 v0 0→lk st.bx k0=some (v0,[.i .u8 res0.kind,.i .i64 res0.int,.s res0.text,.sl o0_0 (List.map Val.row res0.list),.b res0.cut])→K res0→Q .ret σ st
def T90_0 (prog:Prog)(K:Val→Prop) :Prop:=
  K (Val.mk 1 1 [] ([]:List Val) false)
section
variable {prog:Prog}{d:Nat}{Q:AE→Sl→St→Prop}{K:Val→Prop}(hQ:H90 Q K){σ:Sl}{st:St}
include hQ
theorem w90_0 (h:T90_0 prog K ):W prog d (sR 0 r90_0 (sR 1 r90_1 .ret)) σ st Q:=
 sq_ (W.reg (s_alloc (e_ (q_ J (s_build (f_cons J J (f_cons J J f_nil)) (so_ J (show lk _ (d,0)=some (_,([.i .u8 0,.i .i64 0,.s [],.sl .full (List.map Val.row ([]:List Val)),.b false]:List AV)) from lk_here) J J J (er_ (hQ _ _ _ _ _ _ J lk_here h))))))))
end
theorem p90 {prog:Prog}(hf:prog.fn 90=some pf90)  {K:Val→Prop}(h:T90_0 prog K ) :∃res0:Val,K res0∧Pus prog 90 [] (res0.av):=by
  obtain ⟨v,hv,res0,hk,rfl⟩:=Pus.of (K:=fun v=>∃res0:Val,K res0∧v=res0.av) hf rfl (w90_0 (σ:=sl0 []) (fun σ st k0 v0 o0_0 res0 H0 HB0 hk=>⟨res0.avo o0_0,by simp only [pf90,ares,aresL,ares_cellA (n:=5) H0 HB0 rfl,ares_tmp,Option.map_some],_,rfl,res0,hk,rfl⟩)  h)
  exact ⟨res0,hk,hv⟩
def r91_0:List AI:=[oY 2 5 0,oC 4 (.b false)]
def r91_1:List AI:=[oK 10 5 2,oQ 11 72 [10],oM 9 11,oE 12 0 9,oE 13 1 9,oM 5 12,oM 6 13]
def r91_2:List AI:=[oM 15 1,oQ 16 74 [15],oM 14 16,oE 17 0 14,oE 18 1 14,oO 7 (.alloc [z8,z6,zs,zl,zb]),oS 5 7 17,oM 8 18]
def r91_3:List AI:=[oM 19 6,oV 20 .eql 19 0,oM 21 20,gT 21 (oM 22 5),gT 21 (oM 23 1),gT 21 (oT 24 .eql 22 23),oA 25 21 24,oM 26 25,gT 26 (oM 27 8),gT 26 (oV 28 .eql 27 0),oA 29 26 28,oM 30 29,gT 30 (oK 31 5 2),gT 30 (oK 32 5 7),gT 30 (oQ 33 78 [31,32]),oA 34 30 33,oM 4 34]
abbrev b91:AC:=(sR 0 r91_0 (sR 1 r91_1 (sR 2 r91_2 (sR 3 r91_3 .ret))))
def pf91:AF:={ nt:=35,res:=[.tmp 4],body:=b91 }
def T91_0 (prog:Prog)(K:Bool→Prop)(v0:Val)(want1:BS):Prop:=
  ∃c j,Pus prog 72 [v0.av] (.tup [.s c,.i .i64 j])∧∃o:Val,∃e,Pus prog 74 [.s want1] (.tup [o.av,.i .i64 e])∧(j=0→(c=want1→(e=0→∃k,Pus prog 78 [v0.av,o.av] (.b k)∧K k)∧(¬(e=0)→K false))∧(¬(c=want1)→K false))∧(¬(j=0)→K false)
section
variable {prog:Prog}{d:Nat}{Q:AE→Sl→St→Prop}{K:Bool→Prop}(hQ:H1 AV.b 4 Q K){σ:Sl}{st:St}
include hQ
variable {v0:Val}{want1:BS}
variable (H0:σ 0=v0.av)(H1:σ 1=.s want1)
include H0 H1 in
theorem w91_0 (h:T91_0 prog K v0 want1):W prog d (sR 0 r91_0 (sR 1 r91_1 (sR 2 r91_2 (sR 3 r91_3 .ret)))) σ st Q:=
 q_ J (s_box H0 J (m_ (e_ (q_ J (l_ J lk_here J J (x2 h fun _ _ p=>ca_ (sc1 J J) p.1 (m_ (x_ J J (x_ J J (m_ (m_ (e_ (sq_ (W.reg (m_ (x2 p.2 fun _ _ c=>ca_ (sc1 H1 J) c.1 (m_ (x_ J J (x_ J J (s_alloc (so_ J (show lk _ (d,8197)=some (_,([.i .u8 0,.i .i64 0,.s [],.sl .full (List.map Val.row ([]:List Val)),.b false]:List AV)) from lk_here) J J J (m_ (e_ (q_ J (s_mvI J (b_ J J eql_ (s_mvB J (em_ (g:=21) J (fun e=>gy_ J (s_mvS J (gy_ J (s_mvS H1 (gy_ J (b_ J J seq_ (z_ 2 J (em_ (g:=26) J (fun j=>gy_ J (s_mvI J (gy_ J (b_ J J eql_ (z_ 2 J (em_ (g:=30) J (fun k=>gy_ J (l_ J (lk_other J (lk_other J lk_here)) J J (gy_ J (l_ J lk_here J J (gy_ J ((((c.2.1 e).1 j).1 k).elim fun _ o=>ca_ (sc2 J J J) o.1 (z_ 2 J (er_ (hQ J o.2))))))))) (fun k=>z_ 5 J (er_ (hQ J (((c.2.1 e).1 j).2 k)))))))))) (fun j=>z_ 9 J (er_ (hQ J ((c.2.1 e).2 j)))))))))))) (fun e=>z_ 14 J (er_ (hQ J (c.2.2 e))))))))))))))))))))))))))))))))
end
theorem p91 {prog:Prog}(hf:prog.fn 91=some pf91){v0:Val}{want1:BS}{K:Bool→Prop}(h:T91_0 prog K v0 want1) :∃res0:Bool,K res0∧Pus prog 91 [v0.av,.s want1] (.b res0):=
 P1 hf J (w91_0 (h1 J fun _=>J) J J h)
def r92_0:List AI:=[oO 2 (.alloc [z8,z6,zs,zl,zb])]
def r92_1:List AI:=[oM 3 0,oO 4 (.build [z8,z6,zs,zl,zb] [(0,1,(.c (.i .u8 2))),(1,1,(.t 3))]),oS 5 2 4]
abbrev b92:AC:=(sR 0 r92_0 (sR 1 r92_1 .ret))
def pf92:AF:={ nt:=5,res:=[.cell 2 5 true],body:=b92 }
abbrev H92 (Q:AE→Sl→St→Prop)(K:Val→Prop):Prop:=∀(σ:Sl)(st:St)(k0:Key)(v0:Nat)(o0_0:Own)(res0:Val),σ 2=.p k0 v0 0→lk st.bx k0=some (v0,[.i .u8 res0.kind,.i .i64 res0.int,.s res0.text,.sl o0_0 (List.map Val.row res0.list),.b res0.cut])→K res0→Q .ret σ st
def T92_0 (prog:Prog)(K:Val→Prop)(n0:Int):Prop:=
  K (Val.mk 2 n0 [] ([]:List Val) false)
section
variable {prog:Prog}{d:Nat}{Q:AE→Sl→St→Prop}{K:Val→Prop}(hQ:H92 Q K){σ:Sl}{st:St}
include hQ
variable {n0:Int}
variable (H0:σ 0=.i .i64 n0)
include H0 in
theorem w92_0 (h:T92_0 prog K n0):W prog d (sR 0 r92_0 (sR 1 r92_1 .ret)) σ st Q:=
 sq_ (W.reg (s_alloc (e_ (q_ J (m_ (s_build (f_cons J J (f_cons H0 J f_nil)) (so_ J (show lk _ (d,0)=some (_,([.i .u8 0,.i .i64 0,.s [],.sl .full (List.map Val.row ([]:List Val)),.b false]:List AV)) from lk_here) J J J (er_ (hQ _ _ _ _ _ _ J lk_here h)))))))))
end
theorem p92 {prog:Prog}(hf:prog.fn 92=some pf92){n0:Int}{K:Val→Prop}(h:T92_0 prog K n0) :∃res0:Val,K res0∧Pus prog 92 [.i .i64 n0] (res0.av):=by
  obtain ⟨v,hv,res0,hk,rfl⟩:=Pus.of (K:=fun v=>∃res0:Val,K res0∧v=res0.av) hf rfl (w92_0 (σ:=sl0 [.i .i64 n0]) (fun σ st k0 v0 o0_0 res0 H2 HB2 hk=>⟨res0.avo o0_0,by simp only [pf92,ares,aresL,ares_cellA (n:=5) H2 HB2 rfl,ares_tmp,Option.map_some],_,rfl,res0,hk,rfl⟩) rfl h)
  exact ⟨res0,hk,hv⟩
def r93_0:List AI:=[oO 2 (.alloc [z8,z6,zs,zl,zb])]
def r93_1:List AI:=[oM 3 0,oO 4 (.build [z8,z6,zs,zl,zb] [(0,1,(.c (.i .u8 3))),(2,1,(.t 3))]),oS 5 2 4]
abbrev b93:AC:=(sR 0 r93_0 (sR 1 r93_1 .ret))
def pf93:AF:={ nt:=5,res:=[.cell 2 5 true],body:=b93 }
abbrev H93 (Q:AE→Sl→St→Prop)(K:Val→Prop):Prop:=∀(σ:Sl)(st:St)(k0:Key)(v0:Nat)(o0_0:Own)(res0:Val),σ 2=.p k0 v0 0→lk st.bx k0=some (v0,[.i .u8 res0.kind,.i .i64 res0.int,.s res0.text,.sl o0_0 (List.map Val.row res0.list),.b res0.cut])→K res0→Q .ret σ st
def T93_0 (prog:Prog)(K:Val→Prop)(s0:BS):Prop:=
  K (Val.mk 3 0 s0 ([]:List Val) false)
section
variable {prog:Prog}{d:Nat}{Q:AE→Sl→St→Prop}{K:Val→Prop}(hQ:H93 Q K){σ:Sl}{st:St}
include hQ
variable {s0:BS}
variable (H0:σ 0=.s s0)
include H0 in
theorem w93_0 (h:T93_0 prog K s0):W prog d (sR 0 r93_0 (sR 1 r93_1 .ret)) σ st Q:=
 sq_ (W.reg (s_alloc (e_ (q_ J (m_ (s_build (f_cons J J (f_cons H0 J f_nil)) (so_ J (show lk _ (d,0)=some (_,([.i .u8 0,.i .i64 0,.s [],.sl .full (List.map Val.row ([]:List Val)),.b false]:List AV)) from lk_here) J J J (er_ (hQ _ _ _ _ _ _ J lk_here h)))))))))
end
theorem p93 {prog:Prog}(hf:prog.fn 93=some pf93){s0:BS}{K:Val→Prop}(h:T93_0 prog K s0) :∃res0:Val,K res0∧Pus prog 93 [.s s0] (res0.av):=by
  obtain ⟨v,hv,res0,hk,rfl⟩:=Pus.of (K:=fun v=>∃res0:Val,K res0∧v=res0.av) hf rfl (w93_0 (σ:=sl0 [.s s0]) (fun σ st k0 v0 o0_0 res0 H2 HB2 hk=>⟨res0.avo o0_0,by simp only [pf93,ares,aresL,ares_cellA (n:=5) H2 HB2 rfl,ares_tmp,Option.map_some],_,rfl,res0,hk,rfl⟩) rfl h)
  exact ⟨res0,hk,hv⟩
def r98_0:List AI:=[oC 2 (.b false)]
def r98_1:List AI:=[oM 6 0,oQ 7 74 [6],oM 5 7,oE 8 0 5,oE 9 1 5,oO 3 (.alloc [z8,z6,zs,zl,zb]),oS 5 3 8,oM 4 9]
def r98_2:List AI:=[oM 10 4,oV 11 .eql 10 12,oM 12 11,gT 12 (oK 13 5 3),gT 12 (oO 14 (.build [z8,z6,zs,zl,zb] [])),gT 12 (oQ 15 78 [13,14]),oA 16 12 15,oM 2 16]
abbrev b98:AC:=(sR 0 r98_0 (sR 1 r98_1 (sR 2 r98_2 .ret)))
def pf98:AF:={ nt:=17,res:=[.tmp 2],body:=b98 }
def T98_0 (prog:Prog)(K:Bool→Prop)(s0:BS):Prop:=
  ∃e:Val,∃c,Pus prog 74 [.s s0] (.tup [e.av,.i .i64 c])∧(c=12→∃j,Pus prog 78 [e.av,.ag [.i .u8 0,.i .i64 0,.s [],.sl .ext (List.map Val.row ([]:List Val)),.b false]] (.b j)∧K j)∧(¬(c=12)→K false)
section
variable {prog:Prog}{d:Nat}{Q:AE→Sl→St→Prop}{K:Bool→Prop}(hQ:H1 AV.b 2 Q K){σ:Sl}{st:St}
include hQ
variable {s0:BS}
variable (H0:σ 0=.s s0)
include H0 in
theorem w98_0 (h:T98_0 prog K s0):W prog d (sR 0 r98_0 (sR 1 r98_1 (sR 2 r98_2 .ret))) σ st Q:=
 q_ J (m_ (e_ (sq_ (W.reg (m_ (x2 h fun _ _ c=>ca_ (sc1 H0 J) c.1 (m_ (x_ J J (x_ J J (s_alloc (so_ J (show lk _ (d,4101)=some (_,([.i .u8 0,.i .i64 0,.s [],.sl .full (List.map Val.row ([]:List Val)),.b false]:List AV)) from lk_here) J J J (m_ (e_ (q_ J (s_mvI J (b_ J J eql_ (s_mvB J (em_ (g:=12) J (fun e=>gy_ J (l_ J lk_here J J (gy_ J (s_build f_nil (gy_ J ((c.2.1 e).elim fun _ j=>ca_ (sc2 J J J) j.1 (z_ 2 J (er_ (hQ J j.2))))))))) (fun e=>z_ 5 J (er_ (hQ J (c.2.2 e))))))))))))))))))))))
end
theorem p98 {prog:Prog}(hf:prog.fn 98=some pf98){s0:BS}{K:Bool→Prop}(h:T98_0 prog K s0) :∃res0:Bool,K res0∧Pus prog 98 [.s s0] (.b res0):=
 P1 hf J (w98_0 (h1 J fun _=>J) J h)
def r99_0:List AI:=[oO 0 (.alloc [zl,zl,zl])]
def r99_1:List AI:=[oO 3 (.mks [z8,z6,z6,z6] 32 (.c (.i .i64 9)) (.c (.i .i64 9))),oM 1 3]
def r99_2:List AI:=[oM 4 1,oO 5 (.build [zs,z6] [(0,1,(.c (.s [97])))]),oO 6 (.build [zs,z6] [(0,1,(.c (.s [120])))]),oO 7 (.build [zs,z6] [(0,1,(.c (.s [122])))]),oO 8 (.bslice [zs,z6] 3 [(0,(.t 5)),(1,(.t 6)),(2,(.t 7))]),oO 9 (.build [zs,z6,z6,zl,zl,zl,zl] [(0,1,(.c (.s [102]))),(4,1,(.t 4)),(3,1,(.t 8))]),oO 2 (.alloc [zs,z6,z6,zl,zl,zl,zl]),oS 7 2 9]
def r99_3:List AI:=[oM 10 1,oO 11 (.build [zs,z6,z6,zl,zl,zl,zl] [(0,1,(.c (.s [109,97,105,110]))),(4,1,(.t 10))]),oM 12 1,oO 13 (.build [zs,z6,z6,zl,zl,zl,zl] [(0,1,(.c (.s [102]))),(4,1,(.t 12))]),oK 14 7 2,oO 15 (.bslice [zs,z6,z6,zl,zl,zl,zl] 3 [(0,(.t 11)),(1,(.t 13)),(2,(.t 14))]),oO 16 (.build [zl,zl,zl] [(2,1,(.t 15))]),oS 3 0 16]
abbrev b99:AC:=(sR 0 r99_0 (sR 1 r99_1 (sR 2 r99_2 (sR 3 r99_3 .ret))))
def pf99:AF:={ nt:=17,res:=[.cell 0 3 true],body:=b99 }
abbrev H99 (Q:AE→Sl→St→Prop)(K:Img→Prop):Prop:=∀(σ:Sl)(st:St)(k0:Key)(v0:Nat) (o0_0 o0_1 o0_2:Own)(res0:Img),σ 0=.p k0 v0 0→lk st.bx k0=some (v0,[.sl o0_0 (List.map Typ.row res0.types),.sl o0_1 (List.map rowS res0.texts),.sl o0_2 (List.map Fun.row res0.funcs)])→K res0→Q .ret σ st
def T99_0 (prog:Prog)(K:Img→Prop) :Prop:=
  K (Img.mk ([]:List Typ) ([]:LB) [(Fun.mk ([109,97,105,110]:BS) 0 0 ([]:List Fld) (rep 9 Ins.zero) ([]:List Rnn) ([]:List Rnn)),(Fun.mk ([102]:BS) 0 0 ([]:List Fld) (rep 9 Ins.zero) ([]:List Rnn) ([]:List Rnn)),(Fun.mk ([102]:BS) 0 0 [(Fld.mk ([97]:BS) 0),(Fld.mk ([120]:BS) 0),(Fld.mk ([122]:BS) 0)] (rep 9 Ins.zero) ([]:List Rnn) ([]:List Rnn))])
section
variable {prog:Prog}{d:Nat}{Q:AE→Sl→St→Prop}{K:Img→Prop}(hQ:H99 Q K){σ:Sl}{st:St}
include hQ
theorem w99_0 (h:T99_0 prog K ):W prog d (sR 0 r99_0 (sR 1 r99_1 (sR 2 r99_2 (sR 3 r99_3 .ret)))) σ st Q:=
 sq_ (W.reg (s_alloc (e_ (q_ J (s_mks (n:=9) (m:=9) (f:=Ins.row) (a:=Ins.zero) J J J J J (by decide) J ⟨by decide,by decide⟩ (s_mvL J (e_ (sq_ (W.reg (s_mvL J (s_build (f_cons J J f_nil) (s_build (f_cons J J f_nil) (s_build (f_cons J J f_nil) (s_bslM (f:=Fld.row) (l:=[(Fld.mk ([97]:BS) 0),(Fld.mk ([120]:BS) 0),(Fld.mk ([122]:BS) 0)]) J J (g_cons J J J (g_cons J J J (g_cons J J J g_nil))) (by simp only [List.map_cons,List.map_nil,Fld.row_eq];rfl) (s_build (f_cons J J (f_cons J J (f_cons J J f_nil))) (s_alloc (so_ J (show lk _ (d,8198)=some (_,([.s [],.i .i64 0,.i .i64 0,.sl .full (List.map Fld.row ([]:List Fld)),.sl .full (List.map Ins.row ([]:List Ins)),.sl .full (List.map Rnn.row ([]:List Rnn)),.sl .full (List.map Rnn.row ([]:List Rnn))]:List AV)) from lk_here) J J J (e_ (q_ J (s_mvL J (s_build (f_cons J J (f_cons J J f_nil)) (s_mvL J (s_build (f_cons J J (f_cons J J f_nil)) (l_ J lk_here J J (s_bslM (f:=Fun.row) (l:=[(Fun.mk ([109,97,105,110]:BS) 0 0 ([]:List Fld) (rep 9 Ins.zero) ([]:List Rnn) ([]:List Rnn)),(Fun.mk ([102]:BS) 0 0 ([]:List Fld) (rep 9 Ins.zero) ([]:List Rnn) ([]:List Rnn)),(Fun.mk ([102]:BS) 0 0 [(Fld.mk ([97]:BS) 0),(Fld.mk ([120]:BS) 0),(Fld.mk ([122]:BS) 0)] (rep 9 Ins.zero) ([]:List Rnn) ([]:List Rnn))]) J J (g_cons J J J (g_cons J J J (g_cons J J J g_nil))) (by simp only [List.map_cons,List.map_nil,Fun.row_eq];rfl) (s_build (f_cons J J f_nil) (so_ J (lk_other J (lk_other J (show lk _ (d,0)=some (_,([.sl .full (List.map Typ.row ([]:List Typ)),.sl .full (List.map rowS ([]:LB)),.sl .full (List.map Fun.row ([]:List Fun))]:List AV)) from lk_here))) J J J (er_ (hQ _ _ _ _ _ _ _ _ J lk_here h)))))))))))))))))))))))))))))
end
theorem p99 {prog:Prog}(hf:prog.fn 99=some pf99)  {K:Img→Prop}(h:T99_0 prog K ) :∃res0:Img,K res0∧Pus prog 99 [] (res0.av):=by
  obtain ⟨v,hv,res0,hk,rfl⟩:=Pus.of (K:=fun v=>∃res0:Img,K res0∧v=res0.av) hf rfl (w99_0 (σ:=sl0 []) (fun σ st k0 v0 o0_0 o0_1 o0_2 res0 H0 HB0 hk=>⟨.ag [.sl o0_0 (List.map Typ.row res0.types),.sl o0_1 (List.map rowS res0.texts),.sl o0_2 (List.map Fun.row res0.funcs)],by simp only [pf99,ares,aresL,ares_cellA (n:=3) H0 HB0 rfl,ares_tmp,Option.map_some],_,rfl,res0,hk,rfl⟩)  h)
  exact ⟨res0,hk,hv⟩
def r101_0:List AI:=[oC 0 (.b false)]
def r101_1:List AI:=[oO 7 (.call false 92 [(.c (.i .i64 3))]),oO 8 (.build [z6,z8,z6,zs,zl,zb] [(0,1,(.c (.i .i64 1))),(1,5,(.t 7))]),oO 9 (.bslice [z6,z8,z6,zs,zl,zb] 1 [(0,(.t 8))]),oO 10 (.build [z6,z6,z7,zl] [(0,1,(.c (.i .i64 2))),(1,1,(.c (.i .i64 7))),(2,1,(.c (.i .u64 1))),(3,1,(.t 9))]),oO 1 (.alloc [z6,z6,z7,zl]),oS 4 1 10]
def r101_2:List AI:=[oQ 12 99 [],oK 13 4 1,oO 14 (.call false 82 [(.t 12),(.c (.i .i64 0)),(.t 13)]),oM 11 14,oE 15 0 11,oE 16 1 11,oM 2 15,oM 3 16]
def r101_3:List AI:=[oQ 18 99 [],oM 19 2,oQ 20 84 [18,19],oM 17 20,oE 21 0 17,oE 22 1 17,oE 23 2 17,oO 5 (.alloc [z6,z6,z7,zl]),oM 4 21,oS 4 5 22,oM 6 23]
def r101_4:List AI:=[oQ 24 125 [],oO 25 (.call false 91 [(.t 24),(.c (.s [123,116,114,117,101,44,32,45,53,44,32,38,60,34,97,34,44,32,34,34,62,125]))]),oM 26 25,gT 26 (oO 27 (.build [z8,z6,zs,zl,zb] [(0,1,(.c (.i .u8 4))),(4,1,(.c (.b true)))])),gT 26 (oO 28 (.call false 91 [(.t 27),(.c (.s [38,46,46,46]))])),oA 29 26 28,oM 30 29,gT 30 (oO 31 (.call true 89 [(.c (.i .u8 7)),(.c (.sl .full []))])),gT 30 (oO 32 (.call false 91 [(.t 31),(.c (.s [60,62]))])),oA 33 30 32,oM 34 33,gT 34 (oO 35 (.call false 98 [(.c (.s [91,93]))])),oA 36 34 35,oM 37 36,gT 37 (oO 38 (.call false 98 [(.c (.s [123,116,114,117,101,44,102,97,108,115,101,125]))])),oA 39 37 38,oM 40 39,gT 40 (oM 41 3),gT 40 (oV 42 .eql 41 0),oA 43 40 42,oM 44 43,gT 44 (oM 45 2),gT 44 (oO 46 (.bslice [zs] 2 [(0,(.c (.s [35,48,32,50,32,34,102,34,32,97,116,32,55,32,100,101,102,101,114]))),(1,(.c (.s [32,32,49,32,34,120,34,32,61,32,51])))])),gT 44 (oQ 47 29 [45,46]),oA 48 44 47,oM 49 48,gT 49 (oM 50 6),gT 49 (oV 51 .eql 50 0),oA 52 49 51,oM 53 52,gT 53 (oM 54 4),gT 53 (oV 55 .eql 54 0),oA 56 53 55,oM 57 56,gT 57 (oK 58 4 1),gT 57 (oK 59 4 5),gT 57 (oQ 60 88 [58,59]),oA 61 57 60,oM 0 61]
abbrev c101_0:AC:=(sR 1 r101_1 (sR 2 r101_2 (sR 3 r101_3 (sR 4 r101_4 .ret))))
abbrev b101:AC:=(sR 0 r101_0 c101_0)
def pf101:AF:={ nt:=62,res:=[.tmp 0],body:=b101 }
def T101_1 (prog:Prog)(K:Bool→Prop) :Prop:=
  ∃c:Val,Pus prog 92 [.i .i64 3] (c.av)∧∃e:Img,Pus prog 99 [] (e.av)∧∃j v,Pus prog 82 [e.av,.i .i64 0,.ag [.i .i64 2,.i .i64 7,.i .u64 1,.sl .ext (List.map Loc.row [(Loc.mk 1 c)])]] (.tup [.sl .ext (List.map rowS j),.i .i64 v])∧∃z:Img,Pus prog 99 [] (z.av)∧∃w,∃a0:Frm,∃u,Pus prog 84 [z.av,.sl .ext (List.map rowS j)] (.tup [.i .i64 w,a0.av,.i .i64 u])∧∃a3:Val,Pus prog 125 [] (a3.av)∧∃q,Pus prog 91 [a3.av,.s ([123,116,114,117,101,44,32,45,53,44,32,38,60,34,97,34,44,32,34,34,62,125]:BS)] (.b q)∧(q=true→∃x,Pus prog 91 [.ag [.i .u8 4,.i .i64 0,.s [],.sl .ext (List.map Val.row ([]:List Val)),.b true],.s ([38,46,46,46]:BS)] (.b x)∧(x=true→∃a2:Val,(PuN prog 89 [.i .u8 7,.sl .full (List.map Val.row ([]:List Val))] (fun r=>r=a2.avo .full))∧∃o,Pus prog 91 [a2.av,.s ([60,62]:BS)] (.b o)∧(o=true→∃k,Pus prog 98 [.s ([91,93]:BS)] (.b k)∧(k=true→∃y,Pus prog 98 [.s ([123,116,114,117,101,44,102,97,108,115,101,125]:BS)] (.b y)∧(y=true→(v=0→∃p,Pus prog 29 [.sl .ext (List.map rowS j),.sl .ext (List.map rowS [([35,48,32,50,32,34,102,34,32,97,116,32,55,32,100,101,102,101,114]:BS),([32,32,49,32,34,120,34,32,61,32,51]:BS)])] (.b p)∧(p=true→(u=0→(w=0→∃a1,Pus prog 88 [.ag [.i .i64 2,.i .i64 7,.i .u64 1,.sl .ext (List.map Loc.row [(Loc.mk 1 c)])],a0.av] (.b a1)∧K a1)∧(¬(w=0)→K false))∧(¬(u=0)→K false))∧(p=false→K false))∧(¬(v=0)→K false))∧(y=false→K false))∧(k=false→K false))∧(o=false→K false))∧(x=false→K false))∧(q=false→K false)
def T101_0 (prog:Prog)(K:Bool→Prop) :Prop:=
  T101_1 prog K 
section
variable {prog:Prog}{d:Nat}{Q:AE→Sl→St→Prop}{K:Bool→Prop}(hQ:H1 AV.b 0 Q K){σ:Sl}{st:St}
include hQ
theorem w101_1 (h:T101_1 prog K ):W prog d c101_0 σ st Q:=
 sq_ (W.reg (h.elim fun b0 a2=>ca_ (sc1 J J) a2.1 (s_build (f_cons J J (f_cons J J f_nil)) (s_bslM (f:=Loc.row) (l:=[(Loc.mk 1 b0)]) J J (g_cons J J J g_nil) (by simp only [List.map_cons,List.map_nil,Loc.row_eq];rfl) (s_build (f_cons J J (f_cons J J (f_cons J J (f_cons J J f_nil)))) (s_alloc (so_ J (show lk _ (d,4100)=some (_,([.i .i64 0,.i .i64 0,.i .u64 0,.sl .full (List.map Loc.row ([]:List Loc))]:List AV)) from lk_here) J J J (e_ (q_ J (a2.2.elim fun _ a4=>ca_ sn a4.1 (l_ J lk_here J J (x2 a4.2 fun _ _ a6=>ca_ (sc3 J J J J) a6.1 (m_ (x_ J J (x_ J J (s_mvL J (m_ (e_ (sq_ (W.reg (a6.2.elim fun _ a7=>ca_ sn a7.1 (s_mvL J (x2 a7.2 fun _ _ a9=>a9.elim fun _ a0=>ca_ (sc2 J J J) a0.1 (m_ (x_ J J (x_ J J (x_ J J (s_alloc (m_ (so_ J (show lk _ (d,12295)=some (_,([.i .i64 0,.i .i64 0,.i .u64 0,.sl .full (List.map Loc.row ([]:List Loc))]:List AV)) from lk_here) J J J (m_ (e_ (q_ J (a0.2.elim fun _ a1=>ca_ sn a1.1 (a1.2.elim fun _ p=>ca_ (sc2 J J J) p.1 (s_mvB J (eb_ (g:=26) J (fun u=>gy_ J (s_build (f_cons J J (f_cons J J f_nil)) (gy_ J ((p.2.1 u).elim fun _ q=>ca_ (sc2 J J J) q.1 (z_ 2 J (eb_ (g:=30) J (fun v=>gy_ J ((q.2.1 v).elim fun _ a3=>s_callN (sec J (sec (show _=AV.sl .full (List.map Val.row []) from J) sen)) (a3.1) (fun _ a8=>gy_ J (a3.2.elim fun _ r=>ca_ (sc2 J J J) r.1 (z_ 2 J (eb_ (g:=34) J (fun w=>gy_ J ((r.2.1 w).elim fun _ s=>ca_ (sc1 J J) s.1 (z_ 2 J (eb_ (g:=37) J (fun x=>gy_ J ((s.2.1 x).elim fun _ j=>ca_ (sc1 J J) j.1 (z_ 2 J (eb_ (g:=40) J (fun k=>gy_ J (s_mvI J (gy_ J (b_ J J eql_ (z_ 2 J (em_ (g:=44) J (fun y=>gy_ J (s_mvL J (gy_ J (s_bslM (f:=rowS) (l:=[([35,48,32,50,32,34,102,34,32,97,116,32,55,32,100,101,102,101,114]:BS),([32,32,49,32,34,120,34,32,61,32,51]:BS)]) J J (g_cons J J J (g_cons J J J g_nil)) J (gy_ J (((j.2.1 k).1 y).elim fun _ c=>ca_ (sc2 J J J) c.1 (z_ 2 J (eb_ (g:=49) J (fun e=>gy_ J (s_mvI J (gy_ J (b_ J J eql_ (z_ 2 J (em_ (g:=53) J (fun o=>gy_ J (s_mvI J (gy_ J (b_ J J eql_ (z_ 2 J (em_ (g:=57) J (fun z=>gy_ J (l_ J ((a8.1 (d,4100) (Nat.lt_succ_self d) key_dn).trans (lk_other J (lk_other J lk_here))) J J (gy_ J (l_ J ((a8.1 (d,12295) (Nat.lt_succ_self d) key_dn).trans lk_here) J J (gy_ J ((((c.2.1 e).1 o).1 z).elim fun _ a5=>ca_ (sc2 J J J) a5.1 (z_ 2 J (er_ (hQ J a5.2))))))))) (fun z=>z_ 5 J (er_ (hQ J (((c.2.1 e).1 o).2 z)))))))))) (fun o=>z_ 9 J (er_ (hQ J ((c.2.1 e).2 o)))))))))) (fun e=>z_ 13 J (er_ (hQ J (c.2.2 e)))))))))))) (fun y=>z_ 18 J (er_ (hQ J ((j.2.1 k).2 y)))))))))) (fun k=>z_ 22 J (er_ (hQ J (j.2.2 k)))))))) (fun x=>z_ 25 J (er_ (hQ J (s.2.2 x)))))))) (fun w=>z_ 28 J (er_ (hQ J (r.2.2 w)))))))))) (fun v=>z_ 32 J (er_ (hQ J (q.2.2 v)))))))))) (fun u=>z_ 36 J (er_ (hQ J (p.2.2 u)))))))))))))))))))))))))))))))))))))))))
theorem w101_0 (h:T101_0 prog K ):W prog d (sR 0 r101_0 c101_0) σ st Q:=
 q_ J (m_ (e_ (w101_1 hQ h)))
end
theorem p101 {prog:Prog}(hf:prog.fn 101=some pf101)  {K:Bool→Prop}(h:T101_0 prog K ) :∃res0:Bool,K res0∧Pus prog 101 [] (.b res0):=
 P1 hf J (w101_0 (h1 J fun _=>J)  h)
def r125_0:List AI:=[oO 0 (.alloc [z8,z6,zs,zl,zb])]
def r125_1:List AI:=[oQ 1 90 [],oO 2 (.call false 92 [(.c (.i .i64 (-5)))]),oO 3 (.call false 93 [(.c (.s [97]))]),oO 4 (.call false 93 [(.c (.s []))]),oO 5 (.bslice [z8,z6,zs,zl,zb] 2 [(0,(.t 3)),(1,(.t 4))]),oO 6 (.call true 89 [(.c (.i .u8 7)),(.t 5)]),oO 7 (.bslice [z8,z6,zs,zl,zb] 1 [(0,(.t 6))]),oO 8 (.call true 89 [(.c (.i .u8 4)),(.t 7)]),oO 9 (.bslice [z8,z6,zs,zl,zb] 3 [(0,(.t 1)),(1,(.t 2)),(2,(.t 8))]),oO 10 (.call true 89 [(.c (.i .u8 5)),(.t 9)]),oS 5 0 10]
abbrev b125:AC:=(sR 0 r125_0 (sR 1 r125_1 .ret))
def pf125:AF:={ nt:=11,res:=[.cell 0 5 true],body:=b125 }
abbrev H125 (Q:AE→Sl→St→Prop)(K:Val→Prop):Prop:=∀(σ:Sl)(st:St)(k0:Key)(v0:Nat)(o0_0:Own)(res0:Val),σ 0=.p k0 v0 0→lk st.bx k0=some (v0,[.i .u8 res0.kind,.i .i64 res0.int,.s res0.text,.sl o0_0 (List.map Val.row res0.list),.b res0.cut])→K res0→Q .ret σ st
def T125_0 (prog:Prog)(K:Val→Prop) :Prop:=
  ∃c:Val,Pus prog 90 [] (c.av)∧∃j:Val,Pus prog 92 [.i .i64 (-5)] (j.av)∧∃e:Val,Pus prog 93 [.s ([97]:BS)] (e.av)∧∃q:Val,Pus prog 93 [.s ([]:BS)] (q.av)∧∃k:Val,(PuN prog 89 [.i .u8 7,.sl .full (List.map Val.row [e,q])] (fun r=>r=k.avo .full))∧∃p:Val,(PuN prog 89 [.i .u8 4,.sl .full (List.map Val.row [k])] (fun r=>r=p.avo .full))∧∃o:Val,(PuN prog 89 [.i .u8 5,.sl .full (List.map Val.row [c,j,p])] (fun r=>r=o.avo .full))∧K o
section
variable {prog:Prog}{d:Nat}{Q:AE→Sl→St→Prop}{K:Val→Prop}(hQ:H125 Q K){σ:Sl}{st:St}
include hQ
theorem w125_0 (h:T125_0 prog K ):W prog d (sR 0 r125_0 (sR 1 r125_1 .ret)) σ st Q:=
 sq_ (W.reg (s_alloc (e_ (q_ J (h.elim fun w k=>ca_ sn k.1 (k.2.elim fun y o=>ca_ (sc1 J J) o.1 (o.2.elim fun z p=>ca_ (sc1 J J) p.1 (p.2.elim fun a0 q=>ca_ (sc1 J J) q.1 (s_bslM (f:=Val.row) (l:=[z,a0]) J J (g_cons J J J (g_cons J J J g_nil)) (by simp only [List.map_cons,List.map_nil,Val.row_eq];rfl) (q.2.elim fun a1 c=>s_callN (sec J (sec J sen)) (c.1) (fun _ r=>s_bslM (f:=Val.row) (l:=[a1]) J J (g_cons J J J g_nil) (by simp only [List.map_cons,List.map_nil,Val.row_eq];rfl) (c.2.elim fun x e=>s_callN (sec J (sec J sen)) (e.1) (fun _ u=>s_bslM (f:=Val.row) (l:=[w,y,x]) J J (g_cons J J J (g_cons J J J (g_cons J J J g_nil))) (by simp only [List.map_cons,List.map_nil,Val.row_eq];rfl) (e.2.elim fun _ j=>s_callN (sec J (sec J sen)) (j.1) (fun _ v=>so_ J ((v.1 (d,0) (Nat.lt_succ_self d) key_dn).trans ((u.1 (d,0) (Nat.lt_succ_self d) key_dn).trans ((r.1 (d,0) (Nat.lt_succ_self d) key_dn).trans (show lk _ (d,0)=some (_,([.i .u8 0,.i .i64 0,.s [],.sl .full (List.map Val.row ([]:List Val)),.b false]:List AV)) from lk_here)))) J J J (er_ (hQ _ _ _ _ _ _ J lk_here j.2)))))))))))))))))
end
theorem p125 {prog:Prog}(hf:prog.fn 125=some pf125)  {K:Val→Prop}(h:T125_0 prog K ) :∃res0:Val,K res0∧Pus prog 125 [] (res0.av):=by
  obtain ⟨v,hv,res0,hk,rfl⟩:=Pus.of (K:=fun v=>∃res0:Val,K res0∧v=res0.av) hf rfl (w125_0 (σ:=sl0 []) (fun σ st k0 v0 o0_0 res0 H0 HB0 hk=>⟨res0.avo o0_0,by simp only [pf125,ares,aresL,ares_cellA (n:=5) H0 HB0 rfl,ares_tmp,Option.map_some],_,rfl,res0,hk,rfl⟩)  h)
  exact ⟨res0,hk,hv⟩
end Go.AM

namespace Go.AM
open Go
structure Dsk where
 image:Img
 state:Sta
 query:Qry
 out:List (List UInt8)
def AppD (ow:Ows) (o:Own) (n:Nat):Prop:=
 match o with
 | .ext=>False
 | .full=>True
 | .id k v=>(lk ow k=some (v,n)∧0<n)∧midSite≤k.2∧k.2<bigSite
abbrev Dsk.fix (m:Dsk):List AV:=[.sl .ext (List.map Typ.row m.image.types),.sl .ext (List.map rowS m.image.texts),.sl .ext (List.map Fun.row m.image.funcs),.i .u8 m.state.outcome,.i .i64 m.state.failing,.i .i64 m.state.steps,.sl .ext (List.map Rou.row m.state.routines),.i .u8 m.query.kind,.i .i64 m.query.g,.i .i64 m.query.k,.i .i64 m.query.key,.s m.query.name]
def Dk (m:Dsk):BC:=fun bx ow k v=>∃o,lk bx k=some (v,m.fix++[.sl o (List.map rowS m.out)])∧AppD ow o m.out.length
theorem Dk.other {m:Dsk} {bx:Bxs} {ow:Ows} {k q:Key} {v:Nat} {a:Nat × List AV} (hn:q≠k) (h:Dk m bx ow k v):Dk m (st_ bx q a) ow k v:=by
 obtain ⟨o,h1,h2⟩:=h
 exact ⟨o,by rw [lk_ne hn];exact h1,h2⟩
theorem Dk.out {m:Dsk}:Out (Dk m):=fun d bx ow k v hk ⟨o,h1,h2⟩=>⟨o,by rw [lk_out hk];exact h1,h2⟩
def ApS (S:List Nat) (d:Nat) (ow:Ows) (o:Own) (n:Nat):Prop:=App ow o n∧∀k v,o=.id k v→k.1=d∧S.contains k.2=true
theorem ApS.full {S:List Nat} {d n:Nat} {ow:Ows}:ApS S d ow .full n:=⟨trivial,fun _ _ h=>by cases h⟩
theorem ApS.new {S:List Nat} {d n n' site:Nat} {ow ow':Ows} {o o':Own} (h:ApS S d ow o n) (a:App ow' o' n') (he:ownKey o'=ownKey o∨ownKey o'=some (d,site)) (hs:S.contains site=true):ApS S d ow' o' n':=by
 refine ⟨a,fun k v e=>?_⟩
 subst e
 rcases he with he | he
 ·cases o with
  | ext=>cases he
  | full=>cases he
  | id k' v'=>
   injection he with he
   subst he
   exact h.2 _ _ rfl
 ·injection he with he
  subst he
  exact ⟨rfl,hs⟩
theorem ApS.keep {S1 S2:List Nat} {d n n2 site:Nat} {ow ow':Ows} {o o2:Own} (h2:ApS S2 d ow o2 n2) (h1:ApS S1 d ow o n) (hw :∀k,some k≠ownKey o→k≠(d,site)→lk ow' k=lk ow k) (hs:S1.contains site=true) (hd:(S1.all fun x=>!S2.contains x)=true):ApS S2 d ow' o2 n2:=by
 refine ⟨?_,h2.2⟩
 have hn :∀x,S1.contains x=true→S2.contains x=false:=fun x hx=>by
  have:=List.all_eq_true.1 hd x (by simpa using hx)
  simpa using this
 cases o2 with
 | ext=>exact h2.1
 | full=>exact h2.1
 | id k v=>
  obtain ⟨e1,e2⟩:=h2.2 k v rfl
  obtain ⟨a1,a2⟩:=h2.1
  refine ⟨(hw k ?_ ?_).trans a1,a2⟩
  ·intro e
   cases o with
   | ext=>cases e
   | full=>cases e
   | id k' v'=>
    injection e with e
    subst e
    have:=hn _ (h1.2 _ _ rfl).2
    rw [e2] at this
    cases this
  ·rintro rfl
   have:=hn _ hs
   rw [e2] at this
   cases this
theorem ApS.call {S:List Nat} {d n:Nat} {q:Key} {ow ow2:Ows} {bx bx2:Bxs} {o:Own} (h:ApS S d ow o n) (c:Fr (d+1) q bx ow bx2 ow2) (hS:(S.all fun x=>Nat.blt x midSite)=true):ApS S d ow2 o n:=by
 refine ⟨?_,h.2⟩
 cases o with
 | ext=>exact h.1
 | full=>exact h.1
 | id k v=>
  obtain ⟨e1,e2⟩:=h.2 k v rfl
  obtain ⟨a1,a2⟩:=h.1
  refine ⟨(c.2 k (by omega) ?_).trans a1,a2⟩
  exact Nat.le_of_ble_eq_true (List.all_eq_true.1 hS _ (by simpa using e2))
def PuXFK {β:Type} (prog:Prog) (f:Nat) (B:BC) (args:Key→Nat→List AV) (KK:AV→β→Prop) (B':β→BC):Prop:=
 ∀d (st:St) (k:Key) (v:Nat),k.1<d→B st.bx st.ow k v→∃r st' b,Fn prog d f (.p k v 0::args k v) st r st'∧KK r b∧B' b st'.bx st'.ow k v∧Fr d k st.bx st.ow st'.bx st'.ow
theorem PuXFK.of {β:Type} {prog:Prog} {f:Nat} {F:AF} {B:BC} {B':β→BC} {args:Key→Nat→List AV} {KK:AV→β→Prop} (hf:prog.fn f=some F) (hn :∀k v,Nat.ble ((args k v).length+1) F.nt=true) (ho :∀b,Out (B' b))
  (h :∀(d:Nat) (st:St) (k:Key) (v:Nat),k.1<d→B st.bx st.ow k v→W prog d F.body (sl0 (.p k v 0::args k v)) st fun e σ st'=>(e=.normal∨e=.ret)∧∃r b,ares σ st' F.res=some r∧KK r b∧B' b st'.bx st'.ow k v∧Fr d k st.bx st.ow st'.bx st'.ow):PuXFK prog f B args KK B':=by
 intro d st k v hk hB
 obtain ⟨r,st',h1,b,h2,h3,h4⟩:=Fn.of' (prog:=prog) (K:=fun r st'=>∃b,KK r b∧B' b st'.bx st'.ow k v∧Fr d k st.bx st.ow st'.bx st'.ow) hf (by simpa using Nat.le_of_ble_eq_true (hn k v)) ((h d st k v hk hB).mono fun e σ st' hq=>by
  obtain ⟨he,r,b,h1,h2,h3,h4⟩:=hq
  rcases he with rfl | rfl
  ·exact ⟨r,h1,b,h2,ho b d _ _ k v hk h3,h4.out⟩
  ·exact ⟨r,h1,b,h2,ho b d _ _ k v hk h3,h4.out⟩)
 exact ⟨r,st',b,h1,h2,h3,h4⟩
section
variable {prog:Prog} {d id base i:Nat} {σ:Sl} {st:St} {K:Sl→St→Prop} {r:List AI} {t:Option Nat} {x y:Opd}
end
end Go.AM

namespace Go.AM
open Go
section
variable {σ:Sl} {cells cs:List AV} {off n:Nat} {x:Opd} {ps:List (Nat × Nat × Opd)}
def fOk (cells l:List AV) (off n:Nat):Bool:=Nat.beq l.length n&&Nat.ble (off+n) cells.length&&l.all AV.one
theorem f_ct {v:AV} (hc:fOk cells v.cells off n=true) (h:fillCells σ (setAt cells off v.cells) ps=some cs):fillCells σ cells ((off,n,.c v)::ps)=some cs:=f_cons rfl hc h
theorem f_ag {vs:List AV} (hx:x.ev σ=.ag vs) (hc:fOk cells vs off n=true) (h:fillCells σ (setAt cells off vs) ps=some cs):fillCells σ cells ((off,n,x)::ps)=some cs:=f_cons hx hc h
theorem f_sl {o:Own} {rows:List (List AV)} (hx:x.ev σ=.sl o rows) (hc:fOk cells [.sl o rows] off n=true) (h:fillCells σ (setAt cells off [.sl o rows]) ps=some cs):fillCells σ cells ((off,n,x)::ps)=some cs:=f_cons hx hc h
end
end Go.AM

namespace Go.AM
open Go
set_option maxRecDepth 4000
set_option maxHeartbeats 1000000
attribute [local irreducible] WO fillCells fillRows
def r94_0:List AI:=[oO 2 (.alloc [z8,z6,zs,zl,zb])]
def r94_1:List AI:=[oO 5 (.call false 92 [(.c (.i .i64 7))]),oO 3 (.alloc [z8,z6,zs,zl,zb]),oS 5 3 5]
def r94_2:List AI:=[oI 4 0]
def r94_3:List AI:=[oM 6 4,oM 7 0,oT 8 .lss 6 7]
def r94_4:List AI:=[oK 11 5 3,oO 12 (.bslice [z8,z6,zs,zl,zb] 1 [(0,(.t 11))]),oO 13 (.call true 89 [(.c (.i .u8 4)),(.t 12)]),oS 5 3 13]
def r94_5:List AI:=[oM 9 4,oV 10 .add 9 1,oM 4 10]
def r94_6:List AI:=[oK 14 5 3,oS 5 2 14]
abbrev l94_0:AC:=(.seq (sR 3 r94_3 (.cond (.t 8) .skip (.exit 0))) (.seq (.block 1 (.reg 5 r94_4)) (.reg 4 r94_5)))
abbrev c94_1:AC:=(sR 6 r94_6 .ret)
abbrev b94:AC:=(sR 0 r94_0 (sR 1 r94_1 (.seq (sR 2 r94_2 (.block 0 (.loop l94_0))) c94_1)))
def pf94:AF:={ nt:=15,res:=[.cell 2 5 true],body:=b94 }
abbrev H94 (Q:AE→Sl→St→Prop)(K:Val→Prop):Prop:=∀(σ:Sl)(st:St)(k0:Key)(v0:Nat)(o0_0:Own)(res0:Val),σ 2=.p k0 v0 0→lk st.bx k0=some (v0,[.i .u8 res0.kind,.i .i64 res0.int,.s res0.text,.sl o0_0 (List.map Val.row res0.list),.b res0.cut])→K res0→Q .ret σ st
abbrev I94_0 (prog:Prog)(d:Nat)(Q:AE→Sl→St→Prop)(n0:Int)(i4:Int)(m0:Val)(m4097:Val):Prop:=
  ∀(σ:Sl)(st:St) (o_m0_3 o_m4097_3:Own) (v0 v4097:Nat),σ 0=.i .i64 n0→σ 2=.p (d,0) v0 0→σ 3=.p (d,4097) v4097 0→σ 4=.i .i64 i4→lk st.bx (d,0)=some (v0,[.i .u8 m0.kind,.i .i64 m0.int,.s m0.text,.sl o_m0_3 (List.map Val.row m0.list),.b m0.cut])→lk st.bx (d,4097)=some (v4097,[.i .u8 m4097.kind,.i .i64 m4097.int,.s m4097.text,.sl o_m4097_3 (List.map Val.row m4097.list),.b m4097.cut])→W prog d (.loop l94_0) σ st (blockW 0 (thenW prog d c94_1 Q))
def T94_2 (prog:Prog)(K:Val→Prop)(m0:Val)(m4097:Val):Prop:=
  K m4097
def T94_1 (prog:Prog)(K:Val→Prop)(P0:Int→Val→Val→Prop)(n0:Int)(i4:Int)(m0:Val)(m4097:Val):Prop:=
  (i4<n0→∃c:Val,(PuN prog 89 [.i .u8 4,.sl .full (List.map Val.row [m4097])] (fun r=>r=c.avo .full))∧P0 (IntKind.i64.wrap (i4+1)) m0 c)∧(¬(i4<n0)→T94_2 prog K m0 m4097)
def T94_0 (prog:Prog)(K:Val→Prop)(n0:Int):Prop:=
  ∃c:Val,Pus prog 92 [.i .i64 7] (c.av)∧∀P0:Int→Val→Val→Prop,(∀(i4:Int)(m0:Val)(m4097:Val),T94_1 prog K P0 n0 i4 m0 m4097→P0 i4 m0 m4097)→P0 0 (Val.mk 0 0 [] ([]:List Val) false) c
section
variable {prog:Prog}{d:Nat}{Q:AE→Sl→St→Prop}{K:Val→Prop}(hQ:H94 Q K){σ:Sl}{st:St}
include hQ
variable {m0 m4097:Val}{o_m0_3 o_m4097_3:Own}{v0 v4097:Nat}{n0 i4:Int}{P0:Int→Val→Val→Prop}
variable (kP0 :∀(i4:Int)(m0:Val)(m4097:Val),P0 i4 m0 m4097→I94_0 prog d Q n0 i4 m0 m4097)(H0:σ 0=.i .i64 n0)(H2:σ 2=.p (d,0) v0 0)(H3:σ 3=.p (d,4097) v4097 0)(H4:σ 4=.i .i64 i4)(B0:lk st.bx (d,0)=some (v0,[.i .u8 m0.kind,.i .i64 m0.int,.s m0.text,.sl o_m0_3 (List.map Val.row m0.list),.b m0.cut]))(B4097:lk st.bx (d,4097)=some (v4097,[.i .u8 m4097.kind,.i .i64 m4097.int,.s m4097.text,.sl o_m4097_3 (List.map Val.row m4097.list),.b m4097.cut]))
include H2 H3 B0 B4097 in
theorem w94_2 (h:T94_2 prog K m0 m4097):W prog d c94_1 σ st Q:=
 q_ J (l_ H3 B4097 J J (so_ H2 B0 J J J (er_ (hQ _ _ _ _ _ _ H2 lk_here h))))
include kP0 H0 H2 H3 H4 B0 B4097 in
theorem w94_1 (h:T94_1 prog K P0 n0 i4 m0 m4097):W prog d l94_0 σ st (thenW prog d (.loop l94_0) (blockW 0 (thenW prog d c94_1 Q))):=
 sq_ (q_ J (m_ (m_ (b_ H4 H0 lss_ (e_ (cs_ J (fun c=>sk_ (sq_ (bk_ (W.reg0 J fun _ _=>l_ H3 B4097 J J (s_bslM (f:=Val.row) (l:=[m4097]) J J (g_cons J J J g_nil) (by simp only [List.map_cons,List.map_nil,Val.row_eq];rfl) ((h.1 c).elim fun _ e=>s_callN (sec J (sec J sen)) (e.1) (fun _ i=>so_ H3 ((i.1 (d,4097) (Nat.lt_succ_self d) key_dn).trans B4097) J J J (e_ (W.reg0 J fun _ _=>m_ (b_ H4 J add_ (m_ (e_ (kP0 _ _ _ e.2 _ _ _ _ _ _ H0 H2 H3 J (lk_other J ((i.1 (d,0) (Nat.lt_succ_self d) key_dn).trans B0)) lk_here))))))))))))) (fun c=>ex_ (w94_2 hQ H2 H3 B0 B4097 (h.2 c)))))))))
include H0 in
theorem w94_0 (h:T94_0 prog K n0):W prog d (sR 0 r94_0 (sR 1 r94_1 (.seq (sR 2 r94_2 (.block 0 (.loop l94_0))) c94_1))) σ st Q:=
 sq_ (W.reg (s_alloc (e_ (sq_ (W.reg (h.elim fun _ c=>ca_ (sc1 J J) c.1 (s_alloc (so_ J (show lk _ (d,4097)=some (_,([.i .u8 0,.i .i64 0,.s [],.sl .full (List.map Val.row ([]:List Val)),.b false]:List AV)) from lk_here) J J J (e_ (sq_ (q_ J (m_ (e_ (bk_ (c.2 (I94_0 prog d Q n0) (fun _ _ _ hb _ _ _ _ _ _ H0 H2 H3 H4 B0 B4097=>W.loop (w94_1 hQ (fun _ _ _ x=>x) H0 H2 H3 H4 B0 B4097 hb)) _ _ _ _ _ _ H0 J J J (lk_other J (lk_other J (show lk _ (d,0)=some (_,([.i .u8 0,.i .i64 0,.s [],.sl .full (List.map Val.row ([]:List Val)),.b false]:List AV)) from lk_here))) lk_here)))))))))))))))
end
theorem p94 {prog:Prog}(hf:prog.fn 94=some pf94){n0:Int}{K:Val→Prop}(h:T94_0 prog K n0) :∃res0:Val,K res0∧Pus prog 94 [.i .i64 n0] (res0.av):=by
  obtain ⟨v,hv,res0,hk,rfl⟩:=Pus.of (K:=fun v=>∃res0:Val,K res0∧v=res0.av) hf rfl (w94_0 (σ:=sl0 [.i .i64 n0]) (fun σ st k0 v0 o0_0 res0 H2 HB2 hk=>⟨res0.avo o0_0,by simp only [pf94,ares,aresL,ares_cellA (n:=5) H2 HB2 rfl,ares_tmp,Option.map_some],_,rfl,res0,hk,rfl⟩) rfl h)
  exact ⟨res0,hk,hv⟩
def r95_0:List AI:=[oO 4 (.alloc [z8,z6,zs,zl,zb])]
def r95_1:List AI:=[oO 9 (.call true 89 [(.c (.i .u8 6)),(.c (.sl .full []))]),oO 5 (.alloc [z8,z6,zs,zl,zb]),oS 5 5 9]
def r95_2:List AI:=[oI 6 0]
def r95_3:List AI:=[oM 10 6,oM 11 0,oT 12 .lss 10 11]
def r95_4:List AI:=[oO 15 (.call true 89 [(.c (.i .u8 7)),(.c (.sl .full []))]),oO 7 (.alloc [z8,z6,zs,zl,zb]),oS 5 7 15]
def r95_5:List AI:=[oI 8 0]
def r95_6:List AI:=[oM 16 8,oM 17 1,oT 18 .lss 16 17]
def r95_7:List AI:=[oF 21 3 7,oL 22 21,oM 23 8,oQ 24 92 [23],oO 25 (.bslice [z8,z6,zs,zl,zb] 1 [(0,(.t 24))]),oO 26 (.app 5 64 (.t 22) (.t 25)),oF 27 3 7,oS 1 27 26]
def r95_8:List AI:=[oM 19 8,oV 20 .add 19 1,oM 8 20]
def r95_9:List AI:=[oF 28 3 5,oL 29 28,oK 30 5 7,oO 31 (.bslice [z8,z6,zs,zl,zb] 1 [(0,(.t 30))]),oO 32 (.app 5 64 (.t 29) (.t 31)),oF 33 3 5,oS 1 33 32]
def r95_10:List AI:=[oM 13 6,oV 14 .add 13 1,oM 6 14]
def r95_11:List AI:=[oK 34 5 5,oS 5 4 34]
abbrev l95_1:AC:=(.seq (sR 7 r95_6 (.cond (.t 18) .skip (.exit 2))) (.seq (.block 3 (.reg 9 r95_7)) (.reg 8 r95_8)))
abbrev c95_1:AC:=(.reg 10 r95_9)
abbrev c95_2:AC:=(.reg 4 r95_10)
abbrev l95_0:AC:=(.seq (sR 3 r95_3 (.cond (.t 12) .skip (.exit 0))) (.seq (.block 1 (sR 5 r95_4 (.seq (sR 6 r95_5 (.block 2 (.loop l95_1))) c95_1))) c95_2))
abbrev c95_4:AC:=(sR 11 r95_11 .ret)
abbrev b95:AC:=(sR 0 r95_0 (sR 1 r95_1 (.seq (sR 2 r95_2 (.block 0 (.loop l95_0))) c95_4)))
def pf95:AF:={ nt:=35,res:=[.cell 4 5 true],body:=b95 }
abbrev H95 (Q:AE→Sl→St→Prop)(K:Val→Prop):Prop:=∀(σ:Sl)(st:St)(k0:Key)(v0:Nat)(o0_0:Own)(res0:Val),σ 4=.p k0 v0 0→lk st.bx k0=some (v0,[.i .u8 res0.kind,.i .i64 res0.int,.s res0.text,.sl o0_0 (List.map Val.row res0.list),.b res0.cut])→K res0→Q .ret σ st
abbrev I95_0 (prog:Prog)(d:Nat)(Q:AE→Sl→St→Prop)(n0:Int)(m1:Int)(i6:Int)(m0:Val)(m4097:Val):Prop:=
  ∀(σ:Sl)(st:St) (o_m0_3 o_m4097_3:Own) (v0 v4097:Nat),σ 0=.i .i64 n0→σ 1=.i .i64 m1→σ 4=.p (d,0) v0 0→σ 5=.p (d,4097) v4097 0→σ 6=.i .i64 i6→ApS [40964] d st.ow o_m4097_3 m4097.list.length→lk st.bx (d,0)=some (v0,[.i .u8 m0.kind,.i .i64 m0.int,.s m0.text,.sl o_m0_3 (List.map Val.row m0.list),.b m0.cut])→lk st.bx (d,4097)=some (v4097,[.i .u8 m4097.kind,.i .i64 m4097.int,.s m4097.text,.sl o_m4097_3 (List.map Val.row m4097.list),.b m4097.cut])→W prog d (.loop l95_0) σ st (blockW 0 (thenW prog d c95_4 Q))
abbrev I95_1 (prog:Prog)(d:Nat)(Q:AE→Sl→St→Prop)(n0:Int)(m1:Int)(i6:Int)(k8:Int)(m0:Val)(m20481:Val)(m4097:Val):Prop:=
  ∀(σ:Sl)(st:St) (o_m0_3 o_m20481_3 o_m4097_3:Own) (v0 v20481 v4097:Nat),σ 0=.i .i64 n0→σ 1=.i .i64 m1→σ 4=.p (d,0) v0 0→σ 5=.p (d,4097) v4097 0→σ 6=.i .i64 i6→σ 7=.p (d,20481) v20481 0→σ 8=.i .i64 k8→ApS [36869] d st.ow o_m20481_3 m20481.list.length→ApS [40964] d st.ow o_m4097_3 m4097.list.length→lk st.bx (d,0)=some (v0,[.i .u8 m0.kind,.i .i64 m0.int,.s m0.text,.sl o_m0_3 (List.map Val.row m0.list),.b m0.cut])→lk st.bx (d,20481)=some (v20481,[.i .u8 m20481.kind,.i .i64 m20481.int,.s m20481.text,.sl o_m20481_3 (List.map Val.row m20481.list),.b m20481.cut])→lk st.bx (d,4097)=some (v4097,[.i .u8 m4097.kind,.i .i64 m4097.int,.s m4097.text,.sl o_m4097_3 (List.map Val.row m4097.list),.b m4097.cut])→W prog d (.loop l95_1) σ st (blockW 2 (thenW prog d c95_1 (blockW 1 (thenW prog d c95_2 (thenW prog d (.loop l95_0) (blockW 0 (thenW prog d c95_4 Q)))))))
def T95_4 (prog:Prog)(K:Val→Prop)(P0:Int→Val→Val→Prop)(n0:Int)(m1:Int)(i6:Int)(m0:Val)(m4097:Val):Prop:=
  P0 (IntKind.i64.wrap (i6+1)) m0 m4097
def T95_3 (prog:Prog)(K:Val→Prop)(P0:Int→Val→Val→Prop)(n0:Int)(m1:Int)(i6:Int)(m0:Val)(m20481:Val)(m4097:Val):Prop:=
  Fit (m4097.list.length+[m20481].length) 64∧T95_4 prog K P0 n0 m1 i6 m0 (Val.mk m4097.kind m4097.int m4097.text (m4097.list++[m20481]) m4097.cut)
def T95_2 (prog:Prog)(K:Val→Prop)(P1:Int→Val→Val→Val→Prop)(P0:Int→Val→Val→Prop)(n0:Int)(m1:Int)(i6:Int)(k8:Int)(m0:Val)(m20481:Val)(m4097:Val):Prop:=
  (k8<m1→∃c:Val,Pus prog 92 [.i .i64 k8] (c.av)∧Fit (m20481.list.length+[c].length) 64∧P1 (IntKind.i64.wrap (k8+1)) m0 (Val.mk m20481.kind m20481.int m20481.text (m20481.list++[c]) m20481.cut) m4097)∧(¬(k8<m1)→T95_3 prog K P0 n0 m1 i6 m0 m20481 m4097)
def T95_5 (prog:Prog)(K:Val→Prop)(m0:Val)(m4097:Val):Prop:=
  K m4097
def T95_1 (prog:Prog)(K:Val→Prop)(P0:Int→Val→Val→Prop)(n0:Int)(m1:Int)(i6:Int)(m0:Val)(m4097:Val):Prop:=
  (i6<n0→∃c:Val,(PuN prog 89 [.i .u8 7,.sl .full (List.map Val.row ([]:List Val))] (fun r=>r=c.avo .full))∧∀P1:Int→Val→Val→Val→Prop,(∀(k8:Int)(m0:Val)(m20481:Val)(m4097:Val),T95_2 prog K P1 P0 n0 m1 i6 k8 m0 m20481 m4097→P1 k8 m0 m20481 m4097)→P1 0 m0 c m4097)∧(¬(i6<n0)→T95_5 prog K m0 m4097)
def T95_0 (prog:Prog)(K:Val→Prop)(n0:Int)(m1:Int):Prop:=
  ∃c:Val,(PuN prog 89 [.i .u8 6,.sl .full (List.map Val.row ([]:List Val))] (fun r=>r=c.avo .full))∧∀P0:Int→Val→Val→Prop,(∀(i6:Int)(m0:Val)(m4097:Val),T95_1 prog K P0 n0 m1 i6 m0 m4097→P0 i6 m0 m4097)→P0 0 (Val.mk 0 0 [] ([]:List Val) false) c
section
variable {prog:Prog}{d:Nat}{Q:AE→Sl→St→Prop}{K:Val→Prop}(hQ:H95 Q K){σ:Sl}{st:St}
include hQ
variable {n0 m1 i6:Int}{m0 m4097:Val}{P0:Int→Val→Val→Prop}{o_m0_3 o_m4097_3:Own}{v0 v4097:Nat}{m20481:Val}{o_m20481_3:Own}{v20481:Nat}{k8:Int}{P1:Int→Val→Val→Val→Prop}
variable (kP1 :∀(k8:Int)(m0:Val)(m20481:Val)(m4097:Val),P1 k8 m0 m20481 m4097→I95_1 prog d Q n0 m1 i6 k8 m0 m20481 m4097) (kP0 :∀(i6:Int)(m0:Val)(m4097:Val),P0 i6 m0 m4097→I95_0 prog d Q n0 m1 i6 m0 m4097)(H0:σ 0=.i .i64 n0)(H1:σ 1=.i .i64 m1)(H4:σ 4=.p (d,0) v0 0)(H5:σ 5=.p (d,4097) v4097 0)(H6:σ 6=.i .i64 i6)(H7:σ 7=.p (d,20481) v20481 0)(H8:σ 8=.i .i64 k8)(Ab20481_3:ApS [36869] d st.ow o_m20481_3 m20481.list.length)(Ab4097_3:ApS [40964] d st.ow o_m4097_3 m4097.list.length)(B0:lk st.bx (d,0)=some (v0,[.i .u8 m0.kind,.i .i64 m0.int,.s m0.text,.sl o_m0_3 (List.map Val.row m0.list),.b m0.cut]))(B20481:lk st.bx (d,20481)=some (v20481,[.i .u8 m20481.kind,.i .i64 m20481.int,.s m20481.text,.sl o_m20481_3 (List.map Val.row m20481.list),.b m20481.cut]))(B4097:lk st.bx (d,4097)=some (v4097,[.i .u8 m4097.kind,.i .i64 m4097.int,.s m4097.text,.sl o_m4097_3 (List.map Val.row m4097.list),.b m4097.cut]))
include kP0 H0 H1 H4 H5 H6 Ab4097_3 B0 B4097 in
theorem w95_4 (h:T95_4 prog K P0 n0 m1 i6 m0 m4097):W prog d c95_2 σ st (thenW prog d (.loop l95_0) (blockW 0 (thenW prog d c95_4 Q))):=
 W.reg0 J fun _ _=>m_ (b_ H6 J add_ (m_ (e_ (kP0 _ _ _ h _ _ _ _ _ _ H0 H1 H4 H5 J Ab4097_3 B0 B4097))))
include kP0 H0 H1 H4 H5 H6 H7 Ab20481_3 Ab4097_3 B0 B20481 B4097 in
theorem w95_3 (h:T95_3 prog K P0 n0 m1 i6 m0 m20481 m4097):W prog d c95_1 σ st (blockW 1 (thenW prog d c95_2 (thenW prog d (.loop l95_0) (blockW 0 (thenW prog d c95_4 Q))))):=
 W.reg0 J fun _ _=>f_ H5 (l_ J B4097 J J (l_ H7 B20481 J J (s_bslM (f:=Val.row) (l:=[m20481]) J J (g_cons J J J g_nil) (by simp only [List.map_cons,List.map_nil,Val.row_eq];rfl) (s_app Val.row_len J J J Ab4097_3.1 h.1 J (fun _ _ c _ e=>f_ H5 (so_ J B4097 J J J (e_ (w95_4 (m4097:=(Val.mk m4097.kind m4097.int m4097.text (m4097.list++[m20481]) m4097.cut)) hQ kP0 H0 H1 H4 H5 H6 (ApS.new Ab4097_3 c e (by decide)) (lk_other J B0) lk_here h.2))))))))
include kP1 kP0 H0 H1 H4 H5 H6 H7 H8 Ab20481_3 Ab4097_3 B0 B20481 B4097 in
theorem w95_2 (h:T95_2 prog K P1 P0 n0 m1 i6 k8 m0 m20481 m4097):W prog d l95_1 σ st (thenW prog d (.loop l95_1) (blockW 2 (thenW prog d c95_1 (blockW 1 (thenW prog d c95_2 (thenW prog d (.loop l95_0) (blockW 0 (thenW prog d c95_4 Q)))))))):=
 sq_ (q_ J (m_ (m_ (b_ H8 H1 lss_ (e_ (cs_ J (fun e=>sk_ (sq_ (bk_ (W.reg0 J fun _ _=>f_ H7 (l_ J B20481 J J (m_ ((h.1 e).elim fun o c=>ca_ (sc1 H8 J) c.1 (s_bslM (f:=Val.row) (l:=[o]) J J (g_cons J J J g_nil) (by simp only [List.map_cons,List.map_nil,Val.row_eq];rfl) (s_app Val.row_len J J J Ab20481_3.1 c.2.1 J (fun _ _ i j k=>f_ H7 (so_ J B20481 J J J (e_ (W.reg0 J fun _ _=>m_ (b_ H8 J add_ (m_ (e_ (kP1 _ _ _ _ c.2.2 _ _ _ _ _ _ _ _ H0 H1 H4 H5 H6 H7 J (ApS.new Ab20481_3 i k (by decide)) (ApS.keep Ab4097_3 Ab20481_3 j (by decide) (by decide)) (lk_other J B0) lk_here (lk_other J B4097)))))))))))))))))) (fun e=>ex_ (w95_3 hQ kP0 H0 H1 H4 H5 H6 H7 Ab20481_3 Ab4097_3 B0 B20481 B4097 (h.2 e)))))))))
include H4 H5 Ab4097_3 B0 B4097 in
theorem w95_5 (h:T95_5 prog K m0 m4097):W prog d c95_4 σ st Q:=
 q_ J (l_ H5 B4097 J J (so_ H4 B0 J J J (er_ (hQ _ _ _ _ _ _ H4 lk_here h))))
include kP0 H0 H1 H4 H5 H6 Ab4097_3 B0 B4097 in
theorem w95_1 (h:T95_1 prog K P0 n0 m1 i6 m0 m4097):W prog d l95_0 σ st (thenW prog d (.loop l95_0) (blockW 0 (thenW prog d c95_4 Q))):=
 sq_ (q_ J (m_ (m_ (b_ H6 H0 lss_ (e_ (cs_ J (fun e=>sk_ (sq_ (bk_ (sq_ (W.reg ((h.1 e).elim fun _ j=>s_callN (sec J (sec (show _=AV.sl .full (List.map Val.row []) from J) sen)) (j.1) (fun _ c=>s_alloc (so_ J ((c.1 (d,20481) (Nat.lt_succ_self d) key_dn).trans (show lk _ (d,20481)=some (_,([.i .u8 0,.i .i64 0,.s [],.sl .full (List.map Val.row ([]:List Val)),.b false]:List AV)) from lk_here)) J J J (e_ (sq_ (q_ J (m_ (e_ (bk_ (j.2 (I95_1 prog d Q n0 m1 i6) (fun _ _ _ _ hb _ _ _ _ _ _ _ _ H0 H1 H4 H5 H6 H7 H8 Ab20481_3 Ab4097_3 B0 B20481 B4097=>W.loop (w95_2 hQ (fun _ _ _ _ x=>x) kP0 H0 H1 H4 H5 H6 H7 H8 Ab20481_3 Ab4097_3 B0 B20481 B4097 hb)) _ _ _ _ _ _ _ _ H0 H1 H4 H5 H6 J J ApS.full (ApS.call Ab4097_3 c (by decide)) (lk_other J ((c.1 (d,0) (Nat.lt_succ_self d) key_dn).trans (lk_other J B0))) lk_here (lk_other J ((c.1 (d,4097) (Nat.lt_succ_self d) key_dn).trans (lk_other J B4097)))))))))))))))))) (fun e=>ex_ (w95_5 hQ H4 H5 Ab4097_3 B0 B4097 (h.2 e)))))))))
include H0 H1 in
theorem w95_0 (h:T95_0 prog K n0 m1):W prog d (sR 0 r95_0 (sR 1 r95_1 (.seq (sR 2 r95_2 (.block 0 (.loop l95_0))) c95_4))) σ st Q:=
 sq_ (W.reg (s_alloc (e_ (sq_ (W.reg (h.elim fun _ c=>s_callN (sec J (sec (show _=AV.sl .full (List.map Val.row []) from J) sen)) (c.1) (fun _ e=>s_alloc (so_ J ((e.1 (d,4097) (Nat.lt_succ_self d) key_dn).trans (show lk _ (d,4097)=some (_,([.i .u8 0,.i .i64 0,.s [],.sl .full (List.map Val.row ([]:List Val)),.b false]:List AV)) from lk_here)) J J J (e_ (sq_ (q_ J (m_ (e_ (bk_ (c.2 (I95_0 prog d Q n0 m1) (fun _ _ _ hb _ _ _ _ _ _ H0 H1 H4 H5 H6 Ab4097_3 B0 B4097=>W.loop (w95_1 hQ (fun _ _ _ x=>x) H0 H1 H4 H5 H6 Ab4097_3 B0 B4097 hb)) _ _ _ _ _ _ H0 H1 J J J ApS.full (lk_other J ((e.1 (d,0) (Nat.lt_succ_self d) key_dn).trans (lk_other J (show lk _ (d,0)=some (_,([.i .u8 0,.i .i64 0,.s [],.sl .full (List.map Val.row ([]:List Val)),.b false]:List AV)) from lk_here)))) lk_here)))))))))))))))
end
theorem p95 {prog:Prog}(hf:prog.fn 95=some pf95){n0:Int}{m1:Int}{K:Val→Prop}(h:T95_0 prog K n0 m1) :∃res0:Val,K res0∧Pus prog 95 [.i .i64 n0,.i .i64 m1] (res0.av):=by
  obtain ⟨v,hv,res0,hk,rfl⟩:=Pus.of (K:=fun v=>∃res0:Val,K res0∧v=res0.av) hf rfl (w95_0 (σ:=sl0 [.i .i64 n0,.i .i64 m1]) (fun σ st k0 v0 o0_0 res0 H4 HB4 hk=>⟨res0.avo o0_0,by simp only [pf95,ares,aresL,ares_cellA (n:=5) H4 HB4 rfl,ares_tmp,Option.map_some],_,rfl,res0,hk,rfl⟩) rfl rfl h)
  exact ⟨res0,hk,hv⟩
def r96_0:List AI:=[oO 2 (.alloc [z8,z6,zs,zl,zb])]
def r96_1:List AI:=[oO 5 (.call true 89 [(.c (.i .u8 6)),(.c (.sl .full []))]),oO 3 (.alloc [z8,z6,zs,zl,zb]),oS 5 3 5]
def r96_2:List AI:=[oI 4 0]
def r96_3:List AI:=[oM 6 4,oM 7 0,oT 8 .lss 6 7]
def r96_4:List AI:=[oF 11 3 3,oL 12 11,oO 13 (.call false 95 [(.c (.i .i64 16)),(.c (.i .i64 16))]),oO 14 (.bslice [z8,z6,zs,zl,zb] 1 [(0,(.t 13))]),oO 15 (.app 5 64 (.t 12) (.t 14)),oF 16 3 3,oS 1 16 15]
def r96_5:List AI:=[oM 9 4,oV 10 .add 9 1,oM 4 10]
def r96_6:List AI:=[oK 17 5 3,oS 5 2 17]
abbrev l96_0:AC:=(.seq (sR 3 r96_3 (.cond (.t 8) .skip (.exit 0))) (.seq (.block 1 (.reg 5 r96_4)) (.reg 4 r96_5)))
abbrev c96_1:AC:=(sR 6 r96_6 .ret)
abbrev b96:AC:=(sR 0 r96_0 (sR 1 r96_1 (.seq (sR 2 r96_2 (.block 0 (.loop l96_0))) c96_1)))
def pf96:AF:={ nt:=18,res:=[.cell 2 5 true],body:=b96 }
abbrev H96 (Q:AE→Sl→St→Prop)(K:Val→Prop):Prop:=∀(σ:Sl)(st:St)(k0:Key)(v0:Nat)(o0_0:Own)(res0:Val),σ 2=.p k0 v0 0→lk st.bx k0=some (v0,[.i .u8 res0.kind,.i .i64 res0.int,.s res0.text,.sl o0_0 (List.map Val.row res0.list),.b res0.cut])→K res0→Q .ret σ st
abbrev I96_0 (prog:Prog)(d:Nat)(Q:AE→Sl→St→Prop)(n0:Int)(i4:Int)(m0:Val)(m4097:Val):Prop:=
  ∀(σ:Sl)(st:St) (o_m0_3 o_m4097_3:Own) (v0 v4097:Nat),σ 0=.i .i64 n0→σ 2=.p (d,0) v0 0→σ 3=.p (d,4097) v4097 0→σ 4=.i .i64 i4→ApM d st.ow o_m4097_3 m4097.list.length→lk st.bx (d,0)=some (v0,[.i .u8 m0.kind,.i .i64 m0.int,.s m0.text,.sl o_m0_3 (List.map Val.row m0.list),.b m0.cut])→lk st.bx (d,4097)=some (v4097,[.i .u8 m4097.kind,.i .i64 m4097.int,.s m4097.text,.sl o_m4097_3 (List.map Val.row m4097.list),.b m4097.cut])→W prog d (.loop l96_0) σ st (blockW 0 (thenW prog d c96_1 Q))
def T96_2 (prog:Prog)(K:Val→Prop)(m0:Val)(m4097:Val):Prop:=
  K m4097
def T96_1 (prog:Prog)(K:Val→Prop)(P0:Int→Val→Val→Prop)(n0:Int)(i4:Int)(m0:Val)(m4097:Val):Prop:=
  (i4<n0→∃c:Val,Pus prog 95 [.i .i64 16,.i .i64 16] (c.av)∧Fit (m4097.list.length+[c].length) 64∧P0 (IntKind.i64.wrap (i4+1)) m0 (Val.mk m4097.kind m4097.int m4097.text (m4097.list++[c]) m4097.cut))∧(¬(i4<n0)→T96_2 prog K m0 m4097)
def T96_0 (prog:Prog)(K:Val→Prop)(n0:Int):Prop:=
  ∃c:Val,(PuN prog 89 [.i .u8 6,.sl .full (List.map Val.row ([]:List Val))] (fun r=>r=c.avo .full))∧∀P0:Int→Val→Val→Prop,(∀(i4:Int)(m0:Val)(m4097:Val),T96_1 prog K P0 n0 i4 m0 m4097→P0 i4 m0 m4097)→P0 0 (Val.mk 0 0 [] ([]:List Val) false) c
section
variable {prog:Prog}{d:Nat}{Q:AE→Sl→St→Prop}{K:Val→Prop}(hQ:H96 Q K){σ:Sl}{st:St}
include hQ
variable {m0 m4097:Val}{o_m0_3 o_m4097_3:Own}{v0 v4097:Nat}{n0 i4:Int}{P0:Int→Val→Val→Prop}
variable (kP0 :∀(i4:Int)(m0:Val)(m4097:Val),P0 i4 m0 m4097→I96_0 prog d Q n0 i4 m0 m4097)(H0:σ 0=.i .i64 n0)(H2:σ 2=.p (d,0) v0 0)(H3:σ 3=.p (d,4097) v4097 0)(H4:σ 4=.i .i64 i4)(Ab4097:ApM d st.ow o_m4097_3 m4097.list.length)(B0:lk st.bx (d,0)=some (v0,[.i .u8 m0.kind,.i .i64 m0.int,.s m0.text,.sl o_m0_3 (List.map Val.row m0.list),.b m0.cut]))(B4097:lk st.bx (d,4097)=some (v4097,[.i .u8 m4097.kind,.i .i64 m4097.int,.s m4097.text,.sl o_m4097_3 (List.map Val.row m4097.list),.b m4097.cut]))
include H2 H3 Ab4097 B0 B4097 in
theorem w96_2 (h:T96_2 prog K m0 m4097):W prog d c96_1 σ st Q:=
 q_ J (l_ H3 B4097 J J (so_ H2 B0 J J J (er_ (hQ _ _ _ _ _ _ H2 lk_here h))))
include kP0 H0 H2 H3 H4 Ab4097 B0 B4097 in
theorem w96_1 (h:T96_1 prog K P0 n0 i4 m0 m4097):W prog d l96_0 σ st (thenW prog d (.loop l96_0) (blockW 0 (thenW prog d c96_1 Q))):=
 sq_ (q_ J (m_ (m_ (b_ H4 H0 lss_ (e_ (cs_ J (fun e=>sk_ (sq_ (bk_ (W.reg0 J fun _ _=>f_ H3 (l_ J B4097 J J ((h.1 e).elim fun k c=>ca_ (sc2 J J J) c.1 (s_bslM (f:=Val.row) (l:=[k]) J J (g_cons J J J g_nil) (by simp only [List.map_cons,List.map_nil,Val.row_eq];rfl) (s_app Val.row_len J J J Ab4097.1 c.2.1 J (fun _ _ i _ j=>f_ H3 (so_ J B4097 J J J (e_ (W.reg0 J fun _ _=>m_ (b_ H4 J add_ (m_ (e_ (kP0 _ _ _ c.2.2 _ _ _ _ _ _ H0 H2 H3 J (ApM.mk i (Mine.app Ab4097.2 J j)) (lk_other J B0) lk_here)))))))))))))))) (fun e=>ex_ (w96_2 hQ H2 H3 Ab4097 B0 B4097 (h.2 e)))))))))
include H0 in
theorem w96_0 (h:T96_0 prog K n0):W prog d (sR 0 r96_0 (sR 1 r96_1 (.seq (sR 2 r96_2 (.block 0 (.loop l96_0))) c96_1))) σ st Q:=
 sq_ (W.reg (s_alloc (e_ (sq_ (W.reg (h.elim fun _ c=>s_callN (sec J (sec (show _=AV.sl .full (List.map Val.row []) from J) sen)) (c.1) (fun _ e=>s_alloc (so_ J ((e.1 (d,4097) (Nat.lt_succ_self d) key_dn).trans (show lk _ (d,4097)=some (_,([.i .u8 0,.i .i64 0,.s [],.sl .full (List.map Val.row ([]:List Val)),.b false]:List AV)) from lk_here)) J J J (e_ (sq_ (q_ J (m_ (e_ (bk_ (c.2 (I96_0 prog d Q n0) (fun _ _ _ hb _ _ _ _ _ _ H0 H2 H3 H4 Ab4097 B0 B4097=>W.loop (w96_1 hQ (fun _ _ _ x=>x) H0 H2 H3 H4 Ab4097 B0 B4097 hb)) _ _ _ _ _ _ H0 J J J ApM.full (lk_other J ((e.1 (d,0) (Nat.lt_succ_self d) key_dn).trans (lk_other J (show lk _ (d,0)=some (_,([.i .u8 0,.i .i64 0,.s [],.sl .full (List.map Val.row ([]:List Val)),.b false]:List AV)) from lk_here)))) lk_here)))))))))))))))
end
theorem p96 {prog:Prog}(hf:prog.fn 96=some pf96){n0:Int}{K:Val→Prop}(h:T96_0 prog K n0) :∃res0:Val,K res0∧Pus prog 96 [.i .i64 n0] (res0.av):=by
  obtain ⟨v,hv,res0,hk,rfl⟩:=Pus.of (K:=fun v=>∃res0:Val,K res0∧v=res0.av) hf rfl (w96_0 (σ:=sl0 [.i .i64 n0]) (fun σ st k0 v0 o0_0 res0 H2 HB2 hk=>⟨res0.avo o0_0,by simp only [pf96,ares,aresL,ares_cellA (n:=5) H2 HB2 rfl,ares_tmp,Option.map_some],_,rfl,res0,hk,rfl⟩) rfl h)
  exact ⟨res0,hk,hv⟩
def r97_0:List AI:=[oY 1 5 0,oC 2 (.b false)]
def r97_1:List AI:=[oK 6 5 1,oQ 7 72 [6],oM 5 7,oE 8 0 5,oE 9 1 5,oM 3 8,oM 4 9]
def r97_2:List AI:=[oK 10 5 1,oQ 11 76 [10],oV 12 .eql 11 8,oM 13 12,gT 13 (oM 14 4),gT 13 (oV 15 .eql 14 8),oA 16 13 15,oM 17 16,gT 17 (oM 18 3),gT 17 (oB 19 .eql (.t 18) (.c (.s []))),oA 20 17 19,oM 2 20]
abbrev b97:AC:=(sR 0 r97_0 (sR 1 r97_1 (sR 2 r97_2 .ret)))
def pf97:AF:={ nt:=21,res:=[.tmp 2],body:=b97 }
def T97_0 (prog:Prog)(K:Bool→Prop)(v0:Val):Prop:=
  ∃j e,Pus prog 72 [v0.av] (.tup [.s j,.i .i64 e])∧∃c,Pus prog 76 [v0.av] (.i .i64 c)∧(c=8→(e=8→K (decide (j=([]:BS))))∧(¬(e=8)→K false))∧(¬(c=8)→K false)
section
variable {prog:Prog}{d:Nat}{Q:AE→Sl→St→Prop}{K:Bool→Prop}(hQ:H1 AV.b 2 Q K){σ:Sl}{st:St}
include hQ
variable {v0:Val}
variable (H0:σ 0=v0.av)
include H0 in
theorem w97_0 (h:T97_0 prog K v0):W prog d (sR 0 r97_0 (sR 1 r97_1 (sR 2 r97_2 .ret))) σ st Q:=
 q_ J (s_box H0 J (m_ (e_ (q_ J (l_ J lk_here J J (x2 h fun _ _ j=>ca_ (sc1 J J) j.1 (m_ (x_ J J (x_ J J (m_ (m_ (e_ (q_ J (l_ J lk_here J J (j.2.elim fun _ c=>ca_ (sc1 J J) c.1 (b_ J J eql_ (s_mvB J (em_ (g:=13) J (fun e=>gy_ J (s_mvI J (gy_ J (b_ J J eql_ (z_ 2 J (em_ (g:=17) J (fun i=>gy_ J (s_mvS J (gy_ J (b_ J J seq_ (z_ 2 J (er_ (hQ J ((c.2.1 e).1 i)))))))) (fun i=>z_ 4 J (er_ (hQ J ((c.2.1 e).2 i)))))))))) (fun e=>z_ 8 J (er_ (hQ J (c.2.2 e))))))))))))))))))))))
end
theorem p97 {prog:Prog}(hf:prog.fn 97=some pf97){v0:Val}{K:Bool→Prop}(h:T97_0 prog K v0) :∃res0:Bool,K res0∧Pus prog 97 [v0.av] (.b res0):=
 P1 hf J (w97_0 (h1 J fun _=>J) J h)
def r100_0:List AI:=[oC 2 (.b false)]
def r100_1:List AI:=[oQ 7 99 [],oM 8 0,oQ 9 84 [7,8],oM 6 9,oE 10 0 6,oE 11 1 6,oE 12 2 6,oO 4 (.alloc [z6,z6,z7,zl]),oM 3 10,oS 4 4 11,oM 5 12]
def r100_2:List AI:=[oM 13 5,oV 14 .eql 13 12,oM 15 14,gT 15 (oM 16 3),gT 15 (oV 17 .eql 16 0),oA 18 15 17,oM 19 18,gT 19 (oK 20 4 4),gT 19 (oO 21 (.build [z6,z6,z7,zl] [])),gT 19 (oQ 22 88 [20,21]),oA 23 19 22,oM 2 23]
abbrev b100:AC:=(sR 0 r100_0 (sR 1 r100_1 (sR 2 r100_2 .ret)))
def pf100:AF:={ nt:=24,res:=[.tmp 2],body:=b100 }
def T100_0 (prog:Prog)(K:Bool→Prop)(l0:LB):Prop:=
  ∃k:Img,Pus prog 99 [] (k.av)∧∃e,∃o:Frm,∃c,Pus prog 84 [k.av,.sl .ext (List.map rowS l0)] (.tup [.i .i64 e,o.av,.i .i64 c])∧(c=12→(e=0→∃j,Pus prog 88 [o.av,.ag [.i .i64 0,.i .i64 0,.i .u64 0,.sl .ext (List.map Loc.row ([]:List Loc))]] (.b j)∧K j)∧(¬(e=0)→K false))∧(¬(c=12)→K false)
section
variable {prog:Prog}{d:Nat}{Q:AE→Sl→St→Prop}{K:Bool→Prop}(hQ:H1 AV.b 2 Q K){σ:Sl}{st:St}
include hQ
variable {l0:LB}{o_l0:Own}
variable (H0:σ 0=.sl o_l0 (List.map rowS l0))
include H0 in
theorem w100_0 (h:T100_0 prog K l0):W prog d (sR 0 r100_0 (sR 1 r100_1 (sR 2 r100_2 .ret))) σ st Q:=
 q_ J (m_ (e_ (sq_ (W.reg (h.elim fun _ o=>ca_ sn o.1 (s_mvL H0 (x2 o.2 fun _ _ p=>p.elim fun _ c=>ca_ (sc2 J J J) c.1 (m_ (x_ J J (x_ J J (x_ J J (s_alloc (m_ (so_ J (show lk _ (d,4103)=some (_,([.i .i64 0,.i .i64 0,.i .u64 0,.sl .full (List.map Loc.row ([]:List Loc))]:List AV)) from lk_here) J J J (m_ (e_ (q_ J (s_mvI J (b_ J J eql_ (s_mvB J (em_ (g:=15) J (fun e=>gy_ J (s_mvI J (gy_ J (b_ J J eql_ (z_ 2 J (em_ (g:=19) J (fun j=>gy_ J (l_ J lk_here J J (gy_ J (s_build f_nil (gy_ J (((c.2.1 e).1 j).elim fun _ k=>ca_ (sc2 J J J) k.1 (z_ 2 J (er_ (hQ J k.2))))))))) (fun j=>z_ 5 J (er_ (hQ J ((c.2.1 e).2 j)))))))))) (fun e=>z_ 9 J (er_ (hQ J (c.2.2 e)))))))))))))))))))))))))
end
theorem p100 {prog:Prog}(hf:prog.fn 100=some pf100){l0:LB}{K:Bool→Prop}(h:T100_0 prog K l0) :∃res0:Bool,K res0∧Pus prog 100 [.sl .ext (List.map rowS l0)] (.b res0):=
 P1 hf J (w100_0 (h1 J fun _=>J) J h)
end Go.AM

namespace Go.AM
open Go Go.RowKit Go.BigFrame Go.ChangeMaps
section
variable {P:Program}
end
def OpsAre (ops:Array Oper) (l:List (Option Nat × Op)):Prop:=ops.toList.map (fun o=>(o.dst,o.op))=l∧∀o∈ops.toList,o.guard=none
theorem OpsAre.at {ops:Array Oper} {l:List (Option Nat × Op)} (h:OpsAre ops l) {i:Nat} {d:Option Nat} {p:Op} (hi:l[i]?=some (d,p)) :∃o,ops[i]?=some o∧o.dst=d∧o.op=p∧o.guard=none:=by
 rw [← h.1,List.getElem?_map,Option.map_eq_some_iff] at hi
 obtain ⟨o,h1,h2⟩:=hi
 injection h2 with h2 h3
 exact ⟨o,by simpa using h1,h2,h3,h.2 o (List.mem_of_getElem? h1)⟩
theorem OpsAre.size {ops:Array Oper} {l:List (Option Nat × Op)} (h:OpsAre ops l):ops.size=l.length:=by
 rw [← h.1];simp
def tv (a:Act) (t:Nat):Value:=a.tmps.getD t undef
theorem tv_put (a:Act) (d:Nat) (v:Value) (t:Nat) (h:d<a.tmps.size):tv (a.put (some d) v) t=if t=d then v else tv a t:=by
 unfold tv Act.put
 simp only [Array.getD_eq_getD_getElem?,Array.getElem?_setIfInBounds]
 by_cases e:t=d
 ·subst e;simp [h]
 ·rw [if_neg (fun e'=>e e'.symm),if_neg e]
section
variable {P:Program} {ops:Array Oper} {l:List (Option Nat × Op)} {Q:Exit→Act→World→Prop} {i:Nat} {rest:List Nat} {a:Act} {w w':World}
theorem st_val (h:OpsAre ops l) {d:Nat} {p:Op} (hi:l[i]?=some (some d,p)) {v:Value} (hr :∀o:Oper,o.op=p→(execOp a.eval o).run P w=.ok (.value v) w') (hk:wpOps P ops Q rest (a.put (some d) v) w'):wpOps P ops Q (i::rest) a w:=by
 obtain ⟨o,h1,h2,h3,h4⟩:=h.at hi
 rw [wpOps_cons]
 exact step_val (G:=⟨fun _ _=>none,fun _ _=>none,fun _ _=>none,fun _=>none,fun _=>none⟩) (nt:=0) h1 h4 (hr o h3) (by rw [h2];exact hk)
theorem st_unit (h:OpsAre ops l) {p:Op} (hi:l[i]?=some (none,p)) (hr :∀o:Oper,o.op=p→(execOp a.eval o).run P w=.ok .skip w') (hk:wpOps P ops Q rest a w'):wpOps P ops Q (i::rest) a w:=by
 obtain ⟨o,h1,h2,h3,h4⟩:=h.at hi
 rw [wpOps_cons]
 unfold wpOp
 rw [h1]
 simp only
 rw [if_pos (by simp [Region.wanted,h4])]
 refine .inl ?_
 unfold Oper.wp
 rw [hr o h3,Oper.upon_skip,h2]
 exact hk
theorem st_call (h:OpsAre ops l) {d:Nat} {p:Op} (hi:l[i]?=some (some d,p)) {f:FuncId} {args:Array Value} (hr :∀o:Oper,o.op=p→(execOp a.eval o).run P w=.ok (.enter f args) w) (hk:Calls P f args w fun e w''=>match e with | .returned v=>wpOps P ops Q rest (a.put (some d) v) w'' | _=>False):wpOps P ops Q (i::rest) a w:=by
 obtain ⟨o,h1,h2,h3,h4⟩:=h.at hi
 rw [wpOps_cons]
 unfold wpOp
 rw [h1]
 simp only
 rw [if_pos (by simp [Region.wanted,h4])]
 refine .inl ?_
 unfold Oper.wp
 rw [hr o h3,Oper.upon_enter,h2]
 refine hk.mono fun e w'' he=>?_
 cases e with
 | returned v=>exact he
 | panicked c=>exact he.elim
 | outgrown=>exact he.elim
end
section
variable {P:Program}
end
section
variable {P:Program} {X:Cx}
end
end Go.AM

namespace Go.AM
open Go Go.RowKit
section
variable {H:Hp}
theorem put_get {l us:List Value} {o j:Nat} (hle:o+us.length≤l.length):(l.take o++us++l.drop (o+us.length))[j]?=if o≤j∧j<o+us.length then us[j-o]? else l[j]?:=by
 by_cases hj:o≤j∧j<o+us.length
 ·rw [if_pos hj,List.append_assoc,List.getElem?_append_right (by simp;omega),List.getElem?_append_left (by simp;omega)]
  congr 1
  simp
  omega
 ·rw [if_neg hj]
  exact split_get hle hj
theorem RowsAt.put {rows:List (List AV)} {size:Nat} {cs:Array Value} (h:RowsAt H rows size cs) {i off:Nat} {row row':List AV} {us:List Value} (hi:rows[i]?=some row) (hl:row'.length=size) (hb:off+us.length≤size)
  (hin :∀(j:Nat) a,off≤j→j<off+us.length→row'[j]?=some a→∃u,us[j-off]?=some u∧Fz H a u∧u.oneCell'=true) (hout :∀j,¬(off≤j∧j<off+us.length)→row'[j]?=row[j]?) :
  RowsAt H (rows.set i row') size (cs.toList.take (i*size+off)++us++cs.toList.drop (i*size+off+us.length)).toArray:=by
 have hil:i<rows.length:=(List.getElem?_eq_some_iff.1 hi).1
 have hi2:(i+1)*size≤rows.length*size:=Nat.mul_le_mul_right _ (by omega)
 rw [Nat.succ_mul] at hi2
 have hsz:=h.sz
 have hle:i*size+off+us.length≤cs.toList.length:=by simp;omega
 refine ⟨by simp;omega,fun r hr=>?_,fun i2 r j a h2 h3=>?_⟩
 ·rcases List.mem_or_eq_of_mem_set hr with h' | rfl
  ·exact h.len r h'
  ·exact hl
 ·have hj:j<size:=by
   have hrl:r.length=size:=by
    rcases List.mem_or_eq_of_mem_set (List.mem_of_getElem? h2) with h' | rfl
    ·exact h.len r h'
    ·exact hl
   rw [← hrl]
   exact (List.getElem?_eq_some_iff.1 h3).1
  rw [List.getElem?_toArray,put_get hle]
  rw [List.getElem?_set] at h2
  split at h2
  ·rename_i hii
   subst hii
   cases h2
   by_cases hjj:off≤j∧j<off+us.length
   ·obtain ⟨u,h4,h5⟩:=hin j a hjj.1 hjj.2 h3
    refine ⟨u,?_,h5⟩
    rw [if_pos (by omega),← h4]
    congr 1
    omega
   ·rw [hout j hjj] at h3
    obtain ⟨u,h4,h5⟩:=h.at_ i row j a hi h3
    refine ⟨u,?_,h5⟩
    rw [if_neg (by omega),Array.getElem?_toList]
    exact h4
  ·rename_i hii
   obtain ⟨u,h4,h5⟩:=h.at_ i2 r j a h2 h3
   refine ⟨u,?_,h5⟩
   rw [if_neg,Array.getElem?_toList]
   ·exact h4
   ·rintro ⟨h6,h7⟩
    apply hii
    rcases Nat.lt_trichotomy i i2 with h8 | h8 | h8
    ·have:(i+1)*size≤i2*size:=Nat.mul_le_mul_right _ h8
     rw [Nat.succ_mul] at this;omega
    ·exact h8
    ·have:(i2+1)*size≤i*size:=Nat.mul_le_mul_right _ h8
     rw [Nat.succ_mul] at this;omega
end
theorem Step.toRun {G G':Gh} {w0:World} {st st':St} {w':World} {d site:Nat} (h:Step G G' w0 st st' w' d site st.nx):Run G G' w0 st st' w' d:=by
 refine ⟨h.le,h.rel,h.nx,fun k v hv=>h.old k v hv fun e=>?_,fun k v cs hk hv hn hl=>h.pend k v cs (by omega) hv (fun e=>?_) hn hl,h.newH⟩
 ·injection e with _ e;omega
 ·subst e;simp at hk
def HandOk (P:Program) (X:Cx) (nt d:Nat) (f:Sl→St→Option (AE × Sl × St)) (c c':Code):Prop:=
 ∀{σ:Sl} {st:St} {e:AE} {σ':Sl} {st':St},f σ st=some (e,σ',st')→∀{G:Gh} {w0 w:World} {a:Act},X.fm=G.fm→RelA G nt σ a→Rel G w0 st w→
  ∀{Q:Exit→Act→World→Prop},(∀a' w' G',RelA G' nt σ' a'→Run G G' w0 st st' w' d→Q (toExit e) a' w')→c.wp P (Exit.then (c'.wp P Q) Q) a w
theorem hand_seq_ok {P:Program} {X:Cx} {C:CallF} {nt n d:Nat} {f:Sl→St→Option (AE × Sl × St)} {c c' y:Code} {ay:AC} (hx:HandOk P X nt d f c c') (hy:CodeOk P X nt d (acode C n d ay) y):CodeOk P X nt d (acode C n d (.seq (.hand f) ay)) (.seq c (.seq c' y)):=by
 intro σ st e σ' st' h G w0 w a hfm hA hR Q hQ
 have out :∀{Q1:Exit→Act→World→Prop} {σ1:Sl} {st1:St} {e1:AE},f σ st=some (e1,σ1,st1)→(∀a' w' G',RelA G' nt σ1 a'→Run G G' w0 st st1 w' d→Exit.then (y.wp P Q) Q (toExit e1) a' w')→(Code.seq c (.seq c' y)).wp P Q a w:=by
  intro Q1 σ1 st1 e1 h1 h2
  refine wp_seq (wp_mono (hx h1 hfm hA hR h2) fun e2 a2 w2 h3=>?_)
  cases e2 with
  | normal=>exact wp_seq h3
  | _=>exact h3
 simp only [acode] at h
 split at h
 ·rename_i σ1 st1 h1
  refine out (Q1:=Q) h1 fun a1 w1 G1 hA1 hrun1=>?_
  exact hy h (by rw [hrun1.le.fm];exact hfm) hA1 hrun1.rel fun a2 w2 G2 hA2 hrun2=>hQ a2 w2 G2 hA2 (hrun1.trans hrun2)
 ·rename_i hne
  refine out (Q1:=Q) h fun a1 w1 G1 hA1 hrun1=>?_
  have:=hQ a1 w1 G1 hA1 hrun1
  cases e with
  | normal=>exact absurd h (hne _ _)
  | exit id=>exact this
  | ret=>exact this
  | goto l=>exact this
section
variable {P:Program} {X:Cx}
def ActIs (nt:Nat) (f:Nat→Value) (a:Act):Prop:=a.defers=[]∧a.tmps.size=nt∧∀t,tv a t=f t
theorem ActIs.put {nt:Nat} {f:Nat→Value} {a:Act} (h:ActIs nt f a) {d:Nat} (v:Value) (hd:d<nt):ActIs nt (fun t=>if t=d then v else f t) (a.put (some d) v):=by
 obtain ⟨p1,p2,p3⟩:=h
 refine ⟨p1,by simp [Act.put,p2],fun t=>?_⟩
 rw [tv_put _ _ _ _ (by omega),p3]
theorem ActIs.self {nt:Nat} {a:Act} (h1:a.defers=[]) (h2:a.tmps.size=nt):ActIs nt (tv a) a:=⟨h1,h2,fun _=>rfl⟩
end
end Go.AM

namespace Go.AM
open Go Go.RowKit
def qA:Code→Code | .seq a _=>a | c=>c
def qB:Code→Code | .seq _ b=>b | c=>c
def qU:Code→Code | .block _ c=>c | .loop c=>c | c=>c
def qC:Code→Code | .cond _ c _=>c | c=>c
def qD:Code→Code | .cond _ _ c=>c | c=>c
def xA:AC→AC | .seq a _=>a | c=>c
def xB:AC→AC | .seq _ b=>b | c=>c
def xU:AC→AC | .block _ c=>c | .loop c=>c | c=>c
def gNo (ops:Array Oper):Bool:=ops.toList.all fun o=>o.guard.isNone
theorem of_gNo {ops:Array Oper} (h:gNo ops=true) :∀o∈ops.toList,o.guard=none:=fun o ho=>Option.isNone_iff_eq_none.1 (List.all_eq_true.1 h o ho)
def rOps:Code→Array Oper | .region _ o _=>o | _=>#[]
def codeOf (f:Func):Code:=f.body.getD .skip
def HandOk4 (P:Program) (X:Cx) (nt d:Nat) (f:Sl→St→Option (AE × Sl × St)) (x y u v:Code):Prop:=
 ∀{σ:Sl} {st:St} {e:AE} {σ':Sl} {st':St},f σ st=some (e,σ',st')→∀{G:Gh} {w0 w:World} {a:Act},X.fm=G.fm→RelA G nt σ a→Rel G w0 st w→
  ∀{Q:Exit→Act→World→Prop},(∀a' w' G',RelA G' nt σ' a'→Run G G' w0 st st' w' d→Q (toExit e) a' w')→x.wp P (Exit.then (y.wp P (Exit.then (u.wp P (Exit.then (v.wp P Q) Q)) Q)) Q) a w
theorem hand4_ok {P:Program} {X:Cx} {C:CallF} {nt n d:Nat} {f:Sl→St→Option (AE × Sl × St)} {x y u v z:Code} {az:AC} (hx:HandOk4 P X nt d f x y u v) (hz:CodeOk P X nt d (acode C n d az) z):CodeOk P X nt d (acode C n d (.seq (.hand f) az)) (.seq x (.seq y (.seq u (.seq v z)))):=by
 intro σ st e σ' st' h G w0 w a hfm hA hR Q hQ
 have out :∀{σ1:Sl} {st1:St} {e1:AE},f σ st=some (e1,σ1,st1)→(∀a' w' G',RelA G' nt σ1 a'→Run G G' w0 st st1 w' d→Exit.then (z.wp P Q) Q (toExit e1) a' w')→(Code.seq x (.seq y (.seq u (.seq v z)))).wp P Q a w:=by
  intro σ1 st1 e1 h1 h2
  refine wp_seq (wp_mono (hx h1 hfm hA hR h2) fun e2 a2 w2 h3=>?_)
  cases e2 with
  | normal=>
   refine wp_seq (wp_mono h3 fun e2 a2 w2 h3=>?_)
   cases e2 with
   | normal=>
    refine wp_seq (wp_mono h3 fun e2 a2 w2 h3=>?_)
    cases e2 with
    | normal=>exact wp_seq h3
    | _=>exact h3
   | _=>exact h3
  | _=>exact h3
 simp only [acode] at h
 split at h
 ·rename_i σ1 st1 h1
  refine out h1 fun a1 w1 G1 hA1 hrun1=>?_
  exact hz h (by rw [hrun1.le.fm];exact hfm) hA1 hrun1.rel fun a2 w2 G2 hA2 hrun2=>hQ a2 w2 G2 hA2 (hrun1.trans hrun2)
 ·rename_i hne
  refine out h fun a1 w1 G1 hA1 hrun1=>?_
  have:=hQ a1 w1 G1 hA1 hrun1
  cases e with
  | normal=>exact absurd h (hne _ _)
  | exit id=>exact this
  | ret=>exact this
  | goto l=>exact this
inductive CR (P:Program) (X:Cx) (nt:Nat):Code→AC→Prop
 | leaf {c:Code} {ac:AC} (h:cCode X nt c=some ac):CR P X nt c ac
 | hand {c:Code} {f:Sl→St→Option (AE × Sl × St)} (h :∀d,CodeOk P X nt d f c):CR P X nt c (.hand f)
 | hand2 {c x y z:Code} {f:Sl→St→Option (AE × Sl × St)} {az:AC} (e:c=.seq x (.seq y z)) (h :∀d,HandOk P X nt d f x y) (hz:CR P X nt z az):CR P X nt c (.seq (.hand f) az)
 | hand4 {c x y u v z:Code} {f:Sl→St→Option (AE × Sl × St)} {az:AC} (e:c=.seq x (.seq y (.seq u (.seq v z)))) (h :∀d,HandOk4 P X nt d f x y u v) (hz:CR P X nt z az):CR P X nt c (.seq (.hand f) az)
 | seq {c x y:Code} {ax ay:AC} (e:c=.seq x y) (hx:CR P X nt x ax) (hy:CR P X nt y ay):CR P X nt c (.seq ax ay)
 | cond {c x y:Code} {z:Operand} {az:Opd} {ax ay:AC} (e:c=.cond z x y) (hz:cOpd X.fm z=some az) (hx:CR P X nt x ax) (hy:CR P X nt y ay):CR P X nt c (.cond az ax ay)
 | block {c x:Code} {id:Nat} {ax:AC} (e:c=.block id x) (hx:CR P X nt x ax):CR P X nt c (.block id ax)
 | loop {c x:Code} {ax:AC} (e:c=.loop x) (hx:CR P X nt x ax):CR P X nt c (.loop ax)
theorem HandOk.code {P:Program} {X:Cx} {nt d:Nat} {f:Sl→St→Option (AE × Sl × St)} {x y:Code} (h:HandOk P X nt d f x y):CodeOk P X nt d f (.seq x y):=by
 intro σ st e σ' st' h1 G w0 w a hfm hA hR Q hQ
 exact wp_seq (h h1 hfm hA hR hQ)
section
variable {P:Program} {X:Cx}
theorem CR.ok {C:CallF} (hT:TTok P X.T) (hC:CallOk P X.fm C) (hm:P.follows .mixedOrders=true) {nt:Nat} (n d:Nat) {c:Code} {ac:AC} (h:CR P X nt c ac):CodeOk P X nt d (acode C n d ac) c:=by
 induction h with
 | leaf h=>exact code_ok hT hC hm n d _ _ (Nat.lt_succ_self _) h
 | hand h=>intro σ st e σ' st' h1;exact h d h1
 | hand2 e h hz ih=>subst e;exact hand_seq_ok (h d) ih
 | hand4 e h hz ih=>subst e;exact hand4_ok (h d) ih
 | seq e hx hy ihx ihy=>subst e;exact seq_ok ihx ihy
 | cond e hz hx hy ihx ihy=>
  subst e
  intro σ st e σ' st' h G w0 w a hfm hA hR Q hQ
  simp only [acode] at h
  rw [hfm] at hz
  have hv:=cOpd_ok hA hz
  unfold Same at hv
  revert hv
  split at h
  ·rename_i ht
   rw [ht]
   intro hv
   exact wp_cond_true hv.bool_inv (ihx h hfm hA hR hQ)
  ·rename_i ht
   rw [ht]
   intro hv
   exact wp_cond_false hv.bool_inv (ihy h hfm hA hR hQ)
  ·cases h
 | block e hx ih=>
  subst e
  intro σ st e σ' st' h G w0 w a hfm hA hR Q hQ
  simp only [acode] at h
  refine wp_block ?_
  split at h
  ·rename_i id' σ1 st1 h1
   refine ih h1 hfm hA hR fun a1 w1 G1 hA1 hrun1=>?_
   split at h
   ·rename_i hid
    cases h
    have:=hQ a1 w1 G1 hA1 hrun1
    simp only [toExit,Exit.inBlock,hid,if_true]
    exact this
   ·rename_i hid
    cases h
    have:=hQ a1 w1 G1 hA1 hrun1
    simp only [toExit,Exit.inBlock,hid,if_false]
    exact this
  ·rename_i hne
   refine ih h hfm hA hR fun a1 w1 G1 hA1 hrun1=>?_
   have:=hQ a1 w1 G1 hA1 hrun1
   cases e with
   | normal=>exact this
   | exit id'=>exact absurd h (hne _ _ _)
   | ret=>exact this
   | goto l=>exact this
 | loop e hx ih=>
  subst e
  intro σ st e σ' st' h G w0 w a hfm hA hR Q hQ
  simp only [acode] at h
  exact wp_loop_rounds n (loop_ok ih n h hfm hA hR hQ)
theorem GoodF.ofCR {F:AF} {c:Code} {ac:AC} (hb:F.body=ac) (h:CR P { X with fz:=F.fz } F.nt c ac):GoodF P X F c:=by
 intro hT hm C hC n d
 rw [hb]
 intro σ st e σ' st' h1
 exact CR.ok (X:={ X with fz:=F.fz }) hT hC hm n d h h1
end
end Go.AM

namespace Go.AM
open Go Go.RowKit
section
variable {P:Program} {w:World}
theorem run_fad {s:TypeId} {fs:List (Nat × Nat)} (ht:(TK.st fs).ok P s) {f ft off:Nat} (hf:fs[f]?=some (ft,off)) {i:TI} (hT:TOk P ft i) (hz:i.size≠0) (g o:Nat) :
  (Instr.fieldAt s (.pointer (some ⟨g,o,none⟩)) f).run P w=.ok (.pointer (some ⟨g,o+off,none⟩)) w:=by
 obtain ⟨fields,hu,hmap,_⟩:=ht
 obtain ⟨ti,z,hi,hsz,_⟩:=hT.info
 have hz':ti.size≠0:=by rw [hsz];exact hz
 have hfl :∃fl,fields[f]?=some fl∧fl.type=ft∧fl.offset=off:=by
  rw [← hmap] at hf
  simp only [List.getElem?_map,Option.map_eq_some_iff,Array.getElem?_toList] at hf
  obtain ⟨fl,h1,h2⟩:=hf
  exact ⟨fl,h1,by injection h2,by injection h2⟩
 obtain ⟨fl,hfl,rfl,rfl⟩:=hfl
 simp [Instr.fieldAt,run_underlying hu,hfl,Instr.sureAddr,fieldPlace,sizeOf,typeInfo,hi,hz',Addr.add_lit]
end
section
variable {P:Program} {X:Cx}
end
end Go.AM

namespace Go.AM
open Go Go.RowKit
def wx (w:World) (n:Nat) (L:List Obj):World:={ w with heap:=w.heap++L.toArray,drawn:=w.drawn+n }
theorem wx_nil (w:World):wx w 0 []=w:=by unfold wx;simp
theorem wx_alloc {w:World} {n:Nat} {L:List Obj} (o:Obj):(wx w n L).alloc o=wx w n (L++[o]):=by
 unfold wx World.alloc
 simp only
 congr 1
 apply Array.ext'
 simp
theorem wx_size {w:World} {n:Nat} {L:List Obj}:(wx w n L).heap.size=w.heap.size+L.length:=by unfold wx;simp
theorem wx_drew {w:World} {n:Nat} {L:List Obj}:(wx w n L).drew=wx w (n+1) L:=rfl
theorem wx_at {w:World} {n k:Nat} {L:List Obj} {o:Obj} (h:L[k]?=some o):(wx w n L).heap[w.heap.size+k]?=some o:=by
 unfold wx
 simp only
 rw [Array.getElem?_append_right (by omega),Nat.add_sub_cancel_left]
 simpa using h
theorem wx_old {w:World} {n g:Nat} {L:List Obj} (h:g<w.heap.size):(wx w n L).heap[g]?=w.heap[g]?:=by
 unfold wx
 simp only
 rw [Array.getElem?_append_left h]
theorem wx_below {w:World} {n:Nat} {L:List Obj}:Below w.heap.size w (wx w n L):=⟨rfl,rfl,rfl,by rw [wx_size];omega,fun _ h=>wx_old h⟩
theorem wx_set {w:World} {n k:Nat} {L:List Obj} {cur cs:Array Value} {e:TypeId} {f:Nat × Nat} (h:L[k]?=some (.cells cur e f)):(wx w n L).setRow (w.heap.size+k) cs=wx w n (L.set k (.cells cs e f)):=by
 have hk:k<L.length:=(List.getElem?_eq_some_iff.1 h).1
 have hv:L[k]=.cells cur e f:=(List.getElem?_eq_some_iff.1 h).2
 unfold World.setRow wx
 simp only
 congr 1
 apply Array.ext
 ·simp
 ·intro i h1 h2
  rw [Array.getElem_modify]
  rcases Nat.lt_or_ge i w.heap.size with hi | hi
  ·rw [if_neg (by omega),Array.getElem_append_left hi,Array.getElem_append_left hi]
  ·obtain ⟨j,rfl⟩ :∃j,i=w.heap.size+j:=⟨i-w.heap.size,by omega⟩
   have e1 :∀{M:List Obj} (h3:w.heap.size+j<(w.heap++M.toArray).size),(w.heap++M.toArray)[w.heap.size+j]=M[j]'(by simp at h3;omega):=by
    intro M h3
    rw [Array.getElem_append_right (by omega)]
    simp
   rw [e1,e1,List.getElem_set]
   by_cases hj:k=j
   ·subst hj
    rw [if_pos rfl,if_pos rfl,hv]
   ·rw [if_neg (by omega),if_neg hj]
section
variable {P:Program} {w:World} {n N:Nat} {L L':List Obj}
theorem x_alloc {t:TypeId} {i:TI} (hT:TOk P t i) (hN:w.heap.size=N) {k:Nat} (hk:L.length=k) :∃z:List Value,z.length=i.size∧(Instr.alloc t true (.tuple #[])).run P (wx w n L)=.ok (.pointer (some ⟨N+k,0,none⟩)) (wx w n (L++[.cells z.toArray t (0,0)])):=by
 obtain ⟨ti,z,hi,hsz,_,hz,hc,hzs⟩:=hT.info
 refine ⟨z.cells.toList,by simpa using hzs,?_⟩
 rw [← wx_alloc]
 have e:(wx w n L).heap.size=N+k:=by rw [wx_size,hN,hk]
 simp only [Instr.alloc,zeroValue,typeInfo,Sem.run_bind,run_program,Result.andThen_ok,hi,hz,Sem.run_pure,newVar,newRow,run_newObj,e]
 rfl
theorem x_store {t:TypeId} {i:TI} (hT:TOk P t i) (hN:w.heap.size=N) {k off:Nat} {e:TypeId} {cl cl' us:List Value} (hL:L[k]?=some (.cells cl.toArray e (0,0))) {v:Value} (hv:v.cells=us.toArray) (hs:us.length=i.size) (ho:off+i.size≤cl.length) (h1 :∀x∈us,x.oneCell'=true)
  (hc:cl.take off++us++cl.drop (off+i.size)=cl') (hL':L.set k (.cells cl'.toArray e (0,0))=L'):(Instr.storeAt t (.pointer (some ⟨N+k,off,none⟩)) v).run P (wx w n L)=.ok () (wx w n L'):=by
 obtain ⟨ti,z,hi,hsz,_⟩:=hT.info
 subst hN
 have hst:=run_storeCells_at (P:=P) (w.heap.size+k) off e us 0 cl.toArray (wx w n L) (wx_at hL) (by simp;omega) h1
 simp only [Nat.add_zero] at hst
 simp only [Instr.storeAt,Instr.sureAddr,Sem.run_bind,Sem.run_pure,Result.andThen_ok,storeVar,sizeOf,typeInfo,run_program,hi,hv]
 rw [if_neg (show ¬(us.toArray.size≠ti.size) by rw [hsz];simp;omega),hst,wx_set hL,← hL',← hc,hs]
theorem x_load1 {t:TypeId} {kd:TK} (hk:kd.ok P t) (ha:kd.agg=false) (hN:w.heap.size=N) {k off:Nat} {e:TypeId} {f:Nat × Nat} {cl:List Value} (hL:L[k]?=some (.cells cl.toArray e f)) {v:Value} (hv:cl[off]?=some v):(Instr.loadAt t (.pointer (some ⟨N+k,off,none⟩))).run P (wx w n L)=.ok v (wx w n L):=by
 subst hN
 have:(wx w n L).cell? ⟨w.heap.size+k,off,none⟩=some v:=by simp [World.cell?,wx_at hL,hv]
 simp only [Instr.loadAt,Instr.sureAddr,Sem.run_bind,Sem.run_pure,Result.andThen_ok,loadVar,run_isAgg hk,ha,Bool.false_eq_true,if_false,run_load,this]
theorem x_loadA {t:TypeId} {i:TI} (hT:TOk P t i) (ha:i.kind.agg=true) {g off:Nat} {w:World} {us:List Value} (hs:us.length=i.size) (hc :∀j v,us[j]?=some v→w.cell? ⟨g,off+j,none⟩=some v):(Instr.loadAt t (.pointer (some ⟨g,off,none⟩))).run P w=.ok (.agg us.toArray) w:=by
 obtain ⟨ti,z,hi,hsz,_⟩:=hT.info
 have hlc:=run_loadCells_list (P:=P) w ⟨g,off,none⟩ us (fun j v h=>by rw [Addr.add_lit];exact hc j v h)
 rw [hs] at hlc
 simp only [Instr.loadAt,Instr.sureAddr,Sem.run_bind,Sem.run_pure,Result.andThen_ok,loadVar,run_isAgg hT.kind,ha,if_true,sizeOf,typeInfo,run_program,hi,hsz,hlc]
theorem wx_cells (hN:w.heap.size=N) {k:Nat} {e:TypeId} {f:Nat × Nat} {cl:List Value} (hL:L[k]?=some (.cells cl.toArray e f)) (j:Nat) (v:Value) (h:cl[j]?=some v):(wx w n L).cell? ⟨N+k,0+j,none⟩=some v:=by
 subst hN
 simp [World.cell?,wx_at hL,h]
theorem x_ia {tS tE:TypeId} (htS:P.underlying tS=some (.slice tE)) {i:TI} (hT:TOk P tE i) {w:World} {g o m c j:Nat} {J:Int} (hJ:J=(j:Int)) (hj:j<m) (ho:o=j*i.size) :
  (Instr.indexAt tS (.slice (some ⟨g,0,none⟩) m c) (.int .i64 J)).run P w=.ok (.pointer (some ⟨g,o,none⟩)) w:=by
 obtain ⟨ti,z,hi,hsz,_⟩:=hT.info
 subst hJ
 subst ho
 simp [Instr.indexAt,run_underlying htS,asIntOf,sizeOf,typeInfo,hi,hsz,Addr.add_lit,hj]
end
theorem wx_wx {w:World} {n m:Nat} {L M:List Obj}:wx (wx w n L) m M=wx w (n+m) (L++M):=by
 unfold wx
 simp only
 congr 1
 ·apply Array.ext'
  simp
 ·omega
section
variable {P:Program} {ops:Array Oper} {l:List (Option Nat × Op)} {Q:Exit→Act→World→Prop} {i nt:Nat} {rest:List Nat} {a:Act} {w w':World} {f:Nat→Value}
theorem x_val (h:OpsAre ops l) {d:Nat} {p:Op} (hi:l[i]?=some (some d,p)) (ha:ActIs nt f a) (hd:d<nt) {v:Value} (hr :∀o:Oper,o.op=p→(execOp a.eval o).run P w=.ok (.value v) w') (hk :∀b:Act,ActIs nt (fun t=>if t=d then v else f t) b→wpOps P ops Q rest b w'):wpOps P ops Q (i::rest) a w:=
 st_val h hi hr (hk _ (ha.put v hd))
end
def nilS:Value:=.slice none 0 0
def fun68 (s:List UInt8) (u c:Value):List Value:=[.string ⟨s.toArray⟩,.int .i64 0,.int .i64 0,u,c,nilS,nilS]
def sl68 (g n:Nat):Value:=.slice (some ⟨g,0,none⟩) n n
def slots68:List Value:=[.string ⟨#[97]⟩,.int .i64 0,.string ⟨#[120]⟩,.int .i64 0,.string ⟨#[122]⟩,.int .i64 0]
def funcs68 (u c:Value):List Value:=fun68 [109,97,105,110] nilS c++fun68 [102] nilS c++fun68 [102] u c
section
variable {P:Program}
theorem one68 {g n:Nat} {s:List UInt8} {k m:Nat} :∀x∈fun68 s (sl68 g n) (sl68 k m),x.oneCell'=true:=by
 intro x hx
 simp only [fun68,List.mem_cons,List.not_mem_nil,or_false] at hx
 rcases hx with rfl | rfl | rfl | rfl | rfl | rfl | rfl<;>rfl
theorem prog68 {fp tM tC tI tF tD tS tFs:Nat} {fn:Func} {o0 o1 o2 o3:Array Oper} {iM iF:TI} {zi:Value} {ti:TypeInfo} (hf:P.funcs[fp]?=some fn) (hb:fn.body=some (.seq (.region 0 o0 false) (.seq (.region 1 o1 false) (.seq (.region 2 o2 false) (.seq (.region 3 o3 false) .ret))))) (hn:fn.ntmps=17) (hres:fn.results=#[.cell 0 tM])
  (hM:TOk P tM iM) (hM3:iM.size=3) (hMa:iM.kind.agg=true) (hF:TOk P tF iF) (hF7:iF.size=7) (hFa:iF.kind.agg=true)
  (hC:P.underlying tC=some (.slice tI)) (hI:P.info? tI=some ti) (hIz:ti.zero=some zi) (hI4:ti.size=4) (hIb:ti.bytes≤100)
  (bD :∀s,P.built tD [(0,.string s)]=some #[.string s,.int .i64 0])
  (bF :∀s g n,P.built tF [(0,.string ⟨s.toArray⟩),(4,sl68 g n)]=some (fun68 s nilS (sl68 g n)).toArray)
  (bF3 :∀s g n h m,P.built tF [(0,.string ⟨s.toArray⟩),(4,sl68 h m),(3,sl68 g n)]=some (fun68 s (sl68 g n) (sl68 h m)).toArray)
  (bM :∀g n,P.built tM [(2,sl68 g n)]=some #[nilS,nilS,sl68 g n])
  (lS :∀w,(Instr.buildSlice tS 3 #[(0,.agg #[.string ⟨#[97]⟩,.int .i64 0]),(1,.agg #[.string ⟨#[120]⟩,.int .i64 0]),(2,.agg #[.string ⟨#[122]⟩,.int .i64 0])]).run P w=.ok (sl68 w.heap.size 3) (w.alloc (.cells slots68.toArray tD (0,0))))
  (lF :∀w g n h m,(Instr.buildSlice tFs 3 #[(0,.agg (fun68 [109,97,105,110] nilS (sl68 h m)).toArray),(1,.agg (fun68 [102] nilS (sl68 h m)).toArray),(2,.agg (fun68 [102] (sl68 g n) (sl68 h m)).toArray)]).run P w=.ok (sl68 w.heap.size 3) (w.alloc (.cells (funcs68 (sl68 g n) (sl68 h m)).toArray tF (0,0))))
  (h0:OpsAre o0 [(some 0,.alloc tM)])
  (h1:OpsAre o1 [(some 3,.makeSlice tC (.const (.int .i64 9)) (.const (.int .i64 9))),(some 1,.assign (.tmp 3))])
  (h2:OpsAre o2 [(some 4,.move (.tmp 1)),(some 5,.build tD #[(0,.const (.string ⟨#[97]⟩))]),(some 6,.build tD #[(0,.const (.string ⟨#[120]⟩))]),(some 7,.build tD #[(0,.const (.string ⟨#[122]⟩))]),
   (some 8,.buildSlice tS 3 #[(0,.tmp 5),(1,.tmp 6),(2,.tmp 7)]),(some 9,.build tF #[(0,.const (.string ⟨#[102]⟩)),(4,.tmp 4),(3,.tmp 8)]),(some 2,.alloc tF),(none,.store tF (.tmp 2) (.tmp 9))])
  (h3:OpsAre o3 [(some 10,.move (.tmp 1)),(some 11,.build tF #[(0,.const (.string ⟨#[109,97,105,110]⟩)),(4,.tmp 10)]),(some 12,.move (.tmp 1)),(some 13,.build tF #[(0,.const (.string ⟨#[102]⟩)),(4,.tmp 12)]),(some 14,.load tF (.tmp 2)),
   (some 15,.buildSlice tFs 3 #[(0,.tmp 11),(1,.tmp 13),(2,.tmp 14)]),(some 16,.build tM #[(2,.tmp 15)]),(none,.store tM (.tmp 0) (.tmp 16))]) (w:World) {N:Nat} (hN:w.heap.size=N) :
  Calls P fp #[] w fun e w'=>e=.returned (.agg #[nilS,nilS,sl68 (N+4) 3])∧
   w'=wx w 0 [.cells [nilS,nilS,sl68 (N+4) 3].toArray tM (0,0),.cells (madeCells zi.cells 36) tI (0,0),.cells slots68.toArray tD (0,0),.cells (fun68 [102] (sl68 (N+2) 3) (sl68 (N+1) 9)).toArray tF (0,0),.cells (funcs68 (sl68 (N+2) 3) (sl68 (N+1) 9)).toArray tF (0,0)]:=by
 have bF':=fun s=>bF s (N+1) 9
 have bF3':=fun s=>bF3 s (N+2) 3 (N+1) 9
 have bM':=bM (N+4) 3
 have lF':=fun w=>lF w (N+2) 3 (N+1) 9
 clear bF bF3 bM lF
 refine calls_of_wp hf hb ?_
 rw [hn]
 have a0:ActIs 17 (fun _=>undef) ({ tmps:=#[]++Array.replicate (17-(#[]:Array Value).size) undef,defers:=[] }:Act):=by
  refine ⟨rfl,by simp,fun t=>?_⟩
  simp [tv,Array.getElem?_replicate]
  split<;>rfl
 generalize ({ tmps:=#[]++Array.replicate (17-(#[]:Array Value).size) undef,defers:=[] }:Act)=b0 at a0 ⊢
 rw [← wx_nil w]
 rw [show wx (wx w 0 []) 0=wx w 0 from by funext L;rw [wx_wx,List.nil_append]]
 refine wp_seq (wp_region ?_)
 rw [h0.size]
 show wpOps P o0 _ [0] _ _
 obtain ⟨z0,hz0,hr0⟩:=x_alloc (P:=P) (n:=0) (L:=[]) (w:=w) hM hN rfl
 refine x_val h0 (d:=0) (v:=.pointer (some ⟨N+0,0,none⟩)) rfl a0 (by decide) (fun o ho=>by simp only [execOp,ho];exact run_val hr0) fun b1 a1=>?_
 refine wp_seq (wp_region ?_)
 rw [h1.size]
 show wpOps P o1 _ [0,1] _ _
 have hrm:=run_make (P:=P) (wx w 0 ([]++[.cells z0.toArray tM (0,0)])) tC tI ti zi hC hI hIz .i64 .i64 9 9 (by omega) (Int.le_refl _) (by have:(9:Int).toNat=9:=rfl;omega) (by decide)
 rw [wx_alloc,wx_size,hN,show (9:Int).toNat*ti.size=36 by rw [hI4];rfl] at hrm
 generalize madeCells zi.cells 36=mc at hrm ⊢
 generalize hcv:sl68 (N+1) 9=cv at *
 have hrm':(Instr.makeSlice tC (.int .i64 9) (.int .i64 9)).run P (wx w 0 [.cells z0.toArray tM (0,0)])=.ok cv (wx w 0 [.cells z0.toArray tM (0,0),.cells mc tI (0,0)]):=by rw [← hcv];exact hrm
 refine x_val h1 (d:=3) (v:=cv) rfl a1 (by decide) (fun o ho=>by simp only [execOp,ho];exact run_val hrm') fun b2 a2=>?_
 refine x_val h1 (d:=1) (v:=cv) (w':=wx w 0 [.cells z0.toArray tM (0,0),.cells mc tI (0,0)]) rfl a2 (by decide) (fun o ho=>by simp only [execOp,ho];rw [show b2.eval (.tmp 3)=cv from a2.2.2 3];rfl) fun b3 a3=>?_
 refine wp_seq (wp_region ?_)
 rw [h2.size]
 show wpOps P o2 _ [0,1,2,3,4,5,6,7] _ _
 refine x_val h2 (d:=4) (v:=cv) (w':=wx w 0 [.cells z0.toArray tM (0,0),.cells mc tI (0,0)]) rfl a3 (by decide) (fun o ho=>by simp only [execOp,ho];rw [show b3.eval (.tmp 1)=cv from a3.2.2 1];rfl) fun b4 a4=>?_
 refine x_val h2 (d:=5) (v:=.agg #[.string ⟨#[97]⟩,.int .i64 0]) (w':=wx w 0 [.cells z0.toArray tM (0,0),.cells mc tI (0,0)]) rfl a4 (by decide) (fun o ho=>by simp only [execOp,ho];exact run_val (run_build _ tD _ _ (by simpa [Act.eval] using bD ⟨#[97]⟩))) fun b5 a5=>?_
 refine x_val h2 (d:=6) (v:=.agg #[.string ⟨#[120]⟩,.int .i64 0]) (w':=wx w 0 [.cells z0.toArray tM (0,0),.cells mc tI (0,0)]) rfl a5 (by decide) (fun o ho=>by simp only [execOp,ho];exact run_val (run_build _ tD _ _ (by simpa [Act.eval] using bD ⟨#[120]⟩))) fun b6 a6=>?_
 refine x_val h2 (d:=7) (v:=.agg #[.string ⟨#[122]⟩,.int .i64 0]) (w':=wx w 0 [.cells z0.toArray tM (0,0),.cells mc tI (0,0)]) rfl a6 (by decide) (fun o ho=>by simp only [execOp,ho];exact run_val (run_build _ tD _ _ (by simpa [Act.eval] using bD ⟨#[122]⟩))) fun b7 a7=>?_
 have hls:=lS (wx w 0 [.cells z0.toArray tM (0,0),.cells mc tI (0,0)])
 rw [wx_alloc,wx_size,hN] at hls
 generalize hsv:sl68 (N+2) 3=sv at *
 have hls':(Instr.buildSlice tS 3 #[(0,.agg #[.string ⟨#[97]⟩,.int .i64 0]),(1,.agg #[.string ⟨#[120]⟩,.int .i64 0]),(2,.agg #[.string ⟨#[122]⟩,.int .i64 0])]).run P (wx w 0 [.cells z0.toArray tM (0,0),.cells mc tI (0,0)])=.ok sv (wx w 0 [.cells z0.toArray tM (0,0),.cells mc tI (0,0),.cells slots68.toArray tD (0,0)]):=hls
 refine x_val h2 (d:=8) (v:=sv) (w':=wx w 0 [.cells z0.toArray tM (0,0),.cells mc tI (0,0),.cells slots68.toArray tD (0,0)]) rfl a7 (by decide) (fun o ho=>by
  simp only [execOp,ho]
  refine run_val (Eq.trans ?_ hls')
  rw [← show b7.eval (.tmp 5)=.agg #[.string ⟨#[97]⟩,.int .i64 0] from a7.2.2 5,← show b7.eval (.tmp 6)=.agg #[.string ⟨#[120]⟩,.int .i64 0] from a7.2.2 6,← show b7.eval (.tmp 7)=.agg #[.string ⟨#[122]⟩,.int .i64 0] from a7.2.2 7]
  simp) fun b8 a8=>?_
 refine x_val h2 (d:=9) (v:=.agg (fun68 [102] sv cv).toArray) (w':=wx w 0 [.cells z0.toArray tM (0,0),.cells mc tI (0,0),.cells slots68.toArray tD (0,0)]) rfl a8 (by decide) (fun o ho=>by
  simp only [execOp,ho]
  refine run_val (run_build _ tF _ _ (Eq.trans ?_ (bF3' [102])))
  rw [← show b8.eval (.tmp 4)=cv from a8.2.2 4,← show b8.eval (.tmp 8)=sv from a8.2.2 8]
  simp [Act.eval]) fun b9 a9=>?_
 obtain ⟨z2,hz2,hr2⟩:=x_alloc (P:=P) (n:=0) (L:=[.cells z0.toArray tM (0,0),.cells mc tI (0,0),.cells slots68.toArray tD (0,0)]) (w:=w) hF hN rfl
 refine x_val h2 (d:=2) (v:=.pointer (some ⟨N+3,0,none⟩)) rfl a9 (by decide) (fun o ho=>by simp only [execOp,ho];exact run_val hr2) fun b10 a10=>?_
 refine st_unit h2 (w':=wx w 0 [.cells z0.toArray tM (0,0),.cells mc tI (0,0),.cells slots68.toArray tD (0,0),.cells (fun68 [102] sv cv).toArray tF (0,0)]) rfl (fun o ho=>?_) ?_
 ·simp only [execOp,ho]
  refine run_unit ?_
  rw [show b10.eval (.tmp 2)=.pointer (some ⟨N+3,0,none⟩) from a10.2.2 2,show b10.eval (.tmp 9)=.agg (fun68 [102] sv cv).toArray from a10.2.2 9]
  exact x_store (us:=fun68 [102] sv cv) (cl:=z2) hF hN rfl rfl (by rw [hF7];rfl) (by omega) (by rw [← hsv,← hcv];exact one68) (by rw [hF7,List.take_zero,List.drop_of_length_le (by omega)];rfl) rfl
 refine wp_seq (wp_region ?_)
 rw [h3.size]
 show wpOps P o3 _ [0,1,2,3,4,5,6,7] _ _
 refine x_val h3 (d:=10) (v:=cv) (w':=wx w 0 [.cells z0.toArray tM (0,0),.cells mc tI (0,0),.cells slots68.toArray tD (0,0),.cells (fun68 [102] sv cv).toArray tF (0,0)]) rfl a10 (by decide) (fun o ho=>by simp only [execOp,ho];rw [show b10.eval (.tmp 1)=cv from a10.2.2 1];rfl) fun b11 a11=>?_
 refine x_val h3 (d:=11) (v:=.agg (fun68 [109,97,105,110] nilS cv).toArray) (w':=wx w 0 [.cells z0.toArray tM (0,0),.cells mc tI (0,0),.cells slots68.toArray tD (0,0),.cells (fun68 [102] sv cv).toArray tF (0,0)]) rfl a11 (by decide) (fun o ho=>by
  simp only [execOp,ho]
  refine run_val (run_build _ tF _ _ (Eq.trans ?_ (bF' [109,97,105,110])))
  rw [← show b11.eval (.tmp 10)=cv from a11.2.2 10]
  simp [Act.eval]) fun b12 a12=>?_
 refine x_val h3 (d:=12) (v:=cv) (w':=wx w 0 [.cells z0.toArray tM (0,0),.cells mc tI (0,0),.cells slots68.toArray tD (0,0),.cells (fun68 [102] sv cv).toArray tF (0,0)]) rfl a12 (by decide) (fun o ho=>by simp only [execOp,ho];rw [show b12.eval (.tmp 1)=cv from a12.2.2 1];rfl) fun b13 a13=>?_
 refine x_val h3 (d:=13) (v:=.agg (fun68 [102] nilS cv).toArray) (w':=wx w 0 [.cells z0.toArray tM (0,0),.cells mc tI (0,0),.cells slots68.toArray tD (0,0),.cells (fun68 [102] sv cv).toArray tF (0,0)]) rfl a13 (by decide) (fun o ho=>by
  simp only [execOp,ho]
  refine run_val (run_build _ tF _ _ (Eq.trans ?_ (bF' [102])))
  rw [← show b13.eval (.tmp 12)=cv from a13.2.2 12]
  simp [Act.eval]) fun b14 a14=>?_
 refine x_val h3 (d:=14) (v:=.agg (fun68 [102] sv cv).toArray) (w':=wx w 0 [.cells z0.toArray tM (0,0),.cells mc tI (0,0),.cells slots68.toArray tD (0,0),.cells (fun68 [102] sv cv).toArray tF (0,0)]) rfl a14 (by decide) (fun o ho=>by
  simp only [execOp,ho]
  refine run_val ?_
  rw [show b14.eval (.tmp 2)=.pointer (some ⟨N+3,0,none⟩) from a14.2.2 2]
  exact x_loadA hF hFa (by rw [hF7];rfl) (wx_cells (k:=3) (cl:=fun68 [102] sv cv) hN rfl)) fun b15 a15=>?_
 have hlf:=lF' (wx w 0 [.cells z0.toArray tM (0,0),.cells mc tI (0,0),.cells slots68.toArray tD (0,0),.cells (fun68 [102] sv cv).toArray tF (0,0)])
 rw [wx_alloc,wx_size,hN] at hlf
 generalize hfv:sl68 (N+4) 3=fv at *
 have hlf':(Instr.buildSlice tFs 3 #[(0,.agg (fun68 [109,97,105,110] nilS cv).toArray),(1,.agg (fun68 [102] nilS cv).toArray),(2,.agg (fun68 [102] sv cv).toArray)]).run P (wx w 0 [.cells z0.toArray tM (0,0),.cells mc tI (0,0),.cells slots68.toArray tD (0,0),.cells (fun68 [102] sv cv).toArray tF (0,0)])=.ok fv (wx w 0 [.cells z0.toArray tM (0,0),.cells mc tI (0,0),.cells slots68.toArray tD (0,0),.cells (fun68 [102] sv cv).toArray tF (0,0),.cells (funcs68 sv cv).toArray tF (0,0)]):=hlf
 refine x_val h3 (d:=15) (v:=fv) (w':=wx w 0 [.cells z0.toArray tM (0,0),.cells mc tI (0,0),.cells slots68.toArray tD (0,0),.cells (fun68 [102] sv cv).toArray tF (0,0),.cells (funcs68 sv cv).toArray tF (0,0)]) rfl a15 (by decide) (fun o ho=>by
  simp only [execOp,ho]
  refine run_val (Eq.trans ?_ hlf')
  rw [← show b15.eval (.tmp 11)=.agg (fun68 [109,97,105,110] nilS cv).toArray from a15.2.2 11,← show b15.eval (.tmp 13)=.agg (fun68 [102] nilS cv).toArray from a15.2.2 13,← show b15.eval (.tmp 14)=.agg (fun68 [102] sv cv).toArray from a15.2.2 14]
  simp) fun b16 a16=>?_
 refine x_val h3 (d:=16) (v:=.agg [nilS,nilS,fv].toArray) (w':=wx w 0 [.cells z0.toArray tM (0,0),.cells mc tI (0,0),.cells slots68.toArray tD (0,0),.cells (fun68 [102] sv cv).toArray tF (0,0),.cells (funcs68 sv cv).toArray tF (0,0)]) rfl a16 (by decide) (fun o ho=>by
  simp only [execOp,ho]
  refine run_val (run_build _ tM _ _ (Eq.trans ?_ bM'))
  rw [← show b16.eval (.tmp 15)=fv from a16.2.2 15]
  simp [Act.eval]) fun b17 a17=>?_
 refine st_unit h3 (w':=wx w 0 [.cells [nilS,nilS,fv].toArray tM (0,0),.cells mc tI (0,0),.cells slots68.toArray tD (0,0),.cells (fun68 [102] sv cv).toArray tF (0,0),.cells (funcs68 sv cv).toArray tF (0,0)]) rfl (fun o ho=>?_) ?_
 ·simp only [execOp,ho]
  refine run_unit ?_
  rw [show b17.eval (.tmp 0)=.pointer (some ⟨N+0,0,none⟩) from a17.2.2 0,show b17.eval (.tmp 16)=.agg [nilS,nilS,fv].toArray from a17.2.2 16]
  exact x_store (us:=[nilS,nilS,fv]) (cl:=z0) hM hN rfl rfl (by rw [hM3];rfl) (by omega) (by rw [← hfv];intro x hx;simp only [List.mem_cons,List.not_mem_nil,or_false] at hx;rcases hx with rfl | rfl | rfl<;>rfl) (by rw [hM3,List.take_zero,List.drop_of_length_le (by omega)];rfl) rfl
 refine wp_ret ?_
 refine ⟨a17.1,.agg [nilS,nilS,fv].toArray,?_,rfl,rfl⟩
 rw [results_eq,hres]
 have hl:=x_loadA (P:=P) (us:=[nilS,nilS,fv]) hM hMa (by rw [hM3];rfl) (wx_cells (w:=w) (n:=0) (L:=[.cells [nilS,nilS,fv].toArray tM (0,0),.cells mc tI (0,0),.cells slots68.toArray tD (0,0),.cells (fun68 [102] sv cv).toArray tF (0,0),.cells (funcs68 sv cv).toArray tF (0,0)]) (k:=0) (cl:=[nilS,nilS,fv]) hN rfl)
 have h2':(resVar b17.tmps (.cell 0 tM)).run P (wx w 0 [.cells [nilS,nilS,fv].toArray tM (0,0),.cells mc tI (0,0),.cells slots68.toArray tD (0,0),.cells (fun68 [102] sv cv).toArray tF (0,0),.cells (funcs68 sv cv).toArray tF (0,0)])=.ok (.agg [nilS,nilS,fv].toArray) (wx w 0 [.cells [nilS,nilS,fv].toArray tM (0,0),.cells mc tI (0,0),.cells slots68.toArray tD (0,0),.cells (fun68 [102] sv cv).toArray tF (0,0),.cells (funcs68 sv cv).toArray tF (0,0)]):=by
  unfold resVar
  have e0:b17.tmps.getD 0 undef=.pointer (some ⟨N+0,0,none⟩):=a17.2.2 0
  simp only [e0]
  simpa [asAddr,Instr.loadAt,Instr.sureAddr] using hl
 simpa using h2'
end
end Go.AM

namespace Go.AM
open Go Go.RowKit
def im68 (s:List UInt8) (more:List Fld):Img:=Img.mk [] [] [Fun.mk [109,97,105,110] 0 0 [] (rep 9 Ins.zero) [] [],Fun.mk [102] 0 0 [] (rep 9 Ins.zero) [] [],Fun.mk [102] 0 0 ([Fld.mk [97] 0,Fld.mk s 0,Fld.mk [122] 0]++more) (rep 9 Ins.zero) [] []]
def long68:List UInt8:=[115,101,118,101,110,116,101,101,110,32,108,101,116,116,101,114,115]
def m68 (i:Int):Img:=if i=7 then im68 long68 [] else if i=8 then im68 [120] (rep 14 Fld.zero) else im68 [120] []
def x68 (i:Int) (g:Frm):Frm:=⟨if i=0 then 3 else if i=1 then -1 else g.func,if i=2 then 9 else g.pos,if i=3 then 4 else g.mode,
 if i=4 then g.locals.set 1 ⟨3,(g.locals.getD 1 Loc.zero).value⟩ else if i=5 then g.locals.set 1 ⟨0,(g.locals.getD 1 Loc.zero).value⟩ else if i=6 then g.locals.set 0 ⟨(g.locals.getD 0 Loc.zero).slot,Val.zero⟩ else g.locals⟩
def setRC (rows:List (List AV)) (r off:Nat) (cs:List AV):List (List AV):=rows.set r (setAt (rows.getD r []) off cs)
def hl68 (i:Int) (rows:List (List AV)):List (List AV):=if i=4 then setRC rows 1 0 [.i .i64 3] else if i=5 then setRC rows 1 0 [.i .i64 0] else if i=6 then setRC rows 0 1 [.i .u8 0,.i .i64 0,.s [],.sl .ext [],.b false] else rows
def hx68 (i a b c:Int) (rows:List (List AV)):List AV:=[.i .i64 (if i=0 then 3 else if i=1 then -1 else a),.i .i64 (if i=2 then 9 else b),.i .u64 (if i=3 then 4 else c),.sl .ext (hl68 i rows)]
theorem hx68_eq {i a b c:Int} {ls:List Loc} (h:ls.length=2):hx68 i a b c (ls.map Loc.row)=(x68 i ⟨a,b,c,ls⟩).row:=by
 obtain ⟨l0,l1,rfl⟩ :∃l0 l1,ls=[l0,l1]:=by
  match ls,h with
  | [l0,l1],_=>exact ⟨l0,l1,rfl⟩
 have e:hl68 i ([l0,l1].map Loc.row)=((x68 i ⟨a,b,c,[l0,l1]⟩).locals).map Loc.row:=by
  unfold hl68 x68
  simp only
  split
  ·rfl
  ·split
   ·rfl
   ·split<;>rfl
 unfold hx68
 rw [e]
 rfl
def hwK68 (t:Nat):Bool:=Nat.ble 290 t&&Nat.blt t 350
def hsA68 (xr:List AV) (i:Int) (σ:Sl):Sl:=fun t=>if t=11 then .fp xr else if t=12 then .fp (m68 i).row else if hwK68 t=true then .u else σ t
def hs68 (i:Int) (g:Frm) (σ:Sl):Sl:=hsA68 (x68 i g).row i σ
def hw68 (σ:Sl) (st:St):Option (AE × Sl × St):=match σ 10,σ 8 with
 | .i .i64 i,.fp [.i .i64 a,.i .i64 b,.i .u64 c,.sl .ext rows]=>if rows.length=2∧(rows.all (·.length==6))=true then some (.normal,hsA68 (hx68 i a b c rows) i σ,st) else none
 | _,_=>none
theorem hw68_eq {σ:Sl} {st:St} {i a b c:Int} {ls:List Loc} (h1:σ 10=.i .i64 i) (h2:σ 8=.fp [.i .i64 a,.i .i64 b,.i .u64 c,.sl .ext (List.map Loc.row ls)]) (hl:ls.length=2):hw68 σ st=some (.normal,hs68 i ⟨a,b,c,ls⟩ σ,st):=by
 unfold hw68
 rw [h1,h2]
 simp only
 rw [if_pos ⟨by simpa using hl,by simp [Loc.row_len]⟩,hx68_eq hl]
 rfl
def newH (H:Hp) (w w':World):Hp:=fun g o=>if g<w.heap.size then H g o else match w'.cell? ⟨g,o,none⟩ with
 | some v=>if v.oneCell'=true then some v else none
 | none=>none
section
variable {G:Gh} {w0 w w':World} {st:St}
theorem newH_le (hR:Rel G w0 st w):HLe G.H (newH G.H w w'):=fun g o v h=>by
 unfold newH
 rw [if_pos (hR.Hlt h)];exact h
theorem newH_at {g o:Nat} {v:Value} (hg:w.heap.size≤g) (hc:w'.cell? ⟨g,o,none⟩=some v) (h1:v.oneCell'=true):newH G.H w w' g o=some v:=by
 unfold newH
 rw [if_neg (by omega),hc]
 simp only [h1,if_true]
theorem Rel.newH (hR:Rel G w0 st w) (hb:Below w.heap.size w w') {d:Nat}:Run G ⟨Go.AM.newH G.H w w',G.ρ,G.ω,G.fm,G.M⟩ w0 st st w' d:=by
 have hH :∀g o v,Go.AM.newH G.H w w' g o=some v→G.H g o=some v∨(w.heap.size≤g∧w'.cell? ⟨g,o,none⟩=some v∧v.oneCell'=true):=by
  intro g o v h
  unfold Go.AM.newH at h
  split at h
  ·exact .inl h
  ·rename_i hg
   split at h
   ·rename_i x hx
    split at h
    ·rename_i h1
     cases h
     exact .inr ⟨by omega,hx,h1⟩
    ·cases h
   ·cases h
 exact (Step.grow (d:=d) (site:=0) (ver:=st.nx) hR hb (newH_le hR) hH).toRun
end
def Rw (H:Hp):List AV→List Value→Prop
 | [],_=>True
 | a::r,v::cs=>(Fz H a v∧v.oneCell'=true)∧Rw H r cs
 | _::_,[]=>False
def Rws (H:Hp) (size:Nat):List (List AV)→List Value→Prop
 | [],_=>True
 | row::rs,cs=>row.length=size∧Rw H row cs∧Rws H size rs (cs.drop size)
theorem Rw.at {H:Hp} :∀{row:List AV} {cs:List Value},Rw H row cs→∀(j:Nat) a,row[j]?=some a→∃v,cs[j]?=some v∧Fz H a v∧v.oneCell'=true
 | [],_,_,j,a,h=>by simp at h
 | b::r,[],hr,j,a,h=>hr.elim
 | b::r,v::cs,hr,0,a,h=>by cases h;exact ⟨v,rfl,hr.1⟩
 | b::r,v::cs,hr,j+1,a,h=>by
  obtain ⟨x,h1,h2⟩:=Rw.at hr.2 j a h
  exact ⟨x,h1,h2⟩
theorem Rws.at {H:Hp} {size:Nat} :∀{rows:List (List AV)} {cs:List Value},Rws H size rows cs→∀(i:Nat) row (j:Nat) a,rows[i]?=some row→row[j]?=some a→∃v,cs[i*size+j]?=some v∧Fz H a v∧v.oneCell'=true
 | [],_,_,i,row,j,a,h,_=>by simp at h
 | r::rs,cs,hr,0,row,j,a,h,h2=>by
  cases h
  obtain ⟨v,h3,h4⟩:=hr.2.1.at j a h2
  exact ⟨v,by simpa using h3,h4⟩
 | r::rs,cs,hr,i+1,row,j,a,h,h2=>by
  obtain ⟨v,h3,h4⟩:=Rws.at hr.2.2 i row j a h h2
  refine ⟨v,?_,h4⟩
  rw [List.getElem?_drop] at h3
  rw [← h3]
  congr 1
  rw [Nat.succ_mul];omega
theorem Rws.len {H:Hp} {size:Nat} :∀{rows:List (List AV)} {cs:List Value},Rws H size rows cs→∀row∈rows,row.length=size
 | [],_,_,row,h=>by cases h
 | r::rs,cs,hr,row,h=>by
  rcases List.mem_cons.1 h with rfl | h
  ·exact hr.1
  ·exact Rws.len hr.2.2 row h
theorem Rw.app {H:Hp} :∀{row:List AV} {cs ds:List Value},Rw H row cs→Rw H row (cs++ds)
 | [],_,_,_=>trivial
 | _::_,[],_,h=>h.elim
 | _::_,_::_,_,h=>⟨h.1,Rw.app h.2⟩
theorem Rws.rep {H:Hp} {row:List AV} {cz:List Value} (hr:Rw H row cz) (hl:cz.length=row.length) :∀(n:Nat) (ds:List Value),Rws H row.length (List.replicate n row) ((List.replicate n cz).flatten++ds)
 | 0,_=>trivial
 | n+1,ds=>by
  rw [List.replicate_succ,List.replicate_succ,List.flatten_cons,List.append_assoc]
  refine ⟨rfl,hr.app,?_⟩
  rw [← hl,List.drop_left,hl]
  exact Rws.rep hr hl n ds
section
variable {G:Gh} {w:World} {n N:Nat} {L:List Obj}
theorem new_sl (hN:w.heap.size=N) {k:Nat} {e:TypeId} {f:Nat × Nat} {cl:List Value} (hL:L[k]?=some (.cells cl.toArray e f)) {size m cap:Nat} {rows:List (List AV)} (hr:Rws (newH G.H w (wx w n L)) size rows cl) (hm:rows.length=m) (hc:m≤cap) :
  Fz (newH G.H w (wx w n L)) (.sl .ext rows) (.slice (some ⟨N+k,0,none⟩) m cap):=by
 subst hm
 refine .sl rows _ cap size (N+k) 0 (fun i j=>(cl[i*size+j]?).getD undef) (fun _=>rfl) hc (fun i row h=>hr.len row (List.mem_of_getElem? h)) (fun i row j a h1 h2=>?_) (fun i row j a h1 h2=>?_)
 ·obtain ⟨v,h3,h4,h5⟩:=hr.at i row j a h1 h2
  rw [h3]
  exact newH_at (by omega) (by rw [show 0+i*size+j=0+(i*size+j) by omega];exact wx_cells hN hL _ v h3) h5
 ·obtain ⟨v,h3,h4,h5⟩:=hr.at i row j a h1 h2
  rw [h3]
  exact h4
theorem new_fp (hN:w.heap.size=N) {k:Nat} {e:TypeId} {f:Nat × Nat} {cl:List Value} (hL:L[k]?=some (.cells cl.toArray e f)) {row:List AV} (hr:Rw (newH G.H w (wx w n L)) row cl) :
  R ⟨newH G.H w (wx w n L),G.ρ,G.ω,G.fm,G.M⟩ (.fp row) (.pointer (some ⟨N+k,0,none⟩)):=by
 refine .fp row (fun j=>(cl[j]?).getD undef) (N+k) 0 (fun j a h=>?_) (fun j a h=>?_)
 ·obtain ⟨v,h3,h4,h5⟩:=hr.at j a h
  show newH G.H w (wx w n L) (N+k) (0+j)=_
  rw [h3]
  exact newH_at (by omega) (wx_cells hN hL _ v h3) h5
 ·obtain ⟨v,h3,h4,h5⟩:=hr.at j a h
  rw [h3]
  exact h4
end
end Go.AM

namespace Go.AM
open Go
set_option maxRecDepth 4000
set_option maxHeartbeats 1000000
attribute [local irreducible] WO fillCells fillRows
def r68_0:List AI:=[oC 0 (.b false)]
def r68_1:List AI:=[oO 33 (.call true 89 [(.c (.i .u8 5)),(.c (.sl .full []))]),oO 1 (.alloc [z8,z6,zs,zl,zb]),oS 5 1 33]
def r68_2:List AI:=[oI 2 0]
def r68_3:List AI:=[oM 34 2,oV 35 .lss 34 9]
def r68_4:List AI:=[oF 38 3 1,oL 39 38,oQ 40 90 [],oO 41 (.bslice [z8,z6,zs,zl,zb] 1 [(0,(.t 40))]),oO 42 (.app 5 64 (.t 39) (.t 41)),oF 43 3 1,oS 1 43 42]
def r68_5:List AI:=[oM 36 2,oV 37 .add 36 1,oM 2 37]
def r68_6:List AI:=[oO 44 (.mks [z8] 1 (.c (.i .i64 65)) (.c (.i .i64 65))),oO 45 (.b2s (.t 44)),oM 3 45]
def r68_7:List AI:=[oO 46 (.build [z8,z6,zs,zl,zb] [(0,1,(.c (.i .u8 1)))]),oO 47 (.call false 91 [(.t 46),(.c (.s [102,97,108,115,101]))]),oM 48 47,gT 48 (oO 49 (.call false 92 [(.c (.i .i64 (-9223372036854775808)))])),gT 48 (oO 50 (.call false 91 [(.t 49),(.c (.s [45,57,50,50,51,51,55,50,48,51,54,56,53,52,55,55,53,56,48,56]))])),oA 51 48 50,oM 52 51,gT 52 (oO 53 (.call true 89 [(.c (.i .u8 4)),(.c (.sl .full []))])),gT 52 (oO 54 (.call false 91 [(.t 53),(.c (.s [110,105,108]))])),oA 55 52 54,oM 56 55,gT 56 (oO 57 (.call true 89 [(.c (.i .u8 4)),(.c (.sl .full []))])),gT 56 (oO 58 (.bslice [z8,z6,zs,zl,zb] 1 [(0,(.t 57))])),gT 56 (oO 59 (.call true 89 [(.c (.i .u8 4)),(.t 58)])),gT 56 (oO 60 (.call false 91 [(.t 59),(.c (.s [38,110,105,108]))])),oA 61 56 60,oM 62 61,gT 62 (oO 63 (.build [z8,z6,zs,zl,zb] [(0,1,(.c (.i .u8 7))),(4,1,(.c (.b true)))])),gT 62 (oO 64 (.call false 91 [(.t 63),(.c (.s [60,46,46,46,62]))])),oA 65 62 64,oM 66 65,gT 66 (oO 67 (.call true 89 [(.c (.i .u8 5)),(.c (.sl .full []))])),gT 66 (oO 68 (.call false 91 [(.t 67),(.c (.s [123,125]))])),oA 69 66 68,oM 70 69,gT 70 (oO 71 (.call false 93 [(.c (.s [34,10,92]))])),gT 70 (oO 72 (.call false 91 [(.t 71),(.c (.s [34,92,34,92,110,92,92,34]))])),oA 73 70 72,oM 74 73,gT 74 (oO 75 (.call false 93 [(.c (.s [44,32,93]))])),gT 74 (oO 76 (.bslice [z8,z6,zs,zl,zb] 1 [(0,(.t 75))])),gT 74 (oO 77 (.call true 89 [(.c (.i .u8 6)),(.t 76)])),gT 74 (oO 78 (.call false 91 [(.t 77),(.c (.s [91,34,44,32,93,34,93]))])),oA 79 74 78,oM 80 79,gT 80 (oO 81 (.call false 94 [(.c (.i .i64 11))])),gT 80 (oO 82 (.call false 91 [(.t 81),(.c (.s [38,38,38,38,38,38,38,38,38,38,38,55]))])),oA 83 80 82,oM 84 83,gT 84 (oO 85 (.call false 94 [(.c (.i .i64 129))])),gT 84 (oQ 86 76 [85]),gT 84 (oV 87 .eql 86 0),oA 88 84 87,oM 89 88,gT 89 (oO 90 (.call false 95 [(.c (.i .i64 16)),(.c (.i .i64 16))])),gT 89 (oQ 91 76 [90]),gT 89 (oV 92 .eql 91 0),oA 93 89 92,oM 94 93,gT 94 (oO 95 (.call false 96 [(.c (.i .i64 16))])),gT 94 (oQ 96 76 [95]),gT 94 (oV 97 .eql 96 0),oA 98 94 97,oM 99 98,gT 99 (oM 100 3),gT 99 (oO 101 (.slS (.t 100) none (some (.c (.i .i64 64))))),gT 99 (oQ 102 93 [101]),gT 99 (oQ 103 76 [102]),gT 99 (oV 104 .eql 103 0),oA 105 99 104,oM 106 105,gT 106 (oF 107 3 1),gT 106 (oL 108 107),gT 106 (oO 109 (.slL 5 (.t 108) none (some (.c (.i .i64 8))))),gT 106 (oO 110 (.build [z8,z6,zs,zl,zb] [(0,1,(.c (.i .u8 5))),(3,1,(.t 109))])),gT 106 (oQ 111 76 [110]),gT 106 (oV 112 .eql 111 0),oA 113 106 112,oM 4 113]
def r68_8:List AI:=[oO 114 (.build [z8,z6,zs,zl,zb] []),oQ 115 97 [114],oM 116 115,gT 116 (oO 117 (.build [z8,z6,zs,zl,zb] [(0,1,(.c (.i .u8 8)))])),gT 116 (oQ 118 97 [117]),oA 119 116 118,oM 120 119,gT 120 (oO 121 (.build [z8,z6,zs,zl,zb] [(0,1,(.c (.i .u8 1))),(1,1,(.c (.i .i64 2)))])),gT 120 (oQ 122 97 [121]),oA 123 120 122,oM 124 123,gT 124 (oO 125 (.build [z8,z6,zs,zl,zb] [(0,1,(.c (.i .u8 2))),(2,1,(.c (.s [97])))])),gT 124 (oQ 126 97 [125]),oA 127 124 126,oM 128 127,gT 128 (oO 129 (.build [z8,z6,zs,zl,zb] [(0,1,(.c (.i .u8 3))),(1,1,(.c (.i .i64 1)))])),gT 128 (oQ 130 97 [129]),oA 131 128 130,oM 132 131,gT 132 (oM 133 3),gT 132 (oQ 134 93 [133]),gT 132 (oQ 135 97 [134]),oA 136 132 135,oM 137 136,gT 137 (oO 138 (.build [z8,z6,zs,zl,zb] [(0,1,(.c (.i .u8 2))),(4,1,(.c (.b true)))])),gT 137 (oQ 139 97 [138]),oA 140 137 139,oM 141 140,gT 141 (oQ 142 90 []),gT 141 (oO 143 (.bslice [z8,z6,zs,zl,zb] 1 [(0,(.t 142))])),gT 141 (oO 144 (.call true 89 [(.c (.i .u8 2)),(.t 143)])),gT 141 (oQ 145 97 [144]),oA 146 141 145,oM 147 146,gT 147 (oQ 148 90 []),gT 147 (oQ 149 90 []),gT 147 (oO 150 (.bslice [z8,z6,zs,zl,zb] 2 [(0,(.t 148)),(1,(.t 149))])),gT 147 (oO 151 (.call true 89 [(.c (.i .u8 4)),(.t 150)])),gT 147 (oQ 152 97 [151]),oA 153 147 152,oM 154 153,gT 154 (oQ 155 90 []),gT 154 (oO 156 (.bslice [z8,z6,zs,zl,zb] 1 [(0,(.t 155))])),gT 154 (oO 157 (.build [z8,z6,zs,zl,zb] [(0,1,(.c (.i .u8 4))),(4,1,(.c (.b true))),(3,1,(.t 156))])),gT 154 (oQ 158 97 [157]),oA 159 154 158,oM 160 159,gT 160 (oO 161 (.build [z8,z6,zs,zl,zb] [(0,1,(.c (.i .u8 5))),(4,1,(.c (.b true)))])),gT 160 (oQ 162 97 [161]),oA 163 160 162,oM 164 163,gT 164 (oO 165 (.build [z8,z6,zs,zl,zb] [(0,1,(.c (.i .u8 6))),(4,1,(.c (.b true)))])),gT 164 (oQ 166 97 [165]),oA 167 164 166,oM 168 167,gT 168 (oO 169 (.call true 89 [(.c (.i .u8 6)),(.c (.sl .full []))])),gT 168 (oQ 170 97 [169]),oA 171 168 170,oM 172 171,gT 172 (oK 173 5 1),gT 172 (oQ 174 97 [173]),oA 175 172 174,oM 176 175,gT 176 (oO 177 (.call false 95 [(.c (.i .i64 1)),(.c (.i .i64 17))])),gT 176 (oQ 178 97 [177]),oA 179 176 178,oM 180 179,gT 180 (oO 181 (.call false 95 [(.c (.i .i64 17)),(.c (.i .i64 1))])),gT 180 (oQ 182 97 [181]),oA 183 180 182,oM 184 183,gT 184 (oO 185 (.call false 94 [(.c (.i .i64 130))])),gT 184 (oQ 186 97 [185]),oA 187 184 186,oM 188 187,gT 188 (oO 189 (.call false 96 [(.c (.i .i64 16))])),gT 188 (oO 190 (.call false 96 [(.c (.i .i64 3))])),gT 188 (oO 191 (.bslice [z8,z6,zs,zl,zb] 2 [(0,(.t 189)),(1,(.t 190))])),gT 188 (oO 192 (.call true 89 [(.c (.i .u8 5)),(.t 191)])),gT 188 (oQ 193 97 [192]),oA 194 188 193,oM 195 194,gT 195 (oO 196 (.build [z8,z6,zs,zl,zb] [])),gT 195 (oO 197 (.bslice [z8,z6,zs,zl,zb] 1 [(0,(.t 196))])),gT 195 (oO 198 (.call true 89 [(.c (.i .u8 7)),(.t 197)])),gT 195 (oQ 199 97 [198]),oA 200 195 199,oM 201 200,gT 201 (oO 202 (.build [z8,z6,zs,zl,zb] [(0,1,(.c (.i .u8 4))),(1,1,(.c (.i .i64 1)))])),gT 201 (oQ 203 97 [202]),oA 204 201 203,oM 5 204]
def r68_9:List AI:=[oO 205 (.call false 98 [(.c (.s []))]),oM 206 205,gT 206 (oO 207 (.call false 98 [(.c (.s [84,114,117,101]))])),oA 208 206 207,oM 209 208,gT 209 (oO 210 (.call false 98 [(.c (.s [116,114,117,101,32]))])),oA 211 209 210,oM 212 211,gT 212 (oO 213 (.call false 98 [(.c (.s [45,48]))])),oA 214 212 213,oM 215 214,gT 215 (oO 216 (.call false 98 [(.c (.s [48,49]))])),oA 217 215 216,oM 218 217,gT 218 (oO 219 (.call false 98 [(.c (.s [43,49]))])),oA 220 218 219,oM 221 220,gT 221 (oO 222 (.call false 98 [(.c (.s [57,50,50,51,51,55,50,48,51,54,56,53,52,55,55,53,56,48,56]))])),oA 223 221 222,oM 224 223,gT 224 (oO 225 (.call false 98 [(.c (.s [34,97]))])),oA 226 224 225,oM 227 226,gT 227 (oO 228 (.call false 98 [(.c (.s [34,92,113,34]))])),oA 229 227 228,oM 230 229,gT 230 (oO 231 (.call false 98 [(.c (.s [38]))])),oA 232 230 231,oM 233 232,gT 233 (oO 234 (.call false 98 [(.c (.s [38,32,49]))])),oA 235 233 234,oM 236 235,gT 236 (oO 237 (.call false 98 [(.c (.s [110,105,108,49]))])),oA 238 236 237,oM 239 238,gT 239 (oO 240 (.call false 98 [(.c (.s [38,46,46,46,46]))])),oA 241 239 240,oM 242 241,gT 242 (oO 243 (.call false 98 [(.c (.s [60,46,46,46]))])),oA 244 242 243,oM 245 244,gT 245 (oO 246 (.call false 98 [(.c (.s [123]))])),oA 247 245 246,oM 248 247,gT 248 (oO 249 (.call false 98 [(.c (.s [123,116,114,117,101]))])),oA 250 248 249,oM 251 250,gT 251 (oO 252 (.call false 98 [(.c (.s [123,116,114,117,101,125,125]))])),oA 253 251 252,oM 254 253,gT 254 (oO 255 (.call false 98 [(.c (.s [123,116,114,117,101,44,32,125]))])),oA 256 254 255,oM 257 256,gT 257 (oO 258 (.call false 98 [(.c (.s [91,49,44,50,93]))])),oA 259 257 258,oM 260 259,gT 260 (oO 261 (.call false 98 [(.c (.s [91,49,44,32,32,50,93]))])),oA 262 260 261,oM 263 262,gT 263 (oO 264 (.call false 98 [(.c (.s [91,46,46,46,93]))])),oA 265 263 264,oM 266 265,gT 266 (oO 267 (.call false 98 [(.c (.s [123,46,46,46,125]))])),oA 268 266 267,oM 269 268,gT 269 (oO 270 (.call false 98 [(.c (.s [60,49,44,32,50,93]))])),oA 271 269 270,oM 272 271,gT 272 (oO 273 (.call false 98 [(.c (.s [34,92,120,52,49,34]))])),oA 274 272 273,oM 6 274]
def r68_10:List AI:=[oQ 275 99 [],oO 7 (.alloc [zl,zl,zl]),oS 3 7 275]
def r68_11:List AI:=[oQ 276 90 [],oO 277 (.build [z6,z8,z6,zs,zl,zb] [(0,1,(.c (.i .i64 0))),(1,5,(.t 276))]),oO 278 (.call false 92 [(.c (.i .i64 1))]),oO 279 (.build [z6,z8,z6,zs,zl,zb] [(0,1,(.c (.i .i64 2))),(1,5,(.t 278))]),oO 280 (.bslice [z6,z8,z6,zs,zl,zb] 2 [(0,(.t 277)),(1,(.t 279))]),oO 281 (.build [z6,z6,z7,zl] [(0,1,(.c (.i .i64 2))),(1,1,(.c (.i .i64 8))),(2,1,(.c (.i .u64 3))),(3,1,(.t 280))]),oO 8 (.alloc [z6,z6,z7,zl]),oS 4 8 281]
def r68_12:List AI:=[oK 282 3 7,oK 283 4 8,oQ 284 86 [282,283],oV 285 .eql 284 0,oM 9 285]
def r68_13:List AI:=[oI 10 0]
def r68_14:List AI:=[oM 286 10,oV 287 .lss 286 9]
def r68_15:List AI:=[oK 351 3 12,oK 352 4 11,oO 353 (.call false 82 [(.t 351),(.c (.i .i64 0)),(.t 352)]),oM 350 353,oE 354 0 350,oE 355 1 350,oM 13 354,oM 14 355]
def r68_16:List AI:=[oM 356 9,oM 357 356,gT 357 (oK 358 3 12),gT 357 (oK 359 4 11),gT 357 (oQ 360 86 [358,359]),gT 357 (oV 361 .eql 360 8),oA 362 357 361,oM 363 362,gT 363 (oM 364 14),gT 363 (oV 365 .eql 364 8),oA 366 363 365,oM 9 366]
def r68_17:List AI:=[oM 288 10,oV 289 .add 288 1,oM 10 289]
def r68_18:List AI:=[oK 368 3 7,oO 369 (.build [z6,z6,z7,zl] [(0,1,(.c (.i .i64 9)))]),oO 370 (.call false 82 [(.t 368),(.c (.i .i64 170)),(.t 369)]),oM 367 370,oE 371 0 367,oE 372 1 367,oM 15 371,oM 16 372]
def r68_19:List AI:=[oK 374 3 7,oK 375 4 8,oO 376 (.call false 82 [(.t 374),(.c (.i .i64 (-1))),(.t 375)]),oM 373 376,oE 377 0 373,oE 378 1 373,oM 17 377,oM 18 378]
def r68_20:List AI:=[oK 380 3 7,oK 381 4 8,oO 382 (.call false 82 [(.t 380),(.c (.i .i64 169)),(.t 381)]),oM 379 382,oE 383 0 379,oE 384 1 379,oM 19 383,oM 20 384]
def r68_21:List AI:=[oO 386 (.mks [z8] 1 (.c (.i .i64 1400001)) (.c (.i .i64 1400001))),oO 387 (.b2s (.t 386)),oQ 388 74 [387],oM 385 388,oE 389 0 385,oE 390 1 385,oO 21 (.alloc [z8,z6,zs,zl,zb]),oS 5 21 389,oM 22 390]
def r68_22:List AI:=[oK 392 3 7,oO 393 (.mks [zs] 16 (.c (.i .i64 18)) (.c (.i .i64 18))),oQ 394 84 [392,393],oM 391 394,oE 395 0 391,oE 396 1 391,oE 397 2 391,oO 24 (.alloc [z6,z6,z7,zl]),oM 23 395,oS 4 24 396,oM 25 397]
def r68_23:List AI:=[oK 399 3 7,oO 400 (.mks [z8] 1 (.c (.i .i64 1400061)) (.c (.i .i64 1400061))),oO 401 (.b2s (.t 400)),oO 402 (.bslice [zs] 1 [(0,(.t 401))]),oQ 403 84 [399,402],oM 398 403,oE 404 0 398,oE 405 1 398,oE 406 2 398,oO 27 (.alloc [z6,z6,z7,zl]),oM 26 404,oS 4 27 405,oM 28 406]
def r68_24:List AI:=[oK 408 3 7,oO 409 (.call false 84 [(.t 408),(.c (.sl .full []))]),oM 407 409,oE 410 0 407,oE 411 1 407,oE 412 2 407,oO 30 (.alloc [z6,z6,z7,zl]),oM 29 410,oS 4 30 411,oM 31 412]
def r68_25:List AI:=[oO 413 (.bslice [zs] 1 [(0,(.c (.s [35,48,32,51,32,34,102,34,32,97,116,32,48,32,99,97,108,108])))]),oQ 414 100 [413],oM 415 414,gT 415 (oO 416 (.bslice [zs] 1 [(0,(.c (.s [35,49,55,48,32,50,32,34,102,34,32,97,116,32,48,32,99,97,108,108])))])),gT 415 (oQ 417 100 [416]),oA 418 415 417,oM 419 418,gT 419 (oO 420 (.bslice [zs] 1 [(0,(.c (.s [35,48,48,32,50,32,34,102,34,32,97,116,32,48,32,99,97,108,108])))])),gT 419 (oQ 421 100 [420]),oA 422 419 421,oM 423 422,gT 423 (oO 424 (.bslice [zs] 1 [(0,(.c (.s [35,48,32,50,32,34,103,34,32,97,116,32,48,32,99,97,108,108])))])),gT 423 (oQ 425 100 [424]),oA 426 423 425,oM 427 426,gT 427 (oO 428 (.bslice [zs] 1 [(0,(.c (.s [35,48,32,50,32,34,102,34,32,97,116,32,57,32,99,97,108,108])))])),gT 427 (oQ 429 100 [428]),oA 430 427 429,oM 431 430,gT 431 (oO 432 (.bslice [zs] 1 [(0,(.c (.s [35,48,32,50,32,34,102,34,32,97,116,32,48,32,99,97,108,108,32])))])),gT 431 (oQ 433 100 [432]),oA 434 431 433,oM 435 434,gT 435 (oO 436 (.bslice [zs] 1 [(0,(.c (.s [35,48,32,50,32,34,102,34,32,97,116,32,48,32,114,117,110])))])),gT 435 (oQ 437 100 [436]),oA 438 435 437,oM 439 438,gT 439 (oO 440 (.bslice [zs] 1 [(0,(.c (.s [48,32,50,32,34,102,34,32,97,116,32,48,32,99,97,108,108])))])),gT 439 (oQ 441 100 [440]),oA 442 439 441,oM 443 442,gT 443 (oO 444 (.bslice [zs] 2 [(0,(.c (.s [35,48,32,50,32,34,102,34,32,97,116,32,48,32,99,97,108,108]))),(1,(.c (.s [32,32,49,32,34,97,34,32,61,32,51])))])),gT 443 (oQ 445 100 [444]),oA 446 443 445,oM 447 446,gT 447 (oO 448 (.bslice [zs] 2 [(0,(.c (.s [35,48,32,50,32,34,102,34,32,97,116,32,48,32,99,97,108,108]))),(1,(.c (.s [32,32,51,32,34,120,34,32,61,32,51])))])),gT 447 (oQ 449 100 [448]),oA 450 447 449,oM 451 450,gT 451 (oO 452 (.bslice [zs] 2 [(0,(.c (.s [35,48,32,50,32,34,102,34,32,97,116,32,48,32,99,97,108,108]))),(1,(.c (.s [32,49,32,34,120,34,32,61,32,51])))])),gT 451 (oQ 453 100 [452]),oA 454 451 453,oM 455 454,gT 455 (oO 456 (.bslice [zs] 2 [(0,(.c (.s [35,48,32,50,32,34,102,34,32,97,116,32,48,32,99,97,108,108]))),(1,(.c (.s [32,32,49,32,34,120,34,32,61,32])))])),gT 455 (oQ 457 100 [456]),oA 458 455 457,oM 459 458,gT 459 (oO 460 (.bslice [zs] 3 [(0,(.c (.s [35,48,32,50,32,34,102,34,32,97,116,32,48,32,99,97,108,108]))),(1,(.c (.s [32,32,49,32,34,120,34,32,61,32,51]))),(2,(.c (.s [32,32,49,32,34,120,34,32,61,32,51])))])),gT 459 (oQ 461 100 [460]),oA 462 459 461,oM 463 462,gT 463 (oO 464 (.bslice [zs] 3 [(0,(.c (.s [35,48,32,50,32,34,102,34,32,97,116,32,48,32,99,97,108,108]))),(1,(.c (.s [32,32,50,32,34,122,34,32,61,32,51]))),(2,(.c (.s [32,32,49,32,34,120,34,32,61,32,51])))])),gT 463 (oQ 465 100 [464]),oA 466 463 465,oM 32 466]
def r68_26:List AI:=[oC 467 (.b true),gT 467 (oM 468 4),oA 469 467 468,oM 470 469,gT 470 (oM 471 5),oA 472 470 471,oM 473 472,gT 473 (oM 474 6),oA 475 473 474,oM 476 475,gT 476 (oM 477 9),oA 478 476 477,oM 479 478,gT 479 (oM 480 32),oA 481 479 480,oM 482 481,gT 482 (oM 483 16),gT 482 (oV 484 .eql 483 2),oA 485 482 484,oM 486 485,gT 486 (oM 487 18),gT 486 (oV 488 .eql 487 2),oA 489 486 488,oM 490 489,gT 490 (oM 491 20),gT 490 (oV 492 .eql 491 0),oA 493 490 492,oM 494 493,gT 494 (oM 495 19),gT 494 (oO 496 (.bslice [zs] 3 [(0,(.c (.s [35,49,54,57,32,50,32,34,102,34,32,97,116,32,56,32,101,120,105,116]))),(1,(.c (.s [32,32,48,32,34,97,34,32,61,32,116,114,117,101]))),(2,(.c (.s [32,32,50,32,34,122,34,32,61,32,49])))])),gT 494 (oQ 497 29 [495,496]),oA 498 494 497,oM 499 498,gT 499 (oM 500 22),gT 499 (oV 501 .eql 500 4),oA 502 499 501,oM 503 502,gT 503 (oM 504 25),gT 503 (oV 505 .eql 504 4),oA 506 503 505,oM 507 506,gT 507 (oM 508 28),gT 507 (oV 509 .eql 508 4),oA 510 507 509,oM 511 510,gT 511 (oM 512 31),gT 511 (oV 513 .eql 512 12),oA 514 511 513,oM 515 514,gT 515 (oQ 516 101 []),oA 517 515 516,oM 0 517]
abbrev l68_0:AC:=(.seq (sR 3 r68_3 (.cond (.t 35) .skip (.exit 0))) (.seq (.block 1 (.reg 5 r68_4)) (.reg 4 r68_5)))
abbrev l68_1:AC:=(.seq (sR 14 r68_14 (.cond (.t 287) .skip (.exit 2))) (.seq (.block 3 (.seq (.hand hw68) (sR 38 r68_15 (.reg 39 r68_16)))) (.reg 15 r68_17)))
abbrev c68_2:AC:=(sR 48 r68_26 .ret)
abbrev c68_3:AC:=(sR 47 r68_25 c68_2)
abbrev c68_4:AC:=(.seq (sR 46 r68_24 (.frz 30)) c68_3)
abbrev c68_5:AC:=(.seq (sR 45 r68_23 (.frz 27)) c68_4)
abbrev c68_6:AC:=(.seq (sR 44 r68_22 (.frz 24)) c68_5)
abbrev c68_7:AC:=(.seq (sR 43 r68_21 (.frz 21)) c68_6)
abbrev c68_8:AC:=(sR 42 r68_20 c68_7)
abbrev c68_9:AC:=(sR 41 r68_19 c68_8)
abbrev c68_10:AC:=(sR 40 r68_18 c68_9)
abbrev c68_11:AC:=(.seq (sR 13 r68_13 (.block 2 (.loop l68_1))) c68_10)
abbrev c68_12:AC:=(sR 12 r68_12 c68_11)
abbrev c68_13:AC:=(.seq (sR 11 r68_11 (.frz 8)) c68_12)
abbrev c68_14:AC:=(.seq (sR 10 r68_10 (.frz 7)) c68_13)
abbrev c68_15:AC:=(sR 9 r68_9 c68_14)
abbrev c68_16:AC:=(sR 8 r68_8 c68_15)
abbrev c68_17:AC:=(sR 7 r68_7 c68_16)
abbrev c68_18:AC:=(sR 6 r68_6 c68_17)
abbrev c68_19:AC:=(.seq (sR 2 r68_2 (.block 0 (.loop l68_0))) c68_18)
abbrev c68_20:AC:=(sR 1 r68_1 c68_19)
abbrev b68:AC:=(sR 0 r68_0 c68_20)
def pf68:AF:={ nt:=518,res:=[.tmp 0],fz:=[7,8,12,21,24,27,30],body:=b68 }
abbrev I68_0 (prog:Prog)(d:Nat)(Q:AE→Sl→St→Prop)(i2:Int)(m4097:Val):Prop:=
  ∀(σ:Sl)(st:St)(o_m4097_3:Own)(v4097:Nat),σ 1=.p (d,4097) v4097 0→σ 2=.i .i64 i2→ApM d st.ow o_m4097_3 m4097.list.length→lk st.bx (d,4097)=some (v4097,[.i .u8 m4097.kind,.i .i64 m4097.int,.s m4097.text,.sl o_m4097_3 (List.map Val.row m4097.list),.b m4097.cut])→W prog d (.loop l68_0) σ st (blockW 0 (thenW prog d c68_18 Q))
abbrev I68_1 (prog:Prog)(d:Nat)(Q:AE→Sl→St→Prop)(values4:Bool)(bads5:Bool)(nones6:Bool)(f7_0:List Typ)(f7_1:LB)(f7_2:List Fun)(good8_0:Int)(good8_1:Int)(good8_2:Int)(good8_3:List Loc)(fits9:Bool)(i10:Int):Prop:=
  ∀(σ:Sl)(st:St),σ 4=.b values4→σ 5=.b bads5→σ 6=.b nones6→σ 7=.fp [.sl .ext (List.map Typ.row f7_0),.sl .ext (List.map rowS f7_1),.sl .ext (List.map Fun.row f7_2)]→σ 8=.fp [.i .i64 good8_0,.i .i64 good8_1,.i .u64 good8_2,.sl .ext (List.map Loc.row good8_3)]→σ 9=.b fits9→σ 10=.i .i64 i10→W prog d (.loop l68_1) σ st (blockW 2 (thenW prog d c68_10 Q))
def T68_21 (prog:Prog)(K:Bool→Prop)(values4:Bool)(bads5:Bool)(nones6:Bool)(fits9:Bool)(a16:Int)(b18:Int)(last19:LB)(c20:Int)(d22:Int)(e25:Int)(g28:Int)(h31:Int)(forms32:Bool):Prop:=
  (values4=true→(bads5=true→(nones6=true→(fits9=true→(forms32=true→(a16=2→(b18=2→(c20=0→∃c,Pus prog 29 [.sl .ext (List.map rowS last19),.sl .ext (List.map rowS [([35,49,54,57,32,50,32,34,102,34,32,97,116,32,56,32,101,120,105,116]:BS),([32,32,48,32,34,97,34,32,61,32,116,114,117,101]:BS),([32,32,50,32,34,122,34,32,61,32,49]:BS)])] (.b c)∧(c=true→(d22=4→(e25=4→(g28=4→(h31=12→Pus prog 101 [] (.b true)∧K true)∧(¬(h31=12)→K false))∧(¬(g28=4)→K false))∧(¬(e25=4)→K false))∧(¬(d22=4)→K false))∧(c=false→K false))∧(¬(c20=0)→K false))∧(¬(b18=2)→K false))∧(¬(a16=2)→K false))∧(forms32=false→K false))∧(fits9=false→K false))∧(nones6=false→K false))∧(bads5=false→K false))∧(values4=false→K false)
def T68_20 (prog:Prog)(K:Bool→Prop)(values4:Bool)(bads5:Bool)(nones6:Bool)(fits9:Bool)(a16:Int)(b18:Int)(last19:LB)(c20:Int)(d22:Int)(e25:Int)(g28:Int)(h31:Int):Prop:=
  Pus prog 100 [.sl .ext (List.map rowS [([35,48,32,51,32,34,102,34,32,97,116,32,48,32,99,97,108,108]:BS)])] (.b true)∧Pus prog 100 [.sl .ext (List.map rowS [([35,49,55,48,32,50,32,34,102,34,32,97,116,32,48,32,99,97,108,108]:BS)])] (.b true)∧Pus prog 100 [.sl .ext (List.map rowS [([35,48,48,32,50,32,34,102,34,32,97,116,32,48,32,99,97,108,108]:BS)])] (.b true)∧Pus prog 100 [.sl .ext (List.map rowS [([35,48,32,50,32,34,103,34,32,97,116,32,48,32,99,97,108,108]:BS)])] (.b true)∧Pus prog 100 [.sl .ext (List.map rowS [([35,48,32,50,32,34,102,34,32,97,116,32,57,32,99,97,108,108]:BS)])] (.b true)∧Pus prog 100 [.sl .ext (List.map rowS [([35,48,32,50,32,34,102,34,32,97,116,32,48,32,99,97,108,108,32]:BS)])] (.b true)∧Pus prog 100 [.sl .ext (List.map rowS [([35,48,32,50,32,34,102,34,32,97,116,32,48,32,114,117,110]:BS)])] (.b true)∧Pus prog 100 [.sl .ext (List.map rowS [([48,32,50,32,34,102,34,32,97,116,32,48,32,99,97,108,108]:BS)])] (.b true)∧Pus prog 100 [.sl .ext (List.map rowS [([35,48,32,50,32,34,102,34,32,97,116,32,48,32,99,97,108,108]:BS),([32,32,49,32,34,97,34,32,61,32,51]:BS)])] (.b true)∧Pus prog 100 [.sl .ext (List.map rowS [([35,48,32,50,32,34,102,34,32,97,116,32,48,32,99,97,108,108]:BS),([32,32,51,32,34,120,34,32,61,32,51]:BS)])] (.b true)∧Pus prog 100 [.sl .ext (List.map rowS [([35,48,32,50,32,34,102,34,32,97,116,32,48,32,99,97,108,108]:BS),([32,49,32,34,120,34,32,61,32,51]:BS)])] (.b true)∧Pus prog 100 [.sl .ext (List.map rowS [([35,48,32,50,32,34,102,34,32,97,116,32,48,32,99,97,108,108]:BS),([32,32,49,32,34,120,34,32,61,32]:BS)])] (.b true)∧Pus prog 100 [.sl .ext (List.map rowS [([35,48,32,50,32,34,102,34,32,97,116,32,48,32,99,97,108,108]:BS),([32,32,49,32,34,120,34,32,61,32,51]:BS),([32,32,49,32,34,120,34,32,61,32,51]:BS)])] (.b true)∧Pus prog 100 [.sl .ext (List.map rowS [([35,48,32,50,32,34,102,34,32,97,116,32,48,32,99,97,108,108]:BS),([32,32,50,32,34,122,34,32,61,32,51]:BS),([32,32,49,32,34,120,34,32,61,32,51]:BS)])] (.b true)∧T68_21 prog K values4 bads5 nones6 fits9 a16 b18 last19 c20 d22 e25 g28 h31 true
def T68_19 (prog:Prog)(K:Bool→Prop)(values4:Bool)(bads5:Bool)(nones6:Bool)(f7_0:List Typ)(f7_1:LB)(f7_2:List Fun)(fits9:Bool)(a16:Int)(b18:Int)(last19:LB)(c20:Int)(d22:Int)(e25:Int)(g28:Int):Prop:=
  ∃e,∃j:Frm,∃c,Pus prog 84 [(Img.mk f7_0 f7_1 f7_2).av,.sl .ext (List.map rowS ([]:LB))] (.tup [.i .i64 e,j.av,.i .i64 c])∧T68_20 prog K values4 bads5 nones6 fits9 a16 b18 last19 c20 d22 e25 g28 c
def T68_18 (prog:Prog)(K:Bool→Prop)(values4:Bool)(bads5:Bool)(nones6:Bool)(f7_0:List Typ)(f7_1:LB)(f7_2:List Fun)(fits9:Bool)(a16:Int)(b18:Int)(last19:LB)(c20:Int)(d22:Int)(e25:Int):Prop:=
  ∃e,∃j:Frm,∃c,Pus prog 84 [(Img.mk f7_0 f7_1 f7_2).av,.sl .ext (List.map rowS [(rep 1400061 0)])] (.tup [.i .i64 e,j.av,.i .i64 c])∧T68_19 prog K values4 bads5 nones6 f7_0 f7_1 f7_2 fits9 a16 b18 last19 c20 d22 e25 c
def T68_17 (prog:Prog)(K:Bool→Prop)(values4:Bool)(bads5:Bool)(nones6:Bool)(f7_0:List Typ)(f7_1:LB)(f7_2:List Fun)(fits9:Bool)(a16:Int)(b18:Int)(last19:LB)(c20:Int)(d22:Int):Prop:=
  ∃e,∃j:Frm,∃c,Pus prog 84 [(Img.mk f7_0 f7_1 f7_2).av,.sl .ext (List.map rowS (rep 18 []))] (.tup [.i .i64 e,j.av,.i .i64 c])∧T68_18 prog K values4 bads5 nones6 f7_0 f7_1 f7_2 fits9 a16 b18 last19 c20 d22 c
def T68_16 (prog:Prog)(K:Bool→Prop)(values4:Bool)(bads5:Bool)(nones6:Bool)(f7_0:List Typ)(f7_1:LB)(f7_2:List Fun)(fits9:Bool)(a16:Int)(b18:Int)(last19:LB)(c20:Int):Prop:=
  ∃e:Val,∃c,Pus prog 74 [.s (rep 1400001 0)] (.tup [e.av,.i .i64 c])∧T68_17 prog K values4 bads5 nones6 f7_0 f7_1 f7_2 fits9 a16 b18 last19 c20 c
def T68_15 (prog:Prog)(K:Bool→Prop)(values4:Bool)(bads5:Bool)(nones6:Bool)(f7_0:List Typ)(f7_1:LB)(f7_2:List Fun)(good8_0:Int)(good8_1:Int)(good8_2:Int)(good8_3:List Loc)(fits9:Bool)(a16:Int)(b18:Int):Prop:=
  ∃c e,Pus prog 82 [(Img.mk f7_0 f7_1 f7_2).av,.i .i64 169,.ag [.i .i64 good8_0,.i .i64 good8_1,.i .u64 good8_2,.sl .ext (List.map Loc.row good8_3)]] (.tup [.sl .ext (List.map rowS c),.i .i64 e])∧T68_16 prog K values4 bads5 nones6 f7_0 f7_1 f7_2 fits9 a16 b18 c e
def T68_14 (prog:Prog)(K:Bool→Prop)(values4:Bool)(bads5:Bool)(nones6:Bool)(f7_0:List Typ)(f7_1:LB)(f7_2:List Fun)(good8_0:Int)(good8_1:Int)(good8_2:Int)(good8_3:List Loc)(fits9:Bool)(a16:Int):Prop:=
  ∃e c,Pus prog 82 [(Img.mk f7_0 f7_1 f7_2).av,.i .i64 (-1),.ag [.i .i64 good8_0,.i .i64 good8_1,.i .u64 good8_2,.sl .ext (List.map Loc.row good8_3)]] (.tup [.sl .ext (List.map rowS e),.i .i64 c])∧T68_15 prog K values4 bads5 nones6 f7_0 f7_1 f7_2 good8_0 good8_1 good8_2 good8_3 fits9 a16 c
def T68_13 (prog:Prog)(K:Bool→Prop)(values4:Bool)(bads5:Bool)(nones6:Bool)(f7_0:List Typ)(f7_1:LB)(f7_2:List Fun)(good8_0:Int)(good8_1:Int)(good8_2:Int)(good8_3:List Loc)(fits9:Bool):Prop:=
  ∃e c,Pus prog 82 [(Img.mk f7_0 f7_1 f7_2).av,.i .i64 170,.ag [.i .i64 9,.i .i64 0,.i .u64 0,.sl .ext (List.map Loc.row ([]:List Loc))]] (.tup [.sl .ext (List.map rowS e),.i .i64 c])∧T68_14 prog K values4 bads5 nones6 f7_0 f7_1 f7_2 good8_0 good8_1 good8_2 good8_3 fits9 c
def T68_12 (prog:Prog)(K:Bool→Prop)(P1:Bool→Int→Prop)(values4:Bool)(bads5:Bool)(nones6:Bool)(f7_0:List Typ)(f7_1:LB)(f7_2:List Fun)(good8_0:Int)(good8_1:Int)(good8_2:Int)(good8_3:List Loc)(fits9:Bool)(i10:Int):Prop:=
  (i10<9→good8_3.length=2∧∃j e,Pus prog 82 [(m68 i10).av,.i .i64 0,(x68 i10 (Frm.mk good8_0 good8_1 good8_2 good8_3)).av] (.tup [.sl .ext (List.map rowS j),.i .i64 e])∧(fits9=true→∃c,Pus prog 86 [(m68 i10).av,(x68 i10 (Frm.mk good8_0 good8_1 good8_2 good8_3)).av] (.i .i64 c)∧(c=8→P1 (decide (e=8)) (IntKind.i64.wrap (i10+1)))∧(¬(c=8)→P1 false (IntKind.i64.wrap (i10+1))))∧(fits9=false→P1 false (IntKind.i64.wrap (i10+1))))∧(¬(i10<9)→T68_13 prog K values4 bads5 nones6 f7_0 f7_1 f7_2 good8_0 good8_1 good8_2 good8_3 fits9)
def T68_11 (prog:Prog)(K:Bool→Prop)(values4:Bool)(bads5:Bool)(nones6:Bool)(f7_0:List Typ)(f7_1:LB)(f7_2:List Fun)(good8_0:Int)(good8_1:Int)(good8_2:Int)(good8_3:List Loc)(fits9:Bool):Prop:=
  ∀P1:Bool→Int→Prop,(∀(fits9:Bool)(i10:Int),T68_12 prog K P1 values4 bads5 nones6 f7_0 f7_1 f7_2 good8_0 good8_1 good8_2 good8_3 fits9 i10→P1 fits9 i10)→P1 fits9 0
def T68_10 (prog:Prog)(K:Bool→Prop)(values4:Bool)(bads5:Bool)(nones6:Bool)(f7_0:List Typ)(f7_1:LB)(f7_2:List Fun)(good8_0:Int)(good8_1:Int)(good8_2:Int)(good8_3:List Loc):Prop:=
  ∃c,Pus prog 86 [(Img.mk f7_0 f7_1 f7_2).av,.ag [.i .i64 good8_0,.i .i64 good8_1,.i .u64 good8_2,.sl .ext (List.map Loc.row good8_3)]] (.i .i64 c)∧T68_11 prog K values4 bads5 nones6 f7_0 f7_1 f7_2 good8_0 good8_1 good8_2 good8_3 (decide (c=0))
def T68_9 (prog:Prog)(K:Bool→Prop)(values4:Bool)(bads5:Bool)(nones6:Bool)(f7_0:List Typ)(f7_1:LB)(f7_2:List Fun):Prop:=
  ∃c:Val,Pus prog 90 [] (c.av)∧∃e:Val,Pus prog 92 [.i .i64 1] (e.av)∧T68_10 prog K values4 bads5 nones6 f7_0 f7_1 f7_2 2 8 3 [(Loc.mk 0 c),(Loc.mk 2 e)]
def T68_8 (prog:Prog)(K:Bool→Prop)(values4:Bool)(bads5:Bool)(nones6:Bool):Prop:=
  ∃c:Img,Pus prog 99 [] (c.av)∧T68_9 prog K values4 bads5 nones6 c.types c.texts c.funcs
def T68_7 (prog:Prog)(K:Bool→Prop)(values4:Bool)(bads5:Bool):Prop:=
  Pus prog 98 [.s ([]:BS)] (.b true)∧Pus prog 98 [.s ([84,114,117,101]:BS)] (.b true)∧Pus prog 98 [.s ([116,114,117,101,32]:BS)] (.b true)∧Pus prog 98 [.s ([45,48]:BS)] (.b true)∧Pus prog 98 [.s ([48,49]:BS)] (.b true)∧Pus prog 98 [.s ([43,49]:BS)] (.b true)∧Pus prog 98 [.s ([57,50,50,51,51,55,50,48,51,54,56,53,52,55,55,53,56,48,56]:BS)] (.b true)∧Pus prog 98 [.s ([34,97]:BS)] (.b true)∧Pus prog 98 [.s ([34,92,113,34]:BS)] (.b true)∧Pus prog 98 [.s ([38]:BS)] (.b true)∧Pus prog 98 [.s ([38,32,49]:BS)] (.b true)∧Pus prog 98 [.s ([110,105,108,49]:BS)] (.b true)∧Pus prog 98 [.s ([38,46,46,46,46]:BS)] (.b true)∧Pus prog 98 [.s ([60,46,46,46]:BS)] (.b true)∧Pus prog 98 [.s ([123]:BS)] (.b true)∧Pus prog 98 [.s ([123,116,114,117,101]:BS)] (.b true)∧Pus prog 98 [.s ([123,116,114,117,101,125,125]:BS)] (.b true)∧Pus prog 98 [.s ([123,116,114,117,101,44,32,125]:BS)] (.b true)∧Pus prog 98 [.s ([91,49,44,50,93]:BS)] (.b true)∧Pus prog 98 [.s ([91,49,44,32,32,50,93]:BS)] (.b true)∧Pus prog 98 [.s ([91,46,46,46,93]:BS)] (.b true)∧Pus prog 98 [.s ([123,46,46,46,125]:BS)] (.b true)∧Pus prog 98 [.s ([60,49,44,32,50,93]:BS)] (.b true)∧Pus prog 98 [.s ([34,92,120,52,49,34]:BS)] (.b true)∧T68_8 prog K values4 bads5 true
def T68_6 (prog:Prog)(K:Bool→Prop)(long3:BS)(values4:Bool)(m4097:Val):Prop:=
  Pus prog 97 [.ag [.i .u8 0,.i .i64 0,.s [],.sl .ext (List.map Val.row ([]:List Val)),.b false]] (.b true)∧Pus prog 97 [.ag [.i .u8 8,.i .i64 0,.s [],.sl .ext (List.map Val.row ([]:List Val)),.b false]] (.b true)∧Pus prog 97 [.ag [.i .u8 1,.i .i64 2,.s [],.sl .ext (List.map Val.row ([]:List Val)),.b false]] (.b true)∧Pus prog 97 [.ag [.i .u8 2,.i .i64 0,.s ([97]:BS),.sl .ext (List.map Val.row ([]:List Val)),.b false]] (.b true)∧Pus prog 97 [.ag [.i .u8 3,.i .i64 1,.s [],.sl .ext (List.map Val.row ([]:List Val)),.b false]] (.b true)∧∃c:Val,Pus prog 93 [.s long3] (c.av)∧Pus prog 97 [c.av] (.b true)∧Pus prog 97 [.ag [.i .u8 2,.i .i64 0,.s [],.sl .ext (List.map Val.row ([]:List Val)),.b true]] (.b true)∧∃e:Val,Pus prog 90 [] (e.av)∧∃k:Val,(PuN prog 89 [.i .u8 2,.sl .full (List.map Val.row [e])] (fun r=>r=k.avo .full))∧Pus prog 97 [k.av] (.b true)∧∃q:Val,Pus prog 90 [] (q.av)∧∃p:Val,Pus prog 90 [] (p.av)∧∃z:Val,(PuN prog 89 [.i .u8 4,.sl .full (List.map Val.row [q,p])] (fun r=>r=z.avo .full))∧Pus prog 97 [z.av] (.b true)∧∃w:Val,Pus prog 90 [] (w.av)∧Pus prog 97 [.ag [.i .u8 4,.i .i64 0,.s [],.sl .ext (List.map Val.row [w]),.b true]] (.b true)∧Pus prog 97 [.ag [.i .u8 5,.i .i64 0,.s [],.sl .ext (List.map Val.row ([]:List Val)),.b true]] (.b true)∧Pus prog 97 [.ag [.i .u8 6,.i .i64 0,.s [],.sl .ext (List.map Val.row ([]:List Val)),.b true]] (.b true)∧∃x:Val,(PuN prog 89 [.i .u8 6,.sl .full (List.map Val.row ([]:List Val))] (fun r=>r=x.avo .full))∧Pus prog 97 [x.av] (.b true)∧Pus prog 97 [m4097.av] (.b true)∧∃u:Val,Pus prog 95 [.i .i64 1,.i .i64 17] (u.av)∧Pus prog 97 [u.av] (.b true)∧∃a1:Val,Pus prog 95 [.i .i64 17,.i .i64 1] (a1.av)∧Pus prog 97 [a1.av] (.b true)∧∃v:Val,Pus prog 94 [.i .i64 130] (v.av)∧Pus prog 97 [v.av] (.b true)∧∃o:Val,Pus prog 96 [.i .i64 16] (o.av)∧∃y:Val,Pus prog 96 [.i .i64 3] (y.av)∧∃a0:Val,(PuN prog 89 [.i .u8 5,.sl .full (List.map Val.row [o,y])] (fun r=>r=a0.avo .full))∧Pus prog 97 [a0.av] (.b true)∧∃j:Val,(PuN prog 89 [.i .u8 7,.sl .full (List.map Val.row [(Val.mk 0 0 [] ([]:List Val) false)])] (fun r=>r=j.avo .full))∧Pus prog 97 [j.av] (.b true)∧Pus prog 97 [.ag [.i .u8 4,.i .i64 1,.s [],.sl .ext (List.map Val.row ([]:List Val)),.b false]] (.b true)∧T68_7 prog K values4 true
def T68_5 (prog:Prog)(K:Bool→Prop)(long3:BS)(m4097:Val):Prop:=
  Pus prog 91 [.ag [.i .u8 1,.i .i64 0,.s [],.sl .ext (List.map Val.row ([]:List Val)),.b false],.s ([102,97,108,115,101]:BS)] (.b true)∧∃e:Val,Pus prog 92 [.i .i64 (-9223372036854775808)] (e.av)∧Pus prog 91 [e.av,.s ([45,57,50,50,51,51,55,50,48,51,54,56,53,52,55,55,53,56,48,56]:BS)] (.b true)∧∃c:Val,(PuN prog 89 [.i .u8 4,.sl .full (List.map Val.row ([]:List Val))] (fun r=>r=c.avo .full))∧Pus prog 91 [c.av,.s ([110,105,108]:BS)] (.b true)∧∃a2:Val,(PuN prog 89 [.i .u8 4,.sl .full (List.map Val.row ([]:List Val))] (fun r=>r=a2.avo .full))∧∃v:Val,(PuN prog 89 [.i .u8 4,.sl .full (List.map Val.row [a2])] (fun r=>r=v.avo .full))∧Pus prog 91 [v.av,.s ([38,110,105,108]:BS)] (.b true)∧Pus prog 91 [.ag [.i .u8 7,.i .i64 0,.s [],.sl .ext (List.map Val.row ([]:List Val)),.b true],.s ([60,46,46,46,62]:BS)] (.b true)∧∃a1:Val,(PuN prog 89 [.i .u8 5,.sl .full (List.map Val.row ([]:List Val))] (fun r=>r=a1.avo .full))∧Pus prog 91 [a1.av,.s ([123,125]:BS)] (.b true)∧∃a0:Val,Pus prog 93 [.s ([34,10,92]:BS)] (a0.av)∧Pus prog 91 [a0.av,.s ([34,92,34,92,110,92,92,34]:BS)] (.b true)∧∃z:Val,Pus prog 93 [.s ([44,32,93]:BS)] (z.av)∧∃x:Val,(PuN prog 89 [.i .u8 6,.sl .full (List.map Val.row [z])] (fun r=>r=x.avo .full))∧Pus prog 91 [x.av,.s ([91,34,44,32,93,34,93]:BS)] (.b true)∧∃y:Val,Pus prog 94 [.i .i64 11] (y.av)∧Pus prog 91 [y.av,.s ([38,38,38,38,38,38,38,38,38,38,38,55]:BS)] (.b true)∧∃q:Val,Pus prog 94 [.i .i64 129] (q.av)∧∃o,Pus prog 76 [q.av] (.i .i64 o)∧(o=0→∃w:Val,Pus prog 95 [.i .i64 16,.i .i64 16] (w.av)∧∃j,Pus prog 76 [w.av] (.i .i64 j)∧(j=0→∃a3:Val,Pus prog 96 [.i .i64 16] (a3.av)∧∃k,Pus prog 76 [a3.av] (.i .i64 k)∧(k=0→64≤long3.length∧∃a4:Val,Pus prog 93 [.s (long3.take 64)] (a4.av)∧∃p,Pus prog 76 [a4.av] (.i .i64 p)∧(p=0→8≤m4097.list.length∧∃u,Pus prog 76 [.ag [.i .u8 5,.i .i64 0,.s [],.sl .ext (List.map Val.row (m4097.list.take 8)),.b false]] (.i .i64 u)∧T68_6 prog K long3 (decide (u=0)) m4097)∧(¬(p=0)→T68_6 prog K long3 false m4097))∧(¬(k=0)→T68_6 prog K long3 false m4097))∧(¬(j=0)→T68_6 prog K long3 false m4097))∧(¬(o=0)→T68_6 prog K long3 false m4097)
def T68_4 (prog:Prog)(K:Bool→Prop)(m4097:Val):Prop:=
  T68_5 prog K (rep 65 0) m4097
def T68_3 (prog:Prog)(K:Bool→Prop)(P0:Int→Val→Prop)(i2:Int)(m4097:Val):Prop:=
  (i2<9→∃c:Val,Pus prog 90 [] (c.av)∧Fit (m4097.list.length+[c].length) 64∧P0 (IntKind.i64.wrap (i2+1)) (Val.mk m4097.kind m4097.int m4097.text (m4097.list++[c]) m4097.cut))∧(¬(i2<9)→T68_4 prog K m4097)
def T68_2 (prog:Prog)(K:Bool→Prop)(m4097:Val):Prop:=
  ∀P0:Int→Val→Prop,(∀(i2:Int)(m4097:Val),T68_3 prog K P0 i2 m4097→P0 i2 m4097)→P0 0 m4097
def T68_1 (prog:Prog)(K:Bool→Prop) :Prop:=
  ∃c:Val,(PuN prog 89 [.i .u8 5,.sl .full (List.map Val.row ([]:List Val))] (fun r=>r=c.avo .full))∧T68_2 prog K c
def T68_0 (prog:Prog)(K:Bool→Prop) :Prop:=
  T68_1 prog K 
section
variable {prog:Prog}{d:Nat}{Q:AE→Sl→St→Prop}{K:Bool→Prop}(hQ:H1 AV.b 0 Q K){σ:Sl}{st:St}
include hQ
variable {values4 bads5 nones6 fits9:Bool}{a16 b18:Int}{last19:LB}{c20 d22 e25 g28 h31:Int}{forms32:Bool}{o_last19:Own}{f7_0:List Typ}{f7_1:LB}{f7_2:List Fun}{good8_0 good8_1 good8_2:Int}{good8_3:List Loc}{i10:Int}{P1:Bool→Int→Prop}{long3:BS}{m4097:Val}{o_m4097_3:Own}{v4097:Nat}{i2:Int}{P0:Int→Val→Prop}
variable (kP1 :∀(fits9:Bool)(i10:Int),P1 fits9 i10→I68_1 prog d Q values4 bads5 nones6 f7_0 f7_1 f7_2 good8_0 good8_1 good8_2 good8_3 fits9 i10) (kP0 :∀(i2:Int)(m4097:Val),P0 i2 m4097→I68_0 prog d Q i2 m4097)(H1:σ 1=.p (d,4097) v4097 0)(H3:σ 3=.s long3)(H2:σ 2=.i .i64 i2)(H4:σ 4=.b values4)(H5:σ 5=.b bads5)(Ab4097:ApM d st.ow o_m4097_3 m4097.list.length)(H6:σ 6=.b nones6)(B4097:lk st.bx (d,4097)=some (v4097,[.i .u8 m4097.kind,.i .i64 m4097.int,.s m4097.text,.sl o_m4097_3 (List.map Val.row m4097.list),.b m4097.cut]))(H7:σ 7=.fp [.sl .ext (List.map Typ.row f7_0),.sl .ext (List.map rowS f7_1),.sl .ext (List.map Fun.row f7_2)])(H8:σ 8=.fp [.i .i64 good8_0,.i .i64 good8_1,.i .u64 good8_2,.sl .ext (List.map Loc.row good8_3)])(H9:σ 9=.b fits9)(H16:σ 16=.i .i64 a16)(H10:σ 10=.i .i64 i10)(H18:σ 18=.i .i64 b18)(H19:σ 19=.sl o_last19 (List.map rowS last19))(H20:σ 20=.i .i64 c20)(H22:σ 22=.i .i64 d22)(H25:σ 25=.i .i64 e25)(H28:σ 28=.i .i64 g28)(H31:σ 31=.i .i64 h31)(H32:σ 32=.b forms32)
include H4 H5 H6 H9 H16 H18 H19 H20 H22 H25 H28 H31 H32 in
theorem w68_21 (h:T68_21 prog K values4 bads5 nones6 fits9 a16 b18 last19 c20 d22 e25 g28 h31 forms32):W prog d c68_2 σ st Q:=
 q_ J (s_mvB J (gy_ J (s_mvB H4 (z_ 2 J (eb_ (g:=470) J (fun c=>gy_ J (s_mvB H5 (z_ 2 J (eb_ (g:=473) J (fun e=>gy_ J (s_mvB H6 (z_ 2 J (eb_ (g:=476) J (fun k=>gy_ J (s_mvB H9 (z_ 2 J (eb_ (g:=479) J (fun p=>gy_ J (s_mvB H32 (z_ 2 J (eb_ (g:=482) J (fun r=>gy_ J (s_mvI H16 (gy_ J (b_ J J eql_ (z_ 2 J (em_ (g:=486) J (fun u=>gy_ J (s_mvI H18 (gy_ J (b_ J J eql_ (z_ 2 J (em_ (g:=490) J (fun w=>gy_ J (s_mvI H20 (gy_ J (b_ J J eql_ (z_ 2 J (em_ (g:=494) J (fun x=>gy_ J (s_mvL H19 (gy_ J (s_bslM (f:=rowS) (l:=[([35,49,54,57,32,50,32,34,102,34,32,97,116,32,56,32,101,120,105,116]:BS),([32,32,48,32,34,97,34,32,61,32,116,114,117,101]:BS),([32,32,50,32,34,122,34,32,61,32,49]:BS)]) J J (g_cons J J J (g_cons J J J (g_cons J J J g_nil))) J (gy_ J (((((((((h.1 c).1 e).1 k).1 p).1 r).1 u).1 w).1 x).elim fun _ i=>ca_ (sc2 J J J) i.1 (z_ 2 J (eb_ (g:=499) J (fun j=>gy_ J (s_mvI H22 (gy_ J (b_ J J eql_ (z_ 2 J (em_ (g:=503) J (fun o=>gy_ J (s_mvI H25 (gy_ J (b_ J J eql_ (z_ 2 J (em_ (g:=507) J (fun q=>gy_ J (s_mvI H28 (gy_ J (b_ J J eql_ (z_ 2 J (em_ (g:=511) J (fun s=>gy_ J (s_mvI H31 (gy_ J (b_ J J eql_ (z_ 2 J (em_ (g:=515) J (fun v=>gy_ J (ca_ sn (((((i.2.1 j).1 o).1 q).1 s).1 v).1 (z_ 2 J (er_ (hQ J (((((i.2.1 j).1 o).1 q).1 s).1 v).2))))) (fun v=>z_ 3 J (er_ (hQ J (((((i.2.1 j).1 o).1 q).1 s).2 v)))))))))) (fun s=>z_ 7 J (er_ (hQ J ((((i.2.1 j).1 o).1 q).2 s)))))))))) (fun q=>z_ 11 J (er_ (hQ J (((i.2.1 j).1 o).2 q)))))))))) (fun o=>z_ 15 J (er_ (hQ J ((i.2.1 j).2 o)))))))))) (fun j=>z_ 19 J (er_ (hQ J (i.2.2 j)))))))))))) (fun x=>z_ 24 J (er_ (hQ J ((((((((h.1 c).1 e).1 k).1 p).1 r).1 u).1 w).2 x)))))))))) (fun w=>z_ 28 J (er_ (hQ J (((((((h.1 c).1 e).1 k).1 p).1 r).1 u).2 w)))))))))) (fun u=>z_ 32 J (er_ (hQ J ((((((h.1 c).1 e).1 k).1 p).1 r).2 u)))))))))) (fun r=>z_ 36 J (er_ (hQ J (((((h.1 c).1 e).1 k).1 p).2 r)))))))) (fun p=>z_ 39 J (er_ (hQ J ((((h.1 c).1 e).1 k).2 p)))))))) (fun k=>z_ 42 J (er_ (hQ J (((h.1 c).1 e).2 k)))))))) (fun e=>z_ 45 J (er_ (hQ J ((h.1 c).2 e)))))))) (fun c=>z_ 48 J (er_ (hQ J (h.2 c)))))))))
include H4 H5 H6 H9 H16 H18 H19 H20 H22 H25 H28 H31 in
theorem w68_20 (h:T68_20 prog K values4 bads5 nones6 fits9 a16 b18 last19 c20 d22 e25 g28 h31):W prog d c68_3 σ st Q:=
 q_ J (s_bslM (f:=rowS) (l:=[([35,48,32,51,32,34,102,34,32,97,116,32,48,32,99,97,108,108]:BS)]) J J (g_cons J J J g_nil) J (ca_ (sc1 J J) h.1 (s_mvB J (gy_ J (s_bslM (f:=rowS) (l:=[([35,49,55,48,32,50,32,34,102,34,32,97,116,32,48,32,99,97,108,108]:BS)]) J J (g_cons J J J g_nil) J (gy_ J (ca_ (sc1 J J) h.2.1 (z_ 2 J (gy_ J (s_bslM (f:=rowS) (l:=[([35,48,48,32,50,32,34,102,34,32,97,116,32,48,32,99,97,108,108]:BS)]) J J (g_cons J J J g_nil) J (gy_ J (ca_ (sc1 J J) h.2.2.1 (z_ 2 J (gy_ J (s_bslM (f:=rowS) (l:=[([35,48,32,50,32,34,103,34,32,97,116,32,48,32,99,97,108,108]:BS)]) J J (g_cons J J J g_nil) J (gy_ J (ca_ (sc1 J J) h.2.2.2.1 (z_ 2 J (gy_ J (s_bslM (f:=rowS) (l:=[([35,48,32,50,32,34,102,34,32,97,116,32,57,32,99,97,108,108]:BS)]) J J (g_cons J J J g_nil) J (gy_ J (ca_ (sc1 J J) h.2.2.2.2.1 (z_ 2 J (gy_ J (s_bslM (f:=rowS) (l:=[([35,48,32,50,32,34,102,34,32,97,116,32,48,32,99,97,108,108,32]:BS)]) J J (g_cons J J J g_nil) J (gy_ J (ca_ (sc1 J J) h.2.2.2.2.2.1 (z_ 2 J (gy_ J (s_bslM (f:=rowS) (l:=[([35,48,32,50,32,34,102,34,32,97,116,32,48,32,114,117,110]:BS)]) J J (g_cons J J J g_nil) J (gy_ J (ca_ (sc1 J J) h.2.2.2.2.2.2.1 (z_ 2 J (gy_ J (s_bslM (f:=rowS) (l:=[([48,32,50,32,34,102,34,32,97,116,32,48,32,99,97,108,108]:BS)]) J J (g_cons J J J g_nil) J (gy_ J (ca_ (sc1 J J) h.2.2.2.2.2.2.2.1 (z_ 2 J (gy_ J (s_bslM (f:=rowS) (l:=[([35,48,32,50,32,34,102,34,32,97,116,32,48,32,99,97,108,108]:BS),([32,32,49,32,34,97,34,32,61,32,51]:BS)]) J J (g_cons J J J (g_cons J J J g_nil)) J (gy_ J (ca_ (sc1 J J) h.2.2.2.2.2.2.2.2.1 (z_ 2 J (gy_ J (s_bslM (f:=rowS) (l:=[([35,48,32,50,32,34,102,34,32,97,116,32,48,32,99,97,108,108]:BS),([32,32,51,32,34,120,34,32,61,32,51]:BS)]) J J (g_cons J J J (g_cons J J J g_nil)) J (gy_ J (ca_ (sc1 J J) h.2.2.2.2.2.2.2.2.2.1 (z_ 2 J (gy_ J (s_bslM (f:=rowS) (l:=[([35,48,32,50,32,34,102,34,32,97,116,32,48,32,99,97,108,108]:BS),([32,49,32,34,120,34,32,61,32,51]:BS)]) J J (g_cons J J J (g_cons J J J g_nil)) J (gy_ J (ca_ (sc1 J J) h.2.2.2.2.2.2.2.2.2.2.1 (z_ 2 J (gy_ J (s_bslM (f:=rowS) (l:=[([35,48,32,50,32,34,102,34,32,97,116,32,48,32,99,97,108,108]:BS),([32,32,49,32,34,120,34,32,61,32]:BS)]) J J (g_cons J J J (g_cons J J J g_nil)) J (gy_ J (ca_ (sc1 J J) h.2.2.2.2.2.2.2.2.2.2.2.1 (z_ 2 J (gy_ J (s_bslM (f:=rowS) (l:=[([35,48,32,50,32,34,102,34,32,97,116,32,48,32,99,97,108,108]:BS),([32,32,49,32,34,120,34,32,61,32,51]:BS),([32,32,49,32,34,120,34,32,61,32,51]:BS)]) J J (g_cons J J J (g_cons J J J (g_cons J J J g_nil))) J (gy_ J (ca_ (sc1 J J) h.2.2.2.2.2.2.2.2.2.2.2.2.1 (z_ 2 J (gy_ J (s_bslM (f:=rowS) (l:=[([35,48,32,50,32,34,102,34,32,97,116,32,48,32,99,97,108,108]:BS),([32,32,50,32,34,122,34,32,61,32,51]:BS),([32,32,49,32,34,120,34,32,61,32,51]:BS)]) J J (g_cons J J J (g_cons J J J (g_cons J J J g_nil))) J (gy_ J (ca_ (sc1 J J) h.2.2.2.2.2.2.2.2.2.2.2.2.2.1 (z_ 2 J (e_ (w68_21 hQ H4 H5 H6 H9 H16 H18 H19 H20 H22 H25 H28 H31 J h.2.2.2.2.2.2.2.2.2.2.2.2.2.2))))))))))))))))))))))))))))))))))))))))))))))))))))))))))))))))))))))
include H4 H5 H6 H7 H9 H16 H18 H19 H20 H22 H25 H28 in
theorem w68_19 (h:T68_19 prog K values4 bads5 nones6 f7_0 f7_1 f7_2 fits9 a16 b18 last19 c20 d22 e25 g28):W prog d c68_4 σ st Q:=
 sq_ (sq_ (W.reg (lf_ H7 J J (x2 h fun _ _ e=>e.elim fun _ c=>ca_ (sc2 J (show _=AV.sl .full (List.map rowS []) from J) J) c.1 (m_ (x_ J J (x_ J J (x_ J J (s_alloc (m_ (so_ J (show lk _ (d,188422)=some (_,([.i .i64 0,.i .i64 0,.i .u64 0,.sl .full (List.map Loc.row ([]:List Loc))]:List AV)) from lk_here) J J J (m_ (e_ (W.frz J lk_here J (w68_20 hQ H4 H5 H6 H9 H16 H18 H19 H20 H22 H25 H28 J c.2)))))))))))))))
include H4 H5 H6 H7 H9 H16 H18 H19 H20 H22 H25 in
theorem w68_18 (h:T68_18 prog K values4 bads5 nones6 f7_0 f7_1 f7_2 fits9 a16 b18 last19 c20 d22 e25):W prog d c68_5 σ st Q:=
 sq_ (sq_ (W.reg (lf_ H7 J J (s_mks (n:=1400061) (m:=1400061) (f:=row8) (a:=0) J J J J J (by decide) J ⟨by decide,by decide⟩ (s_b2s J (s_bslM (f:=rowS) (l:=[(rep 1400061 0)]) J J (g_cons J J J g_nil) J (x2 h fun _ _ e=>e.elim fun _ c=>ca_ (sc2 J J J) c.1 (m_ (x_ J J (x_ J J (x_ J J (s_alloc (m_ (so_ J (show lk _ (d,184329)=some (_,([.i .i64 0,.i .i64 0,.i .u64 0,.sl .full (List.map Loc.row ([]:List Loc))]:List AV)) from lk_here) J J J (m_ (e_ (W.frz J lk_here J (w68_19 hQ H4 H5 H6 H7 H9 H16 H18 H19 H20 H22 H25 J c.2))))))))))))))))))
include H4 H5 H6 H7 H9 H16 H18 H19 H20 H22 in
theorem w68_17 (h:T68_17 prog K values4 bads5 nones6 f7_0 f7_1 f7_2 fits9 a16 b18 last19 c20 d22):W prog d c68_6 σ st Q:=
 sq_ (sq_ (W.reg (lf_ H7 J J (s_mks (n:=18) (m:=18) (f:=rowS) (a:=[]) J J J J J (by decide) J ⟨by decide,by decide⟩ (x2 h fun _ _ e=>e.elim fun _ c=>ca_ (sc2 J J J) c.1 (m_ (x_ J J (x_ J J (x_ J J (s_alloc (m_ (so_ J (show lk _ (d,180231)=some (_,([.i .i64 0,.i .i64 0,.i .u64 0,.sl .full (List.map Loc.row ([]:List Loc))]:List AV)) from lk_here) J J J (m_ (e_ (W.frz J lk_here J (w68_18 hQ H4 H5 H6 H7 H9 H16 H18 H19 H20 H22 J c.2))))))))))))))))
include H4 H5 H6 H7 H9 H16 H18 H19 H20 in
theorem w68_16 (h:T68_16 prog K values4 bads5 nones6 f7_0 f7_1 f7_2 fits9 a16 b18 last19 c20):W prog d c68_7 σ st Q:=
 sq_ (sq_ (W.reg (s_mks (n:=1400001) (m:=1400001) (f:=row8) (a:=0) J J J J J (by decide) J ⟨by decide,by decide⟩ (s_b2s J (x2 h fun _ _ c=>ca_ (sc1 J J) c.1 (m_ (x_ J J (x_ J J (s_alloc (so_ J (show lk _ (d,176134)=some (_,([.i .u8 0,.i .i64 0,.s [],.sl .full (List.map Val.row ([]:List Val)),.b false]:List AV)) from lk_here) J J J (m_ (e_ (W.frz J lk_here J (w68_17 hQ H4 H5 H6 H7 H9 H16 H18 H19 H20 J c.2))))))))))))))
include H4 H5 H6 H7 H8 H9 H16 H18 in
theorem w68_15 (h:T68_15 prog K values4 bads5 nones6 f7_0 f7_1 f7_2 good8_0 good8_1 good8_2 good8_3 fits9 a16 b18):W prog d c68_8 σ st Q:=
 q_ J (lf_ H7 J J (lf_ H8 J J (x2 h fun _ _ c=>ca_ (sc3 J J J J) c.1 (m_ (x_ J J (x_ J J (s_mvL J (m_ (e_ (w68_16 hQ H4 H5 H6 H7 H9 H16 H18 J J c.2))))))))))
include H4 H5 H6 H7 H8 H9 H16 in
theorem w68_14 (h:T68_14 prog K values4 bads5 nones6 f7_0 f7_1 f7_2 good8_0 good8_1 good8_2 good8_3 fits9 a16):W prog d c68_9 σ st Q:=
 q_ J (lf_ H7 J J (lf_ H8 J J (x2 h fun _ _ c=>ca_ (sc3 J J J J) c.1 (m_ (x_ J J (x_ J J (s_mvL J (m_ (e_ (w68_15 hQ H4 H5 H6 H7 H8 H9 H16 J c.2))))))))))
include H4 H5 H6 H7 H8 H9 in
theorem w68_13 (h:T68_13 prog K values4 bads5 nones6 f7_0 f7_1 f7_2 good8_0 good8_1 good8_2 good8_3 fits9):W prog d c68_10 σ st Q:=
 q_ J (lf_ H7 J J (s_build (f_ct J f_nil) (x2 h fun _ _ c=>ca_ (sc3 J J J J) c.1 (m_ (x_ J J (x_ J J (s_mvL J (m_ (e_ (w68_14 hQ H4 H5 H6 H7 H8 H9 J c.2))))))))))
include kP1 H4 H5 H6 H7 H8 H9 H10 in
theorem w68_12 (h:T68_12 prog K P1 values4 bads5 nones6 f7_0 f7_1 f7_2 good8_0 good8_1 good8_2 good8_3 fits9 i10):W prog d l68_1 σ st (thenW prog d (.loop l68_1) (blockW 2 (thenW prog d c68_10 Q))):=
 sq_ (q_ J (m_ (b_ H10 J lss_ (e_ (cs_ J (fun c=>sk_ (sq_ (bk_ (sq_ (W.hand (hw68_eq H10 H8 (h.1 c).1) (q_ J (lf_ J J J (lf_ J J J (x2 (h.1 c).2 fun _ _ e=>ca_ (sc3 J J J J) e.1 (m_ (x_ J J (x_ J J (s_mvL J (m_ (e_ (W.reg0 J fun _ _=>s_mvB H9 (s_mvB J (eb_ (g:=357) J (fun j=>gy_ J (lf_ J J J (gy_ J (lf_ J J J (gy_ J ((e.2.1 j).elim fun _ i=>ca_ (sc2 J J J) i.1 (gy_ J (b_ J J eql_ (z_ 2 J (em_ (g:=363) J (fun k=>gy_ J (s_mvI J (gy_ J (b_ J J eql_ (z_ 2 J (e_ (W.reg0 J fun _ _=>m_ (b_ H10 J add_ (m_ (e_ (kP1 _ _ (i.2.1 k) _ _ H4 H5 H6 H7 H8 J J))))))))))) (fun k=>z_ 4 J (e_ (W.reg0 J fun _ _=>m_ (b_ H10 J add_ (m_ (e_ (kP1 _ _ (i.2.2 k) _ _ H4 H5 H6 H7 H8 J J))))))))))))))))) (fun j=>z_ 10 J (e_ (W.reg0 J fun _ _=>m_ (b_ H10 J add_ (m_ (e_ (kP1 _ _ (e.2.2 j) _ _ H4 H5 H6 H7 H8 J J))))))))))))))))))))))))) (fun c=>ex_ (w68_13 hQ H4 H5 H6 H7 H8 H9 (h.2 c))))))))
include H4 H5 H6 H7 H8 H9 in
theorem w68_11 (h:T68_11 prog K values4 bads5 nones6 f7_0 f7_1 f7_2 good8_0 good8_1 good8_2 good8_3 fits9):W prog d c68_11 σ st Q:=
 sq_ (q_ J (m_ (e_ (bk_ (h (I68_1 prog d Q values4 bads5 nones6 f7_0 f7_1 f7_2 good8_0 good8_1 good8_2 good8_3) (fun _ _ hb _ _ H4 H5 H6 H7 H8 H9 H10=>W.loop (w68_12 hQ (fun _ _ x=>x) H4 H5 H6 H7 H8 H9 H10 hb)) _ _ H4 H5 H6 H7 H8 H9 J)))))
include H4 H5 H6 H7 H8 in
theorem w68_10 (h:T68_10 prog K values4 bads5 nones6 f7_0 f7_1 f7_2 good8_0 good8_1 good8_2 good8_3):W prog d c68_12 σ st Q:=
 q_ J (lf_ H7 J J (lf_ H8 J J (h.elim fun _ c=>ca_ (sc2 J J J) c.1 (b_ J J eql_ (m_ (e_ (w68_11 hQ H4 H5 H6 H7 H8 J c.2)))))))
include H4 H5 H6 H7 in
theorem w68_9 (h:T68_9 prog K values4 bads5 nones6 f7_0 f7_1 f7_2):W prog d c68_13 σ st Q:=
 sq_ (sq_ (W.reg (h.elim fun j c=>ca_ sn c.1 (s_build (f_ct J (f_ag J J f_nil)) (c.2.elim fun k e=>ca_ (sc1 J J) e.1 (s_build (f_ct J (f_ag J J f_nil)) (s_bslM (f:=Loc.row) (l:=[(Loc.mk 0 j),(Loc.mk 2 k)]) J J (g_cons J J J (g_cons J J J g_nil)) (by simp only [List.map_cons,List.map_nil,Loc.row_eq];rfl) (s_build (f_ct J (f_ct J (f_ct J (f_sl J J f_nil)))) (s_alloc (so_ J (show lk _ (d,45062)=some (_,([.i .i64 0,.i .i64 0,.i .u64 0,.sl .full (List.map Loc.row ([]:List Loc))]:List AV)) from lk_here) J J J (e_ (W.frz J lk_here J (w68_10 hQ H4 H5 H6 H7 J e.2)))))))))))))
include H4 H5 H6 in
theorem w68_8 (h:T68_8 prog K values4 bads5 nones6):W prog d c68_14 σ st Q:=
 sq_ (sq_ (W.reg (h.elim fun _ c=>ca_ sn c.1 (s_alloc (so_ J (show lk _ (d,40961)=some (_,([.sl .full (List.map Typ.row ([]:List Typ)),.sl .full (List.map rowS ([]:LB)),.sl .full (List.map Fun.row ([]:List Fun))]:List AV)) from lk_here) J J J (e_ (W.frz J lk_here J (w68_9 hQ H4 H5 H6 J c.2))))))))
include H4 H5 in
theorem w68_7 (h:T68_7 prog K values4 bads5):W prog d c68_15 σ st Q:=
 q_ J (ca_ (sc1 J J) h.1 (s_mvB J (gy_ J (ca_ (sc1 J J) h.2.1 (z_ 2 J (gy_ J (ca_ (sc1 J J) h.2.2.1 (z_ 2 J (gy_ J (ca_ (sc1 J J) h.2.2.2.1 (z_ 2 J (gy_ J (ca_ (sc1 J J) h.2.2.2.2.1 (z_ 2 J (gy_ J (ca_ (sc1 J J) h.2.2.2.2.2.1 (z_ 2 J (gy_ J (ca_ (sc1 J J) h.2.2.2.2.2.2.1 (z_ 2 J (gy_ J (ca_ (sc1 J J) h.2.2.2.2.2.2.2.1 (z_ 2 J (gy_ J (ca_ (sc1 J J) h.2.2.2.2.2.2.2.2.1 (z_ 2 J (gy_ J (ca_ (sc1 J J) h.2.2.2.2.2.2.2.2.2.1 (z_ 2 J (gy_ J (ca_ (sc1 J J) h.2.2.2.2.2.2.2.2.2.2.1 (z_ 2 J (gy_ J (ca_ (sc1 J J) h.2.2.2.2.2.2.2.2.2.2.2.1 (z_ 2 J (gy_ J (ca_ (sc1 J J) h.2.2.2.2.2.2.2.2.2.2.2.2.1 (z_ 2 J (gy_ J (ca_ (sc1 J J) h.2.2.2.2.2.2.2.2.2.2.2.2.2.1 (z_ 2 J (gy_ J (ca_ (sc1 J J) h.2.2.2.2.2.2.2.2.2.2.2.2.2.2.1 (z_ 2 J (gy_ J (ca_ (sc1 J J) h.2.2.2.2.2.2.2.2.2.2.2.2.2.2.2.1 (z_ 2 J (gy_ J (ca_ (sc1 J J) h.2.2.2.2.2.2.2.2.2.2.2.2.2.2.2.2.1 (z_ 2 J (gy_ J (ca_ (sc1 J J) h.2.2.2.2.2.2.2.2.2.2.2.2.2.2.2.2.2.1 (z_ 2 J (gy_ J (ca_ (sc1 J J) h.2.2.2.2.2.2.2.2.2.2.2.2.2.2.2.2.2.2.1 (z_ 2 J (gy_ J (ca_ (sc1 J J) h.2.2.2.2.2.2.2.2.2.2.2.2.2.2.2.2.2.2.2.1 (z_ 2 J (gy_ J (ca_ (sc1 J J) h.2.2.2.2.2.2.2.2.2.2.2.2.2.2.2.2.2.2.2.2.1 (z_ 2 J (gy_ J (ca_ (sc1 J J) h.2.2.2.2.2.2.2.2.2.2.2.2.2.2.2.2.2.2.2.2.2.1 (z_ 2 J (gy_ J (ca_ (sc1 J J) h.2.2.2.2.2.2.2.2.2.2.2.2.2.2.2.2.2.2.2.2.2.2.1 (z_ 2 J (gy_ J (ca_ (sc1 J J) h.2.2.2.2.2.2.2.2.2.2.2.2.2.2.2.2.2.2.2.2.2.2.2.1 (z_ 2 J (e_ (w68_8 hQ H4 H5 J h.2.2.2.2.2.2.2.2.2.2.2.2.2.2.2.2.2.2.2.2.2.2.2.2)))))))))))))))))))))))))))))))))))))))))))))))))))))))))))))))))))))))))
include H1 H3 H4 Ab4097 B4097 in
theorem w68_6 (h:T68_6 prog K long3 values4 m4097):W prog d c68_16 σ st Q:=
 q_ J (s_build f_nil (ca_ (sc1 J J) h.1 (s_mvB J (gy_ J (s_build (f_ct J f_nil) (gy_ J (ca_ (sc1 J J) h.2.1 (z_ 2 J (gy_ J (s_build (f_ct J (f_ct J f_nil)) (gy_ J (ca_ (sc1 J J) h.2.2.1 (z_ 2 J (gy_ J (s_build (f_ct J (f_ct J f_nil)) (gy_ J (ca_ (sc1 J J) h.2.2.2.1 (z_ 2 J (gy_ J (s_build (f_ct J (f_ct J f_nil)) (gy_ J (ca_ (sc1 J J) h.2.2.2.2.1 (z_ 2 J (gy_ J (s_mvS H3 (gy_ J (h.2.2.2.2.2.elim fun _ e=>ca_ (sc1 J J) e.1 (gy_ J (ca_ (sc1 J J) e.2.1 (z_ 2 J (gy_ J (s_build (f_ct J (f_ct J f_nil)) (gy_ J (ca_ (sc1 J J) e.2.2.1 (z_ 2 J (gy_ J (e.2.2.2.elim fun a5 y=>ca_ sn y.1 (gy_ J (s_bslM (f:=Val.row) (l:=[a5]) J J (g_cons J J J g_nil) (by simp only [List.map_cons,List.map_nil,Val.row_eq];rfl) (gy_ J (y.2.elim fun _ s=>s_callN (sec J (sec J sen)) (s.1) (fun _ a1=>gy_ J (ca_ (sc1 J J) s.2.1 (z_ 2 J (gy_ J (s.2.2.elim fun a7 u=>ca_ sn u.1 (gy_ J (u.2.elim fun a2 v=>ca_ sn v.1 (gy_ J (s_bslM (f:=Val.row) (l:=[a7,a2]) J J (g_cons J J J (g_cons J J J g_nil)) (by simp only [List.map_cons,List.map_nil,Val.row_eq];rfl) (gy_ J (v.2.elim fun _ k=>s_callN (sec J (sec J sen)) (k.1) (fun _ z=>gy_ J (ca_ (sc1 J J) k.2.1 (z_ 2 J (gy_ J (k.2.2.elim fun a3 c=>ca_ sn c.1 (gy_ J (s_bslM (f:=Val.row) (l:=[a3]) J J (g_cons J J J g_nil) (by simp only [List.map_cons,List.map_nil,Val.row_eq];rfl) (gy_ J (s_build (f_ct J (f_ct J (f_sl J J f_nil))) (gy_ J (ca_ (sc1 J J) c.2.1 (z_ 2 J (gy_ J (s_build (f_ct J (f_ct J f_nil)) (gy_ J (ca_ (sc1 J J) c.2.2.1 (z_ 2 J (gy_ J (s_build (f_ct J (f_ct J f_nil)) (gy_ J (ca_ (sc1 J J) c.2.2.2.1 (z_ 2 J (gy_ J (c.2.2.2.2.elim fun _ i=>s_callN (sec J (sec (show _=AV.sl .full (List.map Val.row []) from J) sen)) (i.1) (fun _ a0=>gy_ J (ca_ (sc1 J J) i.2.1 (z_ 2 J (gy_ J (l_ H1 ((a0.1 (d,4097) (Nat.lt_succ_self d) key_dn).trans ((z.1 (d,4097) (Nat.lt_succ_self d) key_dn).trans ((a1.1 (d,4097) (Nat.lt_succ_self d) key_dn).trans B4097))) J J (gy_ J (ca_ (sc1 J J) i.2.2.1 (z_ 2 J (gy_ J (i.2.2.2.elim fun _ o=>ca_ (sc2 J J J) o.1 (gy_ J (ca_ (sc1 J J) o.2.1 (z_ 2 J (gy_ J (o.2.2.elim fun _ p=>ca_ (sc2 J J J) p.1 (gy_ J (ca_ (sc1 J J) p.2.1 (z_ 2 J (gy_ J (p.2.2.elim fun _ q=>ca_ (sc1 J J) q.1 (gy_ J (ca_ (sc1 J J) q.2.1 (z_ 2 J (gy_ J (q.2.2.elim fun a4 w=>ca_ (sc1 J J) w.1 (gy_ J (w.2.elim fun a6 x=>ca_ (sc1 J J) x.1 (gy_ J (s_bslM (f:=Val.row) (l:=[a4,a6]) J J (g_cons J J J (g_cons J J J g_nil)) (by simp only [List.map_cons,List.map_nil,Val.row_eq];rfl) (gy_ J (x.2.elim fun _ r=>s_callN (sec J (sec J sen)) (r.1) (fun _ _=>gy_ J (ca_ (sc1 J J) r.2.1 (z_ 2 J (gy_ J (s_build f_nil (gy_ J (s_bslM (f:=Val.row) (l:=[(Val.mk 0 0 [] ([]:List Val) false)]) J J (g_cons J J J g_nil) (by simp only [List.map_cons,List.map_nil,Val.row_eq];rfl) (gy_ J (r.2.2.elim fun _ j=>s_callN (sec J (sec J sen)) (j.1) (fun _ _=>gy_ J (ca_ (sc1 J J) j.2.1 (z_ 2 J (gy_ J (s_build (f_ct J (f_ct J f_nil)) (gy_ J (ca_ (sc1 J J) j.2.2.1 (z_ 2 J (e_ (w68_7 hQ H4 J j.2.2.2))))))))))))))))))))))))))))))))))))))))))))))))))))))))))))))))))))))))))))))))))))))))))))))))))))))))))))))))))))))))))))))
include H1 H3 Ab4097 B4097 in
theorem w68_5 (h:T68_5 prog K long3 m4097):W prog d c68_17 σ st Q:=
 q_ J (s_build (f_ct J f_nil) (ca_ (sc2 J J J) h.1 (s_mvB J (gy_ J (h.2.elim fun _ v=>ca_ (sc1 J J) v.1 (gy_ J (ca_ (sc2 J J J) v.2.1 (z_ 2 J (gy_ J (v.2.2.elim fun _ a1=>s_callN (sec J (sec (show _=AV.sl .full (List.map Val.row []) from J) sen)) (a1.1) (fun _ k=>gy_ J (ca_ (sc2 J J J) a1.2.1 (z_ 2 J (gy_ J (a1.2.2.elim fun b2 b0=>s_callN (sec J (sec (show _=AV.sl .full (List.map Val.row []) from J) sen)) (b0.1) (fun _ c=>gy_ J (s_bslM (f:=Val.row) (l:=[b2]) J J (g_cons J J J g_nil) (by simp only [List.map_cons,List.map_nil,Val.row_eq];rfl) (gy_ J (b0.2.elim fun _ o=>s_callN (sec J (sec J sen)) (o.1) (fun _ e=>gy_ J (ca_ (sc2 J J J) o.2.1 (z_ 2 J (gy_ J (s_build (f_ct J (f_ct J f_nil)) (gy_ J (ca_ (sc2 J J J) o.2.2.1 (z_ 2 J (gy_ J (o.2.2.2.elim fun _ u=>s_callN (sec J (sec (show _=AV.sl .full (List.map Val.row []) from J) sen)) (u.1) (fun _ i=>gy_ J (ca_ (sc2 J J J) u.2.1 (z_ 2 J (gy_ J (u.2.2.elim fun _ w=>ca_ (sc1 J J) w.1 (gy_ J (ca_ (sc2 J J J) w.2.1 (z_ 2 J (gy_ J (w.2.2.elim fun b1 a4=>ca_ (sc1 J J) a4.1 (gy_ J (s_bslM (f:=Val.row) (l:=[b1]) J J (g_cons J J J g_nil) (by simp only [List.map_cons,List.map_nil,Val.row_eq];rfl) (gy_ J (a4.2.elim fun _ x=>s_callN (sec J (sec J sen)) (x.1) (fun _ j=>gy_ J (ca_ (sc2 J J J) x.2.1 (z_ 2 J (gy_ J (x.2.2.elim fun _ y=>ca_ (sc1 J J) y.1 (gy_ J (ca_ (sc2 J J J) y.2.1 (z_ 2 J (gy_ J (y.2.2.elim fun _ a5=>ca_ (sc1 J J) a5.1 (gy_ J (a5.2.elim fun _ z=>ca_ (sc1 J J) z.1 (gy_ J (b_ J J eql_ (z_ 2 J (em_ (g:=89) J (fun a2=>gy_ J ((z.2.1 a2).elim fun _ a6=>ca_ (sc2 J J J) a6.1 (gy_ J (a6.2.elim fun _ a0=>ca_ (sc1 J J) a0.1 (gy_ J (b_ J J eql_ (z_ 2 J (em_ (g:=94) J (fun a3=>gy_ J ((a0.2.1 a3).elim fun _ a7=>ca_ (sc1 J J) a7.1 (gy_ J (a7.2.elim fun _ p=>ca_ (sc1 J J) p.1 (gy_ J (b_ J J eql_ (z_ 2 J (em_ (g:=99) J (fun r=>gy_ J (s_mvS H3 (gy_ J (s_slS_hi J J (by decide) (p.2.1 r).1 (gy_ J ((p.2.1 r).2.elim fun _ a8=>ca_ (sc1 J J) a8.1 (gy_ J (a8.2.elim fun _ q=>ca_ (sc1 J J) q.1 (gy_ J (b_ J J eql_ (z_ 2 J (em_ (g:=106) J (fun s=>gy_ J (f_ H1 (gy_ J (l_ J ((j.1 (d,4097) (Nat.lt_succ_self d) key_dn).trans ((i.1 (d,4097) (Nat.lt_succ_self d) key_dn).trans ((e.1 (d,4097) (Nat.lt_succ_self d) key_dn).trans ((c.1 (d,4097) (Nat.lt_succ_self d) key_dn).trans ((k.1 (d,4097) (Nat.lt_succ_self d) key_dn).trans B4097))))) J J (gy_ J (s_slL_hi Val.row_len J J (by decide) (q.2.1 s).1 (gy_ J (s_build (f_ct J (f_sl J J f_nil)) (gy_ J ((q.2.1 s).2.elim fun _ a9=>ca_ (sc1 J J) a9.1 (gy_ J (b_ J J eql_ (z_ 2 J (e_ (w68_6 hQ H1 H3 J (ApM.call (ApM.call (ApM.call (ApM.call (ApM.call Ab4097 k) c) e) i) j) ((j.1 (d,4097) (Nat.lt_succ_self d) key_dn).trans ((i.1 (d,4097) (Nat.lt_succ_self d) key_dn).trans ((e.1 (d,4097) (Nat.lt_succ_self d) key_dn).trans ((c.1 (d,4097) (Nat.lt_succ_self d) key_dn).trans ((k.1 (d,4097) (Nat.lt_succ_self d) key_dn).trans B4097))))) a9.2))))))))))))))) (fun s=>z_ 8 J (e_ (w68_6 hQ H1 H3 J (ApM.call (ApM.call (ApM.call (ApM.call (ApM.call Ab4097 k) c) e) i) j) ((j.1 (d,4097) (Nat.lt_succ_self d) key_dn).trans ((i.1 (d,4097) (Nat.lt_succ_self d) key_dn).trans ((e.1 (d,4097) (Nat.lt_succ_self d) key_dn).trans ((c.1 (d,4097) (Nat.lt_succ_self d) key_dn).trans ((k.1 (d,4097) (Nat.lt_succ_self d) key_dn).trans B4097))))) (q.2.2 s)))))))))))))))) (fun r=>z_ 15 J (e_ (w68_6 hQ H1 H3 J (ApM.call (ApM.call (ApM.call (ApM.call (ApM.call Ab4097 k) c) e) i) j) ((j.1 (d,4097) (Nat.lt_succ_self d) key_dn).trans ((i.1 (d,4097) (Nat.lt_succ_self d) key_dn).trans ((e.1 (d,4097) (Nat.lt_succ_self d) key_dn).trans ((c.1 (d,4097) (Nat.lt_succ_self d) key_dn).trans ((k.1 (d,4097) (Nat.lt_succ_self d) key_dn).trans B4097))))) (p.2.2 r)))))))))))) (fun a3=>z_ 20 J (e_ (w68_6 hQ H1 H3 J (ApM.call (ApM.call (ApM.call (ApM.call (ApM.call Ab4097 k) c) e) i) j) ((j.1 (d,4097) (Nat.lt_succ_self d) key_dn).trans ((i.1 (d,4097) (Nat.lt_succ_self d) key_dn).trans ((e.1 (d,4097) (Nat.lt_succ_self d) key_dn).trans ((c.1 (d,4097) (Nat.lt_succ_self d) key_dn).trans ((k.1 (d,4097) (Nat.lt_succ_self d) key_dn).trans B4097))))) (a0.2.2 a3)))))))))))) (fun a2=>z_ 25 J (e_ (w68_6 hQ H1 H3 J (ApM.call (ApM.call (ApM.call (ApM.call (ApM.call Ab4097 k) c) e) i) j) ((j.1 (d,4097) (Nat.lt_succ_self d) key_dn).trans ((i.1 (d,4097) (Nat.lt_succ_self d) key_dn).trans ((e.1 (d,4097) (Nat.lt_succ_self d) key_dn).trans ((c.1 (d,4097) (Nat.lt_succ_self d) key_dn).trans ((k.1 (d,4097) (Nat.lt_succ_self d) key_dn).trans B4097))))) (z.2.2 a2)))))))))))))))))))))))))))))))))))))))))))))))))))))))))))))))
include H1 Ab4097 B4097 in
theorem w68_4 (h:T68_4 prog K m4097):W prog d c68_18 σ st Q:=
 q_ J (s_mks (n:=65) (m:=65) (f:=row8) (a:=0) J J J J J (by decide) J ⟨by decide,by decide⟩ (s_b2s J (m_ (e_ (w68_5 hQ H1 J Ab4097 B4097 h)))))
include kP0 H1 H2 Ab4097 B4097 in
theorem w68_3 (h:T68_3 prog K P0 i2 m4097):W prog d l68_0 σ st (thenW prog d (.loop l68_0) (blockW 0 (thenW prog d c68_18 Q))):=
 sq_ (q_ J (m_ (b_ H2 J lss_ (e_ (cs_ J (fun e=>sk_ (sq_ (bk_ (W.reg0 J fun _ _=>f_ H1 (l_ J B4097 J J ((h.1 e).elim fun k c=>ca_ sn c.1 (s_bslM (f:=Val.row) (l:=[k]) J J (g_cons J J J g_nil) (by simp only [List.map_cons,List.map_nil,Val.row_eq];rfl) (s_app Val.row_len J J J Ab4097.1 c.2.1 J (fun _ _ i _ j=>f_ H1 (so_ J B4097 J J J (e_ (W.reg0 J fun _ _=>m_ (b_ H2 J add_ (m_ (e_ (kP0 _ _ c.2.2 _ _ _ _ H1 J (ApM.mk i (Mine.app Ab4097.2 J j)) lk_here)))))))))))))))) (fun e=>ex_ (w68_4 hQ H1 Ab4097 B4097 (h.2 e))))))))
include H1 Ab4097 B4097 in
theorem w68_2 (h:T68_2 prog K m4097):W prog d c68_19 σ st Q:=
 sq_ (q_ J (m_ (e_ (bk_ (h (I68_0 prog d Q ) (fun _ _ hb _ _ _ _ H1 H2 Ab4097 B4097=>W.loop (w68_3 hQ (fun _ _ x=>x) H1 H2 Ab4097 B4097 hb)) _ _ _ _ H1 J Ab4097 B4097)))))
theorem w68_1 (h:T68_1 prog K ):W prog d c68_20 σ st Q:=
 sq_ (W.reg (h.elim fun _ c=>s_callN (sec J (sec (show _=AV.sl .full (List.map Val.row []) from J) sen)) (c.1) (fun _ e=>s_alloc (so_ J ((e.1 (d,4097) (Nat.lt_succ_self d) key_dn).trans (show lk _ (d,4097)=some (_,([.i .u8 0,.i .i64 0,.s [],.sl .full (List.map Val.row ([]:List Val)),.b false]:List AV)) from lk_here)) J J J (e_ (w68_2 hQ J ApM.full lk_here c.2))))))
theorem w68_0 (h:T68_0 prog K ):W prog d (sR 0 r68_0 c68_20) σ st Q:=
 q_ J (m_ (e_ (w68_1 hQ h)))
end
theorem p68 {prog:Prog}(hf:prog.fn 68=some pf68)  {K:Bool→Prop}(h:T68_0 prog K ) :∃res0:Bool,K res0∧Pus prog 68 [] (.b res0):=
 P1 hf J (w68_0 (h1 J fun _=>J)  h)
end Go.AM

namespace Go.AM
open Go Go.RowKit
structure Ty68 (P:Program) where
 tX:Nat
 tM:Nat
 tLs:Nat
 tL:Nat
 tI:Nat
 tU:Nat
 tV:Nat
 tFus:Nat
 tF:Nat
 tS:Nat
 tD:Nat
 tStr:Nat
 iX:TI
 iM:TI
 iLs:TI
 iL:TI
 iI:TI
 iU:TI
 iV:TI
 iFus:TI
 iF:TI
 iS:TI
 iD:TI
 iStr:TI
 fX:List (Nat × Nat)
 fM:List (Nat × Nat)
 fL:List (Nat × Nat)
 fF:List (Nat × Nat)
 fD:List (Nat × Nat)
 X:TOk P tX iX
 X4:iX.size=4
 Xk:iX.kind=.st fX
 X0:fX[0]?=some (tI,0)
 X1:fX[1]?=some (tI,1)
 X2:fX[2]?=some (tU,2)
 X3:fX[3]?=some (tLs,3)
 M:TOk P tM iM
 M3:iM.size=3
 Mk:iM.kind=.st fM
 M2:fM[2]?=some (tFus,2)
 Ls:TOk P tLs iLs
 Ls1:iLs.size=1
 Lsa:iLs.kind.agg=false
 Lsu:P.underlying tLs=some (.slice tL)
 L:TOk P tL iL
 L6:iL.size=6
 Lk:iL.kind=.st fL
 L0:fL[0]?=some (tI,0)
 L1:fL[1]?=some (tV,1)
 I:TOk P tI iI
 I1:iI.size=1
 U:TOk P tU iU
 U1:iU.size=1
 V:TOk P tV iV
 V5:iV.size=5
 Fus:TOk P tFus iFus
 Fus1:iFus.size=1
 Fusa:iFus.kind.agg=false
 Fusu:P.underlying tFus=some (.slice tF)
 F:TOk P tF iF
 F7:iF.size=7
 Fk:iF.kind=.st fF
 F3:fF[3]?=some (tS,3)
 S:TOk P tS iS
 S1:iS.size=1
 Sa:iS.kind.agg=false
 Su:P.underlying tS=some (.slice tD)
 D:TOk P tD iD
 D2:iD.size=2
 Dk:iD.kind=.st fD
 D0:fD[0]?=some (tStr,0)
 Str:TOk P tStr iStr
 Str1:iStr.size=1
theorem Ty68.kX {P:Program} (T:Ty68 P):(TK.st T.fX).ok P T.tX:=by rw [← T.Xk];exact T.X.kind
theorem Ty68.kM {P:Program} (T:Ty68 P):(TK.st T.fM).ok P T.tM:=by rw [← T.Mk];exact T.M.kind
theorem Ty68.kL {P:Program} (T:Ty68 P):(TK.st T.fL).ok P T.tL:=by rw [← T.Lk];exact T.L.kind
theorem Ty68.kF {P:Program} (T:Ty68 P):(TK.st T.fF).ok P T.tF:=by rw [← T.Fk];exact T.F.kind
theorem Ty68.kD {P:Program} (T:Ty68 P):(TK.st T.fD).ok P T.tD:=by rw [← T.Dk];exact T.D.kind
structure At68 (nt:Nat) (a:Act) (N:Nat) (i:Int) (b:Act):Prop where
 de:b.defers=[]
 sz:b.tmps.size=nt
 keep :∀t,t≠11→t≠12→hwK68 t=false→tv b t=tv a t
 x:tv b 11=.pointer (some ⟨N+0,0,none⟩)
 m:tv b 12=.pointer (some ⟨N+6,0,none⟩)
 i:tv b 297=.int .i64 i
theorem hwK_lt {t:Nat} (h:hwK68 t=true):t<350:=by
 unfold hwK68 at h
 rw [Bool.and_eq_true,Nat.blt_eq] at h
 exact h.2
theorem At68.put {nt:Nat} {a b:Act} {N:Nat} {i:Int} (h:At68 nt a N i b) (hnt:350≤nt) {d:Nat} (hd:hwK68 d=true) (h7:d≠297) (v:Value):At68 nt a N i (b.put (some d) v):=by
 have hlt:=hwK_lt hd
 have hs:d<b.tmps.size:=by rw [h.sz];omega
 have hne :∀{t:Nat},t≠d→tv (b.put (some d) v) t=tv b t:=fun ht=>by rw [tv_put _ _ _ _ hs,if_neg ht]
 refine ⟨h.de,by simp [Act.put,h.sz],fun t h1 h2 h3=>?_,?_,?_,?_⟩
 ·rw [hne (by rintro rfl;rw [hd] at h3;cases h3)]
  exact h.keep t h1 h2 h3
 ·rw [hne (by rintro rfl;cases hd)];exact h.x
 ·rw [hne (by rintro rfl;cases hd)];exact h.m
 ·rw [hne (Ne.symm h7)];exact h.i
section
variable {P:Program} {ops:Array Oper} {l:List (Option Nat × Op)} {Q:Exit→Act→World→Prop} {nt N:Nat} {rest:List Nat} {a:Act} {w w':World} {i:Int}
theorem k_val {f:Nat→Value} {b:Act} {j:Nat} (h:OpsAre ops l) {d:Nat} {p:Op} (hi:l[j]?=some (some d,p)) (hA:At68 nt a N i b) (ha:ActIs nt f b) (hnt:350≤nt) (hd:hwK68 d=true) (h7:d≠297) {v:Value} (hr :∀o:Oper,o.op=p→(execOp b.eval o).run P w=.ok (.value v) w')
  (hk :∀c:Act,At68 nt a N i c→ActIs nt (fun t=>if t=d then v else f t) c→wpOps P ops Q rest c w'):wpOps P ops Q (j::rest) b w:=
 st_val h hi hr (hk _ (hA.put hnt hd h7 v) (ha.put v (Nat.lt_of_lt_of_le (hwK_lt hd) hnt)))
end
section
variable {P:Program} {Q:Exit→Act→World→Prop} {nt N dr:Nat} {a b:Act} {w:World} {i:Int} {L L':List Obj}
theorem k_test {tI c s r:Nat} {k:Int} {ot:Array Oper} {x y:Code} (hA:At68 nt a N i b) (hnt:350≤nt) (h:OpsAre ot [(some c,.binOp .eql tI (.tmp 297) (.const (.int .i64 k)) tI),(some s,.assign (.tmp c))]) (hc:hwK68 c=true) (hc7:c≠297) (hs:hwK68 s=true) (hs7:s≠297)
  (h1:i=k→∀b',At68 nt a N i b'→x.wp P Q b' w) (h2:i≠k→∀b',At68 nt a N i b'→y.wp P Q b' w):(Code.seq (.region r ot false) (.cond (.tmp s) x y)).wp P Q b w:=by
 refine wp_seq (wp_region ?_)
 rw [h.size]
 show wpOps P ot _ [0,1] _ _
 refine k_val h (d:=c) (v:=.bool (decide (i=k))) (w':=w) rfl hA (.self hA.de hA.sz) hnt hc hc7 (fun o ho=>?_) fun b1 A1 a1=>?_
 ·simp only [execOp,ho]
  refine run_val ?_
  rw [show b.eval (.tmp 297)=.int .i64 i from hA.i,show b.eval (.const (.int .i64 k))=.int .i64 k from rfl]
  simp only [Sem.run_bind,eqGuard_int,Result.andThen_ok]
  simp [binOp,Op.intCmp]
  by_cases hik:i=k<;>simp [hik]
 refine k_val h (d:=s) (v:=.bool (decide (i=k))) (w':=w) rfl A1 a1 hnt hs hs7 (fun o ho=>?_) fun b2 A2 a2=>?_
 ·simp only [execOp,ho]
  rw [show b1.eval (.tmp c)=.bool (decide (i=k)) from (a1.2.2 c).trans (if_pos rfl)]
  rfl
 have e:tv b2 s=.bool (decide (i=k)):=(a2.2.2 s).trans (if_pos rfl)
 show Code.wp P _ _ b2 _
 by_cases hik:i=k
 ·rw [decide_eq_true hik] at e
  exact wp_cond_true e (h1 hik b2 A2)
 ·rw [decide_eq_false hik] at e
  exact wp_cond_false e (h2 hik b2 A2)
theorem k_field {tX t f off c r:Nat} {ob:Array Oper} {it:TI} {fX:List (Nat × Nat)} {cl cl':List Value} {v:Value} (hA:At68 nt a N i b) (hnt:350≤nt) (hN:w.heap.size=N) (kX:(TK.st fX).ok P tX) (hf:fX[f]?=some (t,off)) (hT:TOk P t it) (h1:it.size=1)
  (h:OpsAre ob [(some c,.fieldAddr tX (.tmp 11) f),(none,.store t (.tmp c) (.const v))]) (hc:hwK68 c=true) (hc7:c≠297) (hL:L[0]?=some (.cells cl.toArray tX (0,0))) (hv:v.cells=#[v]) (hv1:v.oneCell'=true) (ho:off<cl.length) (hcl:cl.take off++[v]++cl.drop (off+1)=cl') (hL':L.set 0 (.cells cl'.toArray tX (0,0))=L')
  (hq :∀b',At68 nt a N i b'→Q .normal b' (wx w dr L')):(Code.region r ob false).wp P Q b (wx w dr L):=by
 refine wp_region ?_
 rw [h.size]
 show wpOps P ob _ [0,1] _ _
 refine k_val h (d:=c) (v:=.pointer (some ⟨N+0,0+off,none⟩)) (w':=wx w dr L) rfl hA (.self hA.de hA.sz) hnt hc hc7 (fun o ho=>?_) fun b1 A1 a1=>?_
 ·simp only [execOp,ho]
  refine run_val ?_
  rw [show b.eval (.tmp 11)=_ from hA.x]
  exact run_fad kX hf hT (by omega) _ _
 refine st_unit h (w':=wx w dr L') rfl (fun o ho'=>?_) (hq _ A1)
 simp only [execOp,ho']
 refine run_unit ?_
 rw [show b1.eval (.tmp c)=.pointer (some ⟨N+0,0+off,none⟩) from (a1.2.2 c).trans (if_pos rfl),Nat.zero_add off,show b1.eval (.const v)=v from rfl]
 exact x_store hT hN hL hv (by rw [h1];rfl) (by rw [h1];omega) (by simpa using hv1) (by rw [h1];exact hcl) hL'
variable (T:Ty68 P)
theorem k_loc {c1 c2 c3 c4 r cap:Nat} {ob:Array Oper} {cl cl' c0:List Value} {v:Value} (hA:At68 nt a N i b) (hnt:350≤nt) (hN:w.heap.size=N)
  (h:OpsAre ob [(some c1,.fieldAddr T.tX (.tmp 11) 3),(some c2,.load T.tLs (.tmp c1)),(some c3,.indexAddr T.tLs (.tmp c2) (.const (.int .i64 1))),(some c4,.fieldAddr T.tL (.tmp c3) 0),(none,.store T.tI (.tmp c4) (.const v))])
  (hc:hwK68 c1=true∧hwK68 c2=true∧hwK68 c3=true∧hwK68 c4=true) (hc7:c1≠297∧c2≠297∧c3≠297∧c4≠297) (hL0:L[0]?=some (.cells c0.toArray T.tX (0,0))) (h03:c0[3]?=some (.slice (some ⟨N+8,0,none⟩) 2 cap))
  (hL:L[8]?=some (.cells cl.toArray T.tL (0,0))) (hv:v.cells=#[v]) (hv1:v.oneCell'=true) (ho:6<cl.length) (hcl:cl.take 6++[v]++cl.drop 7=cl') (hL':L.set 8 (.cells cl'.toArray T.tL (0,0))=L')
  (hq :∀b',At68 nt a N i b'→Q .normal b' (wx w dr L')):(Code.region r ob false).wp P Q b (wx w dr L):=by
 refine wp_region ?_
 rw [h.size]
 show wpOps P ob _ [0,1,2,3,4] _ _
 refine k_val h (d:=c1) (v:=.pointer (some ⟨N+0,0+3,none⟩)) (w':=wx w dr L) rfl hA (.self hA.de hA.sz) hnt hc.1 hc7.1 (fun o ho=>?_) fun b1 A1 a1=>?_
 ·simp only [execOp,ho]
  refine run_val ?_
  rw [show b.eval (.tmp 11)=_ from hA.x]
  exact run_fad T.kX T.X3 T.Ls (by rw [T.Ls1];decide) _ _
 refine k_val h (d:=c2) (v:=.slice (some ⟨N+8,0,none⟩) 2 cap) (w':=wx w dr L) rfl A1 a1 hnt hc.2.1 hc7.2.1 (fun o ho=>?_) fun b2 A2 a2=>?_
 ·simp only [execOp,ho]
  refine run_val ?_
  rw [show b1.eval (.tmp c1)=.pointer (some ⟨N+0,0+3,none⟩) from (a1.2.2 c1).trans (if_pos rfl)]
  exact x_load1 T.Ls.kind T.Lsa hN hL0 h03
 refine k_val h (d:=c3) (v:=.pointer (some ⟨N+8,6,none⟩)) (w':=wx w dr L) rfl A2 a2 hnt hc.2.2.1 hc7.2.2.1 (fun o ho=>?_) fun b3 A3 a3=>?_
 ·simp only [execOp,ho]
  refine run_val ?_
  rw [show b2.eval (.tmp c2)=.slice (some ⟨N+8,0,none⟩) 2 cap from (a2.2.2 c2).trans (if_pos rfl),show b2.eval (.const (.int .i64 1))=.int .i64 1 from rfl]
  exact x_ia T.Lsu T.L (j:=1) rfl (by decide) (by rw [T.L6])
 refine k_val h (d:=c4) (v:=.pointer (some ⟨N+8,6+0,none⟩)) (w':=wx w dr L) rfl A3 a3 hnt hc.2.2.2 hc7.2.2.2 (fun o ho=>?_) fun b4 A4 a4=>?_
 ·simp only [execOp,ho]
  refine run_val ?_
  rw [show b3.eval (.tmp c3)=.pointer (some ⟨N+8,6,none⟩) from (a3.2.2 c3).trans (if_pos rfl)]
  exact run_fad T.kL T.L0 T.I (by rw [T.I1];decide) _ _
 refine st_unit h (w':=wx w dr L') rfl (fun o ho'=>?_) (hq _ A4)
 simp only [execOp,ho']
 refine run_unit ?_
 rw [show b4.eval (.tmp c4)=.pointer (some ⟨N+8,6+0,none⟩) from (a4.2.2 c4).trans (if_pos rfl),show b4.eval (.const v)=v from rfl]
 exact x_store T.I hN hL hv (by rw [T.I1];rfl) (by rw [T.I1];omega) (by simpa using hv1) (by rw [T.I1];exact hcl) hL'
def zVal68:List Value:=[.int .u8 0,.int .i64 0,.string ⟨#[]⟩,nilS,.bool false]
theorem k_value {r cap:Nat} {ob:Array Oper} {cl cl' c0:List Value} (hA:At68 nt a N i b) (hnt:350≤nt) (hN:w.heap.size=N) (bV:P.built T.tV []=some zVal68.toArray)
  (h:OpsAre ob [(some 324,.fieldAddr T.tX (.tmp 11) 3),(some 325,.load T.tLs (.tmp 324)),(some 326,.build T.tV #[]),(some 327,.indexAddr T.tLs (.tmp 325) (.const (.int .i64 0))),(some 328,.fieldAddr T.tL (.tmp 327) 1),(none,.store T.tV (.tmp 328) (.tmp 326))])
  (hL0:L[0]?=some (.cells c0.toArray T.tX (0,0))) (h03:c0[3]?=some (.slice (some ⟨N+8,0,none⟩) 2 cap))
  (hL:L[8]?=some (.cells cl.toArray T.tL (0,0))) (ho:6<cl.length) (hcl:cl.take 1++zVal68++cl.drop 6=cl') (hL':L.set 8 (.cells cl'.toArray T.tL (0,0))=L')
  (hq :∀b',At68 nt a N i b'→Q .normal b' (wx w dr L')):(Code.region r ob false).wp P Q b (wx w dr L):=by
 refine wp_region ?_
 rw [h.size]
 show wpOps P ob _ [0,1,2,3,4,5] _ _
 refine k_val h (d:=324) (v:=.pointer (some ⟨N+0,0+3,none⟩)) (w':=wx w dr L) rfl hA (.self hA.de hA.sz) hnt rfl (by decide) (fun o ho=>?_) fun b1 A1 a1=>?_
 ·simp only [execOp,ho]
  refine run_val ?_
  rw [show b.eval (.tmp 11)=_ from hA.x]
  exact run_fad T.kX T.X3 T.Ls (by rw [T.Ls1];decide) _ _
 refine k_val h (d:=325) (v:=.slice (some ⟨N+8,0,none⟩) 2 cap) (w':=wx w dr L) rfl A1 a1 hnt rfl (by decide) (fun o ho=>?_) fun b2 A2 a2=>?_
 ·simp only [execOp,ho]
  refine run_val ?_
  rw [show b1.eval (.tmp 324)=.pointer (some ⟨N+0,0+3,none⟩) from a1.2.2 324]
  exact x_load1 T.Ls.kind T.Lsa hN hL0 h03
 refine k_val h (d:=326) (v:=.agg zVal68.toArray) (w':=wx w dr L) rfl A2 a2 hnt rfl (by decide) (fun o ho=>?_) fun b3 A3 a3=>?_
 ·simp only [execOp,ho]
  exact run_val (run_build _ T.tV _ _ (by simpa using bV))
 refine k_val h (d:=327) (v:=.pointer (some ⟨N+8,0,none⟩)) (w':=wx w dr L) rfl A3 a3 hnt rfl (by decide) (fun o ho=>?_) fun b4 A4 a4=>?_
 ·simp only [execOp,ho]
  refine run_val ?_
  rw [show b3.eval (.tmp 325)=.slice (some ⟨N+8,0,none⟩) 2 cap from a3.2.2 325,show b3.eval (.const (.int .i64 0))=.int .i64 0 from rfl]
  exact x_ia T.Lsu T.L (j:=0) rfl (by decide) (by rw [Nat.zero_mul])
 refine k_val h (d:=328) (v:=.pointer (some ⟨N+8,0+1,none⟩)) (w':=wx w dr L) rfl A4 a4 hnt rfl (by decide) (fun o ho=>?_) fun b5 A5 a5=>?_
 ·simp only [execOp,ho]
  refine run_val ?_
  rw [show b4.eval (.tmp 327)=.pointer (some ⟨N+8,0,none⟩) from a4.2.2 327]
  exact run_fad T.kL T.L1 T.V (by rw [T.V5];decide) _ _
 refine st_unit h (w':=wx w dr L') rfl (fun o ho'=>?_) (hq _ A5)
 simp only [execOp,ho']
 refine run_unit ?_
 rw [show b5.eval (.tmp 328)=.pointer (some ⟨N+8,0+1,none⟩) from a5.2.2 328,show b5.eval (.tmp 326)=.agg zVal68.toArray from a5.2.2 326]
 exact x_store (us:=zVal68) T.V hN hL rfl (by rw [T.V5];rfl) (by rw [T.V5];omega) (by intro x hx;simp only [zVal68,List.mem_cons,List.not_mem_nil,or_false] at hx;rcases hx with rfl | rfl | rfl | rfl | rfl<;>rfl) (by rw [T.V5];exact hcl) hL'
theorem k_name {r:Nat} {ob:Array Oper} {s:List UInt8} {m5 f5 cl cl':List Value} {n5:Nat} (hA:At68 nt a N i b) (hnt:350≤nt) (hN:w.heap.size=N)
  (h:OpsAre ob [(some 331,.fieldAddr T.tM (.tmp 12) 2),(some 332,.load T.tFus (.tmp 331)),(some 333,.indexAddr T.tFus (.tmp 332) (.const (.int .i64 2))),(some 334,.fieldAddr T.tF (.tmp 333) 3),(some 335,.load T.tS (.tmp 334)),(some 336,.indexAddr T.tS (.tmp 335) (.const (.int .i64 1))),(some 337,.fieldAddr T.tD (.tmp 336) 0),(none,.store T.tStr (.tmp 337) (.const (.string ⟨s.toArray⟩)))])
  (hL6:L[6]?=some (.cells m5.toArray T.tM (0,0))) (h62:m5[2]?=some (sl68 (N+5) 3)) (hL5:L[5]?=some (.cells f5.toArray T.tF (0,0))) (h517:f5[17]?=some (.slice (some ⟨N+3,0,none⟩) 3 n5))
  (hL:L[3]?=some (.cells cl.toArray T.tD (0,0))) (ho:2<cl.length) (hcl:cl.take 2++[Value.string ⟨s.toArray⟩]++cl.drop 3=cl') (hL':L.set 3 (.cells cl'.toArray T.tD (0,0))=L')
  (hq :∀b',At68 nt a N i b'→Q .normal b' (wx w dr L')):(Code.region r ob false).wp P Q b (wx w dr L):=by
 refine wp_region ?_
 rw [h.size]
 show wpOps P ob _ [0,1,2,3,4,5,6,7] _ _
 refine k_val h (d:=331) (v:=.pointer (some ⟨N+6,0+2,none⟩)) (w':=wx w dr L) rfl hA (.self hA.de hA.sz) hnt rfl (by decide) (fun o ho=>?_) fun b1 A1 a1=>?_
 ·simp only [execOp,ho]
  refine run_val ?_
  rw [show b.eval (.tmp 12)=_ from hA.m]
  exact run_fad T.kM T.M2 T.Fus (by rw [T.Fus1];decide) _ _
 refine k_val h (d:=332) (v:=sl68 (N+5) 3) (w':=wx w dr L) rfl A1 a1 hnt rfl (by decide) (fun o ho=>?_) fun b2 A2 a2=>?_
 ·simp only [execOp,ho]
  refine run_val ?_
  rw [show b1.eval (.tmp 331)=.pointer (some ⟨N+6,0+2,none⟩) from a1.2.2 331]
  exact x_load1 T.Fus.kind T.Fusa hN hL6 h62
 refine k_val h (d:=333) (v:=.pointer (some ⟨N+5,14,none⟩)) (w':=wx w dr L) rfl A2 a2 hnt rfl (by decide) (fun o ho=>?_) fun b3 A3 a3=>?_
 ·simp only [execOp,ho]
  refine run_val ?_
  rw [show b2.eval (.tmp 332)=.slice (some ⟨N+5,0,none⟩) 3 3 from a2.2.2 332,show b2.eval (.const (.int .i64 2))=.int .i64 2 from rfl]
  exact x_ia T.Fusu T.F (j:=2) rfl (by decide) (by rw [T.F7])
 refine k_val h (d:=334) (v:=.pointer (some ⟨N+5,14+3,none⟩)) (w':=wx w dr L) rfl A3 a3 hnt rfl (by decide) (fun o ho=>?_) fun b4 A4 a4=>?_
 ·simp only [execOp,ho]
  refine run_val ?_
  rw [show b3.eval (.tmp 333)=.pointer (some ⟨N+5,14,none⟩) from a3.2.2 333]
  exact run_fad T.kF T.F3 T.S (by rw [T.S1];decide) _ _
 refine k_val h (d:=335) (v:=.slice (some ⟨N+3,0,none⟩) 3 n5) (w':=wx w dr L) rfl A4 a4 hnt rfl (by decide) (fun o ho=>?_) fun b5 A5 a5=>?_
 ·simp only [execOp,ho]
  refine run_val ?_
  rw [show b4.eval (.tmp 334)=.pointer (some ⟨N+5,14+3,none⟩) from a4.2.2 334]
  exact x_load1 T.S.kind T.Sa hN hL5 h517
 refine k_val h (d:=336) (v:=.pointer (some ⟨N+3,2,none⟩)) (w':=wx w dr L) rfl A5 a5 hnt rfl (by decide) (fun o ho=>?_) fun b6 A6 a6=>?_
 ·simp only [execOp,ho]
  refine run_val ?_
  rw [show b5.eval (.tmp 335)=.slice (some ⟨N+3,0,none⟩) 3 n5 from a5.2.2 335,show b5.eval (.const (.int .i64 1))=.int .i64 1 from rfl]
  exact x_ia T.Su T.D (j:=1) rfl (by decide) (by rw [T.D2])
 refine k_val h (d:=337) (v:=.pointer (some ⟨N+3,2+0,none⟩)) (w':=wx w dr L) rfl A6 a6 hnt rfl (by decide) (fun o ho=>?_) fun b7 A7 a7=>?_
 ·simp only [execOp,ho]
  refine run_val ?_
  rw [show b6.eval (.tmp 336)=.pointer (some ⟨N+3,2,none⟩) from a6.2.2 336]
  exact run_fad T.kD T.D0 T.Str (by rw [T.Str1];decide) _ _
 refine st_unit h (w':=wx w dr L') rfl (fun o ho'=>?_) (hq _ A7)
 simp only [execOp,ho']
 refine run_unit ?_
 rw [show b7.eval (.tmp 337)=.pointer (some ⟨N+3,2+0,none⟩) from a7.2.2 337,show b7.eval (.const (.string ⟨s.toArray⟩))=.string ⟨s.toArray⟩ from rfl]
 exact x_store (us:=[.string ⟨s.toArray⟩]) T.Str hN hL rfl (by rw [T.Str1];rfl) (by rw [T.Str1];omega) (by intro x hx;rw [List.mem_singleton.1 hx];rfl) (by rw [T.Str1];exact hcl) hL'
end
end Go.AM

namespace Go.AM
open Go Go.RowKit Go.BigFrame
def posOf (ops:Array Oper):String:=match ops[0]? with
 | some o=>o.pos
 | none=> "x"
def ops37 (ps:String) (tM tFus tF tS tI:Nat):Array Oper:=#[
 ⟨some 340,.fieldAddr tM (.tmp 12) 2,0,ps,#[],none⟩,
 ⟨some 341,.load tFus (.tmp 340),tFus,ps,#[⟨0,.data⟩],none⟩,
 ⟨some 342,.fieldAddr tM (.tmp 12) 2,0,ps,#[],none⟩,
 ⟨some 343,.load tFus (.tmp 342),tFus,ps,#[⟨2,.data⟩],none⟩,
 ⟨some 344,.indexAddr tFus (.tmp 343) (.const (.int .i64 2)),0,ps,#[⟨3,.data⟩],none⟩,
 ⟨some 345,.fieldAddr tF (.tmp 344) 3,0,ps,#[⟨4,.data⟩],none⟩,
 ⟨some 346,.load tS (.tmp 345),tS,ps,#[⟨5,.data⟩],none⟩,
 ⟨some 347,.call ⟨.builtin .append,#[.tmp 346,.const (.int .i64 14)],#[tS,tI]⟩,tS,ps,#[⟨6,.data⟩],none⟩,
 ⟨some 348,.indexAddr tFus (.tmp 341) (.const (.int .i64 2)),0,ps,#[⟨1,.data⟩,⟨0,.phase⟩,⟨1,.phase⟩,⟨2,.phase⟩,⟨3,.phase⟩,⟨4,.phase⟩,⟨5,.phase⟩,⟨6,.phase⟩,⟨7,.phase⟩],none⟩,
 ⟨some 349,.fieldAddr tF (.tmp 348) 3,0,ps,#[⟨8,.data⟩,⟨0,.phase⟩,⟨1,.phase⟩,⟨2,.phase⟩,⟨3,.phase⟩,⟨4,.phase⟩,⟨5,.phase⟩,⟨6,.phase⟩,⟨7,.phase⟩],none⟩,
 ⟨none,.store tS (.tmp 349) (.tmp 347),0,ps,#[⟨9,.data⟩,⟨7,.data⟩,⟨7,.chain⟩,⟨0,.phase⟩,⟨1,.phase⟩,⟨2,.phase⟩,⟨3,.phase⟩,⟨4,.phase⟩,⟨5,.phase⟩,⟨6,.phase⟩,⟨7,.phase⟩],none⟩]
def opE37 (ps:String) (tS:Nat):Oper:=⟨none,.store tS (.tmp 349) (.tmp 347),0,ps,#[⟨9,.data⟩,⟨7,.data⟩,⟨7,.chain⟩,⟨0,.phase⟩,⟨1,.phase⟩,⟨2,.phase⟩,⟨3,.phase⟩,⟨4,.phase⟩,⟨5,.phase⟩,⟨6,.phase⟩,⟨7,.phase⟩],none⟩
theorem run_appz {P:Program} {w:World} {t t2 ty e:TypeId} {k:IntKind} {ti:TypeInfo} {z:Value} (ht:P.underlying t=some (.slice e)) (ht2:P.underlying t2=some (.int k)) (hi:P.info? e=some ti) (hz:ti.zero=some z)
  {base:Option Addr} {n cap:Nat} {olds:Array Value} (ho:(Builtin.firstCells ti.size n (.slice base n cap)).run P w.drew=.ok olds w.drew) (hg:cap<n+14) (h63:n+14≤1000) (hfit:ti.bytes≤1000) (hpos:ti.size≠0) :
  (Builtin.append_ #[t,t2] ty #[.slice base n cap,.int .i64 14]).run P w=.ok (.slice (some ⟨w.heap.size,0,none⟩) (n+14) (grownCap w (n+14) cap e))
    (w.drew.alloc (.cells (olds++Builtin.zeroCells z.cells 14++Builtin.zeroCells z.cells (grownCap w (n+14) cap e-(n+14))) e)):=by
 have hn:¬ (n+14≤cap):=by omega
 have h63':¬ (9223372036854775807<((n:Int)+14)):=by omega
 have hcap:=nextslicecap_le hg
 have hmul:Builtin.nextslicecap (n+14) cap*ti.bytes≤2*(n+14)*ti.bytes:=Nat.mul_le_mul_right _ hcap
 have hm2:2*(n+14)*ti.bytes≤2000*1000:=Nat.mul_le_mul (by omega) hfit
 have h48':¬ (281474976710656<Builtin.nextslicecap (n+14) cap*ti.bytes):=by omega
 have h14:¬ (281474976710656<14*(ti.bytes:Int)):=by omega
 have hw14:IntKind.i64.wrap 14=14:=by decide
 have hmx:max (14:Int) 0=14:=by decide
 simp [Builtin.append_,run_underlying ht,run_underlying ht2,sizeOf,typeInfo,zeroValue,hi,hz,hn,h63',h48',h14,hw14,hmx,asInt,asIntOf,Question.forced,ho,newRow,grownCap,hpos]
 intro h0
 omega
def v37 (N:Nat) (nv:Value) (t:Nat):Value:=if t=340∨t=342 then .pointer (some ⟨N+6,0+2,none⟩) else if t=341∨t=343 then sl68 (N+5) 3 else if t=344 then .pointer (some ⟨N+5,14,none⟩) else if t=345 then .pointer (some ⟨N+5,14+3,none⟩) else if t=346 then sl68 (N+3) 3 else nv
def d37 (s p t:Nat):Bool:=(Nat.ble 340 t&&Nat.blt t (340+p))||(Nat.ble 342 t&&Nat.blt t (342+s))
structure F37 (nt:Nat) (a:Act) (N:Nat) (i:Int) (nv:Value) (s p:Nat) (b:Act):Prop where
 A:At68 nt a N i b
 v :∀t,d37 s p t=true→tv b t=v37 N nv t
theorem F37.put {nt:Nat} {a b:Act} {N:Nat} {i:Int} {nv:Value} {s p s' p' d:Nat} (h:F37 nt a N i nv s p b) (hnt:350≤nt) (hd:hwK68 d=true) (h7:d≠297) (hs :∀t,d37 s' p' t=true→t=d∨d37 s p t=true):F37 nt a N i nv s' p' (b.put (some d) (v37 N nv d)):=by
 refine ⟨h.A.put hnt hd h7 _,fun t ht=>?_⟩
 have hlt:=hwK_lt hd
 rw [tv_put _ _ _ _ (by rw [h.A.sz];omega)]
 rcases hs t ht with rfl | h2
 ·rw [if_pos rfl]
 ·split
  ·rename_i e;rw [e]
  ·exact h.v t h2
theorem d37_s {s p t:Nat} (h:d37 (s+1) p t=true):t=342+s∨d37 s p t=true:=by
 unfold d37 at *
 simp only [Bool.or_eq_true,Bool.and_eq_true,Nat.blt_eq,Nat.ble_eq] at *
 omega
theorem d37_p {s p t:Nat} (h:d37 s (p+1) t=true):t=340+p∨d37 s p t=true:=by
 unfold d37 at *
 simp only [Bool.or_eq_true,Bool.and_eq_true,Nat.blt_eq,Nat.ble_eq] at *
 omega
section
variable {P:Program} {Q:Exit→Act→World→Prop} {nt N dr:Nat} {a b:Act} {w:World} {i:Int} {L:List Obj} {ps:String} (T:Ty68 P)
theorem k_app {m5 f5:List Value} {ti:TypeInfo} {z:Value} {k:IntKind} (hm:P.follows .mixedOrders=true) (hA:At68 nt a N i b) (hnt:350≤nt) (hN:w.heap.size=N) (hLl:L.length=9)
  (hL6:L[6]?=some (.cells m5.toArray T.tM (0,0))) (h62:m5[2]?=some (sl68 (N+5) 3)) (hL5:L[5]?=some (.cells f5.toArray T.tF (0,0))) (h517:f5[17]?=some (sl68 (N+3) 3)) (hL3:L[3]?=some (.cells slots68.toArray T.tD (0,0)))
  (hIu:P.underlying T.tI=some (.int k)) (hD:P.info? T.tD=some ti) (hz:ti.zero=some z) (hD2:ti.size=2) (hDb:ti.bytes≤1000) {z14:List Value} (hz14:Builtin.zeroCells z.cells 14=z14.toArray)
  (hq :∀b' zs cap,17≤cap→At68 nt a N i b'→Q .normal b' (wx w (dr+1+1) ((L++[Obj.cells (slots68++z14++zs).toArray T.tD (0,0)]).set 5 (Obj.cells (f5.take 17++[Value.slice (some ⟨N+9,0,none⟩) 17 cap]++f5.drop 18).toArray T.tF (0,0))))) :
  (Code.region 37 (ops37 ps T.tM T.tFus T.tF T.tS T.tI) true).wp P Q b (wx w dr L):=by
 refine wp_region_any hm ?_
 show wpAny P .any _ Q 11 #[false,false,false,false,false,false,false,false,false,false,false] b (wx w (dr+1) L)
 have hfirst :∀d,(Builtin.firstCells ti.size 3 (sl68 (N+3) 3)).run P (wx w d L)=.ok slots68.toArray (wx w d L):=by
  intro d
  have:=run_firstCells_some (P:=P) (wx w d L) 2 3 ⟨N+3,0,none⟩ 3 3 slots68 rfl (fun q v hq=>by rw [Addr.add_lit];exact wx_cells hN hL3 q v hq)
  rw [hD2]
  exact this
 have happ:=run_appz (P:=P) (ty:=T.tS) (w:=wx w (dr+1) L) T.Su hIu hD hz (base:=some ⟨N+3,0,none⟩) (n:=3) (cap:=3) (olds:=slots68.toArray) (by rw [wx_drew];exact hfirst _) (by decide) (by decide) hDb (by omega)
 generalize hcap:grownCap (wx w (dr+1) L) (3+14) 3 T.tD=cap at happ
 have hcge:17≤cap:=by
  rw [← hcap];unfold grownCap Question.cut;exact Nat.le_add_right _ _
 rw [wx_drew,wx_alloc,wx_size,hN,hLl,hz14] at happ
 obtain ⟨zs,hzs⟩ :∃zs:List Value,Builtin.zeroCells z.cells (cap-(3+14))=zs.toArray:=⟨_,(Array.toArray_toList).symm⟩
 rw [hzs] at happ
 generalize hnv:Value.slice (some ⟨N+9,0,none⟩) 17 cap=nv
 generalize hL1:L++[Obj.cells (slots68++z14++zs).toArray T.tD (0,0)]=L1
 have happ':(Builtin.append_ #[T.tS,T.tI] T.tS #[sl68 (N+3) 3,.int .i64 14]).run P (wx w (dr+1) L)=.ok nv (wx w (dr+1+1) L1):=by
  rw [← hnv,← hL1]
  refine happ.trans ?_
  simp
 have hq':=hq
 have g6:L1[6]?=some (.cells m5.toArray T.tM (0,0)):=by rw [← hL1,List.getElem?_append_left (by omega)];exact hL6
 have g5:L1[5]?=some (.cells f5.toArray T.tF (0,0)):=by rw [← hL1,List.getElem?_append_left (by omega)];exact hL5
 have hf5:17<f5.length:=(List.getElem?_eq_some_iff.1 h517).1
 have opv :∀{j:Nat} {oo:Oper} {K:Act→World→Prop} {c:Act} {W W':World} {s p s' p' d:Nat},(ops37 ps T.tM T.tFus T.tF T.tS T.tI)[j]?=some oo→oo.guard=none→oo.dst=some d→hwK68 d=true→d≠297→F37 nt a N i nv s p c→(∀t,d37 s' p' t=true→t=d∨d37 s p t=true)→
   (execOp c.eval oo).run P W=.ok (.value (v37 N nv d)) W'→(∀c',F37 nt a N i nv s' p' c'→K c' W')→wpOp P (ops37 ps T.tM T.tFus T.tF T.tS T.tI) Q j K c W:=by
  intro j oo K c W W' s p s' p' d h1 h2 h3 h4 h5 h6 h7 h8 h9
  exact step_val (G:=⟨fun _ _=>none,fun _ _=>none,fun _ _=>none,fun _=>none,fun _=>none⟩) (nt:=0) h1 h2 h8 (by rw [h3];exact h9 _ (h6.put hnt h4 h5 h7))
 -- the chain of two
 have A0 :∀{s dd:Nat} {LL:List Obj} {K:Act→World→Prop} {c:Act},F37 nt a N i nv s 0 c→(∀c',F37 nt a N i nv s 1 c'→K c' (wx w dd LL))→wpOp P (ops37 ps T.tM T.tFus T.tF T.tS T.tI) Q 0 K c (wx w dd LL):=by
  intro s dd LL K c h h2
  refine opv (d:=340) rfl rfl rfl rfl (by decide) h (fun t=>d37_p) ?_ h2
  simp only [execOp]
  refine run_val ?_
  rw [show c.eval (.tmp 12)=_ from h.A.m]
  exact run_fad T.kM T.M2 T.Fus (by rw [T.Fus1];decide) _ _
 have A1 :∀{s dd:Nat} {LL:List Obj} {K:Act→World→Prop} {c:Act},LL[6]?=some (.cells m5.toArray T.tM (0,0))→F37 nt a N i nv s 1 c→(∀c',F37 nt a N i nv s 2 c'→K c' (wx w dd LL))→wpOp P (ops37 ps T.tM T.tFus T.tF T.tS T.tI) Q 1 K c (wx w dd LL):=by
  intro s dd LL K c hl h h2
  refine opv (d:=341) rfl rfl rfl rfl (by decide) h (fun t=>d37_p) ?_ h2
  simp only [execOp]
  refine run_val ?_
  rw [show c.eval (.tmp 340)=.pointer (some ⟨N+6,0+2,none⟩) from h.v 340 (by unfold d37;simp)]
  exact x_load1 T.Fus.kind T.Fusa hN hl h62
 -- the chain of six
 have B0 :∀{p:Nat} {K:Act→World→Prop} {c:Act},F37 nt a N i nv 0 p c→(∀c',F37 nt a N i nv 1 p c'→K c' (wx w (dr+1) L))→wpOp P (ops37 ps T.tM T.tFus T.tF T.tS T.tI) Q 2 K c (wx w (dr+1) L):=by
  intro p K c h h2
  refine opv (d:=342) rfl rfl rfl rfl (by decide) h (fun t=>d37_s) ?_ h2
  simp only [execOp]
  refine run_val ?_
  rw [show c.eval (.tmp 12)=_ from h.A.m]
  exact run_fad T.kM T.M2 T.Fus (by rw [T.Fus1];decide) _ _
 have B1 :∀{p:Nat} {K:Act→World→Prop} {c:Act},F37 nt a N i nv 1 p c→(∀c',F37 nt a N i nv 2 p c'→K c' (wx w (dr+1) L))→wpOp P (ops37 ps T.tM T.tFus T.tF T.tS T.tI) Q 3 K c (wx w (dr+1) L):=by
  intro p K c h h2
  refine opv (d:=343) rfl rfl rfl rfl (by decide) h (fun t=>d37_s) ?_ h2
  simp only [execOp]
  refine run_val ?_
  rw [show c.eval (.tmp 342)=.pointer (some ⟨N+6,0+2,none⟩) from h.v 342 (by unfold d37;simp)]
  exact x_load1 T.Fus.kind T.Fusa hN hL6 h62
 have B2 :∀{p:Nat} {K:Act→World→Prop} {c:Act},F37 nt a N i nv 2 p c→(∀c',F37 nt a N i nv 3 p c'→K c' (wx w (dr+1) L))→wpOp P (ops37 ps T.tM T.tFus T.tF T.tS T.tI) Q 4 K c (wx w (dr+1) L):=by
  intro p K c h h2
  refine opv (d:=344) rfl rfl rfl rfl (by decide) h (fun t=>d37_s) ?_ h2
  simp only [execOp]
  refine run_val ?_
  rw [show c.eval (.tmp 343)=.slice (some ⟨N+5,0,none⟩) 3 3 from h.v 343 (by unfold d37;simp),show c.eval (.const (.int .i64 2))=.int .i64 2 from rfl]
  exact x_ia T.Fusu T.F (j:=2) rfl (by decide) (by rw [T.F7])
 have B3 :∀{p:Nat} {K:Act→World→Prop} {c:Act},F37 nt a N i nv 3 p c→(∀c',F37 nt a N i nv 4 p c'→K c' (wx w (dr+1) L))→wpOp P (ops37 ps T.tM T.tFus T.tF T.tS T.tI) Q 5 K c (wx w (dr+1) L):=by
  intro p K c h h2
  refine opv (d:=345) rfl rfl rfl rfl (by decide) h (fun t=>d37_s) ?_ h2
  simp only [execOp]
  refine run_val ?_
  rw [show c.eval (.tmp 344)=.pointer (some ⟨N+5,14,none⟩) from h.v 344 (by unfold d37;simp)]
  exact run_fad T.kF T.F3 T.S (by rw [T.S1];decide) _ _
 have B4 :∀{p:Nat} {K:Act→World→Prop} {c:Act},F37 nt a N i nv 4 p c→(∀c',F37 nt a N i nv 5 p c'→K c' (wx w (dr+1) L))→wpOp P (ops37 ps T.tM T.tFus T.tF T.tS T.tI) Q 6 K c (wx w (dr+1) L):=by
  intro p K c h h2
  refine opv (d:=346) rfl rfl rfl rfl (by decide) h (fun t=>d37_s) ?_ h2
  simp only [execOp]
  refine run_val ?_
  rw [show c.eval (.tmp 345)=.pointer (some ⟨N+5,14+3,none⟩) from h.v 345 (by unfold d37;simp)]
  exact x_load1 T.S.kind T.Sa hN hL5 h517
 have B5 :∀{p:Nat} {K:Act→World→Prop} {c:Act},F37 nt a N i nv 5 p c→(∀c',F37 nt a N i nv 6 p c'→K c' (wx w (dr+1+1) L1))→wpOp P (ops37 ps T.tM T.tFus T.tF T.tS T.tI) Q 7 K c (wx w (dr+1) L):=by
  intro p K c h h2
  refine opv (oo:=⟨some 347,.call ⟨.builtin .append,#[.tmp 346,.const (.int .i64 14)],#[T.tS,T.tI]⟩,T.tS,ps,#[⟨6,.data⟩],none⟩) (d:=347) rfl rfl rfl rfl (by decide) h (fun t=>d37_s) ?_ h2
  rw [execOp_builtin]
  simp only [builtin_append]
  refine run_val ?_
  rw [show (#[.tmp 346,.const (.int .i64 14)]:Array Operand).map c.eval=#[sl68 (N+3) 3,.int .i64 14] from by
   have e:c.eval (.tmp 346)=sl68 (N+3) 3:=h.v 346 (by unfold d37;simp)
   simp only [List.map_toArray,List.map_cons,List.map_nil,e];rfl]
  exact happ'
 -- what both are followed by
 have fin :∀c,F37 nt a N i nv 6 2 c→wpAny P .any (ops37 ps T.tM T.tFus T.tF T.tS T.tI) Q 3 #[true,true,true,true,true,true,true,true,false,false,false] c (wx w (dr+1+1) L1):=by
  intro c h
  refine wpAny_all (rs:=[8]) (by kernel_rfl) (by simp) fun j hj=>?_
  rw [List.mem_singleton.1 hj]
  refine step_val (G:=⟨fun _ _=>none,fun _ _=>none,fun _ _=>none,fun _=>none,fun _=>none⟩) (nt:=0) (v:=.pointer (some ⟨N+5,14,none⟩)) (w':=wx w (dr+1+1) L1) rfl rfl ?_ ?_
  ·simp only [execOp]
   refine run_val ?_
   rw [show c.eval (.tmp 341)=.slice (some ⟨N+5,0,none⟩) 3 3 from h.v 341 (by unfold d37;simp),show c.eval (.const (.int .i64 2))=.int .i64 2 from rfl]
   exact x_ia T.Fusu T.F (j:=2) rfl (by decide) (by rw [T.F7])
  show wpAny P .any (ops37 ps T.tM T.tFus T.tF T.tS T.tI) Q 2 #[true,true,true,true,true,true,true,true,true,false,false] (c.put (some 348) (.pointer (some ⟨N+5,14,none⟩))) _
  have hA1:=h.A.put hnt (d:=348) rfl (by decide) (.pointer (some ⟨N+5,14,none⟩))
  have e1:tv (c.put (some 348) (.pointer (some ⟨N+5,14,none⟩))) 348=.pointer (some ⟨N+5,14,none⟩):=by rw [tv_put _ _ _ _ (by rw [h.A.sz];omega),if_pos rfl]
  have e2:tv (c.put (some 348) (.pointer (some ⟨N+5,14,none⟩))) 347=nv:=by rw [tv_put _ _ _ _ (by rw [h.A.sz];omega),if_neg (by decide)];exact h.v 347 (by unfold d37;simp)
  generalize c.put (some 348) (.pointer (some ⟨N+5,14,none⟩))=c1 at hA1 e1 e2 ⊢
  refine wpAny_all (rs:=[9]) (by kernel_rfl) (by simp) fun j hj=>?_
  rw [List.mem_singleton.1 hj]
  refine step_val (G:=⟨fun _ _=>none,fun _ _=>none,fun _ _=>none,fun _=>none,fun _=>none⟩) (nt:=0) (v:=.pointer (some ⟨N+5,14+3,none⟩)) (w':=wx w (dr+1+1) L1) rfl rfl ?_ ?_
  ·simp only [execOp]
   refine run_val ?_
   rw [show c1.eval (.tmp 348)=.pointer (some ⟨N+5,14,none⟩) from e1]
   exact run_fad T.kF T.F3 T.S (by rw [T.S1];decide) _ _
  show wpAny P .any (ops37 ps T.tM T.tFus T.tF T.tS T.tI) Q 1 #[true,true,true,true,true,true,true,true,true,true,false] (c1.put (some 349) (.pointer (some ⟨N+5,14+3,none⟩))) _
  have hA2:=hA1.put hnt (d:=349) rfl (by decide) (.pointer (some ⟨N+5,14+3,none⟩))
  have e3:tv (c1.put (some 349) (.pointer (some ⟨N+5,14+3,none⟩))) 349=.pointer (some ⟨N+5,14+3,none⟩):=by rw [tv_put _ _ _ _ (by rw [hA1.sz];omega),if_pos rfl]
  have e4:tv (c1.put (some 349) (.pointer (some ⟨N+5,14+3,none⟩))) 347=nv:=by rw [tv_put _ _ _ _ (by rw [hA1.sz];omega),if_neg (by decide)];exact e2
  generalize c1.put (some 349) (.pointer (some ⟨N+5,14+3,none⟩))=c2 at hA2 e3 e4 ⊢
  refine wpAny_all (rs:=[10]) (by kernel_rfl) (by simp) fun j hj=>?_
  rw [List.mem_singleton.1 hj]
  unfold wpOp
  rw [show (ops37 ps T.tM T.tFus T.tF T.tS T.tI)[10]?=some (opE37 ps T.tS) from rfl]
  simp only
  rw [if_pos (show Region.wanted (opE37 ps T.tS) (yielded (ops37 ps T.tM T.tFus T.tF T.tS T.tI) c2.tmps)=true from rfl)]
  refine .inl ?_
  unfold Oper.wp
  have hnv1:nv.oneCell'=true:=by rw [← hnv];rfl
  have hnv2:nv.cells=[nv].toArray:=by rw [← hnv];rfl
  have hst:=x_store (P:=P) (n:=dr+1+1) (us:=[nv]) (off:=14+3) T.S hN g5 hnv2 (by rw [T.S1];rfl) (by rw [T.S1];omega) (by simpa using hnv1) (by rw [T.S1]) rfl
  have hrun:(execOp c2.eval (opE37 ps T.tS)).run P (wx w (dr+1+1) L1)=.ok .skip (wx w (dr+1+1) (L1.set 5 (.cells (f5.take 17++[nv]++f5.drop 18).toArray T.tF (0,0)))):=by
   simp only [execOp,opE37]
   refine run_unit ?_
   rw [show c2.eval (.tmp 349)=.pointer (some ⟨N+5,14+3,none⟩) from e3,show c2.eval (.tmp 347)=nv from e4]
   exact hst
  rw [hrun,Oper.upon_skip]
  show wpAny P .any _ Q 0 #[true,true,true,true,true,true,true,true,true,true,true] c2 _
  refine wpAny_done (by kernel_rfl) ?_ 0
  have:=hq c2 zs cap hcge hA2
  rw [hL1,hnv] at this
  exact this
 have C61 :∀c,F37 nt a N i nv 6 1 c→wpAny P .any (ops37 ps T.tM T.tFus T.tF T.tS T.tI) Q 4 #[true,false,true,true,true,true,true,true,false,false,false] c (wx w (dr+1+1) L1):=by
  intro c h
  refine wpAny_all (rs:=[1]) (by kernel_rfl) (by simp) fun j hj=>?_
  rw [List.mem_singleton.1 hj]
  exact A1 g6 h fin
 have C60 :∀c,F37 nt a N i nv 6 0 c→wpAny P .any (ops37 ps T.tM T.tFus T.tF T.tS T.tI) Q 5 #[false,false,true,true,true,true,true,true,false,false,false] c (wx w (dr+1+1) L1):=by
  intro c h
  refine wpAny_all (rs:=[0]) (by kernel_rfl) (by simp) fun j hj=>?_
  rw [List.mem_singleton.1 hj]
  exact A0 h C61
 have C52 :∀c,F37 nt a N i nv 5 2 c→wpAny P .any (ops37 ps T.tM T.tFus T.tF T.tS T.tI) Q 4 #[true,true,true,true,true,true,true,false,false,false,false] c (wx w (dr+1) L):=by
  intro c h
  refine wpAny_all (rs:=[7]) (by kernel_rfl) (by simp) fun j hj=>?_
  rw [List.mem_singleton.1 hj]
  exact B5 h fin
 have C51 :∀c,F37 nt a N i nv 5 1 c→wpAny P .any (ops37 ps T.tM T.tFus T.tF T.tS T.tI) Q 5 #[true,false,true,true,true,true,true,false,false,false,false] c (wx w (dr+1) L):=by
  intro c h
  refine wpAny_all (rs:=[1,7]) (by kernel_rfl) (by simp) fun j hj=>?_
  simp only [List.mem_cons,List.not_mem_nil,or_false] at hj
  rcases hj with rfl | rfl
  ·exact A1 hL6 h C52
  ·exact B5 h C61
 have C50 :∀c,F37 nt a N i nv 5 0 c→wpAny P .any (ops37 ps T.tM T.tFus T.tF T.tS T.tI) Q 6 #[false,false,true,true,true,true,true,false,false,false,false] c (wx w (dr+1) L):=by
  intro c h
  refine wpAny_all (rs:=[0,7]) (by kernel_rfl) (by simp) fun j hj=>?_
  simp only [List.mem_cons,List.not_mem_nil,or_false] at hj
  rcases hj with rfl | rfl
  ·exact A0 h C51
  ·exact B5 h C60
 have C42 :∀c,F37 nt a N i nv 4 2 c→wpAny P .any (ops37 ps T.tM T.tFus T.tF T.tS T.tI) Q 5 #[true,true,true,true,true,true,false,false,false,false,false] c (wx w (dr+1) L):=by
  intro c h
  refine wpAny_all (rs:=[6]) (by kernel_rfl) (by simp) fun j hj=>?_
  rw [List.mem_singleton.1 hj]
  exact B4 h C52
 have C41 :∀c,F37 nt a N i nv 4 1 c→wpAny P .any (ops37 ps T.tM T.tFus T.tF T.tS T.tI) Q 6 #[true,false,true,true,true,true,false,false,false,false,false] c (wx w (dr+1) L):=by
  intro c h
  refine wpAny_all (rs:=[1,6]) (by kernel_rfl) (by simp) fun j hj=>?_
  simp only [List.mem_cons,List.not_mem_nil,or_false] at hj
  rcases hj with rfl | rfl
  ·exact A1 hL6 h C42
  ·exact B4 h C51
 have C40 :∀c,F37 nt a N i nv 4 0 c→wpAny P .any (ops37 ps T.tM T.tFus T.tF T.tS T.tI) Q 7 #[false,false,true,true,true,true,false,false,false,false,false] c (wx w (dr+1) L):=by
  intro c h
  refine wpAny_all (rs:=[0,6]) (by kernel_rfl) (by simp) fun j hj=>?_
  simp only [List.mem_cons,List.not_mem_nil,or_false] at hj
  rcases hj with rfl | rfl
  ·exact A0 h C41
  ·exact B4 h C50
 have C32 :∀c,F37 nt a N i nv 3 2 c→wpAny P .any (ops37 ps T.tM T.tFus T.tF T.tS T.tI) Q 6 #[true,true,true,true,true,false,false,false,false,false,false] c (wx w (dr+1) L):=by
  intro c h
  refine wpAny_all (rs:=[5]) (by kernel_rfl) (by simp) fun j hj=>?_
  rw [List.mem_singleton.1 hj]
  exact B3 h C42
 have C31 :∀c,F37 nt a N i nv 3 1 c→wpAny P .any (ops37 ps T.tM T.tFus T.tF T.tS T.tI) Q 7 #[true,false,true,true,true,false,false,false,false,false,false] c (wx w (dr+1) L):=by
  intro c h
  refine wpAny_all (rs:=[1,5]) (by kernel_rfl) (by simp) fun j hj=>?_
  simp only [List.mem_cons,List.not_mem_nil,or_false] at hj
  rcases hj with rfl | rfl
  ·exact A1 hL6 h C32
  ·exact B3 h C41
 have C30 :∀c,F37 nt a N i nv 3 0 c→wpAny P .any (ops37 ps T.tM T.tFus T.tF T.tS T.tI) Q 8 #[false,false,true,true,true,false,false,false,false,false,false] c (wx w (dr+1) L):=by
  intro c h
  refine wpAny_all (rs:=[0,5]) (by kernel_rfl) (by simp) fun j hj=>?_
  simp only [List.mem_cons,List.not_mem_nil,or_false] at hj
  rcases hj with rfl | rfl
  ·exact A0 h C31
  ·exact B3 h C40
 have C22 :∀c,F37 nt a N i nv 2 2 c→wpAny P .any (ops37 ps T.tM T.tFus T.tF T.tS T.tI) Q 7 #[true,true,true,true,false,false,false,false,false,false,false] c (wx w (dr+1) L):=by
  intro c h
  refine wpAny_all (rs:=[4]) (by kernel_rfl) (by simp) fun j hj=>?_
  rw [List.mem_singleton.1 hj]
  exact B2 h C32
 have C21 :∀c,F37 nt a N i nv 2 1 c→wpAny P .any (ops37 ps T.tM T.tFus T.tF T.tS T.tI) Q 8 #[true,false,true,true,false,false,false,false,false,false,false] c (wx w (dr+1) L):=by
  intro c h
  refine wpAny_all (rs:=[1,4]) (by kernel_rfl) (by simp) fun j hj=>?_
  simp only [List.mem_cons,List.not_mem_nil,or_false] at hj
  rcases hj with rfl | rfl
  ·exact A1 hL6 h C22
  ·exact B2 h C31
 have C20 :∀c,F37 nt a N i nv 2 0 c→wpAny P .any (ops37 ps T.tM T.tFus T.tF T.tS T.tI) Q 9 #[false,false,true,true,false,false,false,false,false,false,false] c (wx w (dr+1) L):=by
  intro c h
  refine wpAny_all (rs:=[0,4]) (by kernel_rfl) (by simp) fun j hj=>?_
  simp only [List.mem_cons,List.not_mem_nil,or_false] at hj
  rcases hj with rfl | rfl
  ·exact A0 h C21
  ·exact B2 h C30
 have C12 :∀c,F37 nt a N i nv 1 2 c→wpAny P .any (ops37 ps T.tM T.tFus T.tF T.tS T.tI) Q 8 #[true,true,true,false,false,false,false,false,false,false,false] c (wx w (dr+1) L):=by
  intro c h
  refine wpAny_all (rs:=[3]) (by kernel_rfl) (by simp) fun j hj=>?_
  rw [List.mem_singleton.1 hj]
  exact B1 h C22
 have C11 :∀c,F37 nt a N i nv 1 1 c→wpAny P .any (ops37 ps T.tM T.tFus T.tF T.tS T.tI) Q 9 #[true,false,true,false,false,false,false,false,false,false,false] c (wx w (dr+1) L):=by
  intro c h
  refine wpAny_all (rs:=[1,3]) (by kernel_rfl) (by simp) fun j hj=>?_
  simp only [List.mem_cons,List.not_mem_nil,or_false] at hj
  rcases hj with rfl | rfl
  ·exact A1 hL6 h C12
  ·exact B1 h C21
 have C10 :∀c,F37 nt a N i nv 1 0 c→wpAny P .any (ops37 ps T.tM T.tFus T.tF T.tS T.tI) Q 10 #[false,false,true,false,false,false,false,false,false,false,false] c (wx w (dr+1) L):=by
  intro c h
  refine wpAny_all (rs:=[0,3]) (by kernel_rfl) (by simp) fun j hj=>?_
  simp only [List.mem_cons,List.not_mem_nil,or_false] at hj
  rcases hj with rfl | rfl
  ·exact A0 h C11
  ·exact B1 h C20
 have C02 :∀c,F37 nt a N i nv 0 2 c→wpAny P .any (ops37 ps T.tM T.tFus T.tF T.tS T.tI) Q 9 #[true,true,false,false,false,false,false,false,false,false,false] c (wx w (dr+1) L):=by
  intro c h
  refine wpAny_all (rs:=[2]) (by kernel_rfl) (by simp) fun j hj=>?_
  rw [List.mem_singleton.1 hj]
  exact B0 h C12
 have C01 :∀c,F37 nt a N i nv 0 1 c→wpAny P .any (ops37 ps T.tM T.tFus T.tF T.tS T.tI) Q 10 #[true,false,false,false,false,false,false,false,false,false,false] c (wx w (dr+1) L):=by
  intro c h
  refine wpAny_all (rs:=[1,2]) (by kernel_rfl) (by simp) fun j hj=>?_
  simp only [List.mem_cons,List.not_mem_nil,or_false] at hj
  rcases hj with rfl | rfl
  ·exact A1 hL6 h C02
  ·exact B0 h C11
 have C00 :∀c,F37 nt a N i nv 0 0 c→wpAny P .any (ops37 ps T.tM T.tFus T.tF T.tS T.tI) Q 11 #[false,false,false,false,false,false,false,false,false,false,false] c (wx w (dr+1) L):=by
  intro c h
  refine wpAny_all (rs:=[0,2]) (by kernel_rfl) (by simp) fun j hj=>?_
  simp only [List.mem_cons,List.not_mem_nil,or_false] at hj
  rcases hj with rfl | rfl
  ·exact A0 h C01
  ·exact B0 h C10
 exact C00 b ⟨hA,fun t ht=>by
  unfold d37 at ht
  simp only [Bool.or_eq_true,Bool.and_eq_true,Nat.blt_eq,Nat.ble_eq] at ht
  omega⟩
end
end Go.AM
