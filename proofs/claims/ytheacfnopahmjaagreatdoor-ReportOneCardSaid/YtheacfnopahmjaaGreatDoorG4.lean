/- Parts of the proof: U39a, U39b, U39c, U39d, U39e, U40a, U40b, U40c, U40d, U40e, U40f, U40g. -/
import Derived.Test.YtheacfnopahmjaaGreatDoorG2
set_option linter.all false
/- Yf of the proof. -/
namespace Go.AM
open Go
set_option linter.unusedVariables false
set_option linter.unusedSimpArgs false
set_option maxRecDepth 4000
set_option maxHeartbeats 2000000
attribute [local irreducible] Decidable.decide W WO Wq Ws
def Yeg:List AI:=[oO 0 (.alloc [zs,zs,zs,zs])]
def Yjh:List AI:=[oO 1 (.build [zs,zs,zs,zs] [(1,1,(.c (.s [102,97,117,108,116,32,49,58,32,100,105,118,105,115,105,111,110,32,98,121,32,122,101,114,111]))),(2,1,(.c (.s [102,97,117,108,116,32,50,58,32,110,105,108,32,112,111,105,110,116,101,114]))),(3,1,(.c (.s [102,97,117,108,116,32,51,58,32,111,117,116,32,111,102,32,114,97,110,103,101])))]),oS 4 0 1]
abbrev Ys4:AC:=(sR 0 Yeg (sR 1 Yjh .ret))
def Ez:AF:={ nt:=2,res:=[.cell 0 4 true],body:=Ys4 }
abbrev Xzx (Q:AE->Sl->St->Prop)(K:LB->Prop):Prop:=∀(σ:Sl)(st:St)(k0:Zo)(v0:Nat)(res0:LB),σ 0=.p k0 v0 0->lk st.bx k0=some (v0,List.map AV.s res0)->res0.length=4->K res0->Q .ret σ st
def Zzd (PG:Za)(K:LB->Prop) :Prop:=
  K [[],([102,97,117,108,116,32,49,58,32,100,105,118,105,115,105,111,110,32,98,121,32,122,101,114,111]:BS),([102,97,117,108,116,32,50,58,32,110,105,108,32,112,111,105,110,116,101,114]:BS),([102,97,117,108,116,32,51,58,32,111,117,116,32,111,102,32,114,97,110,103,101]:BS)]
section
variable {PG:Za}{d:Nat}{Q:AE->Sl->St->Prop}{K:LB->Prop}(hQ:Xzx Q K){σ:Sl}{st:St}
include hQ
theorem Xb8 (h:Zzd PG K ):W PG d (sR 0 Yeg (sR 1 Yjh .ret)) σ st Q:=
 Zm (W.reg (Xs (e_ (q_ J (Cz (f:=AV.s) (l:=[[],([102,97,117,108,116,32,49,58,32,100,105,118,105,115,105,111,110,32,98,121,32,122,101,114,111]:BS),([102,97,117,108,116,32,50,58,32,110,105,108,32,112,111,105,110,116,101,114]:BS),([102,97,117,108,116,32,51,58,32,111,117,116,32,111,102,32,114,97,110,103,101]:BS)]) (Yl J J (Yl J J (Yl J J Xn))) J (Lb (f:=AV.s) (fun _=>J) J (show lk _ (d,0)=some (_,(List.map AV.s (List.replicate 4 ([]:BS)):List AV)) from Zi) (by simp) J J (Zp (hQ _ _ _ _ _ J Zi (by simp) h))))))))
end
theorem Yod {PG:Za}(hf:PG.fn 178=some Ez)  {K:LB->Prop}(h:Zzd PG K ) :∃res0:LB,K res0/\Ze PG 178 [] (.ag (List.map AV.s res0)):=by
  obtain ⟨v,hv,res0,hk,rfl⟩:=Ze.of (K:=fun v=>∃res0:LB,K res0/\v=.ag (List.map AV.s res0)) hf rfl (Xb8 (σ:=Xz []) (fun σ st k0 v0  res0 H0 HB0 HL0 hk=>⟨.ag (List.map AV.s res0),by simp only [Ez,Xg,Vc,Jq (n:=4) H0 HB0 (by simpa using HL0),Ks,Option.map_some],_,Zbo AV.s (fun _=>rfl) _,res0,hk,rfl⟩)  h)
  exact ⟨res0,hk,hv⟩
def Ye2:List AI:=[oO 0 (.alloc [z8,z8,z8,z8,z8])]
def Ybn:List AI:=[oO 1 (.build [z8,z8,z8,z8,z8] [(1,1,(.c (.i .u8 2))),(2,1,(.c (.i .u8 1))),(3,1,(.c (.i .u8 3))),(4,1,(.c (.i .u8 2)))]),oS 5 0 1]
abbrev Xqa:AC:=(sR 0 Ye2 (sR 1 Ybn .ret))
def Fo:AF:={ nt:=2,res:=[.cell 0 5 true],body:=Xqa }
abbrev Ypg (Q:AE->Sl->St->Prop)(K:BS->Prop):Prop:=∀(σ:Sl)(st:St)(k0:Zo)(v0:Nat)(res0:BS),σ 0=.p k0 v0 0->lk st.bx k0=some (v0,List.map c8 res0)->res0.length=5->K res0->Q .ret σ st
def Yku (PG:Za)(K:BS->Prop) :Prop:=
  K [0,(2:UInt8),(1:UInt8),(3:UInt8),(2:UInt8)]
section
variable {PG:Za}{d:Nat}{Q:AE->Sl->St->Prop}{K:BS->Prop}(hQ:Ypg Q K){σ:Sl}{st:St}
include hQ
theorem Yn6 (h:Yku PG K ):W PG d (sR 0 Ye2 (sR 1 Ybn .ret)) σ st Q:=
 Zm (W.reg (Xs (e_ (q_ J (Cz (f:=c8) (l:=[0,(2:UInt8),(1:UInt8),(3:UInt8),(2:UInt8)]) (Yl J J (Yl J J (Yl J J (Yl J J Xn)))) J (Lb (f:=c8) (fun _=>J) J (show lk _ (d,0)=some (_,(List.map c8 (List.replicate 5 (0:UInt8)):List AV)) from Zi) (by simp) J J (Zp (hQ _ _ _ _ _ J Zi (by simp) h))))))))
end
theorem Xf4 {PG:Za}(hf:PG.fn 183=some Fo)  {K:BS->Prop}(h:Yku PG K ) :∃res0:BS,K res0/\Ze PG 183 [] (.ag (List.map c8 res0)):=by
  obtain ⟨v,hv,res0,hk,rfl⟩:=Ze.of (K:=fun v=>∃res0:BS,K res0/\v=.ag (List.map c8 res0)) hf rfl (Yn6 (σ:=Xz []) (fun σ st k0 v0  res0 H0 HB0 HL0 hk=>⟨.ag (List.map c8 res0),by simp only [Fo,Xg,Vc,Jq (n:=5) H0 HB0 (by simpa using HL0),Ks,Option.map_some],_,Zbo c8 (fun _=>rfl) _,res0,hk,rfl⟩)  h)
  exact ⟨res0,hk,hv⟩
def Yjo:List AI:=[oC 4 (.b false)]
def Yai:List AI:=[oM 5 0,oH 6 5,oM 7 1,oH 8 7,oT 9 .geq 6 8,oM 10 9,gT 10 (oM 11 0),gT 10 (oM 12 0),gT 10 (oH 13 12),gT 10 (oM 14 1),gT 10 (oH 15 14),gT 10 (oT 16 .sub 13 15),gT 10 (oO 17 (.slS (.t 11) (some (.t 16)) none)),gT 10 (oM 18 1),gT 10 (oT 19 .eql 17 18),oA 20 10 19,oM 4 20]
abbrev Xyh:AC:=(sR 0 Yjo (sR 1 Yai .ret))
def Zfm:AF:={ nt:=21,res:=[.tmp 4],body:=Xyh }
def Zqb (PG:Za)(K:Bool->Prop)(s0:BS)(suffix1:BS):Prop:=
  ((s0.length:Int)>=(suffix1.length:Int)->0<=(IntKind.i64.wrap ((s0.length:Int)-(suffix1.length:Int)))/\(IntKind.i64.wrap ((s0.length:Int)-(suffix1.length:Int))).toNat<=s0.length/\K (decide ((s0.drop (IntKind.i64.wrap ((s0.length:Int)-(suffix1.length:Int))).toNat)=suffix1)))/\(¬((s0.length:Int)>=(suffix1.length:Int))->K false)
section
variable {PG:Za}{d:Nat}{Q:AE->Sl->St->Prop}{K:Bool->Prop}(hQ:H1 AV.b 4 Q K){σ:Sl}{st:St}
include hQ
variable {s0 suffix1:BS}
variable (H0:σ 0=.s s0)(H1:σ 1=.s suffix1)
include H0 H1 in
theorem Xtn (h:Zqb PG K s0 suffix1):W PG d (sR 0 Yjo (sR 1 Yai .ret)) σ st Q:=
 au trivial
end
theorem Xhc {PG:Za}(hf:PG.fn 191=some Zfm){s0:BS}{suffix1:BS}{K:Bool->Prop}(h:Zqb PG K s0 suffix1) :∃res0:Bool,K res0/\Ze PG 191 [.s s0,.s suffix1] (.b res0):=
 P1 hf J (Xtn (h1 J fun _=>J) J J h)
abbrev Xeo (Q:AE->Sl->St->Prop)(K:Bool->Prop):Prop:=∀(σ:Sl)(st:St)(res0:Bool),σ 4=.b res0->K res0->Q .ret σ st
section
variable {PG:Za}{d:Nat}{Q:AE->Sl->St->Prop}{K:Bool->Prop}(hQ:Xeo Q K){σ:Sl}{st:St}
include hQ
end
def Yay:List AI:=[oC 4 (.s []),oC 5 (.b false)]
def Zxi:List AI:=[oM 6 0,oM 7 1,oQ 8 191 [6,7],oZ 9 8]
def Zun:List AI:=[oM 10 0,oM 4 10,oC 5 (.b false)]
def Ybh:List AI:=[oM 11 0,oM 12 0,oH 13 12,oM 14 1,oH 15 14,oT 16 .sub 13 15,oO 17 (.slS (.t 11) none (some (.t 16))),oM 4 17,oC 5 (.b true)]
abbrev Xsy:AC:=(sR 0 Yay (.seq (sR 1 Zxi (.cond (.t 9) (sR 2 Zun .ret) .skip)) (sR 3 Ybh .ret)))
def Zem:AF:={ nt:=18,res:=[.tmp 4,.tmp 5],body:=Xsy }
def Zi0 (PG:Za)(K:BS->Bool->Prop)(s0:BS)(suffix1:BS):Prop:=
  ∃c,Ze PG 191 [.s s0,.s suffix1] (.b c)/\((!c)=true->K s0 false)/\((!c)=false->0<=(IntKind.i64.wrap ((s0.length:Int)-(suffix1.length:Int)))/\(IntKind.i64.wrap ((s0.length:Int)-(suffix1.length:Int))).toNat<=s0.length/\K (s0.take (IntKind.i64.wrap ((s0.length:Int)-(suffix1.length:Int))).toNat) true)
section
variable {PG:Za}{d:Nat}{Q:AE->Sl->St->Prop}{K:BS->Bool->Prop}(hQ:H2 AV.s AV.b 4 5 Q K){σ:Sl}{st:St}
include hQ
variable {s0 suffix1:BS}
variable (H0:σ 0=.s s0)(H1:σ 1=.s suffix1)
include H0 H1 in
theorem Xo5 (h:Zi0 PG K s0 suffix1):W PG d (sR 0 Yay (.seq (sR 1 Zxi (.cond (.t 9) (sR 2 Zun .ret) .skip)) (sR 3 Ybh .ret))) σ st Q:=
 au trivial
end
theorem Xez {PG:Za}(hf:PG.fn 190=some Zem){s0:BS}{suffix1:BS}{K:BS->Bool->Prop}(h:Zi0 PG K s0 suffix1) :∃res0:BS,∃res1:Bool,K res0 res1/\Ze PG 190 [.s s0,.s suffix1] (.tup [.s res0,.b res1]):=
 P2 hf J (Xo5 (h2 J fun _ _=>J) J J h)
def Zx8:List AI:=[oC 4 (.s []),oC 5 (.b false)]
def Yhn:List AI:=[oM 6 0,oM 7 1,oQ 8 190 [6,7],oE 9 0 8,oE 10 1 8,oM 4 9,oM 5 10]
abbrev Xxs:AC:=(sR 0 Zx8 (sR 1 Yhn .ret))
def Zf2:AF:={ nt:=11,res:=[.tmp 4,.tmp 5],body:=Xxs }
def Zkw (PG:Za)(K:BS->Bool->Prop)(s0:BS)(suffix1:BS):Prop:=
  ∃c e,Ze PG 190 [.s s0,.s suffix1] (.tup [.s c,.b e])/\K c e
section
variable {PG:Za}{d:Nat}{Q:AE->Sl->St->Prop}{K:BS->Bool->Prop}(hQ:H2 AV.s AV.b 4 5 Q K){σ:Sl}{st:St}
include hQ
variable {s0 suffix1:BS}
variable (H0:σ 0=.s s0)(H1:σ 1=.s suffix1)
include H0 H1 in
theorem Xm7 (h:Zkw PG K s0 suffix1):W PG d (sR 0 Zx8 (sR 1 Yhn .ret)) σ st Q:=
 au trivial
end
theorem Wcy {PG:Za}(hf:PG.fn 180=some Zf2){s0:BS}{suffix1:BS}{K:BS->Bool->Prop}(h:Zkw PG K s0 suffix1) :∃res0:BS,∃res1:Bool,K res0 res1/\Ze PG 180 [.s s0,.s suffix1] (.tup [.s res0,.b res1]):=
 P2 hf J (Xm7 (h2 J fun _ _=>J) J J h)
abbrev Xfy (Q:AE->Sl->St->Prop)(K:BS->Bool->Prop):Prop:=∀(σ:Sl)(st:St)(res0:BS)(res1:Bool),σ 4=.s res0->σ 5=.b res1->K res0 res1->Q .ret σ st
section
variable {PG:Za}{d:Nat}{Q:AE->Sl->St->Prop}{K:BS->Bool->Prop}(hQ:Xfy Q K){σ:Sl}{st:St}
include hQ
end
def Zto:List AI:=[oY 1 7 0,oI 2 0]
def Wf3:List AI:=[oF 4 0 1,oL 5 4,oB 6 .gtr (.t 5) (.c (.i .u64 4)),oM 7 6,gF 7 (oF 8 1 1),gF 7 (oF 9 0 8),gF 7 (oL 10 9),gF 7 (oQ 11 183 []),gF 7 (oF 12 0 1),gF 7 (oL 13 12),gF 7 (oO 14 (.ixA 5 1 false (.t 11) (.t 13))),gF 7 (oT 15 .neq 10 14),oR 16 7 15]
def Whi:List AI:=[oI 2 8]
def Wg8:List AI:=[oF 17 0 1,oL 18 17,oB 19 .eql (.t 18) (.c (.i .u64 0))]
def Yma:List AI:=[oF 20 1 1,oK 21 5 20,oO 3 (.alloc [z8,z6,zs,zl,zb]),oS 5 3 21]
def Wa5:List AI:=[oF 22 1 3,oL 23 22,oV 24 .neq 23 0,oM 25 24,gF 25 (oF 26 2 3),gF 25 (oL 27 26),gF 25 (oB 28 .neq (.t 27) (.c (.s []))),oR 29 25 28,oM 30 29,gF 30 (oF 31 3 3),gF 30 (oL 32 31),gF 30 (oJ 33 32),gF 30 (oV 34 .gtr 33 0),oR 35 30 34,oM 36 35,gF 36 (oF 37 4 3),gF 36 (oL 38 37),oR 39 36 38,oM 40 39,gF 40 (oF 41 6 1),gF 40 (oL 42 41),gF 40 (oB 43 .andNot (.t 42) (.c (.i .u64 4))),gF 40 (oB 44 .neq (.t 43) (.c (.i .u64 2))),oR 45 40 44]
def Yqd:List AI:=[oI 2 8]
def Ypx:List AI:=[oI 2 0]
def We8:List AI:=[oF 46 6 1,oL 47 46,oB 48 .andNot (.t 47) (.c (.i .u64 5)),oB 49 .neq (.t 48) (.c (.i .u64 0)),oM 50 49,gF 50 (oF 51 0 1),gF 50 (oL 52 51),gF 50 (oB 53 .eql (.t 52) (.c (.i .u64 4))),gF 50 (oM 54 53),gT 54 (oF 55 1 1),gT 54 (oF 56 1 55),gT 54 (oL 57 56),gT 54 (oV 58 .lss 57 1),gT 54 (oM 59 58),gF 59 (oF 60 1 1),gF 59 (oF 61 1 60),gF 59 (oL 62 61),gF 59 (oV 63 .gtr 62 3),gT 54 (oR 64 59 63),gF 50 (oA 65 54 64),oR 66 50 65]
def Yne:List AI:=[oI 2 8]
def Xjs:List AI:=[oF 67 1 1,oK 68 5 67,oQ 69 76 [68],oM 2 69]
abbrev Zt9:AC:=(sR 10 Xjs .ret)
abbrev Yhl:AC:=(.seq (sR 8 We8 (.cond (.t 66) (sR 9 Yne .ret) .skip)) Zt9)
abbrev Yc5:AC:=(.seq (sR 3 Wg8 (.cond (.t 19) (sR 4 Yma (.seq (sR 5 Wa5 (.cond (.t 45) (sR 6 Yqd .ret) .skip)) (sR 7 Ypx .ret))) .skip)) Yhl)
abbrev Zj2:AC:=(.seq (sR 1 Wf3 (.cond (.t 16) (sR 2 Whi .ret) .skip)) Yc5)
abbrev Yss:AC:=(sR 0 Zto Zj2)
def Zb1:AF:={ nt:=70,res:=[.tmp 2],body:=Yss }
def Za4 (PG:Za)(K:Int->Prop)(m0:Zh):Prop:=
  ∃c,Ze PG 76 [m0.value.av] (.i .i64 c)/\K c
def Zqf (PG:Za)(K:Int->Prop)(m0:Zh):Prop:=
  ((Fc .u64 m0.flags 5)≠0->K 8)/\(¬((Fc .u64 m0.flags 5)≠0)->(m0.tag=4->(m0.value.int<1->K 8)/\(¬(m0.value.int<1)->(m0.value.int>3->K 8)/\(¬(m0.value.int>3)->Za4 PG K m0)))/\(¬(m0.tag=4)->Za4 PG K m0))
def Zq7 (PG:Za)(K:Int->Prop)(m0:Zh):Prop:=
  (m0.tag=0->(m0.value.int≠0->K 8)/\(¬(m0.value.int≠0)->(m0.value.text≠([]:BS)->K 8)/\(¬(m0.value.text≠([]:BS))->((m0.value.list.length:Int)>0->K 8)/\(¬((m0.value.list.length:Int)>0)->(m0.value.cut=true->K 8)/\(m0.value.cut=false->((Fc .u64 m0.flags 4)≠2->K 8)/\(¬((Fc .u64 m0.flags 4)≠2)->K 0))))))/\(¬(m0.tag=0)->Zqf PG K m0)
def Zqw (PG:Za)(K:Int->Prop)(m0:Zh):Prop:=
  (m0.tag>4->K 8)/\(¬(m0.tag>4)->∃c:BS,Ze PG 183 [] (.ag (List.map c8 c))/\c.length=5/\0<=m0.tag/\∃e:UInt8,(c:List (UInt8))[(m0.tag).toNat]?=some e/\(m0.value.kind≠(e.toNat:Int)->K 8)/\(¬(m0.value.kind≠(e.toNat:Int))->Zq7 PG K m0))
def Zlp (PG:Za)(K:Int->Prop)(p0:Zh):Prop:=
  Zqw PG K p0
section
variable {PG:Za}{d:Nat}{Q:AE->Sl->St->Prop}{K:Int->Prop}(hQ:H1 (AV.i .i64) 2 Q K){σ:Sl}{st:St}
include hQ
variable {m0:Zh}{v0:Nat}{p0:Zh}
variable (H1:σ 1=.p (d,0) v0 0)(H0:σ 0=p0.av)(B0:lk st.bx (d,0)=some (v0,Zh.cs m0))
include H1 B0 in
theorem Xwf (h:Za4 PG K m0):W PG d Zt9 σ st Q:=
 au trivial
include H1 B0 in
theorem Yu4 (h:Zqf PG K m0):W PG d Yhl σ st Q:=
 au @Xwf
include H1 B0 in
theorem Xbg (h:Zq7 PG K m0):W PG d Yc5 σ st Q:=
 au @Yu4
include H1 B0 in
theorem Whe (h:Zqw PG K m0):W PG d Zj2 σ st Q:=
 au @Xbg
include H0 in
theorem Wav (h:Zlp PG K p0):W PG d (sR 0 Zto Zj2) σ st Q:=
 au @Whe
end
theorem Whj {PG:Za}(hf:PG.fn 158=some Zb1){p0:Zh}{K:Int->Prop}(h:Zlp PG K p0) :∃res0:Int,K res0/\Ze PG 158 [p0.av] (.i .i64 res0):=
 P1 hf J (Wav (h1 J fun _=>J) J h)
abbrev Yz0 (Q:AE->Sl->St->Prop)(K:Int->Prop):Prop:=∀(σ:Sl)(st:St)(res0:Int),σ 2=.i .i64 res0->K res0->Q .ret σ st
section
variable {PG:Za}{d:Nat}{Q:AE->Sl->St->Prop}{K:Int->Prop}(hQ:Yz0 Q K){σ:Sl}{st:St}
include hQ
end
abbrev Ytv (Q:AE->Sl->St->Prop)(K:BS->Prop):Prop:=∀(σ:Sl)(st:St)(res0:BS),σ 2=.s res0->K res0->Q .ret σ st
section
variable {PG:Za}{d:Nat}{Q:AE->Sl->St->Prop}{K:BS->Prop}(hQ:Ytv Q K){σ:Sl}{st:St}
include hQ
end
def Yik:List AI:=[oY 1 7 0,oC 2 (.s []),oI 3 0]
def Zzc:List AI:=[oK 8 7 1,oQ 9 158 [8],oM 4 9]
def Zu7:List AI:=[oM 10 4,oV 11 .neq 10 0]
def Zw4:List AI:=[oM 12 4,oC 2 (.s []),oM 3 12]
def Yc4:List AI:=[oC 5 (.s [101,120,105,116])]
def Zx6:List AI:=[oF 13 0 1,oL 14 13]
def Yl0:List AI:=[oB 27 .eql (.t 14) (.c (.i .u64 0)),oM 26 27]
def Zvb:List AI:=[oB 29 .eql (.t 14) (.c (.i .u64 4)),oM 28 29]
def Ydl:List AI:=[oQ 30 178 [],oF 31 1 1,oF 32 1 31,oL 33 32,oO 34 (.ixA 4 1 false (.t 30) (.t 33)),oM 5 34]
def Yid:List AI:=[oF 16 1 1,oK 17 5 16,oQ 18 72 [17],oM 15 18,oE 19 0 15,oE 20 1 15,oM 6 19,oM 7 20]
def Yiw:List AI:=[oM 21 7,oV 22 .neq 21 0]
def Yhy:List AI:=[oM 23 7,oC 2 (.s []),oM 3 23]
def Ybb:List AI:=[oM 24 6,oB 25 .add (.c (.s [112,97,110,105,99,32])) (.t 24),oM 5 25]
def Xg9:List AI:=[oF 35 6 1,oL 36 35,oB 37 .and (.t 36) (.c (.i .u64 1)),oB 38 .neq (.t 37) (.c (.i .u64 0))]
def Xx7:List AI:=[oM 39 5,oB 40 .add (.t 39) (.c (.s [32,114,101,99,111,118,101,114,101,100])),oM 5 40]
def Xpk:List AI:=[oF 41 6 1,oL 42 41,oB 43 .and (.t 42) (.c (.i .u64 4)),oB 44 .neq (.t 43) (.c (.i .u64 0))]
def Xrj:List AI:=[oM 45 5,oB 46 .add (.t 45) (.c (.s [32,97,98,111,114,116,101,100])),oM 5 46]
def Yna:List AI:=[oM 47 5,oM 2 47,oI 3 0]
abbrev Zvw:AC:=(sR 17 Yna .ret)
abbrev Zuo:AC:=(.seq (sR 15 Xpk (.cond (.t 44) (.reg 16 Xrj) .skip)) Zvw)
abbrev Zlg:AC:=(.seq (sR 13 Xg9 (.cond (.t 38) (.reg 14 Xx7) .skip)) Zuo)
abbrev Xmq:AC:=(sR 0 Yik (.seq (sR 1 Zzc (sR 2 Zu7 (.cond (.t 11) (sR 3 Zw4 .ret) .skip))) (sR 4 Yc4 (.seq (sR 5 Zx6 (.block 0 (sR 10 Yl0 (.cond (.t 26) .skip (sR 11 Zvb (.cond (.t 28) (.reg 12 Ydl) (sR 6 Yid (.seq (sR 7 Yiw (.cond (.t 22) (sR 8 Yhy .ret) .skip)) (.reg 9 Ybb))))))))) Zlg))))
def Zgw:AF:={ nt:=48,res:=[.tmp 2,.tmp 3],body:=Xmq }
def Zea (PG:Za)(K:BS->Int->Prop)(s5:BS):Prop:=
  K s5 0
def Zde (PG:Za)(K:BS->Int->Prop)(s5:BS)(m0:Zh):Prop:=
  ((Ux .u64 m0.flags 4)≠0->s5.length+([32,97,98,111,114,116,101,100]:BS).length<=We/\Zea PG K (s5++([32,97,98,111,114,116,101,100]:BS)))/\(¬((Ux .u64 m0.flags 4)≠0)->Zea PG K s5)
def La (PG:Za)(K:BS->Int->Prop)(s5:BS)(m0:Zh):Prop:=
  ((Ux .u64 m0.flags 1)≠0->s5.length+([32,114,101,99,111,118,101,114,101,100]:BS).length<=We/\Zde PG K (s5++([32,114,101,99,111,118,101,114,101,100]:BS)) m0)/\(¬((Ux .u64 m0.flags 1)≠0)->Zde PG K s5 m0)
def Zr9 (PG:Za)(K:BS->Int->Prop)(p0:Zh):Prop:=
  ∃c,Ze PG 158 [p0.av] (.i .i64 c)/\(c≠0->K ([]:BS) c)/\(¬(c≠0)->(p0.tag=0->La PG K ([101,120,105,116]:BS) p0)/\(¬(p0.tag=0)->(p0.tag=4->∃k:LB,Ze PG 178 [] (.ag (List.map AV.s k))/\k.length=4/\0<=p0.value.int/\∃o,(k:LB)[(p0.value.int).toNat]?=some o/\La PG K o p0)/\(¬(p0.tag=4)->∃j:BS,∃e,Ze PG 72 [p0.value.av] (.tup [.s j,.i .i64 e])/\(e≠0->K ([]:BS) e)/\(¬(e≠0)->([112,97,110,105,99,32]:BS).length+j.length<=We/\La PG K (([112,97,110,105,99,32]:BS)++j) p0))))
section
variable {PG:Za}{d:Nat}{Q:AE->Sl->St->Prop}{K:BS->Int->Prop}(hQ:H2 AV.s (AV.i .i64) 2 3 Q K){σ:Sl}{st:St}
include hQ
variable {s5:BS}{m0:Zh}{v0:Nat}{p0:Zh}
variable (H1:σ 1=.p (d,0) v0 0)(H0:σ 0=p0.av)(H5:σ 5=.s s5)(B0:lk st.bx (d,0)=some (v0,Zh.cs m0))
include H5 in
theorem Ywm (h:Zea PG K s5):W PG d Zvw σ st Q:=
 au trivial
include H1 H5 B0 in
theorem Xzj (h:Zde PG K s5 m0):W PG d Zuo σ st Q:=
 au @Ywm
include H1 H5 B0 in
theorem Xr9 (h:La PG K s5 m0):W PG d Zlg σ st Q:=
 au @Xzj
include H0 in
theorem Xe2 (h:Zr9 PG K p0):W PG d (sR 0 Yik (.seq (sR 1 Zzc (sR 2 Zu7 (.cond (.t 11) (sR 3 Zw4 .ret) .skip))) (sR 4 Yc4 (.seq (sR 5 Zx6 (.block 0 (sR 10 Yl0 (.cond (.t 26) .skip (sR 11 Zvb (.cond (.t 28) (.reg 12 Ydl) (sR 6 Yid (.seq (sR 7 Yiw (.cond (.t 22) (sR 8 Yhy .ret) .skip)) (.reg 9 Ybb))))))))) Zlg)))) σ st Q:=
 au @Xr9
end
theorem Yq6 {PG:Za}(hf:PG.fn 154=some Zgw){p0:Zh}{K:BS->Int->Prop}(h:Zr9 PG K p0) :∃res0:BS,∃res1:Int,K res0 res1/\Ze PG 154 [p0.av] (.tup [.s res0,.i .i64 res1]):=
 P2 hf J (Xe2 (h2 J fun _ _=>J) J h)
abbrev Xth (Q:AE->Sl->St->Prop)(K:BS->Int->Prop):Prop:=∀(σ:Sl)(st:St)(res0:BS)(res1:Int),σ 2=.s res0->σ 3=.i .i64 res1->K res0 res1->Q .ret σ st
section
variable {PG:Za}{d:Nat}{Q:AE->Sl->St->Prop}{K:BS->Int->Prop}(hQ:Xth Q K){σ:Sl}{st:St}
include hQ
end
end Go.AM

/- Yf of the proof. -/
namespace Go.AM
open Go
set_option linter.unusedVariables false
set_option linter.unusedSimpArgs false
set_option maxRecDepth 4000
set_option maxHeartbeats 2000000
attribute [local irreducible] Decidable.decide W WO Wq Ws
def Zwj:List AI:=[oO 2 (.alloc [z7,z8,z6,zs,zl,zb,z7]),oC 3 (.b false)]
def Yt0:List AI:=[oM 12 0,oB 13 .eql (.t 12) (.c (.s [101,120,105,116]))]
def Whk:List AI:=[oO 14 (.build [z7,z8,z6,zs,zl,zb,z7] [(6,1,(.c (.i .u64 2)))]),oS 7 2 14,oC 3 (.b true)]
def Yy1:List AI:=[oQ 15 178 [],oI 16 0]
def Xzw:List AI:=[oV 17 .lss 16 4]
def Xje:List AI:=[oM 18 16,oO 19 (.ixA 4 1 false (.t 15) (.t 16)),oM 4 18,oM 5 19]
def Yrt:List AI:=[oM 20 4,oV 21 .gtr 20 0,oM 22 21,gT 22 (oM 23 5),gT 22 (oM 24 0),gT 22 (oT 25 .eql 23 24),oA 26 22 25]
def Ypt:List AI:=[oM 27 4,oO 28 (.build [z8,z6,zs,zl,zb] [(0,1,(.c (.i .u8 2))),(1,1,(.t 27))]),oO 29 (.build [z7,z8,z6,zs,zl,zb,z7] [(0,1,(.c (.i .u64 4))),(1,5,(.t 28))]),oS 7 2 29,oC 3 (.b true)]
def Ygo:List AI:=[oV 30 .add 16 1,oM 16 30]
def Xkp:List AI:=[oM 32 0,oO 33 (.call false 36 [(.t 32),(.c (.s [112,97,110,105,99,32]))]),oM 31 33,oE 34 0 31,oE 35 1 31,oM 6 34,oM 7 35]
def Xlt:List AI:=[oM 36 7,oZ 37 36]
def Xqr:List AI:=[oO 38 (.build [z7,z8,z6,zs,zl,zb,z7] []),oS 7 2 38,oC 3 (.b false)]
def Xoy:List AI:=[oM 40 6,oQ 41 74 [40],oM 39 41,oE 42 0 39,oE 43 1 39,oO 8 (.alloc [z8,z6,zs,zl,zb]),oS 5 8 42,oM 9 43]
def Xzu:List AI:=[oQ 44 183 [],oI 45 0]
def Xqc:List AI:=[oV 46 .lss 45 5]
def Wis:List AI:=[oM 47 45,oO 48 (.ixA 5 1 false (.t 44) (.t 45)),oM 10 47,oM 11 48]
def Wf9:List AI:=[oM 49 9,oV 50 .eql 49 0,oM 51 50,gT 51 (oM 52 11),gT 51 (oF 53 0 8),gT 51 (oL 54 53),gT 51 (oT 55 .eql 52 54),oA 56 51 55]
def Xsg:List AI:=[oM 57 10,oO 58 (.cvi .u64 (.t 57)),oK 59 5 8,oO 60 (.build [z7,z8,z6,zs,zl,zb,z7] [(0,1,(.t 58)),(1,5,(.t 59))]),oS 7 2 60,oC 3 (.b true)]
def Ye8:List AI:=[oV 61 .add 45 1,oM 45 61]
def Wbb:List AI:=[oO 62 (.build [z7,z8,z6,zs,zl,zb,z7] []),oS 7 2 62,oC 3 (.b false)]
abbrev Ztl:AC:=(.cond (.t 26) (sR 7 Ypt .ret) .skip)
abbrev Zam:AC:=(sR 4 Xzw (.seq (.cond (.t 17) .skip (.exit 0)) (.seq (.block 1 (sR 5 Xje (sR 6 Yrt Ztl))) (.reg 8 Ygo))))
abbrev Yg3:AC:=(.cond (.t 56) (sR 17 Xsg .ret) .skip)
abbrev It:AC:=(sR 14 Xqc (.seq (.cond (.t 46) .skip (.exit 2)) (.seq (.block 3 (sR 15 Wis (sR 16 Wf9 Yg3))) (.reg 18 Ye8))))
abbrev On:AC:=(sR 19 Wbb .ret)
abbrev Om:AC:=(sR 9 Xkp (.seq (sR 10 Xlt (.cond (.t 37) (sR 11 Xqr .ret) .skip)) (sR 12 Xoy (.seq (sR 13 Xzu (.block 2 (.loop It))) On))))
abbrev Zx3:AC:=(.seq (sR 3 Yy1 (.block 0 (.loop Zam))) Om)
abbrev Zod:AC:=(.seq (sR 1 Yt0 (.cond (.t 13) (sR 2 Whk .ret) .skip)) Zx3)
abbrev Yrp:AC:=(sR 0 Zwj Zod)
def As:AF:={ nt:=63,res:=[.cell 2 7 true,.tmp 3],body:=Yrp }
abbrev Xlk (Q:AE->Sl->St->Prop)(K:Zh->Bool->Prop):Prop:=∀(σ:Sl)(st:St)(k0:Zo)(v0:Nat)(o0_0:Zl)(res0:Zh)(res1:Bool),σ 2=.p k0 v0 0->lk st.bx k0=some (v0,[.i .u64 res0.tag,.i .u8 res0.value.kind,.i .i64 res0.value.int,.s res0.value.text,.sl o0_0 (List.map Zb.row res0.value.list),.b res0.value.cut,.i .u64 res0.flags])->σ 3=.b res1->K res0 res1->Q .ret σ st
abbrev Ylr (PG:Za)(d:Nat)(Q:AE->Sl->St->Prop)(s0:BS)(t15:LB)(t16:Int)(m0:Zh):Prop:=
  ∀(σ:Sl)(st:St)(o_m0_4:Zl)(v0:Nat),σ 0=.s s0->σ 2=.p (d,0) v0 0->σ 15=.ag (List.map AV.s t15)->σ 16=.i .i64 t16->lk st.bx (d,0)=some (v0,[.i .u64 m0.tag,.i .u8 m0.value.kind,.i .i64 m0.value.int,.s m0.value.text,.sl o_m0_4 (List.map Zb.row m0.value.list),.b m0.value.cut,.i .u64 m0.flags])->W PG d (.loop Zam) σ st (Ya 0 (Zs PG d Om Q))
def Ak (PG:Za)(K:Zh->Bool->Prop)(P0:Int->Zh->Prop)(s0:BS)(n4:Int)(t15:LB)(t16:Int)(t26:Bool)(m0:Zh):Prop:=
  (t26=true->K (Zh.mk 4 (Zb.mk 2 n4 [] ([]:List Zb) false) 0) true)/\(t26=false->P0 (IntKind.i64.wrap (t16+1)) m0)
abbrev Yaw (PG:Za)(d:Nat)(Q:AE->Sl->St->Prop)(e9:Int)(t44:List (UInt8))(t45:Int)(m0:Zh)(m49157:Zb):Prop:=
  ∀(σ:Sl)(st:St)(o_m0_4:Zl) (v0 v49157:Nat),σ 2=.p (d,0) v0 0->σ 8=.p (d,49157) v49157 0->σ 9=.i .i64 e9->σ 44=.ag (List.map c8 t44)->σ 45=.i .i64 t45->lk st.bx (d,0)=some (v0,[.i .u64 m0.tag,.i .u8 m0.value.kind,.i .i64 m0.value.int,.s m0.value.text,.sl o_m0_4 (List.map Zb.row m0.value.list),.b m0.value.cut,.i .u64 m0.flags])->lk st.bx (d,49157)=some (v49157,Zb.cs m49157)->W PG d (.loop It) σ st (Ya 2 (Zs PG d On Q))
def Ad (PG:Za)(K:Zh->Bool->Prop)(P1:Int->Zh->Zb->Prop)(e9:Int)(tag10:Int)(t44:List (UInt8))(t45:Int)(t56:Bool)(m0:Zh)(m49157:Zb):Prop:=
  (t56=true->K (Zh.mk (IntKind.u64.wrap tag10) m49157 0) true)/\(t56=false->P1 (IntKind.i64.wrap (t45+1)) m0 m49157)
def Zgy (PG:Za)(K:Zh->Bool->Prop)(m0:Zh):Prop:=
  K (Zh.mk 0 (Zb.mk 0 0 [] ([]:List Zb) false) 0) false
def Ln (PG:Za)(K:Zh->Bool->Prop)(P1:Int->Zh->Zb->Prop)(e9:Int)(t44:List (UInt8))(t45:Int)(m0:Zh)(m49157:Zb):Prop:=
  (t45<5->t44.length=5/\0<=t45/\∃c:UInt8,(t44:List (UInt8))[(t45).toNat]?=some c/\(e9=0->Ad PG K P1 e9 t45 t44 t45 (decide ((c.toNat:Int)=m49157.kind)) m0 m49157)/\(¬(e9=0)->Ad PG K P1 e9 t45 t44 t45 false m0 m49157))/\(¬(t45<5)->Zgy PG K m0)
def Zr0 (PG:Za)(K:Zh->Bool->Prop)(s0:BS)(m0:Zh):Prop:=
  ∃k c,Ze PG 36 [.s s0,.s ([112,97,110,105,99,32]:BS)] (.tup [.s k,.b c])/\((!c)=true->K (Zh.mk 0 (Zb.mk 0 0 [] ([]:List Zb) false) 0) false)/\((!c)=false->∃o:Zb,∃j,Ze PG 74 [.s k] (.tup [o.av,.i .i64 j])/\∃e,Ze PG 183 [] (.ag (List.map c8 e))/\∀P1:Int->Zh->Zb->Prop,(∀(t45:Int)(m0:Zh)(m49157:Zb),Ln PG K P1 j e t45 m0 m49157->P1 t45 m0 m49157)->P1 0 m0 o)
def Zex (PG:Za)(K:Zh->Bool->Prop)(P0:Int->Zh->Prop)(s0:BS)(t15:LB)(t16:Int)(m0:Zh):Prop:=
  (t16<4->t15.length=4/\0<=t16/\∃c,(t15:LB)[(t16).toNat]?=some c/\(t16>0->Ak PG K P0 s0 t16 t15 t16 (decide (c=s0)) m0)/\(¬(t16>0)->Ak PG K P0 s0 t16 t15 t16 false m0))/\(¬(t16<4)->Zr0 PG K s0 m0)
def Zof (PG:Za)(K:Zh->Bool->Prop)(s0:BS)(m0:Zh):Prop:=
  ∃c,Ze PG 178 [] (.ag (List.map AV.s c))/\∀P0:Int->Zh->Prop,(∀(t16:Int)(m0:Zh),Zex PG K P0 s0 c t16 m0->P0 t16 m0)->P0 0 m0
def Zl8 (PG:Za)(K:Zh->Bool->Prop)(s0:BS)(m0:Zh):Prop:=
  (s0=([101,120,105,116]:BS)->K (Zh.mk 0 (Zb.mk 0 0 [] ([]:List Zb) false) 2) true)/\(¬(s0=([101,120,105,116]:BS))->Zof PG K s0 m0)
def Zqy (PG:Za)(K:Zh->Bool->Prop)(s0:BS):Prop:=
  Zl8 PG K s0 (Zh.mk 0 (Zb.mk 0 0 [] ([]:List Zb) false) 0)
section
variable {PG:Za}{d:Nat}{Q:AE->Sl->St->Prop}{K:Zh->Bool->Prop}(hQ:Xlk Q K){σ:Sl}{st:St}
include hQ
variable {s0:BS}{n4:Int}{t15:LB}{t16:Int}{t26:Bool}{m0:Zh}{P0:Int->Zh->Prop}{o_m0_4:Zl}{v0:Nat}{e9 tag10:Int}{t44:List (UInt8)}{t45:Int}{t56:Bool}{m49157:Zb}{P1:Int->Zh->Zb->Prop}{v49157:Nat}
variable (kP0 :∀(t16:Int)(m0:Zh),P0 t16 m0->Ylr PG d Q s0 t15 t16 m0) (kP1 :∀(t45:Int)(m0:Zh)(m49157:Zb),P1 t45 m0 m49157->Yaw PG d Q e9 t44 t45 m0 m49157)(H0:σ 0=.s s0)(H2:σ 2=.p (d,0) v0 0)(H4:σ 4=.i .i64 n4)(H8:σ 8=.p (d,49157) v49157 0)(H15:σ 15=.ag (List.map AV.s t15))(H9:σ 9=.i .i64 e9)(Hh:σ 16=.i .i64 t16)(H10:σ 10=.i .i64 tag10)(Tx:σ 26=.b t26)(Up:σ 44=.ag (List.map c8 t44))(Ga:σ 45=.i .i64 t45)(H56:σ 56=.b t56)(B0:lk st.bx (d,0)=some (v0,[.i .u64 m0.tag,.i .u8 m0.value.kind,.i .i64 m0.value.int,.s m0.value.text,.sl o_m0_4 (List.map Zb.row m0.value.list),.b m0.value.cut,.i .u64 m0.flags]))(B49157:lk st.bx (d,49157)=some (v49157,Zb.cs m49157))
include kP0 H0 H2 H4 H15 Hh Tx B0 in
theorem Yfa (h:Ak PG K P0 s0 n4 t15 t16 t26 m0):W PG d Ztl σ st (Ya 1 (Zs PG d (.reg 8 Ygo) (Zs PG d (.loop Zam) (Ya 0 (Zs PG d Om Q))))):=
 Xl Tx (fun c=>q_ J (m_ (Xv (Yl J J (Yl H4 J Xn)) (Xv (Yl J J (Yl J J Xn)) (Ye H2 B0 J J J (m_ (Zp (hQ _ _ _ _ _ _ _ H2 Zi J (h.1 c))))))))) (fun c=>Yd (W.reg0 J fun _ _=>b_ Hh J Jf (m_ (e_ (kP0 _ _ (h.2 c) _ _ _ _ H0 H2 H15 J B0)))))
include kP1 H2 H8 H9 H10 Up Ga H56 B0 B49157 in
theorem Yf1 (h:Ad PG K P1 e9 tag10 t44 t45 t56 m0 m49157):W PG d Yg3 σ st (Ya 3 (Zs PG d (.reg 18 Ye8) (Zs PG d (.loop It) (Ya 2 (Zs PG d On Q))))):=
 Xl H56 (fun c=>q_ J (m_ (An H10 (l_ H8 B49157 J J (Xv (Yl J J (Yl J J Xn)) (Ye H2 B0 J J J (m_ (Zp (hQ _ _ _ _ _ _ _ H2 Zi J (h.1 c)))))))))) (fun c=>Yd (W.reg0 J fun _ _=>b_ Ga J Jf (m_ (e_ (kP1 _ _ _ (h.2 c) _ _ _ _ _ H2 H8 H9 Up J B0 B49157)))))
include H2 B0 in
theorem Xnc (h:Zgy PG K m0):W PG d On σ st Q:=
 au trivial
include kP1 H2 H8 H9 Up Ga B0 B49157 in
theorem Xc0 (h:Ln PG K P1 e9 t44 t45 m0 m49157):W PG d It σ st (Zs PG d (.loop It) (Ya 2 (Zs PG d On Q))):=
 q_ J (b_ Ga J Wx (e_ (Zm (Yk J (fun c=>Yd (Zm (Yj (q_ J (m_ ((h.1 c).2.2.elim fun _ e=>Tu (f:=c8) (h.1 c).1 Up Ga (h.1 c).2.1 e.1 (m_ (m_ (e_ (q_ J (Xh H9 (b_ J J Xk (Yt J (Yq (g:=51) J (fun i=>Zd J (Xh J (Zd J (f_ H8 (Zd J (l_ J B49157 J J (Zd J (b_ J J Xk (Dh J J (e_ (Yf1 hQ kP1 H2 H8 H9 Ga Up Ga J B0 B49157 (e.2.1 i)))))))))))) (fun i=>z_ 5 J (e_ (Yf1 hQ kP1 H2 H8 H9 Ga Up Ga J B0 B49157 (e.2.2 i)))))))))))))))))) (fun c=>Vr (Xnc hQ H2 B0 (h.2 c)))))))
include H0 H2 B0 in
theorem Yuu (h:Zr0 PG K s0 m0):W PG d Om σ st Q:=
 q_ J (m_ (x2 h fun _ _ c=>Yg (Vq H0 J J) c.1 (m_ (x_ J J (x_ J J (m_ (m_ (e_ (Zm (q_ J (m_ (Xx J (e_ (Xl J (fun e=>q_ J (Xv Xn (Ye H2 B0 J J J (m_ (Zp (hQ _ _ _ _ _ _ _ H2 Zi J (c.2.1 e))))))) (fun e=>Yd (Zm (W.reg (m_ (x2 (c.2.2 e) fun _ o j=>Yg (Wm J J) j.1 (m_ (x_ J J (x_ J J (Xs (Ye J (show lk _ (d,49157)=some (_,([.i .u8 0,.i .i64 0,.s [],.sl .full (List.map Zb.row ([]:List Zb)),.b false]:List AV)) from Zi) J J J (m_ (e_ (Zm (q_ J (j.2.elim fun p k=>Yg sn k.1 (m_ (e_ (Yj (k.2 (Yaw PG d Q o p) (fun _ _ _ hb _ _ _ _ _ H2 H8 H9 Up Ga B0 B49157=>W.loop (Xc0 hQ (fun _ _ _ x=>x) H2 H8 H9 Up Ga B0 B49157 hb)) _ _ _ _ _ H2 J J J J (Zt J (Zt J B0)) Zi)))))))))))))))))))))))))))))))))
include kP0 H0 H2 H15 Hh B0 in
theorem Yua (h:Zex PG K P0 s0 t15 t16 m0):W PG d Zam σ st (Zs PG d (.loop Zam) (Ya 0 (Zs PG d Om Q))):=
 q_ J (b_ Hh J Wx (e_ (Zm (Yk J (fun c=>Yd (Zm (Yj (q_ J (m_ ((h.1 c).2.2.elim fun _ e=>Tu (f:=AV.s) (h.1 c).1 H15 Hh (h.1 c).2.1 e.1 (m_ (m_ (e_ (q_ J (Xh Hh (b_ J J Vz (Yt J (Yq (g:=22) J (fun i=>Zd J (Qs J (Zd J (Qs H0 (Zd J (b_ J J Ns (Dh J J (e_ (Yfa hQ kP0 H0 H2 Hh H15 Hh J B0 (e.2.1 i)))))))))) (fun i=>z_ 4 J (e_ (Yfa hQ kP0 H0 H2 Hh H15 Hh J B0 (e.2.2 i)))))))))))))))))) (fun c=>Vr (Yuu hQ H0 H2 B0 (h.2 c)))))))
include H0 H2 B0 in
theorem Xno (h:Zof PG K s0 m0):W PG d Zx3 σ st Q:=
 Zm (q_ J (h.elim fun e c=>Yg sn c.1 (m_ (e_ (Yj (c.2 (Ylr PG d Q s0 e) (fun _ _ hb _ _ _ _ H0 H2 H15 Hh B0=>W.loop (Yua hQ (fun _ _ x=>x) H0 H2 H15 Hh B0 hb)) _ _ _ _ H0 H2 J J B0))))))
include H0 H2 B0 in
theorem Xtp (h:Zl8 PG K s0 m0):W PG d Zod σ st Q:=
 Zm (q_ J (m_ (b_ H0 J Ns (e_ (Yk J (fun c=>q_ J (Xv (Yl J J Xn) (Ye H2 B0 J J J (m_ (Zp (hQ _ _ _ _ _ _ _ H2 Zi J (h.1 c))))))) (fun c=>Yd (Xno hQ H0 H2 B0 (h.2 c))))))))
include H0 in
theorem Weh (h:Zqy PG K s0):W PG d (sR 0 Zwj Zod) σ st Q:=
 au @Xtp
end
theorem Xac {PG:Za}(hf:PG.fn 181=some As){s0:BS}{K:Zh->Bool->Prop}(h:Zqy PG K s0) :∃res0:Zh,∃res1:Bool,K res0 res1/\Ze PG 181 [.s s0] (.tup [res0.av,.b res1]):=by
  obtain ⟨v,hv,res0,res1,hk,rfl⟩:=Ze.of (K:=fun v=>∃res0:Zh,∃res1:Bool,K res0 res1/\v=.tup [res0.av,.b res1]) hf rfl (Weh (σ:=Xz [.s s0]) (fun σ st k0 v0 o0_0 res0 res1 H2 HB2 H3 hk=>⟨.tup [res0.avo o0_0,.b res1],by simp only [As,Xg,Vc,Jq (n:=7) H2 HB2 rfl,H3,Ks,Option.map_some],_,rfl,res0,res1,hk,rfl⟩) rfl h)
  exact ⟨res0,res1,hk,hv⟩
def Yhu:List AI:=[oO 2 (.alloc [z7,z8,z6,zs,zl,zb,z7]),oI 3 0]
def Zvf:List AI:=[oM 9 0,oH 10 9,oV 11 .gtr 10 2000]
def Ycd:List AI:=[oO 12 (.build [z7,z8,z6,zs,zl,zb,z7] []),oS 7 2 12,oI 3 4]
def Ybf:List AI:=[oM 14 0,oO 15 (.call false 180 [(.t 14),(.c (.s [32,97,98,111,114,116,101,100]))]),oM 13 15,oE 16 0 13,oE 17 1 13,oM 4 16,oM 5 17]
def Ym3:List AI:=[oM 19 4,oO 20 (.call false 180 [(.t 19),(.c (.s [32,114,101,99,111,118,101,114,101,100]))]),oM 18 20,oE 21 0 18,oE 22 1 18,oM 4 21,oM 6 22]
def Ydt:List AI:=[oM 24 4,oQ 25 181 [24],oM 23 25,oE 26 0 23,oE 27 1 23,oO 7 (.alloc [z7,z8,z6,zs,zl,zb,z7]),oS 7 7 26,oM 8 27]
def Zzl:List AI:=[oM 28 6]
def Zs9:List AI:=[oF 29 6 7,oL 30 29,oB 31 .or (.t 30) (.c (.i .u64 1)),oF 32 6 7,oS 1 32 31]
def Yqc:List AI:=[oM 33 5]
def Wh1:List AI:=[oF 34 6 7,oL 35 34,oB 36 .or (.t 35) (.c (.i .u64 4)),oF 37 6 7,oS 1 37 36]
def Wdv:List AI:=[oM 38 8,oZ 39 38,oM 40 39,gF 40 (oK 41 7 7),gF 40 (oQ 42 158 [41]),gF 40 (oV 43 .neq 42 0),oR 44 40 43]
def Xcg:List AI:=[oO 45 (.build [z7,z8,z6,zs,zl,zb,z7] []),oS 7 2 45,oI 3 12]
def Xd9:List AI:=[oK 46 7 7,oS 7 2 46,oI 3 0]
abbrev Yd0:AC:=(.seq (sR 10 Wdv (.cond (.t 44) (sR 11 Xcg .ret) .skip)) (sR 12 Xd9 .ret))
abbrev Zm3:AC:=(.seq (sR 8 Yqc (.cond (.t 33) (.reg 9 Wh1) .skip)) Yd0)
abbrev Xft:AC:=(sR 0 Yhu (.seq (sR 1 Zvf (.cond (.t 11) (sR 2 Ycd .ret) .skip)) (sR 3 Ybf (sR 4 Ym3 (sR 5 Ydt (.seq (sR 6 Zzl (.cond (.t 28) (.reg 7 Zs9) .skip)) Zm3))))))
def Ir:AF:={ nt:=47,res:=[.cell 2 7 true,.tmp 3],body:=Xft }
abbrev Wg4 (Q:AE->Sl->St->Prop)(K:Zh->Int->Prop):Prop:=∀(σ:Sl)(st:St)(k0:Zo)(v0:Nat)(o0_0:Zl)(res0:Zh)(res1:Int),σ 2=.p k0 v0 0->lk st.bx k0=some (v0,[.i .u64 res0.tag,.i .u8 res0.value.kind,.i .i64 res0.value.int,.s res0.value.text,.sl o0_0 (List.map Zb.row res0.value.list),.b res0.value.cut,.i .u64 res0.flags])->σ 3=.i .i64 res1->K res0 res1->Q .ret σ st
def Cq (PG:Za)(K:Zh->Int->Prop)(ok8:Bool)(m0:Zh)(m20485:Zh):Prop:=
  ((!ok8)=true->K (Zh.mk 0 (Zb.mk 0 0 [] ([]:List Zb) false) 0) 12)/\((!ok8)=false->∃c,Ze PG 158 [m20485.av] (.i .i64 c)/\(c≠0->K (Zh.mk 0 (Zb.mk 0 0 [] ([]:List Zb) false) 0) 12)/\(¬(c≠0)->K m20485 0))
def Ah (PG:Za)(K:Zh->Int->Prop)(aborted5:Bool)(ok8:Bool)(m0:Zh)(m20485:Zh):Prop:=
  (aborted5=true->Cq PG K ok8 m0 (Zh.mk m20485.tag m20485.value (Ap .u64 m20485.flags 4)))/\(aborted5=false->Cq PG K ok8 m0 m20485)
def Zhe (PG:Za)(K:Zh->Int->Prop)(s0:BS):Prop:=
  ((s0.length:Int)>2000->K (Zh.mk 0 (Zb.mk 0 0 [] ([]:List Zb) false) 0) 4)/\(¬((s0.length:Int)>2000)->∃k e,Ze PG 180 [.s s0,.s ([32,97,98,111,114,116,101,100]:BS)] (.tup [.s k,.b e])/\∃o j,Ze PG 180 [.s k,.s ([32,114,101,99,111,118,101,114,101,100]:BS)] (.tup [.s o,.b j])/\∃c:Zh,∃i,Ze PG 181 [.s o] (.tup [c.av,.b i])/\(j=true->Ah PG K e i (Zh.mk 0 (Zb.mk 0 0 [] ([]:List Zb) false) 0) (Zh.mk c.tag c.value (Ap .u64 c.flags 1)))/\(j=false->Ah PG K e i (Zh.mk 0 (Zb.mk 0 0 [] ([]:List Zb) false) 0) c))
section
variable {PG:Za}{d:Nat}{Q:AE->Sl->St->Prop}{K:Zh->Int->Prop}(hQ:Wg4 Q K){σ:Sl}{st:St}
include hQ
variable {ok8:Bool}{m0 m20485:Zh}{o_m0_4:Zl}{v0 v20485:Nat}{aborted5:Bool}{s0:BS}
variable (H2:σ 2=.p (d,0) v0 0)(H0:σ 0=.s s0)(H5:σ 5=.b aborted5)(H7:σ 7=.p (d,20485) v20485 0)(H8:σ 8=.b ok8)(B0:lk st.bx (d,0)=some (v0,[.i .u64 m0.tag,.i .u8 m0.value.kind,.i .i64 m0.value.int,.s m0.value.text,.sl o_m0_4 (List.map Zb.row m0.value.list),.b m0.value.cut,.i .u64 m0.flags]))(B20485:lk st.bx (d,20485)=some (v20485,Zh.cs m20485))
include H2 H7 H8 B0 B20485 in
theorem Xlg (h:Cq PG K ok8 m0 m20485):W PG d Yd0 σ st Q:=
 au trivial
include H2 H5 H7 H8 B0 B20485 in
theorem Whw (h:Ah PG K aborted5 ok8 m0 m20485):W PG d Zm3 σ st Q:=
 au @Xlg
include H0 in
theorem Xgw (h:Zhe PG K s0):W PG d (sR 0 Yhu (.seq (sR 1 Zvf (.cond (.t 11) (sR 2 Ycd .ret) .skip)) (sR 3 Ybf (sR 4 Ym3 (sR 5 Ydt (.seq (sR 6 Zzl (.cond (.t 28) (.reg 7 Zs9) .skip)) Zm3)))))) σ st Q:=
 au @Whw
end
theorem Xls {PG:Za}(hf:PG.fn 156=some Ir){s0:BS}{K:Zh->Int->Prop}(h:Zhe PG K s0) :∃res0:Zh,∃res1:Int,K res0 res1/\Ze PG 156 [.s s0] (.tup [res0.av,.i .i64 res1]):=by
  obtain ⟨v,hv,res0,res1,hk,rfl⟩:=Ze.of (K:=fun v=>∃res0:Zh,∃res1:Int,K res0 res1/\v=.tup [res0.av,.i .i64 res1]) hf rfl (Xgw (σ:=Xz [.s s0]) (fun σ st k0 v0 o0_0 res0 res1 H2 HB2 H3 hk=>⟨.tup [res0.avo o0_0,.i .i64 res1],by simp only [Ir,Xg,Vc,Jq (n:=7) H2 HB2 rfl,H3,Ks,Option.map_some],_,rfl,res0,res1,hk,rfl⟩) rfl h)
  exact ⟨res0,res1,hk,hv⟩
abbrev Xtb (Q:AE->Sl->St->Prop)(K:Zh->Int->Prop):Prop:=∀(σ:Sl)(st:St)(k0:Zo)(v0:Nat)(o0_0:Zl)(res0:Zh)(res1:Int),σ 2=.p k0 v0 0->lk st.bx k0=some (v0,[.i .u64 res0.tag,.i .u8 res0.value.kind,.i .i64 res0.value.int,.s res0.value.text,.sl o0_0 (List.map Zb.row res0.value.list),.b res0.value.cut,.i .u64 res0.flags])->σ 3=.i .i64 res1->K res0 res1->Q .ret σ st
section
variable {PG:Za}{d:Nat}{Q:AE->Sl->St->Prop}{K:Zh->Int->Prop}(hQ:Xtb Q K){σ:Sl}{st:St}
include hQ
end
def Zvx:List AI:=[oY 2 7 0,oY 3 7 1,oC 4 (.b false)]
def Zw3:List AI:=[oF 5 0 2,oL 6 5,oF 7 0 3,oL 8 7,oT 9 .eql 6 8,oM 10 9,gT 10 (oF 11 6 2),gT 10 (oL 12 11),gT 10 (oF 13 6 3),gT 10 (oL 14 13),gT 10 (oT 15 .eql 12 14),oA 16 10 15,oM 17 16,gT 17 (oF 18 1 2),gT 17 (oK 19 5 18),gT 17 (oF 20 1 3),gT 17 (oK 21 5 20),gT 17 (oQ 22 78 [19,21]),oA 23 17 22,oM 4 23]
abbrev Xst:AC:=(sR 0 Zvx (sR 1 Zw3 .ret))
def Zdw:AF:={ nt:=24,res:=[.tmp 4],body:=Xst }
def Zp8 (PG:Za)(K:Bool->Prop)(a0:Zh)(b1:Zh):Prop:=
  (a0.tag=b1.tag->(a0.flags=b1.flags->∃c,Ze PG 78 [a0.value.av,b1.value.av] (.b c)/\K c)/\(¬(a0.flags=b1.flags)->K false))/\(¬(a0.tag=b1.tag)->K false)
section
variable {PG:Za}{d:Nat}{Q:AE->Sl->St->Prop}{K:Bool->Prop}(hQ:H1 AV.b 4 Q K){σ:Sl}{st:St}
include hQ
variable {a0 b1:Zh}
variable (H0:σ 0=a0.av)(H1:σ 1=b1.av)
include H0 H1 in
theorem Wg9 (h:Zp8 PG K a0 b1):W PG d (sR 0 Zvx (sR 1 Zw3 .ret)) σ st Q:=
 au trivial
end
theorem Xcn {PG:Za}(hf:PG.fn 160=some Zdw){a0:Zh}{b1:Zh}{K:Bool->Prop}(h:Zp8 PG K a0 b1) :∃res0:Bool,K res0/\Ze PG 160 [a0.av,b1.av] (.b res0):=
 P1 hf J (Wg9 (h1 J fun _=>J) J J h)
abbrev Xlz (Q:AE->Sl->St->Prop)(K:Bool->Prop):Prop:=∀(σ:Sl)(st:St)(res0:Bool),σ 4=.b res0->K res0->Q .ret σ st
section
variable {PG:Za}{d:Nat}{Q:AE->Sl->St->Prop}{K:Bool->Prop}(hQ:Xlz Q K){σ:Sl}{st:St}
include hQ
end
end Go.AM

/- Yf of the proof. -/
namespace Go.AM
open Go
set_option linter.unusedVariables false
set_option linter.unusedSimpArgs false
set_option maxRecDepth 4000
set_option maxHeartbeats 2000000
attribute [local irreducible] Decidable.decide W WO Wq Ws
abbrev Yv0 (Q:AE->Sl->St->Prop)(K:Int->Prop):Prop:=∀(σ:Sl)(st:St)(res0:Int),σ 2=.i .i64 res0->K res0->Q .ret σ st
section
variable {PG:Za}{d:Nat}{Q:AE->Sl->St->Prop}{K:Int->Prop}(hQ:Yv0 Q K){σ:Sl}{st:St}
include hQ
end
abbrev Xbn (Q:AE->Sl->St->Prop)(K:Int->Prop):Prop:=∀(σ:Sl)(st:St)(res0:Int),σ 2=.i .i64 res0->K res0->Q .ret σ st
section
variable {PG:Za}{d:Nat}{Q:AE->Sl->St->Prop}{K:Int->Prop}(hQ:Xbn Q K){σ:Sl}{st:St}
include hQ
end
abbrev Xow (Q:AE->Sl->St->Prop)(K:Int->Int->Prop):Prop:=∀(σ:Sl)(st:St)(res0:Int)(res1:Int),σ 2=.i .i64 res0->σ 3=.i .i64 res1->K res0 res1->Q .ret σ st
section
variable {PG:Za}{d:Nat}{Q:AE->Sl->St->Prop}{K:Int->Int->Prop}(hQ:Xow Q K){σ:Sl}{st:St}
include hQ
end
def Xsa:List AI:=[oI 2 0,oI 3 0]
def Wf0:List AI:=[oM 6 0,oQ 7 163 [6],oM 4 7]
def Wb4:List AI:=[oM 8 4,oV 9 .neq 8 0]
def Xbh:List AI:=[oM 10 4,oI 2 0,oM 3 10]
def Ymr:List AI:=[oI 5 0]
def Xbf:List AI:=[oM 11 5,oM 12 0,oJ 13 12,oT 14 .lss 11 13]
def Yvm:List AI:=[oM 17 0,oM 18 5,oX 19 7 17 18,oF 20 6 19,oL 21 20,oB 22 .eql (.t 21) (.c (.i .u64 0))]
def Xrm:List AI:=[oM 23 5,oM 2 23,oI 3 0]
def Xhm:List AI:=[oM 15 5,oV 16 .add 15 1,oM 5 16]
def Ysx:List AI:=[oI 2 0,oI 3 6]
abbrev Xe5:AC:=(.seq (sR 5 Xbf (.cond (.t 14) .skip (.exit 0))) (.seq (.block 1 (sR 7 Yvm (.cond (.t 22) (sR 8 Xrm .ret) .skip))) (.reg 6 Xhm)))
abbrev Xq3:AC:=(sR 9 Ysx .ret)
abbrev Xjc:AC:=(sR 0 Xsa (.seq (sR 1 Wf0 (sR 2 Wb4 (.cond (.t 9) (sR 3 Xbh .ret) .skip))) (.seq (sR 4 Ymr (.block 0 (.loop Xe5))) Xq3)))
def Yd8:AF:={ nt:=24,res:=[.tmp 2,.tmp 3],body:=Xjc }
abbrev Xnz (Q:AE->Sl->St->Prop)(K:Int->Int->Prop):Prop:=∀(σ:Sl)(st:St)(res0:Int)(res1:Int),σ 2=.i .i64 res0->σ 3=.i .i64 res1->K res0 res1->Q .ret σ st
section
variable {PG:Za}{d:Nat}{Q:AE->Sl->St->Prop}{K:Int->Int->Prop}(hQ:Xnz Q K){σ:Sl}{st:St}
include hQ
end
def Ydm:List AI:=[oC 4 (.b false)]
def Yl6:List AI:=[oM 6 0,oJ 7 6,oM 8 1,oJ 9 8,oT 10 .neq 7 9]
def Zw1:List AI:=[oC 4 (.b false)]
def Yld:List AI:=[oI 5 0]
def Ymu:List AI:=[oM 11 5,oM 12 0,oJ 13 12,oT 14 .lss 11 13]
def Xca:List AI:=[oM 17 0,oM 18 5,oX 19 7 17 18,oK 20 7 19,oM 21 1,oM 22 5,oX 23 7 21 22,oK 24 7 23,oQ 25 160 [20,24],oZ 26 25]
def Wct:List AI:=[oC 4 (.b false)]
def Whc:List AI:=[oM 15 5,oV 16 .add 15 1,oM 5 16]
def Yq3:List AI:=[oC 4 (.b true)]
abbrev Za7:AC:=(.seq (sR 4 Ymu (.cond (.t 14) .skip (.exit 0))) (.seq (.block 1 (sR 6 Xca (.cond (.t 26) (sR 7 Wct .ret) .skip))) (.reg 5 Whc)))
abbrev Ox:AC:=(sR 8 Yq3 .ret)
abbrev Xgr:AC:=(sR 0 Ydm (.seq (sR 1 Yl6 (.cond (.t 10) (sR 2 Zw1 .ret) .skip)) (.seq (sR 3 Yld (.block 0 (.loop Za7))) Ox)))
def Zbx:AF:={ nt:=27,res:=[.tmp 4],body:=Xgr }
abbrev Ydv (PG:Za)(d:Nat)(Q:AE->Sl->St->Prop)(a0:List Zh)(b1:List Zh)(i5:Int):Prop:=
  ∀(σ:Sl)(st:St) (o_a0 o_b1:Zl),σ 0=.sl o_a0 (List.map Zh.row a0)->σ 1=.sl o_b1 (List.map Zh.row b1)->σ 5=.i .i64 i5->W PG d (.loop Za7) σ st (Ya 0 (Zs PG d Ox Q))
def Zpv (PG:Za)(K:Bool->Prop) :Prop:=
  K true
def Zcn (PG:Za)(K:Bool->Prop)(P0:Int->Prop)(a0:List Zh)(b1:List Zh)(i5:Int):Prop:=
  (i5<(a0.length:Int)->0<=i5/\∃e:Zh,a0[(i5).toNat]?=some e/\0<=i5/\∃i:Zh,b1[(i5).toNat]?=some i/\∃c,Ze PG 160 [e.av,i.av] (.b c)/\((!c)=true->K false)/\((!c)=false->P0 (IntKind.i64.wrap (i5+1))))/\(¬(i5<(a0.length:Int))->Zpv PG K )
def Znf (PG:Za)(K:Bool->Prop)(a0:List Zh)(b1:List Zh):Prop:=
  ((a0.length:Int)≠(b1.length:Int)->K false)/\(¬((a0.length:Int)≠(b1.length:Int))->∀P0:Int->Prop,(∀(i5:Int),Zcn PG K P0 a0 b1 i5->P0 i5)->P0 0)
section
variable {PG:Za}{d:Nat}{Q:AE->Sl->St->Prop}{K:Bool->Prop}(hQ:H1 AV.b 4 Q K){σ:Sl}{st:St}
include hQ
variable {a0 b1:List Zh}{i5:Int}{P0:Int->Prop}{o_a0 o_b1:Zl}
variable (kP0 :∀(i5:Int),P0 i5->Ydv PG d Q a0 b1 i5)(H0:σ 0=.sl o_a0 (List.map Zh.row a0))(H1:σ 1=.sl o_b1 (List.map Zh.row b1))(H5:σ 5=.i .i64 i5)
theorem Xcf (h:Zpv PG K ):W PG d Ox σ st Q:=
 au trivial
include kP0 H0 H1 H5 in
theorem Yqa (h:Zcn PG K P0 a0 b1 i5):W PG d Za7 σ st (Zs PG d (.loop Za7) (Ya 0 (Zs PG d Ox Q))):=
 au @Xcf
include H0 H1 in
theorem Xf0 (h:Znf PG K a0 b1):W PG d (sR 0 Ydm (.seq (sR 1 Yl6 (.cond (.t 10) (sR 2 Zw1 .ret) .skip)) (.seq (sR 3 Yld (.block 0 (.loop Za7))) Ox))) σ st Q:=
 q_ J (m_ (e_ (Zm (q_ J (Yi H0 (Xc J (Yi H1 (Xc J (b_ J J Vd (e_ (Yk J (fun c=>q_ J (m_ (Zp (hQ J (h.1 c))))) (fun c=>Yd (Zm (q_ J (m_ (e_ (Yj ((h.2 c) (Ydv PG d Q a0 b1) (fun _ hb _ _ _ _ H0 H1 H5=>W.loop (Yqa hQ (fun _ x=>x) H0 H1 H5 hb)) _ _ _ _ H0 H1 J))))))))))))))))))
end
theorem Xta {PG:Za}(hf:PG.fn 170=some Zbx){a0:List Zh}{b1:List Zh}{K:Bool->Prop}(h:Znf PG K a0 b1) :∃res0:Bool,K res0/\Ze PG 170 [.sl .ext (List.map Zh.row a0),.sl .ext (List.map Zh.row b1)] (.b res0):=
 P1 hf J (Xf0 (h1 J fun _=>J) J J h)
def Yat:List AI:=[oC 2 (.b false)]
def Yk3:List AI:=[oM 4 0,oJ 5 4,oV 6 .gtr 5 20,oM 7 6,gT 7 (oM 8 0),gT 7 (oJ 9 8),gT 7 (oV 10 .leq 9 410),oA 11 7 10,oM 12 11,gF 12 (oM 13 0),gF 12 (oJ 14 13),gF 12 (oV 15 .gtr 14 420),oR 16 12 15]
def Yih:List AI:=[oC 2 (.b true)]
def Xnx:List AI:=[oI 3 0]
def Xyp:List AI:=[oM 17 3,oM 18 0,oJ 19 18,oT 20 .lss 17 19]
def Ynn:List AI:=[oM 23 0,oM 24 3,oX 25 7 23 24,oF 26 1 25,oK 27 5 26,oQ 28 71 [27]]
def Ywn:List AI:=[oC 2 (.b true)]
def Ywv:List AI:=[oM 21 3,oV 22 .add 21 1,oM 3 22]
def Xvy:List AI:=[oC 2 (.b false)]
abbrev Zdd:AC:=(.seq (sR 4 Xyp (.cond (.t 20) .skip (.exit 0))) (.seq (.block 1 (sR 6 Ynn (.cond (.t 28) (sR 7 Ywn .ret) .skip))) (.reg 5 Ywv)))
abbrev Zdq:AC:=(sR 8 Xvy .ret)
abbrev Zq9:AC:=(.seq (sR 3 Xnx (.block 0 (.loop Zdd))) Zdq)
abbrev Ytt:AC:=(sR 0 Yat (.seq (sR 1 Yk3 (.cond (.t 16) (sR 2 Yih .ret) .skip)) Zq9))
def Zdj:AF:={ nt:=29,res:=[.tmp 2],body:=Ytt }
abbrev Ydz (PG:Za)(d:Nat)(Q:AE->Sl->St->Prop)(l0:List Zh)(i3:Int):Prop:=
  ∀(σ:Sl)(st:St)(o_l0:Zl),σ 0=.sl o_l0 (List.map Zh.row l0)->σ 3=.i .i64 i3->W PG d (.loop Zdd) σ st (Ya 0 (Zs PG d Zdq Q))
def Zos (PG:Za)(K:Bool->Prop) :Prop:=
  K false
def Zc4 (PG:Za)(K:Bool->Prop)(P0:Int->Prop)(l0:List Zh)(i3:Int):Prop:=
  (i3<(l0.length:Int)->0<=i3/\∃e:Zh,l0[(i3).toNat]?=some e/\∃c,Ze PG 71 [e.value.av] (.b c)/\(c=true->K true)/\(c=false->P0 (IntKind.i64.wrap (i3+1))))/\(¬(i3<(l0.length:Int))->Zos PG K )
def Fw (PG:Za)(K:Bool->Prop)(l0:List Zh):Prop:=
  ∀P0:Int->Prop,(∀(i3:Int),Zc4 PG K P0 l0 i3->P0 i3)->P0 0
def Zir (PG:Za)(K:Bool->Prop)(l0:List Zh):Prop:=
  ((l0.length:Int)>20->((l0.length:Int)<=410->K true)/\(¬((l0.length:Int)<=410)->((l0.length:Int)>420->K true)/\(¬((l0.length:Int)>420)->Fw PG K l0)))/\(¬((l0.length:Int)>20)->((l0.length:Int)>420->K true)/\(¬((l0.length:Int)>420)->Fw PG K l0))
section
variable {PG:Za}{d:Nat}{Q:AE->Sl->St->Prop}{K:Bool->Prop}(hQ:H1 AV.b 2 Q K){σ:Sl}{st:St}
include hQ
variable {l0:List Zh}{i3:Int}{P0:Int->Prop}{o_l0:Zl}
variable (kP0 :∀(i3:Int),P0 i3->Ydz PG d Q l0 i3)(H0:σ 0=.sl o_l0 (List.map Zh.row l0))(H3:σ 3=.i .i64 i3)
theorem Xfe (h:Zos PG K ):W PG d Zdq σ st Q:=
 au trivial
include kP0 H0 H3 in
theorem We9 (h:Zc4 PG K P0 l0 i3):W PG d Zdd σ st (Zs PG d (.loop Zdd) (Ya 0 (Zs PG d Zdq Q))):=
 au @Xfe
include H0 in
theorem Wbw (h:Fw PG K l0):W PG d Zq9 σ st Q:=
 Zm (q_ J (m_ (e_ (Yj (h (Ydz PG d Q l0) (fun _ hb _ _ _ H0 H3=>W.loop (We9 hQ (fun _ x=>x) H0 H3 hb)) _ _ _ H0 J)))))
include H0 in
theorem Wgc (h:Zir PG K l0):W PG d (sR 0 Yat (.seq (sR 1 Yk3 (.cond (.t 16) (sR 2 Yih .ret) .skip)) Zq9)) σ st Q:=
 au @Wbw
end
theorem Xxh {PG:Za}(hf:PG.fn 162=some Zdj){l0:List Zh}{K:Bool->Prop}(h:Zir PG K l0) :∃res0:Bool,K res0/\Ze PG 162 [.sl .ext (List.map Zh.row l0)] (.b res0):=
 P1 hf J (Wgc (h1 J fun _=>J) J h)
abbrev Wfa (Q:AE->Sl->St->Prop)(K:BS->Int->Prop):Prop:=∀(σ:Sl)(st:St)(res0:BS)(res1:Int),σ 2=.s res0->σ 3=.i .i64 res1->K res0 res1->Q .ret σ st
section
variable {PG:Za}{d:Nat}{Q:AE->Sl->St->Prop}{K:BS->Int->Prop}(hQ:Wfa Q K){σ:Sl}{st:St}
include hQ
end
abbrev Xg3 (Q:AE->Sl->St->Prop)(K:BS->Int->Prop):Prop:=∀(σ:Sl)(st:St)(res0:BS)(res1:Int),σ 2=.s res0->σ 3=.i .i64 res1->K res0 res1->Q .ret σ st
section
variable {PG:Za}{d:Nat}{Q:AE->Sl->St->Prop}{K:BS->Int->Prop}(hQ:Xg3 Q K){σ:Sl}{st:St}
include hQ
end
abbrev Xp2 (Q:AE->Sl->St->Prop)(K:Bool->Prop):Prop:=∀(σ:Sl)(st:St)(res0:Bool),σ 4=.b res0->K res0->Q .ret σ st
section
variable {PG:Za}{d:Nat}{Q:AE->Sl->St->Prop}{K:Bool->Prop}(hQ:Xp2 Q K){σ:Sl}{st:St}
include hQ
end
abbrev Xm1 (Q:AE->Sl->St->Prop)(K:Zb->Prop):Prop:=∀(σ:Sl)(st:St)(k0:Zo)(v0:Nat)(o0_0:Zl)(res0:Zb),σ 2=.p k0 v0 0->lk st.bx k0=some (v0,[.i .u8 res0.kind,.i .i64 res0.int,.s res0.text,.sl o0_0 (List.map Zb.row res0.list),.b res0.cut])->K res0->Q .ret σ st
section
variable {PG:Za}{d:Nat}{Q:AE->Sl->St->Prop}{K:Zb->Prop}(hQ:Xm1 Q K){σ:Sl}{st:St}
include hQ
end
abbrev Yvd (Q:AE->Sl->St->Prop)(K:Zb->Prop):Prop:=∀(σ:Sl)(st:St)(k0:Zo)(v0:Nat)(o0_0:Zl)(res0:Zb),σ 0=.p k0 v0 0->lk st.bx k0=some (v0,[.i .u8 res0.kind,.i .i64 res0.int,.s res0.text,.sl o0_0 (List.map Zb.row res0.list),.b res0.cut])->K res0->Q .ret σ st
section
variable {PG:Za}{d:Nat}{Q:AE->Sl->St->Prop}{K:Zb->Prop}(hQ:Yvd Q K){σ:Sl}{st:St}
include hQ
end
abbrev Xpl (Q:AE->Sl->St->Prop)(K:Zb->Prop):Prop:=∀(σ:Sl)(st:St)(k0:Zo)(v0:Nat)(o0_0:Zl)(res0:Zb),σ 2=.p k0 v0 0->lk st.bx k0=some (v0,[.i .u8 res0.kind,.i .i64 res0.int,.s res0.text,.sl o0_0 (List.map Zb.row res0.list),.b res0.cut])->K res0->Q .ret σ st
section
variable {PG:Za}{d:Nat}{Q:AE->Sl->St->Prop}{K:Zb->Prop}(hQ:Xpl Q K){σ:Sl}{st:St}
include hQ
end
abbrev Ypa (Q:AE->Sl->St->Prop)(K:Bool->Prop):Prop:=∀(σ:Sl)(st:St)(res0:Bool),σ 2=.b res0->K res0->Q .ret σ st
section
variable {PG:Za}{d:Nat}{Q:AE->Sl->St->Prop}{K:Bool->Prop}(hQ:Ypa Q K){σ:Sl}{st:St}
include hQ
end
abbrev Yz2 (d:Nat)(Zj:St)(Q:AE->Sl->St->Prop)(K:List Zh->Prop):Prop:=∀(σ:Sl)(st:St)(res0:List Zh),σ 0=.sl .full (List.map Zh.row res0)->Fr d (d,0) Zj.bx Zj.ow st.bx st.ow->K res0->Q .ret σ st
section
variable {PG:Za}{d:Nat}{Q:AE->Sl->St->Prop}{K:List Zh->Prop}{Zj:St}(hQ:Yz2 d Zj Q K){σ:Sl}{st:St}
include hQ
end
abbrev Xq5 (Q:AE->Sl->St->Prop)(K:Bool->Prop):Prop:=∀(σ:Sl)(st:St)(res0:Bool),σ 0=.b res0->K res0->Q .ret σ st
section
variable {PG:Za}{d:Nat}{Q:AE->Sl->St->Prop}{K:Bool->Prop}(hQ:Xq5 Q K){σ:Sl}{st:St}
include hQ
end
end Go.AM

/- Yf of the proof. -/
namespace Go.AM
open Go
set_option linter.unusedVariables false
set_option linter.unusedSimpArgs false
set_option maxRecDepth 4000
attribute [local irreducible] WO Wq Ws
abbrev Xe8 (Q:AE->Sl->St->Prop)(K:Bool->Prop):Prop:=∀(σ:Sl)(st:St)(res0:Bool),σ 4=.b res0->K res0->Q .ret σ st
section
variable {PG:Za}{d:Nat}{Q:AE->Sl->St->Prop}{K:Bool->Prop}(hQ:Xe8 Q K){σ:Sl}{st:St}
include hQ
end
abbrev Xiq (Q:AE->Sl->St->Prop)(K:Bool->Prop):Prop:=∀(σ:Sl)(st:St)(res0:Bool),σ 2=.b res0->K res0->Q .ret σ st
section
variable {PG:Za}{d:Nat}{Q:AE->Sl->St->Prop}{K:Bool->Prop}(hQ:Xiq Q K){σ:Sl}{st:St}
include hQ
end
end Go.AM

/- Yf of the proof. -/
namespace Go.AM
open Go
set_option linter.unusedVariables false
set_option linter.unusedSimpArgs false
set_option maxRecDepth 4000
attribute [local irreducible] WO Wq Ws
abbrev Yn4 (Q:AE->Sl->St->Prop)(K:LB->Bool->Prop):Prop:=∀(σ:Sl)(st:St)(o0:Zl)(res0:LB)(res1:Bool),σ 2=.sl o0 (List.map Zv res0)->σ 3=.b res1->K res0 res1->Q .ret σ st
section
variable {PG:Za}{d:Nat}{Q:AE->Sl->St->Prop}{K:LB->Bool->Prop}(hQ:Yn4 Q K){σ:Sl}{st:St}
include hQ
end
abbrev Yuq (Q:AE->Sl->St->Prop)(K:List Zh->Int->Prop):Prop:=∀(σ:Sl)(st:St)(o0:Zl)(res0:List Zh)(res1:Int),σ 2=.sl o0 (List.map Zh.row res0)->σ 3=.i .i64 res1->K res0 res1->Q .ret σ st
section
variable {PG:Za}{d:Nat}{Q:AE->Sl->St->Prop}{K:List Zh->Int->Prop}(hQ:Yuq Q K){σ:Sl}{st:St}
include hQ
end
abbrev Xmr (Q:AE->Sl->St->Prop)(K:BS->Prop):Prop:=∀(σ:Sl)(st:St)(res0:BS),σ 4=.s res0->K res0->Q .ret σ st
section
variable {PG:Za}{d:Nat}{Q:AE->Sl->St->Prop}{K:BS->Prop}(hQ:Xmr Q K){σ:Sl}{st:St}
include hQ
end
abbrev Xs5 (Q:AE->Sl->St->Prop)(K:BS->Prop):Prop:=∀(σ:Sl)(st:St)(res0:BS),σ 4=.s res0->K res0->Q .ret σ st
section
variable {PG:Za}{d:Nat}{Q:AE->Sl->St->Prop}{K:BS->Prop}(hQ:Xs5 Q K){σ:Sl}{st:St}
include hQ
end
abbrev Xq6 (Q:AE->Sl->St->Prop)(K:Bool->Prop):Prop:=∀(σ:Sl)(st:St)(res0:Bool),σ 4=.b res0->K res0->Q .ret σ st
section
variable {PG:Za}{d:Nat}{Q:AE->Sl->St->Prop}{K:Bool->Prop}(hQ:Xq6 Q K){σ:Sl}{st:St}
include hQ
end
abbrev Wdc (Q:AE->Sl->St->Prop)(K:Bool->Prop):Prop:=∀(σ:Sl)(st:St)(res0:Bool),σ 4=.b res0->K res0->Q .ret σ st
section
variable {PG:Za}{d:Nat}{Q:AE->Sl->St->Prop}{K:Bool->Prop}(hQ:Wdc Q K){σ:Sl}{st:St}
include hQ
end
end Go.AM

/- Yf of the proof. -/
namespace Go.AM
open Go
set_option linter.unusedVariables false
set_option linter.unusedSimpArgs false
set_option maxRecDepth 4000
set_option maxHeartbeats 2000000
attribute [local irreducible] Decidable.decide W WO Wq Ws
def Zzg:List AI:=[oO 0 (.alloc [zs,zs,zs,zs,zs,zs,zs,zs,zs])]
def Yi6:List AI:=[oO 1 (.build [zs,zs,zs,zs,zs,zs,zs,zs,zs] [(1,1,(.c (.s [110,111,114,109,97,108]))),(2,1,(.c (.s [112,97,110,105,99]))),(3,1,(.c (.s [100,101,97,100,108,111,99,107]))),(4,1,(.c (.s [115,116,97,99,107]))),(5,1,(.c (.s [104,101,97,112]))),(6,1,(.c (.s [114,111,117,116,105,110,101,115]))),(7,1,(.c (.s [115,116,101,112,115]))),(8,1,(.c (.s [115,99,114,105,112,116])))]),oS 9 0 1]
abbrev Xiz:AC:=(sR 0 Zzg (sR 1 Yi6 .ret))
def Zao:AF:={ nt:=2,res:=[.cell 0 9 true],body:=Xiz }
abbrev Wck (Q:AE->Sl->St->Prop)(K:LB->Prop):Prop:=∀(σ:Sl)(st:St)(k0:Zo)(v0:Nat)(res0:LB),σ 0=.p k0 v0 0->lk st.bx k0=some (v0,List.map AV.s res0)->res0.length=9->K res0->Q .ret σ st
def Zpu (PG:Za)(K:LB->Prop) :Prop:=
  K [[],([110,111,114,109,97,108]:BS),([112,97,110,105,99]:BS),([100,101,97,100,108,111,99,107]:BS),([115,116,97,99,107]:BS),([104,101,97,112]:BS),([114,111,117,116,105,110,101,115]:BS),([115,116,101,112,115]:BS),([115,99,114,105,112,116]:BS)]
section
variable {PG:Za}{d:Nat}{Q:AE->Sl->St->Prop}{K:LB->Prop}(hQ:Wck Q K){σ:Sl}{st:St}
include hQ
theorem Xm6 (h:Zpu PG K ):W PG d (sR 0 Zzg (sR 1 Yi6 .ret)) σ st Q:=
 Zm (W.reg (Xs (e_ (q_ J (Cz (f:=AV.s) (l:=[[],([110,111,114,109,97,108]:BS),([112,97,110,105,99]:BS),([100,101,97,100,108,111,99,107]:BS),([115,116,97,99,107]:BS),([104,101,97,112]:BS),([114,111,117,116,105,110,101,115]:BS),([115,116,101,112,115]:BS),([115,99,114,105,112,116]:BS)]) (Yl J J (Yl J J (Yl J J (Yl J J (Yl J J (Yl J J (Yl J J (Yl J J Xn)))))))) J (Lb (f:=AV.s) (fun _=>J) J (show lk _ (d,0)=some (_,(List.map AV.s (List.replicate 9 ([]:BS)):List AV)) from Zi) (by simp) J J (Zp (hQ _ _ _ _ _ J Zi (by simp) h))))))))
end
theorem Wb3 {PG:Za}(hf:PG.fn 215=some Zao)  {K:LB->Prop}(h:Zpu PG K ) :∃res0:LB,K res0/\Ze PG 215 [] (.ag (List.map AV.s res0)):=by
  obtain ⟨v,hv,res0,hk,rfl⟩:=Ze.of (K:=fun v=>∃res0:LB,K res0/\v=.ag (List.map AV.s res0)) hf rfl (Xm6 (σ:=Xz []) (fun σ st k0 v0  res0 H0 HB0 HL0 hk=>⟨.ag (List.map AV.s res0),by simp only [Zao,Xg,Vc,Jq (n:=9) H0 HB0 (by simpa using HL0),Ks,Option.map_some],_,Zbo AV.s (fun _=>rfl) _,res0,hk,rfl⟩)  h)
  exact ⟨res0,hk,hv⟩
def Yg2:List AI:=[oC 2 (.s [])]
def Yf5:List AI:=[oM 3 0,oQ 4 15 [3],oM 2 4]
abbrev Yoq:AC:=(sR 0 Yg2 (sR 1 Yf5 .ret))
def Zf6:AF:={ nt:=5,res:=[.tmp 2],body:=Yoq }
def Zmz (PG:Za)(K:BS->Prop)(n0:Int):Prop:=
  ∃c,Ze PG 15 [.i .i64 n0] (.s c)/\K c
section
variable {PG:Za}{d:Nat}{Q:AE->Sl->St->Prop}{K:BS->Prop}(hQ:H1 AV.s 2 Q K){σ:Sl}{st:St}
include hQ
variable {n0:Int}
variable (H0:σ 0=.i .i64 n0)
include H0 in
theorem Wex (h:Zmz PG K n0):W PG d (sR 0 Yg2 (sR 1 Yf5 .ret)) σ st Q:=
 au trivial
end
theorem Xu9 {PG:Za}(hf:PG.fn 216=some Zf6){n0:Int}{K:BS->Prop}(h:Zmz PG K n0) :∃res0:BS,K res0/\Ze PG 216 [.i .i64 n0] (.s res0):=
 P1 hf J (Wex (h1 J fun _=>J) J h)
abbrev Xwu (Q:AE->Sl->St->Prop)(K:LB->Prop):Prop:=∀(σ:Sl)(st:St)(o0:Zl)(res0:LB),σ 0=.sl o0 (List.map Zv res0)->K res0->Q .ret σ st
section
variable {PG:Za}{d:Nat}{Q:AE->Sl->St->Prop}{K:LB->Prop}(hQ:Xwu Q K){σ:Sl}{st:St}
include hQ
end
abbrev Wbi (Q:AE->Sl->St->Prop)(K:BS->Prop):Prop:=∀(σ:Sl)(st:St)(res0:BS),σ 2=.s res0->K res0->Q .ret σ st
section
variable {PG:Za}{d:Nat}{Q:AE->Sl->St->Prop}{K:BS->Prop}(hQ:Wbi Q K){σ:Sl}{st:St}
include hQ
end
abbrev Ypk (Q:AE->Sl->St->Prop)(K:BS->Int->Prop):Prop:=∀(σ:Sl)(st:St)(res0:BS)(res1:Int),σ 2=.s res0->σ 3=.i .i64 res1->K res0 res1->Q .ret σ st
section
variable {PG:Za}{d:Nat}{Q:AE->Sl->St->Prop}{K:BS->Int->Prop}(hQ:Ypk Q K){σ:Sl}{st:St}
include hQ
end
abbrev Xzv (Q:AE->Sl->St->Prop)(K:BS->Int->Prop):Prop:=∀(σ:Sl)(st:St)(res0:BS)(res1:Int),σ 2=.s res0->σ 3=.i .i64 res1->K res0 res1->Q .ret σ st
section
variable {PG:Za}{d:Nat}{Q:AE->Sl->St->Prop}{K:BS->Int->Prop}(hQ:Xzv Q K){σ:Sl}{st:St}
include hQ
end
def Yfr:List AI:=[oU 2 0,oI 3 0]
def Yer:List AI:=[oQ 6 215 [],oO 4 (.alloc [zs,zs,zs,zs,zs,zs,zs,zs,zs]),oS 9 4 6]
def Yis:List AI:=[oO 7 (.slA 9 1 (.t 4) none none),oM 8 0,oQ 9 141 [7,8],oM 5 9]
def Zxh:List AI:=[oM 10 5,oV 11 .lss 10 1]
def Ycn:List AI:=[oU 2 0,oI 3 12]
def Ztw:List AI:=[oM 12 5,oO 13 (.cvi .u8 (.t 12)),oM 2 13,oI 3 0]
abbrev Yul:AC:=(sR 0 Yfr (sR 1 Yer (sR 2 Yis (.seq (sR 3 Zxh (.cond (.t 11) (sR 4 Ycn .ret) .skip)) (sR 5 Ztw .ret)))))
def Zb2:AF:={ nt:=14,res:=[.tmp 2,.tmp 3],body:=Yul }
def Zpg (PG:Za)(K:Int->Int->Prop)(s0:BS):Prop:=
  ∃e:LB,Ze PG 215 [] (.ag (List.map AV.s e))/\e.length=9/\e.length=9/\∃c,Ze PG 141 [.sl .ext (List.map Zv e),.s s0] (.i .i64 c)/\(c<1->K 0 12)/\(¬(c<1)->K (IntKind.u8.wrap c) 0)
section
variable {PG:Za}{d:Nat}{Q:AE->Sl->St->Prop}{K:Int->Int->Prop}(hQ:H2 (AV.i .u8) (AV.i .i64) 2 3 Q K){σ:Sl}{st:St}
include hQ
variable {s0:BS}
variable (H0:σ 0=.s s0)
include H0 in
theorem Wfu (h:Zpg PG K s0):W PG d (sR 0 Yfr (sR 1 Yer (sR 2 Yis (.seq (sR 3 Zxh (.cond (.t 11) (sR 4 Ycn .ret) .skip)) (sR 5 Ztw .ret))))) σ st Q:=
 q_ J (m_ (m_ (e_ (Zm (W.reg (h.elim fun _ c=>Yg sn c.1 (Xs (Lb (f:=AV.s) (fun _=>J) J (show lk _ (d,4097)=some (_,(List.map AV.s (List.replicate 9 ([]:BS)):List AV)) from Zi) (by simp) J c.2.1 (e_ (q_ J (Ykg J Zi c.2.2.1 J (m_ (c.2.2.2.elim fun _ e=>Yg (Vq J H0 J) e.1 (m_ (e_ (Zm (q_ J (m_ (b_ J J Wx (e_ (Yk J (fun i=>q_ J (m_ (m_ (Zp (hQ J J (e.2.1 i)))))) (fun i=>Yd (q_ J (m_ (An J (m_ (m_ (Zp (hQ J J (e.2.2 i))))))))))))))))))))))))))))))
end
theorem Yrg {PG:Za}(hf:PG.fn 211=some Zb2){s0:BS}{K:Int->Int->Prop}(h:Zpg PG K s0) :∃res0:Int,∃res1:Int,K res0 res1/\Ze PG 211 [.s s0] (.tup [.i .u8 res0,.i .i64 res1]):=
 P2 hf J (Wfu (h2 J fun _ _=>J) J h)
abbrev Yrq (Q:AE->Sl->St->Prop)(K:Int->Int->Prop):Prop:=∀(σ:Sl)(st:St)(res0:Int)(res1:Int),σ 2=.i .u8 res0->σ 3=.i .i64 res1->K res0 res1->Q .ret σ st
section
variable {PG:Za}{d:Nat}{Q:AE->Sl->St->Prop}{K:Int->Int->Prop}(hQ:Yrq Q K){σ:Sl}{st:St}
include hQ
end
def Zu1:List AI:=[oI 4 0]
def Zv2:List AI:=[oM 6 0,oJ 7 6,oI 8 0]
def Xln:List AI:=[oT 9 .lss 8 7]
def Xm4:List AI:=[oM 10 8,oM 5 10]
def Yy4:List AI:=[oM 11 1,oM 12 0,oM 13 5,oX 14 5 12 13,oK 15 5 14,oO 16 (.callv (.t 11) [(.t 15)])]
def Yp6:List AI:=[oM 17 5,oM 4 17]
def Wdu:List AI:=[oV 18 .add 8 1,oM 8 18]
def Xds:List AI:=[oI 4 (-1)]
abbrev Im:AC:=(sR 2 Xln (.seq (.cond (.t 9) .skip (.exit 0)) (.seq (.block 1 (sR 3 Xm4 (sR 4 Yy4 (.cond (.t 16) (sR 5 Yp6 .ret) .skip)))) (.reg 6 Wdu))))
abbrev Fm:AC:=(sR 7 Xds .ret)
abbrev Xly:AC:=(sR 0 Zu1 (.seq (sR 1 Zv2 (.block 0 (.loop Im))) Fm))
def Zfd:AF:={ nt:=19,res:=[.tmp 4],body:=Xly }
abbrev Yka (PG:Za)(d:Nat)(Q:AE->Sl->St->Prop)(Zj:St)(s0:List Zk)(f1:Nat × List AV)(t7:Int)(t8:Int):Prop:=
  ∀(σ:Sl)(st:St)(o_s0:Zl),σ 0=.sl o_s0 (List.map Zk.row s0)->σ 1=.fn f1.1 f1.2->σ 7=.i .i64 t7->σ 8=.i .i64 t8->Fr d (d,0) Zj.bx Zj.ow st.bx st.ow->W PG d (.loop Im) σ st (Ya 0 (Zs PG d Fm Q))
def Zna (PG:Za)(K:Int->Prop) :Prop:=
  K (-1)
def Ol (PG:Za)(K:Int->Prop)(P0:Int->Prop)(s0:List Zk)(f1:Nat × List AV)(t7:Int)(t8:Int):Prop:=
  (t8<t7->0<=t8/\∃e:Zk,s0[(t8).toNat]?=some e/\∃c,(Ym PG f1.1 ([e.av]++f1.2) (fun r=>r=.b c))/\(c=true->K t8)/\(c=false->P0 (IntKind.i64.wrap (t8+1))))/\(¬(t8<t7)->Zna PG K )
def Zmr (PG:Za)(K:Int->Prop)(s0:List Zk)(f1:Nat × List AV):Prop:=
  ∀P0:Int->Prop,(∀(t8:Int),Ol PG K P0 s0 f1 (s0.length:Int) t8->P0 t8)->P0 0
section
variable {PG:Za}{d:Nat}{Q:AE->Sl->St->Prop}{K:Int->Prop}{Zj:St}(hQ:HF d Zj (AV.i .i64) 4 Q K){σ:Sl}{st:St}
include hQ
variable {s0:List Zk}{f1:Nat × List AV}{t7 t8:Int}{P0:Int->Prop}{o_s0:Zl}
variable (kP0 :∀(t8:Int),P0 t8->Yka PG d Q Zj s0 f1 t7 t8)(H0:σ 0=.sl o_s0 (List.map Zk.row s0))(H1:σ 1=.fn f1.1 f1.2)(H7:σ 7=.i .i64 t7)(H8:σ 8=.i .i64 t8)(FR:Fr d (d,0) Zj.bx Zj.ow st.bx st.ow)
include FR in
theorem Xp6 (h:Zna PG K ):W PG d Fm σ st Q:=
 au trivial
include kP0 H0 H1 H7 H8 FR in
theorem Yui (h:Ol PG K P0 s0 f1 t7 t8):W PG d Im σ st (Zs PG d (.loop Im) (Ya 0 (Zs PG d Fm Q))):=
 q_ J (b_ H8 H7 Wx (e_ (Zm (Yk J (fun c=>Yd (Zm (Yj (q_ J (m_ (m_ (e_ (q_ J (m_ (Yi H0 (m_ ((h.1 c).2.elim fun o j=>Wz J H8 (h.1 c).1 j.1 (Zk.row_eq o) J (Xp J J J (j.2.elim fun _ e=>Cy H1 (Zy J Yn) (e.1) (fun _ k=>e_ (Xl J (fun i=>q_ J (m_ (m_ (Zp (hQ H8 (Fr.raw FR k) (e.2.1 i)))))) (fun i=>Yd (W.reg0 J fun _ _=>b_ H8 J Jf (m_ (e_ (kP0 _ (e.2.2 i) _ _ _ H0 H1 H7 J (Fr.raw FR k)))))))))))))))))))))) (fun c=>Vr (Xp6 hQ FR (h.2 c)))))))
include H0 H1 FR in
theorem Xfg (h:Zmr PG K s0 f1):W PG d (sR 0 Zu1 (.seq (sR 1 Zv2 (.block 0 (.loop Im))) Fm)) σ st Q:=
 q_ J (m_ (e_ (Zm (q_ J (Yi H0 (Xc J (m_ (e_ (Yj (h (Yka PG d Q Zj s0 f1 (s0.length:Int)) (fun _ hb _ _ _ H0 H1 H7 H8 FR=>W.loop (Yui hQ (fun _ x=>x) H0 H1 H7 H8 FR hb)) _ _ _ H0 H1 J J FR))))))))))
end
theorem Xv2 {PG:Za}(hf:PG.fn 236=some Zfd){s0:List Zk}{f1:Nat × List AV}{K:Int->Prop}(h:Zmr PG K s0 f1)(o_s0:Zl):Ym PG 236 [.sl o_s0 (List.map Zk.row s0),.fn f1.1 f1.2] (fun r=>∃res0:Int,(r=.i .i64 res0)/\K res0):=
 PF hf J J fun d st Q q=>Xfg q J J Fr.refl h
def Zsr:List AI:=[oI 4 0]
def Zye:List AI:=[oM 6 0,oJ 7 6,oI 8 0]
def Xya:List AI:=[oT 9 .lss 8 7]
def Yze:List AI:=[oM 10 8,oM 5 10]
def Yv7:List AI:=[oM 11 1,oM 12 0,oM 13 5,oX 14 4 12 13,oK 15 4 14,oO 16 (.callv (.t 11) [(.t 15)])]
def Xam:List AI:=[oM 17 5,oM 4 17]
def Xem:List AI:=[oV 18 .add 8 1,oM 8 18]
def We6:List AI:=[oI 4 (-1)]
abbrev Oh:AC:=(sR 2 Xya (.seq (.cond (.t 9) .skip (.exit 0)) (.seq (.block 1 (sR 3 Yze (sR 4 Yv7 (.cond (.t 16) (sR 5 Xam .ret) .skip)))) (.reg 6 Xem))))
abbrev Il:AC:=(sR 7 We6 .ret)
abbrev Xjo:AC:=(sR 0 Zsr (.seq (sR 1 Zye (.block 0 (.loop Oh))) Il))
def Zfp:AF:={ nt:=19,res:=[.tmp 4],body:=Xjo }
abbrev Yia (PG:Za)(d:Nat)(Q:AE->Sl->St->Prop)(Zj:St)(s0:List Zg)(f1:Nat × List AV)(t7:Int)(t8:Int):Prop:=
  ∀(σ:Sl)(st:St)(o_s0:Zl),σ 0=.sl o_s0 (List.map Zg.row s0)->σ 1=.fn f1.1 f1.2->σ 7=.i .i64 t7->σ 8=.i .i64 t8->Fr d (d,0) Zj.bx Zj.ow st.bx st.ow->W PG d (.loop Oh) σ st (Ya 0 (Zs PG d Il Q))
def Zny (PG:Za)(K:Int->Prop) :Prop:=
  K (-1)
def Fj (PG:Za)(K:Int->Prop)(P0:Int->Prop)(s0:List Zg)(f1:Nat × List AV)(t7:Int)(t8:Int):Prop:=
  (t8<t7->0<=t8/\∃e:Zg,s0[(t8).toNat]?=some e/\∃c,(Ym PG f1.1 ([e.av]++f1.2) (fun r=>r=.b c))/\(c=true->K t8)/\(c=false->P0 (IntKind.i64.wrap (t8+1))))/\(¬(t8<t7)->Zny PG K )
def Zo0 (PG:Za)(K:Int->Prop)(s0:List Zg)(f1:Nat × List AV):Prop:=
  ∀P0:Int->Prop,(∀(t8:Int),Fj PG K P0 s0 f1 (s0.length:Int) t8->P0 t8)->P0 0
section
variable {PG:Za}{d:Nat}{Q:AE->Sl->St->Prop}{K:Int->Prop}{Zj:St}(hQ:HF d Zj (AV.i .i64) 4 Q K){σ:Sl}{st:St}
include hQ
variable {s0:List Zg}{f1:Nat × List AV}{t7 t8:Int}{P0:Int->Prop}{o_s0:Zl}
variable (kP0 :∀(t8:Int),P0 t8->Yia PG d Q Zj s0 f1 t7 t8)(H0:σ 0=.sl o_s0 (List.map Zg.row s0))(H1:σ 1=.fn f1.1 f1.2)(H7:σ 7=.i .i64 t7)(H8:σ 8=.i .i64 t8)(FR:Fr d (d,0) Zj.bx Zj.ow st.bx st.ow)
include FR in
theorem Xyr (h:Zny PG K ):W PG d Il σ st Q:=
 au trivial
include kP0 H0 H1 H7 H8 FR in
theorem Yqh (h:Fj PG K P0 s0 f1 t7 t8):W PG d Oh σ st (Zs PG d (.loop Oh) (Ya 0 (Zs PG d Il Q))):=
 q_ J (b_ H8 H7 Wx (e_ (Zm (Yk J (fun c=>Yd (Zm (Yj (q_ J (m_ (m_ (e_ (q_ J (m_ (Yi H0 (m_ ((h.1 c).2.elim fun o j=>Wz J H8 (h.1 c).1 j.1 (Zg.row_eq o) J (Xp J J J (j.2.elim fun _ e=>Cy H1 (Zy J Yn) (e.1) (fun _ k=>e_ (Xl J (fun i=>q_ J (m_ (m_ (Zp (hQ H8 (Fr.raw FR k) (e.2.1 i)))))) (fun i=>Yd (W.reg0 J fun _ _=>b_ H8 J Jf (m_ (e_ (kP0 _ (e.2.2 i) _ _ _ H0 H1 H7 J (Fr.raw FR k)))))))))))))))))))))) (fun c=>Vr (Xyr hQ FR (h.2 c)))))))
include H0 H1 FR in
theorem Wc3 (h:Zo0 PG K s0 f1):W PG d (sR 0 Zsr (.seq (sR 1 Zye (.block 0 (.loop Oh))) Il)) σ st Q:=
 q_ J (m_ (e_ (Zm (q_ J (Yi H0 (Xc J (m_ (e_ (Yj (h (Yia PG d Q Zj s0 f1 (s0.length:Int)) (fun _ hb _ _ _ H0 H1 H7 H8 FR=>W.loop (Yqh hQ (fun _ x=>x) H0 H1 H7 H8 FR hb)) _ _ _ H0 H1 J J FR))))))))))
end
theorem Xj6 {PG:Za}(hf:PG.fn 237=some Zfp){s0:List Zg}{f1:Nat × List AV}{K:Int->Prop}(h:Zo0 PG K s0 f1)(o_s0:Zl):Ym PG 237 [.sl o_s0 (List.map Zg.row s0),.fn f1.1 f1.2] (fun r=>∃res0:Int,(r=.i .i64 res0)/\K res0):=
 PF hf J J fun d st Q q=>Wc3 q J J Fr.refl h
def Zzx:List AI:=[oI 4 0]
def Yks:List AI:=[oM 6 0,oJ 7 6,oI 8 0]
def Xdx:List AI:=[oT 9 .lss 8 7]
def Xs6:List AI:=[oM 10 8,oM 5 10]
def Xuv:List AI:=[oM 11 1,oM 12 0,oM 13 5,oX 14 8 12 13,oK 15 8 14,oO 16 (.callv (.t 11) [(.t 15)])]
def Wdz:List AI:=[oM 17 5,oM 4 17]
def Xo1:List AI:=[oV 18 .add 8 1,oM 8 18]
def Xra:List AI:=[oI 4 (-1)]
abbrev Eg:AC:=(sR 2 Xdx (.seq (.cond (.t 9) .skip (.exit 0)) (.seq (.block 1 (sR 3 Xs6 (sR 4 Xuv (.cond (.t 16) (sR 5 Wdz .ret) .skip)))) (.reg 6 Xo1))))
abbrev Fk:AC:=(sR 7 Xra .ret)
abbrev We7:AC:=(sR 0 Zzx (.seq (sR 1 Yks (.block 0 (.loop Eg))) Fk))
def Zbu:AF:={ nt:=19,res:=[.tmp 4],body:=We7 }
abbrev Zzi (PG:Za)(d:Nat)(Q:AE->Sl->St->Prop)(Zj:St)(s0:List Zq)(f1:Nat × List AV)(t7:Int)(t8:Int):Prop:=
  ∀(σ:Sl)(st:St)(o_s0:Zl),σ 0=.sl o_s0 (List.map Zq.row s0)->σ 1=.fn f1.1 f1.2->σ 7=.i .i64 t7->σ 8=.i .i64 t8->Fr d (d,0) Zj.bx Zj.ow st.bx st.ow->W PG d (.loop Eg) σ st (Ya 0 (Zs PG d Fk Q))
def Zlv (PG:Za)(K:Int->Prop) :Prop:=
  K (-1)
def Ea (PG:Za)(K:Int->Prop)(P0:Int->Prop)(s0:List Zq)(f1:Nat × List AV)(t7:Int)(t8:Int):Prop:=
  (t8<t7->0<=t8/\∃e:Zq,s0[(t8).toNat]?=some e/\∃c,(Ym PG f1.1 ([e.av]++f1.2) (fun r=>r=.b c))/\(c=true->K t8)/\(c=false->P0 (IntKind.i64.wrap (t8+1))))/\(¬(t8<t7)->Zlv PG K )
def Zmf (PG:Za)(K:Int->Prop)(s0:List Zq)(f1:Nat × List AV):Prop:=
  ∀P0:Int->Prop,(∀(t8:Int),Ea PG K P0 s0 f1 (s0.length:Int) t8->P0 t8)->P0 0
section
variable {PG:Za}{d:Nat}{Q:AE->Sl->St->Prop}{K:Int->Prop}{Zj:St}(hQ:HF d Zj (AV.i .i64) 4 Q K){σ:Sl}{st:St}
include hQ
variable {s0:List Zq}{f1:Nat × List AV}{t7 t8:Int}{P0:Int->Prop}{o_s0:Zl}
variable (kP0 :∀(t8:Int),P0 t8->Zzi PG d Q Zj s0 f1 t7 t8)(H0:σ 0=.sl o_s0 (List.map Zq.row s0))(H1:σ 1=.fn f1.1 f1.2)(H7:σ 7=.i .i64 t7)(H8:σ 8=.i .i64 t8)(FR:Fr d (d,0) Zj.bx Zj.ow st.bx st.ow)
include FR in
theorem Yrh (h:Zlv PG K ):W PG d Fk σ st Q:=
 au trivial
include kP0 H0 H1 H7 H8 FR in
theorem Wfg (h:Ea PG K P0 s0 f1 t7 t8):W PG d Eg σ st (Zs PG d (.loop Eg) (Ya 0 (Zs PG d Fk Q))):=
 q_ J (b_ H8 H7 Wx (e_ (Zm (Yk J (fun c=>Yd (Zm (Yj (q_ J (m_ (m_ (e_ (q_ J (m_ (Yi H0 (m_ ((h.1 c).2.elim fun o j=>Wz J H8 (h.1 c).1 j.1 (Zq.row_eq o) J (Xp J J J (j.2.elim fun _ e=>Cy H1 (Zy J Yn) (e.1) (fun _ k=>e_ (Xl J (fun i=>q_ J (m_ (m_ (Zp (hQ H8 (Fr.raw FR k) (e.2.1 i)))))) (fun i=>Yd (W.reg0 J fun _ _=>b_ H8 J Jf (m_ (e_ (kP0 _ (e.2.2 i) _ _ _ H0 H1 H7 J (Fr.raw FR k)))))))))))))))))))))) (fun c=>Vr (Yrh hQ FR (h.2 c)))))))
include H0 H1 FR in
theorem Xrt (h:Zmf PG K s0 f1):W PG d (sR 0 Zzx (.seq (sR 1 Yks (.block 0 (.loop Eg))) Fk)) σ st Q:=
 q_ J (m_ (e_ (Zm (q_ J (Yi H0 (Xc J (m_ (e_ (Yj (h (Zzi PG d Q Zj s0 f1 (s0.length:Int)) (fun _ hb _ _ _ H0 H1 H7 H8 FR=>W.loop (Wfg hQ (fun _ x=>x) H0 H1 H7 H8 FR hb)) _ _ _ H0 H1 J J FR))))))))))
end
theorem Xd3 {PG:Za}(hf:PG.fn 238=some Zbu){s0:List Zq}{f1:Nat × List AV}{K:Int->Prop}(h:Zmf PG K s0 f1)(o_s0:Zl):Ym PG 238 [.sl o_s0 (List.map Zq.row s0),.fn f1.1 f1.2] (fun r=>∃res0:Int,(r=.i .i64 res0)/\K res0):=
 PF hf J J fun d st Q q=>Xrt q J J Fr.refl h
def Zv7:List AI:=[oI 4 0]
def Ygr:List AI:=[oM 6 0,oJ 7 6,oI 8 0]
def Yyl:List AI:=[oT 9 .lss 8 7]
def Xvz:List AI:=[oM 10 8,oM 5 10]
def Xyi:List AI:=[oM 11 1,oM 12 0,oM 13 5,oX 14 7 12 13,oK 15 7 14,oO 16 (.callv (.t 11) [(.t 15)])]
def Yp3:List AI:=[oM 17 5,oM 4 17]
def Xbs:List AI:=[oV 18 .add 8 1,oM 8 18]
def Yo0:List AI:=[oI 4 (-1)]
abbrev Zaf:AC:=(sR 2 Yyl (.seq (.cond (.t 9) .skip (.exit 0)) (.seq (.block 1 (sR 3 Xvz (sR 4 Xyi (.cond (.t 16) (sR 5 Yp3 .ret) .skip)))) (.reg 6 Xbs))))
abbrev Oe:AC:=(sR 7 Yo0 .ret)
abbrev Xoo:AC:=(sR 0 Zv7 (.seq (sR 1 Ygr (.block 0 (.loop Zaf))) Oe))
def Zcf:AF:={ nt:=19,res:=[.tmp 4],body:=Xoo }
abbrev Zxg (PG:Za)(d:Nat)(Q:AE->Sl->St->Prop)(Zj:St)(s0:List Zh)(f1:Nat × List AV)(t7:Int)(t8:Int):Prop:=
  ∀(σ:Sl)(st:St)(o_s0:Zl),σ 0=.sl o_s0 (List.map Zh.row s0)->σ 1=.fn f1.1 f1.2->σ 7=.i .i64 t7->σ 8=.i .i64 t8->Fr d (d,0) Zj.bx Zj.ow st.bx st.ow->W PG d (.loop Zaf) σ st (Ya 0 (Zs PG d Oe Q))
def Zia (PG:Za)(K:Int->Prop) :Prop:=
  K (-1)
def Am (PG:Za)(K:Int->Prop)(P0:Int->Prop)(s0:List Zh)(f1:Nat × List AV)(t7:Int)(t8:Int):Prop:=
  (t8<t7->0<=t8/\∃e:Zh,s0[(t8).toNat]?=some e/\∃c,(Ym PG f1.1 ([e.av]++f1.2) (fun r=>r=.b c))/\(c=true->K t8)/\(c=false->P0 (IntKind.i64.wrap (t8+1))))/\(¬(t8<t7)->Zia PG K )
def Zio (PG:Za)(K:Int->Prop)(s0:List Zh)(f1:Nat × List AV):Prop:=
  ∀P0:Int->Prop,(∀(t8:Int),Am PG K P0 s0 f1 (s0.length:Int) t8->P0 t8)->P0 0
section
variable {PG:Za}{d:Nat}{Q:AE->Sl->St->Prop}{K:Int->Prop}{Zj:St}(hQ:HF d Zj (AV.i .i64) 4 Q K){σ:Sl}{st:St}
include hQ
variable {s0:List Zh}{f1:Nat × List AV}{t7 t8:Int}{P0:Int->Prop}{o_s0:Zl}
variable (kP0 :∀(t8:Int),P0 t8->Zxg PG d Q Zj s0 f1 t7 t8)(H0:σ 0=.sl o_s0 (List.map Zh.row s0))(H1:σ 1=.fn f1.1 f1.2)(H7:σ 7=.i .i64 t7)(H8:σ 8=.i .i64 t8)(FR:Fr d (d,0) Zj.bx Zj.ow st.bx st.ow)
include FR in
theorem Xpj (h:Zia PG K ):W PG d Oe σ st Q:=
 au trivial
include kP0 H0 H1 H7 H8 FR in
theorem Xi2 (h:Am PG K P0 s0 f1 t7 t8):W PG d Zaf σ st (Zs PG d (.loop Zaf) (Ya 0 (Zs PG d Oe Q))):=
 q_ J (b_ H8 H7 Wx (e_ (Zm (Yk J (fun c=>Yd (Zm (Yj (q_ J (m_ (m_ (e_ (q_ J (m_ (Yi H0 (m_ ((h.1 c).2.elim fun o j=>Wz J H8 (h.1 c).1 j.1 (Zh.row_eq o) J (Xp J J J (j.2.elim fun _ e=>Cy H1 (Zy J Yn) (e.1) (fun _ k=>e_ (Xl J (fun i=>q_ J (m_ (m_ (Zp (hQ H8 (Fr.raw FR k) (e.2.1 i)))))) (fun i=>Yd (W.reg0 J fun _ _=>b_ H8 J Jf (m_ (e_ (kP0 _ (e.2.2 i) _ _ _ H0 H1 H7 J (Fr.raw FR k)))))))))))))))))))))) (fun c=>Vr (Xpj hQ FR (h.2 c)))))))
include H0 H1 FR in
theorem Xif (h:Zio PG K s0 f1):W PG d (sR 0 Zv7 (.seq (sR 1 Ygr (.block 0 (.loop Zaf))) Oe)) σ st Q:=
 q_ J (m_ (e_ (Zm (q_ J (Yi H0 (Xc J (m_ (e_ (Yj (h (Zxg PG d Q Zj s0 f1 (s0.length:Int)) (fun _ hb _ _ _ H0 H1 H7 H8 FR=>W.loop (Xi2 hQ (fun _ x=>x) H0 H1 H7 H8 FR hb)) _ _ _ H0 H1 J J FR))))))))))
end
theorem Yxz {PG:Za}(hf:PG.fn 239=some Zcf){s0:List Zh}{f1:Nat × List AV}{K:Int->Prop}(h:Zio PG K s0 f1)(o_s0:Zl):Ym PG 239 [.sl o_s0 (List.map Zh.row s0),.fn f1.1 f1.2] (fun r=>∃res0:Int,(r=.i .i64 res0)/\K res0):=
 PF hf J J fun d st Q q=>Xif q J J Fr.refl h
def Ya3:List AI:=[oC 4 (.b false)]
def Yl5:List AI:=[oM 5 0,oM 6 1,oO 7 (.call true 236 [(.t 5),(.t 6)]),oV 8 .geq 7 0,oM 4 8]
abbrev Yz6:AC:=(sR 0 Ya3 (sR 1 Yl5 .ret))
def Zbl:AF:={ nt:=9,res:=[.tmp 4],body:=Yz6 }
def Zj7 (PG:Za)(K:Bool->Prop)(s0:List Zk)(f1:Nat × List AV):Prop:=
  ∃c,(∀e:Zl,Ym PG 236 [.sl e (List.map Zk.row s0),.fn f1.1 f1.2] (fun r=>r=.i .i64 c))/\K (decide (c>=0))
section
variable {PG:Za}{d:Nat}{Q:AE->Sl->St->Prop}{K:Bool->Prop}{Zj:St}(hQ:HF d Zj AV.b 4 Q K){σ:Sl}{st:St}
include hQ
variable {s0:List Zk}{f1:Nat × List AV}{o_s0:Zl}
variable (H0:σ 0=.sl o_s0 (List.map Zk.row s0))(H1:σ 1=.fn f1.1 f1.2)(FR:Fr d (d,0) Zj.bx Zj.ow st.bx st.ow)
include H0 H1 FR in
theorem Xp3 (h:Zj7 PG K s0 f1):W PG d (sR 0 Ya3 (sR 1 Yl5 .ret)) σ st Q:=
 q_ J (m_ (e_ (q_ J (Yi H0 (m_ (h.elim fun _ c=>Gx (Zy J (Zy H1 Yn)) (c.1 _) (fun _ e=>b_ J J Gb (m_ (Zp (hQ J (Fr.raw FR e) c.2))))))))))
end
theorem Xn6 {PG:Za}(hf:PG.fn 224=some Zbl){s0:List Zk}{f1:Nat × List AV}{K:Bool->Prop}(h:Zj7 PG K s0 f1)(o_s0:Zl):Ym PG 224 [.sl o_s0 (List.map Zk.row s0),.fn f1.1 f1.2] (fun r=>∃res0:Bool,(r=.b res0)/\K res0):=
 PF hf J J fun d st Q q=>Xp3 q J J Fr.refl h
def Zy5:List AI:=[oC 4 (.b false)]
def Zz3:List AI:=[oM 5 0,oM 6 1,oO 7 (.call true 237 [(.t 5),(.t 6)]),oV 8 .geq 7 0,oM 4 8]
abbrev Xwe:AC:=(sR 0 Zy5 (sR 1 Zz3 .ret))
def Zd9:AF:={ nt:=9,res:=[.tmp 4],body:=Xwe }
def Zm1 (PG:Za)(K:Bool->Prop)(s0:List Zg)(f1:Nat × List AV):Prop:=
  ∃c,(∀e:Zl,Ym PG 237 [.sl e (List.map Zg.row s0),.fn f1.1 f1.2] (fun r=>r=.i .i64 c))/\K (decide (c>=0))
section
variable {PG:Za}{d:Nat}{Q:AE->Sl->St->Prop}{K:Bool->Prop}{Zj:St}(hQ:HF d Zj AV.b 4 Q K){σ:Sl}{st:St}
include hQ
variable {s0:List Zg}{f1:Nat × List AV}{o_s0:Zl}
variable (H0:σ 0=.sl o_s0 (List.map Zg.row s0))(H1:σ 1=.fn f1.1 f1.2)(FR:Fr d (d,0) Zj.bx Zj.ow st.bx st.ow)
include H0 H1 FR in
theorem Yy7 (h:Zm1 PG K s0 f1):W PG d (sR 0 Zy5 (sR 1 Zz3 .ret)) σ st Q:=
 q_ J (m_ (e_ (q_ J (Yi H0 (m_ (h.elim fun _ c=>Gx (Zy J (Zy H1 Yn)) (c.1 _) (fun _ e=>b_ J J Gb (m_ (Zp (hQ J (Fr.raw FR e) c.2))))))))))
end
theorem Xmn {PG:Za}(hf:PG.fn 227=some Zd9){s0:List Zg}{f1:Nat × List AV}{K:Bool->Prop}(h:Zm1 PG K s0 f1)(o_s0:Zl):Ym PG 227 [.sl o_s0 (List.map Zg.row s0),.fn f1.1 f1.2] (fun r=>∃res0:Bool,(r=.b res0)/\K res0):=
 PF hf J J fun d st Q q=>Yy7 q J J Fr.refl h
def Ydh:List AI:=[oC 4 (.b false)]
def Zzm:List AI:=[oM 5 0,oM 6 1,oO 7 (.call true 238 [(.t 5),(.t 6)]),oV 8 .geq 7 0,oM 4 8]
abbrev Wj6:AC:=(sR 0 Ydh (sR 1 Zzm .ret))
def Zfx:AF:={ nt:=9,res:=[.tmp 4],body:=Wj6 }
def Zo3 (PG:Za)(K:Bool->Prop)(s0:List Zq)(f1:Nat × List AV):Prop:=
  ∃c,(∀e:Zl,Ym PG 238 [.sl e (List.map Zq.row s0),.fn f1.1 f1.2] (fun r=>r=.i .i64 c))/\K (decide (c>=0))
section
variable {PG:Za}{d:Nat}{Q:AE->Sl->St->Prop}{K:Bool->Prop}{Zj:St}(hQ:HF d Zj AV.b 4 Q K){σ:Sl}{st:St}
include hQ
variable {s0:List Zq}{f1:Nat × List AV}{o_s0:Zl}
variable (H0:σ 0=.sl o_s0 (List.map Zq.row s0))(H1:σ 1=.fn f1.1 f1.2)(FR:Fr d (d,0) Zj.bx Zj.ow st.bx st.ow)
include H0 H1 FR in
theorem Wao (h:Zo3 PG K s0 f1):W PG d (sR 0 Ydh (sR 1 Zzm .ret)) σ st Q:=
 q_ J (m_ (e_ (q_ J (Yi H0 (m_ (h.elim fun _ c=>Gx (Zy J (Zy H1 Yn)) (c.1 _) (fun _ e=>b_ J J Gb (m_ (Zp (hQ J (Fr.raw FR e) c.2))))))))))
end
theorem Wim {PG:Za}(hf:PG.fn 229=some Zfx){s0:List Zq}{f1:Nat × List AV}{K:Bool->Prop}(h:Zo3 PG K s0 f1)(o_s0:Zl):Ym PG 229 [.sl o_s0 (List.map Zq.row s0),.fn f1.1 f1.2] (fun r=>∃res0:Bool,(r=.b res0)/\K res0):=
 PF hf J J fun d st Q q=>Wao q J J Fr.refl h
def Yje:List AI:=[oC 4 (.b false)]
def Ykb:List AI:=[oM 5 0,oM 6 1,oO 7 (.call true 239 [(.t 5),(.t 6)]),oV 8 .geq 7 0,oM 4 8]
abbrev Win:AC:=(sR 0 Yje (sR 1 Ykb .ret))
def Zfa:AF:={ nt:=9,res:=[.tmp 4],body:=Win }
def Zig (PG:Za)(K:Bool->Prop)(s0:List Zh)(f1:Nat × List AV):Prop:=
  ∃c,(∀e:Zl,Ym PG 239 [.sl e (List.map Zh.row s0),.fn f1.1 f1.2] (fun r=>r=.i .i64 c))/\K (decide (c>=0))
section
variable {PG:Za}{d:Nat}{Q:AE->Sl->St->Prop}{K:Bool->Prop}{Zj:St}(hQ:HF d Zj AV.b 4 Q K){σ:Sl}{st:St}
include hQ
variable {s0:List Zh}{f1:Nat × List AV}{o_s0:Zl}
variable (H0:σ 0=.sl o_s0 (List.map Zh.row s0))(H1:σ 1=.fn f1.1 f1.2)(FR:Fr d (d,0) Zj.bx Zj.ow st.bx st.ow)
include H0 H1 FR in
theorem Xk7 (h:Zig PG K s0 f1):W PG d (sR 0 Yje (sR 1 Ykb .ret)) σ st Q:=
 q_ J (m_ (e_ (q_ J (Yi H0 (m_ (h.elim fun _ c=>Gx (Zy J (Zy H1 Yn)) (c.1 _) (fun _ e=>b_ J J Gb (m_ (Zp (hQ J (Fr.raw FR e) c.2))))))))))
end
theorem Xi6 {PG:Za}(hf:PG.fn 232=some Zfa){s0:List Zh}{f1:Nat × List AV}{K:Bool->Prop}(h:Zig PG K s0 f1)(o_s0:Zl):Ym PG 232 [.sl o_s0 (List.map Zh.row s0),.fn f1.1 f1.2] (fun r=>∃res0:Bool,(r=.b res0)/\K res0):=
 PF hf J J fun d st Q q=>Xk7 q J J Fr.refl h
end Go.AM

/- Yf of the proof. -/
namespace Go.AM
open Go
set_option linter.unusedVariables false
set_option linter.unusedSimpArgs false
set_option maxRecDepth 4000
set_option maxHeartbeats 2000000
attribute [local irreducible] Decidable.decide W WO Wq Ws
def Yc2:List AI:=[oY 2 4 0,oC 3 (.b false)]
def Ycc:List AI:=[oK 4 3 1,oK 5 4 2,oQ 6 86 [4,5],oV 7 .neq 6 0,oM 3 7]
abbrev Yyc:AC:=(sR 0 Yc2 (sR 1 Ycc .ret))
def Zfy:AF:={ nt:=8,res:=[.tmp 3],body:=Yyc }
def Zog (PG:Za)(K:Bool->Prop)(y0:Zg)(t1:Zf):Prop:=
  ∃c,Ze PG 86 [t1.av,y0.av] (.i .i64 c)/\K (decide (c≠0))
section
variable {PG:Za}{d:Nat}{Q:AE->Sl->St->Prop}{K:Bool->Prop}{Zj:St}(hQ:HF d Zj AV.b 3 Q K){σ:Sl}{st:St}
include hQ
variable {y0:Zg}{t1:Zf}
variable (H0:σ 0=y0.av)(H1:σ 1=.fp [.sl .ext (List.map Wu.row t1.types),.sl .ext (List.map Zv t1.texts),.sl .ext (List.map Yb.row t1.funcs)])(FR:Fr d (d,0) Zj.bx Zj.ow st.bx st.ow)
include H0 H1 FR in
theorem Yym (h:Zog PG K y0 t1):W PG d (sR 0 Yc2 (sR 1 Ycc .ret)) σ st Q:=
 au trivial
end
theorem Xod {PG:Za}(hf:PG.fn 228=some Zfy){y0:Zg}{t1:Zf}{K:Bool->Prop}(h:Zog PG K y0 t1):Ym PG 228 [y0.av,.fp [.sl .ext (List.map Wu.row t1.types),.sl .ext (List.map Zv t1.texts),.sl .ext (List.map Yb.row t1.funcs)]] (fun r=>∃res0:Bool,(r=.b res0)/\K res0):=
 PF hf J J fun d st Q q=>Yym q J J Fr.refl h
def Yck:List AI:=[oY 3 8 0,oC 4 (.b false)]
def Yke:List AI:=[oK 5 3 1,oL 6 2,oK 7 8 3,oQ 8 231 [5,6,7],oZ 9 8,oM 4 9]
abbrev Xdc:AC:=(sR 0 Yck (sR 1 Yke .ret))
def Zbc:AF:={ nt:=10,res:=[.tmp 4],body:=Xdc }
def Zn1 (PG:Za)(K:Bool->Prop)(y0:Zq)(t1:Zf)(t2:Int):Prop:=
  ∃c,Ze PG 231 [t1.av,.i .i64 t2,y0.av] (.b c)/\K (!c)
section
variable {PG:Za}{d:Nat}{Q:AE->Sl->St->Prop}{K:Bool->Prop}{Zj:St}(hQ:HF d Zj AV.b 4 Q K){σ:Sl}{st:St}
include hQ
variable {y0:Zq}{t1:Zf}{t2:Int}
variable (H0:σ 0=y0.av)(H1:σ 1=.fp [.sl .ext (List.map Wu.row t1.types),.sl .ext (List.map Zv t1.texts),.sl .ext (List.map Yb.row t1.funcs)])(H2:σ 2=.fp [.i .i64 t2])(FR:Fr d (d,0) Zj.bx Zj.ow st.bx st.ow)
include H0 H1 H2 FR in
theorem Yqq (h:Zn1 PG K y0 t1 t2):W PG d (sR 0 Yck (sR 1 Yke .ret)) σ st Q:=
 au trivial
end
theorem Yq7 {PG:Za}(hf:PG.fn 230=some Zbc){y0:Zq}{t1:Zf}{t2:Int}{K:Bool->Prop}(h:Zn1 PG K y0 t1 t2):Ym PG 230 [y0.av,.fp [.sl .ext (List.map Wu.row t1.types),.sl .ext (List.map Zv t1.texts),.sl .ext (List.map Yb.row t1.funcs)],.fp [.i .i64 t2]] (fun r=>∃res0:Bool,(r=.b res0)/\K res0):=
 PF hf J J fun d st Q q=>Yqq q J J J Fr.refl h
def Zvh:List AI:=[oY 1 7 0,oC 2 (.b false)]
def Yho:List AI:=[oK 3 7 1,oQ 4 158 [3],oV 5 .neq 4 0,oM 2 5]
abbrev Xot:AC:=(sR 0 Zvh (sR 1 Yho .ret))
def Zd1:AF:={ nt:=6,res:=[.tmp 2],body:=Xot }
def Zl3 (PG:Za)(K:Bool->Prop)(y0:Zh):Prop:=
  ∃c,Ze PG 158 [y0.av] (.i .i64 c)/\K (decide (c≠0))
section
variable {PG:Za}{d:Nat}{Q:AE->Sl->St->Prop}{K:Bool->Prop}{Zj:St}(hQ:HF d Zj AV.b 2 Q K){σ:Sl}{st:St}
include hQ
variable {y0:Zh}
variable (H0:σ 0=y0.av)(FR:Fr d (d,0) Zj.bx Zj.ow st.bx st.ow)
include H0 FR in
theorem Xng (h:Zl3 PG K y0):W PG d (sR 0 Zvh (sR 1 Yho .ret)) σ st Q:=
 au trivial
end
theorem Wf8 {PG:Za}(hf:PG.fn 233=some Zd1){y0:Zh}{K:Bool->Prop}(h:Zl3 PG K y0):Ym PG 233 [y0.av] (fun r=>∃res0:Bool,(r=.b res0)/\K res0):=
 PF hf J J fun d st Q q=>Xng q J Fr.refl h
def Ykj:List AI:=[oY 3 3 0,oY 5 8 2,oC 6 (.b false)]
def Xd7:List AI:=[oF 8 0 5,oL 9 8,oV 10 .lss 9 0,oM 11 10,gF 11 (oF 12 0 5),gF 11 (oL 13 12),gF 11 (oM 14 1),gF 11 (oT 15 .geq 13 14),oR 16 11 15,oM 17 16,gF 17 (oF 18 1 5),gF 17 (oL 19 18),gF 17 (oV 20 .lss 19 0),oR 21 17 20,oM 22 21,gF 22 (oF 23 1 5),gF 22 (oL 24 23),gF 22 (oF 25 2 3),gF 22 (oL 26 25),gF 22 (oJ 27 26),gF 22 (oT 28 .geq 24 27),oR 29 22 28,oM 30 29,gF 30 (oF 31 2 3),gF 30 (oL 32 31),gF 30 (oF 33 1 5),gF 30 (oL 34 33),gF 30 (oX 35 7 32 34),gF 30 (oF 36 0 35),gF 30 (oL 37 36),gF 30 (oH 38 37),gF 30 (oV 39 .gtr 38 16),oR 40 30 39]
def Ypy:List AI:=[oC 6 (.b false)]
def Ys2:List AI:=[oF 41 2 5,oL 42 41,oZ 43 42]
def Wi3:List AI:=[oF 44 3 5,oK 45 5 44,oO 7 (.alloc [z8,z6,zs,zl,zb]),oS 5 7 45]
def Who:List AI:=[oF 46 0 7,oL 47 46,oW 48 .eql 47 0,oM 49 48,gT 49 (oF 50 1 7),gT 49 (oL 51 50),gT 49 (oV 52 .eql 51 0),oA 53 49 52,oM 54 53,gT 54 (oF 55 2 7),gT 54 (oL 56 55),gT 54 (oB 57 .eql (.t 56) (.c (.s []))),oA 58 54 57,oM 59 58,gT 59 (oF 60 3 7),gT 59 (oL 61 60),gT 59 (oJ 62 61),gT 59 (oV 63 .eql 62 0),oA 64 59 63,oM 65 64,gT 65 (oF 66 4 7),gT 65 (oL 67 66),gT 65 (oZ 68 67),oA 69 65 68,oM 6 69]
def Ymx:List AI:=[oF 70 3 5,oF 71 0 70,oL 72 71]
def Xqp:List AI:=[oW 74 .eql 72 1,oM 73 74]
def Xxj:List AI:=[oW 75 .eql 72 2,oM 73 75]
def Xub:List AI:=[oW 76 .eql 72 4,oM 73 76]
def Wek:List AI:=[oF 77 3 5,oK 78 5 77,oQ 79 76 [78],oV 80 .eql 79 0,oM 6 80]
def Ztk:List AI:=[oC 6 (.b false)]
abbrev Zy9:AC:=(.cond (.t 73) (sR 10 Wek .ret) .skip)
abbrev Yjb:AC:=(.seq (sR 6 Ymx (.block 0 (.seq (sR 7 Xqp (.cond (.t 73) .skip (sR 8 Xxj (.cond (.t 73) .skip (.reg 9 Xub))))) Zy9))) (sR 11 Ztk .ret))
abbrev Yez:AC:=(.seq (sR 3 Ys2 (.cond (.t 43) (sR 4 Wi3 (sR 5 Who .ret)) .skip)) Yjb)
abbrev Zoq:AC:=(.seq (sR 1 Xd7 (.cond (.t 40) (sR 2 Ypy .ret) .skip)) Yez)
abbrev Yqy:AC:=(sR 0 Ykj Zoq)
def Zds:AF:={ nt:=81,res:=[.tmp 6],body:=Yqy }
def Pt (PG:Za)(K:Bool->Prop)(t73:Bool)(m1:Zq):Prop:=
  (t73=true->∃c,Ze PG 76 [m1.arg.av] (.i .i64 c)/\K (decide (c=0)))/\(t73=false->K false)
def Zkm (PG:Za)(K:Bool->Prop)(m1:Zq):Prop:=
  (m1.arg.kind=1->Pt PG K (decide (m1.arg.kind=1)) m1)/\(¬(m1.arg.kind=1)->(m1.arg.kind=2->Pt PG K (decide (m1.arg.kind=2)) m1)/\(¬(m1.arg.kind=2)->Pt PG K (decide (m1.arg.kind=4)) m1))
def Zmq (PG:Za)(K:Bool->Prop)(m1:Zq):Prop:=
  ((!m1.hasArg)=true->(m1.arg.kind=0->(m1.arg.int=0->(m1.arg.text=([]:BS)->((m1.arg.list.length:Int)=0->K (!m1.arg.cut))/\(¬((m1.arg.list.length:Int)=0)->K false))/\(¬(m1.arg.text=([]:BS))->K false))/\(¬(m1.arg.int=0)->K false))/\(¬(m1.arg.kind=0)->K false))/\((!m1.hasArg)=false->Zkm PG K m1)
def Zql (PG:Za)(K:Bool->Prop)(frames1:Int)(m0:Zf)(m1:Zq):Prop:=
  (m1.frame<0->K false)/\(¬(m1.frame<0)->(m1.frame>=frames1->K false)/\(¬(m1.frame>=frames1)->(m1.func<0->K false)/\(¬(m1.func<0)->(m1.func>=(m0.funcs.length:Int)->K false)/\(¬(m1.func>=(m0.funcs.length:Int))->0<=m1.func/\∃c:Yb,m0.funcs[(m1.func).toNat]?=some c/\((c.name.length:Int)>16->K false)/\(¬((c.name.length:Int)>16)->Zmq PG K m1)))))
def Zo1 (PG:Za)(K:Bool->Prop)(m0:Zf)(frames1:Int)(d2:Zq):Prop:=
  Zql PG K frames1 m0 d2
section
variable {PG:Za}{d:Nat}{Q:AE->Sl->St->Prop}{K:Bool->Prop}(hQ:H1 AV.b 6 Q K){σ:Sl}{st:St}
include hQ
variable {t73:Bool}{m1:Zq}{v1:Nat}{frames1:Int}{m0:Zf}{v0:Nat}{d2:Zq}
variable (H0:σ 0=m0.av)(H1:σ 1=.i .i64 frames1)(H3:σ 3=.p (d,0) v0 0)(H2:σ 2=d2.av)(H5:σ 5=.p (d,1) v1 0)(H73:σ 73=.b t73)(B0:lk st.bx (d,0)=some (v0,Zf.cs m0))(B1:lk st.bx (d,1)=some (v1,[.i .i64 m1.frame,.i .i64 m1.func,.b m1.hasArg,.i .u8 m1.arg.kind,.i .i64 m1.arg.int,.s m1.arg.text,.sl .ext (List.map Zb.row m1.arg.list),.b m1.arg.cut]))
include H5 H73 B1 in
theorem Xj3 (h:Pt PG K t73 m1):W PG d Zy9 σ st (Ya 0 (Zs PG d (sR 11 Ztk .ret) Q)):=
 au trivial
include H5 B1 in
theorem Wh3 (h:Zkm PG K m1):W PG d Yjb σ st Q:=
 au @Xj3
include H5 B1 in
theorem Xxd (h:Zmq PG K m1):W PG d Yez σ st Q:=
 au @Wh3
include H1 H3 H5 B0 B1 in
theorem Xqk (h:Zql PG K frames1 m0 m1):W PG d Zoq σ st Q:=
 au @Xxd
include H0 H1 H2 in
theorem Xum (h:Zo1 PG K m0 frames1 d2):W PG d (sR 0 Ykj Zoq) σ st Q:=
 au @Xqk
end
theorem Ymv {PG:Za}(hf:PG.fn 231=some Zds){m0:Zf}{frames1:Int}{d2:Zq}{K:Bool->Prop}(h:Zo1 PG K m0 frames1 d2) :∃res0:Bool,K res0/\Ze PG 231 [m0.av,.i .i64 frames1,d2.av] (.b res0):=
 P1 hf J (Xum (h1 J fun _=>J) J J J h)
def Ycm:List AI:=[oO 2 (.boxf 3 (.t 0)),oO 3 (.boxf 5 (.t 1)),oC 4 (.b false)]
def Xbr:List AI:=[oF 8 2 3,oO 9 (.ldf 1 false (.t 8)),oJ 10 9,oF 11 3 3,oO 12 (.ldf 1 false (.t 11)),oJ 13 12,oF 14 4 3,oO 15 (.ldf 1 false (.t 14)),oJ 16 15,oO 5 (.alloc [z6]),oS 1 5 10,oM 6 13,oM 7 16]
def Wb2:List AI:=[oF 17 0 3,oL 18 17]
def Wje:List AI:=[oW 20 .eql 18 3,oM 19 20]
def Xhq:List AI:=[oW 22 .eql 18 1,oM 21 22]
def Yob:List AI:=[oW 24 .eql 18 2,oM 23 24]
def Wfw:List AI:=[oL 25 5,oM 26 6,oT 27 .add 25 26,oM 28 7,oT 29 .add 27 28,oV 30 .eql 29 0,oM 31 30,gT 31 (oF 32 1 3),gT 31 (oL 33 32),gT 31 (oV 34 .eql 33 0),oA 35 31 34,oM 4 35]
def Xp4:List AI:=[oF 36 1 3,oL 37 36,oV 38 .neq 37 0]
def Xms:List AI:=[oC 4 (.b false)]
def Wgs:List AI:=[oL 39 5,oV 40 .lss 39 1,oM 41 40,gF 41 (oL 42 5),gF 41 (oV 43 .gtr 42 170),oR 44 41 43,oM 45 44,gF 45 (oM 46 6),gF 45 (oV 47 .gtr 46 410),oR 48 45 47,oM 49 48,gF 49 (oM 50 7),gF 49 (oV 51 .gtr 50 410),oR 52 49 51]
def Xaq:List AI:=[oC 4 (.b false)]
def Xv4:List AI:=[oF 53 2 3,oL 54 53,oO 55 (.mkfn 228 [(.t 2)]),oO 56 (.call true 227 [(.t 54),(.t 55)]),oZ 57 56,oM 58 57,gT 58 (oF 59 3 3),gT 58 (oL 60 59),gT 58 (oO 61 (.mkfz 230 [(.t 2)] (.t 5) [])),gT 58 (oO 62 (.call true 229 [(.t 60),(.t 61)])),gT 58 (oZ 63 62),oA 64 58 63,oM 65 64,gT 65 (oF 66 4 3),gT 65 (oL 67 66),gT 65 (oO 68 (.call true 232 [(.t 67),(.c (.fn 233 []))])),gT 65 (oZ 69 68),oA 70 65 69,oM 4 70]
def Xb9:List AI:=[oC 4 (.b false)]
abbrev Zz1:AC:=(sR 7 Xp4 (.cond (.t 38) (sR 8 Xms .ret) .skip))
abbrev Ydq:AC:=(sR 11 Xv4 .ret)
abbrev Zqe:AC:=(.seq (.seq (sR 9 Wgs (.cond (.t 52) (sR 10 Xaq .ret) .skip)) Ydq) (.exit 0))
abbrev Fx:AC:=(sR 12 Xb9 .ret)
abbrev Zou:AC:=(sR 1 Xbr (.seq (sR 2 Wb2 (.block 0 (.seq (.block 3 (.seq (.block 2 (.seq (.block 1 (.seq (.seq (sR 3 Wje (.cond (.t 19) (.exit 1) .skip)) (.seq (sR 4 Xhq (.cond (.t 21) (.exit 2) .skip)) (sR 5 Yob (.cond (.t 23) (.exit 3) .skip)))) (.exit 0))) (.seq (sR 6 Wfw .ret) (.exit 0)))) Zz1)) Zqe))) Fx))
abbrev Xlo:AC:=(sR 0 Ycm Zou)
def Zf7:AF:={ nt:=71,res:=[.tmp 4],fz:=[2,3,1000005],body:=Xlo }
def Zom (PG:Za)(K:Bool->Prop)(m2_0:List Wu)(m2_1:LB)(m2_2:List Yb)(x3_0:Int)(x3_1:Int)(x3_2:List Zg)(x3_3:List Zq)(x3_4:List Zh)(m4105:Int):Prop:=
  ∃c,(∀k:Zl,Ym PG 227 [.sl k (List.map Zg.row x3_2),.fn 228 [.fp [.sl .ext (List.map Wu.row m2_0),.sl .ext (List.map Zv m2_1),.sl .ext (List.map Yb.row m2_2)]]] (fun r=>r=.b c))/\((!c)=true->∃e,(∀o:Zl,Ym PG 229 [.sl o (List.map Zq.row x3_3),.fn 230 [.fp [.sl .ext (List.map Wu.row m2_0),.sl .ext (List.map Zv m2_1),.sl .ext (List.map Yb.row m2_2)],.fp [.i .i64 m4105]]] (fun r=>r=.b e))/\((!e)=true->∃j,(∀p:Zl,Ym PG 232 [.sl p (List.map Zh.row x3_4),.fn 233 []] (fun r=>r=.b j))/\K (!j))/\((!e)=false->K false))/\((!c)=false->K false)
def Ic (PG:Za)(K:Bool->Prop)(m2_0:List Wu)(m2_1:LB)(m2_2:List Yb)(x3_0:Int)(x3_1:Int)(x3_2:List Zg)(x3_3:List Zq)(x3_4:List Zh)(d6:Int)(p7:Int)(m4105:Int):Prop:=
  (m4105<1->K false)/\(¬(m4105<1)->(m4105>170->K false)/\(¬(m4105>170)->(d6>410->K false)/\(¬(d6>410)->(p7>410->K false)/\(¬(p7>410)->Zom PG K m2_0 m2_1 m2_2 x3_0 x3_1 x3_2 x3_3 x3_4 m4105))))
def Zq4 (PG:Za)(K:Bool->Prop)(m2_0:List Wu)(m2_1:LB)(m2_2:List Yb)(x3_0:Int)(x3_1:Int)(x3_2:List Zg)(x3_3:List Zq)(x3_4:List Zh)(d6:Int)(p7:Int)(m4105:Int):Prop:=
  (x3_1≠0->K false)/\(¬(x3_1≠0)->Ic PG K m2_0 m2_1 m2_2 x3_0 x3_1 x3_2 x3_3 x3_4 d6 p7 m4105)
def Zr8 (PG:Za)(K:Bool->Prop) :Prop:=
  K false
def Zqc (PG:Za)(K:Bool->Prop)(m2_0:List Wu)(m2_1:LB)(m2_2:List Yb)(x3_0:Int)(x3_1:Int)(x3_2:List Zg)(x3_3:List Zq)(x3_4:List Zh):Prop:=
  (x3_0=3->((IntKind.i64.wrap ((IntKind.i64.wrap ((x3_2.length:Int)+(x3_3.length:Int)))+(x3_4.length:Int)))=0->K (decide (x3_1=0)))/\(¬((IntKind.i64.wrap ((IntKind.i64.wrap ((x3_2.length:Int)+(x3_3.length:Int)))+(x3_4.length:Int)))=0)->K false))/\(¬(x3_0=3)->(x3_0=1->Zq4 PG K m2_0 m2_1 m2_2 x3_0 x3_1 x3_2 x3_3 x3_4 (x3_3.length:Int) (x3_4.length:Int) (x3_2.length:Int))/\(¬(x3_0=1)->(x3_0=2->Ic PG K m2_0 m2_1 m2_2 x3_0 x3_1 x3_2 x3_3 x3_4 (x3_3.length:Int) (x3_4.length:Int) (x3_2.length:Int))/\(¬(x3_0=2)->Zr8 PG K )))
def Zij (PG:Za)(K:Bool->Prop)(m0:Zf)(x1:Zk):Prop:=
  Zqc PG K m0.types m0.texts m0.funcs x1.status x1.key x1.frames x1.defers x1.panics
section
variable {PG:Za}{d:Nat}{Q:AE->Sl->St->Prop}{K:Bool->Prop}(hQ:H1 AV.b 4 Q K){σ:Sl}{st:St}
include hQ
variable {m2_0:List Wu}{m2_1:LB}{m2_2:List Yb}{x3_0 x3_1:Int}{x3_2:List Zg}{x3_3:List Zq}{x3_4:List Zh}{m4105:Int}{v4105:Nat}{d6 p7:Int}{m0:Zf}{x1:Zk}
variable (H2:σ 2=.fp [.sl .ext (List.map Wu.row m2_0),.sl .ext (List.map Zv m2_1),.sl .ext (List.map Yb.row m2_2)])(H0:σ 0=m0.av)(H3:σ 3=.fp [.i .u8 x3_0,.i .i64 x3_1,.sl .ext (List.map Zg.row x3_2),.sl .ext (List.map Zq.row x3_3),.sl .ext (List.map Zh.row x3_4)])(H1:σ 1=x1.av)(H5:σ 5=.p (d,4105) v4105 0)(H6:σ 6=.i .i64 d6)(H7:σ 7=.i .i64 p7)(B4105:lk st.bx (d,4105)=some (v4105,[.i .i64 m4105]))
include H2 H3 H5 B4105 in
theorem Xui (h:Zom PG K m2_0 m2_1 m2_2 x3_0 x3_1 x3_2 x3_3 x3_4 m4105):W PG d Ydq σ st (Zs PG d (.exit 0) (Ya 0 (Zs PG d Fx Q))):=
 q_ J (Kb H3 (Xp J J J (Zhb (Zy H2 Yn) (h.elim fun _ e=>Gx (Zy J (Zy J Yn)) (e.1 _) (fun _ o=>Xx J (Yt J (Qf (g:=58) J (fun j=>Zd J (Kb H3 (Zd J (Xp J J J (Zd J (Xsi (Nx.symm.trans (Zy H2 Yn)) H5 (Nx.symm.trans Yn) ((o.1 (d,4105) (Nat.lt_succ_self d) Us).trans B4105) J (Zd J ((e.2.1 j).elim fun _ c=>Gx (Zy J (Zy J Yn)) (c.1 _) (fun _ _=>Zd J (Xx J (z_ 2 J (Qf (g:=65) J (fun i=>Zd J (Kb H3 (Zd J (Xp J J J (Zd J ((c.2.1 i).elim fun _ k=>Gx (Zy J (Zy J Yn)) (k.1 _) (fun _ _=>Zd J (Xx J (z_ 2 J (Zp (hQ J k.2))))))))))) (fun i=>z_ 6 J (Zp (hQ J (c.2.2 i)))))))))))))))) (fun j=>z_ 13 J (Zp (hQ J (e.2.2 j)))))))))))
include H2 H3 H5 H6 H7 B4105 in
theorem Yfk (h:Ic PG K m2_0 m2_1 m2_2 x3_0 x3_1 x3_2 x3_3 x3_4 d6 p7 m4105):W PG d Zqe σ st (Ya 0 (Zs PG d Fx Q)):=
 Zm (Zm (q_ J (l_ H5 B4105 J J (b_ J J Wx (Yt J (Yq (g:=41) J (fun c=>z_ 11 J (e_ (Yr J (q_ J (m_ (Zp (hQ J (h.1 c)))))))) (fun c=>Zd J (l_ H5 B4105 J J (Zd J (b_ J J Vz (z_ 2 J (Yq (g:=45) J (fun e=>z_ 7 J (e_ (Yr J (q_ J (m_ (Zp (hQ J ((h.2 c).1 e)))))))) (fun e=>Zd J (Xh H6 (Zd J (b_ J J Vz (z_ 2 J (Yq (g:=49) J (fun i=>z_ 3 J (e_ (Yr J (q_ J (m_ (Zp (hQ J (((h.2 c).2 e).1 i)))))))) (fun i=>Zd J (Xh H7 (Zd J (b_ J J Vz (Vp J J (e_ (Yk J (fun j=>q_ J (m_ (Zp (hQ J ((((h.2 c).2 e).2 i).1 j))))) (fun j=>Yd (Xui hQ H2 H3 H5 B4105 ((((h.2 c).2 e).2 i).2 j))))))))))))))))))))))))))))
include H2 H3 H5 H6 H7 B4105 in
theorem Xv0 (h:Zq4 PG K m2_0 m2_1 m2_2 x3_0 x3_1 x3_2 x3_3 x3_4 d6 p7 m4105):W PG d Zz1 σ st (Ya 3 (Zs PG d Zqe (Ya 0 (Zs PG d Fx Q)))):=
 au @Yfk
theorem Yuf (h:Zr8 PG K ):W PG d Fx σ st Q:=
 au trivial
include H2 H3 in
theorem Yzr (h:Zqc PG K m2_0 m2_1 m2_2 x3_0 x3_1 x3_2 x3_3 x3_4):W PG d Zou σ st Q:=
 au (And.intro @Xv0 (And.intro @Yfk @Yuf))
include H0 H1 in
theorem Xni (h:Zij PG K m0 x1):W PG d (sR 0 Ycm Zou) σ st Q:=
 au @Yzr
end
theorem Ys7 {PG:Za}(hf:PG.fn 219=some Zf7){m0:Zf}{x1:Zk}{K:Bool->Prop}(h:Zij PG K m0 x1) :∃res0:Bool,K res0/\Ze PG 219 [m0.av,x1.av] (.b res0):=
 P1 hf J (Xni (h1 J fun _=>J) J J h)
def Yhb:List AI:=[oY 2 5 0,oC 3 (.b false)]
def Ykd:List AI:=[oK 4 3 1,oK 5 5 2,oQ 6 219 [4,5],oZ 7 6,oM 3 7]
abbrev Yw5:AC:=(sR 0 Yhb (sR 1 Ykd .ret))
def Zb0:AF:={ nt:=8,res:=[.tmp 3],body:=Yw5 }
def Zqi (PG:Za)(K:Bool->Prop)(x0:Zk)(t1:Zf):Prop:=
  ∃c,Ze PG 219 [t1.av,x0.av] (.b c)/\K (!c)
section
variable {PG:Za}{d:Nat}{Q:AE->Sl->St->Prop}{K:Bool->Prop}{Zj:St}(hQ:HF d Zj AV.b 3 Q K){σ:Sl}{st:St}
include hQ
variable {x0:Zk}{t1:Zf}
variable (H0:σ 0=x0.av)(H1:σ 1=.fp [.sl .ext (List.map Wu.row t1.types),.sl .ext (List.map Zv t1.texts),.sl .ext (List.map Yb.row t1.funcs)])(FR:Fr d (d,0) Zj.bx Zj.ow st.bx st.ow)
include H0 H1 FR in
theorem Ys1 (h:Zqi PG K x0 t1):W PG d (sR 0 Yhb (sR 1 Ykd .ret)) σ st Q:=
 au trivial
end
theorem Wix {PG:Za}(hf:PG.fn 225=some Zb0){x0:Zk}{t1:Zf}{K:Bool->Prop}(h:Zqi PG K x0 t1):Ym PG 225 [x0.av,.fp [.sl .ext (List.map Wu.row t1.types),.sl .ext (List.map Zv t1.texts),.sl .ext (List.map Yb.row t1.funcs)]] (fun r=>∃res0:Bool,(r=.b res0)/\K res0):=
 PF hf J J fun d st Q q=>Ys1 q J J Fr.refl h
def Yim:List AI:=[oO 2 (.boxf 3 (.t 0)),oY 3 4 1,oI 4 0]
def Yii:List AI:=[oF 6 3 3,oL 7 6,oJ 8 7,oM 5 8]
def Zws:List AI:=[oF 9 0 3,oL 10 9,oW 11 .lss 10 1,oM 12 11,gF 12 (oF 13 0 3),gF 12 (oL 14 13),gF 12 (oW 15 .gtr 14 8),oR 16 12 15,oM 17 16,gF 17 (oF 18 2 3),gF 17 (oL 19 18),gF 17 (oV 20 .lss 19 0),oR 21 17 20,oM 22 21,gF 22 (oF 23 2 3),gF 22 (oL 24 23),gF 22 (oV 25 .gtr 24 5000),oR 26 22 25,oM 27 26,gF 27 (oM 28 5),gF 27 (oV 29 .gtr 28 16),oR 30 27 29,oM 31 30,gF 31 (oF 32 1 3),gF 31 (oL 33 32),gF 31 (oV 34 .lss 33 (-1)),oR 35 31 34,oM 36 35,gF 36 (oF 37 1 3),gF 36 (oL 38 37),gF 36 (oM 39 5),gF 36 (oT 40 .geq 38 39),oR 41 36 40,oM 42 41,gF 42 (oF 43 3 3),gF 42 (oL 44 43),gF 42 (oO 45 (.mkfn 225 [(.t 2)])),gF 42 (oO 46 (.call true 224 [(.t 44),(.t 45)])),oR 47 42 46]
def Yao:List AI:=[oI 4 8]
def Yjs:List AI:=[oI 4 0]
abbrev Xjj:AC:=(sR 0 Yim (sR 1 Yii (.seq (sR 2 Zws (.cond (.t 47) (sR 3 Yao .ret) .skip)) (sR 4 Yjs .ret))))
def Zep:AF:={ nt:=48,res:=[.tmp 4],fz:=[2],body:=Xjj }
def Zlc (PG:Za)(K:Int->Prop)(m0:Zf)(s1:Zu):Prop:=
  (s1.outcome<1->K 8)/\(¬(s1.outcome<1)->(s1.outcome>8->K 8)/\(¬(s1.outcome>8)->(s1.steps<0->K 8)/\(¬(s1.steps<0)->(s1.steps>5000->K 8)/\(¬(s1.steps>5000)->((s1.routines.length:Int)>16->K 8)/\(¬((s1.routines.length:Int)>16)->(s1.failing<(-1)->K 8)/\(¬(s1.failing<(-1))->(s1.failing>=(s1.routines.length:Int)->K 8)/\(¬(s1.failing>=(s1.routines.length:Int))->∃c,(∀e:Zl,Ym PG 224 [.sl e (List.map Zk.row s1.routines),.fn 225 [.fp [.sl .ext (List.map Wu.row m0.types),.sl .ext (List.map Zv m0.texts),.sl .ext (List.map Yb.row m0.funcs)]]] (fun r=>r=.b c))/\(c=true->K 8)/\(c=false->K 0))))))))
section
variable {PG:Za}{d:Nat}{Q:AE->Sl->St->Prop}{K:Int->Prop}(hQ:H1 (AV.i .i64) 4 Q K){σ:Sl}{st:St}
include hQ
variable {m0:Zf}{s1:Zu}
variable (H0:σ 0=m0.av)(H1:σ 1=s1.av)
include H0 H1 in
theorem Xdr (h:Zlc PG K m0 s1):W PG d (sR 0 Yim (sR 1 Yii (.seq (sR 2 Zws (.cond (.t 47) (sR 3 Yao .ret) .skip)) (sR 4 Yjs .ret)))) σ st Q:=
 q_ J (Zck H0 J J (Vs H1 J (m_ (e_ (q_ J (f_ J (l_ J Zi J J (Xc J (m_ (e_ (Zm (q_ J (f_ J (l_ J Zi J J (b_ J J Wx (Yt J (Yq (g:=12) J (fun c=>z_ 35 J (e_ (Yr J (q_ J (m_ (Zp (hQ J (h.1 c)))))))) (fun c=>Zd J (f_ J (Zd J (l_ J Zi J J (Zd J (b_ J J Vz (z_ 2 J (Yq (g:=17) J (fun e=>z_ 30 J (e_ (Yr J (q_ J (m_ (Zp (hQ J ((h.2 c).1 e)))))))) (fun e=>Zd J (f_ J (Zd J (l_ J Zi J J (Zd J (b_ J J Wx (z_ 2 J (Yq (g:=22) J (fun i=>z_ 25 J (e_ (Yr J (q_ J (m_ (Zp (hQ J (((h.2 c).2 e).1 i)))))))) (fun i=>Zd J (f_ J (Zd J (l_ J Zi J J (Zd J (b_ J J Vz (z_ 2 J (Yq (g:=27) J (fun j=>z_ 20 J (e_ (Yr J (q_ J (m_ (Zp (hQ J ((((h.2 c).2 e).2 i).1 j)))))))) (fun j=>Zd J (Xh J (Zd J (b_ J J Vz (z_ 2 J (Yq (g:=31) J (fun k=>z_ 16 J (e_ (Yr J (q_ J (m_ (Zp (hQ J (((((h.2 c).2 e).2 i).2 j).1 k)))))))) (fun k=>Zd J (f_ J (Zd J (l_ J Zi J J (Zd J (b_ J J Wx (z_ 2 J (Yq (g:=36) J (fun o=>z_ 11 J (e_ (Yr J (q_ J (m_ (Zp (hQ J ((((((h.2 c).2 e).2 i).2 j).2 k).1 o)))))))) (fun o=>Zd J (f_ J (Zd J (l_ J Zi J J (Zd J (Xh J (Zd J (b_ J J Gb (z_ 2 J (Yq (g:=42) J (fun r=>z_ 5 J (e_ (Yr J (q_ J (m_ (Zp (hQ J (((((((h.2 c).2 e).2 i).2 j).2 k).2 o).1 r)))))))) (fun r=>Zd J (f_ J (Zd J (l_ J Zi J J (Zd J (Zhb (Zy J Yn) (Zd J ((((((((h.2 c).2 e).2 i).2 j).2 k).2 o).2 r).elim fun _ p=>Gx (Zy J (Zy J Yn)) (p.1 _) (fun _ _=>Vp J J (e_ (Xl J (fun q=>q_ J (m_ (Zp (hQ J (p.2.1 q))))) (fun q=>Yd (q_ J (m_ (Zp (hQ J (p.2.2 q))))))))))))))))))))))))))))))))))))))))))))))))))))))))))))))))))))))))))))))))))
end
theorem Xug {PG:Za}(hf:PG.fn 213=some Zep){m0:Zf}{s1:Zu}{K:Int->Prop}(h:Zlc PG K m0 s1) :∃res0:Int,K res0/\Ze PG 213 [m0.av,s1.av] (.i .i64 res0):=
 P1 hf J (Xdr (h1 J fun _=>J) J J h)
abbrev Xsk (Q:AE->Sl->St->Prop)(K:Bool->Prop):Prop:=∀(σ:Sl)(st:St)(res0:Bool),σ 6=.b res0->K res0->Q .ret σ st
section
variable {PG:Za}{d:Nat}{Q:AE->Sl->St->Prop}{K:Bool->Prop}(hQ:Xsk Q K){σ:Sl}{st:St}
include hQ
end
def Xpc:List AI:=[oY 2 3 0,oY 3 5 1,oC 4 (.b false)]
def Xeh:List AI:=[oF 7 0 3,oL 8 7,oW 9 .eql 8 3]
def Xj1:List AI:=[oF 10 2 3,oL 11 10,oJ 12 11,oV 13 .eql 12 0,oM 14 13,gT 14 (oF 15 3 3),gT 14 (oL 16 15),gT 14 (oJ 17 16),gT 14 (oV 18 .eql 17 0),oA 19 14 18,oM 20 19,gT 20 (oF 21 4 3),gT 20 (oL 22 21),gT 20 (oJ 23 22),gT 20 (oV 24 .eql 23 0),oA 25 20 24,oM 26 25,gT 26 (oF 27 1 3),gT 26 (oL 28 27),gT 26 (oV 29 .eql 28 0),oA 30 26 29,oM 4 30]
def Yzp:List AI:=[oF 31 0 3,oL 32 31,oW 33 .neq 32 2,oM 34 33,gT 34 (oF 35 0 3),gT 34 (oL 36 35),gT 34 (oW 37 .neq 36 1),gT 34 (oM 38 37),gF 38 (oF 39 1 3),gF 38 (oL 40 39),gF 38 (oV 41 .neq 40 0),gT 34 (oR 42 38 41),oA 43 34 42]
def Xwi:List AI:=[oC 4 (.b false)]
def Xko:List AI:=[oF 44 2 3,oL 45 44,oJ 46 45,oV 47 .lss 46 1,oM 48 47,gF 48 (oF 49 2 3),gF 48 (oL 50 49),gF 48 (oJ 51 50),gF 48 (oV 52 .gtr 51 170),oR 53 48 52,oM 54 53,gF 54 (oF 55 3 3),gF 54 (oL 56 55),gF 54 (oJ 57 56),gF 54 (oV 58 .gtr 57 410),oR 59 54 58,oM 60 59,gF 60 (oF 61 4 3),gF 60 (oL 62 61),gF 60 (oQ 63 163 [62]),gF 60 (oV 64 .neq 63 0),oR 65 60 64]
def Xiv:List AI:=[oC 4 (.b false)]
def Xz2:List AI:=[oI 5 0]
def Yrr:List AI:=[oM 66 5,oF 67 2 3,oL 68 67,oJ 69 68,oT 70 .lss 66 69]
def Yyv:List AI:=[oK 73 3 2,oF 74 2 3,oL 75 74,oM 76 5,oX 77 4 75 76,oK 78 4 77,oQ 79 87 [73,78],oV 80 .neq 79 0]
def Xr8:List AI:=[oC 4 (.b false)]
def Xfm:List AI:=[oM 71 5,oV 72 .add 71 1,oM 5 72]
def Xfx:List AI:=[oI 6 0]
def Ytc:List AI:=[oM 81 6,oF 82 3 3,oL 83 82,oJ 84 83,oT 85 .lss 81 84]
def Wi1:List AI:=[oK 88 3 2,oF 89 2 3,oL 90 89,oJ 91 90,oF 92 3 3,oL 93 92,oM 94 6,oX 95 8 93 94,oK 96 8 95,oQ 97 235 [88,91,96],oZ 98 97]
def Xbj:List AI:=[oC 4 (.b false)]
def Xim:List AI:=[oM 86 6,oV 87 .add 86 1,oM 6 87]
def Yq5:List AI:=[oC 4 (.b true)]
abbrev Yt5:AC:=(.seq (sR 8 Yrr (.cond (.t 70) .skip (.exit 0))) (.seq (.block 1 (sR 10 Yyv (.cond (.t 80) (sR 11 Xr8 .ret) .skip))) (.reg 9 Xfm)))
abbrev Wj0:AC:=(.seq (sR 13 Ytc (.cond (.t 85) .skip (.exit 2))) (.seq (.block 3 (sR 15 Wi1 (.cond (.t 98) (sR 16 Xbj .ret) .skip))) (.reg 14 Xim)))
abbrev Yq9:AC:=(sR 17 Yq5 .ret)
abbrev Xvm:AC:=(.seq (sR 12 Xfx (.block 2 (.loop Wj0))) Yq9)
abbrev Xvr:AC:=(.seq (sR 7 Xz2 (.block 0 (.loop Yt5))) Xvm)
abbrev Xqy:AC:=(.seq (sR 5 Xko (.cond (.t 65) (sR 6 Xiv .ret) .skip)) Xvr)
abbrev Xoe:AC:=(.seq (sR 3 Yzp (.cond (.t 43) (sR 4 Xwi .ret) .skip)) Xqy)
abbrev Yxq:AC:=(.seq (sR 1 Xeh (.cond (.t 9) (sR 2 Xj1 .ret) .skip)) Xoe)
abbrev Xrf:AC:=(sR 0 Xpc Yxq)
def Zrk:AF:={ nt:=99,res:=[.tmp 4],body:=Xrf }
abbrev Xv1 (Q:AE->Sl->St->Prop)(K:Bool->Prop):Prop:=∀(σ:Sl)(st:St)(res0:Bool),σ 4=.b res0->K res0->Q .ret σ st
section
variable {PG:Za}{d:Nat}{Q:AE->Sl->St->Prop}{K:Bool->Prop}(hQ:Xv1 Q K){σ:Sl}{st:St}
include hQ
end
abbrev Yni (Q:AE->Sl->St->Prop)(K:Int->Prop):Prop:=∀(σ:Sl)(st:St)(res0:Int),σ 4=.i .i64 res0->K res0->Q .ret σ st
section
variable {PG:Za}{d:Nat}{Q:AE->Sl->St->Prop}{K:Int->Prop}(hQ:Yni Q K){σ:Sl}{st:St}
include hQ
end
end Go.AM

/- Yf of the proof. -/
namespace Go.AM
open Go
set_option linter.unusedVariables false
set_option linter.unusedSimpArgs false
set_option maxRecDepth 4000
set_option maxHeartbeats 2000000
attribute [local irreducible] Decidable.decide W WO Wq Ws
def Yi4:List AI:=[oY 2 3 0,oY 3 8 1,oC 4 (.s []),oI 5 0]
def Ztx:List AI:=[oF 12 2 2,oL 13 12,oF 14 1 3,oL 15 14,oX 16 7 13 15,oF 17 0 16,oL 18 17,oQ 19 11 [18],oM 11 19,oE 20 0 11,oE 21 1 11,oM 6 20,oM 7 21]
def Zt7:List AI:=[oM 22 7,oV 23 .neq 22 0]
def Yl7:List AI:=[oM 24 7,oC 4 (.s []),oM 5 24]
def Zzt:List AI:=[oF 25 0 3,oL 26 25,oQ 27 216 [26],oB 28 .add (.c (.s [100,101,102,101,114,32])) (.t 27),oB 29 .add (.t 28) (.c (.s [32])),oF 30 1 3,oL 31 30,oQ 32 216 [31],oT 33 .add 29 32,oB 34 .add (.t 33) (.c (.s [32])),oM 35 6,oT 36 .add 34 35,oM 8 36]
def Ylu:List AI:=[oF 37 2 3,oL 38 37]
def Ye1:List AI:=[oF 40 3 3,oK 41 5 40,oQ 42 72 [41],oM 39 42,oE 43 0 39,oE 44 1 39,oM 9 43,oM 10 44]
def Yce:List AI:=[oM 45 10,oV 46 .neq 45 0]
def Zys:List AI:=[oM 47 10,oC 4 (.s []),oM 5 47]
def Zzk:List AI:=[oM 48 8,oM 49 9,oB 50 .add (.c (.s [32,119,105,116,104,32])) (.t 49),oT 51 .add 48 50,oM 8 51]
def Ypi:List AI:=[oM 52 8,oM 4 52,oI 5 0]
abbrev Zie:AC:=(sR 10 Ypi .ret)
abbrev Xu2:AC:=(sR 0 Yi4 (sR 1 Ztx (.seq (sR 2 Zt7 (.cond (.t 23) (sR 3 Yl7 .ret) .skip)) (sR 4 Zzt (.seq (sR 5 Ylu (.cond (.t 38) (sR 6 Ye1 (.seq (sR 7 Yce (.cond (.t 46) (sR 8 Zys .ret) .skip)) (.reg 9 Zzk))) .skip)) Zie)))))
def Zg7:AF:={ nt:=53,res:=[.tmp 4,.tmp 5],body:=Xu2 }
def Iz (PG:Za)(K:BS->Int->Prop)(s8:BS):Prop:=
  K s8 0
def Zis (PG:Za)(K:BS->Int->Prop)(m0:Zf)(d1:Zq):Prop:=
  0<=d1.func/\∃q:Yb,m0.funcs[(d1.func).toNat]?=some q/\∃j:BS,∃k,Ze PG 11 [.s q.name] (.tup [.s j,.i .i64 k])/\(k≠0->K ([]:BS) k)/\(¬(k≠0)->∃c:BS,Ze PG 216 [.i .i64 d1.frame] (.s c)/\([100,101,102,101,114,32]:BS).length+c.length<=We/\(([100,101,102,101,114,32]:BS)++c).length+([32]:BS).length<=We/\∃e:BS,Ze PG 216 [.i .i64 d1.func] (.s e)/\((([100,101,102,101,114,32]:BS)++c)++([32]:BS)).length+e.length<=We/\(((([100,101,102,101,114,32]:BS)++c)++([32]:BS))++e).length+([32]:BS).length<=We/\((((([100,101,102,101,114,32]:BS)++c)++([32]:BS))++e)++([32]:BS)).length+j.length<=We/\(d1.hasArg=true->∃o:BS,∃p,Ze PG 72 [d1.arg.av] (.tup [.s o,.i .i64 p])/\(p≠0->K ([]:BS) p)/\(¬(p≠0)->([32,119,105,116,104,32]:BS).length+o.length<=We/\(((((([100,101,102,101,114,32]:BS)++c)++([32]:BS))++e)++([32]:BS))++j).length+(([32,119,105,116,104,32]:BS)++o).length<=We/\Iz PG K ((((((([100,101,102,101,114,32]:BS)++c)++([32]:BS))++e)++([32]:BS))++j)++(([32,119,105,116,104,32]:BS)++o))))/\(d1.hasArg=false->Iz PG K (((((([100,101,102,101,114,32]:BS)++c)++([32]:BS))++e)++([32]:BS))++j)))
section
variable {PG:Za}{d:Nat}{Q:AE->Sl->St->Prop}{K:BS->Int->Prop}(hQ:H2 AV.s (AV.i .i64) 4 5 Q K){σ:Sl}{st:St}
include hQ
variable {s8:BS}{m0:Zf}{d1:Zq}
variable (H8:σ 8=.s s8)(H0:σ 0=m0.av)(H1:σ 1=d1.av)
include H8 in
theorem Xxb (h:Iz PG K s8):W PG d Zie σ st Q:=
 au trivial
include H0 H1 in
theorem Ymk (h:Zis PG K m0 d1):W PG d (sR 0 Yi4 (sR 1 Ztx (.seq (sR 2 Zt7 (.cond (.t 23) (sR 3 Yl7 .ret) .skip)) (sR 4 Zzt (.seq (sR 5 Ylu (.cond (.t 38) (sR 6 Ye1 (.seq (sR 7 Yce (.cond (.t 46) (sR 8 Zys .ret) .skip)) (.reg 9 Zzk))) .skip)) Zie))))) σ st Q:=
 au @Xxb
end
theorem Xj8 {PG:Za}(hf:PG.fn 234=some Zg7){m0:Zf}{d1:Zq}{K:BS->Int->Prop}(h:Zis PG K m0 d1) :∃res0:BS,∃res1:Int,K res0 res1/\Ze PG 234 [m0.av,d1.av] (.tup [.s res0,.i .i64 res1]):=
 P2 hf J (Ymk (h2 J fun _ _=>J) J J h)
def Yij:List AI:=[oY 2 3 0,oY 3 5 1,oC 4 (.sl .full []),oI 5 0]
def Xx2:List AI:=[oC 6 (.sl .full [])]
def Xkt:List AI:=[oF 19 2 3,oL 20 19,oJ 21 20,oI 22 0]
def Xye:List AI:=[oT 23 .lss 22 21]
def Xgv:List AI:=[oM 24 22,oX 25 4 20 22,oK 26 4 25,oO 8 (.alloc [z6,z6,z7,zl]),oM 7 24,oS 4 8 26]
def Yqk:List AI:=[oK 28 3 2,oM 29 7,oK 30 4 8,oQ 31 82 [28,29,30],oM 27 31,oE 32 0 27,oE 33 1 27,oM 9 32,oM 10 33]
def Xu8:List AI:=[oM 34 10,oV 35 .neq 34 0]
def Wec:List AI:=[oM 36 10,oC 4 (.sl .full []),oM 5 36]
def We1:List AI:=[oM 37 6,oM 38 9,oO 39 (.app 1 16 (.t 37) (.t 38)),oM 6 39]
def Wan:List AI:=[oV 40 .add 22 1,oM 22 40]
def Weu:List AI:=[oF 41 3 3,oL 42 41,oJ 43 42,oI 44 0]
def Yv9:List AI:=[oT 45 .lss 44 43]
def Xr3:List AI:=[oX 46 8 42 44,oK 47 8 46,oO 12 (.alloc [z6,z6,zb,z8,z6,zs,zl,zb]),oS 8 12 47]
def Xep:List AI:=[oK 49 3 2,oK 50 8 12,oQ 51 234 [49,50],oM 48 51,oE 52 0 48,oE 53 1 48,oM 13 52,oM 14 53]
def Wbk:List AI:=[oM 54 14,oV 55 .neq 54 0]
def Xlm:List AI:=[oM 56 14,oC 4 (.sl .full []),oM 5 56]
def Wbz:List AI:=[oM 57 6,oM 58 13,oO 59 (.bslice [zs] 1 [(0,(.t 58))]),oO 60 (.app 1 16 (.t 57) (.t 59)),oM 6 60]
def Yng:List AI:=[oV 61 .add 44 1,oM 44 61]
def Yr8:List AI:=[oF 62 4 3,oL 63 62,oJ 64 63,oI 65 0]
def Yz7:List AI:=[oT 66 .lss 65 64]
def Yxp:List AI:=[oX 67 7 63 65,oK 68 7 67,oO 16 (.alloc [z7,z8,z6,zs,zl,zb,z7]),oS 7 16 68]
def Yp4:List AI:=[oK 70 7 16,oQ 71 154 [70],oM 69 71,oE 72 0 69,oE 73 1 69,oM 17 72,oM 18 73]
def Whm:List AI:=[oM 74 18,oV 75 .neq 74 0]
def Xn2:List AI:=[oM 76 18,oC 4 (.sl .full []),oM 5 76]
def Wdd:List AI:=[oM 77 6,oM 78 17,oO 79 (.bslice [zs] 1 [(0,(.t 78))]),oO 80 (.app 1 16 (.t 77) (.t 79)),oM 6 80]
def Xe9:List AI:=[oV 81 .add 65 1,oM 65 81]
def Wh9:List AI:=[oM 82 6,oM 4 82,oI 5 0]
abbrev Zc9:AC:=(sR 3 Xye (.seq (.cond (.t 23) .skip (.exit 0)) (.seq (.block 1 (sR 4 Xgv (sR 5 Yqk (.seq (sR 6 Xu8 (.cond (.t 35) (sR 7 Wec .ret) .skip)) (.reg 8 We1))))) (.reg 9 Wan))))
abbrev Zdh:AC:=(sR 11 Yv9 (.seq (.cond (.t 45) .skip (.exit 2)) (.seq (.block 3 (sR 12 Xr3 (sR 13 Xep (.seq (sR 14 Wbk (.cond (.t 55) (sR 15 Xlm .ret) .skip)) (.reg 16 Wbz))))) (.reg 17 Yng))))
abbrev Zft:AC:=(sR 19 Yz7 (.seq (.cond (.t 66) .skip (.exit 4)) (.seq (.block 5 (sR 20 Yxp (sR 21 Yp4 (.seq (sR 22 Whm (.cond (.t 75) (sR 23 Xn2 .ret) .skip)) (.reg 24 Wdd))))) (.reg 25 Xe9))))
abbrev Zfv:AC:=(sR 26 Wh9 .ret)
abbrev Zfs:AC:=(.seq (sR 18 Yr8 (.block 4 (.loop Zft))) Zfv)
abbrev Zc6:AC:=(.seq (sR 10 Weu (.block 2 (.loop Zdh))) Zfs)
abbrev Yg9:AC:=(.seq (sR 2 Xkt (.block 0 (.loop Zc9))) Zc6)
abbrev Zp7:AC:=(sR 1 Xx2 Yg9)
abbrev Yzj:AC:=(sR 0 Yij Zp7)
def Zbt:AF:={ nt:=83,res:=[.tmp 4,.tmp 5],body:=Yzj }
abbrev Zt5 (PG:Za)(d:Nat)(Q:AE->Sl->St->Prop)(t20:List Zg)(t21:Int)(out6:LB)(t22:Int)(m0:Zf)(m1:Zk):Prop:=
  ∀(σ:Sl)(st:St) (o_out6 o_t20:Zl) (v0 v1:Nat),σ 2=.p (d,0) v0 0->σ 3=.p (d,1) v1 0->σ 6=.sl o_out6 (List.map Zv out6)->σ 20=.sl o_t20 (List.map Zg.row t20)->σ 21=.i .i64 t21->σ 22=.i .i64 t22->Xe d st.ow o_out6 out6.length->lk st.bx (d,0)=some (v0,Zf.cs m0)->lk st.bx (d,1)=some (v1,Zk.cs m1)->W PG d (.loop Zc9) σ st (Ya 0 (Zs PG d Zc6 Q))
abbrev Yio (PG:Za)(d:Nat)(Q:AE->Sl->St->Prop)(t42:List Zq)(t43:Int)(out6:LB)(t44:Int)(m0:Zf)(m1:Zk):Prop:=
  ∀(σ:Sl)(st:St) (o_out6 o_t42:Zl) (v0 v1:Nat),σ 2=.p (d,0) v0 0->σ 3=.p (d,1) v1 0->σ 6=.sl o_out6 (List.map Zv out6)->σ 42=.sl o_t42 (List.map Zq.row t42)->σ 43=.i .i64 t43->σ 44=.i .i64 t44->Xe d st.ow o_out6 out6.length->lk st.bx (d,0)=some (v0,Zf.cs m0)->lk st.bx (d,1)=some (v1,Zk.cs m1)->W PG d (.loop Zdh) σ st (Ya 2 (Zs PG d Zfs Q))
abbrev Zsy (PG:Za)(d:Nat)(Q:AE->Sl->St->Prop)(t63:List Zh)(t64:Int)(out6:LB)(t65:Int):Prop:=
  ∀(σ:Sl)(st:St) (o_out6 o_t63:Zl),σ 6=.sl o_out6 (List.map Zv out6)->σ 63=.sl o_t63 (List.map Zh.row t63)->σ 64=.i .i64 t64->σ 65=.i .i64 t65->Xe d st.ow o_out6 out6.length->W PG d (.loop Zft) σ st (Ya 4 (Zs PG d Zfv Q))
def Zi5 (PG:Za)(K:LB->Int->Prop)(out6:LB):Prop:=
  K out6 0
def Zba (PG:Za)(K:LB->Int->Prop)(P2:LB->Int->Prop)(out6:LB)(t63:List Zh)(t64:Int)(t65:Int):Prop:=
  (t65<t64->0<=t65/\∃j:Zh,t63[(t65).toNat]?=some j/\∃e c,Ze PG 154 [j.av] (.tup [.s e,.i .i64 c])/\(c≠0->K ([]:LB) c)/\(¬(c≠0)->Qn (out6.length+[e].length) 16/\P2 (out6++[e]) (IntKind.i64.wrap (t65+1))))/\(¬(t65<t64)->Zi5 PG K out6)
def Zqo (PG:Za)(K:LB->Int->Prop)(out6:LB)(m1:Zk):Prop:=
  ∀P2:LB->Int->Prop,(∀(out6:LB)(t65:Int),Zba PG K P2 out6 m1.panics (m1.panics.length:Int) t65->P2 out6 t65)->P2 out6 0
def Zc8 (PG:Za)(K:LB->Int->Prop)(P1:LB->Int->Zf->Zk->Prop)(out6:LB)(t42:List Zq)(t43:Int)(t44:Int)(m0:Zf)(m1:Zk):Prop:=
  (t44<t43->0<=t44/\∃j:Zq,t42[(t44).toNat]?=some j/\∃e c,Ze PG 234 [m0.av,j.av] (.tup [.s e,.i .i64 c])/\(c≠0->K ([]:LB) c)/\(¬(c≠0)->Qn (out6.length+[e].length) 16/\P1 (out6++[e]) (IntKind.i64.wrap (t44+1)) m0 m1))/\(¬(t44<t43)->Zqo PG K out6 m1)
def Zpw (PG:Za)(K:LB->Int->Prop)(out6:LB)(m0:Zf)(m1:Zk):Prop:=
  ∀P1:LB->Int->Zf->Zk->Prop,(∀(out6:LB)(t44:Int)(m0:Zf)(m1_b:Zk),Zc8 PG K P1 out6 m1.defers (m1.defers.length:Int) t44 m0 m1_b->P1 out6 t44 m0 m1_b)->P1 out6 0 m0 m1
def Zfb (PG:Za)(K:LB->Int->Prop)(P0:LB->Int->Zf->Zk->Prop)(out6:LB)(t20:List Zg)(t21:Int)(t22:Int)(m0:Zf)(m1:Zk):Prop:=
  (t22<t21->0<=t22/\∃j:Zg,t20[(t22).toNat]?=some j/\∃e:LB,∃c,Ze PG 82 [m0.av,.i .i64 t22,j.av] (.tup [.sl .ext (List.map Zv e),.i .i64 c])/\(c≠0->K ([]:LB) c)/\(¬(c≠0)->Qn (out6.length+e.length) 16/\P0 (out6++e) (IntKind.i64.wrap (t22+1)) m0 m1))/\(¬(t22<t21)->Zpw PG K out6 m0 m1)
def Zo7 (PG:Za)(K:LB->Int->Prop)(out6:LB)(m0:Zf)(m1:Zk):Prop:=
  ∀P0:LB->Int->Zf->Zk->Prop,(∀(out6:LB)(t22:Int)(m0:Zf)(m1_b:Zk),Zfb PG K P0 out6 m1.frames (m1.frames.length:Int) t22 m0 m1_b->P0 out6 t22 m0 m1_b)->P0 out6 0 m0 m1
def Zs7 (PG:Za)(K:LB->Int->Prop)(m0:Zf)(m1:Zk):Prop:=
  Zo7 PG K ([]:LB) m0 m1
def Zhf (PG:Za)(K:LB->Int->Prop)(m0:Zf)(x1:Zk):Prop:=
  Zs7 PG K m0 x1
section
variable {PG:Za}{d:Nat}{Q:AE->Sl->St->Prop}{K:LB->Int->Prop}(hQ:HM Zv (AV.i .i64) 4 5 Q K){σ:Sl}{st:St}
include hQ
variable {out6:LB}{o_out6:Zl}{t63:List Zh}{t64 t65:Int}{P2:LB->Int->Prop}{o_t63:Zl}{m1:Zk}{v1:Nat}{t42:List Zq}{t43 t44:Int}{m0:Zf}{P1:LB->Int->Zf->Zk->Prop}{o_t42:Zl}{v0:Nat}{t20:List Zg}{t21 t22:Int}{P0:LB->Int->Zf->Zk->Prop}{o_t20:Zl}{x1:Zk}
variable (kP2 :∀(out6:LB)(t65:Int),P2 out6 t65->Zsy PG d Q t63 t64 out6 t65) (kP1 :∀(out6:LB)(t44:Int)(m0:Zf)(m1:Zk),P1 out6 t44 m0 m1->Yio PG d Q t42 t43 out6 t44 m0 m1) (kP0 :∀(out6:LB)(t22:Int)(m0:Zf)(m1:Zk),P0 out6 t22 m0 m1->Zt5 PG d Q t20 t21 out6 t22 m0 m1)(H0:σ 0=m0.av)(H2:σ 2=.p (d,0) v0 0)(H1:σ 1=x1.av)(H3:σ 3=.p (d,1) v1 0)(H6:σ 6=.sl o_out6 (List.map Zv out6))(H63:σ 63=.sl o_t63 (List.map Zh.row t63))(H42:σ 42=.sl o_t42 (List.map Zq.row t42))(H20:σ 20=.sl o_t20 (List.map Zg.row t20))(H64:σ 64=.i .i64 t64)(H43:σ 43=.i .i64 t43)(H21:σ 21=.i .i64 t21)(H65:σ 65=.i .i64 t65)(Up:σ 44=.i .i64 t44)(Kl:σ 22=.i .i64 t22)(A6:Xe d st.ow o_out6 out6.length)(B0:lk st.bx (d,0)=some (v0,Zf.cs m0))(B1:lk st.bx (d,1)=some (v1,Zk.cs m1))
include H6 A6 in
theorem Xzi (h:Zi5 PG K out6):W PG d Zfv σ st Q:=
 au trivial
include kP2 H6 H63 H64 H65 A6 in
theorem Yvq (h:Zba PG K P2 out6 t63 t64 t65):W PG d Zft σ st (Zs PG d (.loop Zft) (Ya 4 (Zs PG d Zfv Q))):=
 q_ J (b_ H65 H64 Wx (e_ (Zm (Yk J (fun e=>Yd (Zm (Yj (Zm (W.reg ((h.1 e).2.elim fun p k=>Wz H63 H65 (h.1 e).1 k.1 (Zh.row_eq p) J (Xp J J J (Xs (Ye J (show lk _ (d,81922)=some (_,([.i .u64 0,.i .u8 0,.i .i64 0,.s [],.sl .full (List.map Zb.row ([]:List Zb)),.b false,.i .u64 0]:List AV)) from Zi) J J J (e_ (q_ J (l_ J Zi J J (x2 k.2 fun r _ c=>Yg (Wm J J) c.1 (m_ (x_ J J (x_ J J (m_ (m_ (e_ (Zm (q_ J (m_ (b_ J J Vd (e_ (Yk J (fun j=>q_ J (m_ (Yi (f:=Zv) (l:=[]) J (m_ (Zp (hQ J J (c.2.1 j))))))) (fun j=>Yd (W.reg0 J fun _ _=>Yi H6 (m_ (Vt (f:=Zv) (l:=[r]) J J (Wg J J J Vl) J (Qo Cc J J J A6.1 (c.2.2 j).1 J (fun _ _ o _ q=>Yi J (e_ (W.reg0 J fun _ _=>b_ H65 J Jf (m_ (e_ (kP2 _ _ (c.2.2 j).2 _ _ _ _ J H63 H64 J (Xe.mk o (Gr.app A6.2 J q)))))))))))))))))))))))))))))))))))))) (fun e=>Vr (Xzi hQ H6 A6 (h.2 e)))))))
include H3 H6 A6 B1 in
theorem Xo7 (h:Zqo PG K out6 m1):W PG d Zfs σ st Q:=
 Zm (q_ J (f_ H3 (l_ J B1 J J (Xc J (m_ (e_ (Yj (h (Zsy PG d Q m1.panics (m1.panics.length:Int)) (fun _ _ hb _ _ _ _ H6 H63 H64 H65 A6=>W.loop (Yvq hQ (fun _ _ x=>x) H6 H63 H64 H65 A6 hb)) _ _ _ _ H6 J J J A6))))))))
include kP1 H2 H3 H6 H42 H43 Up A6 B0 B1 in
theorem Wg7 (h:Zc8 PG K P1 out6 t42 t43 t44 m0 m1):W PG d Zdh σ st (Zs PG d (.loop Zdh) (Ya 2 (Zs PG d Zfs Q))):=
 q_ J (b_ Up H43 Wx (e_ (Zm (Yk J (fun e=>Yd (Zm (Yj (Zm (W.reg ((h.1 e).2.elim fun p k=>Wz H42 Up (h.1 e).1 k.1 (Zq.row_eq p) J (Xp J J J (Xs (Ye J (show lk _ (d,49154)=some (_,([.i .i64 0,.i .i64 0,.b false,.i .u8 0,.i .i64 0,.s [],.sl .full (List.map Zb.row ([]:List Zb)),.b false]:List AV)) from Zi) J J J (e_ (q_ J (l_ H2 (Zt J (Zt J B0)) J J (l_ J Zi J J (x2 k.2 fun r _ c=>Yg (Vq J J J) c.1 (m_ (x_ J J (x_ J J (m_ (m_ (e_ (Zm (q_ J (m_ (b_ J J Vd (e_ (Yk J (fun j=>q_ J (m_ (Yi (f:=Zv) (l:=[]) J (m_ (Zp (hQ J J (c.2.1 j))))))) (fun j=>Yd (W.reg0 J fun _ _=>Yi H6 (m_ (Vt (f:=Zv) (l:=[r]) J J (Wg J J J Vl) J (Qo Cc J J J A6.1 (c.2.2 j).1 J (fun _ _ o _ q=>Yi J (e_ (W.reg0 J fun _ _=>b_ Up J Jf (m_ (e_ (kP1 _ _ _ _ (c.2.2 j).2 _ _ _ _ _ _ H2 H3 J H42 H43 J (Xe.mk o (Gr.app A6.2 J q)) (Zt J (Zt J B0)) (Zt J (Zt J B1))))))))))))))))))))))))))))))))))))))) (fun e=>Vr (Xo7 hQ H3 H6 A6 B1 (h.2 e)))))))
include H2 H3 H6 A6 B0 B1 in
theorem We0 (h:Zpw PG K out6 m0 m1):W PG d Zc6 σ st Q:=
 Zm (q_ J (f_ H3 (l_ J B1 J J (Xc J (m_ (e_ (Yj (h (Yio PG d Q m1.defers (m1.defers.length:Int)) (fun _ _ _ _ hb _ _ _ _ _ _ H2 H3 H6 H42 H43 Up A6 B0 B1=>W.loop (Wg7 hQ (fun _ _ _ _ x=>x) H2 H3 H6 H42 H43 Up A6 B0 B1 hb)) _ _ _ _ _ _ H2 H3 H6 J J J A6 B0 B1))))))))
include kP0 H2 H3 H6 H20 H21 Kl A6 B0 B1 in
theorem Xfq (h:Zfb PG K P0 out6 t20 t21 t22 m0 m1):W PG d Zc9 σ st (Zs PG d (.loop Zc9) (Ya 0 (Zs PG d Zc6 Q))):=
 au @We0
include H2 H3 H6 A6 B0 B1 in
theorem Xec (h:Zo7 PG K out6 m0 m1):W PG d Yg9 σ st Q:=
 Zm (q_ J (f_ H3 (l_ J B1 J J (Xc J (m_ (e_ (Yj (h (Zt5 PG d Q m1.frames (m1.frames.length:Int)) (fun _ _ _ _ hb _ _ _ _ _ _ H2 H3 H6 H20 H21 Kl A6 B0 B1=>W.loop (Xfq hQ (fun _ _ _ _ x=>x) H2 H3 H6 H20 H21 Kl A6 B0 B1 hb)) _ _ _ _ _ _ H2 H3 H6 J J J A6 B0 B1))))))))
include H2 H3 B0 B1 in
theorem Xak (h:Zs7 PG K m0 m1):W PG d Zp7 σ st Q:=
 au @Xec
include H0 H1 in
theorem Wcs (h:Zhf PG K m0 x1):W PG d (sR 0 Yij Zp7) σ st Q:=
 q_ J (Vs H0 J (Vs H1 J (Yi (f:=Zv) (l:=[]) J (m_ (e_ (Xak hQ J J (Zt J Zi) Zi h))))))
end
theorem Xyq {PG:Za}(hf:PG.fn 220=some Zbt){m0:Zf}{x1:Zk}{K:LB->Int->Prop}(h:Zhf PG K m0 x1) :∃res0:LB,∃res1:Int,K res0 res1/\Ze PG 220 [m0.av,x1.av] (.tup [.sl .ext (List.map Zv res0),.i .i64 res1]):=
 P2 hf J (Wcs (hM J fun _ _ _=>J) J J h)
def Zzf:List AI:=[oY 3 3 0,oY 5 5 2,oC 6 (.sl .full []),oI 7 0]
def Zsd:List AI:=[oM 13 1,oV 14 .lss 13 0,oM 15 14,gF 15 (oM 16 1),gF 15 (oV 17 .geq 16 16),oR 18 15 17]
def Yi8:List AI:=[oC 6 (.sl .full []),oI 7 2]
def Waa:List AI:=[oK 19 3 3,oK 20 5 5,oQ 21 219 [19,20],oZ 22 21]
def Yo1:List AI:=[oC 6 (.sl .full []),oI 7 8]
def Wjj:List AI:=[oK 24 3 3,oK 25 5 5,oQ 26 220 [24,25],oM 23 26,oE 27 0 23,oE 28 1 23,oM 8 27,oM 9 28]
def Yos:List AI:=[oM 29 9,oV 30 .neq 29 0]
def We2:List AI:=[oM 31 9,oC 6 (.sl .full []),oM 7 31]
def Yz4:List AI:=[oM 32 1,oQ 33 216 [32],oB 34 .add (.c (.s [103,111,114,111,117,116,105,110,101,32])) (.t 33),oB 35 .add (.t 34) (.c (.s [58,32])),oF 36 1 5,oL 37 36,oQ 38 15 [37],oB 39 .add (.c (.s [98,108,111,99,107,101,100,32])) (.t 38),oO 40 (.build [zs,zs,zs,zs] [(1,1,(.c (.s [114,101,97,100,121]))),(3,1,(.c (.s [100,111,110,101]))),(2,1,(.t 39))]),oF 41 0 5,oL 42 41,oO 43 (.ixA 4 1 false (.t 40) (.t 42)),oT 44 .add 35 43,oO 45 (.bslice [zs] 1 [(0,(.t 44))]),oM 10 45]
def Ytm:List AI:=[oM 46 8,oJ 47 46,oI 48 0]
def Wfo:List AI:=[oT 49 .lss 48 47]
def Xci:List AI:=[oX 50 1 46 48,oL 51 50,oM 12 51]
def Xir:List AI:=[oM 52 10,oM 53 12,oB 54 .add (.c (.s [32,32])) (.t 53),oO 55 (.bslice [zs] 1 [(0,(.t 54))]),oO 56 (.app 1 16 (.t 52) (.t 55)),oM 10 56]
def Wf5:List AI:=[oV 57 .add 48 1,oM 48 57]
def Xdp:List AI:=[oM 58 10,oM 6 58,oI 7 0]
abbrev Zc2:AC:=(sR 10 Wfo (.seq (.cond (.t 49) .skip (.exit 0)) (.seq (.block 1 (sR 11 Xci (.reg 12 Xir))) (.reg 13 Wf5))))
abbrev Zev:AC:=(sR 14 Xdp .ret)
abbrev Zqu:AC:=(.seq (sR 3 Waa (.cond (.t 22) (sR 4 Yo1 .ret) .skip)) (sR 5 Wjj (.seq (sR 6 Yos (.cond (.t 30) (sR 7 We2 .ret) .skip)) (sR 8 Yz4 (.seq (sR 9 Ytm (.block 0 (.loop Zc2))) Zev)))))
abbrev Yoo:AC:=(sR 0 Zzf (.seq (sR 1 Zsd (.cond (.t 18) (sR 2 Yi8 .ret) .skip)) Zqu))
def Zc0:AF:={ nt:=59,res:=[.tmp 6,.tmp 7],body:=Yoo }
abbrev Yev (PG:Za)(d:Nat)(Q:AE->Sl->St->Prop)(t46:LB)(t47:Int)(out10:LB)(t48:Int):Prop:=
  ∀(σ:Sl)(st:St) (o_out10 o_t46:Zl),σ 10=.sl o_out10 (List.map Zv out10)->σ 46=.sl o_t46 (List.map Zv t46)->σ 47=.i .i64 t47->σ 48=.i .i64 t48->Xe d st.ow o_out10 out10.length->W PG d (.loop Zc2) σ st (Ya 0 (Zs PG d Zev Q))
def Zr7 (PG:Za)(K:LB->Int->Prop)(out10:LB):Prop:=
  K out10 0
def Zbz (PG:Za)(K:LB->Int->Prop)(P0:LB->Int->Prop)(out10:LB)(t46:LB)(t47:Int)(t48:Int):Prop:=
  (t48<t47->0<=t48/\∃c:BS,t46[(t48).toNat]?=some c/\([32,32]:BS).length+c.length<=We/\Qn (out10.length+[(([32,32]:BS)++c)].length) 16/\P0 (out10++[(([32,32]:BS)++c)]) (IntKind.i64.wrap (t48+1)))/\(¬(t48<t47)->Zr7 PG K out10)
def Zkx (PG:Za)(K:LB->Int->Prop)(g1:Int)(m0:Zf)(m1:Zk):Prop:=
  ∃c,Ze PG 219 [m0.av,m1.av] (.b c)/\((!c)=true->K ([]:LB) 8)/\((!c)=false->∃k:LB,∃j,Ze PG 220 [m0.av,m1.av] (.tup [.sl .ext (List.map Zv k),.i .i64 j])/\(j≠0->K ([]:LB) j)/\(¬(j≠0)->∃e:BS,Ze PG 216 [.i .i64 g1] (.s e)/\([103,111,114,111,117,116,105,110,101,32]:BS).length+e.length<=We/\(([103,111,114,111,117,116,105,110,101,32]:BS)++e).length+([58,32]:BS).length<=We/\∃o:BS,Ze PG 15 [.i .i64 m1.key] (.s o)/\([98,108,111,99,107,101,100,32]:BS).length+o.length<=We/\0<=m1.status/\∃p:BS,([[],([114,101,97,100,121]:BS),(([98,108,111,99,107,101,100,32]:BS)++o),([100,111,110,101]:BS)]:LB)[(m1.status).toNat]?=some p/\((([103,111,114,111,117,116,105,110,101,32]:BS)++e)++([58,32]:BS)).length+p.length<=We/\∀P0:LB->Int->Prop,(∀(out10:LB)(t48:Int),Zbz PG K P0 out10 k (k.length:Int) t48->P0 out10 t48)->P0 [(((([103,111,114,111,117,116,105,110,101,32]:BS)++e)++([58,32]:BS))++p)] 0))
def Ziq (PG:Za)(K:LB->Int->Prop)(m0:Zf)(g1:Int)(x2:Zk):Prop:=
  (g1<0->K ([]:LB) 2)/\(¬(g1<0)->(g1>=16->K ([]:LB) 2)/\(¬(g1>=16)->Zkx PG K g1 m0 x2))
section
variable {PG:Za}{d:Nat}{Q:AE->Sl->St->Prop}{K:LB->Int->Prop}(hQ:HM Zv (AV.i .i64) 6 7 Q K){σ:Sl}{st:St}
include hQ
variable {out10:LB}{o_out10:Zl}{t46:LB}{t47 t48:Int}{P0:LB->Int->Prop}{o_t46:Zl}{g1:Int}{m0:Zf}{m1:Zk}{v0 v1:Nat}{x2:Zk}
variable (kP0 :∀(out10:LB)(t48:Int),P0 out10 t48->Yev PG d Q t46 t47 out10 t48)(H0:σ 0=m0.av)(H10:σ 10=.sl o_out10 (List.map Zv out10))(H1:σ 1=.i .i64 g1)(H46:σ 46=.sl o_t46 (List.map Zv t46))(H3:σ 3=.p (d,0) v0 0)(H2:σ 2=x2.av)(H47:σ 47=.i .i64 t47)(H5:σ 5=.p (d,1) v1 0)(H48:σ 48=.i .i64 t48)(B0:lk st.bx (d,0)=some (v0,Zf.cs m0))(A10:Xe d st.ow o_out10 out10.length)(B1:lk st.bx (d,1)=some (v1,Zk.cs m1))
include H10 A10 in
theorem Ytd (h:Zr7 PG K out10):W PG d Zev σ st Q:=
 au trivial
include kP0 H10 H46 H47 H48 A10 in
theorem Xjk (h:Zbz PG K P0 out10 t46 t47 t48):W PG d Zc2 σ st (Zs PG d (.loop Zc2) (Ya 0 (Zs PG d Zev Q))):=
 q_ J (b_ H48 H47 Wx (e_ (Zm (Yk J (fun e=>Yd (Zm (Yj (q_ J ((h.1 e).2.elim fun j c=>Wz H46 H48 (h.1 e).1 c.1 J J (Xp J J J (m_ (e_ (W.reg0 J fun _ _=>Yi H10 (m_ (b_ J J (Vy c.2.1) (Vt (f:=Zv) (l:=[(([32,32]:BS)++j)]) J J (Wg J J J Vl) J (Qo Cc J J J A10.1 c.2.2.1 J (fun _ _ i _ k=>Yi J (e_ (W.reg0 J fun _ _=>b_ H48 J Jf (m_ (e_ (kP0 _ _ c.2.2.2 _ _ _ _ J H46 H47 J (Xe.mk i (Gr.app A10.2 J k))))))))))))))))))))) (fun e=>Vr (Ytd hQ H10 A10 (h.2 e)))))))
include H1 H3 H5 B0 B1 in
theorem Wc5 (h:Zkx PG K g1 m0 m1):W PG d Zqu σ st Q:=
 Zm (q_ J (l_ H3 B0 J J (l_ H5 B1 J J (h.elim fun _ j=>Yg (Vq J J J) j.1 (Xx J (e_ (Xl J (fun o=>q_ J (Yi (f:=Zv) (l:=[]) J (m_ (Zp (hQ J J (j.2.1 o)))))) (fun o=>Yd (q_ J (l_ H3 B0 J J (l_ H5 B1 J J (x2 (j.2.2 o) fun q _ k=>Yg (Vq J J J) k.1 (m_ (x_ J J (x_ J J (Yi J (m_ (e_ (Zm (q_ J (m_ (b_ J J Vd (e_ (Yk J (fun p=>q_ J (m_ (Yi (f:=Zv) (l:=[]) J (m_ (Zp (hQ J J (k.2.1 p))))))) (fun p=>Yd (q_ J (m_ ((k.2.2 p).elim fun v e=>Yg (Wm H1 J) e.1 (b_ J J (Vy e.2.1) (b_ J J (Vy e.2.2.1) (f_ H5 (l_ J B1 J J (e.2.2.2.elim fun u c=>Yg (Wm J J) c.1 (b_ J J (Vy c.2.1) (Cz (f:=AV.s) (l:=[[],([114,101,97,100,121]:BS),(([98,108,111,99,107,101,100,32]:BS)++u),([100,111,110,101]:BS)]) (Yl J J (Yl J J (Yl J J Xn))) J (f_ H5 (l_ J B1 J J (c.2.2.2.elim fun r i=>Tu (f:=AV.s) J J J c.2.2.1 i.1 (b_ J J (Vy i.2.1) (Vt (f:=Zv) (l:=[(((([103,111,114,111,117,116,105,110,101,32]:BS)++v)++([58,32]:BS))++r)]) J J (Wg J J J Vl) J (Yi J (e_ (Zm (q_ J (Yi J (Xc J (m_ (e_ (Yj (i.2.2 (Yev PG d Q q (q.length:Int)) (fun _ _ hb _ _ _ _ H10 H46 H47 H48 A10=>W.loop (Xjk hQ (fun _ _ x=>x) H10 H46 H47 H48 A10 hb)) _ _ _ _ J J J J Xe.full))))))))))))))))))))))))))))))))))))))))))))))))))
include H0 H1 H2 in
theorem Xyw (h:Ziq PG K m0 g1 x2):W PG d (sR 0 Zzf (.seq (sR 1 Zsd (.cond (.t 18) (sR 2 Yi8 .ret) .skip)) Zqu)) σ st Q:=
 q_ J (Vs H0 J (Vs H2 J (Yi (f:=Zv) (l:=[]) J (m_ (e_ (Zm (q_ J (Xh H1 (b_ J J Wx (Yt J (Yq (g:=15) J (fun c=>z_ 3 J (e_ (Yr J (q_ J (Yi (f:=Zv) (l:=[]) J (m_ (Zp (hQ J J (h.1 c))))))))) (fun c=>Zd J (Xh H1 (Zd J (b_ J J Gb (Vp J J (e_ (Yk J (fun e=>q_ J (Yi (f:=Zv) (l:=[]) J (m_ (Zp (hQ J J ((h.2 c).1 e)))))) (fun e=>Yd (Wc5 hQ H1 J J (Zt J Zi) Zi ((h.2 c).2 e)))))))))))))))))))))
end
theorem Xv3 {PG:Za}(hf:PG.fn 207=some Zc0){m0:Zf}{g1:Int}{x2:Zk}{K:LB->Int->Prop}(h:Ziq PG K m0 g1 x2) :∃res0:LB,∃res1:Int,K res0 res1/\Ze PG 207 [m0.av,.i .i64 g1,x2.av] (.tup [.sl .ext (List.map Zv res0),.i .i64 res1]):=
 P2 hf J (Xyw (hM J fun _ _ _=>J) J J J h)
abbrev Wdl (Q:AE->Sl->St->Prop)(K:LB->Prop):Prop:=∀(σ:Sl)(st:St)(o0:Zl)(res0:LB),σ 6=.sl o0 (List.map Zv res0)->K res0->Q .ret σ st
section
variable {PG:Za}{d:Nat}{Q:AE->Sl->St->Prop}{K:LB->Prop}(hQ:Wdl Q K){σ:Sl}{st:St}
include hQ
end
abbrev Xk1 (Q:AE->Sl->St->Prop)(K:LB->Int->Prop):Prop:=∀(σ:Sl)(st:St)(o0:Zl)(res0:LB)(res1:Int),σ 6=.sl o0 (List.map Zv res0)->σ 7=.i .i64 res1->K res0 res1->Q .ret σ st
section
variable {PG:Za}{d:Nat}{Q:AE->Sl->St->Prop}{K:LB->Int->Prop}(hQ:Xk1 Q K){σ:Sl}{st:St}
include hQ
end
def Ydg:List AI:=[oY 2 3 0,oY 3 4 1,oC 4 (.s []),oI 5 0]
def Wh0:List AI:=[oK 14 3 2,oK 15 4 3,oQ 16 213 [14,15],oM 6 16]
def Wd6:List AI:=[oM 17 6,oV 18 .neq 17 0]
def Xs8:List AI:=[oM 19 6,oC 4 (.s []),oM 5 19]
def Yt2:List AI:=[oO 7 (.alloc [.np,.sl .full []])]
def Wd8:List AI:=[oQ 20 215 [],oF 21 0 3,oL 22 21,oO 23 (.ixA 9 1 false (.t 20) (.t 22)),oB 24 .add (.c (.s [111,117,116,99,111,109,101,32])) (.t 23),oB 25 .add (.t 24) (.c (.s [44,32,102,97,105,108,105,110,103,32])),oF 26 1 3,oL 27 26,oQ 28 216 [27],oT 29 .add 25 28,oB 30 .add (.t 29) (.c (.s [44,32,115,116,101,112,115,32])),oF 31 2 3,oL 32 31,oQ 33 216 [32],oT 34 .add 30 33,oB 35 .add (.t 34) (.c (.s [10])),oO 36 (.call true 126 [(.t 7),(.t 35)])]
def Xtc:List AI:=[oF 37 3 3,oL 38 37,oJ 39 38,oI 40 0]
def Xki:List AI:=[oT 41 .lss 40 39]
def Xnn:List AI:=[oM 42 40,oX 43 5 38 40,oK 44 5 43,oO 9 (.alloc [z8,z6,zl,zl,zl]),oM 8 42,oS 5 9 44]
def Ywk:List AI:=[oK 46 3 2,oM 47 8,oK 48 5 9,oQ 49 207 [46,47,48],oM 45 49,oE 50 0 45,oE 51 1 45,oM 10 50,oM 11 51]
def Xq1:List AI:=[oM 52 11,oV 53 .neq 52 0]
def Xz8:List AI:=[oM 54 11,oC 4 (.s []),oM 5 54]
def Xll:List AI:=[oM 55 10,oJ 56 55,oI 57 0]
def Yp0:List AI:=[oT 58 .lss 57 56]
def Ytq:List AI:=[oX 59 1 55 57,oL 60 59,oM 13 60]
def Ynj:List AI:=[oM 61 13,oB 62 .add (.t 61) (.c (.s [10])),oO 63 (.call true 126 [(.t 7),(.t 62)])]
def Yyt:List AI:=[oV 64 .add 57 1,oM 57 64]
def Yxb:List AI:=[oV 65 .add 40 1,oM 40 65]
def Yso:List AI:=[oO 66 (.call true 217 [(.t 7)]),oV 67 .gtr 66 300000]
def Xue:List AI:=[oC 4 (.s []),oI 5 4]
def Xqj:List AI:=[oO 68 (.call true 105 [(.t 7)]),oM 4 68,oI 5 0]
abbrev Zfc:AC:=(sR 13 Yp0 (.seq (.cond (.t 58) .skip (.exit 2)) (.seq (.block 3 (sR 14 Ytq (.reg 15 Ynj))) (.reg 16 Yyt))))
abbrev Zf0:AC:=(.reg 17 Yxb)
abbrev Ty:AC:=(sR 7 Xki (.seq (.cond (.t 41) .skip (.exit 0)) (.seq (.block 1 (sR 8 Xnn (sR 9 Ywk (.seq (sR 10 Xq1 (.cond (.t 53) (sR 11 Xz8 .ret) .skip)) (sR 12 Xll (.block 2 (.loop Zfc))))))) Zf0)))
abbrev Tq:AC:=(.seq (sR 18 Yso (.cond (.t 67) (sR 19 Xue .ret) .skip)) (sR 20 Xqj .ret))
abbrev Ycy:AC:=(sR 5 Wd8 (.seq (sR 6 Xtc (.block 0 (.loop Ty))) Tq))
abbrev Zyk:AC:=(sR 1000004 Yt2 Ycy)
abbrev Zi7:AC:=(.seq (sR 1 Wh0 (sR 2 Wd6 (.cond (.t 18) (sR 3 Xs8 .ret) .skip))) Zyk)
abbrev Xm2:AC:=(sR 0 Ydg Zi7)
def Ze8:AF:={ nt:=69,res:=[.tmp 4,.tmp 5],body:=Xm2 }
abbrev Yf3 (PG:Za)(d:Nat)(Q:AE->Sl->St->Prop)(t38:List Zk)(t39:Int)(t40:Int)(m0:Zf)(m4096016384:BS):Prop:=
  ∀(σ:Sl)(st:St)(o_t38:Zl) (v0 v4096016384:Nat),σ 2=.p (d,0) v0 0->σ 7=.p (d,1000004*4096+0) v4096016384 0->σ 38=.sl o_t38 (List.map Zk.row t38)->σ 39=.i .i64 t39->σ 40=.i .i64 t40->lk st.bx (d,0)=some (v0,Zf.cs m0)->Bl m4096016384 st.bx st.ow (d,1000004*4096+0) v4096016384->W PG d (.loop Ty) σ st (Ya 0 (Zs PG d Tq Q))
abbrev Zuq (PG:Za)(d:Nat)(Q:AE->Sl->St->Prop)(t38:List Zk)(t39:Int)(t40:Int)(t55:LB)(t56:Int)(t57:Int)(m0:Zf)(m4096016384:BS):Prop:=
  ∀(σ:Sl)(st:St) (o_t38 o_t55:Zl) (v0 v4096016384:Nat),σ 2=.p (d,0) v0 0->σ 7=.p (d,1000004*4096+0) v4096016384 0->σ 38=.sl o_t38 (List.map Zk.row t38)->σ 39=.i .i64 t39->σ 40=.i .i64 t40->σ 55=.sl o_t55 (List.map Zv t55)->σ 56=.i .i64 t56->σ 57=.i .i64 t57->lk st.bx (d,0)=some (v0,Zf.cs m0)->Bl m4096016384 st.bx st.ow (d,1000004*4096+0) v4096016384->W PG d (.loop Zfc) σ st (Ya 2 (Ya 1 (Zs PG d Zf0 (Zs PG d (.loop Ty) (Ya 0 (Zs PG d Tq Q))))))
def Zix (PG:Za)(K:BS->Int->Prop)(P0:Int->Zf->BS->Prop)(t38:List Zk)(t39:Int)(t40:Int)(m0:Zf)(m4096016384:BS):Prop:=
  P0 (IntKind.i64.wrap (t40+1)) m0 m4096016384
def Zeg (PG:Za)(K:BS->Int->Prop)(P1:Int->Zf->BS->Prop)(P0:Int->Zf->BS->Prop)(t38:List Zk)(t39:Int)(t40:Int)(t55:LB)(t56:Int)(t57:Int)(m0:Zf)(m4096016384:BS):Prop:=
  (t57<t56->0<=t57/\∃c:BS,t55[(t57).toNat]?=some c/\c.length+([10]:BS).length<=We/\∃j,∃e:BS,Yp PG 126 (Bl m4096016384) [.s (c++([10]:BS))] (fun r=>r=.tup [.i .i64 j,.ni]) ((Bl e))/\P1 (IntKind.i64.wrap (t57+1)) m0 e)/\(¬(t57<t56)->Zix PG K P0 t38 t39 t40 m0 m4096016384)
def Zpn (PG:Za)(K:BS->Int->Prop)(m4096016384:BS):Prop:=
  ∃c,∃j:BS,Yp PG 217 (Bl m4096016384) [] (fun r=>r=.i .i64 c) ((Bl j))/\(c>300000->K ([]:BS) 4)/\(¬(c>300000)->∃e,Yp PG 105 (Bl j) [] (fun r=>r=.s e) (fun _ _ _ _=>True)/\K e 0)
def Zax (PG:Za)(K:BS->Int->Prop)(P0:Int->Zf->BS->Prop)(t38:List Zk)(t39:Int)(t40:Int)(m0:Zf)(m4096016384:BS):Prop:=
  (t40<t39->0<=t40/\∃j:Zk,t38[(t40).toNat]?=some j/\∃e:LB,∃c,Ze PG 207 [m0.av,.i .i64 t40,j.av] (.tup [.sl .ext (List.map Zv e),.i .i64 c])/\(c≠0->K ([]:BS) c)/\(¬(c≠0)->∀P1:Int->Zf->BS->Prop,(∀(t57:Int)(m0:Zf)(m4096016384:BS),Zeg PG K P1 P0 t38 t39 t40 e (e.length:Int) t57 m0 m4096016384->P1 t57 m0 m4096016384)->P1 0 m0 m4096016384))/\(¬(t40<t39)->Zpn PG K m4096016384)
def Zo9 (PG:Za)(K:BS->Int->Prop)(m0:Zf)(m1:Zu)(m4096016384:BS):Prop:=
  ∃c:LB,Ze PG 215 [] (.ag (List.map AV.s c))/\c.length=9/\0<=m1.outcome/\∃e:BS,(c:LB)[(m1.outcome).toNat]?=some e/\([111,117,116,99,111,109,101,32]:BS).length+e.length<=We/\(([111,117,116,99,111,109,101,32]:BS)++e).length+([44,32,102,97,105,108,105,110,103,32]:BS).length<=We/\∃j:BS,Ze PG 216 [.i .i64 m1.failing] (.s j)/\((([111,117,116,99,111,109,101,32]:BS)++e)++([44,32,102,97,105,108,105,110,103,32]:BS)).length+j.length<=We/\(((([111,117,116,99,111,109,101,32]:BS)++e)++([44,32,102,97,105,108,105,110,103,32]:BS))++j).length+([44,32,115,116,101,112,115,32]:BS).length<=We/\∃k:BS,Ze PG 216 [.i .i64 m1.steps] (.s k)/\((((([111,117,116,99,111,109,101,32]:BS)++e)++([44,32,102,97,105,108,105,110,103,32]:BS))++j)++([44,32,115,116,101,112,115,32]:BS)).length+k.length<=We/\(((((([111,117,116,99,111,109,101,32]:BS)++e)++([44,32,102,97,105,108,105,110,103,32]:BS))++j)++([44,32,115,116,101,112,115,32]:BS))++k).length+([10]:BS).length<=We/\∃p,∃o:BS,Yp PG 126 (Bl m4096016384) [.s ((((((([111,117,116,99,111,109,101,32]:BS)++e)++([44,32,102,97,105,108,105,110,103,32]:BS))++j)++([44,32,115,116,101,112,115,32]:BS))++k)++([10]:BS))] (fun r=>r=.tup [.i .i64 p,.ni]) ((Bl o))/\∀P0:Int->Zf->BS->Prop,(∀(t40:Int)(m0:Zf)(m4096016384:BS),Zax PG K P0 m1.routines (m1.routines.length:Int) t40 m0 m4096016384->P0 t40 m0 m4096016384)->P0 0 m0 o
def Zmu (PG:Za)(K:BS->Int->Prop)(m0:Zf)(m1:Zu):Prop:=
  Zo9 PG K m0 m1 ([]:BS)
def Zl4 (PG:Za)(K:BS->Int->Prop)(m0:Zf)(m1:Zu):Prop:=
  ∃c,Ze PG 213 [m0.av,m1.av] (.i .i64 c)/\(c≠0->K ([]:BS) c)/\(¬(c≠0)->Zmu PG K m0 m1)
def Zs6 (PG:Za)(K:BS->Int->Prop)(m0:Zf)(s1:Zu):Prop:=
  Zl4 PG K m0 s1
section
variable {PG:Za}{d:Nat}{Q:AE->Sl->St->Prop}{K:BS->Int->Prop}(hQ:H2 AV.s (AV.i .i64) 4 5 Q K){σ:Sl}{st:St}
include hQ
variable {t38:List Zk}{t39 t40:Int}{m0:Zf}{m4096016384:BS}{P0:Int->Zf->BS->Prop}{o_t38:Zl}{v0 v4096016384:Nat}{t55:LB}{t56 t57:Int}{P1:Int->Zf->BS->Prop}{o_t55:Zl}{m1:Zu}{v1:Nat}{s1:Zu}
variable (kP1 :∀(t57:Int)(m0:Zf)(m4096016384:BS),P1 t57 m0 m4096016384->Zuq PG d Q t38 t39 t40 t55 t56 t57 m0 m4096016384)(H0:σ 0=m0.av) (kP0 :∀(t40:Int)(m0:Zf)(m4096016384:BS),P0 t40 m0 m4096016384->Yf3 PG d Q t38 t39 t40 m0 m4096016384)(H1:σ 1=s1.av)(H2:σ 2=.p (d,0) v0 0)(H3:σ 3=.p (d,1) v1 0)(H7:σ 7=.p (d,1000004*4096+0) v4096016384 0)(Uy:σ 38=.sl o_t38 (List.map Zk.row t38))(Da:σ 39=.i .i64 t39)(Gt:σ 40=.i .i64 t40)(H55:σ 55=.sl o_t55 (List.map Zv t55))(H56:σ 56=.i .i64 t56)(H57:σ 57=.i .i64 t57)(B0:lk st.bx (d,0)=some (v0,Zf.cs m0))(B1:lk st.bx (d,1)=some (v1,Zu.cs m1))(B4096016384:Bl m4096016384 st.bx st.ow (d,1000004*4096+0) v4096016384)
include kP0 H2 H7 Uy Da Gt B0 B4096016384 in
theorem Xwr (h:Zix PG K P0 t38 t39 t40 m0 m4096016384):W PG d Zf0 σ st (Zs PG d (.loop Ty) (Ya 0 (Zs PG d Tq Q))):=
 au trivial
include kP1 kP0 H2 H7 Uy Da Gt H55 H56 H57 B0 B4096016384 in
theorem Ywr (h:Zeg PG K P1 P0 t38 t39 t40 t55 t56 t57 m0 m4096016384):W PG d Zfc σ st (Zs PG d (.loop Zfc) (Ya 2 (Ya 1 (Zs PG d Zf0 (Zs PG d (.loop Ty) (Ya 0 (Zs PG d Tq Q))))))):=
 q_ J (b_ H57 H56 Wx (e_ (Zm (Yk J (fun c=>Yd (Zm (Yj (q_ J ((h.1 c).2.elim fun _ e=>Wz H55 H57 (h.1 c).1 e.1 J J (Xp J J J (m_ (e_ (W.reg0 J fun _ _=>m_ (b_ J J (Vy e.2.1) (e.2.2.elim fun _ j=>j.elim fun _ i=>Wa (Zy H7 (Zy J Yn)) i.1 (Nat.lt_succ_self d) B4096016384 (fun _ k o=>e_ (W.reg0 J fun _ _=>b_ H57 J Jf (m_ (e_ (kP1 _ _ _ i.2 _ _ _ _ _ _ H2 H7 Uy Da Gt H55 H56 J ((o.1 (d,0) (Nat.lt_succ_self d) (Wc J)).trans B0) k)))))))))))))))) (fun c=>Vr (Xwr hQ kP0 H2 H7 Uy Da Gt B0 B4096016384 (h.2 c)))))))
include H7 B4096016384 in
theorem Xb6 (h:Zpn PG K m4096016384):W PG d Tq σ st Q:=
 Zm (q_ J (h.elim fun _ j=>j.elim fun _ c=>Wa (Zy H7 Yn) c.1 (Nat.lt_succ_self d) B4096016384 (fun _ k _=>b_ J J Vz (e_ (Yk J (fun e=>q_ J (m_ (m_ (Zp (hQ J J (c.2.1 e)))))) (fun e=>Yd (q_ J ((c.2.2 e).elim fun _ i=>Wa (Zy H7 Yn) i.1 (Nat.lt_succ_self d) k (fun _ _ _=>m_ (m_ (Zp (hQ J J i.2))))))))))))
include kP0 H2 H7 Uy Da Gt B0 B4096016384 in
theorem Yrj (h:Zax PG K P0 t38 t39 t40 m0 m4096016384):W PG d Ty σ st (Zs PG d (.loop Ty) (Ya 0 (Zs PG d Tq Q))):=
 q_ J (b_ Gt Da Wx (e_ (Zm (Yk J (fun c=>Yd (Zm (Yj (Zm (W.reg (m_ ((h.1 c).2.elim fun p k=>Wz Uy Gt (h.1 c).1 k.1 (Zk.row_eq p) J (Xp J J J (Xs (m_ (Ye J (show lk _ (d,32771)=some (_,([.i .u8 0,.i .i64 0,.sl .full (List.map Zg.row ([]:List Zg)),.sl .full (List.map Zq.row ([]:List Zq)),.sl .full (List.map Zh.row ([]:List Zh))]:List AV)) from Zi) J J J (e_ (q_ J (l_ H2 (Zt J (Zt J B0)) J J (m_ (l_ J Zi J J (x2 k.2 fun o _ e=>Yg (sc3 J Gt J J) e.1 (m_ (x_ J J (x_ J J (Yi J (m_ (e_ (Zm (q_ J (m_ (b_ J J Vd (e_ (Yk J (fun j=>q_ J (m_ (m_ (m_ (Zp (hQ J J (e.2.1 j))))))) (fun j=>Yd (q_ J (Yi J (Xc J (m_ (e_ (Yj ((e.2.2 j) (Zuq PG d Q t38 t39 t40 o (o.length:Int)) (fun _ _ _ hb _ _ _ _ _ _ H2 H7 Uy Da Gt H55 H56 H57 B0 B4096016384=>W.loop (Ywr hQ (fun _ _ _ x=>x) kP0 H2 H7 Uy Da Gt H55 H56 H57 B0 B4096016384 hb)) _ _ _ _ _ _ H2 H7 Uy Da Gt J J J (Zt J (Zt J B0)) (Bl.other (Wc J) (Bl.other (Wc J) B4096016384))))))))))))))))))))))))))))))))))))))) (fun c=>Vr (Xb6 hQ H7 B4096016384 (h.2 c)))))))
include H2 H3 H7 B0 B1 B4096016384 in
theorem Xq2 (h:Zo9 PG K m0 m1 m4096016384):W PG d Ycy σ st Q:=
 q_ J (h.elim fun _ e=>Yg sn e.1 (f_ H3 (l_ J B1 J J (e.2.2.2.elim fun _ j=>Tu (f:=AV.s) e.2.1 J J e.2.2.1 j.1 (b_ J J (Vy j.2.1) (b_ J J (Vy j.2.2.1) (f_ H3 (l_ J B1 J J (j.2.2.2.elim fun _ c=>Yg (Wm J J) c.1 (b_ J J (Vy c.2.1) (b_ J J (Vy c.2.2.1) (f_ H3 (l_ J B1 J J (c.2.2.2.elim fun _ i=>Yg (Wm J J) i.1 (b_ J J (Vy i.2.1) (b_ J J (Vy i.2.2.1) (i.2.2.2.elim fun _ p=>p.elim fun _ k=>Wa (Zy H7 (Zy J Yn)) k.1 (Nat.lt_succ_self d) B4096016384 (fun _ q o=>e_ (Zm (q_ J (f_ H3 (l_ J ((o.1 (d,1) (Nat.lt_succ_self d) (Wc J)).trans B1) J J (Xc J (m_ (e_ (Yj (k.2 (Yf3 PG d Q m1.routines (m1.routines.length:Int)) (fun _ _ _ hb _ _ _ _ _ H2 H7 Uy Da Gt B0 B4096016384=>W.loop (Yrj hQ (fun _ _ _ x=>x) H2 H7 Uy Da Gt B0 B4096016384 hb)) _ _ _ _ _ H2 H7 J J J ((o.1 (d,0) (Nat.lt_succ_self d) (Wc J)).trans B0) q)))))))))))))))))))))))))))
include H2 H3 B0 B1 in
theorem Xme (h:Zmu PG K m0 m1):W PG d Zyk σ st Q:=
 Zm (W.regB J (fun _ _ _ e c=>Xq2 hQ H2 H3 J ((c (d,0) (Wc J)).trans B0) ((c (d,1) (Wc J)).trans B1) e h))
include H2 H3 B0 B1 in
theorem Xqe (h:Zl4 PG K m0 m1):W PG d Zi7 σ st Q:=
 Zm (q_ J (l_ H2 B0 J J (l_ H3 B1 J J (h.elim fun _ c=>Yg (Vq J J J) c.1 (m_ (e_ (q_ J (m_ (b_ J J Vd (e_ (Yk J (fun e=>q_ J (m_ (m_ (m_ (Zp (hQ J J (c.2.1 e))))))) (fun e=>Yd (Xme hQ H2 H3 B0 B1 (c.2.2 e))))))))))))))
include H0 H1 in
theorem Xda (h:Zs6 PG K m0 s1):W PG d (sR 0 Ydg Zi7) σ st Q:=
 q_ J (Vs H0 J (Vs H1 J (m_ (m_ (e_ (Xqe hQ J J (Zt J Zi) Zi h))))))
end
theorem Xi1 {PG:Za}(hf:PG.fn 205=some Ze8){m0:Zf}{s1:Zu}{K:BS->Int->Prop}(h:Zs6 PG K m0 s1) :∃res0:BS,∃res1:Int,K res0 res1/\Ze PG 205 [m0.av,s1.av] (.tup [.s res0,.i .i64 res1]):=
 P2 hf J (Xda (h2 J fun _ _=>J) J J h)
def Xpu:List AI:=[oY 2 3 0,oY 3 4 1,oC 4 (.s [])]
def Wiw:List AI:=[oQ 9 223 [],oF 10 0 3,oL 11 10,oX 12 1 9 11,oL 13 12,oB 14 .add (.c (.s [111,117,116,99,111,109,101,32])) (.t 13),oB 15 .add (.t 14) (.c (.s [44,32,102,97,105,108,105,110,103,32])),oF 16 1 3,oL 17 16,oQ 18 226 [17],oT 19 .add 15 18,oB 20 .add (.t 19) (.c (.s [44,32,115,116,101,112,115,32])),oF 21 2 3,oL 22 21,oQ 23 226 [22],oT 24 .add 20 23,oB 25 .add (.t 24) (.c (.s [10])),oM 5 25]
def Wed:List AI:=[oI 6 0]
def Xx3:List AI:=[oM 26 6,oF 27 3 3,oL 28 27,oJ 29 28,oT 30 .lss 26 29]
def Xpi:List AI:=[oK 33 3 2,oM 34 6,oF 35 3 3,oL 36 35,oM 37 6,oX 38 5 36 37,oK 39 5 38,oQ 40 222 [33,34,39],oM 7 40]
def Xmj:List AI:=[oI 8 0]
def Xyz:List AI:=[oM 41 8,oM 42 7,oJ 43 42,oT 44 .lss 41 43]
def Yo8:List AI:=[oM 47 5,oM 48 7,oM 49 8,oX 50 1 48 49,oL 51 50,oB 52 .add (.t 51) (.c (.s [10])),oT 53 .add 47 52,oM 5 53]
def Xqd:List AI:=[oM 45 8,oV 46 .add 45 1,oM 8 46]
def Whx:List AI:=[oM 31 6,oV 32 .add 31 1,oM 6 32]
def Xvt:List AI:=[oM 54 5,oM 4 54]
abbrev Xvl:AC:=(.seq (sR 7 Xyz (.cond (.t 44) .skip (.exit 2))) (.seq (.block 3 (.reg 9 Yo8)) (.reg 8 Xqd)))
abbrev Xg7:AC:=(.reg 4 Whx)
abbrev Xku:AC:=(.seq (sR 3 Xx3 (.cond (.t 30) .skip (.exit 0))) (.seq (.block 1 (sR 5 Xpi (sR 6 Xmj (.block 2 (.loop Xvl))))) Xg7))
abbrev Xgm:AC:=(sR 10 Xvt .ret)
abbrev Xph:AC:=(sR 0 Xpu (sR 1 Wiw (.seq (sR 2 Wed (.block 0 (.loop Xku))) Xgm)))
def Zo8:AF:={ nt:=55,res:=[.tmp 4],body:=Xph }
abbrev Xza (Q:AE->Sl->St->Prop)(K:BS->Prop):Prop:=∀(σ:Sl)(st:St)(res0:BS),σ 4=.s res0->K res0->Q .ret σ st
section
variable {PG:Za}{d:Nat}{Q:AE->Sl->St->Prop}{K:BS->Prop}(hQ:Xza Q K){σ:Sl}{st:St}
include hQ
end
abbrev Xpv (Q:AE->Sl->St->Prop)(K:BS->Int->Prop):Prop:=∀(σ:Sl)(st:St)(res0:BS)(res1:Int),σ 4=.s res0->σ 5=.i .i64 res1->K res0 res1->Q .ret σ st
section
variable {PG:Za}{d:Nat}{Q:AE->Sl->St->Prop}{K:BS->Int->Prop}(hQ:Xpv Q K){σ:Sl}{st:St}
include hQ
end
end Go.AM

/- Yf of the proof. -/
namespace Go.AM
open Go
set_option linter.unusedVariables false
set_option linter.unusedSimpArgs false
set_option maxRecDepth 4000
attribute [local irreducible] WO Wq Ws
def Yfd:List AI:=[oY 1 4 0,oC 2 (.b false)]
def Zxw:List AI:=[oI 3 0]
def Yvf:List AI:=[oM 4 3,oF 5 3 1,oL 6 5,oJ 7 6,oT 8 .lss 4 7,oM 9 8,gT 9 (oM 10 3),gT 9 (oV 11 .leq 10 20),oA 12 9 11]
def Xrs:List AI:=[oF 15 3 1,oL 16 15,oM 17 3,oX 18 5 16 17,oK 19 5 18,oQ 20 204 [19]]
def Xjh:List AI:=[oC 2 (.b true)]
def Wi2:List AI:=[oM 13 3,oV 14 .add 13 1,oM 3 14]
def Yxn:List AI:=[oF 21 3 1,oL 22 21,oJ 23 22,oV 24 .gtr 23 20,oM 2 24]
abbrev Ycw:AC:=(.seq (.block 1 (sR 4 Xrs (.cond (.t 20) (sR 5 Xjh .ret) .skip))) (.reg 3 Wi2))
abbrev Pq:AC:=(.seq (sR 2 Yvf (.cond (.t 12) .skip (.exit 0))) Ycw)
abbrev Ls:AC:=(sR 6 Yxn .ret)
abbrev Xo9:AC:=(sR 0 Yfd (.seq (sR 1 Zxw (.block 0 (.loop Pq))) Ls))
def Zgr:AF:={ nt:=25,res:=[.tmp 2],body:=Xo9 }
abbrev Yd5 (PG:Za)(d:Nat)(Q:AE->Sl->St->Prop)(i3:Int)(m0:Zu):Prop:=
  ∀(σ:Sl)(st:St)(v0:Nat),σ 1=.p (d,0) v0 0->σ 3=.i .i64 i3->lk st.bx (d,0)=some (v0,Zu.cs m0)->W PG d (.loop Pq) σ st (Ya 0 (Zs PG d Ls Q))
def Zjt (PG:Za)(K:Bool->Prop)(P0:Int->Zu->Prop)(i3:Int)(m0:Zu):Prop:=
  0<=i3/\∃e:Zk,m0.routines[(i3).toNat]?=some e/\∃c,Ze PG 204 [e.av] (.b c)/\(c=true->K true)/\(c=false->P0 (IntKind.i64.wrap (i3+1)) m0)
def Ev (PG:Za)(K:Bool->Prop)(m0:Zu):Prop:=
  K (decide ((m0.routines.length:Int)>20))
def Zf4 (PG:Za)(K:Bool->Prop)(P0:Int->Zu->Prop)(i3:Int)(m0:Zu):Prop:=
  (i3<(m0.routines.length:Int)->(i3<=20->Zjt PG K P0 i3 m0)/\(¬(i3<=20)->Ev PG K m0))/\(¬(i3<(m0.routines.length:Int))->Ev PG K m0)
def Zja (PG:Za)(K:Bool->Prop)(s0:Zu):Prop:=
  ∀P0:Int->Zu->Prop,(∀(i3:Int)(m0:Zu),Zf4 PG K P0 i3 m0->P0 i3 m0)->P0 0 s0
section
variable {PG:Za}{d:Nat}{Q:AE->Sl->St->Prop}{K:Bool->Prop}(hQ:H1 AV.b 2 Q K){σ:Sl}{st:St}
include hQ
variable {i3:Int}{m0:Zu}{P0:Int->Zu->Prop}{v0:Nat}{s0:Zu}
variable (kP0 :∀(i3:Int)(m0:Zu),P0 i3 m0->Yd5 PG d Q i3 m0)(H0:σ 0=s0.av)(H1:σ 1=.p (d,0) v0 0)(H3:σ 3=.i .i64 i3)(B0:lk st.bx (d,0)=some (v0,Zu.cs m0))
include kP0 H1 H3 B0 in
theorem Xcm (h:Zjt PG K P0 i3 m0):W PG d Ycw σ st (Zs PG d (.loop Pq) (Ya 0 (Zs PG d Ls Q))):=
 Zm (Yj (q_ J (f_ H1 (l_ J B0 J J (m_ (h.2.elim fun j i=>Wz J H3 h.1 i.1 (Zk.row_eq j) J (Xp J J J (i.2.elim fun _ c=>Yg (Wm J J) c.1 (e_ (Xl J (fun e=>q_ J (m_ (Zp (hQ J (c.2.1 e))))) (fun e=>Yd (W.reg0 J fun _ _=>m_ (b_ H3 J Jf (m_ (e_ (kP0 _ _ (c.2.2 e) _ _ _ H1 J B0))))))))))))))))
include H1 B0 in
theorem Yb1 (h:Ev PG K m0):W PG d Ls σ st Q:=
 q_ J (f_ H1 (l_ J B0 J J (Xc J (b_ J J Vz (m_ (Zp (hQ J h)))))))
include kP0 H1 H3 B0 in
theorem Xfh (h:Zf4 PG K P0 i3 m0):W PG d Pq σ st (Zs PG d (.loop Pq) (Ya 0 (Zs PG d Ls Q))):=
 Zm (q_ J (Xh H3 (f_ H1 (l_ J B0 J J (Xc J (b_ J J Wx (Yt J (Yq (g:=9) J (fun c=>Zd J (Xh H3 (Zd J (b_ J J Zfk (Dh J J (e_ (Yk J (fun e=>Yd (Xcm hQ kP0 H1 H3 B0 ((h.1 c).1 e))) (fun e=>Vr (Yb1 hQ H1 B0 ((h.1 c).2 e)))))))))) (fun c=>z_ 3 J (e_ (Hy J (Vr (Yb1 hQ H1 B0 (h.2 c))))))))))))))
include H0 in
theorem Xf1 (h:Zja PG K s0):W PG d (sR 0 Yfd (.seq (sR 1 Zxw (.block 0 (.loop Pq))) Ls)) σ st Q:=
 q_ J (Vs H0 J (m_ (e_ (Zm (q_ J (m_ (e_ (Yj (h (Yd5 PG d Q ) (fun _ _ hb _ _ _ H1 H3 B0=>W.loop (Xfh hQ (fun _ _ x=>x) H1 H3 B0 hb)) _ _ _ J J Zi)))))))))
end
theorem Xqz {PG:Za}(hf:PG.fn 203=some Zgr){s0:Zu}{K:Bool->Prop}(h:Zja PG K s0) :∃res0:Bool,K res0/\Ze PG 203 [s0.av] (.b res0):=
 P1 hf J (Xf1 (h1 J fun _=>J) J h)
def Yfh:List AI:=[oY 1 5 0,oC 2 (.b false)]
def Yko:List AI:=[oF 5 2 1,oL 6 5,oJ 7 6,oV 8 .gtr 7 12,oM 9 8,gF 9 (oF 10 3 1),gF 9 (oL 11 10),gF 9 (oJ 12 11),gF 9 (oV 13 .gtr 12 12),oR 14 9 13,oM 15 14,gF 15 (oF 16 4 1),gF 15 (oL 17 16),gF 15 (oJ 18 17),gF 15 (oV 19 .gtr 18 20),oR 20 15 19,oM 21 20,gF 21 (oF 22 4 1),gF 21 (oL 23 22),gF 21 (oQ 24 162 [23]),oR 25 21 24]
def Zsl:List AI:=[oC 2 (.b true)]
def Wfp:List AI:=[oI 3 0]
def Xvi:List AI:=[oM 26 3,oF 27 2 1,oL 28 27,oJ 29 28,oT 30 .lss 26 29]
def Xh8:List AI:=[oF 33 2 1,oL 34 33,oM 35 3,oX 36 4 34 35,oK 37 4 36,oQ 38 80 [37]]
def Ymb:List AI:=[oC 2 (.b true)]
def Wib:List AI:=[oM 31 3,oV 32 .add 31 1,oM 3 32]
def Xtw:List AI:=[oI 4 0]
def Xv7:List AI:=[oM 39 4,oF 40 3 1,oL 41 40,oJ 42 41,oT 43 .lss 39 42]
def Ysb:List AI:=[oF 46 3 1,oL 47 46,oM 48 4,oX 49 8 47 48,oF 50 3 49,oK 51 5 50,oQ 52 71 [51]]
def Xcv:List AI:=[oC 2 (.b true)]
def Ypl:List AI:=[oM 44 4,oV 45 .add 44 1,oM 4 45]
def Yum:List AI:=[oC 2 (.b false)]
abbrev Zc5:AC:=(.seq (sR 4 Xvi (.cond (.t 30) .skip (.exit 0))) (.seq (.block 1 (sR 6 Xh8 (.cond (.t 38) (sR 7 Ymb .ret) .skip))) (.reg 5 Wib)))
abbrev Ze6:AC:=(.seq (sR 9 Xv7 (.cond (.t 43) .skip (.exit 2))) (.seq (.block 3 (sR 11 Ysb (.cond (.t 52) (sR 12 Xcv .ret) .skip))) (.reg 10 Ypl)))
abbrev Ze7:AC:=(sR 13 Yum .ret)
abbrev Zgx:AC:=(.seq (sR 8 Xtw (.block 2 (.loop Ze6))) Ze7)
abbrev Zov:AC:=(.seq (sR 3 Wfp (.block 0 (.loop Zc5))) Zgx)
abbrev Ys9:AC:=(sR 0 Yfh (.seq (sR 1 Yko (.cond (.t 25) (sR 2 Zsl .ret) .skip)) Zov))
def Zdc:AF:={ nt:=53,res:=[.tmp 2],body:=Ys9 }
abbrev Ygk (PG:Za)(d:Nat)(Q:AE->Sl->St->Prop)(i3:Int)(m0:Zk):Prop:=
  ∀(σ:Sl)(st:St)(v0:Nat),σ 1=.p (d,0) v0 0->σ 3=.i .i64 i3->lk st.bx (d,0)=some (v0,Zk.cs m0)->W PG d (.loop Zc5) σ st (Ya 0 (Zs PG d Zgx Q))
abbrev Ybk (PG:Za)(d:Nat)(Q:AE->Sl->St->Prop)(i4:Int)(m0:Zk):Prop:=
  ∀(σ:Sl)(st:St)(v0:Nat),σ 1=.p (d,0) v0 0->σ 4=.i .i64 i4->lk st.bx (d,0)=some (v0,Zk.cs m0)->W PG d (.loop Ze6) σ st (Ya 2 (Zs PG d Ze7 Q))
def Ziv (PG:Za)(K:Bool->Prop) :Prop:=
  K false
def Zbh (PG:Za)(K:Bool->Prop)(P1:Int->Zk->Prop)(i4:Int)(m0:Zk):Prop:=
  (i4<(m0.defers.length:Int)->0<=i4/\∃e:Zq,m0.defers[(i4).toNat]?=some e/\∃c,Ze PG 71 [e.arg.av] (.b c)/\(c=true->K true)/\(c=false->P1 (IntKind.i64.wrap (i4+1)) m0))/\(¬(i4<(m0.defers.length:Int))->Ziv PG K )
def Zlm (PG:Za)(K:Bool->Prop)(m0:Zk):Prop:=
  ∀P1:Int->Zk->Prop,(∀(i4:Int)(m0:Zk),Zbh PG K P1 i4 m0->P1 i4 m0)->P1 0 m0
def Zfl (PG:Za)(K:Bool->Prop)(P0:Int->Zk->Prop)(i3:Int)(m0:Zk):Prop:=
  (i3<(m0.frames.length:Int)->0<=i3/\∃e:Zg,m0.frames[(i3).toNat]?=some e/\∃c,Ze PG 80 [e.av] (.b c)/\(c=true->K true)/\(c=false->P0 (IntKind.i64.wrap (i3+1)) m0))/\(¬(i3<(m0.frames.length:Int))->Zlm PG K m0)
def Zmg (PG:Za)(K:Bool->Prop)(m0:Zk):Prop:=
  ∀P0:Int->Zk->Prop,(∀(i3:Int)(m0:Zk),Zfl PG K P0 i3 m0->P0 i3 m0)->P0 0 m0
def Zkq (PG:Za)(K:Bool->Prop)(x0:Zk):Prop:=
  ((x0.frames.length:Int)>12->K true)/\(¬((x0.frames.length:Int)>12)->((x0.defers.length:Int)>12->K true)/\(¬((x0.defers.length:Int)>12)->((x0.panics.length:Int)>20->K true)/\(¬((x0.panics.length:Int)>20)->∃c,Ze PG 162 [.sl .ext (List.map Zh.row x0.panics)] (.b c)/\(c=true->K true)/\(c=false->Zmg PG K x0))))
section
variable {PG:Za}{d:Nat}{Q:AE->Sl->St->Prop}{K:Bool->Prop}(hQ:H1 AV.b 2 Q K){σ:Sl}{st:St}
include hQ
variable {i4:Int}{m0:Zk}{P1:Int->Zk->Prop}{v0:Nat}{i3:Int}{P0:Int->Zk->Prop}{x0:Zk}
variable (kP1 :∀(i4:Int)(m0:Zk),P1 i4 m0->Ybk PG d Q i4 m0) (kP0 :∀(i3:Int)(m0:Zk),P0 i3 m0->Ygk PG d Q i3 m0)(H0:σ 0=x0.av)(H1:σ 1=.p (d,0) v0 0)(H4:σ 4=.i .i64 i4)(H3:σ 3=.i .i64 i3)(B0:lk st.bx (d,0)=some (v0,Zk.cs m0))
theorem Xzl (h:Ziv PG K ):W PG d Ze7 σ st Q:=
 q_ J (m_ (Zp (hQ J h)))
include kP1 H1 H4 B0 in
theorem Xs3 (h:Zbh PG K P1 i4 m0):W PG d Ze6 σ st (Zs PG d (.loop Ze6) (Ya 2 (Zs PG d Ze7 Q))):=
 Zm (q_ J (m_ (f_ H1 (l_ J B0 J J (Xc J (b_ H4 J Wx (e_ (Yk J (fun c=>Yd (Zm (Yj (q_ J (f_ H1 (l_ J B0 J J (m_ ((h.1 c).2.elim fun k j=>Wz J H4 (h.1 c).1 j.1 (Zq.row_eq k) J (Kb J (Xp J J J (j.2.elim fun _ e=>Yg (Wm J J) e.1 (e_ (Xl J (fun i=>q_ J (m_ (Zp (hQ J (e.2.1 i))))) (fun i=>Yd (W.reg0 J fun _ _=>m_ (b_ H4 J Jf (m_ (e_ (kP1 _ _ (e.2.2 i) _ _ _ H1 J B0))))))))))))))))))) (fun c=>Vr (Xzl hQ (h.2 c)))))))))))
include H1 B0 in
theorem Yy8 (h:Zlm PG K m0):W PG d Zgx σ st Q:=
 Zm (q_ J (m_ (e_ (Yj (h (Ybk PG d Q ) (fun _ _ hb _ _ _ H1 H4 B0=>W.loop (Xs3 hQ (fun _ _ x=>x) H1 H4 B0 hb)) _ _ _ H1 J B0)))))
include kP0 H1 H3 B0 in
theorem Xpd (h:Zfl PG K P0 i3 m0):W PG d Zc5 σ st (Zs PG d (.loop Zc5) (Ya 0 (Zs PG d Zgx Q))):=
 Zm (q_ J (m_ (f_ H1 (l_ J B0 J J (Xc J (b_ H3 J Wx (e_ (Yk J (fun c=>Yd (Zm (Yj (q_ J (f_ H1 (l_ J B0 J J (m_ ((h.1 c).2.elim fun k j=>Wz J H3 (h.1 c).1 j.1 (Zg.row_eq k) J (Xp J J J (j.2.elim fun _ e=>Yg (Wm J J) e.1 (e_ (Xl J (fun i=>q_ J (m_ (Zp (hQ J (e.2.1 i))))) (fun i=>Yd (W.reg0 J fun _ _=>m_ (b_ H3 J Jf (m_ (e_ (kP0 _ _ (e.2.2 i) _ _ _ H1 J B0)))))))))))))))))) (fun c=>Vr (Yy8 hQ H1 B0 (h.2 c)))))))))))
include H1 B0 in
theorem Wby (h:Zmg PG K m0):W PG d Zov σ st Q:=
 Zm (q_ J (m_ (e_ (Yj (h (Ygk PG d Q ) (fun _ _ hb _ _ _ H1 H3 B0=>W.loop (Xpd hQ (fun _ _ x=>x) H1 H3 B0 hb)) _ _ _ H1 J B0)))))
include H0 in
theorem Xtv (h:Zkq PG K x0):W PG d (sR 0 Yfh (.seq (sR 1 Yko (.cond (.t 25) (sR 2 Zsl .ret) .skip)) Zov)) σ st Q:=
 q_ J (Vs H0 J (m_ (e_ (Zm (q_ J (f_ J (l_ J Zi J J (Xc J (b_ J J Vz (Yt J (Yq (g:=9) J (fun c=>z_ 16 J (e_ (Yr J (q_ J (m_ (Zp (hQ J (h.1 c)))))))) (fun c=>Zd J (f_ J (Zd J (l_ J Zi J J (Zd J (Xc J (Zd J (b_ J J Vz (z_ 2 J (Yq (g:=15) J (fun e=>z_ 10 J (e_ (Yr J (q_ J (m_ (Zp (hQ J ((h.2 c).1 e)))))))) (fun e=>Zd J (f_ J (Zd J (l_ J Zi J J (Zd J (Xc J (Zd J (b_ J J Vz (z_ 2 J (Yq (g:=21) J (fun j=>z_ 4 J (e_ (Yr J (q_ J (m_ (Zp (hQ J (((h.2 c).2 e).1 j)))))))) (fun j=>Zd J (f_ J (Zd J (l_ J Zi J J (Zd J ((((h.2 c).2 e).2 j).elim fun _ i=>Yg (Wm J J) i.1 (Vp J J (e_ (Xl J (fun k=>q_ J (m_ (Zp (hQ J (i.2.1 k))))) (fun k=>Yd (Wby hQ J Zi (i.2.2 k)))))))))))))))))))))))))))))))))))))))))))
end
theorem Wez {PG:Za}(hf:PG.fn 204=some Zdc){x0:Zk}{K:Bool->Prop}(h:Zkq PG K x0) :∃res0:Bool,K res0/\Ze PG 204 [x0.av] (.b res0):=
 P1 hf J (Xtv (h1 J fun _=>J) J h)
abbrev Yzy (Q:AE->Sl->St->Prop)(K:Bool->Prop):Prop:=∀(σ:Sl)(st:St)(res0:Bool),σ 12=.b res0->K res0->Q .ret σ st
section
variable {PG:Za}{d:Nat}{Q:AE->Sl->St->Prop}{K:Bool->Prop}(hQ:Yzy Q K){σ:Sl}{st:St}
include hQ
end
end Go.AM

/- Yf of the proof. -/
namespace Go.AM
open Go
def Zon:AF:={ nt:=8,res:=[.tmp 2],fz:=[],body:=
  (.seq (.reg 0 [⟨(some 2),.mv (.c (.i .i64 0)),none⟩])
  (.seq (.reg 1000001 [⟨(some 3),.mv (.t 0),none⟩,
    ⟨(some 4),.nilc (.t 3),none⟩,
    ⟨(some 5),.fad 1 (.t 4),none⟩,
    ⟨(some 6),.load 1 false (.t 5),none⟩,
    ⟨(some 7),.len false (.t 6),none⟩,
    ⟨(some 2),.mv (.t 7),none⟩])
  .ret)) }
end Go.AM

/- Yf of the proof. -/
namespace Go.AM
open Go
set_option linter.unusedVariables false
set_option linter.unusedSimpArgs false
set_option maxRecDepth 4000
set_option maxHeartbeats 1000000
set_option maxHeartbeats 2000000
attribute [local irreducible] Decidable.decide W WO Wq Ws
def Yh9:List AI:=[oC 4 (.b false)]
def Zxl:List AI:=[oM 5 0,oM 6 1,oQ 7 46 [5,6],oM 4 7]
abbrev Ytf:AC:=(sR 0 Yh9 (sR 1 Zxl .ret))
def Zbk:AF:={ nt:=8,res:=[.tmp 4],body:=Ytf }
def Zmy (PG:Za)(K:Bool->Prop)(s0:BS)(prefix1:BS):Prop:=
  ∃c,Ze PG 46 [.s s0,.s prefix1] (.b c)/\K c
section
variable {PG:Za}{d:Nat}{Q:AE->Sl->St->Prop}{K:Bool->Prop}(hQ:H1 AV.b 4 Q K){σ:Sl}{st:St}
include hQ
variable {s0 prefix1:BS}
variable (H0:σ 0=.s s0)(H1:σ 1=.s prefix1)
include H0 H1 in
theorem Xxx (h:Zmy PG K s0 prefix1):W PG d (sR 0 Yh9 (sR 1 Zxl .ret)) σ st Q:=
 q_ J (m_ (e_ (q_ J (m_ (m_ (h.elim fun _ c=>Yg (Vq H0 H1 J) c.1 (m_ (Zp (hQ J c.2)))))))))
end
theorem Yqe {PG:Za}(hf:PG.fn 306=some Zbk){s0:BS}{prefix1:BS}{K:Bool->Prop}(h:Zmy PG K s0 prefix1) :∃res0:Bool,K res0/\Ze PG 306 [.s s0,.s prefix1] (.b res0):=
 P1 hf J (Xxx (h1 J fun _=>J) J J h)
def Yi1:List AI:=[oC 4 (.s [])]
def Zw6:List AI:=[oM 5 0,oM 6 1,oQ 7 322 [5,6],oM 4 7]
abbrev Xrk:AC:=(sR 0 Yi1 (sR 1 Zw6 .ret))
def Ze4:AF:={ nt:=8,res:=[.tmp 4],body:=Xrk }
def Zqr (PG:Za)(K:BS->Prop)(s0:BS)(prefix1:BS):Prop:=
  ∃c,Ze PG 322 [.s s0,.s prefix1] (.s c)/\K c
section
variable {PG:Za}{d:Nat}{Q:AE->Sl->St->Prop}{K:BS->Prop}(hQ:H1 AV.s 4 Q K){σ:Sl}{st:St}
include hQ
variable {s0 prefix1:BS}
variable (H0:σ 0=.s s0)(H1:σ 1=.s prefix1)
include H0 H1 in
theorem Xla (h:Zqr PG K s0 prefix1):W PG d (sR 0 Yi1 (sR 1 Zw6 .ret)) σ st Q:=
 q_ J (m_ (e_ (q_ J (m_ (m_ (h.elim fun _ c=>Yg (Vq H0 H1 J) c.1 (m_ (Zp (hQ J c.2)))))))))
end
theorem Ywi {PG:Za}(hf:PG.fn 316=some Ze4){s0:BS}{prefix1:BS}{K:BS->Prop}(h:Zqr PG K s0 prefix1) :∃res0:BS,K res0/\Ze PG 316 [.s s0,.s prefix1] (.s res0):=
 P1 hf J (Xla (h1 J fun _=>J) J J h)
def Yd3:List AI:=[oC 4 (.s [])]
def Ztd:List AI:=[oM 5 0,oM 6 1,oQ 7 46 [5,6]]
def Zxy:List AI:=[oM 8 0,oM 9 1,oH 10 9,oO 11 (.slS (.t 8) (some (.t 10)) none),oM 4 11]
def Yin:List AI:=[oM 12 0,oM 4 12]
abbrev Xzh:AC:=(sR 0 Yd3 (.seq (sR 1 Ztd (.cond (.t 7) (sR 2 Zxy .ret) .skip)) (sR 3 Yin .ret)))
def Zfo:AF:={ nt:=13,res:=[.tmp 4],body:=Xzh }
def Zoh (PG:Za)(K:BS->Prop)(s0:BS)(prefix1:BS):Prop:=
  ∃c,Ze PG 46 [.s s0,.s prefix1] (.b c)/\(c=true->0<=(prefix1.length:Int)/\(prefix1.length:Int).toNat<=s0.length/\K (s0.drop (prefix1.length:Int).toNat))/\(c=false->K s0)
section
variable {PG:Za}{d:Nat}{Q:AE->Sl->St->Prop}{K:BS->Prop}(hQ:H1 AV.s 4 Q K){σ:Sl}{st:St}
include hQ
variable {s0 prefix1:BS}
variable (H0:σ 0=.s s0)(H1:σ 1=.s prefix1)
include H0 H1 in
theorem Xys (h:Zoh PG K s0 prefix1):W PG d (sR 0 Yd3 (.seq (sR 1 Ztd (.cond (.t 7) (sR 2 Zxy .ret) .skip)) (sR 3 Yin .ret))) σ st Q:=
 q_ J (m_ (e_ (Zm (q_ J (m_ (m_ (h.elim fun _ c=>Yg (Vq H0 H1 J) c.1 (e_ (Xl J (fun e=>q_ J (m_ (m_ (Hf H1 (Gu H0 J (c.2.1 e).1 (c.2.1 e).2.1 (m_ (Zp (hQ J (c.2.1 e).2.2)))))))) (fun e=>Yd (q_ J (m_ (m_ (Zp (hQ H0 (c.2.2 e))))))))))))))))
end
theorem Wa9 {PG:Za}(hf:PG.fn 322=some Zfo){s0:BS}{prefix1:BS}{K:BS->Prop}(h:Zoh PG K s0 prefix1) :∃res0:BS,K res0/\Ze PG 322 [.s s0,.s prefix1] (.s res0):=
 P1 hf J (Xys (h1 J fun _=>J) J J h)
def Zuv:List AI:=[oC 4 (.s []),oC 5 (.s []),oC 6 (.b false)]
def Yil:List AI:=[oM 7 0,oM 8 1,oQ 9 266 [7,8],oE 10 0 9,oE 11 1 9,oE 12 2 9,oM 4 10,oM 5 11,oM 6 12]
abbrev Xqi:AC:=(sR 0 Zuv (sR 1 Yil .ret))
def Al:AF:={ nt:=13,res:=[.tmp 4,.tmp 5,.tmp 6],body:=Xqi }
abbrev Yyj (Q:AE->Sl->St->Prop)(K:BS->BS->Bool->Prop):Prop:=∀(σ:Sl)(st:St)(res0:BS)(res1:BS)(res2:Bool),σ 4=.s res0->σ 5=.s res1->σ 6=.b res2->K res0 res1 res2->Q .ret σ st
def Zpc (PG:Za)(K:BS->BS->Bool->Prop)(s0:BS)(sep1:BS):Prop:=
  ∃e i c,Ze PG 266 [.s s0,.s sep1] (.tup [.s e,.s i,.b c])/\K e i c
section
variable {PG:Za}{d:Nat}{Q:AE->Sl->St->Prop}{K:BS->BS->Bool->Prop}(hQ:Yyj Q K){σ:Sl}{st:St}
include hQ
variable {s0 sep1:BS}
variable (H0:σ 0=.s s0)(H1:σ 1=.s sep1)
include H0 H1 in
theorem Xqs (h:Zpc PG K s0 sep1):W PG d (sR 0 Zuv (sR 1 Yil .ret)) σ st Q:=
 au trivial
end
theorem We4 {PG:Za}(hf:PG.fn 260=some Al){s0:BS}{sep1:BS}{K:BS->BS->Bool->Prop}(h:Zpc PG K s0 sep1) :∃res0:BS,∃res1:BS,∃res2:Bool,K res0 res1 res2/\Ze PG 260 [.s s0,.s sep1] (.tup [.s res0,.s res1,.b res2]):=by
  obtain ⟨v,hv,res0,res1,res2,hk,rfl⟩:=Ze.of (K:=fun v=>∃res0:BS,∃res1:BS,∃res2:Bool,K res0 res1 res2/\v=.tup [.s res0,.s res1,.b res2]) hf rfl (Xqs (σ:=Xz [.s s0,.s sep1]) (fun σ st   res0 res1 res2 H4 H5 H6 hk=>⟨.tup [.s res0,.s res1,.b res2],by simp only [Al,Xg,Vc,H4,H5,H6,Ki,Option.map_some],_,rfl,res0,res1,res2,hk,rfl⟩) rfl rfl h)
  exact ⟨res0,res1,res2,hk,hv⟩
def Ykh:List AI:=[oC 4 (.s []),oC 5 (.s []),oC 6 (.b false)]
def Yhh:List AI:=[oM 8 0,oM 9 1,oQ 10 197 [8,9],oM 7 10]
def Zzp:List AI:=[oM 11 7,oV 12 .geq 11 0]
def Yc9:List AI:=[oM 13 0,oM 14 7,oO 15 (.slS (.t 13) none (some (.t 14))),oM 16 0,oM 17 7,oM 18 1,oH 19 18,oT 20 .add 17 19,oO 21 (.slS (.t 16) (some (.t 20)) none),oM 4 15,oM 5 21,oC 6 (.b true)]
def Ztp:List AI:=[oM 22 0,oM 4 22,oC 5 (.s []),oC 6 (.b false)]
abbrev Xe4:AC:=(sR 0 Ykh (.seq (sR 1 Yhh (sR 2 Zzp (.cond (.t 12) (sR 3 Yc9 .ret) .skip))) (sR 4 Ztp .ret)))
def Zaj:AF:={ nt:=23,res:=[.tmp 4,.tmp 5,.tmp 6],body:=Xe4 }
abbrev We5 (Q:AE->Sl->St->Prop)(K:BS->BS->Bool->Prop):Prop:=∀(σ:Sl)(st:St)(res0:BS)(res1:BS)(res2:Bool),σ 4=.s res0->σ 5=.s res1->σ 6=.b res2->K res0 res1 res2->Q .ret σ st
def Znn (PG:Za)(K:BS->BS->Bool->Prop)(s0:BS)(sep1:BS):Prop:=
  ∃c,Ze PG 197 [.s s0,.s sep1] (.i .i64 c)/\(c>=0->0<=c/\(c).toNat<=s0.length/\0<=(IntKind.i64.wrap (c+(sep1.length:Int)))/\(IntKind.i64.wrap (c+(sep1.length:Int))).toNat<=s0.length/\K (s0.take (c).toNat) (s0.drop (IntKind.i64.wrap (c+(sep1.length:Int))).toNat) true)/\(¬(c>=0)->K s0 ([]:BS) false)
section
variable {PG:Za}{d:Nat}{Q:AE->Sl->St->Prop}{K:BS->BS->Bool->Prop}(hQ:We5 Q K){σ:Sl}{st:St}
include hQ
variable {s0 sep1:BS}
variable (H0:σ 0=.s s0)(H1:σ 1=.s sep1)
include H0 H1 in
theorem Xri (h:Znn PG K s0 sep1):W PG d (sR 0 Ykh (.seq (sR 1 Yhh (sR 2 Zzp (.cond (.t 12) (sR 3 Yc9 .ret) .skip))) (sR 4 Ztp .ret))) σ st Q:=
 au trivial
end
theorem Xlf {PG:Za}(hf:PG.fn 266=some Zaj){s0:BS}{sep1:BS}{K:BS->BS->Bool->Prop}(h:Znn PG K s0 sep1) :∃res0:BS,∃res1:BS,∃res2:Bool,K res0 res1 res2/\Ze PG 266 [.s s0,.s sep1] (.tup [.s res0,.s res1,.b res2]):=by
  obtain ⟨v,hv,res0,res1,res2,hk,rfl⟩:=Ze.of (K:=fun v=>∃res0:BS,∃res1:BS,∃res2:Bool,K res0 res1 res2/\v=.tup [.s res0,.s res1,.b res2]) hf rfl (Xri (σ:=Xz [.s s0,.s sep1]) (fun σ st   res0 res1 res2 H4 H5 H6 hk=>⟨.tup [.s res0,.s res1,.b res2],by simp only [Zaj,Xg,Vc,H4,H5,H6,Ki,Option.map_some],_,rfl,res0,res1,res2,hk,rfl⟩) rfl rfl h)
  exact ⟨res0,res1,res2,hk,hv⟩
def Zzj:List AI:=[oI 2 0,oC 3 (.b false)]
def Yf2:List AI:=[oM 7 0,oQ 8 21 [7],oM 6 8,oE 9 0 6,oE 10 1 6,oM 4 9,oM 5 10]
def Ybs:List AI:=[oM 11 4,oM 12 5,oV 13 .eql 12 0,oM 2 11,oM 3 13]
abbrev Xyk:AC:=(sR 0 Zzj (sR 1 Yf2 (sR 2 Ybs .ret)))
def Zda:AF:={ nt:=14,res:=[.tmp 2,.tmp 3],body:=Xyk }
def Zmn (PG:Za)(K:Int->Bool->Prop)(s0:BS):Prop:=
  ∃c e,Ze PG 21 [.s s0] (.tup [.i .i64 c,.i .i64 e])/\K c (decide (e=0))
section
variable {PG:Za}{d:Nat}{Q:AE->Sl->St->Prop}{K:Int->Bool->Prop}(hQ:H2 (AV.i .i64) AV.b 2 3 Q K){σ:Sl}{st:St}
include hQ
variable {s0:BS}
variable (H0:σ 0=.s s0)
include H0 in
theorem Wi5 (h:Zmn PG K s0):W PG d (sR 0 Zzj (sR 1 Yf2 (sR 2 Ybs .ret))) σ st Q:=
 q_ J (m_ (m_ (e_ (q_ J (m_ (x2 h fun _ _ c=>Yg (Wm H0 J) c.1 (m_ (x_ J J (x_ J J (m_ (m_ (e_ (q_ J (m_ (m_ (b_ J J Xk (m_ (m_ (Zp (hQ J J c.2))))))))))))))))))))
end
theorem Xd5 {PG:Za}(hf:PG.fn 317=some Zda){s0:BS}{K:Int->Bool->Prop}(h:Zmn PG K s0) :∃res0:Int,∃res1:Bool,K res0 res1/\Ze PG 317 [.s s0] (.tup [.i .i64 res0,.b res1]):=
 P2 hf J (Wi5 (h2 J fun _ _=>J) J h)
def Ye0:List AI:=[oO 2 (.alloc [z8,z6,zl,zl,zl]),oC 3 (.b false)]
def Ylj:List AI:=[oM 12 0,oO 13 (.call false 260 [(.t 12),(.c (.s [58,32]))]),oM 11 13,oE 14 0 11,oE 15 1 11,oE 16 2 11,oM 4 14,oM 5 15,oM 6 16]
def Yjk:List AI:=[oM 18 5,oO 19 (.call false 36 [(.t 18),(.c (.s [98,108,111,99,107,101,100,32]))]),oM 17 19,oE 20 0 17,oE 21 1 17,oM 7 20,oM 8 21]
def Yah:List AI:=[oM 23 6,oZ 24 23,oM 22 24]
def Yh3:List AI:=[oO 25 (.build [z8,z6,zl,zl,zl] []),oS 5 2 25,oC 3 (.b false)]
def Yg6:List AI:=[oM 27 8,oM 26 27]
def Zsp:List AI:=[oM 29 7,oQ 30 21 [29],oM 28 30,oE 31 0 28,oE 32 1 28,oM 9 31,oM 10 32]
def Yed:List AI:=[oM 33 9,oO 34 (.build [z8,z6,zl,zl,zl] [(0,1,(.c (.i .u8 2))),(1,1,(.t 33))]),oM 35 10,oV 36 .eql 35 0,oS 5 2 34,oM 3 36]
def Zsu:List AI:=[oM 38 5,oB 39 .eql (.t 38) (.c (.s [114,101,97,100,121])),oM 37 39]
def Ztq:List AI:=[oO 40 (.build [z8,z6,zl,zl,zl] [(0,1,(.c (.i .u8 1)))]),oS 5 2 40,oC 3 (.b true)]
def Zu9:List AI:=[oO 41 (.build [z8,z6,zl,zl,zl] [(0,1,(.c (.i .u8 3)))]),oM 42 5,oB 43 .eql (.t 42) (.c (.s [100,111,110,101])),oS 5 2 41,oM 3 43]
abbrev Xgn:AC:=(sR 0 Ye0 (sR 1 Ylj (sR 2 Yjk (.seq (.block 0 (sR 3 Yah (.cond (.t 22) (sR 4 Yh3 .ret) (sR 5 Yg6 (.cond (.t 26) (sR 6 Zsp (sR 7 Yed .ret)) (sR 8 Zsu (.cond (.t 37) (sR 9 Ztq .ret) .skip))))))) (sR 10 Zu9 .ret)))))
def Lc:AF:={ nt:=44,res:=[.cell 2 5 true,.tmp 3],body:=Xgn }
abbrev Xt4 (d:Nat)(Zj:St)(Q:AE->Sl->St->Prop)(K:Zk->Bool->Prop):Prop:=∀(σ:Sl)(st:St)(k0:Zo)(v0:Nat)(res0:Zk)(res1:Bool),σ 2=.p k0 v0 0->lk st.bx k0=some (v0,[.i .u8 res0.status,.i .i64 res0.key,.sl .full (List.map Zg.row res0.frames),.sl .full (List.map Zq.row res0.defers),.sl .full (List.map Zh.row res0.panics)])->σ 3=.b res1->Fr d (d,0) Zj.bx Zj.ow st.bx st.ow->K res0 res1->Q .ret σ st
def Znq (PG:Za)(K:Zk->Bool->Prop)(s0:BS):Prop:=
  ∃c e j,Ze PG 260 [.s s0,.s ([58,32]:BS)] (.tup [.s c,.s e,.b j])/\∃q k,Ze PG 36 [.s e,.s ([98,108,111,99,107,101,100,32]:BS)] (.tup [.s q,.b k])/\((!j)=true->K (Zk.mk 0 0 ([]:List Zg) ([]:List Zq) ([]:List Zh)) false)/\((!j)=false->(k=true->∃o p,Ze PG 21 [.s q] (.tup [.i .i64 o,.i .i64 p])/\K (Zk.mk 2 o ([]:List Zg) ([]:List Zq) ([]:List Zh)) (decide (p=0)))/\(k=false->(e=([114,101,97,100,121]:BS)->K (Zk.mk 1 0 ([]:List Zg) ([]:List Zq) ([]:List Zh)) true)/\(¬(e=([114,101,97,100,121]:BS))->K (Zk.mk 3 0 ([]:List Zg) ([]:List Zq) ([]:List Zh)) (decide (e=([100,111,110,101]:BS))))))
section
variable {PG:Za}{d:Nat}{Q:AE->Sl->St->Prop}{K:Zk->Bool->Prop}{Zj:St}(hQ:Xt4 d Zj Q K){σ:Sl}{st:St}
include hQ
variable {s0:BS}
variable (H0:σ 0=.s s0)(FR:Fr d (d,0) Zj.bx Zj.ow st.bx st.ow)
include H0 FR in
theorem Ytj (h:Znq PG K s0):W PG d (sR 0 Ye0 (sR 1 Ylj (sR 2 Yjk (.seq (.block 0 (sR 3 Yah (.cond (.t 22) (sR 4 Yh3 .ret) (sR 5 Yg6 (.cond (.t 26) (sR 6 Zsp (sR 7 Yed .ret)) (sR 8 Zsu (.cond (.t 37) (sR 9 Ztq .ret) .skip))))))) (sR 10 Zu9 .ret))))) σ st Q:=
 Zm (W.reg (Xs (m_ (e_ (q_ J (m_ (x2 h fun _ _ q=>q.elim fun _ p=>Yg (Vq H0 J J) p.1 (m_ (x_ J J (x_ J J (x_ J J (m_ (m_ (m_ (e_ (q_ J (m_ (x2 p.2 fun _ _ c=>Yg (Vq J J J) c.1 (m_ (x_ J J (x_ J J (m_ (m_ (e_ (Zm (Yj (q_ J (m_ (Xx J (m_ (e_ (Xl J (fun e=>q_ J (Xv Xn (Ye J (show lk _ (d,0)=some (_,([.i .u8 0,.i .i64 0,.sl .full (List.map Zg.row ([]:List Zg)),.sl .full (List.map Zq.row ([]:List Zq)),.sl .full (List.map Zh.row ([]:List Zh))]:List AV)) from Zi) J J J (m_ (Zp (hQ _ _ _ _ _ _ J Zi J (Fr.box (Fr.box FR)) (c.2.1 e))))))) (fun e=>q_ J (m_ (m_ (e_ (Xl J (fun j=>q_ J (m_ (x2 ((c.2.2 e).1 j) fun _ _ o=>Yg (Wm J J) o.1 (m_ (x_ J J (x_ J J (m_ (m_ (e_ (q_ J (m_ (Xv (Yl J J (Yl J J Xn)) (m_ (b_ J J Xk (Ye J (show lk _ (d,0)=some (_,([.i .u8 0,.i .i64 0,.sl .full (List.map Zg.row ([]:List Zg)),.sl .full (List.map Zq.row ([]:List Zq)),.sl .full (List.map Zh.row ([]:List Zh))]:List AV)) from Zi) J J J (m_ (Zp (hQ _ _ _ _ _ _ J Zi J (Fr.box (Fr.box FR)) o.2)))))))))))))))))) (fun j=>q_ J (m_ (b_ J J Ns (m_ (e_ (Yk J (fun k=>q_ J (Xv (Yl J J Xn) (Ye J (show lk _ (d,0)=some (_,([.i .u8 0,.i .i64 0,.sl .full (List.map Zg.row ([]:List Zg)),.sl .full (List.map Zq.row ([]:List Zq)),.sl .full (List.map Zh.row ([]:List Zh))]:List AV)) from Zi) J J J (m_ (Zp (hQ _ _ _ _ _ _ J Zi J (Fr.box (Fr.box FR)) (((c.2.2 e).2 j).1 k))))))) (fun k=>Yd (q_ J (Xv (Yl J J Xn) (m_ (b_ J J Ns (Ye J (show lk _ (d,0)=some (_,([.i .u8 0,.i .i64 0,.sl .full (List.map Zg.row ([]:List Zg)),.sl .full (List.map Zq.row ([]:List Zq)),.sl .full (List.map Zh.row ([]:List Zh))]:List AV)) from Zi) J J J (m_ (Zp (hQ _ _ _ _ _ _ J Zi J (Fr.box (Fr.box FR)) (((c.2.2 e).2 j).2 k)))))))))))))))))))))))))))))))))))))))))))))))))))))
end
theorem Xgc {PG:Za}(hf:PG.fn 308=some Lc){s0:BS}{K:Zk->Bool->Prop}(h:Znq PG K s0):Ym PG 308 [.s s0] (fun r=>∃res0:Zk,∃res1:Bool,(r=.tup [.ag [.i .u8 res0.status,.i .i64 res0.key,.sl .full (List.map Zg.row res0.frames),.sl .full (List.map Zq.row res0.defers),.sl .full (List.map Zh.row res0.panics)],.b res1])/\K res0 res1):=
  Ym.of hf rfl fun d st=>Ytj (Zj:=st) (Q:=fun e σ st'=>(e=.normal\/e=.ret)/\∃r,Xg σ st' Lc.res=some r/\_/\Fr d (d,0) st.bx st.ow st'.bx st'.ow) (fun σ st' k0 v0  res0 res1 H2 HB2 H3 hf hk=>⟨.inr rfl,.tup [.ag [.i .u8 res0.status,.i .i64 res0.key,.sl .full (List.map Zg.row res0.frames),.sl .full (List.map Zq.row res0.defers),.sl .full (List.map Zh.row res0.panics)],.b res1],by simp only [Lc,Xg,Vc,Jq (n:=5) H2 HB2 rfl,H3,Ks,Option.map_some,Jq (n:=5) H2 HB2 rfl,H3],⟨res0,res1,rfl,hk⟩,hf⟩) (σ:=Xz [.s s0]) rfl Fr.refl h
def Zwm:List AI:=[oY 2 3 0,oO 4 (.alloc [z6,z6,zb,z8,z6,zs,zl,zb]),oC 5 (.b false)]
def Wem:List AI:=[oO 6 (.alloc [z6,z6,zb,z8,z6,zs,zl,zb])]
def Xl5:List AI:=[oM 14 1,oO 15 (.call false 323 [(.t 14),(.c (.s [32])),(.c (.i .i64 4))]),oM 7 15]
def Xre:List AI:=[oM 16 7,oJ 17 16,oV 18 .lss 17 4]
def Waf:List AI:=[oK 19 8 6,oS 8 4 19,oC 5 (.b false)]
def Xh1:List AI:=[oC 8 (.b false),oC 9 (.b false)]
def Wgq:List AI:=[oM 21 7,oO 22 (.iaL 1 (.t 21) (.c (.i .i64 1))),oL 23 22,oQ 24 317 [23],oM 20 24,oE 25 0 20,oE 26 1 20,oF 27 0 6,oS 1 27 25,oM 8 26]
def Ynv:List AI:=[oM 29 7,oO 30 (.iaL 1 (.t 29) (.c (.i .i64 2))),oL 31 30,oQ 32 317 [31],oM 28 32,oE 33 0 28,oE 34 1 28,oF 35 1 6,oS 1 35 33,oM 9 34]
def Xx8:List AI:=[oM 36 8,oZ 37 36,oM 38 37,gF 38 (oM 39 9),gF 38 (oZ 40 39),oR 41 38 40,oM 42 41,gF 42 (oF 43 1 6),gF 42 (oL 44 43),gF 42 (oV 45 .lss 44 0),oR 46 42 45,oM 47 46,gF 47 (oF 48 1 6),gF 47 (oL 49 48),gF 47 (oF 50 2 2),gF 47 (oL 51 50),gF 47 (oJ 52 51),gF 47 (oT 53 .geq 49 52),oR 54 47 53]
def Yyi:List AI:=[oK 55 8 6,oS 8 4 55,oC 5 (.b false)]
def Xty:List AI:=[oF 57 2 2,oL 58 57,oF 59 1 6,oL 60 59,oX 61 7 58 60,oF 62 0 61,oL 63 62,oQ 64 11 [63],oM 56 64,oE 65 0 56,oE 66 1 56,oM 10 65,oM 11 66]
def Xkd:List AI:=[oM 68 7,oO 69 (.iaL 1 (.t 68) (.c (.i .i64 3))),oL 70 69,oM 71 10,oQ 72 36 [70,71],oM 67 72,oE 73 0 67,oE 74 1 67,oM 12 73,oM 8 74]
def Wg3:List AI:=[oM 75 11,oV 76 .neq 75 0,oM 77 76,gF 77 (oM 78 8),gF 77 (oZ 79 78),oR 80 77 79]
def Yuo:List AI:=[oK 81 8 6,oS 8 4 81,oC 5 (.b false)]
def Xzb:List AI:=[oM 82 12,oB 83 .eql (.t 82) (.c (.s []))]
def Ypv:List AI:=[oK 84 8 6,oS 8 4 84,oC 5 (.b true)]
def Xq8:List AI:=[oM 86 12,oO 87 (.call false 316 [(.t 86),(.c (.s [32,119,105,116,104,32]))]),oQ 88 74 [87],oM 85 88,oE 89 0 85,oE 90 1 85,oO 13 (.alloc [z8,z6,zs,zl,zb]),oS 5 13 89,oM 11 90]
def Xg5:List AI:=[oO 91 (.ldf 5 true (.t 13)),oF 92 2 6,⟨none,.store 1 (.t 92) (.c (.b true)),none⟩,oF 93 3 6,oS 5 93 91]
def Xcz:List AI:=[oK 94 8 6,oM 95 11,oV 96 .eql 95 0,oS 8 4 94,oM 5 96]
abbrev Yhm:AC:=(.seq (sR 14 Xzb (.cond (.t 83) (sR 15 Ypv .ret) .skip)) (.seq (sR 16 Xq8 (.frz 13)) (sR 17 Xg5 (sR 18 Xcz .ret))))
abbrev Ybl:AC:=(sR 10 Xty (sR 11 Xkd (.seq (sR 12 Wg3 (.cond (.t 80) (sR 13 Yuo .ret) .skip)) Yhm)))
abbrev Ztj:AC:=(.seq (sR 8 Xx8 (.cond (.t 54) (sR 9 Yyi .ret) .skip)) Ybl)
abbrev Ylq:AC:=(sR 7 Ynv Ztj)
abbrev Zvp:AC:=(sR 6 Wgq Ylq)
abbrev Ygd:AC:=(sR 5 Xh1 Zvp)
abbrev Zyu:AC:=(.seq (sR 3 Xre (.cond (.t 18) (sR 4 Waf .ret) .skip)) Ygd)
abbrev Ybm:AC:=(sR 2 Xl5 Zyu)
abbrev Zqs:AC:=(sR 1 Wem Ybm)
abbrev Wf1:AC:=(sR 0 Zwm Zqs)
def Ae:AF:={ nt:=97,res:=[.cell 4 8 true,.tmp 5],fz:=[13],body:=Wf1 }
abbrev Xmz (Q:AE->Sl->St->Prop)(K:Zq->Bool->Prop):Prop:=∀(σ:Sl)(st:St)(k0:Zo)(v0:Nat)(o0_0:Zl)(res0:Zq)(res1:Bool),σ 4=.p k0 v0 0->lk st.bx k0=some (v0,[.i .i64 res0.frame,.i .i64 res0.func,.b res0.hasArg,.i .u8 res0.arg.kind,.i .i64 res0.arg.int,.s res0.arg.text,.sl o0_0 (List.map Zb.row res0.arg.list),.b res0.arg.cut])->σ 5=.b res1->K res0 res1->Q .ret σ st
def Zi8 (PG:Za)(K:Zq->Bool->Prop)(rest12:BS)(m1:Zq)(m4096:Zq):Prop:=
  (rest12=([]:BS)->K m4096 true)/\(¬(rest12=([]:BS))->∃e,Ze PG 316 [.s rest12,.s ([32,119,105,116,104,32]:BS)] (.s e)/\∃c:Zb,∃j,Ze PG 74 [.s e] (.tup [c.av,.i .i64 j])/\K (Zq.mk m4096.frame m4096.func true c) (decide (j=0)))
def Zk6 (PG:Za)(K:Zq->Bool->Prop)(w7:LB)(m0:Zf)(m1:Zq)(m4096:Zq):Prop:=
  0<=m4096.func/\∃k:Yb,m0.funcs[(m4096.func).toNat]?=some k/\∃j c,Ze PG 11 [.s k.name] (.tup [.s j,.i .i64 c])/\∃p,w7[3]?=some p/\∃o e,Ze PG 36 [.s p,.s j] (.tup [.s o,.b e])/\(c≠0->K m4096 false)/\(¬(c≠0)->((!e)=true->K m4096 false)/\((!e)=false->Zi8 PG K o m1 m4096))
def Zre (PG:Za)(K:Zq->Bool->Prop)(w7:LB)(ok8:Bool)(is9:Bool)(m0:Zf)(m1:Zq)(m4096:Zq):Prop:=
  ((!ok8)=true->K m4096 false)/\((!ok8)=false->((!is9)=true->K m4096 false)/\((!is9)=false->(m4096.func<0->K m4096 false)/\(¬(m4096.func<0)->(m4096.func>=(m0.funcs.length:Int)->K m4096 false)/\(¬(m4096.func>=(m0.funcs.length:Int))->Zk6 PG K w7 m0 m1 m4096))))
def Zms (PG:Za)(K:Zq->Bool->Prop)(w7:LB)(ok8:Bool)(m0:Zf)(m1:Zq)(m4096:Zq):Prop:=
  ∃e,w7[2]?=some e/\∃c j,Ze PG 317 [.s e] (.tup [.i .i64 c,.b j])/\Zre PG K w7 ok8 j m0 m1 (Zq.mk m4096.frame c m4096.hasArg m4096.arg)
def Zn6 (PG:Za)(K:Zq->Bool->Prop)(w7:LB)(m0:Zf)(m1:Zq)(m4096:Zq):Prop:=
  ∃e,w7[1]?=some e/\∃c j,Ze PG 317 [.s e] (.tup [.i .i64 c,.b j])/\Zms PG K w7 j m0 m1 (Zq.mk c m4096.func m4096.hasArg m4096.arg)
def Zp3 (PG:Za)(K:Zq->Bool->Prop)(w7:LB)(m0:Zf)(m1:Zq)(m4096:Zq):Prop:=
  Zn6 PG K w7 m0 m1 m4096
def Zkb (PG:Za)(K:Zq->Bool->Prop)(w7:LB)(m0:Zf)(m1:Zq)(m4096:Zq):Prop:=
  ((w7.length:Int)<4->K m4096 false)/\(¬((w7.length:Int)<4)->Zp3 PG K w7 m0 m1 m4096)
def Zl6 (PG:Za)(K:Zq->Bool->Prop)(s1:BS)(m0:Zf)(m1:Zq)(m4096:Zq):Prop:=
  ∃c,Ze PG 323 [.s s1,.s ([32]:BS),.i .i64 4] (.sl .ext (List.map Zv c))/\Zkb PG K c m0 m1 m4096
def Zoe (PG:Za)(K:Zq->Bool->Prop)(s1:BS)(m0:Zf)(m1:Zq):Prop:=
  Zl6 PG K s1 m0 m1 (Zq.mk 0 0 false (Zb.mk 0 0 [] ([]:List Zb) false))
def Zln (PG:Za)(K:Zq->Bool->Prop)(m0:Zf)(s1:BS):Prop:=
  Zoe PG K s1 m0 (Zq.mk 0 0 false (Zb.mk 0 0 [] ([]:List Zb) false))
section
variable {PG:Za}{d:Nat}{Q:AE->Sl->St->Prop}{K:Zq->Bool->Prop}(hQ:Xmz Q K){σ:Sl}{st:St}
include hQ
variable {rest12:BS}{m1 m4096:Zq}{o_m1_6 o_m4096_6:Zl}{v1 v4096:Nat}{w7:LB}{m0:Zf}{o_w7:Zl}{v0:Nat}{ok8 is9:Bool}{s1:BS}
variable (H0:σ 0=m0.av)(H1:σ 1=.s s1)(H2:σ 2=.p (d,0) v0 0)(H4:σ 4=.p (d,1) v1 0)(H6:σ 6=.p (d,4096) v4096 0)(H12:σ 12=.s rest12)(H7:σ 7=.sl o_w7 (List.map Zv w7))(H8:σ 8=.b ok8)(H9:σ 9=.b is9)(Ab4096:Xe d st.ow o_m4096_6 m4096.arg.list.length)(B0:lk st.bx (d,0)=some (v0,Zf.cs m0))(B1:lk st.bx (d,1)=some (v1,[.i .i64 m1.frame,.i .i64 m1.func,.b m1.hasArg,.i .u8 m1.arg.kind,.i .i64 m1.arg.int,.s m1.arg.text,.sl o_m1_6 (List.map Zb.row m1.arg.list),.b m1.arg.cut]))(B4096:lk st.bx (d,4096)=some (v4096,[.i .i64 m4096.frame,.i .i64 m4096.func,.b m4096.hasArg,.i .u8 m4096.arg.kind,.i .i64 m4096.arg.int,.s m4096.arg.text,.sl o_m4096_6 (List.map Zb.row m4096.arg.list),.b m4096.arg.cut]))
include H4 H6 H12 Ab4096 B1 B4096 in
theorem Yxw (h:Zi8 PG K rest12 m1 m4096):W PG d Yhm σ st Q:=
 Zm (q_ J (m_ (b_ H12 J Ns (e_ (Yk J (fun c=>q_ J (l_ H6 B4096 J J (Ye H4 B1 J J J (m_ (Zp (hQ _ _ _ _ _ _ _ H4 Zi J (h.1 c))))))) (fun c=>Yd (Zm (Zm (W.reg (m_ ((h.2 c).elim fun _ e=>Yg (Vq H12 J J) e.1 (x2 e.2 fun _ _ j=>Yg (Wm J J) j.1 (m_ (x_ J J (x_ J J (Xs (Ye J (show lk _ (d,65542)=some (_,([.i .u8 0,.i .i64 0,.s [],.sl .full (List.map Zb.row ([]:List Zb)),.b false]:List AV)) from Zi) J J J (m_ (e_ (W.frz J Zi J (q_ J (Lz J J J (f_ H6 (Ye J (Iq J (Zt J (Zt J B4096))) J J J (f_ H6 (Ye J Zi J J J (e_ (q_ J (l_ H6 Zi J J (m_ (b_ J J Xk (Ye H4 (Zt J (Zt J (Iq J (Zt J (Zt J B1))))) J J J (m_ (Zp (hQ _ _ _ _ _ _ _ H4 Zi J j.2)))))))))))))))))))))))))))))))))))
include H2 H4 H6 H7 Ab4096 B0 B1 B4096 in
theorem Xee (h:Zk6 PG K w7 m0 m1 m4096):W PG d Ybl σ st Q:=
 q_ J (f_ H2 (l_ J B0 J J (f_ H6 (l_ J B4096 J J (h.2.elim fun p j=>Wz J J h.1 j.1 (Yb.row_eq p) J (Kb J (Xp J J J (x2 j.2 fun _ _ k=>Yg (Wm J J) k.1 (m_ (x_ J J (x_ J J (m_ (m_ (e_ (q_ J (Yi H7 (k.2.elim fun _ o=>Wz J J (by decide) o.1 J J (Xp J J J (m_ (x2 o.2 fun _ _ c=>Yg (Vq J J J) c.1 (m_ (x_ J J (x_ J J (m_ (m_ (e_ (Zm (q_ J (Xh J (b_ J J Vd (Yt J (Yq (g:=77) J (fun e=>z_ 3 J (e_ (Yr J (q_ J (l_ H6 B4096 J J (Ye H4 B1 J J J (m_ (Zp (hQ _ _ _ _ _ _ _ H4 Zi J (c.2.1 e)))))))))) (fun e=>Zd J (Yt J (Zd J (Xx J (Vp J J (e_ (Xl J (fun i=>q_ J (l_ H6 B4096 J J (Ye H4 B1 J J J (m_ (Zp (hQ _ _ _ _ _ _ _ H4 Zi J ((c.2.2 e).1 i))))))) (fun i=>Yd (Yxw hQ H4 H6 J Ab4096 B1 B4096 ((c.2.2 e).2 i))))))))))))))))))))))))))))))))))))))))))
include H2 H4 H6 H7 H8 H9 Ab4096 B0 B1 B4096 in
theorem Wh7 (h:Zre PG K w7 ok8 is9 m0 m1 m4096):W PG d Ztj σ st Q:=
 Zm (q_ J (Yt H8 (Xx J (Yt J (Qf (g:=38) J (fun c=>z_ 16 J (e_ (Yr J (q_ J (l_ H6 B4096 J J (Ye H4 B1 J J J (m_ (Zp (hQ _ _ _ _ _ _ _ H4 Zi J (h.1 c)))))))))) (fun c=>Zd J (Yt H9 (Zd J (Xx J (z_ 2 J (Qf (g:=42) J (fun e=>z_ 12 J (e_ (Yr J (q_ J (l_ H6 B4096 J J (Ye H4 B1 J J J (m_ (Zp (hQ _ _ _ _ _ _ _ H4 Zi J ((h.2 c).1 e)))))))))) (fun e=>Zd J (f_ H6 (Zd J (l_ J B4096 J J (Zd J (b_ J J Wx (z_ 2 J (Yq (g:=47) J (fun i=>z_ 7 J (e_ (Yr J (q_ J (l_ H6 B4096 J J (Ye H4 B1 J J J (m_ (Zp (hQ _ _ _ _ _ _ _ H4 Zi J (((h.2 c).2 e).1 i)))))))))) (fun i=>Zd J (f_ H6 (Zd J (l_ J B4096 J J (Zd J (f_ H2 (Zd J (l_ J B0 J J (Zd J (Xc J (Zd J (b_ J J Gb (Vp J J (e_ (Yk J (fun j=>q_ J (l_ H6 B4096 J J (Ye H4 B1 J J J (m_ (Zp (hQ _ _ _ _ _ _ _ H4 Zi J ((((h.2 c).2 e).2 i).1 j))))))) (fun j=>Yd (Xee hQ H2 H4 H6 H7 Ab4096 B0 B1 B4096 ((((h.2 c).2 e).2 i).2 j)))))))))))))))))))))))))))))))))))))
include H2 H4 H6 H7 H8 Ab4096 B0 B1 B4096 in
theorem Whn (h:Zms PG K w7 ok8 m0 m1 m4096):W PG d Ylq σ st Q:=
 q_ J (Yi H7 (h.elim fun _ c=>Wz J J (by decide) c.1 J J (Xp J J J (x2 c.2 fun i _ e=>Yg (Wm J J) e.1 (m_ (x_ J J (x_ J J (f_ H6 (Ye J B4096 J J J (m_ (e_ (Wh7 (m4096:=(Zq.mk m4096.frame i m4096.hasArg m4096.arg)) hQ H2 H4 H6 H7 H8 J Ab4096 (Zt J B0) (Zt J B1) Zi e.2))))))))))))
include H2 H4 H6 H7 Ab4096 B0 B1 B4096 in
theorem Xat (h:Zn6 PG K w7 m0 m1 m4096):W PG d Zvp σ st Q:=
 q_ J (Yi H7 (h.elim fun _ c=>Wz J J (by decide) c.1 J J (Xp J J J (x2 c.2 fun i _ e=>Yg (Wm J J) e.1 (m_ (x_ J J (x_ J J (f_ H6 (Ye J B4096 J J J (m_ (e_ (Whn (m4096:=(Zq.mk i m4096.func m4096.hasArg m4096.arg)) hQ H2 H4 H6 H7 J Ab4096 (Zt J B0) (Zt J B1) Zi e.2))))))))))))
include H2 H4 H6 H7 Ab4096 B0 B1 B4096 in
theorem Wh4 (h:Zp3 PG K w7 m0 m1 m4096):W PG d Ygd σ st Q:=
 q_ J (m_ (m_ (e_ (Xat hQ H2 H4 H6 H7 Ab4096 B0 B1 B4096 h))))
include H2 H4 H6 H7 Ab4096 B0 B1 B4096 in
theorem Wcr (h:Zkb PG K w7 m0 m1 m4096):W PG d Zyu σ st Q:=
 Zm (q_ J (Yi H7 (Xc J (b_ J J Wx (e_ (Yk J (fun c=>q_ J (l_ H6 B4096 J J (Ye H4 B1 J J J (m_ (Zp (hQ _ _ _ _ _ _ _ H4 Zi J (h.1 c))))))) (fun c=>Yd (Wh4 hQ H2 H4 H6 H7 Ab4096 B0 B1 B4096 (h.2 c)))))))))
include H1 H2 H4 H6 Ab4096 B0 B1 B4096 in
theorem Yzi (h:Zl6 PG K s1 m0 m1 m4096):W PG d Ybm σ st Q:=
 q_ J (m_ (h.elim fun _ c=>Yg (sc3 H1 J J J) c.1 (Yi J (e_ (Wcr hQ H2 H4 H6 J Ab4096 B0 B1 B4096 c.2)))))
include H1 H2 H4 B0 B1 in
theorem Ymh (h:Zoe PG K s1 m0 m1):W PG d Zqs σ st Q:=
 Zm (W.reg (Xs (e_ (Yzi (m4096:=(Zq.mk 0 0 false (Zb.mk 0 0 [] ([]:List Zb) false))) hQ H1 H2 H4 J Xe.full (Zt J B0) (Zt J B1) (show lk _ (d,4096)=some (_,([.i .i64 0,.i .i64 0,.b false,.i .u8 0,.i .i64 0,.s [],.sl .full (List.map Zb.row ([]:List Zb)),.b false]:List AV)) from Zi) h))))
include H0 H1 in
theorem Xlb (h:Zln PG K m0 s1):W PG d (sR 0 Zwm Zqs) σ st Q:=
 Zm (W.reg (Vs H0 J (Xs (m_ (e_ (Ymh (m1:=(Zq.mk 0 0 false (Zb.mk 0 0 [] ([]:List Zb) false))) hQ H1 J J Zi (Zt J (show lk _ (d,1)=some (_,([.i .i64 0,.i .i64 0,.b false,.i .u8 0,.i .i64 0,.s [],.sl .full (List.map Zb.row ([]:List Zb)),.b false]:List AV)) from Zi)) h))))))
end
theorem Wbj {PG:Za}(hf:PG.fn 318=some Ae){m0:Zf}{s1:BS}{K:Zq->Bool->Prop}(h:Zln PG K m0 s1) :∃res0:Zq,∃res1:Bool,K res0 res1/\Ze PG 318 [m0.av,.s s1] (.tup [res0.av,.b res1]):=by
  obtain ⟨v,hv,res0,res1,hk,rfl⟩:=Ze.of (K:=fun v=>∃res0:Zq,∃res1:Bool,K res0 res1/\v=.tup [res0.av,.b res1]) hf rfl (Xlb (σ:=Xz [m0.av,.s s1]) (fun σ st k0 v0 o0_0 res0 res1 H4 HB4 H5 hk=>⟨.tup [res0.avo o0_0,.b res1],by simp only [Ae,Xg,Vc,Jq (n:=8) H4 HB4 rfl,H5,Ks,Option.map_some],_,rfl,res0,res1,hk,rfl⟩) rfl rfl h)
  exact ⟨res0,res1,hk,hv⟩
end Go.AM

/- Yf of the proof. -/
namespace Go.AM
open Go
set_option linter.unusedVariables false
set_option linter.unusedSimpArgs false
set_option maxRecDepth 4000
set_option maxHeartbeats 1000000
attribute [local irreducible] WO Wq Ws
def Yc1:List AI:=[oY 2 4 0,oY 3 4 1,oC 4 (.b false)]
def Yg0:List AI:=[oF 6 0 2,oL 7 6,oF 8 0 3,oL 9 8,oT 10 .neq 7 9,oM 11 10,gF 11 (oF 12 1 2),gF 11 (oL 13 12),gF 11 (oF 14 1 3),gF 11 (oL 15 14),gF 11 (oT 16 .neq 13 15),oR 17 11 16,oM 18 17,gF 18 (oF 19 2 2),gF 18 (oL 20 19),gF 18 (oF 21 2 3),gF 18 (oL 22 21),gF 18 (oT 23 .neq 20 22),oR 24 18 23,oM 25 24,gF 25 (oF 26 3 2),gF 25 (oL 27 26),gF 25 (oJ 28 27),gF 25 (oF 29 3 3),gF 25 (oL 30 29),gF 25 (oJ 31 30),gF 25 (oT 32 .neq 28 31),oR 33 25 32]
def Zxk:List AI:=[oC 4 (.b false)]
def Xtq:List AI:=[oI 5 0]
def Yyy:List AI:=[oM 34 5,oF 35 3 2,oL 36 35,oJ 37 36,oT 38 .lss 34 37]
def Xbl:List AI:=[oF 41 3 2,oL 42 41,oM 43 5,oX 44 5 42 43,oK 45 5 44,oF 46 3 3,oL 47 46,oM 48 5,oX 49 5 47 48,oK 50 5 49,oQ 51 314 [45,50],oZ 52 51]
def Yo3:List AI:=[oC 4 (.b false)]
def Xrn:List AI:=[oM 39 5,oV 40 .add 39 1,oM 5 40]
def Wg6:List AI:=[oC 4 (.b true)]
abbrev Zh0:AC:=(.seq (sR 4 Yyy (.cond (.t 38) .skip (.exit 0))) (.seq (.block 1 (sR 6 Xbl (.cond (.t 52) (sR 7 Yo3 .ret) .skip))) (.reg 5 Xrn)))
abbrev Zci:AC:=(sR 8 Wg6 .ret)
abbrev Zhi:AC:=(.seq (sR 3 Xtq (.block 0 (.loop Zh0))) Zci)
abbrev Ynb:AC:=(sR 0 Yc1 (.seq (sR 1 Yg0 (.cond (.t 33) (sR 2 Zxk .ret) .skip)) Zhi))
def Oa:AF:={ nt:=53,res:=[.tmp 4],body:=Ynb }
abbrev Yk6 (PG:Za)(d:Nat)(Q:AE->Sl->St->Prop)(i5:Int)(m0:Zu)(m1:Zu):Prop:=
  ∀(σ:Sl)(st:St) (v0 v1:Nat),σ 2=.p (d,0) v0 0->σ 3=.p (d,1) v1 0->σ 5=.i .i64 i5->lk st.bx (d,0)=some (v0,Zu.cs m0)->lk st.bx (d,1)=some (v1,Zu.cs m1)->W PG d (.loop Zh0) σ st (Ya 0 (Zs PG d Zci Q))
def Zoc (PG:Za)(K:Bool->Prop) :Prop:=
  K true
def Ze1 (PG:Za)(K:Bool->Prop)(P0:Int->Zu->Zu->Prop)(i5:Int)(m0:Zu)(m1:Zu):Prop:=
  (i5<(m0.routines.length:Int)->0<=i5/\∃e:Zk,m0.routines[(i5).toNat]?=some e/\0<=i5/\∃i:Zk,m1.routines[(i5).toNat]?=some i/\∃c,Ze PG 314 [e.av,i.av] (.b c)/\((!c)=true->K false)/\((!c)=false->P0 (IntKind.i64.wrap (i5+1)) m0 m1))/\(¬(i5<(m0.routines.length:Int))->Zoc PG K )
def Zl5 (PG:Za)(K:Bool->Prop)(m0:Zu)(m1:Zu):Prop:=
  ∀P0:Int->Zu->Zu->Prop,(∀(i5:Int)(m0:Zu)(m1:Zu),Ze1 PG K P0 i5 m0 m1->P0 i5 m0 m1)->P0 0 m0 m1
def Ziu (PG:Za)(K:Bool->Prop)(a0:Zu)(b1:Zu):Prop:=
  (a0.outcome≠b1.outcome->K false)/\(¬(a0.outcome≠b1.outcome)->(a0.failing≠b1.failing->K false)/\(¬(a0.failing≠b1.failing)->(a0.steps≠b1.steps->K false)/\(¬(a0.steps≠b1.steps)->((a0.routines.length:Int)≠(b1.routines.length:Int)->K false)/\(¬((a0.routines.length:Int)≠(b1.routines.length:Int))->Zl5 PG K a0 b1))))
section
variable {PG:Za}{d:Nat}{Q:AE->Sl->St->Prop}{K:Bool->Prop}(hQ:H1 AV.b 4 Q K){σ:Sl}{st:St}
include hQ
variable {i5:Int}{m0 m1:Zu}{P0:Int->Zu->Zu->Prop}{v0 v1:Nat}{a0 b1:Zu}
variable (kP0 :∀(i5:Int)(m0:Zu)(m1:Zu),P0 i5 m0 m1->Yk6 PG d Q i5 m0 m1)(H0:σ 0=a0.av)(H2:σ 2=.p (d,0) v0 0)(H1:σ 1=b1.av)(H3:σ 3=.p (d,1) v1 0)(H5:σ 5=.i .i64 i5)(B0:lk st.bx (d,0)=some (v0,Zu.cs m0))(B1:lk st.bx (d,1)=some (v1,Zu.cs m1))
theorem Yx9 (h:Zoc PG K ):W PG d Zci σ st Q:=
 q_ J (m_ (Zp (hQ J h)))
include kP0 H2 H3 H5 B0 B1 in
theorem Ywe (h:Ze1 PG K P0 i5 m0 m1):W PG d Zh0 σ st (Zs PG d (.loop Zh0) (Ya 0 (Zs PG d Zci Q))):=
 Zm (q_ J (m_ (f_ H2 (l_ J B0 J J (Xc J (b_ H5 J Wx (e_ (Yk J (fun c=>Yd (Zm (Yj (q_ J (f_ H2 (l_ J B0 J J (m_ ((h.1 c).2.elim fun o e=>Wz J H5 (h.1 c).1 e.1 (Zk.row_eq o) J (Xp J J J (f_ H3 (l_ J B1 J J (m_ (e.2.2.elim fun p k=>Wz J H5 e.2.1 k.1 (Zk.row_eq p) J (Xp J J J (k.2.elim fun _ i=>Yg (Vq J J J) i.1 (Xx J (e_ (Xl J (fun j=>q_ J (m_ (Zp (hQ J (i.2.1 j))))) (fun j=>Yd (W.reg0 J fun _ _=>m_ (b_ H5 J Jf (m_ (e_ (kP0 _ _ _ (i.2.2 j) _ _ _ _ H2 H3 J B0 B1)))))))))))))))))))))))) (fun c=>Vr (Yx9 hQ (h.2 c)))))))))))
include H2 H3 B0 B1 in
theorem Xsl (h:Zl5 PG K m0 m1):W PG d Zhi σ st Q:=
 Zm (q_ J (m_ (e_ (Yj (h (Yk6 PG d Q ) (fun _ _ _ hb _ _ _ _ H2 H3 H5 B0 B1=>W.loop (Ywe hQ (fun _ _ _ x=>x) H2 H3 H5 B0 B1 hb)) _ _ _ _ H2 H3 J B0 B1)))))
include H0 H1 in
theorem Yzf (h:Ziu PG K a0 b1):W PG d (sR 0 Yc1 (.seq (sR 1 Yg0 (.cond (.t 33) (sR 2 Zxk .ret) .skip)) Zhi)) σ st Q:=
 q_ J (Vs H0 J (Vs H1 J (m_ (e_ (Zm (q_ J (f_ J (l_ J (Zt J Zi) J J (f_ J (l_ J Zi J J (b_ J J Vd (Yt J (Yq (g:=11) J (fun c=>z_ 22 J (e_ (Yr J (q_ J (m_ (Zp (hQ J (h.1 c)))))))) (fun c=>Zd J (f_ J (Zd J (l_ J (Zt J Zi) J J (Zd J (f_ J (Zd J (l_ J Zi J J (Zd J (b_ J J Vd (z_ 2 J (Yq (g:=18) J (fun e=>z_ 15 J (e_ (Yr J (q_ J (m_ (Zp (hQ J ((h.2 c).1 e)))))))) (fun e=>Zd J (f_ J (Zd J (l_ J (Zt J Zi) J J (Zd J (f_ J (Zd J (l_ J Zi J J (Zd J (b_ J J Vd (z_ 2 J (Yq (g:=25) J (fun i=>z_ 8 J (e_ (Yr J (q_ J (m_ (Zp (hQ J (((h.2 c).2 e).1 i)))))))) (fun i=>Zd J (f_ J (Zd J (l_ J (Zt J Zi) J J (Zd J (Xc J (Zd J (f_ J (Zd J (l_ J Zi J J (Zd J (Xc J (Zd J (b_ J J Vd (Vp J J (e_ (Yk J (fun j=>q_ J (m_ (Zp (hQ J ((((h.2 c).2 e).2 i).1 j))))) (fun j=>Yd (Xsl hQ J J (Zt J Zi) Zi ((((h.2 c).2 e).2 i).2 j)))))))))))))))))))))))))))))))))))))))))))))))))))))))))
end
theorem Xmk {PG:Za}(hf:PG.fn 302=some Oa){a0:Zu}{b1:Zu}{K:Bool->Prop}(h:Ziu PG K a0 b1) :∃res0:Bool,K res0/\Ze PG 302 [a0.av,b1.av] (.b res0):=
 P1 hf J (Yzf (h1 J fun _=>J) J J h)
def Yhx:List AI:=[oO 2 (.boxf 5 (.t 0)),oO 3 (.boxf 5 (.t 1)),oC 4 (.b false)]
def Wik:List AI:=[oF 9 0 2,oL 10 9,oF 11 0 3,oL 12 11,oT 13 .neq 10 12,oM 14 13,gF 14 (oF 15 1 2),gF 14 (oL 16 15),gF 14 (oF 17 1 3),gF 14 (oL 18 17),gF 14 (oT 19 .neq 16 18),oR 20 14 19,oM 21 20,gF 21 (oF 22 2 2),gF 21 (oL 23 22),gF 21 (oJ 24 23),gF 21 (oF 25 2 3),gF 21 (oL 26 25),gF 21 (oJ 27 26),gF 21 (oT 28 .neq 24 27),oR 29 21 28,oM 30 29,gF 30 (oF 31 3 2),gF 30 (oL 32 31),gF 30 (oJ 33 32),gF 30 (oF 34 3 3),gF 30 (oL 35 34),gF 30 (oJ 36 35),gF 30 (oT 37 .neq 33 36),oR 38 30 37,oM 39 38,gF 39 (oF 40 4 2),gF 39 (oL 41 40),gF 39 (oF 42 4 3),gF 39 (oL 43 42),gF 39 (oQ 44 170 [41,43]),gF 39 (oZ 45 44),oR 46 39 45]
def Xgy:List AI:=[oC 4 (.b false)]
def Xp1:List AI:=[oI 5 0]
def Xt6:List AI:=[oM 47 5,oF 48 2 2,oL 49 48,oJ 50 49,oT 51 .lss 47 50]
def Xih:List AI:=[oF 54 2 2,oL 55 54,oM 56 5,oX 57 4 55 56,oK 58 4 57,oF 59 2 3,oL 60 59,oM 61 5,oX 62 4 60 61,oK 63 4 62,oQ 64 88 [58,63],oZ 65 64]
def Wbp:List AI:=[oC 4 (.b false)]
def Xx5:List AI:=[oM 52 5,oV 53 .add 52 1,oM 5 53]
def Yz1:List AI:=[oI 6 0]
def War:List AI:=[oM 66 6,oF 67 3 2,oL 68 67,oJ 69 68,oT 70 .lss 66 69]
def Wfc:List AI:=[oF 73 3 2,oO 74 (.ldf 1 false (.t 73)),oM 75 6,oX 76 8 74 75,oO 77 (.ldf 8 true (.t 76)),oF 78 3 3,oO 79 (.ldf 1 false (.t 78)),oM 80 6,oX 81 8 79 80,oO 82 (.ldf 8 true (.t 81)),oO 7 (.alloc [z6,z6,zb,z8,z6,zs,zl,zb]),oO 8 (.alloc [z6,z6,zb,z8,z6,zs,zl,zb]),oS 8 7 77,oS 8 8 82]
def Wj4:List AI:=[oF 83 0 7,oL 84 83,oF 85 0 8,oL 86 85,oT 87 .neq 84 86,oM 88 87,gF 88 (oF 89 1 7),gF 88 (oL 90 89),gF 88 (oF 91 1 8),gF 88 (oL 92 91),gF 88 (oT 93 .neq 90 92),oR 94 88 93,oM 95 94,gF 95 (oF 96 2 7),gF 95 (oL 97 96),gF 95 (oF 98 2 8),gF 95 (oL 99 98),gF 95 (oO 100 (.beq true (.t 97) (.t 99))),oR 101 95 100,oM 102 101,gF 102 (oF 103 3 7),gF 102 (oK 104 5 103),gF 102 (oF 105 3 8),gF 102 (oK 106 5 105),gF 102 (oQ 107 78 [104,106]),gF 102 (oZ 108 107),oR 109 102 108]
def Xwd:List AI:=[oC 4 (.b false)]
def Xix:List AI:=[oM 71 6,oV 72 .add 71 1,oM 6 72]
def Wd7:List AI:=[oC 4 (.b true)]
abbrev Zaw:AC:=(.seq (sR 4 Xt6 (.cond (.t 51) .skip (.exit 0))) (.seq (.block 1 (sR 6 Xih (.cond (.t 65) (sR 7 Wbp .ret) .skip))) (.reg 5 Xx5)))
abbrev Zdy:AC:=(.seq (sR 9 War (.cond (.t 70) .skip (.exit 2))) (.seq (.block 3 (sR 11 Wfc (sR 12 Wj4 (.cond (.t 109) (sR 13 Xwd .ret) .skip)))) (.reg 10 Xix)))
abbrev Zd7:AC:=(sR 14 Wd7 .ret)
abbrev Zee:AC:=(.seq (sR 8 Yz1 (.block 2 (.loop Zdy))) Zd7)
abbrev Ykk:AC:=(.seq (sR 3 Xp1 (.block 0 (.loop Zaw))) Zee)
abbrev Zjz:AC:=(.seq (sR 1 Wik (.cond (.t 46) (sR 2 Xgy .ret) .skip)) Ykk)
abbrev Weg:AC:=(sR 0 Yhx Zjz)
def Lv:AF:={ nt:=110,res:=[.tmp 4],fz:=[2,3],body:=Weg }
abbrev Yll (PG:Za)(d:Nat)(Q:AE->Sl->St->Prop)(a2_0:Int)(a2_1:Int)(a2_2:List Zg)(a2_3:List Zq)(a2_4:List Zh)(b3_0:Int)(b3_1:Int)(b3_2:List Zg)(b3_3:List Zq)(b3_4:List Zh)(i5:Int):Prop:=
  ∀(σ:Sl)(st:St),σ 2=.fp [.i .u8 a2_0,.i .i64 a2_1,.sl .ext (List.map Zg.row a2_2),.sl .ext (List.map Zq.row a2_3),.sl .ext (List.map Zh.row a2_4)]->σ 3=.fp [.i .u8 b3_0,.i .i64 b3_1,.sl .ext (List.map Zg.row b3_2),.sl .ext (List.map Zq.row b3_3),.sl .ext (List.map Zh.row b3_4)]->σ 5=.i .i64 i5->W PG d (.loop Zaw) σ st (Ya 0 (Zs PG d Zee Q))
abbrev Yd7 (PG:Za)(d:Nat)(Q:AE->Sl->St->Prop)(a2_0:Int)(a2_1:Int)(a2_2:List Zg)(a2_3:List Zq)(a2_4:List Zh)(b3_0:Int)(b3_1:Int)(b3_2:List Zg)(b3_3:List Zq)(b3_4:List Zh)(i6:Int):Prop:=
  ∀(σ:Sl)(st:St),σ 2=.fp [.i .u8 a2_0,.i .i64 a2_1,.sl .ext (List.map Zg.row a2_2),.sl .ext (List.map Zq.row a2_3),.sl .ext (List.map Zh.row a2_4)]->σ 3=.fp [.i .u8 b3_0,.i .i64 b3_1,.sl .ext (List.map Zg.row b3_2),.sl .ext (List.map Zq.row b3_3),.sl .ext (List.map Zh.row b3_4)]->σ 6=.i .i64 i6->W PG d (.loop Zdy) σ st (Ya 2 (Zs PG d Zd7 Q))
def Zs3 (PG:Za)(K:Bool->Prop) :Prop:=
  K true
def Zff (PG:Za)(K:Bool->Prop)(P1:Int->Prop)(a2_0:Int)(a2_1:Int)(a2_2:List Zg)(a2_3:List Zq)(a2_4:List Zh)(b3_0:Int)(b3_1:Int)(b3_2:List Zg)(b3_3:List Zq)(b3_4:List Zh)(i6:Int):Prop:=
  (i6<(a2_3.length:Int)->0<=i6/\∃c:Zq,a2_3[(i6).toNat]?=some c/\0<=i6/\∃e:Zq,b3_3[(i6).toNat]?=some e/\(c.frame≠e.frame->K false)/\(¬(c.frame≠e.frame)->(c.func≠e.func->K false)/\(¬(c.func≠e.func)->(c.hasArg≠e.hasArg->K false)/\(¬(c.hasArg≠e.hasArg)->∃i,Ze PG 78 [c.arg.av,e.arg.av] (.b i)/\((!i)=true->K false)/\((!i)=false->P1 (IntKind.i64.wrap (i6+1)))))))/\(¬(i6<(a2_3.length:Int))->Zs3 PG K )
def Znp (PG:Za)(K:Bool->Prop)(a2_0:Int)(a2_1:Int)(a2_2:List Zg)(a2_3:List Zq)(a2_4:List Zh)(b3_0:Int)(b3_1:Int)(b3_2:List Zg)(b3_3:List Zq)(b3_4:List Zh):Prop:=
  ∀P1:Int->Prop,(∀(i6:Int),Zff PG K P1 a2_0 a2_1 a2_2 a2_3 a2_4 b3_0 b3_1 b3_2 b3_3 b3_4 i6->P1 i6)->P1 0
def Zbq (PG:Za)(K:Bool->Prop)(P0:Int->Prop)(a2_0:Int)(a2_1:Int)(a2_2:List Zg)(a2_3:List Zq)(a2_4:List Zh)(b3_0:Int)(b3_1:Int)(b3_2:List Zg)(b3_3:List Zq)(b3_4:List Zh)(i5:Int):Prop:=
  (i5<(a2_2.length:Int)->0<=i5/\∃e:Zg,a2_2[(i5).toNat]?=some e/\0<=i5/\∃i:Zg,b3_2[(i5).toNat]?=some i/\∃c,Ze PG 88 [e.av,i.av] (.b c)/\((!c)=true->K false)/\((!c)=false->P0 (IntKind.i64.wrap (i5+1))))/\(¬(i5<(a2_2.length:Int))->Znp PG K a2_0 a2_1 a2_2 a2_3 a2_4 b3_0 b3_1 b3_2 b3_3 b3_4)
def Zp6 (PG:Za)(K:Bool->Prop)(a2_0:Int)(a2_1:Int)(a2_2:List Zg)(a2_3:List Zq)(a2_4:List Zh)(b3_0:Int)(b3_1:Int)(b3_2:List Zg)(b3_3:List Zq)(b3_4:List Zh):Prop:=
  ∀P0:Int->Prop,(∀(i5:Int),Zbq PG K P0 a2_0 a2_1 a2_2 a2_3 a2_4 b3_0 b3_1 b3_2 b3_3 b3_4 i5->P0 i5)->P0 0
def Zkl (PG:Za)(K:Bool->Prop)(a2_0:Int)(a2_1:Int)(a2_2:List Zg)(a2_3:List Zq)(a2_4:List Zh)(b3_0:Int)(b3_1:Int)(b3_2:List Zg)(b3_3:List Zq)(b3_4:List Zh):Prop:=
  (a2_0≠b3_0->K false)/\(¬(a2_0≠b3_0)->(a2_1≠b3_1->K false)/\(¬(a2_1≠b3_1)->((a2_2.length:Int)≠(b3_2.length:Int)->K false)/\(¬((a2_2.length:Int)≠(b3_2.length:Int))->((a2_3.length:Int)≠(b3_3.length:Int)->K false)/\(¬((a2_3.length:Int)≠(b3_3.length:Int))->∃c,Ze PG 170 [.sl .ext (List.map Zh.row a2_4),.sl .ext (List.map Zh.row b3_4)] (.b c)/\((!c)=true->K false)/\((!c)=false->Zp6 PG K a2_0 a2_1 a2_2 a2_3 a2_4 b3_0 b3_1 b3_2 b3_3 b3_4)))))
def Zlz (PG:Za)(K:Bool->Prop)(a0:Zk)(b1:Zk):Prop:=
  Zkl PG K a0.status a0.key a0.frames a0.defers a0.panics b1.status b1.key b1.frames b1.defers b1.panics
section
variable {PG:Za}{d:Nat}{Q:AE->Sl->St->Prop}{K:Bool->Prop}(hQ:H1 AV.b 4 Q K){σ:Sl}{st:St}
include hQ
variable {a2_0 a2_1:Int}{a2_2:List Zg}{a2_3:List Zq}{a2_4:List Zh}{b3_0 b3_1:Int}{b3_2:List Zg}{b3_3:List Zq}{b3_4:List Zh}{i6:Int}{P1:Int->Prop}{i5:Int}{P0:Int->Prop}{a0 b1:Zk}
variable (kP1 :∀(i6:Int),P1 i6->Yd7 PG d Q a2_0 a2_1 a2_2 a2_3 a2_4 b3_0 b3_1 b3_2 b3_3 b3_4 i6) (kP0 :∀(i5:Int),P0 i5->Yll PG d Q a2_0 a2_1 a2_2 a2_3 a2_4 b3_0 b3_1 b3_2 b3_3 b3_4 i5)(H0:σ 0=a0.av)(H2:σ 2=.fp [.i .u8 a2_0,.i .i64 a2_1,.sl .ext (List.map Zg.row a2_2),.sl .ext (List.map Zq.row a2_3),.sl .ext (List.map Zh.row a2_4)])(H1:σ 1=b1.av)(H3:σ 3=.fp [.i .u8 b3_0,.i .i64 b3_1,.sl .ext (List.map Zg.row b3_2),.sl .ext (List.map Zq.row b3_3),.sl .ext (List.map Zh.row b3_4)])(H6:σ 6=.i .i64 i6)(H5:σ 5=.i .i64 i5)
theorem Ysv (h:Zs3 PG K ):W PG d Zd7 σ st Q:=
 q_ J (m_ (Zp (hQ J h)))
include kP1 H2 H3 H6 in
theorem Xdi (h:Zff PG K P1 a2_0 a2_1 a2_2 a2_3 a2_4 b3_0 b3_1 b3_2 b3_3 b3_4 i6):W PG d Zdy σ st (Zs PG d (.loop Zdy) (Ya 2 (Zs PG d Zd7 Q))):=
 Zm (q_ J (m_ (Kb H2 (Xp J J J (Xc J (b_ H6 J Wx (e_ (Yk J (fun j=>Yd (Zm (Yj (Zm (W.reg (Kb H2 (Lz J J J (m_ ((h.1 j).2.elim fun u p=>Wz J H6 (h.1 j).1 p.1 (Zq.row_eq u) J (Lz J J J (Kb H3 (Lz J J J (m_ (p.2.2.elim fun v c=>Wz J H6 p.2.1 c.1 (Zq.row_eq v) J (Lz J J J (Xs (Xs (Ye J (show lk _ (d,45066)=some (_,([.i .i64 0,.i .i64 0,.b false,.i .u8 0,.i .i64 0,.s [],.sl .full (List.map Zb.row ([]:List Zb)),.b false]:List AV)) from (Zt J Zi)) J J J (Ye J (Zt J (show lk _ (d,45067)=some (_,([.i .i64 0,.i .i64 0,.b false,.i .u8 0,.i .i64 0,.s [],.sl .full (List.map Zb.row ([]:List Zb)),.b false]:List AV)) from Zi)) J J J (e_ (q_ J (f_ J (l_ J (Zt J Zi) J J (f_ J (l_ J Zi J J (b_ J J Vd (Yt J (Yq (g:=88) J (fun e=>z_ 21 J (e_ (Yr J (q_ J (m_ (Zp (hQ J (c.2.1 e)))))))) (fun e=>Zd J (f_ J (Zd J (l_ J (Zt J Zi) J J (Zd J (f_ J (Zd J (l_ J Zi J J (Zd J (b_ J J Vd (z_ 2 J (Yq (g:=95) J (fun k=>z_ 14 J (e_ (Yr J (q_ J (m_ (Zp (hQ J ((c.2.2 e).1 k)))))))) (fun k=>Zd J (f_ J (Zd J (l_ J (Zt J Zi) J J (Zd J (f_ J (Zd J (l_ J Zi J J (Zd J (Zhd J J (z_ 2 J (Yq (g:=102) J (fun r=>z_ 7 J (e_ (Yr J (q_ J (m_ (Zp (hQ J (((c.2.2 e).2 k).1 r)))))))) (fun r=>Zd J (f_ J (Zd J (l_ J (Zt J Zi) J J (Zd J (f_ J (Zd J (l_ J Zi J J (Zd J ((((c.2.2 e).2 k).2 r).elim fun _ o=>Yg (Vq J J J) o.1 (Zd J (Xx J (Vp J J (e_ (Xl J (fun q=>q_ J (m_ (Zp (hQ J (o.2.1 q))))) (fun q=>Yd (W.reg0 J fun _ _=>m_ (b_ H6 J Jf (m_ (e_ (kP1 _ (o.2.2 q) _ _ H2 H3 J))))))))))))))))))))))))))))))))))))))))))))))))))))))))))))))))))))))))) (fun j=>Vr (Ysv hQ (h.2 j)))))))))))
include H2 H3 in
theorem Xkv (h:Znp PG K a2_0 a2_1 a2_2 a2_3 a2_4 b3_0 b3_1 b3_2 b3_3 b3_4):W PG d Zee σ st Q:=
 Zm (q_ J (m_ (e_ (Yj (h (Yd7 PG d Q a2_0 a2_1 a2_2 a2_3 a2_4 b3_0 b3_1 b3_2 b3_3 b3_4) (fun _ hb _ _ H2 H3 H6=>W.loop (Xdi hQ (fun _ x=>x) H2 H3 H6 hb)) _ _ H2 H3 J)))))
include kP0 H2 H3 H5 in
theorem Wbf (h:Zbq PG K P0 a2_0 a2_1 a2_2 a2_3 a2_4 b3_0 b3_1 b3_2 b3_3 b3_4 i5):W PG d Zaw σ st (Zs PG d (.loop Zaw) (Ya 0 (Zs PG d Zee Q))):=
 Zm (q_ J (m_ (Kb H2 (Xp J J J (Xc J (b_ H5 J Wx (e_ (Yk J (fun c=>Yd (Zm (Yj (q_ J (Kb H2 (Xp J J J (m_ ((h.1 c).2.elim fun o e=>Wz J H5 (h.1 c).1 e.1 (Zg.row_eq o) J (Xp J J J (Kb H3 (Xp J J J (m_ (e.2.2.elim fun p k=>Wz J H5 e.2.1 k.1 (Zg.row_eq p) J (Xp J J J (k.2.elim fun _ i=>Yg (Vq J J J) i.1 (Xx J (e_ (Xl J (fun j=>q_ J (m_ (Zp (hQ J (i.2.1 j))))) (fun j=>Yd (W.reg0 J fun _ _=>m_ (b_ H5 J Jf (m_ (e_ (kP0 _ (i.2.2 j) _ _ H2 H3 J)))))))))))))))))))))))) (fun c=>Vr (Xkv hQ H2 H3 (h.2 c)))))))))))
include H2 H3 in
theorem Yv2 (h:Zp6 PG K a2_0 a2_1 a2_2 a2_3 a2_4 b3_0 b3_1 b3_2 b3_3 b3_4):W PG d Ykk σ st Q:=
 Zm (q_ J (m_ (e_ (Yj (h (Yll PG d Q a2_0 a2_1 a2_2 a2_3 a2_4 b3_0 b3_1 b3_2 b3_3 b3_4) (fun _ hb _ _ H2 H3 H5=>W.loop (Wbf hQ (fun _ x=>x) H2 H3 H5 hb)) _ _ H2 H3 J)))))
include H2 H3 in
theorem Ysc (h:Zkl PG K a2_0 a2_1 a2_2 a2_3 a2_4 b3_0 b3_1 b3_2 b3_3 b3_4):W PG d Zjz σ st Q:=
 Zm (q_ J (Kb H2 (Xp J J J (Kb H3 (Xp J J J (b_ J J Vd (Yt J (Yq (g:=14) J (fun c=>z_ 32 J (e_ (Yr J (q_ J (m_ (Zp (hQ J (h.1 c)))))))) (fun c=>Zd J (Kb H2 (Zd J (Xp J J J (Zd J (Kb H3 (Zd J (Xp J J J (Zd J (b_ J J Vd (z_ 2 J (Yq (g:=21) J (fun e=>z_ 25 J (e_ (Yr J (q_ J (m_ (Zp (hQ J ((h.2 c).1 e)))))))) (fun e=>Zd J (Kb H2 (Zd J (Xp J J J (Zd J (Xc J (Zd J (Kb H3 (Zd J (Xp J J J (Zd J (Xc J (Zd J (b_ J J Vd (z_ 2 J (Yq (g:=30) J (fun i=>z_ 16 J (e_ (Yr J (q_ J (m_ (Zp (hQ J (((h.2 c).2 e).1 i)))))))) (fun i=>Zd J (Kb H2 (Zd J (Xp J J J (Zd J (Xc J (Zd J (Kb H3 (Zd J (Xp J J J (Zd J (Xc J (Zd J (b_ J J Vd (z_ 2 J (Yq (g:=39) J (fun k=>z_ 7 J (e_ (Yr J (q_ J (m_ (Zp (hQ J ((((h.2 c).2 e).2 i).1 k)))))))) (fun k=>Zd J (Kb H2 (Zd J (Xp J J J (Zd J (Kb H3 (Zd J (Xp J J J (Zd J (((((h.2 c).2 e).2 i).2 k).elim fun _ j=>Yg (Vq J J J) j.1 (Zd J (Xx J (Vp J J (e_ (Xl J (fun o=>q_ J (m_ (Zp (hQ J (j.2.1 o))))) (fun o=>Yd (Yv2 hQ H2 H3 (j.2.2 o))))))))))))))))))))))))))))))))))))))))))))))))))))))))))))))))))))))
include H0 H1 in
theorem Yq8 (h:Zlz PG K a0 b1):W PG d (sR 0 Yhx Zjz) σ st Q:=
 q_ J (Zck H0 J J (Zck H1 J J (m_ (e_ (Ysc hQ J J h)))))
end
theorem Xl4 {PG:Za}(hf:PG.fn 314=some Lv){a0:Zk}{b1:Zk}{K:Bool->Prop}(h:Zlz PG K a0 b1) :∃res0:Bool,K res0/\Ze PG 314 [a0.av,b1.av] (.b res0):=
 P1 hf J (Yq8 (h1 J fun _=>J) J J h)
def Zya:List AI:=[oO 2 (.alloc [z8,z6,zs,zl,zb])]
def Yf0:List AI:=[oM 3 0,oO 4 (.build [z8,z6,zs,zl,zb] [(0,1,(.c (.i .u8 2))),(1,1,(.t 3))]),oS 5 2 4]
abbrev Ynz:AC:=(sR 0 Zya (sR 1 Yf0 .ret))
def Zan:AF:={ nt:=5,res:=[.cell 2 5 true],body:=Ynz }
abbrev Xws (Q:AE->Sl->St->Prop)(K:Zb->Prop):Prop:=∀(σ:Sl)(st:St)(k0:Zo)(v0:Nat)(o0_0:Zl)(res0:Zb),σ 2=.p k0 v0 0->lk st.bx k0=some (v0,[.i .u8 res0.kind,.i .i64 res0.int,.s res0.text,.sl o0_0 (List.map Zb.row res0.list),.b res0.cut])->K res0->Q .ret σ st
def Zl2 (PG:Za)(K:Zb->Prop)(n0:Int):Prop:=
  K (Zb.mk 2 n0 [] ([]:List Zb) false)
section
variable {PG:Za}{d:Nat}{Q:AE->Sl->St->Prop}{K:Zb->Prop}(hQ:Xws Q K){σ:Sl}{st:St}
include hQ
variable {n0:Int}
variable (H0:σ 0=.i .i64 n0)
include H0 in
theorem Xsc (h:Zl2 PG K n0):W PG d (sR 0 Zya (sR 1 Yf0 .ret)) σ st Q:=
 Zm (W.reg (Xs (e_ (q_ J (m_ (Xv (Yl J J (Yl H0 J Xn)) (Ye J (show lk _ (d,0)=some (_,([.i .u8 0,.i .i64 0,.s [],.sl .full (List.map Zb.row ([]:List Zb)),.b false]:List AV)) from Zi) J J J (Zp (hQ _ _ _ _ _ _ J Zi h)))))))))
end
theorem Xfv {PG:Za}(hf:PG.fn 292=some Zan){n0:Int}{K:Zb->Prop}(h:Zl2 PG K n0) :∃res0:Zb,K res0/\Ze PG 292 [.i .i64 n0] (res0.av):=by
  obtain ⟨v,hv,res0,hk,rfl⟩:=Ze.of (K:=fun v=>∃res0:Zb,K res0/\v=res0.av) hf rfl (Xsc (σ:=Xz [.i .i64 n0]) (fun σ st k0 v0 o0_0 res0 H2 HB2 hk=>⟨res0.avo o0_0,by simp only [Zan,Xg,Vc,Jq (n:=5) H2 HB2 rfl,Ks,Option.map_some],_,rfl,res0,hk,rfl⟩) rfl h)
  exact ⟨res0,hk,hv⟩
def Yee:List AI:=[oO 0 (.alloc [z8,z6,zs,zl,zb])]
def Zyq:List AI:=[oO 1 (.build [z8,z6,zs,zl,zb] [(0,1,(.c (.i .u8 1))),(1,1,(.c (.i .i64 1)))]),oS 5 0 1]
abbrev Ywq:AC:=(sR 0 Yee (sR 1 Zyq .ret))
def Zac:AF:={ nt:=2,res:=[.cell 0 5 true],body:=Ywq }
abbrev Yzq (Q:AE->Sl->St->Prop)(K:Zb->Prop):Prop:=∀(σ:Sl)(st:St)(k0:Zo)(v0:Nat)(o0_0:Zl)(res0:Zb),σ 0=.p k0 v0 0->lk st.bx k0=some (v0,[.i .u8 res0.kind,.i .i64 res0.int,.s res0.text,.sl o0_0 (List.map Zb.row res0.list),.b res0.cut])->K res0->Q .ret σ st
def Znj (PG:Za)(K:Zb->Prop) :Prop:=
  K (Zb.mk 1 1 [] ([]:List Zb) false)
section
variable {PG:Za}{d:Nat}{Q:AE->Sl->St->Prop}{K:Zb->Prop}(hQ:Yzq Q K){σ:Sl}{st:St}
include hQ
theorem Wc2 (h:Znj PG K ):W PG d (sR 0 Yee (sR 1 Zyq .ret)) σ st Q:=
 Zm (W.reg (Xs (e_ (q_ J (Xv (Yl J J (Yl J J Xn)) (Ye J (show lk _ (d,0)=some (_,([.i .u8 0,.i .i64 0,.s [],.sl .full (List.map Zb.row ([]:List Zb)),.b false]:List AV)) from Zi) J J J (Zp (hQ _ _ _ _ _ _ J Zi h))))))))
end
theorem Xmo {PG:Za}(hf:PG.fn 303=some Zac)  {K:Zb->Prop}(h:Znj PG K ) :∃res0:Zb,K res0/\Ze PG 303 [] (res0.av):=by
  obtain ⟨v,hv,res0,hk,rfl⟩:=Ze.of (K:=fun v=>∃res0:Zb,K res0/\v=res0.av) hf rfl (Wc2 (σ:=Xz []) (fun σ st k0 v0 o0_0 res0 H0 HB0 hk=>⟨res0.avo o0_0,by simp only [Zac,Xg,Vc,Jq (n:=5) H0 HB0 rfl,Ks,Option.map_some],_,rfl,res0,hk,rfl⟩)  h)
  exact ⟨res0,hk,hv⟩
def Yca:List AI:=[oO 0 (.alloc [z8,z6,zl,zl,zl])]
def Ygf:List AI:=[oO 1 (.build [z6,z6,z7,zl] [(1,1,(.c (.i .i64 1)))]),oO 2 (.bslice [z6,z6,z7,zl] 1 [(0,(.t 1))]),oQ 3 303 [],oO 4 (.build [z6,z6,zb,z8,z6,zs,zl,zb] [(1,1,(.c (.i .i64 1))),(2,1,(.c (.b true))),(3,5,(.t 3))]),oO 5 (.bslice [z6,z6,zb,z8,z6,zs,zl,zb] 1 [(0,(.t 4))]),oO 6 (.build [z8,z6,zl,zl,zl] [(0,1,(.c (.i .u8 2))),(1,1,(.c (.i .i64 (-3)))),(2,1,(.t 2)),(3,1,(.t 5))]),oS 5 0 6]
abbrev Xuo:AC:=(sR 0 Yca (sR 1 Ygf .ret))
def Za1:AF:={ nt:=7,res:=[.cell 0 5 true],body:=Xuo }
abbrev Yp7 (Q:AE->Sl->St->Prop)(K:Zk->Prop):Prop:=∀(σ:Sl)(st:St)(k0:Zo)(v0:Nat) (o0_0 o0_1 o0_2:Zl)(res0:Zk),σ 0=.p k0 v0 0->lk st.bx k0=some (v0,[.i .u8 res0.status,.i .i64 res0.key,.sl o0_0 (List.map Zg.row res0.frames),.sl o0_1 (List.map Zq.row res0.defers),.sl o0_2 (List.map Zh.row res0.panics)])->K res0->Q .ret σ st
def Zp5 (PG:Za)(K:Zk->Prop) :Prop:=
  ∃c:Zb,Ze PG 303 [] (c.av)/\K (Zk.mk 2 (-3) [(Zg.mk 0 1 0 ([]:List Zz))] [(Zq.mk 0 1 true c)] ([]:List Zh))
section
variable {PG:Za}{d:Nat}{Q:AE->Sl->St->Prop}{K:Zk->Prop}(hQ:Yp7 Q K){σ:Sl}{st:St}
include hQ
theorem Yt7 (h:Zp5 PG K ):W PG d (sR 0 Yca (sR 1 Ygf .ret)) σ st Q:=
 Zm (W.reg (Xs (e_ (q_ J (Xv (Yl J J Xn) (Vt (f:=Zg.row) (l:=[(Zg.mk 0 1 0 ([]:List Zz))]) J J (Wg J J J Vl) (by simp only [List.map_cons,List.map_nil,Zg.row_eq];rfl) (h.elim fun e c=>Yg sn c.1 (Xv (Yl J J (Yl J J (Yl J J Xn))) (Vt (f:=Zq.row) (l:=[(Zq.mk 0 1 true e)]) J J (Wg J J J Vl) (by simp only [List.map_cons,List.map_nil,Zq.row_eq];rfl) (Xv (Yl J J (Yl J J (Yl J J (Yl J J Xn)))) (Ye J (show lk _ (d,0)=some (_,([.i .u8 0,.i .i64 0,.sl .full (List.map Zg.row ([]:List Zg)),.sl .full (List.map Zq.row ([]:List Zq)),.sl .full (List.map Zh.row ([]:List Zh))]:List AV)) from Zi) J J J (Zp (hQ _ _ _ _ _ _ _ _ J Zi c.2)))))))))))))
end
theorem Ymn {PG:Za}(hf:PG.fn 294=some Za1)  {K:Zk->Prop}(h:Zp5 PG K ) :∃res0:Zk,K res0/\Ze PG 294 [] (res0.av):=by
  obtain ⟨v,hv,res0,hk,rfl⟩:=Ze.of (K:=fun v=>∃res0:Zk,K res0/\v=res0.av) hf rfl (Yt7 (σ:=Xz []) (fun σ st k0 v0 o0_0 o0_1 o0_2 res0 H0 HB0 hk=>⟨.ag [.i .u8 res0.status,.i .i64 res0.key,.sl o0_0 (List.map Zg.row res0.frames),.sl o0_1 (List.map Zq.row res0.defers),.sl o0_2 (List.map Zh.row res0.panics)],by simp only [Za1,Xg,Vc,Jq (n:=5) H0 HB0 rfl,Ks,Option.map_some],_,rfl,res0,hk,rfl⟩)  h)
  exact ⟨res0,hk,hv⟩
def Zxp:List AI:=[oO 0 (.alloc [z8,z6,z6,zl])]
def Yie:List AI:=[oO 1 (.build [z6,z6,z7,zl] [(1,1,(.c (.i .i64 4)))]),oO 2 (.bslice [z6,z6,z7,zl] 1 [(0,(.t 1))]),oO 3 (.call false 292 [(.c (.i .i64 5))]),oO 4 (.build [z7,z8,z6,zs,zl,zb,z7] [(0,1,(.c (.i .u64 1))),(1,5,(.t 3))]),oO 5 (.bslice [z7,z8,z6,zs,zl,zb,z7] 1 [(0,(.t 4))]),oO 6 (.build [z8,z6,zl,zl,zl] [(0,1,(.c (.i .u8 1))),(2,1,(.t 2)),(4,1,(.t 5))]),oO 7 (.bslice [z8,z6,zl,zl,zl] 1 [(0,(.t 6))]),oO 8 (.build [z8,z6,z6,zl] [(0,1,(.c (.i .u8 2))),(2,1,(.c (.i .i64 17))),(3,1,(.t 7))]),oS 4 0 8]
abbrev Yzk:AC:=(sR 0 Zxp (sR 1 Yie .ret))
def Ed:AF:={ nt:=9,res:=[.cell 0 4 true],body:=Yzk }
abbrev Yqv (Q:AE->Sl->St->Prop)(K:Zu->Prop):Prop:=∀(σ:Sl)(st:St)(k0:Zo)(v0:Nat)(o0_0:Zl)(res0:Zu),σ 0=.p k0 v0 0->lk st.bx k0=some (v0,[.i .u8 res0.outcome,.i .i64 res0.failing,.i .i64 res0.steps,.sl o0_0 (List.map Zk.row res0.routines)])->K res0->Q .ret σ st
def Zs4 (PG:Za)(K:Zu->Prop) :Prop:=
  ∃c:Zb,Ze PG 292 [.i .i64 5] (c.av)/\K (Zu.mk 2 0 17 [(Zk.mk 1 0 [(Zg.mk 0 4 0 ([]:List Zz))] ([]:List Zq) [(Zh.mk 1 c 0)])])
section
variable {PG:Za}{d:Nat}{Q:AE->Sl->St->Prop}{K:Zu->Prop}(hQ:Yqv Q K){σ:Sl}{st:St}
include hQ
theorem Xl0 (h:Zs4 PG K ):W PG d (sR 0 Zxp (sR 1 Yie .ret)) σ st Q:=
 Zm (W.reg (Xs (e_ (q_ J (Xv (Yl J J Xn) (Vt (f:=Zg.row) (l:=[(Zg.mk 0 4 0 ([]:List Zz))]) J J (Wg J J J Vl) (by simp only [List.map_cons,List.map_nil,Zg.row_eq];rfl) (h.elim fun e c=>Yg (Wm J J) c.1 (Xv (Yl J J (Yl J J Xn)) (Vt (f:=Zh.row) (l:=[(Zh.mk 1 e 0)]) J J (Wg J J J Vl) (by simp only [List.map_cons,List.map_nil,Zh.row_eq];rfl) (Xv (Yl J J (Yl J J (Yl J J Xn))) (Vt (f:=Zk.row) (l:=[(Zk.mk 1 0 [(Zg.mk 0 4 0 ([]:List Zz))] ([]:List Zq) [(Zh.mk 1 e 0)])]) J J (Wg J J J Vl) (by simp only [List.map_cons,List.map_nil,Zk.row_eq];rfl) (Xv (Yl J J (Yl J J (Yl J J Xn))) (Ye J (show lk _ (d,0)=some (_,([.i .u8 0,.i .i64 0,.i .i64 0,.sl .full (List.map Zk.row ([]:List Zk))]:List AV)) from Zi) J J J (Zp (hQ _ _ _ _ _ _ J Zi c.2)))))))))))))))
end
theorem Yqr {PG:Za}(hf:PG.fn 296=some Ed)  {K:Zu->Prop}(h:Zs4 PG K ) :∃res0:Zu,K res0/\Ze PG 296 [] (res0.av):=by
  obtain ⟨v,hv,res0,hk,rfl⟩:=Ze.of (K:=fun v=>∃res0:Zu,K res0/\v=res0.av) hf rfl (Xl0 (σ:=Xz []) (fun σ st k0 v0 o0_0 res0 H0 HB0 hk=>⟨res0.avo o0_0,by simp only [Ed,Xg,Vc,Jq (n:=4) H0 HB0 rfl,Ks,Option.map_some],_,rfl,res0,hk,rfl⟩)  h)
  exact ⟨res0,hk,hv⟩
def Ydu:List AI:=[oO 0 (.alloc [zl,zl,zl])]
def Ylg:List AI:=[oO 2 (.mks [z8,z6,z6,z6] 32 (.c (.i .i64 6)) (.c (.i .i64 6))),oM 1 2]
def Ydi:List AI:=[oM 3 1,oO 4 (.build [zs,z6,z6,zl,zl,zl,zl] [(0,1,(.c (.s [109,97,105,110]))),(4,1,(.t 3))]),oM 5 1,oO 6 (.build [zs,z6] [(0,1,(.c (.s [120])))]),oO 7 (.bslice [zs,z6] 1 [(0,(.t 6))]),oO 8 (.build [zs,z6,z6,zl,zl,zl,zl] [(0,1,(.c (.s [102]))),(4,1,(.t 5)),(3,1,(.t 7))]),oO 9 (.bslice [zs,z6,z6,zl,zl,zl,zl] 2 [(0,(.t 4)),(1,(.t 8))]),oO 10 (.build [zl,zl,zl] [(2,1,(.t 9))]),oS 3 0 10]
abbrev Xt5:AC:=(sR 0 Ydu (sR 1 Ylg (sR 2 Ydi .ret)))
def Ow:AF:={ nt:=11,res:=[.cell 0 3 true],body:=Xt5 }
abbrev Xa3 (Q:AE->Sl->St->Prop)(K:Zf->Prop):Prop:=∀(σ:Sl)(st:St)(k0:Zo)(v0:Nat) (o0_0 o0_1 o0_2:Zl)(res0:Zf),σ 0=.p k0 v0 0->lk st.bx k0=some (v0,[.sl o0_0 (List.map Wu.row res0.types),.sl o0_1 (List.map Zv res0.texts),.sl o0_2 (List.map Yb.row res0.funcs)])->K res0->Q .ret σ st
def Zm8 (PG:Za)(K:Zf->Prop) :Prop:=
  K (Zf.mk ([]:List Wu) ([]:LB) [(Yb.mk ([109,97,105,110]:BS) 0 0 ([]:List Yz) (Su 6 Jn.zero) ([]:List Vg) ([]:List Vg)),(Yb.mk ([102]:BS) 0 0 [(Yz.mk ([120]:BS) 0)] (Su 6 Jn.zero) ([]:List Vg) ([]:List Vg))])
section
variable {PG:Za}{d:Nat}{Q:AE->Sl->St->Prop}{K:Zf->Prop}(hQ:Xa3 Q K){σ:Sl}{st:St}
include hQ
theorem Yt6 (h:Zm8 PG K ):W PG d (sR 0 Ydu (sR 1 Ylg (sR 2 Ydi .ret))) σ st Q:=
 Zm (W.reg (Xs (e_ (q_ J (Ywb (n:=6) (m:=6) (f:=Jn.row) (a:=Jn.zero) J J J J J (by decide) J ⟨by decide,by decide⟩ (Yi J (e_ (q_ J (Yi J (Xv (Yl J J (Yl J J Xn)) (Yi J (Xv (Yl J J Xn) (Vt (f:=Yz.row) (l:=[(Yz.mk ([120]:BS) 0)]) J J (Wg J J J Vl) (by simp only [List.map_cons,List.map_nil,Yz.row_eq];rfl) (Xv (Yl J J (Yl J J (Yl J J Xn))) (Vt (f:=Yb.row) (l:=[(Yb.mk ([109,97,105,110]:BS) 0 0 ([]:List Yz) (Su 6 Jn.zero) ([]:List Vg) ([]:List Vg)),(Yb.mk ([102]:BS) 0 0 [(Yz.mk ([120]:BS) 0)] (Su 6 Jn.zero) ([]:List Vg) ([]:List Vg))]) J J (Wg J J J (Wg J J J Vl)) (by simp only [List.map_cons,List.map_nil,Yb.row_eq];rfl) (Xv (Yl J J Xn) (Ye J (show lk _ (d,0)=some (_,([.sl .full (List.map Wu.row ([]:List Wu)),.sl .full (List.map Zv ([]:LB)),.sl .full (List.map Yb.row ([]:List Yb))]:List AV)) from Zi) J J J (Zp (hQ _ _ _ _ _ _ _ _ J Zi h)))))))))))))))))))
end
theorem Ywl {PG:Za}(hf:PG.fn 297=some Ow)  {K:Zf->Prop}(h:Zm8 PG K ) :∃res0:Zf,K res0/\Ze PG 297 [] (res0.av):=by
  obtain ⟨v,hv,res0,hk,rfl⟩:=Ze.of (K:=fun v=>∃res0:Zf,K res0/\v=res0.av) hf rfl (Yt6 (σ:=Xz []) (fun σ st k0 v0 o0_0 o0_1 o0_2 res0 H0 HB0 hk=>⟨.ag [.sl o0_0 (List.map Wu.row res0.types),.sl o0_1 (List.map Zv res0.texts),.sl o0_2 (List.map Yb.row res0.funcs)],by simp only [Ow,Xg,Vc,Jq (n:=3) H0 HB0 rfl,Ks,Option.map_some],_,rfl,res0,hk,rfl⟩)  h)
  exact ⟨res0,hk,hv⟩
def Yj8:List AI:=[oY 2 4 0,oC 4 (.b false)]
def Zsj:List AI:=[oQ 10 297 [],oK 11 4 2,oQ 12 205 [10,11],oM 9 12,oE 13 0 9,oE 14 1 9,oM 5 13,oM 6 14]
def Yd4:List AI:=[oQ 16 297 [],oM 17 1,oQ 18 299 [16,17],oM 15 18,oE 19 0 15,oE 20 1 15,oO 7 (.alloc [z8,z6,z6,zl]),oS 4 7 19,oM 8 20]
def Zwr:List AI:=[oM 21 6,oV 22 .eql 21 0,oM 23 22,gT 23 (oM 24 5),gT 23 (oM 25 1),gT 23 (oT 26 .eql 24 25),oA 27 23 26,oM 28 27,gT 28 (oM 29 8),gT 28 (oV 30 .eql 29 0),oA 31 28 30,oM 32 31,gT 32 (oK 33 4 2),gT 32 (oK 34 4 7),gT 32 (oQ 35 302 [33,34]),oA 36 32 35,oM 4 36]
abbrev Ywu:AC:=(sR 0 Yj8 (sR 1 Zsj (sR 2 Yd4 (sR 3 Zwr .ret))))
def Zbn:AF:={ nt:=37,res:=[.tmp 4],body:=Ywu }
def Zjg (PG:Za)(K:Bool->Prop)(s0:Zu)(want1:BS):Prop:=
  ∃c:Zf,Ze PG 297 [] (c.av)/\∃j e,Ze PG 205 [c.av,s0.av] (.tup [.s j,.i .i64 e])/\∃p:Zf,Ze PG 297 [] (p.av)/\∃o:Zu,∃k,Ze PG 299 [p.av,.s want1] (.tup [o.av,.i .i64 k])/\(e=0->(j=want1->(k=0->∃q,Ze PG 302 [s0.av,o.av] (.b q)/\K q)/\(¬(k=0)->K false))/\(¬(j=want1)->K false))/\(¬(e=0)->K false)
section
variable {PG:Za}{d:Nat}{Q:AE->Sl->St->Prop}{K:Bool->Prop}(hQ:H1 AV.b 4 Q K){σ:Sl}{st:St}
include hQ
variable {s0:Zu}{want1:BS}
variable (H0:σ 0=s0.av)(H1:σ 1=.s want1)
include H0 H1 in
theorem Xxq (h:Zjg PG K s0 want1):W PG d (sR 0 Yj8 (sR 1 Zsj (sR 2 Yd4 (sR 3 Zwr .ret)))) σ st Q:=
 q_ J (Vs H0 J (m_ (e_ (q_ J (h.elim fun _ p=>Yg sn p.1 (l_ J Zi J J (x2 p.2 fun _ _ q=>Yg (Vq J J J) q.1 (m_ (x_ J J (x_ J J (m_ (m_ (e_ (Zm (W.reg (q.2.elim fun _ r=>Yg sn r.1 (m_ (x2 r.2 fun _ _ c=>Yg (Vq J H1 J) c.1 (m_ (x_ J J (x_ J J (Xs (Ye J (show lk _ (d,8198)=some (_,([.i .u8 0,.i .i64 0,.i .i64 0,.sl .full (List.map Zk.row ([]:List Zk))]:List AV)) from Zi) J J J (m_ (e_ (q_ J (Xh J (b_ J J Xk (Yt J (Yq (g:=23) J (fun e=>Zd J (Qs J (Zd J (Qs H1 (Zd J (b_ J J Ns (z_ 2 J (Yq (g:=28) J (fun j=>Zd J (Xh J (Zd J (b_ J J Xk (z_ 2 J (Yq (g:=32) J (fun k=>Zd J (l_ J (Zt J (Zt J Zi)) J J (Zd J (l_ J Zi J J (Zd J ((((c.2.1 e).1 j).1 k).elim fun _ o=>Yg (Vq J J J) o.1 (z_ 2 J (Zp (hQ J o.2))))))))) (fun k=>z_ 5 J (Zp (hQ J (((c.2.1 e).1 j).2 k)))))))))) (fun j=>z_ 9 J (Zp (hQ J ((c.2.1 e).2 j)))))))))))) (fun e=>z_ 14 J (Zp (hQ J (c.2.2 e))))))))))))))))))))))))))))))))))
end
theorem Yry {PG:Za}(hf:PG.fn 293=some Zbn){s0:Zu}{want1:BS}{K:Bool->Prop}(h:Zjg PG K s0 want1) :∃res0:Bool,K res0/\Ze PG 293 [s0.av,.s want1] (.b res0):=
 P1 hf J (Xxq (h1 J fun _=>J) J J h)
def Ykp:List AI:=[oC 0 (.b false)]
def Zwz:List AI:=[oQ 4 297 [],oQ 5 294 [],oO 6 (.call false 207 [(.t 4),(.c (.i .i64 0)),(.t 5)]),oM 3 6,oE 7 0 3,oE 8 1 3,oM 1 7,oM 2 8]
def Ykl:List AI:=[oQ 9 296 [],oO 10 (.call false 293 [(.t 9),(.c (.s [111,117,116,99,111,109,101,32,112,97,110,105,99,44,32,102,97,105,108,105,110,103,32,48,44,32,115,116,101,112,115,32,49,55,10,103,111,114,111,117,116,105,110,101,32,48,58,32,114,101,97,100,121,10,32,32,35,48,32,48,32,34,109,97,105,110,34,32,97,116,32,52,32,99,97,108,108,10,32,32,112,97,110,105,99,32,53,10]))]),oM 11 10,gT 11 (oM 12 2),gT 11 (oV 13 .eql 12 0),oA 14 11 13,oM 15 14,gT 15 (oM 16 1),gT 15 (oO 17 (.bslice [zs] 3 [(0,(.c (.s [103,111,114,111,117,116,105,110,101,32,48,58,32,98,108,111,99,107,101,100,32,45,51]))),(1,(.c (.s [32,32,35,48,32,48,32,34,109,97,105,110,34,32,97,116,32,49,32,99,97,108,108]))),(2,(.c (.s [32,32,100,101,102,101,114,32,48,32,49,32,34,102,34,32,119,105,116,104,32,116,114,117,101])))])),gT 15 (oQ 18 29 [16,17]),oA 19 15 18,oM 0 19]
abbrev Yvk:AC:=(sR 0 Ykp (sR 1 Zwz (sR 2 Ykl .ret)))
def Zgz:AF:={ nt:=20,res:=[.tmp 0],body:=Yvk }
def Zrg (PG:Za)(K:Bool->Prop) :Prop:=
  ∃c:Zf,Ze PG 297 [] (c.av)/\∃k:Zk,Ze PG 294 [] (k.av)/\∃q j,Ze PG 207 [c.av,.i .i64 0,k.av] (.tup [.sl .ext (List.map Zv q),.i .i64 j])/\∃o:Zu,Ze PG 296 [] (o.av)/\∃e,Ze PG 293 [o.av,.s ([111,117,116,99,111,109,101,32,112,97,110,105,99,44,32,102,97,105,108,105,110,103,32,48,44,32,115,116,101,112,115,32,49,55,10,103,111,114,111,117,116,105,110,101,32,48,58,32,114,101,97,100,121,10,32,32,35,48,32,48,32,34,109,97,105,110,34,32,97,116,32,52,32,99,97,108,108,10,32,32,112,97,110,105,99,32,53,10]:BS)] (.b e)/\(e=true->(j=0->∃p,Ze PG 29 [.sl .ext (List.map Zv q),.sl .ext (List.map Zv [([103,111,114,111,117,116,105,110,101,32,48,58,32,98,108,111,99,107,101,100,32,45,51]:BS),([32,32,35,48,32,48,32,34,109,97,105,110,34,32,97,116,32,49,32,99,97,108,108]:BS),([32,32,100,101,102,101,114,32,48,32,49,32,34,102,34,32,119,105,116,104,32,116,114,117,101]:BS)])] (.b p)/\K p)/\(¬(j=0)->K false))/\(e=false->K false)
section
variable {PG:Za}{d:Nat}{Q:AE->Sl->St->Prop}{K:Bool->Prop}(hQ:H1 AV.b 0 Q K){σ:Sl}{st:St}
include hQ
theorem Xob (h:Zrg PG K ):W PG d (sR 0 Ykp (sR 1 Zwz (sR 2 Ykl .ret))) σ st Q:=
 q_ J (m_ (e_ (q_ J (h.elim fun _ k=>Yg sn k.1 (k.2.elim fun _ o=>Yg sn o.1 (x2 o.2 fun _ _ p=>Yg (sc3 J J J J) p.1 (m_ (x_ J J (x_ J J (Yi J (m_ (e_ (q_ J (p.2.elim fun _ q=>Yg sn q.1 (q.2.elim fun _ c=>Yg (Vq J J J) c.1 (Yt J (Qf (g:=11) J (fun e=>Zd J (Xh J (Zd J (b_ J J Xk (z_ 2 J (Yq (g:=15) J (fun i=>Zd J (Yi J (Zd J (Vt (f:=Zv) (l:=[([103,111,114,111,117,116,105,110,101,32,48,58,32,98,108,111,99,107,101,100,32,45,51]:BS),([32,32,35,48,32,48,32,34,109,97,105,110,34,32,97,116,32,49,32,99,97,108,108]:BS),([32,32,100,101,102,101,114,32,48,32,49,32,34,102,34,32,119,105,116,104,32,116,114,117,101]:BS)]) J J (Wg J J J (Wg J J J (Wg J J J Vl))) J (Zd J (((c.2.1 e).1 i).elim fun _ j=>Yg (Vq J J J) j.1 (z_ 2 J (Zp (hQ J j.2))))))))) (fun i=>z_ 5 J (Zp (hQ J ((c.2.1 e).2 i)))))))))) (fun e=>z_ 9 J (Zp (hQ J (c.2.2 e)))))))))))))))))))))
end
theorem Wd1 {PG:Za}(hf:PG.fn 290=some Zgz)  {K:Bool->Prop}(h:Zrg PG K ) :∃res0:Bool,K res0/\Ze PG 290 [] (.b res0):=
 P1 hf J (Xob (h1 J fun _=>J)  h)
abbrev Xm9 (Q:AE->Sl->St->Prop)(K:Bool->Prop):Prop:=∀(σ:Sl)(st:St)(res0:Bool),σ 6=.b res0->K res0->Q .ret σ st
section
variable {PG:Za}{d:Nat}{Q:AE->Sl->St->Prop}{K:Bool->Prop}(hQ:Xm9 Q K){σ:Sl}{st:St}
include hQ
end
end Go.AM
