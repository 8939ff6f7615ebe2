/- Parts of the proof: U40h, U40k, U40m, K40z, C30, C30b, V38b, V38c, V39, V39b, C38, C38b, C38c, C38d, C38e, C38f, C38g, C39, C39b, C39c, V38f, C38h, C38i. -/
import Derived.Test.YtheacfnopahmjaaGreatDoorG2
import Derived.Test.YtheacfnopahmjaaGreatDoorRows
import Derived.Test.YtheacfnopahmjaaGreatDoorG3
import Derived.Test.YtheacfnopahmjaaGreatDoorG4
import Derived.Shelf.Strings.Builder1
import Derived.Shelf.Strings.Split
import Derived.Shelf.Strings.Cut
set_option linter.all false
/- Yf of the proof. -/
namespace Go.AM
open Go
set_option linter.unusedVariables false
set_option linter.unusedSimpArgs false
set_option maxRecDepth 4000
set_option maxHeartbeats 1000000
attribute [local irreducible] WO Wq Ws
def Yhi:List AI:=[oY 3 3 0,oY 4 4 1,oY 5 4 2,oC 6 (.b false)]
def Xjx:List AI:=[oQ 12 290 [],oM 7 12]
def Yo9:List AI:=[oK 13 3 3,oQ 14 79 [13],oM 15 14,gF 15 (oK 16 4 4),gF 15 (oQ 17 203 [16]),oR 18 15 17,oM 19 18,gF 19 (oK 20 4 5),gF 19 (oQ 21 203 [20]),oR 22 19 21,oM 23 22,gF 23 (oM 24 7),gF 23 (oZ 25 24),oR 26 23 25]
def Wbh:List AI:=[oM 27 7,oM 6 27]
def Yy3:List AI:=[oK 29 3 3,oK 30 4 4,oQ 31 205 [29,30],oM 28 31,oE 32 0 28,oE 33 1 28,oM 8 32,oM 9 33]
def Wc6:List AI:=[oK 35 3 3,oK 36 4 5,oQ 37 205 [35,36],oM 34 37,oE 38 0 34,oE 39 1 34,oM 10 38,oM 11 39]
def Yyq:List AI:=[oM 40 9,oV 41 .neq 40 0,oM 42 41,gF 42 (oM 43 11),gF 42 (oV 44 .neq 43 0),oR 45 42 44]
def Xro:List AI:=[oM 46 7,oM 47 46,gT 47 (oM 48 9),gT 47 (oV 49 .eql 48 0),gT 47 (oM 50 49),gF 50 (oM 51 8),gF 50 (oH 52 51),gF 50 (oV 53 .eql 52 0),gT 47 (oR 54 50 53),oA 55 47 54,oM 56 55,gT 56 (oM 57 11),gT 56 (oV 58 .eql 57 0),gT 56 (oM 59 58),gF 59 (oM 60 10),gF 59 (oH 61 60),gF 59 (oV 62 .eql 61 0),gT 56 (oR 63 59 62),oA 64 56 63,oM 6 64]
def Xbb:List AI:=[oM 65 7,oM 66 65,gT 66 (oM 67 8),gT 66 (oM 68 10),gT 66 (oT 69 .eql 67 68),gT 66 (oK 70 4 4),gT 66 (oK 71 4 5),gT 66 (oQ 72 302 [70,71]),gT 66 (oO 73 (.beq false (.t 69) (.t 72))),oA 74 66 73,oM 6 74]
abbrev Yi5:AC:=(.cond (.t 45) (sR 7 Xro .ret) .skip)
abbrev Zle:AC:=(sR 8 Xbb .ret)
abbrev Yb2:AC:=(sR 4 Yy3 (sR 5 Wc6 (.seq (sR 6 Yyq Yi5) Zle)))
abbrev Zzh:AC:=(.seq (sR 2 Yo9 (.cond (.t 26) (sR 3 Wbh .ret) .skip)) Yb2)
abbrev Zqm:AC:=(sR 1 Xjx Zzh)
abbrev Xo6:AC:=(sR 0 Yhi Zqm)
def Zgi:AF:={ nt:=75,res:=[.tmp 6],body:=Xo6 }
def Zhu (PG:Za)(K:Bool->Prop)(ok7:Bool)(a8:BS)(b10:BS)(m1:Zu)(m2:Zu):Prop:=
  (ok7=true->∃c,Ze PG 302 [m1.av,m2.av] (.b c)/\K (decide ((decide (a8=b10))=c)))/\(ok7=false->K false)
def Pv (PG:Za)(K:Bool->Prop)(ok7:Bool)(a8:BS)(e9:Int)(b10:BS)(f11:Int)(t45:Bool)(m1:Zu)(m2:Zu):Prop:=
  (t45=true->(ok7=true->(e9=0->(f11=0->K true)/\(¬(f11=0)->K (decide ((b10.length:Int)=0))))/\(¬(e9=0)->((a8.length:Int)=0->(f11=0->K true)/\(¬(f11=0)->K (decide ((b10.length:Int)=0))))/\(¬((a8.length:Int)=0)->K false)))/\(ok7=false->K false))/\(t45=false->Zhu PG K ok7 a8 b10 m1 m2)
def Zm2 (PG:Za)(K:Bool->Prop)(ok7:Bool)(m0:Zf)(m1:Zu)(m2:Zu):Prop:=
  ∃k c,Ze PG 205 [m0.av,m1.av] (.tup [.s k,.i .i64 c])/\∃j e,Ze PG 205 [m0.av,m2.av] (.tup [.s j,.i .i64 e])/\(c≠0->Pv PG K ok7 k c j e true m1 m2)/\(¬(c≠0)->Pv PG K ok7 k c j e (decide (e≠0)) m1 m2)
def Zqj (PG:Za)(K:Bool->Prop)(ok7:Bool)(m0:Zf)(m1:Zu)(m2:Zu):Prop:=
  ∃c,Ze PG 79 [m0.av] (.b c)/\(c=true->K ok7)/\(c=false->∃e,Ze PG 203 [m1.av] (.b e)/\(e=true->K ok7)/\(e=false->∃i,Ze PG 203 [m2.av] (.b i)/\(i=true->K ok7)/\(i=false->((!ok7)=true->K ok7)/\((!ok7)=false->Zm2 PG K ok7 m0 m1 m2))))
def Zq6 (PG:Za)(K:Bool->Prop)(m0:Zf)(m1:Zu)(m2:Zu):Prop:=
  ∃c,Ze PG 290 [] (.b c)/\Zqj PG K c m0 m1 m2
def Zla (PG:Za)(K:Bool->Prop)(m0:Zf)(s1:Zu)(t2:Zu):Prop:=
  Zq6 PG K m0 s1 t2
section
variable {PG:Za}{d:Nat}{Q:AE->Sl->St->Prop}{K:Bool->Prop}(hQ:H1 AV.b 6 Q K){σ:Sl}{st:St}
include hQ
variable {ok7:Bool}{a8 b10:BS}{m1 m2:Zu}{v1 v2:Nat}{e9 f11:Int}{t45:Bool}{m0:Zf}{v0:Nat}{s1 t2:Zu}
variable (H3:σ 3=.p (d,0) v0 0)(H0:σ 0=m0.av)(H4:σ 4=.p (d,1) v1 0)(H1:σ 1=s1.av)(H5:σ 5=.p (d,2) v2 0)(H2:σ 2=t2.av)(H7:σ 7=.b ok7)(H8:σ 8=.s a8)(B0:lk st.bx (d,0)=some (v0,Zf.cs m0))(H9:σ 9=.i .i64 e9)(H10:σ 10=.s b10)(H11:σ 11=.i .i64 f11)(Ga:σ 45=.b t45)(B1:lk st.bx (d,1)=some (v1,Zu.cs m1))(B2:lk st.bx (d,2)=some (v2,Zu.cs m2))
include H4 H5 H7 H8 H10 B1 B2 in
theorem Xzy (h:Zhu PG K ok7 a8 b10 m1 m2):W PG d Zle σ st Q:=
 q_ J (Yt H7 (Yt J (Qf (g:=66) J (fun c=>Zd J (Qs H8 (Zd J (Qs H10 (Zd J (b_ J J Ns (Zd J (l_ H4 B1 J J (Zd J (l_ H5 B2 J J (Zd J ((h.1 c).elim fun _ e=>Yg (Vq J J J) e.1 (Zd J (Xn4 J J (z_ 2 J (Zp (hQ J e.2))))))))))))))))) (fun c=>z_ 9 J (Zp (hQ J (h.2 c)))))))
include H4 H5 H7 H8 H9 H10 H11 Ga B1 B2 in
theorem Ztb (h:Pv PG K ok7 a8 e9 b10 f11 t45 m1 m2):W PG d Yi5 σ st (Zs PG d Zle Q):=
 Xl Ga (fun c=>q_ J (Yt H7 (Yt J (Qf (g:=47) J (fun e=>Zd J (Xh H9 (Zd J (b_ J J Xk (Zd J (Yt J (Yq (g:=50) J (fun i=>z_ 3 J (Zd J (z_ 3 J (Zd J (Xh H11 (Zd J (b_ J J Xk (Zd J (Yt J (Yq (g:=59) J (fun k=>z_ 3 J (Zd J (z_ 3 J (Zp (hQ J ((((h.1 c).1 e).1 i).1 k)))))) (fun k=>Zd J (Qs H10 (Zd J (Hf J (Zd J (b_ J J Xk (Zd J (z_ 3 J (Zp (hQ J ((((h.1 c).1 e).1 i).2 k))))))))))))))))))))) (fun i=>Zd J (Qs H8 (Zd J (Hf J (Zd J (b_ J J Xk (Zd J (z_ 3 J (Yq (g:=56) J (fun j=>Zd J (Xh H11 (Zd J (b_ J J Xk (Zd J (Yt J (Yq (g:=59) J (fun o=>z_ 3 J (Zd J (z_ 3 J (Zp (hQ J (((((h.1 c).1 e).2 i).1 j).1 o)))))) (fun o=>Zd J (Qs H10 (Zd J (Hf J (Zd J (b_ J J Xk (Zd J (z_ 3 J (Zp (hQ J (((((h.1 c).1 e).2 i).1 j).2 o)))))))))))))))))) (fun j=>z_ 3 J (Wp J (Wp J (Wp J (z_ 3 J (Zp (hQ J ((((h.1 c).1 e).2 i).2 j)))))))))))))))))))))))) (fun e=>z_ 3 J (Wp J (Wp J (Wp J (z_ 6 J (Wp J (Wp J (Wp J (z_ 3 J (Zp (hQ J ((h.1 c).2 e)))))))))))))))) (fun c=>Yd (Xzy hQ H4 H5 H7 H8 H10 B1 B2 (h.2 c)))
include H3 H4 H5 H7 B0 B1 B2 in
theorem Xcw (h:Zm2 PG K ok7 m0 m1 m2):W PG d Yb2 σ st Q:=
 q_ J (l_ H3 B0 J J (l_ H4 B1 J J (x2 h fun _ _ i=>Yg (Vq J J J) i.1 (m_ (x_ J J (x_ J J (m_ (m_ (e_ (q_ J (l_ H3 B0 J J (l_ H5 B2 J J (x2 i.2 fun _ _ c=>Yg (Vq J J J) c.1 (m_ (x_ J J (x_ J J (m_ (m_ (e_ (Zm (q_ J (Xh J (b_ J J Vd (Yt J (Yq (g:=42) J (fun e=>z_ 3 J (e_ (Ztb hQ H4 H5 H7 J J J J J B1 B2 (c.2.1 e)))) (fun e=>Zd J (Xh J (Zd J (b_ J J Vd (Vp J J (e_ (Ztb hQ H4 H5 H7 J J J J J B1 B2 (c.2.2 e)))))))))))))))))))))))))))))))))
include H3 H4 H5 H7 B0 B1 B2 in
theorem Xny (h:Zqj PG K ok7 m0 m1 m2):W PG d Zzh σ st Q:=
 Zm (q_ J (l_ H3 B0 J J (h.elim fun _ i=>Yg (Wm J J) i.1 (Yt J (Qf (g:=15) J (fun o=>z_ 11 J (e_ (Yr J (q_ J (m_ (m_ (Zp (hQ H7 (i.2.1 o))))))))) (fun o=>Zd J (l_ H4 B1 J J (Zd J ((i.2.2 o).elim fun _ j=>Yg (Wm J J) j.1 (z_ 2 J (Qf (g:=19) J (fun p=>z_ 7 J (e_ (Yr J (q_ J (m_ (m_ (Zp (hQ H7 (j.2.1 p))))))))) (fun p=>Zd J (l_ H5 B2 J J (Zd J ((j.2.2 p).elim fun _ c=>Yg (Wm J J) c.1 (z_ 2 J (Qf (g:=23) J (fun e=>z_ 3 J (e_ (Yr J (q_ J (m_ (m_ (Zp (hQ H7 (c.2.1 e))))))))) (fun e=>Zd J (Yt H7 (Zd J (Xx J (Vp J J (e_ (Xl J (fun k=>q_ J (m_ (m_ (Zp (hQ H7 ((c.2.2 e).1 k)))))) (fun k=>Yd (Xcw hQ H3 H4 H5 H7 B0 B1 B2 ((c.2.2 e).2 k)))))))))))))))))))))))))))
include H3 H4 H5 B0 B1 B2 in
theorem Wdq (h:Zq6 PG K m0 m1 m2):W PG d Zqm σ st Q:=
 q_ J (h.elim fun _ c=>Yg sn c.1 (m_ (e_ (Xny hQ H3 H4 H5 J B0 B1 B2 c.2))))
include H0 H1 H2 in
theorem Wcf (h:Zla PG K m0 s1 t2):W PG d (sR 0 Yhi Zqm) σ st Q:=
 q_ J (Vs H0 J (Vs H1 J (Vs H2 J (m_ (e_ (Wdq hQ J J J (Zt J (Zt J Zi)) (Zt J Zi) Zi h))))))
end
theorem Yoi {PG:Za}(hf:PG.fn 289=some Zgi){m0:Zf}{s1:Zu}{t2:Zu}{K:Bool->Prop}(h:Zla PG K m0 s1 t2) :∃res0:Bool,K res0/\Ze PG 289 [m0.av,s1.av,t2.av] (.b res0):=
 P1 hf J (Wcf (h1 J fun _=>J) J J J h)
abbrev Wfr (Q:AE->Sl->St->Prop)(K:Bool->Prop):Prop:=∀(σ:Sl)(st:St)(res0:Bool),σ 4=.b res0->K res0->Q .ret σ st
section
variable {PG:Za}{d:Nat}{Q:AE->Sl->St->Prop}{K:Bool->Prop}(hQ:Wfr Q K){σ:Sl}{st:St}
include hQ
end
end Go.AM

/- Yf of the proof. -/
namespace Go.AM
open Go
set_option linter.unusedVariables false
set_option linter.unusedSimpArgs false
set_option maxRecDepth 4000
set_option maxHeartbeats 1000000
attribute [local irreducible] WO Wq Ws
def Zyx:List AI:=[oO 2 (.alloc [z8,z6,z6,zl]),oC 3 (.b false)]
def Ypr:List AI:=[oO 4 (.alloc [z8,z6,z6,zl])]
def Wcd:List AI:=[oM 16 0,oO 17 (.call false 316 [(.t 16),(.c (.s [111,117,116,99,111,109,101,32]))]),oO 18 (.call false 260 [(.t 17),(.c (.s [44,32,102,97,105,108,105,110,103,32]))]),oM 15 18,oE 19 0 15,oE 20 1 15,oE 21 2 15,oM 5 19,oM 6 20,oM 7 21]
def Yzs:List AI:=[oM 23 6,oO 24 (.call false 260 [(.t 23),(.c (.s [44,32,115,116,101,112,115,32]))]),oM 22 24,oE 25 0 22,oE 26 1 22,oE 27 2 22,oM 8 25,oM 9 26,oM 10 27]
def Xt9:List AI:=[oM 29 5,oQ 30 211 [29],oM 28 30,oE 31 0 28,oE 32 1 28,oM 11 31,oM 12 32]
def Xnu:List AI:=[oM 33 11,oF 34 0 4,oS 1 34 33]
def Ymf:List AI:=[oC 13 (.b false),oC 14 (.b false)]
def Xhj:List AI:=[oM 36 8,oQ 37 317 [36],oM 35 37,oE 38 0 35,oE 39 1 35,oF 40 1 4,oS 1 40 38,oM 13 39]
def Ysp:List AI:=[oM 42 9,oQ 43 317 [42],oM 41 43,oE 44 0 41,oE 45 1 41,oF 46 2 4,oS 1 46 44,oM 14 45]
def Xhp:List AI:=[oK 47 4 4,oM 48 7,oM 49 48,gT 49 (oM 50 10),oA 51 49 50,oM 52 51,gT 52 (oM 53 13),oA 54 52 53,oM 55 54,gT 55 (oM 56 14),oA 57 55 56,oM 58 57,gT 58 (oM 59 12),gT 58 (oV 60 .eql 59 0),oA 61 58 60,oS 4 2 47,oM 3 61]
abbrev Zst:AC:=(sR 9 Xhp .ret)
abbrev Yi9:AC:=(sR 8 Ysp Zst)
abbrev Zvg:AC:=(sR 7 Xhj Yi9)
abbrev Zzu:AC:=(sR 6 Ymf Zvg)
abbrev Yg4:AC:=(sR 5 Xnu Zzu)
abbrev Yae:AC:=(sR 4 Xt9 Yg4)
abbrev Yec:AC:=(sR 3 Yzs Yae)
abbrev Zu4:AC:=(sR 2 Wcd Yec)
abbrev Zm7:AC:=(sR 1 Ypr Zu4)
abbrev Yru:AC:=(sR 0 Zyx Zm7)
def Lq:AF:={ nt:=62,res:=[.cell 2 4 true,.tmp 3],body:=Yru }
abbrev Yzu (d:Nat)(Zj:St)(Q:AE->Sl->St->Prop)(K:Zu->Bool->Prop):Prop:=∀(σ:Sl)(st:St)(k0:Zo)(v0:Nat)(res0:Zu)(res1:Bool),σ 2=.p k0 v0 0->lk st.bx k0=some (v0,[.i .u8 res0.outcome,.i .i64 res0.failing,.i .i64 res0.steps,.sl .full (List.map Zk.row res0.routines)])->σ 3=.b res1->Fr d (d,0) Zj.bx Zj.ow st.bx st.ow->K res0 res1->Q .ret σ st
def Zk5 (PG:Za)(K:Zu->Bool->Prop)(a7:Bool)(b10:Bool)(e12:Int)(ok13:Bool)(is14:Bool)(m0:Zu)(m4096:Zu):Prop:=
  (a7=true->(b10=true->(ok13=true->(is14=true->K m4096 (decide (e12=0)))/\(is14=false->K m4096 false))/\(ok13=false->K m4096 false))/\(b10=false->K m4096 false))/\(a7=false->K m4096 false)
def Zkj (PG:Za)(K:Zu->Bool->Prop)(a7:Bool)(steps9:BS)(b10:Bool)(e12:Int)(ok13:Bool)(m0:Zu)(m4096:Zu):Prop:=
  ∃c e,Ze PG 317 [.s steps9] (.tup [.i .i64 c,.b e])/\Zk5 PG K a7 b10 e12 ok13 e m0 (Zu.mk m4096.outcome m4096.failing c m4096.routines)
def Zhy (PG:Za)(K:Zu->Bool->Prop)(a7:Bool)(failing8:BS)(steps9:BS)(b10:Bool)(e12:Int)(m0:Zu)(m4096:Zu):Prop:=
  ∃c e,Ze PG 317 [.s failing8] (.tup [.i .i64 c,.b e])/\Zkj PG K a7 steps9 b10 e12 e m0 (Zu.mk m4096.outcome c m4096.steps m4096.routines)
def Zob (PG:Za)(K:Zu->Bool->Prop)(a7:Bool)(failing8:BS)(steps9:BS)(b10:Bool)(e12:Int)(m0:Zu)(m4096:Zu):Prop:=
  Zhy PG K a7 failing8 steps9 b10 e12 m0 m4096
def Zih (PG:Za)(K:Zu->Bool->Prop)(a7:Bool)(failing8:BS)(steps9:BS)(b10:Bool)(n11:Int)(e12:Int)(m0:Zu)(m4096:Zu):Prop:=
  Zob PG K a7 failing8 steps9 b10 e12 m0 (Zu.mk n11 m4096.failing m4096.steps m4096.routines)
def Zkt (PG:Za)(K:Zu->Bool->Prop)(word5:BS)(a7:Bool)(failing8:BS)(steps9:BS)(b10:Bool)(m0:Zu)(m4096:Zu):Prop:=
  ∃c e,Ze PG 211 [.s word5] (.tup [.i .u8 c,.i .i64 e])/\Zih PG K a7 failing8 steps9 b10 c e m0 m4096
def Zm9 (PG:Za)(K:Zu->Bool->Prop)(word5:BS)(rest6:BS)(a7:Bool)(m0:Zu)(m4096:Zu):Prop:=
  ∃e i c,Ze PG 260 [.s rest6,.s ([44,32,115,116,101,112,115,32]:BS)] (.tup [.s e,.s i,.b c])/\Zkt PG K word5 a7 e i c m0 m4096
def Zp2 (PG:Za)(K:Zu->Bool->Prop)(s0:BS)(m0:Zu)(m4096:Zu):Prop:=
  ∃e,Ze PG 316 [.s s0,.s ([111,117,116,99,111,109,101,32]:BS)] (.s e)/\∃c i j,Ze PG 260 [.s e,.s ([44,32,102,97,105,108,105,110,103,32]:BS)] (.tup [.s c,.s i,.b j])/\Zm9 PG K c i j m0 m4096
def Zhw (PG:Za)(K:Zu->Bool->Prop)(s0:BS)(m0:Zu):Prop:=
  Zp2 PG K s0 m0 (Zu.mk 0 0 0 ([]:List Zk))
def Zjf (PG:Za)(K:Zu->Bool->Prop)(s0:BS):Prop:=
  Zhw PG K s0 (Zu.mk 0 0 0 ([]:List Zk))
section
variable {PG:Za}{d:Nat}{Q:AE->Sl->St->Prop}{K:Zu->Bool->Prop}{Zj:St}(hQ:Yzu d Zj Q K){σ:Sl}{st:St}
include hQ
variable {a7 b10:Bool}{e12:Int}{ok13 is14:Bool}{m0 m4096:Zu}{v0 v4096:Nat}{steps9 failing8:BS}{n11:Int}{word5 rest6 s0:BS}
variable (H0:σ 0=.s s0)(H2:σ 2=.p (d,0) v0 0)(H4:σ 4=.p (d,4096) v4096 0)(H5:σ 5=.s word5)(H6:σ 6=.s rest6)(H7:σ 7=.b a7)(H8:σ 8=.s failing8)(H9:σ 9=.s steps9)(H10:σ 10=.b b10)(H11:σ 11=.i .u8 n11)(H12:σ 12=.i .i64 e12)(H13:σ 13=.b ok13)(H14:σ 14=.b is14)(B0:lk st.bx (d,0)=some (v0,[.i .u8 m0.outcome,.i .i64 m0.failing,.i .i64 m0.steps,.sl .full (List.map Zk.row m0.routines)]))(B4096:lk st.bx (d,4096)=some (v4096,[.i .u8 m4096.outcome,.i .i64 m4096.failing,.i .i64 m4096.steps,.sl .full (List.map Zk.row m4096.routines)]))(FR:Fr d (d,0) Zj.bx Zj.ow st.bx st.ow)
include H2 H4 H7 H10 H12 H13 H14 B0 B4096 FR in
theorem Wi8 (h:Zk5 PG K a7 b10 e12 ok13 is14 m0 m4096):W PG d Zst σ st Q:=
 q_ J (l_ H4 B4096 J J (Yt H7 (Yt J (Qf (g:=49) J (fun c=>Zd J (Yt H10 (z_ 2 J (Qf (g:=52) J (fun e=>Zd J (Yt H13 (z_ 2 J (Qf (g:=55) J (fun i=>Zd J (Yt H14 (z_ 2 J (Qf (g:=58) J (fun j=>Zd J (Xh H12 (Zd J (b_ J J Xk (Dh J J (Ye H2 B0 J J J (Yt J (Zp (hQ _ _ _ _ _ _ H2 Zi J (Fr.box FR) ((((h.1 c).1 e).1 i).1 j)))))))))) (fun j=>z_ 3 J (Ye H2 B0 J J J (Yt J (Zp (hQ _ _ _ _ _ _ H2 Zi J (Fr.box FR) ((((h.1 c).1 e).1 i).2 j)))))))))) (fun i=>z_ 6 J (Ye H2 B0 J J J (Yt J (Zp (hQ _ _ _ _ _ _ H2 Zi J (Fr.box FR) (((h.1 c).1 e).2 i)))))))))) (fun e=>z_ 9 J (Ye H2 B0 J J J (Yt J (Zp (hQ _ _ _ _ _ _ H2 Zi J (Fr.box FR) ((h.1 c).2 e)))))))))) (fun c=>z_ 12 J (Ye H2 B0 J J J (Yt J (Zp (hQ _ _ _ _ _ _ H2 Zi J (Fr.box FR) (h.2 c))))))))))
include H2 H4 H7 H9 H10 H12 H13 B0 B4096 FR in
theorem Xua (h:Zkj PG K a7 steps9 b10 e12 ok13 m0 m4096):W PG d Yi9 σ st Q:=
 q_ J (m_ (x2 h fun e _ c=>Yg (Wm H9 J) c.1 (m_ (x_ J J (x_ J J (f_ H4 (Ye J B4096 J J J (m_ (e_ (Wi8 (m4096:=(Zu.mk m4096.outcome m4096.failing e m4096.routines)) hQ H2 H4 H7 H10 H12 H13 J (Zt J B0) Zi (Fr.box FR) c.2))))))))))
include H2 H4 H7 H8 H9 H10 H12 B0 B4096 FR in
theorem Wf2 (h:Zhy PG K a7 failing8 steps9 b10 e12 m0 m4096):W PG d Zvg σ st Q:=
 q_ J (m_ (x2 h fun e _ c=>Yg (Wm H8 J) c.1 (m_ (x_ J J (x_ J J (f_ H4 (Ye J B4096 J J J (m_ (e_ (Xua (m4096:=(Zu.mk m4096.outcome e m4096.steps m4096.routines)) hQ H2 H4 H7 H9 H10 H12 J (Zt J B0) Zi (Fr.box FR) c.2))))))))))
include H2 H4 H7 H8 H9 H10 H12 B0 B4096 FR in
theorem Wgr (h:Zob PG K a7 failing8 steps9 b10 e12 m0 m4096):W PG d Zzu σ st Q:=
 q_ J (m_ (m_ (e_ (Wf2 hQ H2 H4 H7 H8 H9 H10 H12 B0 B4096 FR h))))
include H2 H4 H7 H8 H9 H10 H11 H12 B0 B4096 FR in
theorem Xy2 (h:Zih PG K a7 failing8 steps9 b10 n11 e12 m0 m4096):W PG d Yg4 σ st Q:=
 q_ J (m_ (f_ H4 (Ye J B4096 H11 J J (e_ (Wgr (m4096:=(Zu.mk n11 m4096.failing m4096.steps m4096.routines)) hQ H2 H4 H7 H8 H9 H10 H12 (Zt J B0) Zi (Fr.box FR) h)))))
include H2 H4 H5 H7 H8 H9 H10 B0 B4096 FR in
theorem Xgo (h:Zkt PG K word5 a7 failing8 steps9 b10 m0 m4096):W PG d Yae σ st Q:=
 q_ J (m_ (x2 h fun _ _ c=>Yg (Wm H5 J) c.1 (m_ (x_ J J (x_ J J (m_ (m_ (e_ (Xy2 hQ H2 H4 H7 H8 H9 H10 J J B0 B4096 FR c.2)))))))))
include H2 H4 H5 H6 H7 B0 B4096 FR in
theorem Xvc (h:Zm9 PG K word5 rest6 a7 m0 m4096):W PG d Yec σ st Q:=
 q_ J (m_ (x2 h fun _ _ e=>e.elim fun _ c=>Yg (Vq H6 J J) c.1 (m_ (x_ J J (x_ J J (x_ J J (m_ (m_ (m_ (e_ (Xgo hQ H2 H4 H5 H7 J J J B0 B4096 FR c.2)))))))))))
include H0 H2 H4 B0 B4096 FR in
theorem Yrf (h:Zp2 PG K s0 m0 m4096):W PG d Zu4 σ st Q:=
 q_ J (m_ (h.elim fun _ c=>Yg (Vq H0 J J) c.1 (x2 c.2 fun _ _ i=>i.elim fun _ e=>Yg (Vq J J J) e.1 (m_ (x_ J J (x_ J J (x_ J J (m_ (m_ (m_ (e_ (Xvc hQ H2 H4 J J J B0 B4096 FR e.2))))))))))))
include H0 H2 B0 FR in
theorem Xkc (h:Zhw PG K s0 m0):W PG d Zm7 σ st Q:=
 Zm (W.reg (Xs (e_ (Yrf (m4096:=(Zu.mk 0 0 0 ([]:List Zk))) hQ H0 H2 J (Zt J B0) (show lk _ (d,4096)=some (_,([.i .u8 0,.i .i64 0,.i .i64 0,.sl .full (List.map Zk.row ([]:List Zk))]:List AV)) from Zi) (Fr.box FR) h))))
include H0 FR in
theorem Xco (h:Zjf PG K s0):W PG d (sR 0 Zyx Zm7) σ st Q:=
 Zm (W.reg (Xs (m_ (e_ (Xkc (m0:=(Zu.mk 0 0 0 ([]:List Zk))) hQ H0 J (show lk _ (d,0)=some (_,([.i .u8 0,.i .i64 0,.i .i64 0,.sl .full (List.map Zk.row ([]:List Zk))]:List AV)) from Zi) (Fr.box FR) h)))))
end
theorem Xvk {PG:Za}(hf:PG.fn 307=some Lq){s0:BS}{K:Zu->Bool->Prop}(h:Zjf PG K s0):Ym PG 307 [.s s0] (fun r=>∃res0:Zu,∃res1:Bool,(r=.tup [res0.avo .full,.b res1])/\K res0 res1):=
  Ym.of hf rfl fun d st=>Xco (Zj:=st) (Q:=fun e σ st'=>(e=.normal\/e=.ret)/\∃r,Xg σ st' Lq.res=some r/\_/\Fr d (d,0) st.bx st.ow st'.bx st'.ow) (fun σ st' k0 v0  res0 res1 H2 HB2 H3 hf hk=>⟨.inr rfl,.tup [res0.avo .full,.b res1],by simp only [Lq,Xg,Vc,Jq (n:=4) H2 HB2 rfl,H3,Ks,Option.map_some,Jq (n:=4) H2 HB2 rfl,H3],⟨res0,res1,rfl,hk⟩,hf⟩) (σ:=Xz [.s s0]) rfl Fr.refl h
end Go.AM

/- Yf of the proof. -/
namespace Go.AM
open Go
set_option linter.unusedVariables false
set_option linter.unusedSimpArgs false
set_option maxRecDepth 4000
set_option maxHeartbeats 1000000
attribute [local irreducible] WO Wq Ws
def Xpe:List AI:=[oC 3 (.s []),oC 4 (.b false)]
def Xoi:List AI:=[oL 6 1,oJ 7 6,oV 8 .eql 7 0,oM 9 8,gF 9 (oL 10 1),gF 9 (oO 11 (.iaL 1 (.t 10) (.c (.i .i64 0)))),gF 9 (oL 12 11),gF 9 (oM 13 0),gF 9 (oQ 14 306 [12,13]),gF 9 (oZ 15 14),oR 16 9 15]
def Yjn:List AI:=[oC 3 (.s []),oC 4 (.b false)]
def Xi0:List AI:=[oL 17 1,oO 18 (.iaL 1 (.t 17) (.c (.i .i64 0))),oL 19 18,oM 5 19]
def Yu7:List AI:=[oL 20 1,oO 21 (.slL 1 (.t 20) (some (.c (.i .i64 1))) none),oS 1 1 21]
def Xs7:List AI:=[oM 22 5,oM 3 22,oC 4 (.b true)]
abbrev Ygb:AC:=(sR 3 Xi0 (sR 4 Yu7 (sR 5 Xs7 .ret)))
abbrev Zuu:AC:=(sR 0 Xpe (.seq (sR 1 Xoi (.cond (.t 16) (sR 2 Yjn .ret) .skip)) Ygb))
def Zag:AF:={ nt:=23,res:=[.tmp 3,.tmp 4],body:=Zuu }
def Yq4:List AI:=[oY 3 3 0,oC 6 (.b false)]
def Xd1:List AI:=[oM 23 2,oO 24 (.callv (.t 23) [(.c (.s [32,32,35]))]),oM 22 24,oE 25 0 22,oE 26 1 22,oM 7 25,oM 8 26]
def Yr4:List AI:=[oM 27 8,oZ 28 27]
def Xjn:List AI:=[oM 29 7,oO 30 (.slS (.t 29) (some (.c (.i .i64 2))) none),oO 31 (.bslice [zs] 1 [(0,(.t 30))]),oM 9 31]
def Yyn:List AI:=[oM 33 2,oO 34 (.callv (.t 33) [(.c (.s [32,32,32,32]))]),oM 32 34,oE 35 0 32,oE 36 1 32,oM 10 35,oM 11 36]
def Xsh:List AI:=[oM 37 11,oZ 38 37]
def Xht:List AI:=[oM 39 9,oM 40 10,oO 41 (.slS (.t 40) (some (.c (.i .i64 2))) none),oO 42 (.bslice [zs] 1 [(0,(.t 41))]),oO 43 (.app 1 16 (.t 39) (.t 42)),oM 9 43]
def Zl0:List AI:=[oK 45 3 3,oM 46 9,oQ 47 84 [45,46],oM 44 47,oE 48 0 44,oE 49 1 44,oE 50 2 44,oO 13 (.alloc [z6,z6,z7,zl]),oM 12 48,oS 4 13 49,oM 14 50]
def Xy7:List AI:=[oM 51 14,oV 52 .neq 51 0]
def Xym:List AI:=[oC 6 (.b false)]
def Xe1:List AI:=[oM 53 1,oM 54 1,oN 55 54,oF 56 2 55,oL 57 56,oK 58 4 13,oO 59 (.bslice [z6,z6,z7,zl] 1 [(0,(.t 58))]),oO 60 (.app 4 48 (.t 57) (.t 59)),oN 61 53,oF 62 2 61,oS 1 62 60]
def Xoq:List AI:=[oM 64 2,oO 65 (.callv (.t 64) [(.c (.s [32,32,100,101,102,101,114,32]))]),oM 63 65,oE 66 0 63,oE 67 1 63,oM 15 66,oM 16 67]
def Xck:List AI:=[oM 68 16,oZ 69 68]
def Yl9:List AI:=[oK 71 3 3,oM 72 15,oO 73 (.slS (.t 72) (some (.c (.i .i64 2))) none),oQ 74 318 [71,73],oM 70 74,oE 75 0 70,oE 76 1 70,oO 17 (.alloc [z6,z6,zb,z8,z6,zs,zl,zb]),oS 8 17 75,oM 16 76]
def Xu4:List AI:=[oM 77 16,oZ 78 77]
def Ywc:List AI:=[oC 6 (.b false)]
def Ytg:List AI:=[oM 79 1,oM 80 1,oN 81 80,oF 82 3 81,oL 83 82,oK 84 8 17,oO 85 (.bslice [z6,z6,zb,z8,z6,zs,zl,zb] 1 [(0,(.t 84))]),oO 86 (.app 8 88 (.t 83) (.t 85)),oN 87 79,oF 88 3 87,oS 1 88 86]
def Xo0:List AI:=[oM 90 2,oO 91 (.callv (.t 90) [(.c (.s [32,32]))]),oM 89 91,oE 92 0 89,oE 93 1 89,oM 18 92,oM 19 93]
def Xb3:List AI:=[oM 94 19,oZ 95 94]
def Ypw:List AI:=[oC 6 (.b true)]
def Ybw:List AI:=[oM 97 18,oO 98 (.slS (.t 97) (some (.c (.i .i64 2))) none),oQ 99 156 [98],oM 96 99,oE 100 0 96,oE 101 1 96,oO 20 (.alloc [z7,z8,z6,zs,zl,zb,z7]),oS 7 20 100,oM 21 101]
def Yue:List AI:=[oM 102 21,oV 103 .neq 102 0]
def Xg4:List AI:=[oC 6 (.b false)]
def Wdw:List AI:=[oM 104 1,oM 105 1,oN 106 105,oF 107 4 106,oL 108 107,oK 109 7 20,oO 110 (.bslice [z7,z8,z6,zs,zl,zb,z7] 1 [(0,(.t 109))]),oO 111 (.app 7 80 (.t 108) (.t 110)),oN 112 104,oF 113 4 112,oS 1 113 111]
abbrev Ygg:AC:=(.block 3 (sR 4 Yyn (.seq (sR 5 Xsh (.cond (.t 38) (.exit 2) .skip)) (.reg 6 Xht))))
abbrev Yhv:AC:=(sR 7 Zl0 (.seq (sR 8 Xy7 (.cond (.t 52) (sR 9 Xym .ret) .skip)) (.reg 10 Xe1)))
abbrev Zx5:AC:=(.block 1 (sR 1 Xd1 (.seq (sR 2 Yr4 (.cond (.t 28) (.exit 0) .skip)) (sR 3 Xjn (.seq (.block 2 (.loop Ygg)) Yhv)))))
abbrev Yhg:AC:=(.block 5 (sR 11 Xoq (.seq (sR 12 Xck (.cond (.t 69) (.exit 4) .skip)) (sR 13 Yl9 (.seq (sR 14 Xu4 (.cond (.t 78) (sR 15 Ywc .ret) .skip)) (.reg 16 Ytg))))))
abbrev Yj0:AC:=(.block 7 (sR 17 Xo0 (.seq (sR 18 Xb3 (.cond (.t 95) (sR 19 Ypw .ret) .skip)) (sR 20 Ybw (.seq (sR 21 Yue (.cond (.t 103) (sR 22 Xg4 .ret) .skip)) (.reg 23 Wdw))))))
abbrev Yeh:AC:=(.block 6 (.loop Yj0))
abbrev Ya0:AC:=(.seq (.block 4 (.loop Yhg)) Yeh)
abbrev Ypp:AC:=(.seq (.block 0 (.loop Zx5)) Ya0)
abbrev Ya4:AC:=(sR 0 Yq4 Ypp)
def Iy:AF:={ nt:=114,res:=[.tmp 6],body:=Ya4 }
def Yey:List AI:=[oY 2 3 0,oO 4 (.alloc [z8,z6,z6,zl]),oI 5 0]
def Xeq:List AI:=[oM 17 1,oH 18 17,oV 19 .gtr 18 300000]
def Xv5:List AI:=[oO 20 (.build [z8,z6,z6,zl] []),oS 4 4 20,oI 5 4]
def Zuk:List AI:=[oM 21 1,oO 22 (.call false 304 [(.t 21),(.c (.s [10]))]),oO 6 (.alloc [zl]),oS 1 6 22]
def Xfd:List AI:=[oO 23 (.mkfn 305 [(.t 6)]),oM 7 23]
def Xcu:List AI:=[oM 25 7,oO 26 (.callv (.t 25) [(.c (.s [111,117,116,99,111,109,101,32]))]),oM 24 26,oE 27 0 24,oE 28 1 24,oM 8 27,oM 9 28]
def Ztf:List AI:=[oM 30 8,oO 31 (.call true 307 [(.t 30)]),oM 29 31,oE 32 0 29,oE 33 1 29,oO 10 (.alloc [z8,z6,z6,zl]),oS 4 10 32,oM 11 33]
def Xy5:List AI:=[oM 34 9,oZ 35 34,oM 36 35,gF 36 (oM 37 11),gF 36 (oZ 38 37),oR 39 36 38]
def Yun:List AI:=[oO 40 (.build [z8,z6,z6,zl] []),oS 4 4 40,oI 5 12]
def Xtg:List AI:=[oM 42 7,oO 43 (.callv (.t 42) [(.c (.s [103,111,114,111,117,116,105,110,101,32]))]),oM 41 43,oE 44 0 41,oE 45 1 41,oM 12 44,oM 13 45]
def Yr2:List AI:=[oM 46 13,oZ 47 46]
def Zv3:List AI:=[oM 49 12,oO 50 (.call true 308 [(.t 49)]),oM 48 50,oE 51 0 48,oE 52 1 48,oO 14 (.alloc [z8,z6,zl,zl,zl]),oS 5 14 51,oM 13 52]
def Xrc:List AI:=[oM 53 13,oZ 54 53,oM 55 54,gF 55 (oK 56 3 2),gF 55 (oM 57 7),gF 55 (oO 58 (.call true 309 [(.t 56),(.t 14),(.t 57)])),gF 55 (oZ 59 58),oR 60 55 59]
def Yyx:List AI:=[oO 61 (.build [z8,z6,z6,zl] []),oS 4 4 61,oI 5 12]
def Xyn:List AI:=[oF 62 3 10,oL 63 62,oK 64 5 14,oO 65 (.bslice [z8,z6,zl,zl,zl] 1 [(0,(.t 64))]),oO 66 (.app 5 88 (.t 63) (.t 65)),oF 67 3 10,oS 1 67 66]
def Yzh:List AI:=[oK 69 3 2,oK 70 4 10,oQ 71 205 [69,70],oM 68 71,oE 72 0 68,oE 73 1 68,oM 15 72,oM 16 73]
def Xrw:List AI:=[oM 74 16,oV 75 .neq 74 0,oM 76 75,gF 76 (oM 77 15),gF 76 (oM 78 1),gF 76 (oT 79 .neq 77 78),oR 80 76 79]
def Xiw:List AI:=[oO 81 (.build [z8,z6,z6,zl] []),oS 4 4 81,oI 5 12]
def Xog:List AI:=[oK 82 4 10,oS 4 4 82,oI 5 0]
abbrev Xv8:AC:=(.reg 14 Xyn)
abbrev Yde:AC:=(.block 1 (sR 9 Xtg (.seq (sR 10 Yr2 (.cond (.t 47) (.exit 0) .skip)) (sR 11 Zv3 (.seq (sR 12 Xrc (.cond (.t 60) (sR 13 Yyx .ret) .skip)) Xv8)))))
abbrev Yh0:AC:=(.seq (sR 15 Yzh (sR 16 Xrw (.cond (.t 80) (sR 17 Xiw .ret) .skip))) (sR 18 Xog .ret))
abbrev Ytn:AC:=(.seq (.block 0 (.loop Yde)) Yh0)
abbrev Yyz:AC:=(.seq (sR 7 Xy5 (.cond (.t 39) (sR 8 Yun .ret) .skip)) Ytn)
abbrev Wh6:AC:=(sR 6 Ztf Yyz)
abbrev Yvz:AC:=(sR 5 Xcu Wh6)
abbrev Yj2:AC:=(sR 4 Xfd Yvz)
abbrev Xks:AC:=(sR 3 Zuk Yj2)
abbrev Ygv:AC:=(.seq (sR 1 Xeq (.cond (.t 19) (sR 2 Xv5 .ret) .skip)) Xks)
abbrev Zvu:AC:=(sR 0 Yey Ygv)
def Se:AF:={ nt:=83,res:=[.cell 4 4 true,.tmp 5],body:=Zvu }
end Go.AM

/- MADE BY PROGRAM (seat2.py): the types of the program, and that its code is the machine's. -/
namespace Go.Proofs
open Go.Shelf
def Tryz.lays169_ren : Go.Shelf.Ren := ⟨fun | 169 => 36 | n => n, fun | 70 => 89 | 9 => 9 | 0 => 0 | 72 => 91 | 37 => 75 | 127 => 134 | 3 => 3 | 5 => 5 | n => n, fun | n => n⟩
theorem Tryz.lays169 : Go.Proofs.Lays.n169 Tryz.prog Tryz.lays169_ren := {
  mixed := by kernel_rfl
  f169 := Tryz.func36.trans (congrArg some (by kernel_rfl))
  t0 := Tryz.underlying0
  a0 := Tryz.isAgg0
  z0 := Tryz.sizeOf0
  v0 := Tryz.zeroValue0
  t3 := Tryz.underlying3
  a3 := Tryz.isAgg3
  z3 := Tryz.sizeOf3
  v3 := Tryz.zeroValue3
  t9 := Tryz.underlying9
  a9 := Tryz.isAgg9
  z9 := Tryz.sizeOf9
  v9 := Tryz.zeroValue9
  t37 := Tryz.underlying75
  a37 := Tryz.isAgg75
  z37 := Tryz.sizeOf75
  v37 := Tryz.zeroValue75
  t70 := Tryz.underlying89
  a70 := Tryz.isAgg89
  z70 := Tryz.sizeOf89
  v70 := Tryz.zeroValue89
  t72 := Tryz.underlying91
  a72 := Tryz.isAgg91
  z72 := Tryz.sizeOf91
  v72 := Tryz.zeroValue91
  t127 := Tryz.underlying134
  a127 := Tryz.isAgg134
  z127 := Tryz.sizeOf134
  v127 := Tryz.zeroValue134 }

theorem Tryz.extraB : Builder.Extra Tryz.prog Tryz.lays169_ren := {
  sizeBuilder := by kernel_rfl
  liesBuilder := by kernel_rfl
  t5 := Tryz.underlying5
  a5 := Tryz.isAgg5
  z5 := Tryz.sizeOf5
  v5 := Tryz.zeroValue5
  infoByte := by kernel_rfl
  cellsByte := by kernel_rfl
  sizeByte := by kernel_rfl
  neB5 := by decide }
def Tryz.lays146_ren : Go.Shelf.Ren := ⟨fun | 146 => 46 | 221 => 84 | 268 => 124 | 138 => 125 | 143 => 126 | 195 => 155 | 197 => 156 | 218 => 157 | 219 => 158 | 260 => 175 | 217 => 176 | 225 => 177 | 224 => 178 | 267 => 179 | 266 => 185 | 314 => 186 | n => n, fun | 9 => 9 | 31 => 23 | 3 => 3 | 4 => 4 | 0 => 0 | 105 => 222 | 21 => 21 | 5 => 5 | 46 => 238 | 119 => 245 | 139 => 248 | 138 => 247 | 146 => 250 | 51 => 249 | n => n, fun | 1 => 0 | 3 => 1 | 4 => 2 | n => n⟩
theorem Tryz.lays146 : Go.Proofs.Lays.n146 Tryz.prog Tryz.lays146_ren := {
  mixed := by kernel_rfl
  f138 := Tryz.func125.trans (congrArg some (by kernel_rfl))
  f143 := Tryz.func126.trans (congrArg some (by kernel_rfl))
  f146 := Tryz.func46.trans (congrArg some (by kernel_rfl))
  f195 := Tryz.func155.trans (congrArg some (by kernel_rfl))
  f197 := Tryz.func156.trans (congrArg some (by kernel_rfl))
  f217 := Tryz.func176.trans (congrArg some (by kernel_rfl))
  f218 := Tryz.func157.trans (congrArg some (by kernel_rfl))
  f219 := Tryz.func158.trans (congrArg some (by kernel_rfl))
  f221 := Tryz.func84.trans (congrArg some (by kernel_rfl))
  f224 := Tryz.func178.trans (congrArg some (by kernel_rfl))
  f225 := Tryz.func177.trans (congrArg some (by kernel_rfl))
  f260 := Tryz.func175.trans (congrArg some (by kernel_rfl))
  f266 := Tryz.func185.trans (congrArg some (by kernel_rfl))
  f267 := Tryz.func179.trans (congrArg some (by kernel_rfl))
  f268 := Tryz.func124.trans (congrArg some (by kernel_rfl))
  f314 := Tryz.func186.trans (congrArg some (by kernel_rfl))
  t0 := Tryz.underlying0
  a0 := Tryz.isAgg0
  z0 := Tryz.sizeOf0
  v0 := Tryz.zeroValue0
  t3 := Tryz.underlying3
  a3 := Tryz.isAgg3
  z3 := Tryz.sizeOf3
  v3 := Tryz.zeroValue3
  t4 := Tryz.underlying4
  a4 := Tryz.isAgg4
  z4 := Tryz.sizeOf4
  v4 := Tryz.zeroValue4
  t5 := Tryz.underlying5
  a5 := Tryz.isAgg5
  z5 := Tryz.sizeOf5
  v5 := Tryz.zeroValue5
  t9 := Tryz.underlying9
  a9 := Tryz.isAgg9
  z9 := Tryz.sizeOf9
  v9 := Tryz.zeroValue9
  t21 := Tryz.underlying21
  a21 := Tryz.isAgg21
  z21 := Tryz.sizeOf21
  v21 := Tryz.zeroValue21
  t31 := Tryz.underlying23
  a31 := Tryz.isAgg23
  z31 := Tryz.sizeOf23
  v31 := Tryz.zeroValue23
  t46 := Tryz.underlying238
  a46 := Tryz.isAgg238
  z46 := Tryz.sizeOf238
  v46 := Tryz.zeroValue238
  t51 := Tryz.underlying249
  a51 := Tryz.isAgg249
  z51 := Tryz.sizeOf249
  v51 := Tryz.zeroValue249
  t105 := Tryz.underlying222
  a105 := Tryz.isAgg222
  z105 := Tryz.sizeOf222
  v105 := Tryz.zeroValue222
  t119 := Tryz.underlying245
  a119 := Tryz.isAgg245
  z119 := Tryz.sizeOf245
  t138 := Tryz.underlying247
  a138 := Tryz.isAgg247
  z138 := Tryz.sizeOf247
  v138 := Tryz.zeroValue247
  t139 := Tryz.underlying248
  a139 := Tryz.isAgg248
  z139 := Tryz.sizeOf248
  v139 := Tryz.zeroValue248
  t146 := Tryz.underlying250
  a146 := Tryz.isAgg250
  z146 := Tryz.sizeOf250
  v146 := Tryz.zeroValue250
  g1 := by kernel_rfl
  g3 := by kernel_rfl
  g4 := by kernel_rfl }

def Tryz.lays147_ren : Go.Shelf.Ren := ⟨fun | 147 => 136 | 221 => 84 | 268 => 124 | 138 => 125 | 143 => 126 | 195 => 155 | 197 => 156 | 218 => 157 | 219 => 158 | 260 => 175 | 217 => 176 | 225 => 177 | 224 => 178 | 267 => 179 | 266 => 185 | 314 => 186 | n => n, fun | 9 => 9 | 3 => 3 | 31 => 23 | 4 => 4 | 0 => 0 | 105 => 222 | 21 => 21 | 5 => 5 | 46 => 238 | 119 => 245 | 139 => 248 | 138 => 247 | 146 => 250 | 51 => 249 | n => n, fun | 1 => 0 | 3 => 1 | 4 => 2 | n => n⟩
theorem Tryz.lays147 : Go.Proofs.Lays.n147 Tryz.prog Tryz.lays147_ren := {
  mixed := by kernel_rfl
  f138 := Tryz.func125.trans (congrArg some (by kernel_rfl))
  f143 := Tryz.func126.trans (congrArg some (by kernel_rfl))
  f147 := Tryz.func136.trans (congrArg some (by kernel_rfl))
  f195 := Tryz.func155.trans (congrArg some (by kernel_rfl))
  f197 := Tryz.func156.trans (congrArg some (by kernel_rfl))
  f217 := Tryz.func176.trans (congrArg some (by kernel_rfl))
  f218 := Tryz.func157.trans (congrArg some (by kernel_rfl))
  f219 := Tryz.func158.trans (congrArg some (by kernel_rfl))
  f221 := Tryz.func84.trans (congrArg some (by kernel_rfl))
  f224 := Tryz.func178.trans (congrArg some (by kernel_rfl))
  f225 := Tryz.func177.trans (congrArg some (by kernel_rfl))
  f260 := Tryz.func175.trans (congrArg some (by kernel_rfl))
  f266 := Tryz.func185.trans (congrArg some (by kernel_rfl))
  f267 := Tryz.func179.trans (congrArg some (by kernel_rfl))
  f268 := Tryz.func124.trans (congrArg some (by kernel_rfl))
  f314 := Tryz.func186.trans (congrArg some (by kernel_rfl))
  t0 := Tryz.underlying0
  a0 := Tryz.isAgg0
  z0 := Tryz.sizeOf0
  v0 := Tryz.zeroValue0
  t3 := Tryz.underlying3
  a3 := Tryz.isAgg3
  z3 := Tryz.sizeOf3
  v3 := Tryz.zeroValue3
  t4 := Tryz.underlying4
  a4 := Tryz.isAgg4
  z4 := Tryz.sizeOf4
  v4 := Tryz.zeroValue4
  t5 := Tryz.underlying5
  a5 := Tryz.isAgg5
  z5 := Tryz.sizeOf5
  v5 := Tryz.zeroValue5
  t9 := Tryz.underlying9
  a9 := Tryz.isAgg9
  z9 := Tryz.sizeOf9
  v9 := Tryz.zeroValue9
  t21 := Tryz.underlying21
  a21 := Tryz.isAgg21
  z21 := Tryz.sizeOf21
  v21 := Tryz.zeroValue21
  t31 := Tryz.underlying23
  a31 := Tryz.isAgg23
  z31 := Tryz.sizeOf23
  v31 := Tryz.zeroValue23
  t46 := Tryz.underlying238
  a46 := Tryz.isAgg238
  z46 := Tryz.sizeOf238
  v46 := Tryz.zeroValue238
  t51 := Tryz.underlying249
  a51 := Tryz.isAgg249
  z51 := Tryz.sizeOf249
  v51 := Tryz.zeroValue249
  t105 := Tryz.underlying222
  a105 := Tryz.isAgg222
  z105 := Tryz.sizeOf222
  v105 := Tryz.zeroValue222
  t119 := Tryz.underlying245
  a119 := Tryz.isAgg245
  z119 := Tryz.sizeOf245
  t138 := Tryz.underlying247
  a138 := Tryz.isAgg247
  z138 := Tryz.sizeOf247
  v138 := Tryz.zeroValue247
  t139 := Tryz.underlying248
  a139 := Tryz.isAgg248
  z139 := Tryz.sizeOf248
  v139 := Tryz.zeroValue248
  t146 := Tryz.underlying250
  a146 := Tryz.isAgg250
  z146 := Tryz.sizeOf250
  v146 := Tryz.zeroValue250
  g1 := by kernel_rfl
  g3 := by kernel_rfl
  g4 := by kernel_rfl }

def Tryz.lays219_ren : Go.Shelf.Ren := ⟨fun | 219 => 158 | 217 => 176 | 225 => 177 | 224 => 178 | 267 => 179 | 266 => 185 | 314 => 186 | n => n, fun | 9 => 9 | 3 => 3 | 4 => 4 | 5 => 5 | 46 => 238 | 146 => 250 | 51 => 249 | n => n, fun | 1 => 0 | n => n⟩
theorem Tryz.lays219 : Go.Proofs.Lays.n219 Tryz.prog Tryz.lays219_ren := {
  mixed := by kernel_rfl
  f217 := Tryz.func176.trans (congrArg some (by kernel_rfl))
  f219 := Tryz.func158.trans (congrArg some (by kernel_rfl))
  f224 := Tryz.func178.trans (congrArg some (by kernel_rfl))
  f225 := Tryz.func177.trans (congrArg some (by kernel_rfl))
  f266 := Tryz.func185.trans (congrArg some (by kernel_rfl))
  f267 := Tryz.func179.trans (congrArg some (by kernel_rfl))
  f314 := Tryz.func186.trans (congrArg some (by kernel_rfl))
  t3 := Tryz.underlying3
  a3 := Tryz.isAgg3
  z3 := Tryz.sizeOf3
  v3 := Tryz.zeroValue3
  t4 := Tryz.underlying4
  a4 := Tryz.isAgg4
  z4 := Tryz.sizeOf4
  v4 := Tryz.zeroValue4
  t5 := Tryz.underlying5
  a5 := Tryz.isAgg5
  z5 := Tryz.sizeOf5
  v5 := Tryz.zeroValue5
  t9 := Tryz.underlying9
  a9 := Tryz.isAgg9
  z9 := Tryz.sizeOf9
  v9 := Tryz.zeroValue9
  t46 := Tryz.underlying238
  a46 := Tryz.isAgg238
  z46 := Tryz.sizeOf238
  v46 := Tryz.zeroValue238
  t51 := Tryz.underlying249
  a51 := Tryz.isAgg249
  z51 := Tryz.sizeOf249
  v51 := Tryz.zeroValue249
  t146 := Tryz.underlying250
  a146 := Tryz.isAgg250
  z146 := Tryz.sizeOf250
  v146 := Tryz.zeroValue250
  g1 := by kernel_rfl }

end Go.Proofs
namespace Go.Proofs.YtheacfnopahmjaaGreatDoor
open Go Go.AM

def Ma : List (Nat × TI) := [
(2, ⟨.int .i64, 1, 8, [z6]⟩),
  (3, ⟨.int .i64, 1, 8, [z6]⟩),
  (4, ⟨.bool, 1, 1, [zb]⟩),
  (5, ⟨.int .u8, 1, 1, [z8]⟩),
  (9, ⟨.str, 1, 16, [zs]⟩),
  (22, ⟨.sl 267, 1, 24, [zl]⟩),
  (23, ⟨.sl 9, 1, 24, [zl]⟩),
  (24, ⟨.sl 85, 1, 24, [zl]⟩),
  (26, ⟨.st [(22, 0), (23, 1), (24, 2)], 3, 72, [zl, zl, zl]⟩),
  (27, ⟨.sl 43, 1, 24, [zl]⟩),
  (29, ⟨.st [(5, 0), (3, 1), (3, 2), (27, 3)], 4, 48, [z8, z6, z6, zl]⟩),
  (34, ⟨.int .i64, 1, 8, [z6]⟩),
  (39, ⟨.sl 55, 1, 24, [zl]⟩),
  (40, ⟨.sl 63, 1, 24, [zl]⟩),
  (41, ⟨.sl 65, 1, 24, [zl]⟩),
  (43, ⟨.st [(5, 0), (2, 1), (39, 2), (40, 3), (41, 4)], 5, 88, [z8, z6, zl, zl, zl]⟩),
  (52, ⟨.int .u64, 1, 8, [z7]⟩),
  (53, ⟨.sl 61, 1, 24, [zl]⟩),
  (55, ⟨.st [(3, 0), (3, 1), (52, 2), (53, 3)], 4, 48, [z6, z6, z7, zl]⟩),
  (56, ⟨.sl 58, 1, 24, [zl]⟩),
  (58, ⟨.st [(5, 0), (2, 1), (9, 2), (56, 3), (4, 4)], 5, 64, [z8, z6, zs, zl, zb]⟩),
  (61, ⟨.st [(3, 0), (58, 1)], 6, 72, [z6, z8, z6, zs, zl, zb]⟩),
  (63, ⟨.st [(3, 0), (3, 1), (4, 2), (58, 3)], 8, 88, [z6, z6, zb, z8, z6, zs, zl, zb]⟩),
  (65, ⟨.st [(52, 0), (58, 1), (52, 6)], 7, 80, [z7, z8, z6, zs, zl, zb, z7]⟩),
  (68, ⟨.other, 1, 8, [.nf]⟩),
  (72, ⟨.other, 1, 8, [.nf]⟩),
  (75, ⟨.sl 5, 1, 24, [zl]⟩),
  (81, ⟨.sl 87, 1, 24, [zl]⟩),
  (82, ⟨.sl 269, 1, 24, [zl]⟩),
  (83, ⟨.sl 271, 1, 24, [zl]⟩),
  (85, ⟨.st [(9, 0), (3, 1), (3, 2), (81, 3), (82, 4), (83, 5), (83, 6)], 7, 128, [zs, z6, z6, zl, zl, zl, zl]⟩),
  (87, ⟨.st [(9, 0), (3, 1)], 2, 24, [zs, z6]⟩),
  (89, ⟨.ptr 91, 1, 8, [.np]⟩),
  (91, ⟨.st [(89, 0), (75, 1)], 2, 32, [.np, .sl .full []]⟩),
  (93, ⟨.other, 1, 16, [.ni]⟩),
  (96, ⟨.arr 9 9, 9, 144, [zs, zs, zs, zs, zs, zs, zs, zs, zs]⟩),
  (103, ⟨.arr 4 9, 4, 64, [zs, zs, zs, zs]⟩),
  (111, ⟨.other, 1, 8, [.nf]⟩),
  (118, ⟨.ptr 43, 1, 8, [.np]⟩),
  (129, ⟨.other, 1, 8, [.nf]⟩),
  (138, ⟨.other, 1, 8, [.nf]⟩),
  (141, ⟨.other, 1, 8, [.nf]⟩),
  (185, ⟨.uptr, 1, 8, [.np]⟩),
  (189, ⟨.other, 1, 8, [.nf]⟩),
  (193, ⟨.arr 5 5, 5, 5, [z8, z8, z8, z8, z8]⟩),
  (196, ⟨.arr 64 5, 64, 64, [z8, z8, z8, z8, z8, z8, z8, z8, z8, z8, z8, z8, z8, z8, z8, z8, z8, z8, z8, z8, z8, z8, z8, z8, z8, z8, z8, z8, z8, z8, z8, z8, z8, z8, z8, z8, z8, z8, z8, z8, z8, z8, z8, z8, z8, z8, z8, z8, z8, z8, z8, z8, z8, z8, z8, z8, z8, z8, z8, z8, z8, z8, z8, z8]⟩),
  (221, ⟨.arr 8 9, 8, 128, [zs, zs, zs, zs, zs, zs, zs, zs]⟩),
  (226, ⟨.ptr 228, 1, 8, [.np]⟩),
  (228, ⟨.st [(9, 0)], 1, 16, [zs]⟩),
  (267, ⟨.st [(5, 0), (3, 1), (3, 2), (81, 3)], 4, 48, [z8, z6, z6, zl]⟩),
  (269, ⟨.st [(5, 0), (3, 1), (3, 2), (3, 3)], 4, 32, [z8, z6, z6, z6]⟩),
  (271, ⟨.st [(3, 0), (52, 1)], 2, 16, [z6, z7]⟩)]
theorem Xxw : ∀ x ∈ Ma, Kj Tryz.prog x.1 x.2 :=
 tC (tK Tryz.t2 kE) (tC (tK Tryz.t3 kE) (tC (tK Tryz.t4 kE) (tC (tK Tryz.t5 kE) (tC (tK Tryz.t9 kE) (tC (tK Tryz.t22 kE) (tC (tK Tryz.t23 kE) (tC (tK Tryz.t24 kE) (tC (tK Tryz.t26 kS) (tC (tK Tryz.t27 kE) (tC (tK Tryz.t29 kS) (tC (tK Tryz.t34 kE) (tC (tK Tryz.t39 kE) (tC (tK Tryz.t40 kE) (tC (tK Tryz.t41 kE) (tC (tK Tryz.t43 kS) (tC (tK Tryz.t52 kE) (tC (tK Tryz.t53 kE) (tC (tK Tryz.t55 kS) (tC (tK Tryz.t56 kE) (tC (tK Tryz.t58 kS) (tC (tK Tryz.t61 kS) (tC (tK Tryz.t63 kS) (tC (tK Tryz.t65 kS) (tC (tK Tryz.t68 kO) (tC (tK Tryz.t72 kO) (tC (tK Tryz.t75 kE) (tC (tK Tryz.t81 kE) (tC (tK Tryz.t82 kE) (tC (tK Tryz.t83 kE) (tC (tK Tryz.t85 kS) (tC (tK Tryz.t87 kS) (tC (tK Tryz.t89 (And.intro (by kernel_rfl) (by kernel_rfl))) (tC (tK Tryz.t91 kS) (tC (tK Tryz.t93 kO) (tC (tK Tryz.t96 kE) (tC (tK Tryz.t103 kE) (tC (tK Tryz.t111 kO) (tC (tK Tryz.t118 (And.intro (by kernel_rfl) (by kernel_rfl))) (tC (tK Tryz.t129 kO) (tC (tK Tryz.t138 kO) (tC (tK Tryz.t141 kO) (tC (tK Tryz.t185 kE) (tC (tK Tryz.t189 kO) (tC (tK Tryz.t193 kE) (tC (tK Tryz.t196 kE) (tC (tK Tryz.t221 kE) (tC (tK Tryz.t226 (And.intro (by kernel_rfl) (by kernel_rfl))) (tC (tK Tryz.t228 kS) (tC (tK Tryz.t267 kS) (tC (tK Tryz.t269 kS) (tC (tK Tryz.t271 kS) (tN))))))))))))))))))))))))))))))))))))))))))))))))))))
def Rx : List (Nat × Nat) := [(2, 2), (3, 286), (4, 287), (5, 288), (6, 289), (7, 290), (8, 79), (9, 203), (10, 214), (11, 205), (12, 177), (13, 207), (14, 29), (15, 291), (16, 209), (17, 211), (18, 292), (19, 293), (20, 294), (21, 295), (22, 296), (23, 297), (24, 213), (25, 298), (26, 299), (27, 300), (28, 301), (29, 302), (30, 204), (31, 221), (32, 126), (33, 215), (34, 216), (35, 217), (36, 105), (37, 219), (38, 220), (39, 15), (40, 82), (41, 154), (42, 141), (43, 303), (44, 224), (45, 225), (46, 304), (47, 305), (48, 306), (49, 307), (50, 308), (51, 309), (52, 310), (53, 311), (54, 312), (55, 85), (56, 313), (57, 157), (58, 218), (59, 314), (60, 162), (61, 80), (62, 71), (63, 163), (64, 87), (65, 235), (66, 145), (67, 227), (68, 228), (69, 86), (70, 229), (71, 230), (72, 231), (73, 232), (74, 233), (75, 158), (76, 234), (77, 34), (78, 111), (79, 112), (80, 113), (81, 72), (82, 178), (83, 236), (84, 315), (85, 46), (86, 260), (87, 316), (88, 317), (89, 36), (90, 21), (91, 84), (92, 318), (93, 156), (94, 319), (95, 212), (96, 320), (97, 22), (98, 120), (99, 121), (100, 114), (101, 75), (102, 182), (103, 159), (104, 179), (105, 223), (106, 226), (107, 222), (108, 170), (109, 88), (110, 78), (111, 102), (112, 103), (113, 77), (114, 146), (115, 237), (116, 122), (117, 123), (118, 76), (119, 238), (120, 239), (121, 183), (122, 11), (123, 104), (124, 321), (125, 187), (126, 194), (127, 266), (128, 322), (129, 42), (130, 37), (131, 115), (132, 116), (133, 117), (134, 118), (135, 119), (136, 323), (137, 74), (138, 180), (139, 181), (140, 38), (141, 142), (142, 143), (143, 31), (144, 138), (145, 137), (146, 106), (147, 108), (148, 16), (149, 160), (150, 124), (151, 110), (152, 144), (153, 109), (154, 30), (155, 192), (156, 324), (158, 197), (159, 43), (160, 139), (161, 128), (162, 140), (163, 107), (164, 190), (165, 44), (166, 132), (167, 135), (168, 41), (169, 127), (170, 133), (171, 134), (172, 26), (173, 35), (174, 136), (175, 325), (176, 47), (178, 199), (179, 200), (180, 131), (181, 129), (182, 130), (183, 191), (184, 40), (185, 48), (186, 201), (187, 25), (188, 39), (189, 45), (212, 330), (1000000000000, 1000000091), (1000000000001, 1000000005), (1000000000004, 1000000000)]
def X : Cx := ⟨Zpl Ma, Fv Rx, fun c => [30, 89, 104, 105, 107, 115, 116, 117, 120, 122, 123, 126, 128, 129, 130, 131, 139, 140, 144, 145, 146, 184, 217, 224, 225, 227, 228, 229, 230, 232, 233, 236, 237, 238, 239, 252, 268, 269, 270, 271, 272, 273, 274, 275, 276, 307, 308, 309, 311, 312].contains c, []⟩
theorem Yti : Yc Tryz.prog X 129 Zfh := fK Tryz.func129
theorem Xbx : Yc Tryz.prog X 85 Zdv := fK Tryz.func85
theorem Yqn : Yc Tryz.prog X 89 Ze5 := fK Tryz.func89
theorem Xsn : Yc Tryz.prog X 159 Zd0 := fK Tryz.func159
theorem Wac : Yc Tryz.prog X 176 Zcl := fK Tryz.func176
theorem Yn1 : Yc Tryz.prog X 122 Zdm := fK Tryz.func122
theorem Ytu : Yc Tryz.prog X 39 Zdu := fK Tryz.func39
theorem Yv8 : Yc Tryz.prog X 90 Zd6 := fK Tryz.func90
theorem Wd3 : Yc Tryz.prog X 187 Ze3 := fK Tryz.func187
theorem Xnr : Yc Tryz.prog X 154 Za8 := fK Tryz.func154
theorem Wge : Yc Tryz.prog X 77 Zes := fK Tryz.func77
theorem Waw : Yc Tryz.prog X 130 Zc3 := fK Tryz.func130
theorem Wc7 : Yc Tryz.prog X 188 Ep := fK Tryz.func188
theorem Yom : Yc Tryz.prog X 189 Es := fK Tryz.func189
theorem Xhe : Yc Tryz.prog X 14 Zgm := fK Tryz.func14
theorem Yzg : Yc Tryz.prog X 66 Zq5 := fK Tryz.func66
theorem Xkx : Yc Tryz.prog X 32 Zlk := fK Tryz.func32
theorem Yrs : Yc Tryz.prog X 62 Zcp := fK Tryz.func62
theorem Wj2 : Yc Tryz.prog X 81 Zb4 := fK Tryz.func81
theorem Ynw : Yc Tryz.prog X 137 Ee := fK Tryz.func137
theorem Xxo : Yc Tryz.prog X 118 Zdn := fK Tryz.func118
theorem Wbx : Yc Tryz.prog X 110 Zh4 := fK Tryz.func110
theorem Yqz : Yc Tryz.prog X 111 Zfe := fK Tryz.func111
theorem Yot : Yc Tryz.prog X 112 Zek := fK Tryz.func112
theorem Yr9 : Yc Tryz.prog X 123 Pf := fK Tryz.func123
theorem Xnh : Yc Tryz.prog X 163 Ct := fK Tryz.func163
theorem Wdo : Yc Tryz.prog X 153 Zaz := fK Tryz.func153
theorem Whd : Yc Tryz.prog X 161 Lp := fK Tryz.func161
theorem Weo : Yc Tryz.prog X 181 Pw := fK Tryz.func181
theorem Xc2 : Yc Tryz.prog X 182 Pg := fK Tryz.func182
theorem Xcl : Yc Tryz.prog X 180 Lw := fK Tryz.func180
theorem Xpw : Yc Tryz.prog X 174 Zr6 := fK Tryz.func174
theorem Xuc : Yc Tryz.prog X 41 Zgw := fK Tryz.func41
theorem Why : Yc Tryz.prog X 75 Zb1 := fK Tryz.func75
theorem Xy0 : Yc Tryz.prog X 82 Ez := fK Tryz.func82
theorem Wdy : Yc Tryz.prog X 138 Zf2 := fK Tryz.func138
theorem Xoc : Yc Tryz.prog X 121 Fo := fK Tryz.func121
theorem Yxo : Yc Tryz.prog X 164 Zem := fK Tryz.func164
theorem Yxc : Yc Tryz.prog X 183 Zfm := fK Tryz.func183
theorem Wgy : Yc Tryz.prog X 93 Ir := fK Tryz.func93
theorem Yu6 : Yc Tryz.prog X 149 Zdw := fK Tryz.func149
theorem Yxt : Yc Tryz.prog X 139 As := fK Tryz.func139
theorem Xyy : Yc Tryz.prog X 60 Zdj := fK Tryz.func60
theorem Yvg : Yc Tryz.prog X 108 Zbx := fK Tryz.func108
theorem Xcj : Yc Tryz.prog X 8 Zgl := fK Tryz.func8
theorem Xiy : Yc Tryz.prog X 61 Zdr := fK Tryz.func61
theorem Wco : Yc Tryz.prog X 40 Zbv := fK Tryz.func40
theorem Yx0 : Yc Tryz.prog X 69 Zec := fK Tryz.func69
theorem Xz5 : Yc Tryz.prog X 109 Zdf := fK Tryz.func109
theorem Xuq : Yc Tryz.prog X 78 Zcq := fK Tryz.func78
theorem Xvp : Yc Tryz.prog X 79 Zef := fK Tryz.func79
theorem Wbe : Yc Tryz.prog X 80 Ex := fK Tryz.func80
theorem Xp9 : Yc Tryz.prog X 131 Zei := fK Tryz.func131
theorem Xzs : Yc Tryz.prog X 132 Zbd := fK Tryz.func132
theorem Xiu : Yc Tryz.prog X 135 Zdg := fK Tryz.func135
theorem Wdb : Yc Tryz.prog X 116 Zg4 := fK Tryz.func116
theorem Xm5 : Yc Tryz.prog X 117 Zgd := fK Tryz.func117
theorem Xu1 : Yc Tryz.prog X 150 Zfg := fK Tryz.func150
theorem Yw6 : Yc Tryz.prog X 144 Zpf := fK Tryz.func144
theorem Xcr : Yc Tryz.prog X 160 Zbp := fK Tryz.func160
theorem Xpz : Yc Tryz.prog X 42 Zch := fK Tryz.func42
theorem Yuc : Yc Tryz.prog X 152 Zf3 := fK Tryz.func152
theorem Wc8 : Yc Tryz.prog X 9 Zgr := fK Tryz.func9
theorem Wf7 : Yc Tryz.prog X 30 Zdc := fK Tryz.func30
theorem Xo3 : Yc Tryz.prog X 11 Ze8 := fK Tryz.func11
theorem Xge : Yc Tryz.prog X 13 Zc0 := fK Tryz.func13
theorem Wcc : Yc Tryz.prog X 17 Zb2 := fK Tryz.func17
theorem Xvw : Yc Tryz.prog X 24 Zep := fK Tryz.func24
theorem Ywg : Yc Tryz.prog X 33 Zao := fK Tryz.func33
theorem Xcd : Yc Tryz.prog X 34 Zf6 := fK Tryz.func34
theorem Yup : Yc Tryz.prog X 35 Zon := fK Tryz.func35
theorem Xy9 : Yc Tryz.prog X 58 Zo8 := fK Tryz.func58
theorem Ytk : Yc Tryz.prog X 37 Zf7 := fK Tryz.func37
theorem Yw3 : Yc Tryz.prog X 38 Zbt := fK Tryz.func38
theorem Xxi : Yc Tryz.prog X 31 Zrk := fK Tryz.func31
theorem Ytw : Yc Tryz.prog X 44 Zbl := fK Tryz.func44
theorem Xvs : Yc Tryz.prog X 45 Zb0 := fK Tryz.func45
theorem Xne : Yc Tryz.prog X 67 Zd9 := fK Tryz.func67
theorem Xau : Yc Tryz.prog X 68 Zfy := fK Tryz.func68
theorem Wb9 : Yc Tryz.prog X 70 Zfx := fK Tryz.func70
theorem Wfh : Yc Tryz.prog X 71 Zbc := fK Tryz.func71
theorem Yx5 : Yc Tryz.prog X 72 Zds := fK Tryz.func72
theorem Wj8 : Yc Tryz.prog X 73 Zfa := fK Tryz.func73
theorem Xn7 : Yc Tryz.prog X 74 Zd1 := fK Tryz.func74
theorem Xzn : Yc Tryz.prog X 76 Zg7 := fK Tryz.func76
theorem Xxr : Yc Tryz.prog X 83 Zfd := fK Tryz.func83
theorem Xz4 : Yc Tryz.prog X 115 Zfp := fK Tryz.func115
theorem Yro : Yc Tryz.prog X 119 Zbu := fK Tryz.func119
theorem Xz0 : Yc Tryz.prog X 120 Zcf := fK Tryz.func120
theorem Yyo : Yc Tryz.prog X 91 Zap := fK Tryz.func91
theorem Xew : Yc Tryz.prog X 133 Ph := fK Tryz.func133
theorem Yzc : Yc Tryz.prog X 134 Af := fK Tryz.func134
theorem Wcb : Yc Tryz.prog X 162 Ll := fK Tryz.func162
theorem Wfm : Yc Tryz.prog X 142 Zow := fK Tryz.func142
theorem Xmi : Yc Tryz.prog X 48 Zbk := fK Tryz.func48
theorem Xxt : Yc Tryz.prog X 87 Ze4 := fK Tryz.func87
theorem Yof : Yc Tryz.prog X 128 Zfo := fK Tryz.func128
theorem Xh5 : Yc Tryz.prog X 86 Al := fK Tryz.func86
theorem Xfr : Yc Tryz.prog X 127 Zaj := fK Tryz.func127
theorem Xg0 : Yc Tryz.prog X 88 Zda := fK Tryz.func88
theorem Xgz : Yc Tryz.prog X 49 Lq := fK Tryz.func49
theorem Yvj : Yc Tryz.prog X 50 Lc := fK Tryz.func50
theorem Xc7 : Yc Tryz.prog X 92 Ae := fK Tryz.func92
theorem Wj5 : Yc Tryz.prog X 26 Se := fK Tryz.func26
theorem Xxv : Yc Tryz.prog X 47 Zag := fK Tryz.func47
theorem Wad : Yc Tryz.prog X 51 Iy := fK Tryz.func51
theorem Xh9 : Yc Tryz.prog X 29 Oa := fK Tryz.func29
theorem Yvn : Yc Tryz.prog X 59 Lv := fK Tryz.func59
theorem Wet : Yc Tryz.prog X 18 Zan := fK Tryz.func18
theorem Xvf : Yc Tryz.prog X 43 Zac := fK Tryz.func43
theorem Xbe : Yc Tryz.prog X 20 Za1 := fK Tryz.func20
theorem Yqb : Yc Tryz.prog X 22 Ed := fK Tryz.func22
theorem Yzd : Yc Tryz.prog X 23 Ow := fK Tryz.func23
theorem Yzv : Yc Tryz.prog X 19 Zbn := fK Tryz.func19
theorem Xyx : Yc Tryz.prog X 7 Zgz := fK Tryz.func7
theorem Zjo : Px X.T 58 := ⟨5, 2, 9, 56, 4, ⟨_, rfl, rfl, rfl⟩, ⟨_, rfl, rfl, rfl⟩, ⟨_, rfl, rfl, rfl⟩, ⟨_, rfl, rfl, rfl⟩, ⟨_, rfl, rfl, rfl⟩, ⟨_, rfl, rfl, rfl⟩⟩
theorem Zy3 : Oc X.T 87 := ⟨9, 3, ⟨_, rfl, rfl, rfl⟩, ⟨_, rfl, rfl, rfl⟩, ⟨_, rfl, rfl, rfl⟩⟩
theorem Ymy : Zej X.T 269 := ⟨5, 3, 3, 3, ⟨_, rfl, rfl, rfl⟩, ⟨_, rfl, rfl, rfl⟩, ⟨_, rfl, rfl, rfl⟩, ⟨_, rfl, rfl, rfl⟩, ⟨_, rfl, rfl, rfl⟩⟩
theorem Ykm : Fi X.T 271 := ⟨3, 52, ⟨_, rfl, rfl, rfl⟩, ⟨_, rfl, rfl, rfl⟩, ⟨_, rfl, rfl, rfl⟩⟩
theorem Xcq : Zb7 X.T 267 := ⟨5, 3, 3, 81, 87, ⟨_, rfl, rfl, rfl⟩, ⟨_, rfl, rfl, rfl⟩, ⟨_, rfl, rfl, rfl⟩, ⟨_, rfl, rfl, rfl⟩, ⟨_, rfl, rfl, rfl⟩, Zy3⟩
theorem Wfq : Zg1 X.T 85 := ⟨9, 3, 3, 81, 82, 83, 83, 87, 269, 271, 271, ⟨_, rfl, rfl, rfl⟩, ⟨_, rfl, rfl, rfl⟩, ⟨_, rfl, rfl, rfl⟩, ⟨_, rfl, rfl, rfl⟩, ⟨_, rfl, rfl, rfl⟩, Zy3, ⟨_, rfl, rfl, rfl⟩, Ymy, ⟨_, rfl, rfl, rfl⟩, Ykm, ⟨_, rfl, rfl, rfl⟩, Ykm⟩
theorem Xy8 : Zg5 X.T 26 := ⟨22, 23, 24, 267, 9, 85, ⟨_, rfl, rfl, rfl⟩, ⟨_, rfl, rfl, rfl⟩, Xcq, ⟨_, rfl, rfl, rfl⟩, ⟨_, rfl, rfl, rfl⟩, ⟨_, rfl, rfl, rfl⟩, Wfq⟩
theorem Yse : Zb9 X.T 61 := ⟨3, 58, ⟨_, rfl, rfl, rfl⟩, ⟨_, rfl, rfl, rfl⟩, Zjo⟩
theorem Xse : Zcw X.T 55 := ⟨3, 3, 52, 53, 61, ⟨_, rfl, rfl, rfl⟩, ⟨_, rfl, rfl, rfl⟩, ⟨_, rfl, rfl, rfl⟩, ⟨_, rfl, rfl, rfl⟩, ⟨_, rfl, rfl, rfl⟩, Yse⟩
theorem Ymd : Zg3 X.T 65 := ⟨52, 58, 52, ⟨_, rfl, rfl, rfl⟩, ⟨_, rfl, rfl, rfl⟩, Zjo, ⟨_, rfl, rfl, rfl⟩⟩
theorem Ypz : Zcr X.T 63 := ⟨3, 3, 4, 58, ⟨_, rfl, rfl, rfl⟩, ⟨_, rfl, rfl, rfl⟩, ⟨_, rfl, rfl, rfl⟩, ⟨_, rfl, rfl, rfl⟩, Zjo⟩
theorem Yvx : Zgj X.T 43 := ⟨5, 2, 39, 40, 41, 55, 63, 65, ⟨_, rfl, rfl, rfl⟩, ⟨_, rfl, rfl, rfl⟩, ⟨_, rfl, rfl, rfl⟩, ⟨_, rfl, rfl, rfl⟩, Xse, ⟨_, rfl, rfl, rfl⟩, Ypz, ⟨_, rfl, rfl, rfl⟩, Ymd⟩
theorem Yeq : Zgf X.T 29 := ⟨5, 3, 3, 27, 43, ⟨_, rfl, rfl, rfl⟩, ⟨_, rfl, rfl, rfl⟩, ⟨_, rfl, rfl, rfl⟩, ⟨_, rfl, rfl, rfl⟩, ⟨_, rfl, rfl, rfl⟩, Yvx⟩
end Go.Proofs.YtheacfnopahmjaaGreatDoor

/- Yf of the proof. -/
namespace Go.AM
open Go
structure Has03 (PG:Za):Prop where
 f42:PG.fn 42=some Zfh
 f46:PG.fn 46=some Zdv
 f36:PG.fn 36=some Ze5
 f43:PG.fn 43=some Zd0
 f47:PG.fn 47=some Zcl
 f11:PG.fn 11=some Zdm
 f15:PG.fn 15=some Zdu
 f21:PG.fn 21=some Zd6
 f25:PG.fn 25=some Ze3
 f30:PG.fn 30=some Za8
 f34:PG.fn 34=some Zes
 f37:PG.fn 37=some Zc3
 f39:PG.fn 39=some Ep
 f45:PG.fn 45=some Es
 f29:PG.fn 29=some Zgm
 f48:PG.fn 48=none
 o48 :∀(s:Zc) (c:UInt8),PG.orac 48 [.s s,.i .u8 (c.toNat:Int)]=some (.i .i64 (Lib.indexByte s c))
section
variable {PG:Za} (H:Has03 PG)
include H
theorem c30 {s b:Zc} (hs:s.length<=10000000) (hb:b.length<=1000000000):PuA PG 30 (b.map Ys) [.s s] ((b++quo s).map Ys):=by
 refine Tn.to ?_
 have hp:=p30 H.f30 (b0:=b) (s1:=s) (K:=fun x=>x=b++quo s) (by
  unfold Zk3 Zqg
  refine ⟨⟨by simp only [List.length_cons,List.length_nil,Wl];omega,by simp only [List.length_cons,List.length_nil,Wl];omega⟩,fun P hP=>?_⟩
  refine Mc (fun i=>b++34::Ka (s.take i)) s.length ?_ ?_
  ·apply hP
   unfold Zel Zph
   have h1:=Zqk (s.take s.length)
   simp only [List.take_length] at h1 ⊢
   refine ⟨fun h=>absurd h (by omega),fun _=>⟨⟨?_,?_⟩,?_⟩⟩
   ·simp only [List.length_append,List.length_cons,List.length_nil,Wl];omega
   ·simp only [List.length_append,List.length_cons,List.length_nil,Wl];omega
   ·simp only [quo,List.append_assoc,List.cons_append]
  ·intro i hi ih
   apply hP
   have h1:=Zqk (s.take i)
   have hc:=s[i].toNat_lt
   rw [Xyb hi] at ih
   rw [<- List.cons_append,<- List.append_assoc] at ih
   generalize hx:s[i]=c at ih hc
   have w1:Iu .u8 (c.toNat:Int) 4=((c.toNat / 16:Nat):Int):=by
    show (c.toNat:Int).fdiv 16=_
    rw [Int.fdiv_eq_ediv_of_nonneg _ (by omega)];omega
   have w2:Ux .u8 (c.toNat:Int) 15=((c.toNat % 16:Nat):Int):=by
    unfold Ux
    have hx:(BitVec.ofInt IntKind.u8.bits (c.toNat:Int) &&& BitVec.ofInt IntKind.u8.bits 15).toNat=c.toNat % 16:=by
     show (BitVec.ofInt 8 (c.toNat:Int) &&& BitVec.ofInt 8 15).toNat=c.toNat % 16
     rw [BitVec.toNat_and]
     have h1:(BitVec.ofInt 8 (c.toNat:Int)).toNat=c.toNat:=by
      simp
     rw [h1]
     exact Nat.and_two_pow_sub_one_eq_mod c.toNat 4
    rw [hx]
    exact Zkz (by omega) (by omega)
   have fit :∀x:Zc,x.length<=4->Qn ((b++34::Ka (s.take i)).length+x.length) 1:=by
    intro x hx
    simp only [List.length_take] at h1
    refine ⟨?_,?_⟩<;>(simp only [List.length_append,List.length_cons,Wl];omega)
   unfold Zel Nz
   rw [Ml (by omega)]
   refine ⟨fun _=>⟨by omega,c,by rw [Ht,List.getElem?_eq_getElem hi,hx],?_⟩,fun h=>absurd (show (i:Int)<s.length by omega) h⟩
   simp only [w1,w2,Ht,Zjb (show c.toNat / 16<16 by omega),Zjb (show c.toNat % 16<16 by omega),Option.some.injEq,exists_eq_left']
   unfold Jl at ih
   refine ⟨fun h2=>⟨fit _ (by simp),?_⟩,fun h2=>⟨fun h3=>⟨fit _ (by simp),?_⟩,fun h3=>⟨fun h4=>⟨fit _ (by simp),?_⟩,fun h4=>⟨fun h5=>⟨by omega,by omega,fit _ (by simp),?_⟩,fun h5=>⟨fun h6=>⟨by omega,by omega,fit _ (by simp),?_⟩,fun h6=>⟨fit _ (by simp),?_⟩⟩⟩⟩⟩⟩
   ·rwa [if_pos (by omega)] at ih
   ·rwa [if_pos (by omega)] at ih
   ·rwa [if_neg (by omega),if_pos (by omega)] at ih
   ·rwa [if_neg (by omega),if_neg (by omega),if_pos (by omega)] at ih
   ·rwa [if_neg (by omega),if_neg (by omega),if_pos (by omega)] at ih
   ·rwa [if_neg (by omega),if_neg (by omega),if_neg (by omega)] at ih)
 intro d st o ha
 obtain ⟨o',st',rows',⟨x,rfl,rfl⟩,h1,h2⟩:=hp d st o ha
 exact ⟨o',st',_,rfl,h1,h2⟩
theorem c11 (s:Zc):Ze PG 11 [.s s] (.tup [.s (Ms s).1,.i .i64 (Ms s).2]):=by
 obtain ⟨x,y,⟨rfl,rfl⟩,h⟩:=p11 H.f11 (s0:=s) (K:=fun x y=>x=(Ms s).1/\y=(Ms s).2) (by
  unfold Zj6 Ms
  refine ⟨fun h=>?_,fun h=>⟨_,c30 H (b:=[]) (s:=s) (by omega) (by simp),?_⟩⟩
  ·rw [if_pos (by omega)];exact ⟨rfl,rfl⟩
  ·rw [if_neg (by omega)];exact ⟨rfl,rfl⟩)
 exact h
theorem c34 {n b:Nat} (hb:2<=b) (hb':b<=16) (hn:n<18446744073709551616):Ze PG 34 [.i .u64 (n:Int),.i .u64 (b:Int)] (.s (Jc b n)):=by
 obtain ⟨x,rfl,h⟩:=p34 H.f34 (n0:=(n:Int)) (base1:=(b:Int)) (K:=fun x=>x=Jc b n) (by
  unfold Zkh
  intro P hP
  have key :∀f n',n'<b ^ f->0<f->n'<18446744073709551616->∀a:Nat,f<=a->a<=64->∀m:Zc,m.length=64->(ds b f n'++m.drop a=Jc b n)->P (n':Int) (a:Int) m:=by
   intro f
   induction f with
   | zero=>intro _ _ h;exact absurd h (Nat.lt_irrefl _)
   | succ f ih=>
    intro n' hf _ hn' a ha ha' m hm hd
    apply hP
    have e1:(n':Int).tmod (b:Int)=((n' % b:Nat):Int):=by rw [Int.tmod_eq_emod_of_nonneg (by omega)];omega
    have e2:(n':Int).tdiv (b:Int)=((n' / b:Nat):Int):=by rw [Int.tdiv_eq_ediv_of_nonneg (by omega)];omega
    have e3:IntKind.i64.wrap ((a:Int)-1)=((a-1:Nat):Int):=by rw [Xq (by omega) (by omega)];omega
    have hq:n' / b<=n':=Nat.div_le_self _ _
    have hr:n' % b<b:=Nat.mod_lt _ (by omega)
    have e4:IntKind.u64.wrap ((n' / b:Nat):Int)=((n' / b:Nat):Int):=Oo (by omega)
    have hset :∀c:UInt8,(m.set (a-1) c).drop (a-1)=c::m.drop a:=by
     intro c
     rw [List.drop_eq_getElem_cons (by simp;omega),List.getElem_set_self,List.drop_set_of_lt (by omega),show a-1+1=a by omega]
    unfold Zne
    simp only [e1,e2,e3,e4,Ht,hset]
    refine ⟨by omega,by omega,Kt (n' % b),Zjb (by omega),by omega,by omega,by omega,by omega,fun h=>⟨by simp [hm],by omega,by omega,?_⟩,fun h=>?_⟩
    ·rw [<- hd]
     unfold ds
     have hz:n' / b=0:=by omega
     have hlt:n'<b:=by
      rcases Nat.lt_or_ge n' b with h | h
      ·exact h
      ·have:=Nat.div_pos h (by omega);omega
     rw [if_pos hlt,Nat.mod_eq_of_lt hlt]
     rfl
    ·have hz:n' / b≠0:=by omega
     have hlt:¬ n'<b:=fun h=>hz (Nat.div_eq_of_lt h)
     have h1:n' / b<b ^ f:=by
      rw [Nat.div_lt_iff_lt_mul (by omega)]
      rw [Nat.pow_succ] at hf
      exact hf
     have h2:0<f:=by
      rcases Nat.eq_zero_or_pos f with rfl | h
      ·simp at h1;omega
      ·exact h
     refine ih (n' / b) h1 h2 (by omega) (a-1) (by omega) (by omega) _ (by simp [hm]) ?_
     rw [hset,<- hd]
     conv=>rhs;unfold ds
     rw [if_neg hlt,List.append_assoc]
     rfl
  refine key 64 n ?_ (by omega) hn 64 (by omega) (by omega) _ (by simp) ?_
  ·calc n<2 ^ 64:=hn
    _<=b ^ 64:=Nat.pow_le_pow_left hb 64
  ·simp [Jc])
 exact h
theorem c15 {n:Int} (h1:-9223372036854775808<=n) (h2:n<9223372036854775808):Ze PG 15 [.i .i64 n] (.s (Xa n)):=by
 obtain ⟨x,rfl,h⟩:=p15 H.f15 (n0:=n) (K:=fun x=>x=Xa n) (by
  unfold Zr2
  refine ⟨fun h=>?_,fun h=>?_⟩
  ·have e:IntKind.u64.wrap (0-(IntKind.u64.wrap n))=(((-n).toNat:Nat):Int):=by rw [IntKind.wrap_u64,IntKind.wrap_u64];omega
   rw [e]
   refine ⟨_,c34 H (b:=10) (by omega) (by omega) (by omega),?_,?_⟩
   ·have:=Pm 10 64 (-n).toNat
    simp only [Jc,List.length_cons,List.length_nil,Ge];omega
   ·unfold Xa;rw [if_pos h];rfl
  ·have e:IntKind.u64.wrap n=((n.toNat:Nat):Int):=by rw [IntKind.wrap_u64];omega
   rw [e]
   refine ⟨_,c34 H (b:=10) (by omega) (by omega) (by omega),?_⟩
   unfold Xa;rw [if_neg h])
 exact h
end
end Go.AM

/- Yf of the proof. -/
namespace Go.AM
open Go
def Zn (p s:Zc):Zc × Bool:=if s.take p.length=p then (s.drop p.length,true) else (s,false)
def Kw (s:Zc) (c:Int) (r:Zc) (ok:Bool):Prop:=match Di s with | some (x,y)=>c=(x.toNat:Int)/\r=y/\ok=true | none=>ok=false
theorem Kw.yes {s:Zc} {x:UInt8} {y:Zc} {c:Int} (h:Di s=some (x,y)) (hc:c=(x.toNat:Int)):Kw s c y true:=by
 unfold Kw;rw [h];exact ⟨hc,rfl,rfl⟩
theorem Kw.no {s:Zc} {c:Int} {y:Zc} (h:Di s=none):Kw s c y false:=by
 unfold Kw;rw [h]
section
variable {PG:Za} (H:Has03 PG)
include H
theorem c46 (s p:Zc):Ze PG 46 [.s s,.s p] (.b (decide (s.take p.length=p))):=by
 obtain ⟨x,rfl,h⟩:=p46 H.f46 (s0:=s) (prefix1:=p) (K:=fun x=>x=decide (s.take p.length=p)) (by
  unfold Zh6
  refine ⟨fun h=>⟨by omega,by omega,rfl⟩,fun h=>?_⟩
  refine (decide_eq_false fun h1=>?_).symm
  have:=congrArg List.length h1
  simp only [List.length_take] at this
  omega)
 exact h
theorem c42 (s p:Zc):Ze PG 42 [.s s,.s p] (.tup [.s (Zn p s).1,.b (Zn p s).2]):=by
 obtain ⟨x,y,⟨rfl,rfl⟩,h⟩:=p42 H.f42 (s0:=s) (prefix1:=p) (K:=fun x y=>x=(Zn p s).1/\y=(Zn p s).2) (by
  unfold Zji Zn
  refine ⟨_,c46 H s p,fun h=>?_,fun h=>?_⟩
  ·have h1:¬ s.take p.length=p:=by simpa using h
   rw [if_neg h1];exact ⟨rfl,rfl⟩
  ·have h1:s.take p.length=p:=by simpa using h
   have h2:=congrArg List.length h1
   simp only [List.length_take] at h2
   rw [if_pos h1];exact ⟨by omega,by omega,rfl,rfl⟩)
 exact h
theorem Py (s p:Zc):Ze PG 36 [.s s,.s p] (.tup [.s (Zn p s).1,.b (Zn p s).2]):=by
 obtain ⟨x,y,⟨rfl,rfl⟩,h⟩:=p36 H.f36 (s0:=s) (prefix1:=p) (K:=fun x y=>x=(Zn p s).1/\y=(Zn p s).2) (by
  unfold Zpa
  exact ⟨_,_,c42 H s p,rfl,rfl⟩)
 exact h
theorem c47 (s:Zc) (c:UInt8):Ze PG 47 [.s s,.i .u8 (c.toNat:Int)] (.i .i64 (Lib.indexByte s c)):=by
 obtain ⟨x,rfl,h⟩:=p47 H.f47 (s0:=s) (c1:=(c.toNat:Int)) (K:=fun x=>x=Lib.indexByte s c) (by
  unfold Znu
  exact ⟨_,Ze.orac H.f48 (H.o48 s c) rfl,rfl⟩)
 exact h
theorem c43 (s:Zc) (c:UInt8):Ze PG 43 [.s s,.i .u8 (c.toNat:Int)] (.i .i64 (Lib.indexByte s c)):=by
 obtain ⟨x,rfl,h⟩:=p43 H.f43 (s0:=s) (c1:=(c.toNat:Int)) (K:=fun x=>x=Lib.indexByte s c) (by
  unfold Zrn
  exact ⟨_,c47 H s c,rfl⟩)
 exact h
theorem c37 {b most:Nat} (hb:2<=b) (hb':b<=16) (hm:16<=most) (hm':most<18446744073709551616) {s:Zc} (hs:s.length<=10000000):Ze PG 37 [.s s,.i .u64 (b:Int),.i .u64 (most:Int)] (.tup [.i .u64 ((rd b most s).1:Int),.i .i64 (rd b most s).2]):=by
 obtain ⟨x,y,⟨rfl,rfl⟩,h⟩:=p37 H.f37 (s0:=s) (base1:=(b:Int)) (most2:=(most:Int)) (K:=fun x y=>x=((rd b most s).1:Int)/\y=(rd b most s).2) (by
  unfold Zho Zkd Zka
  intro P hP
  have key :∀m i:Nat,i+m=s.length->Dp b (s.take i)=true->(2<=i->s.head?≠some 48)->∀(n:Nat) (far:Bool),(far=false->n=Yw b (s.take i)/\n<=most)->(far=true->most<Yw b (s.take i))->P (n:Int) far (i:Int):=by
   intro m
   induction m with
   | zero=>
    intro i hi ho h48 n far h0 h1
    simp only [Nat.add_zero] at hi
    subst hi
    rw [List.take_length] at ho h0 h1
    apply hP
    unfold Zco Zrw
    refine ⟨fun h=>absurd h (by omega),fun _=>⟨fun h=>?_,fun h=>?_⟩⟩
    ·subst h;exact ⟨rfl,rfl⟩
    ·have hbad:Rm b s=false:=by
      unfold Rm
      rw [decide_eq_false h,ho]
      simp only [Bool.false_or,Bool.not_true]
      by_cases h2:1<s.length
      ·rw [decide_eq_false (h48 h2),Bool.and_false]
      ·rw [decide_eq_false h2,Bool.false_and]
     refine ⟨fun hf=>?_,fun hf=>?_⟩
     ·unfold rd
      rw [if_neg (by rw [hbad];decide),if_pos (h1 hf)]
      exact ⟨rfl,rfl⟩
     ·obtain ⟨h2,h3⟩:=h0 hf
      unfold rd
      rw [if_neg (by rw [hbad];decide),if_neg (by omega),h2]
      exact ⟨rfl,rfl⟩
   | succ m ih=>
    intro i hi ho h48 n far h0 h1
    have hil:i<s.length:=by omega
    have hd:=Zaa hb' s[i]
    have hv:=Yns (b:=b) hil
    have hk:=Xgk (b:=b) hil
    have bad12:Rm b s=true->(0:Int)=((rd b most s).1:Int)/\(12:Int)=(rd b most s).2:=by
     intro h
     unfold rd
     rw [if_pos h]
     exact ⟨rfl,rfl⟩
    apply hP
    unfold Zco Rj
    refine ⟨fun _=>⟨by omega,by rw [Ht];exact hb',by omega,s[i],by rw [Ht,List.getElem?_eq_getElem hil],dv b s[i],c43 H _ _,fun h=>?_,fun h=>?_⟩,fun h=>absurd h (by omega)⟩
    ·refine bad12 ?_
     unfold Rm
     rw [Wi4 hil h]
     simp
    ·have hd0:0<=dv b s[i]:=by omega
     rw [ho,decide_eq_true hd0,Bool.and_true] at hk
     generalize hdd:(dv b s[i]).toNat=d at hv
     have hdi:dv b s[i]=(d:Int):=by omega
     have e1:IntKind.u64.wrap (dv b s[i])=(d:Int):=by rw [hdi];exact Oo (by omega)
     have e2:IntKind.u64.wrap ((most:Int)-(d:Int))=((most-d:Nat):Int):=by rw [Za2 (by omega) (by omega)];omega
     have e3:(((most-d:Nat):Int)).tdiv (b:Int)=(((most-d) / b:Nat):Int):=by rw [Int.tdiv_eq_ediv_of_nonneg (by omega)];omega
     have hq:(most-d) / b<=most-d:=Nat.div_le_self _ _
     have e4:IntKind.u64.wrap (((most-d) / b:Nat):Int)=(((most-d) / b:Nat):Int):=Oo (by omega)
     have hfi:=Yz8 (n:=n) (show 0<b by omega) (show d<=most by omega)
     rw [Ml (by omega)]
     simp only [e1,e2,e3,e4]
     have go:(2<=i+1->s.head?≠some 48)->(far=true->P (n:Int) true ((i+1:Nat):Int))/\(far=false->(b:Int)≠0/\(¬((n:Int)>(((most-d) / b:Nat):Int))->P (IntKind.u64.wrap ((IntKind.u64.wrap ((n:Int)*(b:Int)))+(d:Int))) (decide ((n:Int)>(((most-d) / b:Nat):Int))) ((i+1:Nat):Int))/\(¬(¬((n:Int)>(((most-d) / b:Nat):Int)))->P (n:Int) (decide ((n:Int)>(((most-d) / b:Nat):Int))) ((i+1:Nat):Int))):=by
      intro h2
      refine ⟨fun hf=>?_,fun hf=>⟨by omega,fun h3=>?_,fun h3=>?_⟩⟩
      ·refine ih (i+1) (by omega) hk h2 n true (fun h=>by cases h) fun _=>?_
       rw [hv]
       have h4:=h1 hf
       have:Yw b (s.take i)<=Yw b (s.take i)*b:=Nat.le_mul_of_pos_right _ (by omega)
       omega
      ·obtain ⟨h4,h5⟩:=h0 hf
       have h6:n*b+d<=most:=by
        have:¬ (most-d) / b<n:=by omega
        rw [hfi] at this
        omega
       have hnb:(n:Int)*(b:Int)=((n*b:Nat):Int):=by rw [Int.natCast_mul]
       have e5:IntKind.u64.wrap ((n:Int)*(b:Int))=((n*b:Nat):Int):=by rw [hnb];exact Oo (by omega)
       have e6:IntKind.u64.wrap (((n*b:Nat):Int)+(d:Int))=((n*b+d:Nat):Int):=by rw [Za2 (by omega) (by omega)];omega
       rw [e5,e6,decide_eq_false h3]
       refine ih (i+1) (by omega) hk h2 _ false (fun _=>⟨?_,h6⟩) fun h=>by cases h
       rw [hv,h4]
      ·have h3':(n:Int)>(((most-d) / b:Nat):Int):=by omega
       obtain ⟨h4,h5⟩:=h0 hf
       rw [decide_eq_true h3']
       refine ih (i+1) (by omega) hk h2 n true (fun h=>by cases h) fun _=>?_
       rw [hv,<- h4]
       exact hfi.1 (Int.ofNat_lt.1 h3')
     have hd0:s.head?=s[0]?:=List.head?_eq_getElem?
     refine ⟨fun hi1=>?_,fun hi1=>?_⟩
     ·have h0s:s[0]?=some s[0]:=List.getElem?_eq_getElem (by omega)
      refine ⟨s[0],h0s,fun h2=>?_,fun h2=>?_⟩
      ·refine bad12 ?_
       have h3:s[0]=48:=Dm (by have e:(48:UInt8).toNat=48:=rfl;omega)
       unfold Rm
       rw [decide_eq_true (show 1<s.length by omega),decide_eq_true (show s.head?=some 48 by rw [hd0,h0s,h3])]
       simp
      ·refine go fun _=>?_
       rw [hd0,h0s]
       intro h3
       injection h3 with h3
       exact h2 (by rw [h3];rfl)
     ·refine go fun h2=>?_
      have h3:i≠1:=by omega
      have h4:i≠0:=by omega
      exact h48 (by omega)
  exact key s.length 0 (by omega) rfl (by omega) 0 false (fun _=>⟨rfl,by omega⟩) fun h=>by cases h)
 exact h
theorem c21 (s:Zc):Ze PG 21 [.s s] (.tup [.i .i64 (Wb s).1,.i .i64 (Wb s).2]):=by
 obtain ⟨x,y,⟨rfl,rfl⟩,h⟩:=p21 H.f21 (s0:=s) (K:=fun x y=>x=(Wb s).1/\y=(Wb s).2) (by
  unfold Zoj Oy
  refine ⟨fun h=>by unfold Wb;rw [if_pos (by omega)];exact ⟨rfl,rfl⟩,fun hs=>⟨_,_,Py H s [45],?_⟩⟩
  unfold Wb
  rw [if_neg (by omega)]
  by_cases hm:s.take 1=[45]
  ·have ec:Zn [45] s=(s.drop 1,true):=by unfold Zn;rw [if_pos (by exact hm)];rfl
   rw [ec,if_pos hm]
   refine ⟨fun h=>by simp at h,fun _=>?_⟩
   have hl:=Zbj 10 9223372036854775808 (s.drop 1)
   refine ⟨_,_,c37 H (b:=10) (most:=9223372036854775808) (by omega) (by omega) (by omega) (by omega) (s:=s.drop 1) (by simp;omega),fun h=>⟨fun h0=>?_,fun h0=>?_⟩,fun h=>?_⟩
   ·have e:(rd 10 9223372036854775808 (s.drop 1)).1=0:=by omega
    rw [if_pos ⟨h,e⟩,e]
    exact ⟨rfl,rfl⟩
   ·rw [if_neg (fun hh=>h0 (by rw [hh.2];rfl))]
    refine ⟨?_,rfl⟩
    rw [IntKind.wrap_u64,IntKind.wrap_i64]
    simp only
    omega
   ·have e:=Xas h
    rw [if_neg (fun hh=>h hh.1),e]
    exact ⟨rfl,rfl⟩
  ·have ec:Zn [45] s=(s,false):=by unfold Zn;rw [if_neg (by exact hm)]
   rw [ec,if_neg hm]
   refine ⟨fun _=>?_,fun h=>by simp at h⟩
   have hl:=Zbj 10 9223372036854775807 s
   exact ⟨_,_,c37 H (b:=10) (most:=9223372036854775807) (by omega) (by omega) (by omega) (by omega) (s:=s) (by omega),Xq (by omega) (by omega),rfl⟩)
 exact h
theorem c45 (s:Zc) :∃c r ok,Kw s c r ok/\Ze PG 45 [.s s] (.tup [.i .u8 c,.s r,.b ok]):=by
 refine p45 H.f45 (s0:=s) (K:=Kw s) ?_
 unfold Zr5 Zrt
 refine ⟨fun h=>by subst h;exact Kw.no rfl,fun h=>?_⟩
 cases s with
 | nil=>exact absurd rfl h
 | cons c r=>
  have lit :∀{n:Nat} (_:n<256),(UInt8.ofNat n).toNat=n:=by intro n hn;simp;omega
  unfold Zqx
  refine ⟨c,rfl,?_⟩
  have t4:Ot PG (Kw (c::r)) (c::r) (c.toNat:Int) (decide (c.toNat=34\/c.toNat=92)):=by
   unfold Ot
   refine ⟨fun h1=>⟨c,rfl,by simp,?_⟩,fun h1=>?_⟩
   ·have h1:=of_decide_eq_true h1
    exact Kw.yes (show (if c.toNat=34\/c.toNat=92 then some (c,r) else _)=some (c,r) from if_pos h1) rfl
   ·have h1:=of_decide_eq_false h1
    have e0:Di (c::r)=if c.toNat=110 then some (10,r) else if c.toNat=120 then Th r else none:=by
     show (if c.toNat=34\/c.toNat=92 then some (c,r) else if c.toNat=110 then some (10,r) else if c.toNat=120 then Th r else none)=_
     rw [if_neg h1]
    refine ⟨fun h2=>⟨by simp,?_⟩,fun h2=>⟨fun h3=>?_,fun h3=>?_⟩⟩
    ·exact Kw.yes (by rw [e0,if_pos (by omega)];rfl) rfl
    ·have e:Di (c::r)=Th r:=by rw [e0,if_neg (by omega),if_pos (by omega)]
     refine ⟨fun h4=>?_,fun h4=>?_⟩
     ·refine Kw.no ?_
      rw [e]
      match r,h4 with
      | [],_=>rfl
      | [a],_=>rfl
      | a::b::r',h4=>simp at h4;omega
     ·match r,h4,e with
      | [],h4,_=>exact absurd (by simp) h4
      | [a],h4,_=>exact absurd (by simp) h4
      | a::b::r',_,e=>
       have la:=Zaa (b:=16) (by omega) a
       have lb:=Zaa (b:=16) (by omega) b
       have ca:Ze PG 43 [.s Dw,.i .u8 (a.toNat:Int)] (.i .i64 (dv 16 a)):=c43 H Dw a
       have cb:Ze PG 43 [.s Dw,.i .u8 (b.toNat:Int)] (.i .i64 (dv 16 b)):=c43 H Dw b
       refine ⟨a,rfl,_,ca,b,rfl,_,cb,by simp,?_⟩
       simp only [Th] at e
       by_cases hv:0<=dv 16 a/\0<=dv 16 b
       ·have hw:IntKind.u8.wrap (IntKind.i64.wrap ((IntKind.i64.wrap (16*dv 16 a))+dv 16 b))=16*dv 16 a+dv 16 b:=by
         rw [Xq (z:=16*dv 16 a) (by omega) (by omega),Xq (by omega) (by omega),Zkz (by omega) (by omega)]
        have en:=lit (n:=(16*dv 16 a+dv 16 b).toNat) (by omega)
        rw [hw]
        refine ⟨fun _=>⟨fun _=>⟨fun h5=>⟨fun h6=>?_,fun h6=>?_⟩,fun h5=>?_⟩,fun h5=>absurd hv.2 h5⟩,fun h5=>absurd hv.1 h5⟩
        ·rw [if_pos ⟨hv.1,hv.2,by omega,by omega⟩] at e
         exact Kw.yes e (by rw [en];omega)
        ·by_cases h7:126<16*dv 16 a+dv 16 b
         ·rw [if_pos ⟨hv.1,hv.2,by omega,by omega⟩] at e
          rw [decide_eq_true h7]
          exact Kw.yes e (by rw [en];omega)
         ·rw [if_neg (by omega)] at e
          rw [decide_eq_false h7]
          exact Kw.no e
        ·rw [if_neg (by omega)] at e
         exact Kw.no e
       ·rw [if_neg (by omega)] at e
        exact ⟨fun h5=>⟨fun h6=>absurd ⟨h5,h6⟩ hv,fun _=>Kw.no e⟩,fun _=>Kw.no e⟩
    ·exact Kw.no (by rw [e0,if_neg (by omega),if_neg (by omega)])
  unfold Zns
  refine ⟨fun h1=>?_,fun h1=>?_⟩
  ·rw [show decide ((c.toNat:Int)=34)=decide (c.toNat=34\/c.toNat=92) from decide_eq_decide.2 (by omega)]
   exact t4
  ·rw [show decide ((c.toNat:Int)=92)=decide (c.toNat=34\/c.toNat=92) from decide_eq_decide.2 (by omega)]
   exact t4
theorem c39 {s:Zc} (hs:s.length<=10000000):Ze PG 39 [.s s] (.tup [.s (Df s).1,.s (Df s).2.1,.b (Df s).2.2]):=by
 obtain ⟨x,y,z,⟨rfl,rfl,rfl⟩,h⟩:=p39 H.f39 (s0:=s) (K:=fun x y z=>x=(Df s).1/\y=(Df s).2.1/\z=(Df s).2.2) (by
  have no:Mb s=none->([]:Zc)=(Df s).1/\([]:Zc)=(Df s).2.1/\false=(Df s).2.2:=by
   intro h
   unfold Df
   rw [h]
   exact ⟨rfl,rfl,rfl⟩
  unfold Zhq Zm6
  refine ⟨_,_,Py H s [34],?_⟩
  cases s with
  | nil=>
   rw [show Zn [34] []=([],false) from rfl]
   exact ⟨fun _=>no rfl,fun h=>by simp at h⟩
  | cons q s=>
   by_cases hq:q.toNat=34
   ·have hq':q=34:=Dm hq
    subst hq'
    have ec:Zn [34] (34::s)=(s,true):=by unfold Zn;rw [if_pos (show List.take ([34]:Zc).length (34::s)=[34] from rfl)];rfl
    rw [ec]
    refine ⟨fun h=>by simp at h,fun _ P hP=>?_⟩
    have hn:Mb (34::s)=Sx (s.length+1) [] s:=by
     simp only [Mb]
     rw [if_pos hq]
    have key :∀n b r,r.length<n->b.length+r.length<=10000000->Sx n b r=Mb (34::s)->P r b:=by
     intro n
     induction n with
     | zero=>intro b r h;exact absurd h (Nat.not_lt_zero _)
     | succ n ih=>
      intro b r hr hb hx
      apply hP
      unfold Znk
      cases r with
      | nil=>exact ⟨fun h=>absurd rfl h,fun _=>no (by rw [<- hx];rfl)⟩
      | cons c r=>
       simp only [Sx] at hx
       refine ⟨fun _=>⟨c,rfl,by simp,fun h1=>?_,fun h1=>⟨fun h2=>?_,fun h2=>⟨fun h3=>?_,fun h3=>⟨fun h4=>?_,fun h4=>?_⟩⟩⟩⟩,fun h=>absurd (by simp) h⟩
       ·rw [if_pos (by omega)] at hx
        unfold Df
        rw [<- hx]
        exact ⟨rfl,rfl,rfl⟩
       ·refine no ?_
        rw [<- hx,if_neg (by omega),show one (c::r)=none by simp only [one];rw [if_pos (by omega)]]
       ·refine no ?_
        rw [<- hx,if_neg (by omega),show one (c::r)=none by simp only [one];rw [if_pos (by omega)]]
       ·rw [if_neg (by omega),show one (c::r)=Di r by simp only [one];rw [if_neg (by omega),if_pos (by omega)]] at hx
        obtain ⟨a,r',ok,hk,hp⟩:=c45 H r
        refine ⟨a,r',ok,hp,fun h5=>?_,fun h5=>?_⟩
        ·unfold Kw at hk
         cases he:Di r with
         | none=>rw [he] at hx;exact no hx.symm
         | some p=>
          rw [he] at hk
          obtain ⟨_,_,hk⟩:=hk
          rw [hk] at h5
          exact absurd h5 (by decide)
        ·unfold Kw at hk
         cases he:Di r with
         | none=>
          rw [he] at hk
          simp only at hk
          rw [hk] at h5
          exact absurd h5 (by decide)
         | some p=>
          obtain ⟨u,v⟩:=p
          rw [he] at hk hx
          obtain ⟨h6,h7,h8⟩:=hk
          simp only at hx h6 h7
          subst h6;subst h7
          have hl:r'.length<(c::r).length:=Zx7 (c:=u) (by simp only [one];rw [if_neg (by omega),if_pos (by omega)];exact he)
          simp only [List.length_cons] at hl hb hr
          unfold Ii
          refine ⟨u,rfl,⟨?_,?_⟩,ih _ _ (by omega) ?_ hx⟩
          ·simp only [List.length_cons,List.length_nil,Wl];omega
          ·simp only [List.length_cons,List.length_nil,Wl];omega
          ·simp only [List.length_append,List.length_cons,List.length_nil];omega
       ·rw [if_neg (by omega),show one (c::r)=some (c,r) by simp only [one];rw [if_neg (by omega),if_neg (by omega)]] at hx
        simp only [List.length_cons] at hb hr
        unfold Ii
        refine ⟨c,rfl,⟨?_,?_⟩,ih _ _ (show r.length<n by omega) ?_ hx⟩
        ·simp only [List.length_cons,List.length_nil,Wl];omega
        ·simp only [List.length_cons,List.length_nil,Wl];omega
        ·simp only [List.drop_succ_cons,List.drop_zero,List.length_append,List.length_cons,List.length_nil];omega
    exact key (s.length+1) [] s (by omega) (by simp at hs ⊢;omega) hn.symm
   ·have ec:Zn [34] (q::s)=(q::s,false):=by
     unfold Zn
     rw [if_neg ?_]
     intro h
     injection h with h
     exact hq (by rw [h];rfl)
    rw [ec]
    refine ⟨fun _=>no ?_,fun h=>by simp at h⟩
    simp only [Mb]
    rw [if_neg hq])
 exact h
theorem c25 (s:Zc):Ze PG 25 [.s s] (.tup [.s (Nr s).1,.i .i64 (Nr s).2]):=by
 obtain ⟨x,y,⟨rfl,rfl⟩,h⟩:=p25 H.f25 (s0:=s) (K:=fun x y=>x=(Nr s).1/\y=(Nr s).2) (by
  unfold Zjy Nr
  refine ⟨fun h=>by rw [if_pos (by omega)];exact ⟨rfl,rfl⟩,fun hs=>⟨_,_,_,c39 H (by omega),?_⟩⟩
  rw [if_neg (by omega)]
  unfold Df
  cases Mb s with
  | none=>exact ⟨fun _=>⟨rfl,rfl⟩,fun h=>by simp at h⟩
  | some p=>
   obtain ⟨x,r⟩:=p
   refine ⟨fun h=>by simp at h,fun _=>⟨fun h=>?_,fun h=>?_⟩⟩
   ·cases r with
    | nil=>exact absurd rfl h
    | cons c r=>exact ⟨rfl,rfl⟩
   ·have h:r=[]:=Classical.not_not.1 h
    subst h
    refine ⟨fun h=>?_,fun h=>?_⟩
    ·simp only at h ⊢
     rw [if_pos (by omega)];exact ⟨rfl,rfl⟩
    ·simp only at h ⊢
     rw [if_neg (by omega)];exact ⟨rfl,rfl⟩)
 exact h
theorem c29 {a b:List Zc} (ha:a.length<=1000000000):Ze PG 29 [.sl .ext (a.map Zv),.sl .ext (b.map Zv)] (.b (decide (a=b))):=by
 obtain ⟨x,rfl,h⟩:=p29 H.f29 (a0:=a) (b1:=b) (K:=fun x=>x=decide (a=b)) (by
  unfold Zm0
  refine ⟨fun h=>(decide_eq_false fun e=>h (by rw [e])).symm,fun hl P hP=>?_⟩
  have hlen:a.length=b.length:=by omega
  have key :∀m i:Nat,i+m=a.length->(∀j,j<i->a[j]?=b[j]?)->P (i:Int):=by
   intro m
   induction m with
   | zero=>
    intro i hi hj
    apply hP
    unfold Zbg Zje
    refine ⟨fun h=>absurd h (by omega),fun _=>(decide_eq_true ?_).symm⟩
    apply List.ext_getElem?
    intro j
    rcases Nat.lt_or_ge j i with h | h
    ·exact hj j h
    ·rw [List.getElem?_eq_none (by omega),List.getElem?_eq_none (by omega)]
   | succ m ih=>
    intro i hi hj
    have h1:i<a.length:=by omega
    have h2:i<b.length:=by omega
    apply hP
    unfold Zbg
    refine ⟨fun _=>⟨by omega,a[i],by rw [Ht,List.getElem?_eq_getElem h1],by omega,b[i],by rw [Ht,List.getElem?_eq_getElem h2],fun h=>?_,fun h=>?_⟩,fun h=>absurd h (by omega)⟩
    ·refine (decide_eq_false fun e=>h ?_).symm
     subst e
     rfl
    ·rw [Ml (by omega)]
     refine ih (i+1) (by omega) fun j hj'=>?_
     rcases Nat.lt_or_ge j i with h3 | h3
     ·exact hj j h3
     ·have:j=i:=by omega
      subst this
      rw [List.getElem?_eq_getElem h1,List.getElem?_eq_getElem h2,Classical.not_not.1 h]
  exact key a.length 0 (by omega) (by simp))
 exact h
end
end Go.AM

/- Yf of the proof. -/
namespace Go.AM
open Go
def Ur (c:UInt8):Bool:=decide (48<=c.toNat)&&decide (c.toNat<=57)
def Qq:Zc->Nat
 | []=>0
 | c::s=>if Ur c=true then 1+Qq s else 0
def Jg (s:Zc):Nat:=if s.head?=some 45 then 1+Qq (s.drop 1) else Qq s
theorem Zo5 :∀s:Zc,Qq s<=s.length
 | []=>Nat.le_refl _
 | c::s=>by
  have:=Zo5 s
  rw [Qq,List.length_cons]
  split<;>omega
theorem Xab (s:Zc):Jg s<=s.length:=by
 unfold Jg
 cases s with
 | nil=>simp [Qq]
 | cons c s=>
  have h1:=Zo5 s
  have h2:=Zo5 (c::s)
  split
  ·simp only [List.drop_succ_cons,List.drop_zero,List.length_cons];omega
  ·exact h2
def qs:Zc->Option Nat
 | []=>none
 | c::r=>if c=92 then (match r with | []=>none | _::r'=>(qs r').map (·+2)) else if c=34 then some 1 else (qs r).map (·+1)
def Kn (s:Zc):Int × Bool × Zc:=((Wb (s.take (Jg s))).1,decide ((Wb (s.take (Jg s))).2=0),s.drop (Jg s))
def Gs (s:Zc):Zc × Bool × Zc:=match qs (s.drop 1) with
 | none=>([],false,s)
 | some k=>((Nr (s.take (k+1))).1,decide ((Nr (s.take (k+1))).2=0),s.drop (k+1))
def Gn (f:Zc->Zb × Bool × Zc) (kind:Int) (stop:Zc):Nat->List Zb->Zc->Zb × Bool × Zc
 | 0,acc,s=>(Zb.mk kind 0 [] acc false,false,s)
 | k+1,acc,s=>if (f s).2.1=false then (Zb.mk kind 0 [] acc false,false,(f s).2.2) else
   if (Zn stop (f s).2.2).2=true then (Zb.mk kind 0 [] (acc++[(f s).1]) false,true,(Zn stop (f s).2.2).1) else
   if (Zn [44,32] (Zn stop (f s).2.2).1).2=false then (Zb.mk kind 0 [] (acc++[(f s).1]) false,false,(Zn [44,32] (Zn stop (f s).2.2).1).1) else
   Gn f kind stop k (acc++[(f s).1]) (Zn [44,32] (Zn stop (f s).2.2).1).1
def Ue (f:Zc->Zb × Bool × Zc) (kind:Int) (stop s:Zc):Zb × Bool × Zc:=
 if (Zn stop s).2=true then (Zb.mk kind 0 [] [] false,true,(Zn stop s).1) else Gn f kind stop 17 [] (Zn stop s).1
def Jd:Nat->Zc->Zb × Bool × Zc
 | 0,s=>(vz,false,s)
 | d+1,s=>if s=[] then (vz,false,s) else
   if (Zn Qu s).2=true then (Zb.mk 1 1 [] [] false,true,(Zn Qu s).1) else
   if (Zn Qc s).2=true then (Zb.mk 1 0 [] [] false,true,(Zn Qc s).1) else
   if (Zn Qt s).2=true then (Zb.mk 4 0 [] [] false,true,(Zn Qt s).1) else
   if (Zn Qv s).2=true then (Zb.mk 4 0 [] [] true,true,(Zn Qv s).1) else
   if (Zn Uk s).2=true then (Zb.mk 7 0 [] [] true,true,(Zn Uk s).1) else
   if (Zn [38] s).2=true then (Zb.mk 4 0 [] [(Jd d (Zn [38] s).1).1] false,(Jd d (Zn [38] s).1).2) else
   if (Zn [123] s).2=true then Ue (Jd d) 5 [125] (Zn [123] s).1 else
   if (Zn [91] s).2=true then Ue (Jd d) 6 [93] (Zn [91] s).1 else
   if (Zn [60] s).2=true then Ue (Jd d) 7 [62] (Zn [60] s).1 else
   if s.head?=some 34 then (Zb.mk 3 0 (Gs s).1 [] false,(Gs s).2) else
   (Zb.mk 2 (Kn s).1 [] [] false,(Kn s).2)
theorem My {p s:Zc} (h:(Zn p s).2=false):(Zn p s).1=s:=by
 unfold Zn at h ⊢
 split
 ·rename_i h1;rw [if_pos h1] at h;cases h
 ·rfl
theorem Jx (p s:Zc):Zn p (p++s)=(s,true):=by
 unfold Zn
 rw [if_pos (by simp),List.drop_left]
theorem Za0 {c d:UInt8} {p s:Zc} (h:c≠d):Zn (c::p) (d::s)=(d::s,false):=by
 unfold Zn
 rw [if_neg]
 simp only [List.length_cons,List.take_succ_cons,List.cons.injEq]
 rintro ⟨rfl,_⟩
 exact h rfl
theorem Zh1 (c:UInt8) (p s:Zc):Zn (c::p) (c::s)=if (Zn p s).2=true then ((Zn p s).1,true) else (c::s,false):=by
 unfold Zn
 simp only [List.length_cons,List.take_succ_cons,List.cons.injEq,true_and,List.drop_succ_cons]
 split<;>simp_all
theorem Yav (s:Zc):-9223372036854775808<=(Wb s).1/\(Wb s).1<9223372036854775808:=by
 have h1:=Zbj 10 9223372036854775808 (s.drop 1)
 have h2:=Zbj 10 9223372036854775807 s
 unfold Wb
 split
 ·exact ⟨by decide,by decide⟩
 split
 ·split
  ·exact ⟨by decide,by decide⟩
  ·dsimp only
   omega
 ·dsimp only
  omega
theorem Wf.ite {c:Prop} [Decidable c] {a b:Zb × Bool × Zc} (ha:Wf a.1) (hb:Wf b.1):Wf (if c then a else b).1:=by
 split
 ·exact ha
 ·exact hb
theorem Yad {f:Zc->Zb × Bool × Zc} {kind:Int} {stop:Zc} (hk:0<=kind/\kind<256) (hf :∀s,Wf (f s).1) :∀(n:Nat) (acc:List Zb) (s:Zc),n<=17->acc.length+n=17->(∀x∈acc,Wf x)->Wf (Gn f kind stop n acc s).1
 | 0,acc,s,_,hl,h=>by
  rw [Gn]
  exact .mk hk (by decide) (by omega) h
 | n+1,acc,s,hn,hl,h=>by
  have h1 :∀x∈acc++[(f s).1],Wf x:=by
   intro x hx
   rcases List.mem_append.1 hx with hx | hx
   ·exact h x hx
   ·rw [List.mem_singleton.1 hx];exact hf s
  rw [Gn]
  split
  ·exact .mk hk (by decide) (by omega) h
  ·split
   ·exact .mk hk (by decide) (by simp;omega) h1
   ·split
    ·exact .mk hk (by decide) (by simp;omega) h1
    ·exact Yad hk hf n _ _ (by omega) (by simp;omega) h1
theorem Zjh {f:Zc->Zb × Bool × Zc} {kind:Int} {stop s:Zc} (hk:0<=kind/\kind<256) (hf :∀s,Wf (f s).1):Wf (Ue f kind stop s).1:=by
 unfold Ue
 split
 ·exact .mk hk (by decide) (by decide) (by simp)
 ·exact Yad hk hf 17 [] _ (by omega) rfl (by simp)
theorem Cf :∀(d:Nat) (s:Zc),Wf (Jd d s).1
 | 0,s=>Wf.zero
 | d+1,s=>by
  have w0 :∀(k n:Int) (c:Bool),0<=k/\k<256->-9223372036854775808<=n/\n<9223372036854775808->Wf (Zb.mk k n [] [] c):=fun k n c h1 h2=>.mk h1 h2 (by decide) (by simp)
  rw [Jd]
  exact .ite Wf.zero (.ite (w0 _ _ _ (by decide) (by decide)) (.ite (w0 _ _ _ (by decide) (by decide)) (.ite (w0 _ _ _ (by decide) (by decide)) (.ite (w0 _ _ _ (by decide) (by decide)) (.ite (w0 _ _ _ (by decide) (by decide))
   (.ite (.mk (by decide) (by decide) (by simp) (fun x hx=>by rw [List.mem_singleton.1 hx];exact Cf d _)) (.ite (Zjh (by decide) (Cf d)) (.ite (Zjh (by decide) (Cf d)) (.ite (Zjh (by decide) (Cf d))
   (.ite (.mk (by decide) (by decide) (by simp) (by simp)) (.mk (by decide) (Yav _) (by simp) (by simp))))))))))))
def Stop (r:Zc):Prop:=∀c,r.head?=some c->c=44\/c=125\/c=93\/c=62
theorem Stop.notD {r:Zc} (h:Stop r):Qq r=0:=by
 cases r with
 | nil=>rfl
 | cons c r=>
  rw [Qq,if_neg]
  rcases h c rfl with rfl | rfl | rfl | rfl<;>decide
theorem Zmp :∀(s r:Zc),(∀c∈s,Ur c=true)->Qq r=0->Qq (s++r)=s.length
 | [],r,_,h=>h
 | c::s,r,hs,h=>by
  rw [List.cons_append,Qq,if_pos (hs c List.mem_cons_self),Zmp s r (fun c hc=>hs c (List.mem_cons_of_mem _ hc)) h,List.length_cons]
  omega
theorem Yft :∀n:Fin 10,Ur (Kt n.val)=true:=by decide
theorem Sf :∀(f n:Nat),∀c∈ds 10 f n,Ur c=true
 | 0,n,c,h=>by simp [ds] at h
 | f+1,n,c,h=>by
  rw [ds] at h
  split at h
  ·rename_i hn
   rw [List.mem_singleton.1 h]
   exact Yft ⟨n,hn⟩
  ·rcases List.mem_append.1 h with h | h
   ·exact Sf f _ c h
   ·rw [List.mem_singleton.1 h]
    exact Yft ⟨n % 10,Nat.mod_lt _ (by decide)⟩
theorem Xo4 {c:UInt8} {l:List UInt8} (h:Ur c=true) (hl:(l.all fun x=>!Ur x)=true):c ∉ l:=by
 intro hc
 have:=List.all_eq_true.1 hl c hc
 rw [h] at this
 cases this
theorem Zrx (n:Int) :∃c r,Xa n=c::r/\(c=45\/Ur c=true):=by
 have hd :∀n,∃c r,Jc 10 n=c::r/\Ur c=true:=by
  intro n
  have h1:=Zml 10 n
  have h2:=Sf 64 n
  unfold Jc at *
  cases h:ds 10 64 n with
  | nil=>exact absurd h h1
  | cons c r=>exact ⟨c,r,rfl,h2 c (by rw [h];exact List.mem_cons_self)⟩
 unfold Xa
 split
 ·exact ⟨45,_,rfl,.inl rfl⟩
 ·obtain ⟨c,r,h1,h2⟩:=hd n.toNat
  exact ⟨c,r,h1,.inr h2⟩
theorem Xyl {n:Int} {r:Zc} (hr:Qq r=0):Jg (Xa n++r)=(Xa n).length:=by
 unfold Xa Jg
 split
 ·rw [List.cons_append,List.head?_cons,if_pos rfl,List.drop_succ_cons,List.drop_zero,List.length_cons,Nat.add_comm]
  congr 1
  exact Zmp _ r (Sf 64 _) hr
 ·obtain ⟨c,t,h1,h2⟩:=Zrx n
  rw [Xa,if_neg (by assumption)] at h1
  rw [if_neg]
  ·exact Zmp _ r (Sf 64 _) hr
  rw [h1,List.cons_append,List.head?_cons]
  intro e
  injection e with e
  subst e
  rcases h2 with h2 | h2
  ·have:=Sf 64 n.toNat 45 (by show (45:UInt8)∈Jc 10 n.toNat;rw [h1];exact List.mem_cons_self)
   exact absurd this (by decide)
  ·exact absurd h2 (by decide)
theorem Zul {n:Int} {r:Zc} (h1:-9223372036854775808<=n) (h2:n<9223372036854775808) (hr:Qq r=0):Kn (Xa n++r)=(n,true,r):=by
 unfold Kn
 rw [Xyl hr,List.take_left,List.drop_left,Lj h1 h2]
 rfl
theorem Zz8 :∀(s r:Zc),qs (Ka s++34::r)=some ((Ka s).length+1)
 | [],r=>by
  show qs (34::r)=some 1
  rw [qs.eq_def]
  simp
 | c::s,r=>by
  have ih:=Zz8 s r
  have e:Ka (c::s)=Jl c++Ka s:=rfl
  have hx :∀k:Fin 16,Kt k.val≠92/\Kt k.val≠34:=by decide
  rw [e,List.append_assoc]
  unfold Jl
  split
  ·rw [List.cons_append,List.cons_append,List.nil_append,qs.eq_def]
   simp only [if_true,ih,Option.map_some,List.length_append,List.length_cons,List.length_nil]
   congr 1
   omega
  ·rename_i h1
   split
   ·rw [List.cons_append,List.cons_append,List.nil_append,qs.eq_def]
    simp only [if_true,ih,Option.map_some,List.length_append,List.length_cons,List.length_nil]
    congr 1
    omega
   ·split
    ·have hc:=c.toNat_lt
     obtain ⟨a1,a2⟩:=hx ⟨c.toNat / 16,by omega⟩
     obtain ⟨b1,b2⟩:=hx ⟨c.toNat % 16,by omega⟩
     simp only at a1 a2 b1 b2
     rw [List.cons_append,List.cons_append,List.cons_append,List.cons_append,List.nil_append,qs.eq_def]
     simp only [if_true]
     rw [qs.eq_def]
     simp only [if_neg a1,if_neg a2]
     rw [qs.eq_def]
     simp only [if_neg b1,if_neg b2,ih,Option.map_some,List.length_append,List.length_cons,List.length_nil]
     congr 1
     omega
    ·have c1:c≠92:=by rintro rfl;exact h1 (.inr rfl)
     have c2:c≠34:=by rintro rfl;exact h1 (.inl rfl)
     rw [List.cons_append,List.nil_append,qs.eq_def]
     simp only [if_neg c1,if_neg c2,ih,Option.map_some,List.length_append,List.length_cons,List.length_nil]
     congr 1
     omega
theorem Xns {s r:Zc} (h:s.length<=400):Gs (quo s++r)=(s,true,r):=by
 have e:quo s++r=34::(Ka s++34::r):=by simp [quo]
 have e2:(quo s).length=(Ka s).length+1+1:=by simp [quo]
 unfold Gs
 rw [show (quo s++r).drop 1=Ka s++34::r by rw [e];rfl,Zz8]
 simp only
 rw [<- e2,List.take_left,List.drop_left,Ynd h]
 rfl
end Go.AM

/- Yf of the proof. -/
namespace Go.AM
open Go
theorem Xze (v:Zb) :∃c t,Xd v=c::t/\(c∈([116,102,110,38,60,123,91,34,45]:Zc)\/Ur c=true):=by
  rw [Sq]
  have h1:=Zrx v.int
  repeat' split
  all_goals first
    | (obtain ⟨c,t,h2,h3⟩:=h1
       refine ⟨c,t,h2,?_⟩
       rcases h3 with rfl | h3
       . exact .inl (by decide)
       . exact .inr h3)
    | exact ⟨_,_,rfl,.inl (by decide)⟩
theorem Znb {v:Zb} {e:UInt8} (he:(e=46\/e=125\/e=93\/e=62\/e=44)) (p r:Zc):(Zn (e::p) (Xd v++r))=(Xd v++r,false):=by
  obtain ⟨c,t,h1,h2⟩:=Xze v
  rw [h1,List.cons_append]
  refine Za0 ?_
  rintro rfl
  rcases h2 with h2 | h2
  . rcases he with rfl | rfl | rfl | rfl | rfl<;>exact absurd h2 (by decide)
  . rcases he with rfl | rfl | rfl | rfl | rfl<;>exact absurd h2 (by decide)
section
variable {f:Zc->Zb × Bool × Zc} {kind:Int} {e:UInt8}
theorem Zw8 (he:e=125\/e=93\/e=62) :∀(l:List Zb) (x:Zb) (acc:List Zb) (n:Nat) (r:Zc),(∀y∈x::l,∀r,Stop r->f (Xd y++r)=(y,true,r))->l.length<n->Gn f kind [e] n acc (Yy (x::l)++e::r)=(Zb.mk kind 0 [] (acc++x::l) false,true,r)
  | l,x,acc,0,r,hf,hn=>absurd hn (Nat.not_lt_zero _)
  | [],x,acc,n+1,r,hf,hn=>by
    have hs:Stop (e::r):=by intro c hc;injection hc with hc;subst hc;rcases he with h | h | h<;>simp [h]
    have h1:=hf x List.mem_cons_self (e::r) hs
    have h2:Zn [e] (e::r)=(r,true):=Jx [e] r
    rw [Zmd,Gn]
    simp only [h1,h2,Bool.true_eq_false,if_false,if_true]
  | y::l,x,acc,n+1,r,hf,hn=>by
    have e1:Yy (x::y::l)++e::r=Xd x++(44::32::(Yy (y::l)++e::r)):=by simp [Yy,Qw]
    have hs:Stop (44::32::(Yy (y::l)++e::r)):=by intro c hc;injection hc with hc;subst hc;exact .inl rfl
    have h1:=hf x List.mem_cons_self _ hs
    have hne:e≠44:=by rcases he with rfl | rfl | rfl<;>decide
    have h2:Zn [e] (44::32::(Yy (y::l)++e::r))=(44::32::(Yy (y::l)++e::r),false):=Za0 hne
    have h3:Zn [44,32] (44::32::(Yy (y::l)++e::r))=(Yy (y::l)++e::r,true):=Jx [44,32] _
    have ih:=Zw8 he l y (acc++[x]) n r (fun z hz=>hf z (List.mem_cons_of_mem _ hz)) (by simp only [List.length_cons] at hn;omega)
    rw [e1,Gn]
    simp only [h1,h2,h3,Bool.true_eq_false,Bool.false_eq_true,if_false]
    rw [ih,List.append_assoc]
    rfl
theorem Zpi (he:e=125\/e=93\/e=62) (l:List Zb) (r:Zc) (hf :∀y∈l,∀r,Stop r->f (Xd y++r)=(y,true,r)) (hn:l.length<=16):Ue f kind [e] (Yy l++e::r)=(Zb.mk kind 0 [] l false,true,r):=by
  unfold Ue
  cases l with
  | nil=>
    have h2:Zn [e] (Yy []++e::r)=(r,true):=Jx [e] r
    simp only [h2,if_true]
  | cons x l=>
    have h2:Zn [e] (Yy (x::l)++e::r)=(Yy (x::l)++e::r,false):=by
      rw [Yy,List.append_assoc]
      exact Znb (by rcases he with h | h | h<;>simp [h]) _ _
    simp only [h2,Bool.false_eq_true,if_false]
    exact Zw8 he l x [] 17 r hf (by simp only [List.length_cons] at hn;omega)
end
theorem Wdx {l:List Zb} {e:UInt8} {p r:Zc}:(Zn (46::p) (Yy l++62::r)).2=false:=by
  cases l with
  | nil=>rw [show Yy []++62::r=62::r from rfl,Za0 (by decide)]
  | cons x l=>rw [Yy,List.append_assoc,Znb (.inl rfl)]
theorem Hl {α:Type} {l:List α} (h:l.length=0):l=[]:=List.length_eq_zero_iff.1 h
theorem Zud :∀(d:Nat) (v:Zb),Ky d v=true->Wf v->∀r,Stop r->Jd d (Xd v++r)=(v,true,r)
  | 0,v,h,_,r,hr=>by cases h
  | d+1,v,h,hw,r,hr=>by
    have h1:=Mr h
    have h2:=Zeh h
    have ih :∀y∈v.list,∀r,Stop r->Jd d (Xd y++r)=(y,true,r):=fun y hy=>Zud d y (h2 y hy) (hw.e y hy)
    have hn:=hw.n
    have hne :∀x:Zc,¬(Xd v++x=[]):=fun x e=>Ydr v (List.append_eq_nil_iff.1 e).1
    clear h h2 hw
    cases v with
    | mk k n s l c=>
    unfold Zb.okh Qa at h1
    simp only [Zb.kind_mk,Zb.int_mk,Zb.text_mk,Zb.list_mk,Zb.cut_mk] at h1 ih hn
    have ht:=hne r
    rw [Jd,if_neg ht]
    clear ht hne
    have nohead :∀{a b:UInt8} {p t:Zc},a≠b->(Zn (a::p) (b::t)).2=false:=fun h=>by rw [Za0 h]
    rcases h1 with ⟨rfl,a1,a2,a3,a4⟩ | ⟨rfl,a1,a2,a3⟩ | ⟨rfl,a1,a2,rfl,a4⟩ | ⟨rfl,rfl,a1,a2,a3⟩ | ⟨rfl,rfl,a1,a2,a3⟩ | ⟨rfl,rfl,a1,a2,a3,a4⟩ | ⟨rfl,rfl,a1,a2,a3⟩
    . have:=Hl a1;have:=Hl a3;subst l;subst s
      have:c=false:=by cases c;rfl;cases a2
      subst c
      rcases a4 with rfl | rfl
      . rw [show Xd (Zb.mk 1 0 [] [] false)=Qc from rfl,show Qc++r=102::([97,108,115,101]++r) from rfl,Qu,if_neg (by rw [nohead (by decide)];decide)]
        have:=Jx Qc r
        rw [show Qc++r=102::([97,108,115,101]++r) from rfl] at this
        rw [if_pos (by rw [this]),this]
      . rw [show Xd (Zb.mk 1 1 [] [] false)=Qu from rfl,if_pos (by rw [Jx]),Jx]
    . have:=Hl a1;have:=Hl a3;subst l;subst s
      have:c=false:=by cases c;rfl;cases a2
      subst c
      rw [show Xd (Zb.mk 2 n [] [] false)=Xa n from rfl]
      have hd:=Zul (r:=r) hn.1 hn.2 hr.notD
      obtain ⟨x,t,h3,h4⟩:=Zrx n
      rw [h3] at hd ⊢
      rw [List.cons_append] at hd ⊢
      have hx :∀y:UInt8,y∈([116,102,110,38,60,123,91,34]:Zc)->y≠x:=by
        rintro y hy rfl
        rcases h4 with rfl | h4
        . exact absurd hy (by decide)
        . exact Xo4 h4 (by decide) hy
      rw [Qu,if_neg (by rw [nohead (hx _ (by decide))];decide),Qc,if_neg (by rw [nohead (hx _ (by decide))];decide),Qt,if_neg (by rw [nohead (hx _ (by decide))];decide),Qv,if_neg (by rw [nohead (hx _ (by decide))];decide),Uk,if_neg (by rw [nohead (hx _ (by decide))];decide),
        if_neg (by rw [nohead (hx _ (by decide))];decide),if_neg (by rw [nohead (hx _ (by decide))];decide),if_neg (by rw [nohead (hx _ (by decide))];decide),if_neg (by rw [nohead (hx _ (by decide))];decide),
        if_neg (by rw [List.head?_cons];intro e;injection e with e;exact hx 34 (by decide) e.symm),hd]
    . have:=Hl a1;subst l
      have:c=false:=by cases c;rfl;cases a2
      subst c
      rw [show Xd (Zb.mk 3 0 s [] false)=quo s from rfl]
      have hd:=Xns (s:=s) (r:=r) (by omega)
      rw [show quo s++r=34::(Ka s++[34]++r) from rfl] at hd ⊢
      rw [Qu,if_neg (by rw [nohead (by decide)];decide),Qc,if_neg (by rw [nohead (by decide)];decide),Qt,if_neg (by rw [nohead (by decide)];decide),Qv,if_neg (by rw [nohead (by decide)];decide),Uk,if_neg (by rw [nohead (by decide)];decide),
        if_neg (by rw [nohead (by decide)];decide),if_neg (by rw [nohead (by decide)];decide),if_neg (by rw [nohead (by decide)];decide),if_neg (by rw [nohead (by decide)];decide),List.head?_cons,if_pos rfl,hd]
    . have:=Hl a1;subst s
      cases c with
      | true=>
        have:=Hl (a3.resolve_left (by decide));subst l
        have e:=Jx Qv r
        rw [show Xd (Zb.mk 4 0 [] [] true)=Qv from rfl]
        rw [show Qv++r=38::([46,46,46]++r) from rfl] at e ⊢
        rw [Qu,if_neg (by rw [nohead (by decide)];decide),Qc,if_neg (by rw [nohead (by decide)];decide),Qt,if_neg (by rw [nohead (by decide)];decide),if_pos (by rw [e]),e]
      | false=>
        match l,a2 with
        | [],_=>
          have e:=Jx Qt r
          rw [show Xd (Zb.mk 4 0 [] [] false)=Qt from rfl]
          rw [show Qt++r=110::([105,108]++r) from rfl] at e ⊢
          rw [Qu,if_neg (by rw [nohead (by decide)];decide),Qc,if_neg (by rw [nohead (by decide)];decide),if_pos (by rw [e]),e]
        | [w],_=>
          rw [show Xd (Zb.mk 4 0 [] [w] false)=38::Yy [w] from rfl,Zmd,List.cons_append]
          have e:Zn [38] (38::(Xd w++r))=(Xd w++r,true):=Jx [38] _
          have e2:(Zn Qv (38::(Xd w++r))).2=false:=by rw [Qv,Zh1,Znb (.inl rfl)];rfl
          rw [Qu,if_neg (by rw [nohead (by decide)];decide),Qc,if_neg (by rw [nohead (by decide)];decide),Qt,if_neg (by rw [nohead (by decide)];decide),if_neg (by rw [e2];decide),Uk,if_neg (by rw [nohead (by decide)];decide),if_pos (by rw [e]),e]
          simp only
          rw [ih w List.mem_cons_self r hr]
    . have:=Hl a1;subst s
      have:c=false:=by cases c;rfl;cases a3
      subst c
      rw [show Xd (Zb.mk 5 0 [] l false)=123::(Yy l++[125]) from rfl]
      have e0:123::(Yy l++[125])++r=123::(Yy l++125::r):=by simp
      have e:Zn [123] (123::(Yy l++125::r))=(Yy l++125::r,true):=Jx [123] _
      rw [e0,Qu,if_neg (by rw [nohead (by decide)];decide),Qc,if_neg (by rw [nohead (by decide)];decide),Qt,if_neg (by rw [nohead (by decide)];decide),Qv,if_neg (by rw [nohead (by decide)];decide),Uk,if_neg (by rw [nohead (by decide)];decide),if_neg (by rw [nohead (by decide)];decide),if_pos (by rw [e]),e]
      exact Zpi (.inl rfl) l r ih (by omega)
    . have:=Hl a1;subst s
      have:c=false:=by cases c;rfl;cases a4
      subst c
      rw [show Xd (Zb.mk 6 0 [] l false)=91::(Yy l++[93]) from rfl]
      have e0:91::(Yy l++[93])++r=91::(Yy l++93::r):=by simp
      have e:Zn [91] (91::(Yy l++93::r))=(Yy l++93::r,true):=Jx [91] _
      rw [e0,Qu,if_neg (by rw [nohead (by decide)];decide),Qc,if_neg (by rw [nohead (by decide)];decide),Qt,if_neg (by rw [nohead (by decide)];decide),Qv,if_neg (by rw [nohead (by decide)];decide),Uk,if_neg (by rw [nohead (by decide)];decide),if_neg (by rw [nohead (by decide)];decide),if_neg (by rw [nohead (by decide)];decide),if_pos (by rw [e]),e]
      exact Zpi (.inr (.inl rfl)) l r ih (by omega)
    . have:=Hl a1;subst s
      cases c with
      | true=>
        have:=Hl (a3.resolve_left (by decide));subst l
        have e:=Jx Uk r
        rw [show Xd (Zb.mk 7 0 [] [] true)=Uk from rfl]
        rw [show Uk++r=60::([46,46,46,62]++r) from rfl] at e ⊢
        rw [Qu,if_neg (by rw [nohead (by decide)];decide),Qc,if_neg (by rw [nohead (by decide)];decide),Qt,if_neg (by rw [nohead (by decide)];decide),Qv,if_neg (by rw [nohead (by decide)];decide),if_pos (by rw [e]),e]
      | false=>
        rw [show Xd (Zb.mk 7 0 [] l false)=60::(Yy l++[62]) from rfl]
        have e0:60::(Yy l++[62])++r=60::(Yy l++62::r):=by simp
        have e:Zn [60] (60::(Yy l++62::r))=(Yy l++62::r,true):=Jx [60] _
        have e2:(Zn Uk (60::(Yy l++62::r))).2=false:=by
          have:=Wdx (l:=l) (e:=0) (p:=[46,46,62]) (r:=r)
          rw [Uk,Zh1,if_neg (by rw [this];decide)]
        rw [e0,Qu,if_neg (by rw [nohead (by decide)];decide),Qc,if_neg (by rw [nohead (by decide)];decide),Qt,if_neg (by rw [nohead (by decide)];decide),Qv,if_neg (by rw [nohead (by decide)];decide),if_neg (by rw [e2];decide),if_neg (by rw [nohead (by decide)];decide),if_neg (by rw [nohead (by decide)];decide),if_neg (by rw [nohead (by decide)];decide),if_pos (by rw [e]),e]
        exact Zpi (.inr (.inr rfl)) l r ih (by omega)
def Jj (s:Zc):Zb × Int:=if 1400000<s.length then (vz,4) else
  if (Jd 130 s).2.1=true/\(Jd 130 s).2.2=[]/\Vh (Jd 130 s).1=true/\Xd (Jd 130 s).1=s then ((Jd 130 s).1,0) else (vz,12)
theorem Rw {v:Zb} (h:Vh v=true):Ky 130 v=true/\v.nodes<=5000:=by
  simpa [Vh] using h
theorem Xqu {v:Zb} (h:Vh v=true) (hw:Wf v):Jd 130 (Xd v)=(v,true,[]):=by
  have:=Zud 130 v (Rw h).1 hw [] (by intro c hc;cases hc)
  rwa [List.append_nil] at this
theorem Zrl {v:Zb} (h:Vh v=true) (hw:Wf v):Jj (Xd v)=(v,0):=by
  have h1:=Tz h
  unfold Jj
  rw [if_neg (by omega),Xqu h hw,if_pos ⟨rfl,rfl,h,rfl⟩]
theorem Ydc {s:Zc} (h:(Jj s).2=0):Vh (Jj s).1=true/\Xd (Jj s).1=s/\Wf (Jj s).1:=by
  unfold Jj at h ⊢
  split
  . rename_i h1;rw [if_pos h1] at h;cases h
  . rename_i h1
    rw [if_neg h1] at h
    split
    . rename_i h2;exact ⟨h2.2.2.1,h2.2.2.2,Cf _ _⟩
    . rename_i h2;rw [if_neg h2] at h;cases h
theorem Yga (s:Zc):Wf (Jj s).1:=by
  unfold Jj
  split
  . exact Wf.zero
  . split
    . exact Cf _ _
    . exact Wf.zero
noncomputable def Rh (v w:Zb):Bool:=@decide (v=w) (Classical.propDecidable _)
theorem Lr {v w:Zb}:Rh v w=true↔v=w:=by unfold Rh;simp
theorem Zet {v w:Zb}:Rh v w=false↔v≠w:=by
  rw [<- Bool.not_eq_true,Lr]
end Go.AM

/- Yf of the proof. -/
namespace Go.AM
open Go
theorem Zzs {x m c:BitVec 64} (h:x &&& ~~~m=c):x=c ||| (x &&& m):=by
 subst h
 apply BitVec.eq_of_getLsbD_eq
 intro i hi
 simp only [BitVec.getLsbD_or,BitVec.getLsbD_and,BitVec.getLsbD_not,hi,decide_true,Bool.true_and]
 cases x.getLsbD i<;>cases m.getLsbD i<;>rfl
theorem Zpr (x:BitVec 64) (i:Nat):x &&& BitVec.twoPow 64 i=BitVec.twoPow 64 i\/x &&& BitVec.twoPow 64 i=0#64:=by
 rw [BitVec.and_twoPow]
 split
 ·exact .inl rfl
 ·exact .inr rfl
theorem Yco (x:BitVec 64):IntKind.u64.wrap (x.toNat:Int)=(x.toNat:Int):=Oo x.isLt
theorem Zwd {f:Int} (h:0<=f/\f<18446744073709551616):f=((BitVec.ofInt 64 f).toNat:Int):=by
 rw [BitVec.toNat_ofInt];omega
theorem Xc5 {f:Int} (h:0<=f/\f<18446744073709551616):Fc .u64 f 4=2↔f=2\/f=6:=by
 constructor
 ·intro h1
  have h1:IntKind.u64.wrap ((BitVec.ofInt 64 f &&& ~~~(BitVec.ofInt 64 4)).toNat:Int)=2:=h1
  rw [Yco] at h1
  have h2:BitVec.ofInt 64 f &&& ~~~(BitVec.ofInt 64 4)=2#64:=BitVec.eq_of_toNat_eq (by rw [show (2#64).toNat=2 from rfl];omega)
  have h3:=Zzs h2
  rw [show BitVec.ofInt 64 4=BitVec.twoPow 64 2 from by decide] at h3
  rcases Zpr (BitVec.ofInt 64 f) 2 with h4 | h4<;>rw [h4] at h3<;>have h5:=Zwd h<;>rw [h3] at h5
  ·exact .inr h5
  ·exact .inl h5
 ·rintro (rfl | rfl)<;>decide
theorem Xzk {f:Int} (h:0<=f/\f<18446744073709551616):Fc .u64 f 5=0↔f=0\/f=1\/f=4\/f=5:=by
 constructor
 ·intro h1
  have h1:IntKind.u64.wrap ((BitVec.ofInt 64 f &&& ~~~(BitVec.ofInt 64 5)).toNat:Int)=0:=h1
  rw [Yco] at h1
  have h2:BitVec.ofInt 64 f &&& ~~~(BitVec.ofInt 64 5)=0#64:=BitVec.eq_of_toNat_eq (by rw [show (0#64).toNat=0 from rfl];omega)
  have h3:=Zzs h2
  have e:BitVec.ofInt 64 f &&& BitVec.ofInt 64 5=(BitVec.ofInt 64 f &&& BitVec.twoPow 64 2) ||| (BitVec.ofInt 64 f &&& BitVec.twoPow 64 0):=by
   rw [show BitVec.ofInt 64 5=BitVec.twoPow 64 2 ||| BitVec.twoPow 64 0 from by decide]
   apply BitVec.eq_of_getLsbD_eq
   intro i hi
   simp only [BitVec.getLsbD_or,BitVec.getLsbD_and]
   cases (BitVec.ofInt 64 f).getLsbD i<;>rfl
  rw [e] at h3
  have h5:=Zwd h
  rcases Zpr (BitVec.ofInt 64 f) 2 with h4 | h4<;>rcases Zpr (BitVec.ofInt 64 f) 0 with h6 | h6<;>rw [h4,h6] at h3<;>rw [h3] at h5
  ·exact .inr (.inr (.inr h5))
  ·exact .inr (.inr (.inl h5))
  ·exact .inr (.inl h5)
  ·exact .inl h5
 ·rintro (rfl | rfl | rfl | rfl)<;>decide
def Lg:Zc:=[101,120,105,116]
def Kq:Zc:=[112,97,110,105,99,32]
def Kc:Zc:=[32,114,101,99,111,118,101,114,101,100]
def Je:Zc:=[32,97,98,111,114,116,101,100]
def Tl:Zc:=[102,97,117,108,116,32,49,58,32,100,105,118,105,115,105,111,110,32,98,121,32,122,101,114,111]
def Ci:Zc:=[102,97,117,108,116,32,50,58,32,110,105,108,32,112,111,105,110,116,101,114]
def Cj:Zc:=[102,97,117,108,116,32,51,58,32,111,117,116,32,111,102,32,114,97,110,103,101]
def Ew (n:Int):Zc:=if n=1 then Tl else if n=2 then Ci else if n=3 then Cj else []
def Mg (t:Int):Int:=if t=1 then 2 else if t=2 then 1 else if t=3 then 3 else if t=4 then 2 else 0
structure Dq (p:Zh):Prop where
 t:0<=p.tag/\p.tag<18446744073709551616
 v:Wf p.value
 f:0<=p.flags/\p.flags<18446744073709551616
def Bk (v:Zb):Bool:=decide (v.kind=0)&&decide (v.int=0)&&decide (v.text=[])&&decide (v.list.length=0)&&!v.cut
theorem Zoa {v:Zb}:Bk v=true↔v=vz:=by
 unfold Bk
 simp only [Bool.and_eq_true,decide_eq_true_eq,Bool.not_eq_true',and_assoc,List.length_eq_zero_iff]
 cases v with
 | mk k n s l c=>simp
def Xy (p:Zh):Bool:=decide (p.tag<=4)&&decide (p.value.kind=Mg p.tag)&&(if p.tag=0 then Bk p.value&&decide (p.flags=2\/p.flags=6)
 else decide (p.flags=0\/p.flags=1\/p.flags=4\/p.flags=5)&&decide (p.tag=4->1<=p.value.int/\p.value.int<=3)&&Vh p.value)
def Hu (p:Zh):Int:=if Xy p=true then 0 else 8
def Vj (p:Zh):Zc:=if p.tag=0 then Lg else if p.tag=4 then Ew p.value.int else Kq++Xd p.value
def Tj (f:Int):Zc:=(if f % 2=1 then Kc else [])++(if 4<=f then Je else [])
def Vw (p:Zh):Zc:=Vj p++Tj p.flags
def Rp (p:Zh):Zc × Int:=if Xy p=true then (Vw p,0) else ([],8)
def pz:Zh:=⟨0,vz,0⟩
def Xr (p s:Zc):Zc × Bool:=if p.length<=s.length/\s.drop (s.length-p.length)=p then (s.take (s.length-p.length),true) else (s,false)
theorem Of (p s:Zc):Xr p (s++p)=(s,true):=by
 unfold Xr
 rw [if_pos ⟨by simp,by simp⟩]
 simp
theorem Zjj {p s:Zc} (h:(Xr p s).2=true):s=(Xr p s).1++p:=by
 unfold Xr at h ⊢
 split
 ·rename_i h1
  have:=List.take_append_drop (s.length-p.length) s
  rw [h1.2] at this
  exact this.symm
 ·rename_i h1;rw [if_neg h1] at h;cases h
theorem Zrr {p s:Zc} (h:(Xr p s).2=false):(Xr p s).1=s:=by
 unfold Xr at h ⊢
 split
 ·rename_i h1;rw [if_pos h1] at h;cases h
 ·rfl
theorem Ym7 {p s:Zc} {c d:UInt8} (hs:s.getLast?=some c) (hp:p.getLast?=some d) (h:c≠d):Xr p s=(s,false):=by
 unfold Xr
 rw [if_neg]
 rintro ⟨h1,h2⟩
 have h3:s.getLast?=p.getLast?:=by
  rw [<- List.take_append_drop (s.length-p.length) s,h2,List.getLast?_append,hp];rfl
 rw [hs,hp] at h3
 injection h3 with h3
 exact h h3
def Uw (s:Zc):Option Zh:=if s=Lg then some ⟨0,vz,2⟩ else if s=Tl then some ⟨4,Zb.mk 2 1 [] [] false,0⟩ else if s=Ci then some ⟨4,Zb.mk 2 2 [] [] false,0⟩ else if s=Cj then some ⟨4,Zb.mk 2 3 [] [] false,0⟩ else
 if (Zn Kq s).2=false then none else
 if (Jj (Zn Kq s).1).2≠0 then none else
 let v:=(Jj (Zn Kq s).1).1
 if v.kind=2 then some ⟨1,v,0⟩ else if v.kind=1 then some ⟨2,v,0⟩ else if v.kind=3 then some ⟨3,v,0⟩ else none
def Qr (s:Zc):Zh × Int:=if 2000<s.length then (pz,4) else
 let a:=Xr Je s
 let r:=Xr Kc a.1
 match Uw r.1 with
 | none=>(pz,12)
 | some p=>let q:Zh:=⟨p.tag,p.value,p.flags+(if r.2=true then 1 else 0)+(if a.2=true then 4 else 0)⟩
  if Xy q=true then (q,0) else (pz,12)
end Go.AM

/- Yf of the proof. -/
namespace Go.AM
open Go
theorem Xpx {p q b:Zc} (h:p.length<=q.length):Xr p (b++q)=(b++(Xr p q).1,(Xr p q).2):=by
 have e:(b++q).length-p.length=b.length+(q.length-p.length):=by simp;omega
 unfold Xr
 rw [e,List.drop_append,List.take_append]
 rw [List.drop_of_length_le (by omega),List.take_of_length_le (by omega),List.nil_append,show b.length+(q.length-p.length)-b.length=q.length-p.length by omega]
 by_cases h1:q.drop (q.length-p.length)=p
 ·rw [if_pos ⟨by simp;omega,h1⟩,if_pos ⟨h,h1⟩]
 ·rw [if_neg fun h2=>h1 h2.2,if_neg fun h2=>h1 h2.2]
theorem Yx8 {v:Zb} (h:Vh v=true) (hk:v.kind=2):v=Zb.mk 2 v.int [] [] false:=by
 have h1:=Mr (Rw h).1
 cases v with
 | mk k n s l c=>
  simp only [Zb.okh,Qa,Zb.kind_mk,Zb.int_mk,Zb.text_mk,Zb.list_mk,Zb.cut_mk] at h1 hk ⊢
  subst hk
  have hl:=Hl (l:=l) (by omega)
  have hs:=Hl (l:=s) (by omega)
  subst hl;subst hs
  cases c with
  | false=>rfl
  | true=>simp at h1
theorem Yzm (n:Int) :∃b c,Xa n=b++[c]/\c≠100:=by
 have key :∀m:Nat,∃b c,Jc 10 m=b++[c]/\c≠100:=by
  intro m
  obtain ⟨b,c,h⟩ :∃b c,Jc 10 m=b++[c]:=by
   have h:=Zml 10 m
   exact ⟨_,_,(List.dropLast_concat_getLast h).symm⟩
  refine ⟨b,c,h,fun hc=>?_⟩
  have:=Sf 64 m c (by rw [show ds 10 64 m=Jc 10 m from rfl,h];simp)
  rw [hc] at this
  exact absurd this (by decide)
 unfold Xa
 split
 ·obtain ⟨b,c,h,hc⟩:=key (-n).toNat
  exact ⟨45::b,c,by rw [h];rfl,hc⟩
 ·exact key _
theorem Xgb {p:Zh} (h:Xy p=true) :∃b c,Vj p=b++[c]/\c≠100:=by
 unfold Xy at h
 simp only [Bool.and_eq_true,decide_eq_true_eq] at h
 obtain ⟨⟨h1,h2⟩,h3⟩:=h
 unfold Vj
 by_cases t0:p.tag=0
 ·rw [if_pos t0];exact ⟨[101,120,105],116,rfl,by decide⟩
 rw [if_neg t0] at h3 ⊢
 simp only [Bool.and_eq_true,decide_eq_true_eq] at h3
 obtain ⟨⟨h4,h5⟩,h6⟩:=h3
 by_cases t4:p.tag=4
 ·rw [if_pos t4]
  have:=h5 t4
  rcases (show p.value.int=1\/p.value.int=2\/p.value.int=3 by omega) with h | h | h<;>rw [h]
  ·exact ⟨Tl.dropLast,111,rfl,by decide⟩
  ·exact ⟨Ci.dropLast,114,rfl,by decide⟩
  ·exact ⟨Cj.dropLast,101,rfl,by decide⟩
 rw [if_neg t4]
 have hk:p.value.kind=2\/p.value.kind=1\/p.value.kind=3:=by
  rw [h2];unfold Mg
  by_cases a1:p.tag=1
  ·rw [if_pos a1];exact .inl rfl
  rw [if_neg a1]
  by_cases a2:p.tag=2
  ·rw [if_pos a2];exact .inr (.inl rfl)
  rw [if_neg a2]
  by_cases a3:p.tag=3
  ·rw [if_pos a3];exact .inr (.inr rfl)
  rw [if_neg a3,if_neg t4]
  have h0:=Mr (Rw h6).1
  unfold Zb.okh Qa at h0
  rw [h2] at h0
  unfold Mg at h0
  rw [if_neg a1,if_neg a2,if_neg a3,if_neg t4] at h0
  omega
 have add :∀{x:Zc},(∃b c,x=b++[c]/\c≠(100:UInt8))->∃b c,Kq++x=b++[c]/\c≠(100:UInt8):=fun ⟨b,c,h,hc⟩=>⟨Kq++b,c,by rw [h];simp,hc⟩
 apply add
 rw [Sq]
 rcases hk with h | h | h<;>rw [h]
 ·exact Yzm _
 ·rw [if_pos rfl]
  split
  ·exact ⟨[116,114,117],101,rfl,by decide⟩
  ·exact ⟨[102,97,108,115],101,rfl,by decide⟩
 ·exact ⟨34::Ka p.value.text,34,rfl,by decide⟩
theorem Sr {p:Zh} (h:Xy p=true):(p.tag=0/\p.value=vz/\(p.flags=2\/p.flags=6))\/(p.tag≠0/\Vh p.value=true/\(p.flags=0\/p.flags=1\/p.flags=4\/p.flags=5)):=by
 unfold Xy at h
 simp only [Bool.and_eq_true,decide_eq_true_eq] at h
 obtain ⟨⟨h1,h2⟩,h3⟩:=h
 by_cases t0:p.tag=0
 ·rw [if_pos t0] at h3
  simp only [Bool.and_eq_true,decide_eq_true_eq] at h3
  exact .inl ⟨t0,Zoa.1 h3.1,h3.2⟩
 ·rw [if_neg t0] at h3
  simp only [Bool.and_eq_true,decide_eq_true_eq] at h3
  exact .inr ⟨t0,h3.2,h3.1.1⟩
theorem Ypj {p:Zh} (h:Xy p=true):(Xr Je (Vw p)).2=decide (4<=p.flags)/\Xr Kc (Xr Je (Vw p)).1=(Vj p,decide (p.flags % 2=1)):=by
 obtain ⟨b,c,hb,hc⟩:=Xgb h
 have a1:Xr Je (Vj p)=(Vj p,false):=Ym7 (c:=c) (d:=100) (by rw [hb];simp) rfl hc
 have a2:Xr Kc (Vj p)=(Vj p,false):=Ym7 (c:=c) (d:=100) (by rw [hb];simp) rfl hc
 have a3:Xr Je (Vj p++Kc)=(Vj p++Kc,false):=by rw [Xpx (by decide)];rfl
 have hf:p.flags=0\/p.flags=1\/p.flags=2\/p.flags=4\/p.flags=5\/p.flags=6:=by rcases Sr h with ⟨_,_,h⟩ | ⟨_,_,h⟩<;>omega
 unfold Vw Tj
 rcases hf with h | h | h | h | h | h<;>rw [h]
 ·rw [show Vj p++((if (0:Int) % 2=1 then Kc else [])++(if (4:Int)<=0 then Je else []))=Vj p by simp,a1];exact ⟨rfl,a2⟩
 ·rw [show Vj p++((if (1:Int) % 2=1 then Kc else [])++(if (4:Int)<=1 then Je else []))=Vj p++Kc by simp,a3];exact ⟨rfl,Of _ _⟩
 ·rw [show Vj p++((if (2:Int) % 2=1 then Kc else [])++(if (4:Int)<=2 then Je else []))=Vj p by simp,a1];exact ⟨rfl,a2⟩
 ·rw [show Vj p++((if (4:Int) % 2=1 then Kc else [])++(if (4:Int)<=4 then Je else []))=Vj p++Je by simp,Of];exact ⟨rfl,a2⟩
 ·rw [show Vj p++((if (5:Int) % 2=1 then Kc else [])++(if (4:Int)<=5 then Je else []))=(Vj p++Kc)++Je by simp,Of];exact ⟨rfl,Of _ _⟩
 ·rw [show Vj p++((if (6:Int) % 2=1 then Kc else [])++(if (4:Int)<=6 then Je else []))=Vj p++Je by simp,Of];exact ⟨rfl,a2⟩
theorem Wih {p:Zh} (h:Xy p=true) (hw:Wf p.value):Uw (Vj p)=some ⟨p.tag,p.value,if p.tag=0 then 2 else 0⟩:=by
 have h0:=Sr h
 unfold Xy at h
 simp only [Bool.and_eq_true,decide_eq_true_eq] at h
 obtain ⟨⟨h1,h2⟩,h3⟩:=h
 obtain ⟨t,v,f⟩:=p
 simp only at h0 h1 h2 h3 hw ⊢
 unfold Vj
 rcases h0 with ⟨rfl,rfl,_⟩ | ⟨t0,hf,_⟩
 ·rfl
 rw [if_neg t0] at h3
 simp only [Bool.and_eq_true,decide_eq_true_eq] at h3
 obtain ⟨⟨h4,h5⟩,h6⟩:=h3
 simp only
 rw [if_neg t0]
 by_cases t4:t=4
 ·subst t4
  have hv:=Yx8 hf h2
  have:=h5 rfl
  rw [if_pos rfl]
  rcases (show v.int=1\/v.int=2\/v.int=3 by omega) with h | h | h<;>rw [h] at hv<;>rw [hv]<;>rfl
 rw [if_neg t4,if_neg t0]
 have ne :∀{x:Zc} {c:UInt8} {r:Zc},x=c::r->c≠112->Kq++Xd v≠x:=fun hx hc e=>by
  rw [hx] at e
  injection e with e
  exact hc e.symm
 unfold Uw
 rw [if_neg (ne (x:=Lg) (c:=101) rfl (by decide)),if_neg (ne (x:=Tl) (c:=102) rfl (by decide)),if_neg (ne (x:=Ci) (c:=102) rfl (by decide)),if_neg (ne (x:=Cj) (c:=102) rfl (by decide)),Jx,if_neg (show ¬(true=false) by decide),Zrl hf hw,if_neg (show ¬((0:Int)≠0) by decide)]
 simp only
 unfold Mg at h2
 by_cases a1:t=1
 ·subst a1
  rw [if_pos rfl] at h2
  rw [if_pos h2]
 rw [if_neg a1] at h2
 by_cases a2:t=2
 ·subst a2
  rw [if_pos rfl] at h2
  rw [if_neg (by omega),if_pos h2]
 rw [if_neg a2] at h2
 by_cases a3:t=3
 ·subst a3
  rw [if_pos rfl] at h2
  rw [if_neg (by omega),if_neg (by omega),if_pos h2]
 rw [if_neg a3,if_neg t4] at h2
 have h7:=Mr (Rw hf).1
 unfold Zb.okh Qa at h7
 omega
theorem Xf3 {v:Zb} (h:Vh v=true) (hk:v.kind=1\/v.kind=2\/v.kind=3):(Xd v).length<=300:=by
 have h7:=Mr (Rw h).1
 unfold Zb.okh Qa at h7
 have h8:=Kx v.int
 have h9:=Bf v.text
 rw [Sq]
 rcases hk with h | h | h<;>rw [h]
 ·rw [if_pos rfl];split<;>decide
 ·show (Xa v.int).length<=300;omega
 ·show (quo v.text).length<=300;omega
theorem Ym8 {p:Zh} (h:Xy p=true) (h0:p.tag≠0):p.value.kind=1\/p.value.kind=2\/p.value.kind=3:=by
 have hf:Vh p.value=true:=by rcases Sr h with h | h;exact absurd h.1 h0;exact h.2.1
 unfold Xy at h
 simp only [Bool.and_eq_true,decide_eq_true_eq] at h
 have h2:=h.1.2
 have h7:=Mr (Rw hf).1
 unfold Zb.okh Qa at h7
 unfold Mg at h2
 repeat' split at h2
 all_goals omega
theorem Zlx {p:Zh} (h:Xy p=true):(Vw p).length<=400:=by
 have hs:(Tj p.flags).length<=18:=by unfold Tj;split<;>split<;>decide
 have hb:(Vj p).length<=310:=by
  unfold Vj
  by_cases t0:p.tag=0
  ·rw [if_pos t0];decide
  rw [if_neg t0]
  split
  ·unfold Ew;repeat' split
   all_goals decide
  ·have hf:Vh p.value=true:=by rcases Sr h with h | h;exact absurd h.1 t0;exact h.2.1
   have:=Xf3 hf (Ym8 h t0)
   rw [List.length_append,show Kq.length=6 from rfl];omega
 unfold Vw
 rw [List.length_append];omega
theorem Ymt {p:Zh} (h:Xy p=true) (hw:Wf p.value):Qr (Vw p)=(p,0):=by
 have h1:=Zlx h
 obtain ⟨h2,h3⟩:=Ypj h
 have h4:=Wih h hw
 unfold Qr
 rw [if_neg (by omega)]
 simp only [h2,h3]
 rw [h4]
 simp only
 have e:(if p.tag=0 then (2:Int) else 0)+(if decide (p.flags % 2=1)=true then 1 else 0)+(if decide (4<=p.flags)=true then 4 else 0)=p.flags:=by
  simp only [decide_eq_true_eq]
  rcases Sr h with ⟨a,_,b⟩ | ⟨a,_,b⟩
  ·rw [if_pos a];rcases b with b | b<;>rw [b]<;>decide
  ·rw [if_neg a];rcases b with b | b | b | b<;>rw [b]<;>decide
 rw [e,if_pos (show Xy ⟨p.tag,p.value,p.flags⟩=true from h)]
theorem Yj4 {s:Zc} {p:Zh} (h:Uw s=some p):Wf p.value/\(p.flags=0\/p.flags=2)/\0<=p.tag/\p.tag<=4/\Vj p=s:=by
 have wn :∀n:Int,n=1\/n=2\/n=3->Wf (Zb.mk 2 n [] [] false):=fun n hn=>.mk (by decide) (by omega) (by decide) (by simp)
 unfold Uw at h
 by_cases h1:s=Lg
 ·rw [if_pos h1] at h;cases h;exact ⟨Wf.zero,.inr rfl,by decide,by decide,h1.symm⟩
 rw [if_neg h1] at h
 by_cases h2:s=Tl
 ·rw [if_pos h2] at h;cases h;exact ⟨wn 1 (by decide),.inl rfl,by decide,by decide,h2.symm⟩
 rw [if_neg h2] at h
 by_cases h3:s=Ci
 ·rw [if_pos h3] at h;cases h;exact ⟨wn 2 (by decide),.inl rfl,by decide,by decide,h3.symm⟩
 rw [if_neg h3] at h
 by_cases h4:s=Cj
 ·rw [if_pos h4] at h;cases h;exact ⟨wn 3 (by decide),.inl rfl,by decide,by decide,h4.symm⟩
 rw [if_neg h4] at h
 by_cases h5:(Zn Kq s).2=false
 ·rw [if_pos h5] at h;cases h
 rw [if_neg h5] at h
 by_cases h6:(Jj (Zn Kq s).1).2≠0
 ·rw [if_pos h6] at h;cases h
 rw [if_neg h6] at h
 have h5:(Zn Kq s).2=true:=by simpa using h5
 obtain ⟨g1,g2,g3⟩:=Ydc (Decidable.not_not.1 h6)
 have es:Kq++Xd (Jj (Zn Kq s).1).1=s:=by
  rw [g2]
  unfold Zn at h5 ⊢
  split at h5
  ·rename_i h7
   have:=List.take_append_drop Kq.length s
   rw [h7] at this
   rw [if_pos h7]
   exact this
  ·cases h5
 simp only at h
 split at h
 ·cases h;exact ⟨g3,.inl rfl,by simp only;decide,by simp only;decide,es⟩
 split at h
 ·cases h;exact ⟨g3,.inl rfl,by simp only;decide,by simp only;decide,es⟩
 split at h
 ·cases h;exact ⟨g3,.inl rfl,by simp only;decide,by simp only;decide,es⟩
 ·cases h
theorem Xg2 {f:Int} (hf:f=0\/f=2) (r a:Bool):Tj (f+(if r=true then 1 else 0)+(if a=true then 4 else 0))=(if r=true then Kc else [])++(if a=true then Je else []):=by
 rcases hf with rfl | rfl<;>cases r<;>cases a<;>rfl
theorem Yx7 {s:Zc} (h:(Qr s).2=0):Xy (Qr s).1=true/\Dq (Qr s).1/\Vw (Qr s).1=s/\s.length<=2000:=by
 unfold Qr at h ⊢
 by_cases hl:2000<s.length
 ·rw [if_pos hl] at h;cases h
 rw [if_neg hl] at h ⊢
 simp only at h ⊢
 have ha1:=@Zjj Je s
 have ha2:=@Zrr Je s
 generalize Xr Je s=a at h ha1 ha2 ⊢
 have hr1:=@Zjj Kc a.1
 have hr2:=@Zrr Kc a.1
 generalize Xr Kc a.1=r at h hr1 hr2 ⊢
 cases hc:Uw r.1 with
 | none=>rw [hc] at h;cases h
 | some p=>
  rw [hc] at h
  simp only at h ⊢
  obtain ⟨g1,g2,g3,g3',g4⟩:=Yj4 hc
  by_cases ho:Xy ⟨p.tag,p.value,p.flags+(if r.2=true then 1 else 0)+(if a.2=true then 4 else 0)⟩=true
  ·rw [if_pos ho]
   refine ⟨ho,⟨⟨g3,by simp only;omega⟩,g1,?_⟩,?_,by omega⟩
   ·simp only;constructor<;>(split<;>split<;>omega)
   ·have e:Vj ⟨p.tag,p.value,p.flags+(if r.2=true then 1 else 0)+(if a.2=true then 4 else 0)⟩=r.1:=g4
    unfold Vw
    rw [e]
    simp only
    rw [Xg2 g2]
    cases hr:r.2 with
    | true=>
     cases ha:a.2 with
     | true=>rw [ha1 ha,hr1 hr];simp
     | false=>rw [<- ha2 ha,hr1 hr];simp
    | false=>
     cases ha:a.2 with
     | true=>rw [ha1 ha,<- hr2 hr];simp
     | false=>rw [<- ha2 ha,<- hr2 hr];simp
  ·rw [if_neg ho] at h;cases h
end Go.AM

/- Yf of the proof. -/
namespace Go.AM
open Go
structure Has38 (PG:Za):Prop extends Has03 PG,HasB PG where
 f71:PG.fn 71=some Zcp
 f72:PG.fn 72=some Zb4
 f74:PG.fn 74=some Ee
 f76:PG.fn 76=some Zdn
 f78:PG.fn 78=some Zh4
 f102:PG.fn 102=some Zfe
 f103:PG.fn 103=some Zek
 f104:PG.fn 104=some Pf
 f107:PG.fn 107=some Ct
 f109:PG.fn 109=some Zaz
 f128:PG.fn 128=some Lp
 f129:PG.fn 129=some Pw
 f130:PG.fn 130=some Pg
 f131:PG.fn 131=some Lw
 f136:PG.fn 136=some Zr6
section
variable {PG:Za} (H:Has38 PG)
include H
theorem Yfj :∀(d:Nat) {v:Zb},Wf v->d<=1000->Ze PG 102 [v.av,.i .i64 (d:Int)] (.b (Hr d v))
 | 0,v,hw,hd=>by
  obtain ⟨x,rfl,h⟩:=Zvy H.f102 (v0:=v) (most1:=((0:Nat):Int)) (K:=fun x=>x=Hr 0 v) (by
   unfold Zfi
   exact ⟨fun _=>rfl,fun h=>absurd rfl h⟩)
  exact h
 | d+1,v,hw,hd=>by
  have ih:=@Yfj d
  obtain ⟨x,rfl,h⟩:=Zvy H.f102 (v0:=v) (most1:=((d+1:Nat):Int)) (K:=fun x=>x=Hr (d+1) v) (by
   have hm:IntKind.i64.wrap (((d+1:Nat):Int)-1)=(d:Int):=by rw [Xq (by omega) (by omega)];omega
   unfold Zfi
   refine ⟨fun h=>absurd h (by omega),fun _=>⟨fun h=>?_,fun h1=>⟨fun h=>?_,fun h2 P hP=>?_⟩⟩⟩
   ·rw [Hr,decide_eq_true (show 100<v.text.length by omega)];rfl
   ·rw [Hr,decide_eq_true (show 400<v.list.length by omega),Bool.or_true];rfl
   ·have e:Hr (d+1) v=v.list.any (Hr d):=by
     rw [Hr,decide_eq_false (by omega),decide_eq_false (by omega)];rfl
    refine Zai (P:=fun _ i=>P i v) (fun _=>()) v.list.length (fun i=>(v.list.take i).any (Hr d)=false) (by simp) (fun hI=>?_) (fun i hi hI ihP=>?_)
    ·apply hP
     unfold Zd4 Zqz
     refine ⟨fun h=>absurd h (by omega),fun _=>?_⟩
     rw [List.take_length] at hI
     rw [e,hI]
    ·apply hP
     unfold Zd4
     refine ⟨fun _=>⟨by omega,_,Xm hi,_,by rw [hm];exact ih (hw.e _ (List.getElem_mem hi)) (by omega),fun h3=>?_,fun h3=>?_⟩,fun h=>absurd (show (i:Int)<v.list.length by omega) h⟩
     ·rw [e]
      exact (List.any_eq_true.2 ⟨_,List.getElem_mem hi,h3⟩).symm
     ·rw [Ml (by omega)]
      refine ihP ?_
      rw [List.take_succ_eq_append_getElem hi,List.any_append,hI]
      simpa using h3)
  exact h
omit H in
theorem Yo5 {l:List Zb} {i n:Nat} (hi:i<l.length) (hn:Vn (l.take i) n<=5000):Vn (l.take (i+1)) n=Vn (l.take i) n+rN l[i]:=by
 have key :∀(l:List Zb) (v:Zb) (n:Nat),Vn l n<=5000->Vn (l++[v]) n=Vn l n+rN v:=by
  intro l
  induction l with
  | nil=>intro v n h;rw [Vn] at h;simp [Vn,h]
  | cons w l ih=>
   intro v n h
   rw [Vn] at h
   by_cases hn:n<=5000
   ·rw [if_pos hn] at h
    simp only [List.cons_append,Vn,if_pos hn]
    exact ih v _ h
   ·rw [if_neg hn] at h
    exact absurd h hn
 rw [List.take_succ_eq_append_getElem hi,key _ _ _ hn]
omit H in
theorem Yte {l:List Zb} {i n:Nat} (h:5000<Vn (l.take i) n):Vn l n=Vn (l.take i) n:=by
 have key :∀(l m:List Zb) (n:Nat),5000<Vn l n->Vn (l++m) n=Vn l n:=by
  intro l
  induction l with
  | nil=>
   intro m n h
   rw [Vn] at h
   cases m with
   | nil=>rfl
   | cons w m=>simp only [List.nil_append,Vn];rw [if_neg (by omega)]
  | cons w l ih=>
   intro m n h
   rw [Vn] at h
   simp only [List.cons_append,Vn]
   split
   ·rename_i hn;rw [if_pos hn] at h;exact ih m _ h
   ·rfl
 have:=key (l.take i) (l.drop i) n h
 rwa [List.take_append_drop] at this
theorem Ygm :∀(d:Nat) {v:Zb},Sm d v->d<=1000->Ze PG 103 [v.av] (.i .i64 (rN v:Int))
 | 0,v,hs,hd=>hs.elim
 | d+1,v,hs,hd=>by
  have ih:=@Ygm d
  obtain ⟨x,rfl,h⟩:=Xqv H.f103 (v0:=v) (K:=fun x=>x=(rN v:Int)) (by
   unfold Zlf
   intro P hP
   have e:=Ylf v
   refine Zai (P:=fun n i=>P n i v) (fun i=>(Vn (v.list.take i) 1:Int)) v.list.length (fun _=>True) trivial (fun _=>?_) (fun i hi _ ihP=>?_)
   ·apply hP
    unfold Zgq En
    refine ⟨fun h=>absurd h (by omega),fun _=>?_⟩
    rw [List.take_length,e]
   ·apply hP
    unfold Zgq En
    refine ⟨fun _=>⟨fun h=>⟨by omega,_,Xm hi,_,ih (hs.2 _ (List.getElem_mem hi)) (by omega),?_⟩,fun h=>?_⟩,fun h=>absurd (show (i:Int)<v.list.length by omega) h⟩
    ·have h1:=Ylz (hs.2 _ (List.getElem_mem hi))
     have h2:=hs.1
     have h3:=Yo5 (l:=v.list) (n:=1) hi (by omega)
     have:=ihP trivial
     rw [h3] at this
     rw [Xq (by omega) (by omega),Ml (by omega)]
     simpa using this
    ·rw [e,Yte (i:=i) (by omega)])
  exact h
theorem c71 {v:Zb} (hw:Wf v):Ze PG 71 [v.av] (.b (Dz v)):=by
 obtain ⟨x,rfl,h⟩:=p71 H.f71 (v0:=v) (K:=fun x=>x=Dz v) (by
  unfold Zjk Dz
  refine ⟨_,Yfj H 14 hw (by decide),fun h=>by rw [h];rfl,fun h=>⟨_,Ygm H 14 (Yej h) (by decide),?_⟩⟩
  rw [h,Bool.false_or]
  exact decide_eq_decide.2 (by omega))
 exact h
end
end Go.AM

/- Yf of the proof. -/
namespace Go.AM
open Go
theorem Wh2 (n:Int):Ux .i64 n 1=n % 2:=by
 unfold Ux
 have h1:(BitVec.ofInt IntKind.i64.bits n &&& BitVec.ofInt IntKind.i64.bits 1).toNat=(n % 2).toNat:=by
  show (BitVec.ofInt 64 n &&& BitVec.ofInt 64 1).toNat=_
  rw [BitVec.toNat_and]
  have h2:(BitVec.ofInt 64 1).toNat=2 ^ 1-1:=by decide
  rw [h2,Nat.and_two_pow_sub_one_eq_mod,BitVec.toNat_ofInt]
  omega
 rw [h1,Xq (by omega) (by omega)]
 omega
theorem Yv5 (v:Zb):(v.cut=true/\v.cut.toNat=1)\/(v.cut=false/\v.cut.toNat=0):=by cases v.cut<;>simp
theorem Yex (d:Nat) (v:Zb):Ky (d+1) v=(decide v.okh&&v.list.all (Ky d)):=rfl
theorem Xg1 {d:Nat} {v:Zb} (h:¬v.okh):Ky (d+1) v=false:=by rw [Yex,decide_eq_false h];rfl
theorem Yrl {d:Nat} {v:Zb} (h:v.okh):Ky (d+1) v=v.list.all (Ky d):=by rw [Yex,decide_eq_true h];rfl
section
variable {PG:Za} (H:Has38 PG)
include H
end
end Go.AM

/- Yf of the proof. -/
namespace Go.AM
open Go
section
variable {PG:Za} (H:Has38 PG)
include H
set_option maxHeartbeats 1000000 in
theorem Yf8 :∀(d:Nat) {v:Zb},Wf v->d<=1000->Ze PG 109 [v.av,.i .i64 (d:Int)] (.tup [.i .i64 (Qp d v).1,.b (Qp d v).2])
 | 0,v,hw,hd=>by
  obtain ⟨x,y,⟨rfl,rfl⟩,h⟩:=Yhw H.f109 (v0:=v) (nest1:=((0:Nat):Int)) (K:=fun x y=>x=(Qp 0 v).1/\y=(Qp 0 v).2) (by
   unfold Zdt Zer Zb8 Mm Zcd
   have:Qp 0 v=(0,false):=by unfold Qp;rw [if_neg (by rintro ⟨h,_⟩;cases h)]
   rw [this]
   repeat' first | exact ⟨rfl,rfl⟩ | refine ⟨fun _=>?_,fun _=>?_⟩ | (intro h)
   all_goals exact absurd rfl ‹¬((0:Nat):Int)=0›)
  exact h
 | d+1,v,hw,hd=>by
  have ih:=@Yf8 d
  obtain ⟨x,y,⟨rfl,rfl⟩,h⟩:=Yhw H.f109 (v0:=v) (nest1:=((d+1:Nat):Int)) (K:=fun x y=>x=(Qp (d+1) v).1/\y=(Qp (d+1) v).2) (by
   have hm:IntKind.i64.wrap (((d+1:Nat):Int)-1)=(d:Int):=by rw [Xq (by omega) (by omega)];omega
   have ht:v.text=[]↔v.text.length=0:=List.length_eq_zero_iff.symm
   have ht':[]=v.text↔v.text.length=0:=by rw [<- ht];exact eq_comm
   have cno:¬(Ky (d+1) v=true/\v.nodes<=5000)->Qp (d+1) v=(0,false):=fun h=>by unfold Qp;rw [if_neg h]
   have no:¬v.okh->(0:Int)=(Qp (d+1) v).1/\false=(Qp (d+1) v).2:=fun h=>by
    rw [cno (by rw [Xg1 h];rintro ⟨h,_⟩;cases h)];exact ⟨rfl,rfl⟩
   have hl:=hw.l
   have hn:=Zke v
   have lp:v.okh->∀P:Int->Int->Prop,(∀(sum10:Int) (t103:Int),Pc PG (fun x y=>x=(Qp (d+1) v).1/\y=(Qp (d+1) v).2) P ((d+1:Nat):Int) sum10 v.list (v.list.length:Int) t103->P sum10 t103)->P 1 0:=by
    intro ho P hP
    have e:=Yrl (d:=d) ho
    refine Zai (P:=fun s i=>P s i) (fun i=>((1+Zb.nodesL (v.list.take i):Nat):Int)) v.list.length (fun i=>(v.list.take i).all (Ky d)=true/\1+Zb.nodesL (v.list.take i)<=5000) (by simp [Zb.nodesL]) (fun hI=>?_) (fun i hi hI ihP=>?_)
    ·apply hP
     unfold Pc Zk9
     refine ⟨fun h=>absurd h (by omega),fun _=>?_⟩
     rw [List.take_length] at hI ⊢
     unfold Qp
     rw [if_pos ⟨by rw [e];exact hI.1,by omega⟩,hn]
     exact ⟨rfl,rfl⟩
    ·apply hP
     unfold Pc
     have hnt:=Zzr hi
     have hle:=Zvc (l:=v.list) (i+1)
     refine ⟨fun _=>⟨by omega,_,Xm hi,_,_,by rw [hm];exact ih (hw.e _ (List.getElem_mem hi)) (by omega),?_⟩,fun h=>absurd (show (i:Int)<v.list.length by omega) h⟩
     by_cases hc:Ky d v.list[i]=true/\v.list[i].nodes<=5000
     ·rw [show Qp d v.list[i]=((v.list[i].nodes:Int),true) by unfold Qp;rw [if_pos hc]]
      refine ⟨fun h=>(by cases h),fun _=>⟨fun h=>?_,fun h=>?_⟩⟩
      ·rw [Xq (by omega) (by omega)] at h
       rw [cno (by omega)]
       exact ⟨rfl,rfl⟩
      ·rw [Xq (by omega) (by omega)] at h ⊢
       rw [Xq (by omega) (by omega)]
       have:=ihP ⟨by rw [List.take_succ_eq_append_getElem hi,List.all_append,hI.1];simpa using hc.1,by omega⟩
       rw [hnt] at this
       rw [show ((1+Zb.nodesL (v.list.take i):Nat):Int)+(v.list[i].nodes:Int)=((1+(Zb.nodesL (v.list.take i)+v.list[i].nodes):Nat):Int) by omega]
       exact this
     ·rw [show Qp d v.list[i]=(0,false) by unfold Qp;rw [if_neg hc]]
      refine ⟨fun _=>?_,fun h=>(by cases h)⟩
      rw [cno (fun h=>hc ⟨Zeh h.1 _ (List.getElem_mem hi),by have:=Ypu (List.getElem_mem hi);omega⟩)]
      exact ⟨rfl,rfl⟩
   unfold Zdt Zer Zb8 Mm Zcd
   simp only [Zb.int_mk,Zb.text_mk,Zb.cut_mk,Zb.kind_mk,Zb.list_mk,Wh2,ht',ne_eq,not_true_eq_false,false_imp_iff,true_imp_iff,true_and,not_false_eq_true]
   rcases Yv5 v with ⟨hc,hcn⟩ | ⟨hc,hcn⟩
   all_goals simp only [hc,reduceCtorEq,false_imp_iff,true_imp_iff,not_true_eq_false,not_false_eq_true,true_and,and_true]
   all_goals repeat' first | refine ⟨fun _=>?_,fun _=>?_⟩ | (intro h)
   all_goals first
    | exact no (by unfold Zb.okh Qa;omega)
    | exact lp (by unfold Zb.okh Qa;omega) _ ‹_›
    | (exfalso;omega))
  exact h
theorem c76 {v:Zb} (hw:Wf v):Ze PG 76 [v.av] (.i .i64 (Bp v)):=by
 obtain ⟨x,rfl,h⟩:=p76 H.f76 (v0:=v) (K:=fun x=>x=Bp v) (by
  unfold Zic Bp
  refine ⟨_,_,Yf8 H 130 hw (by decide),?_⟩
  unfold Qp Vh
  by_cases h:Ky 130 v=true/\v.nodes<=5000
  ·rw [if_pos h,if_pos (by simpa using h)]
   exact ⟨fun h=>(by cases h),fun _=>rfl⟩
  ·rw [if_neg h,if_neg (by simpa using h)]
   exact ⟨fun _=>rfl,fun h=>(by cases h)⟩)
 exact h
end
end Go.AM

/- Yf of the proof. -/
namespace Go.AM
open Go
theorem Xwq (l m:List Zb):Yy (l++m)=Yy l++(if l.length=0 then Yy m else Qw m):=by
 cases l with
 | nil=>simp [Yy]
 | cons a l=>simp [Yy,Zpj]
theorem Xtm (l:List Zb) (i:Nat):(Yy (l.take i)).length<=(Yy l).length:=by
 have:=Xwq (l.take i) (l.drop i)
 rw [List.take_append_drop] at this
 rw [this,List.length_append]
 omega
theorem Zoy {s:Zc} (h:s.length<=400):Ms s=(quo s,0):=by
 unfold Ms
 rw [if_neg (by omega)]
section
variable {PG:Za} (H:Has38 PG)
include H
theorem Zqq {K:Int->Zc->Prop} {l:List Zb} {e0 e1:UInt8} {b:Zc} (hl:l.length<=16) (hx :∀x∈l,∀b:Zc,b.length+(Xd x).length<=100000000->Yp PG 104 (Bl b) [x.av] (fun r=>r=.i .i64 0) (Bl (b++Xd x)))
  (hb:b.length+(Yy l).length+2<=100000000) (hK:K 0 (b++[e0]++Yy l++[e1])) :∀P0:Int->Zc->Prop,(∀(t22:Int) (mP:Zc),Pp PG K P0 [e0,e1] l (l.length:Int) t22 mP->P0 t22 mP)->P0 0 (b++[e0]):=by
 intro P hP
 have:=Mc (P:=fun m i=>P i m) (fun i=>b++[e0]++Yy (l.take i)) l.length ?_ fun i hi ihP=>?_
 ·simpa [Yy] using this
 ·apply hP
  unfold Pp Zj8 Dg
  rw [List.take_length]
  refine ⟨fun h=>absurd h (by omega),fun _=>⟨by simp,_,_,Mj H.toHasB (s:=[e1]) ?_,hK⟩⟩
  rw [Wl];simp only [List.length_append,List.length_cons,List.length_nil];omega
 ·apply hP
  have h1:=Xtm l (i+1)
  rw [Xmm hi] at h1 ihP
  simp only [List.length_append] at h1
  unfold Pp Zby
  refine ⟨fun _=>⟨by omega,_,Xm hi,fun h2=>?_,fun h2=>?_⟩,fun h=>absurd (show (i:Int)<l.length by omega) h⟩
  ·rw [if_pos (by omega)] at h1 ihP
   refine ⟨_,_,Mj H.toHasB (s:=[44,32]) ?_,_,_,hx _ (List.getElem_mem hi) _ ?_,fun h=>absurd rfl h,fun _=>?_⟩
   ·rw [Wl];simp only [List.length_append,List.length_cons,List.length_nil];omega
   ·simp only [List.length_append,List.length_cons,List.length_nil] at h1 ⊢;omega
   ·rw [Ml (by omega)]
    simpa using ihP
  ·rw [if_neg (by omega)] at h1 ihP
   refine ⟨_,_,hx _ (List.getElem_mem hi) _ ?_,fun h=>absurd rfl h,fun _=>?_⟩
   ·simp only [List.length_append,List.length_cons,List.length_nil] at h1 ⊢;omega
   ·rw [Ml (by omega)]
    simpa using ihP
set_option maxHeartbeats 1000000 in
theorem Ygn :∀(d:Nat) {v:Zb},Ky d v=true->Wf v->∀b:Zc,b.length+(Xd v).length<=100000000->Yp PG 104 (Bl b) [v.av] (fun r=>r=.i .i64 0) (Bl (b++Xd v))
 | 0,v,h,_,_,_=>by cases h
 | d+1,v,h,hw,b,hlen=>by
  have h1:=Mr h
  have h2:=Zeh h
  have ih :∀x∈v.list,∀b:Zc,b.length+(Xd x).length<=100000000->Yp PG 104 (Bl b) [x.av] (fun r=>r=.i .i64 0) (Bl (b++Xd x)):=fun x hx b hb=>Ygn d (h2 _ hx) (hw.e _ hx) b hb
  refine (Wb6 H.f104 (v1:=v) (mP:=b) (K:=fun r b'=>r=0/\b'=b++Xd v) ?_).to fun r b' hk=>?_
  ·have hB :∀{s:Zc} {a:Int},(Xd v)=s->∃r':Int,∃b'':Zc,Yp PG 126 (Bl b) [.s s] (fun r=>r=.tup [.i .i64 r',.ni]) (Bl b'')/\Dg PG (fun r b'=>r=0/\b'=b++Xd v) b'':=by
    intro s a hs
    refine ⟨_,_,Mj H.toHasB (s:=s) ?_ (hs ▸ Ydr v),?_⟩
    ·rw [<- hs,Wl];omega
    ·unfold Dg;rw [hs];exact ⟨rfl,rfl⟩
   have hk:1<=v.kind/\v.kind<=7:=by unfold Zb.okh Qa at h1;omega
   have hn:=hw.n
   rw [Sq] at hlen
   have ht:=Sq v
   unfold Zrq Zs0
   refine ⟨by omega,?_⟩
   have hkk:v.kind=1\/v.kind=2\/v.kind=3\/v.kind=4\/v.kind=5\/v.kind=6\/v.kind=7:=by omega
   rcases hkk with k | k | k | k | k | k | k
   all_goals rw [k]
   all_goals simp only [k,if_true,reduceCtorEq,if_false,Int.reduceEq] at ht hlen
   ·refine ⟨[],rfl,?_⟩
    unfold Nl Bn Nc
    rw [k]
    refine ⟨fun _=>⟨fun h=>hB (a:=0) ?_,fun h=>⟨fun _=>hB (a:=0) ?_,fun h=>by simp at h⟩⟩,fun h=>absurd rfl h⟩
    ·rw [ht,if_pos (by simpa using h)];rfl
    ·rw [ht,if_neg (by simpa using h)];rfl
   ·refine ⟨[],rfl,?_⟩
    unfold Nl Bn Nc Rc
    rw [k]
    refine ⟨fun h=>absurd h (by decide),fun _=>⟨fun h=>(by cases h),fun _=>⟨fun h=>(by simp at h),fun _=>⟨fun _=>⟨_,c15 H.toHas03 hn.1 hn.2,hB (a:=0) ht⟩,fun h=>by simp at h⟩⟩⟩⟩
   ·refine ⟨[],rfl,?_⟩
    unfold Nl Bn Nc Rc Sg
    rw [k]
    refine ⟨fun h=>absurd h (by decide),fun _=>⟨fun h=>(by cases h),fun _=>⟨fun h=>(by simp at h),fun _=>⟨fun h=>(by simp at h),fun _=>⟨fun _=>⟨_,_,c11 H.toHas03 v.text,?_⟩,fun h=>by simp at h⟩⟩⟩⟩⟩
    rw [Zoy (by unfold Zb.okh Qa at h1;omega)]
    refine ⟨_,_,Mj H.toHasB (s:=quo v.text) ?_,rfl,?_⟩
    ·rw [Wl];omega
    ·rw [ht]
   ·refine ⟨[],rfl,?_⟩
    unfold Nl Bn Nc Rc Sg Sd
    rw [k]
    refine ⟨fun h=>absurd h (by decide),fun _=>⟨fun h=>(by cases h),fun _=>⟨fun h=>(by simp at h),fun _=>⟨fun h=>(by simp at h),fun _=>⟨fun h=>(by simp at h),fun _=>⟨fun _=>⟨fun hc=>hB (a:=0) ?_,fun hc=>⟨fun _=>⟨fun hl=>hB (a:=0) ?_,fun hl=>⟨fun _=>?_,fun h=>absurd rfl h⟩⟩,fun h=>absurd rfl h⟩⟩,fun h=>absurd rfl h⟩⟩⟩⟩⟩⟩
    ·rw [ht,if_pos hc];rfl
    ·rw [ht,if_neg (by rw [hc];decide),if_pos (by omega)];rfl
    ·rw [if_neg (by rw [hc];decide),if_neg (by omega)] at ht hlen
     have hl1:v.list.length=1:=by unfold Zb.okh Qa at h1;omega
     obtain ⟨w,hw1⟩:=List.length_eq_one_iff.1 hl1
     rw [hw1,Zmd] at hlen ht
     simp only [List.length_cons] at hlen
     refine ⟨_,_,Mj H.toHasB (s:=[38]) ?_,w,by rw [hw1];rfl,_,_,ih w (by rw [hw1];exact List.mem_cons_self) _ ?_,rfl,?_⟩
     ·rw [Wl];simp only [List.length_cons,List.length_nil];omega
     ·simp only [List.length_append,List.length_cons,List.length_nil];omega
     ·rw [ht];simp
   ·have hc:v.cut=false:=by
     have:v.cut.toNat=0:=by unfold Zb.okh Qa at h1;omega
     cases hc:v.cut
     ·rfl
     ·rw [hc] at this;cases this
    refine ⟨[123,125],rfl,?_⟩
    unfold Nl Bn Nc Rc Sg Sd
    rw [k]
    refine ⟨fun h=>absurd h (by decide),fun _=>⟨fun h=>(by cases h),fun _=>⟨fun h=>(by simp at h),fun _=>⟨fun h=>(by simp at h),fun _=>⟨fun h=>(by simp at h),fun _=>⟨fun h=>absurd h (by decide),fun _=>⟨fun h=>(by cases h),fun _=>⟨fun h=>absurd h (by decide),fun _=>⟨fun h=>absurd h (by decide),fun _=>⟨fun h=>(by rw [hc] at h;cases h),fun _=>⟨by decide,_,_,Mj H.toHasB (s:=[123]) ?_,?_⟩⟩⟩⟩⟩⟩⟩⟩⟩⟩⟩
    ·rw [Wl];simp only [List.length_cons,List.length_nil,List.length_append] at hlen ⊢;omega
    ·simp only [List.length_cons,List.length_nil,List.length_append] at hlen
     exact Zqq H (by unfold Zb.okh Qa at h1;omega) ih (by omega) ⟨rfl,by rw [ht];simp⟩
   ·have hc:v.cut=false:=by
     have:v.cut.toNat=0:=by unfold Zb.okh Qa at h1;omega
     cases hc:v.cut
     ·rfl
     ·rw [hc] at this;cases this
    refine ⟨[91,93],rfl,?_⟩
    unfold Nl Bn Nc Rc Sg Sd
    rw [k]
    refine ⟨fun h=>absurd h (by decide),fun _=>⟨fun h=>(by cases h),fun _=>⟨fun h=>(by simp at h),fun _=>⟨fun h=>(by simp at h),fun _=>⟨fun h=>(by simp at h),fun _=>⟨fun h=>absurd h (by decide),fun _=>⟨fun h=>(by cases h),fun _=>⟨fun h=>absurd h (by decide),fun _=>⟨fun h=>absurd h (by decide),fun _=>⟨fun h=>(by rw [hc] at h;cases h),fun _=>⟨by decide,_,_,Mj H.toHasB (s:=[91]) ?_,?_⟩⟩⟩⟩⟩⟩⟩⟩⟩⟩⟩
    ·rw [Wl];simp only [List.length_cons,List.length_nil,List.length_append] at hlen ⊢;omega
    ·simp only [List.length_cons,List.length_nil,List.length_append] at hlen
     exact Zqq H (by unfold Zb.okh Qa at h1;omega) ih (by omega) ⟨rfl,by rw [ht];simp⟩
   ·refine ⟨[60,62],rfl,?_⟩
    unfold Nl Bn Nc Rc Sg Sd
    rw [k]
    refine ⟨fun h=>absurd h (by decide),fun _=>⟨fun h=>(by cases h),fun _=>⟨fun h=>(by simp at h),fun _=>⟨fun h=>(by simp at h),fun _=>⟨fun h=>(by simp at h),fun _=>⟨fun h=>absurd h (by decide),fun _=>⟨fun h=>(by cases h),fun _=>⟨fun h=>absurd h (by decide),fun _=>⟨fun h=>absurd h (by decide),fun _=>⟨fun hc=>hB (a:=0) ?_,fun hc=>⟨by decide,_,_,Mj H.toHasB (s:=[60]) ?_,?_⟩⟩⟩⟩⟩⟩⟩⟩⟩⟩⟩
    ·rw [ht,if_pos hc];rfl
    ·rw [if_neg (by rw [hc];decide)] at hlen
     rw [Wl];simp only [List.length_cons,List.length_nil,List.length_append] at hlen ⊢;omega
    ·rw [if_neg (by rw [hc];decide)] at hlen ht
     simp only [List.length_cons,List.length_nil,List.length_append] at hlen
     exact Zqq H (by unfold Zb.okh Qa at h1;omega) ih (by omega) ⟨rfl,by rw [ht];simp⟩
  ·obtain ⟨x0,h1,rfl,rfl⟩:=hk
   exact ⟨h1,rfl⟩
theorem c72 {v:Zb} (hw:Wf v):Ze PG 72 [v.av] (.tup [.s (if Vh v=true then Xd v else []),.i .i64 (Bp v)]):=by
 obtain ⟨x,y,⟨rfl,rfl⟩,h⟩:=p72 H.f72 (v0:=v) (K:=fun x y=>x=(if Vh v=true then Xd v else [])/\y=Bp v) (by
  unfold Zq0
  refine ⟨_,c76 H hw,fun h=>?_,fun h=>?_⟩
  ·unfold Bp at h ⊢
   by_cases hf:Vh v=true
   ·rw [if_pos hf] at h;exact absurd rfl h
   ·rw [if_neg hf,if_neg hf];exact ⟨rfl,rfl⟩
  ·unfold Bp at h ⊢
   by_cases hf:Vh v=true
   ·rw [if_pos hf,if_pos hf]
    have:=Tz hf
    refine ⟨_,_,Ygn H 130 (Rw hf).1 hw [] (by simp only [List.length_nil];omega),fun h=>absurd rfl h,fun _=>⟨_,Yl4 H.toHasB (by rw [List.nil_append,Wl];omega),rfl,rfl⟩⟩
   ·rw [if_neg hf] at h;exact absurd (by decide) h)
 exact h
end
end Go.AM

/- Yf of the proof. -/
namespace Go.AM
open Go
theorem Znz :∀{s:Zc} {i:Nat},i<Qq s->∃c,s[i]?=some c/\Ur c=true
 | [],i,h=>absurd h (Nat.not_lt_zero _)
 | c::s,0,h=>by
  rw [Qq] at h
  split at h
  ·rename_i hc;exact ⟨c,rfl,hc⟩
  ·exact absurd h (Nat.not_lt_zero _)
 | c::s,i+1,h=>by
  rw [Qq] at h
  split at h
  ·exact Znz (s:=s) (i:=i) (by omega)
  ·exact absurd h (Nat.not_lt_zero _)
theorem Zpq :∀{s:Zc} {c:UInt8},s[Qq s]?=some c->Ur c=false
 | [],c,h=>by cases h
 | x::s,c,h=>by
  rw [Qq] at h
  split at h
  ·rw [Nat.add_comm,List.getElem?_cons_succ] at h
   exact Zpq h
  ·rename_i hx
   rw [List.getElem?_cons_zero] at h
   injection h with h
   subst h
   simpa using hx
theorem Xm0 {s:Zc} {i:Nat} (h:i<Jg s) :∃c,s[i]?=some c/\(Ur c=true\/(i=0/\c=45)):=by
 unfold Jg at h
 split at h
 ·rename_i h1
  cases s with
  | nil=>cases h1
  | cons x s=>
   injection h1 with h1
   subst h1
   cases i with
   | zero=>exact ⟨45,rfl,.inr ⟨rfl,rfl⟩⟩
   | succ i=>
    obtain ⟨c,h2,h3⟩:=Znz (s:=s) (i:=i) (by simp only [List.drop_succ_cons,List.drop_zero] at h;omega)
    exact ⟨c,h2,.inl h3⟩
 ·obtain ⟨c,h2,h3⟩:=Znz h
  exact ⟨c,h2,.inl h3⟩
theorem Xt1 {s:Zc} {c:UInt8} (h:s[Jg s]?=some c):Ur c=false/\(Jg s=0->c≠45):=by
 unfold Jg at *
 split at h
 ·rename_i h1
  rw [if_pos h1]
  cases s with
  | nil=>cases h1
  | cons x s=>
   simp only [List.drop_succ_cons,List.drop_zero] at h ⊢
   rw [Nat.add_comm,List.getElem?_cons_succ] at h
   exact ⟨Zpq h,fun h=>absurd h (by omega)⟩
 ·rename_i h1
  rw [if_neg h1]
  refine ⟨Zpq h,fun h2=>?_⟩
  rw [h2] at h
  rintro rfl
  exact h1 (by rw [List.head?_eq_getElem?];exact h)
theorem Zwn {c:UInt8}:Ur c=true↔48<=c.toNat/\c.toNat<=57:=by unfold Ur;simp
theorem Xrb {c:UInt8}:Ur c=false↔¬(48<=c.toNat/\c.toNat<=57):=by rw [<- Zwn];simp
theorem Zwc:qs []=none:=rfl
theorem Xek:qs [92]=none:=rfl
theorem Wbo (x:UInt8) (r:Zc):qs (92::x::r)=(qs r).map (·+2):=rfl
theorem Xap (r:Zc):qs (34::r)=some 1:=by rw [qs.eq_def];rfl
theorem Wd2 {c:UInt8} (h1:¬c=92) (h2:¬c=34) (r:Zc):qs (c::r)=(qs r).map (·+1):=by
 rw [qs.eq_def]
 simp only [if_neg h1,if_neg h2]
theorem Zsx {c:UInt8}:c=45↔c.toNat=45:=⟨fun h=>by rw [h];rfl,fun h=>Dm h⟩
section
variable {PG:Za} (H:Has38 PG)
include H
theorem Ui (p s:Zc):Yp PG 128 (Bx [.s s]) [.s p] (fun r=>r=.b (Zn p s).2) (Bx [.s (Zn p s).1]):=by
 refine (Yp5 H.f128 (what1:=p) (mP:=⟨s⟩) (K:=fun r b=>r=(Zn p s).2/\b=⟨(Zn p s).1⟩) ?_).to (b:=⟨(Zn p s).1⟩) fun r b' hk=>?_
 ·unfold Zj9
  exact ⟨_,_,Py H.toHas03 s p,rfl,rfl⟩
 ·obtain ⟨x0,h1,rfl,rfl⟩:=hk
  exact ⟨h1,rfl⟩
theorem Yif {s:Zc} (hs:s.length<=1000000000):Yp PG 131 (Bx [.s s]) [] (fun r=>r=.tup [.i .i64 (Kn s).1,.b (Kn s).2.1]) (Bx [.s (Kn s).2.2]):=by
 refine (Xh2 H.f131 (mP:=⟨s⟩) (K:=fun x y b=>x=(Kn s).1/\y=(Kn s).2.1/\b=⟨(Kn s).2.2⟩) ?_).to (b:=⟨(Kn s).2.2⟩) fun r b' hk=>?_
 ·unfold Zlu Zmj
  intro P hP
  have hle:=Xab s
  refine Xok (P:=fun i=>P i ⟨s⟩) (Jg s) ?_ fun i hi ih=>?_
  ·apply hP
   unfold Zcc
   have fin:0<=((Jg s:Nat):Int)/\((Jg s:Nat):Int).toNat<=s.length/\∃r:Int,∃r':Int,Ze PG 21 [.s (s.take ((Jg s:Nat):Int).toNat)] (.tup [.i .i64 r,.i .i64 r'])/\0<=((Jg s:Nat):Int)/\((Jg s:Nat):Int).toNat<=s.length/\r=(Kn s).1/\(decide (r'=0))=(Kn s).2.1/\Sc.mk (s.drop ((Jg s:Nat):Int).toNat)=⟨(Kn s).2.2⟩:=by
    rw [Ht]
    exact ⟨by omega,hle,_,_,c21 H.toHas03 _,by omega,hle,rfl,rfl,rfl⟩
   refine ⟨fun h=>?_,fun _=>fin⟩
   have hlt:Jg s<s.length:=by simp only at h;omega
   obtain ⟨h1,h2⟩:=Xt1 (List.getElem?_eq_getElem hlt)
   have h1:=Xrb.1 h1
   have h2:Jg s=0->¬(s[Jg s].toNat=45):=fun h=>fun h'=>h2 h (Zsx.2 h')
   refine ⟨by omega,s[Jg s],Xm hlt,fun h3=>⟨by omega,s[Jg s],Xm hlt,fun h4=>absurd ⟨by omega,by omega⟩ h1,fun h4=>⟨fun h5=>⟨by omega,s[Jg s],Xm hlt,fun h6=>absurd (show s[Jg s].toNat=45 by omega) (h2 (by omega)),fun _=>fin⟩,fun _=>fin⟩⟩,
    fun h3=>⟨fun h5=>⟨by omega,s[Jg s],Xm hlt,fun h6=>absurd (show s[Jg s].toNat=45 by omega) (h2 (by omega)),fun _=>fin⟩,fun _=>fin⟩⟩
  ·apply hP
   obtain ⟨c,hc,hd⟩:=Xm0 hi
   have hc':s[((i:Nat):Int).toNat]?=some c:=hc
   rw [Zwn,Zsx] at hd
   have ih':P (IntKind.i64.wrap ((i:Int)+1)) ⟨s⟩:=by rw [Ml (by omega)];exact ih
   unfold Zcc
   refine ⟨fun _=>⟨by omega,c,hc',fun h3=>⟨by omega,c,hc',fun _=>ih',fun h4=>⟨fun h5=>⟨by omega,c,hc',fun _=>ih',fun h6=>absurd h6 (by omega)⟩,fun h5=>absurd h5 (by omega)⟩⟩,
    fun h3=>⟨fun h5=>⟨by omega,c,hc',fun _=>ih',fun h6=>absurd h6 (by omega)⟩,fun h5=>absurd h5 (by omega)⟩⟩,fun h=>absurd (show (i:Int)<s.length by omega) h⟩
 ·obtain ⟨x0,x1,h1,rfl,rfl,rfl⟩:=hk
  exact ⟨h1,rfl⟩
theorem Xhi {s:Zc} (hs:s.length<=1000000000):Yp PG 130 (Bx [.s s]) [] (fun r=>r=.tup [.s (Gs s).1,.b (Gs s).2.1]) (Bx [.s (Gs s).2.2]):=by
 refine (Yq1 H.f130 (mP:=⟨s⟩) (K:=fun x y b=>x=(Gs s).1/\y=(Gs s).2.1/\b=⟨(Gs s).2.2⟩) ?_).to (b:=⟨(Gs s).2.2⟩) fun r b' hk=>?_
 ·unfold Zmx Zkg
  intro P hP
  have go :∀m i:Nat,s.length<=i+m->i<=s.length+1->1<=i->qs (s.drop 1)=(qs (s.drop i)).map (·+(i-1))->P (i:Int) ⟨s⟩:=by
   intro m
   induction m using Nat.strongRecOn with
   | _ m ih=>
   intro i hm hi h1 hq
   apply hP
   unfold Zmi
   refine ⟨fun h=>?_,fun h=>?_⟩
   ·have:s.drop i=[]:=List.drop_eq_nil_of_le (by simp only at h;omega)
    rw [this,Zwc,Option.map_none] at hq
    unfold Gs
    rw [hq]
    exact ⟨rfl,rfl,rfl⟩
   ·have hlt:i<s.length:=by simp only at h;omega
    have hd:s.drop i=s[i]::s.drop (i+1):=List.drop_eq_getElem_cons hlt
    refine ⟨by omega,s[i],Xm hlt,fun h2=>?_,fun h2=>⟨by omega,s[i],Xm hlt,fun h3=>?_,fun h3=>?_⟩⟩
    ·rw [Xq (by omega) (by omega),show (i:Int)+2=((i+2:Nat):Int) by omega]
     have hc:s[i]=92:=Dm (by show s[i].toNat=92;omega)
     rw [hd,hc] at hq
     by_cases hl:i+1<s.length
     ·have hd2:s.drop (i+1)=s[i+1]::s.drop (i+2):=List.drop_eq_getElem_cons hl
      refine ih (m-2) (by omega) (i+2) (by omega) (by omega) (by omega) ?_
      rw [hd2,Wbo,Option.map_map] at hq
      rw [hq]
      congr 1
      funext x
      simp only [Function.comp]
      omega
     ·have hd2:s.drop (i+1)=[]:=List.drop_eq_nil_of_le (by omega)
      refine ih (m-1) (by omega) (i+2) (by omega) (by omega) (by omega) ?_
      rw [hd2,Xek] at hq
      rw [hq,List.drop_eq_nil_of_le (show s.length<=i+2 by omega),Zwc]
      rfl
    ·rw [Ml (by omega)]
     have hc:¬s[i]=92:=fun e=>h2 (by rw [e];rfl)
     have hc':¬s[i]=34:=fun e=>h3 (by rw [e];rfl)
     rw [hd,Wd2 hc hc',Option.map_map] at hq
     refine ih (m-1) (by omega) (i+1) (by omega) (by omega) (by omega) ?_
     rw [hq]
     congr 1
     funext x
     simp only [Function.comp]
     omega
    ·rw [Ml (by omega),Ht]
     have hc:s[i]=34:=Dm (by show s[i].toNat=34;simp only [ne_eq,Decidable.not_not] at h3;omega)
     rw [hd,hc,Xap,Option.map_some] at hq
     have e:1+(i-1)+1=i+1:=by omega
     refine ⟨by omega,by show i+1<=s.length;omega,_,_,c25 H.toHas03 _,by omega,by show i+1<=s.length;omega,?_⟩
     unfold Gs
     rw [hq]
     simp [e]
  exact go s.length 1 (by omega) (by omega) (by omega) (by simp)
 ·obtain ⟨x0,x1,h1,rfl,rfl,rfl⟩:=hk
  exact ⟨h1,rfl⟩
end
end Go.AM

/- Yf of the proof. -/
namespace Go.AM
open Go
theorem Ygy (s:Zc):(Kn s).2.2.length<=s.length:=by unfold Kn;simp
theorem Ys0 (s:Zc):(Gs s).2.2.length<=s.length:=by
 unfold Gs
 split<;>simp
theorem Jw (p s:Zc):(Zn p s).1.length<=s.length:=by
 unfold Zn
 split<;>simp
section
variable {f:Zc->Zb × Bool × Zc}
theorem Zzy {kind:Int} {stop:Zc} (hf :∀s,(f s).2.2.length<=s.length) :∀(n:Nat) (acc:List Zb) (s:Zc),(Gn f kind stop n acc s).2.2.length<=s.length
 | 0,acc,s=>Nat.le_refl _
 | n+1,acc,s=>by
  have h1:=hf s
  have h2:=Jw stop (f s).2.2
  have h3:=Jw [44,32] (Zn stop (f s).2.2).1
  rw [Gn]
  split
  ·exact h1
  ·split
   ·exact Nat.le_trans h2 h1
   ·split
    ·exact Nat.le_trans h3 (Nat.le_trans h2 h1)
    ·exact Nat.le_trans (Zzy hf n _ _) (Nat.le_trans h3 (Nat.le_trans h2 h1))
theorem Zqv {kind:Int} {stop s:Zc} (hf :∀s,(f s).2.2.length<=s.length):(Ue f kind stop s).2.2.length<=s.length:=by
 unfold Ue
 split
 ·exact Jw _ _
 ·exact Nat.le_trans (Zzy hf 17 [] _) (Jw _ _)
theorem Dx {c:Prop} [Decidable c] {a b:Zb × Bool × Zc} {n:Nat} (ha:a.2.2.length<=n) (hb:b.2.2.length<=n):(if c then a else b).2.2.length<=n:=by
 split
 ·exact ha
 ·exact hb
theorem Zbi :∀(d:Nat) (s:Zc),(Jd d s).2.2.length<=s.length
 | 0,s=>Nat.le_refl _
 | d+1,s=>by
  have ih:=Zbi d
  rw [Jd]
  exact Dx (Nat.le_refl _) (Dx (Jw _ _) (Dx (Jw _ _) (Dx (Jw _ _) (Dx (Jw _ _) (Dx (Jw _ _) (Dx (Nat.le_trans (ih _) (Jw _ _)) (Dx (Nat.le_trans (Zqv ih) (Jw _ _))
   (Dx (Nat.le_trans (Zqv ih) (Jw _ _)) (Dx (Nat.le_trans (Zqv ih) (Jw _ _)) (Dx (Ys0 _) (Ygy _)))))))))))
end
section
variable {PG:Za} (H:Has38 PG)
include H
abbrev ScR (r:Zb × Bool × Zc):AV->Prop:=fun x=>∃o:Zl,x=.tup [.ag [.i .u8 r.1.kind,.i .i64 r.1.int,.s r.1.text,.sl o (List.map Zb.row r.1.list),.b r.1.cut],.b r.2.1]
theorem Zii {f:Zc->Zb × Bool × Zc} {d:Nat} (hf :∀s,(f s).2.2.length<=s.length) (hc :∀s:Zc,s.length<=1000000000->Yp PG 107 (Bx [.s s]) [.i .i64 (d:Int)] (ScR (f s)) (Bx [.s (f s).2.2])) {kind:Int} {stop s:Zc} (hs:s.length<=1000000000) :
  Yp PG 129 (Bx [.s s]) [.i .u8 kind,.s stop,.i .i64 (d:Int)] (ScR (Ue f kind stop s)) (Bx [.s (Ue f kind stop s).2.2]):=by
 refine (Xkm H.f129 (kind1:=kind) (end2:=stop) (nest3:=(d:Int)) (mP:=⟨s⟩) (K:=fun x y b=>x=(Ue f kind stop s).1/\y=(Ue f kind stop s).2.1/\b=⟨(Ue f kind stop s).2.2⟩) ?_).to (b:=⟨(Ue f kind stop s).2.2⟩) fun r b' hk=>?_
 ·unfold Zq1
  refine ⟨_,⟨(Zn stop s).1⟩,Ui H stop s,fun h=>?_,fun h P hP=>?_⟩
  ·unfold Ue
   rw [if_pos h]
   exact ⟨rfl,rfl,rfl⟩
  ·have e:Ue f kind stop s=Gn f kind stop 17 [] (Zn stop s).1:=by unfold Ue;rw [if_neg (by rw [h];decide)]
   have hl:=Jw stop s
   generalize (Zn stop s).1=t at hl e ⊢
   have go :∀(n:Nat) (acc:List Zb) (u:Zc),acc.length+n=17->u.length<=t.length->Gn f kind stop 17 [] t=Gn f kind stop n acc u->P (Zb.mk 0 0 [] [] false) (Zb.mk kind 0 [] acc false) ⟨u⟩:=by
    intro n
    induction n with
    | zero=>
     intro acc u ha hu hq
     apply hP
     rw [e,hq]
     unfold Zd2 Zl1
     refine ⟨fun h=>absurd h (by simp only [Zb.list_mk];omega),fun _=>⟨rfl,rfl,rfl⟩⟩
    | succ n ih=>
     intro acc u ha hu hq
     apply hP
     rw [e,hq,Gn]
     have h1:=hf u
     have h2:=Jw stop (f u).2.2
     have h3:=Jw [44,32] (Zn stop (f u).2.2).1
     unfold Zd2
     refine ⟨fun _=>⟨(f u).1,(f u).2.1,⟨(f u).2.2⟩,hc u (by omega),fun g1=>?_,fun g1=>⟨⟨?_,?_⟩,_,⟨(Zn stop (f u).2.2).1⟩,Ui H stop (f u).2.2,fun g2=>?_,fun g2=>⟨_,⟨(Zn [44,32] (Zn stop (f u).2.2).1).1⟩,Ui H [44,32] (Zn stop (f u).2.2).1,fun g3=>?_,fun g3=>?_⟩⟩⟩,fun h=>absurd (show (acc.length:Int)<=16 by omega) h⟩
     ·rw [if_pos (by simpa using g1)]
      exact ⟨rfl,rfl,rfl⟩
     ·simp only [Zb.list_mk,List.length_cons,List.length_nil,Wl];omega
     ·simp only [Zb.list_mk,List.length_cons,List.length_nil,Wl];omega
     ·rw [if_neg (by simpa using g1),if_pos g2]
      exact ⟨rfl,rfl,rfl⟩
     ·rw [if_neg (by simpa using g1),if_neg (by rw [g2];decide),if_pos (by simpa using g3)]
      exact ⟨rfl,rfl,rfl⟩
     ·refine ih (acc++[(f u).1]) _ (by simp;omega) (by omega) ?_
      rw [hq,Gn,if_neg (by simpa using g1),if_neg (by rw [g2];decide),if_neg (by simpa using g3)]
   exact go 17 [] t rfl (Nat.le_refl _) rfl
 ·obtain ⟨x0,x1,h1,rfl,rfl,rfl⟩:=hk
  exact ⟨h1,rfl⟩
theorem Zvk :∀(d:Nat) {s:Zc},s.length<=1000000000->d<=1000->Yp PG 107 (Bx [.s s]) [.i .i64 (d:Int)] (ScR (Jd d s)) (Bx [.s (Jd d s).2.2])
 | 0,s,hs,hd=>by
  refine (Yj1 H.f107 (nest1:=((0:Nat):Int)) (mP:=⟨s⟩) (K:=fun x y b=>x=(Jd 0 s).1/\y=(Jd 0 s).2.1/\b=⟨(Jd 0 s).2.2⟩) ?_).to (b:=⟨(Jd 0 s).2.2⟩) fun r b' hk=>?_
  ·unfold Zd5 Zcu
   exact ⟨fun _=>⟨rfl,rfl,rfl⟩,fun h=>absurd rfl h⟩
  ·obtain ⟨x0,x1,h1,rfl,rfl,rfl⟩:=hk
   exact ⟨h1,rfl⟩
 | d+1,s,hs,hd=>by
  have ih:=fun s hs=>@Zvk d s hs (by omega)
  have hm:IntKind.i64.wrap (((d+1:Nat):Int)-1)=(d:Int):=by rw [Xq (by omega) (by omega)];omega
  refine (Yj1 H.f107 (nest1:=((d+1:Nat):Int)) (mP:=⟨s⟩) (K:=fun x y b=>x=(Jd (d+1) s).1/\y=(Jd (d+1) s).2.1/\b=⟨(Jd (d+1) s).2.2⟩) ?_).to (b:=⟨(Jd (d+1) s).2.2⟩) fun r b' hk=>?_
  ·have e:=Jd.eq_2 s d
   unfold Zd5 Zcu
   refine ⟨fun h=>absurd h (by omega),fun _=>⟨fun h=>?_,fun h0=>?_⟩⟩
   ·rw [e,if_pos h];exact ⟨rfl,rfl,rfl⟩
   rw [if_neg h0] at e
   unfold Zmc
   refine ⟨_,⟨(Zn Qu s).1⟩,Ui H Qu s,?_⟩
   unfold Zjx
   refine ⟨fun h=>?_,fun h=>?_⟩
   ·rw [e,if_pos h];exact ⟨rfl,rfl,rfl⟩
   rw [if_neg (by rw [h];decide)] at e
   rw [My h]
   refine ⟨_,⟨(Zn Qc s).1⟩,Ui H Qc s,?_⟩
   clear h
   unfold Zjn
   refine ⟨fun h=>?_,fun h=>?_⟩
   ·rw [e,if_pos h];exact ⟨rfl,rfl,rfl⟩
   rw [if_neg (by rw [h];decide)] at e
   rw [My h]
   refine ⟨_,⟨(Zn Qt s).1⟩,Ui H Qt s,?_⟩
   clear h
   unfold Zp0
   refine ⟨fun h=>?_,fun h=>?_⟩
   ·rw [e,if_pos h];exact ⟨rfl,rfl,rfl⟩
   rw [if_neg (by rw [h];decide)] at e
   rw [My h]
   refine ⟨_,⟨(Zn Qv s).1⟩,Ui H Qv s,?_⟩
   clear h
   unfold Zs5
   refine ⟨fun h=>?_,fun h=>?_⟩
   ·rw [e,if_pos h];exact ⟨rfl,rfl,rfl⟩
   rw [if_neg (by rw [h];decide)] at e
   rw [My h]
   refine ⟨_,⟨(Zn Uk s).1⟩,Ui H Uk s,?_⟩
   clear h
   unfold Zi2
   refine ⟨fun h=>?_,fun h=>?_⟩
   ·rw [e,if_pos h];exact ⟨rfl,rfl,rfl⟩
   rw [if_neg (by rw [h];decide)] at e
   rw [My h]
   refine ⟨_,⟨(Zn [38] s).1⟩,Ui H [38] s,?_⟩
   clear h
   unfold Zkn
   rw [hm]
   have l1:=Jw [38] s
   refine ⟨fun h=>⟨_,_,⟨_⟩,ih _ (Nat.le_trans l1 hs),?_⟩,fun h=>?_⟩
   ·rw [e,if_pos h];exact ⟨rfl,rfl,rfl⟩
   rw [if_neg (by rw [h];decide)] at e
   rw [My h]
   have l1:=Jw [123] s
   refine ⟨_,⟨(Zn [123] s).1⟩,Ui H [123] s,fun h=>⟨_,_,⟨_⟩,Zii H (Zbi d) ih (Nat.le_trans l1 hs),?_⟩,fun h=>?_⟩
   ·rw [e,if_pos h];exact ⟨rfl,rfl,rfl⟩
   rw [if_neg (by rw [h];decide)] at e
   rw [My h]
   have l1:=Jw [91] s
   refine ⟨_,⟨(Zn [91] s).1⟩,Ui H [91] s,fun h=>⟨_,_,⟨_⟩,Zii H (Zbi d) ih (Nat.le_trans l1 hs),?_⟩,fun h=>?_⟩
   ·rw [e,if_pos h];exact ⟨rfl,rfl,rfl⟩
   rw [if_neg (by rw [h];decide)] at e
   rw [My h]
   have l1:=Jw [60] s
   refine ⟨_,⟨(Zn [60] s).1⟩,Ui H [60] s,fun h=>⟨_,_,⟨_⟩,Zii H (Zbi d) ih (Nat.le_trans l1 hs),?_⟩,fun h=>?_⟩
   ·rw [e,if_pos h];exact ⟨rfl,rfl,rfl⟩
   rw [if_neg (by rw [h];decide)] at e
   rw [My h]
   cases s with
   | nil=>exact absurd rfl h0
   | cons c s=>
    refine ⟨c,rfl,fun h=>⟨_,_,⟨_⟩,Xhi H hs,?_⟩,fun h=>⟨_,_,⟨_⟩,Yif H hs,?_⟩⟩
    ·have hc:c=34:=Dm (by show c.toNat=34;omega)
     subst hc
     rw [e,List.head?_cons,if_pos rfl];exact ⟨rfl,rfl,rfl⟩
    ·rw [e,if_neg (by rw [List.head?_cons];intro he;injection he with he;exact h (by rw [he];rfl))];exact ⟨rfl,rfl,rfl⟩
  ·obtain ⟨x0,x1,h1,rfl,rfl,rfl⟩:=hk
   exact ⟨h1,rfl⟩
omit H in
theorem Nh {v:Zb}:Bp v=0↔Vh v=true:=by
 unfold Bp
 by_cases h:Vh v=true
 ·rw [if_pos h];simp [h]
 ·rw [if_neg h];simp [h]
theorem c74 {s:Zc} (hs:s.length<=1000000000):Ze PG 74 [.s s] (.tup [(Jj s).1.av,.i .i64 (Jj s).2]):=by
 obtain ⟨x,y,⟨rfl,rfl⟩,h⟩:=p74 H.f74 (s0:=s) (K:=fun x y=>x=(Jj s).1/\y=(Jj s).2) (by
  unfold Zn5 Jj
  refine ⟨fun h=>?_,fun h=>⟨_,_,⟨_⟩,Zvk H 130 hs (by decide),fun h1=>?_,fun h1=>⟨fun h2=>?_,fun h2=>⟨_,_,c72 H (Cf _ _),fun h3=>?_,fun h3=>⟨fun h4=>?_,fun h4=>?_⟩⟩⟩⟩⟩
  ·rw [if_pos (by omega)];exact ⟨rfl,rfl⟩
  ·rw [if_neg (by omega),if_neg (by rintro ⟨h,_⟩;rw [h] at h1;cases h1)];exact ⟨rfl,rfl⟩
  ·rw [if_neg (by omega),if_neg (by rintro ⟨_,h,_⟩;exact h2 h)];exact ⟨rfl,rfl⟩
  ·rw [if_neg (by omega),if_neg (by rintro ⟨_,_,h,_⟩;exact h3 (Nh.2 h))];exact ⟨rfl,rfl⟩
  ·rw [if_neg (by omega),if_neg];· exact ⟨rfl,rfl⟩
   rintro ⟨_,_,h5,h6⟩
   rw [if_pos h5] at h4
   exact h4 h6
  ·have h5:=Nh.1 (Decidable.not_not.1 h3)
   rw [if_pos h5] at h4
   rw [if_neg (by omega),if_pos ⟨by simpa using h1,Decidable.not_not.1 h2,h5,Decidable.not_not.1 h4⟩]
   exact ⟨rfl,rfl⟩)
 exact h
end
end Go.AM

/- Yf of the proof. -/
namespace Go.AM
open Go
section
variable {PG:Za} (H:Has38 PG)
include H
theorem c78 {a:Zb} (hw:Wf a) :∀b:Zb,Ze PG 78 [a.av,b.av] (.b (Rh a b)):=by
 induction hw with
 | @mk k n s l c hk hn hl _ ih=>
  intro b
  obtain ⟨x,rfl,h⟩:=p78 H.f78 (a0:=Zb.mk k n s l c) (b1:=b) (K:=fun x=>x=Rh (Zb.mk k n s l c) b) (by
   have no :∀{p:Prop},(Zb.mk k n s l c=b->p)->¬p->false=Rh (Zb.mk k n s l c) b:=fun h1 h2=>(Zet.2 fun h=>h2 (h1 h)).symm
   unfold Zr4
   refine ⟨fun h=>no (fun e=>by rw [<- e]) h,fun h1=>⟨fun h=>no (fun e=>by rw [<- e]) h,fun h2=>⟨fun h=>no (fun e=>by rw [<- e]) h,fun h3=>⟨fun h=>no (fun e=>by rw [<- e]) h,fun h4=>⟨fun h=>no (fun e=>by rw [<- e]) h,fun h5 P hP=>?_⟩⟩⟩⟩⟩
   have h1:=Decidable.not_not.1 h1
   have h2:=Decidable.not_not.1 h2
   have h3:=Decidable.not_not.1 h3
   have h4:=Decidable.not_not.1 h4
   have h5:l.length=b.list.length:=by have:=Decidable.not_not.1 h5;simp only [Zb.list_mk] at this;omega
   refine Zai (P:=fun _ i=>P i (Zb.mk k n s l c) b) (fun _=>()) l.length (fun i=>l.take i=b.list.take i) (by simp) (fun hI=>?_) (fun i hi hI ihP=>?_)
   ·apply hP
    unfold Zh5 Ziz
    refine ⟨fun h=>absurd h (by simp only [Zb.list_mk];omega),fun _=>(Lr.2 ?_).symm⟩
    rw [List.take_length,h5,List.take_length] at hI
    rw [b.eta,<- h1,<- h2,<- h3,<- h4,hI]
    rfl
   ·apply hP
    have hi2:i<b.list.length:=by omega
    unfold Zh5
    refine ⟨fun _=>⟨by omega,l[i],Xm (l:=l) hi,by omega,b.list[i],Xm hi2,_,ih _ (List.getElem_mem hi) _,fun h6=>?_,fun h6=>?_⟩,fun h=>absurd (show (i:Int)<l.length by omega) h⟩
    ·refine no (p:=l[i]=b.list[i]) (fun e=>?_) (Zet.1 (by simpa using h6))
     subst e
     rfl
    ·rw [Xq (by omega) (by omega)]
     refine ihP ?_
     have h7:l[i]=b.list[i]:=Lr.1 (by simpa using h6)
     rw [List.take_succ_eq_append_getElem hi,List.take_succ_eq_append_getElem hi2,hI,h7])
  exact h
end
end Go.AM

/- Yf of the proof. -/
namespace Go.AM
open Go
structure HasO (PG:Za):Prop extends Has38 PG where
 f154:PG.fn 154=some Zgw
 f158:PG.fn 158=some Zb1
 f178:PG.fn 178=some Ez
 f180:PG.fn 180=some Zf2
 f183:PG.fn 183=some Fo
 f190:PG.fn 190=some Zem
 f191:PG.fn 191=some Zfm
def Zcm:List Zc:=[[],Tl,Ci,Cj]
def Ij:List UInt8:=[0,2,1,3,2]
theorem Wab {t:Int} (h:0<=t) (h4:¬t>4) :∃c:UInt8,Ij[t.toNat]?=some c/\((c.toNat:Nat):Int)=Mg t:=by
 rcases (show t=0\/t=1\/t=2\/t=3\/t=4 by omega) with rfl | rfl | rfl | rfl | rfl
 ·exact ⟨0,rfl,rfl⟩
 ·exact ⟨2,rfl,rfl⟩
 ·exact ⟨1,rfl,rfl⟩
 ·exact ⟨3,rfl,rfl⟩
 ·exact ⟨2,rfl,rfl⟩
theorem Xkw {n:Int} (h:1<=n) (h3:n<=3):Zcm[n.toNat]?=some (Ew n):=by
 rcases (show n=1\/n=2\/n=3 by omega) with rfl | rfl | rfl<;>rfl
theorem Xc9 {p:Zh} (h:p.tag>4):Xy p=false:=by unfold Xy;rw [decide_eq_false (by omega)];rfl
theorem Xu7 {p:Zh} (h:p.value.kind≠Mg p.tag):Xy p=false:=by unfold Xy;rw [decide_eq_false h];simp
theorem Xry {p:Zh} (h:p.tag=0) (hk:p.value.kind=Mg p.tag):Xy p=(Bk p.value&&decide (p.flags=2\/p.flags=6)):=by
 unfold Xy;rw [decide_eq_true hk,decide_eq_true (by omega),if_pos h];rfl
theorem Xdm {p:Zh} (h4:¬p.tag>4) (h:p.tag≠0) (hk:p.value.kind=Mg p.tag):Xy p=(decide (p.flags=0\/p.flags=1\/p.flags=4\/p.flags=5)&&decide (p.tag=4->1<=p.value.int/\p.value.int<=3)&&Vh p.value):=by
 unfold Xy;rw [decide_eq_true hk,decide_eq_true (by omega),if_neg h];rfl
theorem So {p:Zh} (h:Xy p=false):Hu p=8:=by unfold Hu;rw [h];rfl
theorem Wi7 {p:Zh} (h:Xy p=true):Hu p=0:=by unfold Hu;rw [h];rfl
theorem Zgg {p:Zh}:Hu p=0↔Xy p=true:=by unfold Hu;split<;>simp_all
section
variable {PG:Za} (H:HasO PG)
include H
theorem Zuw:Ze PG 178 [] (.ag (Zcm.map AV.s)):=by
 obtain ⟨x,rfl,h⟩:=Yod H.f178 (K:=fun x=>x=Zcm) rfl
 exact h
theorem Yls:Ze PG 183 [] (.ag (Ij.map c8)):=by
 obtain ⟨x,rfl,h⟩:=Xf4 H.f183 (K:=fun x=>x=Ij) rfl
 exact h
theorem Yu1 {s p:Zc} (hs:s.length<=1000000000):Ze PG 191 [.s s,.s p] (.b (Xr p s).2):=by
 obtain ⟨x,rfl,h⟩:=Xhc H.f191 (s0:=s) (suffix1:=p) (K:=fun x=>x=(Xr p s).2) (by
  unfold Zqb Xr
  refine ⟨fun h=>?_,fun h=>?_⟩
  ·rw [Xq (by omega) (by omega),show ((s.length:Int)-(p.length:Int)).toNat=s.length-p.length by omega]
   refine ⟨by omega,by omega,?_⟩
   by_cases h1:s.drop (s.length-p.length)=p
   ·rw [decide_eq_true h1,if_pos ⟨by omega,h1⟩]
   ·rw [decide_eq_false h1,if_neg fun h2=>h1 h2.2]
  ·rw [if_neg fun h2=>h (by omega)])
 exact h
theorem Xjg {s p:Zc} (hs:s.length<=1000000000):Ze PG 190 [.s s,.s p] (.tup [.s (Xr p s).1,.b (Xr p s).2]):=by
 obtain ⟨x,y,⟨rfl,rfl⟩,h⟩:=Xez H.f190 (s0:=s) (suffix1:=p) (K:=fun x y=>x=(Xr p s).1/\y=(Xr p s).2) (by
  unfold Zi0
  refine ⟨_,Yu1 H hs,fun h=>?_,fun h=>?_⟩
  ·have h:(Xr p s).2=false:=by simpa using h
   exact ⟨(Zrr h).symm,h.symm⟩
  ·have h:(Xr p s).2=true:=by simpa using h
   have hl:p.length<=s.length:=by have:=congrArg List.length (Zjj h);rw [List.length_append] at this;omega
   rw [Xq (by omega) (by omega),show ((s.length:Int)-(p.length:Int)).toNat=s.length-p.length by omega]
   refine ⟨by omega,by omega,?_,h.symm⟩
   unfold Xr at h ⊢
   split
   ·rfl
   ·rename_i h1;rw [if_neg h1] at h;cases h)
 exact h
theorem Zsg {s p:Zc} (hs:s.length<=1000000000):Ze PG 180 [.s s,.s p] (.tup [.s (Xr p s).1,.b (Xr p s).2]):=by
 obtain ⟨x,y,⟨rfl,rfl⟩,h⟩:=Wcy H.f180 (s0:=s) (suffix1:=p) (K:=fun x y=>x=(Xr p s).1/\y=(Xr p s).2) (by
  unfold Zkw
  exact ⟨_,_,Xjg H hs,rfl,rfl⟩)
 exact h
theorem Zk4 {p:Zh} (hp:Dq p):Ze PG 158 [p.av] (.i .i64 (Hu p)):=by
 obtain ⟨x,rfl,h⟩:=Whj H.f158 (p0:=p) (K:=fun x=>x=Hu p) (by
  unfold Zlp Zqw
  refine ⟨fun h=>(So (Xc9 h)).symm,fun h4=>?_⟩
  obtain ⟨c,g1,g2⟩:=Wab hp.t.1 h4
  refine ⟨_,Yls H,rfl,hp.t.1,c,g1,fun h=>(So (Xu7 (by rw [<- g2];exact h))).symm,fun h=>?_⟩
  have hk:p.value.kind=Mg p.tag:=by rw [<- g2];exact Decidable.not_not.1 h
  unfold Zq7
  refine ⟨fun h0=>?_,fun h0=>?_⟩
  ·have e:=Xry h0 hk
   have hk0:p.value.kind=0:=by rw [hk,h0];rfl
   have no:Bk p.value=false->8=Hu p:=fun h=>(So (by rw [e,h];rfl)).symm
   have nz :∀{q:Prop},(p.value=vz->q)->¬q->Bk p.value=false:=fun a b=>by rw [<- Bool.not_eq_true,Zoa];exact fun h=>b (a h)
   refine ⟨fun h=>no (nz (fun e=>by rw [e];rfl) h),fun h1=>⟨fun h=>no (nz (fun e=>by rw [e];rfl) h),fun h2=>⟨fun h=>no (nz (q:=¬((p.value.list.length:Int)>0)) (fun e=>by rw [e];decide) (fun h'=>h' h)),fun h3=>⟨fun h=>no (nz (q:=p.value.cut=false) (fun e=>by rw [e];rfl) (by rw [h];decide)),fun h4=>?_⟩⟩⟩⟩
   have hz:Bk p.value=true:=by
    unfold Bk
    rw [decide_eq_true hk0,decide_eq_true (Decidable.not_not.1 h1),decide_eq_true (Decidable.not_not.1 h2),decide_eq_true (by omega),h4];rfl
   have fl:=Xc5 hp.f
   rw [hz,Bool.true_and] at e
   refine ⟨fun h=>(So (by rw [e];exact decide_eq_false fun h'=>h (fl.2 h'))).symm,fun h=>(Wi7 (by rw [e];exact decide_eq_true (fl.1 (Decidable.not_not.1 h)))).symm⟩
  ·have e:=Xdm h4 h0 hk
   have fl:=Xzk hp.f
   unfold Zqf
   refine ⟨fun h=>(So (by rw [e,decide_eq_false (fun h'=>h (fl.2 h'))];rfl)).symm,fun h=>?_⟩
   rw [decide_eq_true (fl.1 (Decidable.not_not.1 h)),Bool.true_and] at e
   have last:(p.tag=4->1<=p.value.int/\p.value.int<=3)->Za4 PG (fun x=>x=Hu p) p:=fun hh=>by
    unfold Za4
    refine ⟨_,c76 H.toHas38 hp.v,?_⟩
    rw [decide_eq_true hh,Bool.true_and] at e
    unfold Bp Hu
    rw [e]
   refine ⟨fun h5=>⟨fun h=>(So (by rw [e,decide_eq_false (fun h'=>by have:=h' h5;omega)];rfl)).symm,fun h6=>⟨fun h=>(So (by rw [e,decide_eq_false (fun h'=>by have:=h' h5;omega)];rfl)).symm,fun h7=>last fun _=>by omega⟩⟩,fun h5=>last fun h'=>absurd h' h5⟩)
 exact h
omit H in
theorem Xv6 {f:Int} (h:f=0\/f=1\/f=2\/f=4\/f=5\/f=6):(Ux .u64 f 1≠0↔f % 2=1)/\(Ux .u64 f 4≠0↔4<=f)/\(f.tmod 2=1↔f % 2=1):=by
 rcases h with rfl | rfl | rfl | rfl | rfl | rfl<;>decide
omit H in
theorem Wbs {p:Zh} (h:Xy p=true):p.flags=0\/p.flags=1\/p.flags=2\/p.flags=4\/p.flags=5\/p.flags=6:=by rcases Sr h with ⟨_,_,h⟩ | ⟨_,_,h⟩<;>omega
omit H in
theorem Zse {p:Zh} (h:Xy p=true) (h4:p.tag=4):1<=p.value.int/\p.value.int<=3:=by
 unfold Xy at h
 simp only [Bool.and_eq_true,decide_eq_true_eq] at h
 have h3:=h.2
 rw [if_neg (by omega)] at h3
 simp only [Bool.and_eq_true,decide_eq_true_eq] at h3
 exact h3.1.2 h4
omit H in
theorem Yzl {p:Zh} {b:Zc} (hb:b=Vj p):Vw p=(b++(if p.flags % 2=1 then Kc else []))++(if 4<=p.flags then Je else []):=by
 rw [hb,Vw,Tj,List.append_assoc]
theorem Xyc {p:Zh} (hp:Dq p):Ze PG 154 [p.av] (.tup [.s (Rp p).1,.i .i64 (Rp p).2]):=by
 obtain ⟨x,y,⟨rfl,rfl⟩,h⟩:=Yq6 H.f154 (p0:=p) (K:=fun x y=>x=(Rp p).1/\y=(Rp p).2) (by
  unfold Zr9
  refine ⟨_,Zk4 H hp,fun h=>?_,fun h=>?_⟩
  ·have h1:Xy p≠true:=fun h'=>h (Zgg.2 h')
   unfold Rp Hu;rw [if_neg h1,if_neg h1];exact ⟨rfl,rfl⟩
  ·have ho:=Zgg.1 (Decidable.not_not.1 h)
   have hl:=Zlx ho
   obtain ⟨a1,a2,a3⟩:=Xv6 (Wbs ho)
   unfold Rp;rw [if_pos ho]
   have t1 :∀b,b=Vj p->La PG (fun x y=>x=(Vw p,(0:Int)).1/\y=(Vw p,(0:Int)).2) b p:=fun b hb=>by
    have e:=Yzl hb
    have hl:b.length<=400:=by rw [e,List.length_append,List.length_append] at hl;omega
    unfold La Zde Zea
    simp only [List.length_append,List.length_cons,List.length_nil,Ge]
    refine ⟨fun h1=>⟨by omega,fun h2=>⟨by omega,?_,trivial⟩,fun h2=>⟨?_,trivial⟩⟩,fun h1=>⟨fun h2=>⟨by omega,?_,trivial⟩,fun h2=>⟨?_,trivial⟩⟩⟩
    ·rw [e,if_pos (a1.1 h1),if_pos (a2.1 h2)];rfl
    ·rw [e,if_pos (a1.1 h1),if_neg fun h=>h2 (a2.2 h),List.append_nil];rfl
    ·rw [e,if_neg fun h=>h1 (a1.2 h),if_pos (a2.1 h2),List.append_nil];rfl
    ·rw [e,if_neg fun h=>h1 (a1.2 h),if_neg fun h=>h2 (a2.2 h),List.append_nil,List.append_nil]
   refine ⟨fun h0=>t1 _ (by unfold Vj;rw [if_pos h0];rfl),fun h0=>⟨fun h4=>?_,fun h4=>?_⟩⟩
   ·obtain ⟨g1,g2⟩:=Zse ho h4
    exact ⟨_,Zuw H,rfl,by omega,_,Xkw g1 g2,t1 _ (by unfold Vj;rw [if_neg h0,if_pos h4])⟩
   ·have hf:Vh p.value=true:=by rcases Sr ho with h | h;exact absurd h.1 h0;exact h.2.1
    have:=Tz hf
    refine ⟨_,_,c72 H.toHas38 hp.v,fun h=>absurd (Nh.2 hf) h,fun _=>?_⟩
    rw [if_pos hf]
    refine ⟨?_,t1 _ (by unfold Vj;rw [if_neg h0,if_neg h4];rfl)⟩
    simp only [List.length_cons,List.length_nil,Ge];omega)
 exact h
end
end Go.AM

/- Yf of the proof. -/
namespace Go.AM
open Go
structure HasP (PG:Za):Prop extends HasO PG where
 f156:PG.fn 156=some Ir
 f160:PG.fn 160=some Zdw
 f181:PG.fn 181=some As
theorem Yi3 (p s:Zc):(Xr p s).1.length<=s.length:=by
 unfold Xr
 split
 ·simp only [List.length_take];omega
 ·exact Nat.le_refl _
noncomputable def Sv (p q:Zh):Bool:=decide (p.tag=q.tag)&&decide (p.flags=q.flags)&&Rh p.value q.value
theorem Zx1 {p q:Zh}:Sv p q=true↔p=q:=by
 obtain ⟨a,b,c⟩:=p
 obtain ⟨d,e,f⟩:=q
 unfold Sv
 simp only [Bool.and_eq_true,decide_eq_true_eq,Lr,Zh.mk.injEq]
 constructor
 ·rintro ⟨⟨h1,h2⟩,h3⟩;exact ⟨h1,h3,h2⟩
 ·rintro ⟨h1,h2,h3⟩;exact ⟨⟨h1,h3⟩,h2⟩
def Ug (s:Zc):Zh × Bool:=match Uw s with | some p=>(p,true) | none=>(pz,false)
def Dr (p:Zh) (r a:Bool):Zh:=⟨p.tag,p.value,p.flags+(if r=true then 1 else 0)+(if a=true then 4 else 0)⟩
section
variable {PG:Za} (H:HasP PG)
include H
theorem Xel {p q:Zh} (hp:Wf p.value):Ze PG 160 [p.av,q.av] (.b (Sv p q)):=by
 obtain ⟨x,rfl,h⟩:=Xcn H.f160 (a0:=p) (b1:=q) (K:=fun x=>x=Sv p q) (by
  unfold Zp8
  refine ⟨fun h1=>⟨fun h2=>⟨_,c78 H.toHas38 hp _,?_⟩,fun h2=>?_⟩,fun h1=>?_⟩
  ·unfold Sv;rw [decide_eq_true h1,decide_eq_true h2];rfl
  ·unfold Sv;rw [decide_eq_false h2,Bool.and_false];rfl
  ·unfold Sv;rw [decide_eq_false h1];rfl)
 exact h
theorem Xmu {s:Zc} (hs:s.length<=1000000000):Ze PG 181 [.s s] (.tup [(Ug s).1.av,.b (Ug s).2]):=by
 obtain ⟨x,y,⟨rfl,rfl⟩,h⟩:=Xac H.f181 (s0:=s) (K:=fun x y=>x=(Ug s).1/\y=(Ug s).2) (by
  unfold Zqy Zl8
  have yes :∀{p:Zh},Uw s=some p->p=(Ug s).1/\true=(Ug s).2:=fun h=>by unfold Ug;rw [h];exact ⟨rfl,rfl⟩
  have no:Uw s=none->pz=(Ug s).1/\false=(Ug s).2:=fun h=>by unfold Ug;rw [h];exact ⟨rfl,rfl⟩
  refine ⟨fun h=>yes (by unfold Uw;rw [if_pos (show s=Lg from h)]),fun h0=>?_⟩
  have h0:s≠Lg:=h0
  unfold Zof
  refine ⟨_,Zuw H.toHasO,fun P hP=>?_⟩
  have step :∀(i:Nat) (f:Zc),Zcm[i]?=some f->i<4->(0<i->f=s->(Zh.mk 4 (Zb.mk 2 (i:Int) [] [] false) 0)=(Ug s).1/\true=(Ug s).2)->((0<i->f≠s)->P ((i+1:Nat):Int) pz)->P (i:Int) pz:=fun i f hf hi h1 h2=>by
   apply hP
   unfold Zex
   refine ⟨fun _=>⟨rfl,by omega,f,by rw [Ht];exact hf,fun h3=>?_,fun h3=>?_⟩,fun h=>absurd (show (i:Int)<4 by omega) h⟩
   ·unfold Ak
    rw [Xq (by omega) (by omega)]
    exact ⟨fun h4=>h1 (by omega) (of_decide_eq_true h4),fun h4=>h2 fun _=>of_decide_eq_false h4⟩
   ·unfold Ak
    rw [Xq (by omega) (by omega)]
    exact ⟨fun h4=>(by cases h4),fun _=>h2 fun h=>by omega⟩
  refine step 0 [] rfl (by decide) (fun h=>absurd h (by decide)) fun _=>step 1 Tl rfl (by decide) (fun _ e=>yes (by unfold Uw;rw [if_neg h0,if_pos e.symm];rfl)) fun n1=>step 2 Ci rfl (by decide) (fun _ e=>yes (by unfold Uw;rw [if_neg h0,if_neg fun e'=>n1 (by decide) e'.symm,if_pos e.symm];rfl)) fun n2=>step 3 Cj rfl (by decide) (fun _ e=>yes (by unfold Uw;rw [if_neg h0,if_neg fun e'=>n1 (by decide) e'.symm,if_neg fun e'=>n2 (by decide) e'.symm,if_pos e.symm];rfl)) fun n3=>?_
  apply hP
  unfold Zex Zr0
  refine ⟨fun h=>absurd h (by decide),fun _=>⟨_,_,Py H.toHas03 s Kq,fun h1=>?_,fun h1=>?_⟩⟩
  all_goals
   have e1:Uw s=if (Zn Kq s).2=false then none else
    if (Jj (Zn Kq s).1).2≠0 then none else
    let v:=(Jj (Zn Kq s).1).1
    if v.kind=2 then some ⟨1,v,0⟩ else if v.kind=1 then some ⟨2,v,0⟩ else if v.kind=3 then some ⟨3,v,0⟩ else none:=by
    conv=>lhs;unfold Uw
    rw [if_neg h0,if_neg fun e'=>n1 (by decide) e'.symm,if_neg fun e'=>n2 (by decide) e'.symm,if_neg fun e'=>n3 (by decide) e'.symm]
  ·exact no (by rw [e1,if_pos (by simpa using h1)])
  ·rw [if_neg (by simpa using h1)] at e1
   have hl:(Zn Kq s).1.length<=1000000000:=by unfold Zn;split<;>simp<;>omega
   refine ⟨_,_,c74 H.toHas38 hl,_,Yls H.toHasO,fun Q hQ=>?_⟩
   by_cases he:(Jj (Zn Kq s).1).2=0
   ·rw [if_neg (by rw [he];decide)] at e1
    obtain ⟨g1,_,_⟩:=Ydc he
    generalize (Jj (Zn Kq s).1).1=v at e1 g1 hQ ⊢
    have h7:=Mr (Rw g1).1
    unfold Zb.okh Qa at h7
    simp only at e1
    have st :∀(i:Nat) (c:UInt8),Ij[i]?=some c->i<5->((c.toNat:Int)=v.kind->(Zh.mk (i:Int) v 0)=(Ug s).1/\true=(Ug s).2)->(¬(c.toNat:Int)=v.kind->Q ((i+1:Nat):Int) pz v)->Q (i:Int) pz v:=fun i c hc hi h1 h2=>by
     apply hQ
     unfold Ln
     refine ⟨fun _=>⟨rfl,by omega,c,by rw [Ht];exact hc,fun h3=>?_,fun h3=>absurd he h3⟩,fun h=>absurd (show (i:Int)<5 by omega) h⟩
     unfold Ad
     rw [Xq (by omega) (by omega),Za2 (by omega) (by omega)]
     exact ⟨fun h4=>h1 (of_decide_eq_true h4),fun h4=>h2 (of_decide_eq_false h4)⟩
    refine st 0 0 rfl (by decide) (fun h=>absurd h (show ¬((0:Int)=v.kind) by omega)) fun _=>st 1 2 rfl (by decide) (fun h=>yes (by rw [e1,if_pos (show v.kind=2 from h.symm)];rfl)) fun n2=>st 2 1 rfl (by decide) (fun h=>yes (by rw [e1,if_neg fun h'=>n2 h'.symm,if_pos (show v.kind=1 from h.symm)];rfl)) fun n1=>st 3 3 rfl (by decide) (fun h=>yes (by rw [e1,if_neg fun h'=>n2 h'.symm,if_neg fun h'=>n1 h'.symm,if_pos (show v.kind=3 from h.symm)];rfl)) fun n3=>st 4 2 rfl (by decide) (fun h=>absurd h n2) fun _=>?_
    apply hQ
    unfold Ln Zgy
    exact ⟨fun h=>absurd h (by decide),fun _=>no (by rw [e1,if_neg fun h'=>n2 h'.symm,if_neg fun h'=>n1 h'.symm,if_neg fun h'=>n3 h'.symm])⟩
   ·rw [if_pos he] at e1
    have st :∀(i:Nat) (c:UInt8),Ij[i]?=some c->i<5->Q ((i+1:Nat):Int) pz (Jj (Zn Kq s).1).1->Q (i:Int) pz (Jj (Zn Kq s).1).1:=fun i c hc hi h2=>by
     apply hQ
     unfold Ln
     refine ⟨fun _=>⟨rfl,by omega,c,by rw [Ht];exact hc,fun h3=>absurd h3 he,fun h3=>?_⟩,fun h=>absurd (show (i:Int)<5 by omega) h⟩
     unfold Ad
     rw [Xq (by omega) (by omega)]
     exact ⟨fun h4=>(by cases h4),fun _=>h2⟩
    refine st 0 0 rfl (by decide) (st 1 2 rfl (by decide) (st 2 1 rfl (by decide) (st 3 3 rfl (by decide) (st 4 2 rfl (by decide) ?_))))
    apply hQ
    unfold Ln Zgy
    exact ⟨fun h=>absurd h (by decide),fun _=>no e1⟩)
 exact h
omit H in
theorem Xsx {f:Int} (h:f=0\/f=2):Ap .u64 f 1=f+1/\Ap .u64 f 4=f+4/\Ap .u64 (f+1) 4=f+1+4/\IntKind.u64.wrap (f+1)=f+1/\IntKind.u64.wrap (f+4)=f+4/\IntKind.u64.wrap (f+1+4)=f+1+4:=by
 rcases h with rfl | rfl<;>decide
theorem Xom {s:Zc} (hs:s.length<=1000000000):Ze PG 156 [.s s] (.tup [(Qr s).1.av,.i .i64 (Qr s).2]):=by
 obtain ⟨x,y,⟨rfl,rfl⟩,h⟩:=Xls H.f156 (s0:=s) (K:=fun x y=>x=(Qr s).1/\y=(Qr s).2) (by
  unfold Zhe
  refine ⟨fun h=>?_,fun h=>?_⟩
  ·unfold Qr;rw [if_pos (by omega)];exact ⟨rfl,rfl⟩
  have hl:¬2000<s.length:=by omega
  have l1:(Xr Je s).1.length<=1000000000:=Nat.le_trans (Yi3 _ _) hs
  have l2:(Xr Kc (Xr Je s).1).1.length<=1000000000:=Nat.le_trans (Yi3 _ _) l1
  have e:Qr s=(match Uw (Xr Kc (Xr Je s).1).1 with
   | none=>(pz,12)
   | some p=>if Xy (Dr p (Xr Kc (Xr Je s).1).2 (Xr Je s).2)=true then (Dr p (Xr Kc (Xr Je s).1).2 (Xr Je s).2,0) else (pz,12)):=by
   conv=>lhs;unfold Qr
   rw [if_neg hl]
   rfl
  refine ⟨_,_,Zsg H.toHasO (p:=Je) hs,_,_,Zsg H.toHasO (p:=Kc) l1,_,_,Xmu H l2,?_⟩
  generalize Xr Je s=a at e l1 l2 ⊢
  generalize Xr Kc a.1=r at e l2 ⊢
  cases hc:Uw r.1 with
  | none=>
   rw [hc] at e
   have e2:Ug r.1=(pz,false):=by unfold Ug;rw [hc]
   rw [e,e2]
   unfold Ah Cq
   exact ⟨fun _=>⟨fun _=>⟨fun _=>⟨rfl,rfl⟩,fun h=>(by cases h)⟩,fun _=>⟨fun _=>⟨rfl,rfl⟩,fun h=>(by cases h)⟩⟩,fun _=>⟨fun _=>⟨fun _=>⟨rfl,rfl⟩,fun h=>(by cases h)⟩,fun _=>⟨fun _=>⟨rfl,rfl⟩,fun h=>(by cases h)⟩⟩⟩
  | some p=>
   rw [hc] at e
   have e2:Ug r.1=(p,true):=by unfold Ug;rw [hc]
   rw [e,e2]
   obtain ⟨w1,w2,w3,w4,_⟩:=Yj4 hc
   obtain ⟨o1,o2,o3,_⟩:=Xsx w2
   have fin :∀q:Zh,q=Dr p r.2 a.2->Cq PG (fun x y=>x=(if Xy (Dr p r.2 a.2)=true then (Dr p r.2 a.2,(0:Int)) else (pz,12)).1/\y=(if Xy (Dr p r.2 a.2)=true then (Dr p r.2 a.2,(0:Int)) else (pz,12)).2) true pz q:=fun q hq=>by
    subst hq
    have hw:Dq (Dr p r.2 a.2):=⟨⟨w3,by simp only [Dr];omega⟩,w1,by simp only [Dr];constructor<;>(split<;>split<;>omega)⟩
    unfold Cq
    refine ⟨fun h=>(by cases h),fun _=>⟨_,Zk4 H.toHasO hw,fun h1=>?_,fun h1=>?_⟩⟩
    ·rw [if_neg fun h'=>h1 (Zgg.2 h')];exact ⟨rfl,rfl⟩
    ·rw [if_pos (Zgg.1 (Decidable.not_not.1 h1))];exact ⟨rfl,rfl⟩
   unfold Ah
   simp only
   refine ⟨fun h1=>⟨fun h2=>fin _ ?_,fun h2=>fin _ ?_⟩,fun h1=>⟨fun h2=>fin _ ?_,fun h2=>fin _ ?_⟩⟩<;>unfold Dr<;>rw [h1,h2]
   ·rw [o1,o3];rfl
   ·rw [o1];simp
   ·rw [o2];simp
   ·simp)
 exact h
end
end Go.AM

/- Yf of the proof. -/
namespace Go.AM
open Go
structure HasQ (PG:Za):Prop extends HasP PG where
 f162:PG.fn 162=some Zdj
 f169:PG.fn 169=some Yd8
 f170:PG.fn 170=some Zbx
def Ra (l:List Zh):Int:=if 410<l.length then 4 else if l.all Xy=true then 0 else 8
def Rn (l:List Zh):Bool:=(decide (20<l.length)&&decide (l.length<=410))||decide (420<l.length)||l.any (fun p=>Dz p.value)
theorem Zyb {l:List Zh} (h:Ra l=0):l.length<=410/\∀p∈l,Xy p=true:=by
 unfold Ra at h
 split at h
 ·cases h
 ·split at h
  ·rename_i h1 h2;exact ⟨by omega,List.all_eq_true.1 h2⟩
  ·cases h
section
variable {PG:Za} (H:HasQ PG)
include H
theorem Yuy {l:List Zh} (hw :∀p∈l,Dq p):Ze PG 162 [.sl .ext (l.map Zh.row)] (.b (Rn l)):=by
 obtain ⟨x,rfl,h⟩:=Xxh H.f162 (l0:=l) (K:=fun x=>x=Rn l) (by
  have t1:(decide (20<l.length)&&decide (l.length<=410))=false->¬420<l.length->Fw PG (fun x=>x=Rn l) l:=fun h1 h2=>by
   unfold Fw
   intro P hP
   have e:Rn l=l.any (fun p=>Dz p.value):=by unfold Rn;rw [h1,decide_eq_false h2];rfl
   rw [e] at hP
   refine Db l.length (fun i=>∀p∈l.take i,Dz p.value=false) (by simp) (fun hI=>hP _ ?_) fun i hi hI next=>hP _ ?_
   ·unfold Zc4 Zos
    rw [List.take_length] at hI
    exact ⟨fun h=>absurd h (by omega),fun _=>(List.any_eq_false.2 fun p hp=>by simpa using hI p hp).symm⟩
   ·unfold Zc4
    refine ⟨fun _=>⟨by omega,_,Xm hi,_,c71 H.toHas38 (hw _ (List.getElem_mem hi)).v,fun h1=>(List.any_eq_true.2 ⟨_,List.getElem_mem hi,h1⟩).symm,fun h1=>?_⟩,fun h=>absurd (show (i:Int)<l.length by omega) h⟩
    rw [Xq (by omega) (by omega)]
    refine next fun p hp=>?_
    rw [List.take_succ_eq_append_getElem hi] at hp
    rcases List.mem_append.1 hp with hp | hp
    ·exact hI p hp
    ·rw [List.mem_singleton.1 hp];exact h1
  unfold Zir
  refine ⟨fun h1=>⟨fun h2=>?_,fun h2=>⟨fun h3=>?_,fun h3=>?_⟩⟩,fun h1=>⟨fun h3=>?_,fun h3=>?_⟩⟩
  ·unfold Rn;rw [decide_eq_true (by omega),decide_eq_true (by omega)];rfl
  ·unfold Rn;rw [decide_eq_true (p:=420<l.length) (by omega)];simp
  ·exact t1 (by rw [decide_eq_false (p:=l.length<=410) (by omega)];simp) (by omega)
  ·omega
  ·exact t1 (by rw [decide_eq_false (p:=20<l.length) (by omega)];rfl) (by omega))
 exact h
end
section
variable {PG:Za} (H:HasQ PG)
include H
end
end Go.AM

/- Yf of the proof. -/
namespace Go.AM
open Go
def Ft (s:Yz):Bool:=decide (40<s.name.length)
def Dt (f:Yb):Bool:=decide (40<f.name.length)||decide (30<f.slots.length)||decide (300<f.code.length)||f.slots.any Ft
def Ny (m:Zf):Bool:=(m.funcs.take 41).any Dt||decide (40<m.funcs.length)
def Ss (x:Zg):Bool:=(x.locals.take 21).any (fun l=>Dz l.value)||decide (20<x.locals.length)
structure Wr (m:Zf):Prop where
 n:m.funcs.length<=40
 f :∀f∈m.funcs,f.name.length<=40/\f.slots.length<=30/\f.code.length<=300/\∀s∈f.slots,s.name.length<=40
theorem Wr.of {m:Zf} (h:Ny m=false):Wr m:=by
 simp only [Ny,Bool.or_eq_false_iff,decide_eq_false_iff_not] at h
 have hn:m.funcs.length<=40:=by omega
 refine ⟨hn,fun f hf=>?_⟩
 have h1:=h.1
 rw [List.take_of_length_le (by omega),List.any_eq_false] at h1
 have h2:=h1 f hf
 simp only [Dt,Bool.not_eq_true,Bool.or_eq_false_iff,decide_eq_false_iff_not,List.any_eq_false] at h2
 refine ⟨by omega,by omega,by omega,fun s hs=>?_⟩
 simpa [Ft] using h2.2 s hs
structure Uq (x:Zg):Prop where
 m:0<=x.mode
 n:x.locals.length<=9223372036854775807
 v :∀l∈x.locals,Wf l.value
def Ku (n:Int):Int->List Zz->Bool
 | _,[]=>true
 | last,l::r=>decide (last<l.slot)&&decide (l.slot<n)&&Vh l.value&&Ku n l.slot r
def Pk (f:Yb) (x:Zg):Bool:=decide (f.slots.length<=16)&&decide (f.name.length<=16)&&decide (0<=x.pos)&&decide (x.pos<f.code.length)&&f.slots.all (fun s=>decide (s.name.length<=16))&&Ku f.slots.length (-1) x.locals
def Jy (m:Zf) (x:Zg):Bool:=decide (0<=x.func)&&decide (x.mode<=3)&&(match m.funcs[x.func.toNat]? with | none=>false | some f=>Pk f x)
def Dv (m:Zf) (x:Zg):Int:=if Jy m x=true then 0 else 8
def Ti:List Zc:=[[99,97,108,108],[100,101,102,101,114],[112,97,110,105,99],[101,120,105,116]]
def Rl (n:Int):Zc:=(Ti[n.toNat]?).getD []
def Gl (f:Yb) (k:Int) (x:Zg):Zc:=[35]++Xa k++[32]++Xa x.func++[32]++quo f.name++[32,97,116,32]++Xa x.pos++[32]++Rl x.mode
def Bv (f:Yb) (n:Int):Zc:=((f.slots[n.toNat]?).getD Yz.zero).name
def Gm (f:Yb) (l:Zz):Zc:=[32,32]++Xa l.slot++[32]++quo (Bv f l.slot)++[32,61,32]++Xd l.value
def Gd (m:Zf) (k:Int) (x:Zg):List Zc:=match m.funcs[x.func.toNat]? with
 | none=>[]
 | some f=>Gl f k x::x.locals.map (Gm f)
def Ut (m:Zf) (k:Int) (x:Zg):List Zc × Int:=if k<0\/170<=k then ([],2) else if Jy m x=true then (Gd m k x,0) else ([],8)
theorem Rv {m:Zf} {x:Zg}:Jy m x=true↔0<=x.func/\x.mode<=3/\∃f,m.funcs[x.func.toNat]?=some f/\Pk f x=true:=by
 unfold Jy
 cases h:m.funcs[x.func.toNat]? with
 | none=>simp
 | some f=>simp [and_assoc]
theorem Aa {f:Yb} {x:Zg}:Pk f x=true↔f.slots.length<=16/\f.name.length<=16/\0<=x.pos/\x.pos<f.code.length/\(∀s∈f.slots,s.name.length<=16)/\Ku f.slots.length (-1) x.locals=true:=by
 simp [Pk,and_assoc]
theorem Zed {n:Int} :∀{l:List Zz} {last:Int},Ku n last l=true->∀x∈l,last<x.slot/\x.slot<n/\Vh x.value=true
 | [],_,_,x,hx=>by cases hx
 | y::r,last,h,x,hx=>by
  simp only [Ku,Bool.and_eq_true,decide_eq_true_eq] at h
  obtain ⟨⟨⟨h1,h2⟩,h3⟩,h4⟩:=h
  rcases List.mem_cons.1 hx with rfl | hx
  ·exact ⟨h1,h2,h3⟩
  ·have:=Zed h4 x hx
   exact ⟨by omega,this.2⟩
theorem Zmb {n:Int} :∀{l:List Zz} {last:Int},Ku n last l=true->l=[]\/(l.length:Int)<n-last
 | [],_,_=>.inl rfl
 | y::r,last,h=>by
  simp only [Ku,Bool.and_eq_true,decide_eq_true_eq] at h
  obtain ⟨⟨⟨h1,h2⟩,h3⟩,h4⟩:=h
  rcases Zmb h4 with rfl | h5
  ·right;simp only [List.length_cons,List.length_nil];omega
  ·right;simp only [List.length_cons];omega
theorem Zyf {n last:Int} :∀(l:List Zz) (i:Nat),Ku n last l=true->Ku n last (l.take i)=true
 | [],i,h=>by rw [List.take_nil];rfl
 | y::r,0,h=>rfl
 | y::r,i+1,h=>by
  simp only [Ku,List.take_succ_cons,Bool.and_eq_true] at h ⊢
  exact ⟨h.1,Zyf r i h.2⟩
def Tb (last:Int):List Zz->Int
 | []=>last
 | l::r=>Tb l.slot r
theorem Ycp :∀(l:List Zz) (last:Int) (x:Zz),Tb last (l++[x])=x.slot
 | [],_,_=>rfl
 | y::r,last,x=>Ycp r y.slot x
theorem Zuf {n:Int} :∀(l:List Zz) (last:Int) (x:Zz),Ku n last (l++[x])=(Ku n last l&&decide (Tb last l<x.slot)&&decide (x.slot<n)&&Vh x.value)
 | [],last,x=>by simp [Ku,Tb];rfl
 | y::r,last,x=>by
  simp only [List.cons_append,Ku,Tb,Zuf r y.slot x]
  simp only [Bool.and_assoc]
  rfl
theorem Yus {n last:Int} {l:List Zz} {i:Nat} (h:Ku n last (l.take i)=false):Ku n last l=false:=by
 rw [<- Bool.not_eq_true] at h ⊢
 exact fun h'=>h (Zyf l i h')
def Yu (n:Int) (s:Zc):Int × Bool × Zc:=((Kn s).1,(Kn s).2.1&&decide (0<=(Kn s).1)&&decide ((Kn s).1<n),(Kn s).2.2)
def Dc (v:Zc):List Zc->Int
 | []=>-1
 | x::r=>if v=x then 0 else if Dc v r = -1 then -1 else 1+Dc v r
def Cd (s:Zc):Int:=Dc s Ti
def Qj (m:Zf) (n:Int):Zc:=((m.funcs[n.toNat]?).getD Yb.zero).name
def Uu (m:Zf) (n:Int):Int:=(((m.funcs[n.toNat]?).getD Yb.zero).code.length:Nat)
def Fa (k f p:Int) (s:Zc):Int × Zg × Bool:=(k,⟨f,p,max 0 (Cd s),[]⟩,decide (0<=Cd s))
def Mq (m:Zf) (k f:Int) (s:Zc):Int × Zg × Bool:=
 if (Yu (Uu m f) s).2.1=false then (0,⟨f,(Yu (Uu m f) s).1,0,[]⟩,false) else
 if (Zn [32] (Yu (Uu m f) s).2.2).2=false then (0,⟨f,(Yu (Uu m f) s).1,0,[]⟩,false) else Fa k f (Yu (Uu m f) s).1 (Zn [32] (Yu (Uu m f) s).2.2).1
def Bs (m:Zf) (k:Int) (s:Zc):Int × Zg × Bool:=
 if (Yu m.funcs.length s).2.1=false then (0,⟨(Yu m.funcs.length s).1,0,0,[]⟩,false) else
 if (Zn ([32]++quo (Qj m (Yu m.funcs.length s).1)++[32,97,116,32]) (Yu m.funcs.length s).2.2).2=false then (0,⟨(Yu m.funcs.length s).1,0,0,[]⟩,false) else
 Mq m k (Yu m.funcs.length s).1 (Zn ([32]++quo (Qj m (Yu m.funcs.length s).1)++[32,97,116,32]) (Yu m.funcs.length s).2.2).1
def Mk (m:Zf) (s:Zc):Int × Zg × Bool:=
 if (Yu 170 s).2.1=false then (0,⟨0,0,0,[]⟩,false) else if (Zn [32] (Yu 170 s).2.2).2=false then (0,⟨0,0,0,[]⟩,false) else Bs m (Yu 170 s).1 (Zn [32] (Yu 170 s).2.2).1
def Vk (m:Zf) (s:Zc):Int × Zg × Bool:=if (Zn [35] s).2=false then (0,⟨0,0,0,[]⟩,false) else Mk m (Zn [35] s).1
def Kf (f:Yb) (s:Zc):Option Zz:=
 if (Zn [32,32] s).2=false then none else
 if (Yu f.slots.length (Zn [32,32] s).1).2.1=false then none else
 if (Zn ([32]++quo (Bv f (Yu f.slots.length (Zn [32,32] s).1).1)++[32,61,32]) (Yu f.slots.length (Zn [32,32] s).1).2.2).2=false then none else
 if (Jj (Zn ([32]++quo (Bv f (Yu f.slots.length (Zn [32,32] s).1).1)++[32,61,32]) (Yu f.slots.length (Zn [32,32] s).1).2.2).1).2=0 then
  some ⟨(Yu f.slots.length (Zn [32,32] s).1).1,(Jj (Zn ([32]++quo (Bv f (Yu f.slots.length (Zn [32,32] s).1).1)++[32,61,32]) (Yu f.slots.length (Zn [32,32] s).1).2.2).1).1⟩ else none
def Qi (f:Yb):List Zc->Option (List Zz)
 | []=>some []
 | s::r=>match Kf f s with
  | none=>none
  | some y=>match Qi f r with | none=>none | some ys=>some (y::ys)
abbrev fz:Zg:=⟨0,0,0,[]⟩
def Kp (m:Zf) (l:List Zc):Int × Zg × Int:=
 if 17<l.length\/Dj 1400060 l=true then (0,fz,4) else
 match l with
 | []=>(0,fz,12)
 | s::r=>if (Vk m s).2.2=false then (0,fz,12) else
  match m.funcs[(Vk m s).2.1.func.toNat]? with
  | none=>(0,fz,12)
  | some f=>match Qi f r with
   | none=>(0,fz,12)
   | some ys=>if Ut m (Vk m s).1 { (Vk m s).2.1 with locals:=ys }=(l,0) then ((Vk m s).1,{ (Vk m s).2.1 with locals:=ys },0) else (0,fz,12)
theorem Zce (n:Int) (s:Zc):(Yu n s).2.1=true->0<=(Yu n s).1/\(Yu n s).1<n:=by
 intro h
 simp only [Yu,Bool.and_eq_true,decide_eq_true_eq] at h ⊢
 omega
theorem Zra (v:Zc) :∀l:List Zc,-1<=Dc v l/\Dc v l<l.length
 | []=>⟨Int.le_refl _,by show (-1:Int)<0;decide⟩
 | x::r=>by
  have:=Zra v r
  rw [Dc,List.length_cons]
  repeat' split
  all_goals omega
theorem Wjc (s:Zc):-1<=Cd s/\Cd s<4:=Zra s Ti
theorem Yj3 (m:Zf) (s:Zc):0<=(Vk m s).2.1.mode:=by
 have h0 :∀a:Int,0<=max 0 a:=fun a=>by omega
 unfold Vk Mk Bs Mq Fa
 repeat' split
 all_goals first | exact h0 _ | exact Int.le_refl 0
theorem Xtk (m:Zf) (s:Zc):(Vk m s).2.1.locals=[]:=by
 unfold Vk Mk Bs Mq Fa
 repeat' split
 all_goals rfl
theorem Whg {m:Zf} {s:Zc} (h:(Vk m s).2.2=true):0<=(Vk m s).2.1.func/\(Vk m s).2.1.func<m.funcs.length/\0<=(Vk m s).1/\(Vk m s).1<170:=by
 unfold Vk at h ⊢
 split at h
 ·cases h
 rename_i h1
 rw [if_neg h1]
 clear h1
 generalize (Zn [35] s).1=t at h ⊢
 unfold Mk at h ⊢
 split at h
 ·cases h
 rename_i h1
 rw [if_neg h1]
 split at h
 ·cases h
 rename_i h2
 rw [if_neg h2]
 have k1:=Zce 170 t (by simpa using h1)
 clear h1 h2
 generalize (Yu 170 t).1=k at h k1 ⊢
 generalize (Zn [32] (Yu 170 t).2.2).1=u at h ⊢
 unfold Bs at h ⊢
 split at h
 ·cases h
 rename_i h1
 rw [if_neg h1]
 split at h
 ·cases h
 rename_i h2
 rw [if_neg h2]
 have k2:=Zce m.funcs.length u (by simpa using h1)
 clear h1 h2
 generalize (Zn ([32]++quo (Qj m (Yu m.funcs.length u).1)++[32,97,116,32]) (Yu m.funcs.length u).2.2).1=w at h ⊢
 generalize (Yu m.funcs.length u).1=f at h k2 ⊢
 unfold Mq at h ⊢
 split at h
 ·cases h
 rename_i h1
 rw [if_neg h1]
 split at h
 ·cases h
 rename_i h2
 rw [if_neg h2]
 exact ⟨k2.1,k2.2,k1.1,k1.2⟩
end Go.AM

/- Yf of the proof. -/
namespace Go.AM
open Go
structure HasF (PG:Za):Prop extends Has38 PG where
 f79:PG.fn 79=some Zgl
 f80:PG.fn 80=some Zdr
 f82:PG.fn 82=some Zbv
 f86:PG.fn 86=some Zec
 f88:PG.fn 88=some Zdf
 f111:PG.fn 111=some Zcq
 f112:PG.fn 112=some Zef
 f113:PG.fn 113=some Ex
 f115:PG.fn 115=some Zei
 f116:PG.fn 116=some Zbd
 f119:PG.fn 119=some Zdg
 f122:PG.fn 122=some Zg4
 f123:PG.fn 123=some Zgd
 f124:PG.fn 124=some Zfg
 f138:PG.fn 138=some Zpf
 f139:PG.fn 139=some Zbp
 f141:PG.fn 141=some Zch
 f144:PG.fn 144=some Zf3
def Vo {α:Type} (p:α->Bool):List α->Int
 | []=>-1
 | x::r=>if p x=true then 0 else if Vo p r = -1 then -1 else 1+Vo p r
theorem Ru {α:Type} (p:α->Bool) :∀l:List α,-1<=Vo p l/\(0<=Vo p l↔l.any p=true)
 | []=>by simp [Vo]
 | x::r=>by
  have:=Ru p r
  rw [Vo,List.any_cons]
  cases p x
  ·simp only [Bool.false_eq_true,if_false,Bool.false_or]
   split
   ·exact ⟨by omega,fun h=>absurd h (by decide),fun h=>absurd (this.2.2 h) (by omega)⟩
   ·exact ⟨by omega,fun _=>this.2.1 (by omega),fun h=>by have:=this.2.2 h;omega⟩
  ·simp
theorem Si {α:Type} {P:Int->Prop} {Q:Int->Prop} (p:α->Bool) (l:List α) (h1:Q (-1)->P (l.length:Int)) (h2 :∀(i:Nat) (hi:i<l.length),p l[i]=true->Q (i:Int)->P (i:Int)) (h3 :∀(i:Nat) (hi:i<l.length),p l[i]=false->P ((i+1:Nat):Int)->P (i:Int)) (hQ:Q (Vo p l)):P 0:=by
 have key :∀m i:Nat,i+m=l.length->Q (if Vo p (l.drop i) = -1 then -1 else i+Vo p (l.drop i))->P (i:Int):=by
  intro m
  induction m with
  | zero=>
   intro i hi hq
   have:l.drop i=[]:=List.drop_eq_nil_of_le (by omega)
   rw [this] at hq
   simp only [Nat.add_zero] at hi
   subst hi
   exact h1 (by simpa [Vo] using hq)
  | succ m ih=>
   intro i hi hq
   have hil:i<l.length:=by omega
   rw [List.drop_eq_getElem_cons hil,Vo] at hq
   have hb:=(Ru p (l.drop (i+1))).1
   cases hp:p l[i] with
   | true=>
    refine h2 i hil hp ?_
    rw [hp] at hq
    simpa using hq
   | false=>
    refine h3 i hil hp (ih (i+1) (by omega) ?_)
    rw [hp] at hq
    simp only [Bool.false_eq_true,if_false] at hq
    by_cases hn:Vo p (l.drop (i+1)) = -1
    ·rw [if_pos hn] at hq ⊢
     simpa using hq
    ·rw [if_neg hn] at hq ⊢
     rw [if_neg (by omega)] at hq
     rw [show ((i+1:Nat):Int)+Vo p (l.drop (i+1))=(i:Int)+(1+Vo p (l.drop (i+1))) by omega]
     exact hq
 refine key l.length 0 (by omega) ?_
 rw [List.drop_zero]
 split
 ·rename_i h;rw [h] at hQ;exact hQ
 ·simpa using hQ
theorem Yig (v:Zc) :∀l:List Zc,Dc v l=Vo (fun x=>decide (v=x)) l
 | []=>rfl
 | x::r=>by rw [Dc,Vo,Yig v r];simp
theorem Xt3 {n:Int} (h0:0<=n) (h1:n<=3):Ti[n.toNat]?=some (Rl n):=by
 have:n=0\/n=1\/n=2\/n=3:=by omega
 rcases this with rfl | rfl | rfl | rfl<;>rfl
theorem Zuy {n:Int} (h0:0<=n) (h1:n<=3):(Rl n).length<=5:=by
 have:n=0\/n=1\/n=2\/n=3:=by omega
 rcases this with rfl | rfl | rfl | rfl<;>decide
section
variable {PG:Za} (H:HasF PG)
include H
theorem Zfn {n:Int} (h1:-9223372036854775808<=n) (h2:n<9223372036854775808):Ze PG 111 [.i .i64 n] (.s (Xa n)):=by
 obtain ⟨x,rfl,h⟩:=Yrn H.f111 (n0:=n) (K:=fun x=>x=Xa n) (by
  unfold Zi3
  exact ⟨_,c15 H.toHas03 h1 h2,rfl⟩)
 exact h
theorem Zdk {s:Zc} (hs:s.length<=400):Ze PG 112 [.s s] (.s (quo s)):=by
 obtain ⟨x,rfl,h⟩:=Wgu H.f112 (s0:=s) (K:=fun x=>x=quo s) (by
  unfold Zpz
  refine ⟨_,_,c11 H.toHas03 s,?_⟩
  rw [Zoy hs])
 exact h
theorem Zyy:Ze PG 113 [] (.ag (Ti.map AV.s)):=by
 obtain ⟨x,rfl,h⟩:=Xo2 H.f113 (K:=fun x=>x=Ti) (by unfold Zqt;rfl)
 exact h
theorem Yo6 (s:Zc):Ym PG 116 [.s s] (fun r=>r=.b (decide (1400060<s.length))):=by
 refine (Yxe H.f116 (s0:=s) (K:=fun x=>x=decide (1400060<s.length)) ?_).to ?_
 ·unfold Zmk
  exact decide_eq_decide.2 (by omega)
 ·rintro r ⟨x,rfl,rfl⟩;rfl
theorem Xdj (s:Yz):Ym PG 123 [s.av] (fun r=>r=.b (decide (16<s.name.length))):=by
 refine (Xrz H.f123 (s0:=s) (K:=fun x=>x=decide (16<s.name.length)) ?_).to ?_
 ·unfold Zht
  exact decide_eq_decide.2 (by omega)
 ·rintro r ⟨x,rfl,rfl⟩;rfl
theorem Xl9 {l:List Zc} {f:Nat × List AV} {p:Zc->Bool} (hl:l.length<=9223372036854775807) (hf :∀x∈l,Ym PG f.1 ([.s x]++f.2) (fun r=>r=.b (p x))) (o:Zl):Ym PG 139 [.sl o (l.map Zv),.fn f.1 f.2] (fun r=>r=.i .i64 (Vo p l)):=by
 refine (Xzp H.f139 (s0:=l) (f1:=f) (K:=fun x=>x=Vo p l) ?_ o).to ?_
 ·unfold Zj5
  intro P hP
  refine Si (Q:=fun x=>x=Vo p l) p l (fun h=>hP _ ?_) (fun i hi hp hq=>hP _ ?_) (fun i hi hp ih=>hP _ ?_) rfl
  ·unfold Ov Zr3
   exact ⟨fun h'=>absurd h' (by omega),fun _=>h⟩
  ·unfold Ov
   refine ⟨fun _=>⟨by omega,_,Xm hi,_,hf _ (List.getElem_mem hi),fun _=>hq,fun h'=>?_⟩,fun h'=>absurd h' (by omega)⟩
   rw [hp] at h';cases h'
  ·unfold Ov
   refine ⟨fun _=>⟨by omega,_,Xm hi,_,hf _ (List.getElem_mem hi),fun h'=>?_,fun _=>?_⟩,fun h'=>absurd h' (by omega)⟩
   ·rw [hp] at h';cases h'
   ·rw [Xq (by omega) (by omega)];exact ih
 ·rintro r ⟨x,rfl,rfl⟩;rfl
theorem Whh {l:List Yz} {f:Nat × List AV} {p:Yz->Bool} (hl:l.length<=9223372036854775807) (hf :∀x∈l,Ym PG f.1 ([x.av]++f.2) (fun r=>r=.b (p x))) (o:Zl):Ym PG 144 [.sl o (l.map Yz.row),.fn f.1 f.2] (fun r=>r=.i .i64 (Vo p l)):=by
 refine (Xal H.f144 (s0:=l) (f1:=f) (K:=fun x=>x=Vo p l) ?_ o).to ?_
 ·unfold Zld
  intro P hP
  refine Si (Q:=fun x=>x=Vo p l) p l (fun h=>hP _ ?_) (fun i hi hp hq=>hP _ ?_) (fun i hi hp ih=>hP _ ?_) rfl
  ·unfold Ek Zif
   exact ⟨fun h'=>absurd h' (by omega),fun _=>h⟩
  ·unfold Ek
   refine ⟨fun _=>⟨by omega,_,Xm hi,_,hf _ (List.getElem_mem hi),fun _=>hq,fun h'=>?_⟩,fun h'=>absurd h' (by omega)⟩
   rw [hp] at h';cases h'
  ·unfold Ek
   refine ⟨fun _=>⟨by omega,_,Xm hi,_,hf _ (List.getElem_mem hi),fun h'=>?_,fun _=>?_⟩,fun h'=>absurd h' (by omega)⟩
   ·rw [hp] at h';cases h'
   ·rw [Xq (by omega) (by omega)];exact ih
 ·rintro r ⟨x,rfl,rfl⟩;rfl
theorem Xke {l:List Zc} {f:Nat × List AV} {p:Zc->Bool} (hl:l.length<=9223372036854775807) (hf :∀x∈l,Ym PG f.1 ([.s x]++f.2) (fun r=>r=.b (p x))) (o:Zl):Ym PG 115 [.sl o (l.map Zv),.fn f.1 f.2] (fun r=>r=.b (l.any p)):=by
 refine (Yud H.f115 (s0:=l) (f1:=f) (K:=fun x=>x=l.any p) ?_ o).to ?_
 ·unfold Zrp
  refine ⟨_,fun o=>Xl9 H hl hf o,?_⟩
  have:=(Ru p l).2
  cases h:l.any p
  ·exact decide_eq_false (by rw [h] at this;intro h';exact absurd (this.1 h') (by decide))
  ·exact decide_eq_true (this.2 h)
 ·rintro r ⟨x,rfl,rfl⟩;rfl
theorem Yr3 {l:List Yz} {f:Nat × List AV} {p:Yz->Bool} (hl:l.length<=9223372036854775807) (hf :∀x∈l,Ym PG f.1 ([x.av]++f.2) (fun r=>r=.b (p x))) (o:Zl):Ym PG 122 [.sl o (l.map Yz.row),.fn f.1 f.2] (fun r=>r=.b (l.any p)):=by
 refine (Ytb H.f122 (s0:=l) (f1:=f) (K:=fun x=>x=l.any p) ?_ o).to ?_
 ·unfold Zlo
  refine ⟨_,fun o=>Whh H hl hf o,?_⟩
  have:=(Ru p l).2
  cases h:l.any p
  ·exact decide_eq_false (by rw [h] at this;intro h';exact absurd (this.1 h') (by decide))
  ·exact decide_eq_true (this.2 h)
 ·rintro r ⟨x,rfl,rfl⟩;rfl
theorem Zsw {l:List Zc} (hl:l.length<=1000000) (v:Zc):Ze PG 141 [.sl .ext (l.map Zv),.s v] (.i .i64 (Dc v l)):=by
 obtain ⟨x,rfl,h⟩:=Wjd H.f141 (s0:=l) (v1:=v) (K:=fun x=>x=Dc v l) (by
  unfold Zim
  intro P hP
  refine Si (Q:=fun x=>x=Dc v l) (fun x=>decide (v=x)) l (fun h=>hP _ ?_) (fun i hi hp hq=>hP _ ?_) (fun i hi hp ih=>hP _ ?_) (Yig v l).symm
  ·unfold Ej Zko
   exact ⟨fun h'=>absurd h' (by omega),fun _=>h⟩
  ·unfold Ej
   exact ⟨fun _=>⟨by omega,_,Xm hi,fun _=>hq,fun h'=>absurd (by simpa using hp) h'⟩,fun h'=>absurd h' (by omega)⟩
  ·unfold Ej
   refine ⟨fun _=>⟨by omega,_,Xm hi,fun h'=>absurd h' (by simpa using hp),fun _=>?_⟩,fun h'=>absurd h' (by omega)⟩
   rw [Xq (by omega) (by omega)];exact ih)
 exact h
theorem Xxu {a b:List Zc} (ha:a.length<=9223372036854775807):Ze PG 119 [.sl .ext (a.map Zv),.sl .ext (b.map Zv)] (.b (decide (a=b))):=by
 obtain ⟨x,rfl,h⟩:=Wce H.f119 (s10:=a) (s21:=b) (K:=fun x=>x=decide (a=b)) (by
  unfold Zhn
  refine ⟨fun h=>(decide_eq_false fun e=>h (by rw [e])).symm,fun h P hP=>?_⟩
  have h5:a.length=b.length:=by omega
  refine Db (P:=P) a.length (fun i=>a.take i=b.take i) (by simp) (fun hI=>hP _ ?_) (fun i hi hI ihP=>hP _ ?_)
  ·unfold Zg0 Zqn
   refine ⟨fun h=>absurd h (by omega),fun _=>?_⟩
   rw [List.take_length,h5,List.take_length] at hI
   exact (decide_eq_true hI).symm
  ·have hi2:i<b.length:=by omega
   unfold Zg0
   refine ⟨fun _=>⟨by omega,_,Xm hi,by omega,_,Xm hi2,fun h6=>?_,fun h6=>?_⟩,fun h=>absurd h (by omega)⟩
   ·refine (decide_eq_false fun e=>h6 ?_).symm
    subst e;rfl
   ·rw [Xq (by omega) (by omega)]
    refine ihP ?_
    rw [List.take_succ_eq_append_getElem hi,List.take_succ_eq_append_getElem hi2,hI,Decidable.not_not.1 h6])
 exact h
end
end Go.AM

/- Yf of the proof. -/
namespace Go.AM
open Go
theorem Zfw {m:Zf} {x:Zg} (h:Jy m x≠true):(8:Int)=Dv m x:=by unfold Dv;rw [if_neg h]
theorem Zjq {m:Zf} {x:Zg} (h:Jy m x=true):(0:Int)=Dv m x:=by unfold Dv;rw [if_pos h]
theorem Zfz {m:Zf} {n:Int} (h0:0<=n) (h1:n<m.funcs.length) :∃f,m.funcs[n.toNat]?=some f/\f∈m.funcs:=by
 have h:n.toNat<m.funcs.length:=by omega
 exact ⟨m.funcs[n.toNat],List.getElem?_eq_getElem h,List.getElem_mem h⟩
theorem Xfo {n:Int} {l:List Zz} {i:Nat} (hi:i<l.length):Ku n (-1) (l.take (i+1))=(Ku n (-1) (l.take i)&&decide (Tb (-1) (l.take i)<l[i].slot)&&decide (l[i].slot<n)&&Vh l[i].value):=by
 rw [List.take_succ_eq_append_getElem hi,Zuf]
section
variable {PG:Za} (H:HasF PG)
include H
theorem c86 {m:Zf} {x:Zg} (hm:Wr m) (hx:Uq x):Ze PG 86 [m.av,x.av] (.i .i64 (Dv m x)):=by
 obtain ⟨y,rfl,h⟩:=p86 H.f86 (m0:=m) (x1:=x) (K:=fun y=>y=Dv m x) (by
  unfold Zjp Zrj
  have no:¬(0<=x.func/\x.mode<=3/\∃f,m.funcs[x.func.toNat]?=some f/\Pk f x=true)->(8:Int)=Dv m x:=fun h=>Zfw fun h'=>h (Rv.1 h')
  refine ⟨fun h=>no (by omega),fun h0=>⟨fun h=>no ?_,fun h1=>⟨fun h=>no (by omega),fun h2=>?_⟩⟩⟩
  ·rintro ⟨_,_,f,hf,_⟩
   rw [List.getElem?_eq_none (by omega)] at hf
   cases hf
  obtain ⟨f,hf,hmem⟩:=Zfz (m:=m) (n:=x.func) (by omega) (by omega)
  obtain ⟨q1,q2,q3,q4⟩:=hm.f f hmem
  have no:Pk f x≠true->(8:Int)=Dv m x:=fun h=>no (by
   rintro ⟨_,_,g,hg,h'⟩
   rw [hf] at hg
   cases hg
   exact h h')
  have no:¬(f.slots.length<=16/\f.name.length<=16/\0<=x.pos/\x.pos<f.code.length/\(∀s∈f.slots,s.name.length<=16)/\Ku f.slots.length (-1) x.locals=true)->(8:Int)=Dv m x:=fun h=>no fun h'=>h (Aa.1 h')
  unfold Zi4 Zl7
  refine ⟨by omega,f,hf,fun h=>no (by omega),fun k1=>⟨fun h=>no (by omega),fun k2=>⟨fun h=>no (by omega),fun k3=>⟨fun h=>no (by omega),fun k4=>⟨_,fun o=>Yr3 H (l:=f.slots) (f:=(123,[])) (p:=fun s=>decide (16<s.name.length)) (by omega) (fun s _=>Xdj H s) o,fun h=>no ?_,fun h=>?_⟩⟩⟩⟩⟩
  ·rintro ⟨_,_,_,_,h',_⟩
   rw [List.any_eq_true] at h
   obtain ⟨s,hs,h3⟩:=h
   have:=h' s hs
   simp only [decide_eq_true_eq] at h3
   omega
  have hs :∀s∈f.slots,s.name.length<=16:=by
   intro s hs
   rw [List.any_eq_false] at h
   simpa using h s hs
  have no:Ku f.slots.length (-1) x.locals≠true->(8:Int)=Dv m x:=fun h=>no (by rintro ⟨_,_,_,_,_,h'⟩;exact h h')
  unfold Zot
  intro P hP
  have hn:=hx.n
  have go :∀k i:Nat,i+k=x.locals.length->Ku f.slots.length (-1) (x.locals.take i)=true->P (Tb (-1) (x.locals.take i)) (i:Int) f:=by
   intro k
   induction k with
   | zero=>
    intro i hi ha
    apply hP
    unfold Zcs Zj1
    refine ⟨fun h=>absurd h (by omega),fun _=>Zjq ?_⟩
    rw [List.take_of_length_le (by omega)] at ha
    exact Rv.2 ⟨by omega,by omega,f,hf,Aa.2 ⟨by omega,by omega,by omega,by omega,hs,ha⟩⟩
   | succ k ih=>
    intro i hi ha
    have hil:i<x.locals.length:=by omega
    have e:=Xfo (n:=f.slots.length) hil
    have no:Ku f.slots.length (-1) (x.locals.take (i+1))=false->(8:Int)=Dv m x:=fun h=>no (by rw [Yus h];decide)
    rw [ha,Bool.true_and] at e
    apply hP
    unfold Zcs
    refine ⟨fun _=>⟨by omega,_,Xm hil,fun h=>no ?_,fun h3=>⟨fun h=>no ?_,fun h4=>⟨_,c76 H.toHas38 (hx.v _ (List.getElem_mem hil)),fun h=>no ?_,fun h5=>?_⟩⟩⟩,fun h=>absurd (show (i:Int)<x.locals.length by omega) h⟩
    ·rw [e,decide_eq_false (by omega)];rfl
    ·rw [e,decide_eq_false (p:=x.locals[i].slot<_) (by omega)];simp
    ·rw [e,show Vh x.locals[i].value=false by rw [<- Bool.not_eq_true];exact fun h'=>h (Nh.2 h')];simp
    ·rw [Xq (by omega) (by omega)]
     have h6:=Nh.1 (Decidable.not_not.1 h5)
     have:=ih (i+1) (by omega) (by rw [e,h6,decide_eq_true (by omega),decide_eq_true (by omega)];rfl)
     rw [List.take_succ_eq_append_getElem hil,Ycp] at this
     exact this
  exact go x.locals.length 0 (by omega) rfl)
 exact h
end
end Go.AM
