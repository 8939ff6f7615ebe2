/- Parts of the proof: U40b, U40c, U40d, U40e, U40f, U40g, U40h, U40i, U40j, U40k, U40m, H44, Hf, Hg, Hh, S4. -/
import Derived.Test.YtheacfnopahmjaaGreatDoorG2
import Derived.Test.YtheacfnopahmjaaGreatDoorG1
import Derived.Maps.RangeRun
set_option linter.all false
namespace Go.AM
open Go
set_option maxRecDepth 4000
set_option maxHeartbeats 2000000
attribute [local irreducible] Decidable.decide W WO Xq We
abbrev Zzf:AC:=(sR 0 [oY 2 4 0,oC 3 (.b false)] (sR 1 [oK 4 3 1,oK 5 4 2,oQ 6 86 [4,5],oV 7 .neq 6 0,oM 3 7] .ret))
def Zdg:AF:={ nt:=8,res:=[.tmp 3],body:=Zzf }
section
variable(PG:Zb)(K:Bool->Prop)
def Zje (y0:Zg)(t1:Zh):Prop:=
  ∃c,Ze PG 86 [t1.av,y0.av] (.i .i64 c)/\K (decide (c≠0))
end
section
variable {PG:Zb}{d:Nat}{Q:AE->Sl->St->Prop}{K:Bool->Prop}{Zk:St}(hQ:HF d Zk AV.b 3 Q K){σ:Sl}{st:St}
include hQ
variable {y0:Zg}{t1:Zh}
variable (H0:σ 0=y0.av)(H1:σ 1=.fp [.sl .ext (List.map Wx.row t1.types),.sl .ext (List.map Zt t1.texts),.sl .ext (List.map Ye.row t1.funcs)])(FR:Fr d (d,0) Zk.bx Zk.ow st.bx st.ow)
include H0 H1 FR in
theorem Yum (h:Zje PG K y0 t1):W PG d Zzf σ st Q:=
 au trivial
end
theorem Xfv {PG:Zb}(hf:PG.fn 228=some Zdg){y0:Zg}{t1:Zh}{K:Bool->Prop}(h:Zje PG K y0 t1):Ym PG 228 [y0.av,.fp [.sl .ext (List.map Wx.row t1.types),.sl .ext (List.map Zt t1.texts),.sl .ext (List.map Ye.row t1.funcs)]] (fun r=>∃aa:Bool,(r=.b aa)/\K aa):=
 PF hf J J fun d st Q q=>Yum q J J Fr.refl h
abbrev Ybc:AC:=(sR 0 [oY 3 8 0,oC 4 (.b false)] (sR 1 [oK 5 3 1,oL 6 2,oK 7 8 3,oQ 8 231 [5,6,7],oZ 9 8,oM 4 9] .ret))
def Zc7:AF:={ nt:=10,res:=[.tmp 4],body:=Ybc }
section
variable(PG:Zb)(K:Bool->Prop)
def Zq1 (y0:Zi)(t1:Zh)(t2:Int):Prop:=
  ∃c,Ze PG 231 [t1.av,.i .i64 t2,y0.av] (.b c)/\K (!c)
end
section
variable {PG:Zb}{d:Nat}{Q:AE->Sl->St->Prop}{K:Bool->Prop}{Zk:St}(hQ:HF d Zk AV.b 4 Q K){σ:Sl}{st:St}
include hQ
variable {y0:Zi}{t1:Zh}{t2:Int}
variable (H0:σ 0=y0.av)(H1:σ 1=.fp [.sl .ext (List.map Wx.row t1.types),.sl .ext (List.map Zt t1.texts),.sl .ext (List.map Ye.row t1.funcs)])(H2:σ 2=.fp [.i .i64 t2])(FR:Fr d (d,0) Zk.bx Zk.ow st.bx st.ow)
include H0 H1 H2 FR in
theorem Ys2 (h:Zq1 PG K y0 t1 t2):W PG d Ybc σ st Q:=
 au trivial
end
theorem Xay {PG:Zb}(hf:PG.fn 230=some Zc7){y0:Zi}{t1:Zh}{t2:Int}{K:Bool->Prop}(h:Zq1 PG K y0 t1 t2):Ym PG 230 [y0.av,.fp [.sl .ext (List.map Wx.row t1.types),.sl .ext (List.map Zt t1.texts),.sl .ext (List.map Ye.row t1.funcs)],.fp [.i .i64 t2]] (fun r=>∃aa:Bool,(r=.b aa)/\K aa):=
 PF hf J J fun d st Q q=>Ys2 q J J J Fr.refl h
abbrev Zrt:AC:=(sR 0 [oY 1 7 0,oC 2 (.b false)] (sR 1 [oK 3 7 1,oQ 4 158 [3],oV 5 .neq 4 0,oM 2 5] .ret))
def Zax:AF:={ nt:=6,res:=[.tmp 2],body:=Zrt }
section
variable(PG:Zb)(K:Bool->Prop)
def Zgu (y0:Zf):Prop:=
  ∃c,Ze PG 158 [y0.av] (.i .i64 c)/\K (decide (c≠0))
end
section
variable {PG:Zb}{d:Nat}{Q:AE->Sl->St->Prop}{K:Bool->Prop}{Zk:St}(hQ:HF d Zk AV.b 2 Q K){σ:Sl}{st:St}
include hQ
variable {y0:Zf}
variable (H0:σ 0=y0.av)(FR:Fr d (d,0) Zk.bx Zk.ow st.bx st.ow)
include H0 FR in
theorem Yhm (h:Zgu PG K y0):W PG d Zrt σ st Q:=
 au trivial
end
theorem Xh0 {PG:Zb}(hf:PG.fn 233=some Zax){y0:Zf}{K:Bool->Prop}(h:Zgu PG K y0):Ym PG 233 [y0.av] (fun r=>∃aa:Bool,(r=.b aa)/\K aa):=
 PF hf J J fun d st Q q=>Yhm q J Fr.refl h
def Zyo:List AI:=[oC 6 (.b false)]
abbrev Yex:AC:=(.cond (.t 73) (sR 10 [oF 77 3 5,oK 78 5 77,oQ 79 76 [78],oV 80 .eql 79 0,oM 6 80] .ret) .skip)
abbrev Ybq:AC:=(.seq (sR 6 [oF 70 3 5,oF 71 0 70,oL 72 71] (.block 0 (.seq (sR 7 [oW 74 .eql 72 1,oM 73 74] (.cond (.t 73) .skip (sR 8 [oW 75 .eql 72 2,oM 73 75] (.cond (.t 73) .skip (.reg 9 [oW 76 .eql 72 4,oM 73 76]))))) Yex))) (sR 11 Zyo .ret))
abbrev Zsq:AC:=(.seq (sR 3 [oF 41 2 5,oL 42 41,oZ 43 42] (.cond (.t 43) (sR 4 [oF 44 3 5,oK 45 5 44,oO 7 (.alloc [z8,z6,zs,zl,zb]),oS 5 7 45] (sR 5 [oF 46 0 7,oL 47 46,oW 48 .eql 47 0,oM 49 48,gT 49 (oF 50 1 7),gT 49 (oL 51 50),gT 49 (oV 52 .eql 51 0),oA 53 49 52,oM 54 53,gT 54 (oF 55 2 7),gT 54 (oL 56 55),gT 54 (oB 57 .eql (.t 56) (.c (.s []))),oA 58 54 57,oM 59 58,gT 59 (oF 60 3 7),gT 59 (oL 61 60),gT 59 (oJ 62 61),gT 59 (oV 63 .eql 62 0),oA 64 59 63,oM 65 64,gT 65 (oF 66 4 7),gT 65 (oL 67 66),gT 65 (oZ 68 67),oA 69 65 68,oM 6 69] .ret)) .skip)) Ybq)
abbrev Zuu:AC:=(.seq (sR 1 [oF 8 0 5,oL 9 8,oV 10 .lss 9 0,oM 11 10,gF 11 (oF 12 0 5),gF 11 (oL 13 12),gF 11 (oM 14 1),gF 11 (oT 15 .geq 13 14),oR 16 11 15,oM 17 16,gF 17 (oF 18 1 5),gF 17 (oL 19 18),gF 17 (oV 20 .lss 19 0),oR 21 17 20,oM 22 21,gF 22 (oF 23 1 5),gF 22 (oL 24 23),gF 22 (oF 25 2 3),gF 22 (oL 26 25),gF 22 (oJ 27 26),gF 22 (oT 28 .geq 24 27),oR 29 22 28,oM 30 29,gF 30 (oF 31 2 3),gF 30 (oL 32 31),gF 30 (oF 33 1 5),gF 30 (oL 34 33),gF 30 (oX 35 7 32 34),gF 30 (oF 36 0 35),gF 30 (oL 37 36),gF 30 (oH 38 37),gF 30 (oV 39 .gtr 38 16),oR 40 30 39] (.cond (.t 40) (sR 2 [oC 6 (.b false)] .ret) .skip)) Zsq)
abbrev Zv3:AC:=(sR 0 [oY 3 3 0,oY 5 8 2,oC 6 (.b false)] Zuu)
def Zdb:AF:={ nt:=81,res:=[.tmp 6],body:=Zv3 }
section
variable(PG:Zb)(K:Bool->Prop)
def Fp (t73:Bool)(m1:Zi):Prop:=
  (t73=true->∃c,Ze PG 76 [m1.arg.av] (.i .i64 c)/\K (decide (c=0)))/\(t73=false->K false)
def Zlh (m1:Zi):Prop:=
  (m1.arg.kind=1->Fp PG K (decide (m1.arg.kind=1)) m1)/\(¬(m1.arg.kind=1)->(m1.arg.kind=2->Fp PG K (decide (m1.arg.kind=2)) m1)/\(¬(m1.arg.kind=2)->Fp PG K (decide (m1.arg.kind=4)) m1))
def Zmt (m1:Zi):Prop:=
  ((!m1.hasArg)=true->(m1.arg.kind=0->(m1.arg.int=0->(m1.arg.text=([]:BS)->((m1.arg.list.length:Int)=0->K (!m1.arg.cut))/\(¬((m1.arg.list.length:Int)=0)->K false))/\(¬(m1.arg.text=([]:BS))->K false))/\(¬(m1.arg.int=0)->K false))/\(¬(m1.arg.kind=0)->K false))/\((!m1.hasArg)=false->Zlh PG K m1)
def Znm (ct:Int)(m0:Zh)(m1:Zi):Prop:=
  (m1.frame<0->K false)/\(¬(m1.frame<0)->(m1.frame>=ct->K false)/\(¬(m1.frame>=ct)->(m1.func<0->K false)/\(¬(m1.func<0)->(m1.func>=(m0.funcs.length:Int)->K false)/\(¬(m1.func>=(m0.funcs.length:Int))->0<=m1.func/\∃c:Ye,m0.funcs[(m1.func).toNat]?=some c/\((c.name.length:Int)>16->K false)/\(¬((c.name.length:Int)>16)->Zmt PG K m1)))))
def Zi2 (m0:Zh)(ct:Int)(d2:Zi):Prop:=
  Znm PG K ct m0 d2
end
section
variable {PG:Zb}{d:Nat}{Q:AE->Sl->St->Prop}{K:Bool->Prop}(hQ:H1 AV.b 6 Q K){σ:Sl}{st:St}
include hQ
variable {t73:Bool}{m1:Zi}{v1:Nat}{ct:Int}{m0:Zh}{v0:Nat}{d2:Zi}
variable (H0:σ 0=m0.av)(H1:σ 1=.i .i64 ct)(H3:σ 3=.p (d,0) v0 0)(H2:σ 2=d2.av)(H5:σ 5=.p (d,1) v1 0)(H73:σ 73=.b t73)(B0:lk st.bx (d,0)=some (v0,Zh.cs m0))(B1:lk st.bx (d,1)=some (v1,[.i .i64 m1.frame,.i .i64 m1.func,.b m1.hasArg,.i .u8 m1.arg.kind,.i .i64 m1.arg.int,.s m1.arg.text,.sl .ext (List.map Za.row m1.arg.list),.b m1.arg.cut]))
include H5 H73 B1 in
theorem Ys6 (h:Fp PG K t73 m1):W PG d Yex σ st (Yd 0 (Zv PG d (sR 11 Zyo .ret) Q)):=
 au trivial
include H5 B1 in
theorem Ylc (h:Zlh PG K m1):W PG d Ybq σ st Q:=
 au @Ys6
include H5 B1 in
theorem Yyv (h:Zmt PG K m1):W PG d Zsq σ st Q:=
 au @Ylc
include H1 H3 H5 B0 B1 in
theorem Yrj (h:Znm PG K ct m0 m1):W PG d Zuu σ st Q:=
 au @Yyv
include H0 H1 H2 in
theorem Xi8 (h:Zi2 PG K m0 ct d2):W PG d Zv3 σ st Q:=
 au @Yrj
end
theorem Ymu {PG:Zb}(hf:PG.fn 231=some Zdb){m0:Zh}{ct:Int}{d2:Zi}{K:Bool->Prop}(h:Zi2 PG K m0 ct d2) :∃aa:Bool,K aa/\Ze PG 231 [m0.av,.i .i64 ct,d2.av] (.b aa):=
 P1 hf J (Xi8 (h1 J fun _=>J) J J J h)
abbrev Zsg:AC:=(sR 7 [oF 36 1 3,oL 37 36,oV 38 .neq 37 0] (.cond (.t 38) (sR 8 [oC 4 (.b false)] .ret) .skip))
abbrev Ztj:AC:=(sR 11 [oF 53 2 3,oL 54 53,oO 55 (.mkfn 228 [(.t 2)]),oO 56 (.call true 227 [(.t 54),(.t 55)]),oZ 57 56,oM 58 57,gT 58 (oF 59 3 3),gT 58 (oL 60 59),gT 58 (oO 61 (.mkfz 230 [(.t 2)] (.t 5) [])),gT 58 (oO 62 (.call true 229 [(.t 60),(.t 61)])),gT 58 (oZ 63 62),oA 64 58 63,oM 65 64,gT 65 (oF 66 4 3),gT 65 (oL 67 66),gT 65 (oO 68 (.call true 232 [(.t 67),(.c (.fn 233 []))])),gT 65 (oZ 69 68),oA 70 65 69,oM 4 70] .ret)
abbrev Zmg:AC:=(.seq (.seq (sR 9 [oL 39 5,oV 40 .lss 39 1,oM 41 40,gF 41 (oL 42 5),gF 41 (oV 43 .gtr 42 170),oR 44 41 43,oM 45 44,gF 45 (oM 46 6),gF 45 (oV 47 .gtr 46 410),oR 48 45 47,oM 49 48,gF 49 (oM 50 7),gF 49 (oV 51 .gtr 50 410),oR 52 49 51] (.cond (.t 52) (sR 10 [oC 4 (.b false)] .ret) .skip)) Ztj) (.exit 0))
abbrev Au:AC:=(sR 12 [oC 4 (.b false)] .ret)
abbrev Ybs:AC:=(sR 1 [oF 8 2 3,oO 9 (.ldf 1 false (.t 8)),oJ 10 9,oF 11 3 3,oO 12 (.ldf 1 false (.t 11)),oJ 13 12,oF 14 4 3,oO 15 (.ldf 1 false (.t 14)),oJ 16 15,oO 5 (.alloc [z6]),oS 1 5 10,oM 6 13,oM 7 16] (.seq (sR 2 [oF 17 0 3,oL 18 17] (.block 0 (.seq (.block 3 (.seq (.block 2 (.seq (.block 1 (.seq (.seq (sR 3 [oW 20 .eql 18 3,oM 19 20] (.cond (.t 19) (.exit 1) .skip)) (.seq (sR 4 [oW 22 .eql 18 1,oM 21 22] (.cond (.t 21) (.exit 2) .skip)) (sR 5 [oW 24 .eql 18 2,oM 23 24] (.cond (.t 23) (.exit 3) .skip)))) (.exit 0))) (.seq (sR 6 [oL 25 5,oM 26 6,oT 27 .add 25 26,oM 28 7,oT 29 .add 27 28,oV 30 .eql 29 0,oM 31 30,gT 31 (oF 32 1 3),gT 31 (oL 33 32),gT 31 (oV 34 .eql 33 0),oA 35 31 34,oM 4 35] .ret) (.exit 0)))) Zsg)) Zmg))) Au))
abbrev Zuq:AC:=(sR 0 [oO 2 (.boxf 3 (.t 0)),oO 3 (.boxf 5 (.t 1)),oC 4 (.b false)] Ybs)
def Zdw:AF:={ nt:=71,res:=[.tmp 4],fz:=[2,3,1000005],body:=Zuq }
section
variable(PG:Zb)(K:Bool->Prop)
def Zk6 (ey:List Wx)(fa:LB)(fc:List Ye)(ee:Int)(eq:Int)(ef:List Zg)(eg:List Zi)(eh:List Zf)(dr:Int):Prop:=
  ∃c,(∀k:Zm,Ym PG 227 [.sl k (List.map Zg.row ef),.fn 228 [.fp [.sl .ext (List.map Wx.row ey),.sl .ext (List.map Zt fa),.sl .ext (List.map Ye.row fc)]]] (fun r=>r=.b c))/\((!c)=true->∃e,(∀p:Zm,Ym PG 229 [.sl p (List.map Zi.row eg),.fn 230 [.fp [.sl .ext (List.map Wx.row ey),.sl .ext (List.map Zt fa),.sl .ext (List.map Ye.row fc)],.fp [.i .i64 dr]]] (fun r=>r=.b e))/\((!e)=true->∃j,(∀o:Zm,Ym PG 232 [.sl o (List.map Zf.row eh),.fn 233 []] (fun r=>r=.b j))/\K (!j))/\((!e)=false->K false))/\((!c)=false->K false)
def Ai (ey:List Wx)(fa:LB)(fc:List Ye)(ee:Int)(eq:Int)(ef:List Zg)(eg:List Zi)(eh:List Zf)(d6:Int)(p7:Int)(dr:Int):Prop:=
  (dr<1->K false)/\(¬(dr<1)->(dr>170->K false)/\(¬(dr>170)->(d6>410->K false)/\(¬(d6>410)->(p7>410->K false)/\(¬(p7>410)->Zk6 PG K ey fa fc ee eq ef eg eh dr))))
def Zoa (ey:List Wx)(fa:LB)(fc:List Ye)(ee:Int)(eq:Int)(ef:List Zg)(eg:List Zi)(eh:List Zf)(d6:Int)(p7:Int)(dr:Int):Prop:=
  (eq≠0->K false)/\(¬(eq≠0)->Ai PG K ey fa fc ee eq ef eg eh d6 p7 dr)
def Zja (PG:Zb)(K:Bool->Prop) :Prop:=
  K false
def Zh3 (ey:List Wx)(fa:LB)(fc:List Ye)(ee:Int)(eq:Int)(ef:List Zg)(eg:List Zi)(eh:List Zf):Prop:=
  (ee=3->((IntKind.i64.wrap ((IntKind.i64.wrap ((ef.length:Int)+(eg.length:Int)))+(eh.length:Int)))=0->K (decide (eq=0)))/\(¬((IntKind.i64.wrap ((IntKind.i64.wrap ((ef.length:Int)+(eg.length:Int)))+(eh.length:Int)))=0)->K false))/\(¬(ee=3)->(ee=1->Zoa PG K ey fa fc ee eq ef eg eh (eg.length:Int) (eh.length:Int) (ef.length:Int))/\(¬(ee=1)->(ee=2->Ai PG K ey fa fc ee eq ef eg eh (eg.length:Int) (eh.length:Int) (ef.length:Int))/\(¬(ee=2)->Zja PG K )))
def Zp6 (m0:Zh)(x1:Zl):Prop:=
  Zh3 PG K m0.types m0.texts m0.funcs x1.status x1.key x1.frames x1.defers x1.panics
end
section
variable {PG:Zb}{d:Nat}{Q:AE->Sl->St->Prop}{K:Bool->Prop}(hQ:H1 AV.b 4 Q K){σ:Sl}{st:St}
include hQ
variable {ey:List Wx}{fa:LB}{fc:List Ye}{ee eq:Int}{ef:List Zg}{eg:List Zi}{eh:List Zf}{dr:Int}{jh:Nat}{d6 p7:Int}{m0:Zh}{x1:Zl}
variable (H2:σ 2=.fp [.sl .ext (List.map Wx.row ey),.sl .ext (List.map Zt fa),.sl .ext (List.map Ye.row fc)])(H0:σ 0=m0.av)(H3:σ 3=.fp [.i .u8 ee,.i .i64 eq,.sl .ext (List.map Zg.row ef),.sl .ext (List.map Zi.row eg),.sl .ext (List.map Zf.row eh)])(H1:σ 1=x1.av)(H5:σ 5=.p (d,4105) jh 0)(H6:σ 6=.i .i64 d6)(H7:σ 7=.i .i64 p7)(ge:lk st.bx (d,4105)=some (jh,[.i .i64 dr]))
include H2 H3 H5 ge in
theorem Ypl (h:Zk6 PG K ey fa fc ee eq ef eg eh dr):W PG d Ztj σ st (Zv PG d (.exit 0) (Yd 0 (Zv PG d Au Q))):=
 q_ J (Mg H3 (Vd J J J (Zq9 (Zz H2 Yq) (h.elim fun _ e=>Gs (Zz J (Zz J Yq)) (e.1 _) (fun _ o=>Wo J (Xl J (Uh (g:=58) J (fun j=>Zd J (Mg H3 (Zd J (Vd J J J (Zd J (Yff (Rp.symm.trans (Zz H2 Yq)) H5 (Rp.symm.trans Yq) ((o.1 (d,4105) (kC d) Ux).trans ge) J (Zd J ((e.2.1 j).elim fun _ c=>Gs (Zz J (Zz J Yq)) (c.1 _) (fun _ _=>Zd J (Wo J (z_ 2 J (Uh (g:=65) J (fun i=>Zd J (Mg H3 (Zd J (Vd J J J (Zd J ((c.2.1 i).elim fun _ k=>Gs (Zz J (Zz J Yq)) (k.1 _) (fun _ _=>Zd J (Wo J (z_ 2 J (Zr (hQ J k.2))))))))))) (fun i=>z_ 6 J (Zr (hQ J (c.2.2 i)))))))))))))))) (fun j=>z_ 13 J (Zr (hQ J (e.2.2 j)))))))))))
include H2 H3 H5 H6 H7 ge in
theorem Zwv (h:Ai PG K ey fa fc ee eq ef eg eh d6 p7 dr):W PG d Zmg σ st (Yd 0 (Zv PG d Au Q)):=
 Zp (Zp (q_ J (l_ H5 ge J J (b_ J J Vc (Xl J (Xa (g:=41) J (fun c=>z_ 11 J (e_ (Xj J (q_ J (m_ (Zr (hQ J (h.1 c)))))))) (fun c=>Zd J (l_ H5 ge J J (Zd J (b_ J J Qb (z_ 2 J (Xa (g:=45) J (fun e=>z_ 7 J (e_ (Xj J (q_ J (m_ (Zr (hQ J ((h.2 c).1 e)))))))) (fun e=>Zd J (Xf H6 (Zd J (b_ J J Qb (z_ 2 J (Xa (g:=49) J (fun i=>z_ 3 J (e_ (Xj J (q_ J (m_ (Zr (hQ J (((h.2 c).2 e).1 i)))))))) (fun i=>Zd J (Xf H7 (Zd J (b_ J J Qb (Jp J J (e_ (Yk J (fun j=>q_ J (m_ (Zr (hQ J ((((h.2 c).2 e).2 i).1 j))))) (fun j=>Yg (Ypl hQ H2 H3 H5 ge ((((h.2 c).2 e).2 i).2 j))))))))))))))))))))))))))))
include H2 H3 H5 H6 H7 ge in
theorem Yvx (h:Zoa PG K ey fa fc ee eq ef eg eh d6 p7 dr):W PG d Zsg σ st (Yd 3 (Zv PG d Zmg (Yd 0 (Zv PG d Au Q)))):=
 au @Zwv
theorem Xgq (h:Zja PG K ):W PG d Au σ st Q:=
 au trivial
include H2 H3 in
theorem Xef (h:Zh3 PG K ey fa fc ee eq ef eg eh):W PG d Ybs σ st Q:=
 au (And.intro @Yvx (And.intro @Zwv @Xgq))
include H0 H1 in
theorem Xiv (h:Zp6 PG K m0 x1):W PG d Zuq σ st Q:=
 au @Xef
end
theorem Yoc {PG:Zb}(hf:PG.fn 219=some Zdw){m0:Zh}{x1:Zl}{K:Bool->Prop}(h:Zp6 PG K m0 x1) :∃aa:Bool,K aa/\Ze PG 219 [m0.av,x1.av] (.b aa):=
 P1 hf J (Xiv (h1 J fun _=>J) J J h)
abbrev Zv8:AC:=(sR 0 [oY 2 5 0,oC 3 (.b false)] (sR 1 [oK 4 3 1,oK 5 5 2,oQ 6 219 [4,5],oZ 7 6,oM 3 7] .ret))
def Zfq:AF:={ nt:=8,res:=[.tmp 3],body:=Zv8 }
section
variable(PG:Zb)(K:Bool->Prop)
def Zk7 (x0:Zl)(t1:Zh):Prop:=
  ∃c,Ze PG 219 [t1.av,x0.av] (.b c)/\K (!c)
end
section
variable {PG:Zb}{d:Nat}{Q:AE->Sl->St->Prop}{K:Bool->Prop}{Zk:St}(hQ:HF d Zk AV.b 3 Q K){σ:Sl}{st:St}
include hQ
variable {x0:Zl}{t1:Zh}
variable (H0:σ 0=x0.av)(H1:σ 1=.fp [.sl .ext (List.map Wx.row t1.types),.sl .ext (List.map Zt t1.texts),.sl .ext (List.map Ye.row t1.funcs)])(FR:Fr d (d,0) Zk.bx Zk.ow st.bx st.ow)
include H0 H1 FR in
theorem Xfq (h:Zk7 PG K x0 t1):W PG d Zv8 σ st Q:=
 au trivial
end
theorem Xfg {PG:Zb}(hf:PG.fn 225=some Zfq){x0:Zl}{t1:Zh}{K:Bool->Prop}(h:Zk7 PG K x0 t1):Ym PG 225 [x0.av,.fp [.sl .ext (List.map Wx.row t1.types),.sl .ext (List.map Zt t1.texts),.sl .ext (List.map Ye.row t1.funcs)]] (fun r=>∃aa:Bool,(r=.b aa)/\K aa):=
 PF hf J J fun d st Q q=>Xfq q J J Fr.refl h
abbrev Yf1:AC:=(sR 0 [oO 2 (.boxf 3 (.t 0)),oY 3 4 1,oI 4 0] (sR 1 [oF 6 3 3,oL 7 6,oJ 8 7,oM 5 8] (.seq (sR 2 [oF 9 0 3,oL 10 9,oW 11 .lss 10 1,oM 12 11,gF 12 (oF 13 0 3),gF 12 (oL 14 13),gF 12 (oW 15 .gtr 14 8),oR 16 12 15,oM 17 16,gF 17 (oF 18 2 3),gF 17 (oL 19 18),gF 17 (oV 20 .lss 19 0),oR 21 17 20,oM 22 21,gF 22 (oF 23 2 3),gF 22 (oL 24 23),gF 22 (oV 25 .gtr 24 5000),oR 26 22 25,oM 27 26,gF 27 (oM 28 5),gF 27 (oV 29 .gtr 28 16),oR 30 27 29,oM 31 30,gF 31 (oF 32 1 3),gF 31 (oL 33 32),gF 31 (oV 34 .lss 33 (-1)),oR 35 31 34,oM 36 35,gF 36 (oF 37 1 3),gF 36 (oL 38 37),gF 36 (oM 39 5),gF 36 (oT 40 .geq 38 39),oR 41 36 40,oM 42 41,gF 42 (oF 43 3 3),gF 42 (oL 44 43),gF 42 (oO 45 (.mkfn 225 [(.t 2)])),gF 42 (oO 46 (.call true 224 [(.t 44),(.t 45)])),oR 47 42 46] (.cond (.t 47) (sR 3 [oI 4 8] .ret) .skip)) (sR 4 [oI 4 0] .ret))))
def Zfc:AF:={ nt:=48,res:=[.tmp 4],fz:=[2],body:=Yf1 }
section
variable(PG:Zb)(K:Int->Prop)
def Zph (m0:Zh)(s1:Zw):Prop:=
  (s1.outcome<1->K 8)/\(¬(s1.outcome<1)->(s1.outcome>8->K 8)/\(¬(s1.outcome>8)->(s1.steps<0->K 8)/\(¬(s1.steps<0)->(s1.steps>5000->K 8)/\(¬(s1.steps>5000)->((s1.routines.length:Int)>16->K 8)/\(¬((s1.routines.length:Int)>16)->(s1.failing<(-1)->K 8)/\(¬(s1.failing<(-1))->(s1.failing>=(s1.routines.length:Int)->K 8)/\(¬(s1.failing>=(s1.routines.length:Int))->∃c,(∀e:Zm,Ym PG 224 [.sl e (List.map Zl.row s1.routines),.fn 225 [.fp [.sl .ext (List.map Wx.row m0.types),.sl .ext (List.map Zt m0.texts),.sl .ext (List.map Ye.row m0.funcs)]]] (fun r=>r=.b c))/\(c=true->K 8)/\(c=false->K 0))))))))
end
section
variable {PG:Zb}{d:Nat}{Q:AE->Sl->St->Prop}{K:Int->Prop}(hQ:H1 (AV.i .i64) 4 Q K){σ:Sl}{st:St}
include hQ
variable {m0:Zh}{s1:Zw}
variable (H0:σ 0=m0.av)(H1:σ 1=s1.av)
include H0 H1 in
theorem Xhx (h:Zph PG K m0 s1):W PG d Yf1 σ st Q:=
 q_ J (Zuf H0 J J (Qa H1 J (m_ (e_ (q_ J (f_ J (l_ J Zj J J (Wk J (m_ (e_ (Zp (q_ J (f_ J (l_ J Zj J J (b_ J J Vc (Xl J (Xa (g:=12) J (fun c=>z_ 35 J (e_ (Xj J (q_ J (m_ (Zr (hQ J (h.1 c)))))))) (fun c=>Zd J (f_ J (Zd J (l_ J Zj J J (Zd J (b_ J J Qb (z_ 2 J (Xa (g:=17) J (fun e=>z_ 30 J (e_ (Xj J (q_ J (m_ (Zr (hQ J ((h.2 c).1 e)))))))) (fun e=>Zd J (f_ J (Zd J (l_ J Zj J J (Zd J (b_ J J Vc (z_ 2 J (Xa (g:=22) J (fun i=>z_ 25 J (e_ (Xj J (q_ J (m_ (Zr (hQ J (((h.2 c).2 e).1 i)))))))) (fun i=>Zd J (f_ J (Zd J (l_ J Zj J J (Zd J (b_ J J Qb (z_ 2 J (Xa (g:=27) J (fun j=>z_ 20 J (e_ (Xj J (q_ J (m_ (Zr (hQ J ((((h.2 c).2 e).2 i).1 j)))))))) (fun j=>Zd J (Xf J (Zd J (b_ J J Qb (z_ 2 J (Xa (g:=31) J (fun k=>z_ 16 J (e_ (Xj J (q_ J (m_ (Zr (hQ J (((((h.2 c).2 e).2 i).2 j).1 k)))))))) (fun k=>Zd J (f_ J (Zd J (l_ J Zj J J (Zd J (b_ J J Vc (z_ 2 J (Xa (g:=36) J (fun o=>z_ 11 J (e_ (Xj J (q_ J (m_ (Zr (hQ J ((((((h.2 c).2 e).2 i).2 j).2 k).1 o)))))))) (fun o=>Zd J (f_ J (Zd J (l_ J Zj J J (Zd J (Xf J (Zd J (b_ J J Gd (z_ 2 J (Xa (g:=42) J (fun r=>z_ 5 J (e_ (Xj J (q_ J (m_ (Zr (hQ J (((((((h.2 c).2 e).2 i).2 j).2 k).2 o).1 r)))))))) (fun r=>Zd J (f_ J (Zd J (l_ J Zj J J (Zd J (Zq9 (Zz J Yq) (Zd J ((((((((h.2 c).2 e).2 i).2 j).2 k).2 o).2 r).elim fun _ p=>Gs (Zz J (Zz J Yq)) (p.1 _) (fun _ _=>Jp J J (e_ (Wp J (fun q=>q_ J (m_ (Zr (hQ J (p.2.1 q))))) (fun q=>Yg (q_ J (m_ (Zr (hQ J (p.2.2 q))))))))))))))))))))))))))))))))))))))))))))))))))))))))))))))))))))))))))))))))))
end
theorem Ysl {PG:Zb}(hf:PG.fn 213=some Zfc){m0:Zh}{s1:Zw}{K:Int->Prop}(h:Zph PG K m0 s1) :∃aa:Int,K aa/\Ze PG 213 [m0.av,s1.av] (.i .i64 aa):=
 P1 hf J (Xhx (h1 J fun _=>J) J J h)
abbrev Xiw (Q:AE->Sl->St->Prop)(K:Bool->Prop):Prop:=∀(σ:Sl)(st:St)(aa:Bool),σ 6=.b aa->K aa->Q .ret σ st
section
variable {PG:Zb}{d:Nat}{Q:AE->Sl->St->Prop}{K:Bool->Prop}(hQ:Xiw Q K){σ:Sl}{st:St}
include hQ
end
abbrev Yhq:AC:=(.seq (sR 8 [oM 66 5,oF 67 2 3,oL 68 67,oJ 69 68,oT 70 .lss 66 69] (.cond (.t 70) .skip (.exit 0))) (.seq (.block 1 (sR 10 [oK 73 3 2,oF 74 2 3,oL 75 74,oM 76 5,oX 77 4 75 76,oK 78 4 77,oQ 79 87 [73,78],oV 80 .neq 79 0] (.cond (.t 80) (sR 11 [oC 4 (.b false)] .ret) .skip))) (.reg 9 [oM 71 5,oV 72 .add 71 1,oM 5 72])))
abbrev Yxq:AC:=(.seq (sR 13 [oM 81 6,oF 82 3 3,oL 83 82,oJ 84 83,oT 85 .lss 81 84] (.cond (.t 85) .skip (.exit 2))) (.seq (.block 3 (sR 15 [oK 88 3 2,oF 89 2 3,oL 90 89,oJ 91 90,oF 92 3 3,oL 93 92,oM 94 6,oX 95 8 93 94,oK 96 8 95,oQ 97 235 [88,91,96],oZ 98 97] (.cond (.t 98) (sR 16 [oC 4 (.b false)] .ret) .skip))) (.reg 14 [oM 86 6,oV 87 .add 86 1,oM 6 87])))
abbrev Yuj:AC:=(sR 17 [oC 4 (.b true)] .ret)
abbrev Xi4:AC:=(.seq (sR 12 [oI 6 0] (.block 2 (.loop Yxq))) Yuj)
abbrev Yw6:AC:=(.seq (sR 7 [oI 5 0] (.block 0 (.loop Yhq))) Xi4)
abbrev Yya:AC:=(.seq (sR 5 [oF 44 2 3,oL 45 44,oJ 46 45,oV 47 .lss 46 1,oM 48 47,gF 48 (oF 49 2 3),gF 48 (oL 50 49),gF 48 (oJ 51 50),gF 48 (oV 52 .gtr 51 170),oR 53 48 52,oM 54 53,gF 54 (oF 55 3 3),gF 54 (oL 56 55),gF 54 (oJ 57 56),gF 54 (oV 58 .gtr 57 410),oR 59 54 58,oM 60 59,gF 60 (oF 61 4 3),gF 60 (oL 62 61),gF 60 (oQ 63 163 [62]),gF 60 (oV 64 .neq 63 0),oR 65 60 64] (.cond (.t 65) (sR 6 [oC 4 (.b false)] .ret) .skip)) Yw6)
abbrev Yz3:AC:=(.seq (sR 3 [oF 31 0 3,oL 32 31,oW 33 .neq 32 2,oM 34 33,gT 34 (oF 35 0 3),gT 34 (oL 36 35),gT 34 (oW 37 .neq 36 1),gT 34 (oM 38 37),gF 38 (oF 39 1 3),gF 38 (oL 40 39),gF 38 (oV 41 .neq 40 0),gT 34 (oR 42 38 41),oA 43 34 42] (.cond (.t 43) (sR 4 [oC 4 (.b false)] .ret) .skip)) Yya)
abbrev Yuq:AC:=(.seq (sR 1 [oF 7 0 3,oL 8 7,oW 9 .eql 8 3] (.cond (.t 9) (sR 2 [oF 10 2 3,oL 11 10,oJ 12 11,oV 13 .eql 12 0,oM 14 13,gT 14 (oF 15 3 3),gT 14 (oL 16 15),gT 14 (oJ 17 16),gT 14 (oV 18 .eql 17 0),oA 19 14 18,oM 20 19,gT 20 (oF 21 4 3),gT 20 (oL 22 21),gT 20 (oJ 23 22),gT 20 (oV 24 .eql 23 0),oA 25 20 24,oM 26 25,gT 26 (oF 27 1 3),gT 26 (oL 28 27),gT 26 (oV 29 .eql 28 0),oA 30 26 29,oM 4 30] .ret) .skip)) Yz3)
abbrev Yjo:AC:=(sR 0 [oY 2 3 0,oY 3 5 1,oC 4 (.b false)] Yuq)
def Zpl:AF:={ nt:=99,res:=[.tmp 4],body:=Yjo }
abbrev Ywa (Q:AE->Sl->St->Prop)(K:Bool->Prop):Prop:=∀(σ:Sl)(st:St)(aa:Bool),σ 4=.b aa->K aa->Q .ret σ st
section
variable {PG:Zb}{d:Nat}{Q:AE->Sl->St->Prop}{K:Bool->Prop}(hQ:Ywa Q K){σ:Sl}{st:St}
include hQ
end
abbrev Yqp (Q:AE->Sl->St->Prop)(K:Int->Prop):Prop:=∀(σ:Sl)(st:St)(aa:Int),σ 4=.i .i64 aa->K aa->Q .ret σ st
section
variable {PG:Zb}{d:Nat}{Q:AE->Sl->St->Prop}{K:Int->Prop}(hQ:Yqp Q K){σ:Sl}{st:St}
include hQ
end
end Go.AM

namespace Go.AM
open Go
set_option maxRecDepth 4000
set_option maxHeartbeats 2000000
attribute [local irreducible] Decidable.decide W WO Xq We
abbrev Ye9:AC:=(sR 10 [oM 52 8,oM 4 52,oI 5 0] .ret)
abbrev Zsy:AC:=(sR 0 [oY 2 3 0,oY 3 8 1,oC 4 (.s []),oI 5 0] (sR 1 [oF 12 2 2,oL 13 12,oF 14 1 3,oL 15 14,oX 16 7 13 15,oF 17 0 16,oL 18 17,oQ 19 11 [18],oM 11 19,oE 20 0 11,oE 21 1 11,oM 6 20,oM 7 21] (.seq (sR 2 [oM 22 7,oV 23 .neq 22 0] (.cond (.t 23) (sR 3 [oM 24 7,oC 4 (.s []),oM 5 24] .ret) .skip)) (sR 4 [oF 25 0 3,oL 26 25,oQ 27 216 [26],oB 28 .add (.c (.s [100,101,102,101,114,32])) (.t 27),oB 29 .add (.t 28) (.c (.s [32])),oF 30 1 3,oL 31 30,oQ 32 216 [31],oT 33 .add 29 32,oB 34 .add (.t 33) (.c (.s [32])),oM 35 6,oT 36 .add 34 35,oM 8 36] (.seq (sR 5 [oF 37 2 3,oL 38 37] (.cond (.t 38) (sR 6 [oF 40 3 3,oK 41 5 40,oQ 42 72 [41],oM 39 42,oE 43 0 39,oE 44 1 39,oM 9 43,oM 10 44] (.seq (sR 7 [oM 45 10,oV 46 .neq 45 0] (.cond (.t 46) (sR 8 [oM 47 10,oC 4 (.s []),oM 5 47] .ret) .skip)) (.reg 9 [oM 48 8,oM 49 9,oB 50 .add (.c (.s [32,119,105,116,104,32])) (.t 49),oT 51 .add 48 50,oM 8 51]))) .skip)) Ye9)))))
def Zbn:AF:={ nt:=53,res:=[.tmp 4,.tmp 5],body:=Zsy }
def Oi (PG:Zb)(K:BS->Int->Prop)(s8:BS):Prop:=
  K s8 0
section
variable(PG:Zb)(K:BS->Int->Prop)
def Zjv (m0:Zh)(d1:Zi):Prop:=
  0<=d1.func/\∃q:Ye,m0.funcs[(d1.func).toNat]?=some q/\∃j:BS,∃o,Ze PG 11 [.s q.name] (.tup [.s j,.i .i64 o])/\(o≠0->K ([]:BS) o)/\(¬(o≠0)->∃c:BS,Ze PG 216 [.i .i64 d1.frame] (.s c)/\([100,101,102,101,114,32]:BS).length+c.length<=Wi/\(([100,101,102,101,114,32]:BS)++c).length+([32]:BS).length<=Wi/\∃e:BS,Ze PG 216 [.i .i64 d1.func] (.s e)/\((([100,101,102,101,114,32]:BS)++c)++([32]:BS)).length+e.length<=Wi/\(((([100,101,102,101,114,32]:BS)++c)++([32]:BS))++e).length+([32]:BS).length<=Wi/\((((([100,101,102,101,114,32]:BS)++c)++([32]:BS))++e)++([32]:BS)).length+j.length<=Wi/\(d1.hasArg=true->∃p:BS,∃k,Ze PG 72 [d1.arg.av] (.tup [.s p,.i .i64 k])/\(k≠0->K ([]:BS) k)/\(¬(k≠0)->([32,119,105,116,104,32]:BS).length+p.length<=Wi/\(((((([100,101,102,101,114,32]:BS)++c)++([32]:BS))++e)++([32]:BS))++j).length+(([32,119,105,116,104,32]:BS)++p).length<=Wi/\Oi PG K ((((((([100,101,102,101,114,32]:BS)++c)++([32]:BS))++e)++([32]:BS))++j)++(([32,119,105,116,104,32]:BS)++p))))/\(d1.hasArg=false->Oi PG K (((((([100,101,102,101,114,32]:BS)++c)++([32]:BS))++e)++([32]:BS))++j)))
end
section
variable {PG:Zb}{d:Nat}{Q:AE->Sl->St->Prop}{K:BS->Int->Prop}(hQ:H2 AV.s (AV.i .i64) 4 5 Q K){σ:Sl}{st:St}
include hQ
variable {s8:BS}{m0:Zh}{d1:Zi}
variable (H8:σ 8=.s s8)(H0:σ 0=m0.av)(H1:σ 1=d1.av)
include H8 in
theorem Yk8 (h:Oi PG K s8):W PG d Ye9 σ st Q:=
 au trivial
include H0 H1 in
theorem Yja (h:Zjv PG K m0 d1):W PG d Zsy σ st Q:=
 au @Yk8
end
theorem Xh1 {PG:Zb}(hf:PG.fn 234=some Zbn){m0:Zh}{d1:Zi}{K:BS->Int->Prop}(h:Zjv PG K m0 d1) :∃aa:BS,∃ae:Int,K aa ae/\Ze PG 234 [m0.av,d1.av] (.tup [.s aa,.i .i64 ae]):=
 P2 hf J (Yja (h2 J fun _ _=>J) J J h)
abbrev Zb1:AC:=(sR 3 [oT 23 .lss 22 21] (.seq (.cond (.t 23) .skip (.exit 0)) (.seq (.block 1 (sR 4 [oM 24 22,oX 25 4 20 22,oK 26 4 25,oO 8 (.alloc [z6,z6,z7,zl]),oM 7 24,oS 4 8 26] (sR 5 [oK 28 3 2,oM 29 7,oK 30 4 8,oQ 31 82 [28,29,30],oM 27 31,oE 32 0 27,oE 33 1 27,oM 9 32,oM 10 33] (.seq (sR 6 [oM 34 10,oV 35 .neq 34 0] (.cond (.t 35) (sR 7 [oM 36 10,oC 4 (.sl .full []),oM 5 36] .ret) .skip)) (.reg 8 [oM 37 6,oM 38 9,oO 39 (.app 1 16 (.t 37) (.t 38)),oM 6 39]))))) (.reg 9 [oV 40 .add 22 1,oM 22 40]))))
abbrev Zf1:AC:=(sR 11 [oT 45 .lss 44 43] (.seq (.cond (.t 45) .skip (.exit 2)) (.seq (.block 3 (sR 12 [oX 46 8 42 44,oK 47 8 46,oO 12 (.alloc [z6,z6,zb,z8,z6,zs,zl,zb]),oS 8 12 47] (sR 13 [oK 49 3 2,oK 50 8 12,oQ 51 234 [49,50],oM 48 51,oE 52 0 48,oE 53 1 48,oM 13 52,oM 14 53] (.seq (sR 14 [oM 54 14,oV 55 .neq 54 0] (.cond (.t 55) (sR 15 [oM 56 14,oC 4 (.sl .full []),oM 5 56] .ret) .skip)) (.reg 16 [oM 57 6,oM 58 13,oO 59 (.bslice [zs] 1 [(0,(.t 58))]),oO 60 (.app 1 16 (.t 57) (.t 59)),oM 6 60]))))) (.reg 17 [oV 61 .add 44 1,oM 44 61]))))
abbrev Zah:AC:=(sR 19 [oT 66 .lss 65 64] (.seq (.cond (.t 66) .skip (.exit 4)) (.seq (.block 5 (sR 20 [oX 67 7 63 65,oK 68 7 67,oO 16 (.alloc [z7,z8,z6,zs,zl,zb,z7]),oS 7 16 68] (sR 21 [oK 70 7 16,oQ 71 154 [70],oM 69 71,oE 72 0 69,oE 73 1 69,oM 17 72,oM 18 73] (.seq (sR 22 [oM 74 18,oV 75 .neq 74 0] (.cond (.t 75) (sR 23 [oM 76 18,oC 4 (.sl .full []),oM 5 76] .ret) .skip)) (.reg 24 [oM 77 6,oM 78 17,oO 79 (.bslice [zs] 1 [(0,(.t 78))]),oO 80 (.app 1 16 (.t 77) (.t 79)),oM 6 80]))))) (.reg 25 [oV 81 .add 65 1,oM 65 81]))))
abbrev Zfd:AC:=(sR 26 [oM 82 6,oM 4 82,oI 5 0] .ret)
abbrev Zdx:AC:=(.seq (sR 18 [oF 62 4 3,oL 63 62,oJ 64 63,oI 65 0] (.block 4 (.loop Zah))) Zfd)
abbrev Zco:AC:=(.seq (sR 10 [oF 41 3 3,oL 42 41,oJ 43 42,oI 44 0] (.block 2 (.loop Zf1))) Zdx)
abbrev Zxo:AC:=(.seq (sR 2 [oF 19 2 3,oL 20 19,oJ 21 20,oI 22 0] (.block 0 (.loop Zb1))) Zco)
abbrev Ydh:AC:=(sR 1 [oC 6 (.sl .full [])] Zxo)
abbrev Zrs:AC:=(sR 0 [oY 2 3 0,oY 3 5 1,oC 4 (.sl .full []),oI 5 0] Ydh)
def Zg9:AF:={ nt:=83,res:=[.tmp 4,.tmp 5],body:=Zrs }
abbrev Zt4 (PG:Zb)(d:Nat)(Q:AE->Sl->St->Prop)(t20:List Zg)(t21:Int)(bv:LB)(t22:Int)(m0:Zh)(m1:Zl):Prop:=
  ∀(σ:Sl)(st:St) (dk fw:Zm) (v0 v1:Nat),σ 2=.p (d,0) v0 0->σ 3=.p (d,1) v1 0->σ 6=.sl dk (List.map Zt bv)->σ 20=.sl fw (List.map Zg.row t20)->σ 21=.i .i64 t21->σ 22=.i .i64 t22->Xd d st.ow dk bv.length->lk st.bx (d,0)=some (v0,Zh.cs m0)->lk st.bx (d,1)=some (v1,Zl.cs m1)->W PG d (.loop Zb1) σ st (Yd 0 (Zv PG d Zco Q))
abbrev Zyq (PG:Zb)(d:Nat)(Q:AE->Sl->St->Prop)(t42:List Zi)(t43:Int)(bv:LB)(t44:Int)(m0:Zh)(m1:Zl):Prop:=
  ∀(σ:Sl)(st:St) (dk il:Zm) (v0 v1:Nat),σ 2=.p (d,0) v0 0->σ 3=.p (d,1) v1 0->σ 6=.sl dk (List.map Zt bv)->σ 42=.sl il (List.map Zi.row t42)->σ 43=.i .i64 t43->σ 44=.i .i64 t44->Xd d st.ow dk bv.length->lk st.bx (d,0)=some (v0,Zh.cs m0)->lk st.bx (d,1)=some (v1,Zl.cs m1)->W PG d (.loop Zf1) σ st (Yd 2 (Zv PG d Zdx Q))
abbrev Zvj (PG:Zb)(d:Nat)(Q:AE->Sl->St->Prop)(t63:List Zf)(t64:Int)(bv:LB)(t65:Int):Prop:=
  ∀(σ:Sl)(st:St) (dk im:Zm),σ 6=.sl dk (List.map Zt bv)->σ 63=.sl im (List.map Zf.row t63)->σ 64=.i .i64 t64->σ 65=.i .i64 t65->Xd d st.ow dk bv.length->W PG d (.loop Zah) σ st (Yd 4 (Zv PG d Zfd Q))
def Zqb (PG:Zb)(K:LB->Int->Prop)(bv:LB):Prop:=
  K bv 0
section
variable(PG:Zb)(K:LB->Int->Prop)
def Zfo (P2:LB->Int->Prop)(bv:LB)(t63:List Zf)(t64:Int)(t65:Int):Prop:=
  (t65<t64->0<=t65/\∃j:Zf,t63[(t65).toNat]?=some j/\∃e c,Ze PG 154 [j.av] (.tup [.s e,.i .i64 c])/\(c≠0->K ([]:LB) c)/\(¬(c≠0)->Qn (bv.length+[e].length) 16/\P2 (bv++[e]) (IntKind.i64.wrap (t65+1))))/\(¬(t65<t64)->Zqb PG K bv)
def Zm0 (bv:LB)(m1:Zl):Prop:=
  ∀P2:LB->Int->Prop,(∀(bv:LB)(t65:Int),Zfo PG K P2 bv m1.panics (m1.panics.length:Int) t65->P2 bv t65)->P2 bv 0
def Zab (P1:LB->Int->Zh->Zl->Prop)(bv:LB)(t42:List Zi)(t43:Int)(t44:Int)(m0:Zh)(m1:Zl):Prop:=
  (t44<t43->0<=t44/\∃j:Zi,t42[(t44).toNat]?=some j/\∃e c,Ze PG 234 [m0.av,j.av] (.tup [.s e,.i .i64 c])/\(c≠0->K ([]:LB) c)/\(¬(c≠0)->Qn (bv.length+[e].length) 16/\P1 (bv++[e]) (IntKind.i64.wrap (t44+1)) m0 m1))/\(¬(t44<t43)->Zm0 PG K bv m1)
def Zl5 (bv:LB)(m0:Zh)(m1:Zl):Prop:=
  ∀P1:LB->Int->Zh->Zl->Prop,(∀(bv:LB)(t44:Int)(m0:Zh)(io:Zl),Zab PG K P1 bv m1.defers (m1.defers.length:Int) t44 m0 io->P1 bv t44 m0 io)->P1 bv 0 m0 m1
def Zaz (P0:LB->Int->Zh->Zl->Prop)(bv:LB)(t20:List Zg)(t21:Int)(t22:Int)(m0:Zh)(m1:Zl):Prop:=
  (t22<t21->0<=t22/\∃j:Zg,t20[(t22).toNat]?=some j/\∃e:LB,∃c,Ze PG 82 [m0.av,.i .i64 t22,j.av] (.tup [.sl .ext (List.map Zt e),.i .i64 c])/\(c≠0->K ([]:LB) c)/\(¬(c≠0)->Qn (bv.length+e.length) 16/\P0 (bv++e) (IntKind.i64.wrap (t22+1)) m0 m1))/\(¬(t22<t21)->Zl5 PG K bv m0 m1)
def Zh9 (bv:LB)(m0:Zh)(m1:Zl):Prop:=
  ∀P0:LB->Int->Zh->Zl->Prop,(∀(bv:LB)(t22:Int)(m0:Zh)(io:Zl),Zaz PG K P0 bv m1.frames (m1.frames.length:Int) t22 m0 io->P0 bv t22 m0 io)->P0 bv 0 m0 m1
def Zn6 (m0:Zh)(m1:Zl):Prop:=
  Zh9 PG K ([]:LB) m0 m1
def Zho (m0:Zh)(x1:Zl):Prop:=
  Zn6 PG K m0 x1
end
section
variable {PG:Zb}{d:Nat}{Q:AE->Sl->St->Prop}{K:LB->Int->Prop}(hQ:HM Zt (AV.i .i64) 4 5 Q K){σ:Sl}{st:St}
include hQ
variable {bv:LB}{dk:Zm}{t63:List Zf}{t64 t65:Int}{P2:LB->Int->Prop}{im:Zm}{m1:Zl}{v1:Nat}{t42:List Zi}{t43 t44:Int}{m0:Zh}{P1:LB->Int->Zh->Zl->Prop}{il:Zm}{v0:Nat}{t20:List Zg}{t21 t22:Int}{P0:LB->Int->Zh->Zl->Prop}{fw:Zm}{x1:Zl}
variable (kP2 :∀(bv:LB)(t65:Int),P2 bv t65->Zvj PG d Q t63 t64 bv t65) (kP1 :∀(bv:LB)(t44:Int)(m0:Zh)(m1:Zl),P1 bv t44 m0 m1->Zyq PG d Q t42 t43 bv t44 m0 m1) (kP0 :∀(bv:LB)(t22:Int)(m0:Zh)(m1:Zl),P0 bv t22 m0 m1->Zt4 PG d Q t20 t21 bv t22 m0 m1)(H0:σ 0=m0.av)(H2:σ 2=.p (d,0) v0 0)(H1:σ 1=x1.av)(H3:σ 3=.p (d,1) v1 0)(H6:σ 6=.sl dk (List.map Zt bv))(H63:σ 63=.sl im (List.map Zf.row t63))(H42:σ 42=.sl il (List.map Zi.row t42))(H20:σ 20=.sl fw (List.map Zg.row t20))(H64:σ 64=.i .i64 t64)(H43:σ 43=.i .i64 t43)(H21:σ 21=.i .i64 t21)(H65:σ 65=.i .i64 t65)(Us:σ 44=.i .i64 t44)(Js:σ 22=.i .i64 t22)(A6:Xd d st.ow dk bv.length)(B0:lk st.bx (d,0)=some (v0,Zh.cs m0))(B1:lk st.bx (d,1)=some (v1,Zl.cs m1))
include H6 A6 in
theorem Xcg (h:Zqb PG K bv):W PG d Zfd σ st Q:=
 au trivial
include kP2 H6 H63 H64 H65 A6 in
theorem Yhw (h:Zfo PG K P2 bv t63 t64 t65):W PG d Zah σ st (Zv PG d (.loop Zah) (Yd 4 (Zv PG d Zfd Q))):=
 q_ J (b_ H65 H64 Vc (e_ (Zp (Yk J (fun e=>Yg (Zp (Yn (Zp (W.reg ((h.1 e).2.elim fun p k=>Vx H63 H65 (h.1 e).1 k.1 (Zf.row_eq p) J (Vd J J J (Xo (Yc J (show lk _ (d,81922)=some (_,([.i .u64 0,.i .u8 0,.i .i64 0,.s [],.sl .full (List.map Za.row ([]:List Za)),.b false,.i .u64 0]:List AV)) from Zj) J J J (e_ (q_ J (l_ J Zj J J (x2 k.2 fun r _ c=>Ya (Ys J J) c.1 (m_ (x_ J J (x_ J J (m_ (m_ (e_ (Zp (q_ J (m_ (b_ J J Jc (e_ (Yk J (fun j=>q_ J (m_ (Yf (f:=Zt) (l:=[]) J (m_ (Zr (hQ J J (c.2.1 j))))))) (fun j=>Yg (W.reg0 J fun _ _=>Yf H6 (m_ (Xv (f:=Zt) (l:=[r]) J J (Yo J J J Xp) J (Qt Td J J J A6.1 (c.2.2 j).1 J (fun _ _ o _ q=>Yf J (e_ (W.reg0 J fun _ _=>b_ H65 J Vv (m_ (e_ (kP2 _ _ (c.2.2 j).2 _ _ _ _ J H63 H64 J (Xd.mk o (Gv.app A6.2 J q)))))))))))))))))))))))))))))))))))))) (fun e=>Jm (Xcg hQ H6 A6 (h.2 e)))))))
include H3 H6 A6 B1 in
theorem Yqu (h:Zm0 PG K bv m1):W PG d Zdx σ st Q:=
 Zp (q_ J (f_ H3 (l_ J B1 J J (Wk J (m_ (e_ (Yn (h (Zvj PG d Q m1.panics (m1.panics.length:Int)) (fun _ _ hb _ _ _ _ H6 H63 H64 H65 A6=>W.loop (Yhw hQ (fun _ _ x=>x) H6 H63 H64 H65 A6 hb)) _ _ _ _ H6 J J J A6))))))))
include kP1 H2 H3 H6 H42 H43 Us A6 B0 B1 in
theorem Yzf (h:Zab PG K P1 bv t42 t43 t44 m0 m1):W PG d Zf1 σ st (Zv PG d (.loop Zf1) (Yd 2 (Zv PG d Zdx Q))):=
 q_ J (b_ Us H43 Vc (e_ (Zp (Yk J (fun e=>Yg (Zp (Yn (Zp (W.reg ((h.1 e).2.elim fun p k=>Vx H42 Us (h.1 e).1 k.1 (Zi.row_eq p) J (Vd J J J (Xo (Yc J (show lk _ (d,49154)=some (_,([.i .i64 0,.i .i64 0,.b false,.i .u8 0,.i .i64 0,.s [],.sl .full (List.map Za.row ([]:List Za)),.b false]:List AV)) from Zj) J J J (e_ (q_ J (l_ H2 (Zs J (Zs J B0)) J J (l_ J Zj J J (x2 k.2 fun r _ c=>Ya (Je J J J) c.1 (m_ (x_ J J (x_ J J (m_ (m_ (e_ (Zp (q_ J (m_ (b_ J J Jc (e_ (Yk J (fun j=>q_ J (m_ (Yf (f:=Zt) (l:=[]) J (m_ (Zr (hQ J J (c.2.1 j))))))) (fun j=>Yg (W.reg0 J fun _ _=>Yf H6 (m_ (Xv (f:=Zt) (l:=[r]) J J (Yo J J J Xp) J (Qt Td J J J A6.1 (c.2.2 j).1 J (fun _ _ o _ q=>Yf J (e_ (W.reg0 J fun _ _=>b_ Us J Vv (m_ (e_ (kP1 _ _ _ _ (c.2.2 j).2 _ _ _ _ _ _ H2 H3 J H42 H43 J (Xd.mk o (Gv.app A6.2 J q)) (Zs J (Zs J B0)) (Zs J (Zs J B1))))))))))))))))))))))))))))))))))))))) (fun e=>Jm (Yqu hQ H3 H6 A6 B1 (h.2 e)))))))
include H2 H3 H6 A6 B0 B1 in
theorem Yn7 (h:Zl5 PG K bv m0 m1):W PG d Zco σ st Q:=
 Zp (q_ J (f_ H3 (l_ J B1 J J (Wk J (m_ (e_ (Yn (h (Zyq PG d Q m1.defers (m1.defers.length:Int)) (fun _ _ _ _ hb _ _ _ _ _ _ H2 H3 H6 H42 H43 Us A6 B0 B1=>W.loop (Yzf hQ (fun _ _ _ _ x=>x) H2 H3 H6 H42 H43 Us A6 B0 B1 hb)) _ _ _ _ _ _ H2 H3 H6 J J J A6 B0 B1))))))))
include kP0 H2 H3 H6 H20 H21 Js A6 B0 B1 in
theorem Yux (h:Zaz PG K P0 bv t20 t21 t22 m0 m1):W PG d Zb1 σ st (Zv PG d (.loop Zb1) (Yd 0 (Zv PG d Zco Q))):=
 au @Yn7
include H2 H3 H6 A6 B0 B1 in
theorem Ykf (h:Zh9 PG K bv m0 m1):W PG d Zxo σ st Q:=
 Zp (q_ J (f_ H3 (l_ J B1 J J (Wk J (m_ (e_ (Yn (h (Zt4 PG d Q m1.frames (m1.frames.length:Int)) (fun _ _ _ _ hb _ _ _ _ _ _ H2 H3 H6 H20 H21 Js A6 B0 B1=>W.loop (Yux hQ (fun _ _ _ _ x=>x) H2 H3 H6 H20 H21 Js A6 B0 B1 hb)) _ _ _ _ _ _ H2 H3 H6 J J J A6 B0 B1))))))))
include H2 H3 B0 B1 in
theorem Xhi (h:Zn6 PG K m0 m1):W PG d Ydh σ st Q:=
 au @Ykf
include H0 H1 in
theorem Ygz (h:Zho PG K m0 x1):W PG d Zrs σ st Q:=
 q_ J (Qa H0 J (Qa H1 J (Yf (f:=Zt) (l:=[]) J (m_ (e_ (Xhi hQ J J (Zs J Zj) Zj h))))))
end
theorem Yn5 {PG:Zb}(hf:PG.fn 220=some Zg9){m0:Zh}{x1:Zl}{K:LB->Int->Prop}(h:Zho PG K m0 x1) :∃aa:LB,∃ae:Int,K aa ae/\Ze PG 220 [m0.av,x1.av] (.tup [.sl .ext (List.map Zt aa),.i .i64 ae]):=
 P2 hf J (Ygz (hM J fun _ _ _=>J) J J h)
abbrev Zac:AC:=(sR 10 [oT 49 .lss 48 47] (.seq (.cond (.t 49) .skip (.exit 0)) (.seq (.block 1 (sR 11 [oX 50 1 46 48,oL 51 50,oM 12 51] (.reg 12 [oM 52 10,oM 53 12,oB 54 .add (.c (.s [32,32])) (.t 53),oO 55 (.bslice [zs] 1 [(0,(.t 54))]),oO 56 (.app 1 16 (.t 52) (.t 55)),oM 10 56]))) (.reg 13 [oV 57 .add 48 1,oM 48 57]))))
abbrev Zbt:AC:=(sR 14 [oM 58 10,oM 6 58,oI 7 0] .ret)
abbrev Ydb:AC:=(.seq (sR 3 [oK 19 3 3,oK 20 5 5,oQ 21 219 [19,20],oZ 22 21] (.cond (.t 22) (sR 4 [oC 6 (.sl .full []),oI 7 8] .ret) .skip)) (sR 5 [oK 24 3 3,oK 25 5 5,oQ 26 220 [24,25],oM 23 26,oE 27 0 23,oE 28 1 23,oM 8 27,oM 9 28] (.seq (sR 6 [oM 29 9,oV 30 .neq 29 0] (.cond (.t 30) (sR 7 [oM 31 9,oC 6 (.sl .full []),oM 7 31] .ret) .skip)) (sR 8 [oM 32 1,oQ 33 216 [32],oB 34 .add (.c (.s [103,111,114,111,117,116,105,110,101,32])) (.t 33),oB 35 .add (.t 34) (.c (.s [58,32])),oF 36 1 5,oL 37 36,oQ 38 15 [37],oB 39 .add (.c (.s [98,108,111,99,107,101,100,32])) (.t 38),oO 40 (.build [zs,zs,zs,zs] [(1,1,(.c (.s [114,101,97,100,121]))),(3,1,(.c (.s [100,111,110,101]))),(2,1,(.t 39))]),oF 41 0 5,oL 42 41,oO 43 (.ixA 4 1 false (.t 40) (.t 42)),oT 44 .add 35 43,oO 45 (.bslice [zs] 1 [(0,(.t 44))]),oM 10 45] (.seq (sR 9 [oM 46 8,oJ 47 46,oI 48 0] (.block 0 (.loop Zac))) Zbt)))))
abbrev Yat:AC:=(sR 0 [oY 3 3 0,oY 5 5 2,oC 6 (.sl .full []),oI 7 0] (.seq (sR 1 [oM 13 1,oV 14 .lss 13 0,oM 15 14,gF 15 (oM 16 1),gF 15 (oV 17 .geq 16 16),oR 18 15 17] (.cond (.t 18) (sR 2 [oC 6 (.sl .full []),oI 7 2] .ret) .skip)) Ydb))
def Zek:AF:={ nt:=59,res:=[.tmp 6,.tmp 7],body:=Yat }
abbrev Yf4 (PG:Zb)(d:Nat)(Q:AE->Sl->St->Prop)(t46:LB)(t47:Int)(bt:LB)(t48:Int):Prop:=
  ∀(σ:Sl)(st:St) (cw ip:Zm),σ 10=.sl cw (List.map Zt bt)->σ 46=.sl ip (List.map Zt t46)->σ 47=.i .i64 t47->σ 48=.i .i64 t48->Xd d st.ow cw bt.length->W PG d (.loop Zac) σ st (Yd 0 (Zv PG d Zbt Q))
def Zon (PG:Zb)(K:LB->Int->Prop)(bt:LB):Prop:=
  K bt 0
section
variable(PG:Zb)(K:LB->Int->Prop)
def Zga (P0:LB->Int->Prop)(bt:LB)(t46:LB)(t47:Int)(t48:Int):Prop:=
  (t48<t47->0<=t48/\∃c:BS,t46[(t48).toNat]?=some c/\([32,32]:BS).length+c.length<=Wi/\Qn (bt.length+[(([32,32]:BS)++c)].length) 16/\P0 (bt++[(([32,32]:BS)++c)]) (IntKind.i64.wrap (t48+1)))/\(¬(t48<t47)->Zon PG K bt)
def Zma (g1:Int)(m0:Zh)(m1:Zl):Prop:=
  ∃c,Ze PG 219 [m0.av,m1.av] (.b c)/\((!c)=true->K ([]:LB) 8)/\((!c)=false->∃o:LB,∃j,Ze PG 220 [m0.av,m1.av] (.tup [.sl .ext (List.map Zt o),.i .i64 j])/\(j≠0->K ([]:LB) j)/\(¬(j≠0)->∃e:BS,Ze PG 216 [.i .i64 g1] (.s e)/\([103,111,114,111,117,116,105,110,101,32]:BS).length+e.length<=Wi/\(([103,111,114,111,117,116,105,110,101,32]:BS)++e).length+([58,32]:BS).length<=Wi/\∃p:BS,Ze PG 15 [.i .i64 m1.key] (.s p)/\([98,108,111,99,107,101,100,32]:BS).length+p.length<=Wi/\0<=m1.status/\∃k:BS,([[],([114,101,97,100,121]:BS),(([98,108,111,99,107,101,100,32]:BS)++p),([100,111,110,101]:BS)]:LB)[(m1.status).toNat]?=some k/\((([103,111,114,111,117,116,105,110,101,32]:BS)++e)++([58,32]:BS)).length+k.length<=Wi/\∀P0:LB->Int->Prop,(∀(bt:LB)(t48:Int),Zga PG K P0 bt o (o.length:Int) t48->P0 bt t48)->P0 [(((([103,111,114,111,117,116,105,110,101,32]:BS)++e)++([58,32]:BS))++k)] 0))
def Znc (m0:Zh)(g1:Int)(x2:Zl):Prop:=
  (g1<0->K ([]:LB) 2)/\(¬(g1<0)->(g1>=16->K ([]:LB) 2)/\(¬(g1>=16)->Zma PG K g1 m0 x2))
end
section
variable {PG:Zb}{d:Nat}{Q:AE->Sl->St->Prop}{K:LB->Int->Prop}(hQ:HM Zt (AV.i .i64) 6 7 Q K){σ:Sl}{st:St}
include hQ
variable {bt:LB}{cw:Zm}{t46:LB}{t47 t48:Int}{P0:LB->Int->Prop}{ip:Zm}{g1:Int}{m0:Zh}{m1:Zl}{v0 v1:Nat}{x2:Zl}
variable (kP0 :∀(bt:LB)(t48:Int),P0 bt t48->Yf4 PG d Q t46 t47 bt t48)(H0:σ 0=m0.av)(H10:σ 10=.sl cw (List.map Zt bt))(H1:σ 1=.i .i64 g1)(H46:σ 46=.sl ip (List.map Zt t46))(H3:σ 3=.p (d,0) v0 0)(H2:σ 2=x2.av)(H47:σ 47=.i .i64 t47)(H5:σ 5=.p (d,1) v1 0)(H48:σ 48=.i .i64 t48)(B0:lk st.bx (d,0)=some (v0,Zh.cs m0))(A10:Xd d st.ow cw bt.length)(B1:lk st.bx (d,1)=some (v1,Zl.cs m1))
include H10 A10 in
theorem Yyn (h:Zon PG K bt):W PG d Zbt σ st Q:=
 au trivial
include kP0 H10 H46 H47 H48 A10 in
theorem Ysa (h:Zga PG K P0 bt t46 t47 t48):W PG d Zac σ st (Zv PG d (.loop Zac) (Yd 0 (Zv PG d Zbt Q))):=
 q_ J (b_ H48 H47 Vc (e_ (Zp (Yk J (fun e=>Yg (Zp (Yn (q_ J ((h.1 e).2.elim fun j c=>Vx H46 H48 (h.1 e).1 c.1 J J (Vd J J J (m_ (e_ (W.reg0 J fun _ _=>Yf H10 (m_ (b_ J J (Vp c.2.1) (Xv (f:=Zt) (l:=[(([32,32]:BS)++j)]) J J (Yo J J J Xp) J (Qt Td J J J A10.1 c.2.2.1 J (fun _ _ i _ k=>Yf J (e_ (W.reg0 J fun _ _=>b_ H48 J Vv (m_ (e_ (kP0 _ _ c.2.2.2 _ _ _ _ J H46 H47 J (Xd.mk i (Gv.app A10.2 J k))))))))))))))))))))) (fun e=>Jm (Yyn hQ H10 A10 (h.2 e)))))))
include H1 H3 H5 B0 B1 in
theorem Yup (h:Zma PG K g1 m0 m1):W PG d Ydb σ st Q:=
 Zp (q_ J (l_ H3 B0 J J (l_ H5 B1 J J (h.elim fun _ j=>Ya (Je J J J) j.1 (Wo J (e_ (Wp J (fun o=>q_ J (Yf (f:=Zt) (l:=[]) J (m_ (Zr (hQ J J (j.2.1 o)))))) (fun o=>Yg (q_ J (l_ H3 B0 J J (l_ H5 B1 J J (x2 (j.2.2 o) fun q _ k=>Ya (Je J J J) k.1 (m_ (x_ J J (x_ J J (Yf J (m_ (e_ (Zp (q_ J (m_ (b_ J J Jc (e_ (Yk J (fun p=>q_ J (m_ (Yf (f:=Zt) (l:=[]) J (m_ (Zr (hQ J J (k.2.1 p))))))) (fun p=>Yg (q_ J (m_ ((k.2.2 p).elim fun v e=>Ya (Ys H1 J) e.1 (b_ J J (Vp e.2.1) (b_ J J (Vp e.2.2.1) (f_ H5 (l_ J B1 J J (e.2.2.2.elim fun u c=>Ya (Ys J J) c.1 (b_ J J (Vp c.2.1) (Pv (f:=AV.s) (l:=[[],([114,101,97,100,121]:BS),(([98,108,111,99,107,101,100,32]:BS)++u),([100,111,110,101]:BS)]) (Yl J J (Yl J J (Yl J J Yh))) J (f_ H5 (l_ J B1 J J (c.2.2.2.elim fun r i=>Ty (f:=AV.s) J J J c.2.2.1 i.1 (b_ J J (Vp i.2.1) (Xv (f:=Zt) (l:=[(((([103,111,114,111,117,116,105,110,101,32]:BS)++v)++([58,32]:BS))++r)]) J J (Yo J J J Xp) J (Yf J (e_ (Zp (q_ J (Yf J (Wk J (m_ (e_ (Yn (i.2.2 (Yf4 PG d Q q (q.length:Int)) (fun _ _ hb _ _ _ _ H10 H46 H47 H48 A10=>W.loop (Ysa hQ (fun _ _ x=>x) H10 H46 H47 H48 A10 hb)) _ _ _ _ J J J J Xd.full))))))))))))))))))))))))))))))))))))))))))))))))))
include H0 H1 H2 in
theorem Ymb (h:Znc PG K m0 g1 x2):W PG d Yat σ st Q:=
 q_ J (Qa H0 J (Qa H2 J (Yf (f:=Zt) (l:=[]) J (m_ (e_ (Zp (q_ J (Xf H1 (b_ J J Vc (Xl J (Xa (g:=15) J (fun c=>z_ 3 J (e_ (Xj J (q_ J (Yf (f:=Zt) (l:=[]) J (m_ (Zr (hQ J J (h.1 c))))))))) (fun c=>Zd J (Xf H1 (Zd J (b_ J J Gd (Jp J J (e_ (Yk J (fun e=>q_ J (Yf (f:=Zt) (l:=[]) J (m_ (Zr (hQ J J ((h.2 c).1 e)))))) (fun e=>Yg (Yup hQ H1 J J (Zs J Zj) Zj ((h.2 c).2 e)))))))))))))))))))))
end
theorem Yz5 {PG:Zb}(hf:PG.fn 207=some Zek){m0:Zh}{g1:Int}{x2:Zl}{K:LB->Int->Prop}(h:Znc PG K m0 g1 x2) :∃aa:LB,∃ae:Int,K aa ae/\Ze PG 207 [m0.av,.i .i64 g1,x2.av] (.tup [.sl .ext (List.map Zt aa),.i .i64 ae]):=
 P2 hf J (Ymb (hM J fun _ _ _=>J) J J J h)
abbrev Ynv (Q:AE->Sl->St->Prop)(K:LB->Prop):Prop:=∀(σ:Sl)(st:St)(o0:Zm)(aa:LB),σ 6=.sl o0 (List.map Zt aa)->K aa->Q .ret σ st
section
variable {PG:Zb}{d:Nat}{Q:AE->Sl->St->Prop}{K:LB->Prop}(hQ:Ynv Q K){σ:Sl}{st:St}
include hQ
end
abbrev Yoj (Q:AE->Sl->St->Prop)(K:LB->Int->Prop):Prop:=∀(σ:Sl)(st:St)(o0:Zm)(aa:LB)(ae:Int),σ 6=.sl o0 (List.map Zt aa)->σ 7=.i .i64 ae->K aa ae->Q .ret σ st
section
variable {PG:Zb}{d:Nat}{Q:AE->Sl->St->Prop}{K:LB->Int->Prop}(hQ:Yoj Q K){σ:Sl}{st:St}
include hQ
end
abbrev Zdz:AC:=(sR 13 [oT 58 .lss 57 56] (.seq (.cond (.t 58) .skip (.exit 2)) (.seq (.block 3 (sR 14 [oX 59 1 55 57,oL 60 59,oM 13 60] (.reg 15 [oM 61 13,oB 62 .add (.t 61) (.c (.s [10])),oO 63 (.call true 126 [(.t 7),(.t 62)])]))) (.reg 16 [oV 64 .add 57 1,oM 57 64]))))
abbrev Zch:AC:=(.reg 17 [oV 65 .add 40 1,oM 40 65])
abbrev Tn:AC:=(sR 7 [oT 41 .lss 40 39] (.seq (.cond (.t 41) .skip (.exit 0)) (.seq (.block 1 (sR 8 [oM 42 40,oX 43 5 38 40,oK 44 5 43,oO 9 (.alloc [z8,z6,zl,zl,zl]),oM 8 42,oS 5 9 44] (sR 9 [oK 46 3 2,oM 47 8,oK 48 5 9,oQ 49 207 [46,47,48],oM 45 49,oE 50 0 45,oE 51 1 45,oM 10 50,oM 11 51] (.seq (sR 10 [oM 52 11,oV 53 .neq 52 0] (.cond (.t 53) (sR 11 [oM 54 11,oC 4 (.s []),oM 5 54] .ret) .skip)) (sR 12 [oM 55 10,oJ 56 55,oI 57 0] (.block 2 (.loop Zdz))))))) Zch)))
abbrev Pe:AC:=(.seq (sR 18 [oO 66 (.call true 217 [(.t 7)]),oV 67 .gtr 66 300000] (.cond (.t 67) (sR 19 [oC 4 (.s []),oI 5 4] .ret) .skip)) (sR 20 [oO 68 (.call true 105 [(.t 7)]),oM 4 68,oI 5 0] .ret))
abbrev Zyz:AC:=(sR 5 [oQ 20 215 [],oF 21 0 3,oL 22 21,oO 23 (.ixA 9 1 false (.t 20) (.t 22)),oB 24 .add (.c (.s [111,117,116,99,111,109,101,32])) (.t 23),oB 25 .add (.t 24) (.c (.s [44,32,102,97,105,108,105,110,103,32])),oF 26 1 3,oL 27 26,oQ 28 216 [27],oT 29 .add 25 28,oB 30 .add (.t 29) (.c (.s [44,32,115,116,101,112,115,32])),oF 31 2 3,oL 32 31,oQ 33 216 [32],oT 34 .add 30 33,oB 35 .add (.t 34) (.c (.s [10])),oO 36 (.call true 126 [(.t 7),(.t 35)])] (.seq (sR 6 [oF 37 3 3,oL 38 37,oJ 39 38,oI 40 0] (.block 0 (.loop Tn))) Pe))
abbrev Zu4:AC:=(sR 1000004 [oO 7 (.alloc [.np,.sl .full []])] Zyz)
abbrev Yf7:AC:=(.seq (sR 1 [oK 14 3 2,oK 15 4 3,oQ 16 213 [14,15],oM 6 16] (sR 2 [oM 17 6,oV 18 .neq 17 0] (.cond (.t 18) (sR 3 [oM 19 6,oC 4 (.s []),oM 5 19] .ret) .skip))) Zu4)
abbrev Zti:AC:=(sR 0 [oY 2 3 0,oY 3 4 1,oC 4 (.s []),oI 5 0] Yf7)
def Zaj:AF:={ nt:=69,res:=[.tmp 4,.tmp 5],body:=Zti }
abbrev Ydz (PG:Zb)(d:Nat)(Q:AE->Sl->St->Prop)(t38:List Zl)(t39:Int)(t40:Int)(m0:Zh)(ap:BS):Prop:=
  ∀(σ:Sl)(st:St)(gq:Zm) (v0 cf:Nat),σ 2=.p (d,0) v0 0->σ 7=.p (d,1000004*4096+0) cf 0->σ 38=.sl gq (List.map Zl.row t38)->σ 39=.i .i64 t39->σ 40=.i .i64 t40->lk st.bx (d,0)=some (v0,Zh.cs m0)->Bl ap st.bx st.ow (d,1000004*4096+0) cf->W PG d (.loop Tn) σ st (Yd 0 (Zv PG d Pe Q))
abbrev Zy3 (PG:Zb)(d:Nat)(Q:AE->Sl->St->Prop)(t38:List Zl)(t39:Int)(t40:Int)(t55:LB)(t56:Int)(t57:Int)(m0:Zh)(ap:BS):Prop:=
  ∀(σ:Sl)(st:St) (gq iq:Zm) (v0 cf:Nat),σ 2=.p (d,0) v0 0->σ 7=.p (d,1000004*4096+0) cf 0->σ 38=.sl gq (List.map Zl.row t38)->σ 39=.i .i64 t39->σ 40=.i .i64 t40->σ 55=.sl iq (List.map Zt t55)->σ 56=.i .i64 t56->σ 57=.i .i64 t57->lk st.bx (d,0)=some (v0,Zh.cs m0)->Bl ap st.bx st.ow (d,1000004*4096+0) cf->W PG d (.loop Zdz) σ st (Yd 2 (Yd 1 (Zv PG d Zch (Zv PG d (.loop Tn) (Yd 0 (Zv PG d Pe Q))))))
def Zhu (PG:Zb)(K:BS->Int->Prop)(P0:Int->Zh->BS->Prop)(t38:List Zl)(t39:Int)(t40:Int)(m0:Zh)(ap:BS):Prop:=
  P0 (IntKind.i64.wrap (t40+1)) m0 ap
section
variable(PG:Zb)(K:BS->Int->Prop)
def Zfv (P1:Int->Zh->BS->Prop)(P0:Int->Zh->BS->Prop)(t38:List Zl)(t39:Int)(t40:Int)(t55:LB)(t56:Int)(t57:Int)(m0:Zh)(ap:BS):Prop:=
  (t57<t56->0<=t57/\∃c:BS,t55[(t57).toNat]?=some c/\c.length+([10]:BS).length<=Wi/\∃j,∃e:BS,Yt PG 126 (Bl ap) [.s (c++([10]:BS))] (fun r=>r=.tup [.i .i64 j,.ni]) ((Bl e))/\P1 (IntKind.i64.wrap (t57+1)) m0 e)/\(¬(t57<t56)->Zhu PG K P0 t38 t39 t40 m0 ap)
def Zoj (ap:BS):Prop:=
  ∃c,∃e:BS,Yt PG 217 (Bl ap) [] (fun r=>r=.i .i64 c) ((Bl e))/\(c>300000->K ([]:BS) 4)/\(¬(c>300000)->∃j,Yt PG 105 (Bl e) [] (fun r=>r=.s j) (fun _ _ _ _=>True)/\K j 0)
def Ze3 (P0:Int->Zh->BS->Prop)(t38:List Zl)(t39:Int)(t40:Int)(m0:Zh)(ap:BS):Prop:=
  (t40<t39->0<=t40/\∃j:Zl,t38[(t40).toNat]?=some j/\∃e:LB,∃c,Ze PG 207 [m0.av,.i .i64 t40,j.av] (.tup [.sl .ext (List.map Zt e),.i .i64 c])/\(c≠0->K ([]:BS) c)/\(¬(c≠0)->∀P1:Int->Zh->BS->Prop,(∀(t57:Int)(m0:Zh)(ap:BS),Zfv PG K P1 P0 t38 t39 t40 e (e.length:Int) t57 m0 ap->P1 t57 m0 ap)->P1 0 m0 ap))/\(¬(t40<t39)->Zoj PG K ap)
def Zny (m0:Zh)(m1:Zw)(ap:BS):Prop:=
  ∃c:LB,Ze PG 215 [] (.ag (List.map AV.s c))/\c.length=9/\0<=m1.outcome/\∃e:BS,(c:LB)[(m1.outcome).toNat]?=some e/\([111,117,116,99,111,109,101,32]:BS).length+e.length<=Wi/\(([111,117,116,99,111,109,101,32]:BS)++e).length+([44,32,102,97,105,108,105,110,103,32]:BS).length<=Wi/\∃j:BS,Ze PG 216 [.i .i64 m1.failing] (.s j)/\((([111,117,116,99,111,109,101,32]:BS)++e)++([44,32,102,97,105,108,105,110,103,32]:BS)).length+j.length<=Wi/\(((([111,117,116,99,111,109,101,32]:BS)++e)++([44,32,102,97,105,108,105,110,103,32]:BS))++j).length+([44,32,115,116,101,112,115,32]:BS).length<=Wi/\∃k:BS,Ze PG 216 [.i .i64 m1.steps] (.s k)/\((((([111,117,116,99,111,109,101,32]:BS)++e)++([44,32,102,97,105,108,105,110,103,32]:BS))++j)++([44,32,115,116,101,112,115,32]:BS)).length+k.length<=Wi/\(((((([111,117,116,99,111,109,101,32]:BS)++e)++([44,32,102,97,105,108,105,110,103,32]:BS))++j)++([44,32,115,116,101,112,115,32]:BS))++k).length+([10]:BS).length<=Wi/\∃p,∃o:BS,Yt PG 126 (Bl ap) [.s ((((((([111,117,116,99,111,109,101,32]:BS)++e)++([44,32,102,97,105,108,105,110,103,32]:BS))++j)++([44,32,115,116,101,112,115,32]:BS))++k)++([10]:BS))] (fun r=>r=.tup [.i .i64 p,.ni]) ((Bl o))/\∀P0:Int->Zh->BS->Prop,(∀(t40:Int)(m0:Zh)(ap:BS),Ze3 PG K P0 m1.routines (m1.routines.length:Int) t40 m0 ap->P0 t40 m0 ap)->P0 0 m0 o
def Zhb (m0:Zh)(m1:Zw):Prop:=
  Zny PG K m0 m1 ([]:BS)
def Zkr (m0:Zh)(m1:Zw):Prop:=
  ∃c,Ze PG 213 [m0.av,m1.av] (.i .i64 c)/\(c≠0->K ([]:BS) c)/\(¬(c≠0)->Zhb PG K m0 m1)
def Zhm (m0:Zh)(s1:Zw):Prop:=
  Zkr PG K m0 s1
end
section
variable {PG:Zb}{d:Nat}{Q:AE->Sl->St->Prop}{K:BS->Int->Prop}(hQ:H2 AV.s (AV.i .i64) 4 5 Q K){σ:Sl}{st:St}
include hQ
variable {t38:List Zl}{t39 t40:Int}{m0:Zh}{ap:BS}{P0:Int->Zh->BS->Prop}{gq:Zm}{v0 cf:Nat}{t55:LB}{t56 t57:Int}{P1:Int->Zh->BS->Prop}{iq:Zm}{m1:Zw}{v1:Nat}{s1:Zw}
variable (kP1 :∀(t57:Int)(m0:Zh)(ap:BS),P1 t57 m0 ap->Zy3 PG d Q t38 t39 t40 t55 t56 t57 m0 ap)(H0:σ 0=m0.av) (kP0 :∀(t40:Int)(m0:Zh)(ap:BS),P0 t40 m0 ap->Ydz PG d Q t38 t39 t40 m0 ap)(H1:σ 1=s1.av)(H2:σ 2=.p (d,0) v0 0)(H3:σ 3=.p (d,1) v1 0)(H7:σ 7=.p (d,1000004*4096+0) cf 0)(Uz:σ 38=.sl gq (List.map Zl.row t38))(Db:σ 39=.i .i64 t39)(Gm:σ 40=.i .i64 t40)(H55:σ 55=.sl iq (List.map Zt t55))(H56:σ 56=.i .i64 t56)(H57:σ 57=.i .i64 t57)(B0:lk st.bx (d,0)=some (v0,Zh.cs m0))(B1:lk st.bx (d,1)=some (v1,Zw.cs m1))(bk:Bl ap st.bx st.ow (d,1000004*4096+0) cf)
include kP0 H2 H7 Uz Db Gm B0 bk in
theorem Yis (h:Zhu PG K P0 t38 t39 t40 m0 ap):W PG d Zch σ st (Zv PG d (.loop Tn) (Yd 0 (Zv PG d Pe Q))):=
 au trivial
include kP1 kP0 H2 H7 Uz Db Gm H55 H56 H57 B0 bk in
theorem Yvj (h:Zfv PG K P1 P0 t38 t39 t40 t55 t56 t57 m0 ap):W PG d Zdz σ st (Zv PG d (.loop Zdz) (Yd 2 (Yd 1 (Zv PG d Zch (Zv PG d (.loop Tn) (Yd 0 (Zv PG d Pe Q))))))):=
 q_ J (b_ H57 H56 Vc (e_ (Zp (Yk J (fun c=>Yg (Zp (Yn (q_ J ((h.1 c).2.elim fun _ e=>Vx H55 H57 (h.1 c).1 e.1 J J (Vd J J J (m_ (e_ (W.reg0 J fun _ _=>m_ (b_ J J (Vp e.2.1) (e.2.2.elim fun _ j=>j.elim fun _ i=>Xz (Zz H7 (Zz J Yq)) i.1 (kC d) bk (fun _ k o=>e_ (W.reg0 J fun _ _=>b_ H57 J Vv (m_ (e_ (kP1 _ _ _ i.2 _ _ _ _ _ _ H2 H7 Uz Db Gm H55 H56 J ((o.1 (d,0) (kC d) (Wa J)).trans B0) k)))))))))))))))) (fun c=>Jm (Yis hQ kP0 H2 H7 Uz Db Gm B0 bk (h.2 c)))))))
include H7 bk in
theorem Yse (h:Zoj PG K ap):W PG d Pe σ st Q:=
 Zp (q_ J (h.elim fun _ j=>j.elim fun _ c=>Xz (Zz H7 Yq) c.1 (kC d) bk (fun _ k _=>b_ J J Qb (e_ (Yk J (fun e=>q_ J (m_ (m_ (Zr (hQ J J (c.2.1 e)))))) (fun e=>Yg (q_ J ((c.2.2 e).elim fun _ i=>Xz (Zz H7 Yq) i.1 (kC d) k (fun _ _ _=>m_ (m_ (Zr (hQ J J i.2))))))))))))
include kP0 H2 H7 Uz Db Gm B0 bk in
theorem Yyq (h:Ze3 PG K P0 t38 t39 t40 m0 ap):W PG d Tn σ st (Zv PG d (.loop Tn) (Yd 0 (Zv PG d Pe Q))):=
 q_ J (b_ Gm Db Vc (e_ (Zp (Yk J (fun c=>Yg (Zp (Yn (Zp (W.reg (m_ ((h.1 c).2.elim fun p k=>Vx Uz Gm (h.1 c).1 k.1 (Zl.row_eq p) J (Vd J J J (Xo (m_ (Yc J (show lk _ (d,32771)=some (_,([.i .u8 0,.i .i64 0,.sl .full (List.map Zg.row ([]:List Zg)),.sl .full (List.map Zi.row ([]:List Zi)),.sl .full (List.map Zf.row ([]:List Zf))]:List AV)) from Zj) J J J (e_ (q_ J (l_ H2 (Zs J (Zs J B0)) J J (m_ (l_ J Zj J J (x2 k.2 fun o _ e=>Ya (Tt J Gm J J) e.1 (m_ (x_ J J (x_ J J (Yf J (m_ (e_ (Zp (q_ J (m_ (b_ J J Jc (e_ (Yk J (fun j=>q_ J (m_ (m_ (m_ (Zr (hQ J J (e.2.1 j))))))) (fun j=>Yg (q_ J (Yf J (Wk J (m_ (e_ (Yn ((e.2.2 j) (Zy3 PG d Q t38 t39 t40 o (o.length:Int)) (fun _ _ _ hb _ _ _ _ _ _ H2 H7 Uz Db Gm H55 H56 H57 B0 bk=>W.loop (Yvj hQ (fun _ _ _ x=>x) kP0 H2 H7 Uz Db Gm H55 H56 H57 B0 bk hb)) _ _ _ _ _ _ H2 H7 Uz Db Gm J J J (Zs J (Zs J B0)) (Bl.other (Wa J) (Bl.other (Wa J) bk))))))))))))))))))))))))))))))))))))))) (fun c=>Jm (Yse hQ H7 bk (h.2 c)))))))
include H2 H3 H7 B0 B1 bk in
theorem Xfj (h:Zny PG K m0 m1 ap):W PG d Zyz σ st Q:=
 q_ J (h.elim fun _ e=>Ya sn e.1 (f_ H3 (l_ J B1 J J (e.2.2.2.elim fun _ j=>Ty (f:=AV.s) e.2.1 J J e.2.2.1 j.1 (b_ J J (Vp j.2.1) (b_ J J (Vp j.2.2.1) (f_ H3 (l_ J B1 J J (j.2.2.2.elim fun _ c=>Ya (Ys J J) c.1 (b_ J J (Vp c.2.1) (b_ J J (Vp c.2.2.1) (f_ H3 (l_ J B1 J J (c.2.2.2.elim fun _ i=>Ya (Ys J J) i.1 (b_ J J (Vp i.2.1) (b_ J J (Vp i.2.2.1) (i.2.2.2.elim fun _ p=>p.elim fun _ k=>Xz (Zz H7 (Zz J Yq)) k.1 (kC d) bk (fun _ q o=>e_ (Zp (q_ J (f_ H3 (l_ J ((o.1 (d,1) (kC d) (Wa J)).trans B1) J J (Wk J (m_ (e_ (Yn (k.2 (Ydz PG d Q m1.routines (m1.routines.length:Int)) (fun _ _ _ hb _ _ _ _ _ H2 H7 Uz Db Gm B0 bk=>W.loop (Yyq hQ (fun _ _ _ x=>x) H2 H7 Uz Db Gm B0 bk hb)) _ _ _ _ _ H2 H7 J J J ((o.1 (d,0) (kC d) (Wa J)).trans B0) q)))))))))))))))))))))))))))
include H2 H3 B0 B1 in
theorem Yvi (h:Zhb PG K m0 m1):W PG d Zu4 σ st Q:=
 Zp (W.regB J (fun _ _ _ e c=>Xfj hQ H2 H3 J ((c (d,0) (Wa J)).trans B0) ((c (d,1) (Wa J)).trans B1) e h))
include H2 H3 B0 B1 in
theorem Xbc (h:Zkr PG K m0 m1):W PG d Yf7 σ st Q:=
 Zp (q_ J (l_ H2 B0 J J (l_ H3 B1 J J (h.elim fun _ c=>Ya (Je J J J) c.1 (m_ (e_ (q_ J (m_ (b_ J J Jc (e_ (Yk J (fun e=>q_ J (m_ (m_ (m_ (Zr (hQ J J (c.2.1 e))))))) (fun e=>Yg (Yvi hQ H2 H3 B0 B1 (c.2.2 e))))))))))))))
include H0 H1 in
theorem Yx2 (h:Zhm PG K m0 s1):W PG d Zti σ st Q:=
 q_ J (Qa H0 J (Qa H1 J (m_ (m_ (e_ (Xbc hQ J J (Zs J Zj) Zj h))))))
end
theorem Xau {PG:Zb}(hf:PG.fn 205=some Zaj){m0:Zh}{s1:Zw}{K:BS->Int->Prop}(h:Zhm PG K m0 s1) :∃aa:BS,∃ae:Int,K aa ae/\Ze PG 205 [m0.av,s1.av] (.tup [.s aa,.i .i64 ae]):=
 P2 hf J (Yx2 (h2 J fun _ _=>J) J J h)
abbrev Ymc:AC:=(.seq (sR 7 [oM 41 8,oM 42 7,oJ 43 42,oT 44 .lss 41 43] (.cond (.t 44) .skip (.exit 2))) (.seq (.block 3 (.reg 9 [oM 47 5,oM 48 7,oM 49 8,oX 50 1 48 49,oL 51 50,oB 52 .add (.t 51) (.c (.s [10])),oT 53 .add 47 52,oM 5 53])) (.reg 8 [oM 45 8,oV 46 .add 45 1,oM 8 46])))
abbrev Xhy:AC:=(.reg 4 [oM 31 6,oV 32 .add 31 1,oM 6 32])
abbrev Yjy:AC:=(.seq (sR 3 [oM 26 6,oF 27 3 3,oL 28 27,oJ 29 28,oT 30 .lss 26 29] (.cond (.t 30) .skip (.exit 0))) (.seq (.block 1 (sR 5 [oK 33 3 2,oM 34 6,oF 35 3 3,oL 36 35,oM 37 6,oX 38 5 36 37,oK 39 5 38,oQ 40 222 [33,34,39],oM 7 40] (sR 6 [oI 8 0] (.block 2 (.loop Ymc))))) Xhy))
abbrev Yj2:AC:=(sR 10 [oM 54 5,oM 4 54] .ret)
abbrev Xd1:AC:=(sR 0 [oY 2 3 0,oY 3 4 1,oC 4 (.s [])] (sR 1 [oQ 9 223 [],oF 10 0 3,oL 11 10,oX 12 1 9 11,oL 13 12,oB 14 .add (.c (.s [111,117,116,99,111,109,101,32])) (.t 13),oB 15 .add (.t 14) (.c (.s [44,32,102,97,105,108,105,110,103,32])),oF 16 1 3,oL 17 16,oQ 18 226 [17],oT 19 .add 15 18,oB 20 .add (.t 19) (.c (.s [44,32,115,116,101,112,115,32])),oF 21 2 3,oL 22 21,oQ 23 226 [22],oT 24 .add 20 23,oB 25 .add (.t 24) (.c (.s [10])),oM 5 25] (.seq (sR 2 [oI 6 0] (.block 0 (.loop Yjy))) Yj2)))
def Zl2:AF:={ nt:=55,res:=[.tmp 4],body:=Xd1 }
abbrev Yxd (Q:AE->Sl->St->Prop)(K:BS->Prop):Prop:=∀(σ:Sl)(st:St)(aa:BS),σ 4=.s aa->K aa->Q .ret σ st
section
variable {PG:Zb}{d:Nat}{Q:AE->Sl->St->Prop}{K:BS->Prop}(hQ:Yxd Q K){σ:Sl}{st:St}
include hQ
end
abbrev Xcv (Q:AE->Sl->St->Prop)(K:BS->Int->Prop):Prop:=∀(σ:Sl)(st:St)(aa:BS)(ae:Int),σ 4=.s aa->σ 5=.i .i64 ae->K aa ae->Q .ret σ st
section
variable {PG:Zb}{d:Nat}{Q:AE->Sl->St->Prop}{K:BS->Int->Prop}(hQ:Xcv Q K){σ:Sl}{st:St}
include hQ
end
end Go.AM

namespace Go.AM
open Go
set_option maxRecDepth 4000
attribute [local irreducible] WO Xq We
abbrev Yqy (Q:AE->Sl->St->Prop)(K:Bool->Prop):Prop:=∀(σ:Sl)(st:St)(aa:Bool),σ 2=.b aa->K aa->Q .ret σ st
section
variable {PG:Zb}{d:Nat}{Q:AE->Sl->St->Prop}{K:Bool->Prop}(hQ:Yqy Q K){σ:Sl}{st:St}
include hQ
end
abbrev Xgh (Q:AE->Sl->St->Prop)(K:Bool->Prop):Prop:=∀(σ:Sl)(st:St)(aa:Bool),σ 2=.b aa->K aa->Q .ret σ st
section
variable {PG:Zb}{d:Nat}{Q:AE->Sl->St->Prop}{K:Bool->Prop}(hQ:Xgh Q K){σ:Sl}{st:St}
include hQ
end
abbrev Yt9 (Q:AE->Sl->St->Prop)(K:Bool->Prop):Prop:=∀(σ:Sl)(st:St)(aa:Bool),σ 12=.b aa->K aa->Q .ret σ st
section
variable {PG:Zb}{d:Nat}{Q:AE->Sl->St->Prop}{K:Bool->Prop}(hQ:Yt9 Q K){σ:Sl}{st:St}
include hQ
end
end Go.AM

namespace Go.AM
open Go
def Zmo:AF:={ nt:=8,res:=[.tmp 2],fz:=[],body:=
  (.seq (.reg 0 [⟨(some 2),.mv (.c (.i .i64 0)),none⟩])
  (.seq (.reg 1000001 [⟨(some 3),.mv (.t 0),none⟩,
    ⟨(some 4),.nilc (.t 3),none⟩,
    ⟨(some 5),.fad 1 (.t 4),none⟩,
    ⟨(some 6),.load 1 false (.t 5),none⟩,
    ⟨(some 7),.len false (.t 6),none⟩,
    ⟨(some 2),.mv (.t 7),none⟩])
  .ret)) }
end Go.AM

namespace Go.AM
open Go
set_option maxRecDepth 4000
set_option maxHeartbeats 1000000
set_option maxHeartbeats 2000000
attribute [local irreducible] Decidable.decide W WO Xq We
abbrev Zvw:AC:=(sR 0 [oC 4 (.b false)] (sR 1 [oM 5 0,oM 6 1,oQ 7 46 [5,6],oM 4 7] .ret))
def Ze2:AF:={ nt:=8,res:=[.tmp 4],body:=Zvw }
section
variable(PG:Zb)(K:Bool->Prop)
def Zmz (s0:BS)(ah:BS):Prop:=
  ∃c,Ze PG 46 [.s s0,.s ah] (.b c)/\K c
end
section
variable {PG:Zb}{d:Nat}{Q:AE->Sl->St->Prop}{K:Bool->Prop}(hQ:H1 AV.b 4 Q K){σ:Sl}{st:St}
include hQ
variable {s0 ah:BS}
variable (H0:σ 0=.s s0)(H1:σ 1=.s ah)
include H0 H1 in
theorem Yss (h:Zmz PG K s0 ah):W PG d Zvw σ st Q:=
 au trivial
end
theorem Yg8 {PG:Zb}(hf:PG.fn 306=some Ze2){s0:BS}{ah:BS}{K:Bool->Prop}(h:Zmz PG K s0 ah) :∃aa:Bool,K aa/\Ze PG 306 [.s s0,.s ah] (.b aa):=
 P1 hf J (Yss (h1 J fun _=>J) J J h)
abbrev Zth:AC:=(sR 0 [oC 4 (.s [])] (sR 1 [oM 5 0,oM 6 1,oQ 7 322 [5,6],oM 4 7] .ret))
def Zdc:AF:={ nt:=8,res:=[.tmp 4],body:=Zth }
section
variable(PG:Zb)(K:BS->Prop)
def Zn0 (s0:BS)(ah:BS):Prop:=
  ∃c,Ze PG 322 [.s s0,.s ah] (.s c)/\K c
end
section
variable {PG:Zb}{d:Nat}{Q:AE->Sl->St->Prop}{K:BS->Prop}(hQ:H1 AV.s 4 Q K){σ:Sl}{st:St}
include hQ
variable {s0 ah:BS}
variable (H0:σ 0=.s s0)(H1:σ 1=.s ah)
include H0 H1 in
theorem Yub (h:Zn0 PG K s0 ah):W PG d Zth σ st Q:=
 au trivial
end
theorem Yuw {PG:Zb}(hf:PG.fn 316=some Zdc){s0:BS}{ah:BS}{K:BS->Prop}(h:Zn0 PG K s0 ah) :∃aa:BS,K aa/\Ze PG 316 [.s s0,.s ah] (.s aa):=
 P1 hf J (Yub (h1 J fun _=>J) J J h)
abbrev Ya5:AC:=(sR 0 [oC 4 (.s [])] (.seq (sR 1 [oM 5 0,oM 6 1,oQ 7 46 [5,6]] (.cond (.t 7) (sR 2 [oM 8 0,oM 9 1,oH 10 9,oO 11 (.slS (.t 8) (some (.t 10)) none),oM 4 11] .ret) .skip)) (sR 3 [oM 12 0,oM 4 12] .ret)))
def Zg5:AF:={ nt:=13,res:=[.tmp 4],body:=Ya5 }
section
variable(PG:Zb)(K:BS->Prop)
def Zmn (s0:BS)(ah:BS):Prop:=
  ∃c,Ze PG 46 [.s s0,.s ah] (.b c)/\(c=true->0<=(ah.length:Int)/\(ah.length:Int).toNat<=s0.length/\K (s0.drop (ah.length:Int).toNat))/\(c=false->K s0)
end
section
variable {PG:Zb}{d:Nat}{Q:AE->Sl->St->Prop}{K:BS->Prop}(hQ:H1 AV.s 4 Q K){σ:Sl}{st:St}
include hQ
variable {s0 ah:BS}
variable (H0:σ 0=.s s0)(H1:σ 1=.s ah)
include H0 H1 in
theorem Ytc (h:Zmn PG K s0 ah):W PG d Ya5 σ st Q:=
 au trivial
end
theorem Yxf {PG:Zb}(hf:PG.fn 322=some Zg5){s0:BS}{ah:BS}{K:BS->Prop}(h:Zmn PG K s0 ah) :∃aa:BS,K aa/\Ze PG 322 [.s s0,.s ah] (.s aa):=
 P1 hf J (Ytc (h1 J fun _=>J) J J h)
abbrev Ybn:AC:=(sR 0 [oC 4 (.s []),oC 5 (.s []),oC 6 (.b false)] (sR 1 [oM 7 0,oM 8 1,oQ 9 266 [7,8],oE 10 0 9,oE 11 1 9,oE 12 2 9,oM 4 10,oM 5 11,oM 6 12] .ret))
def Ot:AF:={ nt:=13,res:=[.tmp 4,.tmp 5,.tmp 6],body:=Ybn }
abbrev Ykv (Q:AE->Sl->St->Prop)(K:BS->BS->Bool->Prop):Prop:=∀(σ:Sl)(st:St)(aa:BS)(ae:BS)(bm:Bool),σ 4=.s aa->σ 5=.s ae->σ 6=.b bm->K aa ae bm->Q .ret σ st
section
variable(PG:Zb)(K:BS->BS->Bool->Prop)
def Zq3 (s0:BS)(dq:BS):Prop:=
  ∃i c e,Ze PG 266 [.s s0,.s dq] (.tup [.s i,.s c,.b e])/\K i c e
end
section
variable {PG:Zb}{d:Nat}{Q:AE->Sl->St->Prop}{K:BS->BS->Bool->Prop}(hQ:Ykv Q K){σ:Sl}{st:St}
include hQ
variable {s0 dq:BS}
variable (H0:σ 0=.s s0)(H1:σ 1=.s dq)
include H0 H1 in
theorem Ym8 (h:Zq3 PG K s0 dq):W PG d Ybn σ st Q:=
 au trivial
end
theorem Xeo {PG:Zb}(hf:PG.fn 260=some Ot){s0:BS}{dq:BS}{K:BS->BS->Bool->Prop}(h:Zq3 PG K s0 dq) :∃aa:BS,∃ae:BS,∃bm:Bool,K aa ae bm/\Ze PG 260 [.s s0,.s dq] (.tup [.s aa,.s ae,.b bm]):=by
  obtain ⟨v,hv,aa,ae,bm,hk,rfl⟩:=Ze.of (K:=fun v=>∃aa:BS,∃ae:BS,∃bm:Bool,K aa ae bm/\v=.tup [.s aa,.s ae,.b bm]) hf rfl (Ym8 (σ:=Wc [.s s0,.s dq]) (fun σ st   aa ae bm H4 H5 H6 hk=>⟨.tup [.s aa,.s ae,.b bm],by simp only [Ot,Xk,Vb,H4,H5,H6,Kg,kJ],_,rfl,aa,ae,bm,hk,rfl⟩) rfl rfl h)
  exact ⟨aa,ae,bm,hk,hv⟩
abbrev Zt3:AC:=(sR 0 [oC 4 (.s []),oC 5 (.s []),oC 6 (.b false)] (.seq (sR 1 [oM 8 0,oM 9 1,oQ 10 197 [8,9],oM 7 10] (sR 2 [oM 11 7,oV 12 .geq 11 0] (.cond (.t 12) (sR 3 [oM 13 0,oM 14 7,oO 15 (.slS (.t 13) none (some (.t 14))),oM 16 0,oM 17 7,oM 18 1,oH 19 18,oT 20 .add 17 19,oO 21 (.slS (.t 16) (some (.t 20)) none),oM 4 15,oM 5 21,oC 6 (.b true)] .ret) .skip))) (sR 4 [oM 22 0,oM 4 22,oC 5 (.s []),oC 6 (.b false)] .ret)))
def Es:AF:={ nt:=23,res:=[.tmp 4,.tmp 5,.tmp 6],body:=Zt3 }
abbrev Xdd (Q:AE->Sl->St->Prop)(K:BS->BS->Bool->Prop):Prop:=∀(σ:Sl)(st:St)(aa:BS)(ae:BS)(bm:Bool),σ 4=.s aa->σ 5=.s ae->σ 6=.b bm->K aa ae bm->Q .ret σ st
section
variable(PG:Zb)(K:BS->BS->Bool->Prop)
def Zj5 (s0:BS)(dq:BS):Prop:=
  ∃c,Ze PG 197 [.s s0,.s dq] (.i .i64 c)/\(c>=0->0<=c/\(c).toNat<=s0.length/\0<=(IntKind.i64.wrap (c+(dq.length:Int)))/\(IntKind.i64.wrap (c+(dq.length:Int))).toNat<=s0.length/\K (s0.take (c).toNat) (s0.drop (IntKind.i64.wrap (c+(dq.length:Int))).toNat) true)/\(¬(c>=0)->K s0 ([]:BS) false)
end
section
variable {PG:Zb}{d:Nat}{Q:AE->Sl->St->Prop}{K:BS->BS->Bool->Prop}(hQ:Xdd Q K){σ:Sl}{st:St}
include hQ
variable {s0 dq:BS}
variable (H0:σ 0=.s s0)(H1:σ 1=.s dq)
include H0 H1 in
theorem Xh2 (h:Zj5 PG K s0 dq):W PG d Zt3 σ st Q:=
 au trivial
end
theorem Yrn {PG:Zb}(hf:PG.fn 266=some Es){s0:BS}{dq:BS}{K:BS->BS->Bool->Prop}(h:Zj5 PG K s0 dq) :∃aa:BS,∃ae:BS,∃bm:Bool,K aa ae bm/\Ze PG 266 [.s s0,.s dq] (.tup [.s aa,.s ae,.b bm]):=by
  obtain ⟨v,hv,aa,ae,bm,hk,rfl⟩:=Ze.of (K:=fun v=>∃aa:BS,∃ae:BS,∃bm:Bool,K aa ae bm/\v=.tup [.s aa,.s ae,.b bm]) hf rfl (Xh2 (σ:=Wc [.s s0,.s dq]) (fun σ st   aa ae bm H4 H5 H6 hk=>⟨.tup [.s aa,.s ae,.b bm],by simp only [Es,Xk,Vb,H4,H5,H6,Kg,kJ],_,rfl,aa,ae,bm,hk,rfl⟩) rfl rfl h)
  exact ⟨aa,ae,bm,hk,hv⟩
abbrev Zxj:AC:=(sR 0 [oI 2 0,oC 3 (.b false)] (sR 1 [oM 7 0,oQ 8 21 [7],oM 6 8,oE 9 0 6,oE 10 1 6,oM 4 9,oM 5 10] (sR 2 [oM 11 4,oM 12 5,oV 13 .eql 12 0,oM 2 11,oM 3 13] .ret)))
def Zd9:AF:={ nt:=14,res:=[.tmp 2,.tmp 3],body:=Zxj }
section
variable(PG:Zb)(K:Int->Bool->Prop)
def Zjn (s0:BS):Prop:=
  ∃e c,Ze PG 21 [.s s0] (.tup [.i .i64 e,.i .i64 c])/\K e (decide (c=0))
end
section
variable {PG:Zb}{d:Nat}{Q:AE->Sl->St->Prop}{K:Int->Bool->Prop}(hQ:H2 (AV.i .i64) AV.b 2 3 Q K){σ:Sl}{st:St}
include hQ
variable {s0:BS}
variable (H0:σ 0=.s s0)
include H0 in
theorem Xhn (h:Zjn PG K s0):W PG d Zxj σ st Q:=
 au trivial
end
theorem Yls {PG:Zb}(hf:PG.fn 317=some Zd9){s0:BS}{K:Int->Bool->Prop}(h:Zjn PG K s0) :∃aa:Int,∃ae:Bool,K aa ae/\Ze PG 317 [.s s0] (.tup [.i .i64 aa,.b ae]):=
 P2 hf J (Xhn (h2 J fun _ _=>J) J h)
abbrev Ybt:AC:=(sR 0 [oO 2 (.alloc [z8,z6,zl,zl,zl]),oC 3 (.b false)] (sR 1 [oM 12 0,oO 13 (.call false 260 [(.t 12),(.c (.s [58,32]))]),oM 11 13,oE 14 0 11,oE 15 1 11,oE 16 2 11,oM 4 14,oM 5 15,oM 6 16] (sR 2 [oM 18 5,oO 19 (.call false 36 [(.t 18),(.c (.s [98,108,111,99,107,101,100,32]))]),oM 17 19,oE 20 0 17,oE 21 1 17,oM 7 20,oM 8 21] (.seq (.block 0 (sR 3 [oM 23 6,oZ 24 23,oM 22 24] (.cond (.t 22) (sR 4 [oO 25 (.build [z8,z6,zl,zl,zl] []),oS 5 2 25,oC 3 (.b false)] .ret) (sR 5 [oM 27 8,oM 26 27] (.cond (.t 26) (sR 6 [oM 29 7,oQ 30 21 [29],oM 28 30,oE 31 0 28,oE 32 1 28,oM 9 31,oM 10 32] (sR 7 [oM 33 9,oO 34 (.build [z8,z6,zl,zl,zl] [(0,1,(.c (.i .u8 2))),(1,1,(.t 33))]),oM 35 10,oV 36 .eql 35 0,oS 5 2 34,oM 3 36] .ret)) (sR 8 [oM 38 5,oB 39 .eql (.t 38) (.c (.s [114,101,97,100,121])),oM 37 39] (.cond (.t 37) (sR 9 [oO 40 (.build [z8,z6,zl,zl,zl] [(0,1,(.c (.i .u8 1)))]),oS 5 2 40,oC 3 (.b true)] .ret) .skip))))))) (sR 10 [oO 41 (.build [z8,z6,zl,zl,zl] [(0,1,(.c (.i .u8 3)))]),oM 42 5,oB 43 .eql (.t 42) (.c (.s [100,111,110,101])),oS 5 2 41,oM 3 43] .ret)))))
def Fa:AF:={ nt:=44,res:=[.cell 2 5 true,.tmp 3],body:=Ybt }
abbrev Yue (d:Nat)(Zk:St)(Q:AE->Sl->St->Prop)(K:Zl->Bool->Prop):Prop:=∀(σ:Sl)(st:St)(k0:Zo)(v0:Nat)(aa:Zl)(ae:Bool),σ 2=.p k0 v0 0->lk st.bx k0=some (v0,[.i .u8 aa.status,.i .i64 aa.key,.sl .full (List.map Zg.row aa.frames),.sl .full (List.map Zi.row aa.defers),.sl .full (List.map Zf.row aa.panics)])->σ 3=.b ae->Fr d (d,0) Zk.bx Zk.ow st.bx st.ow->K aa ae->Q .ret σ st
section
variable(PG:Zb)(K:Zl->Bool->Prop)
def Zq4 (s0:BS):Prop:=
  ∃c e k,Ze PG 260 [.s s0,.s ([58,32]:BS)] (.tup [.s c,.s e,.b k])/\∃p j,Ze PG 36 [.s e,.s ([98,108,111,99,107,101,100,32]:BS)] (.tup [.s p,.b j])/\((!k)=true->K (Zl.mk 0 0 ([]:List Zg) ([]:List Zi) ([]:List Zf)) false)/\((!k)=false->(j=true->∃q o,Ze PG 21 [.s p] (.tup [.i .i64 q,.i .i64 o])/\K (Zl.mk 2 q ([]:List Zg) ([]:List Zi) ([]:List Zf)) (decide (o=0)))/\(j=false->(e=([114,101,97,100,121]:BS)->K (Zl.mk 1 0 ([]:List Zg) ([]:List Zi) ([]:List Zf)) true)/\(¬(e=([114,101,97,100,121]:BS))->K (Zl.mk 3 0 ([]:List Zg) ([]:List Zi) ([]:List Zf)) (decide (e=([100,111,110,101]:BS))))))
end
section
variable {PG:Zb}{d:Nat}{Q:AE->Sl->St->Prop}{K:Zl->Bool->Prop}{Zk:St}(hQ:Yue d Zk Q K){σ:Sl}{st:St}
include hQ
variable {s0:BS}
variable (H0:σ 0=.s s0)(FR:Fr d (d,0) Zk.bx Zk.ow st.bx st.ow)
include H0 FR in
theorem Xek (h:Zq4 PG K s0):W PG d Ybt σ st Q:=
 Zp (W.reg (Xo (m_ (e_ (q_ J (m_ (x2 h fun _ _ q=>q.elim fun _ p=>Ya (Je H0 J J) p.1 (m_ (x_ J J (x_ J J (x_ J J (m_ (m_ (m_ (e_ (q_ J (m_ (x2 p.2 fun _ _ c=>Ya (Je J J J) c.1 (m_ (x_ J J (x_ J J (m_ (m_ (e_ (Zp (Yn (q_ J (m_ (Wo J (m_ (e_ (Wp J (fun e=>q_ J (Yi Yh (Yc J (show lk _ (d,0)=some (_,([.i .u8 0,.i .i64 0,.sl .full (List.map Zg.row ([]:List Zg)),.sl .full (List.map Zi.row ([]:List Zi)),.sl .full (List.map Zf.row ([]:List Zf))]:List AV)) from Zj) J J J (m_ (Zr (hQ _ _ _ _ _ _ J Zj J (Fr.box (Fr.box FR)) (c.2.1 e))))))) (fun e=>q_ J (m_ (m_ (e_ (Wp J (fun j=>q_ J (m_ (x2 ((c.2.2 e).1 j) fun _ _ o=>Ya (Ys J J) o.1 (m_ (x_ J J (x_ J J (m_ (m_ (e_ (q_ J (m_ (Yi (Yl J J (Yl J J Yh)) (m_ (b_ J J Xc (Yc J (show lk _ (d,0)=some (_,([.i .u8 0,.i .i64 0,.sl .full (List.map Zg.row ([]:List Zg)),.sl .full (List.map Zi.row ([]:List Zi)),.sl .full (List.map Zf.row ([]:List Zf))]:List AV)) from Zj) J J J (m_ (Zr (hQ _ _ _ _ _ _ J Zj J (Fr.box (Fr.box FR)) o.2)))))))))))))))))) (fun j=>q_ J (m_ (b_ J J To (m_ (e_ (Yk J (fun k=>q_ J (Yi (Yl J J Yh) (Yc J (show lk _ (d,0)=some (_,([.i .u8 0,.i .i64 0,.sl .full (List.map Zg.row ([]:List Zg)),.sl .full (List.map Zi.row ([]:List Zi)),.sl .full (List.map Zf.row ([]:List Zf))]:List AV)) from Zj) J J J (m_ (Zr (hQ _ _ _ _ _ _ J Zj J (Fr.box (Fr.box FR)) (((c.2.2 e).2 j).1 k))))))) (fun k=>Yg (q_ J (Yi (Yl J J Yh) (m_ (b_ J J To (Yc J (show lk _ (d,0)=some (_,([.i .u8 0,.i .i64 0,.sl .full (List.map Zg.row ([]:List Zg)),.sl .full (List.map Zi.row ([]:List Zi)),.sl .full (List.map Zf.row ([]:List Zf))]:List AV)) from Zj) J J J (m_ (Zr (hQ _ _ _ _ _ _ J Zj J (Fr.box (Fr.box FR)) (((c.2.2 e).2 j).2 k)))))))))))))))))))))))))))))))))))))))))))))))))))))
end
theorem Ypq {PG:Zb}(hf:PG.fn 308=some Fa){s0:BS}{K:Zl->Bool->Prop}(h:Zq4 PG K s0):Ym PG 308 [.s s0] (fun r=>∃aa:Zl,∃ae:Bool,(r=.tup [.ag [.i .u8 aa.status,.i .i64 aa.key,.sl .full (List.map Zg.row aa.frames),.sl .full (List.map Zi.row aa.defers),.sl .full (List.map Zf.row aa.panics)],.b ae])/\K aa ae):=
  Ym.of hf rfl fun d st=>Xek (Zk:=st) (Q:=fun e σ st'=>(e=.normal\/e=.ret)/\∃r,Xk σ st' Fa.res=some r/\_/\Fr d (d,0) st.bx st.ow st'.bx st'.ow) (fun σ st' k0 v0  aa ae H2 HB2 H3 hf hk=>⟨.inr rfl,.tup [.ag [.i .u8 aa.status,.i .i64 aa.key,.sl .full (List.map Zg.row aa.frames),.sl .full (List.map Zi.row aa.defers),.sl .full (List.map Zf.row aa.panics)],.b ae],by simp only [Fa,Xk,Vb,Jr (n:=5) H2 HB2 rfl,H3,Ky,kJ,Jr (n:=5) H2 HB2 rfl,H3],⟨aa,ae,rfl,hk⟩,hf⟩) (σ:=Wc [.s s0]) rfl Fr.refl h
abbrev Zrl:AC:=(.seq (sR 14 [oM 82 12,oB 83 .eql (.t 82) (.c (.s []))] (.cond (.t 83) (sR 15 [oK 84 8 6,oS 8 4 84,oC 5 (.b true)] .ret) .skip)) (.seq (sR 16 [oM 86 12,oO 87 (.call false 316 [(.t 86),(.c (.s [32,119,105,116,104,32]))]),oQ 88 74 [87],oM 85 88,oE 89 0 85,oE 90 1 85,oO 13 (.alloc [z8,z6,zs,zl,zb]),oS 5 13 89,oM 11 90] (.frz 13)) (sR 17 [oO 91 (.ldf 5 true (.t 13)),oF 92 2 6,⟨none,.store 1 (.t 92) (.c (.b true)),none⟩,oF 93 3 6,oS 5 93 91] (sR 18 [oK 94 8 6,oM 95 11,oV 96 .eql 95 0,oS 8 4 94,oM 5 96] .ret))))
abbrev Zsu:AC:=(sR 10 [oF 57 2 2,oL 58 57,oF 59 1 6,oL 60 59,oX 61 7 58 60,oF 62 0 61,oL 63 62,oQ 64 11 [63],oM 56 64,oE 65 0 56,oE 66 1 56,oM 10 65,oM 11 66] (sR 11 [oM 68 7,oO 69 (.iaL 1 (.t 68) (.c (.i .i64 3))),oL 70 69,oM 71 10,oQ 72 36 [70,71],oM 67 72,oE 73 0 67,oE 74 1 67,oM 12 73,oM 8 74] (.seq (sR 12 [oM 75 11,oV 76 .neq 75 0,oM 77 76,gF 77 (oM 78 8),gF 77 (oZ 79 78),oR 80 77 79] (.cond (.t 80) (sR 13 [oK 81 8 6,oS 8 4 81,oC 5 (.b false)] .ret) .skip)) Zrl)))
abbrev Zzu:AC:=(.seq (sR 8 [oM 36 8,oZ 37 36,oM 38 37,gF 38 (oM 39 9),gF 38 (oZ 40 39),oR 41 38 40,oM 42 41,gF 42 (oF 43 1 6),gF 42 (oL 44 43),gF 42 (oV 45 .lss 44 0),oR 46 42 45,oM 47 46,gF 47 (oF 48 1 6),gF 47 (oL 49 48),gF 47 (oF 50 2 2),gF 47 (oL 51 50),gF 47 (oJ 52 51),gF 47 (oT 53 .geq 49 52),oR 54 47 53] (.cond (.t 54) (sR 9 [oK 55 8 6,oS 8 4 55,oC 5 (.b false)] .ret) .skip)) Zsu)
abbrev Ztu:AC:=(sR 7 [oM 29 7,oO 30 (.iaL 1 (.t 29) (.c (.i .i64 2))),oL 31 30,oQ 32 317 [31],oM 28 32,oE 33 0 28,oE 34 1 28,oF 35 1 6,oS 1 35 33,oM 9 34] Zzu)
abbrev Ya4:AC:=(sR 6 [oM 21 7,oO 22 (.iaL 1 (.t 21) (.c (.i .i64 1))),oL 23 22,oQ 24 317 [23],oM 20 24,oE 25 0 20,oE 26 1 20,oF 27 0 6,oS 1 27 25,oM 8 26] Ztu)
abbrev Ydj:AC:=(sR 5 [oC 8 (.b false),oC 9 (.b false)] Ya4)
abbrev Yeb:AC:=(.seq (sR 3 [oM 16 7,oJ 17 16,oV 18 .lss 17 4] (.cond (.t 18) (sR 4 [oK 19 8 6,oS 8 4 19,oC 5 (.b false)] .ret) .skip)) Ydj)
abbrev Yb1:AC:=(sR 2 [oM 14 1,oO 15 (.call false 323 [(.t 14),(.c (.s [32])),(.c (.i .i64 4))]),oM 7 15] Yeb)
abbrev Yah:AC:=(sR 1 [oO 6 (.alloc [z6,z6,zb,z8,z6,zs,zl,zb])] Yb1)
abbrev Zyp:AC:=(sR 0 [oY 2 3 0,oO 4 (.alloc [z6,z6,zb,z8,z6,zs,zl,zb]),oC 5 (.b false)] Yah)
def Iu:AF:={ nt:=97,res:=[.cell 4 8 true,.tmp 5],fz:=[13],body:=Zyp }
abbrev Yml (Q:AE->Sl->St->Prop)(K:Zi->Bool->Prop):Prop:=∀(σ:Sl)(st:St)(k0:Zo)(v0:Nat)(bj:Zm)(aa:Zi)(ae:Bool),σ 4=.p k0 v0 0->lk st.bx k0=some (v0,[.i .i64 aa.frame,.i .i64 aa.func,.b aa.hasArg,.i .u8 aa.arg.kind,.i .i64 aa.arg.int,.s aa.arg.text,.sl bj (List.map Za.row aa.arg.list),.b aa.arg.cut])->σ 5=.b ae->K aa ae->Q .ret σ st
section
variable(PG:Zb)(K:Zi->Bool->Prop)
def Znz (fo:BS)(m1:Zi)(af:Zi):Prop:=
  (fo=([]:BS)->K af true)/\(¬(fo=([]:BS))->∃e,Ze PG 316 [.s fo,.s ([32,119,105,116,104,32]:BS)] (.s e)/\∃j:Za,∃c,Ze PG 74 [.s e] (.tup [j.av,.i .i64 c])/\K (Zi.mk af.frame af.func true j) (decide (c=0)))
def Zij (w7:LB)(m0:Zh)(m1:Zi)(af:Zi):Prop:=
  0<=af.func/\∃k:Ye,m0.funcs[(af.func).toNat]?=some k/\∃p c,Ze PG 11 [.s k.name] (.tup [.s p,.i .i64 c])/\∃j,w7[3]?=some j/\∃o e,Ze PG 36 [.s j,.s p] (.tup [.s o,.b e])/\(c≠0->K af false)/\(¬(c≠0)->((!e)=true->K af false)/\((!e)=false->Znz PG K o m1 af))
def Zlb (w7:LB)(ok8:Bool)(is9:Bool)(m0:Zh)(m1:Zi)(af:Zi):Prop:=
  ((!ok8)=true->K af false)/\((!ok8)=false->((!is9)=true->K af false)/\((!is9)=false->(af.func<0->K af false)/\(¬(af.func<0)->(af.func>=(m0.funcs.length:Int)->K af false)/\(¬(af.func>=(m0.funcs.length:Int))->Zij PG K w7 m0 m1 af))))
def Zni (w7:LB)(ok8:Bool)(m0:Zh)(m1:Zi)(af:Zi):Prop:=
  ∃j,w7[2]?=some j/\∃e c,Ze PG 317 [.s j] (.tup [.i .i64 e,.b c])/\Zlb PG K w7 ok8 c m0 m1 (Zi.mk af.frame e af.hasArg af.arg)
def Zmd (w7:LB)(m0:Zh)(m1:Zi)(af:Zi):Prop:=
  ∃j,w7[1]?=some j/\∃e c,Ze PG 317 [.s j] (.tup [.i .i64 e,.b c])/\Zni PG K w7 c m0 m1 (Zi.mk e af.func af.hasArg af.arg)
def Zkv (w7:LB)(m0:Zh)(m1:Zi)(af:Zi):Prop:=
  Zmd PG K w7 m0 m1 af
def Zle (w7:LB)(m0:Zh)(m1:Zi)(af:Zi):Prop:=
  ((w7.length:Int)<4->K af false)/\(¬((w7.length:Int)<4)->Zkv PG K w7 m0 m1 af)
def Zl1 (s1:BS)(m0:Zh)(m1:Zi)(af:Zi):Prop:=
  ∃c,Ze PG 323 [.s s1,.s ([32]:BS),.i .i64 4] (.sl .ext (List.map Zt c))/\Zle PG K c m0 m1 af
def Zjx (s1:BS)(m0:Zh)(m1:Zi):Prop:=
  Zl1 PG K s1 m0 m1 (Zi.mk 0 0 false (Za.mk 0 0 [] ([]:List Za) false))
def Zjg (m0:Zh)(s1:BS):Prop:=
  Zjx PG K s1 m0 (Zi.mk 0 0 false (Za.mk 0 0 [] ([]:List Za) false))
end
section
variable {PG:Zb}{d:Nat}{Q:AE->Sl->St->Prop}{K:Zi->Bool->Prop}(hQ:Yml Q K){σ:Sl}{st:St}
include hQ
variable {fo:BS}{m1 af:Zi}{ji gh:Zm}{v1 ei:Nat}{w7:LB}{m0:Zh}{jl:Zm}{v0:Nat}{ok8 is9:Bool}{s1:BS}
variable (H0:σ 0=m0.av)(H1:σ 1=.s s1)(H2:σ 2=.p (d,0) v0 0)(H4:σ 4=.p (d,1) v1 0)(H6:σ 6=.p (d,4096) ei 0)(H12:σ 12=.s fo)(H7:σ 7=.sl jl (List.map Zt w7))(H8:σ 8=.b ok8)(H9:σ 9=.b is9)(de:Xd d st.ow gh af.arg.list.length)(B0:lk st.bx (d,0)=some (v0,Zh.cs m0))(B1:lk st.bx (d,1)=some (v1,[.i .i64 m1.frame,.i .i64 m1.func,.b m1.hasArg,.i .u8 m1.arg.kind,.i .i64 m1.arg.int,.s m1.arg.text,.sl ji (List.map Za.row m1.arg.list),.b m1.arg.cut]))(bz:lk st.bx (d,4096)=some (ei,[.i .i64 af.frame,.i .i64 af.func,.b af.hasArg,.i .u8 af.arg.kind,.i .i64 af.arg.int,.s af.arg.text,.sl gh (List.map Za.row af.arg.list),.b af.arg.cut]))
include H4 H6 H12 de B1 bz in
theorem Ygv (h:Znz PG K fo m1 af):W PG d Zrl σ st Q:=
 Zp (q_ J (m_ (b_ H12 J To (e_ (Yk J (fun c=>q_ J (l_ H6 bz J J (Yc H4 B1 J J J (m_ (Zr (hQ _ _ _ _ _ _ _ H4 Zj J (h.1 c))))))) (fun c=>Yg (Zp (Zp (W.reg (m_ ((h.2 c).elim fun _ e=>Ya (Je H12 J J) e.1 (x2 e.2 fun _ _ j=>Ya (Ys J J) j.1 (m_ (x_ J J (x_ J J (Xo (Yc J (show lk _ (d,65542)=some (_,([.i .u8 0,.i .i64 0,.s [],.sl .full (List.map Za.row ([]:List Za)),.b false]:List AV)) from Zj) J J J (m_ (e_ (W.frz J Zj J (q_ J (Fe J J J (f_ H6 (Yc J (Ob J (Zs J (Zs J bz))) J J J (f_ H6 (Yc J Zj J J J (e_ (q_ J (l_ H6 Zj J J (m_ (b_ J J Xc (Yc H4 (Zs J (Zs J (Ob J (Zs J (Zs J B1))))) J J J (m_ (Zr (hQ _ _ _ _ _ _ _ H4 Zj J j.2)))))))))))))))))))))))))))))))))))
include H2 H4 H6 H7 de B0 B1 bz in
theorem Xgp (h:Zij PG K w7 m0 m1 af):W PG d Zsu σ st Q:=
 au @Ygv
include H2 H4 H6 H7 H8 H9 de B0 B1 bz in
theorem Xal (h:Zlb PG K w7 ok8 is9 m0 m1 af):W PG d Zzu σ st Q:=
 Zp (q_ J (Xl H8 (Wo J (Xl J (Uh (g:=38) J (fun c=>z_ 16 J (e_ (Xj J (q_ J (l_ H6 bz J J (Yc H4 B1 J J J (m_ (Zr (hQ _ _ _ _ _ _ _ H4 Zj J (h.1 c)))))))))) (fun c=>Zd J (Xl H9 (Zd J (Wo J (z_ 2 J (Uh (g:=42) J (fun e=>z_ 12 J (e_ (Xj J (q_ J (l_ H6 bz J J (Yc H4 B1 J J J (m_ (Zr (hQ _ _ _ _ _ _ _ H4 Zj J ((h.2 c).1 e)))))))))) (fun e=>Zd J (f_ H6 (Zd J (l_ J bz J J (Zd J (b_ J J Vc (z_ 2 J (Xa (g:=47) J (fun i=>z_ 7 J (e_ (Xj J (q_ J (l_ H6 bz J J (Yc H4 B1 J J J (m_ (Zr (hQ _ _ _ _ _ _ _ H4 Zj J (((h.2 c).2 e).1 i)))))))))) (fun i=>Zd J (f_ H6 (Zd J (l_ J bz J J (Zd J (f_ H2 (Zd J (l_ J B0 J J (Zd J (Wk J (Zd J (b_ J J Gd (Jp J J (e_ (Yk J (fun j=>q_ J (l_ H6 bz J J (Yc H4 B1 J J J (m_ (Zr (hQ _ _ _ _ _ _ _ H4 Zj J ((((h.2 c).2 e).2 i).1 j))))))) (fun j=>Yg (Xgp hQ H2 H4 H6 H7 de B0 B1 bz ((((h.2 c).2 e).2 i).2 j)))))))))))))))))))))))))))))))))))))
include H2 H4 H6 H7 H8 de B0 B1 bz in
theorem Yzb (h:Zni PG K w7 ok8 m0 m1 af):W PG d Ztu σ st Q:=
 au @Xal
include H2 H4 H6 H7 de B0 B1 bz in
theorem Yxi (h:Zmd PG K w7 m0 m1 af):W PG d Ya4 σ st Q:=
 q_ J (Yf H7 (h.elim fun _ c=>Vx J J (by decide) c.1 J J (Vd J J J (x2 c.2 fun i _ e=>Ya (Ys J J) e.1 (m_ (x_ J J (x_ J J (f_ H6 (Yc J bz J J J (m_ (e_ (Yzb (af:=(Zi.mk i af.func af.hasArg af.arg)) hQ H2 H4 H6 H7 J de (Zs J B0) (Zs J B1) Zj e.2))))))))))))
include H2 H4 H6 H7 de B0 B1 bz in
theorem Xdj (h:Zkv PG K w7 m0 m1 af):W PG d Ydj σ st Q:=
 q_ J (m_ (m_ (e_ (Yxi hQ H2 H4 H6 H7 de B0 B1 bz h))))
include H2 H4 H6 H7 de B0 B1 bz in
theorem Ymh (h:Zle PG K w7 m0 m1 af):W PG d Yeb σ st Q:=
 Zp (q_ J (Yf H7 (Wk J (b_ J J Vc (e_ (Yk J (fun c=>q_ J (l_ H6 bz J J (Yc H4 B1 J J J (m_ (Zr (hQ _ _ _ _ _ _ _ H4 Zj J (h.1 c))))))) (fun c=>Yg (Xdj hQ H2 H4 H6 H7 de B0 B1 bz (h.2 c)))))))))
include H1 H2 H4 H6 de B0 B1 bz in
theorem Yua (h:Zl1 PG K s1 m0 m1 af):W PG d Yb1 σ st Q:=
 au @Ymh
include H1 H2 H4 B0 B1 in
theorem Yga (h:Zjx PG K s1 m0 m1):W PG d Yah σ st Q:=
 Zp (W.reg (Xo (e_ (Yua (af:=(Zi.mk 0 0 false (Za.mk 0 0 [] ([]:List Za) false))) hQ H1 H2 H4 J Xd.full (Zs J B0) (Zs J B1) (show lk _ (d,4096)=some (_,([.i .i64 0,.i .i64 0,.b false,.i .u8 0,.i .i64 0,.s [],.sl .full (List.map Za.row ([]:List Za)),.b false]:List AV)) from Zj) h))))
include H0 H1 in
theorem Yid (h:Zjg PG K m0 s1):W PG d Zyp σ st Q:=
 Zp (W.reg (Qa H0 J (Xo (m_ (e_ (Yga (m1:=(Zi.mk 0 0 false (Za.mk 0 0 [] ([]:List Za) false))) hQ H1 J J Zj (Zs J (show lk _ (d,1)=some (_,([.i .i64 0,.i .i64 0,.b false,.i .u8 0,.i .i64 0,.s [],.sl .full (List.map Za.row ([]:List Za)),.b false]:List AV)) from Zj)) h))))))
end
theorem Ynk {PG:Zb}(hf:PG.fn 318=some Iu){m0:Zh}{s1:BS}{K:Zi->Bool->Prop}(h:Zjg PG K m0 s1) :∃aa:Zi,∃ae:Bool,K aa ae/\Ze PG 318 [m0.av,.s s1] (.tup [aa.av,.b ae]):=by
  obtain ⟨v,hv,aa,ae,hk,rfl⟩:=Ze.of (K:=fun v=>∃aa:Zi,∃ae:Bool,K aa ae/\v=.tup [aa.av,.b ae]) hf rfl (Yid (σ:=Wc [m0.av,.s s1]) (fun σ st k0 v0 bj aa ae H4 HB4 H5 hk=>⟨.tup [aa.avo bj,.b ae],by simp only [Iu,Xk,Vb,Jr (n:=8) H4 HB4 rfl,H5,Ky,kJ],_,rfl,aa,ae,hk,rfl⟩) rfl rfl h)
  exact ⟨aa,ae,hk,hv⟩
end Go.AM

namespace Go.AM
open Go
set_option maxRecDepth 4000
set_option maxHeartbeats 1000000
set_option maxHeartbeats 2000000
attribute [local irreducible] Decidable.decide W WO Xq We
abbrev Ze9:AC:=(.seq (sR 4 [oM 34 5,oF 35 3 2,oL 36 35,oJ 37 36,oT 38 .lss 34 37] (.cond (.t 38) .skip (.exit 0))) (.seq (.block 1 (sR 6 [oF 41 3 2,oL 42 41,oM 43 5,oX 44 5 42 43,oK 45 5 44,oF 46 3 3,oL 47 46,oM 48 5,oX 49 5 47 48,oK 50 5 49,oQ 51 314 [45,50],oZ 52 51] (.cond (.t 52) (sR 7 [oC 4 (.b false)] .ret) .skip))) (.reg 5 [oM 39 5,oV 40 .add 39 1,oM 5 40])))
abbrev Zfp:AC:=(sR 8 [oC 4 (.b true)] .ret)
abbrev Zy4:AC:=(.seq (sR 3 [oI 5 0] (.block 0 (.loop Ze9))) Zfp)
abbrev Zvn:AC:=(sR 0 [oY 2 4 0,oY 3 4 1,oC 4 (.b false)] (.seq (sR 1 [oF 6 0 2,oL 7 6,oF 8 0 3,oL 9 8,oT 10 .neq 7 9,oM 11 10,gF 11 (oF 12 1 2),gF 11 (oL 13 12),gF 11 (oF 14 1 3),gF 11 (oL 15 14),gF 11 (oT 16 .neq 13 15),oR 17 11 16,oM 18 17,gF 18 (oF 19 2 2),gF 18 (oL 20 19),gF 18 (oF 21 2 3),gF 18 (oL 22 21),gF 18 (oT 23 .neq 20 22),oR 24 18 23,oM 25 24,gF 25 (oF 26 3 2),gF 25 (oL 27 26),gF 25 (oJ 28 27),gF 25 (oF 29 3 3),gF 25 (oL 30 29),gF 25 (oJ 31 30),gF 25 (oT 32 .neq 28 31),oR 33 25 32] (.cond (.t 33) (sR 2 [oC 4 (.b false)] .ret) .skip)) Zy4))
def Oo:AF:={ nt:=53,res:=[.tmp 4],body:=Zvn }
abbrev Zs6 (PG:Zb)(d:Nat)(Q:AE->Sl->St->Prop)(i5:Int)(m0:Zw)(m1:Zw):Prop:=
  ∀(σ:Sl)(st:St) (v0 v1:Nat),σ 2=.p (d,0) v0 0->σ 3=.p (d,1) v1 0->σ 5=.i .i64 i5->lk st.bx (d,0)=some (v0,Zw.cs m0)->lk st.bx (d,1)=some (v1,Zw.cs m1)->W PG d (.loop Ze9) σ st (Yd 0 (Zv PG d Zfp Q))
def Zkj (PG:Zb)(K:Bool->Prop) :Prop:=
  K true
section
variable(PG:Zb)(K:Bool->Prop)
def Zgk (P0:Int->Zw->Zw->Prop)(i5:Int)(m0:Zw)(m1:Zw):Prop:=
  (i5<(m0.routines.length:Int)->0<=i5/\∃i:Zl,m0.routines[(i5).toNat]?=some i/\0<=i5/\∃e:Zl,m1.routines[(i5).toNat]?=some e/\∃c,Ze PG 314 [i.av,e.av] (.b c)/\((!c)=true->K false)/\((!c)=false->P0 (IntKind.i64.wrap (i5+1)) m0 m1))/\(¬(i5<(m0.routines.length:Int))->Zkj PG K )
def Zis (m0:Zw)(m1:Zw):Prop:=
  ∀P0:Int->Zw->Zw->Prop,(∀(i5:Int)(m0:Zw)(m1:Zw),Zgk PG K P0 i5 m0 m1->P0 i5 m0 m1)->P0 0 m0 m1
def Zmp (a0:Zw)(b1:Zw):Prop:=
  (a0.outcome≠b1.outcome->K false)/\(¬(a0.outcome≠b1.outcome)->(a0.failing≠b1.failing->K false)/\(¬(a0.failing≠b1.failing)->(a0.steps≠b1.steps->K false)/\(¬(a0.steps≠b1.steps)->((a0.routines.length:Int)≠(b1.routines.length:Int)->K false)/\(¬((a0.routines.length:Int)≠(b1.routines.length:Int))->Zis PG K a0 b1))))
end
section
variable {PG:Zb}{d:Nat}{Q:AE->Sl->St->Prop}{K:Bool->Prop}(hQ:H1 AV.b 4 Q K){σ:Sl}{st:St}
include hQ
variable {i5:Int}{m0 m1:Zw}{P0:Int->Zw->Zw->Prop}{v0 v1:Nat}{a0 b1:Zw}
variable (kP0 :∀(i5:Int)(m0:Zw)(m1:Zw),P0 i5 m0 m1->Zs6 PG d Q i5 m0 m1)(H0:σ 0=a0.av)(H2:σ 2=.p (d,0) v0 0)(H1:σ 1=b1.av)(H3:σ 3=.p (d,1) v1 0)(H5:σ 5=.i .i64 i5)(B0:lk st.bx (d,0)=some (v0,Zw.cs m0))(B1:lk st.bx (d,1)=some (v1,Zw.cs m1))
theorem Xho (h:Zkj PG K ):W PG d Zfp σ st Q:=
 au trivial
include kP0 H2 H3 H5 B0 B1 in
theorem Xe8 (h:Zgk PG K P0 i5 m0 m1):W PG d Ze9 σ st (Zv PG d (.loop Ze9) (Yd 0 (Zv PG d Zfp Q))):=
 au @Xho
include H2 H3 B0 B1 in
theorem Yhn (h:Zis PG K m0 m1):W PG d Zy4 σ st Q:=
 Zp (q_ J (m_ (e_ (Yn (h (Zs6 PG d Q ) (fun _ _ _ hb _ _ _ _ H2 H3 H5 B0 B1=>W.loop (Xe8 hQ (fun _ _ _ x=>x) H2 H3 H5 B0 B1 hb)) _ _ _ _ H2 H3 J B0 B1)))))
include H0 H1 in
theorem Yvz (h:Zmp PG K a0 b1):W PG d Zvn σ st Q:=
 au @Yhn
end
theorem Xg3 {PG:Zb}(hf:PG.fn 302=some Oo){a0:Zw}{b1:Zw}{K:Bool->Prop}(h:Zmp PG K a0 b1) :∃aa:Bool,K aa/\Ze PG 302 [a0.av,b1.av] (.b aa):=
 P1 hf J (Yvz (h1 J fun _=>J) J J h)
abbrev Zdp:AC:=(.seq (sR 4 [oM 47 5,oF 48 2 2,oL 49 48,oJ 50 49,oT 51 .lss 47 50] (.cond (.t 51) .skip (.exit 0))) (.seq (.block 1 (sR 6 [oF 54 2 2,oL 55 54,oM 56 5,oX 57 4 55 56,oK 58 4 57,oF 59 2 3,oL 60 59,oM 61 5,oX 62 4 60 61,oK 63 4 62,oQ 64 88 [58,63],oZ 65 64] (.cond (.t 65) (sR 7 [oC 4 (.b false)] .ret) .skip))) (.reg 5 [oM 52 5,oV 53 .add 52 1,oM 5 53])))
abbrev Zc9:AC:=(.seq (sR 9 [oM 66 6,oF 67 3 2,oL 68 67,oJ 69 68,oT 70 .lss 66 69] (.cond (.t 70) .skip (.exit 2))) (.seq (.block 3 (sR 11 [oF 73 3 2,oO 74 (.ldf 1 false (.t 73)),oM 75 6,oX 76 8 74 75,oO 77 (.ldf 8 true (.t 76)),oF 78 3 3,oO 79 (.ldf 1 false (.t 78)),oM 80 6,oX 81 8 79 80,oO 82 (.ldf 8 true (.t 81)),oO 7 (.alloc [z6,z6,zb,z8,z6,zs,zl,zb]),oO 8 (.alloc [z6,z6,zb,z8,z6,zs,zl,zb]),oS 8 7 77,oS 8 8 82] (sR 12 [oF 83 0 7,oL 84 83,oF 85 0 8,oL 86 85,oT 87 .neq 84 86,oM 88 87,gF 88 (oF 89 1 7),gF 88 (oL 90 89),gF 88 (oF 91 1 8),gF 88 (oL 92 91),gF 88 (oT 93 .neq 90 92),oR 94 88 93,oM 95 94,gF 95 (oF 96 2 7),gF 95 (oL 97 96),gF 95 (oF 98 2 8),gF 95 (oL 99 98),gF 95 (oO 100 (.beq true (.t 97) (.t 99))),oR 101 95 100,oM 102 101,gF 102 (oF 103 3 7),gF 102 (oK 104 5 103),gF 102 (oF 105 3 8),gF 102 (oK 106 5 105),gF 102 (oQ 107 78 [104,106]),gF 102 (oZ 108 107),oR 109 102 108] (.cond (.t 109) (sR 13 [oC 4 (.b false)] .ret) .skip)))) (.reg 10 [oM 71 6,oV 72 .add 71 1,oM 6 72])))
abbrev Zfh:AC:=(sR 14 [oC 4 (.b true)] .ret)
abbrev Zd6:AC:=(.seq (sR 8 [oI 6 0] (.block 2 (.loop Zc9))) Zfh)
abbrev Ybr:AC:=(.seq (sR 3 [oI 5 0] (.block 0 (.loop Zdp))) Zd6)
abbrev Ztc:AC:=(.seq (sR 1 [oF 9 0 2,oL 10 9,oF 11 0 3,oL 12 11,oT 13 .neq 10 12,oM 14 13,gF 14 (oF 15 1 2),gF 14 (oL 16 15),gF 14 (oF 17 1 3),gF 14 (oL 18 17),gF 14 (oT 19 .neq 16 18),oR 20 14 19,oM 21 20,gF 21 (oF 22 2 2),gF 21 (oL 23 22),gF 21 (oJ 24 23),gF 21 (oF 25 2 3),gF 21 (oL 26 25),gF 21 (oJ 27 26),gF 21 (oT 28 .neq 24 27),oR 29 21 28,oM 30 29,gF 30 (oF 31 3 2),gF 30 (oL 32 31),gF 30 (oJ 33 32),gF 30 (oF 34 3 3),gF 30 (oL 35 34),gF 30 (oJ 36 35),gF 30 (oT 37 .neq 33 36),oR 38 30 37,oM 39 38,gF 39 (oF 40 4 2),gF 39 (oL 41 40),gF 39 (oF 42 4 3),gF 39 (oL 43 42),gF 39 (oQ 44 170 [41,43]),gF 39 (oZ 45 44),oR 46 39 45] (.cond (.t 46) (sR 2 [oC 4 (.b false)] .ret) .skip)) Ybr)
abbrev Zyi:AC:=(sR 0 [oO 2 (.boxf 5 (.t 0)),oO 3 (.boxf 5 (.t 1)),oC 4 (.b false)] Ztc)
def Pn:AF:={ nt:=110,res:=[.tmp 4],fz:=[2,3],body:=Zyi }
abbrev Zt5 (PG:Zb)(d:Nat)(Q:AE->Sl->St->Prop)(df:Int)(dg:Int)(da:List Zg)(dc:List Zi)(di:List Zf)(b3_0:Int)(b3_1:Int)(b3_2:List Zg)(b3_3:List Zi)(b3_4:List Zf)(i5:Int):Prop:=
  ∀(σ:Sl)(st:St),σ 2=.fp [.i .u8 df,.i .i64 dg,.sl .ext (List.map Zg.row da),.sl .ext (List.map Zi.row dc),.sl .ext (List.map Zf.row di)]->σ 3=.fp [.i .u8 b3_0,.i .i64 b3_1,.sl .ext (List.map Zg.row b3_2),.sl .ext (List.map Zi.row b3_3),.sl .ext (List.map Zf.row b3_4)]->σ 5=.i .i64 i5->W PG d (.loop Zdp) σ st (Yd 0 (Zv PG d Zd6 Q))
abbrev Yeh (PG:Zb)(d:Nat)(Q:AE->Sl->St->Prop)(df:Int)(dg:Int)(da:List Zg)(dc:List Zi)(di:List Zf)(b3_0:Int)(b3_1:Int)(b3_2:List Zg)(b3_3:List Zi)(b3_4:List Zf)(i6:Int):Prop:=
  ∀(σ:Sl)(st:St),σ 2=.fp [.i .u8 df,.i .i64 dg,.sl .ext (List.map Zg.row da),.sl .ext (List.map Zi.row dc),.sl .ext (List.map Zf.row di)]->σ 3=.fp [.i .u8 b3_0,.i .i64 b3_1,.sl .ext (List.map Zg.row b3_2),.sl .ext (List.map Zi.row b3_3),.sl .ext (List.map Zf.row b3_4)]->σ 6=.i .i64 i6->W PG d (.loop Zc9) σ st (Yd 2 (Zv PG d Zfh Q))
def Zkw (PG:Zb)(K:Bool->Prop) :Prop:=
  K true
section
variable(PG:Zb)(K:Bool->Prop)
def Zfr (P1:Int->Prop)(df:Int)(dg:Int)(da:List Zg)(dc:List Zi)(di:List Zf)(b3_0:Int)(b3_1:Int)(b3_2:List Zg)(b3_3:List Zi)(b3_4:List Zf)(i6:Int):Prop:=
  (i6<(dc.length:Int)->0<=i6/\∃e:Zi,dc[(i6).toNat]?=some e/\0<=i6/\∃c:Zi,b3_3[(i6).toNat]?=some c/\(e.frame≠c.frame->K false)/\(¬(e.frame≠c.frame)->(e.func≠c.func->K false)/\(¬(e.func≠c.func)->(e.hasArg≠c.hasArg->K false)/\(¬(e.hasArg≠c.hasArg)->∃i,Ze PG 78 [e.arg.av,c.arg.av] (.b i)/\((!i)=true->K false)/\((!i)=false->P1 (IntKind.i64.wrap (i6+1)))))))/\(¬(i6<(dc.length:Int))->Zkw PG K )
def Zmm (df:Int)(dg:Int)(da:List Zg)(dc:List Zi)(di:List Zf)(b3_0:Int)(b3_1:Int)(b3_2:List Zg)(b3_3:List Zi)(b3_4:List Zf):Prop:=
  ∀P1:Int->Prop,(∀(i6:Int),Zfr PG K P1 df dg da dc di b3_0 b3_1 b3_2 b3_3 b3_4 i6->P1 i6)->P1 0
def Zc2 (P0:Int->Prop)(df:Int)(dg:Int)(da:List Zg)(dc:List Zi)(di:List Zf)(b3_0:Int)(b3_1:Int)(b3_2:List Zg)(b3_3:List Zi)(b3_4:List Zf)(i5:Int):Prop:=
  (i5<(da.length:Int)->0<=i5/\∃i:Zg,da[(i5).toNat]?=some i/\0<=i5/\∃e:Zg,b3_2[(i5).toNat]?=some e/\∃c,Ze PG 88 [i.av,e.av] (.b c)/\((!c)=true->K false)/\((!c)=false->P0 (IntKind.i64.wrap (i5+1))))/\(¬(i5<(da.length:Int))->Zmm PG K df dg da dc di b3_0 b3_1 b3_2 b3_3 b3_4)
def Zk4 (df:Int)(dg:Int)(da:List Zg)(dc:List Zi)(di:List Zf)(b3_0:Int)(b3_1:Int)(b3_2:List Zg)(b3_3:List Zi)(b3_4:List Zf):Prop:=
  ∀P0:Int->Prop,(∀(i5:Int),Zc2 PG K P0 df dg da dc di b3_0 b3_1 b3_2 b3_3 b3_4 i5->P0 i5)->P0 0
def Znj (df:Int)(dg:Int)(da:List Zg)(dc:List Zi)(di:List Zf)(b3_0:Int)(b3_1:Int)(b3_2:List Zg)(b3_3:List Zi)(b3_4:List Zf):Prop:=
  (df≠b3_0->K false)/\(¬(df≠b3_0)->(dg≠b3_1->K false)/\(¬(dg≠b3_1)->((da.length:Int)≠(b3_2.length:Int)->K false)/\(¬((da.length:Int)≠(b3_2.length:Int))->((dc.length:Int)≠(b3_3.length:Int)->K false)/\(¬((dc.length:Int)≠(b3_3.length:Int))->∃c,Ze PG 170 [.sl .ext (List.map Zf.row di),.sl .ext (List.map Zf.row b3_4)] (.b c)/\((!c)=true->K false)/\((!c)=false->Zk4 PG K df dg da dc di b3_0 b3_1 b3_2 b3_3 b3_4)))))
def Zqe (a0:Zl)(b1:Zl):Prop:=
  Znj PG K a0.status a0.key a0.frames a0.defers a0.panics b1.status b1.key b1.frames b1.defers b1.panics
end
section
variable {PG:Zb}{d:Nat}{Q:AE->Sl->St->Prop}{K:Bool->Prop}(hQ:H1 AV.b 4 Q K){σ:Sl}{st:St}
include hQ
variable {df dg:Int}{da:List Zg}{dc:List Zi}{di:List Zf}{b3_0 b3_1:Int}{b3_2:List Zg}{b3_3:List Zi}{b3_4:List Zf}{i6:Int}{P1:Int->Prop}{i5:Int}{P0:Int->Prop}{a0 b1:Zl}
variable (kP1 :∀(i6:Int),P1 i6->Yeh PG d Q df dg da dc di b3_0 b3_1 b3_2 b3_3 b3_4 i6) (kP0 :∀(i5:Int),P0 i5->Zt5 PG d Q df dg da dc di b3_0 b3_1 b3_2 b3_3 b3_4 i5)(H0:σ 0=a0.av)(H2:σ 2=.fp [.i .u8 df,.i .i64 dg,.sl .ext (List.map Zg.row da),.sl .ext (List.map Zi.row dc),.sl .ext (List.map Zf.row di)])(H1:σ 1=b1.av)(H3:σ 3=.fp [.i .u8 b3_0,.i .i64 b3_1,.sl .ext (List.map Zg.row b3_2),.sl .ext (List.map Zi.row b3_3),.sl .ext (List.map Zf.row b3_4)])(H6:σ 6=.i .i64 i6)(H5:σ 5=.i .i64 i5)
theorem Yhe (h:Zkw PG K ):W PG d Zfh σ st Q:=
 au trivial
include kP1 H2 H3 H6 in
theorem Xax (h:Zfr PG K P1 df dg da dc di b3_0 b3_1 b3_2 b3_3 b3_4 i6):W PG d Zc9 σ st (Zv PG d (.loop Zc9) (Yd 2 (Zv PG d Zfh Q))):=
 Zp (q_ J (m_ (Mg H2 (Vd J J J (Wk J (b_ H6 J Vc (e_ (Yk J (fun j=>Yg (Zp (Yn (Zp (W.reg (Mg H2 (Fe J J J (m_ ((h.1 j).2.elim fun u p=>Vx J H6 (h.1 j).1 p.1 (Zi.row_eq u) J (Fe J J J (Mg H3 (Fe J J J (m_ (p.2.2.elim fun v c=>Vx J H6 p.2.1 c.1 (Zi.row_eq v) J (Fe J J J (Xo (Xo (Yc J (show lk _ (d,45066)=some (_,([.i .i64 0,.i .i64 0,.b false,.i .u8 0,.i .i64 0,.s [],.sl .full (List.map Za.row ([]:List Za)),.b false]:List AV)) from (Zs J Zj)) J J J (Yc J (Zs J (show lk _ (d,45067)=some (_,([.i .i64 0,.i .i64 0,.b false,.i .u8 0,.i .i64 0,.s [],.sl .full (List.map Za.row ([]:List Za)),.b false]:List AV)) from Zj)) J J J (e_ (q_ J (f_ J (l_ J (Zs J Zj) J J (f_ J (l_ J Zj J J (b_ J J Jc (Xl J (Xa (g:=88) J (fun e=>z_ 21 J (e_ (Xj J (q_ J (m_ (Zr (hQ J (c.2.1 e)))))))) (fun e=>Zd J (f_ J (Zd J (l_ J (Zs J Zj) J J (Zd J (f_ J (Zd J (l_ J Zj J J (Zd J (b_ J J Jc (z_ 2 J (Xa (g:=95) J (fun k=>z_ 14 J (e_ (Xj J (q_ J (m_ (Zr (hQ J ((c.2.2 e).1 k)))))))) (fun k=>Zd J (f_ J (Zd J (l_ J (Zs J Zj) J J (Zd J (f_ J (Zd J (l_ J Zj J J (Zd J (Zns J J (z_ 2 J (Xa (g:=102) J (fun r=>z_ 7 J (e_ (Xj J (q_ J (m_ (Zr (hQ J (((c.2.2 e).2 k).1 r)))))))) (fun r=>Zd J (f_ J (Zd J (l_ J (Zs J Zj) J J (Zd J (f_ J (Zd J (l_ J Zj J J (Zd J ((((c.2.2 e).2 k).2 r).elim fun _ o=>Ya (Je J J J) o.1 (Zd J (Wo J (Jp J J (e_ (Wp J (fun q=>q_ J (m_ (Zr (hQ J (o.2.1 q))))) (fun q=>Yg (W.reg0 J fun _ _=>m_ (b_ H6 J Vv (m_ (e_ (kP1 _ (o.2.2 q) _ _ H2 H3 J))))))))))))))))))))))))))))))))))))))))))))))))))))))))))))))))))))))))) (fun j=>Jm (Yhe hQ (h.2 j)))))))))))
include H2 H3 in
theorem Ynz (h:Zmm PG K df dg da dc di b3_0 b3_1 b3_2 b3_3 b3_4):W PG d Zd6 σ st Q:=
 Zp (q_ J (m_ (e_ (Yn (h (Yeh PG d Q df dg da dc di b3_0 b3_1 b3_2 b3_3 b3_4) (fun _ hb _ _ H2 H3 H6=>W.loop (Xax hQ (fun _ x=>x) H2 H3 H6 hb)) _ _ H2 H3 J)))))
include kP0 H2 H3 H5 in
theorem Ywq (h:Zc2 PG K P0 df dg da dc di b3_0 b3_1 b3_2 b3_3 b3_4 i5):W PG d Zdp σ st (Zv PG d (.loop Zdp) (Yd 0 (Zv PG d Zd6 Q))):=
 au @Ynz
include H2 H3 in
theorem Ylu (h:Zk4 PG K df dg da dc di b3_0 b3_1 b3_2 b3_3 b3_4):W PG d Ybr σ st Q:=
 Zp (q_ J (m_ (e_ (Yn (h (Zt5 PG d Q df dg da dc di b3_0 b3_1 b3_2 b3_3 b3_4) (fun _ hb _ _ H2 H3 H5=>W.loop (Ywq hQ (fun _ x=>x) H2 H3 H5 hb)) _ _ H2 H3 J)))))
include H2 H3 in
theorem Xdl (h:Znj PG K df dg da dc di b3_0 b3_1 b3_2 b3_3 b3_4):W PG d Ztc σ st Q:=
 au @Ylu
include H0 H1 in
theorem Yw2 (h:Zqe PG K a0 b1):W PG d Zyi σ st Q:=
 au @Xdl
end
theorem Xd6 {PG:Zb}(hf:PG.fn 314=some Pn){a0:Zl}{b1:Zl}{K:Bool->Prop}(h:Zqe PG K a0 b1) :∃aa:Bool,K aa/\Ze PG 314 [a0.av,b1.av] (.b aa):=
 P1 hf J (Yw2 (h1 J fun _=>J) J J h)
abbrev Zr1:AC:=(sR 0 [oO 2 (.alloc [z8,z6,zs,zl,zb])] (sR 1 [oM 3 0,oO 4 (.build [z8,z6,zs,zl,zb] [(0,1,(.c (.i .u8 2))),(1,1,(.t 3))]),oS 5 2 4] .ret))
def Ok:AF:={ nt:=5,res:=[.cell 2 5 true],body:=Zr1 }
abbrev Xcb (Q:AE->Sl->St->Prop)(K:Za->Prop):Prop:=∀(σ:Sl)(st:St)(k0:Zo)(v0:Nat)(bj:Zm)(aa:Za),σ 2=.p k0 v0 0->lk st.bx k0=some (v0,[.i .u8 aa.kind,.i .i64 aa.int,.s aa.text,.sl bj (List.map Za.row aa.list),.b aa.cut])->K aa->Q .ret σ st
def Zhj (PG:Zb)(K:Za->Prop)(n0:Int):Prop:=
  K (Za.mk 2 n0 [] ([]:List Za) false)
section
variable {PG:Zb}{d:Nat}{Q:AE->Sl->St->Prop}{K:Za->Prop}(hQ:Xcb Q K){σ:Sl}{st:St}
include hQ
variable {n0:Int}
variable (H0:σ 0=.i .i64 n0)
include H0 in
theorem Yxz (h:Zhj PG K n0):W PG d Zr1 σ st Q:=
 Zp (W.reg (Xo (e_ (q_ J (m_ (Yi (Yl J J (Yl H0 J Yh)) (Yc J (show lk _ (d,0)=some (_,([.i .u8 0,.i .i64 0,.s [],.sl .full (List.map Za.row ([]:List Za)),.b false]:List AV)) from Zj) J J J (Zr (hQ _ _ _ _ _ _ J Zj h)))))))))
end
theorem Yhx {PG:Zb}(hf:PG.fn 292=some Ok){n0:Int}{K:Za->Prop}(h:Zhj PG K n0) :∃aa:Za,K aa/\Ze PG 292 [.i .i64 n0] (aa.av):=by
  obtain ⟨v,hv,aa,hk,rfl⟩:=Ze.of (K:=fun v=>∃aa:Za,K aa/\v=aa.av) hf rfl (Yxz (σ:=Wc [.i .i64 n0]) (fun σ st k0 v0 bj aa H2 HB2 hk=>⟨aa.avo bj,by simp only [Ok,Xk,Vb,Jr (n:=5) H2 HB2 rfl,Ky,kJ],_,rfl,aa,hk,rfl⟩) rfl h)
  exact ⟨aa,hk,hv⟩
abbrev Yf8:AC:=(sR 0 [oO 0 (.alloc [z8,z6,zs,zl,zb])] (sR 1 [oO 1 (.build [z8,z6,zs,zl,zb] [(0,1,(.c (.i .u8 1))),(1,1,(.c (.i .i64 1)))]),oS 5 0 1] .ret))
def Ib:AF:={ nt:=2,res:=[.cell 0 5 true],body:=Yf8 }
abbrev Yuu (Q:AE->Sl->St->Prop)(K:Za->Prop):Prop:=∀(σ:Sl)(st:St)(k0:Zo)(v0:Nat)(bj:Zm)(aa:Za),σ 0=.p k0 v0 0->lk st.bx k0=some (v0,[.i .u8 aa.kind,.i .i64 aa.int,.s aa.text,.sl bj (List.map Za.row aa.list),.b aa.cut])->K aa->Q .ret σ st
def Zkb (PG:Zb)(K:Za->Prop) :Prop:=
  K (Za.mk 1 1 [] ([]:List Za) false)
section
variable {PG:Zb}{d:Nat}{Q:AE->Sl->St->Prop}{K:Za->Prop}(hQ:Yuu Q K){σ:Sl}{st:St}
include hQ
theorem Yth (h:Zkb PG K ):W PG d Yf8 σ st Q:=
 Zp (W.reg (Xo (e_ (q_ J (Yi (Yl J J (Yl J J Yh)) (Yc J (show lk _ (d,0)=some (_,([.i .u8 0,.i .i64 0,.s [],.sl .full (List.map Za.row ([]:List Za)),.b false]:List AV)) from Zj) J J J (Zr (hQ _ _ _ _ _ _ J Zj h))))))))
end
theorem Xh5 {PG:Zb}(hf:PG.fn 303=some Ib)  {K:Za->Prop}(h:Zkb PG K ) :∃aa:Za,K aa/\Ze PG 303 [] (aa.av):=by
  obtain ⟨v,hv,aa,hk,rfl⟩:=Ze.of (K:=fun v=>∃aa:Za,K aa/\v=aa.av) hf rfl (Yth (σ:=Wc []) (fun σ st k0 v0 bj aa H0 HB0 hk=>⟨aa.avo bj,by simp only [Ib,Xk,Vb,Jr (n:=5) H0 HB0 rfl,Ky,kJ],_,rfl,aa,hk,rfl⟩)  h)
  exact ⟨aa,hk,hv⟩
abbrev Zyb:AC:=(sR 0 [oO 0 (.alloc [z8,z6,zl,zl,zl])] (sR 1 [oO 1 (.build [z6,z6,z7,zl] [(1,1,(.c (.i .i64 1)))]),oO 2 (.bslice [z6,z6,z7,zl] 1 [(0,(.t 1))]),oQ 3 303 [],oO 4 (.build [z6,z6,zb,z8,z6,zs,zl,zb] [(1,1,(.c (.i .i64 1))),(2,1,(.c (.b true))),(3,5,(.t 3))]),oO 5 (.bslice [z6,z6,zb,z8,z6,zs,zl,zb] 1 [(0,(.t 4))]),oO 6 (.build [z8,z6,zl,zl,zl] [(0,1,(.c (.i .u8 2))),(1,1,(.c (.i .i64 (-3)))),(2,1,(.t 2)),(3,1,(.t 5))]),oS 5 0 6] .ret))
def Za1:AF:={ nt:=7,res:=[.cell 0 5 true],body:=Zyb }
abbrev Yl0 (Q:AE->Sl->St->Prop)(K:Zl->Prop):Prop:=∀(σ:Sl)(st:St)(k0:Zo)(v0:Nat) (bj gj gk:Zm)(aa:Zl),σ 0=.p k0 v0 0->lk st.bx k0=some (v0,[.i .u8 aa.status,.i .i64 aa.key,.sl bj (List.map Zg.row aa.frames),.sl gj (List.map Zi.row aa.defers),.sl gk (List.map Zf.row aa.panics)])->K aa->Q .ret σ st
section
variable(PG:Zb)(K:Zl->Prop)
def Zhp :Prop:=
  ∃c:Za,Ze PG 303 [] (c.av)/\K (Zl.mk 2 (-3) [(Zg.mk 0 1 0 ([]:List Zy))] [(Zi.mk 0 1 true c)] ([]:List Zf))
end
section
variable {PG:Zb}{d:Nat}{Q:AE->Sl->St->Prop}{K:Zl->Prop}(hQ:Yl0 Q K){σ:Sl}{st:St}
include hQ
theorem Ync (h:Zhp PG K ):W PG d Zyb σ st Q:=
 Zp (W.reg (Xo (e_ (q_ J (Yi (Yl J J Yh) (Xv (f:=Zg.row) (l:=[(Zg.mk 0 1 0 ([]:List Zy))]) J J (Yo J J J Xp) (by simp only [kT,jQ,Zg.row_eq];rfl) (h.elim fun e c=>Ya sn c.1 (Yi (Yl J J (Yl J J (Yl J J Yh))) (Xv (f:=Zi.row) (l:=[(Zi.mk 0 1 true e)]) J J (Yo J J J Xp) (by simp only [kT,jQ,Zi.row_eq];rfl) (Yi (Yl J J (Yl J J (Yl J J (Yl J J Yh)))) (Yc J (show lk _ (d,0)=some (_,([.i .u8 0,.i .i64 0,.sl .full (List.map Zg.row ([]:List Zg)),.sl .full (List.map Zi.row ([]:List Zi)),.sl .full (List.map Zf.row ([]:List Zf))]:List AV)) from Zj) J J J (Zr (hQ _ _ _ _ _ _ _ _ J Zj c.2)))))))))))))
end
theorem Yhu {PG:Zb}(hf:PG.fn 294=some Za1)  {K:Zl->Prop}(h:Zhp PG K ) :∃aa:Zl,K aa/\Ze PG 294 [] (aa.av):=by
  obtain ⟨v,hv,aa,hk,rfl⟩:=Ze.of (K:=fun v=>∃aa:Zl,K aa/\v=aa.av) hf rfl (Ync (σ:=Wc []) (fun σ st k0 v0 bj gj gk aa H0 HB0 hk=>⟨.ag [.i .u8 aa.status,.i .i64 aa.key,.sl bj (List.map Zg.row aa.frames),.sl gj (List.map Zi.row aa.defers),.sl gk (List.map Zf.row aa.panics)],by simp only [Za1,Xk,Vb,Jr (n:=5) H0 HB0 rfl,Ky,kJ],_,rfl,aa,hk,rfl⟩)  h)
  exact ⟨aa,hk,hv⟩
abbrev Ycj:AC:=(sR 0 [oO 0 (.alloc [z8,z6,z6,zl])] (sR 1 [oO 1 (.build [z6,z6,z7,zl] [(1,1,(.c (.i .i64 4)))]),oO 2 (.bslice [z6,z6,z7,zl] 1 [(0,(.t 1))]),oO 3 (.call false 292 [(.c (.i .i64 5))]),oO 4 (.build [z7,z8,z6,zs,zl,zb,z7] [(0,1,(.c (.i .u64 1))),(1,5,(.t 3))]),oO 5 (.bslice [z7,z8,z6,zs,zl,zb,z7] 1 [(0,(.t 4))]),oO 6 (.build [z8,z6,zl,zl,zl] [(0,1,(.c (.i .u8 1))),(2,1,(.t 2)),(4,1,(.t 5))]),oO 7 (.bslice [z8,z6,zl,zl,zl] 1 [(0,(.t 6))]),oO 8 (.build [z8,z6,z6,zl] [(0,1,(.c (.i .u8 2))),(2,1,(.c (.i .i64 17))),(3,1,(.t 7))]),oS 4 0 8] .ret))
def Og:AF:={ nt:=9,res:=[.cell 0 4 true],body:=Ycj }
abbrev Ys4 (Q:AE->Sl->St->Prop)(K:Zw->Prop):Prop:=∀(σ:Sl)(st:St)(k0:Zo)(v0:Nat)(bj:Zm)(aa:Zw),σ 0=.p k0 v0 0->lk st.bx k0=some (v0,[.i .u8 aa.outcome,.i .i64 aa.failing,.i .i64 aa.steps,.sl bj (List.map Zl.row aa.routines)])->K aa->Q .ret σ st
section
variable(PG:Zb)(K:Zw->Prop)
def Zhh :Prop:=
  ∃c:Za,Ze PG 292 [.i .i64 5] (c.av)/\K (Zw.mk 2 0 17 [(Zl.mk 1 0 [(Zg.mk 0 4 0 ([]:List Zy))] ([]:List Zi) [(Zf.mk 1 c 0)])])
end
section
variable {PG:Zb}{d:Nat}{Q:AE->Sl->St->Prop}{K:Zw->Prop}(hQ:Ys4 Q K){σ:Sl}{st:St}
include hQ
theorem Yzx (h:Zhh PG K ):W PG d Ycj σ st Q:=
 Zp (W.reg (Xo (e_ (q_ J (Yi (Yl J J Yh) (Xv (f:=Zg.row) (l:=[(Zg.mk 0 4 0 ([]:List Zy))]) J J (Yo J J J Xp) (by simp only [kT,jQ,Zg.row_eq];rfl) (h.elim fun e c=>Ya (Ys J J) c.1 (Yi (Yl J J (Yl J J Yh)) (Xv (f:=Zf.row) (l:=[(Zf.mk 1 e 0)]) J J (Yo J J J Xp) (by simp only [kT,jQ,Zf.row_eq];rfl) (Yi (Yl J J (Yl J J (Yl J J Yh))) (Xv (f:=Zl.row) (l:=[(Zl.mk 1 0 [(Zg.mk 0 4 0 ([]:List Zy))] ([]:List Zi) [(Zf.mk 1 e 0)])]) J J (Yo J J J Xp) (by simp only [kT,jQ,Zl.row_eq];rfl) (Yi (Yl J J (Yl J J (Yl J J Yh))) (Yc J (show lk _ (d,0)=some (_,([.i .u8 0,.i .i64 0,.i .i64 0,.sl .full (List.map Zl.row ([]:List Zl))]:List AV)) from Zj) J J J (Zr (hQ _ _ _ _ _ _ J Zj c.2)))))))))))))))
end
theorem Yzy {PG:Zb}(hf:PG.fn 296=some Og)  {K:Zw->Prop}(h:Zhh PG K ) :∃aa:Zw,K aa/\Ze PG 296 [] (aa.av):=by
  obtain ⟨v,hv,aa,hk,rfl⟩:=Ze.of (K:=fun v=>∃aa:Zw,K aa/\v=aa.av) hf rfl (Yzx (σ:=Wc []) (fun σ st k0 v0 bj aa H0 HB0 hk=>⟨aa.avo bj,by simp only [Og,Xk,Vb,Jr (n:=4) H0 HB0 rfl,Ky,kJ],_,rfl,aa,hk,rfl⟩)  h)
  exact ⟨aa,hk,hv⟩
abbrev Zyd:AC:=(sR 0 [oO 0 (.alloc [zl,zl,zl])] (sR 1 [oO 2 (.mks [z8,z6,z6,z6] 32 (.c (.i .i64 6)) (.c (.i .i64 6))),oM 1 2] (sR 2 [oM 3 1,oO 4 (.build [zs,z6,z6,zl,zl,zl,zl] [(0,1,(.c (.s [109,97,105,110]))),(4,1,(.t 3))]),oM 5 1,oO 6 (.build [zs,z6] [(0,1,(.c (.s [120])))]),oO 7 (.bslice [zs,z6] 1 [(0,(.t 6))]),oO 8 (.build [zs,z6,z6,zl,zl,zl,zl] [(0,1,(.c (.s [102]))),(4,1,(.t 5)),(3,1,(.t 7))]),oO 9 (.bslice [zs,z6,z6,zl,zl,zl,zl] 2 [(0,(.t 4)),(1,(.t 8))]),oO 10 (.build [zl,zl,zl] [(2,1,(.t 9))]),oS 3 0 10] .ret)))
def Er:AF:={ nt:=11,res:=[.cell 0 3 true],body:=Zyd }
abbrev Xc6 (Q:AE->Sl->St->Prop)(K:Zh->Prop):Prop:=∀(σ:Sl)(st:St)(k0:Zo)(v0:Nat) (bj gj gk:Zm)(aa:Zh),σ 0=.p k0 v0 0->lk st.bx k0=some (v0,[.sl bj (List.map Wx.row aa.types),.sl gj (List.map Zt aa.texts),.sl gk (List.map Ye.row aa.funcs)])->K aa->Q .ret σ st
def Zpb (PG:Zb)(K:Zh->Prop) :Prop:=
  K (Zh.mk ([]:List Wx) ([]:LB) [(Ye.mk ([109,97,105,110]:BS) 0 0 ([]:List Xh) (Qu 6 Ko.zero) ([]:List Vy) ([]:List Vy)),(Ye.mk ([102]:BS) 0 0 [(Xh.mk ([120]:BS) 0)] (Qu 6 Ko.zero) ([]:List Vy) ([]:List Vy))])
section
variable {PG:Zb}{d:Nat}{Q:AE->Sl->St->Prop}{K:Zh->Prop}(hQ:Xc6 Q K){σ:Sl}{st:St}
include hQ
theorem Ylk (h:Zpb PG K ):W PG d Zyd σ st Q:=
 Zp (W.reg (Xo (e_ (q_ J (Zgg (n:=6) (m:=6) (f:=Ko.row) (a:=Ko.zero) J J J J J (by decide) J ⟨by decide,by decide⟩ (Yf J (e_ (q_ J (Yf J (Yi (Yl J J (Yl J J Yh)) (Yf J (Yi (Yl J J Yh) (Xv (f:=Xh.row) (l:=[(Xh.mk ([120]:BS) 0)]) J J (Yo J J J Xp) (by simp only [kT,jQ,Xh.row_eq];rfl) (Yi (Yl J J (Yl J J (Yl J J Yh))) (Xv (f:=Ye.row) (l:=[(Ye.mk ([109,97,105,110]:BS) 0 0 ([]:List Xh) (Qu 6 Ko.zero) ([]:List Vy) ([]:List Vy)),(Ye.mk ([102]:BS) 0 0 [(Xh.mk ([120]:BS) 0)] (Qu 6 Ko.zero) ([]:List Vy) ([]:List Vy))]) J J (Yo J J J (Yo J J J Xp)) (by simp only [kT,jQ,Ye.row_eq];rfl) (Yi (Yl J J Yh) (Yc J (show lk _ (d,0)=some (_,([.sl .full (List.map Wx.row ([]:List Wx)),.sl .full (List.map Zt ([]:LB)),.sl .full (List.map Ye.row ([]:List Ye))]:List AV)) from Zj) J J J (Zr (hQ _ _ _ _ _ _ _ _ J Zj h)))))))))))))))))))
end
theorem Xgw {PG:Zb}(hf:PG.fn 297=some Er)  {K:Zh->Prop}(h:Zpb PG K ) :∃aa:Zh,K aa/\Ze PG 297 [] (aa.av):=by
  obtain ⟨v,hv,aa,hk,rfl⟩:=Ze.of (K:=fun v=>∃aa:Zh,K aa/\v=aa.av) hf rfl (Ylk (σ:=Wc []) (fun σ st k0 v0 bj gj gk aa H0 HB0 hk=>⟨.ag [.sl bj (List.map Wx.row aa.types),.sl gj (List.map Zt aa.texts),.sl gk (List.map Ye.row aa.funcs)],by simp only [Er,Xk,Vb,Jr (n:=3) H0 HB0 rfl,Ky,kJ],_,rfl,aa,hk,rfl⟩)  h)
  exact ⟨aa,hk,hv⟩
abbrev Zuw:AC:=(sR 0 [oY 2 4 0,oC 4 (.b false)] (sR 1 [oQ 10 297 [],oK 11 4 2,oQ 12 205 [10,11],oM 9 12,oE 13 0 9,oE 14 1 9,oM 5 13,oM 6 14] (sR 2 [oQ 16 297 [],oM 17 1,oQ 18 299 [16,17],oM 15 18,oE 19 0 15,oE 20 1 15,oO 7 (.alloc [z8,z6,z6,zl]),oS 4 7 19,oM 8 20] (sR 3 [oM 21 6,oV 22 .eql 21 0,oM 23 22,gT 23 (oM 24 5),gT 23 (oM 25 1),gT 23 (oT 26 .eql 24 25),oA 27 23 26,oM 28 27,gT 28 (oM 29 8),gT 28 (oV 30 .eql 29 0),oA 31 28 30,oM 32 31,gT 32 (oK 33 4 2),gT 32 (oK 34 4 7),gT 32 (oQ 35 302 [33,34]),oA 36 32 35,oM 4 36] .ret))))
def Ze1:AF:={ nt:=37,res:=[.tmp 4],body:=Zuw }
section
variable(PG:Zb)(K:Bool->Prop)
def Zj3 (s0:Zw)(eu:BS):Prop:=
  ∃c:Zh,Ze PG 297 [] (c.av)/\∃j e,Ze PG 205 [c.av,s0.av] (.tup [.s j,.i .i64 e])/\∃q:Zh,Ze PG 297 [] (q.av)/\∃p:Zw,∃k,Ze PG 299 [q.av,.s eu] (.tup [p.av,.i .i64 k])/\(e=0->(j=eu->(k=0->∃o,Ze PG 302 [s0.av,p.av] (.b o)/\K o)/\(¬(k=0)->K false))/\(¬(j=eu)->K false))/\(¬(e=0)->K false)
end
section
variable {PG:Zb}{d:Nat}{Q:AE->Sl->St->Prop}{K:Bool->Prop}(hQ:H1 AV.b 4 Q K){σ:Sl}{st:St}
include hQ
variable {s0:Zw}{eu:BS}
variable (H0:σ 0=s0.av)(H1:σ 1=.s eu)
include H0 H1 in
theorem Yow (h:Zj3 PG K s0 eu):W PG d Zuw σ st Q:=
 au trivial
end
theorem Xbo {PG:Zb}(hf:PG.fn 293=some Ze1){s0:Zw}{eu:BS}{K:Bool->Prop}(h:Zj3 PG K s0 eu) :∃aa:Bool,K aa/\Ze PG 293 [s0.av,.s eu] (.b aa):=
 P1 hf J (Yow (h1 J fun _=>J) J J h)
abbrev Zzj:AC:=(sR 0 [oC 0 (.b false)] (sR 1 [oQ 4 297 [],oQ 5 294 [],oO 6 (.call false 207 [(.t 4),(.c (.i .i64 0)),(.t 5)]),oM 3 6,oE 7 0 3,oE 8 1 3,oM 1 7,oM 2 8] (sR 2 [oQ 9 296 [],oO 10 (.call false 293 [(.t 9),(.c (.s [111,117,116,99,111,109,101,32,112,97,110,105,99,44,32,102,97,105,108,105,110,103,32,48,44,32,115,116,101,112,115,32,49,55,10,103,111,114,111,117,116,105,110,101,32,48,58,32,114,101,97,100,121,10,32,32,35,48,32,48,32,34,109,97,105,110,34,32,97,116,32,52,32,99,97,108,108,10,32,32,112,97,110,105,99,32,53,10]))]),oM 11 10,gT 11 (oM 12 2),gT 11 (oV 13 .eql 12 0),oA 14 11 13,oM 15 14,gT 15 (oM 16 1),gT 15 (oO 17 (.bslice [zs] 3 [(0,(.c (.s [103,111,114,111,117,116,105,110,101,32,48,58,32,98,108,111,99,107,101,100,32,45,51]))),(1,(.c (.s [32,32,35,48,32,48,32,34,109,97,105,110,34,32,97,116,32,49,32,99,97,108,108]))),(2,(.c (.s [32,32,100,101,102,101,114,32,48,32,49,32,34,102,34,32,119,105,116,104,32,116,114,117,101])))])),gT 15 (oQ 18 29 [16,17]),oA 19 15 18,oM 0 19] .ret)))
def Zfz:AF:={ nt:=20,res:=[.tmp 0],body:=Zzj }
section
variable(PG:Zb)(K:Bool->Prop)
def Zlx :Prop:=
  ∃c:Zh,Ze PG 297 [] (c.av)/\∃q:Zl,Ze PG 294 [] (q.av)/\∃o e,Ze PG 207 [c.av,.i .i64 0,q.av] (.tup [.sl .ext (List.map Zt o),.i .i64 e])/\∃p:Zw,Ze PG 296 [] (p.av)/\∃j,Ze PG 293 [p.av,.s ([111,117,116,99,111,109,101,32,112,97,110,105,99,44,32,102,97,105,108,105,110,103,32,48,44,32,115,116,101,112,115,32,49,55,10,103,111,114,111,117,116,105,110,101,32,48,58,32,114,101,97,100,121,10,32,32,35,48,32,48,32,34,109,97,105,110,34,32,97,116,32,52,32,99,97,108,108,10,32,32,112,97,110,105,99,32,53,10]:BS)] (.b j)/\(j=true->(e=0->∃k,Ze PG 29 [.sl .ext (List.map Zt o),.sl .ext (List.map Zt [([103,111,114,111,117,116,105,110,101,32,48,58,32,98,108,111,99,107,101,100,32,45,51]:BS),([32,32,35,48,32,48,32,34,109,97,105,110,34,32,97,116,32,49,32,99,97,108,108]:BS),([32,32,100,101,102,101,114,32,48,32,49,32,34,102,34,32,119,105,116,104,32,116,114,117,101]:BS)])] (.b k)/\K k)/\(¬(e=0)->K false))/\(j=false->K false)
end
section
variable {PG:Zb}{d:Nat}{Q:AE->Sl->St->Prop}{K:Bool->Prop}(hQ:H1 AV.b 0 Q K){σ:Sl}{st:St}
include hQ
theorem Yqj (h:Zlx PG K ):W PG d Zzj σ st Q:=
 q_ J (m_ (e_ (q_ J (h.elim fun _ k=>Ya sn k.1 (k.2.elim fun _ o=>Ya sn o.1 (x2 o.2 fun _ _ p=>Ya (Tt J J J J) p.1 (m_ (x_ J J (x_ J J (Yf J (m_ (e_ (q_ J (p.2.elim fun _ q=>Ya sn q.1 (q.2.elim fun _ c=>Ya (Je J J J) c.1 (Xl J (Uh (g:=11) J (fun e=>Zd J (Xf J (Zd J (b_ J J Xc (z_ 2 J (Xa (g:=15) J (fun i=>Zd J (Yf J (Zd J (Xv (f:=Zt) (l:=[([103,111,114,111,117,116,105,110,101,32,48,58,32,98,108,111,99,107,101,100,32,45,51]:BS),([32,32,35,48,32,48,32,34,109,97,105,110,34,32,97,116,32,49,32,99,97,108,108]:BS),([32,32,100,101,102,101,114,32,48,32,49,32,34,102,34,32,119,105,116,104,32,116,114,117,101]:BS)]) J J (Yo J J J (Yo J J J (Yo J J J Xp))) J (Zd J (((c.2.1 e).1 i).elim fun _ j=>Ya (Je J J J) j.1 (z_ 2 J (Zr (hQ J j.2))))))))) (fun i=>z_ 5 J (Zr (hQ J ((c.2.1 e).2 i)))))))))) (fun e=>z_ 9 J (Zr (hQ J (c.2.2 e)))))))))))))))))))))
end
theorem Xih {PG:Zb}(hf:PG.fn 290=some Zfz)  {K:Bool->Prop}(h:Zlx PG K ) :∃aa:Bool,K aa/\Ze PG 290 [] (.b aa):=
 P1 hf J (Yqj (h1 J fun _=>J)  h)
abbrev Yx0 (Q:AE->Sl->St->Prop)(K:Bool->Prop):Prop:=∀(σ:Sl)(st:St)(aa:Bool),σ 6=.b aa->K aa->Q .ret σ st
section
variable {PG:Zb}{d:Nat}{Q:AE->Sl->St->Prop}{K:Bool->Prop}(hQ:Yx0 Q K){σ:Sl}{st:St}
include hQ
end
end Go.AM

namespace Go.AM
open Go
set_option maxRecDepth 4000
set_option maxHeartbeats 1000000
attribute [local irreducible] WO Xq We
abbrev Ywb (Q:AE->Sl->St->Prop)(K:Bool->Prop):Prop:=∀(σ:Sl)(st:St)(aa:Bool),σ 6=.b aa->K aa->Q .ret σ st
section
variable {PG:Zb}{d:Nat}{Q:AE->Sl->St->Prop}{K:Bool->Prop}(hQ:Ywb Q K){σ:Sl}{st:St}
include hQ
end
abbrev Yxa (Q:AE->Sl->St->Prop)(K:Bool->Prop):Prop:=∀(σ:Sl)(st:St)(aa:Bool),σ 4=.b aa->K aa->Q .ret σ st
section
variable {PG:Zb}{d:Nat}{Q:AE->Sl->St->Prop}{K:Bool->Prop}(hQ:Yxa Q K){σ:Sl}{st:St}
include hQ
end
end Go.AM

namespace Go.AM
open Go
set_option maxRecDepth 4000
set_option maxHeartbeats 1000000
attribute [local irreducible] WO Xq We
abbrev Yve (Q:AE->Sl->St->Prop)(K:Bool->Prop):Prop:=∀(σ:Sl)(st:St)(aa:Bool),σ 4=.b aa->K aa->Q .ret σ st
section
variable {PG:Zb}{d:Nat}{Q:AE->Sl->St->Prop}{K:Bool->Prop}(hQ:Yve Q K){σ:Sl}{st:St}
include hQ
end
abbrev Xdg (Q:AE->Sl->St->Prop)(K:BS->BS->Bool->Prop):Prop:=∀(σ:Sl)(st:St)(aa:BS)(ae:BS)(bm:Bool),σ 4=.s aa->σ 5=.s ae->σ 6=.b bm->K aa ae bm->Q .ret σ st
section
variable {PG:Zb}{d:Nat}{Q:AE->Sl->St->Prop}{K:BS->BS->Bool->Prop}(hQ:Xdg Q K){σ:Sl}{st:St}
include hQ
end
abbrev Yfr (Q:AE->Sl->St->Prop)(K:Int->Prop):Prop:=∀(σ:Sl)(st:St)(aa:Int),σ 2=.i .i64 aa->K aa->Q .ret σ st
section
variable {PG:Zb}{d:Nat}{Q:AE->Sl->St->Prop}{K:Int->Prop}(hQ:Yfr Q K){σ:Sl}{st:St}
include hQ
end
abbrev Yio (d:Nat)(Zk:St)(Q:AE->Sl->St->Prop)(K:Zw->Prop):Prop:=∀(σ:Sl)(st:St)(k0:Zo)(v0:Nat)(aa:Zw),σ 2=.p k0 v0 0->lk st.bx k0=some (v0,[.i .u8 aa.outcome,.i .i64 aa.failing,.i .i64 aa.steps,.sl .full (List.map Zl.row aa.routines)])->Fr d (d,0) Zk.bx Zk.ow st.bx st.ow->K aa->Q .ret σ st
section
variable {PG:Zb}{d:Nat}{Q:AE->Sl->St->Prop}{K:Zw->Prop}{Zk:St}(hQ:Yio d Zk Q K){σ:Sl}{st:St}
include hQ
end
abbrev Xd8 (d:Nat)(Zk:St)(Q:AE->Sl->St->Prop)(K:Zl->Prop):Prop:=∀(σ:Sl)(st:St)(k0:Zo)(v0:Nat)(aa:Zl),σ 2=.p k0 v0 0->lk st.bx k0=some (v0,[.i .u8 aa.status,.i .i64 aa.key,.sl .full (List.map Zg.row aa.frames),.sl .full (List.map Zi.row aa.defers),.sl .full (List.map Zf.row aa.panics)])->Fr d (d,0) Zk.bx Zk.ow st.bx st.ow->K aa->Q .ret σ st
section
variable {PG:Zb}{d:Nat}{Q:AE->Sl->St->Prop}{K:Zl->Prop}{Zk:St}(hQ:Xd8 d Zk Q K){σ:Sl}{st:St}
include hQ
end
abbrev Xj6 (Q:AE->Sl->St->Prop)(K:Zi->Prop):Prop:=∀(σ:Sl)(st:St)(k0:Zo)(v0:Nat)(bj:Zm)(aa:Zi),σ 2=.p k0 v0 0->lk st.bx k0=some (v0,[.i .i64 aa.frame,.i .i64 aa.func,.b aa.hasArg,.i .u8 aa.arg.kind,.i .i64 aa.arg.int,.s aa.arg.text,.sl bj (List.map Za.row aa.arg.list),.b aa.arg.cut])->K aa->Q .ret σ st
section
variable {PG:Zb}{d:Nat}{Q:AE->Sl->St->Prop}{K:Zi->Prop}(hQ:Xj6 Q K){σ:Sl}{st:St}
include hQ
end
abbrev Yyy (Q:AE->Sl->St->Prop)(K:Bool->Prop):Prop:=∀(σ:Sl)(st:St)(aa:Bool),σ 2=.b aa->K aa->Q .ret σ st
section
variable {PG:Zb}{d:Nat}{Q:AE->Sl->St->Prop}{K:Bool->Prop}(hQ:Yyy Q K){σ:Sl}{st:St}
include hQ
end
end Go.AM

namespace Go.AM
open Go
set_option maxRecDepth 4000
set_option maxHeartbeats 1000000
attribute [local irreducible] WO Xq We
abbrev Yvo (Q:AE->Sl->St->Prop)(K:Zw->Int->Prop):Prop:=∀(σ:Sl)(st:St)(k0:Zo)(v0:Nat)(bj:Zm)(aa:Zw)(ae:Int),σ 4=.p k0 v0 0->lk st.bx k0=some (v0,[.i .u8 aa.outcome,.i .i64 aa.failing,.i .i64 aa.steps,.sl bj (List.map Zl.row aa.routines)])->σ 5=.i .i64 ae->K aa ae->Q .ret σ st
section
variable {PG:Zb}{d:Nat}{Q:AE->Sl->St->Prop}{K:Zw->Int->Prop}(hQ:Yvo Q K){σ:Sl}{st:St}
include hQ
end
abbrev Xeq (Q:AE->Sl->St->Prop)(K:Bool->Prop):Prop:=∀(σ:Sl)(st:St)(aa:Bool),σ 4=.b aa->K aa->Q .ret σ st
section
variable {PG:Zb}{d:Nat}{Q:AE->Sl->St->Prop}{K:Bool->Prop}(hQ:Xeq Q K){σ:Sl}{st:St}
include hQ
end
end Go.AM

namespace Go.AM
open Go
set_option maxRecDepth 4000
set_option maxHeartbeats 1000000
set_option maxHeartbeats 2000000
attribute [local irreducible] Decidable.decide W WO Xq We
abbrev Yav:AC:=(sR 9 [oK 47 4 4,oM 48 7,oM 49 48,gT 49 (oM 50 10),oA 51 49 50,oM 52 51,gT 52 (oM 53 13),oA 54 52 53,oM 55 54,gT 55 (oM 56 14),oA 57 55 56,oM 58 57,gT 58 (oM 59 12),gT 58 (oV 60 .eql 59 0),oA 61 58 60,oS 4 2 47,oM 3 61] .ret)
abbrev Yei:AC:=(sR 8 [oM 42 9,oQ 43 317 [42],oM 41 43,oE 44 0 41,oE 45 1 41,oF 46 2 4,oS 1 46 44,oM 14 45] Yav)
abbrev Ycx:AC:=(sR 7 [oM 36 8,oQ 37 317 [36],oM 35 37,oE 38 0 35,oE 39 1 35,oF 40 1 4,oS 1 40 38,oM 13 39] Yei)
abbrev Yej:AC:=(sR 6 [oC 13 (.b false),oC 14 (.b false)] Ycx)
abbrev Zsf:AC:=(sR 5 [oM 33 11,oF 34 0 4,oS 1 34 33] Yej)
abbrev Zul:AC:=(sR 4 [oM 29 5,oQ 30 211 [29],oM 28 30,oE 31 0 28,oE 32 1 28,oM 11 31,oM 12 32] Zsf)
abbrev Zve:AC:=(sR 3 [oM 23 6,oO 24 (.call false 260 [(.t 23),(.c (.s [44,32,115,116,101,112,115,32]))]),oM 22 24,oE 25 0 22,oE 26 1 22,oE 27 2 22,oM 8 25,oM 9 26,oM 10 27] Zul)
abbrev Ydm:AC:=(sR 2 [oM 16 0,oO 17 (.call false 316 [(.t 16),(.c (.s [111,117,116,99,111,109,101,32]))]),oO 18 (.call false 260 [(.t 17),(.c (.s [44,32,102,97,105,108,105,110,103,32]))]),oM 15 18,oE 19 0 15,oE 20 1 15,oE 21 2 15,oM 5 19,oM 6 20,oM 7 21] Zve)
abbrev Ydp:AC:=(sR 1 [oO 4 (.alloc [z8,z6,z6,zl])] Ydm)
abbrev Zue:AC:=(sR 0 [oO 2 (.alloc [z8,z6,z6,zl]),oC 3 (.b false)] Ydp)
def Fl:AF:={ nt:=62,res:=[.cell 2 4 true,.tmp 3],body:=Zue }
abbrev Ywg (d:Nat)(Zk:St)(Q:AE->Sl->St->Prop)(K:Zw->Bool->Prop):Prop:=∀(σ:Sl)(st:St)(k0:Zo)(v0:Nat)(aa:Zw)(ae:Bool),σ 2=.p k0 v0 0->lk st.bx k0=some (v0,[.i .u8 aa.outcome,.i .i64 aa.failing,.i .i64 aa.steps,.sl .full (List.map Zl.row aa.routines)])->σ 3=.b ae->Fr d (d,0) Zk.bx Zk.ow st.bx st.ow->K aa ae->Q .ret σ st
def Zn9 (PG:Zb)(K:Zw->Bool->Prop)(a7:Bool)(b10:Bool)(e12:Int)(gp:Bool)(ii:Bool)(m0:Zw)(af:Zw):Prop:=
  (a7=true->(b10=true->(gp=true->(ii=true->K af (decide (e12=0)))/\(ii=false->K af false))/\(gp=false->K af false))/\(b10=false->K af false))/\(a7=false->K af false)
section
variable(PG:Zb)(K:Zw->Bool->Prop)
def Zo9 (a7:Bool)(co:BS)(b10:Bool)(e12:Int)(gp:Bool)(m0:Zw)(af:Zw):Prop:=
  ∃e c,Ze PG 317 [.s co] (.tup [.i .i64 e,.b c])/\Zn9 PG K a7 b10 e12 gp c m0 (Zw.mk af.outcome af.failing e af.routines)
def Zoc (a7:Bool)(ce:BS)(co:BS)(b10:Bool)(e12:Int)(m0:Zw)(af:Zw):Prop:=
  ∃e c,Ze PG 317 [.s ce] (.tup [.i .i64 e,.b c])/\Zo9 PG K a7 co b10 e12 c m0 (Zw.mk af.outcome e af.steps af.routines)
def Zj0 (a7:Bool)(ce:BS)(co:BS)(b10:Bool)(e12:Int)(m0:Zw)(af:Zw):Prop:=
  Zoc PG K a7 ce co b10 e12 m0 af
def Zl3 (a7:Bool)(ce:BS)(co:BS)(b10:Bool)(n11:Int)(e12:Int)(m0:Zw)(af:Zw):Prop:=
  Zj0 PG K a7 ce co b10 e12 m0 (Zw.mk n11 af.failing af.steps af.routines)
def Zn8 (fq:BS)(a7:Bool)(ce:BS)(co:BS)(b10:Bool)(m0:Zw)(af:Zw):Prop:=
  ∃e c,Ze PG 211 [.s fq] (.tup [.i .u8 e,.i .i64 c])/\Zl3 PG K a7 ce co b10 e c m0 af
def Zmr (fq:BS)(ib:BS)(a7:Bool)(m0:Zw)(af:Zw):Prop:=
  ∃i c e,Ze PG 260 [.s ib,.s ([44,32,115,116,101,112,115,32]:BS)] (.tup [.s i,.s c,.b e])/\Zn8 PG K fq a7 i c e m0 af
def Zp0 (s0:BS)(m0:Zw)(af:Zw):Prop:=
  ∃j,Ze PG 316 [.s s0,.s ([111,117,116,99,111,109,101,32]:BS)] (.s j)/\∃i e c,Ze PG 260 [.s j,.s ([44,32,102,97,105,108,105,110,103,32]:BS)] (.tup [.s i,.s e,.b c])/\Zmr PG K i e c m0 af
def Zjb (s0:BS)(m0:Zw):Prop:=
  Zp0 PG K s0 m0 (Zw.mk 0 0 0 ([]:List Zl))
def Zhv (s0:BS):Prop:=
  Zjb PG K s0 (Zw.mk 0 0 0 ([]:List Zl))
end
section
variable {PG:Zb}{d:Nat}{Q:AE->Sl->St->Prop}{K:Zw->Bool->Prop}{Zk:St}(hQ:Ywg d Zk Q K){σ:Sl}{st:St}
include hQ
variable {a7 b10:Bool}{e12:Int}{gp ii:Bool}{m0 af:Zw}{v0 ei:Nat}{co ce:BS}{n11:Int}{fq ib s0:BS}
variable (H0:σ 0=.s s0)(H2:σ 2=.p (d,0) v0 0)(H4:σ 4=.p (d,4096) ei 0)(H5:σ 5=.s fq)(H6:σ 6=.s ib)(H7:σ 7=.b a7)(H8:σ 8=.s ce)(H9:σ 9=.s co)(H10:σ 10=.b b10)(H11:σ 11=.i .u8 n11)(H12:σ 12=.i .i64 e12)(H13:σ 13=.b gp)(H14:σ 14=.b ii)(B0:lk st.bx (d,0)=some (v0,[.i .u8 m0.outcome,.i .i64 m0.failing,.i .i64 m0.steps,.sl .full (List.map Zl.row m0.routines)]))(bz:lk st.bx (d,4096)=some (ei,[.i .u8 af.outcome,.i .i64 af.failing,.i .i64 af.steps,.sl .full (List.map Zl.row af.routines)]))(FR:Fr d (d,0) Zk.bx Zk.ow st.bx st.ow)
include H2 H4 H7 H10 H12 H13 H14 B0 bz FR in
theorem Yze (h:Zn9 PG K a7 b10 e12 gp ii m0 af):W PG d Yav σ st Q:=
 au trivial
include H2 H4 H7 H9 H10 H12 H13 B0 bz FR in
theorem Ypb (h:Zo9 PG K a7 co b10 e12 gp m0 af):W PG d Yei σ st Q:=
 au @Yze
include H2 H4 H7 H8 H9 H10 H12 B0 bz FR in
theorem Xbu (h:Zoc PG K a7 ce co b10 e12 m0 af):W PG d Ycx σ st Q:=
 au @Ypb
include H2 H4 H7 H8 H9 H10 H12 B0 bz FR in
theorem Ygo (h:Zj0 PG K a7 ce co b10 e12 m0 af):W PG d Yej σ st Q:=
 au @Xbu
include H2 H4 H7 H8 H9 H10 H11 H12 B0 bz FR in
theorem Ys0 (h:Zl3 PG K a7 ce co b10 n11 e12 m0 af):W PG d Zsf σ st Q:=
 au @Ygo
include H2 H4 H5 H7 H8 H9 H10 B0 bz FR in
theorem Xgm (h:Zn8 PG K fq a7 ce co b10 m0 af):W PG d Zul σ st Q:=
 au @Ys0
include H2 H4 H5 H6 H7 B0 bz FR in
theorem Ytw (h:Zmr PG K fq ib a7 m0 af):W PG d Zve σ st Q:=
 au @Xgm
include H0 H2 H4 B0 bz FR in
theorem Yl7 (h:Zp0 PG K s0 m0 af):W PG d Ydm σ st Q:=
 q_ J (m_ (h.elim fun _ c=>Ya (Je H0 J J) c.1 (x2 c.2 fun _ _ i=>i.elim fun _ e=>Ya (Je J J J) e.1 (m_ (x_ J J (x_ J J (x_ J J (m_ (m_ (m_ (e_ (Ytw hQ H2 H4 J J J B0 bz FR e.2))))))))))))
include H0 H2 B0 FR in
theorem Yur (h:Zjb PG K s0 m0):W PG d Ydp σ st Q:=
 Zp (W.reg (Xo (e_ (Yl7 (af:=(Zw.mk 0 0 0 ([]:List Zl))) hQ H0 H2 J (Zs J B0) (show lk _ (d,4096)=some (_,([.i .u8 0,.i .i64 0,.i .i64 0,.sl .full (List.map Zl.row ([]:List Zl))]:List AV)) from Zj) (Fr.box FR) h))))
include H0 FR in
theorem Yfp (h:Zhv PG K s0):W PG d Zue σ st Q:=
 Zp (W.reg (Xo (m_ (e_ (Yur (m0:=(Zw.mk 0 0 0 ([]:List Zl))) hQ H0 J (show lk _ (d,0)=some (_,([.i .u8 0,.i .i64 0,.i .i64 0,.sl .full (List.map Zl.row ([]:List Zl))]:List AV)) from Zj) (Fr.box FR) h)))))
end
theorem Yza {PG:Zb}(hf:PG.fn 307=some Fl){s0:BS}{K:Zw->Bool->Prop}(h:Zhv PG K s0):Ym PG 307 [.s s0] (fun r=>∃aa:Zw,∃ae:Bool,(r=.tup [aa.avo .full,.b ae])/\K aa ae):=
  Ym.of hf rfl fun d st=>Yfp (Zk:=st) (Q:=fun e σ st'=>(e=.normal\/e=.ret)/\∃r,Xk σ st' Fl.res=some r/\_/\Fr d (d,0) st.bx st.ow st'.bx st'.ow) (fun σ st' k0 v0  aa ae H2 HB2 H3 hf hk=>⟨.inr rfl,.tup [aa.avo .full,.b ae],by simp only [Fl,Xk,Vb,Jr (n:=4) H2 HB2 rfl,H3,Ky,kJ,Jr (n:=4) H2 HB2 rfl,H3],⟨aa,ae,rfl,hk⟩,hf⟩) (σ:=Wc [.s s0]) rfl Fr.refl h
end Go.AM

namespace Go.AM
open Go
set_option maxRecDepth 4000
set_option maxHeartbeats 1000000
attribute [local irreducible] WO Xq We
def Yen:List AI:=[oC 3 (.s []),oC 4 (.b false)]
abbrev Yam:AC:=(sR 3 [oL 17 1,oO 18 (.iaL 1 (.t 17) (.c (.i .i64 0))),oL 19 18,oM 5 19] (sR 4 [oL 20 1,oO 21 (.slL 1 (.t 20) (some (.c (.i .i64 1))) none),oS 1 1 21] (sR 5 [oM 22 5,oM 3 22,oC 4 (.b true)] .ret)))
abbrev Yey:AC:=(sR 0 [oC 3 (.s []),oC 4 (.b false)] (.seq (sR 1 [oL 6 1,oJ 7 6,oV 8 .eql 7 0,oM 9 8,gF 9 (oL 10 1),gF 9 (oO 11 (.iaL 1 (.t 10) (.c (.i .i64 0)))),gF 9 (oL 12 11),gF 9 (oM 13 0),gF 9 (oQ 14 306 [12,13]),gF 9 (oZ 15 14),oR 16 9 15] (.cond (.t 16) (sR 2 Yen .ret) .skip)) Yam))
def Za3:AF:={ nt:=23,res:=[.tmp 3,.tmp 4],body:=Yey }
def Zqd:List AI:=[oK 45 3 3,oM 46 9,oQ 47 84 [45,46],oM 44 47,oE 48 0 44,oE 49 1 44,oE 50 2 44,oO 13 (.alloc [z6,z6,z7,zl]),oM 12 48,oS 4 13 49,oM 14 50]
def Zuz:List AI:=[oK 71 3 3,oM 72 15,oO 73 (.slS (.t 72) (some (.c (.i .i64 2))) none),oQ 74 318 [71,73],oM 70 74,oE 75 0 70,oE 76 1 70,oO 17 (.alloc [z6,z6,zb,z8,z6,zs,zl,zb]),oS 8 17 75,oM 16 76]
def Zwz:List AI:=[oM 97 18,oO 98 (.slS (.t 97) (some (.c (.i .i64 2))) none),oQ 99 156 [98],oM 96 99,oE 100 0 96,oE 101 1 96,oO 20 (.alloc [z7,z8,z6,zs,zl,zb,z7]),oS 7 20 100,oM 21 101]
abbrev Zvm:AC:=(.block 3 (sR 4 [oM 33 2,oO 34 (.callv (.t 33) [(.c (.s [32,32,32,32]))]),oM 32 34,oE 35 0 32,oE 36 1 32,oM 10 35,oM 11 36] (.seq (sR 5 [oM 37 11,oZ 38 37] (.cond (.t 38) (.exit 2) .skip)) (.reg 6 [oM 39 9,oM 40 10,oO 41 (.slS (.t 40) (some (.c (.i .i64 2))) none),oO 42 (.bslice [zs] 1 [(0,(.t 41))]),oO 43 (.app 1 16 (.t 39) (.t 42)),oM 9 43]))))
abbrev Zum:AC:=(sR 7 Zqd (.seq (sR 8 [oM 51 14,oV 52 .neq 51 0] (.cond (.t 52) (sR 9 [oC 6 (.b false)] .ret) .skip)) (.reg 10 [oM 53 1,oM 54 1,oN 55 54,oF 56 2 55,oL 57 56,oK 58 4 13,oO 59 (.bslice [z6,z6,z7,zl] 1 [(0,(.t 58))]),oO 60 (.app 4 48 (.t 57) (.t 59)),oN 61 53,oF 62 2 61,oS 1 62 60])))
abbrev Yb7:AC:=(.block 1 (sR 1 [oM 23 2,oO 24 (.callv (.t 23) [(.c (.s [32,32,35]))]),oM 22 24,oE 25 0 22,oE 26 1 22,oM 7 25,oM 8 26] (.seq (sR 2 [oM 27 8,oZ 28 27] (.cond (.t 28) (.exit 0) .skip)) (sR 3 [oM 29 7,oO 30 (.slS (.t 29) (some (.c (.i .i64 2))) none),oO 31 (.bslice [zs] 1 [(0,(.t 30))]),oM 9 31] (.seq (.block 2 (.loop Zvm)) Zum)))))
abbrev Zyv:AC:=(.block 5 (sR 11 [oM 64 2,oO 65 (.callv (.t 64) [(.c (.s [32,32,100,101,102,101,114,32]))]),oM 63 65,oE 66 0 63,oE 67 1 63,oM 15 66,oM 16 67] (.seq (sR 12 [oM 68 16,oZ 69 68] (.cond (.t 69) (.exit 4) .skip)) (sR 13 Zuz (.seq (sR 14 [oM 77 16,oZ 78 77] (.cond (.t 78) (sR 15 [oC 6 (.b false)] .ret) .skip)) (.reg 16 [oM 79 1,oM 80 1,oN 81 80,oF 82 3 81,oL 83 82,oK 84 8 17,oO 85 (.bslice [z6,z6,zb,z8,z6,zs,zl,zb] 1 [(0,(.t 84))]),oO 86 (.app 8 88 (.t 83) (.t 85)),oN 87 79,oF 88 3 87,oS 1 88 86]))))))
abbrev Ybw:AC:=(.block 7 (sR 17 [oM 90 2,oO 91 (.callv (.t 90) [(.c (.s [32,32]))]),oM 89 91,oE 92 0 89,oE 93 1 89,oM 18 92,oM 19 93] (.seq (sR 18 [oM 94 19,oZ 95 94] (.cond (.t 95) (sR 19 [oC 6 (.b true)] .ret) .skip)) (sR 20 Zwz (.seq (sR 21 [oM 102 21,oV 103 .neq 102 0] (.cond (.t 103) (sR 22 [oC 6 (.b false)] .ret) .skip)) (.reg 23 [oM 104 1,oM 105 1,oN 106 105,oF 107 4 106,oL 108 107,oK 109 7 20,oO 110 (.bslice [z7,z8,z6,zs,zl,zb,z7] 1 [(0,(.t 109))]),oO 111 (.app 7 80 (.t 108) (.t 110)),oN 112 104,oF 113 4 112,oS 1 113 111]))))))
abbrev Ydq:AC:=(.block 6 (.loop Ybw))
abbrev Zw4:AC:=(.seq (.block 4 (.loop Zyv)) Ydq)
abbrev Ymg:AC:=(.seq (.block 0 (.loop Yb7)) Zw4)
abbrev Zy2:AC:=(sR 0 [oY 3 3 0,oC 6 (.b false)] Ymg)
def Ic:AF:={ nt:=114,res:=[.tmp 6],body:=Zy2 }
def Zsk:List AI:=[oY 2 3 0,oO 4 (.alloc [z8,z6,z6,zl]),oI 5 0]
def Zz6:List AI:=[oM 21 1,oO 22 (.call false 304 [(.t 21),(.c (.s [10]))]),oO 6 (.alloc [zl]),oS 1 6 22]
def Zyg:List AI:=[oM 30 8,oO 31 (.call true 307 [(.t 30)]),oM 29 31,oE 32 0 29,oE 33 1 29,oO 10 (.alloc [z8,z6,z6,zl]),oS 4 10 32,oM 11 33]
def Zts:List AI:=[oM 49 12,oO 50 (.call true 308 [(.t 49)]),oM 48 50,oE 51 0 48,oE 52 1 48,oO 14 (.alloc [z8,z6,zl,zl,zl]),oS 5 14 51,oM 13 52]
abbrev Ygn:AC:=(.reg 14 [oF 62 3 10,oL 63 62,oK 64 5 14,oO 65 (.bslice [z8,z6,zl,zl,zl] 1 [(0,(.t 64))]),oO 66 (.app 5 88 (.t 63) (.t 65)),oF 67 3 10,oS 1 67 66])
abbrev Ztw:AC:=(.block 1 (sR 9 [oM 42 7,oO 43 (.callv (.t 42) [(.c (.s [103,111,114,111,117,116,105,110,101,32]))]),oM 41 43,oE 44 0 41,oE 45 1 41,oM 12 44,oM 13 45] (.seq (sR 10 [oM 46 13,oZ 47 46] (.cond (.t 47) (.exit 0) .skip)) (sR 11 Zts (.seq (sR 12 [oM 53 13,oZ 54 53,oM 55 54,gF 55 (oK 56 3 2),gF 55 (oM 57 7),gF 55 (oO 58 (.call true 309 [(.t 56),(.t 14),(.t 57)])),gF 55 (oZ 59 58),oR 60 55 59] (.cond (.t 60) (sR 13 [oO 61 (.build [z8,z6,z6,zl] []),oS 4 4 61,oI 5 12] .ret) .skip)) Ygn)))))
abbrev Zst:AC:=(.seq (sR 15 [oK 69 3 2,oK 70 4 10,oQ 71 205 [69,70],oM 68 71,oE 72 0 68,oE 73 1 68,oM 15 72,oM 16 73] (sR 16 [oM 74 16,oV 75 .neq 74 0,oM 76 75,gF 76 (oM 77 15),gF 76 (oM 78 1),gF 76 (oT 79 .neq 77 78),oR 80 76 79] (.cond (.t 80) (sR 17 [oO 81 (.build [z8,z6,z6,zl] []),oS 4 4 81,oI 5 12] .ret) .skip))) (sR 18 [oK 82 4 10,oS 4 4 82,oI 5 0] .ret))
abbrev Yu5:AC:=(.seq (.block 0 (.loop Ztw)) Zst)
abbrev Yx1:AC:=(.seq (sR 7 [oM 34 9,oZ 35 34,oM 36 35,gF 36 (oM 37 11),gF 36 (oZ 38 37),oR 39 36 38] (.cond (.t 39) (sR 8 [oO 40 (.build [z8,z6,z6,zl] []),oS 4 4 40,oI 5 12] .ret) .skip)) Yu5)
abbrev Yu3:AC:=(sR 6 Zyg Yx1)
abbrev Xiu:AC:=(sR 5 [oM 25 7,oO 26 (.callv (.t 25) [(.c (.s [111,117,116,99,111,109,101,32]))]),oM 24 26,oE 27 0 24,oE 28 1 24,oM 8 27,oM 9 28] Yu3)
abbrev Zs4:AC:=(sR 4 [oO 23 (.mkfn 305 [(.t 6)]),oM 7 23] Xiu)
abbrev Xen:AC:=(sR 3 Zz6 Zs4)
abbrev Zrp:AC:=(.seq (sR 1 [oM 17 1,oH 18 17,oV 19 .gtr 18 300000] (.cond (.t 19) (sR 2 [oO 20 (.build [z8,z6,z6,zl] []),oS 4 4 20,oI 5 4] .ret) .skip)) Xen)
abbrev Zsw:AC:=(sR 0 Zsk Zrp)
def Tm:AF:={ nt:=83,res:=[.cell 4 4 true,.tmp 5],body:=Zsw }
end Go.AM

namespace Go.AM
open Go Go.RowKit Go.BigFrame Go.ChangeMaps
section
variable {P:Program}
end
def Bk (ops:Array Oper) (l:List (Option Nat × Op)):Prop:=ops.toList.map (fun o=>(o.dst,o.op))=l/\∀o∈ops.toList,o.guard=none
theorem Bk.at {ops:Array Oper} {l:List (Option Nat × Op)} (h:Bk ops l) {i:Nat} {d:Option Nat} {p:Op} (hi:l[i]?=some (d,p)) :∃o,ops[i]?=some o/\o.dst=d/\o.op=p/\o.guard=none:=by
 rw [<- h.1,jR,kI] at hi
 obtain ⟨o,h1,h2⟩:=hi
 injection h2 with h2 h3
 exact ⟨o,by simpa using h1,h2,h3,h.2 o (jM h1)⟩
theorem Bk.size {ops:Array Oper} {l:List (Option Nat × Op)} (h:Bk ops l):ops.size=l.length:=by
 rw [<- h.1];simp
def tv (a:Act) (t:Nat):Value:=a.tmps.getD t undef
theorem Xbf (a:Act) (d:Nat) (v:Value) (t:Nat) (h:d<a.tmps.size):tv (a.put (some d) v) t=if t=d then v else tv a t:=by
 unfold tv Act.put
 simp only [jJ,Array.getElem?_setIfInBounds]
 by_cases e:t=d
 ·subst e;simp [h]
 ·rw [kA (fun e'=>e e'.symm),kA e]
section
variable {P:Program} {ops:Array Oper} {l:List (Option Nat × Op)} {Q:Exit->Act->World->Prop} {i:Nat} {rest:List Nat} {a:Act} {w w':World}
theorem Dc (h:Bk ops l) {d:Nat} {p:Op} (hi:l[i]?=some (some d,p)) {v:Value} (hr :∀o:Oper,o.op=p->(execOp a.eval o).run P w=.ok (.value v) w') (hk:wpOps P ops Q rest (a.put (some d) v) w'):wpOps P ops Q (i::rest) a w:=by
 obtain ⟨o,h1,h2,h3,h4⟩:=h.at hi
 rw [wpOps_cons]
 exact Zby (G:=⟨fun _ _=>none,fun _ _=>none,fun _ _=>none,fun _=>none,fun _=>none⟩) (nt:=0) h1 h4 (hr o h3) (by rw [h2];exact hk)
theorem Zvs (h:Bk ops l) {p:Op} (hi:l[i]?=some (none,p)) (hr :∀o:Oper,o.op=p->(execOp a.eval o).run P w=.ok .skip w') (hk:wpOps P ops Q rest a w'):wpOps P ops Q (i::rest) a w:=by
 obtain ⟨o,h1,h2,h3,h4⟩:=h.at hi
 rw [wpOps_cons]
 unfold wpOp
 rw [h1]
 simp only
 rw [kD (by simp [Region.wanted,h4])]
 refine .inl ?_
 unfold Oper.wp
 rw [hr o h3,Oper.upon_skip,h2]
 exact hk
end
section
variable {P:Program}
end
section
variable {P:Program} {X:Cx}
end
end Go.AM

namespace Go.AM
open Go Go.RowKit
section
variable {H:Hp}
theorem Xip {l us:List Value} {o j:Nat} (hle:o+us.length<=l.length):(l.take o++us++l.drop (o+us.length))[j]?=if o<=j/\j<o+us.length then us[j-o]? else l[j]?:=by
 by_cases hj:o<=j/\j<o+us.length
 ·rw [kD hj,jC,zP (by simp;omega),zR (by simp;omega)]
  congr 1
  simp
  omega
 ·rw [kA hj]
  exact Ycw hle hj
theorem Gt.put {rows:List (List AV)} {size:Nat} {cs:Array Value} (h:Gt H rows size cs) {i off:Nat} {row row':List AV} {us:List Value} (hi:rows[i]?=some row) (hl:row'.length=size) (hb:off+us.length<=size)
  (hin :∀(j:Nat) a,off<=j->j<off+us.length->row'[j]?=some a->∃u,us[j-off]?=some u/\Fz H a u/\u.oneCell'=true) (hout :∀j,¬(off<=j/\j<off+us.length)->row'[j]?=row[j]?) :
  Gt H (rows.set i row') size (cs.toList.take (i*size+off)++us++cs.toList.drop (i*size+off+us.length)).toArray:=by
 have hil:i<rows.length:=(jT.1 hi).1
 have hi2:(i+1)*size<=rows.length*size:=zH _ (by omega)
 rw [Nat.succ_mul] at hi2
 have hsz:=h.sz
 have hle:i*size+off+us.length<=cs.toList.length:=by simp;omega
 refine ⟨by simp;omega,fun r hr=>?_,fun i2 r j a h2 h3=>?_⟩
 ·rcases List.mem_or_eq_of_mem_set hr with h' | rfl
  ·exact h.len r h'
  ·exact hl
 ·have hj:j<size:=by
   have hrl:r.length=size:=by
    rcases List.mem_or_eq_of_mem_set (jM h2) with h' | rfl
    ·exact h.len r h'
    ·exact hl
   rw [<- hrl]
   exact (jT.1 h3).1
  rw [zM,Xip hle]
  rw [List.getElem?_set] at h2
  split at h2
  ·rename_i hii
   subst hii
   cases h2
   by_cases hjj:off<=j/\j<off+us.length
   ·obtain ⟨u,h4,h5⟩:=hin j a hjj.1 hjj.2 h3
    refine ⟨u,?_,h5⟩
    rw [kD (by omega),<- h4]
    congr 1
    omega
   ·rw [hout j hjj] at h3
    obtain ⟨u,h4,h5⟩:=h.at_ i row j a hi h3
    refine ⟨u,?_,h5⟩
    rw [kA (by omega),zF]
    exact h4
  ·rename_i hii
   obtain ⟨u,h4,h5⟩:=h.at_ i2 r j a h2 h3
   refine ⟨u,?_,h5⟩
   rw [kA,zF]
   ·exact h4
   ·rintro ⟨h6,h7⟩
    apply hii
    rcases Nat.lt_trichotomy i i2 with h8 | h8 | h8
    ·have:(i+1)*size<=i2*size:=zH _ h8
     rw [Nat.succ_mul] at this;omega
    ·exact h8
    ·have:(i2+1)*size<=i*size:=zH _ h8
     rw [Nat.succ_mul] at this;omega
end
theorem Xcx (w:World) (cs cs':Array Value) (e:TypeId):(w.alloc (.cells cs e)).setRow w.heap.size cs'=w.alloc (.cells cs' e):=by
 unfold World.setRow World.alloc
 simp only
 congr 1
 apply Array.ext
 ·simp
 ·intro i h1 h2
  simp only [Array.size_modify,Array.size_push] at h1
  rw [Array.getElem_modify]
  by_cases hi:w.heap.size=i
  ·subst hi
   simp
  ·rw [kA hi,Array.getElem_push_lt (by omega),Array.getElem_push_lt (by omega)]
theorem Wt.toRun {G G':Gh} {w0:World} {st st':St} {w':World} {d site:Nat} (h:Wt G G' w0 st st' w' d site st.nx):Vo G G' w0 st st' w' d:=by
 refine ⟨h.le,h.rel,h.nx,fun k v hv=>h.old k v hv fun e=>?_,fun k v cs hk hv hn hl=>h.pend k v cs (by omega) hv (fun e=>?_) hn hl,h.newH⟩
 ·injection e with _ e;omega
 ·subst e;simp at hk
def Cd (P:Program) (X:Cx) (nt d:Nat) (f:Sl->St->Option (AE × Sl × St)) (c c':Code):Prop:=
 ∀{σ:Sl} {st:St} {e:AE} {σ':Sl} {st':St},f σ st=some (e,σ',st')->∀{G:Gh} {w0 w:World} {a:Act},X.fm=G.fm->Wd G nt σ a->Yp G w0 st w->
  ∀{Q:Exit->Act->World->Prop},(∀a' w' G',Wd G' nt σ' a'->Vo G G' w0 st st' w' d->Q (Np e) a' w')->c.wp P (Exit.then (c'.wp P Q) Q) a w
theorem Xhb {P:Program} {X:Cx} {C:Wy} {nt n d:Nat} {f:Sl->St->Option (AE × Sl × St)} {c c' y:Code} {ay:AC} (hx:Cd P X nt d f c c') (hy:Qi P X nt d (Yw C n d ay) y):Qi P X nt d (Yw C n d (.seq (.hand f) ay)) (.seq c (.seq c' y)):=by
 intro σ st e σ' st' h G w0 w a hfm hA hR Q hQ
 have out :∀{Q1:Exit->Act->World->Prop} {σ1:Sl} {st1:St} {e1:AE},f σ st=some (e1,σ1,st1)->(∀a' w' G',Wd G' nt σ1 a'->Vo G G' w0 st st1 w' d->Exit.then (y.wp P Q) Q (Np e1) a' w')->(Code.seq c (.seq c' y)).wp P Q a w:=by
  intro Q1 σ1 st1 e1 h1 h2
  refine wp_seq (wp_mono (hx h1 hfm hA hR h2) fun e2 a2 w2 h3=>?_)
  cases e2 with
  | normal=>exact wp_seq h3
  | _=>exact h3
 simp only [Yw] at h
 split at h
 ·rename_i σ1 st1 h1
  refine out (Q1:=Q) h1 fun a1 w1 G1 hA1 hrun1=>?_
  exact hy h (by rw [hrun1.le.fm];exact hfm) hA1 hrun1.rel fun a2 w2 G2 hA2 hrun2=>hQ a2 w2 G2 hA2 (hrun1.trans hrun2)
 ·rename_i hne
  refine out (Q1:=Q) h fun a1 w1 G1 hA1 hrun1=>?_
  have:=hQ a1 w1 G1 hA1 hrun1
  cases e with
  | normal=>exact absurd h (hne _ _)
  | exit id=>exact this
  | ret=>exact this
  | goto l=>exact this
section
variable {P:Program} {X:Cx}
def Rq (nt:Nat) (f:Nat->Value) (a:Act):Prop:=a.defers=[]/\a.tmps.size=nt/\∀t,tv a t=f t
theorem Rq.put {nt:Nat} {f:Nat->Value} {a:Act} (h:Rq nt f a) {d:Nat} (v:Value) (hd:d<nt):Rq nt (fun t=>if t=d then v else f t) (a.put (some d) v):=by
 obtain ⟨p1,p2,p3⟩:=h
 refine ⟨p1,by simp [Act.put,p2],fun t=>?_⟩
 rw [Xbf _ _ _ _ (by omega),p3]
theorem Rq.self {nt:Nat} {a:Act} (h1:a.defers=[]) (h2:a.tmps.size=nt):Rq nt (tv a) a:=⟨h1,h2,fun _=>rfl⟩
end
end Go.AM

namespace Go.AM
open Go Go.RowKit
def qA:Code->Code | .seq a _=>a | c=>c
def qB:Code->Code | .seq _ b=>b | c=>c
def qU:Code->Code | .block _ c=>c | .loop c=>c | c=>c
def qC:Code->Code | .cond _ c _=>c | c=>c
def qD:Code->Code | .cond _ _ c=>c | c=>c
def xA:AC->AC | .seq a _=>a | c=>c
def xB:AC->AC | .seq _ b=>b | c=>c
def xU:AC->AC | .block _ c=>c | .loop c=>c | c=>c
def xC:AC->AC | .cond _ c _=>c | c=>c
def xD:AC->AC | .cond _ _ c=>c | c=>c
def gNo (ops:Array Oper):Bool:=ops.toList.all fun o=>o.guard.isNone
theorem Ip {ops:Array Oper} (h:gNo ops=true) :∀o∈ops.toList,o.guard=none:=fun o ho=>Option.isNone_iff_eq_none.1 (zB.1 h o ho)
def Ey:Code->Array Oper | .region _ o _=>o | _=>#[]
def Yr (f:Func):Code:=f.body.getD .skip
inductive CR (P:Program) (X:Cx) (nt:Nat):Code->AC->Prop
 | leaf {c:Code} {ac:AC} (h:Uk X nt c=some ac):CR P X nt c ac
 | hand {c:Code} {f:Sl->St->Option (AE × Sl × St)} (h :∀d,Qi P X nt d f c):CR P X nt c (.hand f)
 | hand2 {c x y z:Code} {f:Sl->St->Option (AE × Sl × St)} {az:AC} (e:c=.seq x (.seq y z)) (h :∀d,Cd P X nt d f x y) (hz:CR P X nt z az):CR P X nt c (.seq (.hand f) az)
 | seq {c x y:Code} {ax ay:AC} (e:c=.seq x y) (hx:CR P X nt x ax) (hy:CR P X nt y ay):CR P X nt c (.seq ax ay)
 | cond {c x y:Code} {z:Operand} {az:Zq} {ax ay:AC} (e:c=.cond z x y) (hz:Xy X.fm z=some az) (hx:CR P X nt x ax) (hy:CR P X nt y ay):CR P X nt c (.cond az ax ay)
 | block {c x:Code} {id:Nat} {ax:AC} (e:c=.block id x) (hx:CR P X nt x ax):CR P X nt c (.block id ax)
 | loop {c x:Code} {ax:AC} (e:c=.loop x) (hx:CR P X nt x ax):CR P X nt c (.loop ax)
theorem Cd.code {P:Program} {X:Cx} {nt d:Nat} {f:Sl->St->Option (AE × Sl × St)} {x y:Code} (h:Cd P X nt d f x y):Qi P X nt d f (.seq x y):=by
 intro σ st e σ' st' h1 G w0 w a hfm hA hR Q hQ
 exact wp_seq (h h1 hfm hA hR hQ)
section
variable {P:Program} {X:Cx}
theorem CR.ok {C:Wy} (hT:Jh P X.T) (hC:Mm P X.fm C) (hm:P.follows .mixedOrders=true) {nt:Nat} (n d:Nat) {c:Code} {ac:AC} (h:CR P X nt c ac):Qi P X nt d (Yw C n d ac) c:=by
 induction h with
 | leaf h=>exact Yak hT hC hm n d _ _ (kC _) h
 | hand h=>intro σ st e σ' st' h1;exact h d h1
 | hand2 e h hz ih=>subst e;exact Xhb (h d) ih
 | seq e hx hy ihx ihy=>subst e;exact Ycu ihx ihy
 | cond e hz hx hy ihx ihy=>
  subst e
  intro σ st e σ' st' h G w0 w a hfm hA hR Q hQ
  simp only [Yw] at h
  rw [hfm] at hz
  have hv:=Bi hA hz
  unfold Mj at hv
  revert hv
  split at h
  ·rename_i ht
   rw [ht]
   intro hv
   exact wp_cond_true hv.bool_inv (ihx h hfm hA hR hQ)
  ·rename_i ht
   rw [ht]
   intro hv
   exact wp_cond_false hv.bool_inv (ihy h hfm hA hR hQ)
  ·cases h
 | block e hx ih=>
  subst e
  intro σ st e σ' st' h G w0 w a hfm hA hR Q hQ
  simp only [Yw] at h
  refine wp_block ?_
  split at h
  ·rename_i id' σ1 st1 h1
   refine ih h1 hfm hA hR fun a1 w1 G1 hA1 hrun1=>?_
   split at h
   ·rename_i hid
    cases h
    have:=hQ a1 w1 G1 hA1 hrun1
    simp only [Np,Exit.inBlock,hid,jO]
    exact this
   ·rename_i hid
    cases h
    have:=hQ a1 w1 G1 hA1 hrun1
    simp only [Np,Exit.inBlock,hid,jS]
    exact this
  ·rename_i hne
   refine ih h hfm hA hR fun a1 w1 G1 hA1 hrun1=>?_
   have:=hQ a1 w1 G1 hA1 hrun1
   cases e with
   | normal=>exact this
   | exit id'=>exact absurd h (hne _ _ _)
   | ret=>exact this
   | goto l=>exact this
 | loop e hx ih=>
  subst e
  intro σ st e σ' st' h G w0 w a hfm hA hR Q hQ
  simp only [Yw] at h
  exact wp_loop_rounds n (Zmu ih n h hfm hA hR hQ)
theorem Nx.ofCR {F:AF} {c:Code} {ac:AC} (hb:F.body=ac) (h:CR P { X with fz:=F.fz } F.nt c ac):Nx P X F c:=by
 intro hT hm C hC n d
 rw [hb]
 intro σ st e σ' st' h1
 exact CR.ok (X:={ X with fz:=F.fz }) hT hC hm n d h h1
end
end Go.AM

namespace Go.AM
open Go Go.RowKit
theorem Xbp {w:World} {g:Nat} {cs:Array Value} {o:Obj} (h:g<w.heap.size):(w.alloc o).setRow g cs=(w.setRow g cs).alloc o:=by
 unfold World.setRow World.alloc
 simp only
 congr 1
 apply Array.ext
 ·simp
 ·intro i h1 h2
  simp only [Array.size_modify,Array.size_push] at h1
  rw [Array.getElem_modify]
  rcases jE i w.heap.size with hi | hi
  ·rw [Array.getElem_push_lt hi,Array.getElem_push_lt (by simpa using hi),Array.getElem_modify]
  ·have:i=w.heap.size:=by omega
   subst this
   rw [kA (by omega)]
   simp [Array.getElem_push]
theorem Yw8 {w:World} {g:Nat} {cs:Array Value}:(w.setRow g cs).heap.size=w.heap.size:=by
 unfold World.setRow;simp
theorem Xh4 {w:World} {g:Nat} {cs cs':Array Value} {e:TypeId} {f:Nat × Nat} (h:w.heap[g]?=some (.cells cs e f)):(w.setRow g cs').heap[g]?=some (.cells cs' e f):=by
 unfold World.setRow
 simp [Array.getElem?_modify,h]
theorem Ybk {w:World} {g:Nat} {o o':Obj} (h:w.heap[g]?=some o):(w.alloc o').heap[g]?=some o:=by
 have:=Kj h
 unfold World.alloc
 simp only
 rw [Array.getElem?_push_lt this,<- h,jZ this]
section
variable {P:Program} {w:World}
theorem Zuv {t:TypeId} {i:TI} (hT:Wu P t i) (hs:i.size=1) {g off:Nat} {e:TypeId} {cur:Array Value} (hh:w.heap[g]?=some (.cells cur e (0,0))) (ho:off<cur.size) {v:Value} (hv:v.oneCell'=true) (hc:v.cells=#[v]) :
  (Instr.storeAt t (.pointer (some ⟨g,off,none⟩)) v).run P w=.ok () (w.setRow g (cur.toList.take off++[v]++cur.toList.drop (off+1)).toArray):=by
 obtain ⟨ti,z,hi,hsz,_⟩:=hT.info
 have hst:=run_storeCells_at (P:=P) g off e [v] 0 cur w hh (by simp;omega) (by simpa using hv)
 simp only [yJ] at hst
 simp only [Instr.storeAt,Instr.sureAddr,jH,jP,kY,storeVar,sizeOf,typeInfo,run_program,hi,hc]
 rw [kA (show ¬((#[v]:Array Value).size≠ti.size) by rw [hsz,hs];simp)]
 exact hst
theorem Yyl {t:TypeId} {k:TK} (hk:k.ok P t) (ha:k.agg=false) {g off:Nat} {e:TypeId} {cur:Array Value} (hh:w.heap[g]?=some (.cells cur e (0,0))) {v:Value} (hv:cur[off]?=some v) :
  (Instr.loadAt t (.pointer (some ⟨g,off,none⟩))).run P w=.ok v w:=by
 have:w.cell? ⟨g,off,none⟩=some v:=by simp [World.cell?,hh,hv]
 simp only [Instr.loadAt,Instr.sureAddr,jH,jP,kY,loadVar,Rz hk,ha,jK,jS,run_load,this]
theorem Zm3 {s:TypeId} {fs:List (Nat × Nat)} (ht:(TK.st fs).ok P s) {f ft off:Nat} (hf:fs[f]?=some (ft,off)) {i:TI} (hT:Wu P ft i) (hz:i.size≠0) (g o:Nat) :
  (Instr.fieldAt s (.pointer (some ⟨g,o,none⟩)) f).run P w=.ok (.pointer (some ⟨g,o+off,none⟩)) w:=by
 obtain ⟨fields,hu,hmap,_⟩:=ht
 obtain ⟨ti,z,hi,hsz,_⟩:=hT.info
 have hz':ti.size≠0:=by rw [hsz];exact hz
 have hfl :∃fl,fields[f]?=some fl/\fl.type=ft/\fl.offset=off:=by
  rw [<- hmap] at hf
  simp only [jR,kI,zF] at hf
  obtain ⟨fl,h1,h2⟩:=hf
  exact ⟨fl,h1,by injection h2,by injection h2⟩
 obtain ⟨fl,hfl,rfl,rfl⟩:=hfl
 simp [Instr.fieldAt,run_underlying hu,hfl,Instr.sureAddr,fieldPlace,sizeOf,typeInfo,hi,hz',zY]
theorem Xgs {tS tE:TypeId} (htS:P.underlying tS=some (.slice tE)) {i:TI} (hT:Wu P tE i) {n m j:Nat} (hj:j<m) :
  (Instr.indexAt tS (.slice (some ⟨n,0,none⟩) m m) (.int .i64 (j:Int))).run P w=.ok (.pointer (some ⟨n,j*i.size,none⟩)) w:=by
 obtain ⟨ti,z,hi,hsz,_⟩:=hT.info
 simp [Instr.indexAt,run_underlying htS,asIntOf,sizeOf,typeInfo,hi,hsz,zY,hj]
end
theorem CR.handS {P:Program} {X:Cx} {nt:Nat} {c x y:Code} {f:Sl->St->Option (AE × Sl × St)} (e:c=.seq x y) (h :∀d,Cd P X nt d f x y):CR P X nt c (.hand f):=.hand fun d=>by rw [e];exact Cd.code (h d)
def Lv:List AV:=[.i .u8 3,.i .i64 0,.sl .ext [],.sl .ext [],.sl .ext []]
def Pw:List Nat:=[257,258,23,259,260,261,262,263,264,265,266,267]
def Zc4 (σ:Sl):Sl:=fun t=>if Pw.contains t=true then .u else σ t
def La (cs:List AV):List AV:=Kf cs 3 [.sl .full (List.replicate 17 Lv)]
def Lh (σ:Sl) (st:St):Option (AE × Sl × St):=match σ 22 with
 | .p k v 0=>match lk st.bx k with
  | some (v',cs)=>if v'=v/\cs.length=4 then some (.normal,Zc4 σ,{ st with bx:=Yx st.bx k (v,La cs) }) else none
  | _=>none
 | _=>none
theorem Yns {σ:Sl} {st:St} {k:Zo} {v:Nat} {cs cs':List AV} (h1:σ 22=.p k v 0) (hk:lk st.bx k=some (v,cs)) (hl:Nat.beq cs.length 4=true) (hc:La cs=cs'):Lh σ st=some (.normal,Zc4 σ,{ st with bx:=Yx st.bx k (v,cs') }):=by
 unfold Lh
 rw [h1]
 simp only [hk]
 rw [kD ⟨trivial,zJ hl⟩,hc]
def Nj:Zl:=⟨3,0,[],[],[]⟩
theorem Xhc {a b c d:AV}:La [a,b,c,d]=[a,b,c,.sl .full (List.map Zl.row (Qu 17 Nj))]:=by
 rw [Ss,List.map_replicate]
 rfl
def Ds (z:List AV) (i:Nat):List (List AV):=List.replicate i Lv++List.replicate (17-i) z
theorem Ygt (z:List AV) {i:Nat} (h:i<=17):(Ds z i).length=17:=by simp [Ds];omega
theorem Yhd (z:List AV) {i:Nat} (h:i<17):(Ds z i)[i]?=some z:=by
 unfold Ds
 rw [zP (by simp),List.length_replicate,Nat.sub_self,List.getElem?_replicate,kD (by omega)]
theorem Ywm (z:List AV) {i:Nat} (h:i<17):(Ds z i).set i Lv=Ds z (i+1):=by
 unfold Ds
 rw [List.set_append_right _ _ (by simp)]
 obtain ⟨m,hm⟩ :∃m,17-i=m+1:=⟨16-i,by omega⟩
 rw [hm,List.replicate_succ,List.length_replicate,Nat.sub_self,List.set_cons_zero,List.replicate_succ',jC,show 17-(i+1)=m from by omega]
 rfl
section
variable {P:Program} {X:Cx}
set_option maxHeartbeats 1000000 in
theorem Ywn {nt d tS tE tI tB tU:Nat} {i7 i8 i9 i0 i1:Nat} {ops7 ops8 ops9 ops0 ops1:Array Oper} {iS iE iB iU:TI} {fsB fsE:List (Nat × Nat)} (hnt:268<=nt)
  (htS:P.underlying tS=some (.slice tE)) (hS:Wu P tS iS) (hS1:iS.size=1) (hSa:iS.kind.agg=false)
  (hE:Wu P tE iE) (hEk:iE.kind=.st fsE) (hE0:fsE[0]?=some (tU,0)) (hU:Wu P tU iU) (hU1:iU.size=1)
  (hB:Wu P tB iB) (hBk:iB.kind=.st fsB) (hB3:fsB[3]?=some (tS,3))
  (hz:Vf iE.zero=some [.i .u8 0,.i .i64 0,.sl .ext [],.sl .ext [],.sl .ext []]) (hzl:iE.size=5) (hbt:iE.bytes<=100)
  (h7:Bk ops7 [(some 257,.makeSlice tS (.const (.int .i64 17)) (.const (.int .i64 17))),(some 258,.fieldAddr tB (.tmp 22) 3),(none,.store tS (.tmp 258) (.tmp 257))])
  (h8:Bk ops8 [(some 23,.assign (.const (.int .i64 0)))])
  (h9:Bk ops9 [(some 259,.move (.tmp 23)),(some 260,.binOp .lss tI (.tmp 259) (.const (.int .i64 17)) tI)])
  (h0:Bk ops0 [(some 261,.move (.tmp 23)),(some 262,.binOp .add tI (.tmp 261) (.const (.int .i64 1)) tI),(some 23,.assign (.tmp 262))])
  (h1:Bk ops1 [(some 263,.fieldAddr tB (.tmp 22) 3),(some 264,.load tS (.tmp 263)),(some 265,.move (.tmp 23)),(some 266,.indexAddr tS (.tmp 264) (.tmp 265)),(some 267,.fieldAddr tE (.tmp 266) 0),(none,.store tU (.tmp 267) (.const (.int .u8 3)))]) :
  Cd P X nt d Lh (.region i7 ops7 false) (.seq (.region i8 ops8 false) (.block 5 (.loop (.seq (.seq (.region i9 ops9 false) (.cond (.tmp 260) .skip (.exit 5))) (.seq (.block 6 (.region i1 ops1 false)) (.region i0 ops0 false)))))):=by
 intro σ st e' σ' st' h G w0 w a hfm hA hR Q hQ
 unfold Lh at h
 split at h
 rotate_left 1
 ·cases h
 rename_i k v hσ
 split at h
 rotate_left 1
 ·cases h
 rename_i v' cs0 hlk
 split at h
 rotate_left 1
 ·cases h
 rename_i hc
 obtain ⟨rfl,hlen⟩:=hc
 cases h
 have hkE:(TK.st fsE).ok P tE:=by rw [<- hEk];exact hE.kind
 have hkB:(TK.st fsB).ok P tB:=by rw [<- hBk];exact hB.kind
 have h22:=hA.2.2 22
 rw [hσ] at h22
 obtain ⟨g,hv22,hρ⟩:=h22.p_inv
 obtain ⟨us,eB,hge,hheap,hrs,hu1,hnone⟩:=hR.bx k v' cs0 g hlk hρ
 have hgl:g<w.heap.size:=Kj hheap
 have hul:us.length=4:=by rw [<- hrs.1];exact hlen
 obtain ⟨ti,zv,hi,hsz,hby,hzv,hzs,hzsl,hat⟩:=Ziy (G:=G) hE hz
 generalize hzsd:([.i .u8 0,.i .i64 0,.sl .ext [],.sl .ext [],.sl .ext []]:List AV)=zs at hzsl hat hz
 have hti:ti.size=5:=hsz.trans hzl
 have hz5:zv.cells.size=5:=hzs.trans hzl
 have hinit:=Gt.made (G:=G) (zs:=zs) (z:=zv.cells) (n:=17) (by rw [hzsl,hzs]) (by omega) hat
 rw [hz5] at hinit
 have a0:Rq nt (tv a) a:=.self hA.1 hA.2.1
 have hv22':tv a 22=.pointer (some ⟨g,0,none⟩):=hv22
 generalize hN:w.heap.size=N at hgl
 -- the new block,stored in the field
 refine wp_region ?_
 rw [h7.size]
 show wpOps P ops7 _ [0,1,2] _ _
 have hrun:=run_make (P:=P) w tS tE ti zv htS hi hzv .i64 .i64 17 17 (by omega) (Int.le_refl _) (by rw [hby];have:(17:Int).toNat=17:=rfl;omega) (by decide)
 have hrun':(Instr.makeSlice tS (.int .i64 17) (.int .i64 17)).run P w=.ok (.slice (some ⟨N,0,none⟩) 17 17) (w.alloc (.cells (madeCells zv.cells (17*5)) tE)):=by rw [hrun,hti,hN];rfl
 generalize madeCells zv.cells (17*5)=mc at hrun' hinit
 refine Dc h7 (d:=257) (v:=.slice (some ⟨N,0,none⟩) 17 17) (w':=w.alloc (.cells mc tE)) rfl (fun o ho=>?_) ?_
 ·simp only [execOp,ho]
  exact Wn hrun'
 have a1:=a0.put (d:=257) (.slice (some ⟨N,0,none⟩) 17 17) (by omega)
 generalize a.put (some 257) (.slice (some ⟨N,0,none⟩) 17 17)=b1 at a1 ⊢
 refine Dc h7 (d:=258) (v:=.pointer (some ⟨g,3,none⟩)) (w':=w.alloc (.cells mc tE)) rfl (fun o ho=>?_) ?_
 ·simp only [execOp,ho]
  refine Wn ?_
  rw [show b1.eval (.tmp 22)=.pointer (some ⟨g,0,none⟩) from (a1.2.2 22).trans hv22']
  rw [Zm3 hkB hB3 hS (by omega)]
 have a2:=a1.put (d:=258) (.pointer (some ⟨g,3,none⟩)) (by omega)
 generalize b1.put (some 258) (.pointer (some ⟨g,3,none⟩))=b2 at a2 ⊢
 generalize hsv:Value.slice (some ⟨N,0,none⟩) 17 17=sv at a2
 have hs1:sv.oneCell'=true:=by rw [<- hsv];rfl
 have hs2:sv.cells=#[sv]:=by rw [<- hsv];rfl
 generalize hW:w.setRow g (us.take 3++[sv]++us.drop (3+1)).toArray=W
 have hWn:W.heap.size=N:=by rw [<- hW,Yw8,hN]
 have hWg:W.heap[g]?=some (.cells (us.take 3++[sv]++us.drop (3+1)).toArray eB (0,0)):=by rw [<- hW];exact Xh4 hheap
 have hWat :∀cs,(w.alloc (.cells cs tE)).setRow g (us.take 3++[sv]++us.drop (3+1)).toArray=W.alloc (.cells cs tE):=fun cs=>by rw [Xbp (by omega),hW]
 refine Zvs h7 (w':=W.alloc (.cells mc tE)) rfl (fun o ho=>?_) ?_
 ·simp only [execOp,ho]
  refine Zof ?_
  rw [show b2.eval (.tmp 258)=.pointer (some ⟨g,3,none⟩) from a2.2.2 258,show b2.eval (.tmp 257)=sv from a2.2.2 257]
  rw [Zuv hS hS1 (Ybk hheap) (by simp;omega) hs1 hs2,<- hWat]
 show Code.wp P _ _ b2 _
 refine wp_seq (wp_region ?_)
 rw [h8.size]
 show wpOps P ops8 _ [0] _ _
 refine Dc h8 (d:=23) (v:=.int .i64 0) (w':=W.alloc (.cells mc tE)) rfl (fun o ho=>by simp only [execOp,ho];rfl) ?_
 have a3:=a2.put (d:=23) (.int .i64 0) (by omega)
 generalize b2.put (some 23) (.int .i64 0)=b3 at a3 ⊢
 show Code.wp P _ _ b3 _
 let Inv:Nat->Act->World->Prop:=fun i b' w'=>i<=17/\b'.defers=[]/\b'.tmps.size=nt/\(∀t,Pw.contains t=false->tv b' t=tv a t)/\tv b' 23=.int .i64 (i:Int)/\∃cs,w'=W.alloc (.cells cs tE)/\Gt G.H (Ds zs i) 5 cs
 have keep :∀{f:Nat->Value} {b':Act},Rq nt f b'->(∀t,Pw.contains t=false->f t=tv a t)->∀t,Pw.contains t=false->tv b' t=tv a t:=by
  intro f b' h1 h2 t h4
  rw [h1.2.2 t,h2 t h4]
 have nin :∀{t d:Nat},Pw.contains t=false->Pw.contains d=true->t≠d:=by
  rintro t d h1 h2 rfl
  rw [h2] at h1;cases h1
 have init:Inv 0 b3 (W.alloc (.cells mc tE)):=by
  refine ⟨by omega,a3.1,a3.2.1,keep a3 fun t h2=>?_,a3.2.2 23,_,rfl,?_⟩
  ·simp only [kA (nin h2 (d:=23) rfl),kA (nin h2 (d:=258) rfl),kA (nin h2 (d:=257) rfl)]
  ·have e1:Ds zs 0=List.replicate 17 zs:=by unfold Ds;rw [List.replicate_zero,zA]
   rw [e1]
   exact hinit
 have out :∀{b':Act} {w':World},Inv 17 b' w'->Q .normal b' w':=by
  rintro b' w' ⟨_,i1,i2,i3,i5,cs,rfl,i6⟩
  have e1:Ds zs 17=List.replicate 17 Lv:=by unfold Ds;rw [Nat.sub_self,List.replicate_zero,zQ]
  rw [e1] at i6
  obtain ⟨G',h1,h2⟩:=i6.step hR (e:=tE) (d:=d) (site:=0) (ver:=st.nx)
  rw [List.length_replicate,hN,hsv] at h1
  have hru:=h2.toRun
  have hrs':Rs G' (La cs0) (us.take 3++[sv]++us.drop (3+1)):=by
   have:=(hrs.mono h2.le).setAt_ (o:=3) (vs:=[.sl .full (List.replicate 17 Lv)]) (xs:=[sv]) ⟨rfl,fun j x u hx hu=>?_⟩ (show 3+1<=cs0.length by omega)
   ·exact this
   ·cases j with
    | zero=>cases hx;cases hu;exact h1
    | succ j=>simp at hx
  have hρ':=h2.le.ρ _ _ _ hρ
  have hrel:=h2.rel.setBox hlk hρ' hrs' (fun x hx=>?_) (fun hb hcs=>?_)
  ·rw [hWat] at hrel
   refine hQ b' _ G' ⟨i1,i2,fun t=>?_⟩ ⟨hru.le,hrel,hru.nx,hru.old,fun k2 v2 cs2 hk hv hn hl=>?_,hru.newH⟩
   ·show R G' (Zc4 σ t) (tv b' t)
    unfold Zc4
    split
    ·exact .fz _ _ (.u _)
    ·rename_i h4
     rw [i3 t (by simpa using h4)]
     exact (hA.2.2 t).mono h2.le
   ·have hne:k≠k2:=by
     rintro rfl
     rw [hlk] at hl
     cases hl
     rw [hρ] at hn
     cases hn
    simpa [Sh st.bx _ hne] using hl
  ·simp only [jB,jV] at hx
   rcases hx with (hx | hx) | hx
   ·exact hu1 x (yC hx)
   ·rw [hx];exact hs1
   ·exact hu1 x (List.mem_of_mem_drop hx)
  ·obtain ⟨us',h3,h3n⟩:=hR.bxT k v' cs0 g hb hlk hρ
   rw [hheap] at h3
   injection h3 with h3
   injection h3 with h3
   subst h3
   have e2:(La cs0)[1]?=cs0[1]?:=by unfold La Kf Kf;rw [List.getElem?_set_ne (by decide)]
   rw [e2] at hcs
   have h8:=h3n hcs
   rw [jC,zR (by simp;omega),List.getElem?_take_of_lt (by decide)]
   simpa using h8
 refine wp_block (wp_loop_rounds 18 ?_)
 have rounds :∀(m i:Nat) (b':Act) (w':World),Inv i b' w'->17-i<m->Code.rounds P (.seq (.seq (.region i9 ops9 false) (.cond (.tmp 260) .skip (.exit 5))) (.seq (.block 6 (.region i1 ops1 false)) (.region i0 ops0 false))) (Exit.inBlock 5 Q) m b' w':=by
  intro m
  induction m with
  | zero=>intro i b' w' _ h;exact absurd h (yE _)
  | succ m ih=>
   intro i b' w' hI hm
   rw [rounds_succ]
   obtain ⟨i0,i1,i2,i3,i5',cs,rfl,i6'⟩:=hI
   refine wp_seq (wp_seq (wp_region ?_))
   rw [h9.size]
   show wpOps P ops9 _ [0,1] _ _
   have c0:Rq nt (tv b') b':=.self i1 i2
   refine Dc h9 (d:=259) (v:=.int .i64 (i:Int)) (w':=W.alloc (.cells cs tE)) rfl (fun o ho=>?_) ?_
   ·simp only [execOp,ho]
    rw [show b'.eval (.tmp 23)=_ from i5']
    rfl
   have c1:=c0.put (d:=259) (.int .i64 (i:Int)) (by omega)
   generalize b'.put (some 259) (.int .i64 (i:Int))=d1 at c1 ⊢
   refine Dc h9 (d:=260) (v:=.bool (decide ((i:Int)<17))) (w':=W.alloc (.cells cs tE)) rfl (fun o ho=>?_) ?_
   ·simp only [execOp,ho]
    refine Wn ?_
    rw [show d1.eval (.tmp 259)=.int .i64 (i:Int) from c1.2.2 259,show d1.eval (.const (.int .i64 17))=.int .i64 17 from rfl]
    simp only [jH,Zj4,kY]
    simp [binOp,Op.intCmp]
   have c2:=c1.put (d:=260) (.bool (decide ((i:Int)<17))) (by omega)
   generalize d1.put (some 260) (.bool (decide ((i:Int)<17)))=d2 at c2 ⊢
   show Code.wp P _ _ d2 _
   by_cases hlt:i<17
   ·refine wp_cond_true ?_ (wp_skip ?_)
    ·show tv d2 260=_
     exact (c2.2.2 260).trans (jD Value.bool (kN (by omega)))
    show Code.wp P _ _ d2 _
    refine wp_seq (wp_block (wp_region ?_))
    rw [h1.size]
    show wpOps P ops1 _ [0,1,2,3,4,5] _ _
    refine Dc h1 (d:=263) (v:=.pointer (some ⟨g,3,none⟩)) (w':=W.alloc (.cells cs tE)) rfl (fun o ho=>?_) ?_
    ·simp only [execOp,ho]
     refine Wn ?_
     rw [show d2.eval (.tmp 22)=.pointer (some ⟨g,0,none⟩) from (c2.2.2 22).trans ((i3 22 rfl).trans hv22'),Zm3 hkB hB3 hS (by omega)]
    have c3:=c2.put (d:=263) (.pointer (some ⟨g,3,none⟩)) (by omega)
    generalize d2.put (some 263) (.pointer (some ⟨g,3,none⟩))=d3 at c3 ⊢
    refine Dc h1 (d:=264) (v:=sv) (w':=W.alloc (.cells cs tE)) rfl (fun o ho=>?_) ?_
    ·simp only [execOp,ho]
     refine Wn ?_
     rw [show d3.eval (.tmp 263)=_ from c3.2.2 263]
     refine Yyl hS.kind hSa (Ybk hWg) ?_
     rw [zM,jC,zP (by simp;omega)]
     simp [hul]
    have c4:=c3.put (d:=264) sv (by omega)
    generalize d3.put (some 264) sv=d4 at c4 ⊢
    refine Dc h1 (d:=265) (v:=.int .i64 (i:Int)) (w':=W.alloc (.cells cs tE)) rfl (fun o ho=>?_) ?_
    ·simp only [execOp,ho]
     rw [show d4.eval (.tmp 23)=.int .i64 (i:Int) from (c4.2.2 23).trans i5']
     rfl
    have c5:=c4.put (d:=265) (.int .i64 (i:Int)) (by omega)
    generalize d4.put (some 265) (.int .i64 (i:Int))=d5 at c5 ⊢
    refine Dc h1 (d:=266) (v:=.pointer (some ⟨N,i*5,none⟩)) (w':=W.alloc (.cells cs tE)) rfl (fun o ho=>?_) ?_
    ·simp only [execOp,ho]
     refine Wn ?_
     rw [show d5.eval (.tmp 264)=sv from c5.2.2 264,show d5.eval (.tmp 265)=.int .i64 (i:Int) from c5.2.2 265,<- hsv,Xgs htS hE hlt,hzl]
    have c6:=c5.put (d:=266) (.pointer (some ⟨N,i*5,none⟩)) (by omega)
    generalize d5.put (some 266) (.pointer (some ⟨N,i*5,none⟩))=d6 at c6 ⊢
    refine Dc h1 (d:=267) (v:=.pointer (some ⟨N,i*5+0,none⟩)) (w':=W.alloc (.cells cs tE)) rfl (fun o ho=>?_) ?_
    ·simp only [execOp,ho]
     refine Wn ?_
     rw [show d6.eval (.tmp 266)=_ from c6.2.2 266]
     exact Zm3 hkE hE0 hU (by omega) _ _
    have c7:=c6.put (d:=267) (.pointer (some ⟨N,i*5+0,none⟩)) (by omega)
    generalize d6.put (some 267) (.pointer (some ⟨N,i*5+0,none⟩))=d7 at c7 ⊢
    have hcsz:cs.size=17*5:=by rw [i6'.sz,Ygt zs i0]
    have hput:=i6'.put (i:=i) (off:=0) (row:=zs) (row':=Lv) (us:=[.int .u8 3]) (Yhd zs hlt) rfl (by simp) (fun j x _ hj hx=>by
     have:j=0:=by simpa using hj
     subst this
     cases hx
     exact ⟨_,rfl,.i _ _,rfl⟩) (fun j hj=>by
     have hj2:1<=j:=by simp at hj;omega
     obtain ⟨j,rfl⟩ :∃q,j=q+1:=⟨j-1,by omega⟩
     rw [<- hzsd]
     rfl)
    rw [Ywm zs hlt] at hput
    simp only [kB,kG] at hput
    refine Zvs h1 (w':=W.alloc (.cells (cs.toList.take (i*5+0)++[Value.int .u8 3]++cs.toList.drop (i*5+0+(0+1))).toArray tE)) rfl (fun o ho=>?_) ?_
    ·simp only [execOp,ho]
     refine Zof ?_
     rw [show d7.eval (.tmp 267)=.pointer (some ⟨N,i*5+0,none⟩) from c7.2.2 267,show d7.eval (.const (.int .u8 3))=.int .u8 3 from rfl]
     have hn:(W.alloc (.cells cs tE)).heap[N]?=some (.cells cs tE (0,0)):=by rw [<- hWn];exact heap_alloc_new W _
     rw [Zuv (cur:=cs) hU hU1 hn (by rw [hcsz];omega) rfl rfl]
     have:=Xcx W cs (cs.toList.take (i*5+0)++[Value.int .u8 3]++cs.toList.drop (i*5+0+1)).toArray tE
     rw [hWn] at this
     rw [this]
    generalize (cs.toList.take (i*5+0)++[Value.int .u8 3]++cs.toList.drop (i*5+0+(0+1))).toArray=cs' at hput ⊢
    show Code.wp P _ _ d7 _
    refine wp_region ?_
    rw [h0.size]
    show wpOps P ops0 _ [0,1,2] _ _
    refine Dc h0 (d:=261) (v:=.int .i64 (i:Int)) (w':=W.alloc (.cells cs' tE)) rfl (fun o ho=>?_) ?_
    ·simp only [execOp,ho]
     rw [show d7.eval (.tmp 23)=.int .i64 (i:Int) from (c7.2.2 23).trans i5']
     rfl
    have c8:=c7.put (d:=261) (.int .i64 (i:Int)) (by omega)
    generalize d7.put (some 261) (.int .i64 (i:Int))=d8 at c8 ⊢
    refine Dc h0 (d:=262) (v:=.int .i64 ((i+1:Nat):Int)) (w':=W.alloc (.cells cs' tE)) rfl (fun o ho=>?_) ?_
    ·simp only [execOp,ho]
     refine Wn ?_
     rw [show d8.eval (.tmp 261)=.int .i64 (i:Int) from c8.2.2 261,show d8.eval (.const (.int .i64 1))=.int .i64 1 from rfl]
     have e1:IntKind.i64.wrap ((i:Int)+1)=((i+1:Nat):Int):=by rw [IntKind.wrap_i64];omega
     simp only [jH,Zj4,kY]
     simp [binOp,Op.intArith,e1]
    have c9:=c8.put (d:=262) (.int .i64 ((i+1:Nat):Int)) (by omega)
    generalize d8.put (some 262) (.int .i64 ((i+1:Nat):Int))=d9 at c9 ⊢
    refine Dc h0 (d:=23) (v:=.int .i64 ((i+1:Nat):Int)) (w':=W.alloc (.cells cs' tE)) rfl (fun o ho=>?_) ?_
    ·simp only [execOp,ho]
     rw [show d9.eval (.tmp 262)=_ from c9.2.2 262]
     rfl
    have c10:=c9.put (d:=23) (.int .i64 ((i+1:Nat):Int)) (by omega)
    generalize d9.put (some 23) (.int .i64 ((i+1:Nat):Int))=d10 at c10 ⊢
    show Code.rounds P _ _ m d10 _
    refine ih (i+1) d10 _ ⟨by omega,c10.1,c10.2.1,keep c10 fun t h2=>?_,c10.2.2 23,cs',rfl,hput⟩ (by omega)
    simp only [kA (nin h2 (d:=23) rfl),kA (nin h2 (d:=262) rfl),kA (nin h2 (d:=261) rfl),kA (nin h2 (d:=267) rfl),kA (nin h2 (d:=266) rfl),kA (nin h2 (d:=265) rfl),kA (nin h2 (d:=264) rfl),kA (nin h2 (d:=263) rfl),kA (nin h2 (d:=260) rfl),kA (nin h2 (d:=259) rfl)]
    exact i3 t h2
   ·have he:i=17:=by omega
    subst he
    refine wp_cond_false ?_ (wp_exit ?_)
    ·show tv d2 260=_
     exact (c2.2.2 260).trans (jD Value.bool (kM (by omega)))
    show Exit.inBlock 5 Q (.exit 5) _ _
    simp only [Exit.inBlock,jO]
    refine out ⟨i0,c2.1,c2.2.1,keep c2 fun t h2=>?_,(c2.2.2 23).trans i5',cs,rfl,i6'⟩
    simp only [kA (nin h2 (d:=260) rfl),kA (nin h2 (d:=259) rfl)]
    exact i3 t h2
 exact rounds 18 0 b3 _ init (by omega)
end
end Go.AM

namespace Go.AM
open Go
section
variable {σ:Sl} {cells cs:List AV} {off n:Nat} {x:Zq} {ps:List (Nat × Nat × Zq)}
def fOk (cells l:List AV) (off n:Nat):Bool:=Nat.beq l.length n&&Nat.ble (off+n) cells.length&&l.all AV.one
theorem Xw {v:AV} (hc:fOk cells v.cells off n=true) (h:Xq σ (Kf cells off v.cells) ps=some cs):Xq σ cells ((off,n,.c v)::ps)=some cs:=Yl rfl hc h
theorem Fm {vs:List AV} (hx:x.ev σ=.ag vs) (hc:fOk cells vs off n=true) (h:Xq σ (Kf cells off vs) ps=some cs):Xq σ cells ((off,n,x)::ps)=some cs:=Yl hx hc h
theorem Jn {o:Zm} {rows:List (List AV)} (hx:x.ev σ=.sl o rows) (hc:fOk cells [.sl o rows] off n=true) (h:Xq σ (Kf cells off [.sl o rows]) ps=some cs):Xq σ cells ((off,n,x)::ps)=some cs:=Yl hx hc h
end
end Go.AM
