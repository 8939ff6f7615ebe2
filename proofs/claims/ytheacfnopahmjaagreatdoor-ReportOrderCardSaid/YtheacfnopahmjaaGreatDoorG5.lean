/- Parts of the proof: U40f, U40g, U40h, U40k, U40m, K40y, C30, C30b, V38b, V38c, V39, V39b, C38, C38b. -/
import Derived.Test.YtheacfnopahmjaaGreatDoorG2
import Derived.Test.YtheacfnopahmjaaGreatDoorRows
import Derived.Test.YtheacfnopahmjaaGreatDoorG3
import Derived.Test.YtheacfnopahmjaaGreatDoorG4
import Derived.Shelf.Strings.Builder1
import Derived.Shelf.Strings.Split
import Derived.Shelf.Strings.Cut
set_option linter.all false
/- Yg of the proof. -/
namespace Go.AM
open Go
set_option linter.unusedVariables false
set_option linter.unusedSimpArgs false
set_option maxRecDepth 4000
set_option maxHeartbeats 1000000
set_option maxHeartbeats 2000000
attribute [local irreducible] Decidable.decide W WO Ww Wx
def Zxt:List AI:=[oC 4 (.b false)]
def Zwf:List AI:=[oM 5 0,oM 6 1,oQ 7 46 [5,6],oM 4 7]
abbrev Xdo:AC:=(sR 0 Zxt (sR 1 Zwf .ret))
def Zc8:AF:={ nt:=8,res:=[.tmp 4],body:=Xdo }
def Zlf (PG:Za)(K:Bool->Prop)(s0:BS)(prefix1:BS):Prop:=
  ∃c,Zf PG 46 [.s s0,.s prefix1] (.b c)/\K c
section
variable {PG:Za}{d:Nat}{Q:AE->Sl->St->Prop}{K:Bool->Prop}(hQ:H1 AV.b 4 Q K){σ:Sl}{st:St}
include hQ
variable {s0 prefix1:BS}
variable (H0:σ 0=.s s0)(H1:σ 1=.s prefix1)
include H0 H1 in
theorem Yx9 (h:Zlf PG K s0 prefix1):W PG d (sR 0 Zxt (sR 1 Zwf .ret)) σ st Q:=
 q_ J (m_ (e_ (q_ J (m_ (m_ (h.elim fun _ c=>Yi (Je H0 H1 J) c.1 (m_ (Zo (hQ J c.2)))))))))
end
theorem Xj8 {PG:Za}(hf:PG.fn 306=some Zc8){s0:BS}{prefix1:BS}{K:Bool->Prop}(h:Zlf PG K s0 prefix1) :∃res0:Bool,K res0/\Zf PG 306 [.s s0,.s prefix1] (.b res0):=
 P1 hf J (Yx9 (h1 J fun _=>J) J J h)
def Ypz:List AI:=[oC 4 (.s [])]
def Yhf:List AI:=[oM 5 0,oM 6 1,oQ 7 322 [5,6],oM 4 7]
abbrev Wd2:AC:=(sR 0 Ypz (sR 1 Yhf .ret))
def Zdt:AF:={ nt:=8,res:=[.tmp 4],body:=Wd2 }
def Zjh (PG:Za)(K:BS->Prop)(s0:BS)(prefix1:BS):Prop:=
  ∃c,Zf PG 322 [.s s0,.s prefix1] (.s c)/\K c
section
variable {PG:Za}{d:Nat}{Q:AE->Sl->St->Prop}{K:BS->Prop}(hQ:H1 AV.s 4 Q K){σ:Sl}{st:St}
include hQ
variable {s0 prefix1:BS}
variable (H0:σ 0=.s s0)(H1:σ 1=.s prefix1)
include H0 H1 in
theorem Yyg (h:Zjh PG K s0 prefix1):W PG d (sR 0 Ypz (sR 1 Yhf .ret)) σ st Q:=
 q_ J (m_ (e_ (q_ J (m_ (m_ (h.elim fun _ c=>Yi (Je H0 H1 J) c.1 (m_ (Zo (hQ J c.2)))))))))
end
theorem Wa0 {PG:Za}(hf:PG.fn 316=some Zdt){s0:BS}{prefix1:BS}{K:BS->Prop}(h:Zjh PG K s0 prefix1) :∃res0:BS,K res0/\Zf PG 316 [.s s0,.s prefix1] (.s res0):=
 P1 hf J (Yyg (h1 J fun _=>J) J J h)
def Ykb:List AI:=[oC 4 (.s [])]
def Ylx:List AI:=[oM 5 0,oM 6 1,oQ 7 46 [5,6]]
def Ymk:List AI:=[oM 8 0,oM 9 1,oH 10 9,oO 11 (.slS (.t 8) (some (.t 10)) none),oM 4 11]
def Yno:List AI:=[oM 12 0,oM 4 12]
abbrev Xja:AC:=(sR 0 Ykb (.seq (sR 1 Ylx (.cond (.t 7) (sR 2 Ymk .ret) .skip)) (sR 3 Yno .ret)))
def Zch:AF:={ nt:=13,res:=[.tmp 4],body:=Xja }
def Zv9 (PG:Za)(K:BS->Prop)(s0:BS)(prefix1:BS):Prop:=
  ∃c,Zf PG 46 [.s s0,.s prefix1] (.b c)/\(c=true->0<=(prefix1.length:Int)/\(prefix1.length:Int).toNat<=s0.length/\K (s0.drop (prefix1.length:Int).toNat))/\(c=false->K s0)
section
variable {PG:Za}{d:Nat}{Q:AE->Sl->St->Prop}{K:BS->Prop}(hQ:H1 AV.s 4 Q K){σ:Sl}{st:St}
include hQ
variable {s0 prefix1:BS}
variable (H0:σ 0=.s s0)(H1:σ 1=.s prefix1)
include H0 H1 in
theorem Yyc (h:Zv9 PG K s0 prefix1):W PG d (sR 0 Ykb (.seq (sR 1 Ylx (.cond (.t 7) (sR 2 Ymk .ret) .skip)) (sR 3 Yno .ret))) σ st Q:=
 q_ J (m_ (e_ (Zk (q_ J (m_ (m_ (h.elim fun _ c=>Yi (Je H0 H1 J) c.1 (e_ (Xs J (fun e=>q_ J (m_ (m_ (Dl H1 (Hb H0 J (c.2.1 e).1 (c.2.1 e).2.1 (m_ (Zo (hQ J (c.2.1 e).2.2)))))))) (fun e=>Yc (q_ J (m_ (m_ (Zo (hQ H0 (c.2.2 e))))))))))))))))
end
theorem Xpj {PG:Za}(hf:PG.fn 322=some Zch){s0:BS}{prefix1:BS}{K:BS->Prop}(h:Zv9 PG K s0 prefix1) :∃res0:BS,K res0/\Zf PG 322 [.s s0,.s prefix1] (.s res0):=
 P1 hf J (Yyc (h1 J fun _=>J) J J h)
def Yib:List AI:=[oC 4 (.s []),oC 5 (.s []),oC 6 (.b false)]
def Zxw:List AI:=[oM 7 0,oM 8 1,oQ 9 266 [7,8],oE 10 0 9,oE 11 1 9,oE 12 2 9,oM 4 10,oM 5 11,oM 6 12]
abbrev Yxa:AC:=(sR 0 Yib (sR 1 Zxw .ret))
def Er:AF:={ nt:=13,res:=[.tmp 4,.tmp 5,.tmp 6],body:=Yxa }
abbrev Xay (Q:AE->Sl->St->Prop)(K:BS->BS->Bool->Prop):Prop:=∀(σ:Sl)(st:St)(res0:BS)(res1:BS)(res2:Bool),σ 4=.s res0->σ 5=.s res1->σ 6=.b res2->K res0 res1 res2->Q .ret σ st
def Zvo (PG:Za)(K:BS->BS->Bool->Prop)(s0:BS)(sep1:BS):Prop:=
  ∃e c i,Zf PG 266 [.s s0,.s sep1] (.tup [.s e,.s c,.b i])/\K e c i
section
variable {PG:Za}{d:Nat}{Q:AE->Sl->St->Prop}{K:BS->BS->Bool->Prop}(hQ:Xay Q K){σ:Sl}{st:St}
include hQ
variable {s0 sep1:BS}
variable (H0:σ 0=.s s0)(H1:σ 1=.s sep1)
include H0 H1 in
theorem Wq6 (h:Zvo PG K s0 sep1):W PG d (sR 0 Yib (sR 1 Zxw .ret)) σ st Q:=
 au trivial
end
theorem Xza {PG:Za}(hf:PG.fn 260=some Er){s0:BS}{sep1:BS}{K:BS->BS->Bool->Prop}(h:Zvo PG K s0 sep1) :∃res0:BS,∃res1:BS,∃res2:Bool,K res0 res1 res2/\Zf PG 260 [.s s0,.s sep1] (.tup [.s res0,.s res1,.b res2]):=by
  obtain ⟨v,hv,res0,res1,res2,hk,rfl⟩:=Zf.of (K:=fun v=>∃res0:BS,∃res1:BS,∃res2:Bool,K res0 res1 res2/\v=.tup [.s res0,.s res1,.b res2]) hf rfl (Wq6 (σ:=Wh [.s s0,.s sep1]) (fun σ st   res0 res1 res2 H4 H5 H6 hk=>⟨.tup [.s res0,.s res1,.b res2],by simp only [Er,Xm,Vk,H4,H5,H6,Kp,Option.map_some],_,rfl,res0,res1,res2,hk,rfl⟩) rfl rfl h)
  exact ⟨res0,res1,res2,hk,hv⟩
def Ypl:List AI:=[oC 4 (.s []),oC 5 (.s []),oC 6 (.b false)]
def Zzt:List AI:=[oM 8 0,oM 9 1,oQ 10 197 [8,9],oM 7 10]
def Zwr:List AI:=[oM 11 7,oV 12 .geq 11 0]
def Ybg:List AI:=[oM 13 0,oM 14 7,oO 15 (.slS (.t 13) none (some (.t 14))),oM 16 0,oM 17 7,oM 18 1,oH 19 18,oT 20 .add 17 19,oO 21 (.slS (.t 16) (some (.t 20)) none),oM 4 15,oM 5 21,oC 6 (.b true)]
def Zx7:List AI:=[oM 22 0,oM 4 22,oC 5 (.s []),oC 6 (.b false)]
abbrev Xxo:AC:=(sR 0 Ypl (.seq (sR 1 Zzt (sR 2 Zwr (.cond (.t 12) (sR 3 Ybg .ret) .skip))) (sR 4 Zx7 .ret)))
def En:AF:={ nt:=23,res:=[.tmp 4,.tmp 5,.tmp 6],body:=Xxo }
abbrev Wef (Q:AE->Sl->St->Prop)(K:BS->BS->Bool->Prop):Prop:=∀(σ:Sl)(st:St)(res0:BS)(res1:BS)(res2:Bool),σ 4=.s res0->σ 5=.s res1->σ 6=.b res2->K res0 res1 res2->Q .ret σ st
def Zjv (PG:Za)(K:BS->BS->Bool->Prop)(s0:BS)(sep1:BS):Prop:=
  ∃c,Zf PG 197 [.s s0,.s sep1] (.i .i64 c)/\(c>=0->0<=c/\(c).toNat<=s0.length/\0<=(IntKind.i64.wrap (c+(sep1.length:Int)))/\(IntKind.i64.wrap (c+(sep1.length:Int))).toNat<=s0.length/\K (s0.take (c).toNat) (s0.drop (IntKind.i64.wrap (c+(sep1.length:Int))).toNat) true)/\(¬(c>=0)->K s0 ([]:BS) false)
section
variable {PG:Za}{d:Nat}{Q:AE->Sl->St->Prop}{K:BS->BS->Bool->Prop}(hQ:Wef Q K){σ:Sl}{st:St}
include hQ
variable {s0 sep1:BS}
variable (H0:σ 0=.s s0)(H1:σ 1=.s sep1)
include H0 H1 in
theorem Xnm (h:Zjv PG K s0 sep1):W PG d (sR 0 Ypl (.seq (sR 1 Zzt (sR 2 Zwr (.cond (.t 12) (sR 3 Ybg .ret) .skip))) (sR 4 Zx7 .ret))) σ st Q:=
 au trivial
end
theorem Yvl {PG:Za}(hf:PG.fn 266=some En){s0:BS}{sep1:BS}{K:BS->BS->Bool->Prop}(h:Zjv PG K s0 sep1) :∃res0:BS,∃res1:BS,∃res2:Bool,K res0 res1 res2/\Zf PG 266 [.s s0,.s sep1] (.tup [.s res0,.s res1,.b res2]):=by
  obtain ⟨v,hv,res0,res1,res2,hk,rfl⟩:=Zf.of (K:=fun v=>∃res0:BS,∃res1:BS,∃res2:Bool,K res0 res1 res2/\v=.tup [.s res0,.s res1,.b res2]) hf rfl (Xnm (σ:=Wh [.s s0,.s sep1]) (fun σ st   res0 res1 res2 H4 H5 H6 hk=>⟨.tup [.s res0,.s res1,.b res2],by simp only [En,Xm,Vk,H4,H5,H6,Kp,Option.map_some],_,rfl,res0,res1,res2,hk,rfl⟩) rfl rfl h)
  exact ⟨res0,res1,res2,hk,hv⟩
def Zzp:List AI:=[oI 2 0,oC 3 (.b false)]
def Yfq:List AI:=[oM 7 0,oQ 8 21 [7],oM 6 8,oE 9 0 6,oE 10 1 6,oM 4 9,oM 5 10]
def Ybk:List AI:=[oM 11 4,oM 12 5,oV 13 .eql 12 0,oM 2 11,oM 3 13]
abbrev Wg7:AC:=(sR 0 Zzp (sR 1 Yfq (sR 2 Ybk .ret)))
def Zdk:AF:={ nt:=14,res:=[.tmp 2,.tmp 3],body:=Wg7 }
def Ztq (PG:Za)(K:Int->Bool->Prop)(s0:BS):Prop:=
  ∃e c,Zf PG 21 [.s s0] (.tup [.i .i64 e,.i .i64 c])/\K e (decide (c=0))
section
variable {PG:Za}{d:Nat}{Q:AE->Sl->St->Prop}{K:Int->Bool->Prop}(hQ:H2 (AV.i .i64) AV.b 2 3 Q K){σ:Sl}{st:St}
include hQ
variable {s0:BS}
variable (H0:σ 0=.s s0)
include H0 in
theorem Xdl (h:Ztq PG K s0):W PG d (sR 0 Zzp (sR 1 Yfq (sR 2 Ybk .ret))) σ st Q:=
 q_ J (m_ (m_ (e_ (q_ J (m_ (x2 h fun _ _ c=>Yi (Wr H0 J) c.1 (m_ (x_ J J (x_ J J (m_ (m_ (e_ (q_ J (m_ (m_ (b_ J J Xo (m_ (m_ (Zo (hQ J J c.2))))))))))))))))))))
end
theorem Xin {PG:Za}(hf:PG.fn 317=some Zdk){s0:BS}{K:Int->Bool->Prop}(h:Ztq PG K s0) :∃res0:Int,∃res1:Bool,K res0 res1/\Zf PG 317 [.s s0] (.tup [.i .i64 res0,.b res1]):=
 P2 hf J (Xdl (h2 J fun _ _=>J) J h)
def Yhp:List AI:=[oO 2 (.alloc [z8,z6,zl,zl,zl]),oC 3 (.b false)]
def Yjx:List AI:=[oM 12 0,oO 13 (.call false 260 [(.t 12),(.c (.s [58,32]))]),oM 11 13,oE 14 0 11,oE 15 1 11,oE 16 2 11,oM 4 14,oM 5 15,oM 6 16]
def Ylf:List AI:=[oM 18 5,oO 19 (.call false 36 [(.t 18),(.c (.s [98,108,111,99,107,101,100,32]))]),oM 17 19,oE 20 0 17,oE 21 1 17,oM 7 20,oM 8 21]
def Zzz:List AI:=[oM 23 6,oZ 24 23,oM 22 24]
def Ynk:List AI:=[oO 25 (.build [z8,z6,zl,zl,zl] []),oS 5 2 25,oC 3 (.b false)]
def Ybm:List AI:=[oM 27 8,oM 26 27]
def Yfa:List AI:=[oM 29 7,oQ 30 21 [29],oM 28 30,oE 31 0 28,oE 32 1 28,oM 9 31,oM 10 32]
def Ynb:List AI:=[oM 33 9,oO 34 (.build [z8,z6,zl,zl,zl] [(0,1,(.c (.i .u8 2))),(1,1,(.t 33))]),oM 35 10,oV 36 .eql 35 0,oS 5 2 34,oM 3 36]
def Yc9:List AI:=[oM 38 5,oB 39 .eql (.t 38) (.c (.s [114,101,97,100,121])),oM 37 39]
def Ycv:List AI:=[oO 40 (.build [z8,z6,zl,zl,zl] [(0,1,(.c (.i .u8 1)))]),oS 5 2 40,oC 3 (.b true)]
def Yo6:List AI:=[oO 41 (.build [z8,z6,zl,zl,zl] [(0,1,(.c (.i .u8 3)))]),oM 42 5,oB 43 .eql (.t 42) (.c (.s [100,111,110,101])),oS 5 2 41,oM 3 43]
abbrev Wgo:AC:=(sR 0 Yhp (sR 1 Yjx (sR 2 Ylf (.seq (.block 0 (sR 3 Zzz (.cond (.t 22) (sR 4 Ynk .ret) (sR 5 Ybm (.cond (.t 26) (sR 6 Yfa (sR 7 Ynb .ret)) (sR 8 Yc9 (.cond (.t 37) (sR 9 Ycv .ret) .skip))))))) (sR 10 Yo6 .ret)))))
def Lc:AF:={ nt:=44,res:=[.cell 2 5 true,.tmp 3],body:=Wgo }
abbrev Xw7 (d:Nat)(Zm:St)(Q:AE->Sl->St->Prop)(K:Zi->Bool->Prop):Prop:=∀(σ:Sl)(st:St)(k0:Zq)(v0:Nat)(res0:Zi)(res1:Bool),σ 2=.p k0 v0 0->lk st.bx k0=some (v0,[.i .u8 res0.status,.i .i64 res0.key,.sl .full (List.map Zg.row res0.frames),.sl .full (List.map Zr.row res0.defers),.sl .full (List.map Zh.row res0.panics)])->σ 3=.b res1->Fr d (d,0) Zm.bx Zm.ow st.bx st.ow->K res0 res1->Q .ret σ st
def Zsh (PG:Za)(K:Zi->Bool->Prop)(s0:BS):Prop:=
  ∃c e j,Zf PG 260 [.s s0,.s ([58,32]:BS)] (.tup [.s c,.s e,.b j])/\∃o k,Zf PG 36 [.s e,.s ([98,108,111,99,107,101,100,32]:BS)] (.tup [.s o,.b k])/\((!j)=true->K (Zi.mk 0 0 ([]:List Zg) ([]:List Zr) ([]:List Zh)) false)/\((!j)=false->(k=true->∃p q,Zf PG 21 [.s o] (.tup [.i .i64 p,.i .i64 q])/\K (Zi.mk 2 p ([]:List Zg) ([]:List Zr) ([]:List Zh)) (decide (q=0)))/\(k=false->(e=([114,101,97,100,121]:BS)->K (Zi.mk 1 0 ([]:List Zg) ([]:List Zr) ([]:List Zh)) true)/\(¬(e=([114,101,97,100,121]:BS))->K (Zi.mk 3 0 ([]:List Zg) ([]:List Zr) ([]:List Zh)) (decide (e=([100,111,110,101]:BS))))))
section
variable {PG:Za}{d:Nat}{Q:AE->Sl->St->Prop}{K:Zi->Bool->Prop}{Zm:St}(hQ:Xw7 d Zm Q K){σ:Sl}{st:St}
include hQ
variable {s0:BS}
variable (H0:σ 0=.s s0)(FR:Fr d (d,0) Zm.bx Zm.ow st.bx st.ow)
include H0 FR in
theorem Xpc (h:Zsh PG K s0):W PG d (sR 0 Yhp (sR 1 Yjx (sR 2 Ylf (.seq (.block 0 (sR 3 Zzz (.cond (.t 22) (sR 4 Ynk .ret) (sR 5 Ybm (.cond (.t 26) (sR 6 Yfa (sR 7 Ynb .ret)) (sR 8 Yc9 (.cond (.t 37) (sR 9 Ycv .ret) .skip))))))) (sR 10 Yo6 .ret))))) σ st Q:=
 Zk (W.reg (Xy (m_ (e_ (q_ J (m_ (x2 h fun _ _ q=>q.elim fun _ p=>Yi (Je H0 J J) p.1 (m_ (x_ J J (x_ J J (x_ J J (m_ (m_ (m_ (e_ (q_ J (m_ (x2 p.2 fun _ _ c=>Yi (Je J J J) c.1 (m_ (x_ J J (x_ J J (m_ (m_ (e_ (Zk (Yh (q_ J (m_ (Xx J (m_ (e_ (Xs J (fun e=>q_ J (Wb Xr (Ye J (show lk _ (d,0)=some (_,([.i .u8 0,.i .i64 0,.sl .full (List.map Zg.row ([]:List Zg)),.sl .full (List.map Zr.row ([]:List Zr)),.sl .full (List.map Zh.row ([]:List Zh))]:List AV)) from Zj) J J J (m_ (Zo (hQ _ _ _ _ _ _ J Zj J (Fr.box (Fr.box FR)) (c.2.1 e))))))) (fun e=>q_ J (m_ (m_ (e_ (Xs J (fun j=>q_ J (m_ (x2 ((c.2.2 e).1 j) fun _ _ o=>Yi (Wr J J) o.1 (m_ (x_ J J (x_ J J (m_ (m_ (e_ (q_ J (m_ (Wb (Yn J J (Yn J J Xr)) (m_ (b_ J J Xo (Ye J (show lk _ (d,0)=some (_,([.i .u8 0,.i .i64 0,.sl .full (List.map Zg.row ([]:List Zg)),.sl .full (List.map Zr.row ([]:List Zr)),.sl .full (List.map Zh.row ([]:List Zh))]:List AV)) from Zj) J J J (m_ (Zo (hQ _ _ _ _ _ _ J Zj J (Fr.box (Fr.box FR)) o.2)))))))))))))))))) (fun j=>q_ J (m_ (b_ J J Sp (m_ (e_ (Yj J (fun k=>q_ J (Wb (Yn J J Xr) (Ye J (show lk _ (d,0)=some (_,([.i .u8 0,.i .i64 0,.sl .full (List.map Zg.row ([]:List Zg)),.sl .full (List.map Zr.row ([]:List Zr)),.sl .full (List.map Zh.row ([]:List Zh))]:List AV)) from Zj) J J J (m_ (Zo (hQ _ _ _ _ _ _ J Zj J (Fr.box (Fr.box FR)) (((c.2.2 e).2 j).1 k))))))) (fun k=>Yc (q_ J (Wb (Yn J J Xr) (m_ (b_ J J Sp (Ye J (show lk _ (d,0)=some (_,([.i .u8 0,.i .i64 0,.sl .full (List.map Zg.row ([]:List Zg)),.sl .full (List.map Zr.row ([]:List Zr)),.sl .full (List.map Zh.row ([]:List Zh))]:List AV)) from Zj) J J J (m_ (Zo (hQ _ _ _ _ _ _ J Zj J (Fr.box (Fr.box FR)) (((c.2.2 e).2 j).2 k)))))))))))))))))))))))))))))))))))))))))))))))))))))
end
theorem Xrj {PG:Za}(hf:PG.fn 308=some Lc){s0:BS}{K:Zi->Bool->Prop}(h:Zsh PG K s0):Yp PG 308 [.s s0] (fun r=>∃res0:Zi,∃res1:Bool,(r=.tup [.ag [.i .u8 res0.status,.i .i64 res0.key,.sl .full (List.map Zg.row res0.frames),.sl .full (List.map Zr.row res0.defers),.sl .full (List.map Zh.row res0.panics)],.b res1])/\K res0 res1):=
  Yp.of hf rfl fun d st=>Xpc (Zm:=st) (Q:=fun e σ st'=>(e=.normal\/e=.ret)/\∃r,Xm σ st' Lc.res=some r/\_/\Fr d (d,0) st.bx st.ow st'.bx st'.ow) (fun σ st' k0 v0  res0 res1 H2 HB2 H3 hf hk=>⟨.inr rfl,.tup [.ag [.i .u8 res0.status,.i .i64 res0.key,.sl .full (List.map Zg.row res0.frames),.sl .full (List.map Zr.row res0.defers),.sl .full (List.map Zh.row res0.panics)],.b res1],by simp only [Lc,Xm,Vk,Jz (n:=5) H2 HB2 rfl,H3,Qb,Option.map_some,Jz (n:=5) H2 HB2 rfl,H3],⟨res0,res1,rfl,hk⟩,hf⟩) (σ:=Wh [.s s0]) rfl Fr.refl h
def Yp8:List AI:=[oY 2 3 0,oO 4 (.alloc [z6,z6,zb,z8,z6,zs,zl,zb]),oC 5 (.b false)]
def Yyu:List AI:=[oO 6 (.alloc [z6,z6,zb,z8,z6,zs,zl,zb])]
def Xc8:List AI:=[oM 14 1,oO 15 (.call false 323 [(.t 14),(.c (.s [32])),(.c (.i .i64 4))]),oM 7 15]
def Yyr:List AI:=[oM 16 7,oJ 17 16,oV 18 .lss 17 4]
def Wdx:List AI:=[oK 19 8 6,oS 8 4 19,oC 5 (.b false)]
def Xjc:List AI:=[oC 8 (.b false),oC 9 (.b false)]
def Xeh:List AI:=[oM 21 7,oO 22 (.iaL 1 (.t 21) (.c (.i .i64 1))),oL 23 22,oQ 24 317 [23],oM 20 24,oE 25 0 20,oE 26 1 20,oF 27 0 6,oS 1 27 25,oM 8 26]
def Wav:List AI:=[oM 29 7,oO 30 (.iaL 1 (.t 29) (.c (.i .i64 2))),oL 31 30,oQ 32 317 [31],oM 28 32,oE 33 0 28,oE 34 1 28,oF 35 1 6,oS 1 35 33,oM 9 34]
def Xm2:List AI:=[oM 36 8,oZ 37 36,oM 38 37,gF 38 (oM 39 9),gF 38 (oZ 40 39),oR 41 38 40,oM 42 41,gF 42 (oF 43 1 6),gF 42 (oL 44 43),gF 42 (oV 45 .lss 44 0),oR 46 42 45,oM 47 46,gF 47 (oF 48 1 6),gF 47 (oL 49 48),gF 47 (oF 50 2 2),gF 47 (oL 51 50),gF 47 (oJ 52 51),gF 47 (oT 53 .geq 49 52),oR 54 47 53]
def Yyn:List AI:=[oK 55 8 6,oS 8 4 55,oC 5 (.b false)]
def Wqj:List AI:=[oF 57 2 2,oL 58 57,oF 59 1 6,oL 60 59,oX 61 7 58 60,oF 62 0 61,oL 63 62,oQ 64 11 [63],oM 56 64,oE 65 0 56,oE 66 1 56,oM 10 65,oM 11 66]
def Xdr:List AI:=[oM 68 7,oO 69 (.iaL 1 (.t 68) (.c (.i .i64 3))),oL 70 69,oM 71 10,oQ 72 36 [70,71],oM 67 72,oE 73 0 67,oE 74 1 67,oM 12 73,oM 8 74]
def Xm3:List AI:=[oM 75 11,oV 76 .neq 75 0,oM 77 76,gF 77 (oM 78 8),gF 77 (oZ 79 78),oR 80 77 79]
def Yxs:List AI:=[oK 81 8 6,oS 8 4 81,oC 5 (.b false)]
def Wgb:List AI:=[oM 82 12,oB 83 .eql (.t 82) (.c (.s []))]
def Xpe:List AI:=[oK 84 8 6,oS 8 4 84,oC 5 (.b true)]
def Xmv:List AI:=[oM 86 12,oO 87 (.call false 316 [(.t 86),(.c (.s [32,119,105,116,104,32]))]),oQ 88 74 [87],oM 85 88,oE 89 0 85,oE 90 1 85,oO 13 (.alloc [z8,z6,zs,zl,zb]),oS 5 13 89,oM 11 90]
def Xhw:List AI:=[oO 91 (.ldf 5 true (.t 13)),oF 92 2 6,⟨none,.store 1 (.t 92) (.c (.b true)),none⟩,oF 93 3 6,oS 5 93 91]
def Xc0:List AI:=[oK 94 8 6,oM 95 11,oV 96 .eql 95 0,oS 8 4 94,oM 5 96]
abbrev Yoi:AC:=(.seq (sR 14 Wgb (.cond (.t 83) (sR 15 Xpe .ret) .skip)) (.seq (sR 16 Xmv (.frz 13)) (sR 17 Xhw (sR 18 Xc0 .ret))))
abbrev Ykl:AC:=(sR 10 Wqj (sR 11 Xdr (.seq (sR 12 Xm3 (.cond (.t 80) (sR 13 Yxs .ret) .skip)) Yoi)))
abbrev Yo5:AC:=(.seq (sR 8 Xm2 (.cond (.t 54) (sR 9 Yyn .ret) .skip)) Ykl)
abbrev Yic:AC:=(sR 7 Wav Yo5)
abbrev Yom:AC:=(sR 6 Xeh Yic)
abbrev Zwb:AC:=(sR 5 Xjc Yom)
abbrev Yn8:AC:=(.seq (sR 3 Yyr (.cond (.t 18) (sR 4 Wdx .ret) .skip)) Zwb)
abbrev Yf8:AC:=(sR 2 Xc8 Yn8)
abbrev Zke:AC:=(sR 1 Yyu Yf8)
abbrev Ytj:AC:=(sR 0 Yp8 Zke)
def Za6:AF:={ nt:=97,res:=[.cell 4 8 true,.tmp 5],fz:=[13],body:=Ytj }
abbrev Xeg (Q:AE->Sl->St->Prop)(K:Zr->Bool->Prop):Prop:=∀(σ:Sl)(st:St)(k0:Zq)(v0:Nat)(o0_0:Zn)(res0:Zr)(res1:Bool),σ 4=.p k0 v0 0->lk st.bx k0=some (v0,[.i .i64 res0.frame,.i .i64 res0.func,.b res0.hasArg,.i .u8 res0.arg.kind,.i .i64 res0.arg.int,.s res0.arg.text,.sl o0_0 (List.map Zb.row res0.arg.list),.b res0.arg.cut])->σ 5=.b res1->K res0 res1->Q .ret σ st
def Zux (PG:Za)(K:Zr->Bool->Prop)(rest12:BS)(m1:Zr)(m4096:Zr):Prop:=
  (rest12=([]:BS)->K m4096 true)/\(¬(rest12=([]:BS))->∃c,Zf PG 316 [.s rest12,.s ([32,119,105,116,104,32]:BS)] (.s c)/\∃j:Zb,∃e,Zf PG 74 [.s c] (.tup [j.av,.i .i64 e])/\K (Zr.mk m4096.frame m4096.func true j) (decide (e=0)))
def Zq3 (PG:Za)(K:Zr->Bool->Prop)(w7:LB)(m0:Ze)(m1:Zr)(m4096:Zr):Prop:=
  0<=m4096.func/\∃k:Zz,m0.funcs[(m4096.func).toNat]?=some k/\∃j e,Zf PG 11 [.s k.name] (.tup [.s j,.i .i64 e])/\∃p,w7[3]?=some p/\∃o c,Zf PG 36 [.s p,.s j] (.tup [.s o,.b c])/\(e≠0->K m4096 false)/\(¬(e≠0)->((!c)=true->K m4096 false)/\((!c)=false->Zux PG K o m1 m4096))
def Zmt (PG:Za)(K:Zr->Bool->Prop)(w7:LB)(ok8:Bool)(is9:Bool)(m0:Ze)(m1:Zr)(m4096:Zr):Prop:=
  ((!ok8)=true->K m4096 false)/\((!ok8)=false->((!is9)=true->K m4096 false)/\((!is9)=false->(m4096.func<0->K m4096 false)/\(¬(m4096.func<0)->(m4096.func>=(m0.funcs.length:Int)->K m4096 false)/\(¬(m4096.func>=(m0.funcs.length:Int))->Zq3 PG K w7 m0 m1 m4096))))
def Zng (PG:Za)(K:Zr->Bool->Prop)(w7:LB)(ok8:Bool)(m0:Ze)(m1:Zr)(m4096:Zr):Prop:=
  ∃j,w7[2]?=some j/\∃e c,Zf PG 317 [.s j] (.tup [.i .i64 e,.b c])/\Zmt PG K w7 ok8 c m0 m1 (Zr.mk m4096.frame e m4096.hasArg m4096.arg)
def Zp7 (PG:Za)(K:Zr->Bool->Prop)(w7:LB)(m0:Ze)(m1:Zr)(m4096:Zr):Prop:=
  ∃j,w7[1]?=some j/\∃e c,Zf PG 317 [.s j] (.tup [.i .i64 e,.b c])/\Zng PG K w7 c m0 m1 (Zr.mk e m4096.func m4096.hasArg m4096.arg)
def Zn4 (PG:Za)(K:Zr->Bool->Prop)(w7:LB)(m0:Ze)(m1:Zr)(m4096:Zr):Prop:=
  Zp7 PG K w7 m0 m1 m4096
def Zkv (PG:Za)(K:Zr->Bool->Prop)(w7:LB)(m0:Ze)(m1:Zr)(m4096:Zr):Prop:=
  ((w7.length:Int)<4->K m4096 false)/\(¬((w7.length:Int)<4)->Zn4 PG K w7 m0 m1 m4096)
def Zsd (PG:Za)(K:Zr->Bool->Prop)(s1:BS)(m0:Ze)(m1:Zr)(m4096:Zr):Prop:=
  ∃c,Zf PG 323 [.s s1,.s ([32]:BS),.i .i64 4] (.sl .ext (List.map Zv c))/\Zkv PG K c m0 m1 m4096
def Zk7 (PG:Za)(K:Zr->Bool->Prop)(s1:BS)(m0:Ze)(m1:Zr):Prop:=
  Zsd PG K s1 m0 m1 (Zr.mk 0 0 false (Zb.mk 0 0 [] ([]:List Zb) false))
def Zk2 (PG:Za)(K:Zr->Bool->Prop)(m0:Ze)(s1:BS):Prop:=
  Zk7 PG K s1 m0 (Zr.mk 0 0 false (Zb.mk 0 0 [] ([]:List Zb) false))
section
variable {PG:Za}{d:Nat}{Q:AE->Sl->St->Prop}{K:Zr->Bool->Prop}(hQ:Xeg Q K){σ:Sl}{st:St}
include hQ
variable {rest12:BS}{m1 m4096:Zr}{o_m1_6 o_m4096_6:Zn}{v1 v4096:Nat}{w7:LB}{m0:Ze}{o_w7:Zn}{v0:Nat}{ok8 is9:Bool}{s1:BS}
variable (H0:σ 0=m0.av)(H1:σ 1=.s s1)(H2:σ 2=.p (d,0) v0 0)(H4:σ 4=.p (d,1) v1 0)(H6:σ 6=.p (d,4096) v4096 0)(H12:σ 12=.s rest12)(H7:σ 7=.sl o_w7 (List.map Zv w7))(H8:σ 8=.b ok8)(H9:σ 9=.b is9)(Ab4096:Xe d st.ow o_m4096_6 m4096.arg.list.length)(B0:lk st.bx (d,0)=some (v0,Ze.cs m0))(B1:lk st.bx (d,1)=some (v1,[.i .i64 m1.frame,.i .i64 m1.func,.b m1.hasArg,.i .u8 m1.arg.kind,.i .i64 m1.arg.int,.s m1.arg.text,.sl o_m1_6 (List.map Zb.row m1.arg.list),.b m1.arg.cut]))(B4096:lk st.bx (d,4096)=some (v4096,[.i .i64 m4096.frame,.i .i64 m4096.func,.b m4096.hasArg,.i .u8 m4096.arg.kind,.i .i64 m4096.arg.int,.s m4096.arg.text,.sl o_m4096_6 (List.map Zb.row m4096.arg.list),.b m4096.arg.cut]))
include H4 H6 H12 Ab4096 B1 B4096 in
theorem Ywa (h:Zux PG K rest12 m1 m4096):W PG d Yoi σ st Q:=
 Zk (q_ J (m_ (b_ H12 J Sp (e_ (Yj J (fun c=>q_ J (l_ H6 B4096 J J (Ye H4 B1 J J J (m_ (Zo (hQ _ _ _ _ _ _ _ H4 Zj J (h.1 c))))))) (fun c=>Yc (Zk (Zk (W.reg (m_ ((h.2 c).elim fun _ e=>Yi (Je H12 J J) e.1 (x2 e.2 fun _ _ j=>Yi (Wr J J) j.1 (m_ (x_ J J (x_ J J (Xy (Ye J (show lk _ (d,65542)=some (_,([.i .u8 0,.i .i64 0,.s [],.sl .full (List.map Zb.row ([]:List Zb)),.b false]:List AV)) from Zj) J J J (m_ (e_ (W.frz J Zj J (q_ J (Fu J J J (f_ H6 (Ye J (Za7 J (Zs J (Zs J B4096))) J J J (f_ H6 (Ye J Zj J J J (e_ (q_ J (l_ H6 Zj J J (m_ (b_ J J Xo (Ye H4 (Zs J (Zs J (Za7 J (Zs J (Zs J B1))))) J J J (m_ (Zo (hQ _ _ _ _ _ _ _ H4 Zj J j.2)))))))))))))))))))))))))))))))))))
include H2 H4 H6 H7 Ab4096 B0 B1 B4096 in
theorem Ywk (h:Zq3 PG K w7 m0 m1 m4096):W PG d Ykl σ st Q:=
 q_ J (f_ H2 (l_ J B0 J J (f_ H6 (l_ J B4096 J J (h.2.elim fun p j=>Wq J J h.1 j.1 (Zz.row_eq p) J (Ke J (Xk J J J (x2 j.2 fun _ _ k=>Yi (Wr J J) k.1 (m_ (x_ J J (x_ J J (m_ (m_ (e_ (q_ J (Yf H7 (k.2.elim fun _ o=>Wq J J (by decide) o.1 J J (Xk J J J (m_ (x2 o.2 fun _ _ c=>Yi (Je J J J) c.1 (m_ (x_ J J (x_ J J (m_ (m_ (e_ (Zk (q_ J (Xa J (b_ J J Ws (Yq J (Ym (g:=77) J (fun e=>z_ 3 J (e_ (Yl J (q_ J (l_ H6 B4096 J J (Ye H4 B1 J J J (m_ (Zo (hQ _ _ _ _ _ _ _ H4 Zj J (c.2.1 e)))))))))) (fun e=>Zc J (Yq J (Zc J (Xx J (Vf J J (e_ (Xs J (fun i=>q_ J (l_ H6 B4096 J J (Ye H4 B1 J J J (m_ (Zo (hQ _ _ _ _ _ _ _ H4 Zj J ((c.2.2 e).1 i))))))) (fun i=>Yc (Ywa hQ H4 H6 J Ab4096 B1 B4096 ((c.2.2 e).2 i))))))))))))))))))))))))))))))))))))))))))
include H2 H4 H6 H7 H8 H9 Ab4096 B0 B1 B4096 in
theorem Wmn (h:Zmt PG K w7 ok8 is9 m0 m1 m4096):W PG d Yo5 σ st Q:=
 Zk (q_ J (Yq H8 (Xx J (Yq J (Kt (g:=38) J (fun c=>z_ 16 J (e_ (Yl J (q_ J (l_ H6 B4096 J J (Ye H4 B1 J J J (m_ (Zo (hQ _ _ _ _ _ _ _ H4 Zj J (h.1 c)))))))))) (fun c=>Zc J (Yq H9 (Zc J (Xx J (z_ 2 J (Kt (g:=42) J (fun e=>z_ 12 J (e_ (Yl J (q_ J (l_ H6 B4096 J J (Ye H4 B1 J J J (m_ (Zo (hQ _ _ _ _ _ _ _ H4 Zj J ((h.2 c).1 e)))))))))) (fun e=>Zc J (f_ H6 (Zc J (l_ J B4096 J J (Zc J (b_ J J Wn (z_ 2 J (Ym (g:=47) J (fun i=>z_ 7 J (e_ (Yl J (q_ J (l_ H6 B4096 J J (Ye H4 B1 J J J (m_ (Zo (hQ _ _ _ _ _ _ _ H4 Zj J (((h.2 c).2 e).1 i)))))))))) (fun i=>Zc J (f_ H6 (Zc J (l_ J B4096 J J (Zc J (f_ H2 (Zc J (l_ J B0 J J (Zc J (Yo J (Zc J (b_ J J Ul (Vf J J (e_ (Yj J (fun j=>q_ J (l_ H6 B4096 J J (Ye H4 B1 J J J (m_ (Zo (hQ _ _ _ _ _ _ _ H4 Zj J ((((h.2 c).2 e).2 i).1 j))))))) (fun j=>Yc (Ywk hQ H2 H4 H6 H7 Ab4096 B0 B1 B4096 ((((h.2 c).2 e).2 i).2 j)))))))))))))))))))))))))))))))))))))
include H2 H4 H6 H7 H8 Ab4096 B0 B1 B4096 in
theorem Xuf (h:Zng PG K w7 ok8 m0 m1 m4096):W PG d Yic σ st Q:=
 q_ J (Yf H7 (h.elim fun _ c=>Wq J J (by decide) c.1 J J (Xk J J J (x2 c.2 fun i _ e=>Yi (Wr J J) e.1 (m_ (x_ J J (x_ J J (f_ H6 (Ye J B4096 J J J (m_ (e_ (Wmn (m4096:=(Zr.mk m4096.frame i m4096.hasArg m4096.arg)) hQ H2 H4 H6 H7 H8 J Ab4096 (Zs J B0) (Zs J B1) Zj e.2))))))))))))
include H2 H4 H6 H7 Ab4096 B0 B1 B4096 in
theorem Wou (h:Zp7 PG K w7 m0 m1 m4096):W PG d Yom σ st Q:=
 q_ J (Yf H7 (h.elim fun _ c=>Wq J J (by decide) c.1 J J (Xk J J J (x2 c.2 fun i _ e=>Yi (Wr J J) e.1 (m_ (x_ J J (x_ J J (f_ H6 (Ye J B4096 J J J (m_ (e_ (Xuf (m4096:=(Zr.mk i m4096.func m4096.hasArg m4096.arg)) hQ H2 H4 H6 H7 J Ab4096 (Zs J B0) (Zs J B1) Zj e.2))))))))))))
include H2 H4 H6 H7 Ab4096 B0 B1 B4096 in
theorem Xm9 (h:Zn4 PG K w7 m0 m1 m4096):W PG d Zwb σ st Q:=
 q_ J (m_ (m_ (e_ (Wou hQ H2 H4 H6 H7 Ab4096 B0 B1 B4096 h))))
include H2 H4 H6 H7 Ab4096 B0 B1 B4096 in
theorem Xys (h:Zkv PG K w7 m0 m1 m4096):W PG d Yn8 σ st Q:=
 Zk (q_ J (Yf H7 (Yo J (b_ J J Wn (e_ (Yj J (fun c=>q_ J (l_ H6 B4096 J J (Ye H4 B1 J J J (m_ (Zo (hQ _ _ _ _ _ _ _ H4 Zj J (h.1 c))))))) (fun c=>Yc (Xm9 hQ H2 H4 H6 H7 Ab4096 B0 B1 B4096 (h.2 c)))))))))
include H1 H2 H4 H6 Ab4096 B0 B1 B4096 in
theorem Xwo (h:Zsd PG K s1 m0 m1 m4096):W PG d Yf8 σ st Q:=
 q_ J (m_ (h.elim fun _ c=>Yi (Ce H1 J J J) c.1 (Yf J (e_ (Xys hQ H2 H4 H6 J Ab4096 B0 B1 B4096 c.2)))))
include H1 H2 H4 B0 B1 in
theorem Xvv (h:Zk7 PG K s1 m0 m1):W PG d Zke σ st Q:=
 Zk (W.reg (Xy (e_ (Xwo (m4096:=(Zr.mk 0 0 false (Zb.mk 0 0 [] ([]:List Zb) false))) hQ H1 H2 H4 J Xe.full (Zs J B0) (Zs J B1) (show lk _ (d,4096)=some (_,([.i .i64 0,.i .i64 0,.b false,.i .u8 0,.i .i64 0,.s [],.sl .full (List.map Zb.row ([]:List Zb)),.b false]:List AV)) from Zj) h))))
include H0 H1 in
theorem Xr9 (h:Zk2 PG K m0 s1):W PG d (sR 0 Yp8 Zke) σ st Q:=
 Zk (W.reg (Vx H0 J (Xy (m_ (e_ (Xvv (m1:=(Zr.mk 0 0 false (Zb.mk 0 0 [] ([]:List Zb) false))) hQ H1 J J Zj (Zs J (show lk _ (d,1)=some (_,([.i .i64 0,.i .i64 0,.b false,.i .u8 0,.i .i64 0,.s [],.sl .full (List.map Zb.row ([]:List Zb)),.b false]:List AV)) from Zj)) h))))))
end
theorem Wmx {PG:Za}(hf:PG.fn 318=some Za6){m0:Ze}{s1:BS}{K:Zr->Bool->Prop}(h:Zk2 PG K m0 s1) :∃res0:Zr,∃res1:Bool,K res0 res1/\Zf PG 318 [m0.av,.s s1] (.tup [res0.av,.b res1]):=by
  obtain ⟨v,hv,res0,res1,hk,rfl⟩:=Zf.of (K:=fun v=>∃res0:Zr,∃res1:Bool,K res0 res1/\v=.tup [res0.av,.b res1]) hf rfl (Xr9 (σ:=Wh [m0.av,.s s1]) (fun σ st k0 v0 o0_0 res0 res1 H4 HB4 H5 hk=>⟨.tup [res0.avo o0_0,.b res1],by simp only [Za6,Xm,Vk,Jz (n:=8) H4 HB4 rfl,H5,Qb,Option.map_some],_,rfl,res0,res1,hk,rfl⟩) rfl rfl h)
  exact ⟨res0,res1,hk,hv⟩
end Go.AM

/- Yg of the proof. -/
namespace Go.AM
open Go
set_option linter.unusedVariables false
set_option linter.unusedSimpArgs false
set_option maxRecDepth 4000
set_option maxHeartbeats 1000000
attribute [local irreducible] WO Ww Wx
def Yb2:List AI:=[oY 2 4 0,oY 3 4 1,oC 4 (.b false)]
def Yjc:List AI:=[oF 6 0 2,oL 7 6,oF 8 0 3,oL 9 8,oT 10 .neq 7 9,oM 11 10,gF 11 (oF 12 1 2),gF 11 (oL 13 12),gF 11 (oF 14 1 3),gF 11 (oL 15 14),gF 11 (oT 16 .neq 13 15),oR 17 11 16,oM 18 17,gF 18 (oF 19 2 2),gF 18 (oL 20 19),gF 18 (oF 21 2 3),gF 18 (oL 22 21),gF 18 (oT 23 .neq 20 22),oR 24 18 23,oM 25 24,gF 25 (oF 26 3 2),gF 25 (oL 27 26),gF 25 (oJ 28 27),gF 25 (oF 29 3 3),gF 25 (oL 30 29),gF 25 (oJ 31 30),gF 25 (oT 32 .neq 28 31),oR 33 25 32]
def Ynw:List AI:=[oC 4 (.b false)]
def Xme:List AI:=[oI 5 0]
def Xdn:List AI:=[oM 34 5,oF 35 3 2,oL 36 35,oJ 37 36,oT 38 .lss 34 37]
def Xln:List AI:=[oF 41 3 2,oL 42 41,oM 43 5,oX 44 5 42 43,oK 45 5 44,oF 46 3 3,oL 47 46,oM 48 5,oX 49 5 47 48,oK 50 5 49,oQ 51 314 [45,50],oZ 52 51]
def Xvd:List AI:=[oC 4 (.b false)]
def Xtr:List AI:=[oM 39 5,oV 40 .add 39 1,oM 5 40]
def Wn9:List AI:=[oC 4 (.b true)]
abbrev Ziv:AC:=(.seq (sR 4 Xdn (.cond (.t 38) .skip (.exit 0))) (.seq (.block 1 (sR 6 Xln (.cond (.t 52) (sR 7 Xvd .ret) .skip))) (.reg 5 Xtr)))
abbrev Zc5:AC:=(sR 8 Wn9 .ret)
abbrev Zs4:AC:=(.seq (sR 3 Xme (.block 0 (.loop Ziv))) Zc5)
abbrev Wpf:AC:=(sR 0 Yb2 (.seq (sR 1 Yjc (.cond (.t 33) (sR 2 Ynw .ret) .skip)) Zs4))
def Aa:AF:={ nt:=53,res:=[.tmp 4],body:=Wpf }
abbrev Ypf (PG:Za)(d:Nat)(Q:AE->Sl->St->Prop)(i5:Int)(m0:Zt)(m1:Zt):Prop:=
  ∀(σ:Sl)(st:St) (v0 v1:Nat),σ 2=.p (d,0) v0 0->σ 3=.p (d,1) v1 0->σ 5=.i .i64 i5->lk st.bx (d,0)=some (v0,Zt.cs m0)->lk st.bx (d,1)=some (v1,Zt.cs m1)->W PG d (.loop Ziv) σ st (Zw 0 (Zl PG d Zc5 Q))
def Zrr (PG:Za)(K:Bool->Prop) :Prop:=
  K true
def Zgo (PG:Za)(K:Bool->Prop)(P0:Int->Zt->Zt->Prop)(i5:Int)(m0:Zt)(m1:Zt):Prop:=
  (i5<(m0.routines.length:Int)->0<=i5/\∃e:Zi,m0.routines[(i5).toNat]?=some e/\0<=i5/\∃i:Zi,m1.routines[(i5).toNat]?=some i/\∃c,Zf PG 314 [e.av,i.av] (.b c)/\((!c)=true->K false)/\((!c)=false->P0 (IntKind.i64.wrap (i5+1)) m0 m1))/\(¬(i5<(m0.routines.length:Int))->Zrr PG K )
def Zsb (PG:Za)(K:Bool->Prop)(m0:Zt)(m1:Zt):Prop:=
  ∀P0:Int->Zt->Zt->Prop,(∀(i5:Int)(m0:Zt)(m1:Zt),Zgo PG K P0 i5 m0 m1->P0 i5 m0 m1)->P0 0 m0 m1
def Zmf (PG:Za)(K:Bool->Prop)(a0:Zt)(b1:Zt):Prop:=
  (a0.outcome≠b1.outcome->K false)/\(¬(a0.outcome≠b1.outcome)->(a0.failing≠b1.failing->K false)/\(¬(a0.failing≠b1.failing)->(a0.steps≠b1.steps->K false)/\(¬(a0.steps≠b1.steps)->((a0.routines.length:Int)≠(b1.routines.length:Int)->K false)/\(¬((a0.routines.length:Int)≠(b1.routines.length:Int))->Zsb PG K a0 b1))))
section
variable {PG:Za}{d:Nat}{Q:AE->Sl->St->Prop}{K:Bool->Prop}(hQ:H1 AV.b 4 Q K){σ:Sl}{st:St}
include hQ
variable {i5:Int}{m0 m1:Zt}{P0:Int->Zt->Zt->Prop}{v0 v1:Nat}{a0 b1:Zt}
variable (kP0 :∀(i5:Int)(m0:Zt)(m1:Zt),P0 i5 m0 m1->Ypf PG d Q i5 m0 m1)(H0:σ 0=a0.av)(H2:σ 2=.p (d,0) v0 0)(H1:σ 1=b1.av)(H3:σ 3=.p (d,1) v1 0)(H5:σ 5=.i .i64 i5)(B0:lk st.bx (d,0)=some (v0,Zt.cs m0))(B1:lk st.bx (d,1)=some (v1,Zt.cs m1))
theorem Xcc (h:Zrr PG K ):W PG d Zc5 σ st Q:=
 q_ J (m_ (Zo (hQ J h)))
include kP0 H2 H3 H5 B0 B1 in
theorem Wkr (h:Zgo PG K P0 i5 m0 m1):W PG d Ziv σ st (Zl PG d (.loop Ziv) (Zw 0 (Zl PG d Zc5 Q))):=
 Zk (q_ J (m_ (f_ H2 (l_ J B0 J J (Yo J (b_ H5 J Wn (e_ (Yj J (fun c=>Yc (Zk (Yh (q_ J (f_ H2 (l_ J B0 J J (m_ ((h.1 c).2.elim fun o e=>Wq J H5 (h.1 c).1 e.1 (Zi.row_eq o) J (Xk J J J (f_ H3 (l_ J B1 J J (m_ (e.2.2.elim fun p k=>Wq J H5 e.2.1 k.1 (Zi.row_eq p) J (Xk J J J (k.2.elim fun _ i=>Yi (Je J J J) i.1 (Xx J (e_ (Xs J (fun j=>q_ J (m_ (Zo (hQ J (i.2.1 j))))) (fun j=>Yc (W.reg0 J fun _ _=>m_ (b_ H5 J Vd (m_ (e_ (kP0 _ _ _ (i.2.2 j) _ _ _ _ H2 H3 J B0 B1)))))))))))))))))))))))) (fun c=>Vm (Xcc hQ (h.2 c)))))))))))
include H2 H3 B0 B1 in
theorem Wsh (h:Zsb PG K m0 m1):W PG d Zs4 σ st Q:=
 Zk (q_ J (m_ (e_ (Yh (h (Ypf PG d Q ) (fun _ _ _ hb _ _ _ _ H2 H3 H5 B0 B1=>W.loop (Wkr hQ (fun _ _ _ x=>x) H2 H3 H5 B0 B1 hb)) _ _ _ _ H2 H3 J B0 B1)))))
include H0 H1 in
theorem Yxw (h:Zmf PG K a0 b1):W PG d (sR 0 Yb2 (.seq (sR 1 Yjc (.cond (.t 33) (sR 2 Ynw .ret) .skip)) Zs4)) σ st Q:=
 q_ J (Vx H0 J (Vx H1 J (m_ (e_ (Zk (q_ J (f_ J (l_ J (Zs J Zj) J J (f_ J (l_ J Zj J J (b_ J J Ws (Yq J (Ym (g:=11) J (fun c=>z_ 22 J (e_ (Yl J (q_ J (m_ (Zo (hQ J (h.1 c)))))))) (fun c=>Zc J (f_ J (Zc J (l_ J (Zs J Zj) J J (Zc J (f_ J (Zc J (l_ J Zj J J (Zc J (b_ J J Ws (z_ 2 J (Ym (g:=18) J (fun e=>z_ 15 J (e_ (Yl J (q_ J (m_ (Zo (hQ J ((h.2 c).1 e)))))))) (fun e=>Zc J (f_ J (Zc J (l_ J (Zs J Zj) J J (Zc J (f_ J (Zc J (l_ J Zj J J (Zc J (b_ J J Ws (z_ 2 J (Ym (g:=25) J (fun i=>z_ 8 J (e_ (Yl J (q_ J (m_ (Zo (hQ J (((h.2 c).2 e).1 i)))))))) (fun i=>Zc J (f_ J (Zc J (l_ J (Zs J Zj) J J (Zc J (Yo J (Zc J (f_ J (Zc J (l_ J Zj J J (Zc J (Yo J (Zc J (b_ J J Ws (Vf J J (e_ (Yj J (fun j=>q_ J (m_ (Zo (hQ J ((((h.2 c).2 e).2 i).1 j))))) (fun j=>Yc (Wsh hQ J J (Zs J Zj) Zj ((((h.2 c).2 e).2 i).2 j)))))))))))))))))))))))))))))))))))))))))))))))))))))))))
end
theorem Wj1 {PG:Za}(hf:PG.fn 302=some Aa){a0:Zt}{b1:Zt}{K:Bool->Prop}(h:Zmf PG K a0 b1) :∃res0:Bool,K res0/\Zf PG 302 [a0.av,b1.av] (.b res0):=
 P1 hf J (Yxw (h1 J fun _=>J) J J h)
def Ye6:List AI:=[oO 2 (.boxf 5 (.t 0)),oO 3 (.boxf 5 (.t 1)),oC 4 (.b false)]
def Yty:List AI:=[oF 9 0 2,oL 10 9,oF 11 0 3,oL 12 11,oT 13 .neq 10 12,oM 14 13,gF 14 (oF 15 1 2),gF 14 (oL 16 15),gF 14 (oF 17 1 3),gF 14 (oL 18 17),gF 14 (oT 19 .neq 16 18),oR 20 14 19,oM 21 20,gF 21 (oF 22 2 2),gF 21 (oL 23 22),gF 21 (oJ 24 23),gF 21 (oF 25 2 3),gF 21 (oL 26 25),gF 21 (oJ 27 26),gF 21 (oT 28 .neq 24 27),oR 29 21 28,oM 30 29,gF 30 (oF 31 3 2),gF 30 (oL 32 31),gF 30 (oJ 33 32),gF 30 (oF 34 3 3),gF 30 (oL 35 34),gF 30 (oJ 36 35),gF 30 (oT 37 .neq 33 36),oR 38 30 37,oM 39 38,gF 39 (oF 40 4 2),gF 39 (oL 41 40),gF 39 (oF 42 4 3),gF 39 (oL 43 42),gF 39 (oQ 44 170 [41,43]),gF 39 (oZ 45 44),oR 46 39 45]
def Wpk:List AI:=[oC 4 (.b false)]
def Xz6:List AI:=[oI 5 0]
def Wjy:List AI:=[oM 47 5,oF 48 2 2,oL 49 48,oJ 50 49,oT 51 .lss 47 50]
def Xl3:List AI:=[oF 54 2 2,oL 55 54,oM 56 5,oX 57 4 55 56,oK 58 4 57,oF 59 2 3,oL 60 59,oM 61 5,oX 62 4 60 61,oK 63 4 62,oQ 64 88 [58,63],oZ 65 64]
def Wpx:List AI:=[oC 4 (.b false)]
def Wbk:List AI:=[oM 52 5,oV 53 .add 52 1,oM 5 53]
def Wlo:List AI:=[oI 6 0]
def Wkw:List AI:=[oM 66 6,oF 67 3 2,oL 68 67,oJ 69 68,oT 70 .lss 66 69]
def Xzi:List AI:=[oF 73 3 2,oO 74 (.ldf 1 false (.t 73)),oM 75 6,oX 76 8 74 75,oO 77 (.ldf 8 true (.t 76)),oF 78 3 3,oO 79 (.ldf 1 false (.t 78)),oM 80 6,oX 81 8 79 80,oO 82 (.ldf 8 true (.t 81)),oO 7 (.alloc [z6,z6,zb,z8,z6,zs,zl,zb]),oO 8 (.alloc [z6,z6,zb,z8,z6,zs,zl,zb]),oS 8 7 77,oS 8 8 82]
def Ysn:List AI:=[oF 83 0 7,oL 84 83,oF 85 0 8,oL 86 85,oT 87 .neq 84 86,oM 88 87,gF 88 (oF 89 1 7),gF 88 (oL 90 89),gF 88 (oF 91 1 8),gF 88 (oL 92 91),gF 88 (oT 93 .neq 90 92),oR 94 88 93,oM 95 94,gF 95 (oF 96 2 7),gF 95 (oL 97 96),gF 95 (oF 98 2 8),gF 95 (oL 99 98),gF 95 (oO 100 (.beq true (.t 97) (.t 99))),oR 101 95 100,oM 102 101,gF 102 (oF 103 3 7),gF 102 (oK 104 5 103),gF 102 (oF 105 3 8),gF 102 (oK 106 5 105),gF 102 (oQ 107 78 [104,106]),gF 102 (oZ 108 107),oR 109 102 108]
def Wlj:List AI:=[oC 4 (.b false)]
def Xuh:List AI:=[oM 71 6,oV 72 .add 71 1,oM 6 72]
def Xnt:List AI:=[oC 4 (.b true)]
abbrev Zhu:AC:=(.seq (sR 4 Wjy (.cond (.t 51) .skip (.exit 0))) (.seq (.block 1 (sR 6 Xl3 (.cond (.t 65) (sR 7 Wpx .ret) .skip))) (.reg 5 Wbk)))
abbrev Zgd:AC:=(.seq (sR 9 Wkw (.cond (.t 70) .skip (.exit 2))) (.seq (.block 3 (sR 11 Xzi (sR 12 Ysn (.cond (.t 109) (sR 13 Wlj .ret) .skip)))) (.reg 10 Xuh)))
abbrev Zeg:AC:=(sR 14 Xnt .ret)
abbrev Zi5:AC:=(.seq (sR 8 Wlo (.block 2 (.loop Zgd))) Zeg)
abbrev Yge:AC:=(.seq (sR 3 Xz6 (.block 0 (.loop Zhu))) Zi5)
abbrev Zs0:AC:=(.seq (sR 1 Yty (.cond (.t 46) (sR 2 Wpk .ret) .skip)) Yge)
abbrev Wcl:AC:=(sR 0 Ye6 Zs0)
def Lh:AF:={ nt:=110,res:=[.tmp 4],fz:=[2,3],body:=Wcl }
abbrev Yax (PG:Za)(d:Nat)(Q:AE->Sl->St->Prop)(a2_0:Int)(a2_1:Int)(a2_2:List Zg)(a2_3:List Zr)(a2_4:List Zh)(b3_0:Int)(b3_1:Int)(b3_2:List Zg)(b3_3:List Zr)(b3_4:List Zh)(i5:Int):Prop:=
  ∀(σ:Sl)(st:St),σ 2=.fp [.i .u8 a2_0,.i .i64 a2_1,.sl .ext (List.map Zg.row a2_2),.sl .ext (List.map Zr.row a2_3),.sl .ext (List.map Zh.row a2_4)]->σ 3=.fp [.i .u8 b3_0,.i .i64 b3_1,.sl .ext (List.map Zg.row b3_2),.sl .ext (List.map Zr.row b3_3),.sl .ext (List.map Zh.row b3_4)]->σ 5=.i .i64 i5->W PG d (.loop Zhu) σ st (Zw 0 (Zl PG d Zi5 Q))
abbrev Ygb (PG:Za)(d:Nat)(Q:AE->Sl->St->Prop)(a2_0:Int)(a2_1:Int)(a2_2:List Zg)(a2_3:List Zr)(a2_4:List Zh)(b3_0:Int)(b3_1:Int)(b3_2:List Zg)(b3_3:List Zr)(b3_4:List Zh)(i6:Int):Prop:=
  ∀(σ:Sl)(st:St),σ 2=.fp [.i .u8 a2_0,.i .i64 a2_1,.sl .ext (List.map Zg.row a2_2),.sl .ext (List.map Zr.row a2_3),.sl .ext (List.map Zh.row a2_4)]->σ 3=.fp [.i .u8 b3_0,.i .i64 b3_1,.sl .ext (List.map Zg.row b3_2),.sl .ext (List.map Zr.row b3_3),.sl .ext (List.map Zh.row b3_4)]->σ 6=.i .i64 i6->W PG d (.loop Zgd) σ st (Zw 2 (Zl PG d Zeg Q))
def Zsf (PG:Za)(K:Bool->Prop) :Prop:=
  K true
def Zci (PG:Za)(K:Bool->Prop)(P1:Int->Prop)(a2_0:Int)(a2_1:Int)(a2_2:List Zg)(a2_3:List Zr)(a2_4:List Zh)(b3_0:Int)(b3_1:Int)(b3_2:List Zg)(b3_3:List Zr)(b3_4:List Zh)(i6:Int):Prop:=
  (i6<(a2_3.length:Int)->0<=i6/\∃c:Zr,a2_3[(i6).toNat]?=some c/\0<=i6/\∃e:Zr,b3_3[(i6).toNat]?=some e/\(c.frame≠e.frame->K false)/\(¬(c.frame≠e.frame)->(c.func≠e.func->K false)/\(¬(c.func≠e.func)->(c.hasArg≠e.hasArg->K false)/\(¬(c.hasArg≠e.hasArg)->∃i,Zf PG 78 [c.arg.av,e.arg.av] (.b i)/\((!i)=true->K false)/\((!i)=false->P1 (IntKind.i64.wrap (i6+1)))))))/\(¬(i6<(a2_3.length:Int))->Zsf PG K )
def Zsp (PG:Za)(K:Bool->Prop)(a2_0:Int)(a2_1:Int)(a2_2:List Zg)(a2_3:List Zr)(a2_4:List Zh)(b3_0:Int)(b3_1:Int)(b3_2:List Zg)(b3_3:List Zr)(b3_4:List Zh):Prop:=
  ∀P1:Int->Prop,(∀(i6:Int),Zci PG K P1 a2_0 a2_1 a2_2 a2_3 a2_4 b3_0 b3_1 b3_2 b3_3 b3_4 i6->P1 i6)->P1 0
def Zg4 (PG:Za)(K:Bool->Prop)(P0:Int->Prop)(a2_0:Int)(a2_1:Int)(a2_2:List Zg)(a2_3:List Zr)(a2_4:List Zh)(b3_0:Int)(b3_1:Int)(b3_2:List Zg)(b3_3:List Zr)(b3_4:List Zh)(i5:Int):Prop:=
  (i5<(a2_2.length:Int)->0<=i5/\∃e:Zg,a2_2[(i5).toNat]?=some e/\0<=i5/\∃i:Zg,b3_2[(i5).toNat]?=some i/\∃c,Zf PG 88 [e.av,i.av] (.b c)/\((!c)=true->K false)/\((!c)=false->P0 (IntKind.i64.wrap (i5+1))))/\(¬(i5<(a2_2.length:Int))->Zsp PG K a2_0 a2_1 a2_2 a2_3 a2_4 b3_0 b3_1 b3_2 b3_3 b3_4)
def Zo2 (PG:Za)(K:Bool->Prop)(a2_0:Int)(a2_1:Int)(a2_2:List Zg)(a2_3:List Zr)(a2_4:List Zh)(b3_0:Int)(b3_1:Int)(b3_2:List Zg)(b3_3:List Zr)(b3_4:List Zh):Prop:=
  ∀P0:Int->Prop,(∀(i5:Int),Zg4 PG K P0 a2_0 a2_1 a2_2 a2_3 a2_4 b3_0 b3_1 b3_2 b3_3 b3_4 i5->P0 i5)->P0 0
def Zj4 (PG:Za)(K:Bool->Prop)(a2_0:Int)(a2_1:Int)(a2_2:List Zg)(a2_3:List Zr)(a2_4:List Zh)(b3_0:Int)(b3_1:Int)(b3_2:List Zg)(b3_3:List Zr)(b3_4:List Zh):Prop:=
  (a2_0≠b3_0->K false)/\(¬(a2_0≠b3_0)->(a2_1≠b3_1->K false)/\(¬(a2_1≠b3_1)->((a2_2.length:Int)≠(b3_2.length:Int)->K false)/\(¬((a2_2.length:Int)≠(b3_2.length:Int))->((a2_3.length:Int)≠(b3_3.length:Int)->K false)/\(¬((a2_3.length:Int)≠(b3_3.length:Int))->∃c,Zf PG 170 [.sl .ext (List.map Zh.row a2_4),.sl .ext (List.map Zh.row b3_4)] (.b c)/\((!c)=true->K false)/\((!c)=false->Zo2 PG K a2_0 a2_1 a2_2 a2_3 a2_4 b3_0 b3_1 b3_2 b3_3 b3_4)))))
def Zms (PG:Za)(K:Bool->Prop)(a0:Zi)(b1:Zi):Prop:=
  Zj4 PG K a0.status a0.key a0.frames a0.defers a0.panics b1.status b1.key b1.frames b1.defers b1.panics
section
variable {PG:Za}{d:Nat}{Q:AE->Sl->St->Prop}{K:Bool->Prop}(hQ:H1 AV.b 4 Q K){σ:Sl}{st:St}
include hQ
variable {a2_0 a2_1:Int}{a2_2:List Zg}{a2_3:List Zr}{a2_4:List Zh}{b3_0 b3_1:Int}{b3_2:List Zg}{b3_3:List Zr}{b3_4:List Zh}{i6:Int}{P1:Int->Prop}{i5:Int}{P0:Int->Prop}{a0 b1:Zi}
variable (kP1 :∀(i6:Int),P1 i6->Ygb PG d Q a2_0 a2_1 a2_2 a2_3 a2_4 b3_0 b3_1 b3_2 b3_3 b3_4 i6) (kP0 :∀(i5:Int),P0 i5->Yax PG d Q a2_0 a2_1 a2_2 a2_3 a2_4 b3_0 b3_1 b3_2 b3_3 b3_4 i5)(H0:σ 0=a0.av)(H2:σ 2=.fp [.i .u8 a2_0,.i .i64 a2_1,.sl .ext (List.map Zg.row a2_2),.sl .ext (List.map Zr.row a2_3),.sl .ext (List.map Zh.row a2_4)])(H1:σ 1=b1.av)(H3:σ 3=.fp [.i .u8 b3_0,.i .i64 b3_1,.sl .ext (List.map Zg.row b3_2),.sl .ext (List.map Zr.row b3_3),.sl .ext (List.map Zh.row b3_4)])(H6:σ 6=.i .i64 i6)(H5:σ 5=.i .i64 i5)
theorem Xfg (h:Zsf PG K ):W PG d Zeg σ st Q:=
 q_ J (m_ (Zo (hQ J h)))
include kP1 H2 H3 H6 in
theorem Xwv (h:Zci PG K P1 a2_0 a2_1 a2_2 a2_3 a2_4 b3_0 b3_1 b3_2 b3_3 b3_4 i6):W PG d Zgd σ st (Zl PG d (.loop Zgd) (Zw 2 (Zl PG d Zeg Q))):=
 Zk (q_ J (m_ (Ke H2 (Xk J J J (Yo J (b_ H6 J Wn (e_ (Yj J (fun j=>Yc (Zk (Yh (Zk (W.reg (Ke H2 (Fu J J J (m_ ((h.1 j).2.elim fun u p=>Wq J H6 (h.1 j).1 p.1 (Zr.row_eq u) J (Fu J J J (Ke H3 (Fu J J J (m_ (p.2.2.elim fun v c=>Wq J H6 p.2.1 c.1 (Zr.row_eq v) J (Fu J J J (Xy (Xy (Ye J (show lk _ (d,45066)=some (_,([.i .i64 0,.i .i64 0,.b false,.i .u8 0,.i .i64 0,.s [],.sl .full (List.map Zb.row ([]:List Zb)),.b false]:List AV)) from (Zs J Zj)) J J J (Ye J (Zs J (show lk _ (d,45067)=some (_,([.i .i64 0,.i .i64 0,.b false,.i .u8 0,.i .i64 0,.s [],.sl .full (List.map Zb.row ([]:List Zb)),.b false]:List AV)) from Zj)) J J J (e_ (q_ J (f_ J (l_ J (Zs J Zj) J J (f_ J (l_ J Zj J J (b_ J J Ws (Yq J (Ym (g:=88) J (fun e=>z_ 21 J (e_ (Yl J (q_ J (m_ (Zo (hQ J (c.2.1 e)))))))) (fun e=>Zc J (f_ J (Zc J (l_ J (Zs J Zj) J J (Zc J (f_ J (Zc J (l_ J Zj J J (Zc J (b_ J J Ws (z_ 2 J (Ym (g:=95) J (fun k=>z_ 14 J (e_ (Yl J (q_ J (m_ (Zo (hQ J ((c.2.2 e).1 k)))))))) (fun k=>Zc J (f_ J (Zc J (l_ J (Zs J Zj) J J (Zc J (f_ J (Zc J (l_ J Zj J J (Zc J (Ztc J J (z_ 2 J (Ym (g:=102) J (fun r=>z_ 7 J (e_ (Yl J (q_ J (m_ (Zo (hQ J (((c.2.2 e).2 k).1 r)))))))) (fun r=>Zc J (f_ J (Zc J (l_ J (Zs J Zj) J J (Zc J (f_ J (Zc J (l_ J Zj J J (Zc J ((((c.2.2 e).2 k).2 r).elim fun _ o=>Yi (Je J J J) o.1 (Zc J (Xx J (Vf J J (e_ (Xs J (fun q=>q_ J (m_ (Zo (hQ J (o.2.1 q))))) (fun q=>Yc (W.reg0 J fun _ _=>m_ (b_ H6 J Vd (m_ (e_ (kP1 _ (o.2.2 q) _ _ H2 H3 J))))))))))))))))))))))))))))))))))))))))))))))))))))))))))))))))))))))))) (fun j=>Vm (Xfg hQ (h.2 j)))))))))))
include H2 H3 in
theorem Wg1 (h:Zsp PG K a2_0 a2_1 a2_2 a2_3 a2_4 b3_0 b3_1 b3_2 b3_3 b3_4):W PG d Zi5 σ st Q:=
 Zk (q_ J (m_ (e_ (Yh (h (Ygb PG d Q a2_0 a2_1 a2_2 a2_3 a2_4 b3_0 b3_1 b3_2 b3_3 b3_4) (fun _ hb _ _ H2 H3 H6=>W.loop (Xwv hQ (fun _ x=>x) H2 H3 H6 hb)) _ _ H2 H3 J)))))
include kP0 H2 H3 H5 in
theorem Xb8 (h:Zg4 PG K P0 a2_0 a2_1 a2_2 a2_3 a2_4 b3_0 b3_1 b3_2 b3_3 b3_4 i5):W PG d Zhu σ st (Zl PG d (.loop Zhu) (Zw 0 (Zl PG d Zi5 Q))):=
 Zk (q_ J (m_ (Ke H2 (Xk J J J (Yo J (b_ H5 J Wn (e_ (Yj J (fun c=>Yc (Zk (Yh (q_ J (Ke H2 (Xk J J J (m_ ((h.1 c).2.elim fun o e=>Wq J H5 (h.1 c).1 e.1 (Zg.row_eq o) J (Xk J J J (Ke H3 (Xk J J J (m_ (e.2.2.elim fun p k=>Wq J H5 e.2.1 k.1 (Zg.row_eq p) J (Xk J J J (k.2.elim fun _ i=>Yi (Je J J J) i.1 (Xx J (e_ (Xs J (fun j=>q_ J (m_ (Zo (hQ J (i.2.1 j))))) (fun j=>Yc (W.reg0 J fun _ _=>m_ (b_ H5 J Vd (m_ (e_ (kP0 _ (i.2.2 j) _ _ H2 H3 J)))))))))))))))))))))))) (fun c=>Vm (Wg1 hQ H2 H3 (h.2 c)))))))))))
include H2 H3 in
theorem Wo0 (h:Zo2 PG K a2_0 a2_1 a2_2 a2_3 a2_4 b3_0 b3_1 b3_2 b3_3 b3_4):W PG d Yge σ st Q:=
 Zk (q_ J (m_ (e_ (Yh (h (Yax PG d Q a2_0 a2_1 a2_2 a2_3 a2_4 b3_0 b3_1 b3_2 b3_3 b3_4) (fun _ hb _ _ H2 H3 H5=>W.loop (Xb8 hQ (fun _ x=>x) H2 H3 H5 hb)) _ _ H2 H3 J)))))
include H2 H3 in
theorem Wng (h:Zj4 PG K a2_0 a2_1 a2_2 a2_3 a2_4 b3_0 b3_1 b3_2 b3_3 b3_4):W PG d Zs0 σ st Q:=
 Zk (q_ J (Ke H2 (Xk J J J (Ke H3 (Xk J J J (b_ J J Ws (Yq J (Ym (g:=14) J (fun c=>z_ 32 J (e_ (Yl J (q_ J (m_ (Zo (hQ J (h.1 c)))))))) (fun c=>Zc J (Ke H2 (Zc J (Xk J J J (Zc J (Ke H3 (Zc J (Xk J J J (Zc J (b_ J J Ws (z_ 2 J (Ym (g:=21) J (fun e=>z_ 25 J (e_ (Yl J (q_ J (m_ (Zo (hQ J ((h.2 c).1 e)))))))) (fun e=>Zc J (Ke H2 (Zc J (Xk J J J (Zc J (Yo J (Zc J (Ke H3 (Zc J (Xk J J J (Zc J (Yo J (Zc J (b_ J J Ws (z_ 2 J (Ym (g:=30) J (fun i=>z_ 16 J (e_ (Yl J (q_ J (m_ (Zo (hQ J (((h.2 c).2 e).1 i)))))))) (fun i=>Zc J (Ke H2 (Zc J (Xk J J J (Zc J (Yo J (Zc J (Ke H3 (Zc J (Xk J J J (Zc J (Yo J (Zc J (b_ J J Ws (z_ 2 J (Ym (g:=39) J (fun k=>z_ 7 J (e_ (Yl J (q_ J (m_ (Zo (hQ J ((((h.2 c).2 e).2 i).1 k)))))))) (fun k=>Zc J (Ke H2 (Zc J (Xk J J J (Zc J (Ke H3 (Zc J (Xk J J J (Zc J (((((h.2 c).2 e).2 i).2 k).elim fun _ j=>Yi (Je J J J) j.1 (Zc J (Xx J (Vf J J (e_ (Xs J (fun o=>q_ J (m_ (Zo (hQ J (j.2.1 o))))) (fun o=>Yc (Wo0 hQ H2 H3 (j.2.2 o))))))))))))))))))))))))))))))))))))))))))))))))))))))))))))))))))))))
include H0 H1 in
theorem Wsg (h:Zms PG K a0 b1):W PG d (sR 0 Ye6 Zs0) σ st Q:=
 q_ J (Zhh H0 J J (Zhh H1 J J (m_ (e_ (Wng hQ J J h)))))
end
theorem Wic {PG:Za}(hf:PG.fn 314=some Lh){a0:Zi}{b1:Zi}{K:Bool->Prop}(h:Zms PG K a0 b1) :∃res0:Bool,K res0/\Zf PG 314 [a0.av,b1.av] (.b res0):=
 P1 hf J (Wsg (h1 J fun _=>J) J J h)
def Ydl:List AI:=[oO 2 (.alloc [z8,z6,zs,zl,zb])]
def Zzn:List AI:=[oM 3 0,oO 4 (.build [z8,z6,zs,zl,zb] [(0,1,(.c (.i .u8 2))),(1,1,(.t 3))]),oS 5 2 4]
abbrev Xlj:AC:=(sR 0 Ydl (sR 1 Zzn .ret))
def Ol:AF:={ nt:=5,res:=[.cell 2 5 true],body:=Xlj }
abbrev Xt1 (Q:AE->Sl->St->Prop)(K:Zb->Prop):Prop:=∀(σ:Sl)(st:St)(k0:Zq)(v0:Nat)(o0_0:Zn)(res0:Zb),σ 2=.p k0 v0 0->lk st.bx k0=some (v0,[.i .u8 res0.kind,.i .i64 res0.int,.s res0.text,.sl o0_0 (List.map Zb.row res0.list),.b res0.cut])->K res0->Q .ret σ st
def Zm7 (PG:Za)(K:Zb->Prop)(n0:Int):Prop:=
  K (Zb.mk 2 n0 [] ([]:List Zb) false)
section
variable {PG:Za}{d:Nat}{Q:AE->Sl->St->Prop}{K:Zb->Prop}(hQ:Xt1 Q K){σ:Sl}{st:St}
include hQ
variable {n0:Int}
variable (H0:σ 0=.i .i64 n0)
include H0 in
theorem Ywe (h:Zm7 PG K n0):W PG d (sR 0 Ydl (sR 1 Zzn .ret)) σ st Q:=
 Zk (W.reg (Xy (e_ (q_ J (m_ (Wb (Yn J J (Yn H0 J Xr)) (Ye J (show lk _ (d,0)=some (_,([.i .u8 0,.i .i64 0,.s [],.sl .full (List.map Zb.row ([]:List Zb)),.b false]:List AV)) from Zj) J J J (Zo (hQ _ _ _ _ _ _ J Zj h)))))))))
end
theorem Xyv {PG:Za}(hf:PG.fn 292=some Ol){n0:Int}{K:Zb->Prop}(h:Zm7 PG K n0) :∃res0:Zb,K res0/\Zf PG 292 [.i .i64 n0] (res0.av):=by
  obtain ⟨v,hv,res0,hk,rfl⟩:=Zf.of (K:=fun v=>∃res0:Zb,K res0/\v=res0.av) hf rfl (Ywe (σ:=Wh [.i .i64 n0]) (fun σ st k0 v0 o0_0 res0 H2 HB2 hk=>⟨res0.avo o0_0,by simp only [Ol,Xm,Vk,Jz (n:=5) H2 HB2 rfl,Qb,Option.map_some],_,rfl,res0,hk,rfl⟩) rfl h)
  exact ⟨res0,hk,hv⟩
def Yf3:List AI:=[oO 0 (.alloc [z8,z6,zs,zl,zb])]
def Yl9:List AI:=[oO 1 (.build [z8,z6,zs,zl,zb] [(0,1,(.c (.i .u8 1))),(1,1,(.c (.i .i64 1)))]),oS 5 0 1]
abbrev Wgi:AC:=(sR 0 Yf3 (sR 1 Yl9 .ret))
def Ir:AF:={ nt:=2,res:=[.cell 0 5 true],body:=Wgi }
abbrev Wb2 (Q:AE->Sl->St->Prop)(K:Zb->Prop):Prop:=∀(σ:Sl)(st:St)(k0:Zq)(v0:Nat)(o0_0:Zn)(res0:Zb),σ 0=.p k0 v0 0->lk st.bx k0=some (v0,[.i .u8 res0.kind,.i .i64 res0.int,.s res0.text,.sl o0_0 (List.map Zb.row res0.list),.b res0.cut])->K res0->Q .ret σ st
def Zq1 (PG:Za)(K:Zb->Prop) :Prop:=
  K (Zb.mk 1 1 [] ([]:List Zb) false)
section
variable {PG:Za}{d:Nat}{Q:AE->Sl->St->Prop}{K:Zb->Prop}(hQ:Wb2 Q K){σ:Sl}{st:St}
include hQ
theorem Yrq (h:Zq1 PG K ):W PG d (sR 0 Yf3 (sR 1 Yl9 .ret)) σ st Q:=
 Zk (W.reg (Xy (e_ (q_ J (Wb (Yn J J (Yn J J Xr)) (Ye J (show lk _ (d,0)=some (_,([.i .u8 0,.i .i64 0,.s [],.sl .full (List.map Zb.row ([]:List Zb)),.b false]:List AV)) from Zj) J J J (Zo (hQ _ _ _ _ _ _ J Zj h))))))))
end
theorem Xwt {PG:Za}(hf:PG.fn 303=some Ir)  {K:Zb->Prop}(h:Zq1 PG K ) :∃res0:Zb,K res0/\Zf PG 303 [] (res0.av):=by
  obtain ⟨v,hv,res0,hk,rfl⟩:=Zf.of (K:=fun v=>∃res0:Zb,K res0/\v=res0.av) hf rfl (Yrq (σ:=Wh []) (fun σ st k0 v0 o0_0 res0 H0 HB0 hk=>⟨res0.avo o0_0,by simp only [Ir,Xm,Vk,Jz (n:=5) H0 HB0 rfl,Qb,Option.map_some],_,rfl,res0,hk,rfl⟩)  h)
  exact ⟨res0,hk,hv⟩
def Ygh:List AI:=[oO 0 (.alloc [z8,z6,zl,zl,zl])]
def Zz2:List AI:=[oO 1 (.build [z6,z6,z7,zl] [(1,1,(.c (.i .i64 1)))]),oO 2 (.bslice [z6,z6,z7,zl] 1 [(0,(.t 1))]),oQ 3 303 [],oO 4 (.build [z6,z6,zb,z8,z6,zs,zl,zb] [(1,1,(.c (.i .i64 1))),(2,1,(.c (.b true))),(3,5,(.t 3))]),oO 5 (.bslice [z6,z6,zb,z8,z6,zs,zl,zb] 1 [(0,(.t 4))]),oO 6 (.build [z8,z6,zl,zl,zl] [(0,1,(.c (.i .u8 2))),(1,1,(.c (.i .i64 (-3)))),(2,1,(.t 2)),(3,1,(.t 5))]),oS 5 0 6]
abbrev Wjw:AC:=(sR 0 Ygh (sR 1 Zz2 .ret))
def Og:AF:={ nt:=7,res:=[.cell 0 5 true],body:=Wjw }
abbrev Wbj (Q:AE->Sl->St->Prop)(K:Zi->Prop):Prop:=∀(σ:Sl)(st:St)(k0:Zq)(v0:Nat) (o0_0 o0_1 o0_2:Zn)(res0:Zi),σ 0=.p k0 v0 0->lk st.bx k0=some (v0,[.i .u8 res0.status,.i .i64 res0.key,.sl o0_0 (List.map Zg.row res0.frames),.sl o0_1 (List.map Zr.row res0.defers),.sl o0_2 (List.map Zh.row res0.panics)])->K res0->Q .ret σ st
def Zuu (PG:Za)(K:Zi->Prop) :Prop:=
  ∃c:Zb,Zf PG 303 [] (c.av)/\K (Zi.mk 2 (-3) [(Zg.mk 0 1 0 ([]:List Yb))] [(Zr.mk 0 1 true c)] ([]:List Zh))
section
variable {PG:Za}{d:Nat}{Q:AE->Sl->St->Prop}{K:Zi->Prop}(hQ:Wbj Q K){σ:Sl}{st:St}
include hQ
theorem Ws9 (h:Zuu PG K ):W PG d (sR 0 Ygh (sR 1 Zz2 .ret)) σ st Q:=
 Zk (W.reg (Xy (e_ (q_ J (Wb (Yn J J Xr) (Ja (f:=Zg.row) (l:=[(Zg.mk 0 1 0 ([]:List Yb))]) J J (Xw J J J Vn) (by simp only [List.map_cons,List.map_nil,Zg.row_eq];rfl) (h.elim fun e c=>Yi sn c.1 (Wb (Yn J J (Yn J J (Yn J J Xr))) (Ja (f:=Zr.row) (l:=[(Zr.mk 0 1 true e)]) J J (Xw J J J Vn) (by simp only [List.map_cons,List.map_nil,Zr.row_eq];rfl) (Wb (Yn J J (Yn J J (Yn J J (Yn J J Xr)))) (Ye J (show lk _ (d,0)=some (_,([.i .u8 0,.i .i64 0,.sl .full (List.map Zg.row ([]:List Zg)),.sl .full (List.map Zr.row ([]:List Zr)),.sl .full (List.map Zh.row ([]:List Zh))]:List AV)) from Zj) J J J (Zo (hQ _ _ _ _ _ _ _ _ J Zj c.2)))))))))))))
end
theorem Xpi {PG:Za}(hf:PG.fn 294=some Og)  {K:Zi->Prop}(h:Zuu PG K ) :∃res0:Zi,K res0/\Zf PG 294 [] (res0.av):=by
  obtain ⟨v,hv,res0,hk,rfl⟩:=Zf.of (K:=fun v=>∃res0:Zi,K res0/\v=res0.av) hf rfl (Ws9 (σ:=Wh []) (fun σ st k0 v0 o0_0 o0_1 o0_2 res0 H0 HB0 hk=>⟨.ag [.i .u8 res0.status,.i .i64 res0.key,.sl o0_0 (List.map Zg.row res0.frames),.sl o0_1 (List.map Zr.row res0.defers),.sl o0_2 (List.map Zh.row res0.panics)],by simp only [Og,Xm,Vk,Jz (n:=5) H0 HB0 rfl,Qb,Option.map_some],_,rfl,res0,hk,rfl⟩)  h)
  exact ⟨res0,hk,hv⟩
def Yjs:List AI:=[oO 0 (.alloc [z8,z6,z6,zl])]
def Ya2:List AI:=[oO 1 (.build [z6,z6,z7,zl] [(1,1,(.c (.i .i64 4)))]),oO 2 (.bslice [z6,z6,z7,zl] 1 [(0,(.t 1))]),oO 3 (.call false 292 [(.c (.i .i64 5))]),oO 4 (.build [z7,z8,z6,zs,zl,zb,z7] [(0,1,(.c (.i .u64 1))),(1,5,(.t 3))]),oO 5 (.bslice [z7,z8,z6,zs,zl,zb,z7] 1 [(0,(.t 4))]),oO 6 (.build [z8,z6,zl,zl,zl] [(0,1,(.c (.i .u8 1))),(2,1,(.t 2)),(4,1,(.t 5))]),oO 7 (.bslice [z8,z6,zl,zl,zl] 1 [(0,(.t 6))]),oO 8 (.build [z8,z6,z6,zl] [(0,1,(.c (.i .u8 2))),(2,1,(.c (.i .i64 17))),(3,1,(.t 7))]),oS 4 0 8]
abbrev Whe:AC:=(sR 0 Yjs (sR 1 Ya2 .ret))
def Zal:AF:={ nt:=9,res:=[.cell 0 4 true],body:=Whe }
abbrev Wlh (Q:AE->Sl->St->Prop)(K:Zt->Prop):Prop:=∀(σ:Sl)(st:St)(k0:Zq)(v0:Nat)(o0_0:Zn)(res0:Zt),σ 0=.p k0 v0 0->lk st.bx k0=some (v0,[.i .u8 res0.outcome,.i .i64 res0.failing,.i .i64 res0.steps,.sl o0_0 (List.map Zi.row res0.routines)])->K res0->Q .ret σ st
def Zk0 (PG:Za)(K:Zt->Prop) :Prop:=
  ∃c:Zb,Zf PG 292 [.i .i64 5] (c.av)/\K (Zt.mk 2 0 17 [(Zi.mk 1 0 [(Zg.mk 0 4 0 ([]:List Yb))] ([]:List Zr) [(Zh.mk 1 c 0)])])
section
variable {PG:Za}{d:Nat}{Q:AE->Sl->St->Prop}{K:Zt->Prop}(hQ:Wlh Q K){σ:Sl}{st:St}
include hQ
theorem Yze (h:Zk0 PG K ):W PG d (sR 0 Yjs (sR 1 Ya2 .ret)) σ st Q:=
 Zk (W.reg (Xy (e_ (q_ J (Wb (Yn J J Xr) (Ja (f:=Zg.row) (l:=[(Zg.mk 0 4 0 ([]:List Yb))]) J J (Xw J J J Vn) (by simp only [List.map_cons,List.map_nil,Zg.row_eq];rfl) (h.elim fun e c=>Yi (Wr J J) c.1 (Wb (Yn J J (Yn J J Xr)) (Ja (f:=Zh.row) (l:=[(Zh.mk 1 e 0)]) J J (Xw J J J Vn) (by simp only [List.map_cons,List.map_nil,Zh.row_eq];rfl) (Wb (Yn J J (Yn J J (Yn J J Xr))) (Ja (f:=Zi.row) (l:=[(Zi.mk 1 0 [(Zg.mk 0 4 0 ([]:List Yb))] ([]:List Zr) [(Zh.mk 1 e 0)])]) J J (Xw J J J Vn) (by simp only [List.map_cons,List.map_nil,Zi.row_eq];rfl) (Wb (Yn J J (Yn J J (Yn J J Xr))) (Ye J (show lk _ (d,0)=some (_,([.i .u8 0,.i .i64 0,.i .i64 0,.sl .full (List.map Zi.row ([]:List Zi))]:List AV)) from Zj) J J J (Zo (hQ _ _ _ _ _ _ J Zj c.2)))))))))))))))
end
theorem Xk2 {PG:Za}(hf:PG.fn 296=some Zal)  {K:Zt->Prop}(h:Zk0 PG K ) :∃res0:Zt,K res0/\Zf PG 296 [] (res0.av):=by
  obtain ⟨v,hv,res0,hk,rfl⟩:=Zf.of (K:=fun v=>∃res0:Zt,K res0/\v=res0.av) hf rfl (Yze (σ:=Wh []) (fun σ st k0 v0 o0_0 res0 H0 HB0 hk=>⟨res0.avo o0_0,by simp only [Zal,Xm,Vk,Jz (n:=4) H0 HB0 rfl,Qb,Option.map_some],_,rfl,res0,hk,rfl⟩)  h)
  exact ⟨res0,hk,hv⟩
def Ykz:List AI:=[oO 0 (.alloc [zl,zl,zl])]
def Ygn:List AI:=[oO 2 (.mks [z8,z6,z6,z6] 32 (.c (.i .i64 6)) (.c (.i .i64 6))),oM 1 2]
def Ylz:List AI:=[oM 3 1,oO 4 (.build [zs,z6,z6,zl,zl,zl,zl] [(0,1,(.c (.s [109,97,105,110]))),(4,1,(.t 3))]),oM 5 1,oO 6 (.build [zs,z6] [(0,1,(.c (.s [120])))]),oO 7 (.bslice [zs,z6] 1 [(0,(.t 6))]),oO 8 (.build [zs,z6,z6,zl,zl,zl,zl] [(0,1,(.c (.s [102]))),(4,1,(.t 5)),(3,1,(.t 7))]),oO 9 (.bslice [zs,z6,z6,zl,zl,zl,zl] 2 [(0,(.t 4)),(1,(.t 8))]),oO 10 (.build [zl,zl,zl] [(2,1,(.t 9))]),oS 3 0 10]
abbrev Wtq:AC:=(sR 0 Ykz (sR 1 Ygn (sR 2 Ylz .ret)))
def Ac:AF:={ nt:=11,res:=[.cell 0 3 true],body:=Wtq }
abbrev Woq (Q:AE->Sl->St->Prop)(K:Ze->Prop):Prop:=∀(σ:Sl)(st:St)(k0:Zq)(v0:Nat) (o0_0 o0_1 o0_2:Zn)(res0:Ze),σ 0=.p k0 v0 0->lk st.bx k0=some (v0,[.sl o0_0 (List.map Wz.row res0.types),.sl o0_1 (List.map Zv res0.texts),.sl o0_2 (List.map Zz.row res0.funcs)])->K res0->Q .ret σ st
def Zkd (PG:Za)(K:Ze->Prop) :Prop:=
  K (Ze.mk ([]:List Wz) ([]:LB) [(Zz.mk ([109,97,105,110]:BS) 0 0 ([]:List Xd) (Sz 6 Jx.zero) ([]:List Vq) ([]:List Vq)),(Zz.mk ([102]:BS) 0 0 [(Xd.mk ([120]:BS) 0)] (Sz 6 Jx.zero) ([]:List Vq) ([]:List Vq))])
section
variable {PG:Za}{d:Nat}{Q:AE->Sl->St->Prop}{K:Ze->Prop}(hQ:Woq Q K){σ:Sl}{st:St}
include hQ
theorem We4 (h:Zkd PG K ):W PG d (sR 0 Ykz (sR 1 Ygn (sR 2 Ylz .ret))) σ st Q:=
 Zk (W.reg (Xy (e_ (q_ J (Wek (n:=6) (m:=6) (f:=Jx.row) (a:=Jx.zero) J J J J J (by decide) J ⟨by decide,by decide⟩ (Yf J (e_ (q_ J (Yf J (Wb (Yn J J (Yn J J Xr)) (Yf J (Wb (Yn J J Xr) (Ja (f:=Xd.row) (l:=[(Xd.mk ([120]:BS) 0)]) J J (Xw J J J Vn) (by simp only [List.map_cons,List.map_nil,Xd.row_eq];rfl) (Wb (Yn J J (Yn J J (Yn J J Xr))) (Ja (f:=Zz.row) (l:=[(Zz.mk ([109,97,105,110]:BS) 0 0 ([]:List Xd) (Sz 6 Jx.zero) ([]:List Vq) ([]:List Vq)),(Zz.mk ([102]:BS) 0 0 [(Xd.mk ([120]:BS) 0)] (Sz 6 Jx.zero) ([]:List Vq) ([]:List Vq))]) J J (Xw J J J (Xw J J J Vn)) (by simp only [List.map_cons,List.map_nil,Zz.row_eq];rfl) (Wb (Yn J J Xr) (Ye J (show lk _ (d,0)=some (_,([.sl .full (List.map Wz.row ([]:List Wz)),.sl .full (List.map Zv ([]:LB)),.sl .full (List.map Zz.row ([]:List Zz))]:List AV)) from Zj) J J J (Zo (hQ _ _ _ _ _ _ _ _ J Zj h)))))))))))))))))))
end
theorem Wqw {PG:Za}(hf:PG.fn 297=some Ac)  {K:Ze->Prop}(h:Zkd PG K ) :∃res0:Ze,K res0/\Zf PG 297 [] (res0.av):=by
  obtain ⟨v,hv,res0,hk,rfl⟩:=Zf.of (K:=fun v=>∃res0:Ze,K res0/\v=res0.av) hf rfl (We4 (σ:=Wh []) (fun σ st k0 v0 o0_0 o0_1 o0_2 res0 H0 HB0 hk=>⟨.ag [.sl o0_0 (List.map Wz.row res0.types),.sl o0_1 (List.map Zv res0.texts),.sl o0_2 (List.map Zz.row res0.funcs)],by simp only [Ac,Xm,Vk,Jz (n:=3) H0 HB0 rfl,Qb,Option.map_some],_,rfl,res0,hk,rfl⟩)  h)
  exact ⟨res0,hk,hv⟩
def Ybz:List AI:=[oY 2 4 0,oC 4 (.b false)]
def Yh9:List AI:=[oQ 10 297 [],oK 11 4 2,oQ 12 205 [10,11],oM 9 12,oE 13 0 9,oE 14 1 9,oM 5 13,oM 6 14]
def Ydm:List AI:=[oQ 16 297 [],oM 17 1,oQ 18 299 [16,17],oM 15 18,oE 19 0 15,oE 20 1 15,oO 7 (.alloc [z8,z6,z6,zl]),oS 4 7 19,oM 8 20]
def Ycz:List AI:=[oM 21 6,oV 22 .eql 21 0,oM 23 22,gT 23 (oM 24 5),gT 23 (oM 25 1),gT 23 (oT 26 .eql 24 25),oA 27 23 26,oM 28 27,gT 28 (oM 29 8),gT 28 (oV 30 .eql 29 0),oA 31 28 30,oM 32 31,gT 32 (oK 33 4 2),gT 32 (oK 34 4 7),gT 32 (oQ 35 302 [33,34]),oA 36 32 35,oM 4 36]
abbrev Wom:AC:=(sR 0 Ybz (sR 1 Yh9 (sR 2 Ydm (sR 3 Ycz .ret))))
def Zck:AF:={ nt:=37,res:=[.tmp 4],body:=Wom }
def Ztg (PG:Za)(K:Bool->Prop)(s0:Zt)(want1:BS):Prop:=
  ∃c:Ze,Zf PG 297 [] (c.av)/\∃e k,Zf PG 205 [c.av,s0.av] (.tup [.s e,.i .i64 k])/\∃o:Ze,Zf PG 297 [] (o.av)/\∃p:Zt,∃j,Zf PG 299 [o.av,.s want1] (.tup [p.av,.i .i64 j])/\(k=0->(e=want1->(j=0->∃q,Zf PG 302 [s0.av,p.av] (.b q)/\K q)/\(¬(j=0)->K false))/\(¬(e=want1)->K false))/\(¬(k=0)->K false)
section
variable {PG:Za}{d:Nat}{Q:AE->Sl->St->Prop}{K:Bool->Prop}(hQ:H1 AV.b 4 Q K){σ:Sl}{st:St}
include hQ
variable {s0:Zt}{want1:BS}
variable (H0:σ 0=s0.av)(H1:σ 1=.s want1)
include H0 H1 in
theorem Wfw (h:Ztg PG K s0 want1):W PG d (sR 0 Ybz (sR 1 Yh9 (sR 2 Ydm (sR 3 Ycz .ret)))) σ st Q:=
 q_ J (Vx H0 J (m_ (e_ (q_ J (h.elim fun _ p=>Yi sn p.1 (l_ J Zj J J (x2 p.2 fun _ _ q=>Yi (Je J J J) q.1 (m_ (x_ J J (x_ J J (m_ (m_ (e_ (Zk (W.reg (q.2.elim fun _ r=>Yi sn r.1 (m_ (x2 r.2 fun _ _ c=>Yi (Je J H1 J) c.1 (m_ (x_ J J (x_ J J (Xy (Ye J (show lk _ (d,8198)=some (_,([.i .u8 0,.i .i64 0,.i .i64 0,.sl .full (List.map Zi.row ([]:List Zi))]:List AV)) from Zj) J J J (m_ (e_ (q_ J (Xa J (b_ J J Xo (Yq J (Ym (g:=23) J (fun e=>Zc J (He J (Zc J (He H1 (Zc J (b_ J J Sp (z_ 2 J (Ym (g:=28) J (fun j=>Zc J (Xa J (Zc J (b_ J J Xo (z_ 2 J (Ym (g:=32) J (fun k=>Zc J (l_ J (Zs J (Zs J Zj)) J J (Zc J (l_ J Zj J J (Zc J ((((c.2.1 e).1 j).1 k).elim fun _ o=>Yi (Je J J J) o.1 (z_ 2 J (Zo (hQ J o.2))))))))) (fun k=>z_ 5 J (Zo (hQ J (((c.2.1 e).1 j).2 k)))))))))) (fun j=>z_ 9 J (Zo (hQ J ((c.2.1 e).2 j)))))))))))) (fun e=>z_ 14 J (Zo (hQ J (c.2.2 e))))))))))))))))))))))))))))))))))
end
theorem Ywy {PG:Za}(hf:PG.fn 293=some Zck){s0:Zt}{want1:BS}{K:Bool->Prop}(h:Ztg PG K s0 want1) :∃res0:Bool,K res0/\Zf PG 293 [s0.av,.s want1] (.b res0):=
 P1 hf J (Wfw (h1 J fun _=>J) J J h)
def Yaj:List AI:=[oC 0 (.b false)]
def Yri:List AI:=[oQ 4 297 [],oQ 5 294 [],oO 6 (.call false 207 [(.t 4),(.c (.i .i64 0)),(.t 5)]),oM 3 6,oE 7 0 3,oE 8 1 3,oM 1 7,oM 2 8]
def Ymr:List AI:=[oQ 9 296 [],oO 10 (.call false 293 [(.t 9),(.c (.s [111,117,116,99,111,109,101,32,112,97,110,105,99,44,32,102,97,105,108,105,110,103,32,48,44,32,115,116,101,112,115,32,49,55,10,103,111,114,111,117,116,105,110,101,32,48,58,32,114,101,97,100,121,10,32,32,35,48,32,48,32,34,109,97,105,110,34,32,97,116,32,52,32,99,97,108,108,10,32,32,112,97,110,105,99,32,53,10]))]),oM 11 10,gT 11 (oM 12 2),gT 11 (oV 13 .eql 12 0),oA 14 11 13,oM 15 14,gT 15 (oM 16 1),gT 15 (oO 17 (.bslice [zs] 3 [(0,(.c (.s [103,111,114,111,117,116,105,110,101,32,48,58,32,98,108,111,99,107,101,100,32,45,51]))),(1,(.c (.s [32,32,35,48,32,48,32,34,109,97,105,110,34,32,97,116,32,49,32,99,97,108,108]))),(2,(.c (.s [32,32,100,101,102,101,114,32,48,32,49,32,34,102,34,32,119,105,116,104,32,116,114,117,101])))])),gT 15 (oQ 18 29 [16,17]),oA 19 15 18,oM 0 19]
abbrev Yuh:AC:=(sR 0 Yaj (sR 1 Yri (sR 2 Ymr .ret)))
def Zcc:AF:={ nt:=20,res:=[.tmp 0],body:=Yuh }
def Zrw (PG:Za)(K:Bool->Prop) :Prop:=
  ∃c:Ze,Zf PG 297 [] (c.av)/\∃o:Zi,Zf PG 294 [] (o.av)/\∃k e,Zf PG 207 [c.av,.i .i64 0,o.av] (.tup [.sl .ext (List.map Zv k),.i .i64 e])/\∃p:Zt,Zf PG 296 [] (p.av)/\∃j,Zf PG 293 [p.av,.s ([111,117,116,99,111,109,101,32,112,97,110,105,99,44,32,102,97,105,108,105,110,103,32,48,44,32,115,116,101,112,115,32,49,55,10,103,111,114,111,117,116,105,110,101,32,48,58,32,114,101,97,100,121,10,32,32,35,48,32,48,32,34,109,97,105,110,34,32,97,116,32,52,32,99,97,108,108,10,32,32,112,97,110,105,99,32,53,10]:BS)] (.b j)/\(j=true->(e=0->∃q,Zf PG 29 [.sl .ext (List.map Zv k),.sl .ext (List.map Zv [([103,111,114,111,117,116,105,110,101,32,48,58,32,98,108,111,99,107,101,100,32,45,51]:BS),([32,32,35,48,32,48,32,34,109,97,105,110,34,32,97,116,32,49,32,99,97,108,108]:BS),([32,32,100,101,102,101,114,32,48,32,49,32,34,102,34,32,119,105,116,104,32,116,114,117,101]:BS)])] (.b q)/\K q)/\(¬(e=0)->K false))/\(j=false->K false)
section
variable {PG:Za}{d:Nat}{Q:AE->Sl->St->Prop}{K:Bool->Prop}(hQ:H1 AV.b 0 Q K){σ:Sl}{st:St}
include hQ
theorem Xgk (h:Zrw PG K ):W PG d (sR 0 Yaj (sR 1 Yri (sR 2 Ymr .ret))) σ st Q:=
 q_ J (m_ (e_ (q_ J (h.elim fun _ k=>Yi sn k.1 (k.2.elim fun _ o=>Yi sn o.1 (x2 o.2 fun _ _ p=>Yi (Ce J J J J) p.1 (m_ (x_ J J (x_ J J (Yf J (m_ (e_ (q_ J (p.2.elim fun _ q=>Yi sn q.1 (q.2.elim fun _ c=>Yi (Je J J J) c.1 (Yq J (Kt (g:=11) J (fun e=>Zc J (Xa J (Zc J (b_ J J Xo (z_ 2 J (Ym (g:=15) J (fun i=>Zc J (Yf J (Zc J (Ja (f:=Zv) (l:=[([103,111,114,111,117,116,105,110,101,32,48,58,32,98,108,111,99,107,101,100,32,45,51]:BS),([32,32,35,48,32,48,32,34,109,97,105,110,34,32,97,116,32,49,32,99,97,108,108]:BS),([32,32,100,101,102,101,114,32,48,32,49,32,34,102,34,32,119,105,116,104,32,116,114,117,101]:BS)]) J J (Xw J J J (Xw J J J (Xw J J J Vn))) J (Zc J (((c.2.1 e).1 i).elim fun _ j=>Yi (Je J J J) j.1 (z_ 2 J (Zo (hQ J j.2))))))))) (fun i=>z_ 5 J (Zo (hQ J ((c.2.1 e).2 i)))))))))) (fun e=>z_ 9 J (Zo (hQ J (c.2.2 e)))))))))))))))))))))
end
theorem Wks {PG:Za}(hf:PG.fn 290=some Zcc)  {K:Bool->Prop}(h:Zrw PG K ) :∃res0:Bool,K res0/\Zf PG 290 [] (.b res0):=
 P1 hf J (Xgk (h1 J fun _=>J)  h)
def Ypy:List AI:=[oY 3 3 0,oY 4 5 1,oC 6 (.b false)]
def Xbh:List AI:=[oI 7 1]
def Xcd:List AI:=[oI 8 0]
def Yu4:List AI:=[oM 15 8,oF 16 2 4,oL 17 16,oJ 18 17,oT 19 .lss 15 18]
def Ys5:List AI:=[oK 23 3 3,oM 24 8,oF 25 2 4,oL 26 25,oM 27 8,oX 28 4 26 27,oK 29 4 28,oQ 30 82 [23,24,29],oM 22 30,oE 31 0 22,oE 32 1 22,oM 9 31,oM 10 32]
def Wox:List AI:=[oM 33 10,oV 34 .neq 33 0,oM 35 34,gF 35 (oM 36 9),gF 35 (oJ 37 36),gF 35 (oF 38 2 4),gF 35 (oL 39 38),gF 35 (oM 40 8),gF 35 (oX 41 4 39 40),gF 35 (oF 42 3 41),gF 35 (oL 43 42),gF 35 (oJ 44 43),gF 35 (oV 45 .add 44 1),gF 35 (oT 46 .neq 37 45),oR 47 35 46]
def Xbs:List AI:=[oC 6 (.b false)]
def Xij:List AI:=[oI 11 0]
def Wt9:List AI:=[oM 48 11,oM 49 9,oJ 50 49,oT 51 .lss 48 50]
def Xp1:List AI:=[oM 54 7,oM 55 2,oJ 56 55,oT 57 .geq 54 56,oM 58 57,gF 58 (oM 59 2),gF 58 (oM 60 7),gF 58 (oX 61 1 59 60),gF 58 (oL 62 61),gF 58 (oM 63 9),gF 58 (oM 64 11),gF 58 (oX 65 1 63 64),gF 58 (oL 66 65),gF 58 (oB 67 .add (.c (.s [32,32])) (.t 66)),gF 58 (oT 68 .neq 62 67),oR 69 58 68]
def Xkx:List AI:=[oC 6 (.b false)]
def Wnp:List AI:=[oM 70 7,oV 71 .add 70 1,oM 7 71]
def Wcu:List AI:=[oM 52 11,oV 53 .add 52 1,oM 11 53]
def Xgi:List AI:=[oM 20 8,oV 21 .add 20 1,oM 8 21]
def Xbm:List AI:=[oM 72 7,oF 73 3 4,oL 74 73,oJ 75 74,oT 76 .add 72 75,oM 7 76]
def Wgw:List AI:=[oI 12 0]
def Xpv:List AI:=[oM 77 12,oF 78 4 4,oL 79 78,oJ 80 79,oT 81 .lss 77 80]
def Wh9:List AI:=[oF 85 4 4,oL 86 85,oM 87 12,oX 88 7 86 87,oK 89 7 88,oQ 90 154 [89],oM 84 90,oE 91 0 84,oE 92 1 84,oM 13 91,oM 14 92]
def Xlp:List AI:=[oM 93 14,oV 94 .neq 93 0,oM 95 94,gF 95 (oM 96 7),gF 95 (oM 97 2),gF 95 (oJ 98 97),gF 95 (oT 99 .geq 96 98),oR 100 95 99,oM 101 100,gF 101 (oM 102 2),gF 101 (oM 103 7),gF 101 (oX 104 1 102 103),gF 101 (oL 105 104),gF 101 (oM 106 13),gF 101 (oB 107 .add (.c (.s [32,32])) (.t 106)),gF 101 (oT 108 .neq 105 107),oR 109 101 108]
def Wel:List AI:=[oC 6 (.b false)]
def Woe:List AI:=[oM 110 7,oV 111 .add 110 1,oM 7 111]
def Xxl:List AI:=[oM 82 12,oV 83 .add 82 1,oM 12 83]
def Wqh:List AI:=[oM 112 7,oM 113 2,oJ 114 113,oT 115 .eql 112 114,oM 6 115]
abbrev Zgp:AC:=(.seq (sR 9 Wt9 (.cond (.t 51) .skip (.exit 2))) (.seq (.block 3 (.seq (sR 11 Xp1 (.cond (.t 69) (sR 12 Xkx .ret) .skip)) (.reg 13 Wnp))) (.reg 10 Wcu)))
abbrev Ya6:AC:=(sR 8 Xij (.block 2 (.loop Zgp)))
abbrev Ik:AC:=(.reg 4 Xgi)
abbrev Rj:AC:=(.seq (sR 3 Yu4 (.cond (.t 19) .skip (.exit 0))) (.seq (.block 1 (sR 5 Ys5 (.seq (sR 6 Wox (.cond (.t 47) (sR 7 Xbs .ret) .skip)) Ya6))) Ik))
abbrev Ymz:AC:=(.block 0 (.loop Rj))
abbrev Zd5:AC:=(.seq (sR 16 Xpv (.cond (.t 81) .skip (.exit 4))) (.seq (.block 5 (sR 18 Wh9 (.seq (sR 19 Xlp (.cond (.t 109) (sR 20 Wel .ret) .skip)) (.reg 21 Woe)))) (.reg 17 Xxl)))
abbrev Zh2:AC:=(sR 22 Wqh .ret)
abbrev Nm:AC:=(sR 14 Xbm (.seq (sR 15 Wgw (.block 4 (.loop Zd5))) Zh2))
abbrev Yb5:AC:=(.seq (sR 2 Xcd Ymz) Nm)
abbrev Zr3:AC:=(sR 1 Xbh Yb5)
abbrev Wme:AC:=(sR 0 Ypy Zr3)
def Lz:AF:={ nt:=116,res:=[.tmp 6],body:=Wme }
abbrev Ygw (PG:Za)(d:Nat)(Q:AE->Sl->St->Prop)(l2:LB)(at7:Int)(i8:Int)(m0:Ze)(m1:Zi):Prop:=
  ∀(σ:Sl)(st:St)(o_l2:Zn) (v0 v1:Nat),σ 2=.sl o_l2 (List.map Zv l2)->σ 3=.p (d,0) v0 0->σ 4=.p (d,1) v1 0->σ 7=.i .i64 at7->σ 8=.i .i64 i8->lk st.bx (d,0)=some (v0,Ze.cs m0)->lk st.bx (d,1)=some (v1,Zi.cs m1)->W PG d (.loop Rj) σ st (Zw 0 (Zl PG d Nm Q))
abbrev Ycd (PG:Za)(d:Nat)(Q:AE->Sl->St->Prop)(l2:LB)(i8:Int)(f9:LB)(at7:Int)(k11:Int)(m0:Ze)(m1:Zi):Prop:=
  ∀(σ:Sl)(st:St) (o_l2 o_f9:Zn) (v0 v1:Nat),σ 2=.sl o_l2 (List.map Zv l2)->σ 3=.p (d,0) v0 0->σ 4=.p (d,1) v1 0->σ 7=.i .i64 at7->σ 8=.i .i64 i8->σ 9=.sl o_f9 (List.map Zv f9)->σ 11=.i .i64 k11->lk st.bx (d,0)=some (v0,Ze.cs m0)->lk st.bx (d,1)=some (v1,Zi.cs m1)->W PG d (.loop Zgp) σ st (Zw 2 (Zw 1 (Zl PG d Ik (Zl PG d (.loop Rj) (Zw 0 (Zl PG d Nm Q))))))
def Zq8 (PG:Za)(K:Bool->Prop)(P0:Int->Int->Ze->Zi->Prop)(l2:LB)(at7:Int)(i8:Int)(m0:Ze)(m1:Zi):Prop:=
  P0 at7 (IntKind.i64.wrap (i8+1)) m0 m1
def Zim (PG:Za)(K:Bool->Prop)(P1:Int->Int->Ze->Zi->Prop)(P0:Int->Int->Ze->Zi->Prop)(l2:LB)(at7:Int)(i8:Int)(f9:LB)(k11:Int)(m0:Ze)(m1:Zi):Prop:=
  (k11<(f9.length:Int)->(at7>=(l2.length:Int)->K false)/\(¬(at7>=(l2.length:Int))->0<=at7/\∃e,l2[(at7).toNat]?=some e/\0<=k11/\∃c:BS,f9[(k11).toNat]?=some c/\([32,32]:BS).length+c.length<=We/\(e≠(([32,32]:BS)++c)->K false)/\(¬(e≠(([32,32]:BS)++c))->P1 (IntKind.i64.wrap (at7+1)) (IntKind.i64.wrap (k11+1)) m0 m1)))/\(¬(k11<(f9.length:Int))->Zq8 PG K P0 l2 at7 i8 m0 m1)
def Zt1 (PG:Za)(K:Bool->Prop)(P0:Int->Int->Ze->Zi->Prop)(l2:LB)(at7:Int)(i8:Int)(f9:LB)(m0:Ze)(m1:Zi):Prop:=
  ∀P1:Int->Int->Ze->Zi->Prop,(∀(at7:Int)(k11:Int)(m0:Ze)(m1:Zi),Zim PG K P1 P0 l2 at7 i8 f9 k11 m0 m1->P1 at7 k11 m0 m1)->P1 at7 0 m0 m1
abbrev Zyo (PG:Za)(d:Nat)(Q:AE->Sl->St->Prop)(l2:LB)(at7:Int)(i12:Int)(m1:Zi):Prop:=
  ∀(σ:Sl)(st:St)(o_l2:Zn)(v1:Nat),σ 2=.sl o_l2 (List.map Zv l2)->σ 4=.p (d,1) v1 0->σ 7=.i .i64 at7->σ 12=.i .i64 i12->lk st.bx (d,1)=some (v1,Zi.cs m1)->W PG d (.loop Zd5) σ st (Zw 4 (Zl PG d Zh2 Q))
def Zny (PG:Za)(K:Bool->Prop)(l2:LB)(at7:Int):Prop:=
  K (decide (at7=(l2.length:Int)))
def Zj0 (PG:Za)(K:Bool->Prop)(P2:Int->Int->Zi->Prop)(l2:LB)(at7:Int)(i12:Int)(m1:Zi):Prop:=
  (i12<(m1.panics.length:Int)->0<=i12/\∃k:Zh,m1.panics[(i12).toNat]?=some k/\∃c:BS,∃j,Zf PG 154 [k.av] (.tup [.s c,.i .i64 j])/\(j≠0->K false)/\(¬(j≠0)->(at7>=(l2.length:Int)->K false)/\(¬(at7>=(l2.length:Int))->0<=at7/\∃e,l2[(at7).toNat]?=some e/\([32,32]:BS).length+c.length<=We/\(e≠(([32,32]:BS)++c)->K false)/\(¬(e≠(([32,32]:BS)++c))->P2 (IntKind.i64.wrap (at7+1)) (IntKind.i64.wrap (i12+1)) m1))))/\(¬(i12<(m1.panics.length:Int))->Zny PG K l2 at7)
def Zm1 (PG:Za)(K:Bool->Prop)(l2:LB)(at7:Int)(m1:Zi):Prop:=
  ∀P2:Int->Int->Zi->Prop,(∀(at7:Int)(i12:Int)(m1:Zi),Zj0 PG K P2 l2 at7 i12 m1->P2 at7 i12 m1)->P2 (IntKind.i64.wrap (at7+(m1.defers.length:Int))) 0 m1
def Zfy (PG:Za)(K:Bool->Prop)(P0:Int->Int->Ze->Zi->Prop)(l2:LB)(at7:Int)(i8:Int)(m0:Ze)(m1:Zi):Prop:=
  (i8<(m1.frames.length:Int)->0<=i8/\∃k:Zg,m1.frames[(i8).toNat]?=some k/\∃c:LB,∃j,Zf PG 82 [m0.av,.i .i64 i8,k.av] (.tup [.sl .ext (List.map Zv c),.i .i64 j])/\(j≠0->K false)/\(¬(j≠0)->0<=i8/\∃e:Zg,m1.frames[(i8).toNat]?=some e/\((c.length:Int)≠(IntKind.i64.wrap ((e.locals.length:Int)+1))->K false)/\(¬((c.length:Int)≠(IntKind.i64.wrap ((e.locals.length:Int)+1)))->Zt1 PG K P0 l2 at7 i8 c m0 m1)))/\(¬(i8<(m1.frames.length:Int))->Zm1 PG K l2 at7 m1)
def Zui (PG:Za)(K:Bool->Prop)(l2:LB)(at7:Int)(i8:Int)(m0:Ze)(m1:Zi):Prop:=
  ∀P0:Int->Int->Ze->Zi->Prop,(∀(at7:Int)(i8:Int)(m0:Ze)(m1:Zi),Zfy PG K P0 l2 at7 i8 m0 m1->P0 at7 i8 m0 m1)->P0 at7 i8 m0 m1
def Ztd (PG:Za)(K:Bool->Prop)(l2:LB)(at7:Int)(m0:Ze)(m1:Zi):Prop:=
  Zui PG K l2 at7 0 m0 m1
def Zok (PG:Za)(K:Bool->Prop)(l2:LB)(m0:Ze)(m1:Zi):Prop:=
  Ztd PG K l2 1 m0 m1
def Zmy (PG:Za)(K:Bool->Prop)(m0:Ze)(x1:Zi)(l2:LB):Prop:=
  Zok PG K l2 m0 x1
section
variable {PG:Za}{d:Nat}{Q:AE->Sl->St->Prop}{K:Bool->Prop}(hQ:H1 AV.b 6 Q K){σ:Sl}{st:St}
include hQ
variable {l2:LB}{at7 i8:Int}{m0:Ze}{m1:Zi}{P0:Int->Int->Ze->Zi->Prop}{o_l2:Zn}{v0 v1:Nat}{f9:LB}{k11:Int}{P1:Int->Int->Ze->Zi->Prop}{o_f9:Zn}{i12:Int}{P2:Int->Int->Zi->Prop}{x1:Zi}
variable (kP1 :∀(at7:Int)(k11:Int)(m0:Ze)(m1:Zi),P1 at7 k11 m0 m1->Ycd PG d Q l2 i8 f9 at7 k11 m0 m1) (kP2 :∀(at7:Int)(i12:Int)(m1:Zi),P2 at7 i12 m1->Zyo PG d Q l2 at7 i12 m1)(H0:σ 0=m0.av) (kP0 :∀(at7:Int)(i8:Int)(m0:Ze)(m1:Zi),P0 at7 i8 m0 m1->Ygw PG d Q l2 at7 i8 m0 m1)(H1:σ 1=x1.av)(H2:σ 2=.sl o_l2 (List.map Zv l2))(H3:σ 3=.p (d,0) v0 0)(H4:σ 4=.p (d,1) v1 0)(H7:σ 7=.i .i64 at7)(H8:σ 8=.i .i64 i8)(H12:σ 12=.i .i64 i12)(H9:σ 9=.sl o_f9 (List.map Zv f9))(H11:σ 11=.i .i64 k11)(B0:lk st.bx (d,0)=some (v0,Ze.cs m0))(B1:lk st.bx (d,1)=some (v1,Zi.cs m1))
include kP0 H2 H3 H4 H7 H8 B0 B1 in
theorem Wmu (h:Zq8 PG K P0 l2 at7 i8 m0 m1):W PG d Ik σ st (Zl PG d (.loop Rj) (Zw 0 (Zl PG d Nm Q))):=
 W.reg0 J fun _ _=>m_ (b_ H8 J Vd (m_ (e_ (kP0 _ _ _ _ h _ _ _ _ _ H2 H3 H4 H7 J B0 B1))))
include kP1 kP0 H2 H3 H4 H7 H8 H9 H11 B0 B1 in
theorem Wos (h:Zim PG K P1 P0 l2 at7 i8 f9 k11 m0 m1):W PG d Zgp σ st (Zl PG d (.loop Zgp) (Zw 2 (Zw 1 (Zl PG d Ik (Zl PG d (.loop Rj) (Zw 0 (Zl PG d Nm Q))))))):=
 Zk (q_ J (m_ (Yf H9 (Yo J (b_ H11 J Wn (e_ (Yj J (fun c=>Yc (Zk (Yh (Zk (q_ J (Xa H7 (Yf H2 (Yo J (b_ J J Ul (Yq J (Ym (g:=58) J (fun i=>z_ 11 J (e_ (Yl J (q_ J (m_ (Zo (hQ J ((h.1 c).1 i)))))))) (fun i=>Zc J (Yf H2 (Zc J (Xa H7 (Zc J (((h.1 c).2 i).2.elim fun _ j=>Wq J J ((h.1 c).2 i).1 j.1 J J (Zc J (Xk J J J (Zc J (Yf H9 (Zc J (Xa H11 (Zc J (j.2.2.elim fun _ e=>Wq J J j.2.1 e.1 J J (Zc J (Xk J J J (Zc J (b_ J J (Jc e.2.1) (Zc J (b_ J J By (Vf J J (e_ (Yj J (fun k=>q_ J (m_ (Zo (hQ J (e.2.2.1 k))))) (fun k=>Yc (W.reg0 J fun _ _=>m_ (b_ H7 J Vd (m_ (e_ (W.reg0 J fun _ _=>m_ (b_ H11 J Vd (m_ (e_ (kP1 _ _ _ _ (e.2.2.2 k) _ _ _ _ _ _ H2 H3 H4 J H8 H9 J B0 B1)))))))))))))))))))))))))))))))))))))))))))) (fun c=>Vm (Wmu hQ kP0 H2 H3 H4 H7 H8 B0 B1 (h.2 c))))))))))
include kP0 H2 H3 H4 H7 H8 H9 B0 B1 in
theorem Wp6 (h:Zt1 PG K P0 l2 at7 i8 f9 m0 m1):W PG d Ya6 σ st (Zw 1 (Zl PG d Ik (Zl PG d (.loop Rj) (Zw 0 (Zl PG d Nm Q))))):=
 q_ J (m_ (e_ (Yh (h (Ycd PG d Q l2 i8 f9) (fun _ _ _ _ hb _ _ _ _ _ _ H2 H3 H4 H7 H8 H9 H11 B0 B1=>W.loop (Wos hQ (fun _ _ _ _ x=>x) kP0 H2 H3 H4 H7 H8 H9 H11 B0 B1 hb)) _ _ _ _ _ _ H2 H3 H4 H7 H8 H9 J B0 B1))))
include H2 H7 in
theorem Woy (h:Zny PG K l2 at7):W PG d Zh2 σ st Q:=
 q_ J (m_ (Yf H2 (Yo J (b_ H7 J Xo (m_ (Zo (hQ J h)))))))
include kP2 H2 H4 H7 H12 B1 in
theorem Wdc (h:Zj0 PG K P2 l2 at7 i12 m1):W PG d Zd5 σ st (Zl PG d (.loop Zd5) (Zw 4 (Zl PG d Zh2 Q))):=
 Zk (q_ J (m_ (f_ H4 (l_ J B1 J J (Yo J (b_ H12 J Wn (e_ (Yj J (fun j=>Yc (Zk (Yh (q_ J (f_ H4 (l_ J B1 J J (m_ ((h.1 j).2.elim fun q p=>Wq J H12 (h.1 j).1 p.1 (Zh.row_eq q) J (Xk J J J (x2 p.2 fun _ _ c=>Yi (Wr J J) c.1 (m_ (x_ J J (x_ J J (m_ (m_ (e_ (Zk (q_ J (Xa J (b_ J J Ws (Yq J (Ym (g:=95) J (fun e=>z_ 14 J (e_ (Yl J (q_ J (m_ (Zo (hQ J (c.2.1 e)))))))) (fun e=>Zc J (Xa H7 (Zc J (Yf H2 (Zc J (Yo J (Zc J (b_ J J Ul (z_ 2 J (Ym (g:=101) J (fun k=>z_ 8 J (e_ (Yl J (q_ J (m_ (Zo (hQ J ((c.2.2 e).1 k)))))))) (fun k=>Zc J (Yf H2 (Zc J (Xa H7 (Zc J (((c.2.2 e).2 k).2.elim fun _ i=>Wq J J ((c.2.2 e).2 k).1 i.1 J J (Zc J (Xk J J J (Zc J (He J (Zc J (b_ J J (Jc i.2.1) (Zc J (b_ J J By (Vf J J (e_ (Yj J (fun o=>q_ J (m_ (Zo (hQ J (i.2.2.1 o))))) (fun o=>Yc (W.reg0 J fun _ _=>m_ (b_ H7 J Vd (m_ (e_ (W.reg0 J fun _ _=>m_ (b_ H12 J Vd (m_ (e_ (kP2 _ _ _ (i.2.2.2 o) _ _ _ _ H2 H4 J J B1))))))))))))))))))))))))))))))))))))))))))))))))))))))))))) (fun j=>Vm (Woy hQ H2 H7 (h.2 j)))))))))))
include H2 H4 H7 B1 in
theorem Wkb (h:Zm1 PG K l2 at7 m1):W PG d Nm σ st Q:=
 q_ J (m_ (f_ H4 (l_ J B1 J J (Yo J (b_ H7 J Vd (m_ (e_ (Zk (q_ J (m_ (e_ (Yh (h (Zyo PG d Q l2) (fun _ _ _ hb _ _ _ _ H2 H4 H7 H12 B1=>W.loop (Wdc hQ (fun _ _ _ x=>x) H2 H4 H7 H12 B1 hb)) _ _ _ _ H2 H4 J J B1)))))))))))))
include kP0 H2 H3 H4 H7 H8 B0 B1 in
theorem Xck (h:Zfy PG K P0 l2 at7 i8 m0 m1):W PG d Rj σ st (Zl PG d (.loop Rj) (Zw 0 (Zl PG d Nm Q))):=
 Zk (q_ J (m_ (f_ H4 (l_ J B1 J J (Yo J (b_ H8 J Wn (e_ (Yj J (fun e=>Yc (Zk (Yh (q_ J (l_ H3 B0 J J (m_ (f_ H4 (l_ J B1 J J (m_ ((h.1 e).2.elim fun p o=>Wq J H8 (h.1 e).1 o.1 (Zg.row_eq p) J (Xk J J J (x2 o.2 fun _ _ c=>Yi (Ce J H8 J J) c.1 (m_ (x_ J J (x_ J J (Yf J (m_ (e_ (Zk (q_ J (Xa J (b_ J J Ws (Yq J (Ym (g:=35) J (fun i=>z_ 12 J (e_ (Yl J (q_ J (m_ (Zo (hQ J (c.2.1 i)))))))) (fun i=>Zc J (Yf J (Zc J (Yo J (Zc J (f_ H4 (Zc J (l_ J B1 J J (Zc J (Xa H8 (Zc J ((c.2.2 i).2.elim fun q j=>Wq J J (c.2.2 i).1 j.1 (Zg.row_eq q) J (Zc J (Ke J (Zc J (Xk J J J (Zc J (Yo J (Zc J (b_ J J Vd (Zc J (b_ J J Ws (Vf J J (e_ (Yj J (fun k=>q_ J (m_ (Zo (hQ J (j.2.1 k))))) (fun k=>Yc (Wp6 hQ kP0 H2 H3 H4 H7 H8 J B0 B1 (j.2.2 k)))))))))))))))))))))))))))))))))))))))))))))))))))) (fun e=>Vm (Wkb hQ H2 H4 H7 B1 (h.2 e)))))))))))
include H2 H3 H4 H7 H8 B0 B1 in
theorem Xxz (h:Zui PG K l2 at7 i8 m0 m1):W PG d Ymz σ st (Zl PG d Nm Q):=
 Yh (h (Ygw PG d Q l2) (fun _ _ _ _ hb _ _ _ _ _ H2 H3 H4 H7 H8 B0 B1=>W.loop (Xck hQ (fun _ _ _ _ x=>x) H2 H3 H4 H7 H8 B0 B1 hb)) _ _ _ _ _ H2 H3 H4 H7 H8 B0 B1)
include H2 H3 H4 H7 B0 B1 in
theorem Wn6 (h:Ztd PG K l2 at7 m0 m1):W PG d Yb5 σ st Q:=
 Zk (q_ J (m_ (e_ (Xxz hQ H2 H3 H4 H7 J B0 B1 h))))
include H2 H3 H4 B0 B1 in
theorem Wfd (h:Zok PG K l2 m0 m1):W PG d Zr3 σ st Q:=
 q_ J (m_ (e_ (Wn6 hQ H2 H3 H4 J B0 B1 h)))
include H0 H1 H2 in
theorem Wj2 (h:Zmy PG K m0 x1 l2):W PG d (sR 0 Ypy Zr3) σ st Q:=
 q_ J (Vx H0 J (Vx H1 J (m_ (e_ (Wfd hQ H2 J J (Zs J Zj) Zj h)))))
end
theorem Xv3 {PG:Za}(hf:PG.fn 291=some Lz){m0:Ze}{x1:Zi}{l2:LB}{K:Bool->Prop}(h:Zmy PG K m0 x1 l2) :∃res0:Bool,K res0/\Zf PG 291 [m0.av,x1.av,.sl .ext (List.map Zv l2)] (.b res0):=
 P1 hf J (Wj2 (h1 J fun _=>J) J J J h)
end Go.AM

/- Yg of the proof. -/
namespace Go.AM
open Go
set_option linter.unusedVariables false
set_option linter.unusedSimpArgs false
set_option maxRecDepth 4000
set_option maxHeartbeats 1000000
attribute [local irreducible] WO Ww Wx
abbrev Wns (Q:AE->Sl->St->Prop)(K:Bool->Prop):Prop:=∀(σ:Sl)(st:St)(res0:Bool),σ 6=.b res0->K res0->Q .ret σ st
section
variable {PG:Za}{d:Nat}{Q:AE->Sl->St->Prop}{K:Bool->Prop}(hQ:Wns Q K){σ:Sl}{st:St}
include hQ
end
def Ygt:List AI:=[oY 2 3 0,oY 3 4 1,oC 4 (.b false)]
def Xpu:List AI:=[oQ 15 290 [],oM 5 15]
def Xg4:List AI:=[oK 16 3 2,oQ 17 79 [16],oM 18 17,gF 18 (oK 19 4 3),gF 18 (oQ 20 203 [19]),oR 21 18 20,oM 22 21,gF 22 (oK 23 3 2),gF 22 (oK 24 4 3),gF 22 (oQ 25 214 [23,24]),gF 22 (oV 26 .neq 25 0),oR 27 22 26,oM 28 27,gF 28 (oM 29 5),gF 28 (oZ 30 29),oR 31 28 30]
def Wat:List AI:=[oM 32 5,oM 4 32]
def Xsb:List AI:=[oK 34 3 2,oK 35 4 3,oQ 36 205 [34,35],oM 33 36,oE 37 0 33,oE 38 1 33,oM 6 37,oM 7 38]
def Xiw:List AI:=[oM 40 6,oQ 41 177 [40],oM 39 41,oE 42 0 39,oE 43 1 39,oM 8 42,oM 9 43]
def Xrh:List AI:=[oM 44 7,oV 45 .eql 44 4]
def Wjc:List AI:=[oM 46 5,oM 4 46]
def Wtm:List AI:=[oM 47 7,oV 48 .neq 47 0,oM 49 48,gF 49 (oM 50 9),gF 49 (oZ 51 50),oR 52 49 51,oM 53 52,gF 53 (oM 54 8),gF 53 (oJ 55 54),gF 53 (oV 56 .lss 55 1),oR 57 53 56]
def Xsk:List AI:=[oC 4 (.b false)]
def Wak:List AI:=[oI 10 1]
def Xuz:List AI:=[oI 11 0]
def Yur:List AI:=[oM 58 11,oF 59 3 3,oL 60 59,oJ 61 60,oT 62 .lss 58 61]
def Xrz:List AI:=[oF 65 3 3,oL 66 65,oM 67 11,oX 68 5 66 67,oK 69 5 68,oO 12 (.alloc [z8,z6,zl,zl,zl]),oS 5 12 69]
def Xc3:List AI:=[oK 71 3 2,oM 72 11,oK 73 5 12,oQ 74 207 [71,72,73],oM 70 74,oE 75 0 70,oE 76 1 70,oM 13 75,oM 14 76]
def Yx6:List AI:=[oM 77 14,oV 78 .neq 77 0,oM 79 78,gF 79 (oM 80 10),gF 79 (oM 81 13),gF 79 (oJ 82 81),gF 79 (oT 83 .add 80 82),gF 79 (oM 84 8),gF 79 (oJ 85 84),gF 79 (oT 86 .gtr 83 85),oR 87 79 86,oM 88 87,gF 88 (oM 89 13),gF 88 (oM 90 8),gF 88 (oM 91 10),gF 88 (oM 92 10),gF 88 (oM 93 13),gF 88 (oJ 94 93),gF 88 (oT 95 .add 92 94),gF 88 (oO 96 (.slL 1 (.t 90) (some (.t 91)) (some (.t 95)))),gF 88 (oQ 97 29 [89,96]),gF 88 (oZ 98 97),oR 99 88 98,oM 100 99,gF 100 (oK 101 3 2),gF 100 (oK 102 5 12),gF 100 (oM 103 13),gF 100 (oQ 104 291 [101,102,103]),gF 100 (oZ 105 104),oR 106 100 105]
def Xzf:List AI:=[oC 4 (.b false)]
def Xou:List AI:=[oM 107 10,oM 108 13,oJ 109 108,oT 110 .add 107 109,oM 10 110]
def Zwp:List AI:=[oM 63 11,oV 64 .add 63 1,oM 11 64]
def Wjg:List AI:=[oM 111 5,oM 112 111,gT 112 (oM 113 10),gT 112 (oM 114 8),gT 112 (oJ 115 114),gT 112 (oT 116 .eql 113 115),oA 117 112 116,oM 4 117]
abbrev Zy8:AC:=(.reg 18 Xou)
abbrev Zbd:AC:=(.seq (sR 12 Yur (.cond (.t 62) .skip (.exit 0))) (.seq (.block 1 (sR 14 Xrz (sR 15 Xc3 (.seq (sR 16 Yx6 (.cond (.t 106) (sR 17 Xzf .ret) .skip)) Zy8)))) (.reg 13 Zwp)))
abbrev Ij:AC:=(sR 19 Wjg .ret)
abbrev Yj9:AC:=(.seq (sR 11 Xuz (.block 0 (.loop Zbd))) Ij)
abbrev Yon:AC:=(sR 10 Wak Yj9)
abbrev Yq0:AC:=(.seq (sR 8 Wtm (.cond (.t 57) (sR 9 Xsk .ret) .skip)) Yon)
abbrev Ybf:AC:=(.seq (sR 6 Xrh (.cond (.t 45) (sR 7 Wjc .ret) .skip)) Yq0)
abbrev Yjq:AC:=(sR 5 Xiw Ybf)
abbrev Yqt:AC:=(sR 4 Xsb Yjq)
abbrev Yd0:AC:=(.seq (sR 2 Xg4 (.cond (.t 31) (sR 3 Wat .ret) .skip)) Yqt)
abbrev Zjz:AC:=(sR 1 Xpu Yd0)
abbrev Yvc:AC:=(sR 0 Ygt Zjz)
def Zft:AF:={ nt:=118,res:=[.tmp 4],body:=Yvc }
abbrev Ycq (PG:Za)(d:Nat)(Q:AE->Sl->St->Prop)(ok5:Bool)(l8:LB)(at10:Int)(g11:Int)(m0:Ze)(m1:Zt):Prop:=
  ∀(σ:Sl)(st:St)(o_l8:Zn) (v0 v1:Nat),σ 2=.p (d,0) v0 0->σ 3=.p (d,1) v1 0->σ 5=.b ok5->σ 8=.sl o_l8 (List.map Zv l8)->σ 10=.i .i64 at10->σ 11=.i .i64 g11->lk st.bx (d,0)=some (v0,Ze.cs m0)->lk st.bx (d,1)=some (v1,Zt.cs m1)->W PG d (.loop Zbd) σ st (Zw 0 (Zl PG d Ij Q))
def Zr1 (PG:Za)(K:Bool->Prop)(P0:Int->Int->Ze->Zt->Prop)(ok5:Bool)(l8:LB)(at10:Int)(g11:Int)(own13:LB)(m0:Ze)(m1:Zt):Prop:=
  P0 (IntKind.i64.wrap (at10+(own13.length:Int))) (IntKind.i64.wrap (g11+1)) m0 m1
def Zto (PG:Za)(K:Bool->Prop)(ok5:Bool)(l8:LB)(at10:Int):Prop:=
  (ok5=true->K (decide (at10=(l8.length:Int))))/\(ok5=false->K false)
def Zfw (PG:Za)(K:Bool->Prop)(P0:Int->Int->Ze->Zt->Prop)(ok5:Bool)(l8:LB)(at10:Int)(g11:Int)(m0:Ze)(m1:Zt):Prop:=
  (g11<(m1.routines.length:Int)->0<=g11/\∃o:Zi,m1.routines[(g11).toNat]?=some o/\∃c:LB,∃e,Zf PG 207 [m0.av,.i .i64 g11,o.av] (.tup [.sl .ext (List.map Zv c),.i .i64 e])/\(e≠0->K false)/\(¬(e≠0)->((IntKind.i64.wrap (at10+(c.length:Int)))>(l8.length:Int)->K false)/\(¬((IntKind.i64.wrap (at10+(c.length:Int)))>(l8.length:Int))->0<=at10/\at10<=(IntKind.i64.wrap (at10+(c.length:Int)))/\(IntKind.i64.wrap (at10+(c.length:Int))).toNat<=l8.length/\∃j,Zf PG 29 [.sl .ext (List.map Zv c),.sl .ext (List.map Zv ((l8.drop (at10).toNat).take ((IntKind.i64.wrap (at10+(c.length:Int))).toNat-(at10).toNat)))] (.b j)/\((!j)=true->K false)/\((!j)=false->∃k,Zf PG 291 [m0.av,o.av,.sl .ext (List.map Zv c)] (.b k)/\((!k)=true->K false)/\((!k)=false->Zr1 PG K P0 ok5 l8 at10 g11 c m0 m1)))))/\(¬(g11<(m1.routines.length:Int))->Zto PG K ok5 l8 at10)
def Zj5 (PG:Za)(K:Bool->Prop)(ok5:Bool)(l8:LB)(at10:Int)(m0:Ze)(m1:Zt):Prop:=
  ∀P0:Int->Int->Ze->Zt->Prop,(∀(at10:Int)(g11:Int)(m0:Ze)(m1:Zt),Zfw PG K P0 ok5 l8 at10 g11 m0 m1->P0 at10 g11 m0 m1)->P0 at10 0 m0 m1
def Zlo (PG:Za)(K:Bool->Prop)(ok5:Bool)(l8:LB)(m0:Ze)(m1:Zt):Prop:=
  Zj5 PG K ok5 l8 1 m0 m1
def Zsx (PG:Za)(K:Bool->Prop)(ok5:Bool)(e7:Int)(l8:LB)(is9:Bool)(m0:Ze)(m1:Zt):Prop:=
  (e7≠0->K false)/\(¬(e7≠0)->((!is9)=true->K false)/\((!is9)=false->((l8.length:Int)<1->K false)/\(¬((l8.length:Int)<1)->Zlo PG K ok5 l8 m0 m1)))
def Zpj (PG:Za)(K:Bool->Prop)(ok5:Bool)(e7:Int)(l8:LB)(is9:Bool)(m0:Ze)(m1:Zt):Prop:=
  (e7=4->K ok5)/\(¬(e7=4)->Zsx PG K ok5 e7 l8 is9 m0 m1)
def Znj (PG:Za)(K:Bool->Prop)(ok5:Bool)(text6:BS)(e7:Int)(m0:Ze)(m1:Zt):Prop:=
  ∃e c,Zf PG 177 [.s text6] (.tup [.sl .ext (List.map Zv e),.b c])/\Zpj PG K ok5 e7 e c m0 m1
def Zkl (PG:Za)(K:Bool->Prop)(ok5:Bool)(m0:Ze)(m1:Zt):Prop:=
  ∃e c,Zf PG 205 [m0.av,m1.av] (.tup [.s e,.i .i64 c])/\Znj PG K ok5 e c m0 m1
def Zoe (PG:Za)(K:Bool->Prop)(ok5:Bool)(m0:Ze)(m1:Zt):Prop:=
  ∃e,Zf PG 79 [m0.av] (.b e)/\(e=true->K ok5)/\(e=false->∃c,Zf PG 203 [m1.av] (.b c)/\(c=true->K ok5)/\(c=false->∃j,Zf PG 214 [m0.av,m1.av] (.i .i64 j)/\(j≠0->K ok5)/\(¬(j≠0)->((!ok5)=true->K ok5)/\((!ok5)=false->Zkl PG K ok5 m0 m1))))
def Zt9 (PG:Za)(K:Bool->Prop)(m0:Ze)(m1:Zt):Prop:=
  ∃c,Zf PG 290 [] (.b c)/\Zoe PG K c m0 m1
def Zjd (PG:Za)(K:Bool->Prop)(m0:Ze)(s1:Zt):Prop:=
  Zt9 PG K m0 s1
section
variable {PG:Za}{d:Nat}{Q:AE->Sl->St->Prop}{K:Bool->Prop}(hQ:H1 AV.b 4 Q K){σ:Sl}{st:St}
include hQ
variable {ok5:Bool}{l8:LB}{at10 g11:Int}{own13:LB}{m0:Ze}{m1:Zt}{P0:Int->Int->Ze->Zt->Prop}{o_l8 o_own13:Zn}{v0 v1:Nat}{e7:Int}{is9:Bool}{text6:BS}{s1:Zt}
variable (kP0 :∀(at10:Int)(g11:Int)(m0:Ze)(m1:Zt),P0 at10 g11 m0 m1->Ycq PG d Q ok5 l8 at10 g11 m0 m1)(H0:σ 0=m0.av)(H2:σ 2=.p (d,0) v0 0)(H1:σ 1=s1.av)(H3:σ 3=.p (d,1) v1 0)(H5:σ 5=.b ok5)(H6:σ 6=.s text6)(H7:σ 7=.i .i64 e7)(H8:σ 8=.sl o_l8 (List.map Zv l8))(H10:σ 10=.i .i64 at10)(H9:σ 9=.b is9)(H11:σ 11=.i .i64 g11)(H13:σ 13=.sl o_own13 (List.map Zv own13))(B0:lk st.bx (d,0)=some (v0,Ze.cs m0))(B1:lk st.bx (d,1)=some (v1,Zt.cs m1))
include kP0 H2 H3 H5 H8 H10 H11 H13 B0 B1 in
theorem Ytk (h:Zr1 PG K P0 ok5 l8 at10 g11 own13 m0 m1):W PG d Zy8 σ st (Zw 1 (Zl PG d (.reg 13 Zwp) (Zl PG d (.loop Zbd) (Zw 0 (Zl PG d Ij Q))))):=
 W.reg0 J fun _ _=>m_ (Yf H13 (Yo J (b_ H10 J Vd (m_ (e_ (W.reg0 J fun _ _=>m_ (b_ H11 J Vd (m_ (e_ (kP0 _ _ _ _ h _ _ _ _ _ H2 H3 H5 H8 J J B0 B1))))))))))
include H5 H8 H10 in
theorem Xwa (h:Zto PG K ok5 l8 at10):W PG d Ij σ st Q:=
 q_ J (Yq H5 (Yq J (Kt (g:=112) J (fun c=>Zc J (Xa H10 (Zc J (Yf H8 (Zc J (Yo J (Zc J (b_ J J Xo (z_ 2 J (Zo (hQ J (h.1 c)))))))))))) (fun c=>z_ 6 J (Zo (hQ J (h.2 c)))))))
include kP0 H2 H3 H5 H8 H10 H11 B0 B1 in
theorem Xe7 (h:Zfw PG K P0 ok5 l8 at10 g11 m0 m1):W PG d Zbd σ st (Zl PG d (.loop Zbd) (Zw 0 (Zl PG d Ij Q))):=
 Zk (q_ J (m_ (f_ H3 (l_ J B1 J J (Yo J (b_ H11 J Wn (e_ (Yj J (fun k=>Yc (Zk (Yh (Zk (W.reg (f_ H3 (l_ J (Zs J B1) J J (m_ ((h.1 k).2.elim fun u s=>Wq J H11 (h.1 k).1 s.1 (Zi.row_eq u) J (Xk J J J (Xy (Ye J (show lk _ (d,57349)=some (_,([.i .u8 0,.i .i64 0,.sl .full (List.map Zg.row ([]:List Zg)),.sl .full (List.map Zr.row ([]:List Zr)),.sl .full (List.map Zh.row ([]:List Zh))]:List AV)) from Zj) J J J (e_ (q_ J (l_ H2 (Zs J (Zs J B0)) J J (m_ (l_ J Zj J J (x2 s.2 fun _ _ c=>Yi (Ce J H11 J J) c.1 (m_ (x_ J J (x_ J J (Yf J (m_ (e_ (Zk (q_ J (Xa J (b_ J J Ws (Yq J (Ym (g:=79) J (fun e=>z_ 27 J (e_ (Yl J (q_ J (m_ (Zo (hQ J (c.2.1 e)))))))) (fun e=>Zc J (Xa H10 (Zc J (Yf J (Zc J (Yo J (Zc J (b_ J J Vd (Zc J (Yf H8 (Zc J (Yo J (Zc J (b_ J J Vt (z_ 2 J (Ym (g:=88) J (fun j=>z_ 18 J (e_ (Yl J (q_ J (m_ (Zo (hQ J ((c.2.2 e).1 j)))))))) (fun j=>Zc J (Yf J (Zc J (Yf H8 (Zc J (Xa H10 (Zc J (Xa H10 (Zc J (Yf J (Zc J (Yo J (Zc J (b_ J J Vd (Zc J (Wj3 Nh J J J ((c.2.2 e).2 j).1 ((c.2.2 e).2 j).2.1 ((c.2.2 e).2 j).2.2.1 (Zc J (((c.2.2 e).2 j).2.2.2.elim fun _ o=>Yi (Je J J J) o.1 (Zc J (Xx J (z_ 2 J (Kt (g:=100) J (fun q=>z_ 6 J (e_ (Yl J (q_ J (m_ (Zo (hQ J (o.2.1 q)))))))) (fun q=>Zc J (l_ H2 (Zs J (Zs J B0)) J J (Zc J (l_ J Zj J J (Zc J (Yf J (Zc J ((o.2.2 q).elim fun _ p=>Yi (Ce J J J J) p.1 (Zc J (Xx J (Vf J J (e_ (Xs J (fun r=>q_ J (m_ (Zo (hQ J (p.2.1 r))))) (fun r=>Yc (Ytk hQ kP0 H2 H3 H5 H8 H10 H11 J (Zs J (Zs J B0)) (Zs J (Zs J B1)) (p.2.2 r)))))))))))))))))))))))))))))))))))))))))))))))))))))))))))))))))))))))))))))))))))) (fun k=>Vm (Xwa hQ H5 H8 H10 (h.2 k)))))))))))
include H2 H3 H5 H8 H10 B0 B1 in
theorem Xqr (h:Zj5 PG K ok5 l8 at10 m0 m1):W PG d Yj9 σ st Q:=
 Zk (q_ J (m_ (e_ (Yh (h (Ycq PG d Q ok5 l8) (fun _ _ _ _ hb _ _ _ _ _ H2 H3 H5 H8 H10 H11 B0 B1=>W.loop (Xe7 hQ (fun _ _ _ _ x=>x) H2 H3 H5 H8 H10 H11 B0 B1 hb)) _ _ _ _ _ H2 H3 H5 H8 H10 J B0 B1)))))
include H2 H3 H5 H8 B0 B1 in
theorem Xxw (h:Zlo PG K ok5 l8 m0 m1):W PG d Yon σ st Q:=
 q_ J (m_ (e_ (Xqr hQ H2 H3 H5 H8 J B0 B1 h)))
include H2 H3 H5 H7 H8 H9 B0 B1 in
theorem Xn7 (h:Zsx PG K ok5 e7 l8 is9 m0 m1):W PG d Yq0 σ st Q:=
 Zk (q_ J (Xa H7 (b_ J J Ws (Yq J (Ym (g:=49) J (fun c=>z_ 8 J (e_ (Yl J (q_ J (m_ (Zo (hQ J (h.1 c)))))))) (fun c=>Zc J (Yq H9 (Zc J (Xx J (z_ 2 J (Kt (g:=53) J (fun e=>z_ 4 J (e_ (Yl J (q_ J (m_ (Zo (hQ J ((h.2 c).1 e)))))))) (fun e=>Zc J (Yf H8 (Zc J (Yo J (Zc J (b_ J J Wn (Vf J J (e_ (Yj J (fun i=>q_ J (m_ (Zo (hQ J (((h.2 c).2 e).1 i))))) (fun i=>Yc (Xxw hQ H2 H3 H5 H8 B0 B1 (((h.2 c).2 e).2 i)))))))))))))))))))))))
include H2 H3 H5 H7 H8 H9 B0 B1 in
theorem Xli (h:Zpj PG K ok5 e7 l8 is9 m0 m1):W PG d Ybf σ st Q:=
 Zk (q_ J (m_ (b_ H7 J Xo (e_ (Yj J (fun c=>q_ J (m_ (m_ (Zo (hQ H5 (h.1 c)))))) (fun c=>Yc (Xn7 hQ H2 H3 H5 H7 H8 H9 B0 B1 (h.2 c))))))))
include H2 H3 H5 H6 H7 B0 B1 in
theorem Xj7 (h:Znj PG K ok5 text6 e7 m0 m1):W PG d Yjq σ st Q:=
 q_ J (m_ (x2 h fun _ _ c=>Yi (Wr H6 J) c.1 (m_ (x_ J J (x_ J J (Yf J (m_ (e_ (Xli hQ H2 H3 H5 H7 J J B0 B1 c.2)))))))))
include H2 H3 H5 B0 B1 in
theorem Wfn (h:Zkl PG K ok5 m0 m1):W PG d Yqt σ st Q:=
 q_ J (l_ H2 B0 J J (l_ H3 B1 J J (x2 h fun _ _ c=>Yi (Je J J J) c.1 (m_ (x_ J J (x_ J J (m_ (m_ (e_ (Xj7 hQ H2 H3 H5 J J B0 B1 c.2))))))))))
include H2 H3 H5 B0 B1 in
theorem Wi1 (h:Zoe PG K ok5 m0 m1):W PG d Yd0 σ st Q:=
 Zk (q_ J (l_ H2 B0 J J (h.elim fun _ i=>Yi (Wr J J) i.1 (Yq J (Kt (g:=18) J (fun o=>z_ 13 J (e_ (Yl J (q_ J (m_ (m_ (Zo (hQ H5 (i.2.1 o))))))))) (fun o=>Zc J (l_ H3 B1 J J (Zc J ((i.2.2 o).elim fun _ j=>Yi (Wr J J) j.1 (z_ 2 J (Kt (g:=22) J (fun p=>z_ 9 J (e_ (Yl J (q_ J (m_ (m_ (Zo (hQ H5 (j.2.1 p))))))))) (fun p=>Zc J (l_ H2 B0 J J (Zc J (l_ H3 B1 J J (Zc J ((j.2.2 p).elim fun _ c=>Yi (Je J J J) c.1 (Zc J (b_ J J Ws (z_ 2 J (Ym (g:=28) J (fun e=>z_ 3 J (e_ (Yl J (q_ J (m_ (m_ (Zo (hQ H5 (c.2.1 e))))))))) (fun e=>Zc J (Yq H5 (Zc J (Xx J (Vf J J (e_ (Xs J (fun k=>q_ J (m_ (m_ (Zo (hQ H5 ((c.2.2 e).1 k)))))) (fun k=>Yc (Wfn hQ H2 H3 H5 B0 B1 ((c.2.2 e).2 k)))))))))))))))))))))))))))))))
include H2 H3 B0 B1 in
theorem Xfb (h:Zt9 PG K m0 m1):W PG d Zjz σ st Q:=
 q_ J (h.elim fun _ c=>Yi sn c.1 (m_ (e_ (Wi1 hQ H2 H3 J B0 B1 c.2))))
include H0 H1 in
theorem Xxc (h:Zjd PG K m0 s1):W PG d (sR 0 Ygt Zjz) σ st Q:=
 q_ J (Vx H0 J (Vx H1 J (m_ (e_ (Xfb hQ J J (Zs J Zj) Zj h)))))
end
theorem Yz8 {PG:Za}(hf:PG.fn 286=some Zft){m0:Ze}{s1:Zt}{K:Bool->Prop}(h:Zjd PG K m0 s1) :∃res0:Bool,K res0/\Zf PG 286 [m0.av,s1.av] (.b res0):=
 P1 hf J (Xxc (h1 J fun _=>J) J J h)
end Go.AM

/- Yg of the proof. -/
namespace Go.AM
open Go
set_option linter.unusedVariables false
set_option linter.unusedSimpArgs false
set_option maxRecDepth 4000
set_option maxHeartbeats 1000000
attribute [local irreducible] WO Ww Wx
def Ya7:List AI:=[oO 2 (.alloc [z8,z6,z6,zl]),oC 3 (.b false)]
def Yy6:List AI:=[oO 4 (.alloc [z8,z6,z6,zl])]
def Yyi:List AI:=[oM 16 0,oO 17 (.call false 316 [(.t 16),(.c (.s [111,117,116,99,111,109,101,32]))]),oO 18 (.call false 260 [(.t 17),(.c (.s [44,32,102,97,105,108,105,110,103,32]))]),oM 15 18,oE 19 0 15,oE 20 1 15,oE 21 2 15,oM 5 19,oM 6 20,oM 7 21]
def Xit:List AI:=[oM 23 6,oO 24 (.call false 260 [(.t 23),(.c (.s [44,32,115,116,101,112,115,32]))]),oM 22 24,oE 25 0 22,oE 26 1 22,oE 27 2 22,oM 8 25,oM 9 26,oM 10 27]
def Wcx:List AI:=[oM 29 5,oQ 30 211 [29],oM 28 30,oE 31 0 28,oE 32 1 28,oM 11 31,oM 12 32]
def Yrs:List AI:=[oM 33 11,oF 34 0 4,oS 1 34 33]
def Xdv:List AI:=[oC 13 (.b false),oC 14 (.b false)]
def Xng:List AI:=[oM 36 8,oQ 37 317 [36],oM 35 37,oE 38 0 35,oE 39 1 35,oF 40 1 4,oS 1 40 38,oM 13 39]
def Xpf:List AI:=[oM 42 9,oQ 43 317 [42],oM 41 43,oE 44 0 41,oE 45 1 41,oF 46 2 4,oS 1 46 44,oM 14 45]
def Wrm:List AI:=[oK 47 4 4,oM 48 7,oM 49 48,gT 49 (oM 50 10),oA 51 49 50,oM 52 51,gT 52 (oM 53 13),oA 54 52 53,oM 55 54,gT 55 (oM 56 14),oA 57 55 56,oM 58 57,gT 58 (oM 59 12),gT 58 (oV 60 .eql 59 0),oA 61 58 60,oS 4 2 47,oM 3 61]
abbrev Yhh:AC:=(sR 9 Wrm .ret)
abbrev Yoc:AC:=(sR 8 Xpf Yhh)
abbrev Yld:AC:=(sR 7 Xng Yoc)
abbrev Zvv:AC:=(sR 6 Xdv Yld)
abbrev Yo8:AC:=(sR 5 Yrs Zvv)
abbrev Yfr:AC:=(sR 4 Wcx Yo8)
abbrev Yrh:AC:=(sR 3 Xit Yfr)
abbrev Yjz:AC:=(sR 2 Yyi Yrh)
abbrev Zue:AC:=(sR 1 Yy6 Yjz)
abbrev Wjb:AC:=(sR 0 Ya7 Zue)
def Eb:AF:={ nt:=62,res:=[.cell 2 4 true,.tmp 3],body:=Wjb }
abbrev Wbc (d:Nat)(Zm:St)(Q:AE->Sl->St->Prop)(K:Zt->Bool->Prop):Prop:=∀(σ:Sl)(st:St)(k0:Zq)(v0:Nat)(res0:Zt)(res1:Bool),σ 2=.p k0 v0 0->lk st.bx k0=some (v0,[.i .u8 res0.outcome,.i .i64 res0.failing,.i .i64 res0.steps,.sl .full (List.map Zi.row res0.routines)])->σ 3=.b res1->Fr d (d,0) Zm.bx Zm.ow st.bx st.ow->K res0 res1->Q .ret σ st
def Zl4 (PG:Za)(K:Zt->Bool->Prop)(a7:Bool)(b10:Bool)(e12:Int)(ok13:Bool)(is14:Bool)(m0:Zt)(m4096:Zt):Prop:=
  (a7=true->(b10=true->(ok13=true->(is14=true->K m4096 (decide (e12=0)))/\(is14=false->K m4096 false))/\(ok13=false->K m4096 false))/\(b10=false->K m4096 false))/\(a7=false->K m4096 false)
def Zug (PG:Za)(K:Zt->Bool->Prop)(a7:Bool)(steps9:BS)(b10:Bool)(e12:Int)(ok13:Bool)(m0:Zt)(m4096:Zt):Prop:=
  ∃e c,Zf PG 317 [.s steps9] (.tup [.i .i64 e,.b c])/\Zl4 PG K a7 b10 e12 ok13 c m0 (Zt.mk m4096.outcome m4096.failing e m4096.routines)
def Znv (PG:Za)(K:Zt->Bool->Prop)(a7:Bool)(failing8:BS)(steps9:BS)(b10:Bool)(e12:Int)(m0:Zt)(m4096:Zt):Prop:=
  ∃e c,Zf PG 317 [.s failing8] (.tup [.i .i64 e,.b c])/\Zug PG K a7 steps9 b10 e12 c m0 (Zt.mk m4096.outcome e m4096.steps m4096.routines)
def Zur (PG:Za)(K:Zt->Bool->Prop)(a7:Bool)(failing8:BS)(steps9:BS)(b10:Bool)(e12:Int)(m0:Zt)(m4096:Zt):Prop:=
  Znv PG K a7 failing8 steps9 b10 e12 m0 m4096
def Zkt (PG:Za)(K:Zt->Bool->Prop)(a7:Bool)(failing8:BS)(steps9:BS)(b10:Bool)(n11:Int)(e12:Int)(m0:Zt)(m4096:Zt):Prop:=
  Zur PG K a7 failing8 steps9 b10 e12 m0 (Zt.mk n11 m4096.failing m4096.steps m4096.routines)
def Zmk (PG:Za)(K:Zt->Bool->Prop)(word5:BS)(a7:Bool)(failing8:BS)(steps9:BS)(b10:Bool)(m0:Zt)(m4096:Zt):Prop:=
  ∃e c,Zf PG 211 [.s word5] (.tup [.i .u8 e,.i .i64 c])/\Zkt PG K a7 failing8 steps9 b10 e c m0 m4096
def Zom (PG:Za)(K:Zt->Bool->Prop)(word5:BS)(rest6:BS)(a7:Bool)(m0:Zt)(m4096:Zt):Prop:=
  ∃e c i,Zf PG 260 [.s rest6,.s ([44,32,115,116,101,112,115,32]:BS)] (.tup [.s e,.s c,.b i])/\Zmk PG K word5 a7 e c i m0 m4096
def Zjb (PG:Za)(K:Zt->Bool->Prop)(s0:BS)(m0:Zt)(m4096:Zt):Prop:=
  ∃i,Zf PG 316 [.s s0,.s ([111,117,116,99,111,109,101,32]:BS)] (.s i)/\∃j c e,Zf PG 260 [.s i,.s ([44,32,102,97,105,108,105,110,103,32]:BS)] (.tup [.s j,.s c,.b e])/\Zom PG K j c e m0 m4096
def Zos (PG:Za)(K:Zt->Bool->Prop)(s0:BS)(m0:Zt):Prop:=
  Zjb PG K s0 m0 (Zt.mk 0 0 0 ([]:List Zi))
def Zvc (PG:Za)(K:Zt->Bool->Prop)(s0:BS):Prop:=
  Zos PG K s0 (Zt.mk 0 0 0 ([]:List Zi))
section
variable {PG:Za}{d:Nat}{Q:AE->Sl->St->Prop}{K:Zt->Bool->Prop}{Zm:St}(hQ:Wbc d Zm Q K){σ:Sl}{st:St}
include hQ
variable {a7 b10:Bool}{e12:Int}{ok13 is14:Bool}{m0 m4096:Zt}{v0 v4096:Nat}{steps9 failing8:BS}{n11:Int}{word5 rest6 s0:BS}
variable (H0:σ 0=.s s0)(H2:σ 2=.p (d,0) v0 0)(H4:σ 4=.p (d,4096) v4096 0)(H5:σ 5=.s word5)(H6:σ 6=.s rest6)(H7:σ 7=.b a7)(H8:σ 8=.s failing8)(H9:σ 9=.s steps9)(H10:σ 10=.b b10)(H11:σ 11=.i .u8 n11)(H12:σ 12=.i .i64 e12)(H13:σ 13=.b ok13)(H14:σ 14=.b is14)(B0:lk st.bx (d,0)=some (v0,[.i .u8 m0.outcome,.i .i64 m0.failing,.i .i64 m0.steps,.sl .full (List.map Zi.row m0.routines)]))(B4096:lk st.bx (d,4096)=some (v4096,[.i .u8 m4096.outcome,.i .i64 m4096.failing,.i .i64 m4096.steps,.sl .full (List.map Zi.row m4096.routines)]))(FR:Fr d (d,0) Zm.bx Zm.ow st.bx st.ow)
include H2 H4 H7 H10 H12 H13 H14 B0 B4096 FR in
theorem Xu0 (h:Zl4 PG K a7 b10 e12 ok13 is14 m0 m4096):W PG d Yhh σ st Q:=
 q_ J (l_ H4 B4096 J J (Yq H7 (Yq J (Kt (g:=49) J (fun c=>Zc J (Yq H10 (z_ 2 J (Kt (g:=52) J (fun e=>Zc J (Yq H13 (z_ 2 J (Kt (g:=55) J (fun i=>Zc J (Yq H14 (z_ 2 J (Kt (g:=58) J (fun j=>Zc J (Xa H12 (Zc J (b_ J J Xo (Hr J J (Ye H2 B0 J J J (Yq J (Zo (hQ _ _ _ _ _ _ H2 Zj J (Fr.box FR) ((((h.1 c).1 e).1 i).1 j)))))))))) (fun j=>z_ 3 J (Ye H2 B0 J J J (Yq J (Zo (hQ _ _ _ _ _ _ H2 Zj J (Fr.box FR) ((((h.1 c).1 e).1 i).2 j)))))))))) (fun i=>z_ 6 J (Ye H2 B0 J J J (Yq J (Zo (hQ _ _ _ _ _ _ H2 Zj J (Fr.box FR) (((h.1 c).1 e).2 i)))))))))) (fun e=>z_ 9 J (Ye H2 B0 J J J (Yq J (Zo (hQ _ _ _ _ _ _ H2 Zj J (Fr.box FR) ((h.1 c).2 e)))))))))) (fun c=>z_ 12 J (Ye H2 B0 J J J (Yq J (Zo (hQ _ _ _ _ _ _ H2 Zj J (Fr.box FR) (h.2 c))))))))))
include H2 H4 H7 H9 H10 H12 H13 B0 B4096 FR in
theorem Xt9 (h:Zug PG K a7 steps9 b10 e12 ok13 m0 m4096):W PG d Yoc σ st Q:=
 q_ J (m_ (x2 h fun e _ c=>Yi (Wr H9 J) c.1 (m_ (x_ J J (x_ J J (f_ H4 (Ye J B4096 J J J (m_ (e_ (Xu0 (m4096:=(Zt.mk m4096.outcome m4096.failing e m4096.routines)) hQ H2 H4 H7 H10 H12 H13 J (Zs J B0) Zj (Fr.box FR) c.2))))))))))
include H2 H4 H7 H8 H9 H10 H12 B0 B4096 FR in
theorem Yxx (h:Znv PG K a7 failing8 steps9 b10 e12 m0 m4096):W PG d Yld σ st Q:=
 q_ J (m_ (x2 h fun e _ c=>Yi (Wr H8 J) c.1 (m_ (x_ J J (x_ J J (f_ H4 (Ye J B4096 J J J (m_ (e_ (Xt9 (m4096:=(Zt.mk m4096.outcome e m4096.steps m4096.routines)) hQ H2 H4 H7 H9 H10 H12 J (Zs J B0) Zj (Fr.box FR) c.2))))))))))
include H2 H4 H7 H8 H9 H10 H12 B0 B4096 FR in
theorem Xv4 (h:Zur PG K a7 failing8 steps9 b10 e12 m0 m4096):W PG d Zvv σ st Q:=
 q_ J (m_ (m_ (e_ (Yxx hQ H2 H4 H7 H8 H9 H10 H12 B0 B4096 FR h))))
include H2 H4 H7 H8 H9 H10 H11 H12 B0 B4096 FR in
theorem Wr3 (h:Zkt PG K a7 failing8 steps9 b10 n11 e12 m0 m4096):W PG d Yo8 σ st Q:=
 q_ J (m_ (f_ H4 (Ye J B4096 H11 J J (e_ (Xv4 (m4096:=(Zt.mk n11 m4096.failing m4096.steps m4096.routines)) hQ H2 H4 H7 H8 H9 H10 H12 (Zs J B0) Zj (Fr.box FR) h)))))
include H2 H4 H5 H7 H8 H9 H10 B0 B4096 FR in
theorem Wac (h:Zmk PG K word5 a7 failing8 steps9 b10 m0 m4096):W PG d Yfr σ st Q:=
 q_ J (m_ (x2 h fun _ _ c=>Yi (Wr H5 J) c.1 (m_ (x_ J J (x_ J J (m_ (m_ (e_ (Wr3 hQ H2 H4 H7 H8 H9 H10 J J B0 B4096 FR c.2)))))))))
include H2 H4 H5 H6 H7 B0 B4096 FR in
theorem Xcr (h:Zom PG K word5 rest6 a7 m0 m4096):W PG d Yrh σ st Q:=
 q_ J (m_ (x2 h fun _ _ e=>e.elim fun _ c=>Yi (Je H6 J J) c.1 (m_ (x_ J J (x_ J J (x_ J J (m_ (m_ (m_ (e_ (Wac hQ H2 H4 H5 H7 J J J B0 B4096 FR c.2)))))))))))
include H0 H2 H4 B0 B4096 FR in
theorem Wsa (h:Zjb PG K s0 m0 m4096):W PG d Yjz σ st Q:=
 q_ J (m_ (h.elim fun _ c=>Yi (Je H0 J J) c.1 (x2 c.2 fun _ _ i=>i.elim fun _ e=>Yi (Je J J J) e.1 (m_ (x_ J J (x_ J J (x_ J J (m_ (m_ (m_ (e_ (Xcr hQ H2 H4 J J J B0 B4096 FR e.2))))))))))))
include H0 H2 B0 FR in
theorem Wh8 (h:Zos PG K s0 m0):W PG d Zue σ st Q:=
 Zk (W.reg (Xy (e_ (Wsa (m4096:=(Zt.mk 0 0 0 ([]:List Zi))) hQ H0 H2 J (Zs J B0) (show lk _ (d,4096)=some (_,([.i .u8 0,.i .i64 0,.i .i64 0,.sl .full (List.map Zi.row ([]:List Zi))]:List AV)) from Zj) (Fr.box FR) h))))
include H0 FR in
theorem Xfn (h:Zvc PG K s0):W PG d (sR 0 Ya7 Zue) σ st Q:=
 Zk (W.reg (Xy (m_ (e_ (Wh8 (m0:=(Zt.mk 0 0 0 ([]:List Zi))) hQ H0 J (show lk _ (d,0)=some (_,([.i .u8 0,.i .i64 0,.i .i64 0,.sl .full (List.map Zi.row ([]:List Zi))]:List AV)) from Zj) (Fr.box FR) h)))))
end
theorem Xfp {PG:Za}(hf:PG.fn 307=some Eb){s0:BS}{K:Zt->Bool->Prop}(h:Zvc PG K s0):Yp PG 307 [.s s0] (fun r=>∃res0:Zt,∃res1:Bool,(r=.tup [res0.avo .full,.b res1])/\K res0 res1):=
  Yp.of hf rfl fun d st=>Xfn (Zm:=st) (Q:=fun e σ st'=>(e=.normal\/e=.ret)/\∃r,Xm σ st' Eb.res=some r/\_/\Fr d (d,0) st.bx st.ow st'.bx st'.ow) (fun σ st' k0 v0  res0 res1 H2 HB2 H3 hf hk=>⟨.inr rfl,.tup [res0.avo .full,.b res1],by simp only [Eb,Xm,Vk,Jz (n:=4) H2 HB2 rfl,H3,Qb,Option.map_some,Jz (n:=4) H2 HB2 rfl,H3],⟨res0,res1,rfl,hk⟩,hf⟩) (σ:=Wh [.s s0]) rfl Fr.refl h
end Go.AM

/- Yg of the proof. -/
namespace Go.AM
open Go
set_option linter.unusedVariables false
set_option linter.unusedSimpArgs false
set_option maxRecDepth 4000
set_option maxHeartbeats 1000000
attribute [local irreducible] WO Ww Wx
def Wn3:List AI:=[oC 3 (.s []),oC 4 (.b false)]
def Xq2:List AI:=[oL 6 1,oJ 7 6,oV 8 .eql 7 0,oM 9 8,gF 9 (oL 10 1),gF 9 (oO 11 (.iaL 1 (.t 10) (.c (.i .i64 0)))),gF 9 (oL 12 11),gF 9 (oM 13 0),gF 9 (oQ 14 306 [12,13]),gF 9 (oZ 15 14),oR 16 9 15]
def Yhb:List AI:=[oC 3 (.s []),oC 4 (.b false)]
def Yvz:List AI:=[oL 17 1,oO 18 (.iaL 1 (.t 17) (.c (.i .i64 0))),oL 19 18,oM 5 19]
def Xty:List AI:=[oL 20 1,oO 21 (.slL 1 (.t 20) (some (.c (.i .i64 1))) none),oS 1 1 21]
def Xsw:List AI:=[oM 22 5,oM 3 22,oC 4 (.b true)]
abbrev Yqn:AC:=(sR 3 Yvz (sR 4 Xty (sR 5 Xsw .ret)))
abbrev Yrl:AC:=(sR 0 Wn3 (.seq (sR 1 Xq2 (.cond (.t 16) (sR 2 Yhb .ret) .skip)) Yqn))
def Au:AF:={ nt:=23,res:=[.tmp 3,.tmp 4],body:=Yrl }
def Wch:List AI:=[oY 3 3 0,oC 6 (.b false)]
def Wcn:List AI:=[oM 23 2,oO 24 (.callv (.t 23) [(.c (.s [32,32,35]))]),oM 22 24,oE 25 0 22,oE 26 1 22,oM 7 25,oM 8 26]
def Xro:List AI:=[oM 27 8,oZ 28 27]
def Xyz:List AI:=[oM 29 7,oO 30 (.slS (.t 29) (some (.c (.i .i64 2))) none),oO 31 (.bslice [zs] 1 [(0,(.t 30))]),oM 9 31]
def Xa6:List AI:=[oM 33 2,oO 34 (.callv (.t 33) [(.c (.s [32,32,32,32]))]),oM 32 34,oE 35 0 32,oE 36 1 32,oM 10 35,oM 11 36]
def Xap:List AI:=[oM 37 11,oZ 38 37]
def Yxj:List AI:=[oM 39 9,oM 40 10,oO 41 (.slS (.t 40) (some (.c (.i .i64 2))) none),oO 42 (.bslice [zs] 1 [(0,(.t 41))]),oO 43 (.app 1 16 (.t 39) (.t 42)),oM 9 43]
def Zmu:List AI:=[oK 45 3 3,oM 46 9,oQ 47 84 [45,46],oM 44 47,oE 48 0 44,oE 49 1 44,oE 50 2 44,oO 13 (.alloc [z6,z6,z7,zl]),oM 12 48,oS 4 13 49,oM 14 50]
def Xcm:List AI:=[oM 51 14,oV 52 .neq 51 0]
def Xo8:List AI:=[oC 6 (.b false)]
def Xev:List AI:=[oM 53 1,oM 54 1,oN 55 54,oF 56 2 55,oL 57 56,oK 58 4 13,oO 59 (.bslice [z6,z6,z7,zl] 1 [(0,(.t 58))]),oO 60 (.app 4 48 (.t 57) (.t 59)),oN 61 53,oF 62 2 61,oS 1 62 60]
def Wmi:List AI:=[oM 64 2,oO 65 (.callv (.t 64) [(.c (.s [32,32,100,101,102,101,114,32]))]),oM 63 65,oE 66 0 63,oE 67 1 63,oM 15 66,oM 16 67]
def Xfu:List AI:=[oM 68 16,oZ 69 68]
def Yo7:List AI:=[oK 71 3 3,oM 72 15,oO 73 (.slS (.t 72) (some (.c (.i .i64 2))) none),oQ 74 318 [71,73],oM 70 74,oE 75 0 70,oE 76 1 70,oO 17 (.alloc [z6,z6,zb,z8,z6,zs,zl,zb]),oS 8 17 75,oM 16 76]
def Yrv:List AI:=[oM 77 16,oZ 78 77]
def Yt6:List AI:=[oC 6 (.b false)]
def Wke:List AI:=[oM 79 1,oM 80 1,oN 81 80,oF 82 3 81,oL 83 82,oK 84 8 17,oO 85 (.bslice [z6,z6,zb,z8,z6,zs,zl,zb] 1 [(0,(.t 84))]),oO 86 (.app 8 88 (.t 83) (.t 85)),oN 87 79,oF 88 3 87,oS 1 88 86]
def Wk4:List AI:=[oM 90 2,oO 91 (.callv (.t 90) [(.c (.s [32,32]))]),oM 89 91,oE 92 0 89,oE 93 1 89,oM 18 92,oM 19 93]
def Xag:List AI:=[oM 94 19,oZ 95 94]
def Waf:List AI:=[oC 6 (.b true)]
def Ybq:List AI:=[oM 97 18,oO 98 (.slS (.t 97) (some (.c (.i .i64 2))) none),oQ 99 156 [98],oM 96 99,oE 100 0 96,oE 101 1 96,oO 20 (.alloc [z7,z8,z6,zs,zl,zb,z7]),oS 7 20 100,oM 21 101]
def Yui:List AI:=[oM 102 21,oV 103 .neq 102 0]
def Xtp:List AI:=[oC 6 (.b false)]
def Xe2:List AI:=[oM 104 1,oM 105 1,oN 106 105,oF 107 4 106,oL 108 107,oK 109 7 20,oO 110 (.bslice [z7,z8,z6,zs,zl,zb,z7] 1 [(0,(.t 109))]),oO 111 (.app 7 80 (.t 108) (.t 110)),oN 112 104,oF 113 4 112,oS 1 113 111]
abbrev Ybx:AC:=(.block 3 (sR 4 Xa6 (.seq (sR 5 Xap (.cond (.t 38) (.exit 2) .skip)) (.reg 6 Yxj))))
abbrev Yll:AC:=(sR 7 Zmu (.seq (sR 8 Xcm (.cond (.t 52) (sR 9 Xo8 .ret) .skip)) (.reg 10 Xev)))
abbrev Yj7:AC:=(.block 1 (sR 1 Wcn (.seq (sR 2 Xro (.cond (.t 28) (.exit 0) .skip)) (sR 3 Xyz (.seq (.block 2 (.loop Ybx)) Yll)))))
abbrev Ygz:AC:=(.block 5 (sR 11 Wmi (.seq (sR 12 Xfu (.cond (.t 69) (.exit 4) .skip)) (sR 13 Yo7 (.seq (sR 14 Yrv (.cond (.t 78) (sR 15 Yt6 .ret) .skip)) (.reg 16 Wke))))))
abbrev Yc2:AC:=(.block 7 (sR 17 Wk4 (.seq (sR 18 Xag (.cond (.t 95) (sR 19 Waf .ret) .skip)) (sR 20 Ybq (.seq (sR 21 Yui (.cond (.t 103) (sR 22 Xtp .ret) .skip)) (.reg 23 Xe2))))))
abbrev Ygg:AC:=(.block 6 (.loop Yc2))
abbrev Ya4:AC:=(.seq (.block 4 (.loop Ygz)) Ygg)
abbrev Xkt:AC:=(.seq (.block 0 (.loop Yj7)) Ya4)
abbrev Yh1:AC:=(sR 0 Wch Xkt)
def Zbl:AF:={ nt:=114,res:=[.tmp 6],body:=Yh1 }
def Zy1:List AI:=[oY 2 3 0,oO 4 (.alloc [z8,z6,z6,zl]),oI 5 0]
def Xwp:List AI:=[oM 17 1,oH 18 17,oV 19 .gtr 18 300000]
def Xqq:List AI:=[oO 20 (.build [z8,z6,z6,zl] []),oS 4 4 20,oI 5 4]
def Yof:List AI:=[oM 21 1,oO 22 (.call false 304 [(.t 21),(.c (.s [10]))]),oO 6 (.alloc [zl]),oS 1 6 22]
def Xhq:List AI:=[oO 23 (.mkfn 305 [(.t 6)]),oM 7 23]
def Xya:List AI:=[oM 25 7,oO 26 (.callv (.t 25) [(.c (.s [111,117,116,99,111,109,101,32]))]),oM 24 26,oE 27 0 24,oE 28 1 24,oM 8 27,oM 9 28]
def Yf2:List AI:=[oM 30 8,oO 31 (.call true 307 [(.t 30)]),oM 29 31,oE 32 0 29,oE 33 1 29,oO 10 (.alloc [z8,z6,z6,zl]),oS 4 10 32,oM 11 33]
def Xeb:List AI:=[oM 34 9,oZ 35 34,oM 36 35,gF 36 (oM 37 11),gF 36 (oZ 38 37),oR 39 36 38]
def Wbs:List AI:=[oO 40 (.build [z8,z6,z6,zl] []),oS 4 4 40,oI 5 12]
def Xst:List AI:=[oM 42 7,oO 43 (.callv (.t 42) [(.c (.s [103,111,114,111,117,116,105,110,101,32]))]),oM 41 43,oE 44 0 41,oE 45 1 41,oM 12 44,oM 13 45]
def Wjl:List AI:=[oM 46 13,oZ 47 46]
def Yk2:List AI:=[oM 49 12,oO 50 (.call true 308 [(.t 49)]),oM 48 50,oE 51 0 48,oE 52 1 48,oO 14 (.alloc [z8,z6,zl,zl,zl]),oS 5 14 51,oM 13 52]
def Wgu:List AI:=[oM 53 13,oZ 54 53,oM 55 54,gF 55 (oK 56 3 2),gF 55 (oM 57 7),gF 55 (oO 58 (.call true 309 [(.t 56),(.t 14),(.t 57)])),gF 55 (oZ 59 58),oR 60 55 59]
def Xgv:List AI:=[oO 61 (.build [z8,z6,z6,zl] []),oS 4 4 61,oI 5 12]
def Xkd:List AI:=[oF 62 3 10,oL 63 62,oK 64 5 14,oO 65 (.bslice [z8,z6,zl,zl,zl] 1 [(0,(.t 64))]),oO 66 (.app 5 88 (.t 63) (.t 65)),oF 67 3 10,oS 1 67 66]
def Xgg:List AI:=[oK 69 3 2,oK 70 4 10,oQ 71 205 [69,70],oM 68 71,oE 72 0 68,oE 73 1 68,oM 15 72,oM 16 73]
def Xcz:List AI:=[oM 74 16,oV 75 .neq 74 0,oM 76 75,gF 76 (oM 77 15),gF 76 (oM 78 1),gF 76 (oT 79 .neq 77 78),oR 80 76 79]
def Xx3:List AI:=[oO 81 (.build [z8,z6,z6,zl] []),oS 4 4 81,oI 5 12]
def Wju:List AI:=[oK 82 4 10,oS 4 4 82,oI 5 0]
abbrev Wle:AC:=(.reg 14 Xkd)
abbrev Ydg:AC:=(.block 1 (sR 9 Xst (.seq (sR 10 Wjl (.cond (.t 47) (.exit 0) .skip)) (sR 11 Yk2 (.seq (sR 12 Wgu (.cond (.t 60) (sR 13 Xgv .ret) .skip)) Wle)))))
abbrev Yk3:AC:=(.seq (sR 15 Xgg (sR 16 Xcz (.cond (.t 80) (sR 17 Xx3 .ret) .skip))) (sR 18 Wju .ret))
abbrev Wkc:AC:=(.seq (.block 0 (.loop Ydg)) Yk3)
abbrev Wo8:AC:=(.seq (sR 7 Xeb (.cond (.t 39) (sR 8 Wbs .ret) .skip)) Wkc)
abbrev Xg6:AC:=(sR 6 Yf2 Wo8)
abbrev Xva:AC:=(sR 5 Xya Xg6)
abbrev Ybh:AC:=(sR 4 Xhq Xva)
abbrev Xds:AC:=(sR 3 Yof Ybh)
abbrev Yle:AC:=(.seq (sR 1 Xwp (.cond (.t 19) (sR 2 Xqq .ret) .skip)) Xds)
abbrev Zxy:AC:=(sR 0 Zy1 Yle)
def Ct:AF:={ nt:=83,res:=[.cell 4 4 true,.tmp 5],body:=Zxy }
end Go.AM

/- MADE BY PROGRAM (seat2.py): the types of the program, and that its code is the machine's. -/
namespace Go.Proofs
open Go.Shelf
def Tryz.lays169_ren : Go.Shelf.Ren := ⟨fun | 169 => 36 | n => n, fun | 70 => 89 | 9 => 9 | 0 => 0 | 72 => 91 | 37 => 75 | 127 => 134 | 3 => 3 | 5 => 5 | n => n, fun | n => n⟩
theorem Tryz.lays169 : Go.Proofs.Lays.n169 Tryz.prog Tryz.lays169_ren := {
  mixed := by kernel_rfl
  f169 := Tryz.func36.trans (congrArg some (by kernel_rfl))
  t0 := Tryz.underlying0
  a0 := Tryz.isAgg0
  z0 := Tryz.sizeOf0
  v0 := Tryz.zeroValue0
  t3 := Tryz.underlying3
  a3 := Tryz.isAgg3
  z3 := Tryz.sizeOf3
  v3 := Tryz.zeroValue3
  t9 := Tryz.underlying9
  a9 := Tryz.isAgg9
  z9 := Tryz.sizeOf9
  v9 := Tryz.zeroValue9
  t37 := Tryz.underlying75
  a37 := Tryz.isAgg75
  z37 := Tryz.sizeOf75
  v37 := Tryz.zeroValue75
  t70 := Tryz.underlying89
  a70 := Tryz.isAgg89
  z70 := Tryz.sizeOf89
  v70 := Tryz.zeroValue89
  t72 := Tryz.underlying91
  a72 := Tryz.isAgg91
  z72 := Tryz.sizeOf91
  v72 := Tryz.zeroValue91
  t127 := Tryz.underlying134
  a127 := Tryz.isAgg134
  z127 := Tryz.sizeOf134
  v127 := Tryz.zeroValue134 }

theorem Tryz.extraB : Builder.Extra Tryz.prog Tryz.lays169_ren := {
  sizeBuilder := by kernel_rfl
  liesBuilder := by kernel_rfl
  t5 := Tryz.underlying5
  a5 := Tryz.isAgg5
  z5 := Tryz.sizeOf5
  v5 := Tryz.zeroValue5
  infoByte := by kernel_rfl
  cellsByte := by kernel_rfl
  sizeByte := by kernel_rfl
  neB5 := by decide }
def Tryz.lays146_ren : Go.Shelf.Ren := ⟨fun | 146 => 46 | 221 => 84 | 268 => 124 | 138 => 125 | 143 => 126 | 195 => 155 | 197 => 156 | 218 => 157 | 219 => 158 | 260 => 175 | 217 => 176 | 225 => 177 | 224 => 178 | 267 => 179 | 266 => 185 | 314 => 186 | n => n, fun | 9 => 9 | 31 => 23 | 3 => 3 | 4 => 4 | 0 => 0 | 105 => 222 | 21 => 21 | 5 => 5 | 46 => 238 | 119 => 245 | 139 => 248 | 138 => 247 | 146 => 250 | 51 => 249 | n => n, fun | 1 => 0 | 3 => 1 | 4 => 2 | n => n⟩
theorem Tryz.lays146 : Go.Proofs.Lays.n146 Tryz.prog Tryz.lays146_ren := {
  mixed := by kernel_rfl
  f138 := Tryz.func125.trans (congrArg some (by kernel_rfl))
  f143 := Tryz.func126.trans (congrArg some (by kernel_rfl))
  f146 := Tryz.func46.trans (congrArg some (by kernel_rfl))
  f195 := Tryz.func155.trans (congrArg some (by kernel_rfl))
  f197 := Tryz.func156.trans (congrArg some (by kernel_rfl))
  f217 := Tryz.func176.trans (congrArg some (by kernel_rfl))
  f218 := Tryz.func157.trans (congrArg some (by kernel_rfl))
  f219 := Tryz.func158.trans (congrArg some (by kernel_rfl))
  f221 := Tryz.func84.trans (congrArg some (by kernel_rfl))
  f224 := Tryz.func178.trans (congrArg some (by kernel_rfl))
  f225 := Tryz.func177.trans (congrArg some (by kernel_rfl))
  f260 := Tryz.func175.trans (congrArg some (by kernel_rfl))
  f266 := Tryz.func185.trans (congrArg some (by kernel_rfl))
  f267 := Tryz.func179.trans (congrArg some (by kernel_rfl))
  f268 := Tryz.func124.trans (congrArg some (by kernel_rfl))
  f314 := Tryz.func186.trans (congrArg some (by kernel_rfl))
  t0 := Tryz.underlying0
  a0 := Tryz.isAgg0
  z0 := Tryz.sizeOf0
  v0 := Tryz.zeroValue0
  t3 := Tryz.underlying3
  a3 := Tryz.isAgg3
  z3 := Tryz.sizeOf3
  v3 := Tryz.zeroValue3
  t4 := Tryz.underlying4
  a4 := Tryz.isAgg4
  z4 := Tryz.sizeOf4
  v4 := Tryz.zeroValue4
  t5 := Tryz.underlying5
  a5 := Tryz.isAgg5
  z5 := Tryz.sizeOf5
  v5 := Tryz.zeroValue5
  t9 := Tryz.underlying9
  a9 := Tryz.isAgg9
  z9 := Tryz.sizeOf9
  v9 := Tryz.zeroValue9
  t21 := Tryz.underlying21
  a21 := Tryz.isAgg21
  z21 := Tryz.sizeOf21
  v21 := Tryz.zeroValue21
  t31 := Tryz.underlying23
  a31 := Tryz.isAgg23
  z31 := Tryz.sizeOf23
  v31 := Tryz.zeroValue23
  t46 := Tryz.underlying238
  a46 := Tryz.isAgg238
  z46 := Tryz.sizeOf238
  v46 := Tryz.zeroValue238
  t51 := Tryz.underlying249
  a51 := Tryz.isAgg249
  z51 := Tryz.sizeOf249
  v51 := Tryz.zeroValue249
  t105 := Tryz.underlying222
  a105 := Tryz.isAgg222
  z105 := Tryz.sizeOf222
  v105 := Tryz.zeroValue222
  t119 := Tryz.underlying245
  a119 := Tryz.isAgg245
  z119 := Tryz.sizeOf245
  t138 := Tryz.underlying247
  a138 := Tryz.isAgg247
  z138 := Tryz.sizeOf247
  v138 := Tryz.zeroValue247
  t139 := Tryz.underlying248
  a139 := Tryz.isAgg248
  z139 := Tryz.sizeOf248
  v139 := Tryz.zeroValue248
  t146 := Tryz.underlying250
  a146 := Tryz.isAgg250
  z146 := Tryz.sizeOf250
  v146 := Tryz.zeroValue250
  g1 := by kernel_rfl
  g3 := by kernel_rfl
  g4 := by kernel_rfl }

def Tryz.lays147_ren : Go.Shelf.Ren := ⟨fun | 147 => 136 | 221 => 84 | 268 => 124 | 138 => 125 | 143 => 126 | 195 => 155 | 197 => 156 | 218 => 157 | 219 => 158 | 260 => 175 | 217 => 176 | 225 => 177 | 224 => 178 | 267 => 179 | 266 => 185 | 314 => 186 | n => n, fun | 9 => 9 | 3 => 3 | 31 => 23 | 4 => 4 | 0 => 0 | 105 => 222 | 21 => 21 | 5 => 5 | 46 => 238 | 119 => 245 | 139 => 248 | 138 => 247 | 146 => 250 | 51 => 249 | n => n, fun | 1 => 0 | 3 => 1 | 4 => 2 | n => n⟩
theorem Tryz.lays147 : Go.Proofs.Lays.n147 Tryz.prog Tryz.lays147_ren := {
  mixed := by kernel_rfl
  f138 := Tryz.func125.trans (congrArg some (by kernel_rfl))
  f143 := Tryz.func126.trans (congrArg some (by kernel_rfl))
  f147 := Tryz.func136.trans (congrArg some (by kernel_rfl))
  f195 := Tryz.func155.trans (congrArg some (by kernel_rfl))
  f197 := Tryz.func156.trans (congrArg some (by kernel_rfl))
  f217 := Tryz.func176.trans (congrArg some (by kernel_rfl))
  f218 := Tryz.func157.trans (congrArg some (by kernel_rfl))
  f219 := Tryz.func158.trans (congrArg some (by kernel_rfl))
  f221 := Tryz.func84.trans (congrArg some (by kernel_rfl))
  f224 := Tryz.func178.trans (congrArg some (by kernel_rfl))
  f225 := Tryz.func177.trans (congrArg some (by kernel_rfl))
  f260 := Tryz.func175.trans (congrArg some (by kernel_rfl))
  f266 := Tryz.func185.trans (congrArg some (by kernel_rfl))
  f267 := Tryz.func179.trans (congrArg some (by kernel_rfl))
  f268 := Tryz.func124.trans (congrArg some (by kernel_rfl))
  f314 := Tryz.func186.trans (congrArg some (by kernel_rfl))
  t0 := Tryz.underlying0
  a0 := Tryz.isAgg0
  z0 := Tryz.sizeOf0
  v0 := Tryz.zeroValue0
  t3 := Tryz.underlying3
  a3 := Tryz.isAgg3
  z3 := Tryz.sizeOf3
  v3 := Tryz.zeroValue3
  t4 := Tryz.underlying4
  a4 := Tryz.isAgg4
  z4 := Tryz.sizeOf4
  v4 := Tryz.zeroValue4
  t5 := Tryz.underlying5
  a5 := Tryz.isAgg5
  z5 := Tryz.sizeOf5
  v5 := Tryz.zeroValue5
  t9 := Tryz.underlying9
  a9 := Tryz.isAgg9
  z9 := Tryz.sizeOf9
  v9 := Tryz.zeroValue9
  t21 := Tryz.underlying21
  a21 := Tryz.isAgg21
  z21 := Tryz.sizeOf21
  v21 := Tryz.zeroValue21
  t31 := Tryz.underlying23
  a31 := Tryz.isAgg23
  z31 := Tryz.sizeOf23
  v31 := Tryz.zeroValue23
  t46 := Tryz.underlying238
  a46 := Tryz.isAgg238
  z46 := Tryz.sizeOf238
  v46 := Tryz.zeroValue238
  t51 := Tryz.underlying249
  a51 := Tryz.isAgg249
  z51 := Tryz.sizeOf249
  v51 := Tryz.zeroValue249
  t105 := Tryz.underlying222
  a105 := Tryz.isAgg222
  z105 := Tryz.sizeOf222
  v105 := Tryz.zeroValue222
  t119 := Tryz.underlying245
  a119 := Tryz.isAgg245
  z119 := Tryz.sizeOf245
  t138 := Tryz.underlying247
  a138 := Tryz.isAgg247
  z138 := Tryz.sizeOf247
  v138 := Tryz.zeroValue247
  t139 := Tryz.underlying248
  a139 := Tryz.isAgg248
  z139 := Tryz.sizeOf248
  v139 := Tryz.zeroValue248
  t146 := Tryz.underlying250
  a146 := Tryz.isAgg250
  z146 := Tryz.sizeOf250
  v146 := Tryz.zeroValue250
  g1 := by kernel_rfl
  g3 := by kernel_rfl
  g4 := by kernel_rfl }

def Tryz.lays219_ren : Go.Shelf.Ren := ⟨fun | 219 => 158 | 217 => 176 | 225 => 177 | 224 => 178 | 267 => 179 | 266 => 185 | 314 => 186 | n => n, fun | 9 => 9 | 3 => 3 | 4 => 4 | 5 => 5 | 46 => 238 | 146 => 250 | 51 => 249 | n => n, fun | 1 => 0 | n => n⟩
theorem Tryz.lays219 : Go.Proofs.Lays.n219 Tryz.prog Tryz.lays219_ren := {
  mixed := by kernel_rfl
  f217 := Tryz.func176.trans (congrArg some (by kernel_rfl))
  f219 := Tryz.func158.trans (congrArg some (by kernel_rfl))
  f224 := Tryz.func178.trans (congrArg some (by kernel_rfl))
  f225 := Tryz.func177.trans (congrArg some (by kernel_rfl))
  f266 := Tryz.func185.trans (congrArg some (by kernel_rfl))
  f267 := Tryz.func179.trans (congrArg some (by kernel_rfl))
  f314 := Tryz.func186.trans (congrArg some (by kernel_rfl))
  t3 := Tryz.underlying3
  a3 := Tryz.isAgg3
  z3 := Tryz.sizeOf3
  v3 := Tryz.zeroValue3
  t4 := Tryz.underlying4
  a4 := Tryz.isAgg4
  z4 := Tryz.sizeOf4
  v4 := Tryz.zeroValue4
  t5 := Tryz.underlying5
  a5 := Tryz.isAgg5
  z5 := Tryz.sizeOf5
  v5 := Tryz.zeroValue5
  t9 := Tryz.underlying9
  a9 := Tryz.isAgg9
  z9 := Tryz.sizeOf9
  v9 := Tryz.zeroValue9
  t46 := Tryz.underlying238
  a46 := Tryz.isAgg238
  z46 := Tryz.sizeOf238
  v46 := Tryz.zeroValue238
  t51 := Tryz.underlying249
  a51 := Tryz.isAgg249
  z51 := Tryz.sizeOf249
  v51 := Tryz.zeroValue249
  t146 := Tryz.underlying250
  a146 := Tryz.isAgg250
  z146 := Tryz.sizeOf250
  v146 := Tryz.zeroValue250
  g1 := by kernel_rfl }

end Go.Proofs
namespace Go.Proofs.YtheacfnopahmjaaGreatDoor
open Go Go.AM

def Mk : List (Nat × TI) := [
(2, ⟨.int .i64, 1, 8, [z6]⟩),
  (3, ⟨.int .i64, 1, 8, [z6]⟩),
  (4, ⟨.bool, 1, 1, [zb]⟩),
  (5, ⟨.int .u8, 1, 1, [z8]⟩),
  (9, ⟨.str, 1, 16, [zs]⟩),
  (22, ⟨.sl 267, 1, 24, [zl]⟩),
  (23, ⟨.sl 9, 1, 24, [zl]⟩),
  (24, ⟨.sl 85, 1, 24, [zl]⟩),
  (26, ⟨.st [(22, 0), (23, 1), (24, 2)], 3, 72, [zl, zl, zl]⟩),
  (27, ⟨.sl 43, 1, 24, [zl]⟩),
  (29, ⟨.st [(5, 0), (3, 1), (3, 2), (27, 3)], 4, 48, [z8, z6, z6, zl]⟩),
  (34, ⟨.int .i64, 1, 8, [z6]⟩),
  (39, ⟨.sl 55, 1, 24, [zl]⟩),
  (40, ⟨.sl 63, 1, 24, [zl]⟩),
  (41, ⟨.sl 65, 1, 24, [zl]⟩),
  (43, ⟨.st [(5, 0), (2, 1), (39, 2), (40, 3), (41, 4)], 5, 88, [z8, z6, zl, zl, zl]⟩),
  (52, ⟨.int .u64, 1, 8, [z7]⟩),
  (53, ⟨.sl 61, 1, 24, [zl]⟩),
  (55, ⟨.st [(3, 0), (3, 1), (52, 2), (53, 3)], 4, 48, [z6, z6, z7, zl]⟩),
  (56, ⟨.sl 58, 1, 24, [zl]⟩),
  (58, ⟨.st [(5, 0), (2, 1), (9, 2), (56, 3), (4, 4)], 5, 64, [z8, z6, zs, zl, zb]⟩),
  (61, ⟨.st [(3, 0), (58, 1)], 6, 72, [z6, z8, z6, zs, zl, zb]⟩),
  (63, ⟨.st [(3, 0), (3, 1), (4, 2), (58, 3)], 8, 88, [z6, z6, zb, z8, z6, zs, zl, zb]⟩),
  (65, ⟨.st [(52, 0), (58, 1), (52, 6)], 7, 80, [z7, z8, z6, zs, zl, zb, z7]⟩),
  (68, ⟨.other, 1, 8, [.nf]⟩),
  (72, ⟨.other, 1, 8, [.nf]⟩),
  (75, ⟨.sl 5, 1, 24, [zl]⟩),
  (81, ⟨.sl 87, 1, 24, [zl]⟩),
  (82, ⟨.sl 269, 1, 24, [zl]⟩),
  (83, ⟨.sl 271, 1, 24, [zl]⟩),
  (85, ⟨.st [(9, 0), (3, 1), (3, 2), (81, 3), (82, 4), (83, 5), (83, 6)], 7, 128, [zs, z6, z6, zl, zl, zl, zl]⟩),
  (87, ⟨.st [(9, 0), (3, 1)], 2, 24, [zs, z6]⟩),
  (89, ⟨.ptr 91, 1, 8, [.np]⟩),
  (91, ⟨.st [(89, 0), (75, 1)], 2, 32, [.np, .sl .full []]⟩),
  (93, ⟨.other, 1, 16, [.ni]⟩),
  (96, ⟨.arr 9 9, 9, 144, [zs, zs, zs, zs, zs, zs, zs, zs, zs]⟩),
  (103, ⟨.arr 4 9, 4, 64, [zs, zs, zs, zs]⟩),
  (111, ⟨.other, 1, 8, [.nf]⟩),
  (118, ⟨.ptr 43, 1, 8, [.np]⟩),
  (129, ⟨.other, 1, 8, [.nf]⟩),
  (138, ⟨.other, 1, 8, [.nf]⟩),
  (141, ⟨.other, 1, 8, [.nf]⟩),
  (185, ⟨.uptr, 1, 8, [.np]⟩),
  (189, ⟨.other, 1, 8, [.nf]⟩),
  (193, ⟨.arr 5 5, 5, 5, [z8, z8, z8, z8, z8]⟩),
  (196, ⟨.arr 64 5, 64, 64, [z8, z8, z8, z8, z8, z8, z8, z8, z8, z8, z8, z8, z8, z8, z8, z8, z8, z8, z8, z8, z8, z8, z8, z8, z8, z8, z8, z8, z8, z8, z8, z8, z8, z8, z8, z8, z8, z8, z8, z8, z8, z8, z8, z8, z8, z8, z8, z8, z8, z8, z8, z8, z8, z8, z8, z8, z8, z8, z8, z8, z8, z8, z8, z8]⟩),
  (221, ⟨.arr 8 9, 8, 128, [zs, zs, zs, zs, zs, zs, zs, zs]⟩),
  (226, ⟨.ptr 228, 1, 8, [.np]⟩),
  (228, ⟨.st [(9, 0)], 1, 16, [zs]⟩),
  (267, ⟨.st [(5, 0), (3, 1), (3, 2), (81, 3)], 4, 48, [z8, z6, z6, zl]⟩),
  (269, ⟨.st [(5, 0), (3, 1), (3, 2), (3, 3)], 4, 32, [z8, z6, z6, z6]⟩),
  (271, ⟨.st [(3, 0), (52, 1)], 2, 16, [z6, z7]⟩)]
theorem Wg3 : ∀ x ∈ Mk, Ko Tryz.prog x.1 x.2 :=
 tC (tK Tryz.t2 kE) (tC (tK Tryz.t3 kE) (tC (tK Tryz.t4 kE) (tC (tK Tryz.t5 kE) (tC (tK Tryz.t9 kE) (tC (tK Tryz.t22 kE) (tC (tK Tryz.t23 kE) (tC (tK Tryz.t24 kE) (tC (tK Tryz.t26 kS) (tC (tK Tryz.t27 kE) (tC (tK Tryz.t29 kS) (tC (tK Tryz.t34 kE) (tC (tK Tryz.t39 kE) (tC (tK Tryz.t40 kE) (tC (tK Tryz.t41 kE) (tC (tK Tryz.t43 kS) (tC (tK Tryz.t52 kE) (tC (tK Tryz.t53 kE) (tC (tK Tryz.t55 kS) (tC (tK Tryz.t56 kE) (tC (tK Tryz.t58 kS) (tC (tK Tryz.t61 kS) (tC (tK Tryz.t63 kS) (tC (tK Tryz.t65 kS) (tC (tK Tryz.t68 kO) (tC (tK Tryz.t72 kO) (tC (tK Tryz.t75 kE) (tC (tK Tryz.t81 kE) (tC (tK Tryz.t82 kE) (tC (tK Tryz.t83 kE) (tC (tK Tryz.t85 kS) (tC (tK Tryz.t87 kS) (tC (tK Tryz.t89 (And.intro (by kernel_rfl) (by kernel_rfl))) (tC (tK Tryz.t91 kS) (tC (tK Tryz.t93 kO) (tC (tK Tryz.t96 kE) (tC (tK Tryz.t103 kE) (tC (tK Tryz.t111 kO) (tC (tK Tryz.t118 (And.intro (by kernel_rfl) (by kernel_rfl))) (tC (tK Tryz.t129 kO) (tC (tK Tryz.t138 kO) (tC (tK Tryz.t141 kO) (tC (tK Tryz.t185 kE) (tC (tK Tryz.t189 kO) (tC (tK Tryz.t193 kE) (tC (tK Tryz.t196 kE) (tC (tK Tryz.t221 kE) (tC (tK Tryz.t226 (And.intro (by kernel_rfl) (by kernel_rfl))) (tC (tK Tryz.t228 kS) (tC (tK Tryz.t267 kS) (tC (tK Tryz.t269 kS) (tC (tK Tryz.t271 kS) (tN))))))))))))))))))))))))))))))))))))))))))))))))))))
def Sr : List (Nat × Nat) := [(2, 2), (3, 286), (4, 287), (5, 288), (6, 289), (7, 290), (8, 79), (9, 203), (10, 214), (11, 205), (12, 177), (13, 207), (14, 29), (15, 291), (16, 209), (17, 211), (18, 292), (19, 293), (20, 294), (21, 295), (22, 296), (23, 297), (24, 213), (25, 298), (26, 299), (27, 300), (28, 301), (29, 302), (30, 204), (31, 221), (32, 126), (33, 215), (34, 216), (35, 217), (36, 105), (37, 219), (38, 220), (39, 15), (40, 82), (41, 154), (42, 141), (43, 303), (44, 224), (45, 225), (46, 304), (47, 305), (48, 306), (49, 307), (50, 308), (51, 309), (52, 310), (53, 311), (54, 312), (55, 85), (56, 313), (57, 157), (58, 218), (59, 314), (60, 162), (61, 80), (62, 71), (63, 163), (64, 87), (65, 235), (66, 145), (67, 227), (68, 228), (69, 86), (70, 229), (71, 230), (72, 231), (73, 232), (74, 233), (75, 158), (76, 234), (77, 34), (78, 111), (79, 112), (80, 113), (81, 72), (82, 178), (83, 236), (84, 315), (85, 46), (86, 260), (87, 316), (88, 317), (89, 36), (90, 21), (91, 84), (92, 318), (93, 156), (94, 319), (95, 212), (96, 320), (97, 22), (98, 120), (99, 121), (100, 114), (101, 75), (102, 182), (103, 159), (104, 179), (105, 223), (106, 226), (107, 222), (108, 170), (109, 88), (110, 78), (111, 102), (112, 103), (113, 77), (114, 146), (115, 237), (116, 122), (117, 123), (118, 76), (119, 238), (120, 239), (121, 183), (122, 11), (123, 104), (124, 321), (125, 187), (126, 194), (127, 266), (128, 322), (129, 42), (130, 37), (131, 115), (132, 116), (133, 117), (134, 118), (135, 119), (136, 323), (137, 74), (138, 180), (139, 181), (140, 38), (141, 142), (142, 143), (143, 31), (144, 138), (145, 137), (146, 106), (147, 108), (148, 16), (149, 160), (150, 124), (151, 110), (152, 144), (153, 109), (154, 30), (155, 192), (156, 324), (158, 197), (159, 43), (160, 139), (161, 128), (162, 140), (163, 107), (164, 190), (165, 44), (166, 132), (167, 135), (168, 41), (169, 127), (170, 133), (171, 134), (172, 26), (173, 35), (174, 136), (175, 325), (176, 47), (178, 199), (179, 200), (180, 131), (181, 129), (182, 130), (183, 191), (184, 40), (185, 48), (186, 201), (187, 25), (188, 39), (189, 45), (212, 330), (1000000000000, 1000000091), (1000000000001, 1000000005), (1000000000004, 1000000000)]
def X : Cx := ⟨Zqy Mk, Eg Sr, fun c => [30, 89, 104, 105, 107, 115, 116, 117, 120, 122, 123, 126, 128, 129, 130, 131, 139, 140, 144, 145, 146, 184, 217, 224, 225, 227, 228, 229, 230, 232, 233, 236, 237, 238, 239, 252, 268, 269, 270, 271, 272, 273, 274, 275, 276, 307, 308, 309, 311, 312].contains c, []⟩
theorem Wf9 : Yd Tryz.prog X 129 Zdp := fK Tryz.func129
theorem Wt3 : Yd Tryz.prog X 85 Zgs := fK Tryz.func85
theorem Xha : Yd Tryz.prog X 89 Zi9 := fK Tryz.func89
theorem Yyl : Yd Tryz.prog X 159 Zd8 := fK Tryz.func159
theorem Yye : Yd Tryz.prog X 176 Zg6 := fK Tryz.func176
theorem Xs7 : Yd Tryz.prog X 122 Zh3 := fK Tryz.func122
theorem Wjh : Yd Tryz.prog X 39 Zer := fK Tryz.func39
theorem Wm2 : Yd Tryz.prog X 90 Zd9 := fK Tryz.func90
theorem Wdl : Yd Tryz.prog X 187 Zem := fK Tryz.func187
theorem Xzx : Yd Tryz.prog X 154 Zb6 := fK Tryz.func154
theorem Wjs : Yd Tryz.prog X 77 Zgu := fK Tryz.func77
theorem Yue : Yd Tryz.prog X 130 Zg8 := fK Tryz.func130
theorem Xbq : Yd Tryz.prog X 188 Ag := fK Tryz.func188
theorem Wmp : Yd Tryz.prog X 189 Ih := fK Tryz.func189
theorem Ysw : Yd Tryz.prog X 14 Zc1 := fK Tryz.func14
theorem Ysh : Yd Tryz.prog X 66 Zjs := fK Tryz.func66
theorem Xi5 : Yd Tryz.prog X 32 Zvd := fK Tryz.func32
theorem Wd8 : Yd Tryz.prog X 62 Zhi := fK Tryz.func62
theorem Wro : Yd Tryz.prog X 81 Zis := fK Tryz.func81
theorem Wgy : Yd Tryz.prog X 137 Zaz := fK Tryz.func137
theorem Yw4 : Yd Tryz.prog X 118 Zdw := fK Tryz.func118
theorem Wbe : Yd Tryz.prog X 113 Zfp := fK Tryz.func113
theorem Wql : Yd Tryz.prog X 110 Zca := fK Tryz.func110
theorem Xmw : Yd Tryz.prog X 111 Zfa := fK Tryz.func111
theorem Xz9 : Yd Tryz.prog X 112 Zct := fK Tryz.func112
theorem Wci : Yd Tryz.prog X 123 Pl := fK Tryz.func123
theorem Xan : Yd Tryz.prog X 163 Lg := fK Tryz.func163
theorem Wfy : Yd Tryz.prog X 153 Zc9 := fK Tryz.func153
theorem Yy7 : Yd Tryz.prog X 151 Zfg := fK Tryz.func151
theorem Xnl : Yd Tryz.prog X 161 Fa := fK Tryz.func161
theorem Xei : Yd Tryz.prog X 181 Pf := fK Tryz.func181
theorem Wei : Yd Tryz.prog X 182 Pw := fK Tryz.func182
theorem Yxq : Yd Tryz.prog X 180 Lq := fK Tryz.func180
theorem Xuc : Yd Tryz.prog X 174 Zdz := fK Tryz.func174
theorem Wfv : Yd Tryz.prog X 41 Zfi := fK Tryz.func41
theorem Xh4 : Yd Tryz.prog X 75 Zbu := fK Tryz.func75
theorem Xdm : Yd Tryz.prog X 103 Zcl := fK Tryz.func103
theorem Wr1 : Yd Tryz.prog X 82 Zay := fK Tryz.func82
theorem Wsk : Yd Tryz.prog X 138 Zde := fK Tryz.func138
theorem Waw : Yd Tryz.prog X 121 Iw := fK Tryz.func121
theorem Wkf : Yd Tryz.prog X 164 Zdf := fK Tryz.func164
theorem Wbf : Yd Tryz.prog X 183 Zhm := fK Tryz.func183
theorem Xwl : Yd Tryz.prog X 93 Em := fK Tryz.func93
theorem Way : Yd Tryz.prog X 149 Zej := fK Tryz.func149
theorem Xjm : Yd Tryz.prog X 139 Et := fK Tryz.func139
theorem Xye : Yd Tryz.prog X 60 Zf5 := fK Tryz.func60
theorem Ws4 : Yd Tryz.prog X 63 Zhd := fK Tryz.func63
theorem Xtg : Yd Tryz.prog X 108 Zi2 := fK Tryz.func108
theorem Wrv : Yd Tryz.prog X 8 Zee := fK Tryz.func8
theorem Xhs : Yd Tryz.prog X 61 Zgl := fK Tryz.func61
theorem Wi5 : Yd Tryz.prog X 40 Zeh := fK Tryz.func40
theorem Wgt : Yd Tryz.prog X 69 Zht := fK Tryz.func69
theorem Wiw : Yd Tryz.prog X 64 Zix := fK Tryz.func64
theorem Wid : Yd Tryz.prog X 109 Zh0 := fK Tryz.func109
theorem Xsz : Yd Tryz.prog X 78 Zbz := fK Tryz.func78
theorem Xpp : Yd Tryz.prog X 79 Zhs := fK Tryz.func79
theorem Xtm : Yd Tryz.prog X 80 Za0 := fK Tryz.func80
theorem Wmf : Yd Tryz.prog X 131 Zgx := fK Tryz.func131
theorem Xol : Yd Tryz.prog X 132 Zdx := fK Tryz.func132
theorem Xic : Yd Tryz.prog X 135 Zgm := fK Tryz.func135
theorem Wnl : Yd Tryz.prog X 116 Zeb := fK Tryz.func116
theorem Xyn : Yd Tryz.prog X 117 Zdu := fK Tryz.func117
theorem Xaj : Yd Tryz.prog X 150 Zdv := fK Tryz.func150
theorem Xrd : Yd Tryz.prog X 144 Zoa := fK Tryz.func144
theorem Yw2 : Yd Tryz.prog X 160 Zh6 := fK Tryz.func160
theorem Wkj : Yd Tryz.prog X 42 Ziy := fK Tryz.func42
theorem Yvj : Yd Tryz.prog X 152 Zcw := fK Tryz.func152
theorem Wjk : Yd Tryz.prog X 9 Zdy := fK Tryz.func9
theorem Yym : Yd Tryz.prog X 30 Zef := fK Tryz.func30
theorem Xr4 : Yd Tryz.prog X 11 Zg1 := fK Tryz.func11
theorem Xof : Yd Tryz.prog X 13 Zhl := fK Tryz.func13
theorem Xxu : Yd Tryz.prog X 17 Zf0 := fK Tryz.func17
theorem Wje : Yd Tryz.prog X 24 Zgg := fK Tryz.func24
theorem Yy4 : Yd Tryz.prog X 10 Zc0 := fK Tryz.func10
theorem Xi3 : Yd Tryz.prog X 33 Zav := fK Tryz.func33
theorem Xzm : Yd Tryz.prog X 34 Zea := fK Tryz.func34
theorem Wne : Yd Tryz.prog X 35 Zsj := fK Tryz.func35
theorem Xl7 : Yd Tryz.prog X 58 Zsv := fK Tryz.func58
theorem Xa4 : Yd Tryz.prog X 37 Zc6 := fK Tryz.func37
theorem Wet : Yd Tryz.prog X 38 Zid := fK Tryz.func38
theorem Wad : Yd Tryz.prog X 31 Ze5 := fK Tryz.func31
theorem Wbq : Yd Tryz.prog X 44 Zg2 := fK Tryz.func44
theorem Wsl : Yd Tryz.prog X 45 Zhz := fK Tryz.func45
theorem Xmu : Yd Tryz.prog X 67 Zi6 := fK Tryz.func67
theorem Wdu : Yd Tryz.prog X 68 Zh9 := fK Tryz.func68
theorem Wrt : Yd Tryz.prog X 70 Zhw := fK Tryz.func70
theorem Xri : Yd Tryz.prog X 71 Zd4 := fK Tryz.func71
theorem Xpn : Yd Tryz.prog X 72 Zi1 := fK Tryz.func72
theorem Wgn : Yd Tryz.prog X 73 Zgj := fK Tryz.func73
theorem Xl8 : Yd Tryz.prog X 74 Zdo := fK Tryz.func74
theorem Xzo : Yd Tryz.prog X 76 Zhb := fK Tryz.func76
theorem Yzc : Yd Tryz.prog X 65 Zho := fK Tryz.func65
theorem Xmh : Yd Tryz.prog X 83 Ziu := fK Tryz.func83
theorem Xpy : Yd Tryz.prog X 115 Zcd := fK Tryz.func115
theorem Wtu : Yd Tryz.prog X 119 Zic := fK Tryz.func119
theorem Yt9 : Yd Tryz.prog X 120 Zhy := fK Tryz.func120
theorem Yvd : Yd Tryz.prog X 91 Il := fK Tryz.func91
theorem Wpt : Yd Tryz.prog X 133 Pp := fK Tryz.func133
theorem Xph : Yd Tryz.prog X 134 It := fK Tryz.func134
theorem Ys7 : Yd Tryz.prog X 162 Lm := fK Tryz.func162
theorem Xlg : Yd Tryz.prog X 142 Zpl := fK Tryz.func142
theorem Xts : Yd Tryz.prog X 48 Zc8 := fK Tryz.func48
theorem Wce : Yd Tryz.prog X 87 Zdt := fK Tryz.func87
theorem Wpu : Yd Tryz.prog X 128 Zch := fK Tryz.func128
theorem Wo4 : Yd Tryz.prog X 86 Er := fK Tryz.func86
theorem Xo3 : Yd Tryz.prog X 127 En := fK Tryz.func127
theorem Xyj : Yd Tryz.prog X 88 Zdk := fK Tryz.func88
theorem Wh3 : Yd Tryz.prog X 49 Eb := fK Tryz.func49
theorem Xyr : Yd Tryz.prog X 50 Lc := fK Tryz.func50
theorem Xp2 : Yd Tryz.prog X 92 Za6 := fK Tryz.func92
theorem Xuo : Yd Tryz.prog X 26 Ct := fK Tryz.func26
theorem Wr4 : Yd Tryz.prog X 47 Au := fK Tryz.func47
theorem Xwu : Yd Tryz.prog X 51 Zbl := fK Tryz.func51
theorem Wtw : Yd Tryz.prog X 29 Aa := fK Tryz.func29
theorem Ws1 : Yd Tryz.prog X 59 Lh := fK Tryz.func59
theorem Xyp : Yd Tryz.prog X 18 Ol := fK Tryz.func18
theorem Ywx : Yd Tryz.prog X 43 Ir := fK Tryz.func43
theorem Xvf : Yd Tryz.prog X 20 Og := fK Tryz.func20
theorem Xnf : Yd Tryz.prog X 22 Zal := fK Tryz.func22
theorem Wrr : Yd Tryz.prog X 23 Ac := fK Tryz.func23
theorem Wap : Yd Tryz.prog X 19 Zck := fK Tryz.func19
theorem Xd0 : Yd Tryz.prog X 7 Zcc := fK Tryz.func7
theorem Xkg : Yd Tryz.prog X 15 Lz := fK Tryz.func15
theorem Xcw : Yd Tryz.prog X 12 Tw := fK Tryz.func12
theorem Zsi : Fl X.T 58 := ⟨5, 2, 9, 56, 4, ⟨_, rfl, rfl, rfl⟩, ⟨_, rfl, rfl, rfl⟩, ⟨_, rfl, rfl, rfl⟩, ⟨_, rfl, rfl, rfl⟩, ⟨_, rfl, rfl, rfl⟩, ⟨_, rfl, rfl, rfl⟩⟩
theorem Zyk : Al X.T 87 := ⟨9, 3, ⟨_, rfl, rfl, rfl⟩, ⟨_, rfl, rfl, rfl⟩, ⟨_, rfl, rfl, rfl⟩⟩
theorem Wjj : Zec X.T 269 := ⟨5, 3, 3, 3, ⟨_, rfl, rfl, rfl⟩, ⟨_, rfl, rfl, rfl⟩, ⟨_, rfl, rfl, rfl⟩, ⟨_, rfl, rfl, rfl⟩, ⟨_, rfl, rfl, rfl⟩⟩
theorem Yem : Zab X.T 271 := ⟨3, 52, ⟨_, rfl, rfl, rfl⟩, ⟨_, rfl, rfl, rfl⟩, ⟨_, rfl, rfl, rfl⟩⟩
theorem Xwb : Zie X.T 267 := ⟨5, 3, 3, 81, 87, ⟨_, rfl, rfl, rfl⟩, ⟨_, rfl, rfl, rfl⟩, ⟨_, rfl, rfl, rfl⟩, ⟨_, rfl, rfl, rfl⟩, ⟨_, rfl, rfl, rfl⟩, Zyk⟩
theorem Xpz : Zel X.T 85 := ⟨9, 3, 3, 81, 82, 83, 83, 87, 269, 271, 271, ⟨_, rfl, rfl, rfl⟩, ⟨_, rfl, rfl, rfl⟩, ⟨_, rfl, rfl, rfl⟩, ⟨_, rfl, rfl, rfl⟩, ⟨_, rfl, rfl, rfl⟩, Zyk, ⟨_, rfl, rfl, rfl⟩, Wjj, ⟨_, rfl, rfl, rfl⟩, Yem, ⟨_, rfl, rfl, rfl⟩, Yem⟩
theorem Yxu : Zil X.T 26 := ⟨22, 23, 24, 267, 9, 85, ⟨_, rfl, rfl, rfl⟩, ⟨_, rfl, rfl, rfl⟩, Xwb, ⟨_, rfl, rfl, rfl⟩, ⟨_, rfl, rfl, rfl⟩, ⟨_, rfl, rfl, rfl⟩, Xpz⟩
theorem Xth : Ze8 X.T 61 := ⟨3, 58, ⟨_, rfl, rfl, rfl⟩, ⟨_, rfl, rfl, rfl⟩, Zsi⟩
theorem Wn7 : Zcy X.T 55 := ⟨3, 3, 52, 53, 61, ⟨_, rfl, rfl, rfl⟩, ⟨_, rfl, rfl, rfl⟩, ⟨_, rfl, rfl, rfl⟩, ⟨_, rfl, rfl, rfl⟩, ⟨_, rfl, rfl, rfl⟩, Xth⟩
theorem Win : Zgh X.T 65 := ⟨52, 58, 52, ⟨_, rfl, rfl, rfl⟩, ⟨_, rfl, rfl, rfl⟩, Zsi, ⟨_, rfl, rfl, rfl⟩⟩
theorem Xzz : Zdi X.T 63 := ⟨3, 3, 4, 58, ⟨_, rfl, rfl, rfl⟩, ⟨_, rfl, rfl, rfl⟩, ⟨_, rfl, rfl, rfl⟩, ⟨_, rfl, rfl, rfl⟩, Zsi⟩
theorem Wtb : Ziq X.T 43 := ⟨5, 2, 39, 40, 41, 55, 63, 65, ⟨_, rfl, rfl, rfl⟩, ⟨_, rfl, rfl, rfl⟩, ⟨_, rfl, rfl, rfl⟩, ⟨_, rfl, rfl, rfl⟩, Wn7, ⟨_, rfl, rfl, rfl⟩, Xzz, ⟨_, rfl, rfl, rfl⟩, Win⟩
theorem Xhr : Zdh X.T 29 := ⟨5, 3, 3, 27, 43, ⟨_, rfl, rfl, rfl⟩, ⟨_, rfl, rfl, rfl⟩, ⟨_, rfl, rfl, rfl⟩, ⟨_, rfl, rfl, rfl⟩, ⟨_, rfl, rfl, rfl⟩, Wtb⟩
end Go.Proofs.YtheacfnopahmjaaGreatDoor

/- Yg of the proof. -/
namespace Go.AM
open Go
structure Has03 (PG:Za):Prop where
 f42:PG.fn 42=some Zdp
 f46:PG.fn 46=some Zgs
 f36:PG.fn 36=some Zi9
 f43:PG.fn 43=some Zd8
 f47:PG.fn 47=some Zg6
 f11:PG.fn 11=some Zh3
 f15:PG.fn 15=some Zer
 f21:PG.fn 21=some Zd9
 f25:PG.fn 25=some Zem
 f30:PG.fn 30=some Zb6
 f34:PG.fn 34=some Zgu
 f37:PG.fn 37=some Zg8
 f39:PG.fn 39=some Ag
 f45:PG.fn 45=some Ih
 f29:PG.fn 29=some Zc1
 f48:PG.fn 48=none
 o48 :∀(s:Zd) (c:UInt8),PG.orac 48 [.s s,.i .u8 (c.toNat:Int)]=some (.i .i64 (Lib.indexByte s c))
section
variable {PG:Za} (H:Has03 PG)
include H
theorem c30 {s b:Zd} (hs:s.length<=10000000) (hb:b.length<=1000000000):Ep PG 30 (b.map Yu) [.s s] ((b++quo s).map Yu):=by
 refine Cd.to ?_
 have hp:=p30 H.f30 (b0:=b) (s1:=s) (K:=fun x=>x=b++quo s) (by
  unfold Zl0 Zoz
  refine ⟨⟨by simp only [List.length_cons,List.length_nil,Wt];omega,by simp only [List.length_cons,List.length_nil,Wt];omega⟩,fun P hP=>?_⟩
  refine Dz (fun i=>b++34::Kh (s.take i)) s.length ?_ ?_
  ·apply hP
   unfold Zdc Zoq
   have h1:=Zrd (s.take s.length)
   simp only [List.take_length] at h1 ⊢
   refine ⟨fun h=>absurd h (by omega),fun _=>⟨⟨?_,?_⟩,?_⟩⟩
   ·simp only [List.length_append,List.length_cons,List.length_nil,Wt];omega
   ·simp only [List.length_append,List.length_cons,List.length_nil,Wt];omega
   ·simp only [quo,List.append_assoc,List.cons_append]
  ·intro i hi ih
   apply hP
   have h1:=Zrd (s.take i)
   have hc:=s[i].toNat_lt
   rw [Yrr hi] at ih
   rw [<- List.cons_append,<- List.append_assoc] at ih
   generalize hx:s[i]=c at ih hc
   have w1:Zak .u8 (c.toNat:Int) 4=((c.toNat / 16:Nat):Int):=by
    show (c.toNat:Int).fdiv 16=_
    rw [Int.fdiv_eq_ediv_of_nonneg _ (by omega)];omega
   have w2:Gl .u8 (c.toNat:Int) 15=((c.toNat % 16:Nat):Int):=by
    unfold Gl
    have hx:(BitVec.ofInt IntKind.u8.bits (c.toNat:Int) &&& BitVec.ofInt IntKind.u8.bits 15).toNat=c.toNat % 16:=by
     show (BitVec.ofInt 8 (c.toNat:Int) &&& BitVec.ofInt 8 15).toNat=c.toNat % 16
     rw [BitVec.toNat_and]
     have h1:(BitVec.ofInt 8 (c.toNat:Int)).toNat=c.toNat:=by
      simp
     rw [h1]
     exact Nat.and_two_pow_sub_one_eq_mod c.toNat 4
    rw [hx]
    exact Ztm (by omega) (by omega)
   have fit :∀x:Zd,x.length<=4->Qn ((b++34::Kh (s.take i)).length+x.length) 1:=by
    intro x hx
    simp only [List.length_take] at h1
    refine ⟨?_,?_⟩<;>(simp only [List.length_append,List.length_cons,Wt];omega)
   unfold Zdc So
   rw [My (by omega)]
   refine ⟨fun _=>⟨by omega,c,by rw [Gd,List.getElem?_eq_getElem hi,hx],?_⟩,fun h=>absurd (show (i:Int)<s.length by omega) h⟩
   simp only [w1,w2,Gd,Zjo (show c.toNat / 16<16 by omega),Zjo (show c.toNat % 16<16 by omega),Option.some.injEq,exists_eq_left']
   unfold Jn at ih
   refine ⟨fun h2=>⟨fit _ (by simp),?_⟩,fun h2=>⟨fun h3=>⟨fit _ (by simp),?_⟩,fun h3=>⟨fun h4=>⟨fit _ (by simp),?_⟩,fun h4=>⟨fun h5=>⟨by omega,by omega,fit _ (by simp),?_⟩,fun h5=>⟨fun h6=>⟨by omega,by omega,fit _ (by simp),?_⟩,fun h6=>⟨fit _ (by simp),?_⟩⟩⟩⟩⟩⟩
   ·rwa [if_pos (by omega)] at ih
   ·rwa [if_pos (by omega)] at ih
   ·rwa [if_neg (by omega),if_pos (by omega)] at ih
   ·rwa [if_neg (by omega),if_neg (by omega),if_pos (by omega)] at ih
   ·rwa [if_neg (by omega),if_neg (by omega),if_pos (by omega)] at ih
   ·rwa [if_neg (by omega),if_neg (by omega),if_neg (by omega)] at ih)
 intro d st o ha
 obtain ⟨o',st',rows',⟨x,rfl,rfl⟩,h1,h2⟩:=hp d st o ha
 exact ⟨o',st',_,rfl,h1,h2⟩
theorem c11 (s:Zd):Zf PG 11 [.s s] (.tup [.s (Nv s).1,.i .i64 (Nv s).2]):=by
 obtain ⟨x,y,⟨rfl,rfl⟩,h⟩:=p11 H.f11 (s0:=s) (K:=fun x y=>x=(Nv s).1/\y=(Nv s).2) (by
  unfold Zpr Nv
  refine ⟨fun h=>?_,fun h=>⟨_,c30 H (b:=[]) (s:=s) (by omega) (by simp),?_⟩⟩
  ·rw [if_pos (by omega)];exact ⟨rfl,rfl⟩
  ·rw [if_neg (by omega)];exact ⟨rfl,rfl⟩)
 exact h
theorem c34 {n b:Nat} (hb:2<=b) (hb':b<=16) (hn:n<18446744073709551616):Zf PG 34 [.i .u64 (n:Int),.i .u64 (b:Int)] (.s (Jl b n)):=by
 obtain ⟨x,rfl,h⟩:=p34 H.f34 (n0:=(n:Int)) (base1:=(b:Int)) (K:=fun x=>x=Jl b n) (by
  unfold Zsq
  intro P hP
  have key :∀f n',n'<b ^ f->0<f->n'<18446744073709551616->∀a:Nat,f<=a->a<=64->∀m:Zd,m.length=64->(ds b f n'++m.drop a=Jl b n)->P (n':Int) (a:Int) m:=by
   intro f
   induction f with
   | zero=>intro _ _ h;exact absurd h (Nat.lt_irrefl _)
   | succ f ih=>
    intro n' hf _ hn' a ha ha' m hm hd
    apply hP
    have e1:(n':Int).tmod (b:Int)=((n' % b:Nat):Int):=by rw [Int.tmod_eq_emod_of_nonneg (by omega)];omega
    have e2:(n':Int).tdiv (b:Int)=((n' / b:Nat):Int):=by rw [Int.tdiv_eq_ediv_of_nonneg (by omega)];omega
    have e3:IntKind.i64.wrap ((a:Int)-1)=((a-1:Nat):Int):=by rw [Yv (by omega) (by omega)];omega
    have hq:n' / b<=n':=Nat.div_le_self _ _
    have hr:n' % b<b:=Nat.mod_lt _ (by omega)
    have e4:IntKind.u64.wrap ((n' / b:Nat):Int)=((n' / b:Nat):Int):=Eu (by omega)
    have hset :∀c:UInt8,(m.set (a-1) c).drop (a-1)=c::m.drop a:=by
     intro c
     rw [List.drop_eq_getElem_cons (by simp;omega),List.getElem_set_self,List.drop_set_of_lt (by omega),show a-1+1=a by omega]
    unfold Zj1
    simp only [e1,e2,e3,e4,Gd,hset]
    refine ⟨by omega,by omega,Qa (n' % b),Zjo (by omega),by omega,by omega,by omega,by omega,fun h=>⟨by simp [hm],by omega,by omega,?_⟩,fun h=>?_⟩
    ·rw [<- hd]
     unfold ds
     have hz:n' / b=0:=by omega
     have hlt:n'<b:=by
      rcases Nat.lt_or_ge n' b with h | h
      ·exact h
      ·have:=Nat.div_pos h (by omega);omega
     rw [if_pos hlt,Nat.mod_eq_of_lt hlt]
     rfl
    ·have hz:n' / b≠0:=by omega
     have hlt:¬ n'<b:=fun h=>hz (Nat.div_eq_of_lt h)
     have h1:n' / b<b ^ f:=by
      rw [Nat.div_lt_iff_lt_mul (by omega)]
      rw [Nat.pow_succ] at hf
      exact hf
     have h2:0<f:=by
      rcases Nat.eq_zero_or_pos f with rfl | h
      ·simp at h1;omega
      ·exact h
     refine ih (n' / b) h1 h2 (by omega) (a-1) (by omega) (by omega) _ (by simp [hm]) ?_
     rw [hset,<- hd]
     conv=>rhs;unfold ds
     rw [if_neg hlt,List.append_assoc]
     rfl
  refine key 64 n ?_ (by omega) hn 64 (by omega) (by omega) _ (by simp) ?_
  ·calc n<2 ^ 64:=hn
    _<=b ^ 64:=Nat.pow_le_pow_left hb 64
  ·simp [Jl])
 exact h
theorem c15 {n:Int} (h1:-9223372036854775808<=n) (h2:n<9223372036854775808):Zf PG 15 [.i .i64 n] (.s (Xf n)):=by
 obtain ⟨x,rfl,h⟩:=p15 H.f15 (n0:=n) (K:=fun x=>x=Xf n) (by
  unfold Zs9
  refine ⟨fun h=>?_,fun h=>?_⟩
  ·have e:IntKind.u64.wrap (0-(IntKind.u64.wrap n))=(((-n).toNat:Nat):Int):=by rw [IntKind.wrap_u64,IntKind.wrap_u64];omega
   rw [e]
   refine ⟨_,c34 H (b:=10) (by omega) (by omega) (by omega),?_,?_⟩
   ·have:=La 10 64 (-n).toNat
    simp only [Jl,List.length_cons,List.length_nil,Uq];omega
   ·unfold Xf;rw [if_pos h];rfl
  ·have e:IntKind.u64.wrap n=((n.toNat:Nat):Int):=by rw [IntKind.wrap_u64];omega
   rw [e]
   refine ⟨_,c34 H (b:=10) (by omega) (by omega) (by omega),?_⟩
   unfold Xf;rw [if_neg h])
 exact h
end
end Go.AM

/- Yg of the proof. -/
namespace Go.AM
open Go
def Zp (p s:Zd):Zd × Bool:=if s.take p.length=p then (s.drop p.length,true) else (s,false)
def Qd (s:Zd) (c:Int) (r:Zd) (ok:Bool):Prop:=match Dr s with | some (x,y)=>c=(x.toNat:Int)/\r=y/\ok=true | none=>ok=false
theorem Qd.yes {s:Zd} {x:UInt8} {y:Zd} {c:Int} (h:Dr s=some (x,y)) (hc:c=(x.toNat:Int)):Qd s c y true:=by
 unfold Qd;rw [h];exact ⟨hc,rfl,rfl⟩
theorem Qd.no {s:Zd} {c:Int} {y:Zd} (h:Dr s=none):Qd s c y false:=by
 unfold Qd;rw [h]
section
variable {PG:Za} (H:Has03 PG)
include H
theorem c46 (s p:Zd):Zf PG 46 [.s s,.s p] (.b (decide (s.take p.length=p))):=by
 obtain ⟨x,rfl,h⟩:=p46 H.f46 (s0:=s) (prefix1:=p) (K:=fun x=>x=decide (s.take p.length=p)) (by
  unfold Zrx
  refine ⟨fun h=>⟨by omega,by omega,rfl⟩,fun h=>?_⟩
  refine (decide_eq_false fun h1=>?_).symm
  have:=congrArg List.length h1
  simp only [List.length_take] at this
  omega)
 exact h
theorem c42 (s p:Zd):Zf PG 42 [.s s,.s p] (.tup [.s (Zp p s).1,.b (Zp p s).2]):=by
 obtain ⟨x,y,⟨rfl,rfl⟩,h⟩:=p42 H.f42 (s0:=s) (prefix1:=p) (K:=fun x y=>x=(Zp p s).1/\y=(Zp p s).2) (by
  unfold Zpg Zp
  refine ⟨_,c46 H s p,fun h=>?_,fun h=>?_⟩
  ·have h1:¬ s.take p.length=p:=by simpa using h
   rw [if_neg h1];exact ⟨rfl,rfl⟩
  ·have h1:s.take p.length=p:=by simpa using h
   have h2:=congrArg List.length h1
   simp only [List.length_take] at h2
   rw [if_pos h1];exact ⟨by omega,by omega,rfl,rfl⟩)
 exact h
theorem Fx (s p:Zd):Zf PG 36 [.s s,.s p] (.tup [.s (Zp p s).1,.b (Zp p s).2]):=by
 obtain ⟨x,y,⟨rfl,rfl⟩,h⟩:=p36 H.f36 (s0:=s) (prefix1:=p) (K:=fun x y=>x=(Zp p s).1/\y=(Zp p s).2) (by
  unfold Zmr
  exact ⟨_,_,c42 H s p,rfl,rfl⟩)
 exact h
theorem c47 (s:Zd) (c:UInt8):Zf PG 47 [.s s,.i .u8 (c.toNat:Int)] (.i .i64 (Lib.indexByte s c)):=by
 obtain ⟨x,rfl,h⟩:=p47 H.f47 (s0:=s) (c1:=(c.toNat:Int)) (K:=fun x=>x=Lib.indexByte s c) (by
  unfold Zno
  exact ⟨_,Zf.orac H.f48 (H.o48 s c) rfl,rfl⟩)
 exact h
theorem c43 (s:Zd) (c:UInt8):Zf PG 43 [.s s,.i .u8 (c.toNat:Int)] (.i .i64 (Lib.indexByte s c)):=by
 obtain ⟨x,rfl,h⟩:=p43 H.f43 (s0:=s) (c1:=(c.toNat:Int)) (K:=fun x=>x=Lib.indexByte s c) (by
  unfold Zj7
  exact ⟨_,c47 H s c,rfl⟩)
 exact h
theorem c37 {b most:Nat} (hb:2<=b) (hb':b<=16) (hm:16<=most) (hm':most<18446744073709551616) {s:Zd} (hs:s.length<=10000000):Zf PG 37 [.s s,.i .u64 (b:Int),.i .u64 (most:Int)] (.tup [.i .u64 ((rd b most s).1:Int),.i .i64 (rd b most s).2]):=by
 obtain ⟨x,y,⟨rfl,rfl⟩,h⟩:=p37 H.f37 (s0:=s) (base1:=(b:Int)) (most2:=(most:Int)) (K:=fun x y=>x=((rd b most s).1:Int)/\y=(rd b most s).2) (by
  unfold Zsu Zv6 Znf
  intro P hP
  have key :∀m i:Nat,i+m=s.length->Dm b (s.take i)=true->(2<=i->s.head?≠some 48)->∀(n:Nat) (far:Bool),(far=false->n=Yz b (s.take i)/\n<=most)->(far=true->most<Yz b (s.take i))->P (n:Int) far (i:Int):=by
   intro m
   induction m with
   | zero=>
    intro i hi ho h48 n far h0 h1
    simp only [Nat.add_zero] at hi
    subst hi
    rw [List.take_length] at ho h0 h1
    apply hP
    unfold Zi7 Zps
    refine ⟨fun h=>absurd h (by omega),fun _=>⟨fun h=>?_,fun h=>?_⟩⟩
    ·subst h;exact ⟨rfl,rfl⟩
    ·have hbad:Rv b s=false:=by
      unfold Rv
      rw [decide_eq_false h,ho]
      simp only [Bool.false_or,Bool.not_true]
      by_cases h2:1<s.length
      ·rw [decide_eq_false (h48 h2),Bool.and_false]
      ·rw [decide_eq_false h2,Bool.false_and]
     refine ⟨fun hf=>?_,fun hf=>?_⟩
     ·unfold rd
      rw [if_neg (by rw [hbad];decide),if_pos (h1 hf)]
      exact ⟨rfl,rfl⟩
     ·obtain ⟨h2,h3⟩:=h0 hf
      unfold rd
      rw [if_neg (by rw [hbad];decide),if_neg (by omega),h2]
      exact ⟨rfl,rfl⟩
   | succ m ih=>
    intro i hi ho h48 n far h0 h1
    have hil:i<s.length:=by omega
    have hd:=Zb1 hb' s[i]
    have hv:=Was (b:=b) hil
    have hk:=Xji (b:=b) hil
    have bad12:Rv b s=true->(0:Int)=((rd b most s).1:Int)/\(12:Int)=(rd b most s).2:=by
     intro h
     unfold rd
     rw [if_pos h]
     exact ⟨rfl,rfl⟩
    apply hP
    unfold Zi7 Sk
    refine ⟨fun _=>⟨by omega,by rw [Gd];exact hb',by omega,s[i],by rw [Gd,List.getElem?_eq_getElem hil],dv b s[i],c43 H _ _,fun h=>?_,fun h=>?_⟩,fun h=>absurd h (by omega)⟩
    ·refine bad12 ?_
     unfold Rv
     rw [Wpq hil h]
     simp
    ·have hd0:0<=dv b s[i]:=by omega
     rw [ho,decide_eq_true hd0,Bool.and_true] at hk
     generalize hdd:(dv b s[i]).toNat=d at hv
     have hdi:dv b s[i]=(d:Int):=by omega
     have e1:IntKind.u64.wrap (dv b s[i])=(d:Int):=by rw [hdi];exact Eu (by omega)
     have e2:IntKind.u64.wrap ((most:Int)-(d:Int))=((most-d:Nat):Int):=by rw [Zbj (by omega) (by omega)];omega
     have e3:(((most-d:Nat):Int)).tdiv (b:Int)=(((most-d) / b:Nat):Int):=by rw [Int.tdiv_eq_ediv_of_nonneg (by omega)];omega
     have hq:(most-d) / b<=most-d:=Nat.div_le_self _ _
     have e4:IntKind.u64.wrap (((most-d) / b:Nat):Int)=(((most-d) / b:Nat):Int):=Eu (by omega)
     have hfi:=Yut (n:=n) (show 0<b by omega) (show d<=most by omega)
     rw [My (by omega)]
     simp only [e1,e2,e3,e4]
     have go:(2<=i+1->s.head?≠some 48)->(far=true->P (n:Int) true ((i+1:Nat):Int))/\(far=false->(b:Int)≠0/\(¬((n:Int)>(((most-d) / b:Nat):Int))->P (IntKind.u64.wrap ((IntKind.u64.wrap ((n:Int)*(b:Int)))+(d:Int))) (decide ((n:Int)>(((most-d) / b:Nat):Int))) ((i+1:Nat):Int))/\(¬(¬((n:Int)>(((most-d) / b:Nat):Int)))->P (n:Int) (decide ((n:Int)>(((most-d) / b:Nat):Int))) ((i+1:Nat):Int))):=by
      intro h2
      refine ⟨fun hf=>?_,fun hf=>⟨by omega,fun h3=>?_,fun h3=>?_⟩⟩
      ·refine ih (i+1) (by omega) hk h2 n true (fun h=>by cases h) fun _=>?_
       rw [hv]
       have h4:=h1 hf
       have:Yz b (s.take i)<=Yz b (s.take i)*b:=Nat.le_mul_of_pos_right _ (by omega)
       omega
      ·obtain ⟨h4,h5⟩:=h0 hf
       have h6:n*b+d<=most:=by
        have:¬ (most-d) / b<n:=by omega
        rw [hfi] at this
        omega
       have hnb:(n:Int)*(b:Int)=((n*b:Nat):Int):=by rw [Int.natCast_mul]
       have e5:IntKind.u64.wrap ((n:Int)*(b:Int))=((n*b:Nat):Int):=by rw [hnb];exact Eu (by omega)
       have e6:IntKind.u64.wrap (((n*b:Nat):Int)+(d:Int))=((n*b+d:Nat):Int):=by rw [Zbj (by omega) (by omega)];omega
       rw [e5,e6,decide_eq_false h3]
       refine ih (i+1) (by omega) hk h2 _ false (fun _=>⟨?_,h6⟩) fun h=>by cases h
       rw [hv,h4]
      ·have h3':(n:Int)>(((most-d) / b:Nat):Int):=by omega
       obtain ⟨h4,h5⟩:=h0 hf
       rw [decide_eq_true h3']
       refine ih (i+1) (by omega) hk h2 n true (fun h=>by cases h) fun _=>?_
       rw [hv,<- h4]
       exact hfi.1 (Int.ofNat_lt.1 h3')
     have hd0:s.head?=s[0]?:=List.head?_eq_getElem?
     refine ⟨fun hi1=>?_,fun hi1=>?_⟩
     ·have h0s:s[0]?=some s[0]:=List.getElem?_eq_getElem (by omega)
      refine ⟨s[0],h0s,fun h2=>?_,fun h2=>?_⟩
      ·refine bad12 ?_
       have h3:s[0]=48:=Do (by have e:(48:UInt8).toNat=48:=rfl;omega)
       unfold Rv
       rw [decide_eq_true (show 1<s.length by omega),decide_eq_true (show s.head?=some 48 by rw [hd0,h0s,h3])]
       simp
      ·refine go fun _=>?_
       rw [hd0,h0s]
       intro h3
       injection h3 with h3
       exact h2 (by rw [h3];rfl)
     ·refine go fun h2=>?_
      have h3:i≠1:=by omega
      have h4:i≠0:=by omega
      exact h48 (by omega)
  exact key s.length 0 (by omega) rfl (by omega) 0 false (fun _=>⟨rfl,by omega⟩) fun h=>by cases h)
 exact h
theorem c21 (s:Zd):Zf PG 21 [.s s] (.tup [.i .i64 (Wj s).1,.i .i64 (Wj s).2]):=by
 obtain ⟨x,y,⟨rfl,rfl⟩,h⟩:=p21 H.f21 (s0:=s) (K:=fun x y=>x=(Wj s).1/\y=(Wj s).2) (by
  unfold Zqq El
  refine ⟨fun h=>by unfold Wj;rw [if_pos (by omega)];exact ⟨rfl,rfl⟩,fun hs=>⟨_,_,Fx H s [45],?_⟩⟩
  unfold Wj
  rw [if_neg (by omega)]
  by_cases hm:s.take 1=[45]
  ·have ec:Zp [45] s=(s.drop 1,true):=by unfold Zp;rw [if_pos (by exact hm)];rfl
   rw [ec,if_pos hm]
   refine ⟨fun h=>by simp at h,fun _=>?_⟩
   have hl:=Zgn 10 9223372036854775808 (s.drop 1)
   refine ⟨_,_,c37 H (b:=10) (most:=9223372036854775808) (by omega) (by omega) (by omega) (by omega) (s:=s.drop 1) (by simp;omega),fun h=>⟨fun h0=>?_,fun h0=>?_⟩,fun h=>?_⟩
   ·have e:(rd 10 9223372036854775808 (s.drop 1)).1=0:=by omega
    rw [if_pos ⟨h,e⟩,e]
    exact ⟨rfl,rfl⟩
   ·rw [if_neg (fun hh=>h0 (by rw [hh.2];rfl))]
    refine ⟨?_,rfl⟩
    rw [IntKind.wrap_u64,IntKind.wrap_i64]
    simp only
    omega
   ·have e:=Xig h
    rw [if_neg (fun hh=>h hh.1),e]
    exact ⟨rfl,rfl⟩
  ·have ec:Zp [45] s=(s,false):=by unfold Zp;rw [if_neg (by exact hm)]
   rw [ec,if_neg hm]
   refine ⟨fun _=>?_,fun h=>by simp at h⟩
   have hl:=Zgn 10 9223372036854775807 s
   exact ⟨_,_,c37 H (b:=10) (most:=9223372036854775807) (by omega) (by omega) (by omega) (by omega) (s:=s) (by omega),Yv (by omega) (by omega),rfl⟩)
 exact h
theorem c45 (s:Zd) :∃c r ok,Qd s c r ok/\Zf PG 45 [.s s] (.tup [.i .u8 c,.s r,.b ok]):=by
 refine p45 H.f45 (s0:=s) (K:=Qd s) ?_
 unfold Zut Zuf
 refine ⟨fun h=>by subst h;exact Qd.no rfl,fun h=>?_⟩
 cases s with
 | nil=>exact absurd rfl h
 | cons c r=>
  have lit :∀{n:Nat} (_:n<256),(UInt8.ofNat n).toNat=n:=by intro n hn;simp;omega
  unfold Zls
  refine ⟨c,rfl,?_⟩
  have t4:Zaa PG (Qd (c::r)) (c::r) (c.toNat:Int) (decide (c.toNat=34\/c.toNat=92)):=by
   unfold Zaa
   refine ⟨fun h1=>⟨c,rfl,by simp,?_⟩,fun h1=>?_⟩
   ·have h1:=of_decide_eq_true h1
    exact Qd.yes (show (if c.toNat=34\/c.toNat=92 then some (c,r) else _)=some (c,r) from if_pos h1) rfl
   ·have h1:=of_decide_eq_false h1
    have e0:Dr (c::r)=if c.toNat=110 then some (10,r) else if c.toNat=120 then Pb r else none:=by
     show (if c.toNat=34\/c.toNat=92 then some (c,r) else if c.toNat=110 then some (10,r) else if c.toNat=120 then Pb r else none)=_
     rw [if_neg h1]
    refine ⟨fun h2=>⟨by simp,?_⟩,fun h2=>⟨fun h3=>?_,fun h3=>?_⟩⟩
    ·exact Qd.yes (by rw [e0,if_pos (by omega)];rfl) rfl
    ·have e:Dr (c::r)=Pb r:=by rw [e0,if_neg (by omega),if_pos (by omega)]
     refine ⟨fun h4=>?_,fun h4=>?_⟩
     ·refine Qd.no ?_
      rw [e]
      match r,h4 with
      | [],_=>rfl
      | [a],_=>rfl
      | a::b::r',h4=>simp at h4;omega
     ·match r,h4,e with
      | [],h4,_=>exact absurd (by simp) h4
      | [a],h4,_=>exact absurd (by simp) h4
      | a::b::r',_,e=>
       have la:=Zb1 (b:=16) (by omega) a
       have lb:=Zb1 (b:=16) (by omega) b
       have ca:Zf PG 43 [.s Bd,.i .u8 (a.toNat:Int)] (.i .i64 (dv 16 a)):=c43 H Bd a
       have cb:Zf PG 43 [.s Bd,.i .u8 (b.toNat:Int)] (.i .i64 (dv 16 b)):=c43 H Bd b
       refine ⟨a,rfl,_,ca,b,rfl,_,cb,by simp,?_⟩
       simp only [Pb] at e
       by_cases hv:0<=dv 16 a/\0<=dv 16 b
       ·have hw:IntKind.u8.wrap (IntKind.i64.wrap ((IntKind.i64.wrap (16*dv 16 a))+dv 16 b))=16*dv 16 a+dv 16 b:=by
         rw [Yv (z:=16*dv 16 a) (by omega) (by omega),Yv (by omega) (by omega),Ztm (by omega) (by omega)]
        have en:=lit (n:=(16*dv 16 a+dv 16 b).toNat) (by omega)
        rw [hw]
        refine ⟨fun _=>⟨fun _=>⟨fun h5=>⟨fun h6=>?_,fun h6=>?_⟩,fun h5=>?_⟩,fun h5=>absurd hv.2 h5⟩,fun h5=>absurd hv.1 h5⟩
        ·rw [if_pos ⟨hv.1,hv.2,by omega,by omega⟩] at e
         exact Qd.yes e (by rw [en];omega)
        ·by_cases h7:126<16*dv 16 a+dv 16 b
         ·rw [if_pos ⟨hv.1,hv.2,by omega,by omega⟩] at e
          rw [decide_eq_true h7]
          exact Qd.yes e (by rw [en];omega)
         ·rw [if_neg (by omega)] at e
          rw [decide_eq_false h7]
          exact Qd.no e
        ·rw [if_neg (by omega)] at e
         exact Qd.no e
       ·rw [if_neg (by omega)] at e
        exact ⟨fun h5=>⟨fun h6=>absurd ⟨h5,h6⟩ hv,fun _=>Qd.no e⟩,fun _=>Qd.no e⟩
    ·exact Qd.no (by rw [e0,if_neg (by omega),if_neg (by omega)])
  unfold Zre
  refine ⟨fun h1=>?_,fun h1=>?_⟩
  ·rw [show decide ((c.toNat:Int)=34)=decide (c.toNat=34\/c.toNat=92) from decide_eq_decide.2 (by omega)]
   exact t4
  ·rw [show decide ((c.toNat:Int)=92)=decide (c.toNat=34\/c.toNat=92) from decide_eq_decide.2 (by omega)]
   exact t4
theorem c39 {s:Zd} (hs:s.length<=10000000):Zf PG 39 [.s s] (.tup [.s (Ds s).1,.s (Ds s).2.1,.b (Ds s).2.2]):=by
 obtain ⟨x,y,z,⟨rfl,rfl,rfl⟩,h⟩:=p39 H.f39 (s0:=s) (K:=fun x y z=>x=(Ds s).1/\y=(Ds s).2.1/\z=(Ds s).2.2) (by
  have no:Mf s=none->([]:Zd)=(Ds s).1/\([]:Zd)=(Ds s).2.1/\false=(Ds s).2.2:=by
   intro h
   unfold Ds
   rw [h]
   exact ⟨rfl,rfl,rfl⟩
  unfold Zl6 Zrj
  refine ⟨_,_,Fx H s [34],?_⟩
  cases s with
  | nil=>
   rw [show Zp [34] []=([],false) from rfl]
   exact ⟨fun _=>no rfl,fun h=>by simp at h⟩
  | cons q s=>
   by_cases hq:q.toNat=34
   ·have hq':q=34:=Do hq
    subst hq'
    have ec:Zp [34] (34::s)=(s,true):=by unfold Zp;rw [if_pos (show List.take ([34]:Zd).length (34::s)=[34] from rfl)];rfl
    rw [ec]
    refine ⟨fun h=>by simp at h,fun _ P hP=>?_⟩
    have hn:Mf (34::s)=Ch (s.length+1) [] s:=by
     simp only [Mf]
     rw [if_pos hq]
    have key :∀n b r,r.length<n->b.length+r.length<=10000000->Ch n b r=Mf (34::s)->P r b:=by
     intro n
     induction n with
     | zero=>intro b r h;exact absurd h (Nat.not_lt_zero _)
     | succ n ih=>
      intro b r hr hb hx
      apply hP
      unfold Zpf
      cases r with
      | nil=>exact ⟨fun h=>absurd rfl h,fun _=>no (by rw [<- hx];rfl)⟩
      | cons c r=>
       simp only [Ch] at hx
       refine ⟨fun _=>⟨c,rfl,by simp,fun h1=>?_,fun h1=>⟨fun h2=>?_,fun h2=>⟨fun h3=>?_,fun h3=>⟨fun h4=>?_,fun h4=>?_⟩⟩⟩⟩,fun h=>absurd (by simp) h⟩
       ·rw [if_pos (by omega)] at hx
        unfold Ds
        rw [<- hx]
        exact ⟨rfl,rfl,rfl⟩
       ·refine no ?_
        rw [<- hx,if_neg (by omega),show one (c::r)=none by simp only [one];rw [if_pos (by omega)]]
       ·refine no ?_
        rw [<- hx,if_neg (by omega),show one (c::r)=none by simp only [one];rw [if_pos (by omega)]]
       ·rw [if_neg (by omega),show one (c::r)=Dr r by simp only [one];rw [if_neg (by omega),if_pos (by omega)]] at hx
        obtain ⟨a,r',ok,hk,hp⟩:=c45 H r
        refine ⟨a,r',ok,hp,fun h5=>?_,fun h5=>?_⟩
        ·unfold Qd at hk
         cases he:Dr r with
         | none=>rw [he] at hx;exact no hx.symm
         | some p=>
          rw [he] at hk
          obtain ⟨_,_,hk⟩:=hk
          rw [hk] at h5
          exact absurd h5 (by decide)
        ·unfold Qd at hk
         cases he:Dr r with
         | none=>
          rw [he] at hk
          simp only at hk
          rw [hk] at h5
          exact absurd h5 (by decide)
         | some p=>
          obtain ⟨u,v⟩:=p
          rw [he] at hk hx
          obtain ⟨h6,h7,h8⟩:=hk
          simp only at hx h6 h7
          subst h6;subst h7
          have hl:r'.length<(c::r).length:=Yni (c:=u) (by simp only [one];rw [if_neg (by omega),if_pos (by omega)];exact he)
          simp only [List.length_cons] at hl hb hr
          unfold Zb7
          refine ⟨u,rfl,⟨?_,?_⟩,ih _ _ (by omega) ?_ hx⟩
          ·simp only [List.length_cons,List.length_nil,Wt];omega
          ·simp only [List.length_cons,List.length_nil,Wt];omega
          ·simp only [List.length_append,List.length_cons,List.length_nil];omega
       ·rw [if_neg (by omega),show one (c::r)=some (c,r) by simp only [one];rw [if_neg (by omega),if_neg (by omega)]] at hx
        simp only [List.length_cons] at hb hr
        unfold Zb7
        refine ⟨c,rfl,⟨?_,?_⟩,ih _ _ (show r.length<n by omega) ?_ hx⟩
        ·simp only [List.length_cons,List.length_nil,Wt];omega
        ·simp only [List.length_cons,List.length_nil,Wt];omega
        ·simp only [List.drop_succ_cons,List.drop_zero,List.length_append,List.length_cons,List.length_nil];omega
    exact key (s.length+1) [] s (by omega) (by simp at hs ⊢;omega) hn.symm
   ·have ec:Zp [34] (q::s)=(q::s,false):=by
     unfold Zp
     rw [if_neg ?_]
     intro h
     injection h with h
     exact hq (by rw [h];rfl)
    rw [ec]
    refine ⟨fun _=>no ?_,fun h=>by simp at h⟩
    simp only [Mf]
    rw [if_neg hq])
 exact h
theorem c25 (s:Zd):Zf PG 25 [.s s] (.tup [.s (Nw s).1,.i .i64 (Nw s).2]):=by
 obtain ⟨x,y,⟨rfl,rfl⟩,h⟩:=p25 H.f25 (s0:=s) (K:=fun x y=>x=(Nw s).1/\y=(Nw s).2) (by
  unfold Ztk Nw
  refine ⟨fun h=>by rw [if_pos (by omega)];exact ⟨rfl,rfl⟩,fun hs=>⟨_,_,_,c39 H (by omega),?_⟩⟩
  rw [if_neg (by omega)]
  unfold Ds
  cases Mf s with
  | none=>exact ⟨fun _=>⟨rfl,rfl⟩,fun h=>by simp at h⟩
  | some p=>
   obtain ⟨x,r⟩:=p
   refine ⟨fun h=>by simp at h,fun _=>⟨fun h=>?_,fun h=>?_⟩⟩
   ·cases r with
    | nil=>exact absurd rfl h
    | cons c r=>exact ⟨rfl,rfl⟩
   ·have h:r=[]:=Classical.not_not.1 h
    subst h
    refine ⟨fun h=>?_,fun h=>?_⟩
    ·simp only at h ⊢
     rw [if_pos (by omega)];exact ⟨rfl,rfl⟩
    ·simp only at h ⊢
     rw [if_neg (by omega)];exact ⟨rfl,rfl⟩)
 exact h
theorem c29 {a b:List Zd} (ha:a.length<=1000000000):Zf PG 29 [.sl .ext (a.map Zv),.sl .ext (b.map Zv)] (.b (decide (a=b))):=by
 obtain ⟨x,rfl,h⟩:=p29 H.f29 (a0:=a) (b1:=b) (K:=fun x=>x=decide (a=b)) (by
  unfold Zmx
  refine ⟨fun h=>(decide_eq_false fun e=>h (by rw [e])).symm,fun hl P hP=>?_⟩
  have hlen:a.length=b.length:=by omega
  have key :∀m i:Nat,i+m=a.length->(∀j,j<i->a[j]?=b[j]?)->P (i:Int):=by
   intro m
   induction m with
   | zero=>
    intro i hi hj
    apply hP
    unfold Zh1 Zs3
    refine ⟨fun h=>absurd h (by omega),fun _=>(decide_eq_true ?_).symm⟩
    apply List.ext_getElem?
    intro j
    rcases Nat.lt_or_ge j i with h | h
    ·exact hj j h
    ·rw [List.getElem?_eq_none (by omega),List.getElem?_eq_none (by omega)]
   | succ m ih=>
    intro i hi hj
    have h1:i<a.length:=by omega
    have h2:i<b.length:=by omega
    apply hP
    unfold Zh1
    refine ⟨fun _=>⟨by omega,a[i],by rw [Gd,List.getElem?_eq_getElem h1],by omega,b[i],by rw [Gd,List.getElem?_eq_getElem h2],fun h=>?_,fun h=>?_⟩,fun h=>absurd h (by omega)⟩
    ·refine (decide_eq_false fun e=>h ?_).symm
     subst e
     rfl
    ·rw [My (by omega)]
     refine ih (i+1) (by omega) fun j hj'=>?_
     rcases Nat.lt_or_ge j i with h3 | h3
     ·exact hj j h3
     ·have:j=i:=by omega
      subst this
      rw [List.getElem?_eq_getElem h1,List.getElem?_eq_getElem h2,Classical.not_not.1 h]
  exact key a.length 0 (by omega) (by simp))
 exact h
end
end Go.AM

/- Yg of the proof. -/
namespace Go.AM
open Go
def Gb (c:UInt8):Bool:=decide (48<=c.toNat)&&decide (c.toNat<=57)
def Qu:Zd->Nat
 | []=>0
 | c::s=>if Gb c=true then 1+Qu s else 0
def Jr (s:Zd):Nat:=if s.head?=some 45 then 1+Qu (s.drop 1) else Qu s
theorem Zum :∀s:Zd,Qu s<=s.length
 | []=>Nat.le_refl _
 | c::s=>by
  have:=Zum s
  rw [Qu,List.length_cons]
  split<;>omega
theorem Xjj (s:Zd):Jr s<=s.length:=by
 unfold Jr
 cases s with
 | nil=>simp [Qu]
 | cons c s=>
  have h1:=Zum s
  have h2:=Zum (c::s)
  split
  ·simp only [List.drop_succ_cons,List.drop_zero,List.length_cons];omega
  ·exact h2
def qs:Zd->Option Nat
 | []=>none
 | c::r=>if c=92 then (match r with | []=>none | _::r'=>(qs r').map (·+2)) else if c=34 then some 1 else (qs r).map (·+1)
def Ku (s:Zd):Int × Bool × Zd:=((Wj (s.take (Jr s))).1,decide ((Wj (s.take (Jr s))).2=0),s.drop (Jr s))
def Gv (s:Zd):Zd × Bool × Zd:=match qs (s.drop 1) with
 | none=>([],false,s)
 | some k=>((Nw (s.take (k+1))).1,decide ((Nw (s.take (k+1))).2=0),s.drop (k+1))
def Ha (f:Zd->Zb × Bool × Zd) (kind:Int) (stop:Zd):Nat->List Zb->Zd->Zb × Bool × Zd
 | 0,acc,s=>(Zb.mk kind 0 [] acc false,false,s)
 | k+1,acc,s=>if (f s).2.1=false then (Zb.mk kind 0 [] acc false,false,(f s).2.2) else
   if (Zp stop (f s).2.2).2=true then (Zb.mk kind 0 [] (acc++[(f s).1]) false,true,(Zp stop (f s).2.2).1) else
   if (Zp [44,32] (Zp stop (f s).2.2).1).2=false then (Zb.mk kind 0 [] (acc++[(f s).1]) false,false,(Zp [44,32] (Zp stop (f s).2.2).1).1) else
   Ha f kind stop k (acc++[(f s).1]) (Zp [44,32] (Zp stop (f s).2.2).1).1
def Uk (f:Zd->Zb × Bool × Zd) (kind:Int) (stop s:Zd):Zb × Bool × Zd:=
 if (Zp stop s).2=true then (Zb.mk kind 0 [] [] false,true,(Zp stop s).1) else Ha f kind stop 17 [] (Zp stop s).1
def Jk:Nat->Zd->Zb × Bool × Zd
 | 0,s=>(vz,false,s)
 | d+1,s=>if s=[] then (vz,false,s) else
   if (Zp Qz s).2=true then (Zb.mk 1 1 [] [] false,true,(Zp Qz s).1) else
   if (Zp Qg s).2=true then (Zb.mk 1 0 [] [] false,true,(Zp Qg s).1) else
   if (Zp Qy s).2=true then (Zb.mk 4 0 [] [] false,true,(Zp Qy s).1) else
   if (Zp Qw s).2=true then (Zb.mk 4 0 [] [] true,true,(Zp Qw s).1) else
   if (Zp Uu s).2=true then (Zb.mk 7 0 [] [] true,true,(Zp Uu s).1) else
   if (Zp [38] s).2=true then (Zb.mk 4 0 [] [(Jk d (Zp [38] s).1).1] false,(Jk d (Zp [38] s).1).2) else
   if (Zp [123] s).2=true then Uk (Jk d) 5 [125] (Zp [123] s).1 else
   if (Zp [91] s).2=true then Uk (Jk d) 6 [93] (Zp [91] s).1 else
   if (Zp [60] s).2=true then Uk (Jk d) 7 [62] (Zp [60] s).1 else
   if s.head?=some 34 then (Zb.mk 3 0 (Gv s).1 [] false,(Gv s).2) else
   (Zb.mk 2 (Ku s).1 [] [] false,(Ku s).2)
theorem Nf {p s:Zd} (h:(Zp p s).2=false):(Zp p s).1=s:=by
 unfold Zp at h ⊢
 split
 ·rename_i h1;rw [if_pos h1] at h;cases h
 ·rfl
theorem Kg (p s:Zd):Zp p (p++s)=(s,true):=by
 unfold Zp
 rw [if_pos (by simp),List.drop_left]
theorem Ek {c d:UInt8} {p s:Zd} (h:c≠d):Zp (c::p) (d::s)=(d::s,false):=by
 unfold Zp
 rw [if_neg]
 simp only [List.length_cons,List.take_succ_cons,List.cons.injEq]
 rintro ⟨rfl,_⟩
 exact h rfl
theorem Zd0 (c:UInt8) (p s:Zd):Zp (c::p) (c::s)=if (Zp p s).2=true then ((Zp p s).1,true) else (c::s,false):=by
 unfold Zp
 simp only [List.length_cons,List.take_succ_cons,List.cons.injEq,true_and,List.drop_succ_cons]
 split<;>simp_all
theorem Zyf (s:Zd):-9223372036854775808<=(Wj s).1/\(Wj s).1<9223372036854775808:=by
 have h1:=Zgn 10 9223372036854775808 (s.drop 1)
 have h2:=Zgn 10 9223372036854775807 s
 unfold Wj
 split
 ·exact ⟨by decide,by decide⟩
 split
 ·split
  ·exact ⟨by decide,by decide⟩
  ·dsimp only
   omega
 ·dsimp only
  omega
theorem Wf.ite {c:Prop} [Decidable c] {a b:Zb × Bool × Zd} (ha:Wf a.1) (hb:Wf b.1):Wf (if c then a else b).1:=by
 split
 ·exact ha
 ·exact hb
theorem Zvr {f:Zd->Zb × Bool × Zd} {kind:Int} {stop:Zd} (hk:0<=kind/\kind<256) (hf :∀s,Wf (f s).1) :∀(n:Nat) (acc:List Zb) (s:Zd),n<=17->acc.length+n=17->(∀x∈acc,Wf x)->Wf (Ha f kind stop n acc s).1
 | 0,acc,s,_,hl,h=>by
  rw [Ha]
  exact .mk hk (by decide) (by omega) h
 | n+1,acc,s,hn,hl,h=>by
  have h1 :∀x∈acc++[(f s).1],Wf x:=by
   intro x hx
   rcases List.mem_append.1 hx with hx | hx
   ·exact h x hx
   ·rw [List.mem_singleton.1 hx];exact hf s
  rw [Ha]
  split
  ·exact .mk hk (by decide) (by omega) h
  ·split
   ·exact .mk hk (by decide) (by simp;omega) h1
   ·split
    ·exact .mk hk (by decide) (by simp;omega) h1
    ·exact Zvr hk hf n _ _ (by omega) (by simp;omega) h1
theorem Zjk {f:Zd->Zb × Bool × Zd} {kind:Int} {stop s:Zd} (hk:0<=kind/\kind<256) (hf :∀s,Wf (f s).1):Wf (Uk f kind stop s).1:=by
 unfold Uk
 split
 ·exact .mk hk (by decide) (by decide) (by simp)
 ·exact Zvr hk hf 17 [] _ (by omega) rfl (by simp)
theorem Cv :∀(d:Nat) (s:Zd),Wf (Jk d s).1
 | 0,s=>Wf.zero
 | d+1,s=>by
  have w0 :∀(k n:Int) (c:Bool),0<=k/\k<256->-9223372036854775808<=n/\n<9223372036854775808->Wf (Zb.mk k n [] [] c):=fun k n c h1 h2=>.mk h1 h2 (by decide) (by simp)
  rw [Jk]
  exact .ite Wf.zero (.ite (w0 _ _ _ (by decide) (by decide)) (.ite (w0 _ _ _ (by decide) (by decide)) (.ite (w0 _ _ _ (by decide) (by decide)) (.ite (w0 _ _ _ (by decide) (by decide)) (.ite (w0 _ _ _ (by decide) (by decide))
   (.ite (.mk (by decide) (by decide) (by simp) (fun x hx=>by rw [List.mem_singleton.1 hx];exact Cv d _)) (.ite (Zjk (by decide) (Cv d)) (.ite (Zjk (by decide) (Cv d)) (.ite (Zjk (by decide) (Cv d))
   (.ite (.mk (by decide) (by decide) (by simp) (by simp)) (.mk (by decide) (Zyf _) (by simp) (by simp))))))))))))
def Stop (r:Zd):Prop:=∀c,r.head?=some c->c=44\/c=125\/c=93\/c=62
theorem Stop.notD {r:Zd} (h:Stop r):Qu r=0:=by
 cases r with
 | nil=>rfl
 | cons c r=>
  rw [Qu,if_neg]
  rcases h c rfl with rfl | rfl | rfl | rfl<;>decide
theorem Zm0 :∀(s r:Zd),(∀c∈s,Gb c=true)->Qu r=0->Qu (s++r)=s.length
 | [],r,_,h=>h
 | c::s,r,hs,h=>by
  rw [List.cons_append,Qu,if_pos (hs c List.mem_cons_self),Zm0 s r (fun c hc=>hs c (List.mem_cons_of_mem _ hc)) h,List.length_cons]
  omega
theorem Ykc :∀n:Fin 10,Gb (Qa n.val)=true:=by decide
theorem Cq :∀(f n:Nat),∀c∈ds 10 f n,Gb c=true
 | 0,n,c,h=>by simp [ds] at h
 | f+1,n,c,h=>by
  rw [ds] at h
  split at h
  ·rename_i hn
   rw [List.mem_singleton.1 h]
   exact Ykc ⟨n,hn⟩
  ·rcases List.mem_append.1 h with h | h
   ·exact Cq f _ c h
   ·rw [List.mem_singleton.1 h]
    exact Ykc ⟨n % 10,Nat.mod_lt _ (by decide)⟩
theorem Wp9 {c:UInt8} {l:List UInt8} (h:Gb c=true) (hl:(l.all fun x=>!Gb x)=true):c ∉ l:=by
 intro hc
 have:=List.all_eq_true.1 hl c hc
 rw [h] at this
 cases this
theorem Zuj (n:Int) :∃c r,Xf n=c::r/\(c=45\/Gb c=true):=by
 have hd :∀n,∃c r,Jl 10 n=c::r/\Gb c=true:=by
  intro n
  have h1:=Zu1 10 n
  have h2:=Cq 64 n
  unfold Jl at *
  cases h:ds 10 64 n with
  | nil=>exact absurd h h1
  | cons c r=>exact ⟨c,r,rfl,h2 c (by rw [h];exact List.mem_cons_self)⟩
 unfold Xf
 split
 ·exact ⟨45,_,rfl,.inl rfl⟩
 ·obtain ⟨c,r,h1,h2⟩:=hd n.toNat
  exact ⟨c,r,h1,.inr h2⟩
theorem Xyk {n:Int} {r:Zd} (hr:Qu r=0):Jr (Xf n++r)=(Xf n).length:=by
 unfold Xf Jr
 split
 ·rw [List.cons_append,List.head?_cons,if_pos rfl,List.drop_succ_cons,List.drop_zero,List.length_cons,Nat.add_comm]
  congr 1
  exact Zm0 _ r (Cq 64 _) hr
 ·obtain ⟨c,t,h1,h2⟩:=Zuj n
  rw [Xf,if_neg (by assumption)] at h1
  rw [if_neg]
  ·exact Zm0 _ r (Cq 64 _) hr
  rw [h1,List.cons_append,List.head?_cons]
  intro e
  injection e with e
  subst e
  rcases h2 with h2 | h2
  ·have:=Cq 64 n.toNat 45 (by show (45:UInt8)∈Jl 10 n.toNat;rw [h1];exact List.mem_cons_self)
   exact absurd this (by decide)
  ·exact absurd h2 (by decide)
theorem Ydi {n:Int} {r:Zd} (h1:-9223372036854775808<=n) (h2:n<9223372036854775808) (hr:Qu r=0):Ku (Xf n++r)=(n,true,r):=by
 unfold Ku
 rw [Xyk hr,List.take_left,List.drop_left,Ea h1 h2]
 rfl
theorem Zxx :∀(s r:Zd),qs (Kh s++34::r)=some ((Kh s).length+1)
 | [],r=>by
  show qs (34::r)=some 1
  rw [qs.eq_def]
  simp
 | c::s,r=>by
  have ih:=Zxx s r
  have e:Kh (c::s)=Jn c++Kh s:=rfl
  have hx :∀k:Fin 16,Qa k.val≠92/\Qa k.val≠34:=by decide
  rw [e,List.append_assoc]
  unfold Jn
  split
  ·rw [List.cons_append,List.cons_append,List.nil_append,qs.eq_def]
   simp only [if_true,ih,Option.map_some,List.length_append,List.length_cons,List.length_nil]
   congr 1
   omega
  ·rename_i h1
   split
   ·rw [List.cons_append,List.cons_append,List.nil_append,qs.eq_def]
    simp only [if_true,ih,Option.map_some,List.length_append,List.length_cons,List.length_nil]
    congr 1
    omega
   ·split
    ·have hc:=c.toNat_lt
     obtain ⟨a1,a2⟩:=hx ⟨c.toNat / 16,by omega⟩
     obtain ⟨b1,b2⟩:=hx ⟨c.toNat % 16,by omega⟩
     simp only at a1 a2 b1 b2
     rw [List.cons_append,List.cons_append,List.cons_append,List.cons_append,List.nil_append,qs.eq_def]
     simp only [if_true]
     rw [qs.eq_def]
     simp only [if_neg a1,if_neg a2]
     rw [qs.eq_def]
     simp only [if_neg b1,if_neg b2,ih,Option.map_some,List.length_append,List.length_cons,List.length_nil]
     congr 1
     omega
    ·have c1:c≠92:=by rintro rfl;exact h1 (.inr rfl)
     have c2:c≠34:=by rintro rfl;exact h1 (.inl rfl)
     rw [List.cons_append,List.nil_append,qs.eq_def]
     simp only [if_neg c1,if_neg c2,ih,Option.map_some,List.length_append,List.length_cons,List.length_nil]
     congr 1
     omega
theorem Wq5 {s r:Zd} (h:s.length<=400):Gv (quo s++r)=(s,true,r):=by
 have e:quo s++r=34::(Kh s++34::r):=by simp [quo]
 have e2:(quo s).length=(Kh s).length+1+1:=by simp [quo]
 unfold Gv
 rw [show (quo s++r).drop 1=Kh s++34::r by rw [e];rfl,Zxx]
 simp only
 rw [<- e2,List.take_left,List.drop_left,Xga h]
 rfl
end Go.AM

/- Yg of the proof. -/
namespace Go.AM
open Go
theorem Xw1 (v:Zb) :∃c t,Xi v=c::t/\(c∈([116,102,110,38,60,123,91,34,45]:Zd)\/Gb c=true):=by
  rw [Tv]
  have h1:=Zuj v.int
  repeat' split
  all_goals first
    | (obtain ⟨c,t,h2,h3⟩:=h1
       refine ⟨c,t,h2,?_⟩
       rcases h3 with rfl | h3
       . exact .inl (by decide)
       . exact .inr h3)
    | exact ⟨_,_,rfl,.inl (by decide)⟩
theorem Zn5 {v:Zb} {e:UInt8} (he:(e=46\/e=125\/e=93\/e=62\/e=44)) (p r:Zd):(Zp (e::p) (Xi v++r))=(Xi v++r,false):=by
  obtain ⟨c,t,h1,h2⟩:=Xw1 v
  rw [h1,List.cons_append]
  refine Ek ?_
  rintro rfl
  rcases h2 with h2 | h2
  . rcases he with rfl | rfl | rfl | rfl | rfl<;>exact absurd h2 (by decide)
  . rcases he with rfl | rfl | rfl | rfl | rfl<;>exact absurd h2 (by decide)
section
variable {f:Zd->Zb × Bool × Zd} {kind:Int} {e:UInt8}
theorem Ypn (he:e=125\/e=93\/e=62) :∀(l:List Zb) (x:Zb) (acc:List Zb) (n:Nat) (r:Zd),(∀y∈x::l,∀r,Stop r->f (Xi y++r)=(y,true,r))->l.length<n->Ha f kind [e] n acc (Xc (x::l)++e::r)=(Zb.mk kind 0 [] (acc++x::l) false,true,r)
  | l,x,acc,0,r,hf,hn=>absurd hn (Nat.not_lt_zero _)
  | [],x,acc,n+1,r,hf,hn=>by
    have hs:Stop (e::r):=by intro c hc;injection hc with hc;subst hc;rcases he with h | h | h<;>simp [h]
    have h1:=hf x List.mem_cons_self (e::r) hs
    have h2:Zp [e] (e::r)=(r,true):=Kg [e] r
    rw [Zsn,Ha]
    simp only [h1,h2,Bool.true_eq_false,if_false,if_true]
  | y::l,x,acc,n+1,r,hf,hn=>by
    have e1:Xc (x::y::l)++e::r=Xi x++(44::32::(Xc (y::l)++e::r)):=by simp [Xc,Ub]
    have hs:Stop (44::32::(Xc (y::l)++e::r)):=by intro c hc;injection hc with hc;subst hc;exact .inl rfl
    have h1:=hf x List.mem_cons_self _ hs
    have hne:e≠44:=by rcases he with rfl | rfl | rfl<;>decide
    have h2:Zp [e] (44::32::(Xc (y::l)++e::r))=(44::32::(Xc (y::l)++e::r),false):=Ek hne
    have h3:Zp [44,32] (44::32::(Xc (y::l)++e::r))=(Xc (y::l)++e::r,true):=Kg [44,32] _
    have ih:=Ypn he l y (acc++[x]) n r (fun z hz=>hf z (List.mem_cons_of_mem _ hz)) (by simp only [List.length_cons] at hn;omega)
    rw [e1,Ha]
    simp only [h1,h2,h3,Bool.true_eq_false,Bool.false_eq_true,if_false]
    rw [ih,List.append_assoc]
    rfl
theorem Zti (he:e=125\/e=93\/e=62) (l:List Zb) (r:Zd) (hf :∀y∈l,∀r,Stop r->f (Xi y++r)=(y,true,r)) (hn:l.length<=16):Uk f kind [e] (Xc l++e::r)=(Zb.mk kind 0 [] l false,true,r):=by
  unfold Uk
  cases l with
  | nil=>
    have h2:Zp [e] (Xc []++e::r)=(r,true):=Kg [e] r
    simp only [h2,if_true]
  | cons x l=>
    have h2:Zp [e] (Xc (x::l)++e::r)=(Xc (x::l)++e::r,false):=by
      rw [Xc,List.append_assoc]
      exact Zn5 (by rcases he with h | h | h<;>simp [h]) _ _
    simp only [h2,Bool.false_eq_true,if_false]
    exact Ypn he l x [] 17 r hf (by simp only [List.length_cons] at hn;omega)
end
theorem Wcf {l:List Zb} {e:UInt8} {p r:Zd}:(Zp (46::p) (Xc l++62::r)).2=false:=by
  cases l with
  | nil=>rw [show Xc []++62::r=62::r from rfl,Ek (by decide)]
  | cons x l=>rw [Xc,List.append_assoc,Zn5 (.inl rfl)]
theorem Gq {α:Type} {l:List α} (h:l.length=0):l=[]:=List.length_eq_zero_iff.1 h
theorem Yip :∀(d:Nat) (v:Zb),Vr d v=true->Wf v->∀r,Stop r->Jk d (Xi v++r)=(v,true,r)
  | 0,v,h,_,r,hr=>by cases h
  | d+1,v,h,hw,r,hr=>by
    have h1:=Mn h
    have h2:=Oi h
    have ih :∀y∈v.list,∀r,Stop r->Jk d (Xi y++r)=(y,true,r):=fun y hy=>Yip d y (h2 y hy) (hw.e y hy)
    have hn:=hw.n
    have hne :∀x:Zd,¬(Xi v++x=[]):=fun x e=>Yfh v (List.append_eq_nil_iff.1 e).1
    clear h h2 hw
    cases v with
    | mk k n s l c=>
    unfold Zb.okh Kc at h1
    simp only [Zb.kind_mk,Zb.int_mk,Zb.text_mk,Zb.list_mk,Zb.cut_mk] at h1 ih hn
    have ht:=hne r
    rw [Jk,if_neg ht]
    clear ht hne
    have nohead :∀{a b:UInt8} {p t:Zd},a≠b->(Zp (a::p) (b::t)).2=false:=fun h=>by rw [Ek h]
    rcases h1 with ⟨rfl,a1,a2,a3,a4⟩ | ⟨rfl,a1,a2,a3⟩ | ⟨rfl,a1,a2,rfl,a4⟩ | ⟨rfl,rfl,a1,a2,a3⟩ | ⟨rfl,rfl,a1,a2,a3⟩ | ⟨rfl,rfl,a1,a2,a3,a4⟩ | ⟨rfl,rfl,a1,a2,a3⟩
    . have:=Gq a1;have:=Gq a3;subst l;subst s
      have:c=false:=by cases c;rfl;cases a2
      subst c
      rcases a4 with rfl | rfl
      . rw [show Xi (Zb.mk 1 0 [] [] false)=Qg from rfl,show Qg++r=102::([97,108,115,101]++r) from rfl,Qz,if_neg (by rw [nohead (by decide)];decide)]
        have:=Kg Qg r
        rw [show Qg++r=102::([97,108,115,101]++r) from rfl] at this
        rw [if_pos (by rw [this]),this]
      . rw [show Xi (Zb.mk 1 1 [] [] false)=Qz from rfl,if_pos (by rw [Kg]),Kg]
    . have:=Gq a1;have:=Gq a3;subst l;subst s
      have:c=false:=by cases c;rfl;cases a2
      subst c
      rw [show Xi (Zb.mk 2 n [] [] false)=Xf n from rfl]
      have hd:=Ydi (r:=r) hn.1 hn.2 hr.notD
      obtain ⟨x,t,h3,h4⟩:=Zuj n
      rw [h3] at hd ⊢
      rw [List.cons_append] at hd ⊢
      have hx :∀y:UInt8,y∈([116,102,110,38,60,123,91,34]:Zd)->y≠x:=by
        rintro y hy rfl
        rcases h4 with rfl | h4
        . exact absurd hy (by decide)
        . exact Wp9 h4 (by decide) hy
      rw [Qz,if_neg (by rw [nohead (hx _ (by decide))];decide),Qg,if_neg (by rw [nohead (hx _ (by decide))];decide),Qy,if_neg (by rw [nohead (hx _ (by decide))];decide),Qw,if_neg (by rw [nohead (hx _ (by decide))];decide),Uu,if_neg (by rw [nohead (hx _ (by decide))];decide),
        if_neg (by rw [nohead (hx _ (by decide))];decide),if_neg (by rw [nohead (hx _ (by decide))];decide),if_neg (by rw [nohead (hx _ (by decide))];decide),if_neg (by rw [nohead (hx _ (by decide))];decide),
        if_neg (by rw [List.head?_cons];intro e;injection e with e;exact hx 34 (by decide) e.symm),hd]
    . have:=Gq a1;subst l
      have:c=false:=by cases c;rfl;cases a2
      subst c
      rw [show Xi (Zb.mk 3 0 s [] false)=quo s from rfl]
      have hd:=Wq5 (s:=s) (r:=r) (by omega)
      rw [show quo s++r=34::(Kh s++[34]++r) from rfl] at hd ⊢
      rw [Qz,if_neg (by rw [nohead (by decide)];decide),Qg,if_neg (by rw [nohead (by decide)];decide),Qy,if_neg (by rw [nohead (by decide)];decide),Qw,if_neg (by rw [nohead (by decide)];decide),Uu,if_neg (by rw [nohead (by decide)];decide),
        if_neg (by rw [nohead (by decide)];decide),if_neg (by rw [nohead (by decide)];decide),if_neg (by rw [nohead (by decide)];decide),if_neg (by rw [nohead (by decide)];decide),List.head?_cons,if_pos rfl,hd]
    . have:=Gq a1;subst s
      cases c with
      | true=>
        have:=Gq (a3.resolve_left (by decide));subst l
        have e:=Kg Qw r
        rw [show Xi (Zb.mk 4 0 [] [] true)=Qw from rfl]
        rw [show Qw++r=38::([46,46,46]++r) from rfl] at e ⊢
        rw [Qz,if_neg (by rw [nohead (by decide)];decide),Qg,if_neg (by rw [nohead (by decide)];decide),Qy,if_neg (by rw [nohead (by decide)];decide),if_pos (by rw [e]),e]
      | false=>
        match l,a2 with
        | [],_=>
          have e:=Kg Qy r
          rw [show Xi (Zb.mk 4 0 [] [] false)=Qy from rfl]
          rw [show Qy++r=110::([105,108]++r) from rfl] at e ⊢
          rw [Qz,if_neg (by rw [nohead (by decide)];decide),Qg,if_neg (by rw [nohead (by decide)];decide),if_pos (by rw [e]),e]
        | [w],_=>
          rw [show Xi (Zb.mk 4 0 [] [w] false)=38::Xc [w] from rfl,Zsn,List.cons_append]
          have e:Zp [38] (38::(Xi w++r))=(Xi w++r,true):=Kg [38] _
          have e2:(Zp Qw (38::(Xi w++r))).2=false:=by rw [Qw,Zd0,Zn5 (.inl rfl)];rfl
          rw [Qz,if_neg (by rw [nohead (by decide)];decide),Qg,if_neg (by rw [nohead (by decide)];decide),Qy,if_neg (by rw [nohead (by decide)];decide),if_neg (by rw [e2];decide),Uu,if_neg (by rw [nohead (by decide)];decide),if_pos (by rw [e]),e]
          simp only
          rw [ih w List.mem_cons_self r hr]
    . have:=Gq a1;subst s
      have:c=false:=by cases c;rfl;cases a3
      subst c
      rw [show Xi (Zb.mk 5 0 [] l false)=123::(Xc l++[125]) from rfl]
      have e0:123::(Xc l++[125])++r=123::(Xc l++125::r):=by simp
      have e:Zp [123] (123::(Xc l++125::r))=(Xc l++125::r,true):=Kg [123] _
      rw [e0,Qz,if_neg (by rw [nohead (by decide)];decide),Qg,if_neg (by rw [nohead (by decide)];decide),Qy,if_neg (by rw [nohead (by decide)];decide),Qw,if_neg (by rw [nohead (by decide)];decide),Uu,if_neg (by rw [nohead (by decide)];decide),if_neg (by rw [nohead (by decide)];decide),if_pos (by rw [e]),e]
      exact Zti (.inl rfl) l r ih (by omega)
    . have:=Gq a1;subst s
      have:c=false:=by cases c;rfl;cases a4
      subst c
      rw [show Xi (Zb.mk 6 0 [] l false)=91::(Xc l++[93]) from rfl]
      have e0:91::(Xc l++[93])++r=91::(Xc l++93::r):=by simp
      have e:Zp [91] (91::(Xc l++93::r))=(Xc l++93::r,true):=Kg [91] _
      rw [e0,Qz,if_neg (by rw [nohead (by decide)];decide),Qg,if_neg (by rw [nohead (by decide)];decide),Qy,if_neg (by rw [nohead (by decide)];decide),Qw,if_neg (by rw [nohead (by decide)];decide),Uu,if_neg (by rw [nohead (by decide)];decide),if_neg (by rw [nohead (by decide)];decide),if_neg (by rw [nohead (by decide)];decide),if_pos (by rw [e]),e]
      exact Zti (.inr (.inl rfl)) l r ih (by omega)
    . have:=Gq a1;subst s
      cases c with
      | true=>
        have:=Gq (a3.resolve_left (by decide));subst l
        have e:=Kg Uu r
        rw [show Xi (Zb.mk 7 0 [] [] true)=Uu from rfl]
        rw [show Uu++r=60::([46,46,46,62]++r) from rfl] at e ⊢
        rw [Qz,if_neg (by rw [nohead (by decide)];decide),Qg,if_neg (by rw [nohead (by decide)];decide),Qy,if_neg (by rw [nohead (by decide)];decide),Qw,if_neg (by rw [nohead (by decide)];decide),if_pos (by rw [e]),e]
      | false=>
        rw [show Xi (Zb.mk 7 0 [] l false)=60::(Xc l++[62]) from rfl]
        have e0:60::(Xc l++[62])++r=60::(Xc l++62::r):=by simp
        have e:Zp [60] (60::(Xc l++62::r))=(Xc l++62::r,true):=Kg [60] _
        have e2:(Zp Uu (60::(Xc l++62::r))).2=false:=by
          have:=Wcf (l:=l) (e:=0) (p:=[46,46,62]) (r:=r)
          rw [Uu,Zd0,if_neg (by rw [this];decide)]
        rw [e0,Qz,if_neg (by rw [nohead (by decide)];decide),Qg,if_neg (by rw [nohead (by decide)];decide),Qy,if_neg (by rw [nohead (by decide)];decide),Qw,if_neg (by rw [nohead (by decide)];decide),if_neg (by rw [e2];decide),if_neg (by rw [nohead (by decide)];decide),if_neg (by rw [nohead (by decide)];decide),if_neg (by rw [nohead (by decide)];decide),if_pos (by rw [e]),e]
        exact Zti (.inr (.inr rfl)) l r ih (by omega)
def Jt (s:Zd):Zb × Int:=if 1400000<s.length then (vz,4) else
  if (Jk 130 s).2.1=true/\(Jk 130 s).2.2=[]/\Va (Jk 130 s).1=true/\Xi (Jk 130 s).1=s then ((Jk 130 s).1,0) else (vz,12)
theorem Ru {v:Zb} (h:Va v=true):Vr 130 v=true/\v.nodes<=5000:=by
  simpa [Va] using h
theorem Xtf {v:Zb} (h:Va v=true) (hw:Wf v):Jk 130 (Xi v)=(v,true,[]):=by
  have:=Yip 130 v (Ru h).1 hw [] (by intro c hc;cases hc)
  rwa [List.append_nil] at this
theorem Zly {v:Zb} (h:Va v=true) (hw:Wf v):Jt (Xi v)=(v,0):=by
  have h1:=Td h
  unfold Jt
  rw [if_neg (by omega),Xtf h hw,if_pos ⟨rfl,rfl,h,rfl⟩]
theorem Yj8 {s:Zd} (h:(Jt s).2=0):Va (Jt s).1=true/\Xi (Jt s).1=s/\Wf (Jt s).1:=by
  unfold Jt at h ⊢
  split
  . rename_i h1;rw [if_pos h1] at h;cases h
  . rename_i h1
    rw [if_neg h1] at h
    split
    . rename_i h2;exact ⟨h2.2.2.1,h2.2.2.2,Cv _ _⟩
    . rename_i h2;rw [if_neg h2] at h;cases h
theorem Zza (s:Zd):Wf (Jt s).1:=by
  unfold Jt
  split
  . exact Wf.zero
  . split
    . exact Cv _ _
    . exact Wf.zero
noncomputable def Rg (v w:Zb):Bool:=@decide (v=w) (Classical.propDecidable _)
theorem Ri {v w:Zb}:Rg v w=true↔v=w:=by unfold Rg;simp
theorem Ec {v w:Zb}:Rg v w=false↔v≠w:=by
  rw [<- Bool.not_eq_true,Ri]
end Go.AM

/- Yg of the proof. -/
namespace Go.AM
open Go
theorem Ybp {x m c:BitVec 64} (h:x &&& ~~~m=c):x=c ||| (x &&& m):=by
 subst h
 apply BitVec.eq_of_getLsbD_eq
 intro i hi
 simp only [BitVec.getLsbD_or,BitVec.getLsbD_and,BitVec.getLsbD_not,hi,decide_true,Bool.true_and]
 cases x.getLsbD i<;>cases m.getLsbD i<;>rfl
theorem Zt5 (x:BitVec 64) (i:Nat):x &&& BitVec.twoPow 64 i=BitVec.twoPow 64 i\/x &&& BitVec.twoPow 64 i=0#64:=by
 rw [BitVec.and_twoPow]
 split
 ·exact .inl rfl
 ·exact .inr rfl
theorem Zy9 (x:BitVec 64):IntKind.u64.wrap (x.toNat:Int)=(x.toNat:Int):=Eu x.isLt
theorem Yi4 {f:Int} (h:0<=f/\f<18446744073709551616):f=((BitVec.ofInt 64 f).toNat:Int):=by
 rw [BitVec.toNat_ofInt];omega
theorem Wta {f:Int} (h:0<=f/\f<18446744073709551616):Pt .u64 f 4=2↔f=2\/f=6:=by
 constructor
 ·intro h1
  have h1:IntKind.u64.wrap ((BitVec.ofInt 64 f &&& ~~~(BitVec.ofInt 64 4)).toNat:Int)=2:=h1
  rw [Zy9] at h1
  have h2:BitVec.ofInt 64 f &&& ~~~(BitVec.ofInt 64 4)=2#64:=BitVec.eq_of_toNat_eq (by rw [show (2#64).toNat=2 from rfl];omega)
  have h3:=Ybp h2
  rw [show BitVec.ofInt 64 4=BitVec.twoPow 64 2 from by decide] at h3
  rcases Zt5 (BitVec.ofInt 64 f) 2 with h4 | h4<;>rw [h4] at h3<;>have h5:=Yi4 h<;>rw [h3] at h5
  ·exact .inr h5
  ·exact .inl h5
 ·rintro (rfl | rfl)<;>decide
theorem Ys4 {f:Int} (h:0<=f/\f<18446744073709551616):Pt .u64 f 5=0↔f=0\/f=1\/f=4\/f=5:=by
 constructor
 ·intro h1
  have h1:IntKind.u64.wrap ((BitVec.ofInt 64 f &&& ~~~(BitVec.ofInt 64 5)).toNat:Int)=0:=h1
  rw [Zy9] at h1
  have h2:BitVec.ofInt 64 f &&& ~~~(BitVec.ofInt 64 5)=0#64:=BitVec.eq_of_toNat_eq (by rw [show (0#64).toNat=0 from rfl];omega)
  have h3:=Ybp h2
  have e:BitVec.ofInt 64 f &&& BitVec.ofInt 64 5=(BitVec.ofInt 64 f &&& BitVec.twoPow 64 2) ||| (BitVec.ofInt 64 f &&& BitVec.twoPow 64 0):=by
   rw [show BitVec.ofInt 64 5=BitVec.twoPow 64 2 ||| BitVec.twoPow 64 0 from by decide]
   apply BitVec.eq_of_getLsbD_eq
   intro i hi
   simp only [BitVec.getLsbD_or,BitVec.getLsbD_and]
   cases (BitVec.ofInt 64 f).getLsbD i<;>rfl
  rw [e] at h3
  have h5:=Yi4 h
  rcases Zt5 (BitVec.ofInt 64 f) 2 with h4 | h4<;>rcases Zt5 (BitVec.ofInt 64 f) 0 with h6 | h6<;>rw [h4,h6] at h3<;>rw [h3] at h5
  ·exact .inr (.inr (.inr h5))
  ·exact .inr (.inr (.inl h5))
  ·exact .inr (.inl h5)
  ·exact .inl h5
 ·rintro (rfl | rfl | rfl | rfl)<;>decide
def Pn:Zd:=[101,120,105,116]
def Kr:Zd:=[112,97,110,105,99,32]
def Kj:Zd:=[32,114,101,99,111,118,101,114,101,100]
def Ji:Zd:=[32,97,98,111,114,116,101,100]
def Tb:Zd:=[102,97,117,108,116,32,49,58,32,100,105,118,105,115,105,111,110,32,98,121,32,122,101,114,111]
def Tf:Zd:=[102,97,117,108,116,32,50,58,32,110,105,108,32,112,111,105,110,116,101,114]
def Tq:Zd:=[102,97,117,108,116,32,51,58,32,111,117,116,32,111,102,32,114,97,110,103,101]
def Zad (n:Int):Zd:=if n=1 then Tb else if n=2 then Tf else if n=3 then Tq else []
def Bc (t:Int):Int:=if t=1 then 2 else if t=2 then 1 else if t=3 then 3 else if t=4 then 2 else 0
structure Dg (p:Zh):Prop where
 t:0<=p.tag/\p.tag<18446744073709551616
 v:Wf p.value
 f:0<=p.flags/\p.flags<18446744073709551616
def Gw (v:Zb):Bool:=decide (v.kind=0)&&decide (v.int=0)&&decide (v.text=[])&&decide (v.list.length=0)&&!v.cut
theorem Tz {v:Zb}:Gw v=true↔v=vz:=by
 unfold Gw
 simp only [Bool.and_eq_true,decide_eq_true_eq,Bool.not_eq_true',and_assoc,List.length_eq_zero_iff]
 cases v with
 | mk k n s l c=>simp
def Xu (p:Zh):Bool:=decide (p.tag<=4)&&decide (p.value.kind=Bc p.tag)&&(if p.tag=0 then Gw p.value&&decide (p.flags=2\/p.flags=6)
 else decide (p.flags=0\/p.flags=1\/p.flags=4\/p.flags=5)&&decide (p.tag=4->1<=p.value.int/\p.value.int<=3)&&Va p.value)
def Ge (p:Zh):Int:=if Xu p=true then 0 else 8
def Vu (p:Zh):Zd:=if p.tag=0 then Pn else if p.tag=4 then Zad p.value.int else Kr++Xi p.value
def Ss (f:Int):Zd:=(if f % 2=1 then Kj else [])++(if 4<=f then Ji else [])
def Jb (p:Zh):Zd:=Vu p++Ss p.flags
def Mx (p:Zh):Zd × Int:=if Xu p=true then (Jb p,0) else ([],8)
def pz:Zh:=⟨0,vz,0⟩
def Xv (p s:Zd):Zd × Bool:=if p.length<=s.length/\s.drop (s.length-p.length)=p then (s.take (s.length-p.length),true) else (s,false)
theorem Zbh (p s:Zd):Xv p (s++p)=(s,true):=by
 unfold Xv
 rw [if_pos ⟨by simp,by simp⟩]
 simp
theorem Zs8 {p s:Zd} (h:(Xv p s).2=true):s=(Xv p s).1++p:=by
 unfold Xv at h ⊢
 split
 ·rename_i h1
  have:=List.take_append_drop (s.length-p.length) s
  rw [h1.2] at this
  exact this.symm
 ·rename_i h1;rw [if_neg h1] at h;cases h
theorem Ztb {p s:Zd} (h:(Xv p s).2=false):(Xv p s).1=s:=by
 unfold Xv at h ⊢
 split
 ·rename_i h1;rw [if_pos h1] at h;cases h
 ·rfl
theorem Ynt {p s:Zd} {c d:UInt8} (hs:s.getLast?=some c) (hp:p.getLast?=some d) (h:c≠d):Xv p s=(s,false):=by
 unfold Xv
 rw [if_neg]
 rintro ⟨h1,h2⟩
 have h3:s.getLast?=p.getLast?:=by
  rw [<- List.take_append_drop (s.length-p.length) s,h2,List.getLast?_append,hp];rfl
 rw [hs,hp] at h3
 injection h3 with h3
 exact h h3
def Ux (s:Zd):Option Zh:=if s=Pn then some ⟨0,vz,2⟩ else if s=Tb then some ⟨4,Zb.mk 2 1 [] [] false,0⟩ else if s=Tf then some ⟨4,Zb.mk 2 2 [] [] false,0⟩ else if s=Tq then some ⟨4,Zb.mk 2 3 [] [] false,0⟩ else
 if (Zp Kr s).2=false then none else
 if (Jt (Zp Kr s).1).2≠0 then none else
 let v:=(Jt (Zp Kr s).1).1
 if v.kind=2 then some ⟨1,v,0⟩ else if v.kind=1 then some ⟨2,v,0⟩ else if v.kind=3 then some ⟨3,v,0⟩ else none
def Ua (s:Zd):Zh × Int:=if 2000<s.length then (pz,4) else
 let a:=Xv Ji s
 let r:=Xv Kj a.1
 match Ux r.1 with
 | none=>(pz,12)
 | some p=>let q:Zh:=⟨p.tag,p.value,p.flags+(if r.2=true then 1 else 0)+(if a.2=true then 4 else 0)⟩
  if Xu q=true then (q,0) else (pz,12)
end Go.AM

/- Yg of the proof. -/
namespace Go.AM
open Go
theorem Xab {p q b:Zd} (h:p.length<=q.length):Xv p (b++q)=(b++(Xv p q).1,(Xv p q).2):=by
 have e:(b++q).length-p.length=b.length+(q.length-p.length):=by simp;omega
 unfold Xv
 rw [e,List.drop_append,List.take_append]
 rw [List.drop_of_length_le (by omega),List.take_of_length_le (by omega),List.nil_append,show b.length+(q.length-p.length)-b.length=q.length-p.length by omega]
 by_cases h1:q.drop (q.length-p.length)=p
 ·rw [if_pos ⟨by simp;omega,h1⟩,if_pos ⟨h,h1⟩]
 ·rw [if_neg fun h2=>h1 h2.2,if_neg fun h2=>h1 h2.2]
theorem Wsu {v:Zb} (h:Va v=true) (hk:v.kind=2):v=Zb.mk 2 v.int [] [] false:=by
 have h1:=Mn (Ru h).1
 cases v with
 | mk k n s l c=>
  simp only [Zb.okh,Kc,Zb.kind_mk,Zb.int_mk,Zb.text_mk,Zb.list_mk,Zb.cut_mk] at h1 hk ⊢
  subst hk
  have hl:=Gq (l:=l) (by omega)
  have hs:=Gq (l:=s) (by omega)
  subst hl;subst hs
  cases c with
  | false=>rfl
  | true=>simp at h1
theorem Xxa (n:Int) :∃b c,Xf n=b++[c]/\c≠100:=by
 have key :∀m:Nat,∃b c,Jl 10 m=b++[c]/\c≠100:=by
  intro m
  obtain ⟨b,c,h⟩ :∃b c,Jl 10 m=b++[c]:=by
   have h:=Zu1 10 m
   exact ⟨_,_,(List.dropLast_concat_getLast h).symm⟩
  refine ⟨b,c,h,fun hc=>?_⟩
  have:=Cq 64 m c (by rw [show ds 10 64 m=Jl 10 m from rfl,h];simp)
  rw [hc] at this
  exact absurd this (by decide)
 unfold Xf
 split
 ·obtain ⟨b,c,h,hc⟩:=key (-n).toNat
  exact ⟨45::b,c,by rw [h];rfl,hc⟩
 ·exact key _
theorem Wmy {p:Zh} (h:Xu p=true) :∃b c,Vu p=b++[c]/\c≠100:=by
 unfold Xu at h
 simp only [Bool.and_eq_true,decide_eq_true_eq] at h
 obtain ⟨⟨h1,h2⟩,h3⟩:=h
 unfold Vu
 by_cases t0:p.tag=0
 ·rw [if_pos t0];exact ⟨[101,120,105],116,rfl,by decide⟩
 rw [if_neg t0] at h3 ⊢
 simp only [Bool.and_eq_true,decide_eq_true_eq] at h3
 obtain ⟨⟨h4,h5⟩,h6⟩:=h3
 by_cases t4:p.tag=4
 ·rw [if_pos t4]
  have:=h5 t4
  rcases (show p.value.int=1\/p.value.int=2\/p.value.int=3 by omega) with h | h | h<;>rw [h]
  ·exact ⟨Tb.dropLast,111,rfl,by decide⟩
  ·exact ⟨Tf.dropLast,114,rfl,by decide⟩
  ·exact ⟨Tq.dropLast,101,rfl,by decide⟩
 rw [if_neg t4]
 have hk:p.value.kind=2\/p.value.kind=1\/p.value.kind=3:=by
  rw [h2];unfold Bc
  by_cases a1:p.tag=1
  ·rw [if_pos a1];exact .inl rfl
  rw [if_neg a1]
  by_cases a2:p.tag=2
  ·rw [if_pos a2];exact .inr (.inl rfl)
  rw [if_neg a2]
  by_cases a3:p.tag=3
  ·rw [if_pos a3];exact .inr (.inr rfl)
  rw [if_neg a3,if_neg t4]
  have h0:=Mn (Ru h6).1
  unfold Zb.okh Kc at h0
  rw [h2] at h0
  unfold Bc at h0
  rw [if_neg a1,if_neg a2,if_neg a3,if_neg t4] at h0
  omega
 have add :∀{x:Zd},(∃b c,x=b++[c]/\c≠(100:UInt8))->∃b c,Kr++x=b++[c]/\c≠(100:UInt8):=fun ⟨b,c,h,hc⟩=>⟨Kr++b,c,by rw [h];simp,hc⟩
 apply add
 rw [Tv]
 rcases hk with h | h | h<;>rw [h]
 ·exact Xxa _
 ·rw [if_pos rfl]
  split
  ·exact ⟨[116,114,117],101,rfl,by decide⟩
  ·exact ⟨[102,97,108,115],101,rfl,by decide⟩
 ·exact ⟨34::Kh p.value.text,34,rfl,by decide⟩
theorem Cp {p:Zh} (h:Xu p=true):(p.tag=0/\p.value=vz/\(p.flags=2\/p.flags=6))\/(p.tag≠0/\Va p.value=true/\(p.flags=0\/p.flags=1\/p.flags=4\/p.flags=5)):=by
 unfold Xu at h
 simp only [Bool.and_eq_true,decide_eq_true_eq] at h
 obtain ⟨⟨h1,h2⟩,h3⟩:=h
 by_cases t0:p.tag=0
 ·rw [if_pos t0] at h3
  simp only [Bool.and_eq_true,decide_eq_true_eq] at h3
  exact .inl ⟨t0,Tz.1 h3.1,h3.2⟩
 ·rw [if_neg t0] at h3
  simp only [Bool.and_eq_true,decide_eq_true_eq] at h3
  exact .inr ⟨t0,h3.2,h3.1.1⟩
theorem Wlw {p:Zh} (h:Xu p=true):(Xv Ji (Jb p)).2=decide (4<=p.flags)/\Xv Kj (Xv Ji (Jb p)).1=(Vu p,decide (p.flags % 2=1)):=by
 obtain ⟨b,c,hb,hc⟩:=Wmy h
 have a1:Xv Ji (Vu p)=(Vu p,false):=Ynt (c:=c) (d:=100) (by rw [hb];simp) rfl hc
 have a2:Xv Kj (Vu p)=(Vu p,false):=Ynt (c:=c) (d:=100) (by rw [hb];simp) rfl hc
 have a3:Xv Ji (Vu p++Kj)=(Vu p++Kj,false):=by rw [Xab (by decide)];rfl
 have hf:p.flags=0\/p.flags=1\/p.flags=2\/p.flags=4\/p.flags=5\/p.flags=6:=by rcases Cp h with ⟨_,_,h⟩ | ⟨_,_,h⟩<;>omega
 unfold Jb Ss
 rcases hf with h | h | h | h | h | h<;>rw [h]
 ·rw [show Vu p++((if (0:Int) % 2=1 then Kj else [])++(if (4:Int)<=0 then Ji else []))=Vu p by simp,a1];exact ⟨rfl,a2⟩
 ·rw [show Vu p++((if (1:Int) % 2=1 then Kj else [])++(if (4:Int)<=1 then Ji else []))=Vu p++Kj by simp,a3];exact ⟨rfl,Zbh _ _⟩
 ·rw [show Vu p++((if (2:Int) % 2=1 then Kj else [])++(if (4:Int)<=2 then Ji else []))=Vu p by simp,a1];exact ⟨rfl,a2⟩
 ·rw [show Vu p++((if (4:Int) % 2=1 then Kj else [])++(if (4:Int)<=4 then Ji else []))=Vu p++Ji by simp,Zbh];exact ⟨rfl,a2⟩
 ·rw [show Vu p++((if (5:Int) % 2=1 then Kj else [])++(if (4:Int)<=5 then Ji else []))=(Vu p++Kj)++Ji by simp,Zbh];exact ⟨rfl,Zbh _ _⟩
 ·rw [show Vu p++((if (6:Int) % 2=1 then Kj else [])++(if (4:Int)<=6 then Ji else []))=Vu p++Ji by simp,Zbh];exact ⟨rfl,a2⟩
theorem Wk7 {p:Zh} (h:Xu p=true) (hw:Wf p.value):Ux (Vu p)=some ⟨p.tag,p.value,if p.tag=0 then 2 else 0⟩:=by
 have h0:=Cp h
 unfold Xu at h
 simp only [Bool.and_eq_true,decide_eq_true_eq] at h
 obtain ⟨⟨h1,h2⟩,h3⟩:=h
 obtain ⟨t,v,f⟩:=p
 simp only at h0 h1 h2 h3 hw ⊢
 unfold Vu
 rcases h0 with ⟨rfl,rfl,_⟩ | ⟨t0,hf,_⟩
 ·rfl
 rw [if_neg t0] at h3
 simp only [Bool.and_eq_true,decide_eq_true_eq] at h3
 obtain ⟨⟨h4,h5⟩,h6⟩:=h3
 simp only
 rw [if_neg t0]
 by_cases t4:t=4
 ·subst t4
  have hv:=Wsu hf h2
  have:=h5 rfl
  rw [if_pos rfl]
  rcases (show v.int=1\/v.int=2\/v.int=3 by omega) with h | h | h<;>rw [h] at hv<;>rw [hv]<;>rfl
 rw [if_neg t4,if_neg t0]
 have ne :∀{x:Zd} {c:UInt8} {r:Zd},x=c::r->c≠112->Kr++Xi v≠x:=fun hx hc e=>by
  rw [hx] at e
  injection e with e
  exact hc e.symm
 unfold Ux
 rw [if_neg (ne (x:=Pn) (c:=101) rfl (by decide)),if_neg (ne (x:=Tb) (c:=102) rfl (by decide)),if_neg (ne (x:=Tf) (c:=102) rfl (by decide)),if_neg (ne (x:=Tq) (c:=102) rfl (by decide)),Kg,if_neg (show ¬(true=false) by decide),Zly hf hw,if_neg (show ¬((0:Int)≠0) by decide)]
 simp only
 unfold Bc at h2
 by_cases a1:t=1
 ·subst a1
  rw [if_pos rfl] at h2
  rw [if_pos h2]
 rw [if_neg a1] at h2
 by_cases a2:t=2
 ·subst a2
  rw [if_pos rfl] at h2
  rw [if_neg (by omega),if_pos h2]
 rw [if_neg a2] at h2
 by_cases a3:t=3
 ·subst a3
  rw [if_pos rfl] at h2
  rw [if_neg (by omega),if_neg (by omega),if_pos h2]
 rw [if_neg a3,if_neg t4] at h2
 have h7:=Mn (Ru hf).1
 unfold Zb.okh Kc at h7
 omega
theorem Wkd {v:Zb} (h:Va v=true) (hk:v.kind=1\/v.kind=2\/v.kind=3):(Xi v).length<=300:=by
 have h7:=Mn (Ru h).1
 unfold Zb.okh Kc at h7
 have h8:=Qc v.int
 have h9:=Be v.text
 rw [Tv]
 rcases hk with h | h | h<;>rw [h]
 ·rw [if_pos rfl];split<;>decide
 ·show (Xf v.int).length<=300;omega
 ·show (quo v.text).length<=300;omega
theorem Wmh {p:Zh} (h:Xu p=true) (h0:p.tag≠0):p.value.kind=1\/p.value.kind=2\/p.value.kind=3:=by
 have hf:Va p.value=true:=by rcases Cp h with h | h;exact absurd h.1 h0;exact h.2.1
 unfold Xu at h
 simp only [Bool.and_eq_true,decide_eq_true_eq] at h
 have h2:=h.1.2
 have h7:=Mn (Ru hf).1
 unfold Zb.okh Kc at h7
 unfold Bc at h2
 repeat' split at h2
 all_goals omega
theorem Zij {p:Zh} (h:Xu p=true):(Jb p).length<=400:=by
 have hs:(Ss p.flags).length<=18:=by unfold Ss;split<;>split<;>decide
 have hb:(Vu p).length<=310:=by
  unfold Vu
  by_cases t0:p.tag=0
  ·rw [if_pos t0];decide
  rw [if_neg t0]
  split
  ·unfold Zad;repeat' split
   all_goals decide
  ·have hf:Va p.value=true:=by rcases Cp h with h | h;exact absurd h.1 t0;exact h.2.1
   have:=Wkd hf (Wmh h t0)
   rw [List.length_append,show Kr.length=6 from rfl];omega
 unfold Jb
 rw [List.length_append];omega
theorem Xoe {p:Zh} (h:Xu p=true) (hw:Wf p.value):Ua (Jb p)=(p,0):=by
 have h1:=Zij h
 obtain ⟨h2,h3⟩:=Wlw h
 have h4:=Wk7 h hw
 unfold Ua
 rw [if_neg (by omega)]
 simp only [h2,h3]
 rw [h4]
 simp only
 have e:(if p.tag=0 then (2:Int) else 0)+(if decide (p.flags % 2=1)=true then 1 else 0)+(if decide (4<=p.flags)=true then 4 else 0)=p.flags:=by
  simp only [decide_eq_true_eq]
  rcases Cp h with ⟨a,_,b⟩ | ⟨a,_,b⟩
  ·rw [if_pos a];rcases b with b | b<;>rw [b]<;>decide
  ·rw [if_neg a];rcases b with b | b | b | b<;>rw [b]<;>decide
 rw [e,if_pos (show Xu ⟨p.tag,p.value,p.flags⟩=true from h)]
theorem Zw9 {s:Zd} {p:Zh} (h:Ux s=some p):Wf p.value/\(p.flags=0\/p.flags=2)/\0<=p.tag/\p.tag<=4/\Vu p=s:=by
 have wn :∀n:Int,n=1\/n=2\/n=3->Wf (Zb.mk 2 n [] [] false):=fun n hn=>.mk (by decide) (by omega) (by decide) (by simp)
 unfold Ux at h
 by_cases h1:s=Pn
 ·rw [if_pos h1] at h;cases h;exact ⟨Wf.zero,.inr rfl,by decide,by decide,h1.symm⟩
 rw [if_neg h1] at h
 by_cases h2:s=Tb
 ·rw [if_pos h2] at h;cases h;exact ⟨wn 1 (by decide),.inl rfl,by decide,by decide,h2.symm⟩
 rw [if_neg h2] at h
 by_cases h3:s=Tf
 ·rw [if_pos h3] at h;cases h;exact ⟨wn 2 (by decide),.inl rfl,by decide,by decide,h3.symm⟩
 rw [if_neg h3] at h
 by_cases h4:s=Tq
 ·rw [if_pos h4] at h;cases h;exact ⟨wn 3 (by decide),.inl rfl,by decide,by decide,h4.symm⟩
 rw [if_neg h4] at h
 by_cases h5:(Zp Kr s).2=false
 ·rw [if_pos h5] at h;cases h
 rw [if_neg h5] at h
 by_cases h6:(Jt (Zp Kr s).1).2≠0
 ·rw [if_pos h6] at h;cases h
 rw [if_neg h6] at h
 have h5:(Zp Kr s).2=true:=by simpa using h5
 obtain ⟨g1,g2,g3⟩:=Yj8 (Decidable.not_not.1 h6)
 have es:Kr++Xi (Jt (Zp Kr s).1).1=s:=by
  rw [g2]
  unfold Zp at h5 ⊢
  split at h5
  ·rename_i h7
   have:=List.take_append_drop Kr.length s
   rw [h7] at this
   rw [if_pos h7]
   exact this
  ·cases h5
 simp only at h
 split at h
 ·cases h;exact ⟨g3,.inl rfl,by simp only;decide,by simp only;decide,es⟩
 split at h
 ·cases h;exact ⟨g3,.inl rfl,by simp only;decide,by simp only;decide,es⟩
 split at h
 ·cases h;exact ⟨g3,.inl rfl,by simp only;decide,by simp only;decide,es⟩
 ·cases h
theorem Xtt {f:Int} (hf:f=0\/f=2) (r a:Bool):Ss (f+(if r=true then 1 else 0)+(if a=true then 4 else 0))=(if r=true then Kj else [])++(if a=true then Ji else []):=by
 rcases hf with rfl | rfl<;>cases r<;>cases a<;>rfl
theorem Wqp {s:Zd} (h:(Ua s).2=0):Xu (Ua s).1=true/\Dg (Ua s).1/\Jb (Ua s).1=s/\s.length<=2000:=by
 unfold Ua at h ⊢
 by_cases hl:2000<s.length
 ·rw [if_pos hl] at h;cases h
 rw [if_neg hl] at h ⊢
 simp only at h ⊢
 have ha1:=@Zs8 Ji s
 have ha2:=@Ztb Ji s
 generalize Xv Ji s=a at h ha1 ha2 ⊢
 have hr1:=@Zs8 Kj a.1
 have hr2:=@Ztb Kj a.1
 generalize Xv Kj a.1=r at h hr1 hr2 ⊢
 cases hc:Ux r.1 with
 | none=>rw [hc] at h;cases h
 | some p=>
  rw [hc] at h
  simp only at h ⊢
  obtain ⟨g1,g2,g3,g3',g4⟩:=Zw9 hc
  by_cases ho:Xu ⟨p.tag,p.value,p.flags+(if r.2=true then 1 else 0)+(if a.2=true then 4 else 0)⟩=true
  ·rw [if_pos ho]
   refine ⟨ho,⟨⟨g3,by simp only;omega⟩,g1,?_⟩,?_,by omega⟩
   ·simp only;constructor<;>(split<;>split<;>omega)
   ·have e:Vu ⟨p.tag,p.value,p.flags+(if r.2=true then 1 else 0)+(if a.2=true then 4 else 0)⟩=r.1:=g4
    unfold Jb
    rw [e]
    simp only
    rw [Xtt g2]
    cases hr:r.2 with
    | true=>
     cases ha:a.2 with
     | true=>rw [ha1 ha,hr1 hr];simp
     | false=>rw [<- ha2 ha,hr1 hr];simp
    | false=>
     cases ha:a.2 with
     | true=>rw [ha1 ha,<- hr2 hr];simp
     | false=>rw [<- ha2 ha,<- hr2 hr];simp
  ·rw [if_neg ho] at h;cases h
end Go.AM

/- Yg of the proof. -/
namespace Go.AM
open Go
structure Has38 (PG:Za):Prop extends Has03 PG,HasB PG where
 f71:PG.fn 71=some Zhi
 f72:PG.fn 72=some Zis
 f74:PG.fn 74=some Zaz
 f76:PG.fn 76=some Zdw
 f77:PG.fn 77=some Zfp
 f78:PG.fn 78=some Zca
 f102:PG.fn 102=some Zfa
 f103:PG.fn 103=some Zct
 f104:PG.fn 104=some Pl
 f107:PG.fn 107=some Lg
 f109:PG.fn 109=some Zc9
 f110:PG.fn 110=some Zfg
 f128:PG.fn 128=some Fa
 f129:PG.fn 129=some Pf
 f130:PG.fn 130=some Pw
 f131:PG.fn 131=some Lq
 f136:PG.fn 136=some Zdz
section
variable {PG:Za} (H:Has38 PG)
include H
theorem Zqv (v:Zb):Zf PG 136 [v.av] (.b (decide (v.list.length=0/\v.cut=false))):=by
 obtain ⟨x,rfl,h⟩:=Wlb H.f136 (v0:=v) (K:=fun x=>x=decide (v.list.length=0/\v.cut=false)) (by
  unfold Znp
  refine ⟨fun h=>?_,fun h=>?_⟩
  ·cases v.cut
   ·exact (decide_eq_true ⟨by omega,rfl⟩).symm
   ·exact (decide_eq_false (by rintro ⟨_,h⟩;cases h)).symm
  ·exact (decide_eq_false (by rintro ⟨h1,_⟩;omega)).symm)
 exact h
theorem Zye :∀(d:Nat) {v:Zb},Wf v->d<=1000->Zf PG 102 [v.av,.i .i64 (d:Int)] (.b (Dh d v))
 | 0,v,hw,hd=>by
  obtain ⟨x,rfl,h⟩:=Ylg H.f102 (v0:=v) (most1:=((0:Nat):Int)) (K:=fun x=>x=Dh 0 v) (by
   unfold Zdd
   exact ⟨fun _=>rfl,fun h=>absurd rfl h⟩)
  exact h
 | d+1,v,hw,hd=>by
  have ih:=@Zye d
  obtain ⟨x,rfl,h⟩:=Ylg H.f102 (v0:=v) (most1:=((d+1:Nat):Int)) (K:=fun x=>x=Dh (d+1) v) (by
   have hm:IntKind.i64.wrap (((d+1:Nat):Int)-1)=(d:Int):=by rw [Yv (by omega) (by omega)];omega
   unfold Zdd
   refine ⟨fun h=>absurd h (by omega),fun _=>⟨fun h=>?_,fun h1=>⟨fun h=>?_,fun h2 P hP=>?_⟩⟩⟩
   ·rw [Dh,decide_eq_true (show 100<v.text.length by omega)];rfl
   ·rw [Dh,decide_eq_true (show 400<v.list.length by omega),Bool.or_true];rfl
   ·have e:Dh (d+1) v=v.list.any (Dh d):=by
     rw [Dh,decide_eq_false (by omega),decide_eq_false (by omega)];rfl
    refine Mu (P:=fun _ i=>P i v) (fun _=>()) v.list.length (fun i=>(v.list.take i).any (Dh d)=false) (by simp) (fun hI=>?_) (fun i hi hI ihP=>?_)
    ·apply hP
     unfold Zf6 Zqf
     refine ⟨fun h=>absurd h (by omega),fun _=>?_⟩
     rw [List.take_length] at hI
     rw [e,hI]
    ·apply hP
     unfold Zf6
     refine ⟨fun _=>⟨by omega,_,Xb hi,_,by rw [hm];exact ih (hw.e _ (List.getElem_mem hi)) (by omega),fun h3=>?_,fun h3=>?_⟩,fun h=>absurd (show (i:Int)<v.list.length by omega) h⟩
     ·rw [e]
      exact (List.any_eq_true.2 ⟨_,List.getElem_mem hi,h3⟩).symm
     ·rw [My (by omega)]
      refine ihP ?_
      rw [List.take_succ_eq_append_getElem hi,List.any_append,hI]
      simpa using h3)
  exact h
omit H in
theorem Wde {l:List Zb} {i n:Nat} (hi:i<l.length) (hn:Vz (l.take i) n<=5000):Vz (l.take (i+1)) n=Vz (l.take i) n+rN l[i]:=by
 have key :∀(l:List Zb) (v:Zb) (n:Nat),Vz l n<=5000->Vz (l++[v]) n=Vz l n+rN v:=by
  intro l
  induction l with
  | nil=>intro v n h;rw [Vz] at h;simp [Vz,h]
  | cons w l ih=>
   intro v n h
   rw [Vz] at h
   by_cases hn:n<=5000
   ·rw [if_pos hn] at h
    simp only [List.cons_append,Vz,if_pos hn]
    exact ih v _ h
   ·rw [if_neg hn] at h
    exact absurd h hn
 rw [List.take_succ_eq_append_getElem hi,key _ _ _ hn]
omit H in
theorem Ws3 {l:List Zb} {i n:Nat} (h:5000<Vz (l.take i) n):Vz l n=Vz (l.take i) n:=by
 have key :∀(l m:List Zb) (n:Nat),5000<Vz l n->Vz (l++m) n=Vz l n:=by
  intro l
  induction l with
  | nil=>
   intro m n h
   rw [Vz] at h
   cases m with
   | nil=>rfl
   | cons w m=>simp only [List.nil_append,Vz];rw [if_neg (by omega)]
  | cons w l ih=>
   intro m n h
   rw [Vz] at h
   simp only [List.cons_append,Vz]
   split
   ·rename_i hn;rw [if_pos hn] at h;exact ih m _ h
   ·rfl
 have:=key (l.take i) (l.drop i) n h
 rwa [List.take_append_drop] at this
theorem Zv3 :∀(d:Nat) {v:Zb},Sm d v->d<=1000->Zf PG 103 [v.av] (.i .i64 (rN v:Int))
 | 0,v,hs,hd=>hs.elim
 | d+1,v,hs,hd=>by
  have ih:=@Zv3 d
  obtain ⟨x,rfl,h⟩:=Xa9 H.f103 (v0:=v) (K:=fun x=>x=(rN v:Int)) (by
   unfold Zv4
   intro P hP
   have e:=Yga v
   refine Mu (P:=fun n i=>P n i v) (fun i=>(Vz (v.list.take i) 1:Int)) v.list.length (fun _=>True) trivial (fun _=>?_) (fun i hi _ ihP=>?_)
   ·apply hP
    unfold Zg3 Za4
    refine ⟨fun h=>absurd h (by omega),fun _=>?_⟩
    rw [List.take_length,e]
   ·apply hP
    unfold Zg3 Za4
    refine ⟨fun _=>⟨fun h=>⟨by omega,_,Xb hi,_,ih (hs.2 _ (List.getElem_mem hi)) (by omega),?_⟩,fun h=>?_⟩,fun h=>absurd (show (i:Int)<v.list.length by omega) h⟩
    ·have h1:=Ya5 (hs.2 _ (List.getElem_mem hi))
     have h2:=hs.1
     have h3:=Wde (l:=v.list) (n:=1) hi (by omega)
     have:=ihP trivial
     rw [h3] at this
     rw [Yv (by omega) (by omega),My (by omega)]
     simpa using this
    ·rw [e,Ws3 (i:=i) (by omega)])
  exact h
theorem c71 {v:Zb} (hw:Wf v):Zf PG 71 [v.av] (.b (Bi v)):=by
 obtain ⟨x,rfl,h⟩:=p71 H.f71 (v0:=v) (K:=fun x=>x=Bi v) (by
  unfold Znd Bi
  refine ⟨_,Zye H 14 hw (by decide),fun h=>by rw [h];rfl,fun h=>⟨_,Zv3 H 14 (Yi0 h) (by decide),?_⟩⟩
  rw [h,Bool.false_or]
  exact decide_eq_decide.2 (by omega))
 exact h
end
end Go.AM

/- Yg of the proof. -/
namespace Go.AM
open Go
theorem Ysy (n:Int):Gl .i64 n 1=n % 2:=by
 unfold Gl
 have h1:(BitVec.ofInt IntKind.i64.bits n &&& BitVec.ofInt IntKind.i64.bits 1).toNat=(n % 2).toNat:=by
  show (BitVec.ofInt 64 n &&& BitVec.ofInt 64 1).toNat=_
  rw [BitVec.toNat_and]
  have h2:(BitVec.ofInt 64 1).toNat=2 ^ 1-1:=by decide
  rw [h2,Nat.and_two_pow_sub_one_eq_mod,BitVec.toNat_ofInt]
  omega
 rw [h1,Yv (by omega) (by omega)]
 omega
theorem Zxr (v:Zb):(v.cut=true/\v.cut.toNat=1)\/(v.cut=false/\v.cut.toNat=0):=by cases v.cut<;>simp
theorem Zrq (d:Nat) (v:Zb):Vr (d+1) v=(decide v.okh&&v.list.all (Vr d)):=rfl
theorem Zwu {d:Nat} {v:Zb} (h:¬v.okh):Vr (d+1) v=false:=by rw [Zrq,decide_eq_false h];rfl
theorem Yi8 {d:Nat} {v:Zb} (h:v.okh):Vr (d+1) v=v.list.all (Vr d):=by rw [Zrq,decide_eq_true h];rfl
theorem Yrx {d:Nat} {v:Zb} (h:v.list.length=0) (p:Prop) [Decidable p] (hp:p↔v.okh):decide p=Vr (d+1) v:=by
 rw [Zrq,decide_eq_decide.2 hp,show v.list.all (Vr d)=true by rw [Gq h];rfl,Bool.and_true]
section
variable {PG:Za} (H:Has38 PG)
include H
set_option maxHeartbeats 1000000 in
theorem Ylo :∀(d:Nat) {v:Zb},Wf v->d<=1000->Zf PG 110 [v.av,.i .i64 (d:Int)] (.b (Vr d v))
 | 0,v,hw,hd=>by
  obtain ⟨x,rfl,h⟩:=Ycj H.f110 (v0:=v) (deep1:=((0:Nat):Int)) (K:=fun x=>x=Vr 0 v) (by
   unfold Zed Zha
   exact ⟨fun _=>rfl,fun h=>absurd rfl h⟩)
  exact h
 | d+1,v,hw,hd=>by
  have ih:=@Ylo d
  obtain ⟨x,rfl,h⟩:=Ycj H.f110 (v0:=v) (deep1:=((d+1:Nat):Int)) (K:=fun x=>x=Vr (d+1) v) (by
   have hm:IntKind.i64.wrap (((d+1:Nat):Int)-1)=(d:Int):=by rw [Yv (by omega) (by omega)];omega
   have ht:v.text=[]↔v.text.length=0:=List.length_eq_zero_iff.symm
   have no:¬v.okh->false=Vr (d+1) v:=fun h=>(Zwu h).symm
   have hl:=hw.l
   have lp:v.okh->∀P:Int->Zb->Prop,(∀(i6:Int) (m0:Zb),Mh PG (fun x=>x=Vr (d+1) v) P ((d+1:Nat):Int) i6 m0->P i6 m0)->P 0 v:=by
    intro ho P hP
    have e:=Yi8 (d:=d) ho
    refine Mu (P:=fun _ i=>P i v) (fun _=>()) v.list.length (fun i=>(v.list.take i).all (Vr d)=true) (by simp) (fun hI=>?_) (fun i hi hI ihP=>?_)
    ·apply hP
     unfold Mh Zkw
     refine ⟨fun h=>absurd h (by omega),fun _=>?_⟩
     rw [List.take_length] at hI
     rw [e,hI]
    ·apply hP
     unfold Mh
     refine ⟨fun _=>⟨by omega,_,Xb hi,_,by rw [hm];exact ih (hw.e _ (List.getElem_mem hi)) (by omega),fun h3=>?_,fun h3=>?_⟩,fun h=>absurd (show (i:Int)<v.list.length by omega) h⟩
     ·rw [e]
      refine (List.all_eq_false.2 ⟨_,List.getElem_mem hi,?_⟩).symm
      simpa using h3
     ·rw [Yv (by omega) (by omega)]
      refine ihP ?_
      rw [List.take_succ_eq_append_getElem hi,List.all_append,hI]
      simpa using h3
   have leaf:v.list.length=0->∀(p:Prop) [Decidable p],(p↔v.okh)->decide p=Vr (d+1) v:=fun h p _ hp=>Yrx h p hp
   have leafT:v.list.length=0->v.okh->true=Vr (d+1) v:=fun h hp=>by rw [<- leaf h True (by simpa using hp)];simp
   unfold Zed Zha Zqu Zp3 Zl9 Zo5 Ze7 Zgw
   simp only [ht,ne_eq]
   refine ⟨fun h=>absurd h (by omega),fun _=>?_⟩
   rcases Zxr v with ⟨hc,hcn⟩ | ⟨hc,hcn⟩
   all_goals
    refine ⟨fun _=>⟨_,Zqv H v,?_,?_⟩,fun _=>⟨fun _=>⟨_,Zqv H v,?_,?_⟩,fun _=>⟨fun _=>⟨_,Zqv H v,?_,?_⟩,?_⟩⟩⟩
   all_goals simp only [hc,decide_eq_true_eq,decide_eq_false_iff_not,reduceCtorEq,false_imp_iff,true_imp_iff,and_true,true_and,and_false]
   all_goals repeat' first | refine ⟨fun _=>?_,fun _=>?_⟩ | (intro h)
   all_goals first
    | exact no (by unfold Zb.okh Kc;omega)
    | exact leafT (by omega) (by unfold Zb.okh Kc;omega)
    | exact leaf (by omega) _ (by unfold Zb.okh Kc;omega)
    | exact lp (by unfold Zb.okh Kc;omega) _ ‹_›
    | (exfalso;omega))
  exact h
end
end Go.AM
