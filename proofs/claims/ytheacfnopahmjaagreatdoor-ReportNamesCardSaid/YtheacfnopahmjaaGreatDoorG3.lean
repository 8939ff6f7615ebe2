/- Parts of the proof: U38b, U38c, U38d, U38e, U38f, U38g, U38h, U39a, U39b, U39c, U39d, U39e, U40a. -/
import Derived.Test.YtheacfnopahmjaaGreatDoorG2
import Derived.Test.YtheacfnopahmjaaGreatDoorG1
set_option linter.all false
namespace Go.AM
open Go
set_option maxRecDepth 4000
set_option maxHeartbeats 2000000
attribute [local irreducible] Decidable.decide W WO Xq We
abbrev Zv7:AC:=(sR 0 [oC 4 (.b false)] (sR 1 [oM 8 0,oN 9 8,oF 10 0 9,oL 11 10,oM 12 1,oQ 13 36 [11,12],oM 7 13,oE 14 0 7,oE 15 1 7,oM 5 14,oM 6 15] (sR 2 [oM 16 0,oM 17 5,oN 18 16,oF 19 0 18,oS 1 19 17] (sR 3 [oM 20 6,oM 4 20] .ret))))
def Ph:AF:={ nt:=21,res:=[.tmp 4],body:=Zv7 }
abbrev Yrr (d:Nat)(Zk:St)(kp:Zo)(vp:Nat)(Q:AE->Sl->St->Prop)(K:Bool->Sc->Prop):Prop:=∀(σ:Sl)(st:St)(aa:Bool)(b_:Sc),σ 4=.b aa->lk st.bx kp=some (vp,[.s b_.left])->Fr d kp Zk.bx Zk.ow st.bx st.ow->K aa b_->Q .ret σ st
section
variable(PG:Zb)(K:Bool->Sc->Prop)
def Zlp (fk:BS)(mP:Sc):Prop:=
  ∃e c,Ze PG 36 [.s mP.left,.s fk] (.tup [.s e,.b c])/\K c (Sc.mk e)
end
section
variable {PG:Zb}{d:Nat}{Q:AE->Sl->St->Prop}{K:Bool->Sc->Prop}{Zk:St}{kp:Zo}{vp:Nat}(hQ:Yrr d Zk kp vp Q K)(hkp:kp.1<d){σ:Sl}{st:St}
include hQ hkp
variable {fk:BS}{mP:Sc}
variable (H0:σ 0=.p kp vp 0)(H1:σ 1=.s fk)(BP:lk st.bx kp=some (vp,[.s mP.left]))(FR:Fr d kp Zk.bx Zk.ow st.bx st.ow)
include H0 H1 BP FR in
theorem Ytq (h:Zlp PG K fk mP):W PG d Zv7 σ st Q:=
 q_ J (m_ (e_ (q_ J (m_ (Wg H0 (f_ J (l_ J BP J J (m_ (x2 h fun _ _ c=>Ya (Je J H1 J) c.1 (m_ (x_ J J (x_ J J (m_ (m_ (e_ (q_ J (m_ (m_ (Wg H0 (f_ J (Yc J BP J J J (e_ (q_ J (m_ (m_ (Zr (hQ _ _ _ _ J Zj (Fr.own FR) c.2)))))))))))))))))))))))))))
end
theorem Yph {PG:Zb}(hf:PG.fn 128=some Ph){fk:BS}{mP:Sc}{K:Bool->Sc->Prop}(h:Zlp PG K fk mP):Qr PG 128 (Bx [.s mP.left]) [.s fk] (fun r (b_:Sc)=>∃aa:Bool,(r=.b aa)/\K aa b_) (fun b_=>(Bx [.s b_.left])):=
  Qr.of hf rfl (fun _=>Bx.out) fun d st kp vp hkp hB=>Ytq (Zk:=st) (Q:=fun e σ st'=>(e=.normal\/e=.ret)/\∃r b_,Xk σ st' Ph.res=some r/\_/\_/\Fr d kp st.bx st.ow st'.bx st'.ow) (fun σ st'   aa b_ H4 hb hf hk=>⟨.inr rfl,.b aa,b_,by simp only [Ph,Xk,Vb,H4,Kg,kJ,H4],⟨aa,rfl,hk⟩,hb,hf⟩) hkp (σ:=Wc [.p kp vp 0,.s fk]) rfl rfl hB Fr.refl h
abbrev Zcs:AC:=(.seq (sR 4 [oF 19 3 10,oL 20 19,oJ 21 20,oV 22 .leq 21 16] (.cond (.t 22) .skip (.exit 0))) (.block 1 (sR 5 [oM 24 0,oM 25 3,oO 26 (.call true 107 [(.t 24),(.t 25)]),oM 23 26,oE 27 0 23,oE 28 1 23,oO 11 (.alloc [z8,z6,zs,zl,zb]),oS 5 11 27,oM 12 28] (.seq (sR 6 [oM 29 12,oZ 30 29] (.cond (.t 30) (sR 7 [oK 31 5 10,oS 5 8 31,oC 9 (.b false)] .ret) .skip)) (sR 8 [oF 32 3 10,oL 33 32,oK 34 5 11,oO 35 (.bslice [z8,z6,zs,zl,zb] 1 [(0,(.t 34))]),oO 36 (.app 5 64 (.t 33) (.t 35)),oF 37 3 10,oS 1 37 36] (.seq (sR 9 [oM 38 0,oM 39 2,oO 40 (.call true 128 [(.t 38),(.t 39)])] (.cond (.t 40) (sR 10 [oK 41 5 10,oS 5 8 41,oC 9 (.b true)] .ret) .skip)) (sR 11 [oM 42 0,oO 43 (.call true 128 [(.t 42),(.c (.s [44,32]))]),oZ 44 43] (.cond (.t 44) (sR 12 [oK 45 5 10,oS 5 8 45,oC 9 (.b false)] .ret) .skip))))))))
abbrev Zd7:AC:=(sR 13 [oK 46 5 10,oS 5 8 46,oC 9 (.b false)] .ret)
abbrev Zz3:AC:=(sR 0 [oO 8 (.alloc [z8,z6,zs,zl,zb]),oC 9 (.b false)] (sR 1 [oM 13 1,oO 14 (.build [z8,z6,zs,zl,zb] [(0,1,(.t 13))]),oO 10 (.alloc [z8,z6,zs,zl,zb]),oS 5 10 14] (.seq (sR 2 [oM 15 0,oM 16 2,oO 17 (.call true 128 [(.t 15),(.t 16)])] (.cond (.t 17) (sR 3 [oK 18 5 10,oS 5 8 18,oC 9 (.b true)] .ret) .skip)) (.seq (.block 0 (.loop Zcs)) Zd7))))
def Fs:AF:={ nt:=47,res:=[.cell 8 5 true,.tmp 9],body:=Zz3 }
abbrev Xfa (d:Nat)(Zk:St)(kp:Zo)(vp:Nat)(Q:AE->Sl->St->Prop)(K:Za->Bool->Sc->Prop):Prop:=∀(σ:Sl)(st:St)(k0:Zo)(v0:Nat)(bj:Zm)(aa:Za)(ae:Bool)(b_:Sc),σ 8=.p k0 v0 0->lk st.bx k0=some (v0,[.i .u8 aa.kind,.i .i64 aa.int,.s aa.text,.sl bj (List.map Za.row aa.list),.b aa.cut])->σ 9=.b ae->lk st.bx kp=some (vp,[.s b_.left])->Fr d kp Zk.bx Zk.ow st.bx st.ow->K aa ae b_->Q .ret σ st
abbrev Ztq (PG:Zb)(d:Nat)(Q:AE->Sl->St->Prop)(Zk:St)(kp:Zo)(vp:Nat)(el:BS)(dh:Int)(m0:Za)(ar:Za)(mP:Sc):Prop:=
  ∀(σ:Sl)(st:St) (gc dw:Zm) (v0 em:Nat),σ 0=.p kp vp 0->σ 2=.s el->σ 3=.i .i64 dh->σ 8=.p (d,0) v0 0->σ 10=.p (d,4098) em 0->Xd d st.ow dw ar.list.length->lk st.bx (d,0)=some (v0,[.i .u8 m0.kind,.i .i64 m0.int,.s m0.text,.sl gc (List.map Za.row m0.list),.b m0.cut])->lk st.bx (d,4098)=some (em,[.i .u8 ar.kind,.i .i64 ar.int,.s ar.text,.sl dw (List.map Za.row ar.list),.b ar.cut])->lk st.bx kp=some (vp,[.s mP.left])->Fr d kp Zk.bx Zk.ow st.bx st.ow->W PG d (.loop Zcs) σ st (Yd 0 (Zv PG d Zd7 Q))
def Zn5 (PG:Zb)(K:Za->Bool->Sc->Prop)(m0:Za)(ar:Za)(mP:Sc):Prop:=
  K ar false mP
section
variable(PG:Zb)(K:Za->Bool->Sc->Prop)
def Zfs (P0:Za->Za->Sc->Prop)(el:BS)(dh:Int)(m0:Za)(ar:Za)(mP:Sc):Prop:=
  ((ar.list.length:Int)<=16->∃c:Za,∃q,∃e:Sc,Yt PG 107 (Bx [.s mP.left]) [.i .i64 dh] (fun r=>∃o'4_0:Zm,r=.tup [c.avo o'4_0,.b q]) ((Bx [.s e.left]))/\((!q)=true->K ar false e)/\((!q)=false->Qn (ar.list.length+[c].length) 64/\∃o,∃p:Sc,Yt PG 128 (Bx [.s e.left]) [.s el] (fun r=>r=.b o) ((Bx [.s p.left]))/\(o=true->K (Za.mk ar.kind ar.int ar.text (ar.list++[c]) ar.cut) true p)/\(o=false->∃k,∃j:Sc,Yt PG 128 (Bx [.s p.left]) [.s ([44,32]:BS)] (fun r=>r=.b k) ((Bx [.s j.left]))/\((!k)=true->K (Za.mk ar.kind ar.int ar.text (ar.list++[c]) ar.cut) false j)/\((!k)=false->P0 m0 (Za.mk ar.kind ar.int ar.text (ar.list++[c]) ar.cut) j))))/\(¬((ar.list.length:Int)<=16)->Zn5 PG K m0 ar mP)
def Zlf (et:Int)(el:BS)(dh:Int)(mP:Sc):Prop:=
  ∃e,∃c:Sc,Yt PG 128 (Bx [.s mP.left]) [.s el] (fun r=>r=.b e) ((Bx [.s c.left]))/\(e=true->K (Za.mk et 0 [] ([]:List Za) false) true c)/\(e=false->∀P0:Za->Za->Sc->Prop,(∀(m0:Za)(ar:Za)(mP:Sc),Zfs PG K P0 el dh m0 ar mP->P0 m0 ar mP)->P0 (Za.mk 0 0 [] ([]:List Za) false) (Za.mk et 0 [] ([]:List Za) false) c)
end
section
variable {PG:Zb}{d:Nat}{Q:AE->Sl->St->Prop}{K:Za->Bool->Sc->Prop}{Zk:St}{kp:Zo}{vp:Nat}(hQ:Xfa d Zk kp vp Q K)(hkp:kp.1<d){σ:Sl}{st:St}
include hQ hkp
variable {m0 ar:Za}{mP:Sc}{gc dw:Zm}{v0 em:Nat}{el:BS}{dh:Int}{P0:Za->Za->Sc->Prop}{et:Int}
variable (kP0 :∀(m0:Za)(ar:Za)(mP:Sc),P0 m0 ar mP->Ztq PG d Q Zk kp vp el dh m0 ar mP)(H0:σ 0=.p kp vp 0)(H1:σ 1=.i .u8 et)(H2:σ 2=.s el)(H3:σ 3=.i .i64 dh)(H8:σ 8=.p (d,0) v0 0)(H10:σ 10=.p (d,4098) em 0)(dt:Xd d st.ow dw ar.list.length)(B0:lk st.bx (d,0)=some (v0,[.i .u8 m0.kind,.i .i64 m0.int,.s m0.text,.sl gc (List.map Za.row m0.list),.b m0.cut]))(bu:lk st.bx (d,4098)=some (em,[.i .u8 ar.kind,.i .i64 ar.int,.s ar.text,.sl dw (List.map Za.row ar.list),.b ar.cut]))(BP:lk st.bx kp=some (vp,[.s mP.left]))(FR:Fr d kp Zk.bx Zk.ow st.bx st.ow)
include H8 H10 dt B0 bu BP FR in
theorem Ynq (h:Zn5 PG K m0 ar mP):W PG d Zd7 σ st Q:=
 q_ J (l_ H10 bu J J (Yc H8 B0 J J J (m_ (Zr (hQ _ _ _ _ _ _ _ _ H8 Zj J (Jg hkp BP) (Fr.box FR) h)))))
include kP0 H0 H2 H3 H8 H10 dt B0 bu BP FR in
theorem Yl3 (h:Zfs PG K P0 el dh m0 ar mP):W PG d Zcs σ st (Zv PG d (.loop Zcs) (Yd 0 (Zv PG d Zd7 Q))):=
 Zp (q_ J (f_ H10 (l_ J bu J J (Wk J (b_ J J Zpy (e_ (Yk J (fun u=>Yg (Yn (Zp (W.reg (m_ (m_ (x2 (h.1 u) fun a5 _ a3=>a3.elim fun _ k=>Fw (Zz H0 (Zz H3 Yq)) k.1 (kQ hkp) (Jg hkp BP) (fun o'4_0 _ z c=>m_ (x_ J J (x_ J J (Xo (Yc J ((c.1 (d,20486) (kC d) (Xm hkp)).trans (show lk _ (d,20486)=some (_,([.i .u8 0,.i .i64 0,.s [],.sl .full (List.map Za.row ([]:List Za)),.b false]:List AV)) from Zj)) J J J (m_ (e_ (Zp (q_ J (m_ (Wo J (e_ (Wp J (fun o=>q_ J (l_ H10 (Zs J ((c.1 (d,4098) (kC d) (Xm hkp)).trans (Zs J bu))) J J (Yc H8 (Zs J ((c.1 (d,0) (kC d) (Xm hkp)).trans (Zs J B0))) J J J (m_ (Zr (hQ _ _ _ _ _ _ _ _ H8 Zj J (Jg hkp (Jg hkp z)) (Fr.box (Fr.box (Fr.pass (Fr.box FR) c))) (k.2.1 o))))))) (fun o=>Yg (q_ J (f_ H10 (l_ J (Zs J ((c.1 (d,4098) (kC d) (Xm hkp)).trans (Zs J bu))) J J (l_ J Zj J J (Xv (f:=Za.row) (l:=[a5]) J J (Yo J J J Xp) (by simp only [kT,jQ,Za.row_eq];rfl) (Qt Za.row_len J J J ((Xd.call dt c).1) (k.2.2 o).1 J (fun _ _ a0 r a4=>f_ H10 (Yc J (Zs J ((c.1 (d,4098) (kC d) (Xm hkp)).trans (Zs J bu))) J J J (e_ (Zp (q_ J (m_ (m_ ((k.2.2 o).2.elim fun _ a2=>a2.elim fun _ p=>Xz (Zz H0 (Zz H2 Yq)) p.1 (kQ hkp) (Jg hkp (Jg hkp z)) (fun _ x e=>e_ (Wp J (fun v=>q_ J (l_ H10 ((e.1 (d,4098) (kC d) (Xm hkp)).trans Zj) J J (Yc H8 ((e.1 (d,0) (kC d) (Xm hkp)).trans (Zs J (Zs J ((c.1 (d,0) (kC d) (Xm hkp)).trans (Zs J B0))))) J J J (m_ (Zr (hQ _ _ _ _ _ _ _ _ H8 Zj J (Jg hkp x) (Fr.box (Fr.pass (Fr.box (Fr.app (Fr.box (Fr.pass (Fr.box FR) c)) (Xd.call dt c).2 r)) e)) (p.2.1 v))))))) (fun v=>Yg (q_ J (m_ ((p.2.2 v).elim fun _ a1=>a1.elim fun _ q=>Xz (Zz H0 (Zz J Yq)) q.1 (kQ hkp) x (fun _ y j=>Wo J (e_ (Wp J (fun w=>q_ J (l_ H10 ((j.1 (d,4098) (kC d) (Xm hkp)).trans ((e.1 (d,4098) (kC d) (Xm hkp)).trans Zj)) J J (Yc H8 ((j.1 (d,0) (kC d) (Xm hkp)).trans ((e.1 (d,0) (kC d) (Xm hkp)).trans (Zs J (Zs J ((c.1 (d,0) (kC d) (Xm hkp)).trans (Zs J B0)))))) J J J (m_ (Zr (hQ _ _ _ _ _ _ _ _ H8 Zj J (Jg hkp y) (Fr.box (Fr.pass (Fr.pass (Fr.box (Fr.app (Fr.box (Fr.pass (Fr.box FR) c)) (Xd.call dt c).2 r)) e) j)) (q.2.1 w))))))) (fun w=>Yg (kP0 _ _ _ (q.2.2 w) _ _ _ _ _ _ H0 H2 H3 H8 H10 (Xd.call (Xd.call (Xd.mk a0 (Gv.app (Xd.call dt c).2 J a4)) e) j) ((j.1 (d,0) (kC d) (Xm hkp)).trans ((e.1 (d,0) (kC d) (Xm hkp)).trans (Zs J (Zs J ((c.1 (d,0) (kC d) (Xm hkp)).trans (Zs J B0)))))) ((j.1 (d,4098) (kC d) (Xm hkp)).trans ((e.1 (d,4098) (kC d) (Xm hkp)).trans Zj)) y (Fr.pass (Fr.pass (Fr.box (Fr.app (Fr.box (Fr.pass (Fr.box FR) c)) (Xd.call dt c).2 r)) e) j))))))))))))))))))))))))))))))))))))))))))))))) (fun u=>Jm (Ynq hQ hkp H8 H10 dt B0 bu BP FR (h.2 u))))))))))
include H0 H1 H2 H3 BP FR in
theorem Yfu (h:Zlf PG K et el dh mP):W PG d Zz3 σ st Q:=
 Zp (W.reg (Xo (m_ (e_ (Zp (W.reg (m_ (Yi (Yl H1 J Yh) (Xo (Yc J (show lk _ (d,4098)=some (_,([.i .u8 0,.i .i64 0,.s [],.sl .full (List.map Za.row ([]:List Za)),.b false]:List AV)) from Zj) J J J (e_ (Zp (q_ J (m_ (m_ (h.elim fun _ o=>o.elim fun _ e=>Xz (Zz H0 (Zz H2 Yq)) e.1 (kQ hkp) (Jg hkp (Jg hkp (Jg hkp BP))) (fun _ k c=>e_ (Wp J (fun j=>q_ J (l_ J ((c.1 (d,4098) (kC d) (Xm hkp)).trans Zj) J J (Yc J ((c.1 (d,0) (kC d) (Xm hkp)).trans (Zs J (Zs J (show lk _ (d,0)=some (_,([.i .u8 0,.i .i64 0,.s [],.sl .full (List.map Za.row ([]:List Za)),.b false]:List AV)) from Zj)))) J J J (m_ (Zr (hQ _ _ _ _ _ _ _ _ J Zj J (Jg hkp k) (Fr.box (Fr.pass (Fr.box (Fr.box (Fr.box FR))) c)) (e.2.1 j))))))) (fun j=>Yg (Zp (Yn ((e.2.2 j) (Ztq PG d Q Zk kp vp el dh) (fun _ _ _ hb _ _ _ _ _ _ H0 H2 H3 H8 H10 dt B0 bu BP FR=>W.loop (Yl3 hQ hkp (fun _ _ _ x=>x) H0 H2 H3 H8 H10 dt B0 bu BP FR hb)) _ _ _ _ _ _ H0 H2 H3 J J Xd.full ((c.1 (d,0) (kC d) (Xm hkp)).trans (Zs J (Zs J (show lk _ (d,0)=some (_,([.i .u8 0,.i .i64 0,.s [],.sl .full (List.map Za.row ([]:List Za)),.b false]:List AV)) from Zj)))) ((c.1 (d,4098) (kC d) (Xm hkp)).trans Zj) k (Fr.pass (Fr.box (Fr.box (Fr.box FR))) c)))))))))))))))))))))))
end
theorem Xbv {PG:Zb}(hf:PG.fn 129=some Fs){et:Int}{el:BS}{dh:Int}{mP:Sc}{K:Za->Bool->Sc->Prop}(h:Zlf PG K et el dh mP):Qr PG 129 (Bx [.s mP.left]) [.i .u8 et,.s el,.i .i64 dh] (fun r (b_:Sc)=>∃aa:Za,∃ae:Bool,(∃o_0:Zm,r=.tup [aa.avo o_0,.b ae])/\K aa ae b_) (fun b_=>(Bx [.s b_.left])):=
  Qr.of hf rfl (fun _=>Bx.out) fun d st kp vp hkp hB=>Yfu (Zk:=st) (Q:=fun e σ st'=>(e=.normal\/e=.ret)/\∃r b_,Xk σ st' Fs.res=some r/\_/\_/\Fr d kp st.bx st.ow st'.bx st'.ow) (fun σ st' k0 v0 o_0 aa ae b_ H8 HB8 H9 hb hf hk=>⟨.inr rfl,.tup [aa.avo o_0,.b ae],b_,by simp only [Fs,Xk,Vb,Jr (n:=5) H8 HB8 rfl,H9,Ky,kJ,Jr (n:=5) H8 HB8 rfl,H9],⟨aa,ae,⟨o_0,rfl⟩,hk⟩,hb,hf⟩) hkp (σ:=Wc [.p kp vp 0,.i .u8 et,.s el,.i .i64 dh]) rfl rfl rfl rfl hB Fr.refl h
def Sw:List AI:=[oM 99 0,oO 100 (.call true 131 [(.t 99)]),oM 98 100,oE 101 0 98,oE 102 1 98,oM 10 101,oM 11 102]
def Cr:List AI:=[oM 103 10,oO 104 (.build [z8,z6,zs,zl,zb] [(0,1,(.c (.i .u8 2))),(1,1,(.t 103))]),oM 105 11,oS 5 4 104,oM 5 105]
abbrev Zxf:AC:=(.cond (.t 42) (sR 14 [oM 46 0,oM 47 1,oV 48 .sub 47 1,oO 49 (.call true 107 [(.t 46),(.t 48)]),oM 45 49,oE 50 0 45,oE 51 1 45,oO 6 (.alloc [z8,z6,zs,zl,zb]),oS 5 6 50,oM 7 51] (sR 15 [oK 52 5 6,oO 53 (.bslice [z8,z6,zs,zl,zb] 1 [(0,(.t 52))]),oO 54 (.build [z8,z6,zs,zl,zb] [(0,1,(.c (.i .u8 4))),(3,1,(.t 53))]),oM 55 7,oS 5 4 54,oM 5 55] .ret)) (sR 16 [oM 57 0,oO 58 (.call true 128 [(.t 57),(.c (.s [123]))]),oM 56 58] (.cond (.t 56) (sR 17 [oM 59 0,oM 60 1,oV 61 .sub 60 1,oO 62 (.call true 129 [(.t 59),(.c (.i .u8 5)),(.c (.s [125])),(.t 61)]),oE 63 0 62,oE 64 1 62,oS 5 4 63,oM 5 64] .ret) (sR 18 [oM 66 0,oO 67 (.call true 128 [(.t 66),(.c (.s [91]))]),oM 65 67] (.cond (.t 65) (sR 19 [oM 68 0,oM 69 1,oV 70 .sub 69 1,oO 71 (.call true 129 [(.t 68),(.c (.i .u8 6)),(.c (.s [93])),(.t 70)]),oE 72 0 71,oE 73 1 71,oS 5 4 72,oM 5 73] .ret) (sR 20 [oM 75 0,oO 76 (.call true 128 [(.t 75),(.c (.s [60]))]),oM 74 76] (.cond (.t 74) (sR 21 [oM 77 0,oM 78 1,oV 79 .sub 78 1,oO 80 (.call true 129 [(.t 77),(.c (.i .u8 7)),(.c (.s [62])),(.t 79)]),oE 81 0 80,oE 82 1 80,oS 5 4 81,oM 5 82] .ret) (sR 22 [oM 84 0,oN 85 84,oF 86 0 85,oL 87 86,oO 88 (.ixS (.t 87) (.c (.i .i64 0))),oW 89 .eql 88 34,oM 83 89] (.cond (.t 83) (sR 23 [oM 91 0,oO 92 (.call true 130 [(.t 91)]),oM 90 92,oE 93 0 90,oE 94 1 90,oM 8 93,oM 9 94] (sR 24 [oM 95 8,oO 96 (.build [z8,z6,zs,zl,zb] [(0,1,(.c (.i .u8 3))),(2,1,(.t 95))]),oM 97 9,oS 5 4 96,oM 5 97] .ret)) .skip)))))))))
abbrev Yab:AC:=(.cond (.t 38) (sR 12 [oO 41 (.build [z8,z6,zs,zl,zb] [(0,1,(.c (.i .u8 7))),(4,1,(.c (.b true)))]),oS 5 4 41,oC 5 (.b true)] .ret) (sR 13 [oM 43 0,oO 44 (.call true 128 [(.t 43),(.c (.s [38]))]),oM 42 44] Zxf))
abbrev Ycr:AC:=(.cond (.t 34) (sR 10 [oO 37 (.build [z8,z6,zs,zl,zb] [(0,1,(.c (.i .u8 4))),(4,1,(.c (.b true)))]),oS 5 4 37,oC 5 (.b true)] .ret) (sR 11 [oM 39 0,oO 40 (.call true 128 [(.t 39),(.c (.s [60,46,46,46,62]))]),oM 38 40] Yab))
abbrev Zyr:AC:=(.cond (.t 30) (sR 8 [oO 33 (.build [z8,z6,zs,zl,zb] [(0,1,(.c (.i .u8 4)))]),oS 5 4 33,oC 5 (.b true)] .ret) (sR 9 [oM 35 0,oO 36 (.call true 128 [(.t 35),(.c (.s [38,46,46,46]))]),oM 34 36] Ycr))
abbrev Zrk:AC:=(.cond (.t 26) (sR 6 [oO 29 (.build [z8,z6,zs,zl,zb] [(0,1,(.c (.i .u8 1)))]),oS 5 4 29,oC 5 (.b true)] .ret) (sR 7 [oM 31 0,oO 32 (.call true 128 [(.t 31),(.c (.s [110,105,108]))]),oM 30 32] Zyr))
abbrev Ye6:AC:=(.cond (.t 22) (sR 4 [oO 25 (.build [z8,z6,zs,zl,zb] [(0,1,(.c (.i .u8 1))),(1,1,(.c (.i .i64 1)))]),oS 5 4 25,oC 5 (.b true)] .ret) (sR 5 [oM 27 0,oO 28 (.call true 128 [(.t 27),(.c (.s [102,97,108,115,101]))]),oM 26 28] Zrk))
abbrev Zxy:AC:=(.seq (.block 0 (sR 3 [oM 23 0,oO 24 (.call true 128 [(.t 23),(.c (.s [116,114,117,101]))]),oM 22 24] Ye6)) (sR 25 Sw (sR 26 Cr .ret)))
abbrev Zu3:AC:=(.seq (sR 1 [oM 12 1,oV 13 .eql 12 0,oM 14 13,gF 14 (oM 15 0),gF 14 (oN 16 15),gF 14 (oF 17 0 16),gF 14 (oL 18 17),gF 14 (oB 19 .eql (.t 18) (.c (.s []))),oR 20 14 19] (.cond (.t 20) (sR 2 [oO 21 (.build [z8,z6,zs,zl,zb] []),oS 5 4 21,oC 5 (.b false)] .ret) .skip)) Zxy)
abbrev Zwn:AC:=(sR 0 [oO 4 (.alloc [z8,z6,zs,zl,zb]),oC 5 (.b false)] Zu3)
def Pk:AF:={ nt:=106,res:=[.cell 4 5 true,.tmp 5],body:=Zwn }
abbrev Xcq (d:Nat)(Zk:St)(kp:Zo)(vp:Nat)(Q:AE->Sl->St->Prop)(K:Za->Bool->Sc->Prop):Prop:=∀(σ:Sl)(st:St)(k0:Zo)(v0:Nat)(bj:Zm)(aa:Za)(ae:Bool)(b_:Sc),σ 4=.p k0 v0 0->lk st.bx k0=some (v0,[.i .u8 aa.kind,.i .i64 aa.int,.s aa.text,.sl bj (List.map Za.row aa.list),.b aa.cut])->σ 5=.b ae->lk st.bx kp=some (vp,[.s b_.left])->Fr d kp Zk.bx Zk.ow st.bx st.ow->K aa ae b_->Q .ret σ st
section
variable(PG:Zb)(K:Za->Bool->Sc->Prop)
def Zmh (aw:Int)(t42:Bool)(m0:Za)(mP:Sc):Prop:=
  (t42=true->∃e:Za,∃c,∃a2:Sc,Yt PG 107 (Bx [.s mP.left]) [.i .i64 (IntKind.i64.wrap (aw-1))] (fun r=>∃o'4_0:Zm,r=.tup [e.avo o'4_0,.b c]) ((Bx [.s a2.left]))/\K (Za.mk 4 0 [] [e] false) c a2)/\(t42=false->∃k,∃p:Sc,Yt PG 128 (Bx [.s mP.left]) [.s ([123]:BS)] (fun r=>r=.b k) ((Bx [.s p.left]))/\(k=true->∃a5:Za,∃a7,∃z:Sc,Yt PG 129 (Bx [.s p.left]) [.i .u8 5,.s ([125]:BS),.i .i64 (IntKind.i64.wrap (aw-1))] (fun r=>∃o'22_0:Zm,r=.tup [a5.avo o'22_0,.b a7]) ((Bx [.s z.left]))/\K a5 a7 z)/\(k=false->∃u,∃o:Sc,Yt PG 128 (Bx [.s p.left]) [.s ([91]:BS)] (fun r=>r=.b u) ((Bx [.s o.left]))/\(u=true->∃b1:Za,∃a6,∃a1:Sc,Yt PG 129 (Bx [.s o.left]) [.i .u8 6,.s ([93]:BS),.i .i64 (IntKind.i64.wrap (aw-1))] (fun r=>∃o'40_0:Zm,r=.tup [b1.avo o'40_0,.b a6]) ((Bx [.s a1.left]))/\K b1 a6 a1)/\(u=false->∃q,∃j:Sc,Yt PG 128 (Bx [.s o.left]) [.s ([60]:BS)] (fun r=>r=.b q) ((Bx [.s j.left]))/\(q=true->∃a3:Za,∃a0,∃x:Sc,Yt PG 129 (Bx [.s j.left]) [.i .u8 7,.s ([62]:BS),.i .i64 (IntKind.i64.wrap (aw-1))] (fun r=>∃o'58_0:Zm,r=.tup [a3.avo o'58_0,.b a0]) ((Bx [.s x.left]))/\K a3 a0 x)/\(q=false->∃v:UInt8,j.left[0]?=some v/\((v.toNat:Int)=34->∃b0 a8,∃a4:Sc,Yt PG 130 (Bx [.s j.left]) [] (fun r=>r=.tup [.s b0,.b a8]) ((Bx [.s a4.left]))/\K (Za.mk 3 0 b0 ([]:List Za) false) a8 a4)/\(¬((v.toNat:Int)=34)->∃a9 y,∃w:Sc,Yt PG 131 (Bx [.s j.left]) [] (fun r=>r=.tup [.i .i64 a9,.b y]) ((Bx [.s w.left]))/\K (Za.mk 2 a9 [] ([]:List Za) false) y w)))))
def Zoo (aw:Int)(t38:Bool)(m0:Za)(mP:Sc):Prop:=
  (t38=true->K (Za.mk 7 0 [] ([]:List Za) true) true mP)/\(t38=false->∃c,∃e:Sc,Yt PG 128 (Bx [.s mP.left]) [.s ([38]:BS)] (fun r=>r=.b c) ((Bx [.s e.left]))/\Zmh PG K aw c m0 e)
def Zi5 (aw:Int)(t34:Bool)(m0:Za)(mP:Sc):Prop:=
  (t34=true->K (Za.mk 4 0 [] ([]:List Za) true) true mP)/\(t34=false->∃c,∃e:Sc,Yt PG 128 (Bx [.s mP.left]) [.s ([60,46,46,46,62]:BS)] (fun r=>r=.b c) ((Bx [.s e.left]))/\Zoo PG K aw c m0 e)
def Zov (aw:Int)(t30:Bool)(m0:Za)(mP:Sc):Prop:=
  (t30=true->K (Za.mk 4 0 [] ([]:List Za) false) true mP)/\(t30=false->∃c,∃e:Sc,Yt PG 128 (Bx [.s mP.left]) [.s ([38,46,46,46]:BS)] (fun r=>r=.b c) ((Bx [.s e.left]))/\Zi5 PG K aw c m0 e)
def Zo8 (aw:Int)(t26:Bool)(m0:Za)(mP:Sc):Prop:=
  (t26=true->K (Za.mk 1 0 [] ([]:List Za) false) true mP)/\(t26=false->∃c,∃e:Sc,Yt PG 128 (Bx [.s mP.left]) [.s ([110,105,108]:BS)] (fun r=>r=.b c) ((Bx [.s e.left]))/\Zov PG K aw c m0 e)
def Zkd (aw:Int)(t22:Bool)(m0:Za)(mP:Sc):Prop:=
  (t22=true->K (Za.mk 1 1 [] ([]:List Za) false) true mP)/\(t22=false->∃c,∃e:Sc,Yt PG 128 (Bx [.s mP.left]) [.s ([102,97,108,115,101]:BS)] (fun r=>r=.b c) ((Bx [.s e.left]))/\Zo8 PG K aw c m0 e)
def Zna (aw:Int)(m0:Za)(mP:Sc):Prop:=
  ∃e,∃c:Sc,Yt PG 128 (Bx [.s mP.left]) [.s ([116,114,117,101]:BS)] (fun r=>r=.b e) ((Bx [.s c.left]))/\Zkd PG K aw e m0 c
def Zci (aw:Int)(m0:Za)(mP:Sc):Prop:=
  (aw=0->K (Za.mk 0 0 [] ([]:List Za) false) false mP)/\(¬(aw=0)->(mP.left=([]:BS)->K (Za.mk 0 0 [] ([]:List Za) false) false mP)/\(¬(mP.left=([]:BS))->Zna PG K aw m0 mP))
def Zg3 (aw:Int)(mP:Sc):Prop:=
  Zci PG K aw (Za.mk 0 0 [] ([]:List Za) false) mP
end
section
variable {PG:Zb}{d:Nat}{Q:AE->Sl->St->Prop}{K:Za->Bool->Sc->Prop}{Zk:St}{kp:Zo}{vp:Nat}(hQ:Xcq d Zk kp vp Q K)(hkp:kp.1<d){σ:Sl}{st:St}
include hQ hkp
variable {aw:Int}{t42:Bool}{m0:Za}{mP:Sc}{gc:Zm}{v0:Nat}{t38 t34 t30 t26 t22:Bool}
variable (H0:σ 0=.p kp vp 0)(H1:σ 1=.i .i64 aw)(H4:σ 4=.p (d,0) v0 0)(H42:σ 42=.b t42)(Uz:σ 38=.b t38)(H34:σ 34=.b t34)(Ng:σ 30=.b t30)(Ge:σ 26=.b t26)(Js:σ 22=.b t22)(B0:lk st.bx (d,0)=some (v0,[.i .u8 m0.kind,.i .i64 m0.int,.s m0.text,.sl gc (List.map Za.row m0.list),.b m0.cut]))(BP:lk st.bx kp=some (vp,[.s mP.left]))(FR:Fr d kp Zk.bx Zk.ow st.bx st.ow)
include H0 H1 H4 H42 B0 BP FR in
theorem Ylp (h:Zmh PG K aw t42 m0 mP):W PG d Zxf σ st (Yd 0 (Zv PG d (sR 25 Sw (sR 26 Cr .ret)) Q)):=
 Wp H42 (fun u=>Zp (W.reg (m_ (m_ (b_ H1 J Po (x2 (h.1 u) fun c9 _ b3=>b3.elim fun _ a2=>Fw (Zz H0 (Zz J Yq)) a2.1 (kQ hkp) (Jg hkp BP) (fun o'4_0 _ c5 z=>m_ (x_ J J (x_ J J (Xo (Yc J ((z.1 (d,57351) (kC d) (Xm hkp)).trans (show lk _ (d,57351)=some (_,([.i .u8 0,.i .i64 0,.s [],.sl .full (List.map Za.row ([]:List Za)),.b false]:List AV)) from Zj)) J J J (m_ (e_ (q_ J (l_ J Zj J J (Xv (f:=Za.row) (l:=[c9]) J J (Yo J J J Xp) (by simp only [kT,jQ,Za.row_eq];rfl) (Yi (Yl J J (Yl J J Yh)) (m_ (Yc H4 (Zs J ((z.1 (d,0) (kC d) (Xm hkp)).trans (Zs J B0))) J J J (m_ (Zr (hQ _ _ _ _ _ _ _ _ H4 Zj J (Jg hkp (Jg hkp c5)) (Fr.box (Fr.box (Fr.pass (Fr.box FR) z))) a2.2)))))))))))))))))))))) (fun u=>q_ J (m_ ((h.2 u).elim fun _ c1=>c1.elim fun _ o=>Xz (Zz H0 (Zz J Yq)) o.1 (kQ hkp) BP (fun _ a6 c=>m_ (e_ (Wp J (fun v=>q_ J (m_ (m_ (b_ H1 J Po (x2 (o.2.1 v) fun _ _ b4=>b4.elim fun _ a0=>Fw (Zz H0 (Zz J (Zz J (Zz J Yq)))) a0.1 (kQ hkp) a6 (fun o'22_0 _ c2 a8=>x_ J J (x_ J J (Yc H4 ((a8.1 (d,0) (kC d) (Xm hkp)).trans ((c.1 (d,0) (kC d) (Xm hkp)).trans B0)) J J J (m_ (Zr (hQ _ _ _ _ _ _ _ _ H4 Zj J (Jg hkp c2) (Fr.box (Fr.pass (Fr.pass FR c) a8)) a0.2))))))))))) (fun v=>q_ J (m_ ((o.2.2 v).elim fun _ c0=>c0.elim fun _ p=>Xz (Zz H0 (Zz J Yq)) p.1 (kQ hkp) a6 (fun _ a7 e=>m_ (e_ (Wp J (fun w=>q_ J (m_ (m_ (b_ H1 J Po (x2 (p.2.1 w) fun _ _ b5=>b5.elim fun _ a1=>Fw (Zz H0 (Zz J (Zz J (Zz J Yq)))) a1.1 (kQ hkp) a7 (fun o'40_0 _ c3 a9=>x_ J J (x_ J J (Yc H4 ((a9.1 (d,0) (kC d) (Xm hkp)).trans ((e.1 (d,0) (kC d) (Xm hkp)).trans ((c.1 (d,0) (kC d) (Xm hkp)).trans B0))) J J J (m_ (Zr (hQ _ _ _ _ _ _ _ _ H4 Zj J (Jg hkp c3) (Fr.box (Fr.pass (Fr.pass (Fr.pass FR c) e) a9)) a1.2))))))))))) (fun w=>q_ J (m_ ((p.2.2 w).elim fun _ b9=>b9.elim fun _ q=>Xz (Zz H0 (Zz J Yq)) q.1 (kQ hkp) a7 (fun _ k j=>m_ (e_ (Wp J (fun x=>q_ J (m_ (m_ (b_ H1 J Po (x2 (q.2.1 x) fun _ _ b6=>b6.elim fun _ a3=>Fw (Zz H0 (Zz J (Zz J (Zz J Yq)))) a3.1 (kQ hkp) k (fun o'58_0 _ c4 b0=>x_ J J (x_ J J (Yc H4 ((b0.1 (d,0) (kC d) (Xm hkp)).trans ((j.1 (d,0) (kC d) (Xm hkp)).trans ((e.1 (d,0) (kC d) (Xm hkp)).trans ((c.1 (d,0) (kC d) (Xm hkp)).trans B0)))) J J J (m_ (Zr (hQ _ _ _ _ _ _ _ _ H4 Zj J (Jg hkp c4) (Fr.box (Fr.pass (Fr.pass (Fr.pass (Fr.pass FR c) e) j) b0)) a3.2))))))))))) (fun x=>q_ J (m_ (Wg H0 (f_ J (l_ J k J J ((q.2.2 x).elim fun _ r=>Gc J J (by decide) r.1 (b_ J J Xc (m_ (e_ (Yk J (fun y=>q_ J (m_ (x2 (r.2.1 y) fun _ _ b7=>b7.elim fun _ a4=>Xz (Zz H0 Yq) a4.1 (kQ hkp) k (fun _ c6 b1=>m_ (x_ J J (x_ J J (m_ (m_ (e_ (q_ J (m_ (Yi (Yl J J (Yl J J Yh)) (m_ (Yc H4 ((b1.1 (d,0) (kC d) (Xm hkp)).trans ((j.1 (d,0) (kC d) (Xm hkp)).trans ((e.1 (d,0) (kC d) (Xm hkp)).trans ((c.1 (d,0) (kC d) (Xm hkp)).trans B0)))) J J J (m_ (Zr (hQ _ _ _ _ _ _ _ _ H4 Zj J (Jg hkp c6) (Fr.box (Fr.pass (Fr.pass (Fr.pass (Fr.pass FR c) e) j) b1)) a4.2))))))))))))))))) (fun y=>Yg (q_ J (m_ (x2 (r.2.2 y) fun _ _ b8=>b8.elim fun _ a5=>Xz (Zz H0 Yq) a5.1 (kQ hkp) k (fun _ c7 b2=>m_ (x_ J J (x_ J J (m_ (m_ (e_ (q_ J (m_ (Yi (Yl J J (Yl J J Yh)) (m_ (Yc H4 ((b2.1 (d,0) (kC d) (Xm hkp)).trans ((j.1 (d,0) (kC d) (Xm hkp)).trans ((e.1 (d,0) (kC d) (Xm hkp)).trans ((c.1 (d,0) (kC d) (Xm hkp)).trans B0)))) J J J (m_ (Zr (hQ _ _ _ _ _ _ _ _ H4 Zj J (Jg hkp c7) (Fr.box (Fr.pass (Fr.pass (Fr.pass (Fr.pass FR c) e) j) b2)) a5.2))))))))))))))))))))))))))))))))))))))))))))))
include H0 H1 H4 Uz B0 BP FR in
theorem Yyo (h:Zoo PG K aw t38 m0 mP):W PG d Yab σ st (Yd 0 (Zv PG d (sR 25 Sw (sR 26 Cr .ret)) Q)):=
 Wp Uz (fun c=>q_ J (Yi (Yl J J (Yl J J Yh)) (Yc H4 B0 J J J (m_ (Zr (hQ _ _ _ _ _ _ _ _ H4 Zj J (Jg hkp BP) (Fr.box FR) (h.1 c))))))) (fun c=>q_ J (m_ ((h.2 c).elim fun _ j=>j.elim fun _ e=>Xz (Zz H0 (Zz J Yq)) e.1 (kQ hkp) BP (fun _ k i=>m_ (e_ (Ylp hQ hkp H0 H1 H4 J ((i.1 (d,0) (kC d) (Xm hkp)).trans B0) k (Fr.pass FR i) e.2))))))
include H0 H1 H4 H34 B0 BP FR in
theorem Xb7 (h:Zi5 PG K aw t34 m0 mP):W PG d Ycr σ st (Yd 0 (Zv PG d (sR 25 Sw (sR 26 Cr .ret)) Q)):=
 Wp H34 (fun c=>q_ J (Yi (Yl J J (Yl J J Yh)) (Yc H4 B0 J J J (m_ (Zr (hQ _ _ _ _ _ _ _ _ H4 Zj J (Jg hkp BP) (Fr.box FR) (h.1 c))))))) (fun c=>q_ J (m_ ((h.2 c).elim fun _ j=>j.elim fun _ e=>Xz (Zz H0 (Zz J Yq)) e.1 (kQ hkp) BP (fun _ k i=>m_ (e_ (Yyo hQ hkp H0 H1 H4 J ((i.1 (d,0) (kC d) (Xm hkp)).trans B0) k (Fr.pass FR i) e.2))))))
include H0 H1 H4 Ng B0 BP FR in
theorem Xcm (h:Zov PG K aw t30 m0 mP):W PG d Zyr σ st (Yd 0 (Zv PG d (sR 25 Sw (sR 26 Cr .ret)) Q)):=
 Wp Ng (fun c=>q_ J (Yi (Yl J J Yh) (Yc H4 B0 J J J (m_ (Zr (hQ _ _ _ _ _ _ _ _ H4 Zj J (Jg hkp BP) (Fr.box FR) (h.1 c))))))) (fun c=>q_ J (m_ ((h.2 c).elim fun _ j=>j.elim fun _ e=>Xz (Zz H0 (Zz J Yq)) e.1 (kQ hkp) BP (fun _ k i=>m_ (e_ (Xb7 hQ hkp H0 H1 H4 J ((i.1 (d,0) (kC d) (Xm hkp)).trans B0) k (Fr.pass FR i) e.2))))))
include H0 H1 H4 Ge B0 BP FR in
theorem Ytt (h:Zo8 PG K aw t26 m0 mP):W PG d Zrk σ st (Yd 0 (Zv PG d (sR 25 Sw (sR 26 Cr .ret)) Q)):=
 Wp Ge (fun c=>q_ J (Yi (Yl J J Yh) (Yc H4 B0 J J J (m_ (Zr (hQ _ _ _ _ _ _ _ _ H4 Zj J (Jg hkp BP) (Fr.box FR) (h.1 c))))))) (fun c=>q_ J (m_ ((h.2 c).elim fun _ j=>j.elim fun _ e=>Xz (Zz H0 (Zz J Yq)) e.1 (kQ hkp) BP (fun _ k i=>m_ (e_ (Xcm hQ hkp H0 H1 H4 J ((i.1 (d,0) (kC d) (Xm hkp)).trans B0) k (Fr.pass FR i) e.2))))))
include H0 H1 H4 Js B0 BP FR in
theorem Yos (h:Zkd PG K aw t22 m0 mP):W PG d Ye6 σ st (Yd 0 (Zv PG d (sR 25 Sw (sR 26 Cr .ret)) Q)):=
 Wp Js (fun c=>q_ J (Yi (Yl J J (Yl J J Yh)) (Yc H4 B0 J J J (m_ (Zr (hQ _ _ _ _ _ _ _ _ H4 Zj J (Jg hkp BP) (Fr.box FR) (h.1 c))))))) (fun c=>q_ J (m_ ((h.2 c).elim fun _ j=>j.elim fun _ e=>Xz (Zz H0 (Zz J Yq)) e.1 (kQ hkp) BP (fun _ k i=>m_ (e_ (Ytt hQ hkp H0 H1 H4 J ((i.1 (d,0) (kC d) (Xm hkp)).trans B0) k (Fr.pass FR i) e.2))))))
include H0 H1 H4 B0 BP FR in
theorem Xi6 (h:Zna PG K aw m0 mP):W PG d Zxy σ st Q:=
 Zp (Yn (q_ J (m_ (h.elim fun _ i=>i.elim fun _ c=>Xz (Zz H0 (Zz J Yq)) c.1 (kQ hkp) BP (fun _ j e=>m_ (e_ (Yos hQ hkp H0 H1 H4 J ((e.1 (d,0) (kC d) (Xm hkp)).trans B0) j (Fr.pass FR e) c.2)))))))
include H0 H1 H4 B0 BP FR in
theorem Yxt (h:Zci PG K aw m0 mP):W PG d Zu3 σ st Q:=
 Zp (q_ J (Xf H1 (b_ J J Xc (Xl J (Xa (g:=14) J (fun c=>z_ 6 J (e_ (Xj J (q_ J (Yi Yh (Yc H4 B0 J J J (m_ (Zr (hQ _ _ _ _ _ _ _ _ H4 Zj J (Jg hkp BP) (Fr.box FR) (h.1 c)))))))))) (fun c=>Zd J (Vg H0 (Zd J (Wg J (Zd J (f_ J (Zd J (l_ J BP J J (Zd J (b_ J J To (Jp J J (e_ (Yk J (fun e=>q_ J (Yi Yh (Yc H4 B0 J J J (m_ (Zr (hQ _ _ _ _ _ _ _ _ H4 Zj J (Jg hkp BP) (Fr.box FR) ((h.2 c).1 e))))))) (fun e=>Yg (Xi6 hQ hkp H0 H1 H4 B0 BP FR ((h.2 c).2 e)))))))))))))))))))))
include H0 H1 BP FR in
theorem Ygs (h:Zg3 PG K aw mP):W PG d Zwn σ st Q:=
 Zp (W.reg (Xo (m_ (e_ (Yxt (m0:=(Za.mk 0 0 [] ([]:List Za) false)) hQ hkp H0 H1 J (show lk _ (d,0)=some (_,([.i .u8 0,.i .i64 0,.s [],.sl .full (List.map Za.row ([]:List Za)),.b false]:List AV)) from Zj) (Jg hkp BP) (Fr.box FR) h)))))
end
theorem Yf2 {PG:Zb}(hf:PG.fn 107=some Pk){aw:Int}{mP:Sc}{K:Za->Bool->Sc->Prop}(h:Zg3 PG K aw mP):Qr PG 107 (Bx [.s mP.left]) [.i .i64 aw] (fun r (b_:Sc)=>∃aa:Za,∃ae:Bool,(∃o_0:Zm,r=.tup [aa.avo o_0,.b ae])/\K aa ae b_) (fun b_=>(Bx [.s b_.left])):=
  Qr.of hf rfl (fun _=>Bx.out) fun d st kp vp hkp hB=>Ygs (Zk:=st) (Q:=fun e σ st'=>(e=.normal\/e=.ret)/\∃r b_,Xk σ st' Pk.res=some r/\_/\_/\Fr d kp st.bx st.ow st'.bx st'.ow) (fun σ st' k0 v0 o_0 aa ae b_ H4 HB4 H5 hb hf hk=>⟨.inr rfl,.tup [aa.avo o_0,.b ae],b_,by simp only [Pk,Xk,Vb,Jr (n:=5) H4 HB4 rfl,H5,Ky,kJ,Jr (n:=5) H4 HB4 rfl,H5],⟨aa,ae,⟨o_0,rfl⟩,hk⟩,hb,hf⟩) hkp (σ:=Wc [.p kp vp 0,.i .i64 aw]) rfl rfl hB Fr.refl h
abbrev b74:AC:=(sR 0 [oO 2 (.alloc [z8,z6,zs,zl,zb]),oI 3 0] (.seq (sR 1 [oM 9 0,oH 10 9,oV 11 .gtr 10 1400000] (.cond (.t 11) (sR 2 [oO 12 (.build [z8,z6,zs,zl,zb] []),oS 5 2 12,oI 3 4] .ret) .skip)) (sR 3 [oM 13 0,oO 14 (.build [zs] [(0,1,(.t 13))]),oY 15 1 14,oM 4 15] (sR 4 [oM 17 4,oO 18 (.call true 107 [(.t 17),(.c (.i .i64 130))]),oM 16 18,oE 19 0 16,oE 20 1 16,oO 5 (.alloc [z8,z6,zs,zl,zb]),oS 5 5 19,oM 6 20] (.seq (sR 5 [oM 21 6,oZ 22 21,oM 23 22,gF 23 (oM 24 4),gF 23 (oN 25 24),gF 23 (oF 26 0 25),gF 23 (oL 27 26),gF 23 (oB 28 .neq (.t 27) (.c (.s []))),oR 29 23 28] (.cond (.t 29) (sR 6 [oO 30 (.build [z8,z6,zs,zl,zb] []),oS 5 2 30,oI 3 12] .ret) .skip)) (.seq (sR 7 [oK 32 5 5,oQ 33 72 [32],oM 31 33,oE 34 0 31,oE 35 1 31,oM 7 34,oM 8 35] (sR 8 [oM 36 8,oV 37 .neq 36 0,oM 38 37,gF 38 (oM 39 7),gF 38 (oM 40 0),gF 38 (oT 41 .neq 39 40),oR 42 38 41] (.cond (.t 42) (sR 9 [oO 43 (.build [z8,z6,zs,zl,zb] []),oS 5 2 43,oI 3 12] .ret) .skip))) (sR 10 [oK 44 5 5,oS 5 2 44,oI 3 0] .ret)))))))
def Za8:AF:={ nt:=45,res:=[.cell 2 5 true,.tmp 3],body:=b74 }
abbrev H74 (Q:AE->Sl->St->Prop)(K:Za->Int->Prop):Prop:=∀(σ:Sl)(st:St)(k0:Zo)(v0:Nat)(bj:Zm)(aa:Za)(ae:Int),σ 2=.p k0 v0 0->lk st.bx k0=some (v0,[.i .u8 aa.kind,.i .i64 aa.int,.s aa.text,.sl bj (List.map Za.row aa.list),.b aa.cut])->σ 3=.i .i64 ae->K aa ae->Q .ret σ st
section
variable(PG:Zb)(K:Za->Int->Prop)
def Zit (s0:BS):Prop:=
  ((s0.length:Int)>1400000->K (Za.mk 0 0 [] ([]:List Za) false) 4)/\(¬((s0.length:Int)>1400000)->∃e:Za,∃k,∃c:Sc,Yt PG 107 (Bx [.s s0]) [.i .i64 130] (fun r=>∃o'4_0:Zm,r=.tup [e.avo o'4_0,.b k]) ((Bx [.s c.left]))/\((!k)=true->K (Za.mk 0 0 [] ([]:List Za) false) 12)/\((!k)=false->(c.left≠([]:BS)->K (Za.mk 0 0 [] ([]:List Za) false) 12)/\(¬(c.left≠([]:BS))->∃o j,Ze PG 72 [e.av] (.tup [.s o,.i .i64 j])/\(j≠0->K (Za.mk 0 0 [] ([]:List Za) false) 12)/\(¬(j≠0)->(o≠s0->K (Za.mk 0 0 [] ([]:List Za) false) 12)/\(¬(o≠s0)->K e 0)))))
end
section
variable {PG:Zb}{d:Nat}{Q:AE->Sl->St->Prop}{K:Za->Int->Prop}(hQ:H74 Q K){σ:Sl}{st:St}
include hQ
variable {s0:BS}
variable (H0:σ 0=.s s0)
include H0 in
theorem Xf7 (h:Zit PG K s0):W PG d b74 σ st Q:=
 Zp (W.reg (Xo (m_ (e_ (Zp (q_ J (m_ (Rg H0 (b_ J J Qb (e_ (Yk J (fun p=>q_ J (Yi Yh (Yc J (show lk _ (d,0)=some (_,([.i .u8 0,.i .i64 0,.s [],.sl .full (List.map Za.row ([]:List Za)),.b false]:List AV)) from Zj) J J J (m_ (Zr (hQ _ _ _ _ _ _ _ J Zj J (h.1 p))))))) (fun p=>Yg (q_ J (m_ (Yi (Yl H0 J Yh) (Qa J J (m_ (e_ (Zp (W.reg (m_ (x2 (h.2 p) fun _ _ u=>u.elim fun _ j=>Fw (Zz J (Zz J Yq)) j.1 (kC d) (Zs J Zj) (fun o'4_0 _ v c=>m_ (x_ J J (x_ J J (Xo (Yc J ((c.1 (d,16389) (kC d) (Wa J)).trans (show lk _ (d,16389)=some (_,([.i .u8 0,.i .i64 0,.s [],.sl .full (List.map Za.row ([]:List Za)),.b false]:List AV)) from Zj)) J J J (m_ (e_ (Zp (q_ J (Xl J (Wo J (Xl J (Uh (g:=23) J (fun k=>z_ 6 J (e_ (Xj J (q_ J (Yi Yh (Yc J (Zs J ((c.1 (d,0) (kC d) (Wa J)).trans (Zs J (Zs J (show lk _ (d,0)=some (_,([.i .u8 0,.i .i64 0,.s [],.sl .full (List.map Za.row ([]:List Za)),.b false]:List AV)) from Zj))))) J J J (m_ (Zr (hQ _ _ _ _ _ _ _ J Zj J (j.2.1 k)))))))))) (fun k=>Zd J (Vg J (Zd J (Wg J (Zd J (f_ J (Zd J (l_ J (Zs J v) J J (Zd J (b_ J J Sm (Jp J J (e_ (Yk J (fun q=>q_ J (Yi Yh (Yc J (Zs J ((c.1 (d,0) (kC d) (Wa J)).trans (Zs J (Zs J (show lk _ (d,0)=some (_,([.i .u8 0,.i .i64 0,.s [],.sl .full (List.map Za.row ([]:List Za)),.b false]:List AV)) from Zj))))) J J J (m_ (Zr (hQ _ _ _ _ _ _ _ J Zj J ((j.2.2 k).1 q))))))) (fun q=>Yg (Zp (q_ J (l_ J Zj J J (x2 ((j.2.2 k).2 q) fun _ _ e=>Ya (Ys J J) e.1 (m_ (x_ J J (x_ J J (m_ (m_ (e_ (q_ J (Xf J (b_ J J Jc (Xl J (Xa (g:=38) J (fun o=>z_ 4 J (e_ (Xj J (q_ J (Yi Yh (Yc J (Zs J ((c.1 (d,0) (kC d) (Wa J)).trans (Zs J (Zs J (show lk _ (d,0)=some (_,([.i .u8 0,.i .i64 0,.s [],.sl .full (List.map Za.row ([]:List Za)),.b false]:List AV)) from Zj))))) J J J (m_ (Zr (hQ _ _ _ _ _ _ _ J Zj J (e.2.1 o)))))))))) (fun o=>Zd J (Hw J (Zd J (Hw H0 (Zd J (b_ J J Sm (Jp J J (e_ (Yk J (fun r=>q_ J (Yi Yh (Yc J (Zs J ((c.1 (d,0) (kC d) (Wa J)).trans (Zs J (Zs J (show lk _ (d,0)=some (_,([.i .u8 0,.i .i64 0,.s [],.sl .full (List.map Za.row ([]:List Za)),.b false]:List AV)) from Zj))))) J J J (m_ (Zr (hQ _ _ _ _ _ _ _ J Zj J ((e.2.2 o).1 r))))))) (fun r=>Yg (q_ J (l_ J Zj J J (Yc J (Zs J ((c.1 (d,0) (kC d) (Wa J)).trans (Zs J (Zs J (show lk _ (d,0)=some (_,([.i .u8 0,.i .i64 0,.s [],.sl .full (List.map Za.row ([]:List Za)),.b false]:List AV)) from Zj))))) J J J (m_ (Zr (hQ _ _ _ _ _ _ _ J Zj J ((e.2.2 o).2 r)))))))))))))))))))))))))))))))))))))))))))))))))))))))))))))))))))))))))))))))))
end
theorem p74 {PG:Zb}(hf:PG.fn 74=some Za8){s0:BS}{K:Za->Int->Prop}(h:Zit PG K s0) :∃aa:Za,∃ae:Int,K aa ae/\Ze PG 74 [.s s0] (.tup [aa.av,.i .i64 ae]):=by
  obtain ⟨v,hv,aa,ae,hk,rfl⟩:=Ze.of (K:=fun v=>∃aa:Za,∃ae:Int,K aa ae/\v=.tup [aa.av,.i .i64 ae]) hf rfl (Xf7 (σ:=Wc [.s s0]) (fun σ st k0 v0 bj aa ae H2 HB2 H3 hk=>⟨.tup [aa.avo bj,.i .i64 ae],by simp only [Za8,Xk,Vb,Jr (n:=5) H2 HB2 rfl,H3,Ky,kJ],_,rfl,aa,ae,hk,rfl⟩) rfl h)
  exact ⟨aa,ae,hk,hv⟩
abbrev H75 (Q:AE->Sl->St->Prop)(K:Za->Int->Prop):Prop:=∀(σ:Sl)(st:St)(k0:Zo)(v0:Nat)(bj:Zm)(aa:Za)(ae:Int),σ 2=.p k0 v0 0->lk st.bx k0=some (v0,[.i .u8 aa.kind,.i .i64 aa.int,.s aa.text,.sl bj (List.map Za.row aa.list),.b aa.cut])->σ 3=.i .i64 ae->K aa ae->Q .ret σ st
section
variable {PG:Zb}{d:Nat}{Q:AE->Sl->St->Prop}{K:Za->Int->Prop}(hQ:H75 Q K){σ:Sl}{st:St}
include hQ
end
abbrev Xht (Q:AE->Sl->St->Prop)(K:Za->BS->Bool->Prop):Prop:=∀(σ:Sl)(st:St)(k0:Zo)(v0:Nat)(bj:Zm)(aa:Za)(ae:BS)(bm:Bool),σ 4=.p k0 v0 0->lk st.bx k0=some (v0,[.i .u8 aa.kind,.i .i64 aa.int,.s aa.text,.sl bj (List.map Za.row aa.list),.b aa.cut])->σ 5=.s ae->σ 6=.b bm->K aa ae bm->Q .ret σ st
section
variable {PG:Zb}{d:Nat}{Q:AE->Sl->St->Prop}{K:Za->BS->Bool->Prop}(hQ:Xht Q K){σ:Sl}{st:St}
include hQ
end
abbrev Yjl (Q:AE->Sl->St->Prop)(K:Bool->Prop):Prop:=∀(σ:Sl)(st:St)(aa:Bool),σ 4=.b aa->K aa->Q .ret σ st
section
variable {PG:Zb}{d:Nat}{Q:AE->Sl->St->Prop}{K:Bool->Prop}(hQ:Yjl Q K){σ:Sl}{st:St}
include hQ
end
abbrev Xh7 (Q:AE->Sl->St->Prop)(K:Za->BS->Bool->Prop):Prop:=∀(σ:Sl)(st:St)(k0:Zo)(v0:Nat)(bj:Zm)(aa:Za)(ae:BS)(bm:Bool),σ 8=.p k0 v0 0->lk st.bx k0=some (v0,[.i .u8 aa.kind,.i .i64 aa.int,.s aa.text,.sl bj (List.map Za.row aa.list),.b aa.cut])->σ 9=.s ae->σ 10=.b bm->K aa ae bm->Q .ret σ st
section
variable {PG:Zb}{d:Nat}{Q:AE->Sl->St->Prop}{K:Za->BS->Bool->Prop}(hQ:Xh7 Q K){σ:Sl}{st:St}
include hQ
end
abbrev Xbt (Q:AE->Sl->St->Prop)(K:Int->Prop):Prop:=∀(σ:Sl)(st:St)(aa:Int),σ 2=.i .i64 aa->K aa->Q .ret σ st
section
variable {PG:Zb}{d:Nat}{Q:AE->Sl->St->Prop}{K:Int->Prop}(hQ:Xbt Q K){σ:Sl}{st:St}
include hQ
end
abbrev Xe2 (Q:AE->Sl->St->Prop)(K:Int->Prop):Prop:=∀(σ:Sl)(st:St)(aa:Int),σ 2=.i .i64 aa->K aa->Q .ret σ st
section
variable {PG:Zb}{d:Nat}{Q:AE->Sl->St->Prop}{K:Int->Prop}(hQ:Xe2 Q K){σ:Sl}{st:St}
include hQ
end
abbrev Zbf:AC:=(.seq (sR 4 [oM 41 5,oF 42 3 2,oL 43 42,oJ 44 43,oT 45 .lss 41 44] (.cond (.t 45) .skip (.exit 0))) (.seq (.block 1 (sR 6 [oF 48 3 2,oL 49 48,oM 50 5,oX 51 5 49 50,oK 52 5 51,oF 53 3 3,oL 54 53,oM 55 5,oX 56 5 54 55,oK 57 5 56,oQ 58 78 [52,57],oZ 59 58] (.cond (.t 59) (sR 7 [oC 4 (.b false)] .ret) .skip))) (.reg 5 [oM 46 5,oV 47 .add 46 1,oM 5 47])))
abbrev Zcx:AC:=(sR 8 [oC 4 (.b true)] .ret)
abbrev b78:AC:=(sR 0 [oY 2 5 0,oY 3 5 1,oC 4 (.b false)] (.seq (sR 1 [oF 6 0 2,oL 7 6,oF 8 0 3,oL 9 8,oT 10 .neq 7 9,oM 11 10,gF 11 (oF 12 1 2),gF 11 (oL 13 12),gF 11 (oF 14 1 3),gF 11 (oL 15 14),gF 11 (oT 16 .neq 13 15),oR 17 11 16,oM 18 17,gF 18 (oF 19 2 2),gF 18 (oL 20 19),gF 18 (oF 21 2 3),gF 18 (oL 22 21),gF 18 (oT 23 .neq 20 22),oR 24 18 23,oM 25 24,gF 25 (oF 26 4 2),gF 25 (oL 27 26),gF 25 (oF 28 4 3),gF 25 (oL 29 28),gF 25 (oO 30 (.beq true (.t 27) (.t 29))),oR 31 25 30,oM 32 31,gF 32 (oF 33 3 2),gF 32 (oL 34 33),gF 32 (oJ 35 34),gF 32 (oF 36 3 3),gF 32 (oL 37 36),gF 32 (oJ 38 37),gF 32 (oT 39 .neq 35 38),oR 40 32 39] (.cond (.t 40) (sR 2 [oC 4 (.b false)] .ret) .skip)) (.seq (sR 3 [oI 5 0] (.block 0 (.loop Zbf))) Zcx)))
def Zcd:AF:={ nt:=60,res:=[.tmp 4],body:=b78 }
abbrev Ye3 (PG:Zb)(d:Nat)(Q:AE->Sl->St->Prop)(i5:Int)(m0:Za)(m1:Za):Prop:=
  ∀(σ:Sl)(st:St) (v0 v1:Nat),σ 2=.p (d,0) v0 0->σ 3=.p (d,1) v1 0->σ 5=.i .i64 i5->lk st.bx (d,0)=some (v0,Za.cs m0)->lk st.bx (d,1)=some (v1,Za.cs m1)->W PG d (.loop Zbf) σ st (Yd 0 (Zv PG d Zcx Q))
def Zqh (PG:Zb)(K:Bool->Prop) :Prop:=
  K true
section
variable(PG:Zb)(K:Bool->Prop)
def Zaw (P0:Int->Za->Za->Prop)(i5:Int)(m0:Za)(m1:Za):Prop:=
  (i5<(m0.list.length:Int)->0<=i5/\∃i:Za,m0.list[(i5).toNat]?=some i/\0<=i5/\∃e:Za,m1.list[(i5).toNat]?=some e/\∃c,Ze PG 78 [i.av,e.av] (.b c)/\((!c)=true->K false)/\((!c)=false->P0 (IntKind.i64.wrap (i5+1)) m0 m1))/\(¬(i5<(m0.list.length:Int))->Zqh PG K )
def Zh1 (a0:Za)(b1:Za):Prop:=
  (a0.kind≠b1.kind->K false)/\(¬(a0.kind≠b1.kind)->(a0.int≠b1.int->K false)/\(¬(a0.int≠b1.int)->(a0.text≠b1.text->K false)/\(¬(a0.text≠b1.text)->(a0.cut≠b1.cut->K false)/\(¬(a0.cut≠b1.cut)->((a0.list.length:Int)≠(b1.list.length:Int)->K false)/\(¬((a0.list.length:Int)≠(b1.list.length:Int))->∀P0:Int->Za->Za->Prop,(∀(i5:Int)(m0:Za)(m1:Za),Zaw PG K P0 i5 m0 m1->P0 i5 m0 m1)->P0 0 a0 b1)))))
end
section
variable {PG:Zb}{d:Nat}{Q:AE->Sl->St->Prop}{K:Bool->Prop}(hQ:H1 AV.b 4 Q K){σ:Sl}{st:St}
include hQ
variable {i5:Int}{m0 m1:Za}{P0:Int->Za->Za->Prop}{v0 v1:Nat}{a0 b1:Za}
variable (kP0 :∀(i5:Int)(m0:Za)(m1:Za),P0 i5 m0 m1->Ye3 PG d Q i5 m0 m1)(H0:σ 0=a0.av)(H2:σ 2=.p (d,0) v0 0)(H1:σ 1=b1.av)(H3:σ 3=.p (d,1) v1 0)(H5:σ 5=.i .i64 i5)(B0:lk st.bx (d,0)=some (v0,Za.cs m0))(B1:lk st.bx (d,1)=some (v1,Za.cs m1))
theorem Yq6 (h:Zqh PG K ):W PG d Zcx σ st Q:=
 au trivial
include kP0 H2 H3 H5 B0 B1 in
theorem Yif (h:Zaw PG K P0 i5 m0 m1):W PG d Zbf σ st (Zv PG d (.loop Zbf) (Yd 0 (Zv PG d Zcx Q))):=
 au @Yq6
include H0 H1 in
theorem Xc5 (h:Zh1 PG K a0 b1):W PG d b78 σ st Q:=
 q_ J (Qa H0 J (Qa H1 J (m_ (e_ (Zp (q_ J (f_ J (l_ J (Zs J Zj) J J (f_ J (l_ J Zj J J (b_ J J Jc (Xl J (Xa (g:=11) J (fun c=>z_ 29 J (e_ (Xj J (q_ J (m_ (Zr (hQ J (h.1 c)))))))) (fun c=>Zd J (f_ J (Zd J (l_ J (Zs J Zj) J J (Zd J (f_ J (Zd J (l_ J Zj J J (Zd J (b_ J J Jc (z_ 2 J (Xa (g:=18) J (fun e=>z_ 22 J (e_ (Xj J (q_ J (m_ (Zr (hQ J ((h.2 c).1 e)))))))) (fun e=>Zd J (f_ J (Zd J (l_ J (Zs J Zj) J J (Zd J (f_ J (Zd J (l_ J Zj J J (Zd J (b_ J J Sm (z_ 2 J (Xa (g:=25) J (fun i=>z_ 15 J (e_ (Xj J (q_ J (m_ (Zr (hQ J (((h.2 c).2 e).1 i)))))))) (fun i=>Zd J (f_ J (Zd J (l_ J (Zs J Zj) J J (Zd J (f_ J (Zd J (l_ J Zj J J (Zd J (Zns J J (z_ 2 J (Xa (g:=32) J (fun j=>z_ 8 J (e_ (Xj J (q_ J (m_ (Zr (hQ J ((((h.2 c).2 e).2 i).1 j)))))))) (fun j=>Zd J (f_ J (Zd J (l_ J (Zs J Zj) J J (Zd J (Wk J (Zd J (f_ J (Zd J (l_ J Zj J J (Zd J (Wk J (Zd J (b_ J J Jc (Jp J J (e_ (Yk J (fun k=>q_ J (m_ (Zr (hQ J (((((h.2 c).2 e).2 i).2 j).1 k))))) (fun k=>Yg (Zp (q_ J (m_ (e_ (Yn ((((((h.2 c).2 e).2 i).2 j).2 k) (Ye3 PG d Q ) (fun _ _ _ hb _ _ _ _ H2 H3 H5 B0 B1=>W.loop (Yif hQ (fun _ _ _ x=>x) H2 H3 H5 B0 B1 hb)) _ _ _ _ J J J (Zs J Zj) Zj)))))))))))))))))))))))))))))))))))))))))))))))))))))))))))))))))))))))))
end
theorem p78 {PG:Zb}(hf:PG.fn 78=some Zcd){a0:Za}{b1:Za}{K:Bool->Prop}(h:Zh1 PG K a0 b1) :∃aa:Bool,K aa/\Ze PG 78 [a0.av,b1.av] (.b aa):=
 P1 hf J (Xc5 (h1 J fun _=>J) J J h)
end Go.AM

namespace Go.AM
open Go
set_option maxRecDepth 4000
set_option maxHeartbeats 2000000
attribute [local irreducible] Decidable.decide W WO Xq We
abbrev Zbq:AC:=(.seq (.block 0 (sR 2 [oM 8 4,oM 9 0,oN 10 9,oF 11 0 10,oL 12 11,oH 13 12,oT 14 .geq 8 13,oM 7 14] (.cond (.t 7) (sR 3 [oC 2 (.s []),oC 3 (.b false)] .ret) (sR 4 [oM 16 0,oN 17 16,oF 18 0 17,oL 19 18,oM 20 4,oO 21 (.ixS (.t 19) (.t 20)),oW 22 .eql 21 92,oM 15 22] (.cond (.t 15) (sR 5 [oM 23 4,oV 24 .add 23 2,oM 4 24] (.goto 0)) (sR 6 [oM 26 0,oN 27 26,oF 28 0 27,oL 29 28,oM 30 4,oO 31 (.ixS (.t 29) (.t 30)),oW 32 .neq 31 34,oM 25 32] (.cond (.t 25) (sR 7 [oM 33 4,oV 34 .add 33 1,oM 4 34] (.goto 0)) .skip))))))) (sR 8 [oM 36 0,oN 37 36,oF 38 0 37,oL 39 38,oM 40 4,oV 41 .add 40 1,oO 42 (.slS (.t 39) none (some (.t 41))),oQ 43 25 [42],oM 35 43,oE 44 0 35,oE 45 1 35,oM 5 44,oM 6 45] (sR 9 [oM 46 0,oM 47 0,oN 48 47,oF 49 0 48,oL 50 49,oM 51 4,oV 52 .add 51 1,oO 53 (.slS (.t 50) (some (.t 52)) none),oN 54 46,oF 55 0 54,oS 1 55 53] (sR 10 [oM 56 5,oM 57 6,oV 58 .eql 57 0,oM 2 56,oM 3 58] .ret))))
abbrev Yd1:AC:=(.gscope 0 (.reg 1 [oI 4 1]) Zbq)
abbrev Ybm:AC:=(sR 0 [oC 2 (.s []),oC 3 (.b false)] Yd1)
def Lt:AF:={ nt:=59,res:=[.tmp 2,.tmp 3],body:=Ybm }
abbrev Yn1 (d:Nat)(Zk:St)(kp:Zo)(vp:Nat)(Q:AE->Sl->St->Prop)(K:BS->Bool->Sc->Prop):Prop:=∀(σ:Sl)(st:St)(aa:BS)(ae:Bool)(b_:Sc),σ 2=.s aa->σ 3=.b ae->lk st.bx kp=some (vp,[.s b_.left])->Fr d kp Zk.bx Zk.ow st.bx st.ow->K aa ae b_->Q .ret σ st
abbrev Zwp (PG:Zb)(d:Nat)(Q:AE->Sl->St->Prop)(Zk:St)(kp:Zo)(vp:Nat)(n4:Int)(mP:Sc):Prop:=
  ∀(σ:Sl)(st:St),σ 0=.p kp vp 0->σ 4=.i .i64 n4->lk st.bx kp=some (vp,[.s mP.left])->Fr d kp Zk.bx Zk.ow st.bx st.ow->WG PG d 0 Zbq σ st Q
section
variable(PG:Zb)(K:BS->Bool->Sc->Prop)
def Zks (P0:Int->Sc->Prop)(n4:Int)(mP:Sc):Prop:=
  (n4>=(mP.left.length:Int)->K ([]:BS) false mP)/\(¬(n4>=(mP.left.length:Int))->0<=n4/\∃e:UInt8,mP.left[(n4).toNat]?=some e/\((e.toNat:Int)=92->P0 (IntKind.i64.wrap (n4+2)) mP)/\(¬((e.toNat:Int)=92)->0<=n4/\∃c:UInt8,mP.left[(n4).toNat]?=some c/\((c.toNat:Int)≠34->P0 (IntKind.i64.wrap (n4+1)) mP)/\(¬((c.toNat:Int)≠34)->0<=(IntKind.i64.wrap (n4+1))/\(IntKind.i64.wrap (n4+1)).toNat<=mP.left.length/\∃j k,Ze PG 25 [.s (mP.left.take (IntKind.i64.wrap (n4+1)).toNat)] (.tup [.s j,.i .i64 k])/\0<=(IntKind.i64.wrap (n4+1))/\(IntKind.i64.wrap (n4+1)).toNat<=mP.left.length/\K j (decide (k=0)) (Sc.mk (mP.left.drop (IntKind.i64.wrap (n4+1)).toNat)))))
def Zih (mP:Sc):Prop:=
  ∀P0:Int->Sc->Prop,(∀(n4:Int)(mP:Sc),Zks PG K P0 n4 mP->P0 n4 mP)->P0 1 mP
def Zn1 (mP:Sc):Prop:=
  Zih PG K mP
end
section
variable {PG:Zb}{d:Nat}{Q:AE->Sl->St->Prop}{K:BS->Bool->Sc->Prop}{Zk:St}{kp:Zo}{vp:Nat}(hQ:Yn1 d Zk kp vp Q K)(hkp:kp.1<d){σ:Sl}{st:St}
include hQ hkp
variable {n4:Int}{mP:Sc}{P0:Int->Sc->Prop}
variable (kP0 :∀(n4:Int)(mP:Sc),P0 n4 mP->Zwp PG d Q Zk kp vp n4 mP)(H0:σ 0=.p kp vp 0)(H4:σ 4=.i .i64 n4)(BP:lk st.bx kp=some (vp,[.s mP.left]))(FR:Fr d kp Zk.bx Zk.ow st.bx st.ow)
include kP0 H0 H4 BP FR in
theorem Xdh (h:Zks PG K P0 n4 mP):W PG d Zbq σ st (Zh7 PG d 0 Zbq Q):=
 Zp (Yn (q_ J (m_ (m_ (Wg H0 (f_ J (l_ J BP J J (Rg J (b_ H4 J Gd (m_ (e_ (Yk J (fun k=>q_ J (m_ (m_ (Zr (hQ _ _ _ _ _ J J BP FR (h.1 k)))))) (fun k=>q_ J (m_ (Wg H0 (f_ J (l_ J BP J J (m_ ((h.2 k).2.elim fun _ j=>Gc J H4 (h.2 k).1 j.1 (b_ J J Xc (m_ (e_ (Yk J (fun o=>q_ J (m_ (b_ H4 J Vv (m_ (e_ (W.goto ⟨rfl,kP0 _ _ (j.2.1 o) _ _ H0 J BP FR⟩)))))) (fun o=>q_ J (m_ (Wg H0 (f_ J (l_ J BP J J (m_ ((j.2.2 o).2.elim fun _ c=>Gc J H4 (j.2.2 o).1 c.1 (b_ J J Jc (m_ (e_ (Yk J (fun e=>q_ J (m_ (b_ H4 J Vv (m_ (e_ (W.goto ⟨rfl,kP0 _ _ (c.2.1 e) _ _ H0 J BP FR⟩)))))) (fun e=>Yg (q_ J (m_ (Wg H0 (f_ J (l_ J BP J J (m_ (b_ H4 J Vv (Mb J J (c.2.2 e).1 (c.2.2 e).2.1 (x2 (c.2.2 e).2.2 fun _ _ i=>Ya (Ys J J) i.1 (m_ (x_ J J (x_ J J (m_ (m_ (e_ (q_ J (m_ (m_ (Wg H0 (f_ J (l_ J BP J J (m_ (b_ H4 J Vv (Ho J J i.2.1 i.2.2.1 (Wg H0 (f_ J (Yc J BP J J J (e_ (q_ J (m_ (m_ (b_ J J Xc (m_ (m_ (Zr (hQ _ _ _ _ _ J J Zj (Fr.own FR) i.2.2.2)))))))))))))))))))))))))))))))))))))))))))))))))))))))))))))))))))))))
include H0 BP FR in
theorem Ykd (h:Zih PG K mP):W PG d Yd1 σ st Q:=
 W.gscope' (W.reg0 J fun _ _=>m_ (e_ (h (Zwp PG d Q Zk kp vp ) (fun _ _ hb _ _ H0 H4 BP FR=>WG.step (Xdh hQ hkp (fun _ _ x=>x) H0 H4 BP FR hb)) _ _ H0 J BP FR)))
include H0 BP FR in
theorem Ypc (h:Zn1 PG K mP):W PG d Ybm σ st Q:=
 au @Ykd
end
theorem Yzs {PG:Zb}(hf:PG.fn 130=some Lt){mP:Sc}{K:BS->Bool->Sc->Prop}(h:Zn1 PG K mP):Qr PG 130 (Bx [.s mP.left]) [] (fun r (b_:Sc)=>∃aa:BS,∃ae:Bool,(r=.tup [.s aa,.b ae])/\K aa ae b_) (fun b_=>(Bx [.s b_.left])):=
  Qr.of hf rfl (fun _=>Bx.out) fun d st kp vp hkp hB=>Ypc (Zk:=st) (Q:=fun e σ st'=>(e=.normal\/e=.ret)/\∃r b_,Xk σ st' Lt.res=some r/\_/\_/\Fr d kp st.bx st.ow st'.bx st'.ow) (fun σ st'   aa ae b_ H2 H3 hb hf hk=>⟨.inr rfl,.tup [.s aa,.b ae],b_,by simp only [Lt,Xk,Vb,H2,H3,Kg,kJ,H2,H3],⟨aa,ae,rfl,hk⟩,hb,hf⟩) hkp (σ:=Wc [.p kp vp 0]) rfl hB Fr.refl h
abbrev Zcq:AC:=(.seq (sR 2 [oM 7 4,oM 8 0,oN 9 8,oF 10 0 9,oL 11 10,oH 12 11,oT 13 .lss 7 12,oM 14 13,gT 14 (oM 15 0),gT 14 (oN 16 15),gT 14 (oF 17 0 16),gT 14 (oL 18 17),gT 14 (oM 19 4),gT 14 (oO 20 (.ixS (.t 18) (.t 19))),gT 14 (oW 21 .geq 20 48),gT 14 (oM 22 21),gT 22 (oM 23 0),gT 22 (oN 24 23),gT 22 (oF 25 0 24),gT 22 (oL 26 25),gT 22 (oM 27 4),gT 22 (oO 28 (.ixS (.t 26) (.t 27))),gT 22 (oW 29 .leq 28 57),gT 14 (oA 30 22 29),gT 14 (oM 31 30),gF 31 (oM 32 4),gF 31 (oV 33 .eql 32 0),gF 31 (oM 34 33),gT 34 (oM 35 0),gT 34 (oN 36 35),gT 34 (oF 37 0 36),gT 34 (oL 38 37),gT 34 (oM 39 4),gT 34 (oO 40 (.ixS (.t 38) (.t 39))),gT 34 (oW 41 .eql 40 45),gF 31 (oA 42 34 41),gT 14 (oR 43 31 42),oA 44 14 43] (.cond (.t 44) (sR 3 [oM 45 4,oV 46 .add 45 1,oM 4 46] (.goto 0)) .skip)) (sR 4 [oM 48 0,oN 49 48,oF 50 0 49,oL 51 50,oM 52 4,oO 53 (.slS (.t 51) none (some (.t 52))),oQ 54 21 [53],oM 47 54,oE 55 0 47,oE 56 1 47,oM 5 55,oM 6 56] (sR 5 [oM 57 0,oM 58 0,oN 59 58,oF 60 0 59,oL 61 60,oM 62 4,oO 63 (.slS (.t 61) (some (.t 62)) none),oN 64 57,oF 65 0 64,oS 1 65 63] (sR 6 [oM 66 5,oM 67 6,oV 68 .eql 67 0,oM 2 66,oM 3 68] .ret))))
abbrev Zr5:AC:=(.gscope 0 (.reg 1 [oI 4 0]) Zcq)
abbrev Zrz:AC:=(sR 0 [oI 2 0,oC 3 (.b false)] Zr5)
def Fq:AF:={ nt:=69,res:=[.tmp 2,.tmp 3],body:=Zrz }
abbrev Xbz (d:Nat)(Zk:St)(kp:Zo)(vp:Nat)(Q:AE->Sl->St->Prop)(K:Int->Bool->Sc->Prop):Prop:=∀(σ:Sl)(st:St)(aa:Int)(ae:Bool)(b_:Sc),σ 2=.i .i64 aa->σ 3=.b ae->lk st.bx kp=some (vp,[.s b_.left])->Fr d kp Zk.bx Zk.ow st.bx st.ow->K aa ae b_->Q .ret σ st
abbrev Zx3 (PG:Zb)(d:Nat)(Q:AE->Sl->St->Prop)(Zk:St)(kp:Zo)(vp:Nat)(n4:Int)(mP:Sc):Prop:=
  ∀(σ:Sl)(st:St),σ 0=.p kp vp 0->σ 4=.i .i64 n4->lk st.bx kp=some (vp,[.s mP.left])->Fr d kp Zk.bx Zk.ow st.bx st.ow->WG PG d 0 Zcq σ st Q
section
variable(PG:Zb)(K:Int->Bool->Sc->Prop)
def Zau (P0:Int->Sc->Prop)(n4:Int)(mP:Sc):Prop:=
  (n4<(mP.left.length:Int)->0<=n4/\∃c:UInt8,mP.left[(n4).toNat]?=some c/\((c.toNat:Int)>=48->0<=n4/\∃j:UInt8,mP.left[(n4).toNat]?=some j/\((j.toNat:Int)<=57->P0 (IntKind.i64.wrap (n4+1)) mP)/\(¬((j.toNat:Int)<=57)->(n4=0->0<=n4/\∃k:UInt8,mP.left[(n4).toNat]?=some k/\((k.toNat:Int)=45->P0 (IntKind.i64.wrap (n4+1)) mP)/\(¬((k.toNat:Int)=45)->0<=n4/\(n4).toNat<=mP.left.length/\∃z r,Ze PG 21 [.s (mP.left.take (n4).toNat)] (.tup [.i .i64 z,.i .i64 r])/\0<=n4/\(n4).toNat<=mP.left.length/\K z (decide (r=0)) (Sc.mk (mP.left.drop (n4).toNat))))/\(¬(n4=0)->0<=n4/\(n4).toNat<=mP.left.length/\∃y w,Ze PG 21 [.s (mP.left.take (n4).toNat)] (.tup [.i .i64 y,.i .i64 w])/\0<=n4/\(n4).toNat<=mP.left.length/\K y (decide (w=0)) (Sc.mk (mP.left.drop (n4).toNat)))))/\(¬((c.toNat:Int)>=48)->(n4=0->0<=n4/\∃e:UInt8,mP.left[(n4).toNat]?=some e/\((e.toNat:Int)=45->P0 (IntKind.i64.wrap (n4+1)) mP)/\(¬((e.toNat:Int)=45)->0<=n4/\(n4).toNat<=mP.left.length/\∃u p,Ze PG 21 [.s (mP.left.take (n4).toNat)] (.tup [.i .i64 u,.i .i64 p])/\0<=n4/\(n4).toNat<=mP.left.length/\K u (decide (p=0)) (Sc.mk (mP.left.drop (n4).toNat))))/\(¬(n4=0)->0<=n4/\(n4).toNat<=mP.left.length/\∃v q,Ze PG 21 [.s (mP.left.take (n4).toNat)] (.tup [.i .i64 v,.i .i64 q])/\0<=n4/\(n4).toNat<=mP.left.length/\K v (decide (q=0)) (Sc.mk (mP.left.drop (n4).toNat)))))/\(¬(n4<(mP.left.length:Int))->0<=n4/\(n4).toNat<=mP.left.length/\∃o x,Ze PG 21 [.s (mP.left.take (n4).toNat)] (.tup [.i .i64 o,.i .i64 x])/\0<=n4/\(n4).toNat<=mP.left.length/\K o (decide (x=0)) (Sc.mk (mP.left.drop (n4).toNat)))
def Zhx (mP:Sc):Prop:=
  ∀P0:Int->Sc->Prop,(∀(n4:Int)(mP:Sc),Zau PG K P0 n4 mP->P0 n4 mP)->P0 0 mP
def Zmb (mP:Sc):Prop:=
  Zhx PG K mP
end
section
variable {PG:Zb}{d:Nat}{Q:AE->Sl->St->Prop}{K:Int->Bool->Sc->Prop}{Zk:St}{kp:Zo}{vp:Nat}(hQ:Xbz d Zk kp vp Q K)(hkp:kp.1<d){σ:Sl}{st:St}
include hQ hkp
variable {n4:Int}{mP:Sc}{P0:Int->Sc->Prop}
variable (kP0 :∀(n4:Int)(mP:Sc),P0 n4 mP->Zx3 PG d Q Zk kp vp n4 mP)(H0:σ 0=.p kp vp 0)(H4:σ 4=.i .i64 n4)(BP:lk st.bx kp=some (vp,[.s mP.left]))(FR:Fr d kp Zk.bx Zk.ow st.bx st.ow)
include kP0 H0 H4 BP FR in
theorem Ywd (h:Zau PG K P0 n4 mP):W PG d Zcq σ st (Zh7 PG d 0 Zcq Q):=
 Zp (q_ J (Xf H4 (Vg H0 (Wg J (f_ J (l_ J BP J J (Rg J (b_ J J Vc (Xl J (Xa (g:=14) J (fun k=>Zd J (Vg H0 (Zd J (Wg J (Zd J (f_ J (Zd J (l_ J BP J J (Zd J (Xf H4 (Zd J ((h.1 k).2.elim fun _ c=>Gc J J (h.1 k).1 c.1 (Zd J (b_ J J Gd (Zd J (Xl J (Xa (g:=22) J (fun e=>Zd J (Vg H0 (Zd J (Wg J (Zd J (f_ J (Zd J (l_ J BP J J (Zd J (Xf H4 (Zd J ((c.2.1 e).2.elim fun _ i=>Gc J J (c.2.1 e).1 i.1 (Zd J (b_ J J Zpy (Zd J (Mt J J (Zd J (Xl J (Xa (g:=31) J (fun j=>z_ 3 J (Vk J (Vk J (Vk J (Vk J (Vk J (Vk J (Vk J (nT J (Zd J (z_ 2 J (e_ (Xj J (q_ J (m_ (b_ H4 J Vv (m_ (e_ (W.goto ⟨rfl,kP0 _ _ (i.2.1 j) _ _ H0 J BP FR⟩))))))))))))))))))) (fun j=>Zd J (Xf H4 (Zd J (b_ J J Xc (Zd J (Xl J (Xa (g:=34) J (fun p=>Zd J (Vg H0 (Zd J (Wg J (Zd J (f_ J (Zd J (l_ J BP J J (Zd J (Xf H4 (Zd J (((i.2.2 j).1 p).2.elim fun _ q=>Gc J J ((i.2.2 j).1 p).1 q.1 (Zd J (b_ J J Xc (Zd J (Mt J J (Zd J (z_ 2 J (e_ (Yk J (fun s=>q_ J (m_ (b_ H4 J Vv (m_ (e_ (W.goto ⟨rfl,kP0 _ _ (q.2.1 s) _ _ H0 J BP FR⟩)))))) (fun s=>Yg (q_ J (m_ (Wg H0 (f_ J (l_ J BP J J (m_ (Mb J H4 (q.2.2 s).1 (q.2.2 s).2.1 (x2 (q.2.2 s).2.2 fun _ _ v=>Ya (Ys J J) v.1 (m_ (x_ J J (x_ J J (m_ (m_ (e_ (q_ J (m_ (m_ (Wg H0 (f_ J (l_ J BP J J (m_ (Ho J H4 v.2.1 v.2.2.1 (Wg H0 (f_ J (Yc J BP J J J (e_ (q_ J (m_ (m_ (b_ J J Xc (m_ (m_ (Zr (hQ _ _ _ _ _ J J Zj (Fr.own FR) v.2.2.2))))))))))))))))))))))))))))))))))))))))))))))))))))))) (fun p=>z_ 7 J (Zd J (Jp J J (Zd J (z_ 2 J (e_ (Di J (Yg (q_ J (m_ (Wg H0 (f_ J (l_ J BP J J (m_ (Mb J H4 ((i.2.2 j).2 p).1 ((i.2.2 j).2 p).2.1 (x2 ((i.2.2 j).2 p).2.2 fun _ _ w=>Ya (Ys J J) w.1 (m_ (x_ J J (x_ J J (m_ (m_ (e_ (q_ J (m_ (m_ (Wg H0 (f_ J (l_ J BP J J (m_ (Ho J H4 w.2.1 w.2.2.1 (Wg H0 (f_ J (Yc J BP J J J (e_ (q_ J (m_ (m_ (b_ J J Xc (m_ (m_ (Zr (hQ _ _ _ _ _ J J Zj (Fr.own FR) w.2.2.2)))))))))))))))))))))))))))))))))))))))))))))))))))))))))))))))))))) (fun e=>z_ 7 J (Zd J (Jp J J (Zd J (Xl J (Zd J (Xf H4 (Zd J (b_ J J Xc (Zd J (Xl J (Xa (g:=34) J (fun o=>Zd J (Vg H0 (Zd J (Wg J (Zd J (f_ J (Zd J (l_ J BP J J (Zd J (Xf H4 (Zd J (((c.2.2 e).1 o).2.elim fun _ r=>Gc J J ((c.2.2 e).1 o).1 r.1 (Zd J (b_ J J Xc (Zd J (Mt J J (Zd J (z_ 2 J (e_ (Yk J (fun u=>q_ J (m_ (b_ H4 J Vv (m_ (e_ (W.goto ⟨rfl,kP0 _ _ (r.2.1 u) _ _ H0 J BP FR⟩)))))) (fun u=>Yg (q_ J (m_ (Wg H0 (f_ J (l_ J BP J J (m_ (Mb J H4 (r.2.2 u).1 (r.2.2 u).2.1 (x2 (r.2.2 u).2.2 fun _ _ x=>Ya (Ys J J) x.1 (m_ (x_ J J (x_ J J (m_ (m_ (e_ (q_ J (m_ (m_ (Wg H0 (f_ J (l_ J BP J J (m_ (Ho J H4 x.2.1 x.2.2.1 (Wg H0 (f_ J (Yc J BP J J J (e_ (q_ J (m_ (m_ (b_ J J Xc (m_ (m_ (Zr (hQ _ _ _ _ _ J J Zj (Fr.own FR) x.2.2.2))))))))))))))))))))))))))))))))))))))))))))))))))))))) (fun o=>z_ 7 J (Zd J (Jp J J (Zd J (z_ 2 J (e_ (Di J (Yg (q_ J (m_ (Wg H0 (f_ J (l_ J BP J J (m_ (Mb J H4 ((c.2.2 e).2 o).1 ((c.2.2 e).2 o).2.1 (x2 ((c.2.2 e).2 o).2.2 fun _ _ y=>Ya (Ys J J) y.1 (m_ (x_ J J (x_ J J (m_ (m_ (e_ (q_ J (m_ (m_ (Wg H0 (f_ J (l_ J BP J J (m_ (Ho J H4 y.2.1 y.2.2.1 (Wg H0 (f_ J (Yc J BP J J J (e_ (q_ J (m_ (m_ (b_ J J Xc (m_ (m_ (Zr (hQ _ _ _ _ _ J J Zj (Fr.own FR) y.2.2.2))))))))))))))))))))))))))))))))))))))))))))))))))))))))))))))))))))))) (fun k=>z_ 8 J (Vk J (Vk J (Vk J (Vk J (Vk J (Vk J (Vk J (z_ 2 J (Vk J (Vk J (Vk J (Vk J (Vk J (Vk J (Vk J (Vk J (Vk J (Vk J (Vk J (z_ 2 J (e_ (Di J (Yg (q_ J (m_ (Wg H0 (f_ J (l_ J BP J J (m_ (Mb J H4 (h.2 k).1 (h.2 k).2.1 (x2 (h.2 k).2.2 fun _ _ z=>Ya (Ys J J) z.1 (m_ (x_ J J (x_ J J (m_ (m_ (e_ (q_ J (m_ (m_ (Wg H0 (f_ J (l_ J BP J J (m_ (Ho J H4 z.2.1 z.2.2.1 (Wg H0 (f_ J (Yc J BP J J J (e_ (q_ J (m_ (m_ (b_ J J Xc (m_ (m_ (Zr (hQ _ _ _ _ _ J J Zj (Fr.own FR) z.2.2.2))))))))))))))))))))))))))))))))))))))))))))))))))))))))))))))))))))
include H0 BP FR in
theorem Yqw (h:Zhx PG K mP):W PG d Zr5 σ st Q:=
 W.gscope' (W.reg0 J fun _ _=>m_ (e_ (h (Zx3 PG d Q Zk kp vp ) (fun _ _ hb _ _ H0 H4 BP FR=>WG.step (Ywd hQ hkp (fun _ _ x=>x) H0 H4 BP FR hb)) _ _ H0 J BP FR)))
include H0 BP FR in
theorem Yyt (h:Zmb PG K mP):W PG d Zrz σ st Q:=
 au @Yqw
end
theorem Xbn {PG:Zb}(hf:PG.fn 131=some Fq){mP:Sc}{K:Int->Bool->Sc->Prop}(h:Zmb PG K mP):Qr PG 131 (Bx [.s mP.left]) [] (fun r (b_:Sc)=>∃aa:Int,∃ae:Bool,(r=.tup [.i .i64 aa,.b ae])/\K aa ae b_) (fun b_=>(Bx [.s b_.left])):=
  Qr.of hf rfl (fun _=>Bx.out) fun d st kp vp hkp hB=>Yyt (Zk:=st) (Q:=fun e σ st'=>(e=.normal\/e=.ret)/\∃r b_,Xk σ st' Fq.res=some r/\_/\_/\Fr d kp st.bx st.ow st'.bx st'.ow) (fun σ st'   aa ae b_ H2 H3 hb hf hk=>⟨.inr rfl,.tup [.i .i64 aa,.b ae],b_,by simp only [Fq,Xk,Vb,H2,H3,Kg,kJ,H2,H3],⟨aa,ae,rfl,hk⟩,hb,hf⟩) hkp (σ:=Wc [.p kp vp 0]) rfl hB Fr.refl h
abbrev H66 (Q:AE->Sl->St->Prop)(K:Bool->Prop):Prop:=∀(σ:Sl)(st:St)(aa:Bool),σ 4=.b aa->K aa->Q .ret σ st
section
variable {PG:Zb}{d:Nat}{Q:AE->Sl->St->Prop}{K:Bool->Prop}(hQ:H66 Q K){σ:Sl}{st:St}
include hQ
end
end Go.AM

namespace Go.AM
open Go
set_option maxRecDepth 4000
set_option maxHeartbeats 2000000
attribute [local irreducible] Decidable.decide W WO Xq We
abbrev Zsp:AC:=(sR 0 [oC 2 (.s [])] (sR 1 [oM 3 0,oQ 4 15 [3],oM 2 4] .ret))
def Zew:AF:={ nt:=5,res:=[.tmp 2],body:=Zsp }
section
variable(PG:Zb)(K:BS->Prop)
def Zi6 (n0:Int):Prop:=
  ∃c,Ze PG 15 [.i .i64 n0] (.s c)/\K c
end
section
variable {PG:Zb}{d:Nat}{Q:AE->Sl->St->Prop}{K:BS->Prop}(hQ:H1 AV.s 2 Q K){σ:Sl}{st:St}
include hQ
variable {n0:Int}
variable (H0:σ 0=.i .i64 n0)
include H0 in
theorem Ylo (h:Zi6 PG K n0):W PG d Zsp σ st Q:=
 au trivial
end
theorem Yfj {PG:Zb}(hf:PG.fn 111=some Zew){n0:Int}{K:BS->Prop}(h:Zi6 PG K n0) :∃aa:BS,K aa/\Ze PG 111 [.i .i64 n0] (.s aa):=
 P1 hf J (Ylo (h1 J fun _=>J) J h)
abbrev Zus:AC:=(sR 0 [oC 2 (.s [])] (sR 1 [oM 6 0,oQ 7 11 [6],oM 5 7,oE 8 0 5,oE 9 1 5,oM 3 8,oM 4 9] (sR 2 [oM 10 3,oM 2 10] .ret)))
def Zds:AF:={ nt:=11,res:=[.tmp 2],body:=Zus }
section
variable(PG:Zb)(K:BS->Prop)
def Zm8 (s0:BS):Prop:=
  ∃c e,Ze PG 11 [.s s0] (.tup [.s c,.i .i64 e])/\K c
end
section
variable {PG:Zb}{d:Nat}{Q:AE->Sl->St->Prop}{K:BS->Prop}(hQ:H1 AV.s 2 Q K){σ:Sl}{st:St}
include hQ
variable {s0:BS}
variable (H0:σ 0=.s s0)
include H0 in
theorem Ytd (h:Zm8 PG K s0):W PG d Zus σ st Q:=
 au trivial
end
theorem Yp9 {PG:Zb}(hf:PG.fn 112=some Zds){s0:BS}{K:BS->Prop}(h:Zm8 PG K s0) :∃aa:BS,K aa/\Ze PG 112 [.s s0] (.s aa):=
 P1 hf J (Ytd (h1 J fun _=>J) J h)
abbrev Zuk:AC:=(sR 0 [oO 0 (.alloc [zs,zs,zs,zs])] (sR 1 [oO 1 (.build [zs,zs,zs,zs] [(0,1,(.c (.s [99,97,108,108]))),(1,1,(.c (.s [100,101,102,101,114]))),(2,1,(.c (.s [112,97,110,105,99]))),(3,1,(.c (.s [101,120,105,116])))]),oS 4 0 1] .ret))
def Ef:AF:={ nt:=2,res:=[.cell 0 4 true],body:=Zuk }
abbrev Yqx (Q:AE->Sl->St->Prop)(K:LB->Prop):Prop:=∀(σ:Sl)(st:St)(k0:Zo)(v0:Nat)(aa:LB),σ 0=.p k0 v0 0->lk st.bx k0=some (v0,List.map AV.s aa)->aa.length=4->K aa->Q .ret σ st
def Zgy (PG:Zb)(K:LB->Prop) :Prop:=
  K [([99,97,108,108]:BS),([100,101,102,101,114]:BS),([112,97,110,105,99]:BS),([101,120,105,116]:BS)]
section
variable {PG:Zb}{d:Nat}{Q:AE->Sl->St->Prop}{K:LB->Prop}(hQ:Yqx Q K){σ:Sl}{st:St}
include hQ
theorem Yln (h:Zgy PG K ):W PG d Zuk σ st Q:=
 Zp (W.reg (Xo (e_ (q_ J (Pv (f:=AV.s) (l:=[([99,97,108,108]:BS),([100,101,102,101,114]:BS),([112,97,110,105,99]:BS),([101,120,105,116]:BS)]) (Yl J J (Yl J J (Yl J J (Yl J J Yh)))) J (Lj (f:=AV.s) (fun _=>J) J (show lk _ (d,0)=some (_,(List.map AV.s (List.replicate 4 ([]:BS)):List AV)) from Zj) (by simp) J J (Zr (hQ _ _ _ _ _ J Zj (by simp) h))))))))
end
theorem Yia {PG:Zb}(hf:PG.fn 113=some Ef)  {K:LB->Prop}(h:Zgy PG K ) :∃aa:LB,K aa/\Ze PG 113 [] (.ag (List.map AV.s aa)):=by
  obtain ⟨v,hv,aa,hk,rfl⟩:=Ze.of (K:=fun v=>∃aa:LB,K aa/\v=.ag (List.map AV.s aa)) hf rfl (Yln (σ:=Wc []) (fun σ st k0 v0  aa H0 HB0 HL0 hk=>⟨.ag (List.map AV.s aa),by simp only [Ef,Xk,Vb,Jr (n:=4) H0 HB0 (by simpa using HL0),Ky,kJ],_,Zd8 AV.s (fun _=>rfl) _,aa,hk,rfl⟩)  h)
  exact ⟨aa,hk,hv⟩
abbrev Zxn:AC:=(sR 0 [oC 4 (.b false)] (sR 1 [oM 5 0,oM 6 1,oO 7 (.call true 139 [(.t 5),(.t 6)]),oV 8 .geq 7 0,oM 4 8] .ret))
def Zar:AF:={ nt:=9,res:=[.tmp 4],body:=Zxn }
section
variable(PG:Zb)(K:Bool->Prop)
def Zhk (s0:LB)(f1:Nat × List AV):Prop:=
  ∃c,(∀e:Zm,Ym PG 139 [.sl e (List.map Zt s0),.fn f1.1 f1.2] (fun r=>r=.i .i64 c))/\K (decide (c>=0))
end
section
variable {PG:Zb}{d:Nat}{Q:AE->Sl->St->Prop}{K:Bool->Prop}{Zk:St}(hQ:HF d Zk AV.b 4 Q K){σ:Sl}{st:St}
include hQ
variable {s0:LB}{f1:Nat × List AV}{br:Zm}
variable (H0:σ 0=.sl br (List.map Zt s0))(H1:σ 1=.fn f1.1 f1.2)(FR:Fr d (d,0) Zk.bx Zk.ow st.bx st.ow)
include H0 H1 FR in
theorem Xbg (h:Zhk PG K s0 f1):W PG d Zxn σ st Q:=
 q_ J (m_ (e_ (q_ J (Yf H0 (m_ (h.elim fun _ c=>Gs (Zz J (Zz H1 Yq)) (c.1 _) (fun _ e=>b_ J J Gd (m_ (Zr (hQ J (Fr.raw FR e) c.2))))))))))
end
theorem Yyd {PG:Zb}(hf:PG.fn 115=some Zar){s0:LB}{f1:Nat × List AV}{K:Bool->Prop}(h:Zhk PG K s0 f1)(br:Zm):Ym PG 115 [.sl br (List.map Zt s0),.fn f1.1 f1.2] (fun r=>∃aa:Bool,(r=.b aa)/\K aa):=
 PF hf J J fun d st Q q=>Xbg q J J Fr.refl h
abbrev Ya9:AC:=(sR 0 [oC 2 (.b false)] (sR 1 [oM 3 0,oH 4 3,oV 5 .gtr 4 1400060,oM 2 5] .ret))
def Zcz:AF:={ nt:=6,res:=[.tmp 2],body:=Ya9 }
def Zp8 (PG:Zb)(K:Bool->Prop)(s0:BS):Prop:=
  K (decide ((s0.length:Int)>1400060))
section
variable {PG:Zb}{d:Nat}{Q:AE->Sl->St->Prop}{K:Bool->Prop}{Zk:St}(hQ:HF d Zk AV.b 2 Q K){σ:Sl}{st:St}
include hQ
variable {s0:BS}
variable (H0:σ 0=.s s0)(FR:Fr d (d,0) Zk.bx Zk.ow st.bx st.ow)
include H0 FR in
theorem Yt3 (h:Zp8 PG K s0):W PG d Ya9 σ st Q:=
 au trivial
end
theorem Xfp {PG:Zb}(hf:PG.fn 116=some Zcz){s0:BS}{K:Bool->Prop}(h:Zp8 PG K s0):Ym PG 116 [.s s0] (fun r=>∃aa:Bool,(r=.b aa)/\K aa):=
 PF hf J J fun d st Q q=>Yt3 q J Fr.refl h
abbrev Zgf:AC:=(sR 2 [oT 9 .lss 8 7] (.seq (.cond (.t 9) .skip (.exit 0)) (.seq (.block 1 (sR 3 [oM 10 8,oM 5 10] (sR 4 [oM 11 1,oM 12 0,oM 13 5,oX 14 1 12 13,oL 15 14,oO 16 (.callv (.t 11) [(.t 15)])] (.cond (.t 16) (sR 5 [oM 17 5,oM 4 17] .ret) .skip)))) (.reg 6 [oV 18 .add 8 1,oM 8 18]))))
abbrev Zai:AC:=(sR 7 [oI 4 (-1)] .ret)
abbrev Ztp:AC:=(sR 0 [oI 4 0] (.seq (sR 1 [oM 6 0,oJ 7 6,oI 8 0] (.block 0 (.loop Zgf))) Zai))
def Zdi:AF:={ nt:=19,res:=[.tmp 4],body:=Ztp }
abbrev Zqx (PG:Zb)(d:Nat)(Q:AE->Sl->St->Prop)(Zk:St)(s0:LB)(f1:Nat × List AV)(t7:Int)(t8:Int):Prop:=
  ∀(σ:Sl)(st:St)(br:Zm),σ 0=.sl br (List.map Zt s0)->σ 1=.fn f1.1 f1.2->σ 7=.i .i64 t7->σ 8=.i .i64 t8->Fr d (d,0) Zk.bx Zk.ow st.bx st.ow->W PG d (.loop Zgf) σ st (Yd 0 (Zv PG d Zai Q))
def Zgr (PG:Zb)(K:Int->Prop) :Prop:=
  K (-1)
section
variable(PG:Zb)(K:Int->Prop)
def Iz (P0:Int->Prop)(s0:LB)(f1:Nat × List AV)(t7:Int)(t8:Int):Prop:=
  (t8<t7->0<=t8/\∃e,s0[(t8).toNat]?=some e/\∃c,(Ym PG f1.1 ([.s e]++f1.2) (fun r=>r=.b c))/\(c=true->K t8)/\(c=false->P0 (IntKind.i64.wrap (t8+1))))/\(¬(t8<t7)->Zgr PG K )
def Zio (s0:LB)(f1:Nat × List AV):Prop:=
  ∀P0:Int->Prop,(∀(t8:Int),Iz PG K P0 s0 f1 (s0.length:Int) t8->P0 t8)->P0 0
end
section
variable {PG:Zb}{d:Nat}{Q:AE->Sl->St->Prop}{K:Int->Prop}{Zk:St}(hQ:HF d Zk (AV.i .i64) 4 Q K){σ:Sl}{st:St}
include hQ
variable {s0:LB}{f1:Nat × List AV}{t7 t8:Int}{P0:Int->Prop}{br:Zm}
variable (kP0 :∀(t8:Int),P0 t8->Zqx PG d Q Zk s0 f1 t7 t8)(H0:σ 0=.sl br (List.map Zt s0))(H1:σ 1=.fn f1.1 f1.2)(H7:σ 7=.i .i64 t7)(H8:σ 8=.i .i64 t8)(FR:Fr d (d,0) Zk.bx Zk.ow st.bx st.ow)
include FR in
theorem Yzr (h:Zgr PG K ):W PG d Zai σ st Q:=
 au trivial
include kP0 H0 H1 H7 H8 FR in
theorem Ynn (h:Iz PG K P0 s0 f1 t7 t8):W PG d Zgf σ st (Zv PG d (.loop Zgf) (Yd 0 (Zv PG d Zai Q))):=
 q_ J (b_ H8 H7 Vc (e_ (Zp (Yk J (fun c=>Yg (Zp (Yn (q_ J (m_ (m_ (e_ (q_ J (m_ (Yf H0 (m_ ((h.1 c).2.elim fun _ j=>Vx J H8 (h.1 c).1 j.1 J J (Vd J J J (j.2.elim fun _ e=>Fy H1 (Zz J Yq) (e.1) (fun _ k=>e_ (Wp J (fun i=>q_ J (m_ (m_ (Zr (hQ H8 (Fr.raw FR k) (e.2.1 i)))))) (fun i=>Yg (W.reg0 J fun _ _=>b_ H8 J Vv (m_ (e_ (kP0 _ (e.2.2 i) _ _ _ H0 H1 H7 J (Fr.raw FR k)))))))))))))))))))))) (fun c=>Jm (Yzr hQ FR (h.2 c)))))))
include H0 H1 FR in
theorem Ygf (h:Zio PG K s0 f1):W PG d Ztp σ st Q:=
 q_ J (m_ (e_ (Zp (q_ J (Yf H0 (Wk J (m_ (e_ (Yn (h (Zqx PG d Q Zk s0 f1 (s0.length:Int)) (fun _ hb _ _ _ H0 H1 H7 H8 FR=>W.loop (Ynn hQ (fun _ x=>x) H0 H1 H7 H8 FR hb)) _ _ _ H0 H1 J J FR))))))))))
end
theorem Xj9 {PG:Zb}(hf:PG.fn 139=some Zdi){s0:LB}{f1:Nat × List AV}{K:Int->Prop}(h:Zio PG K s0 f1)(br:Zm):Ym PG 139 [.sl br (List.map Zt s0),.fn f1.1 f1.2] (fun r=>∃aa:Int,(r=.i .i64 aa)/\K aa):=
 PF hf J J fun d st Q q=>Ygf q J J Fr.refl h
abbrev Ybo:AC:=(sR 0 [oC 4 (.b false)] (sR 1 [oM 5 0,oM 6 1,oO 7 (.call true 144 [(.t 5),(.t 6)]),oV 8 .geq 7 0,oM 4 8] .ret))
def Zfi:AF:={ nt:=9,res:=[.tmp 4],body:=Ybo }
section
variable(PG:Zb)(K:Bool->Prop)
def Zjk (s0:List Xh)(f1:Nat × List AV):Prop:=
  ∃c,(∀e:Zm,Ym PG 144 [.sl e (List.map Xh.row s0),.fn f1.1 f1.2] (fun r=>r=.i .i64 c))/\K (decide (c>=0))
end
section
variable {PG:Zb}{d:Nat}{Q:AE->Sl->St->Prop}{K:Bool->Prop}{Zk:St}(hQ:HF d Zk AV.b 4 Q K){σ:Sl}{st:St}
include hQ
variable {s0:List Xh}{f1:Nat × List AV}{br:Zm}
variable (H0:σ 0=.sl br (List.map Xh.row s0))(H1:σ 1=.fn f1.1 f1.2)(FR:Fr d (d,0) Zk.bx Zk.ow st.bx st.ow)
include H0 H1 FR in
theorem Ylb (h:Zjk PG K s0 f1):W PG d Ybo σ st Q:=
 q_ J (m_ (e_ (q_ J (Yf H0 (m_ (h.elim fun _ c=>Gs (Zz J (Zz H1 Yq)) (c.1 _) (fun _ e=>b_ J J Gd (m_ (Zr (hQ J (Fr.raw FR e) c.2))))))))))
end
theorem Xez {PG:Zb}(hf:PG.fn 122=some Zfi){s0:List Xh}{f1:Nat × List AV}{K:Bool->Prop}(h:Zjk PG K s0 f1)(br:Zm):Ym PG 122 [.sl br (List.map Xh.row s0),.fn f1.1 f1.2] (fun r=>∃aa:Bool,(r=.b aa)/\K aa):=
 PF hf J J fun d st Q q=>Ylb q J J Fr.refl h
abbrev Ztr:AC:=(sR 0 [oY 1 2 0,oC 2 (.b false)] (sR 1 [oF 3 0 1,oL 4 3,oH 5 4,oV 6 .gtr 5 16,oM 2 6] .ret))
def Zev:AF:={ nt:=7,res:=[.tmp 2],body:=Ztr }
def Zo1 (PG:Zb)(K:Bool->Prop)(s0:Xh):Prop:=
  K (decide ((s0.name.length:Int)>16))
section
variable {PG:Zb}{d:Nat}{Q:AE->Sl->St->Prop}{K:Bool->Prop}{Zk:St}(hQ:HF d Zk AV.b 2 Q K){σ:Sl}{st:St}
include hQ
variable {s0:Xh}
variable (H0:σ 0=s0.av)(FR:Fr d (d,0) Zk.bx Zk.ow st.bx st.ow)
include H0 FR in
theorem Yys (h:Zo1 PG K s0):W PG d Ztr σ st Q:=
 au trivial
end
theorem Yqc {PG:Zb}(hf:PG.fn 123=some Zev){s0:Xh}{K:Bool->Prop}(h:Zo1 PG K s0):Ym PG 123 [s0.av] (fun r=>∃aa:Bool,(r=.b aa)/\K aa):=
 PF hf J J fun d st Q q=>Yys q J Fr.refl h
abbrev Zb6:AC:=(sR 2 [oT 9 .lss 8 7] (.seq (.cond (.t 9) .skip (.exit 0)) (.seq (.block 1 (sR 3 [oM 10 8,oM 5 10] (sR 4 [oM 11 1,oM 12 0,oM 13 5,oX 14 2 12 13,oK 15 2 14,oO 16 (.callv (.t 11) [(.t 15)])] (.cond (.t 16) (sR 5 [oM 17 5,oM 4 17] .ret) .skip)))) (.reg 6 [oV 18 .add 8 1,oM 8 18]))))
abbrev Zcj:AC:=(sR 7 [oI 4 (-1)] .ret)
abbrev Yb9:AC:=(sR 0 [oI 4 0] (.seq (sR 1 [oM 6 0,oJ 7 6,oI 8 0] (.block 0 (.loop Zb6))) Zcj))
def Zet:AF:={ nt:=19,res:=[.tmp 4],body:=Yb9 }
abbrev Zx4 (PG:Zb)(d:Nat)(Q:AE->Sl->St->Prop)(Zk:St)(s0:List Xh)(f1:Nat × List AV)(t7:Int)(t8:Int):Prop:=
  ∀(σ:Sl)(st:St)(br:Zm),σ 0=.sl br (List.map Xh.row s0)->σ 1=.fn f1.1 f1.2->σ 7=.i .i64 t7->σ 8=.i .i64 t8->Fr d (d,0) Zk.bx Zk.ow st.bx st.ow->W PG d (.loop Zb6) σ st (Yd 0 (Zv PG d Zcj Q))
def Zhq (PG:Zb)(K:Int->Prop) :Prop:=
  K (-1)
section
variable(PG:Zb)(K:Int->Prop)
def Ek (P0:Int->Prop)(s0:List Xh)(f1:Nat × List AV)(t7:Int)(t8:Int):Prop:=
  (t8<t7->0<=t8/\∃e:Xh,s0[(t8).toNat]?=some e/\∃c,(Ym PG f1.1 ([e.av]++f1.2) (fun r=>r=.b c))/\(c=true->K t8)/\(c=false->P0 (IntKind.i64.wrap (t8+1))))/\(¬(t8<t7)->Zhq PG K )
def Zjh (s0:List Xh)(f1:Nat × List AV):Prop:=
  ∀P0:Int->Prop,(∀(t8:Int),Ek PG K P0 s0 f1 (s0.length:Int) t8->P0 t8)->P0 0
end
section
variable {PG:Zb}{d:Nat}{Q:AE->Sl->St->Prop}{K:Int->Prop}{Zk:St}(hQ:HF d Zk (AV.i .i64) 4 Q K){σ:Sl}{st:St}
include hQ
variable {s0:List Xh}{f1:Nat × List AV}{t7 t8:Int}{P0:Int->Prop}{br:Zm}
variable (kP0 :∀(t8:Int),P0 t8->Zx4 PG d Q Zk s0 f1 t7 t8)(H0:σ 0=.sl br (List.map Xh.row s0))(H1:σ 1=.fn f1.1 f1.2)(H7:σ 7=.i .i64 t7)(H8:σ 8=.i .i64 t8)(FR:Fr d (d,0) Zk.bx Zk.ow st.bx st.ow)
include FR in
theorem Xa4 (h:Zhq PG K ):W PG d Zcj σ st Q:=
 au trivial
include kP0 H0 H1 H7 H8 FR in
theorem Yyx (h:Ek PG K P0 s0 f1 t7 t8):W PG d Zb6 σ st (Zv PG d (.loop Zb6) (Yd 0 (Zv PG d Zcj Q))):=
 q_ J (b_ H8 H7 Vc (e_ (Zp (Yk J (fun c=>Yg (Zp (Yn (q_ J (m_ (m_ (e_ (q_ J (m_ (Yf H0 (m_ ((h.1 c).2.elim fun o j=>Vx J H8 (h.1 c).1 j.1 (Xh.row_eq o) J (Vd J J J (j.2.elim fun _ e=>Fy H1 (Zz J Yq) (e.1) (fun _ k=>e_ (Wp J (fun i=>q_ J (m_ (m_ (Zr (hQ H8 (Fr.raw FR k) (e.2.1 i)))))) (fun i=>Yg (W.reg0 J fun _ _=>b_ H8 J Vv (m_ (e_ (kP0 _ (e.2.2 i) _ _ _ H0 H1 H7 J (Fr.raw FR k)))))))))))))))))))))) (fun c=>Jm (Xa4 hQ FR (h.2 c)))))))
include H0 H1 FR in
theorem Yty (h:Zjh PG K s0 f1):W PG d Yb9 σ st Q:=
 q_ J (m_ (e_ (Zp (q_ J (Yf H0 (Wk J (m_ (e_ (Yn (h (Zx4 PG d Q Zk s0 f1 (s0.length:Int)) (fun _ hb _ _ _ H0 H1 H7 H8 FR=>W.loop (Yyx hQ (fun _ x=>x) H0 H1 H7 H8 FR hb)) _ _ _ H0 H1 J J FR))))))))))
end
theorem Xfs {PG:Zb}(hf:PG.fn 144=some Zet){s0:List Xh}{f1:Nat × List AV}{K:Int->Prop}(h:Zjh PG K s0 f1)(br:Zm):Ym PG 144 [.sl br (List.map Xh.row s0),.fn f1.1 f1.2] (fun r=>∃aa:Int,(r=.i .i64 aa)/\K aa):=
 PF hf J J fun d st Q q=>Yty q J J Fr.refl h
abbrev Ze7:AC:=(sR 2 [oT 9 .lss 8 7] (.seq (.cond (.t 9) .skip (.exit 0)) (.seq (.block 1 (sR 3 [oM 10 8,oM 5 10] (sR 4 [oM 11 1,oM 12 0,oM 13 5,oX 14 1 12 13,oL 15 14,oT 16 .eql 11 15] (.cond (.t 16) (sR 5 [oM 17 5,oM 4 17] .ret) .skip)))) (.reg 6 [oV 18 .add 8 1,oM 8 18]))))
abbrev Zf2:AC:=(sR 7 [oI 4 (-1)] .ret)
abbrev Yc3:AC:=(sR 0 [oI 4 0] (.seq (sR 1 [oM 6 0,oJ 7 6,oI 8 0] (.block 0 (.loop Ze7))) Zf2))
def Zg2:AF:={ nt:=19,res:=[.tmp 4],body:=Yc3 }
abbrev Ycv (PG:Zb)(d:Nat)(Q:AE->Sl->St->Prop)(s0:LB)(v1:BS)(t7:Int)(t8:Int):Prop:=
  ∀(σ:Sl)(st:St)(br:Zm),σ 0=.sl br (List.map Zt s0)->σ 1=.s v1->σ 7=.i .i64 t7->σ 8=.i .i64 t8->W PG d (.loop Ze7) σ st (Yd 0 (Zv PG d Zf2 Q))
def Zif (PG:Zb)(K:Int->Prop) :Prop:=
  K (-1)
section
variable(PG:Zb)(K:Int->Prop)
def Ir (P0:Int->Prop)(s0:LB)(v1:BS)(t7:Int)(t8:Int):Prop:=
  (t8<t7->0<=t8/\∃c,s0[(t8).toNat]?=some c/\(v1=c->K t8)/\(¬(v1=c)->P0 (IntKind.i64.wrap (t8+1))))/\(¬(t8<t7)->Zif PG K )
def Zig (s0:LB)(v1:BS):Prop:=
  ∀P0:Int->Prop,(∀(t8:Int),Ir PG K P0 s0 v1 (s0.length:Int) t8->P0 t8)->P0 0
end
section
variable {PG:Zb}{d:Nat}{Q:AE->Sl->St->Prop}{K:Int->Prop}(hQ:H1 (AV.i .i64) 4 Q K){σ:Sl}{st:St}
include hQ
variable {s0:LB}{v1:BS}{t7 t8:Int}{P0:Int->Prop}{br:Zm}
variable (kP0 :∀(t8:Int),P0 t8->Ycv PG d Q s0 v1 t7 t8)(H0:σ 0=.sl br (List.map Zt s0))(H1:σ 1=.s v1)(H7:σ 7=.i .i64 t7)(H8:σ 8=.i .i64 t8)
theorem Yni (h:Zif PG K ):W PG d Zf2 σ st Q:=
 au trivial
include kP0 H0 H1 H7 H8 in
theorem Ynx (h:Ir PG K P0 s0 v1 t7 t8):W PG d Ze7 σ st (Zv PG d (.loop Ze7) (Yd 0 (Zv PG d Zf2 Q))):=
 au @Yni
include H0 H1 in
theorem Yt0 (h:Zig PG K s0 v1):W PG d Yc3 σ st Q:=
 q_ J (m_ (e_ (Zp (q_ J (Yf H0 (Wk J (m_ (e_ (Yn (h (Ycv PG d Q s0 v1 (s0.length:Int)) (fun _ hb _ _ _ H0 H1 H7 H8=>W.loop (Ynx hQ (fun _ x=>x) H0 H1 H7 H8 hb)) _ _ _ H0 H1 J J))))))))))
end
theorem Yip {PG:Zb}(hf:PG.fn 141=some Zg2){s0:LB}{v1:BS}{K:Int->Prop}(h:Zig PG K s0 v1) :∃aa:Int,K aa/\Ze PG 141 [.sl .ext (List.map Zt s0),.s v1] (.i .i64 aa):=
 P1 hf J (Yt0 (h1 J fun _=>J) J J h)
abbrev Zem:AC:=(sR 4 [oT 14 .lss 13 12] (.seq (.cond (.t 14) .skip (.exit 0)) (.seq (.block 1 (sR 5 [oM 15 13,oM 5 15] (sR 6 [oM 16 0,oM 17 5,oX 18 1 16 17,oL 19 18,oM 20 1,oM 21 5,oX 22 1 20 21,oL 23 22,oT 24 .neq 19 23] (.cond (.t 24) (sR 7 [oC 4 (.b false)] .ret) .skip)))) (.reg 8 [oV 25 .add 13 1,oM 13 25]))))
abbrev Zca:AC:=(sR 9 [oC 4 (.b true)] .ret)
abbrev Ycz:AC:=(sR 0 [oC 4 (.b false)] (.seq (sR 1 [oM 6 0,oJ 7 6,oM 8 1,oJ 9 8,oT 10 .neq 7 9] (.cond (.t 10) (sR 2 [oC 4 (.b false)] .ret) .skip)) (.seq (sR 3 [oM 11 0,oJ 12 11,oI 13 0] (.block 0 (.loop Zem))) Zca)))
def Zgm:AF:={ nt:=26,res:=[.tmp 4],body:=Ycz }
abbrev Zu7 (PG:Zb)(d:Nat)(Q:AE->Sl->St->Prop)(s10:LB)(s21:LB)(t12:Int)(t13:Int):Prop:=
  ∀(σ:Sl)(st:St) (jb jc:Zm),σ 0=.sl jb (List.map Zt s10)->σ 1=.sl jc (List.map Zt s21)->σ 12=.i .i64 t12->σ 13=.i .i64 t13->W PG d (.loop Zem) σ st (Yd 0 (Zv PG d Zca Q))
def Znt (PG:Zb)(K:Bool->Prop) :Prop:=
  K true
section
variable(PG:Zb)(K:Bool->Prop)
def Zf0 (P0:Int->Prop)(s10:LB)(s21:LB)(t12:Int)(t13:Int):Prop:=
  (t13<t12->0<=t13/\∃e,s10[(t13).toNat]?=some e/\0<=t13/\∃c,s21[(t13).toNat]?=some c/\(e≠c->K false)/\(¬(e≠c)->P0 (IntKind.i64.wrap (t13+1))))/\(¬(t13<t12)->Znt PG K )
def Zoq (s10:LB)(s21:LB):Prop:=
  ((s10.length:Int)≠(s21.length:Int)->K false)/\(¬((s10.length:Int)≠(s21.length:Int))->∀P0:Int->Prop,(∀(t13:Int),Zf0 PG K P0 s10 s21 (s10.length:Int) t13->P0 t13)->P0 0)
end
section
variable {PG:Zb}{d:Nat}{Q:AE->Sl->St->Prop}{K:Bool->Prop}(hQ:H1 AV.b 4 Q K){σ:Sl}{st:St}
include hQ
variable {s10 s21:LB}{t12 t13:Int}{P0:Int->Prop}{jb jc:Zm}
variable (kP0 :∀(t13:Int),P0 t13->Zu7 PG d Q s10 s21 t12 t13)(H0:σ 0=.sl jb (List.map Zt s10))(H1:σ 1=.sl jc (List.map Zt s21))(H12:σ 12=.i .i64 t12)(H13:σ 13=.i .i64 t13)
theorem Yru (h:Znt PG K ):W PG d Zca σ st Q:=
 au trivial
include kP0 H0 H1 H12 H13 in
theorem Yiy (h:Zf0 PG K P0 s10 s21 t12 t13):W PG d Zem σ st (Zv PG d (.loop Zem) (Yd 0 (Zv PG d Zca Q))):=
 au @Yru
include H0 H1 in
theorem Xcf (h:Zoq PG K s10 s21):W PG d Ycz σ st Q:=
 q_ J (m_ (e_ (Zp (q_ J (Yf H0 (Wk J (Yf H1 (Wk J (b_ J J Jc (e_ (Yk J (fun c=>q_ J (m_ (Zr (hQ J (h.1 c))))) (fun c=>Yg (Zp (q_ J (Yf H0 (Wk J (m_ (e_ (Yn ((h.2 c) (Zu7 PG d Q s10 s21 (s10.length:Int)) (fun _ hb _ _ _ _ H0 H1 H12 H13=>W.loop (Yiy hQ (fun _ x=>x) H0 H1 H12 H13 hb)) _ _ _ _ H0 H1 J J))))))))))))))))))))
end
theorem Xi2 {PG:Zb}(hf:PG.fn 119=some Zgm){s10:LB}{s21:LB}{K:Bool->Prop}(h:Zoq PG K s10 s21) :∃aa:Bool,K aa/\Ze PG 119 [.sl .ext (List.map Zt s10),.sl .ext (List.map Zt s21)] (.b aa):=
 P1 hf J (Xcf (h1 J fun _=>J) J J h)
abbrev Zd5:AC:=(sR 8 [oT 63 .lss 62 61] (.seq (.cond (.t 63) .skip (.exit 0)) (.seq (.block 1 (sR 9 [oX 64 6 60 62,oK 65 6 64,oO 8 (.alloc [z6,z8,z6,zs,zl,zb]),oS 6 8 65] (.seq (sR 10 [oF 66 0 8,oL 67 66,oM 68 6,oT 69 .leq 67 68,oM 70 69,gF 70 (oF 71 0 8),gF 70 (oL 72 71),gF 70 (oF 73 3 5),gF 70 (oL 74 73),gF 70 (oJ 75 74),gF 70 (oT 76 .geq 72 75),oR 77 70 76,oM 78 77,gF 78 (oF 79 1 8),gF 78 (oK 80 5 79),gF 78 (oQ 81 76 [80]),gF 78 (oV 82 .neq 81 0),oR 83 78 82] (.cond (.t 83) (sR 11 [oI 4 8] .ret) .skip)) (.reg 12 [oF 84 0 8,oL 85 84,oM 6 85])))) (.reg 13 [oV 86 .add 62 1,oM 62 86]))))
abbrev Zgl:AC:=(sR 14 [oI 4 0] .ret)
abbrev Zz1:AC:=(sR 6 [oI 6 (-1)] (.seq (sR 7 [oF 59 3 3,oL 60 59,oJ 61 60,oI 62 0] (.block 0 (.loop Zd5))) Zgl))
abbrev Zw3:AC:=(.seq (sR 4 [oF 31 3 5,oL 32 31,oJ 33 32,oV 34 .gtr 33 16,oM 35 34,gF 35 (oF 36 0 5),gF 35 (oL 37 36),gF 35 (oH 38 37),gF 35 (oV 39 .gtr 38 16),oR 40 35 39,oM 41 40,gF 41 (oF 42 1 3),gF 41 (oL 43 42),gF 41 (oV 44 .lss 43 0),oR 45 41 44,oM 46 45,gF 46 (oF 47 1 3),gF 46 (oL 48 47),gF 46 (oF 49 4 5),gF 46 (oL 50 49),gF 46 (oJ 51 50),gF 46 (oT 52 .geq 48 51),oR 53 46 52,oM 54 53,gF 54 (oF 55 3 5),gF 54 (oL 56 55),gF 54 (oO 57 (.call true 122 [(.t 56),(.c (.fn 123 []))])),oR 58 54 57] (.cond (.t 58) (sR 5 [oI 4 8] .ret) .skip)) Zz1)
abbrev Zsm:AC:=(sR 3 [oF 25 2 2,oL 26 25,oF 27 0 3,oL 28 27,oX 29 7 26 28,oK 30 7 29,oO 5 (.alloc [zs,z6,z6,zl,zl,zl,zl]),oS 7 5 30] Zw3)
abbrev Ybp:AC:=(.seq (sR 1 [oF 9 0 3,oL 10 9,oV 11 .lss 10 0,oM 12 11,gF 12 (oF 13 0 3),gF 12 (oL 14 13),gF 12 (oF 15 2 2),gF 12 (oL 16 15),gF 12 (oJ 17 16),gF 12 (oT 18 .geq 14 17),oR 19 12 18,oM 20 19,gF 20 (oF 21 2 3),gF 20 (oL 22 21),gF 20 (oB 23 .gtr (.t 22) (.c (.i .u64 3))),oR 24 20 23] (.cond (.t 24) (sR 2 [oI 4 8] .ret) .skip)) Zsm)
abbrev b86:AC:=(sR 0 [oY 2 3 0,oY 3 4 1,oI 4 0] Ybp)
def Zbc:AF:={ nt:=87,res:=[.tmp 4],body:=b86 }
abbrev Yee (PG:Zb)(d:Nat)(Q:AE->Sl->St->Prop)(t60:List Zy)(t61:Int)(dy:Int)(t62:Int)(bw:Ye):Prop:=
  ∀(σ:Sl)(st:St)(jd:Zm)(gf:Nat),σ 5=.p (d,12294) gf 0->σ 6=.i .i64 dy->σ 60=.sl jd (List.map Zy.row t60)->σ 61=.i .i64 t61->σ 62=.i .i64 t62->lk st.bx (d,12294)=some (gf,Ye.cs bw)->W PG d (.loop Zd5) σ st (Yd 0 (Zv PG d Zgl Q))
def Zlt (PG:Zb)(K:Int->Prop) :Prop:=
  K 0
section
variable(PG:Zb)(K:Int->Prop)
def Zg6 (P0:Int->Int->Ye->Prop)(dy:Int)(t60:List Zy)(t61:Int)(t62:Int)(bw:Ye):Prop:=
  (t62<t61->0<=t62/\∃c:Zy,t60[(t62).toNat]?=some c/\(c.slot<=dy->K 8)/\(¬(c.slot<=dy)->(c.slot>=(bw.slots.length:Int)->K 8)/\(¬(c.slot>=(bw.slots.length:Int))->∃e,Ze PG 76 [c.value.av] (.i .i64 e)/\(e≠0->K 8)/\(¬(e≠0)->P0 c.slot (IntKind.i64.wrap (t62+1)) bw))))/\(¬(t62<t61)->Zlt PG K )
def Ziu (m1:Zg)(bw:Ye):Prop:=
  ∀P0:Int->Int->Ye->Prop,(∀(dy:Int)(t62:Int)(bw:Ye),Zg6 PG K P0 dy m1.locals (m1.locals.length:Int) t62 bw->P0 dy t62 bw)->P0 (-1) 0 bw
def Zoh (m1:Zg)(bw:Ye):Prop:=
  ((bw.slots.length:Int)>16->K 8)/\(¬((bw.slots.length:Int)>16)->((bw.name.length:Int)>16->K 8)/\(¬((bw.name.length:Int)>16)->(m1.pos<0->K 8)/\(¬(m1.pos<0)->(m1.pos>=(bw.code.length:Int)->K 8)/\(¬(m1.pos>=(bw.code.length:Int))->∃c,(∀e:Zm,Ym PG 122 [.sl e (List.map Xh.row bw.slots),.fn 123 []] (fun r=>r=.b c))/\(c=true->K 8)/\(c=false->Ziu PG K m1 bw)))))
def Zm6 (m0:Zh)(m1:Zg):Prop:=
  0<=m1.func/\∃c,m0.funcs[(m1.func).toNat]?=some c/\Zoh PG K m1 c
def Zjs (m0:Zh)(m1:Zg):Prop:=
  (m1.func<0->K 8)/\(¬(m1.func<0)->(m1.func>=(m0.funcs.length:Int)->K 8)/\(¬(m1.func>=(m0.funcs.length:Int))->(m1.mode>3->K 8)/\(¬(m1.mode>3)->Zm6 PG K m0 m1)))
def Zkp (m0:Zh)(x1:Zg):Prop:=
  Zjs PG K m0 x1
end
section
variable {PG:Zb}{d:Nat}{Q:AE->Sl->St->Prop}{K:Int->Prop}(hQ:H1 (AV.i .i64) 4 Q K){σ:Sl}{st:St}
include hQ
variable {dy:Int}{t60:List Zy}{t61 t62:Int}{bw:Ye}{P0:Int->Int->Ye->Prop}{jd:Zm}{gf:Nat}{m1:Zg}{v1:Nat}{m0:Zh}{v0:Nat}{x1:Zg}
variable (kP0 :∀(dy:Int)(t62:Int)(bw:Ye),P0 dy t62 bw->Yee PG d Q t60 t61 dy t62 bw)(H2:σ 2=.p (d,0) v0 0)(H0:σ 0=m0.av)(H3:σ 3=.p (d,1) v1 0)(H1:σ 1=x1.av)(H5:σ 5=.p (d,12294) gf 0)(B0:lk st.bx (d,0)=some (v0,Zh.cs m0))(H6:σ 6=.i .i64 dy)(B1:lk st.bx (d,1)=some (v1,Zg.cs m1))(H60:σ 60=.sl jd (List.map Zy.row t60))(H61:σ 61=.i .i64 t61)(H62:σ 62=.i .i64 t62)(dp:lk st.bx (d,12294)=some (gf,Ye.cs bw))
theorem Xj2 (h:Zlt PG K ):W PG d Zgl σ st Q:=
 au trivial
include kP0 H5 H6 H60 H61 H62 dp in
theorem Yfo (h:Zg6 PG K P0 dy t60 t61 t62 bw):W PG d Zd5 σ st (Zv PG d (.loop Zd5) (Yd 0 (Zv PG d Zgl Q))):=
 au @Xj2
include H3 H5 B1 dp in
theorem Ypr (h:Ziu PG K m1 bw):W PG d Zz1 σ st Q:=
 q_ J (m_ (e_ (Zp (q_ J (f_ H3 (l_ J B1 J J (Wk J (m_ (e_ (Yn (h (Yee PG d Q m1.locals (m1.locals.length:Int)) (fun _ _ _ hb _ _ _ _ H5 H6 H60 H61 H62 dp=>W.loop (Yfo hQ (fun _ _ _ x=>x) H5 H6 H60 H61 H62 dp hb)) _ _ _ _ H5 J J J J dp)))))))))))
include H3 H5 B1 dp in
theorem Yxk (h:Zoh PG K m1 bw):W PG d Zw3 σ st Q:=
 Zp (q_ J (f_ H5 (l_ J dp J J (Wk J (b_ J J Qb (Xl J (Xa (g:=35) J (fun c=>z_ 23 J (e_ (Xj J (q_ J (m_ (Zr (hQ J (h.1 c)))))))) (fun c=>Zd J (f_ H5 (Zd J (l_ J dp J J (Zd J (Rg J (Zd J (b_ J J Qb (z_ 2 J (Xa (g:=41) J (fun e=>z_ 17 J (e_ (Xj J (q_ J (m_ (Zr (hQ J ((h.2 c).1 e)))))))) (fun e=>Zd J (f_ H3 (Zd J (l_ J B1 J J (Zd J (b_ J J Vc (z_ 2 J (Xa (g:=46) J (fun i=>z_ 12 J (e_ (Xj J (q_ J (m_ (Zr (hQ J (((h.2 c).2 e).1 i)))))))) (fun i=>Zd J (f_ H3 (Zd J (l_ J B1 J J (Zd J (f_ H5 (Zd J (l_ J dp J J (Zd J (Wk J (Zd J (b_ J J Gd (z_ 2 J (Xa (g:=54) J (fun o=>z_ 4 J (e_ (Xj J (q_ J (m_ (Zr (hQ J ((((h.2 c).2 e).2 i).1 o)))))))) (fun o=>Zd J (f_ H5 (Zd J (l_ J dp J J (Zd J (((((h.2 c).2 e).2 i).2 o).elim fun _ j=>Gs (Zz J (Zz J Yq)) (j.1 _) (fun _ p=>Jp J J (e_ (Wp J (fun k=>q_ J (m_ (Zr (hQ J (j.2.1 k))))) (fun k=>Yg (Ypr hQ H3 H5 ((p.1 (d,1) (kC d) Ux).trans B1) ((p.1 (d,12294) (kC d) Ux).trans dp) (j.2.2 k)))))))))))))))))))))))))))))))))))))))))))))))))))
include H2 H3 B0 B1 in
theorem Xbk (h:Zm6 PG K m0 m1):W PG d Zsm σ st Q:=
 au @Yxk
include H2 H3 B0 B1 in
theorem Yfn (h:Zjs PG K m0 m1):W PG d Ybp σ st Q:=
 au @Xbk
include H0 H1 in
theorem Ym3 (h:Zkp PG K m0 x1):W PG d b86 σ st Q:=
 au @Yfn
end
theorem p86 {PG:Zb}(hf:PG.fn 86=some Zbc){m0:Zh}{x1:Zg}{K:Int->Prop}(h:Zkp PG K m0 x1) :∃aa:Int,K aa/\Ze PG 86 [m0.av,x1.av] (.i .i64 aa):=
 P1 hf J (Ym3 (h1 J fun _=>J) J J h)
abbrev Zez:AC:=(sR 9 [oT 62 .lss 61 60] (.seq (.cond (.t 62) .skip (.exit 0)) (.seq (.block 1 (sR 10 [oX 63 6 59 61,oK 64 6 63,oO 12 (.alloc [z6,z8,z6,zs,zl,zb]),oS 6 12 64] (sR 11 [oF 66 1 12,oK 67 5 66,oQ 68 72 [67],oM 65 68,oE 69 0 65,oE 70 1 65,oM 13 69,oM 14 70] (.seq (sR 12 [oM 71 14,oV 72 .neq 71 0] (.cond (.t 72) (sR 13 [oM 73 14,oC 6 (.sl .full []),oM 7 73] .ret) .skip)) (.reg 14 [oM 74 10,oF 75 0 12,oL 76 75,oQ 77 111 [76],oB 78 .add (.c (.s [32,32])) (.t 77),oB 79 .add (.t 78) (.c (.s [32])),oF 80 3 9,oL 81 80,oF 82 0 12,oL 83 82,oX 84 2 81 83,oF 85 0 84,oL 86 85,oQ 87 112 [86],oT 88 .add 79 87,oB 89 .add (.t 88) (.c (.s [32,61,32])),oM 90 13,oT 91 .add 89 90,oO 92 (.bslice [zs] 1 [(0,(.t 91))]),oO 93 (.app 1 16 (.t 74) (.t 92)),oM 10 93]))))) (.reg 15 [oV 94 .add 61 1,oM 61 94]))))
abbrev Zbj:AC:=(sR 16 [oM 95 10,oM 6 95,oI 7 0] .ret)
abbrev Zt8:AC:=(sR 7 [oM 33 1,oQ 34 111 [33],oB 35 .add (.c (.s [35])) (.t 34),oB 36 .add (.t 35) (.c (.s [32])),oF 37 0 5,oL 38 37,oQ 39 111 [38],oT 40 .add 36 39,oB 41 .add (.t 40) (.c (.s [32])),oF 42 0 9,oL 43 42,oQ 44 112 [43],oT 45 .add 41 44,oB 46 .add (.t 45) (.c (.s [32,97,116,32])),oF 47 1 5,oL 48 47,oQ 49 111 [48],oT 50 .add 46 49,oB 51 .add (.t 50) (.c (.s [32])),oQ 52 113 [],oF 53 2 5,oL 54 53,oO 55 (.ixA 4 1 false (.t 52) (.t 54)),oT 56 .add 51 55,oO 57 (.bslice [zs] 1 [(0,(.t 56))]),oM 10 57] (.seq (sR 8 [oF 58 3 5,oL 59 58,oJ 60 59,oI 61 0] (.block 0 (.loop Zez))) Zbj))
abbrev Zri:AC:=(sR 6 [oF 27 2 3,oL 28 27,oF 29 0 5,oL 30 29,oX 31 7 28 30,oK 32 7 31,oO 9 (.alloc [zs,z6,z6,zl,zl,zl,zl]),oS 7 9 32] Zt8)
abbrev Zt1:AC:=(.seq (sR 3 [oK 21 3 3,oK 22 4 5,oQ 23 86 [21,22],oM 8 23] (sR 4 [oM 24 8,oV 25 .neq 24 0] (.cond (.t 25) (sR 5 [oM 26 8,oC 6 (.sl .full []),oM 7 26] .ret) .skip))) Zri)
abbrev Yad:AC:=(.seq (sR 1 [oM 15 1,oV 16 .lss 15 0,oM 17 16,gF 17 (oM 18 1),gF 17 (oV 19 .geq 18 170),oR 20 17 19] (.cond (.t 20) (sR 2 [oC 6 (.sl .full []),oI 7 2] .ret) .skip)) Zt1)
abbrev b82:AC:=(sR 0 [oY 3 3 0,oY 5 4 2,oC 6 (.sl .full []),oI 7 0] Yad)
def Zbw:AF:={ nt:=96,res:=[.tmp 6,.tmp 7],body:=b82 }
abbrev Zv4 (PG:Zb)(d:Nat)(Q:AE->Sl->St->Prop)(t59:List Zy)(t60:Int)(bt:LB)(t61:Int)(cn:Ye):Prop:=
  ∀(σ:Sl)(st:St) (cw je:Zm)(gg:Nat),σ 9=.p (d,24582) gg 0->σ 10=.sl cw (List.map Zt bt)->σ 59=.sl je (List.map Zy.row t59)->σ 60=.i .i64 t60->σ 61=.i .i64 t61->Xd d st.ow cw bt.length->lk st.bx (d,24582)=some (gg,Ye.cs cn)->W PG d (.loop Zez) σ st (Yd 0 (Zv PG d Zbj Q))
def Zkq (PG:Zb)(K:LB->Int->Prop)(bt:LB):Prop:=
  K bt 0
section
variable(PG:Zb)(K:LB->Int->Prop)
def Zdk (P0:LB->Int->Ye->Prop)(bt:LB)(t59:List Zy)(t60:Int)(t61:Int)(cn:Ye):Prop:=
  (t61<t60->0<=t61/\∃j:Zy,t59[(t61).toNat]?=some j/\∃o:BS,∃k,Ze PG 72 [j.value.av] (.tup [.s o,.i .i64 k])/\(k≠0->K ([]:LB) k)/\(¬(k≠0)->∃c:BS,Ze PG 111 [.i .i64 j.slot] (.s c)/\([32,32]:BS).length+c.length<=Wi/\(([32,32]:BS)++c).length+([32]:BS).length<=Wi/\0<=j.slot/\∃p:Xh,cn.slots[(j.slot).toNat]?=some p/\∃e:BS,Ze PG 112 [.s p.name] (.s e)/\((([32,32]:BS)++c)++([32]:BS)).length+e.length<=Wi/\(((([32,32]:BS)++c)++([32]:BS))++e).length+([32,61,32]:BS).length<=Wi/\((((([32,32]:BS)++c)++([32]:BS))++e)++([32,61,32]:BS)).length+o.length<=Wi/\Qn (bt.length+[(((((([32,32]:BS)++c)++([32]:BS))++e)++([32,61,32]:BS))++o)].length) 16/\P0 (bt++[(((((([32,32]:BS)++c)++([32]:BS))++e)++([32,61,32]:BS))++o)]) (IntKind.i64.wrap (t61+1)) cn))/\(¬(t61<t60)->Zkq PG K bt)
def Zp5 (k1:Int)(m1:Zg)(cn:Ye):Prop:=
  ∃c:BS,Ze PG 111 [.i .i64 k1] (.s c)/\([35]:BS).length+c.length<=Wi/\(([35]:BS)++c).length+([32]:BS).length<=Wi/\∃e:BS,Ze PG 111 [.i .i64 m1.func] (.s e)/\((([35]:BS)++c)++([32]:BS)).length+e.length<=Wi/\(((([35]:BS)++c)++([32]:BS))++e).length+([32]:BS).length<=Wi/\∃j:BS,Ze PG 112 [.s cn.name] (.s j)/\((((([35]:BS)++c)++([32]:BS))++e)++([32]:BS)).length+j.length<=Wi/\(((((([35]:BS)++c)++([32]:BS))++e)++([32]:BS))++j).length+([32,97,116,32]:BS).length<=Wi/\∃k:BS,Ze PG 111 [.i .i64 m1.pos] (.s k)/\((((((([35]:BS)++c)++([32]:BS))++e)++([32]:BS))++j)++([32,97,116,32]:BS)).length+k.length<=Wi/\(((((((([35]:BS)++c)++([32]:BS))++e)++([32]:BS))++j)++([32,97,116,32]:BS))++k).length+([32]:BS).length<=Wi/\∃p:LB,Ze PG 113 [] (.ag (List.map AV.s p))/\p.length=4/\0<=m1.mode/\∃o:BS,(p:LB)[(m1.mode).toNat]?=some o/\((((((((([35]:BS)++c)++([32]:BS))++e)++([32]:BS))++j)++([32,97,116,32]:BS))++k)++([32]:BS)).length+o.length<=Wi/\∀P0:LB->Int->Ye->Prop,(∀(bt:LB)(t61:Int)(cn:Ye),Zdk PG K P0 bt m1.locals (m1.locals.length:Int) t61 cn->P0 bt t61 cn)->P0 [(((((((((([35]:BS)++c)++([32]:BS))++e)++([32]:BS))++j)++([32,97,116,32]:BS))++k)++([32]:BS))++o)] 0 cn
def Zpw (k1:Int)(m0:Zh)(m1:Zg):Prop:=
  0<=m1.func/\∃c,m0.funcs[(m1.func).toNat]?=some c/\Zp5 PG K k1 m1 c
def Zir (k1:Int)(m0:Zh)(m1:Zg):Prop:=
  ∃c,Ze PG 86 [m0.av,m1.av] (.i .i64 c)/\(c≠0->K ([]:LB) c)/\(¬(c≠0)->Zpw PG K k1 m0 m1)
def Zob (k1:Int)(m0:Zh)(m1:Zg):Prop:=
  (k1<0->K ([]:LB) 2)/\(¬(k1<0)->(k1>=170->K ([]:LB) 2)/\(¬(k1>=170)->Zir PG K k1 m0 m1))
def Zmq (m0:Zh)(k1:Int)(x2:Zg):Prop:=
  Zob PG K k1 m0 x2
end
section
variable {PG:Zb}{d:Nat}{Q:AE->Sl->St->Prop}{K:LB->Int->Prop}(hQ:HM Zt (AV.i .i64) 6 7 Q K){σ:Sl}{st:St}
include hQ
variable {bt:LB}{cw:Zm}{t59:List Zy}{t60 t61:Int}{cn:Ye}{P0:LB->Int->Ye->Prop}{je:Zm}{gg:Nat}{k1:Int}{m1:Zg}{v1:Nat}{m0:Zh}{v0:Nat}{x2:Zg}
variable (kP0 :∀(bt:LB)(t61:Int)(cn:Ye),P0 bt t61 cn->Zv4 PG d Q t59 t60 bt t61 cn)(H0:σ 0=m0.av)(H1:σ 1=.i .i64 k1)(H3:σ 3=.p (d,0) v0 0)(H2:σ 2=x2.av)(H5:σ 5=.p (d,1) v1 0)(H9:σ 9=.p (d,24582) gg 0)(B0:lk st.bx (d,0)=some (v0,Zh.cs m0))(H10:σ 10=.sl cw (List.map Zt bt))(B1:lk st.bx (d,1)=some (v1,Zg.cs m1))(H59:σ 59=.sl je (List.map Zy.row t59))(H60:σ 60=.i .i64 t60)(H61:σ 61=.i .i64 t61)(A10:Xd d st.ow cw bt.length)(eo:lk st.bx (d,24582)=some (gg,Ye.cs cn))
include H10 A10 in
theorem Xam (h:Zkq PG K bt):W PG d Zbj σ st Q:=
 au trivial
include kP0 H9 H10 H59 H60 H61 A10 eo in
theorem Yig (h:Zdk PG K P0 bt t59 t60 t61 cn):W PG d Zez σ st (Zv PG d (.loop Zez) (Yd 0 (Zv PG d Zbj Q))):=
 q_ J (b_ H61 H60 Vc (e_ (Zp (Yk J (fun j=>Yg (Zp (Yn (Zp (W.reg ((h.1 j).2.elim fun v q=>Vx H59 H61 (h.1 j).1 q.1 (Zy.row_eq v) J (Vd J J J (Xo (Yc J (show lk _ (d,40962)=some (_,([.i .i64 0,.i .u8 0,.i .i64 0,.s [],.sl .full (List.map Za.row ([]:List Za)),.b false]:List AV)) from Zj) J J J (e_ (q_ J (f_ J (l_ J Zj J J (x2 q.2 fun y _ k=>Ya (Ys J J) k.1 (m_ (x_ J J (x_ J J (m_ (m_ (e_ (Zp (q_ J (m_ (b_ J J Jc (e_ (Yk J (fun o=>q_ J (m_ (Yf (f:=Zt) (l:=[]) J (m_ (Zr (hQ J J (k.2.1 o))))))) (fun o=>Yg (W.reg0 J fun _ _=>Yf H10 (f_ J (l_ J Zj J J ((k.2.2 o).elim fun z e=>Ya (Ys J J) e.1 (b_ J J (Vp e.2.1) (b_ J J (Vp e.2.2.1) (f_ H9 (l_ J (Zs J (Zs J eo)) J J (f_ J (l_ J Zj J J (e.2.2.2.2.elim fun u p=>Vx J J e.2.2.2.1 p.1 (Xh.row_eq u) J (Mg J (Vd J J J (p.2.elim fun x c=>Ya (Ys J J) c.1 (b_ J J (Vp c.2.1) (b_ J J (Vp c.2.2.1) (m_ (b_ J J (Vp c.2.2.2.1) (Xv (f:=Zt) (l:=[(((((([32,32]:BS)++z)++([32]:BS))++x)++([32,61,32]:BS))++y)]) J J (Yo J J J Xp) J (Qt Td J J J A10.1 c.2.2.2.2.1 J (fun _ _ r _ w=>Yf J (e_ (W.reg0 J fun _ _=>b_ H61 J Vv (m_ (e_ (kP0 _ _ _ c.2.2.2.2.2 _ _ _ _ _ H9 J H59 H60 J (Xd.mk r (Gv.app A10.2 J w)) (Zs J (Zs J eo))))))))))))))))))))))))))))))))))))))))))))))))))))))) (fun j=>Jm (Xam hQ H10 A10 (h.2 j)))))))
include H1 H5 H9 B1 eo in
theorem Ypo (h:Zp5 PG K k1 m1 cn):W PG d Zt8 σ st Q:=
 q_ J (m_ (h.elim fun q e=>Ya (Ys H1 J) e.1 (b_ J J (Vp e.2.1) (b_ J J (Vp e.2.2.1) (f_ H5 (l_ J B1 J J (e.2.2.2.elim fun r i=>Ya (Ys J J) i.1 (b_ J J (Vp i.2.1) (b_ J J (Vp i.2.2.1) (f_ H9 (l_ J eo J J (i.2.2.2.elim fun u j=>Ya (Ys J J) j.1 (b_ J J (Vp j.2.1) (b_ J J (Vp j.2.2.1) (f_ H5 (l_ J B1 J J (j.2.2.2.elim fun v k=>Ya (Ys J J) k.1 (b_ J J (Vp k.2.1) (b_ J J (Vp k.2.2.1) (k.2.2.2.elim fun _ c=>Ya sn c.1 (f_ H5 (l_ J B1 J J (c.2.2.2.elim fun p o=>Ty (f:=AV.s) c.2.1 J J c.2.2.1 o.1 (b_ J J (Vp o.2.1) (Xv (f:=Zt) (l:=[(((((((((([35]:BS)++q)++([32]:BS))++r)++([32]:BS))++u)++([32,97,116,32]:BS))++v)++([32]:BS))++p)]) J J (Yo J J J Xp) J (Yf J (e_ (Zp (q_ J (f_ H5 (l_ J B1 J J (Wk J (m_ (e_ (Yn (o.2.2 (Zv4 PG d Q m1.locals (m1.locals.length:Int)) (fun _ _ _ hb _ _ _ _ _ H9 H10 H59 H60 H61 A10 eo=>W.loop (Yig hQ (fun _ _ _ x=>x) H9 H10 H59 H60 H61 A10 eo hb)) _ _ _ _ _ H9 J J J J Xd.full eo))))))))))))))))))))))))))))))))))))
include H1 H3 H5 B0 B1 in
theorem Ygj (h:Zpw PG K k1 m0 m1):W PG d Zri σ st Q:=
 Zp (W.reg (f_ H3 (l_ J (Zs J B0) J J (f_ H5 (l_ J (Zs J B1) J J (h.2.elim fun e c=>Vx J J h.1 c.1 (Ye.row_eq e) J (Vd J J J (Xo (Yc J (show lk _ (d,24582)=some (_,([.s [],.i .i64 0,.i .i64 0,.sl .full (List.map Xh.row ([]:List Xh)),.sl .full (List.map Ko.row ([]:List Ko)),.sl .full (List.map Vy.row ([]:List Vy)),.sl .full (List.map Vy.row ([]:List Vy))]:List AV)) from Zj) J J J (e_ (Ypo hQ H1 H5 J (Zs J (Zs J B1)) Zj c.2)))))))))))
include H1 H3 H5 B0 B1 in
theorem Xfz (h:Zir PG K k1 m0 m1):W PG d Zt1 σ st Q:=
 au @Ygj
include H1 H3 H5 B0 B1 in
theorem Ymi (h:Zob PG K k1 m0 m1):W PG d Yad σ st Q:=
 Zp (q_ J (Xf H1 (b_ J J Vc (Xl J (Xa (g:=17) J (fun c=>z_ 3 J (e_ (Xj J (q_ J (Yf (f:=Zt) (l:=[]) J (m_ (Zr (hQ J J (h.1 c))))))))) (fun c=>Zd J (Xf H1 (Zd J (b_ J J Gd (Jp J J (e_ (Yk J (fun e=>q_ J (Yf (f:=Zt) (l:=[]) J (m_ (Zr (hQ J J ((h.2 c).1 e)))))) (fun e=>Yg (Xfz hQ H1 H3 H5 B0 B1 ((h.2 c).2 e)))))))))))))))
include H0 H1 H2 in
theorem Xb1 (h:Zmq PG K m0 k1 x2):W PG d b82 σ st Q:=
 au @Ymi
end
theorem p82 {PG:Zb}(hf:PG.fn 82=some Zbw){m0:Zh}{k1:Int}{x2:Zg}{K:LB->Int->Prop}(h:Zmq PG K m0 k1 x2) :∃aa:LB,∃ae:Int,K aa ae/\Ze PG 82 [m0.av,.i .i64 k1,x2.av] (.tup [.sl .ext (List.map Zt aa),.i .i64 ae]):=
 P2 hf J (Xb1 (hM J fun _ _ _=>J) J J J h)
end Go.AM

namespace Go.AM
open Go
set_option maxRecDepth 4000
set_option maxHeartbeats 2000000
attribute [local irreducible] Decidable.decide W WO Xq We
abbrev Zzq:AC:=(sR 0 [oI 4 0,oC 5 (.b false)] (sR 1 [oM 9 0,oO 10 (.call true 131 [(.t 9)]),oM 8 10,oE 11 0 8,oE 12 1 8,oM 6 11,oM 7 12] (sR 2 [oM 13 6,oM 14 7,oM 15 14,gT 15 (oM 16 6),gT 15 (oV 17 .geq 16 0),oA 18 15 17,oM 19 18,gT 19 (oM 20 6),gT 19 (oM 21 1),gT 19 (oT 22 .lss 20 21),oA 23 19 22,oM 4 13,oM 5 23] .ret)))
def Ll:AF:={ nt:=24,res:=[.tmp 4,.tmp 5],body:=Zzq }
abbrev Yvd (d:Nat)(Zk:St)(kp:Zo)(vp:Nat)(Q:AE->Sl->St->Prop)(K:Int->Bool->Sc->Prop):Prop:=∀(σ:Sl)(st:St)(aa:Int)(ae:Bool)(b_:Sc),σ 4=.i .i64 aa->σ 5=.b ae->lk st.bx kp=some (vp,[.s b_.left])->Fr d kp Zk.bx Zk.ow st.bx st.ow->K aa ae b_->Q .ret σ st
section
variable(PG:Zb)(K:Int->Bool->Sc->Prop)
def Zms (n1:Int)(mP:Sc):Prop:=
  ∃c j,∃e:Sc,Yt PG 131 (Bx [.s mP.left]) [] (fun r=>r=.tup [.i .i64 c,.b j]) ((Bx [.s e.left]))/\(j=true->(c>=0->K c (decide (c<n1)) e)/\(¬(c>=0)->K c false e))/\(j=false->K c false e)
end
section
variable {PG:Zb}{d:Nat}{Q:AE->Sl->St->Prop}{K:Int->Bool->Sc->Prop}{Zk:St}{kp:Zo}{vp:Nat}(hQ:Yvd d Zk kp vp Q K)(hkp:kp.1<d){σ:Sl}{st:St}
include hQ hkp
variable {n1:Int}{mP:Sc}
variable (H0:σ 0=.p kp vp 0)(H1:σ 1=.i .i64 n1)(BP:lk st.bx kp=some (vp,[.s mP.left]))(FR:Fr d kp Zk.bx Zk.ow st.bx st.ow)
include H0 H1 BP FR in
theorem Ysp (h:Zms PG K n1 mP):W PG d Zzq σ st Q:=
 q_ J (m_ (m_ (e_ (q_ J (m_ (x2 h fun _ _ o=>o.elim fun _ c=>Xz (Zz H0 Yq) c.1 (kQ hkp) BP (fun _ j k=>m_ (x_ J J (x_ J J (m_ (m_ (e_ (q_ J (Xf J (z_ 2 J (Uh (g:=15) J (fun e=>Zd J (Xf J (Zd J (b_ J J Gd (z_ 2 J (Xa (g:=19) J (fun i=>Zd J (Xf J (Zd J (Xf H1 (Zd J (b_ J J Vc (Mt J J (Xf J (Xl J (Zr (hQ _ _ _ _ _ J J j (Fr.pass FR k) ((c.2.1 e).1 i)))))))))))) (fun i=>z_ 4 J (Xf J (Xl J (Zr (hQ _ _ _ _ _ J J j (Fr.pass FR k) ((c.2.1 e).2 i)))))))))))) (fun e=>z_ 8 J (Xf J (Xl J (Zr (hQ _ _ _ _ _ J J j (Fr.pass FR k) (c.2.2 e))))))))))))))))))))))
end
theorem Ypi {PG:Zb}(hf:PG.fn 140=some Ll){n1:Int}{mP:Sc}{K:Int->Bool->Sc->Prop}(h:Zms PG K n1 mP):Qr PG 140 (Bx [.s mP.left]) [.i .i64 n1] (fun r (b_:Sc)=>∃aa:Int,∃ae:Bool,(r=.tup [.i .i64 aa,.b ae])/\K aa ae b_) (fun b_=>(Bx [.s b_.left])):=
  Qr.of hf rfl (fun _=>Bx.out) fun d st kp vp hkp hB=>Ysp (Zk:=st) (Q:=fun e σ st'=>(e=.normal\/e=.ret)/\∃r b_,Xk σ st' Ll.res=some r/\_/\_/\Fr d kp st.bx st.ow st'.bx st'.ow) (fun σ st'   aa ae b_ H4 H5 hb hf hk=>⟨.inr rfl,.tup [.i .i64 aa,.b ae],b_,by simp only [Ll,Xk,Vb,H4,H5,Kg,kJ,H4,H5],⟨aa,ae,rfl,hk⟩,hb,hf⟩) hkp (σ:=Wc [.p kp vp 0,.i .i64 n1]) rfl rfl hB Fr.refl h
abbrev Zxr:AC:=(.cond (.t 31) (sR 7 [oK 32 4 8,oI 4 0,oS 4 5 32,oC 6 (.b false)] .ret) .skip)
abbrev Zvd:AC:=(.cond (.t 58) (sR 10 [oK 59 4 8,oI 4 0,oS 4 5 59,oC 6 (.b false)] .ret) .skip)
abbrev Zsh:AC:=(.cond (.t 80) (sR 13 [oK 81 4 8,oI 4 0,oS 4 5 81,oC 6 (.b false)] .ret) .skip)
abbrev Zht:AC:=(sR 14 [oQ 82 113 [],oO 11 (.alloc [zs,zs,zs,zs]),oS 4 11 82] (sR 15 [oO 83 (.slA 4 1 (.t 11) none none),oM 84 7,oN 85 84,oF 86 0 85,oL 87 86,oQ 88 141 [83,87],oM 12 88] (sR 16 [oM 89 12,oO 90 (.max (.c (.i .i64 0)) (.t 89)),oO 91 (.cvi .u64 (.t 90)),oF 92 2 8,oS 1 92 91] (sR 17 [oM 93 9,oK 94 4 8,oM 95 12,oV 96 .geq 95 0,oM 4 93,oS 4 5 94,oM 6 96] .ret))))
abbrev Zjt:AC:=(sR 11 [oM 61 7,oF 62 2 2,oL 63 62,oF 64 0 8,oL 65 64,oX 66 7 63 65,oF 67 4 66,oL 68 67,oJ 69 68,oO 70 (.call true 140 [(.t 61),(.t 69)]),oM 60 70,oE 71 0 60,oE 72 1 60,oF 73 1 8,oS 1 73 71,oM 10 72] (.seq (sR 12 [oM 74 10,oZ 75 74,oM 76 75,gF 76 (oM 77 7),gF 76 (oO 78 (.call true 128 [(.t 77),(.c (.s [32]))])),gF 76 (oZ 79 78),oR 80 76 79] Zsh) Zht))
abbrev Zzc:AC:=(.seq (sR 9 [oM 42 10,oZ 43 42,oM 44 43,gF 44 (oM 45 7),gF 44 (oF 46 2 2),gF 44 (oL 47 46),gF 44 (oF 48 0 8),gF 44 (oL 49 48),gF 44 (oX 50 7 47 49),gF 44 (oF 51 0 50),gF 44 (oL 52 51),gF 44 (oQ 53 112 [52]),gF 44 (oB 54 .add (.c (.s [32])) (.t 53)),gF 44 (oB 55 .add (.t 54) (.c (.s [32,97,116,32]))),gF 44 (oO 56 (.call true 128 [(.t 45),(.t 55)])),gF 44 (oZ 57 56),oR 58 44 57] Zvd) Zjt)
abbrev Zhw:AC:=(sR 8 [oM 34 7,oF 35 2 2,oL 36 35,oJ 37 36,oO 38 (.call true 140 [(.t 34),(.t 37)]),oM 33 38,oE 39 0 33,oE 40 1 33,oF 41 0 8,oS 1 41 39,oM 10 40] Zzc)
abbrev Zsc:AC:=(.seq (sR 6 [oM 25 10,oZ 26 25,oM 27 26,gF 27 (oM 28 7),gF 27 (oO 29 (.call true 128 [(.t 28),(.c (.s [32]))])),gF 27 (oZ 30 29),oR 31 27 30] Zxr) Zhw)
abbrev Zwi:AC:=(sR 5 [oM 21 7,oO 22 (.call true 140 [(.t 21),(.c (.i .i64 170))]),oM 20 22,oE 23 0 20,oE 24 1 20,oM 9 23,oM 10 24] Zsc)
abbrev Zxa:AC:=(.seq (sR 3 [oM 16 7,oO 17 (.call true 128 [(.t 16),(.c (.s [35]))]),oZ 18 17] (.cond (.t 18) (sR 4 [oK 19 4 8,oI 4 0,oS 4 5 19,oC 6 (.b false)] .ret) .skip)) Zwi)
abbrev Zyw:AC:=(sR 2 [oO 8 (.alloc [z6,z6,z7,zl])] Zxa)
abbrev Zy6:AC:=(sR 1 [oM 13 1,oO 14 (.build [zs] [(0,1,(.t 13))]),oY 15 1 14,oM 7 15] Zyw)
abbrev Ybf:AC:=(sR 0 [oY 2 3 0,oI 4 0,oO 5 (.alloc [z6,z6,z7,zl]),oC 6 (.b false)] Zy6)
def Fx:AF:={ nt:=97,res:=[.tmp 4,.cell 5 4 true,.tmp 6],body:=Ybf }
abbrev Yyf (d:Nat)(Zk:St)(Q:AE->Sl->St->Prop)(K:Int->Zg->Bool->Prop):Prop:=∀(σ:Sl)(st:St)(k1:Zo)(v1:Nat)(aa:Int)(ae:Zg)(bm:Bool),σ 4=.i .i64 aa->σ 5=.p k1 v1 0->lk st.bx k1=some (v1,[.i .i64 ae.func,.i .i64 ae.pos,.i .u64 ae.mode,.sl .full (List.map Zy.row ae.locals)])->σ 6=.b bm->Fr d (d,0) Zk.bx Zk.ow st.bx st.ow->K aa ae bm->Q .ret σ st
section
variable(PG:Zb)(K:Int->Zg->Bool->Prop)
def Znv (k9:Int)(m2:Zg)(ar:Sc)(bd:Zg):Prop:=
  ∃e:LB,Ze PG 113 [] (.ag (List.map AV.s e))/\e.length=4/\e.length=4/\∃c,Ze PG 141 [.sl .ext (List.map Zt e),.s ar.left] (.i .i64 c)/\K k9 (Zg.mk bd.func bd.pos (IntKind.u64.wrap (if 0<c then c else 0)) bd.locals) (decide (c>=0))
def Zcg (k9:Int)(t80:Bool)(m2:Zg)(ar:Sc)(bd:Zg):Prop:=
  (t80=true->K 0 bd false)/\(t80=false->Znv PG K k9 m2 ar bd)
def Zha (k9:Int)(m0:Zh)(m2:Zg)(ar:Sc)(bd:Zg):Prop:=
  0<=bd.func/\∃o:Ye,m0.funcs[(bd.func).toNat]?=some o/\∃j c,∃e:Sc,Yt PG 140 (Bx [.s ar.left]) [.i .i64 (o.code.length:Int)] (fun r=>r=.tup [.i .i64 j,.b c]) ((Bx [.s e.left]))/\((!c)=true->Zcg PG K k9 true m2 e (Zg.mk bd.func j bd.mode bd.locals))/\((!c)=false->∃p,∃k:Sc,Yt PG 128 (Bx [.s e.left]) [.s ([32]:BS)] (fun r=>r=.b p) ((Bx [.s k.left]))/\Zcg PG K k9 (!p) m2 k (Zg.mk bd.func j bd.mode bd.locals))
def Zfm (k9:Int)(t58:Bool)(m0:Zh)(m2:Zg)(ar:Sc)(bd:Zg):Prop:=
  (t58=true->K 0 bd false)/\(t58=false->Zha PG K k9 m0 m2 ar bd)
def Zke (k9:Int)(gm:Bool)(m0:Zh)(m2:Zg)(ar:Sc)(bd:Zg):Prop:=
  ((!gm)=true->Zfm PG K k9 true m0 m2 ar bd)/\((!gm)=false->0<=bd.func/\∃i:Ye,m0.funcs[(bd.func).toNat]?=some i/\∃c:BS,Ze PG 112 [.s i.name] (.s c)/\([32]:BS).length+c.length<=Wi/\(([32]:BS)++c).length+([32,97,116,32]:BS).length<=Wi/\∃j,∃e:Sc,Yt PG 128 (Bx [.s ar.left]) [.s ((([32]:BS)++c)++([32,97,116,32]:BS))] (fun r=>r=.b j) ((Bx [.s e.left]))/\Zfm PG K k9 (!j) m0 m2 e bd)
def Zlk (k9:Int)(m0:Zh)(m2:Zg)(ar:Sc)(bd:Zg):Prop:=
  ∃j c,∃e:Sc,Yt PG 140 (Bx [.s ar.left]) [.i .i64 (m0.funcs.length:Int)] (fun r=>r=.tup [.i .i64 j,.b c]) ((Bx [.s e.left]))/\Zke PG K k9 c m0 m2 e (Zg.mk j bd.pos bd.mode bd.locals)
def Zdq (k9:Int)(t31:Bool)(m0:Zh)(m2:Zg)(ar:Sc)(bd:Zg):Prop:=
  (t31=true->K 0 bd false)/\(t31=false->Zlk PG K k9 m0 m2 ar bd)
def Zk5 (k9:Int)(gm:Bool)(m0:Zh)(m2:Zg)(ar:Sc)(bd:Zg):Prop:=
  ((!gm)=true->Zdq PG K k9 true m0 m2 ar bd)/\((!gm)=false->∃c,∃e:Sc,Yt PG 128 (Bx [.s ar.left]) [.s ([32]:BS)] (fun r=>r=.b c) ((Bx [.s e.left]))/\Zdq PG K k9 (!c) m0 m2 e bd)
def Zqq (m0:Zh)(m2:Zg)(ar:Sc)(bd:Zg):Prop:=
  ∃j c,∃e:Sc,Yt PG 140 (Bx [.s ar.left]) [.i .i64 170] (fun r=>r=.tup [.i .i64 j,.b c]) ((Bx [.s e.left]))/\Zk5 PG K j c m0 m2 e bd
def Zk1 (m0:Zh)(m2:Zg)(ar:Sc)(bd:Zg):Prop:=
  ∃c,∃e:Sc,Yt PG 128 (Bx [.s ar.left]) [.s ([35]:BS)] (fun r=>r=.b c) ((Bx [.s e.left]))/\((!c)=true->K 0 bd false)/\((!c)=false->Zqq PG K m0 m2 e bd)
def Zh8 (m0:Zh)(m2:Zg)(ar:Sc):Prop:=
  Zk1 PG K m0 m2 ar (Zg.mk 0 0 0 ([]:List Zy))
def Zql (cm:BS)(m0:Zh)(m2:Zg):Prop:=
  Zh8 PG K m0 m2 (Sc.mk cm)
def Zgz (m0:Zh)(cm:BS):Prop:=
  Zql PG K cm m0 (Zg.mk 0 0 0 ([]:List Zy))
end
section
variable {PG:Zb}{d:Nat}{Q:AE->Sl->St->Prop}{K:Int->Zg->Bool->Prop}{Zk:St}(hQ:Yyf d Zk Q K){σ:Sl}{st:St}
include hQ
variable {k9:Int}{m2:Zg}{ar:Sc}{bd:Zg}{v2 em jf:Nat}{t80:Bool}{m0:Zh}{v0:Nat}{t58 gm t31:Bool}{cm:BS}
variable (H0:σ 0=m0.av)(H1:σ 1=.s cm)(H2:σ 2=.p (d,0) v0 0)(H5:σ 5=.p (d,2) v2 0)(H7:σ 7=.p (d,4098) em 0)(H8:σ 8=.p (d,8192) jf 0)(H9:σ 9=.i .i64 k9)(H80:σ 80=.b t80)(H58:σ 58=.b t58)(H10:σ 10=.b gm)(Tw:σ 31=.b t31)(B0:lk st.bx (d,0)=some (v0,Zh.cs m0))(B2:lk st.bx (d,2)=some (v2,[.i .i64 m2.func,.i .i64 m2.pos,.i .u64 m2.mode,.sl .full (List.map Zy.row m2.locals)]))(bu:lk st.bx (d,4098)=some (em,[.s ar.left]))(cd:lk st.bx (d,8192)=some (jf,[.i .i64 bd.func,.i .i64 bd.pos,.i .u64 bd.mode,.sl .full (List.map Zy.row bd.locals)]))(FR:Fr d (d,0) Zk.bx Zk.ow st.bx st.ow)
include H5 H7 H8 H9 B2 bu cd FR in
theorem Yoq (h:Znv PG K k9 m2 ar bd):W PG d Zht σ st Q:=
 Zp (W.reg (h.elim fun _ c=>Ya sn c.1 (Xo (Lj (f:=AV.s) (fun _=>J) J (show lk _ (d,57345)=some (_,(List.map AV.s (List.replicate 4 ([]:BS)):List AV)) from Zj) (by simp) J c.2.1 (e_ (q_ J (Yew J Zj c.2.2.1 J (m_ (Wg H7 (f_ J (l_ J (Ob J (Zs J (Zs J bu))) J J (c.2.2.2.elim fun _ e=>Ya (Je J J J) e.1 (m_ (e_ (q_ J (m_ (Yj9 J J (Cn J (f_ H8 (Yc J (Ob J (Zs J (Zs J cd))) J J J (e_ (q_ J (m_ (l_ H8 Zj J J (m_ (b_ J J Gd (m_ (Yc H5 (Zs J (Ob J (Zs J (Zs J B2)))) J J J (m_ (Zr (hQ _ _ _ _ _ _ _ H9 H5 Zj J (Fr.box (Fr.box (Fr.del (Fr.box (Fr.box FR))))) e.2)))))))))))))))))))))))))))))))
include H5 H7 H8 H9 H80 B2 bu cd FR in
theorem Yea (h:Zcg PG K k9 t80 m2 ar bd):W PG d Zsh σ st (Zv PG d Zht Q):=
 Wp H80 (fun c=>q_ J (l_ H8 cd J J (m_ (Yc H5 B2 J J J (m_ (Zr (hQ _ _ _ _ _ _ _ J H5 Zj J (Fr.box FR) (h.1 c)))))))) (fun c=>Yg (Yoq hQ H5 H7 H8 H9 B2 bu cd FR (h.2 c)))
include H2 H5 H7 H8 H9 B0 B2 bu cd FR in
theorem Yim (h:Zha PG K k9 m0 m2 ar bd):W PG d Zjt σ st Q:=
 q_ J (m_ (f_ H2 (l_ J B0 J J (f_ H8 (l_ J cd J J (h.2.elim fun r o=>Vx J J h.1 o.1 (Ye.row_eq r) J (Mg J (Vd J J J (Wk J (x2 o.2 fun q _ u=>u.elim fun _ e=>Xz (Zz H7 (Zz J Yq)) e.1 (kC d) bu (fun _ p c=>m_ (x_ J J (x_ J J (f_ H8 (Yc J ((c.1 (d,8192) (kC d) (Wa J)).trans cd) J J J (m_ (e_ (Zp (q_ J (Xl J (Wo J (Xl J (Uh (g:=76) J (fun i=>z_ 4 J (e_ (Yea (bd:=(Zg.mk bd.func q bd.mode bd.locals)) hQ H5 H7 H8 H9 J (Zs J ((c.1 (d,2) (kC d) (Wa J)).trans B2)) (Zs J p) Zj (Fr.box (Fr.call FR c)) (e.2.1 i)))) (fun i=>Zd J (Vg H7 (Zd J ((e.2.2 i).elim fun _ s=>s.elim fun _ k=>Xz (Zz J (Zz J Yq)) k.1 (kC d) (Zs J p) (fun _ v j=>Zd J (Wo J (Jp J J (e_ (Yea (bd:=(Zg.mk bd.func q bd.mode bd.locals)) hQ H5 H7 H8 H9 J ((j.1 (d,2) (kC d) (Wa J)).trans (Zs J ((c.1 (d,2) (kC d) (Wa J)).trans B2))) v ((j.1 (d,8192) (kC d) (Wa J)).trans Zj) (Fr.call (Fr.box (Fr.call FR c)) j) k.2))))))))))))))))))))))))))))))))
include H2 H5 H7 H8 H9 H58 B0 B2 bu cd FR in
theorem Zr9 (h:Zfm PG K k9 t58 m0 m2 ar bd):W PG d Zvd σ st (Zv PG d Zjt Q):=
 Wp H58 (fun c=>q_ J (l_ H8 cd J J (m_ (Yc H5 B2 J J J (m_ (Zr (hQ _ _ _ _ _ _ _ J H5 Zj J (Fr.box FR) (h.1 c)))))))) (fun c=>Yg (Yim hQ H2 H5 H7 H8 H9 B0 B2 bu cd FR (h.2 c)))
include H2 H5 H7 H8 H9 H10 B0 B2 bu cd FR in
theorem Xg1 (h:Zke PG K k9 gm m0 m2 ar bd):W PG d Zzc σ st Q:=
 Zp (q_ J (Xl H10 (Wo J (Xl J (Uh (g:=44) J (fun e=>z_ 14 J (e_ (Zr9 hQ H2 H5 H7 H8 H9 J B0 B2 bu cd FR (h.1 e)))) (fun e=>Zd J (Vg H7 (Zd J (f_ H2 (Zd J (l_ J B0 J J (Zd J (f_ H8 (Zd J (l_ J cd J J (Zd J ((h.2 e).2.elim fun o j=>Vx J J (h.2 e).1 j.1 (Ye.row_eq o) J (Zd J (Mg J (Zd J (Vd J J J (Zd J (j.2.elim fun _ c=>Ya (Ys J J) c.1 (Zd J (b_ J J (Vp c.2.1) (Zd J (b_ J J (Vp c.2.2.1) (Zd J (c.2.2.2.elim fun _ p=>p.elim fun _ k=>Xz (Zz J (Zz J Yq)) k.1 (kC d) bu (fun _ q i=>Zd J (Wo J (Jp J J (e_ (Zr9 hQ H2 H5 H7 H8 H9 J ((i.1 (d,0) (kC d) (Wa J)).trans B0) ((i.1 (d,2) (kC d) (Wa J)).trans B2) q ((i.1 (d,8192) (kC d) (Wa J)).trans cd) (Fr.call FR i) k.2))))))))))))))))))))))))))))))))))
include H2 H5 H7 H8 H9 B0 B2 bu cd FR in
theorem Ygi (h:Zlk PG K k9 m0 m2 ar bd):W PG d Zhw σ st Q:=
 q_ J (m_ (f_ H2 (l_ J B0 J J (Wk J (x2 h fun k _ i=>i.elim fun _ e=>Xz (Zz H7 (Zz J Yq)) e.1 (kC d) bu (fun _ j c=>m_ (x_ J J (x_ J J (f_ H8 (Yc J ((c.1 (d,8192) (kC d) (Wa J)).trans cd) J J J (m_ (e_ (Xg1 (bd:=(Zg.mk k bd.pos bd.mode bd.locals)) hQ H2 H5 H7 H8 H9 J (Zs J ((c.1 (d,0) (kC d) (Wa J)).trans B0)) (Zs J ((c.1 (d,2) (kC d) (Wa J)).trans B2)) (Zs J j) Zj (Fr.box (Fr.call FR c)) e.2)))))))))))))
include H2 H5 H7 H8 H9 Tw B0 B2 bu cd FR in
theorem Zrq (h:Zdq PG K k9 t31 m0 m2 ar bd):W PG d Zxr σ st (Zv PG d Zhw Q):=
 Wp Tw (fun c=>q_ J (l_ H8 cd J J (m_ (Yc H5 B2 J J J (m_ (Zr (hQ _ _ _ _ _ _ _ J H5 Zj J (Fr.box FR) (h.1 c)))))))) (fun c=>Yg (Ygi hQ H2 H5 H7 H8 H9 B0 B2 bu cd FR (h.2 c)))
include H2 H5 H7 H8 H9 H10 B0 B2 bu cd FR in
theorem Yoa (h:Zk5 PG K k9 gm m0 m2 ar bd):W PG d Zsc σ st Q:=
 Zp (q_ J (Xl H10 (Wo J (Xl J (Uh (g:=27) J (fun e=>z_ 4 J (e_ (Zrq hQ H2 H5 H7 H8 H9 J B0 B2 bu cd FR (h.1 e)))) (fun e=>Zd J (Vg H7 (Zd J ((h.2 e).elim fun _ j=>j.elim fun _ i=>Xz (Zz J (Zz J Yq)) i.1 (kC d) bu (fun _ k c=>Zd J (Wo J (Jp J J (e_ (Zrq hQ H2 H5 H7 H8 H9 J ((c.1 (d,0) (kC d) (Wa J)).trans B0) ((c.1 (d,2) (kC d) (Wa J)).trans B2) k ((c.1 (d,8192) (kC d) (Wa J)).trans cd) (Fr.call FR c) i.2))))))))))))))
include H2 H5 H7 H8 B0 B2 bu cd FR in
theorem Ywj (h:Zqq PG K m0 m2 ar bd):W PG d Zwi σ st Q:=
 q_ J (m_ (x2 h fun _ _ i=>i.elim fun _ e=>Xz (Zz H7 (Zz J Yq)) e.1 (kC d) bu (fun _ j c=>m_ (x_ J J (x_ J J (m_ (m_ (e_ (Yoa hQ H2 H5 H7 H8 J J ((c.1 (d,0) (kC d) (Wa J)).trans B0) ((c.1 (d,2) (kC d) (Wa J)).trans B2) j ((c.1 (d,8192) (kC d) (Wa J)).trans cd) (Fr.call FR c) e.2)))))))))
include H2 H5 H7 H8 B0 B2 bu cd FR in
theorem Xgj (h:Zk1 PG K m0 m2 ar bd):W PG d Zxa σ st Q:=
 Zp (q_ J (m_ (h.elim fun _ j=>j.elim fun _ e=>Xz (Zz H7 (Zz J Yq)) e.1 (kC d) bu (fun _ k c=>Wo J (e_ (Wp J (fun i=>q_ J (l_ H8 ((c.1 (d,8192) (kC d) (Wa J)).trans cd) J J (m_ (Yc H5 ((c.1 (d,2) (kC d) (Wa J)).trans B2) J J J (m_ (Zr (hQ _ _ _ _ _ _ _ J H5 Zj J (Fr.box (Fr.call FR c)) (e.2.1 i)))))))) (fun i=>Yg (Ywj hQ H2 H5 H7 H8 ((c.1 (d,0) (kC d) (Wa J)).trans B0) ((c.1 (d,2) (kC d) (Wa J)).trans B2) k ((c.1 (d,8192) (kC d) (Wa J)).trans cd) (Fr.call FR c) (e.2.2 i)))))))))
include H2 H5 H7 B0 B2 bu FR in
theorem Yn8 (h:Zh8 PG K m0 m2 ar):W PG d Zyw σ st Q:=
 Zp (W.reg (Xo (e_ (Xgj (bd:=(Zg.mk 0 0 0 ([]:List Zy))) hQ H2 H5 H7 J (Zs J B0) (Zs J B2) (Zs J bu) (show lk _ (d,8192)=some (_,([.i .i64 0,.i .i64 0,.i .u64 0,.sl .full (List.map Zy.row ([]:List Zy))]:List AV)) from Zj) (Fr.box FR) h))))
include H1 H2 H5 B0 B2 FR in
theorem Ymx (h:Zql PG K cm m0 m2):W PG d Zy6 σ st Q:=
 q_ J (m_ (Yi (Yl H1 J Yh) (Qa J J (m_ (e_ (Yn8 (ar:=(Sc.mk cm)) hQ H2 H5 J (Zs J B0) (Zs J B2) Zj (Fr.box FR) h))))))
include H0 H1 FR in
theorem Ytu (h:Zgz PG K m0 cm):W PG d Ybf σ st Q:=
 Zp (W.reg (Qa H0 J (m_ (Xo (m_ (e_ (Ymx (m2:=(Zg.mk 0 0 0 ([]:List Zy))) hQ H1 J J Zj (Zs J (show lk _ (d,2)=some (_,([.i .i64 0,.i .i64 0,.i .u64 0,.sl .full (List.map Zy.row ([]:List Zy))]:List AV)) from Zj)) (Fr.box (Fr.box FR)) h)))))))
end
theorem Xgk {PG:Zb}(hf:PG.fn 117=some Fx){m0:Zh}{cm:BS}{K:Int->Zg->Bool->Prop}(h:Zgz PG K m0 cm):Ym PG 117 [m0.av,.s cm] (fun r=>∃aa:Int,∃ae:Zg,∃bm:Bool,(r=.tup [.i .i64 aa,ae.avo .full,.b bm])/\K aa ae bm):=
  Ym.of hf rfl fun d st=>Ytu (Zk:=st) (Q:=fun e σ st'=>(e=.normal\/e=.ret)/\∃r,Xk σ st' Fx.res=some r/\_/\Fr d (d,0) st.bx st.ow st'.bx st'.ow) (fun σ st' k1 v1  aa ae bm H4 H5 HB5 H6 hf hk=>⟨.inr rfl,.tup [.i .i64 aa,ae.avo .full,.b bm],by simp only [Fx,Xk,Vb,H4,Jr (n:=4) H5 HB5 rfl,H6,Ky,kJ,H4,Jr (n:=4) H5 HB5 rfl,H6],⟨aa,ae,bm,rfl,hk⟩,hf⟩) (σ:=Wc [m0.av,.s cm]) rfl rfl Fr.refl h
abbrev Yb3:AC:=(sR 7 [oM 44 6,oN 45 44,oF 46 0 45,oL 47 46,oQ 48 74 [47],oM 43 48,oE 49 0 43,oE 50 1 43,oO 9 (.alloc [z8,z6,zs,zl,zb]),oS 5 9 49,oM 10 50] (sR 8 [oM 51 7,oK 52 5 9,oO 53 (.build [z6,z8,z6,zs,zl,zb] [(0,1,(.t 51)),(1,5,(.t 52))]),oM 54 10,oV 55 .eql 54 0,oS 6 4 53,oM 5 55] .ret))
abbrev Yeu:AC:=(sR 0 [oY 2 7 0,oO 4 (.alloc [z6,z8,z6,zs,zl,zb]),oC 5 (.b false)] (sR 1 [oM 11 1,oO 12 (.build [zs] [(0,1,(.t 11))]),oY 13 1 12,oM 6 13] (.seq (sR 2 [oM 14 6,oO 15 (.call true 128 [(.t 14),(.c (.s [32,32]))]),oZ 16 15] (.cond (.t 16) (sR 3 [oO 17 (.build [z6,z8,z6,zs,zl,zb] []),oS 6 4 17,oC 5 (.b false)] .ret) .skip)) (sR 4 [oM 19 6,oF 20 3 2,oL 21 20,oJ 22 21,oO 23 (.call true 140 [(.t 19),(.t 22)]),oM 18 23,oE 24 0 18,oE 25 1 18,oM 7 24,oM 8 25] (.seq (sR 5 [oM 26 8,oZ 27 26,oM 28 27,gF 28 (oM 29 6),gF 28 (oF 30 3 2),gF 28 (oL 31 30),gF 28 (oM 32 7),gF 28 (oX 33 2 31 32),gF 28 (oF 34 0 33),gF 28 (oL 35 34),gF 28 (oQ 36 112 [35]),gF 28 (oB 37 .add (.c (.s [32])) (.t 36)),gF 28 (oB 38 .add (.t 37) (.c (.s [32,61,32]))),gF 28 (oO 39 (.call true 128 [(.t 29),(.t 38)])),gF 28 (oZ 40 39),oR 41 28 40] (.cond (.t 41) (sR 6 [oO 42 (.build [z6,z8,z6,zs,zl,zb] []),oS 6 4 42,oC 5 (.b false)] .ret) .skip)) Yb3)))))
def Ol:AF:={ nt:=56,res:=[.cell 4 6 true,.tmp 5],body:=Yeu }
abbrev Yu0 (Q:AE->Sl->St->Prop)(K:Zy->Bool->Prop):Prop:=∀(σ:Sl)(st:St)(k0:Zo)(v0:Nat)(bj:Zm)(aa:Zy)(ae:Bool),σ 4=.p k0 v0 0->lk st.bx k0=some (v0,[.i .i64 aa.slot,.i .u8 aa.value.kind,.i .i64 aa.value.int,.s aa.value.text,.sl bj (List.map Za.row aa.value.list),.b aa.value.cut])->σ 5=.b ae->K aa ae->Q .ret σ st
section
variable(PG:Zb)(K:Zy->Bool->Prop)
def Zne (i7:Int)(m1:Zy)(ar:Sc):Prop:=
  ∃e:Za,∃c,Ze PG 74 [.s ar.left] (.tup [e.av,.i .i64 c])/\K (Zy.mk i7 e) (decide (c=0))
def Zog (f0:Ye)(cm:BS):Prop:=
  ∃c,∃u:Sc,Yt PG 128 (Bx [.s cm]) [.s ([32,32]:BS)] (fun r=>r=.b c) ((Bx [.s u.left]))/\((!c)=true->K (Zy.mk 0 (Za.mk 0 0 [] ([]:List Za) false)) false)/\((!c)=false->∃j o,∃v:Sc,Yt PG 140 (Bx [.s u.left]) [.i .i64 (f0.slots.length:Int)] (fun r=>r=.tup [.i .i64 j,.b o]) ((Bx [.s v.left]))/\((!o)=true->K (Zy.mk 0 (Za.mk 0 0 [] ([]:List Za) false)) false)/\((!o)=false->0<=j/\∃p:Xh,f0.slots[(j).toNat]?=some p/\∃e:BS,Ze PG 112 [.s p.name] (.s e)/\([32]:BS).length+e.length<=Wi/\(([32]:BS)++e).length+([32,61,32]:BS).length<=Wi/\∃k,∃q:Sc,Yt PG 128 (Bx [.s v.left]) [.s ((([32]:BS)++e)++([32,61,32]:BS))] (fun r=>r=.b k) ((Bx [.s q.left]))/\((!k)=true->K (Zy.mk 0 (Za.mk 0 0 [] ([]:List Za) false)) false)/\((!k)=false->Zne PG K j (Zy.mk 0 (Za.mk 0 0 [] ([]:List Za) false)) q)))
end
section
variable {PG:Zb}{d:Nat}{Q:AE->Sl->St->Prop}{K:Zy->Bool->Prop}(hQ:Yu0 Q K){σ:Sl}{st:St}
include hQ
variable {i7:Int}{m1:Zy}{ar:Sc}{jj:Zm}{v1 em:Nat}{f0:Ye}{cm:BS}
variable (H4:σ 4=.p (d,1) v1 0)(H0:σ 0=f0.av)(H6:σ 6=.p (d,4098) em 0)(H1:σ 1=.s cm)(H7:σ 7=.i .i64 i7)(B1:lk st.bx (d,1)=some (v1,[.i .i64 m1.slot,.i .u8 m1.value.kind,.i .i64 m1.value.int,.s m1.value.text,.sl jj (List.map Za.row m1.value.list),.b m1.value.cut]))(bu:lk st.bx (d,4098)=some (em,[.s ar.left]))
include H4 H6 H7 B1 bu in
theorem Yfw (h:Zne PG K i7 m1 ar):W PG d Yb3 σ st Q:=
 Zp (W.reg (m_ (Wg H6 (f_ J (l_ J (Zs J bu) J J (x2 h fun _ _ c=>Ya (Ys J J) c.1 (m_ (x_ J J (x_ J J (Xo (Yc J (show lk _ (d,28680)=some (_,([.i .u8 0,.i .i64 0,.s [],.sl .full (List.map Za.row ([]:List Za)),.b false]:List AV)) from Zj) J J J (m_ (e_ (q_ J (m_ (l_ J Zj J J (Yi (Yl H7 J (Yl J J Yh)) (m_ (b_ J J Xc (Yc H4 (Zs J (Zs J B1)) J J J (m_ (Zr (hQ _ _ _ _ _ _ _ H4 Zj J c.2)))))))))))))))))))))))
include H0 H1 in
theorem Ygl (h:Zog PG K f0 cm):W PG d Yeu σ st Q:=
 Zp (W.reg (Qa H0 J (Xo (m_ (e_ (q_ J (m_ (Yi (Yl H1 J Yh) (Qa J J (m_ (e_ (Zp (q_ J (m_ (h.elim fun _ a0=>a0.elim fun _ q=>Xz (Zz J (Zz J Yq)) q.1 (kC d) Zj (fun _ a3 c=>Wo J (e_ (Wp J (fun u=>q_ J (Yi Yh (Yc J ((c.1 (d,1) (kC d) (Wa J)).trans (Zs J (Zs J (show lk _ (d,1)=some (_,([.i .i64 0,.i .u8 0,.i .i64 0,.s [],.sl .full (List.map Za.row ([]:List Za)),.b false]:List AV)) from Zj)))) J J J (m_ (Zr (hQ _ _ _ _ _ _ _ J Zj J (q.2.1 u))))))) (fun u=>Yg (q_ J (m_ (f_ J (l_ J ((c.1 (d,0) (kC d) (Wa J)).trans (Zs J Zj)) J J (Wk J (x2 (q.2.2 u) fun _ _ z=>z.elim fun _ e=>Xz (Zz J (Zz J Yq)) e.1 (kC d) a3 (fun _ a1 o=>m_ (x_ J J (x_ J J (m_ (m_ (e_ (Zp (q_ J (Xl J (Wo J (Xl J (Uh (g:=28) J (fun k=>z_ 13 J (e_ (Xj J (q_ J (Yi Yh (Yc J ((o.1 (d,1) (kC d) (Wa J)).trans ((c.1 (d,1) (kC d) (Wa J)).trans (Zs J (Zs J (show lk _ (d,1)=some (_,([.i .i64 0,.i .u8 0,.i .i64 0,.s [],.sl .full (List.map Za.row ([]:List Za)),.b false]:List AV)) from Zj))))) J J J (m_ (Zr (hQ _ _ _ _ _ _ _ J Zj J (e.2.1 k)))))))))) (fun k=>Zd J (Vg J (Zd J (f_ J (Zd J (l_ J ((o.1 (d,0) (kC d) (Wa J)).trans ((c.1 (d,0) (kC d) (Wa J)).trans (Zs J Zj))) J J (Zd J (Xf J (Zd J ((e.2.2 k).2.elim fun x v=>Vx J J (e.2.2 k).1 v.1 (Xh.row_eq x) J (Zd J (Mg J (Zd J (Vd J J J (Zd J (v.2.elim fun _ j=>Ya (Ys J J) j.1 (Zd J (b_ J J (Vp j.2.1) (Zd J (b_ J J (Vp j.2.2.1) (Zd J (j.2.2.2.elim fun _ y=>y.elim fun _ p=>Xz (Zz J (Zz J Yq)) p.1 (kC d) a1 (fun _ a2 w=>Zd J (Wo J (Jp J J (e_ (Wp J (fun r=>q_ J (Yi Yh (Yc J ((w.1 (d,1) (kC d) (Wa J)).trans ((o.1 (d,1) (kC d) (Wa J)).trans ((c.1 (d,1) (kC d) (Wa J)).trans (Zs J (Zs J (show lk _ (d,1)=some (_,([.i .i64 0,.i .u8 0,.i .i64 0,.s [],.sl .full (List.map Za.row ([]:List Za)),.b false]:List AV)) from Zj)))))) J J J (m_ (Zr (hQ _ _ _ _ _ _ _ J Zj J (p.2.1 r))))))) (fun r=>Yg (Yfw (m1:=(Zy.mk 0 (Za.mk 0 0 [] ([]:List Za) false))) hQ J J J ((w.1 (d,1) (kC d) (Wa J)).trans ((o.1 (d,1) (kC d) (Wa J)).trans ((c.1 (d,1) (kC d) (Wa J)).trans (Zs J (Zs J (show lk _ (d,1)=some (_,([.i .i64 0,.i .u8 0,.i .i64 0,.s [],.sl .full (List.map Za.row ([]:List Za)),.b false]:List AV)) from Zj)))))) a2 (p.2.2 r)))))))))))))))))))))))))))))))))))))))))))))))))))))))))))))))))))
end
theorem Yvq {PG:Zb}(hf:PG.fn 118=some Ol){f0:Ye}{cm:BS}{K:Zy->Bool->Prop}(h:Zog PG K f0 cm) :∃aa:Zy,∃ae:Bool,K aa ae/\Ze PG 118 [f0.av,.s cm] (.tup [aa.av,.b ae]):=by
  obtain ⟨v,hv,aa,ae,hk,rfl⟩:=Ze.of (K:=fun v=>∃aa:Zy,∃ae:Bool,K aa ae/\v=.tup [aa.av,.b ae]) hf rfl (Ygl (σ:=Wc [f0.av,.s cm]) (fun σ st k0 v0 bj aa ae H4 HB4 H5 hk=>⟨.tup [aa.avo bj,.b ae],by simp only [Ol,Xk,Vb,Jr (n:=6) H4 HB4 rfl,H5,Ky,kJ],_,rfl,aa,ae,hk,rfl⟩) rfl rfl h)
  exact ⟨aa,ae,hk,hv⟩
abbrev Ybi:AC:=(.cond (.t 22) (sR 2 [oO 23 (.build [z6,z6,z7,zl] []),oI 4 0,oS 4 5 23,oI 6 4] .ret) .skip)
abbrev Zd1:AC:=(sR 9 [oT 44 .lss 43 42] (.seq (.cond (.t 44) .skip (.exit 0)) (.seq (.block 1 (sR 10 [oX 45 1 41 43,oL 46 45,oM 11 46] (sR 11 [oF 48 2 2,oL 49 48,oF 50 0 8,oL 51 50,oX 52 7 49 51,oK 53 7 52,oM 54 11,oQ 55 118 [53,54],oM 47 55,oE 56 0 47,oE 57 1 47,oO 12 (.alloc [z6,z8,z6,zs,zl,zb]),oS 6 12 56,oM 13 57] (.seq (sR 12 [oM 58 13,oZ 59 58] (.cond (.t 59) (sR 13 [oO 60 (.build [z6,z6,z7,zl] []),oI 4 0,oS 4 5 60,oI 6 12] .ret) .skip)) (.reg 14 [oF 61 3 8,oL 62 61,oK 63 6 12,oO 64 (.bslice [z6,z8,z6,zs,zl,zb] 1 [(0,(.t 63))]),oO 65 (.app 6 72 (.t 62) (.t 64)),oF 66 3 8,oS 1 66 65]))))) (.reg 15 [oV 67 .add 43 1,oM 43 67]))))
abbrev Zsj:AC:=(.cond (.t 82) (sR 18 [oO 83 (.build [z6,z6,z7,zl] []),oI 4 0,oS 4 5 83,oI 6 12] .ret) .skip)
abbrev Zmk:AC:=(sR 19 [oM 84 7,oK 85 4 8,oM 4 84,oS 4 5 85,oI 6 0] .ret)
abbrev Zeo:AC:=(.seq (sR 16 [oK 69 3 2,oM 70 7,oK 71 4 8,oQ 72 82 [69,70,71],oM 68 72,oE 73 0 68,oE 74 1 68,oM 14 73,oM 15 74] (sR 17 [oM 75 15,oV 76 .neq 75 0,oM 77 76,gF 77 (oM 78 14),gF 77 (oM 79 1),gF 77 (oQ 80 119 [78,79]),gF 77 (oZ 81 80),oR 82 77 81] Zsj)) Zmk)
abbrev Ya1:AC:=(.seq (sR 8 [oM 40 1,oO 41 (.slL 1 (.t 40) (some (.c (.i .i64 1))) none),oJ 42 41,oI 43 0] (.block 0 (.loop Zd1))) Zeo)
abbrev Zvz:AC:=(.seq (sR 6 [oM 37 9,oZ 38 37] (.cond (.t 38) (sR 7 [oO 39 (.build [z6,z6,z7,zl] []),oI 4 0,oS 4 5 39,oI 6 12] .ret) .skip)) Ya1)
abbrev Zyt:AC:=(sR 5 [oK 29 3 2,oM 30 1,oO 31 (.iaL 1 (.t 30) (.c (.i .i64 0))),oL 32 31,oO 33 (.call true 117 [(.t 29),(.t 32)]),oM 28 33,oE 34 0 28,oE 35 1 28,oE 36 2 28,oO 8 (.alloc [z6,z6,z7,zl]),oM 7 34,oS 4 8 35,oM 9 36] Zvz)
abbrev Zo2:AC:=(.seq (sR 3 [oM 24 1,oJ 25 24,oV 26 .eql 25 0] (.cond (.t 26) (sR 4 [oO 27 (.build [z6,z6,z7,zl] []),oI 4 0,oS 4 5 27,oI 6 12] .ret) .skip)) Zyt)
abbrev Zvy:AC:=(.seq (sR 1 [oM 16 1,oJ 17 16,oV 18 .gtr 17 17,oM 19 18,gF 19 (oM 20 1),gF 19 (oO 21 (.call true 115 [(.t 20),(.c (.fn 116 []))])),oR 22 19 21] Ybi) Zo2)
abbrev b84:AC:=(sR 0 [oY 2 3 0,oI 4 0,oO 5 (.alloc [z6,z6,z7,zl]),oI 6 0] Zvy)
def Et:AF:={ nt:=86,res:=[.tmp 4,.cell 5 4 true,.tmp 6],body:=b84 }
abbrev H84 (Q:AE->Sl->St->Prop)(K:Int->Zg->Int->Prop):Prop:=∀(σ:Sl)(st:St)(k1:Zo)(v1:Nat)(iw:Zm)(aa:Int)(ae:Zg)(bm:Int),σ 4=.i .i64 aa->σ 5=.p k1 v1 0->lk st.bx k1=some (v1,[.i .i64 ae.func,.i .i64 ae.pos,.i .u64 ae.mode,.sl iw (List.map Zy.row ae.locals)])->σ 6=.i .i64 bm->K aa ae bm->Q .ret σ st
abbrev Ye7 (PG:Zb)(d:Nat)(Q:AE->Sl->St->Prop)(l1:LB)(k7:Int)(t41:LB)(t42:Int)(t43:Int)(m0:Zh)(m2:Zg)(bg:Zg):Prop:=
  ∀(σ:Sl)(st:St) (jk iy gy dm:Zm) (v0 v2 gd:Nat),σ 1=.sl jk (List.map Zt l1)->σ 2=.p (d,0) v0 0->σ 5=.p (d,2) v2 0->σ 7=.i .i64 k7->σ 8=.p (d,20489) gd 0->σ 41=.sl iy (List.map Zt t41)->σ 42=.i .i64 t42->σ 43=.i .i64 t43->Xd d st.ow dm bg.locals.length->lk st.bx (d,0)=some (v0,Zh.cs m0)->lk st.bx (d,2)=some (v2,[.i .i64 m2.func,.i .i64 m2.pos,.i .u64 m2.mode,.sl gy (List.map Zy.row m2.locals)])->lk st.bx (d,20489)=some (gd,[.i .i64 bg.func,.i .i64 bg.pos,.i .u64 bg.mode,.sl dm (List.map Zy.row bg.locals)])->W PG d (.loop Zd1) σ st (Yd 0 (Zv PG d Zeo Q))
def Ziz (PG:Zb)(K:Int->Zg->Int->Prop)(k7:Int)(m2:Zg)(bg:Zg):Prop:=
  K k7 bg 0
section
variable(PG:Zb)(K:Int->Zg->Int->Prop)
def Af (k7:Int)(t82:Bool)(m2:Zg)(bg:Zg):Prop:=
  (t82=true->K 0 (Zg.mk 0 0 0 ([]:List Zy)) 12)/\(t82=false->Ziz PG K k7 m2 bg)
def Zgt (l1:LB)(k7:Int)(m0:Zh)(m2:Zg)(bg:Zg):Prop:=
  ∃j c,Ze PG 82 [m0.av,.i .i64 k7,bg.av] (.tup [.sl .ext (List.map Zt j),.i .i64 c])/\(c≠0->Af PG K k7 true m2 bg)/\(¬(c≠0)->∃e,Ze PG 119 [.sl .ext (List.map Zt j),.sl .ext (List.map Zt l1)] (.b e)/\Af PG K k7 (!e) m2 bg)
def Zcp (P0:Int->Zh->Zg->Zg->Prop)(l1:LB)(k7:Int)(t41:LB)(t42:Int)(t43:Int)(m0:Zh)(m2:Zg)(bg:Zg):Prop:=
  (t43<t42->0<=t43/\∃j,t41[(t43).toNat]?=some j/\0<=bg.func/\∃i:Ye,m0.funcs[(bg.func).toNat]?=some i/\∃e:Zy,∃c,Ze PG 118 [i.av,.s j] (.tup [e.av,.b c])/\((!c)=true->K 0 (Zg.mk 0 0 0 ([]:List Zy)) 12)/\((!c)=false->Qn (bg.locals.length+[e].length) 72/\P0 (IntKind.i64.wrap (t43+1)) m0 m2 (Zg.mk bg.func bg.pos bg.mode (bg.locals++[e]))))/\(¬(t43<t42)->Zgt PG K l1 k7 m0 m2 bg)
def Zpv (l1:LB)(k7:Int)(m0:Zh)(m2:Zg)(bg:Zg):Prop:=
  1<=l1.length/\∀P0:Int->Zh->Zg->Zg->Prop,(∀(t43:Int)(m0:Zh)(m2:Zg)(bg:Zg),Zcp PG K P0 l1 k7 (l1.drop 1) ((l1.drop 1).length:Int) t43 m0 m2 bg->P0 t43 m0 m2 bg)->P0 0 m0 m2 bg
def Zj8 (l1:LB)(k7:Int)(ok9:Bool)(m0:Zh)(m2:Zg)(bg:Zg):Prop:=
  ((!ok9)=true->K 0 (Zg.mk 0 0 0 ([]:List Zy)) 12)/\((!ok9)=false->Zpv PG K l1 k7 m0 m2 bg)
def Ziw (l1:LB)(m0:Zh)(m2:Zg):Prop:=
  ∃k,l1[0]?=some k/\∃j,∃e:Zg,∃c,(Ym PG 117 [m0.av,.s k] (fun r=>r=.tup [.i .i64 j,e.avo .full,.b c]))/\Zj8 PG K l1 j c m0 m2 e
def Zm1 (l1:LB)(m0:Zh)(m2:Zg):Prop:=
  ((l1.length:Int)=0->K 0 (Zg.mk 0 0 0 ([]:List Zy)) 12)/\(¬((l1.length:Int)=0)->Ziw PG K l1 m0 m2)
def Zap (l1:LB)(t22:Bool)(m0:Zh)(m2:Zg):Prop:=
  (t22=true->K 0 (Zg.mk 0 0 0 ([]:List Zy)) 4)/\(t22=false->Zm1 PG K l1 m0 m2)
def Zno (l1:LB)(m0:Zh)(m2:Zg):Prop:=
  ((l1.length:Int)>17->Zap PG K l1 true m0 m2)/\(¬((l1.length:Int)>17)->∃c,(∀e:Zm,Ym PG 115 [.sl e (List.map Zt l1),.fn 116 []] (fun r=>r=.b c))/\Zap PG K l1 c m0 m2)
def Zo4 (m0:Zh)(l1:LB):Prop:=
  Zno PG K l1 m0 (Zg.mk 0 0 0 ([]:List Zy))
end
section
variable {PG:Zb}{d:Nat}{Q:AE->Sl->St->Prop}{K:Int->Zg->Int->Prop}(hQ:H84 Q K){σ:Sl}{st:St}
include hQ
variable {k7:Int}{m2 bg:Zg}{gy dm:Zm}{v2 gd:Nat}{t82:Bool}{l1:LB}{m0:Zh}{jk:Zm}{v0:Nat}{t41:LB}{t42 t43:Int}{P0:Int->Zh->Zg->Zg->Prop}{iy:Zm}{ok9 t22:Bool}
variable (kP0 :∀(t43:Int)(m0:Zh)(m2:Zg)(bg:Zg),P0 t43 m0 m2 bg->Ye7 PG d Q l1 k7 t41 t42 t43 m0 m2 bg)(H0:σ 0=m0.av)(H1:σ 1=.sl jk (List.map Zt l1))(H2:σ 2=.p (d,0) v0 0)(H5:σ 5=.p (d,2) v2 0)(H7:σ 7=.i .i64 k7)(Js:σ 22=.b t22)(H8:σ 8=.p (d,20489) gd 0)(H82:σ 82=.b t82)(Sz:σ 41=.sl iy (List.map Zt t41))(H9:σ 9=.b ok9)(H42:σ 42=.i .i64 t42)(H43:σ 43=.i .i64 t43)(ck:Xd d st.ow dm bg.locals.length)(B0:lk st.bx (d,0)=some (v0,Zh.cs m0))(B2:lk st.bx (d,2)=some (v2,[.i .i64 m2.func,.i .i64 m2.pos,.i .u64 m2.mode,.sl gy (List.map Zy.row m2.locals)]))(cp:lk st.bx (d,20489)=some (gd,[.i .i64 bg.func,.i .i64 bg.pos,.i .u64 bg.mode,.sl dm (List.map Zy.row bg.locals)]))
include H5 H7 H8 ck B2 cp in
theorem Xd4 (h:Ziz PG K k7 m2 bg):W PG d Zmk σ st Q:=
 au trivial
include H5 H7 H8 H82 ck B2 cp in
theorem Zzi (h:Af PG K k7 t82 m2 bg):W PG d Zsj σ st (Zv PG d Zmk Q):=
 au @Xd4
include H1 H2 H5 H7 H8 ck B0 B2 cp in
theorem Yfm (h:Zgt PG K l1 k7 m0 m2 bg):W PG d Zeo σ st Q:=
 Zp (q_ J (l_ H2 B0 J J (m_ (l_ H8 cp J J (x2 h fun _ _ c=>Ya (Tt J H7 J J) c.1 (m_ (x_ J J (x_ J J (Yf J (m_ (e_ (q_ J (Xf J (b_ J J Jc (Xl J (Xa (g:=77) J (fun e=>z_ 5 J (e_ (Zzi hQ H5 H7 H8 J ck B2 cp (c.2.1 e)))) (fun e=>Zd J (Yf J (Zd J (Yf H1 (Zd J ((c.2.2 e).elim fun _ i=>Ya (Je J J J) i.1 (Zd J (Wo J (Jp J J (e_ (Zzi hQ H5 H7 H8 J ck B2 cp i.2)))))))))))))))))))))))))))
include kP0 H1 H2 H5 H7 H8 Sz H42 H43 ck B0 B2 cp in
theorem Xbj (h:Zcp PG K P0 l1 k7 t41 t42 t43 m0 m2 bg):W PG d Zd1 σ st (Zv PG d (.loop Zd1) (Yd 0 (Zv PG d Zeo Q))):=
 q_ J (b_ H43 H42 Vc (e_ (Zp (Yk J (fun e=>Yg (Zp (Yn (q_ J ((h.1 e).2.elim fun _ k=>Vx Sz H43 (h.1 e).1 k.1 J J (Vd J J J (m_ (e_ (Zp (W.reg (f_ H2 (l_ J (Zs J B0) J J (f_ H8 (l_ J (Zs J cp) J J (k.2.2.elim fun q o=>Vx J J k.2.1 o.1 (Ye.row_eq q) J (Vd J J J (m_ (x2 o.2 fun u _ c=>Ya (Je J J J) c.1 (m_ (x_ J J (x_ J J (Xo (Yc J (show lk _ (d,45067)=some (_,([.i .i64 0,.i .u8 0,.i .i64 0,.s [],.sl .full (List.map Za.row ([]:List Za)),.b false]:List AV)) from Zj) J J J (m_ (e_ (Zp (q_ J (m_ (Wo J (e_ (Wp J (fun j=>q_ J (Yi Yh (m_ (Yc H5 (Zs J (Zs J B2)) J J J (m_ (Zr (hQ _ _ _ _ _ _ _ _ J H5 Zj J (c.2.1 j)))))))) (fun j=>Yg (W.reg0 J fun _ _=>f_ H8 (l_ J (Zs J (Zs J cp)) J J (l_ J Zj J J (Xv (f:=Zy.row) (l:=[u]) J J (Yo J J J Xp) (by simp only [kT,jQ,Zy.row_eq];rfl) (Qt Zy.row_len J J J ck.1 (c.2.2 j).1 J (fun _ _ p _ r=>f_ H8 (Yc J (Zs J (Zs J cp)) J J J (e_ (W.reg0 J fun _ _=>b_ H43 J Vv (m_ (e_ (kP0 _ _ _ _ (c.2.2 j).2 _ _ _ _ _ _ _ _ _ H1 H2 H5 H7 H8 Sz H42 J (Xd.mk p (Gv.app ck.2 J r)) (Zs J (Zs J (Zs J B0))) (Zs J (Zs J (Zs J B2))) Zj)))))))))))))))))))))))))))))))))))))))))))) (fun e=>Jm (Yfm hQ H1 H2 H5 H7 H8 ck B0 B2 cp (h.2 e)))))))
include H1 H2 H5 H7 H8 ck B0 B2 cp in
theorem Xhz (h:Zpv PG K l1 k7 m0 m2 bg):W PG d Ya1 σ st Q:=
 Zp (q_ J (Yf H1 (Zx9 Td J J (by decide) h.1 (Wk J (m_ (e_ (Yn (h.2 (Ye7 PG d Q l1 k7 (l1.drop 1) ((l1.drop 1).length:Int)) (fun _ _ _ _ hb _ _ _ _ _ _ _ _ _ H1 H2 H5 H7 H8 Sz H42 H43 ck B0 B2 cp=>W.loop (Xbj hQ (fun _ _ _ _ x=>x) H1 H2 H5 H7 H8 Sz H42 H43 ck B0 B2 cp hb)) _ _ _ _ _ _ _ _ _ H1 H2 H5 H7 H8 J J J ck B0 B2 cp))))))))
include H1 H2 H5 H7 H8 H9 ck B0 B2 cp in
theorem Ykz (h:Zj8 PG K l1 k7 ok9 m0 m2 bg):W PG d Zvz σ st Q:=
 au @Xhz
include H1 H2 H5 B0 B2 in
theorem Xdr (h:Ziw PG K l1 m0 m2):W PG d Zyt σ st Q:=
 Zp (W.reg (l_ H2 (Zs J B0) J J (Yf H1 (h.elim fun _ e=>Vx J J (by decide) e.1 J J (Vd J J J (x2 e.2 fun _ _ k=>k.elim fun _ j=>Gs (Zz J (Zz J Yq)) (j.1) (fun _ c=>m_ (x_ J J (x_ J J (x_ J J (Xo (m_ (Yc J ((c.1 (d,20489) (kC d) Ux).trans (show lk _ (d,20489)=some (_,([.i .i64 0,.i .i64 0,.i .u64 0,.sl .full (List.map Zy.row ([]:List Zy))]:List AV)) from Zj)) J J J (m_ (e_ (Ykz hQ H1 H2 H5 J J J Xd.full (Zs J ((c.1 (d,0) (kC d) Ux).trans (Zs J B0))) (Zs J ((c.1 (d,2) (kC d) Ux).trans (Zs J B2))) Zj j.2))))))))))))))))
include H1 H2 H5 B0 B2 in
theorem Ymw (h:Zm1 PG K l1 m0 m2):W PG d Zo2 σ st Q:=
 Zp (q_ J (Yf H1 (Wk J (b_ J J Xc (e_ (Yk J (fun c=>q_ J (Yi Yh (m_ (Yc H5 B2 J J J (m_ (Zr (hQ _ _ _ _ _ _ _ _ J H5 Zj J (h.1 c)))))))) (fun c=>Yg (Xdr hQ H1 H2 H5 B0 B2 (h.2 c)))))))))
include H1 H2 H5 Js B0 B2 in
theorem Ydu (h:Zap PG K l1 t22 m0 m2):W PG d Ybi σ st (Zv PG d Zo2 Q):=
 au @Ymw
include H1 H2 H5 B0 B2 in
theorem Xbx (h:Zno PG K l1 m0 m2):W PG d Zvy σ st Q:=
 Zp (q_ J (Yf H1 (Wk J (b_ J J Qb (Xl J (Xa (g:=19) J (fun c=>z_ 3 J (e_ (Ydu hQ H1 H2 H5 J B0 B2 (h.1 c)))) (fun c=>Zd J (Yf H1 (Zd J ((h.2 c).elim fun _ e=>Gs (Zz J (Zz J Yq)) (e.1 _) (fun _ i=>Jp J J (e_ (Ydu hQ H1 H2 H5 J ((i.1 (d,0) (kC d) Ux).trans B0) ((i.1 (d,2) (kC d) Ux).trans B2) e.2)))))))))))))
include H0 H1 in
theorem Xcp (h:Zo4 PG K m0 l1):W PG d b84 σ st Q:=
 au @Xbx
end
theorem p84 {PG:Zb}(hf:PG.fn 84=some Et){m0:Zh}{l1:LB}{K:Int->Zg->Int->Prop}(h:Zo4 PG K m0 l1) :∃aa:Int,∃ae:Zg,∃bm:Int,K aa ae bm/\Ze PG 84 [m0.av,.sl .ext (List.map Zt l1)] (.tup [.i .i64 aa,ae.av,.i .i64 bm]):=by
  obtain ⟨v,hv,aa,ae,bm,hk,rfl⟩:=Ze.of (K:=fun v=>∃aa:Int,∃ae:Zg,∃bm:Int,K aa ae bm/\v=.tup [.i .i64 aa,ae.av,.i .i64 bm]) hf rfl (Xcp (σ:=Wc [m0.av,.sl .ext (List.map Zt l1)]) (fun σ st k1 v1 iw aa ae bm H4 H5 HB5 H6 hk=>⟨.tup [.i .i64 aa,ae.avo iw,.i .i64 bm],by simp only [Et,Xk,Vb,H4,Jr (n:=4) H5 HB5 rfl,H6,Ky,kJ],_,rfl,aa,ae,bm,hk,rfl⟩) rfl rfl h)
  exact ⟨aa,ae,bm,hk,hv⟩
end Go.AM

namespace Go.AM
open Go
set_option maxRecDepth 4000
set_option maxHeartbeats 2000000
attribute [local irreducible] Decidable.decide W WO Xq We
abbrev H81 (Q:AE->Sl->St->Prop)(K:Bool->Prop):Prop:=∀(σ:Sl)(st:St)(aa:Bool),σ 2=.b aa->K aa->Q .ret σ st
section
variable {PG:Zb}{d:Nat}{Q:AE->Sl->St->Prop}{K:Bool->Prop}(hQ:H81 Q K){σ:Sl}{st:St}
include hQ
end
abbrev H79 (Q:AE->Sl->St->Prop)(K:Bool->Prop):Prop:=∀(σ:Sl)(st:St)(aa:Bool),σ 2=.b aa->K aa->Q .ret σ st
section
variable {PG:Zb}{d:Nat}{Q:AE->Sl->St->Prop}{K:Bool->Prop}(hQ:H79 Q K){σ:Sl}{st:St}
include hQ
end
abbrev H80 (Q:AE->Sl->St->Prop)(K:Bool->Prop):Prop:=∀(σ:Sl)(st:St)(aa:Bool),σ 2=.b aa->K aa->Q .ret σ st
section
variable {PG:Zb}{d:Nat}{Q:AE->Sl->St->Prop}{K:Bool->Prop}(hQ:H80 Q K){σ:Sl}{st:St}
include hQ
end
abbrev H83 (Q:AE->Sl->St->Prop)(K:LB->Int->Prop):Prop:=∀(σ:Sl)(st:St)(o0:Zm)(aa:LB)(ae:Int),σ 6=.sl o0 (List.map Zt aa)->σ 7=.i .i64 ae->K aa ae->Q .ret σ st
section
variable {PG:Zb}{d:Nat}{Q:AE->Sl->St->Prop}{K:LB->Int->Prop}(hQ:H83 Q K){σ:Sl}{st:St}
include hQ
end
abbrev H87 (Q:AE->Sl->St->Prop)(K:Int->Prop):Prop:=∀(σ:Sl)(st:St)(aa:Int),σ 4=.i .i64 aa->K aa->Q .ret σ st
section
variable {PG:Zb}{d:Nat}{Q:AE->Sl->St->Prop}{K:Int->Prop}(hQ:H87 Q K){σ:Sl}{st:St}
include hQ
end
abbrev Yqe (Q:AE->Sl->St->Prop)(K:LB->Prop):Prop:=∀(σ:Sl)(st:St)(o0:Zm)(aa:LB),σ 6=.sl o0 (List.map Zt aa)->K aa->Q .ret σ st
section
variable {PG:Zb}{d:Nat}{Q:AE->Sl->St->Prop}{K:LB->Prop}(hQ:Yqe Q K){σ:Sl}{st:St}
include hQ
end
abbrev Xgv (Q:AE->Sl->St->Prop)(K:BS->Prop):Prop:=∀(σ:Sl)(st:St)(aa:BS),σ 2=.s aa->K aa->Q .ret σ st
section
variable {PG:Zb}{d:Nat}{Q:AE->Sl->St->Prop}{K:BS->Prop}(hQ:Xgv Q K){σ:Sl}{st:St}
include hQ
end
abbrev Xiz:AC:=(sR 0 [oC 2 (.s [])] (sR 1 [oO 4 (.bslice [zs] 4 [(0,(.c (.s [99,97,108,108]))),(1,(.c (.s [100,101,102,101,114]))),(2,(.c (.s [112,97,110,105,99]))),(3,(.c (.s [101,120,105,116])))]),oM 3 4] (sR 2 [oM 5 3,oM 6 0,oX 7 1 5 6,oL 8 7,oM 2 8] .ret)))
def Zp4:AF:={ nt:=9,res:=[.tmp 2],body:=Xiz }
abbrev Xde (Q:AE->Sl->St->Prop)(K:BS->Prop):Prop:=∀(σ:Sl)(st:St)(aa:BS),σ 2=.s aa->K aa->Q .ret σ st
section
variable {PG:Zb}{d:Nat}{Q:AE->Sl->St->Prop}{K:BS->Prop}(hQ:Xde Q K){σ:Sl}{st:St}
include hQ
end
abbrev b88:AC:=(sR 0 [oY 2 4 0,oY 3 4 1,oC 4 (.b false)] (sR 1 [oF 5 0 2,oL 6 5,oF 7 0 3,oL 8 7,oT 9 .eql 6 8,oM 10 9,gT 10 (oF 11 1 2),gT 10 (oL 12 11),gT 10 (oF 13 1 3),gT 10 (oL 14 13),gT 10 (oT 15 .eql 12 14),oA 16 10 15,oM 17 16,gT 17 (oF 18 2 2),gT 17 (oL 19 18),gT 17 (oF 20 2 3),gT 17 (oL 21 20),gT 17 (oT 22 .eql 19 21),oA 23 17 22,oM 24 23,gT 24 (oF 25 3 2),gT 24 (oL 26 25),gT 24 (oF 27 3 3),gT 24 (oL 28 27),gT 24 (oQ 29 124 [26,28]),oA 30 24 29,oM 4 30] .ret))
def Zbr:AF:={ nt:=31,res:=[.tmp 4],body:=b88 }
section
variable(PG:Zb)(K:Bool->Prop)
def Zl4 (a0:Zg)(b1:Zg):Prop:=
  (a0.func=b1.func->(a0.pos=b1.pos->(a0.mode=b1.mode->∃c,Ze PG 124 [.sl .ext (List.map Zy.row a0.locals),.sl .ext (List.map Zy.row b1.locals)] (.b c)/\K c)/\(¬(a0.mode=b1.mode)->K false))/\(¬(a0.pos=b1.pos)->K false))/\(¬(a0.func=b1.func)->K false)
end
section
variable {PG:Zb}{d:Nat}{Q:AE->Sl->St->Prop}{K:Bool->Prop}(hQ:H1 AV.b 4 Q K){σ:Sl}{st:St}
include hQ
variable {a0 b1:Zg}
variable (H0:σ 0=a0.av)(H1:σ 1=b1.av)
include H0 H1 in
theorem Ypw (h:Zl4 PG K a0 b1):W PG d b88 σ st Q:=
 au trivial
end
theorem p88 {PG:Zb}(hf:PG.fn 88=some Zbr){a0:Zg}{b1:Zg}{K:Bool->Prop}(h:Zl4 PG K a0 b1) :∃aa:Bool,K aa/\Ze PG 88 [a0.av,b1.av] (.b aa):=
 P1 hf J (Ypw (h1 J fun _=>J) J J h)
abbrev Zcl:AC:=(.seq (sR 4 [oM 11 5,oM 12 0,oJ 13 12,oT 14 .lss 11 13] (.cond (.t 14) .skip (.exit 0))) (.seq (.block 1 (sR 6 [oM 17 0,oM 18 5,oX 19 6 17 18,oF 20 0 19,oL 21 20,oM 22 1,oM 23 5,oX 24 6 22 23,oF 25 0 24,oL 26 25,oT 27 .neq 21 26,oM 28 27,gF 28 (oM 29 0),gF 28 (oM 30 5),gF 28 (oX 31 6 29 30),gF 28 (oF 32 1 31),gF 28 (oK 33 5 32),gF 28 (oM 34 1),gF 28 (oM 35 5),gF 28 (oX 36 6 34 35),gF 28 (oF 37 1 36),gF 28 (oK 38 5 37),gF 28 (oQ 39 78 [33,38]),gF 28 (oZ 40 39),oR 41 28 40] (.cond (.t 41) (sR 7 [oC 4 (.b false)] .ret) .skip))) (.reg 5 [oM 15 5,oV 16 .add 15 1,oM 5 16])))
abbrev Ze0:AC:=(sR 8 [oC 4 (.b true)] .ret)
abbrev Zr8:AC:=(sR 0 [oC 4 (.b false)] (.seq (sR 1 [oM 6 0,oJ 7 6,oM 8 1,oJ 9 8,oT 10 .neq 7 9] (.cond (.t 10) (sR 2 [oC 4 (.b false)] .ret) .skip)) (.seq (sR 3 [oI 5 0] (.block 0 (.loop Zcl))) Ze0)))
def Zay:AF:={ nt:=42,res:=[.tmp 4],body:=Zr8 }
abbrev Zvl (PG:Zb)(d:Nat)(Q:AE->Sl->St->Prop)(a0:List Zy)(b1:List Zy)(i5:Int):Prop:=
  ∀(σ:Sl)(st:St) (fx fy:Zm),σ 0=.sl fx (List.map Zy.row a0)->σ 1=.sl fy (List.map Zy.row b1)->σ 5=.i .i64 i5->W PG d (.loop Zcl) σ st (Yd 0 (Zv PG d Ze0 Q))
def Zl6 (PG:Zb)(K:Bool->Prop) :Prop:=
  K true
section
variable(PG:Zb)(K:Bool->Prop)
def Zfk (P0:Int->Prop)(a0:List Zy)(b1:List Zy)(i5:Int):Prop:=
  (i5<(a0.length:Int)->0<=i5/\∃e:Zy,a0[(i5).toNat]?=some e/\0<=i5/\∃i:Zy,b1[(i5).toNat]?=some i/\(e.slot≠i.slot->K false)/\(¬(e.slot≠i.slot)->0<=i5/\∃j:Zy,a0[(i5).toNat]?=some j/\0<=i5/\∃k:Zy,b1[(i5).toNat]?=some k/\∃c,Ze PG 78 [j.value.av,k.value.av] (.b c)/\((!c)=true->K false)/\((!c)=false->P0 (IntKind.i64.wrap (i5+1)))))/\(¬(i5<(a0.length:Int))->Zl6 PG K )
def Zl8 (a0:List Zy)(b1:List Zy):Prop:=
  ((a0.length:Int)≠(b1.length:Int)->K false)/\(¬((a0.length:Int)≠(b1.length:Int))->∀P0:Int->Prop,(∀(i5:Int),Zfk PG K P0 a0 b1 i5->P0 i5)->P0 0)
end
section
variable {PG:Zb}{d:Nat}{Q:AE->Sl->St->Prop}{K:Bool->Prop}(hQ:H1 AV.b 4 Q K){σ:Sl}{st:St}
include hQ
variable {a0 b1:List Zy}{i5:Int}{P0:Int->Prop}{fx fy:Zm}
variable (kP0 :∀(i5:Int),P0 i5->Zvl PG d Q a0 b1 i5)(H0:σ 0=.sl fx (List.map Zy.row a0))(H1:σ 1=.sl fy (List.map Zy.row b1))(H5:σ 5=.i .i64 i5)
theorem Yy2 (h:Zl6 PG K ):W PG d Ze0 σ st Q:=
 au trivial
include kP0 H0 H1 H5 in
theorem Yko (h:Zfk PG K P0 a0 b1 i5):W PG d Zcl σ st (Zv PG d (.loop Zcl) (Yd 0 (Zv PG d Ze0 Q))):=
 au @Yy2
include H0 H1 in
theorem Yye (h:Zl8 PG K a0 b1):W PG d Zr8 σ st Q:=
 q_ J (m_ (e_ (Zp (q_ J (Yf H0 (Wk J (Yf H1 (Wk J (b_ J J Jc (e_ (Yk J (fun c=>q_ J (m_ (Zr (hQ J (h.1 c))))) (fun c=>Yg (Zp (q_ J (m_ (e_ (Yn ((h.2 c) (Zvl PG d Q a0 b1) (fun _ hb _ _ _ _ H0 H1 H5=>W.loop (Yko hQ (fun _ x=>x) H0 H1 H5 hb)) _ _ _ _ H0 H1 J))))))))))))))))))
end
theorem Xiq {PG:Zb}(hf:PG.fn 124=some Zay){a0:List Zy}{b1:List Zy}{K:Bool->Prop}(h:Zl8 PG K a0 b1) :∃aa:Bool,K aa/\Ze PG 124 [.sl .ext (List.map Zy.row a0),.sl .ext (List.map Zy.row b1)] (.b aa):=
 P1 hf J (Yye (h1 J fun _=>J) J J h)
end Go.AM

namespace Go.AM
open Go
set_option maxRecDepth 4000
attribute [local irreducible] WO Xq We
abbrev H85 (Q:AE->Sl->St->Prop)(K:Int->Zg->Int->Prop):Prop:=∀(σ:Sl)(st:St)(k1:Zo)(v1:Nat)(iw:Zm)(aa:Int)(ae:Zg)(bm:Int),σ 4=.i .i64 aa->σ 5=.p k1 v1 0->lk st.bx k1=some (v1,[.i .i64 ae.func,.i .i64 ae.pos,.i .u64 ae.mode,.sl iw (List.map Zy.row ae.locals)])->σ 6=.i .i64 bm->K aa ae bm->Q .ret σ st
section
variable {PG:Zb}{d:Nat}{Q:AE->Sl->St->Prop}{K:Int->Zg->Int->Prop}(hQ:H85 Q K){σ:Sl}{st:St}
include hQ
end
abbrev Xdz (d:Nat)(Zk:St)(Q:AE->Sl->St->Prop)(K:Int->Zg->Bool->Prop):Prop:=∀(σ:Sl)(st:St)(k1:Zo)(v1:Nat)(aa:Int)(ae:Zg)(bm:Bool),σ 4=.i .i64 aa->σ 5=.p k1 v1 0->lk st.bx k1=some (v1,[.i .i64 ae.func,.i .i64 ae.pos,.i .u64 ae.mode,.sl .full (List.map Zy.row ae.locals)])->σ 6=.b bm->Fr d (d,0) Zk.bx Zk.ow st.bx st.ow->K aa ae bm->Q .ret σ st
section
variable {PG:Zb}{d:Nat}{Q:AE->Sl->St->Prop}{K:Int->Zg->Bool->Prop}{Zk:St}(hQ:Xdz d Zk Q K){σ:Sl}{st:St}
include hQ
end
abbrev Yzz (Q:AE->Sl->St->Prop)(K:Zy->Bool->Prop):Prop:=∀(σ:Sl)(st:St)(k0:Zo)(v0:Nat)(bj:Zm)(aa:Zy)(ae:Bool),σ 4=.p k0 v0 0->lk st.bx k0=some (v0,[.i .i64 aa.slot,.i .u8 aa.value.kind,.i .i64 aa.value.int,.s aa.value.text,.sl bj (List.map Za.row aa.value.list),.b aa.value.cut])->σ 5=.b ae->K aa ae->Q .ret σ st
section
variable {PG:Zb}{d:Nat}{Q:AE->Sl->St->Prop}{K:Zy->Bool->Prop}(hQ:Yzz Q K){σ:Sl}{st:St}
include hQ
end
abbrev Yj4 (Q:AE->Sl->St->Prop)(K:BS->Bool->Prop):Prop:=∀(σ:Sl)(st:St)(aa:BS)(ae:Bool),σ 4=.s aa->σ 5=.b ae->K aa ae->Q .ret σ st
section
variable {PG:Zb}{d:Nat}{Q:AE->Sl->St->Prop}{K:BS->Bool->Prop}(hQ:Yj4 Q K){σ:Sl}{st:St}
include hQ
end
abbrev Ymj:AC:=(sR 0 [oI 4 0,oC 5 (.s []),oC 6 (.b false)] (sR 1 [oM 10 0,oQ 11 135 [10],oM 7 11] (sR 2 [oM 13 0,oM 14 7,oO 15 (.slS (.t 13) none (some (.t 14))),oQ 16 22 [15],oM 12 16,oE 17 0 12,oE 18 1 12,oM 8 17,oM 9 18] (sR 3 [oM 19 8,oM 20 0,oM 21 7,oO 22 (.slS (.t 20) (some (.t 21)) none),oM 23 9,oV 24 .eql 23 0,oM 25 24,gT 25 (oM 26 8),gT 25 (oV 27 .geq 26 0),oA 28 25 27,oM 29 28,gT 29 (oM 30 8),gT 29 (oM 31 1),gT 29 (oT 32 .leq 30 31),oA 33 29 32,oM 4 19,oM 5 22,oM 6 33] .ret))))
def Zlj:AF:={ nt:=34,res:=[.tmp 4,.tmp 5,.tmp 6],body:=Ymj }
abbrev Xae (Q:AE->Sl->St->Prop)(K:Int->BS->Bool->Prop):Prop:=∀(σ:Sl)(st:St)(aa:Int)(ae:BS)(bm:Bool),σ 4=.i .i64 aa->σ 5=.s ae->σ 6=.b bm->K aa ae bm->Q .ret σ st
section
variable {PG:Zb}{d:Nat}{Q:AE->Sl->St->Prop}{K:Int->BS->Bool->Prop}(hQ:Xae Q K){σ:Sl}{st:St}
include hQ
end
end Go.AM

namespace Go.AM
open Go
set_option maxRecDepth 4000
attribute [local irreducible] WO Xq We
abbrev H67 (Q:AE->Sl->St->Prop)(K:Bool->Prop):Prop:=∀(σ:Sl)(st:St)(aa:Bool),σ 8=.b aa->K aa->Q .ret σ st
section
variable {PG:Zb}{d:Nat}{Q:AE->Sl->St->Prop}{K:Bool->Prop}(hQ:H67 Q K){σ:Sl}{st:St}
include hQ
end
abbrev H69 (Q:AE->Sl->St->Prop)(K:Bool->Prop):Prop:=∀(σ:Sl)(st:St)(aa:Bool),σ 4=.b aa->K aa->Q .ret σ st
section
variable {PG:Zb}{d:Nat}{Q:AE->Sl->St->Prop}{K:Bool->Prop}(hQ:H69 Q K){σ:Sl}{st:St}
include hQ
end
abbrev H70 (Q:AE->Sl->St->Prop)(K:Bool->Prop):Prop:=∀(σ:Sl)(st:St)(aa:Bool),σ 4=.b aa->K aa->Q .ret σ st
section
variable {PG:Zb}{d:Nat}{Q:AE->Sl->St->Prop}{K:Bool->Prop}(hQ:H70 Q K){σ:Sl}{st:St}
include hQ
end
abbrev H89 (d:Nat)(Zk:St)(Q:AE->Sl->St->Prop)(K:Za->Prop):Prop:=∀(σ:Sl)(st:St)(k0:Zo)(v0:Nat)(aa:Za),σ 4=.p k0 v0 0->lk st.bx k0=some (v0,[.i .u8 aa.kind,.i .i64 aa.int,.s aa.text,.sl .full (List.map Za.row aa.list),.b aa.cut])->Fr d (d,0) Zk.bx Zk.ow st.bx st.ow->K aa->Q .ret σ st
section
variable {PG:Zb}{d:Nat}{Q:AE->Sl->St->Prop}{K:Za->Prop}{Zk:St}(hQ:H89 d Zk Q K){σ:Sl}{st:St}
include hQ
end
abbrev H90 (Q:AE->Sl->St->Prop)(K:Za->Prop):Prop:=∀(σ:Sl)(st:St)(k0:Zo)(v0:Nat)(bj:Zm)(aa:Za),σ 0=.p k0 v0 0->lk st.bx k0=some (v0,[.i .u8 aa.kind,.i .i64 aa.int,.s aa.text,.sl bj (List.map Za.row aa.list),.b aa.cut])->K aa->Q .ret σ st
section
variable {PG:Zb}{d:Nat}{Q:AE->Sl->St->Prop}{K:Za->Prop}(hQ:H90 Q K){σ:Sl}{st:St}
include hQ
end
abbrev H91 (Q:AE->Sl->St->Prop)(K:Bool->Prop):Prop:=∀(σ:Sl)(st:St)(aa:Bool),σ 4=.b aa->K aa->Q .ret σ st
section
variable {PG:Zb}{d:Nat}{Q:AE->Sl->St->Prop}{K:Bool->Prop}(hQ:H91 Q K){σ:Sl}{st:St}
include hQ
end
abbrev H92 (Q:AE->Sl->St->Prop)(K:Za->Prop):Prop:=∀(σ:Sl)(st:St)(k0:Zo)(v0:Nat)(bj:Zm)(aa:Za),σ 2=.p k0 v0 0->lk st.bx k0=some (v0,[.i .u8 aa.kind,.i .i64 aa.int,.s aa.text,.sl bj (List.map Za.row aa.list),.b aa.cut])->K aa->Q .ret σ st
section
variable {PG:Zb}{d:Nat}{Q:AE->Sl->St->Prop}{K:Za->Prop}(hQ:H92 Q K){σ:Sl}{st:St}
include hQ
end
abbrev H93 (Q:AE->Sl->St->Prop)(K:Za->Prop):Prop:=∀(σ:Sl)(st:St)(k0:Zo)(v0:Nat)(bj:Zm)(aa:Za),σ 2=.p k0 v0 0->lk st.bx k0=some (v0,[.i .u8 aa.kind,.i .i64 aa.int,.s aa.text,.sl bj (List.map Za.row aa.list),.b aa.cut])->K aa->Q .ret σ st
section
variable {PG:Zb}{d:Nat}{Q:AE->Sl->St->Prop}{K:Za->Prop}(hQ:H93 Q K){σ:Sl}{st:St}
include hQ
end
abbrev H98 (Q:AE->Sl->St->Prop)(K:Bool->Prop):Prop:=∀(σ:Sl)(st:St)(aa:Bool),σ 2=.b aa->K aa->Q .ret σ st
section
variable {PG:Zb}{d:Nat}{Q:AE->Sl->St->Prop}{K:Bool->Prop}(hQ:H98 Q K){σ:Sl}{st:St}
include hQ
end
abbrev H99 (Q:AE->Sl->St->Prop)(K:Zh->Prop):Prop:=∀(σ:Sl)(st:St)(k0:Zo)(v0:Nat) (bj gj gk:Zm)(aa:Zh),σ 0=.p k0 v0 0->lk st.bx k0=some (v0,[.sl bj (List.map Wx.row aa.types),.sl gj (List.map Zt aa.texts),.sl gk (List.map Ye.row aa.funcs)])->K aa->Q .ret σ st
section
variable {PG:Zb}{d:Nat}{Q:AE->Sl->St->Prop}{K:Zh->Prop}(hQ:H99 Q K){σ:Sl}{st:St}
include hQ
end
abbrev Cg (Q:AE->Sl->St->Prop)(K:Bool->Prop):Prop:=∀(σ:Sl)(st:St)(aa:Bool),σ 0=.b aa->K aa->Q .ret σ st
section
variable {PG:Zb}{d:Nat}{Q:AE->Sl->St->Prop}{K:Bool->Prop}(hQ:Cg Q K){σ:Sl}{st:St}
include hQ
end
abbrev Yy7 (Q:AE->Sl->St->Prop)(K:Za->Prop):Prop:=∀(σ:Sl)(st:St)(k0:Zo)(v0:Nat)(bj:Zm)(aa:Za),σ 0=.p k0 v0 0->lk st.bx k0=some (v0,[.i .u8 aa.kind,.i .i64 aa.int,.s aa.text,.sl bj (List.map Za.row aa.list),.b aa.cut])->K aa->Q .ret σ st
section
variable {PG:Zb}{d:Nat}{Q:AE->Sl->St->Prop}{K:Za->Prop}(hQ:Yy7 Q K){σ:Sl}{st:St}
include hQ
end
end Go.AM

namespace Go.AM
open Go
set_option maxRecDepth 4000
set_option maxHeartbeats 2000000
attribute [local irreducible] Decidable.decide W WO Xq We
abbrev Yaq:AC:=(sR 0 [oO 0 (.alloc [zs,zs,zs,zs])] (sR 1 [oO 1 (.build [zs,zs,zs,zs] [(1,1,(.c (.s [102,97,117,108,116,32,49,58,32,100,105,118,105,115,105,111,110,32,98,121,32,122,101,114,111]))),(2,1,(.c (.s [102,97,117,108,116,32,50,58,32,110,105,108,32,112,111,105,110,116,101,114]))),(3,1,(.c (.s [102,97,117,108,116,32,51,58,32,111,117,116,32,111,102,32,114,97,110,103,101])))]),oS 4 0 1] .ret))
def Eg:AF:={ nt:=2,res:=[.cell 0 4 true],body:=Yaq }
abbrev Ykn (Q:AE->Sl->St->Prop)(K:LB->Prop):Prop:=∀(σ:Sl)(st:St)(k0:Zo)(v0:Nat)(aa:LB),σ 0=.p k0 v0 0->lk st.bx k0=some (v0,List.map AV.s aa)->aa.length=4->K aa->Q .ret σ st
def Zwj (PG:Zb)(K:LB->Prop) :Prop:=
  K [[],([102,97,117,108,116,32,49,58,32,100,105,118,105,115,105,111,110,32,98,121,32,122,101,114,111]:BS),([102,97,117,108,116,32,50,58,32,110,105,108,32,112,111,105,110,116,101,114]:BS),([102,97,117,108,116,32,51,58,32,111,117,116,32,111,102,32,114,97,110,103,101]:BS)]
section
variable {PG:Zb}{d:Nat}{Q:AE->Sl->St->Prop}{K:LB->Prop}(hQ:Ykn Q K){σ:Sl}{st:St}
include hQ
theorem Xd7 (h:Zwj PG K ):W PG d Yaq σ st Q:=
 Zp (W.reg (Xo (e_ (q_ J (Pv (f:=AV.s) (l:=[[],([102,97,117,108,116,32,49,58,32,100,105,118,105,115,105,111,110,32,98,121,32,122,101,114,111]:BS),([102,97,117,108,116,32,50,58,32,110,105,108,32,112,111,105,110,116,101,114]:BS),([102,97,117,108,116,32,51,58,32,111,117,116,32,111,102,32,114,97,110,103,101]:BS)]) (Yl J J (Yl J J (Yl J J Yh))) J (Lj (f:=AV.s) (fun _=>J) J (show lk _ (d,0)=some (_,(List.map AV.s (List.replicate 4 ([]:BS)):List AV)) from Zj) (by simp) J J (Zr (hQ _ _ _ _ _ J Zj (by simp) h))))))))
end
theorem Yn4 {PG:Zb}(hf:PG.fn 178=some Eg)  {K:LB->Prop}(h:Zwj PG K ) :∃aa:LB,K aa/\Ze PG 178 [] (.ag (List.map AV.s aa)):=by
  obtain ⟨v,hv,aa,hk,rfl⟩:=Ze.of (K:=fun v=>∃aa:LB,K aa/\v=.ag (List.map AV.s aa)) hf rfl (Xd7 (σ:=Wc []) (fun σ st k0 v0  aa H0 HB0 HL0 hk=>⟨.ag (List.map AV.s aa),by simp only [Eg,Xk,Vb,Jr (n:=4) H0 HB0 (by simpa using HL0),Ky,kJ],_,Zd8 AV.s (fun _=>rfl) _,aa,hk,rfl⟩)  h)
  exact ⟨aa,hk,hv⟩
abbrev Zu0:AC:=(sR 0 [oO 0 (.alloc [z8,z8,z8,z8,z8])] (sR 1 [oO 1 (.build [z8,z8,z8,z8,z8] [(1,1,(.c (.i .u8 2))),(2,1,(.c (.i .u8 1))),(3,1,(.c (.i .u8 3))),(4,1,(.c (.i .u8 2)))]),oS 5 0 1] .ret))
def Za6:AF:={ nt:=2,res:=[.cell 0 5 true],body:=Zu0 }
abbrev Yn2 (Q:AE->Sl->St->Prop)(K:BS->Prop):Prop:=∀(σ:Sl)(st:St)(k0:Zo)(v0:Nat)(aa:BS),σ 0=.p k0 v0 0->lk st.bx k0=some (v0,List.map c8 aa)->aa.length=5->K aa->Q .ret σ st
def Zup (PG:Zb)(K:BS->Prop) :Prop:=
  K [0,(2:UInt8),(1:UInt8),(3:UInt8),(2:UInt8)]
section
variable {PG:Zb}{d:Nat}{Q:AE->Sl->St->Prop}{K:BS->Prop}(hQ:Yn2 Q K){σ:Sl}{st:St}
include hQ
theorem Yh9 (h:Zup PG K ):W PG d Zu0 σ st Q:=
 Zp (W.reg (Xo (e_ (q_ J (Pv (f:=c8) (l:=[0,(2:UInt8),(1:UInt8),(3:UInt8),(2:UInt8)]) (Yl J J (Yl J J (Yl J J (Yl J J Yh)))) J (Lj (f:=c8) (fun _=>J) J (show lk _ (d,0)=some (_,(List.map c8 (List.replicate 5 (0:UInt8)):List AV)) from Zj) (by simp) J J (Zr (hQ _ _ _ _ _ J Zj (by simp) h))))))))
end
theorem Xbe {PG:Zb}(hf:PG.fn 183=some Za6)  {K:BS->Prop}(h:Zup PG K ) :∃aa:BS,K aa/\Ze PG 183 [] (.ag (List.map c8 aa)):=by
  obtain ⟨v,hv,aa,hk,rfl⟩:=Ze.of (K:=fun v=>∃aa:BS,K aa/\v=.ag (List.map c8 aa)) hf rfl (Yh9 (σ:=Wc []) (fun σ st k0 v0  aa H0 HB0 HL0 hk=>⟨.ag (List.map c8 aa),by simp only [Za6,Xk,Vb,Jr (n:=5) H0 HB0 (by simpa using HL0),Ky,kJ],_,Zd8 c8 (fun _=>rfl) _,aa,hk,rfl⟩)  h)
  exact ⟨aa,hk,hv⟩
abbrev Yef:AC:=(sR 0 [oC 4 (.b false)] (sR 1 [oM 5 0,oH 6 5,oM 7 1,oH 8 7,oT 9 .geq 6 8,oM 10 9,gT 10 (oM 11 0),gT 10 (oM 12 0),gT 10 (oH 13 12),gT 10 (oM 14 1),gT 10 (oH 15 14),gT 10 (oT 16 .sub 13 15),gT 10 (oO 17 (.slS (.t 11) (some (.t 16)) none)),gT 10 (oM 18 1),gT 10 (oT 19 .eql 17 18),oA 20 10 19,oM 4 20] .ret))
def Ze4:AF:={ nt:=21,res:=[.tmp 4],body:=Yef }
def Zj6 (PG:Zb)(K:Bool->Prop)(s0:BS)(bh:BS):Prop:=
  ((s0.length:Int)>=(bh.length:Int)->0<=(IntKind.i64.wrap ((s0.length:Int)-(bh.length:Int)))/\(IntKind.i64.wrap ((s0.length:Int)-(bh.length:Int))).toNat<=s0.length/\K (decide ((s0.drop (IntKind.i64.wrap ((s0.length:Int)-(bh.length:Int))).toNat)=bh)))/\(¬((s0.length:Int)>=(bh.length:Int))->K false)
section
variable {PG:Zb}{d:Nat}{Q:AE->Sl->St->Prop}{K:Bool->Prop}(hQ:H1 AV.b 4 Q K){σ:Sl}{st:St}
include hQ
variable {s0 bh:BS}
variable (H0:σ 0=.s s0)(H1:σ 1=.s bh)
include H0 H1 in
theorem Yiw (h:Zj6 PG K s0 bh):W PG d Yef σ st Q:=
 au trivial
end
theorem Ytz {PG:Zb}(hf:PG.fn 191=some Ze4){s0:BS}{bh:BS}{K:Bool->Prop}(h:Zj6 PG K s0 bh) :∃aa:Bool,K aa/\Ze PG 191 [.s s0,.s bh] (.b aa):=
 P1 hf J (Yiw (h1 J fun _=>J) J J h)
abbrev Yld (Q:AE->Sl->St->Prop)(K:Bool->Prop):Prop:=∀(σ:Sl)(st:St)(aa:Bool),σ 4=.b aa->K aa->Q .ret σ st
section
variable {PG:Zb}{d:Nat}{Q:AE->Sl->St->Prop}{K:Bool->Prop}(hQ:Yld Q K){σ:Sl}{st:St}
include hQ
end
abbrev Yc0:AC:=(sR 0 [oC 4 (.s []),oC 5 (.b false)] (.seq (sR 1 [oM 6 0,oM 7 1,oQ 8 191 [6,7],oZ 9 8] (.cond (.t 9) (sR 2 [oM 10 0,oM 4 10,oC 5 (.b false)] .ret) .skip)) (sR 3 [oM 11 0,oM 12 0,oH 13 12,oM 14 1,oH 15 14,oT 16 .sub 13 15,oO 17 (.slS (.t 11) none (some (.t 16))),oM 4 17,oC 5 (.b true)] .ret)))
def Zea:AF:={ nt:=18,res:=[.tmp 4,.tmp 5],body:=Yc0 }
section
variable(PG:Zb)(K:BS->Bool->Prop)
def Zox (s0:BS)(bh:BS):Prop:=
  ∃c,Ze PG 191 [.s s0,.s bh] (.b c)/\((!c)=true->K s0 false)/\((!c)=false->0<=(IntKind.i64.wrap ((s0.length:Int)-(bh.length:Int)))/\(IntKind.i64.wrap ((s0.length:Int)-(bh.length:Int))).toNat<=s0.length/\K (s0.take (IntKind.i64.wrap ((s0.length:Int)-(bh.length:Int))).toNat) true)
end
section
variable {PG:Zb}{d:Nat}{Q:AE->Sl->St->Prop}{K:BS->Bool->Prop}(hQ:H2 AV.s AV.b 4 5 Q K){σ:Sl}{st:St}
include hQ
variable {s0 bh:BS}
variable (H0:σ 0=.s s0)(H1:σ 1=.s bh)
include H0 H1 in
theorem Yht (h:Zox PG K s0 bh):W PG d Yc0 σ st Q:=
 au trivial
end
theorem Ylt {PG:Zb}(hf:PG.fn 190=some Zea){s0:BS}{bh:BS}{K:BS->Bool->Prop}(h:Zox PG K s0 bh) :∃aa:BS,∃ae:Bool,K aa ae/\Ze PG 190 [.s s0,.s bh] (.tup [.s aa,.b ae]):=
 P2 hf J (Yht (h2 J fun _ _=>J) J J h)
abbrev Yar:AC:=(sR 0 [oC 4 (.s []),oC 5 (.b false)] (sR 1 [oM 6 0,oM 7 1,oQ 8 190 [6,7],oE 9 0 8,oE 10 1 8,oM 4 9,oM 5 10] .ret))
def Zdm:AF:={ nt:=11,res:=[.tmp 4,.tmp 5],body:=Yar }
section
variable(PG:Zb)(K:BS->Bool->Prop)
def Zo6 (s0:BS)(bh:BS):Prop:=
  ∃e c,Ze PG 190 [.s s0,.s bh] (.tup [.s e,.b c])/\K e c
end
section
variable {PG:Zb}{d:Nat}{Q:AE->Sl->St->Prop}{K:BS->Bool->Prop}(hQ:H2 AV.s AV.b 4 5 Q K){σ:Sl}{st:St}
include hQ
variable {s0 bh:BS}
variable (H0:σ 0=.s s0)(H1:σ 1=.s bh)
include H0 H1 in
theorem Yr0 (h:Zo6 PG K s0 bh):W PG d Yar σ st Q:=
 au trivial
end
theorem Yiq {PG:Zb}(hf:PG.fn 180=some Zdm){s0:BS}{bh:BS}{K:BS->Bool->Prop}(h:Zo6 PG K s0 bh) :∃aa:BS,∃ae:Bool,K aa ae/\Ze PG 180 [.s s0,.s bh] (.tup [.s aa,.b ae]):=
 P2 hf J (Yr0 (h2 J fun _ _=>J) J J h)
abbrev Xe3 (Q:AE->Sl->St->Prop)(K:BS->Bool->Prop):Prop:=∀(σ:Sl)(st:St)(aa:BS)(ae:Bool),σ 4=.s aa->σ 5=.b ae->K aa ae->Q .ret σ st
section
variable {PG:Zb}{d:Nat}{Q:AE->Sl->St->Prop}{K:BS->Bool->Prop}(hQ:Xe3 Q K){σ:Sl}{st:St}
include hQ
end
abbrev Ztf:AC:=(sR 10 [oF 67 1 1,oK 68 5 67,oQ 69 76 [68],oM 2 69] .ret)
abbrev Yb8:AC:=(.seq (sR 8 [oF 46 6 1,oL 47 46,oB 48 .andNot (.t 47) (.c (.i .u64 5)),oB 49 .neq (.t 48) (.c (.i .u64 0)),oM 50 49,gF 50 (oF 51 0 1),gF 50 (oL 52 51),gF 50 (oB 53 .eql (.t 52) (.c (.i .u64 4))),gF 50 (oM 54 53),gT 54 (oF 55 1 1),gT 54 (oF 56 1 55),gT 54 (oL 57 56),gT 54 (oV 58 .lss 57 1),gT 54 (oM 59 58),gF 59 (oF 60 1 1),gF 59 (oF 61 1 60),gF 59 (oL 62 61),gF 59 (oV 63 .gtr 62 3),gT 54 (oR 64 59 63),gF 50 (oA 65 54 64),oR 66 50 65] (.cond (.t 66) (sR 9 [oI 2 8] .ret) .skip)) Ztf)
abbrev Zsa:AC:=(.seq (sR 3 [oF 17 0 1,oL 18 17,oB 19 .eql (.t 18) (.c (.i .u64 0))] (.cond (.t 19) (sR 4 [oF 20 1 1,oK 21 5 20,oO 3 (.alloc [z8,z6,zs,zl,zb]),oS 5 3 21] (.seq (sR 5 [oF 22 1 3,oL 23 22,oV 24 .neq 23 0,oM 25 24,gF 25 (oF 26 2 3),gF 25 (oL 27 26),gF 25 (oB 28 .neq (.t 27) (.c (.s []))),oR 29 25 28,oM 30 29,gF 30 (oF 31 3 3),gF 30 (oL 32 31),gF 30 (oJ 33 32),gF 30 (oV 34 .gtr 33 0),oR 35 30 34,oM 36 35,gF 36 (oF 37 4 3),gF 36 (oL 38 37),oR 39 36 38,oM 40 39,gF 40 (oF 41 6 1),gF 40 (oL 42 41),gF 40 (oB 43 .andNot (.t 42) (.c (.i .u64 4))),gF 40 (oB 44 .neq (.t 43) (.c (.i .u64 2))),oR 45 40 44] (.cond (.t 45) (sR 6 [oI 2 8] .ret) .skip)) (sR 7 [oI 2 0] .ret))) .skip)) Yb8)
abbrev Zuj:AC:=(.seq (sR 1 [oF 4 0 1,oL 5 4,oB 6 .gtr (.t 5) (.c (.i .u64 4)),oM 7 6,gF 7 (oF 8 1 1),gF 7 (oF 9 0 8),gF 7 (oL 10 9),gF 7 (oQ 11 183 []),gF 7 (oF 12 0 1),gF 7 (oL 13 12),gF 7 (oO 14 (.ixA 5 1 false (.t 11) (.t 13))),gF 7 (oT 15 .neq 10 14),oR 16 7 15] (.cond (.t 16) (sR 2 [oI 2 8] .ret) .skip)) Zsa)
abbrev Ybd:AC:=(sR 0 [oY 1 7 0,oI 2 0] Zuj)
def Zan:AF:={ nt:=70,res:=[.tmp 2],body:=Ybd }
section
variable(PG:Zb)(K:Int->Prop)
def Eu (m0:Zf):Prop:=
  ∃c,Ze PG 76 [m0.value.av] (.i .i64 c)/\K c
def Znf (m0:Zf):Prop:=
  ((Pq .u64 m0.flags 5)≠0->K 8)/\(¬((Pq .u64 m0.flags 5)≠0)->(m0.tag=4->(m0.value.int<1->K 8)/\(¬(m0.value.int<1)->(m0.value.int>3->K 8)/\(¬(m0.value.int>3)->Eu PG K m0)))/\(¬(m0.tag=4)->Eu PG K m0))
def Zm9 (m0:Zf):Prop:=
  (m0.tag=0->(m0.value.int≠0->K 8)/\(¬(m0.value.int≠0)->(m0.value.text≠([]:BS)->K 8)/\(¬(m0.value.text≠([]:BS))->((m0.value.list.length:Int)>0->K 8)/\(¬((m0.value.list.length:Int)>0)->(m0.value.cut=true->K 8)/\(m0.value.cut=false->((Pq .u64 m0.flags 4)≠2->K 8)/\(¬((Pq .u64 m0.flags 4)≠2)->K 0))))))/\(¬(m0.tag=0)->Znf PG K m0)
def Zjl (m0:Zf):Prop:=
  (m0.tag>4->K 8)/\(¬(m0.tag>4)->∃c:BS,Ze PG 183 [] (.ag (List.map c8 c))/\c.length=5/\0<=m0.tag/\∃e:UInt8,(c:List (UInt8))[(m0.tag).toNat]?=some e/\(m0.value.kind≠(e.toNat:Int)->K 8)/\(¬(m0.value.kind≠(e.toNat:Int))->Zm9 PG K m0))
def Zpu (p0:Zf):Prop:=
  Zjl PG K p0
end
section
variable {PG:Zb}{d:Nat}{Q:AE->Sl->St->Prop}{K:Int->Prop}(hQ:H1 (AV.i .i64) 2 Q K){σ:Sl}{st:St}
include hQ
variable {m0:Zf}{v0:Nat}{p0:Zf}
variable (H1:σ 1=.p (d,0) v0 0)(H0:σ 0=p0.av)(B0:lk st.bx (d,0)=some (v0,Zf.cs m0))
include H1 B0 in
theorem Xci (h:Eu PG K m0):W PG d Ztf σ st Q:=
 au trivial
include H1 B0 in
theorem Yms (h:Znf PG K m0):W PG d Yb8 σ st Q:=
 au @Xci
include H1 B0 in
theorem Ytm (h:Zm9 PG K m0):W PG d Zsa σ st Q:=
 au @Yms
include H1 B0 in
theorem Xfw (h:Zjl PG K m0):W PG d Zuj σ st Q:=
 au @Ytm
include H0 in
theorem Yv1 (h:Zpu PG K p0):W PG d Ybd σ st Q:=
 au @Xfw
end
theorem Xj1 {PG:Zb}(hf:PG.fn 158=some Zan){p0:Zf}{K:Int->Prop}(h:Zpu PG K p0) :∃aa:Int,K aa/\Ze PG 158 [p0.av] (.i .i64 aa):=
 P1 hf J (Yv1 (h1 J fun _=>J) J h)
abbrev Yfk (Q:AE->Sl->St->Prop)(K:Int->Prop):Prop:=∀(σ:Sl)(st:St)(aa:Int),σ 2=.i .i64 aa->K aa->Q .ret σ st
section
variable {PG:Zb}{d:Nat}{Q:AE->Sl->St->Prop}{K:Int->Prop}(hQ:Yfk Q K){σ:Sl}{st:St}
include hQ
end
abbrev Ypy (Q:AE->Sl->St->Prop)(K:BS->Prop):Prop:=∀(σ:Sl)(st:St)(aa:BS),σ 2=.s aa->K aa->Q .ret σ st
section
variable {PG:Zb}{d:Nat}{Q:AE->Sl->St->Prop}{K:BS->Prop}(hQ:Ypy Q K){σ:Sl}{st:St}
include hQ
end
abbrev Yb6:AC:=(sR 17 [oM 47 5,oM 2 47,oI 3 0] .ret)
abbrev Yd4:AC:=(.seq (sR 15 [oF 41 6 1,oL 42 41,oB 43 .and (.t 42) (.c (.i .u64 4)),oB 44 .neq (.t 43) (.c (.i .u64 0))] (.cond (.t 44) (.reg 16 [oM 45 5,oB 46 .add (.t 45) (.c (.s [32,97,98,111,114,116,101,100])),oM 5 46]) .skip)) Yb6)
abbrev Zzx:AC:=(.seq (sR 13 [oF 35 6 1,oL 36 35,oB 37 .and (.t 36) (.c (.i .u64 1)),oB 38 .neq (.t 37) (.c (.i .u64 0))] (.cond (.t 38) (.reg 14 [oM 39 5,oB 40 .add (.t 39) (.c (.s [32,114,101,99,111,118,101,114,101,100])),oM 5 40]) .skip)) Yd4)
abbrev Yau:AC:=(sR 0 [oY 1 7 0,oC 2 (.s []),oI 3 0] (.seq (sR 1 [oK 8 7 1,oQ 9 158 [8],oM 4 9] (sR 2 [oM 10 4,oV 11 .neq 10 0] (.cond (.t 11) (sR 3 [oM 12 4,oC 2 (.s []),oM 3 12] .ret) .skip))) (sR 4 [oC 5 (.s [101,120,105,116])] (.seq (sR 5 [oF 13 0 1,oL 14 13] (.block 0 (sR 10 [oB 27 .eql (.t 14) (.c (.i .u64 0)),oM 26 27] (.cond (.t 26) .skip (sR 11 [oB 29 .eql (.t 14) (.c (.i .u64 4)),oM 28 29] (.cond (.t 28) (.reg 12 [oQ 30 178 [],oF 31 1 1,oF 32 1 31,oL 33 32,oO 34 (.ixA 4 1 false (.t 30) (.t 33)),oM 5 34]) (sR 6 [oF 16 1 1,oK 17 5 16,oQ 18 72 [17],oM 15 18,oE 19 0 15,oE 20 1 15,oM 6 19,oM 7 20] (.seq (sR 7 [oM 21 7,oV 22 .neq 21 0] (.cond (.t 22) (sR 8 [oM 23 7,oC 2 (.s []),oM 3 23] .ret) .skip)) (.reg 9 [oM 24 6,oB 25 .add (.c (.s [112,97,110,105,99,32])) (.t 24),oM 5 25]))))))))) Zzx))))
def Zbb:AF:={ nt:=48,res:=[.tmp 2,.tmp 3],body:=Yau }
def Zfj (PG:Zb)(K:BS->Int->Prop)(s5:BS):Prop:=
  K s5 0
section
variable(PG:Zb)(K:BS->Int->Prop)
def Zcy (s5:BS)(m0:Zf):Prop:=
  ((Gb .u64 m0.flags 4)≠0->s5.length+([32,97,98,111,114,116,101,100]:BS).length<=Wi/\Zfj PG K (s5++([32,97,98,111,114,116,101,100]:BS)))/\(¬((Gb .u64 m0.flags 4)≠0)->Zfj PG K s5)
def Fh (s5:BS)(m0:Zf):Prop:=
  ((Gb .u64 m0.flags 1)≠0->s5.length+([32,114,101,99,111,118,101,114,101,100]:BS).length<=Wi/\Zcy PG K (s5++([32,114,101,99,111,118,101,114,101,100]:BS)) m0)/\(¬((Gb .u64 m0.flags 1)≠0)->Zcy PG K s5 m0)
def Zla (p0:Zf):Prop:=
  ∃c,Ze PG 158 [p0.av] (.i .i64 c)/\(c≠0->K ([]:BS) c)/\(¬(c≠0)->(p0.tag=0->Fh PG K ([101,120,105,116]:BS) p0)/\(¬(p0.tag=0)->(p0.tag=4->∃j:LB,Ze PG 178 [] (.ag (List.map AV.s j))/\j.length=4/\0<=p0.value.int/\∃o,(j:LB)[(p0.value.int).toNat]?=some o/\Fh PG K o p0)/\(¬(p0.tag=4)->∃k:BS,∃e,Ze PG 72 [p0.value.av] (.tup [.s k,.i .i64 e])/\(e≠0->K ([]:BS) e)/\(¬(e≠0)->([112,97,110,105,99,32]:BS).length+k.length<=Wi/\Fh PG K (([112,97,110,105,99,32]:BS)++k) p0))))
end
section
variable {PG:Zb}{d:Nat}{Q:AE->Sl->St->Prop}{K:BS->Int->Prop}(hQ:H2 AV.s (AV.i .i64) 2 3 Q K){σ:Sl}{st:St}
include hQ
variable {s5:BS}{m0:Zf}{v0:Nat}{p0:Zf}
variable (H1:σ 1=.p (d,0) v0 0)(H0:σ 0=p0.av)(H5:σ 5=.s s5)(B0:lk st.bx (d,0)=some (v0,Zf.cs m0))
include H5 in
theorem Xhh (h:Zfj PG K s5):W PG d Yb6 σ st Q:=
 au trivial
include H1 H5 B0 in
theorem Yom (h:Zcy PG K s5 m0):W PG d Yd4 σ st Q:=
 au @Xhh
include H1 H5 B0 in
theorem Yfg (h:Fh PG K s5 m0):W PG d Zzx σ st Q:=
 au @Yom
include H0 in
theorem Yqk (h:Zla PG K p0):W PG d Yau σ st Q:=
 au @Yfg
end
theorem Xex {PG:Zb}(hf:PG.fn 154=some Zbb){p0:Zf}{K:BS->Int->Prop}(h:Zla PG K p0) :∃aa:BS,∃ae:Int,K aa ae/\Ze PG 154 [p0.av] (.tup [.s aa,.i .i64 ae]):=
 P2 hf J (Yqk (h2 J fun _ _=>J) J h)
abbrev Ys9 (Q:AE->Sl->St->Prop)(K:BS->Int->Prop):Prop:=∀(σ:Sl)(st:St)(aa:BS)(ae:Int),σ 2=.s aa->σ 3=.i .i64 ae->K aa ae->Q .ret σ st
section
variable {PG:Zb}{d:Nat}{Q:AE->Sl->St->Prop}{K:BS->Int->Prop}(hQ:Ys9 Q K){σ:Sl}{st:St}
include hQ
end
end Go.AM

namespace Go.AM
open Go
set_option maxRecDepth 4000
set_option maxHeartbeats 2000000
attribute [local irreducible] Decidable.decide W WO Xq We
def Yay:List AI:=[oV 30 .add 16 1,oM 16 30]
def Ybh:List AI:=[oV 61 .add 45 1,oM 45 61]
abbrev Zwk:AC:=(.cond (.t 26) (sR 7 [oM 27 4,oO 28 (.build [z8,z6,zs,zl,zb] [(0,1,(.c (.i .u8 2))),(1,1,(.t 27))]),oO 29 (.build [z7,z8,z6,zs,zl,zb,z7] [(0,1,(.c (.i .u64 4))),(1,5,(.t 28))]),oS 7 2 29,oC 3 (.b true)] .ret) .skip)
abbrev Ie:AC:=(sR 4 [oV 17 .lss 16 4] (.seq (.cond (.t 17) .skip (.exit 0)) (.seq (.block 1 (sR 5 [oM 18 16,oO 19 (.ixA 4 1 false (.t 15) (.t 16)),oM 4 18,oM 5 19] (sR 6 [oM 20 4,oV 21 .gtr 20 0,oM 22 21,gT 22 (oM 23 5),gT 22 (oM 24 0),gT 22 (oT 25 .eql 23 24),oA 26 22 25] Zwk))) (.reg 8 Yay))))
abbrev Zwe:AC:=(.cond (.t 56) (sR 17 [oM 57 10,oO 58 (.cvi .u64 (.t 57)),oK 59 5 8,oO 60 (.build [z7,z8,z6,zs,zl,zb,z7] [(0,1,(.t 58)),(1,5,(.t 59))]),oS 7 2 60,oC 3 (.b true)] .ret) .skip)
abbrev Ac:AC:=(sR 14 [oV 46 .lss 45 5] (.seq (.cond (.t 46) .skip (.exit 2)) (.seq (.block 3 (sR 15 [oM 47 45,oO 48 (.ixA 5 1 false (.t 44) (.t 45)),oM 10 47,oM 11 48] (sR 16 [oM 49 9,oV 50 .eql 49 0,oM 51 50,gT 51 (oM 52 11),gT 51 (oF 53 0 8),gT 51 (oL 54 53),gT 51 (oT 55 .eql 52 54),oA 56 51 55] Zwe))) (.reg 18 Ybh))))
abbrev Ao:AC:=(sR 19 [oO 62 (.build [z7,z8,z6,zs,zl,zb,z7] []),oS 7 2 62,oC 3 (.b false)] .ret)
abbrev Ar:AC:=(sR 9 [oM 32 0,oO 33 (.call false 36 [(.t 32),(.c (.s [112,97,110,105,99,32]))]),oM 31 33,oE 34 0 31,oE 35 1 31,oM 6 34,oM 7 35] (.seq (sR 10 [oM 36 7,oZ 37 36] (.cond (.t 37) (sR 11 [oO 38 (.build [z7,z8,z6,zs,zl,zb,z7] []),oS 7 2 38,oC 3 (.b false)] .ret) .skip)) (sR 12 [oM 40 6,oQ 41 74 [40],oM 39 41,oE 42 0 39,oE 43 1 39,oO 8 (.alloc [z8,z6,zs,zl,zb]),oS 5 8 42,oM 9 43] (.seq (sR 13 [oQ 44 183 [],oI 45 0] (.block 2 (.loop Ac))) Ao))))
abbrev Ycn:AC:=(.seq (sR 3 [oQ 15 178 [],oI 16 0] (.block 0 (.loop Ie))) Ar)
abbrev Yas:AC:=(.seq (sR 1 [oM 12 0,oB 13 .eql (.t 12) (.c (.s [101,120,105,116]))] (.cond (.t 13) (sR 2 [oO 14 (.build [z7,z8,z6,zs,zl,zb,z7] [(6,1,(.c (.i .u64 2)))]),oS 7 2 14,oC 3 (.b true)] .ret) .skip)) Ycn)
abbrev Zy1:AC:=(sR 0 [oO 2 (.alloc [z7,z8,z6,zs,zl,zb,z7]),oC 3 (.b false)] Yas)
def Za0:AF:={ nt:=63,res:=[.cell 2 7 true,.tmp 3],body:=Zy1 }
abbrev Yj3 (Q:AE->Sl->St->Prop)(K:Zf->Bool->Prop):Prop:=∀(σ:Sl)(st:St)(k0:Zo)(v0:Nat)(bj:Zm)(aa:Zf)(ae:Bool),σ 2=.p k0 v0 0->lk st.bx k0=some (v0,[.i .u64 aa.tag,.i .u8 aa.value.kind,.i .i64 aa.value.int,.s aa.value.text,.sl bj (List.map Za.row aa.value.list),.b aa.value.cut,.i .u64 aa.flags])->σ 3=.b ae->K aa ae->Q .ret σ st
abbrev Zs8 (PG:Zb)(d:Nat)(Q:AE->Sl->St->Prop)(s0:BS)(t15:LB)(t16:Int)(m0:Zf):Prop:=
  ∀(σ:Sl)(st:St)(ew:Zm)(v0:Nat),σ 0=.s s0->σ 2=.p (d,0) v0 0->σ 15=.ag (List.map AV.s t15)->σ 16=.i .i64 t16->lk st.bx (d,0)=some (v0,[.i .u64 m0.tag,.i .u8 m0.value.kind,.i .i64 m0.value.int,.s m0.value.text,.sl ew (List.map Za.row m0.value.list),.b m0.value.cut,.i .u64 m0.flags])->W PG d (.loop Ie) σ st (Yd 0 (Zv PG d Ar Q))
def Oq (PG:Zb)(K:Zf->Bool->Prop)(P0:Int->Zf->Prop)(s0:BS)(n4:Int)(t15:LB)(t16:Int)(t26:Bool)(m0:Zf):Prop:=
  (t26=true->K (Zf.mk 4 (Za.mk 2 n4 [] ([]:List Za) false) 0) true)/\(t26=false->P0 (IntKind.i64.wrap (t16+1)) m0)
abbrev Zr6 (PG:Zb)(d:Nat)(Q:AE->Sl->St->Prop)(e9:Int)(t44:List (UInt8))(t45:Int)(m0:Zf)(cg:Za):Prop:=
  ∀(σ:Sl)(st:St)(ew:Zm) (v0 fu:Nat),σ 2=.p (d,0) v0 0->σ 8=.p (d,49157) fu 0->σ 9=.i .i64 e9->σ 44=.ag (List.map c8 t44)->σ 45=.i .i64 t45->lk st.bx (d,0)=some (v0,[.i .u64 m0.tag,.i .u8 m0.value.kind,.i .i64 m0.value.int,.s m0.value.text,.sl ew (List.map Za.row m0.value.list),.b m0.value.cut,.i .u64 m0.flags])->lk st.bx (d,49157)=some (fu,Za.cs cg)->W PG d (.loop Ac) σ st (Yd 2 (Zv PG d Ao Q))
def Ik (PG:Zb)(K:Zf->Bool->Prop)(P1:Int->Zf->Za->Prop)(e9:Int)(ic:Int)(t44:List (UInt8))(t45:Int)(t56:Bool)(m0:Zf)(cg:Za):Prop:=
  (t56=true->K (Zf.mk (IntKind.u64.wrap ic) cg 0) true)/\(t56=false->P1 (IntKind.i64.wrap (t45+1)) m0 cg)
def Zgi (PG:Zb)(K:Zf->Bool->Prop)(m0:Zf):Prop:=
  K (Zf.mk 0 (Za.mk 0 0 [] ([]:List Za) false) 0) false
section
variable(PG:Zb)(K:Zf->Bool->Prop)
def Fc (P1:Int->Zf->Za->Prop)(e9:Int)(t44:List (UInt8))(t45:Int)(m0:Zf)(cg:Za):Prop:=
  (t45<5->t44.length=5/\0<=t45/\∃c:UInt8,(t44:List (UInt8))[(t45).toNat]?=some c/\(e9=0->Ik PG K P1 e9 t45 t44 t45 (decide ((c.toNat:Int)=cg.kind)) m0 cg)/\(¬(e9=0)->Ik PG K P1 e9 t45 t44 t45 false m0 cg))/\(¬(t45<5)->Zgi PG K m0)
def Zjo (s0:BS)(m0:Zf):Prop:=
  ∃o c,Ze PG 36 [.s s0,.s ([112,97,110,105,99,32]:BS)] (.tup [.s o,.b c])/\((!c)=true->K (Zf.mk 0 (Za.mk 0 0 [] ([]:List Za) false) 0) false)/\((!c)=false->∃e:Za,∃k,Ze PG 74 [.s o] (.tup [e.av,.i .i64 k])/\∃j,Ze PG 183 [] (.ag (List.map c8 j))/\∀P1:Int->Zf->Za->Prop,(∀(t45:Int)(m0:Zf)(cg:Za),Fc PG K P1 k j t45 m0 cg->P1 t45 m0 cg)->P1 0 m0 e)
def Zba (P0:Int->Zf->Prop)(s0:BS)(t15:LB)(t16:Int)(m0:Zf):Prop:=
  (t16<4->t15.length=4/\0<=t16/\∃c,(t15:LB)[(t16).toNat]?=some c/\(t16>0->Oq PG K P0 s0 t16 t15 t16 (decide (c=s0)) m0)/\(¬(t16>0)->Oq PG K P0 s0 t16 t15 t16 false m0))/\(¬(t16<4)->Zjo PG K s0 m0)
def Zh4 (s0:BS)(m0:Zf):Prop:=
  ∃c,Ze PG 178 [] (.ag (List.map AV.s c))/\∀P0:Int->Zf->Prop,(∀(t16:Int)(m0:Zf),Zba PG K P0 s0 c t16 m0->P0 t16 m0)->P0 0 m0
def Zj2 (s0:BS)(m0:Zf):Prop:=
  (s0=([101,120,105,116]:BS)->K (Zf.mk 0 (Za.mk 0 0 [] ([]:List Za) false) 2) true)/\(¬(s0=([101,120,105,116]:BS))->Zh4 PG K s0 m0)
def Zia (s0:BS):Prop:=
  Zj2 PG K s0 (Zf.mk 0 (Za.mk 0 0 [] ([]:List Za) false) 0)
end
section
variable {PG:Zb}{d:Nat}{Q:AE->Sl->St->Prop}{K:Zf->Bool->Prop}(hQ:Yj3 Q K){σ:Sl}{st:St}
include hQ
variable {s0:BS}{n4:Int}{t15:LB}{t16:Int}{t26:Bool}{m0:Zf}{P0:Int->Zf->Prop}{ew:Zm}{v0:Nat}{e9 ic:Int}{t44:List (UInt8)}{t45:Int}{t56:Bool}{cg:Za}{P1:Int->Zf->Za->Prop}{fu:Nat}
variable (kP0 :∀(t16:Int)(m0:Zf),P0 t16 m0->Zs8 PG d Q s0 t15 t16 m0) (kP1 :∀(t45:Int)(m0:Zf)(cg:Za),P1 t45 m0 cg->Zr6 PG d Q e9 t44 t45 m0 cg)(H0:σ 0=.s s0)(H2:σ 2=.p (d,0) v0 0)(H4:σ 4=.i .i64 n4)(H8:σ 8=.p (d,49157) fu 0)(H15:σ 15=.ag (List.map AV.s t15))(H9:σ 9=.i .i64 e9)(Vs:σ 16=.i .i64 t16)(H10:σ 10=.i .i64 ic)(Ge:σ 26=.b t26)(Us:σ 44=.ag (List.map c8 t44))(Hs:σ 45=.i .i64 t45)(H56:σ 56=.b t56)(B0:lk st.bx (d,0)=some (v0,[.i .u64 m0.tag,.i .u8 m0.value.kind,.i .i64 m0.value.int,.s m0.value.text,.sl ew (List.map Za.row m0.value.list),.b m0.value.cut,.i .u64 m0.flags]))(dz:lk st.bx (d,49157)=some (fu,Za.cs cg))
include kP0 H0 H2 H4 H15 Vs Ge B0 in
theorem Zx6 (h:Oq PG K P0 s0 n4 t15 t16 t26 m0):W PG d Zwk σ st (Yd 1 (Zv PG d (.reg 8 Yay) (Zv PG d (.loop Ie) (Yd 0 (Zv PG d Ar Q))))):=
 Wp Ge (fun c=>q_ J (m_ (Yi (Yl J J (Yl H4 J Yh)) (Yi (Yl J J (Yl J J Yh)) (Yc H2 B0 J J J (m_ (Zr (hQ _ _ _ _ _ _ _ H2 Zj J (h.1 c))))))))) (fun c=>Yg (W.reg0 J fun _ _=>b_ Vs J Vv (m_ (e_ (kP0 _ _ (h.2 c) _ _ _ _ H0 H2 H15 J B0)))))
include kP1 H2 H8 H9 H10 Us Hs H56 B0 dz in
theorem Yca (h:Ik PG K P1 e9 ic t44 t45 t56 m0 cg):W PG d Zwe σ st (Yd 3 (Zv PG d (.reg 18 Ybh) (Zv PG d (.loop Ac) (Yd 2 (Zv PG d Ao Q))))):=
 Wp H56 (fun c=>q_ J (m_ (Cn H10 (l_ H8 dz J J (Yi (Yl J J (Yl J J Yh)) (Yc H2 B0 J J J (m_ (Zr (hQ _ _ _ _ _ _ _ H2 Zj J (h.1 c)))))))))) (fun c=>Yg (W.reg0 J fun _ _=>b_ Hs J Vv (m_ (e_ (kP1 _ _ _ (h.2 c) _ _ _ _ _ H2 H8 H9 Us J B0 dz)))))
include H2 B0 in
theorem Xdq (h:Zgi PG K m0):W PG d Ao σ st Q:=
 au trivial
include kP1 H2 H8 H9 Us Hs B0 dz in
theorem Yo0 (h:Fc PG K P1 e9 t44 t45 m0 cg):W PG d Ac σ st (Zv PG d (.loop Ac) (Yd 2 (Zv PG d Ao Q))):=
 q_ J (b_ Hs J Vc (e_ (Zp (Yk J (fun c=>Yg (Zp (Yn (q_ J (m_ ((h.1 c).2.2.elim fun _ e=>Ty (f:=c8) (h.1 c).1 Us Hs (h.1 c).2.1 e.1 (m_ (m_ (e_ (q_ J (Xf H9 (b_ J J Xc (Xl J (Xa (g:=51) J (fun i=>Zd J (Xf J (Zd J (f_ H8 (Zd J (l_ J dz J J (Zd J (b_ J J Xc (Mt J J (e_ (Yca hQ kP1 H2 H8 H9 Hs Us Hs J B0 dz (e.2.1 i)))))))))))) (fun i=>z_ 5 J (e_ (Yca hQ kP1 H2 H8 H9 Hs Us Hs J B0 dz (e.2.2 i)))))))))))))))))) (fun c=>Jm (Xdq hQ H2 B0 (h.2 c)))))))
include H0 H2 B0 in
theorem Yts (h:Zjo PG K s0 m0):W PG d Ar σ st Q:=
 q_ J (m_ (x2 h fun _ _ c=>Ya (Je H0 J J) c.1 (m_ (x_ J J (x_ J J (m_ (m_ (e_ (Zp (q_ J (m_ (Wo J (e_ (Wp J (fun e=>q_ J (Yi Yh (Yc H2 B0 J J J (m_ (Zr (hQ _ _ _ _ _ _ _ H2 Zj J (c.2.1 e))))))) (fun e=>Yg (Zp (W.reg (m_ (x2 (c.2.2 e) fun _ o j=>Ya (Ys J J) j.1 (m_ (x_ J J (x_ J J (Xo (Yc J (show lk _ (d,49157)=some (_,([.i .u8 0,.i .i64 0,.s [],.sl .full (List.map Za.row ([]:List Za)),.b false]:List AV)) from Zj) J J J (m_ (e_ (Zp (q_ J (j.2.elim fun p k=>Ya sn k.1 (m_ (e_ (Yn (k.2 (Zr6 PG d Q o p) (fun _ _ _ hb _ _ _ _ _ H2 H8 H9 Us Hs B0 dz=>W.loop (Yo0 hQ (fun _ _ _ x=>x) H2 H8 H9 Us Hs B0 dz hb)) _ _ _ _ _ H2 J J J J (Zs J (Zs J B0)) Zj)))))))))))))))))))))))))))))))))
include kP0 H0 H2 H15 Vs B0 in
theorem Xhj (h:Zba PG K P0 s0 t15 t16 m0):W PG d Ie σ st (Zv PG d (.loop Ie) (Yd 0 (Zv PG d Ar Q))):=
 q_ J (b_ Vs J Vc (e_ (Zp (Yk J (fun c=>Yg (Zp (Yn (q_ J (m_ ((h.1 c).2.2.elim fun _ e=>Ty (f:=AV.s) (h.1 c).1 H15 Vs (h.1 c).2.1 e.1 (m_ (m_ (e_ (q_ J (Xf Vs (b_ J J Qb (Xl J (Xa (g:=22) J (fun i=>Zd J (Hw J (Zd J (Hw H0 (Zd J (b_ J J To (Mt J J (e_ (Zx6 hQ kP0 H0 H2 Vs H15 Vs J B0 (e.2.1 i)))))))))) (fun i=>z_ 4 J (e_ (Zx6 hQ kP0 H0 H2 Vs H15 Vs J B0 (e.2.2 i)))))))))))))))))) (fun c=>Jm (Yts hQ H0 H2 B0 (h.2 c)))))))
include H0 H2 B0 in
theorem Yh2 (h:Zh4 PG K s0 m0):W PG d Ycn σ st Q:=
 Zp (q_ J (h.elim fun e c=>Ya sn c.1 (m_ (e_ (Yn (c.2 (Zs8 PG d Q s0 e) (fun _ _ hb _ _ _ _ H0 H2 H15 Vs B0=>W.loop (Xhj hQ (fun _ _ x=>x) H0 H2 H15 Vs B0 hb)) _ _ _ _ H0 H2 J J B0))))))
include H0 H2 B0 in
theorem Ygd (h:Zj2 PG K s0 m0):W PG d Yas σ st Q:=
 Zp (q_ J (m_ (b_ H0 J To (e_ (Yk J (fun c=>q_ J (Yi (Yl J J Yh) (Yc H2 B0 J J J (m_ (Zr (hQ _ _ _ _ _ _ _ H2 Zj J (h.1 c))))))) (fun c=>Yg (Yh2 hQ H0 H2 B0 (h.2 c))))))))
include H0 in
theorem Yxp (h:Zia PG K s0):W PG d Zy1 σ st Q:=
 au @Ygd
end
theorem Ygr {PG:Zb}(hf:PG.fn 181=some Za0){s0:BS}{K:Zf->Bool->Prop}(h:Zia PG K s0) :∃aa:Zf,∃ae:Bool,K aa ae/\Ze PG 181 [.s s0] (.tup [aa.av,.b ae]):=by
  obtain ⟨v,hv,aa,ae,hk,rfl⟩:=Ze.of (K:=fun v=>∃aa:Zf,∃ae:Bool,K aa ae/\v=.tup [aa.av,.b ae]) hf rfl (Yxp (σ:=Wc [.s s0]) (fun σ st k0 v0 bj aa ae H2 HB2 H3 hk=>⟨.tup [aa.avo bj,.b ae],by simp only [Za0,Xk,Vb,Jr (n:=7) H2 HB2 rfl,H3,Ky,kJ],_,rfl,aa,ae,hk,rfl⟩) rfl h)
  exact ⟨aa,ae,hk,hv⟩
abbrev Zwg:AC:=(.seq (sR 10 [oM 38 8,oZ 39 38,oM 40 39,gF 40 (oK 41 7 7),gF 40 (oQ 42 158 [41]),gF 40 (oV 43 .neq 42 0),oR 44 40 43] (.cond (.t 44) (sR 11 [oO 45 (.build [z7,z8,z6,zs,zl,zb,z7] []),oS 7 2 45,oI 3 12] .ret) .skip)) (sR 12 [oK 46 7 7,oS 7 2 46,oI 3 0] .ret))
abbrev Zsr:AC:=(.seq (sR 8 [oM 33 5] (.cond (.t 33) (.reg 9 [oF 34 6 7,oL 35 34,oB 36 .or (.t 35) (.c (.i .u64 4)),oF 37 6 7,oS 1 37 36]) .skip)) Zwg)
abbrev Ych:AC:=(sR 0 [oO 2 (.alloc [z7,z8,z6,zs,zl,zb,z7]),oI 3 0] (.seq (sR 1 [oM 9 0,oH 10 9,oV 11 .gtr 10 2000] (.cond (.t 11) (sR 2 [oO 12 (.build [z7,z8,z6,zs,zl,zb,z7] []),oS 7 2 12,oI 3 4] .ret) .skip)) (sR 3 [oM 14 0,oO 15 (.call false 180 [(.t 14),(.c (.s [32,97,98,111,114,116,101,100]))]),oM 13 15,oE 16 0 13,oE 17 1 13,oM 4 16,oM 5 17] (sR 4 [oM 19 4,oO 20 (.call false 180 [(.t 19),(.c (.s [32,114,101,99,111,118,101,114,101,100]))]),oM 18 20,oE 21 0 18,oE 22 1 18,oM 4 21,oM 6 22] (sR 5 [oM 24 4,oQ 25 181 [24],oM 23 25,oE 26 0 23,oE 27 1 23,oO 7 (.alloc [z7,z8,z6,zs,zl,zb,z7]),oS 7 7 26,oM 8 27] (.seq (sR 6 [oM 28 6] (.cond (.t 28) (.reg 7 [oF 29 6 7,oL 30 29,oB 31 .or (.t 30) (.c (.i .u64 1)),oF 32 6 7,oS 1 32 31]) .skip)) Zsr))))))
def Aj:AF:={ nt:=47,res:=[.cell 2 7 true,.tmp 3],body:=Ych }
abbrev Xba (Q:AE->Sl->St->Prop)(K:Zf->Int->Prop):Prop:=∀(σ:Sl)(st:St)(k0:Zo)(v0:Nat)(bj:Zm)(aa:Zf)(ae:Int),σ 2=.p k0 v0 0->lk st.bx k0=some (v0,[.i .u64 aa.tag,.i .u8 aa.value.kind,.i .i64 aa.value.int,.s aa.value.text,.sl bj (List.map Za.row aa.value.list),.b aa.value.cut,.i .u64 aa.flags])->σ 3=.i .i64 ae->K aa ae->Q .ret σ st
section
variable(PG:Zb)(K:Zf->Int->Prop)
def Lx (ok8:Bool)(m0:Zf)(dj:Zf):Prop:=
  ((!ok8)=true->K (Zf.mk 0 (Za.mk 0 0 [] ([]:List Za) false) 0) 12)/\((!ok8)=false->∃c,Ze PG 158 [dj.av] (.i .i64 c)/\(c≠0->K (Zf.mk 0 (Za.mk 0 0 [] ([]:List Za) false) 0) 12)/\(¬(c≠0)->K dj 0))
def Of (ej:Bool)(ok8:Bool)(m0:Zf)(dj:Zf):Prop:=
  (ej=true->Lx PG K ok8 m0 (Zf.mk dj.tag dj.value (Iq .u64 dj.flags 4)))/\(ej=false->Lx PG K ok8 m0 dj)
def Zgw (s0:BS):Prop:=
  ((s0.length:Int)>2000->K (Zf.mk 0 (Za.mk 0 0 [] ([]:List Za) false) 0) 4)/\(¬((s0.length:Int)>2000)->∃k i,Ze PG 180 [.s s0,.s ([32,97,98,111,114,116,101,100]:BS)] (.tup [.s k,.b i])/\∃o e,Ze PG 180 [.s k,.s ([32,114,101,99,111,118,101,114,101,100]:BS)] (.tup [.s o,.b e])/\∃c:Zf,∃j,Ze PG 181 [.s o] (.tup [c.av,.b j])/\(e=true->Of PG K i j (Zf.mk 0 (Za.mk 0 0 [] ([]:List Za) false) 0) (Zf.mk c.tag c.value (Iq .u64 c.flags 1)))/\(e=false->Of PG K i j (Zf.mk 0 (Za.mk 0 0 [] ([]:List Za) false) 0) c))
end
section
variable {PG:Zb}{d:Nat}{Q:AE->Sl->St->Prop}{K:Zf->Int->Prop}(hQ:Xba Q K){σ:Sl}{st:St}
include hQ
variable {ok8:Bool}{m0 dj:Zf}{ew:Zm}{v0 ij:Nat}{ej:Bool}{s0:BS}
variable (H2:σ 2=.p (d,0) v0 0)(H0:σ 0=.s s0)(H5:σ 5=.b ej)(H7:σ 7=.p (d,20485) ij 0)(H8:σ 8=.b ok8)(B0:lk st.bx (d,0)=some (v0,[.i .u64 m0.tag,.i .u8 m0.value.kind,.i .i64 m0.value.int,.s m0.value.text,.sl ew (List.map Za.row m0.value.list),.b m0.value.cut,.i .u64 m0.flags]))(ik:lk st.bx (d,20485)=some (ij,Zf.cs dj))
include H2 H7 H8 B0 ik in
theorem Ypp (h:Lx PG K ok8 m0 dj):W PG d Zwg σ st Q:=
 au trivial
include H2 H5 H7 H8 B0 ik in
theorem Ytb (h:Of PG K ej ok8 m0 dj):W PG d Zsr σ st Q:=
 au @Ypp
include H0 in
theorem Yrb (h:Zgw PG K s0):W PG d Ych σ st Q:=
 au @Ytb
end
theorem Yjn {PG:Zb}(hf:PG.fn 156=some Aj){s0:BS}{K:Zf->Int->Prop}(h:Zgw PG K s0) :∃aa:Zf,∃ae:Int,K aa ae/\Ze PG 156 [.s s0] (.tup [aa.av,.i .i64 ae]):=by
  obtain ⟨v,hv,aa,ae,hk,rfl⟩:=Ze.of (K:=fun v=>∃aa:Zf,∃ae:Int,K aa ae/\v=.tup [aa.av,.i .i64 ae]) hf rfl (Yrb (σ:=Wc [.s s0]) (fun σ st k0 v0 bj aa ae H2 HB2 H3 hk=>⟨.tup [aa.avo bj,.i .i64 ae],by simp only [Aj,Xk,Vb,Jr (n:=7) H2 HB2 rfl,H3,Ky,kJ],_,rfl,aa,ae,hk,rfl⟩) rfl h)
  exact ⟨aa,ae,hk,hv⟩
abbrev Ype (Q:AE->Sl->St->Prop)(K:Zf->Int->Prop):Prop:=∀(σ:Sl)(st:St)(k0:Zo)(v0:Nat)(bj:Zm)(aa:Zf)(ae:Int),σ 2=.p k0 v0 0->lk st.bx k0=some (v0,[.i .u64 aa.tag,.i .u8 aa.value.kind,.i .i64 aa.value.int,.s aa.value.text,.sl bj (List.map Za.row aa.value.list),.b aa.value.cut,.i .u64 aa.flags])->σ 3=.i .i64 ae->K aa ae->Q .ret σ st
section
variable {PG:Zb}{d:Nat}{Q:AE->Sl->St->Prop}{K:Zf->Int->Prop}(hQ:Ype Q K){σ:Sl}{st:St}
include hQ
end
abbrev Yc7:AC:=(sR 0 [oY 2 7 0,oY 3 7 1,oC 4 (.b false)] (sR 1 [oF 5 0 2,oL 6 5,oF 7 0 3,oL 8 7,oT 9 .eql 6 8,oM 10 9,gT 10 (oF 11 6 2),gT 10 (oL 12 11),gT 10 (oF 13 6 3),gT 10 (oL 14 13),gT 10 (oT 15 .eql 12 14),oA 16 10 15,oM 17 16,gT 17 (oF 18 1 2),gT 17 (oK 19 5 18),gT 17 (oF 20 1 3),gT 17 (oK 21 5 20),gT 17 (oQ 22 78 [19,21]),oA 23 17 22,oM 4 23] .ret))
def Zad:AF:={ nt:=24,res:=[.tmp 4],body:=Yc7 }
section
variable(PG:Zb)(K:Bool->Prop)
def Zkm (a0:Zf)(b1:Zf):Prop:=
  (a0.tag=b1.tag->(a0.flags=b1.flags->∃c,Ze PG 78 [a0.value.av,b1.value.av] (.b c)/\K c)/\(¬(a0.flags=b1.flags)->K false))/\(¬(a0.tag=b1.tag)->K false)
end
section
variable {PG:Zb}{d:Nat}{Q:AE->Sl->St->Prop}{K:Bool->Prop}(hQ:H1 AV.b 4 Q K){σ:Sl}{st:St}
include hQ
variable {a0 b1:Zf}
variable (H0:σ 0=a0.av)(H1:σ 1=b1.av)
include H0 H1 in
theorem Yp5 (h:Zkm PG K a0 b1):W PG d Yc7 σ st Q:=
 au trivial
end
theorem Yib {PG:Zb}(hf:PG.fn 160=some Zad){a0:Zf}{b1:Zf}{K:Bool->Prop}(h:Zkm PG K a0 b1) :∃aa:Bool,K aa/\Ze PG 160 [a0.av,b1.av] (.b aa):=
 P1 hf J (Yp5 (h1 J fun _=>J) J J h)
abbrev Xir (Q:AE->Sl->St->Prop)(K:Bool->Prop):Prop:=∀(σ:Sl)(st:St)(aa:Bool),σ 4=.b aa->K aa->Q .ret σ st
section
variable {PG:Zb}{d:Nat}{Q:AE->Sl->St->Prop}{K:Bool->Prop}(hQ:Xir Q K){σ:Sl}{st:St}
include hQ
end
end Go.AM

namespace Go.AM
open Go
set_option maxRecDepth 4000
set_option maxHeartbeats 2000000
attribute [local irreducible] Decidable.decide W WO Xq We
abbrev Yor (Q:AE->Sl->St->Prop)(K:Int->Prop):Prop:=∀(σ:Sl)(st:St)(aa:Int),σ 2=.i .i64 aa->K aa->Q .ret σ st
section
variable {PG:Zb}{d:Nat}{Q:AE->Sl->St->Prop}{K:Int->Prop}(hQ:Yor Q K){σ:Sl}{st:St}
include hQ
end
abbrev Yyg (Q:AE->Sl->St->Prop)(K:Int->Prop):Prop:=∀(σ:Sl)(st:St)(aa:Int),σ 2=.i .i64 aa->K aa->Q .ret σ st
section
variable {PG:Zb}{d:Nat}{Q:AE->Sl->St->Prop}{K:Int->Prop}(hQ:Yyg Q K){σ:Sl}{st:St}
include hQ
end
abbrev Xix (Q:AE->Sl->St->Prop)(K:Int->Int->Prop):Prop:=∀(σ:Sl)(st:St)(aa:Int)(ae:Int),σ 2=.i .i64 aa->σ 3=.i .i64 ae->K aa ae->Q .ret σ st
section
variable {PG:Zb}{d:Nat}{Q:AE->Sl->St->Prop}{K:Int->Int->Prop}(hQ:Xix Q K){σ:Sl}{st:St}
include hQ
end
abbrev Yij:AC:=(.seq (sR 5 [oM 11 5,oM 12 0,oJ 13 12,oT 14 .lss 11 13] (.cond (.t 14) .skip (.exit 0))) (.seq (.block 1 (sR 7 [oM 17 0,oM 18 5,oX 19 7 17 18,oF 20 6 19,oL 21 20,oB 22 .eql (.t 21) (.c (.i .u64 0))] (.cond (.t 22) (sR 8 [oM 23 5,oM 2 23,oI 3 0] .ret) .skip))) (.reg 6 [oM 15 5,oV 16 .add 15 1,oM 5 16])))
abbrev Ypu:AC:=(sR 9 [oI 2 0,oI 3 6] .ret)
abbrev Yjq:AC:=(sR 0 [oI 2 0,oI 3 0] (.seq (sR 1 [oM 6 0,oQ 7 163 [6],oM 4 7] (sR 2 [oM 8 4,oV 9 .neq 8 0] (.cond (.t 9) (sR 3 [oM 10 4,oI 2 0,oM 3 10] .ret) .skip))) (.seq (sR 4 [oI 5 0] (.block 0 (.loop Yij))) Ypu)))
def Ydn:AF:={ nt:=24,res:=[.tmp 2,.tmp 3],body:=Yjq }
abbrev Yqb (Q:AE->Sl->St->Prop)(K:Int->Int->Prop):Prop:=∀(σ:Sl)(st:St)(aa:Int)(ae:Int),σ 2=.i .i64 aa->σ 3=.i .i64 ae->K aa ae->Q .ret σ st
section
variable {PG:Zb}{d:Nat}{Q:AE->Sl->St->Prop}{K:Int->Int->Prop}(hQ:Yqb Q K){σ:Sl}{st:St}
include hQ
end
abbrev Zgj:AC:=(.seq (sR 4 [oM 11 5,oM 12 0,oJ 13 12,oT 14 .lss 11 13] (.cond (.t 14) .skip (.exit 0))) (.seq (.block 1 (sR 6 [oM 17 0,oM 18 5,oX 19 7 17 18,oK 20 7 19,oM 21 1,oM 22 5,oX 23 7 21 22,oK 24 7 23,oQ 25 160 [20,24],oZ 26 25] (.cond (.t 26) (sR 7 [oC 4 (.b false)] .ret) .skip))) (.reg 5 [oM 15 5,oV 16 .add 15 1,oM 5 16])))
abbrev Zbk:AC:=(sR 8 [oC 4 (.b true)] .ret)
abbrev Zuc:AC:=(sR 0 [oC 4 (.b false)] (.seq (sR 1 [oM 6 0,oJ 7 6,oM 8 1,oJ 9 8,oT 10 .neq 7 9] (.cond (.t 10) (sR 2 [oC 4 (.b false)] .ret) .skip)) (.seq (sR 3 [oI 5 0] (.block 0 (.loop Zgj))) Zbk)))
def Zdy:AF:={ nt:=27,res:=[.tmp 4],body:=Zuc }
abbrev Zx2 (PG:Zb)(d:Nat)(Q:AE->Sl->St->Prop)(a0:List Zf)(b1:List Zf)(i5:Int):Prop:=
  ∀(σ:Sl)(st:St) (fx fy:Zm),σ 0=.sl fx (List.map Zf.row a0)->σ 1=.sl fy (List.map Zf.row b1)->σ 5=.i .i64 i5->W PG d (.loop Zgj) σ st (Yd 0 (Zv PG d Zbk Q))
def Zii (PG:Zb)(K:Bool->Prop) :Prop:=
  K true
section
variable(PG:Zb)(K:Bool->Prop)
def Zf6 (P0:Int->Prop)(a0:List Zf)(b1:List Zf)(i5:Int):Prop:=
  (i5<(a0.length:Int)->0<=i5/\∃i:Zf,a0[(i5).toNat]?=some i/\0<=i5/\∃e:Zf,b1[(i5).toNat]?=some e/\∃c,Ze PG 160 [i.av,e.av] (.b c)/\((!c)=true->K false)/\((!c)=false->P0 (IntKind.i64.wrap (i5+1))))/\(¬(i5<(a0.length:Int))->Zii PG K )
def Zld (a0:List Zf)(b1:List Zf):Prop:=
  ((a0.length:Int)≠(b1.length:Int)->K false)/\(¬((a0.length:Int)≠(b1.length:Int))->∀P0:Int->Prop,(∀(i5:Int),Zf6 PG K P0 a0 b1 i5->P0 i5)->P0 0)
end
section
variable {PG:Zb}{d:Nat}{Q:AE->Sl->St->Prop}{K:Bool->Prop}(hQ:H1 AV.b 4 Q K){σ:Sl}{st:St}
include hQ
variable {a0 b1:List Zf}{i5:Int}{P0:Int->Prop}{fx fy:Zm}
variable (kP0 :∀(i5:Int),P0 i5->Zx2 PG d Q a0 b1 i5)(H0:σ 0=.sl fx (List.map Zf.row a0))(H1:σ 1=.sl fy (List.map Zf.row b1))(H5:σ 5=.i .i64 i5)
theorem Ytk (h:Zii PG K ):W PG d Zbk σ st Q:=
 au trivial
include kP0 H0 H1 H5 in
theorem Xhe (h:Zf6 PG K P0 a0 b1 i5):W PG d Zgj σ st (Zv PG d (.loop Zgj) (Yd 0 (Zv PG d Zbk Q))):=
 au @Ytk
include H0 H1 in
theorem Yg7 (h:Zld PG K a0 b1):W PG d Zuc σ st Q:=
 q_ J (m_ (e_ (Zp (q_ J (Yf H0 (Wk J (Yf H1 (Wk J (b_ J J Jc (e_ (Yk J (fun c=>q_ J (m_ (Zr (hQ J (h.1 c))))) (fun c=>Yg (Zp (q_ J (m_ (e_ (Yn ((h.2 c) (Zx2 PG d Q a0 b1) (fun _ hb _ _ _ _ H0 H1 H5=>W.loop (Xhe hQ (fun _ x=>x) H0 H1 H5 hb)) _ _ _ _ H0 H1 J))))))))))))))))))
end
theorem Yx8 {PG:Zb}(hf:PG.fn 170=some Zdy){a0:List Zf}{b1:List Zf}{K:Bool->Prop}(h:Zld PG K a0 b1) :∃aa:Bool,K aa/\Ze PG 170 [.sl .ext (List.map Zf.row a0),.sl .ext (List.map Zf.row b1)] (.b aa):=
 P1 hf J (Yg7 (h1 J fun _=>J) J J h)
abbrev Yra (Q:AE->Sl->St->Prop)(K:Bool->Prop):Prop:=∀(σ:Sl)(st:St)(aa:Bool),σ 2=.b aa->K aa->Q .ret σ st
section
variable {PG:Zb}{d:Nat}{Q:AE->Sl->St->Prop}{K:Bool->Prop}(hQ:Yra Q K){σ:Sl}{st:St}
include hQ
end
abbrev Yuh (Q:AE->Sl->St->Prop)(K:BS->Int->Prop):Prop:=∀(σ:Sl)(st:St)(aa:BS)(ae:Int),σ 2=.s aa->σ 3=.i .i64 ae->K aa ae->Q .ret σ st
section
variable {PG:Zb}{d:Nat}{Q:AE->Sl->St->Prop}{K:BS->Int->Prop}(hQ:Yuh Q K){σ:Sl}{st:St}
include hQ
end
abbrev Xcn (Q:AE->Sl->St->Prop)(K:BS->Int->Prop):Prop:=∀(σ:Sl)(st:St)(aa:BS)(ae:Int),σ 2=.s aa->σ 3=.i .i64 ae->K aa ae->Q .ret σ st
section
variable {PG:Zb}{d:Nat}{Q:AE->Sl->St->Prop}{K:BS->Int->Prop}(hQ:Xcn Q K){σ:Sl}{st:St}
include hQ
end
abbrev Ymn (Q:AE->Sl->St->Prop)(K:Bool->Prop):Prop:=∀(σ:Sl)(st:St)(aa:Bool),σ 4=.b aa->K aa->Q .ret σ st
section
variable {PG:Zb}{d:Nat}{Q:AE->Sl->St->Prop}{K:Bool->Prop}(hQ:Ymn Q K){σ:Sl}{st:St}
include hQ
end
abbrev Yks (Q:AE->Sl->St->Prop)(K:Za->Prop):Prop:=∀(σ:Sl)(st:St)(k0:Zo)(v0:Nat)(bj:Zm)(aa:Za),σ 2=.p k0 v0 0->lk st.bx k0=some (v0,[.i .u8 aa.kind,.i .i64 aa.int,.s aa.text,.sl bj (List.map Za.row aa.list),.b aa.cut])->K aa->Q .ret σ st
section
variable {PG:Zb}{d:Nat}{Q:AE->Sl->St->Prop}{K:Za->Prop}(hQ:Yks Q K){σ:Sl}{st:St}
include hQ
end
abbrev Ygb (Q:AE->Sl->St->Prop)(K:Za->Prop):Prop:=∀(σ:Sl)(st:St)(k0:Zo)(v0:Nat)(bj:Zm)(aa:Za),σ 0=.p k0 v0 0->lk st.bx k0=some (v0,[.i .u8 aa.kind,.i .i64 aa.int,.s aa.text,.sl bj (List.map Za.row aa.list),.b aa.cut])->K aa->Q .ret σ st
section
variable {PG:Zb}{d:Nat}{Q:AE->Sl->St->Prop}{K:Za->Prop}(hQ:Ygb Q K){σ:Sl}{st:St}
include hQ
end
abbrev Ytj (Q:AE->Sl->St->Prop)(K:Za->Prop):Prop:=∀(σ:Sl)(st:St)(k0:Zo)(v0:Nat)(bj:Zm)(aa:Za),σ 2=.p k0 v0 0->lk st.bx k0=some (v0,[.i .u8 aa.kind,.i .i64 aa.int,.s aa.text,.sl bj (List.map Za.row aa.list),.b aa.cut])->K aa->Q .ret σ st
section
variable {PG:Zb}{d:Nat}{Q:AE->Sl->St->Prop}{K:Za->Prop}(hQ:Ytj Q K){σ:Sl}{st:St}
include hQ
end
abbrev Xap (Q:AE->Sl->St->Prop)(K:Bool->Prop):Prop:=∀(σ:Sl)(st:St)(aa:Bool),σ 2=.b aa->K aa->Q .ret σ st
section
variable {PG:Zb}{d:Nat}{Q:AE->Sl->St->Prop}{K:Bool->Prop}(hQ:Xap Q K){σ:Sl}{st:St}
include hQ
end
abbrev Ym9 (d:Nat)(Zk:St)(Q:AE->Sl->St->Prop)(K:List Zf->Prop):Prop:=∀(σ:Sl)(st:St)(aa:List Zf),σ 0=.sl .full (List.map Zf.row aa)->Fr d (d,0) Zk.bx Zk.ow st.bx st.ow->K aa->Q .ret σ st
section
variable {PG:Zb}{d:Nat}{Q:AE->Sl->St->Prop}{K:List Zf->Prop}{Zk:St}(hQ:Ym9 d Zk Q K){σ:Sl}{st:St}
include hQ
end
abbrev Xaw (Q:AE->Sl->St->Prop)(K:Bool->Prop):Prop:=∀(σ:Sl)(st:St)(aa:Bool),σ 0=.b aa->K aa->Q .ret σ st
section
variable {PG:Zb}{d:Nat}{Q:AE->Sl->St->Prop}{K:Bool->Prop}(hQ:Xaw Q K){σ:Sl}{st:St}
include hQ
end
end Go.AM

namespace Go.AM
open Go
set_option maxRecDepth 4000
attribute [local irreducible] WO Xq We
abbrev Yzn (Q:AE->Sl->St->Prop)(K:Bool->Prop):Prop:=∀(σ:Sl)(st:St)(aa:Bool),σ 4=.b aa->K aa->Q .ret σ st
section
variable {PG:Zb}{d:Nat}{Q:AE->Sl->St->Prop}{K:Bool->Prop}(hQ:Yzn Q K){σ:Sl}{st:St}
include hQ
end
abbrev Xhg (Q:AE->Sl->St->Prop)(K:Bool->Prop):Prop:=∀(σ:Sl)(st:St)(aa:Bool),σ 2=.b aa->K aa->Q .ret σ st
section
variable {PG:Zb}{d:Nat}{Q:AE->Sl->St->Prop}{K:Bool->Prop}(hQ:Xhg Q K){σ:Sl}{st:St}
include hQ
end
end Go.AM

namespace Go.AM
open Go
set_option maxRecDepth 4000
attribute [local irreducible] WO Xq We
abbrev Yx4 (Q:AE->Sl->St->Prop)(K:LB->Bool->Prop):Prop:=∀(σ:Sl)(st:St)(o0:Zm)(aa:LB)(ae:Bool),σ 2=.sl o0 (List.map Zt aa)->σ 3=.b ae->K aa ae->Q .ret σ st
section
variable {PG:Zb}{d:Nat}{Q:AE->Sl->St->Prop}{K:LB->Bool->Prop}(hQ:Yx4 Q K){σ:Sl}{st:St}
include hQ
end
abbrev Xja (Q:AE->Sl->St->Prop)(K:List Zf->Int->Prop):Prop:=∀(σ:Sl)(st:St)(o0:Zm)(aa:List Zf)(ae:Int),σ 2=.sl o0 (List.map Zf.row aa)->σ 3=.i .i64 ae->K aa ae->Q .ret σ st
section
variable {PG:Zb}{d:Nat}{Q:AE->Sl->St->Prop}{K:List Zf->Int->Prop}(hQ:Xja Q K){σ:Sl}{st:St}
include hQ
end
abbrev Xa8 (Q:AE->Sl->St->Prop)(K:BS->Prop):Prop:=∀(σ:Sl)(st:St)(aa:BS),σ 4=.s aa->K aa->Q .ret σ st
section
variable {PG:Zb}{d:Nat}{Q:AE->Sl->St->Prop}{K:BS->Prop}(hQ:Xa8 Q K){σ:Sl}{st:St}
include hQ
end
abbrev Ynd (Q:AE->Sl->St->Prop)(K:BS->Prop):Prop:=∀(σ:Sl)(st:St)(aa:BS),σ 4=.s aa->K aa->Q .ret σ st
section
variable {PG:Zb}{d:Nat}{Q:AE->Sl->St->Prop}{K:BS->Prop}(hQ:Ynd Q K){σ:Sl}{st:St}
include hQ
end
abbrev Yjm (Q:AE->Sl->St->Prop)(K:Bool->Prop):Prop:=∀(σ:Sl)(st:St)(aa:Bool),σ 4=.b aa->K aa->Q .ret σ st
section
variable {PG:Zb}{d:Nat}{Q:AE->Sl->St->Prop}{K:Bool->Prop}(hQ:Yjm Q K){σ:Sl}{st:St}
include hQ
end
abbrev Xhr (Q:AE->Sl->St->Prop)(K:Bool->Prop):Prop:=∀(σ:Sl)(st:St)(aa:Bool),σ 4=.b aa->K aa->Q .ret σ st
section
variable {PG:Zb}{d:Nat}{Q:AE->Sl->St->Prop}{K:Bool->Prop}(hQ:Xhr Q K){σ:Sl}{st:St}
include hQ
end
end Go.AM

namespace Go.AM
open Go
set_option maxRecDepth 4000
set_option maxHeartbeats 2000000
attribute [local irreducible] Decidable.decide W WO Xq We
abbrev Zxq:AC:=(sR 0 [oO 0 (.alloc [zs,zs,zs,zs,zs,zs,zs,zs,zs])] (sR 1 [oO 1 (.build [zs,zs,zs,zs,zs,zs,zs,zs,zs] [(1,1,(.c (.s [110,111,114,109,97,108]))),(2,1,(.c (.s [112,97,110,105,99]))),(3,1,(.c (.s [100,101,97,100,108,111,99,107]))),(4,1,(.c (.s [115,116,97,99,107]))),(5,1,(.c (.s [104,101,97,112]))),(6,1,(.c (.s [114,111,117,116,105,110,101,115]))),(7,1,(.c (.s [115,116,101,112,115]))),(8,1,(.c (.s [115,99,114,105,112,116])))]),oS 9 0 1] .ret))
def Eo:AF:={ nt:=2,res:=[.cell 0 9 true],body:=Zxq }
abbrev Ymq (Q:AE->Sl->St->Prop)(K:LB->Prop):Prop:=∀(σ:Sl)(st:St)(k0:Zo)(v0:Nat)(aa:LB),σ 0=.p k0 v0 0->lk st.bx k0=some (v0,List.map AV.s aa)->aa.length=9->K aa->Q .ret σ st
def Zid (PG:Zb)(K:LB->Prop) :Prop:=
  K [[],([110,111,114,109,97,108]:BS),([112,97,110,105,99]:BS),([100,101,97,100,108,111,99,107]:BS),([115,116,97,99,107]:BS),([104,101,97,112]:BS),([114,111,117,116,105,110,101,115]:BS),([115,116,101,112,115]:BS),([115,99,114,105,112,116]:BS)]
section
variable {PG:Zb}{d:Nat}{Q:AE->Sl->St->Prop}{K:LB->Prop}(hQ:Ymq Q K){σ:Sl}{st:St}
include hQ
theorem Yhf (h:Zid PG K ):W PG d Zxq σ st Q:=
 Zp (W.reg (Xo (e_ (q_ J (Pv (f:=AV.s) (l:=[[],([110,111,114,109,97,108]:BS),([112,97,110,105,99]:BS),([100,101,97,100,108,111,99,107]:BS),([115,116,97,99,107]:BS),([104,101,97,112]:BS),([114,111,117,116,105,110,101,115]:BS),([115,116,101,112,115]:BS),([115,99,114,105,112,116]:BS)]) (Yl J J (Yl J J (Yl J J (Yl J J (Yl J J (Yl J J (Yl J J (Yl J J Yh)))))))) J (Lj (f:=AV.s) (fun _=>J) J (show lk _ (d,0)=some (_,(List.map AV.s (List.replicate 9 ([]:BS)):List AV)) from Zj) (by simp) J J (Zr (hQ _ _ _ _ _ J Zj (by simp) h))))))))
end
theorem Xfl {PG:Zb}(hf:PG.fn 215=some Eo)  {K:LB->Prop}(h:Zid PG K ) :∃aa:LB,K aa/\Ze PG 215 [] (.ag (List.map AV.s aa)):=by
  obtain ⟨v,hv,aa,hk,rfl⟩:=Ze.of (K:=fun v=>∃aa:LB,K aa/\v=.ag (List.map AV.s aa)) hf rfl (Yhf (σ:=Wc []) (fun σ st k0 v0  aa H0 HB0 HL0 hk=>⟨.ag (List.map AV.s aa),by simp only [Eo,Xk,Vb,Jr (n:=9) H0 HB0 (by simpa using HL0),Ky,kJ],_,Zd8 AV.s (fun _=>rfl) _,aa,hk,rfl⟩)  h)
  exact ⟨aa,hk,hv⟩
abbrev Zvo:AC:=(sR 0 [oC 2 (.s [])] (sR 1 [oM 3 0,oQ 4 15 [3],oM 2 4] .ret))
def Zc3:AF:={ nt:=5,res:=[.tmp 2],body:=Zvo }
section
variable(PG:Zb)(K:BS->Prop)
def Zpz (n0:Int):Prop:=
  ∃c,Ze PG 15 [.i .i64 n0] (.s c)/\K c
end
section
variable {PG:Zb}{d:Nat}{Q:AE->Sl->St->Prop}{K:BS->Prop}(hQ:H1 AV.s 2 Q K){σ:Sl}{st:St}
include hQ
variable {n0:Int}
variable (H0:σ 0=.i .i64 n0)
include H0 in
theorem Yu9 (h:Zpz PG K n0):W PG d Zvo σ st Q:=
 au trivial
end
theorem Ymt {PG:Zb}(hf:PG.fn 216=some Zc3){n0:Int}{K:BS->Prop}(h:Zpz PG K n0) :∃aa:BS,K aa/\Ze PG 216 [.i .i64 n0] (.s aa):=
 P1 hf J (Yu9 (h1 J fun _=>J) J h)
abbrev Yzq (Q:AE->Sl->St->Prop)(K:LB->Prop):Prop:=∀(σ:Sl)(st:St)(o0:Zm)(aa:LB),σ 0=.sl o0 (List.map Zt aa)->K aa->Q .ret σ st
section
variable {PG:Zb}{d:Nat}{Q:AE->Sl->St->Prop}{K:LB->Prop}(hQ:Yzq Q K){σ:Sl}{st:St}
include hQ
end
abbrev Yme (Q:AE->Sl->St->Prop)(K:BS->Prop):Prop:=∀(σ:Sl)(st:St)(aa:BS),σ 2=.s aa->K aa->Q .ret σ st
section
variable {PG:Zb}{d:Nat}{Q:AE->Sl->St->Prop}{K:BS->Prop}(hQ:Yme Q K){σ:Sl}{st:St}
include hQ
end
abbrev Yed:AC:=(sR 3 [oQ 10 215 [],oM 11 0,oO 12 (.ixA 9 1 false (.t 10) (.t 11)),oM 2 12,oI 3 0] .ret)
abbrev Zua:AC:=(sR 0 [oC 2 (.s []),oI 3 0] (.seq (sR 1 [oM 4 0,oW 5 .lss 4 1,oM 6 5,gF 6 (oM 7 0),gF 6 (oW 8 .gtr 7 8),oR 9 6 8] (.cond (.t 9) (sR 2 [oC 2 (.s []),oI 3 2] .ret) .skip)) Yed))
def Zb2:AF:={ nt:=13,res:=[.tmp 2,.tmp 3],body:=Zua }
section
variable(PG:Zb)(K:BS->Int->Prop)
def Zli (n0:Int):Prop:=
  ∃c:LB,Ze PG 215 [] (.ag (List.map AV.s c))/\c.length=9/\0<=n0/\∃e,(c:LB)[(n0).toNat]?=some e/\K e 0
def Zlv (n0:Int):Prop:=
  (n0<1->K ([]:BS) 2)/\(¬(n0<1)->(n0>8->K ([]:BS) 2)/\(¬(n0>8)->Zli PG K n0))
end
section
variable {PG:Zb}{d:Nat}{Q:AE->Sl->St->Prop}{K:BS->Int->Prop}(hQ:H2 AV.s (AV.i .i64) 2 3 Q K){σ:Sl}{st:St}
include hQ
variable {n0:Int}
variable (H0:σ 0=.i .u8 n0)
include H0 in
theorem Yw0 (h:Zli PG K n0):W PG d Yed σ st Q:=
 au trivial
include H0 in
theorem Yha (h:Zlv PG K n0):W PG d Zua σ st Q:=
 au @Yw0
end
theorem Yu4 {PG:Zb}(hf:PG.fn 209=some Zb2){n0:Int}{K:BS->Int->Prop}(h:Zlv PG K n0) :∃aa:BS,∃ae:Int,K aa ae/\Ze PG 209 [.i .u8 n0] (.tup [.s aa,.i .i64 ae]):=
 P2 hf J (Yha (h2 J fun _ _=>J) J h)
abbrev Xe0 (Q:AE->Sl->St->Prop)(K:BS->Int->Prop):Prop:=∀(σ:Sl)(st:St)(aa:BS)(ae:Int),σ 2=.s aa->σ 3=.i .i64 ae->K aa ae->Q .ret σ st
section
variable {PG:Zb}{d:Nat}{Q:AE->Sl->St->Prop}{K:BS->Int->Prop}(hQ:Xe0 Q K){σ:Sl}{st:St}
include hQ
end
abbrev Zzb:AC:=(sR 0 [oU 2 0,oI 3 0] (sR 1 [oQ 6 215 [],oO 4 (.alloc [zs,zs,zs,zs,zs,zs,zs,zs,zs]),oS 9 4 6] (sR 2 [oO 7 (.slA 9 1 (.t 4) none none),oM 8 0,oQ 9 141 [7,8],oM 5 9] (.seq (sR 3 [oM 10 5,oV 11 .lss 10 1] (.cond (.t 11) (sR 4 [oU 2 0,oI 3 12] .ret) .skip)) (sR 5 [oM 12 5,oO 13 (.cvi .u8 (.t 12)),oM 2 13,oI 3 0] .ret)))))
def Zcm:AF:={ nt:=14,res:=[.tmp 2,.tmp 3],body:=Zzb }
section
variable(PG:Zb)(K:Int->Int->Prop)
def Zqk (s0:BS):Prop:=
  ∃e:LB,Ze PG 215 [] (.ag (List.map AV.s e))/\e.length=9/\e.length=9/\∃c,Ze PG 141 [.sl .ext (List.map Zt e),.s s0] (.i .i64 c)/\(c<1->K 0 12)/\(¬(c<1)->K (IntKind.u8.wrap c) 0)
end
section
variable {PG:Zb}{d:Nat}{Q:AE->Sl->St->Prop}{K:Int->Int->Prop}(hQ:H2 (AV.i .u8) (AV.i .i64) 2 3 Q K){σ:Sl}{st:St}
include hQ
variable {s0:BS}
variable (H0:σ 0=.s s0)
include H0 in
theorem Ynf (h:Zqk PG K s0):W PG d Zzb σ st Q:=
 q_ J (m_ (m_ (e_ (Zp (W.reg (h.elim fun _ c=>Ya sn c.1 (Xo (Lj (f:=AV.s) (fun _=>J) J (show lk _ (d,4097)=some (_,(List.map AV.s (List.replicate 9 ([]:BS)):List AV)) from Zj) (by simp) J c.2.1 (e_ (q_ J (Yew J Zj c.2.2.1 J (m_ (c.2.2.2.elim fun _ e=>Ya (Je J H0 J) e.1 (m_ (e_ (Zp (q_ J (m_ (b_ J J Vc (e_ (Yk J (fun i=>q_ J (m_ (m_ (Zr (hQ J J (e.2.1 i)))))) (fun i=>Yg (q_ J (m_ (Cn J (m_ (m_ (Zr (hQ J J (e.2.2 i))))))))))))))))))))))))))))))
end
theorem Ys3 {PG:Zb}(hf:PG.fn 211=some Zcm){s0:BS}{K:Int->Int->Prop}(h:Zqk PG K s0) :∃aa:Int,∃ae:Int,K aa ae/\Ze PG 211 [.s s0] (.tup [.i .u8 aa,.i .i64 ae]):=
 P2 hf J (Ynf (h2 J fun _ _=>J) J h)
abbrev Xhw (Q:AE->Sl->St->Prop)(K:Int->Int->Prop):Prop:=∀(σ:Sl)(st:St)(aa:Int)(ae:Int),σ 2=.i .u8 aa->σ 3=.i .i64 ae->K aa ae->Q .ret σ st
section
variable {PG:Zb}{d:Nat}{Q:AE->Sl->St->Prop}{K:Int->Int->Prop}(hQ:Xhw Q K){σ:Sl}{st:St}
include hQ
end
abbrev Zfu:AC:=(sR 2 [oT 9 .lss 8 7] (.seq (.cond (.t 9) .skip (.exit 0)) (.seq (.block 1 (sR 3 [oM 10 8,oM 5 10] (sR 4 [oM 11 1,oM 12 0,oM 13 5,oX 14 5 12 13,oK 15 5 14,oO 16 (.callv (.t 11) [(.t 15)])] (.cond (.t 16) (sR 5 [oM 17 5,oM 4 17] .ret) .skip)))) (.reg 6 [oV 18 .add 8 1,oM 8 18]))))
abbrev Zb4:AC:=(sR 7 [oI 4 (-1)] .ret)
abbrev Zwd:AC:=(sR 0 [oI 4 0] (.seq (sR 1 [oM 6 0,oJ 7 6,oI 8 0] (.block 0 (.loop Zfu))) Zb4))
def Zae:AF:={ nt:=19,res:=[.tmp 4],body:=Zwd }
abbrev Zt9 (PG:Zb)(d:Nat)(Q:AE->Sl->St->Prop)(Zk:St)(s0:List Zl)(f1:Nat × List AV)(t7:Int)(t8:Int):Prop:=
  ∀(σ:Sl)(st:St)(br:Zm),σ 0=.sl br (List.map Zl.row s0)->σ 1=.fn f1.1 f1.2->σ 7=.i .i64 t7->σ 8=.i .i64 t8->Fr d (d,0) Zk.bx Zk.ow st.bx st.ow->W PG d (.loop Zfu) σ st (Yd 0 (Zv PG d Zb4 Q))
def Znq (PG:Zb)(K:Int->Prop) :Prop:=
  K (-1)
section
variable(PG:Zb)(K:Int->Prop)
def Al (P0:Int->Prop)(s0:List Zl)(f1:Nat × List AV)(t7:Int)(t8:Int):Prop:=
  (t8<t7->0<=t8/\∃e:Zl,s0[(t8).toNat]?=some e/\∃c,(Ym PG f1.1 ([e.av]++f1.2) (fun r=>r=.b c))/\(c=true->K t8)/\(c=false->P0 (IntKind.i64.wrap (t8+1))))/\(¬(t8<t7)->Znq PG K )
def Zn3 (s0:List Zl)(f1:Nat × List AV):Prop:=
  ∀P0:Int->Prop,(∀(t8:Int),Al PG K P0 s0 f1 (s0.length:Int) t8->P0 t8)->P0 0
end
section
variable {PG:Zb}{d:Nat}{Q:AE->Sl->St->Prop}{K:Int->Prop}{Zk:St}(hQ:HF d Zk (AV.i .i64) 4 Q K){σ:Sl}{st:St}
include hQ
variable {s0:List Zl}{f1:Nat × List AV}{t7 t8:Int}{P0:Int->Prop}{br:Zm}
variable (kP0 :∀(t8:Int),P0 t8->Zt9 PG d Q Zk s0 f1 t7 t8)(H0:σ 0=.sl br (List.map Zl.row s0))(H1:σ 1=.fn f1.1 f1.2)(H7:σ 7=.i .i64 t7)(H8:σ 8=.i .i64 t8)(FR:Fr d (d,0) Zk.bx Zk.ow st.bx st.ow)
include FR in
theorem Yi9 (h:Znq PG K ):W PG d Zb4 σ st Q:=
 au trivial
include kP0 H0 H1 H7 H8 FR in
theorem Yg6 (h:Al PG K P0 s0 f1 t7 t8):W PG d Zfu σ st (Zv PG d (.loop Zfu) (Yd 0 (Zv PG d Zb4 Q))):=
 q_ J (b_ H8 H7 Vc (e_ (Zp (Yk J (fun c=>Yg (Zp (Yn (q_ J (m_ (m_ (e_ (q_ J (m_ (Yf H0 (m_ ((h.1 c).2.elim fun o j=>Vx J H8 (h.1 c).1 j.1 (Zl.row_eq o) J (Vd J J J (j.2.elim fun _ e=>Fy H1 (Zz J Yq) (e.1) (fun _ k=>e_ (Wp J (fun i=>q_ J (m_ (m_ (Zr (hQ H8 (Fr.raw FR k) (e.2.1 i)))))) (fun i=>Yg (W.reg0 J fun _ _=>b_ H8 J Vv (m_ (e_ (kP0 _ (e.2.2 i) _ _ _ H0 H1 H7 J (Fr.raw FR k)))))))))))))))))))))) (fun c=>Jm (Yi9 hQ FR (h.2 c)))))))
include H0 H1 FR in
theorem Xc3 (h:Zn3 PG K s0 f1):W PG d Zwd σ st Q:=
 q_ J (m_ (e_ (Zp (q_ J (Yf H0 (Wk J (m_ (e_ (Yn (h (Zt9 PG d Q Zk s0 f1 (s0.length:Int)) (fun _ hb _ _ _ H0 H1 H7 H8 FR=>W.loop (Yg6 hQ (fun _ x=>x) H0 H1 H7 H8 FR hb)) _ _ _ H0 H1 J J FR))))))))))
end
theorem Yjf {PG:Zb}(hf:PG.fn 236=some Zae){s0:List Zl}{f1:Nat × List AV}{K:Int->Prop}(h:Zn3 PG K s0 f1)(br:Zm):Ym PG 236 [.sl br (List.map Zl.row s0),.fn f1.1 f1.2] (fun r=>∃aa:Int,(r=.i .i64 aa)/\K aa):=
 PF hf J J fun d st Q q=>Xc3 q J J Fr.refl h
abbrev Ze5:AC:=(sR 2 [oT 9 .lss 8 7] (.seq (.cond (.t 9) .skip (.exit 0)) (.seq (.block 1 (sR 3 [oM 10 8,oM 5 10] (sR 4 [oM 11 1,oM 12 0,oM 13 5,oX 14 4 12 13,oK 15 4 14,oO 16 (.callv (.t 11) [(.t 15)])] (.cond (.t 16) (sR 5 [oM 17 5,oM 4 17] .ret) .skip)))) (.reg 6 [oV 18 .add 8 1,oM 8 18]))))
abbrev Zex:AC:=(sR 7 [oI 4 (-1)] .ret)
abbrev Zz9:AC:=(sR 0 [oI 4 0] (.seq (sR 1 [oM 6 0,oJ 7 6,oI 8 0] (.block 0 (.loop Ze5))) Zex))
def Zat:AF:={ nt:=19,res:=[.tmp 4],body:=Zz9 }
abbrev Zw0 (PG:Zb)(d:Nat)(Q:AE->Sl->St->Prop)(Zk:St)(s0:List Zg)(f1:Nat × List AV)(t7:Int)(t8:Int):Prop:=
  ∀(σ:Sl)(st:St)(br:Zm),σ 0=.sl br (List.map Zg.row s0)->σ 1=.fn f1.1 f1.2->σ 7=.i .i64 t7->σ 8=.i .i64 t8->Fr d (d,0) Zk.bx Zk.ow st.bx st.ow->W PG d (.loop Ze5) σ st (Yd 0 (Zv PG d Zex Q))
def Zmf (PG:Zb)(K:Int->Prop) :Prop:=
  K (-1)
section
variable(PG:Zb)(K:Int->Prop)
def Ee (P0:Int->Prop)(s0:List Zg)(f1:Nat × List AV)(t7:Int)(t8:Int):Prop:=
  (t8<t7->0<=t8/\∃e:Zg,s0[(t8).toNat]?=some e/\∃c,(Ym PG f1.1 ([e.av]++f1.2) (fun r=>r=.b c))/\(c=true->K t8)/\(c=false->P0 (IntKind.i64.wrap (t8+1))))/\(¬(t8<t7)->Zmf PG K )
def Zjz (s0:List Zg)(f1:Nat × List AV):Prop:=
  ∀P0:Int->Prop,(∀(t8:Int),Ee PG K P0 s0 f1 (s0.length:Int) t8->P0 t8)->P0 0
end
section
variable {PG:Zb}{d:Nat}{Q:AE->Sl->St->Prop}{K:Int->Prop}{Zk:St}(hQ:HF d Zk (AV.i .i64) 4 Q K){σ:Sl}{st:St}
include hQ
variable {s0:List Zg}{f1:Nat × List AV}{t7 t8:Int}{P0:Int->Prop}{br:Zm}
variable (kP0 :∀(t8:Int),P0 t8->Zw0 PG d Q Zk s0 f1 t7 t8)(H0:σ 0=.sl br (List.map Zg.row s0))(H1:σ 1=.fn f1.1 f1.2)(H7:σ 7=.i .i64 t7)(H8:σ 8=.i .i64 t8)(FR:Fr d (d,0) Zk.bx Zk.ow st.bx st.ow)
include FR in
theorem Ytp (h:Zmf PG K ):W PG d Zex σ st Q:=
 au trivial
include kP0 H0 H1 H7 H8 FR in
theorem Yjj (h:Ee PG K P0 s0 f1 t7 t8):W PG d Ze5 σ st (Zv PG d (.loop Ze5) (Yd 0 (Zv PG d Zex Q))):=
 q_ J (b_ H8 H7 Vc (e_ (Zp (Yk J (fun c=>Yg (Zp (Yn (q_ J (m_ (m_ (e_ (q_ J (m_ (Yf H0 (m_ ((h.1 c).2.elim fun o j=>Vx J H8 (h.1 c).1 j.1 (Zg.row_eq o) J (Vd J J J (j.2.elim fun _ e=>Fy H1 (Zz J Yq) (e.1) (fun _ k=>e_ (Wp J (fun i=>q_ J (m_ (m_ (Zr (hQ H8 (Fr.raw FR k) (e.2.1 i)))))) (fun i=>Yg (W.reg0 J fun _ _=>b_ H8 J Vv (m_ (e_ (kP0 _ (e.2.2 i) _ _ _ H0 H1 H7 J (Fr.raw FR k)))))))))))))))))))))) (fun c=>Jm (Ytp hQ FR (h.2 c)))))))
include H0 H1 FR in
theorem Yrq (h:Zjz PG K s0 f1):W PG d Zz9 σ st Q:=
 q_ J (m_ (e_ (Zp (q_ J (Yf H0 (Wk J (m_ (e_ (Yn (h (Zw0 PG d Q Zk s0 f1 (s0.length:Int)) (fun _ hb _ _ _ H0 H1 H7 H8 FR=>W.loop (Yjj hQ (fun _ x=>x) H0 H1 H7 H8 FR hb)) _ _ _ H0 H1 J J FR))))))))))
end
theorem Xd0 {PG:Zb}(hf:PG.fn 237=some Zat){s0:List Zg}{f1:Nat × List AV}{K:Int->Prop}(h:Zjz PG K s0 f1)(br:Zm):Ym PG 237 [.sl br (List.map Zg.row s0),.fn f1.1 f1.2] (fun r=>∃aa:Int,(r=.i .i64 aa)/\K aa):=
 PF hf J J fun d st Q q=>Yrq q J J Fr.refl h
abbrev Zbz:AC:=(sR 2 [oT 9 .lss 8 7] (.seq (.cond (.t 9) .skip (.exit 0)) (.seq (.block 1 (sR 3 [oM 10 8,oM 5 10] (sR 4 [oM 11 1,oM 12 0,oM 13 5,oX 14 8 12 13,oK 15 8 14,oO 16 (.callv (.t 11) [(.t 15)])] (.cond (.t 16) (sR 5 [oM 17 5,oM 4 17] .ret) .skip)))) (.reg 6 [oV 18 .add 8 1,oM 8 18]))))
abbrev Zdf:AC:=(sR 7 [oI 4 (-1)] .ret)
abbrev Yc4:AC:=(sR 0 [oI 4 0] (.seq (sR 1 [oM 6 0,oJ 7 6,oI 8 0] (.block 0 (.loop Zbz))) Zdf))
def Zer:AF:={ nt:=19,res:=[.tmp 4],body:=Yc4 }
abbrev Ybu (PG:Zb)(d:Nat)(Q:AE->Sl->St->Prop)(Zk:St)(s0:List Zi)(f1:Nat × List AV)(t7:Int)(t8:Int):Prop:=
  ∀(σ:Sl)(st:St)(br:Zm),σ 0=.sl br (List.map Zi.row s0)->σ 1=.fn f1.1 f1.2->σ 7=.i .i64 t7->σ 8=.i .i64 t8->Fr d (d,0) Zk.bx Zk.ow st.bx st.ow->W PG d (.loop Zbz) σ st (Yd 0 (Zv PG d Zdf Q))
def Zmy (PG:Zb)(K:Int->Prop) :Prop:=
  K (-1)
section
variable(PG:Zb)(K:Int->Prop)
def Iv (P0:Int->Prop)(s0:List Zi)(f1:Nat × List AV)(t7:Int)(t8:Int):Prop:=
  (t8<t7->0<=t8/\∃e:Zi,s0[(t8).toNat]?=some e/\∃c,(Ym PG f1.1 ([e.av]++f1.2) (fun r=>r=.b c))/\(c=true->K t8)/\(c=false->P0 (IntKind.i64.wrap (t8+1))))/\(¬(t8<t7)->Zmy PG K )
def Zkt (s0:List Zi)(f1:Nat × List AV):Prop:=
  ∀P0:Int->Prop,(∀(t8:Int),Iv PG K P0 s0 f1 (s0.length:Int) t8->P0 t8)->P0 0
end
section
variable {PG:Zb}{d:Nat}{Q:AE->Sl->St->Prop}{K:Int->Prop}{Zk:St}(hQ:HF d Zk (AV.i .i64) 4 Q K){σ:Sl}{st:St}
include hQ
variable {s0:List Zi}{f1:Nat × List AV}{t7 t8:Int}{P0:Int->Prop}{br:Zm}
variable (kP0 :∀(t8:Int),P0 t8->Ybu PG d Q Zk s0 f1 t7 t8)(H0:σ 0=.sl br (List.map Zi.row s0))(H1:σ 1=.fn f1.1 f1.2)(H7:σ 7=.i .i64 t7)(H8:σ 8=.i .i64 t8)(FR:Fr d (d,0) Zk.bx Zk.ow st.bx st.ow)
include FR in
theorem Xhp (h:Zmy PG K ):W PG d Zdf σ st Q:=
 au trivial
include kP0 H0 H1 H7 H8 FR in
theorem Yp4 (h:Iv PG K P0 s0 f1 t7 t8):W PG d Zbz σ st (Zv PG d (.loop Zbz) (Yd 0 (Zv PG d Zdf Q))):=
 q_ J (b_ H8 H7 Vc (e_ (Zp (Yk J (fun c=>Yg (Zp (Yn (q_ J (m_ (m_ (e_ (q_ J (m_ (Yf H0 (m_ ((h.1 c).2.elim fun o j=>Vx J H8 (h.1 c).1 j.1 (Zi.row_eq o) J (Vd J J J (j.2.elim fun _ e=>Fy H1 (Zz J Yq) (e.1) (fun _ k=>e_ (Wp J (fun i=>q_ J (m_ (m_ (Zr (hQ H8 (Fr.raw FR k) (e.2.1 i)))))) (fun i=>Yg (W.reg0 J fun _ _=>b_ H8 J Vv (m_ (e_ (kP0 _ (e.2.2 i) _ _ _ H0 H1 H7 J (Fr.raw FR k)))))))))))))))))))))) (fun c=>Jm (Xhp hQ FR (h.2 c)))))))
include H0 H1 FR in
theorem Yfl (h:Zkt PG K s0 f1):W PG d Yc4 σ st Q:=
 q_ J (m_ (e_ (Zp (q_ J (Yf H0 (Wk J (m_ (e_ (Yn (h (Ybu PG d Q Zk s0 f1 (s0.length:Int)) (fun _ hb _ _ _ H0 H1 H7 H8 FR=>W.loop (Yp4 hQ (fun _ x=>x) H0 H1 H7 H8 FR hb)) _ _ _ H0 H1 J J FR))))))))))
end
theorem Xa2 {PG:Zb}(hf:PG.fn 238=some Zer){s0:List Zi}{f1:Nat × List AV}{K:Int->Prop}(h:Zkt PG K s0 f1)(br:Zm):Ym PG 238 [.sl br (List.map Zi.row s0),.fn f1.1 f1.2] (fun r=>∃aa:Int,(r=.i .i64 aa)/\K aa):=
 PF hf J J fun d st Q q=>Yfl q J J Fr.refl h
abbrev Zff:AC:=(sR 2 [oT 9 .lss 8 7] (.seq (.cond (.t 9) .skip (.exit 0)) (.seq (.block 1 (sR 3 [oM 10 8,oM 5 10] (sR 4 [oM 11 1,oM 12 0,oM 13 5,oX 14 7 12 13,oK 15 7 14,oO 16 (.callv (.t 11) [(.t 15)])] (.cond (.t 16) (sR 5 [oM 17 5,oM 4 17] .ret) .skip)))) (.reg 6 [oV 18 .add 8 1,oM 8 18]))))
abbrev Zel:AC:=(sR 7 [oI 4 (-1)] .ret)
abbrev Zrv:AC:=(sR 0 [oI 4 0] (.seq (sR 1 [oM 6 0,oJ 7 6,oI 8 0] (.block 0 (.loop Zff))) Zel))
def Zgn:AF:={ nt:=19,res:=[.tmp 4],body:=Zrv }
abbrev Zv1 (PG:Zb)(d:Nat)(Q:AE->Sl->St->Prop)(Zk:St)(s0:List Zf)(f1:Nat × List AV)(t7:Int)(t8:Int):Prop:=
  ∀(σ:Sl)(st:St)(br:Zm),σ 0=.sl br (List.map Zf.row s0)->σ 1=.fn f1.1 f1.2->σ 7=.i .i64 t7->σ 8=.i .i64 t8->Fr d (d,0) Zk.bx Zk.ow st.bx st.ow->W PG d (.loop Zff) σ st (Yd 0 (Zv PG d Zel Q))
def Zjd (PG:Zb)(K:Int->Prop) :Prop:=
  K (-1)
section
variable(PG:Zb)(K:Int->Prop)
def Ex (P0:Int->Prop)(s0:List Zf)(f1:Nat × List AV)(t7:Int)(t8:Int):Prop:=
  (t8<t7->0<=t8/\∃e:Zf,s0[(t8).toNat]?=some e/\∃c,(Ym PG f1.1 ([e.av]++f1.2) (fun r=>r=.b c))/\(c=true->K t8)/\(c=false->P0 (IntKind.i64.wrap (t8+1))))/\(¬(t8<t7)->Zjd PG K )
def Zjf (s0:List Zf)(f1:Nat × List AV):Prop:=
  ∀P0:Int->Prop,(∀(t8:Int),Ex PG K P0 s0 f1 (s0.length:Int) t8->P0 t8)->P0 0
end
section
variable {PG:Zb}{d:Nat}{Q:AE->Sl->St->Prop}{K:Int->Prop}{Zk:St}(hQ:HF d Zk (AV.i .i64) 4 Q K){σ:Sl}{st:St}
include hQ
variable {s0:List Zf}{f1:Nat × List AV}{t7 t8:Int}{P0:Int->Prop}{br:Zm}
variable (kP0 :∀(t8:Int),P0 t8->Zv1 PG d Q Zk s0 f1 t7 t8)(H0:σ 0=.sl br (List.map Zf.row s0))(H1:σ 1=.fn f1.1 f1.2)(H7:σ 7=.i .i64 t7)(H8:σ 8=.i .i64 t8)(FR:Fr d (d,0) Zk.bx Zk.ow st.bx st.ow)
include FR in
theorem Xj0 (h:Zjd PG K ):W PG d Zel σ st Q:=
 au trivial
include kP0 H0 H1 H7 H8 FR in
theorem Xd3 (h:Ex PG K P0 s0 f1 t7 t8):W PG d Zff σ st (Zv PG d (.loop Zff) (Yd 0 (Zv PG d Zel Q))):=
 q_ J (b_ H8 H7 Vc (e_ (Zp (Yk J (fun c=>Yg (Zp (Yn (q_ J (m_ (m_ (e_ (q_ J (m_ (Yf H0 (m_ ((h.1 c).2.elim fun o j=>Vx J H8 (h.1 c).1 j.1 (Zf.row_eq o) J (Vd J J J (j.2.elim fun _ e=>Fy H1 (Zz J Yq) (e.1) (fun _ k=>e_ (Wp J (fun i=>q_ J (m_ (m_ (Zr (hQ H8 (Fr.raw FR k) (e.2.1 i)))))) (fun i=>Yg (W.reg0 J fun _ _=>b_ H8 J Vv (m_ (e_ (kP0 _ (e.2.2 i) _ _ _ H0 H1 H7 J (Fr.raw FR k)))))))))))))))))))))) (fun c=>Jm (Xj0 hQ FR (h.2 c)))))))
include H0 H1 FR in
theorem Ywh (h:Zjf PG K s0 f1):W PG d Zrv σ st Q:=
 q_ J (m_ (e_ (Zp (q_ J (Yf H0 (Wk J (m_ (e_ (Yn (h (Zv1 PG d Q Zk s0 f1 (s0.length:Int)) (fun _ hb _ _ _ H0 H1 H7 H8 FR=>W.loop (Xd3 hQ (fun _ x=>x) H0 H1 H7 H8 FR hb)) _ _ _ H0 H1 J J FR))))))))))
end
theorem Ygm {PG:Zb}(hf:PG.fn 239=some Zgn){s0:List Zf}{f1:Nat × List AV}{K:Int->Prop}(h:Zjf PG K s0 f1)(br:Zm):Ym PG 239 [.sl br (List.map Zf.row s0),.fn f1.1 f1.2] (fun r=>∃aa:Int,(r=.i .i64 aa)/\K aa):=
 PF hf J J fun d st Q q=>Ywh q J J Fr.refl h
abbrev Zs0:AC:=(sR 0 [oC 4 (.b false)] (sR 1 [oM 5 0,oM 6 1,oO 7 (.call true 236 [(.t 5),(.t 6)]),oV 8 .geq 7 0,oM 4 8] .ret))
def Zcc:AF:={ nt:=9,res:=[.tmp 4],body:=Zs0 }
section
variable(PG:Zb)(K:Bool->Prop)
def Zpe (s0:List Zl)(f1:Nat × List AV):Prop:=
  ∃c,(∀e:Zm,Ym PG 236 [.sl e (List.map Zl.row s0),.fn f1.1 f1.2] (fun r=>r=.i .i64 c))/\K (decide (c>=0))
end
section
variable {PG:Zb}{d:Nat}{Q:AE->Sl->St->Prop}{K:Bool->Prop}{Zk:St}(hQ:HF d Zk AV.b 4 Q K){σ:Sl}{st:St}
include hQ
variable {s0:List Zl}{f1:Nat × List AV}{br:Zm}
variable (H0:σ 0=.sl br (List.map Zl.row s0))(H1:σ 1=.fn f1.1 f1.2)(FR:Fr d (d,0) Zk.bx Zk.ow st.bx st.ow)
include H0 H1 FR in
theorem Yhk (h:Zpe PG K s0 f1):W PG d Zs0 σ st Q:=
 q_ J (m_ (e_ (q_ J (Yf H0 (m_ (h.elim fun _ c=>Gs (Zz J (Zz H1 Yq)) (c.1 _) (fun _ e=>b_ J J Gd (m_ (Zr (hQ J (Fr.raw FR e) c.2))))))))))
end
theorem Yne {PG:Zb}(hf:PG.fn 224=some Zcc){s0:List Zl}{f1:Nat × List AV}{K:Bool->Prop}(h:Zpe PG K s0 f1)(br:Zm):Ym PG 224 [.sl br (List.map Zl.row s0),.fn f1.1 f1.2] (fun r=>∃aa:Bool,(r=.b aa)/\K aa):=
 PF hf J J fun d st Q q=>Yhk q J J Fr.refl h
abbrev Ycy:AC:=(sR 0 [oC 4 (.b false)] (sR 1 [oM 5 0,oM 6 1,oO 7 (.call true 237 [(.t 5),(.t 6)]),oV 8 .geq 7 0,oM 4 8] .ret))
def Zfw:AF:={ nt:=9,res:=[.tmp 4],body:=Ycy }
section
variable(PG:Zb)(K:Bool->Prop)
def Zo0 (s0:List Zg)(f1:Nat × List AV):Prop:=
  ∃c,(∀e:Zm,Ym PG 237 [.sl e (List.map Zg.row s0),.fn f1.1 f1.2] (fun r=>r=.i .i64 c))/\K (decide (c>=0))
end
section
variable {PG:Zb}{d:Nat}{Q:AE->Sl->St->Prop}{K:Bool->Prop}{Zk:St}(hQ:HF d Zk AV.b 4 Q K){σ:Sl}{st:St}
include hQ
variable {s0:List Zg}{f1:Nat × List AV}{br:Zm}
variable (H0:σ 0=.sl br (List.map Zg.row s0))(H1:σ 1=.fn f1.1 f1.2)(FR:Fr d (d,0) Zk.bx Zk.ow st.bx st.ow)
include H0 H1 FR in
theorem Yr2 (h:Zo0 PG K s0 f1):W PG d Ycy σ st Q:=
 q_ J (m_ (e_ (q_ J (Yf H0 (m_ (h.elim fun _ c=>Gs (Zz J (Zz H1 Yq)) (c.1 _) (fun _ e=>b_ J J Gd (m_ (Zr (hQ J (Fr.raw FR e) c.2))))))))))
end
theorem Xai {PG:Zb}(hf:PG.fn 227=some Zfw){s0:List Zg}{f1:Nat × List AV}{K:Bool->Prop}(h:Zo0 PG K s0 f1)(br:Zm):Ym PG 227 [.sl br (List.map Zg.row s0),.fn f1.1 f1.2] (fun r=>∃aa:Bool,(r=.b aa)/\K aa):=
 PF hf J J fun d st Q q=>Yr2 q J J Fr.refl h
abbrev Zwq:AC:=(sR 0 [oC 4 (.b false)] (sR 1 [oM 5 0,oM 6 1,oO 7 (.call true 238 [(.t 5),(.t 6)]),oV 8 .geq 7 0,oM 4 8] .ret))
def Zd4:AF:={ nt:=9,res:=[.tmp 4],body:=Zwq }
section
variable(PG:Zb)(K:Bool->Prop)
def Zot (s0:List Zi)(f1:Nat × List AV):Prop:=
  ∃c,(∀e:Zm,Ym PG 238 [.sl e (List.map Zi.row s0),.fn f1.1 f1.2] (fun r=>r=.i .i64 c))/\K (decide (c>=0))
end
section
variable {PG:Zb}{d:Nat}{Q:AE->Sl->St->Prop}{K:Bool->Prop}{Zk:St}(hQ:HF d Zk AV.b 4 Q K){σ:Sl}{st:St}
include hQ
variable {s0:List Zi}{f1:Nat × List AV}{br:Zm}
variable (H0:σ 0=.sl br (List.map Zi.row s0))(H1:σ 1=.fn f1.1 f1.2)(FR:Fr d (d,0) Zk.bx Zk.ow st.bx st.ow)
include H0 H1 FR in
theorem Xb8 (h:Zot PG K s0 f1):W PG d Zwq σ st Q:=
 q_ J (m_ (e_ (q_ J (Yf H0 (m_ (h.elim fun _ c=>Gs (Zz J (Zz H1 Yq)) (c.1 _) (fun _ e=>b_ J J Gd (m_ (Zr (hQ J (Fr.raw FR e) c.2))))))))))
end
theorem Ylm {PG:Zb}(hf:PG.fn 229=some Zd4){s0:List Zi}{f1:Nat × List AV}{K:Bool->Prop}(h:Zot PG K s0 f1)(br:Zm):Ym PG 229 [.sl br (List.map Zi.row s0),.fn f1.1 f1.2] (fun r=>∃aa:Bool,(r=.b aa)/\K aa):=
 PF hf J J fun d st Q q=>Xb8 q J J Fr.refl h
abbrev Ye5:AC:=(sR 0 [oC 4 (.b false)] (sR 1 [oM 5 0,oM 6 1,oO 7 (.call true 239 [(.t 5),(.t 6)]),oV 8 .geq 7 0,oM 4 8] .ret))
def Zfy:AF:={ nt:=9,res:=[.tmp 4],body:=Ye5 }
section
variable(PG:Zb)(K:Bool->Prop)
def Zor (s0:List Zf)(f1:Nat × List AV):Prop:=
  ∃c,(∀e:Zm,Ym PG 239 [.sl e (List.map Zf.row s0),.fn f1.1 f1.2] (fun r=>r=.i .i64 c))/\K (decide (c>=0))
end
section
variable {PG:Zb}{d:Nat}{Q:AE->Sl->St->Prop}{K:Bool->Prop}{Zk:St}(hQ:HF d Zk AV.b 4 Q K){σ:Sl}{st:St}
include hQ
variable {s0:List Zf}{f1:Nat × List AV}{br:Zm}
variable (H0:σ 0=.sl br (List.map Zf.row s0))(H1:σ 1=.fn f1.1 f1.2)(FR:Fr d (d,0) Zk.bx Zk.ow st.bx st.ow)
include H0 H1 FR in
theorem Yz2 (h:Zor PG K s0 f1):W PG d Ye5 σ st Q:=
 q_ J (m_ (e_ (q_ J (Yf H0 (m_ (h.elim fun _ c=>Gs (Zz J (Zz H1 Yq)) (c.1 _) (fun _ e=>b_ J J Gd (m_ (Zr (hQ J (Fr.raw FR e) c.2))))))))))
end
theorem Yj5 {PG:Zb}(hf:PG.fn 232=some Zfy){s0:List Zf}{f1:Nat × List AV}{K:Bool->Prop}(h:Zor PG K s0 f1)(br:Zm):Ym PG 232 [.sl br (List.map Zf.row s0),.fn f1.1 f1.2] (fun r=>∃aa:Bool,(r=.b aa)/\K aa):=
 PF hf J J fun d st Q q=>Yz2 q J J Fr.refl h
end Go.AM
