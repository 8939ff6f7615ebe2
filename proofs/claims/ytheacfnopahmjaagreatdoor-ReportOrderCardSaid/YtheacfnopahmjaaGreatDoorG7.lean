/- The statement ReportOrder: for every input the law returns true, and each argument reads afterwards as before. No conditions. -/
import Derived.Test.YtheacfnopahmjaaGreatDoorG6
import Derived.Test.YtheacfnopahmjaaGreatDoorG5
import Derived.Test.YtheacfnopahmjaaGreatDoorG4
import Derived.Test.YtheacfnopahmjaaGreatDoorG2
import Derived.Test.YtheacfnopahmjaaGreatDoorTie
import Derived.Test.YtheacfnopahmjaaGreatDoorCards
import Derived.SevenTiedAt
set_option linter.all false
/- Yg of the proof. -/
namespace Go.AM
open Go
theorem Znw (p:Zd) (v:Nat) :∀(k:Nat) (s:Zd),(Lib.splitK p v k s).length<=k+1
 | 0,_=>Nat.le_refl _
 | k+1,s=>by
  unfold Lib.splitK
  split
  ·simp
  ·have:=Znw p v k (s.drop ((Lib.index s p).toNat+p.length))
   simp only [List.length_cons];omega
theorem Zlr (p:Zd) :∀(k:Nat) (s x:Zd),x∈Lib.splitK p 0 k s->x.length<=s.length
 | 0,s,x,h=>by
  simp only [Lib.splitK,List.mem_singleton] at h
  rw [h];exact Nat.le_refl _
 | k+1,s,x,h=>by
  unfold Lib.splitK at h
  split at h
  ·rw [List.mem_singleton.1 h];exact Nat.le_refl _
  ·rcases List.mem_cons.1 h with rfl | h
   ·simp;omega
   ·have:=Zlr p k _ x h
    simp at this
    omega
noncomputable def Ff (a b:Zi):Bool:=@decide (a=b) (Classical.propDecidable _)
theorem Zpa {v w:Zi}:Ff v w=true↔v=w:=by unfold Ff;simp
theorem Yh6 {v w:Zi}:Ff v w=false↔v≠w:=by rw [<- Bool.not_eq_true,Zpa]
noncomputable def Fe (a b:Zt):Bool:=@decide (a=b) (Classical.propDecidable _)
theorem Zu9 {v w:Zt}:Fe v w=true↔v=w:=by unfold Fe;simp
theorem Wf3 {v w:Zt}:Fe v w=false↔v≠w:=by rw [<- Bool.not_eq_true,Zu9]
noncomputable def Ln (a b:List Zh):Bool:=@decide (a=b) (Classical.propDecidable _)
theorem Zh8 {v w:List Zh}:Ln v w=true↔v=w:=by unfold Ln;simp
theorem Xt3 {v w:List Zh}:Ln v w=false↔v≠w:=by rw [<- Bool.not_eq_true,Zh8]
section
variable {PG:Za}
theorem Xru (H:HasD PG) {m:Ze} (hm:Wd m) {s:Zd} (hs:s.length<=1000000) :∃d b,Zf PG 318 [m.av,.s s] (.tup [Zr.av d,.b b])/\(b=true->Gm m s=some d)/\(b=false->Gm m s=none):=by
 obtain ⟨x,y,⟨h1,h2⟩,h⟩:=Wmx H.f318 (m0:=m) (s1:=s) (K:=fun x y=>(y=true->Gm m s=some x)/\(y=false->Gm m s=none)) (by
  have no :∀{d:Zr},Gm m s=none->(Eq false true->Gm m s=some d)/\(Eq false false->Gm m s=none):=fun h=>⟨fun h=>(by cases h),fun _=>h⟩
  unfold Zk2 Zk7 Zsd
  refine ⟨_,Xtx H (by omega),?_⟩
  have hl:(Lib.splitN s [32] 4).length<=4:=Nat.le_trans (Znw _ _ _ _) (by omega)
  have hmm :∀x∈Lib.splitN s [32] 4,x.length<=1000000:=fun x hx=>Nat.le_trans (Zlr _ _ _ _ hx) hs
  unfold Zkv
  generalize hw:Lib.splitN s [32] 4=w at hl hmm
  refine ⟨fun h=>no ?_,fun h=>?_⟩
  ·unfold Gm;rw [hw]
   match w,h with
   | [],_=>rfl
   | [_],_=>rfl
   | [_,_],_=>rfl
   | [_,_,_],_=>rfl
   | _::_::_::_::r,h=>exact absurd h (by simp only [List.length_cons];omega)
  match w,hl,h,hw,hmm with
  | [],_,h,_,_=>exact absurd (by simp only [List.length_cons,List.length_nil];omega) h
  | [_],_,h,_,_=>exact absurd (by simp only [List.length_cons,List.length_nil];omega) h
  | [_,_],_,h,_,_=>exact absurd (by simp only [List.length_cons,List.length_nil];omega) h
  | [_,_,_],_,h,_,_=>exact absurd (by simp only [List.length_cons,List.length_nil];omega) h
  | _::_::_::_::_::r,hl,_,_,_=>simp only [List.length_cons] at hl;omega
  | [z,a,b,c],_,_,hw,hmm=>
  have e:Gm m s=Bs m a b c:=by unfold Gm;rw [hw]
  have hc:c.length<=1000000:=hmm c (by simp)
  rw [e] at no ⊢
  unfold Zn4 Zp7
  refine ⟨a,rfl,_,_,Zgc H a,?_⟩
  unfold Zng
  refine ⟨b,rfl,_,_,Zgc H b,?_⟩
  unfold Zmt
  refine ⟨fun h=>no ?_,fun h1=>⟨fun h=>no ?_,fun h2=>⟨fun h=>no ?_,fun h3=>⟨fun h=>no ?_,fun h4=>?_⟩⟩⟩⟩
  ·unfold Bs;rw [if_pos (.inl (by simpa using h))]
  ·unfold Bs;rw [if_pos (.inr (.inl (by simpa using h)))]
  ·unfold Bs;rw [if_pos (.inr (.inr (.inl h)))]
  ·unfold Bs;rw [if_pos (.inr (.inr (.inr h)))]
  have h1:(Wj a).2=0:=by simpa using h1
  have h2:(Wj b).2=0:=by simpa using h2
  simp only at h3 h4
  have hn:(Wj b).1.toNat<m.funcs.length:=by omega
  have hcnd:¬ ((Wj a).2≠0\/(Wj b).2≠0\/(Wj b).1<0\/(m.funcs.length:Int)<=(Wj b).1):=by omega
  have hq:Nv (m.funcs[(Wj b).1.toNat]).name=(quo (Qq m (Wj b).1),0):=by
   have:=(hm.f _ (List.getElem_mem hn)).1
   unfold Nv Qq
   rw [if_neg (by omega),List.getElem?_eq_getElem hn,Option.getD_some]
  unfold Zq3
  refine ⟨by simp only;omega,_,List.getElem?_eq_getElem hn,_,_,c11 H.toHas03 _,c,rfl,_,_,Fx H.toHas03 _ _,?_⟩
  rw [hq]
  refine ⟨fun h=>absurd rfl h,fun _=>⟨fun h=>no ?_,fun h=>?_⟩⟩
  ·unfold Bs;rw [if_neg hcnd,if_pos (by simpa using h)]
  have hcut:¬ (Zp (quo (Qq m (Wj b).1)) c).2=false:=by simpa using h
  have e2:Bs m a b c=Cw (Wj a).1 (Wj b).1 (Zp (quo (Qq m (Wj b).1)) c).1:=by unfold Bs;rw [if_neg hcnd,if_neg hcut]
  rw [e2] at no ⊢
  have hr:(Zp (quo (Qq m (Wj b).1)) c).1.length<=1000000:=by unfold Zp;split<;>simp<;>omega
  generalize (Zp (quo (Qq m (Wj b).1)) c).1=r at no hr
  unfold Zux
  refine ⟨fun h=>?_,fun h=>⟨_,Ylh H r Pd (by decide),_,_,c74 H.toHas38 ?_,?_,?_⟩⟩
  ·unfold Cw;rw [if_pos h];exact ⟨fun _=>rfl,fun h=>by cases h⟩
  ·unfold Zp;split<;>simp<;>omega
  ·intro h3
   have h3:=of_decide_eq_true h3
   unfold Cw;rw [if_neg h,if_pos h3]
  ·intro h3
   have h3:=of_decide_eq_false h3
   unfold Cw;rw [if_neg h,if_neg h3])
 exact ⟨x,y,h,h1,h2⟩
theorem Ys3 (H:HasQ PG) {a b:List Zh} (hl:a.length<=9223372036854775807) (hw :∀p∈a,Wf p.value):Zf PG 170 [.sl .ext (a.map Zh.row),.sl .ext (b.map Zh.row)] (.b (Ln a b)):=by
 obtain ⟨x,rfl,h⟩:=Xfm H.f170 (a0:=a) (b1:=b) (K:=fun x=>x=Ln a b) (by
  have no :∀{p:Prop},(a=b->p)->¬p->false=Ln a b:=fun h1 h2=>(Xt3.2 fun h=>h2 (h1 h)).symm
  unfold Zsa
  refine ⟨fun h=>no (fun e=>by rw [e]) h,fun h P hP=>?_⟩
  have h5:a.length=b.length:=by omega
  refine Uh (P:=P) a.length (fun i=>a.take i=b.take i) (by simp) (fun hI=>hP _ ?_) (fun i hi hI ihP=>hP _ ?_)
  ·unfold Zei Zm9
   refine ⟨fun h=>absurd h (by omega),fun _=>?_⟩
   rw [List.take_length,h5,List.take_length] at hI
   exact (Zh8.2 hI).symm
  ·have hi2:i<b.length:=by omega
   unfold Zei
   refine ⟨fun _=>⟨by omega,_,Xb hi,by omega,_,Xb hi2,_,Wfe H.toHasP (hw _ (List.getElem_mem hi)),fun h7=>no (p:=a[i]=b[i]) (fun e=>by subst e;rfl) (fun e=>by rw [Ypc.2 e] at h7;cases h7),fun h7=>?_⟩,fun h=>absurd (show (i:Int)<a.length by omega) h⟩
   rw [Yv (by omega) (by omega)]
   refine ihP ?_
   have e:a[i]=b[i]:=Ypc.1 (by simpa using h7)
   rw [List.take_succ_eq_append_getElem hi,List.take_succ_eq_append_getElem hi2,hI,e])
 exact h
theorem Wdy (H:HasT PG) (hf:PG.fn 314=some Lh) {a b:Zi} (ha:Zb0 a):Zf PG 314 [a.av,b.av] (.b (Ff a b)):=by
 obtain ⟨x,rfl,h⟩:=Wic hf (a0:=a) (b1:=b) (K:=fun x=>x=Ff a b) (by
  have no :∀{p:Prop},(a=b->p)->¬p->false=Ff a b:=fun h1 h2=>(Yh6.2 fun h=>h2 (h1 h)).symm
  have hfl:=ha.fl;have hdl:=ha.dl
  unfold Zms Zj4
  refine ⟨fun h=>no (fun e=>by rw [e]) h,fun e1=>⟨fun h=>no (fun e=>by rw [e]) h,fun e2=>⟨fun h=>no (fun e=>by rw [e]) h,fun e3=>⟨fun h=>no (fun e=>by rw [e]) h,fun e4=>⟨_,Ys3 H.toHasQ ha.pl fun p hp=>(ha.p p hp).v,fun h=>no (p:=a.panics=b.panics) (fun e=>by rw [e]) (fun e=>by rw [Zh8.2 e] at h;cases h),fun e5=>?_⟩⟩⟩⟩⟩
  have e5:a.panics=b.panics:=Zh8.1 (by simpa using e5)
  unfold Zo2
  intro P hP
  refine Uh (P:=P) a.frames.length (fun i=>a.frames.take i=b.frames.take i) (by simp) (fun hI=>hP _ ?_) (fun i hi hI ihP=>hP _ ?_)
  ·unfold Zg4 Zsp
   refine ⟨fun h=>absurd h (by omega),fun _ P hP=>?_⟩
   have e3':a.frames.length=b.frames.length:=by omega
   rw [List.take_length,e3',List.take_length] at hI
   refine Uh (P:=P) a.defers.length (fun i=>a.defers.take i=b.defers.take i) (by simp) (fun hJ=>hP _ ?_) (fun i hi hJ ihP=>hP _ ?_)
   ·unfold Zci Zsf
    refine ⟨fun h=>absurd h (by omega),fun _=>?_⟩
    have e4':a.defers.length=b.defers.length:=by omega
    rw [List.take_length,e4',List.take_length] at hJ
    refine (Zpa.2 ?_).symm
    have e1:=Decidable.not_not.1 e1
    have e2:=Decidable.not_not.1 e2
    cases a;cases b
    simp only at e1 e2 e5 hI hJ
    rw [e1,e2,e5,hI,hJ]
   ·have hi2:i<b.defers.length:=by omega
    unfold Zci
    refine ⟨fun _=>⟨by omega,_,Xb hi,by omega,_,Xb hi2,fun h=>no (p:=a.defers[i].frame=b.defers[i].frame) (fun e=>by subst e;rfl) h,fun h1=>⟨fun h=>no (p:=a.defers[i].func=b.defers[i].func) (fun e=>by subst e;rfl) h,fun h2=>⟨fun h=>no (p:=a.defers[i].hasArg=b.defers[i].hasArg) (fun e=>by subst e;rfl) h,fun h3=>⟨_,c78 H.toHas38 (ha.d _ (List.getElem_mem hi)) _,fun h=>no (p:=a.defers[i].arg=b.defers[i].arg) (fun e=>by subst e;rfl) (Ec.1 (by simpa using h)),fun h4=>?_⟩⟩⟩⟩,fun h=>absurd (show (i:Int)<a.defers.length by omega) h⟩
    rw [Yv (by omega) (by omega)]
    refine ihP ?_
    have e:a.defers[i]=b.defers[i]:=by
     have h1:=Decidable.not_not.1 h1
     have h2:=Decidable.not_not.1 h2
     have h3:=Decidable.not_not.1 h3
     have h4:=Ri.1 (show Rg _ _=true by simpa using h4)
     revert h1 h2 h3 h4
     generalize a.defers[i]=x
     generalize b.defers[i]=y
     intro h1 h2 h3 h4
     cases x;cases y
     simp only at h1 h2 h3 h4
     rw [h1,h2,h3,h4]
    rw [List.take_succ_eq_append_getElem hi,List.take_succ_eq_append_getElem hi2,hJ,e]
  ·have hi2:i<b.frames.length:=by omega
   unfold Zg4
   refine ⟨fun _=>⟨by omega,_,Xb hi,by omega,_,Xb hi2,_,c88 H.toHasF (ha.f _ (List.getElem_mem hi)),fun h=>no (p:=a.frames[i]=b.frames[i]) (fun e=>by subst e;rfl) (Yqw.1 (by simpa using h)),fun h=>?_⟩,fun h=>absurd (show (i:Int)<a.frames.length by omega) h⟩
   rw [Yv (by omega) (by omega)]
   refine ihP ?_
   have e:a.frames[i]=b.frames[i]:=Zvs.1 (by simpa using h)
   rw [List.take_succ_eq_append_getElem hi,List.take_succ_eq_append_getElem hi2,hI,e])
 exact h
theorem Wsw (H:HasT PG) (hf:PG.fn 314=some Lh) (hf2:PG.fn 302=some Aa) {a b:Zt} (ha:Fk a):Zf PG 302 [a.av,b.av] (.b (Fe a b)):=by
 obtain ⟨x,rfl,h⟩:=Wj1 hf2 (a0:=a) (b1:=b) (K:=fun x=>x=Fe a b) (by
  have no :∀{p:Prop},(a=b->p)->¬p->false=Fe a b:=fun h1 h2=>(Wf3.2 fun h=>h2 (h1 h)).symm
  have hl:=ha.n
  unfold Zmf
  refine ⟨fun h=>no (fun e=>by rw [e]) h,fun e1=>⟨fun h=>no (fun e=>by rw [e]) h,fun e2=>⟨fun h=>no (fun e=>by rw [e]) h,fun e3=>⟨fun h=>no (fun e=>by rw [e]) h,fun e4=>?_⟩⟩⟩⟩
  unfold Zsb
  intro P hP
  refine Uh (P:=fun i=>P i a b) a.routines.length (fun i=>a.routines.take i=b.routines.take i) (by simp) (fun hI=>hP _ _ _ ?_) (fun i hi hI ihP=>hP _ _ _ ?_)
  ·unfold Zgo Zrr
   refine ⟨fun h=>absurd h (by omega),fun _=>?_⟩
   have e4':a.routines.length=b.routines.length:=by omega
   rw [List.take_length,e4',List.take_length] at hI
   refine (Zu9.2 ?_).symm
   have e1:=Decidable.not_not.1 e1
   have e2:=Decidable.not_not.1 e2
   have e3:=Decidable.not_not.1 e3
   cases a;cases b
   simp only at e1 e2 e3 hI
   rw [e1,e2,e3,hI]
  ·have hi2:i<b.routines.length:=by omega
   unfold Zgo
   refine ⟨fun _=>⟨by omega,_,Xb hi,by omega,_,Xb hi2,_,Wdy H hf (ha.r _ (List.getElem_mem hi)),fun h=>no (p:=a.routines[i]=b.routines[i]) (fun e=>by subst e;rfl) (Yh6.1 (by simpa using h)),fun h=>?_⟩,fun h=>absurd (show (i:Int)<a.routines.length by omega) h⟩
   rw [Yv (by omega) (by omega)]
   refine ihP ?_
   have e:a.routines[i]=b.routines[i]:=Zpa.1 (by simpa using h)
   rw [List.take_succ_eq_append_getElem hi,List.take_succ_eq_append_getElem hi2,hI,e])
 exact h
end
end Go.AM

/- Yg of the proof. -/
namespace Go.AM
open Go
attribute [local irreducible] WO Ww Wx
set_option maxRecDepth 4000
def Jw (p:Zd):List Zd->Zd × Bool × List Zd
 | []=>([],false,[])
 | x::r=>if (Zp p x).2=true then (x,true,r) else ([],false,x::r)
def Rc (PG:Za):Prop:=∀(p:Zd) (d:Nat) (st:St) (k:Zq) (v:Nat) (l:List Zd),k.1<d->lk st.bx k=some (v,[.sl .ext (l.map Zv)])->
 ∃st',Fn PG d 305 [.s p,.p k v 0] st (.tup [.s (Jw p l).1,.b (Jw p l).2.1]) st'/\st'.ow=st.ow/\lk st'.bx k=some (v,[.sl .ext ((Jw p l).2.2.map Zv)])/\∀k':Zq,k'.1<d->k'≠k->lk st'.bx k'=lk st.bx k'
theorem Cr {bx:Wc} {d:Nat} {k:Zq} (hk:k.1<d):lk (bx.filter fun x=>x.1.1<d) k=lk bx k:=Oq hk
theorem Ygu {PG:Za} (H:HasD PG) (hf:PG.fn 305=some Au):Rc PG:=by
 intro p d st k v l hk hb
 have main:=Fn.of' (PG:=PG) (d:=d) (args:=[.s p,.p k v 0]) (st:=st) (K:=fun r st'=>r=.tup [.s (Jw p l).1,.b (Jw p l).2.1]/\st'.ow=st.ow/\lk st'.bx k=some (v,[.sl .ext ((Jw p l).2.2.map Zv)])/\∀k':Zq,k'.1<d->k'≠k->lk st'.bx k'=lk st.bx k') hf (Nat.le_of_ble_eq_true rfl) ?_
 ·obtain ⟨r,st',h1,rfl,h2⟩:=main
  exact ⟨st',h1,h2⟩
 -- nothing left of that kind: the result is ("",false)
 have no :∀{σ:Sl} {nx:Nat},Jw p l=([],false,l)->W PG d (.seq (.reg 2 Yhb) .ret) σ ⟨nx,st.bx,st.ow⟩ (Zl PG d Yqn (Rr d Au.res fun r st'=>r=.tup [.s (Jw p l).1,.b (Jw p l).2.1]/\st'.ow=st.ow/\lk st'.bx k=some (v,[.sl .ext ((Jw p l).2.2.map Zv)])/\∀k':Zq,k'.1<d->k'≠k->lk st'.bx k'=lk st.bx k')):=by
  intro σ nx hn
  rw [hn]
  refine q_ rfl (m_ (m_ (e_ (Nl ⟨_,rfl,rfl,rfl,?_,fun k' h1 h2=>?_⟩))))
  ·exact (Cr hk).trans hb
  ·exact Cr h1
 show W PG d Yrl (Wh [.s p,.p k v 0]) st _
 refine q_ rfl (m_ (m_ (e_ (Zk (q_ rfl (l_ rfl hb rfl rfl ?_))))))
 cases l with
 | nil=>
  refine Yo (l:=([]:List Zd)) (f:=Zv) rfl (Rl (a:=.i .i64 0) (b:=.i .i64 0) (v:=.b true) rfl rfl rfl (m_ ?_))
  refine Hh (b:=true) rfl rfl (Hh (b:=true) rfl rfl (Hh (b:=true) rfl rfl (Hh (b:=true) rfl rfl (Hh (b:=true) rfl rfl (Hh (b:=true) rfl rfl ?_)))))
  exact Hr rfl rfl (e_ (Yl rfl (no rfl)))
 | cons x r=>
  have hne:decide (((x::r).length:Int)=0)=false:=by simp;omega
  refine Yo (l:=x::r) (f:=Zv) rfl (Rl (a:=.i .i64 ((x::r).length:Int)) (b:=.i .i64 0) (v:=.b false) rfl rfl (by rw [Yca,hne]) (m_ ?_))
  refine Zc rfl (l_ rfl hb rfl rfl (Zc rfl (Wq (l:=x::r) (f:=Zv) rfl rfl (by decide) rfl rfl rfl (Zc rfl (Xk rfl rfl rfl (Zc rfl (m_ ?_)))))))
  refine Zc rfl (Yi (sc rfl rfl (sc rfl rfl sn)) (Wgh H x p) (Zc rfl (Xx rfl (Vf rfl rfl (e_ ?_)))))
  by_cases hc:(Zp p x).2=true
  ·have hn:Jw p (x::r)=(x,true,r):=by simp only [Jw,if_pos hc]
   rw [hn]
   refine Ur (show AV.b (!(Zp p x).2)=_ by rw [hc];rfl) (Yc ?_)
   refine q_ rfl (l_ rfl hb rfl rfl (Wq (l:=x::r) (f:=Zv) rfl rfl (by decide) rfl rfl rfl (Xk rfl rfl rfl (m_ (e_ ?_)))))
   refine q_ rfl (l_ rfl hb rfl rfl (Yef (l:=x::r) (f:=Zv) Nh rfl rfl (by decide) (by simp) (Ye rfl hb rfl rfl rfl (e_ ?_))))
   refine q_ rfl (m_ (m_ (m_ (e_ (Nl ⟨_,rfl,rfl,rfl,?_,fun k' h1 h2=>?_⟩)))))
   ·exact (Cr hk).trans Zj
   ·exact (Cr h1).trans (Gx (fun e=>h2 e.symm))
  ·have hn:Jw p (x::r)=([],false,x::r):=by simp only [Jw,if_neg hc]
   have hc:(Zp p x).2=false:=by simpa using hc
   exact Yl (show AV.b (!(Zp p x).2)=_ by rw [hc];rfl) (no hn)
end Go.AM

/- Yg of the proof. -/
namespace Go.AM
open Go
attribute [local irreducible] WO Ww Wx
set_option maxRecDepth 4000
set_option maxHeartbeats 1000000
set_option linter.unusedVariables false
def Jv (d:Nat) (kl kx:Zq) (bx:Wc) (ow:Xz) (bx':Wc) (ow':Xz):Prop:=
 (∀k':Zq,k'.1<d->k'≠kl->k'≠kx->lk bx' k'=lk bx k')/\(∀k':Zq,k'.1<d->lk ow' k'=lk ow k')
theorem Jv.app {S:List Nat} {d n site:Nat} {kl kx:Zq} {bx bx':Wc} {ow ow1 ow2:Xz} {o:Zn} (h:Jv d kl kx bx ow bx' ow1) (ha:Ql S d ow1 o n) (hw :∀k',some k'≠Kw o->k'≠(d,site)->lk ow2 k'=lk ow1 k'):Jv d kl kx bx ow bx' ow2:=by
 refine ⟨h.1,fun k' h1=>(hw k' ?_ ?_).trans (h.2 k' h1)⟩
 ·intro e
  cases o with
  | ext=>cases e
  | full=>cases e
  | id k v=>
   injection e with e
   subst e
   have:=(ha.2 _ _ rfl).1
   omega
 ·rintro rfl
  exact Nat.lt_irrefl _ h1
theorem Jv.here {d:Nat} {kl kx:Zq} {bx bx':Wc} {ow ow':Xz} {s:Nat} {a:Nat × List AV} (h:Jv d kl kx bx ow bx' ow'):Jv d kl kx bx ow (Yx bx' (d,s) a) ow':=
 ⟨fun k' h1 h2 h3=>(Gx (by rintro rfl;exact Nat.lt_irrefl _ h1)).trans (h.1 k' h1 h2 h3),h.2⟩
theorem Jv.setX {d:Nat} {kl kx:Zq} {bx bx':Wc} {ow ow':Xz} {a:Nat × List AV} (h:Jv d kl kx bx ow bx' ow'):Jv d kl kx bx ow (Yx bx' kx a) ow':=
 ⟨fun k' h1 h2 h3=>(Gx (fun e=>h3 e.symm)).trans (h.1 k' h1 h2 h3),h.2⟩
theorem Jv.next {d:Nat} {kl kx:Zq} {bx bx' bx2:Wc} {ow ow':Xz} (h:Jv d kl kx bx ow bx' ow') (c :∀k':Zq,k'.1<d+1->k'≠kl->lk bx2 k'=lk bx' k'):Jv d kl kx bx ow bx2 ow':=
 ⟨fun k' h1 h2 h3=>(c k' (Nat.lt_succ_of_lt h1) h2).trans (h.1 k' h1 h2 h3),h.2⟩
section
variable {PG:Za} {d id base i:Nat} {σ:Sl} {st:St} {K:Sl->St->Prop} {r:List AI} {t:Option Nat} {x y:Zu}
theorem Re {args:List Zu} {p:Zd} {k:Zq} {v:Nat} {l:List Zd} (hL:Rc PG) (hx:x.ev σ=.fn 305 [.p k v 0]) (hs:Vj σ args=[.s p]) (hk:k.1<d+1) (hb:lk st.bx k=some (v,[.sl .ext (l.map Zv)]))
  (h :∀(nx':Nat) (bx':Wc),lk bx' k=some (v,[.sl .ext ((Jw p l).2.2.map Zv)])->(∀k':Zq,k'.1<d+1->k'≠k->lk bx' k'=lk st.bx k')->WO PG d id base (i+1) r (Zx σ t (.tup [.s (Jw p l).1,.b (Jw p l).2.1])) ⟨nx',bx',st.ow⟩ K):WO PG d id base i (⟨t,.callv x args,none⟩::r) σ st K:=by
 refine Ug ?_
 obtain ⟨⟨nx',bx',ow'⟩,h1,h2,h3,h4⟩:=hL p (d+1) st k v l hk hb
 simp only at h2 h3 h4
 subst h2
 show Zb5 (x.ev σ) (Vj σ args) (fun g l=>WF PG (d+1) g l st _)
 rw [hx,hs]
 exact ⟨_,_,h1,h nx' bx' h3 h4⟩
end
abbrev xc (s k:Int) (o1 o2 o3:Zn) (fs:List Zg) (ds:List Zr) (ps:List Zh):List AV:=[.i .u8 s,.i .i64 k,.sl o1 (fs.map Zg.row),.sl o2 (ds.map Zr.row),.sl o3 (ps.map Zh.row)]
structure MB (d:Nat) (kl:Zq) (vl:Nat) (kx:Zq) (vx v0:Nat) (m:Ze) (s k:Int) (bx0:Wc) (ow0:Xz) (bx:Wc) (ow:Xz) (l:List Zd) (o1 o2 o3:Zn) (fs:List Zg) (ds:List Zr) (ps:List Zh):Prop where
 b0:lk bx (d,0)=some (v0,[.sl .ext (List.map Wz.row m.types),.sl .ext (List.map Zv m.texts),.sl .ext (List.map Zz.row m.funcs)])
 bl:lk bx kl=some (vl,[.sl .ext (l.map Zv)])
 bX:lk bx kx=some (vx,xc s k o1 o2 o3 fs ds ps)
 fr:Jv d kl kx bx0 ow0 bx ow
section
variable {PG:Za} {d:Nat} {kl:Zq} {vl:Nat} {kx:Zq} {vx v0:Nat} {m:Ze} {s k:Int} {bx0:Wc} {ow0:Xz} {bx:Wc} {ow:Xz} {l:List Zd} {o1 o2 o3:Zn} {fs:List Zg} {ds:List Zr} {ps:List Zh}
theorem MB.next {bx':Wc} {l':List Zd} (h:MB d kl vl kx vx v0 m s k bx0 ow0 bx ow l o1 o2 o3 fs ds ps) (hn:kl≠kx) (hl:kl.1<d) (hx:kx.1<d) (h1:lk bx' kl=some (vl,[.sl .ext (l'.map Zv)])) (h2 :∀k':Zq,k'.1<d+1->k'≠kl->lk bx' k'=lk bx k'):MB d kl vl kx vx v0 m s k bx0 ow0 bx' ow l' o1 o2 o3 fs ds ps:=
 ⟨(h2 (d,0) (Nat.lt_succ_self d) (by rintro rfl;exact Nat.lt_irrefl _ hl)).trans h.b0,h1,(h2 kx (by omega) (fun e=>hn e.symm)).trans h.bX,h.fr.next h2⟩
theorem MB.here {site:Nat} {a:Nat × List AV} (h:MB d kl vl kx vx v0 m s k bx0 ow0 bx ow l o1 o2 o3 fs ds ps) (hl:kl.1<d) (hx:kx.1<d) (hs:Nat.beq site 0=false):MB d kl vl kx vx v0 m s k bx0 ow0 (Yx bx (d,site) a) ow l o1 o2 o3 fs ds ps:=
 ⟨Zs hs h.b0,(Gx (by rintro rfl;exact Nat.lt_irrefl _ hl)).trans h.bl,(Gx (by rintro rfl;exact Nat.lt_irrefl _ hx)).trans h.bX,h.fr.here⟩
theorem MB.setX {o1' o2' o3':Zn} {fs':List Zg} {ds':List Zr} {ps':List Zh} (h:MB d kl vl kx vx v0 m s k bx0 ow0 bx ow l o1 o2 o3 fs ds ps) (hn:kl≠kx) (hx:kx.1<d):MB d kl vl kx vx v0 m s k bx0 ow0 (Yx bx kx (vx,xc s k o1' o2' o3' fs' ds' ps')) ow l o1' o2' o3' fs' ds' ps':=
 ⟨(Gx (by rintro rfl;exact Nat.lt_irrefl _ hx)).trans h.b0,(Gx (fun e=>hn e.symm)).trans h.bl,Zj,h.fr.setX⟩
theorem MB.app {S:List Nat} {n site:Nat} {ow2:Xz} {o:Zn} (h:MB d kl vl kx vx v0 m s k bx0 ow0 bx ow l o1 o2 o3 fs ds ps) (ha:Ql S d ow o n) (hw :∀k',some k'≠Kw o->k'≠(d,site)->lk ow2 k'=lk ow k'):MB d kl vl kx vx v0 m s k bx0 ow0 bx ow2 l o1 o2 o3 fs ds ps:=
 ⟨h.b0,h.bl,h.bX,h.fr.app ha hw⟩
end
abbrev S9:List Nat:=[24580]
abbrev SF:List Nat:=[40967]
abbrev SD:List Nat:=[65543]
abbrev SP:List Nat:=[94215]
theorem Ic {p x:Zd} {r:List Zd} (h:(Zp p x).2=true):Jw p (x::r)=(x,true,r):=by simp only [Jw,if_pos h]
theorem Se {p:Zd} {l:List Zd} (h :∀x r,l=x::r->(Zp p x).2=false):Jw p l=([],false,l):=by
 cases l with
 | nil=>rfl
 | cons x r=>simp only [Jw,if_neg (show ¬ (Zp p x).2=true by rw [h x r rfl];exact Bool.false_ne_true)]
theorem Zeq {p x:Zd} (h:(Zp p x).2=true):p.length<=x.length:=by
 unfold Zp at h
 split at h
 ·rename_i e
  have:=congrArg List.length e
  simp only [List.length_take] at this
  omega
 ·cases h
section
variable {PG:Za} {d:Nat} {kl:Zq} {vl:Nat} {kx:Zq} {vx v0:Nat} {m:Ze} {s k:Int} {bx0:Wc} {ow0:Xz}
theorem Wdd (hL:Rc PG) (hn:kl≠kx) (hl:kl.1<d) (hx:kx.1<d) {Q:AE->Sl->St->Prop} {fs:List Zg} {o1:Zn} :∀(r acc:List Zd) (σ:Sl) (nx:Nat) (bx:Wc) (ow:Xz) (o9:Zn),acc.length+r.length<=1000000->
  σ 1=.p kx vx 0->σ 2=.fn 305 [.p kl vl 0]->σ 3=.p (d,0) v0 0->σ 9=.sl o9 (acc.map Zv)->MB d kl vl kx vx v0 m s k bx0 ow0 bx ow r o1 .full .full fs [] []->Ql SF d ow o1 fs.length->Ql S9 d ow o9 acc.length->
  (∀(σ:Sl) (nx:Nat) (bx:Wc) (ow:Xz) (o9:Zn),σ 1=.p kx vx 0->σ 2=.fn 305 [.p kl vl 0]->σ 3=.p (d,0) v0 0->σ 9=.sl o9 ((acc++(Ka r).1).map Zv)->MB d kl vl kx vx v0 m s k bx0 ow0 bx ow (Ka r).2 o1 .full .full fs [] []->Ql SF d ow o1 fs.length->Q .normal σ ⟨nx,bx,ow⟩)->
  W PG d (.loop Ybx) σ ⟨nx,bx,ow⟩ (Zw 2 Q):=by
 intro r
 induction r with
 | nil=>
  intro acc σ nx bx ow o9 hlen h1 h2 h3 h9 hB hF hA hK
  refine W.loop (Yh (q_ rfl (m_ (Re (p:=t4) (l:=[]) hL h2 rfl (by omega) hB.bl fun nx' bx' hb1 hb2=>?_))))
  rw [Se (p:=t4) (l:=[]) (fun _ _ e=>by cases e)] at hb1 ⊢
  refine m_ (x_ rfl rfl (x_ rfl rfl (m_ (m_ (e_ ?_)))))
  refine Zk (q_ rfl (m_ (Xx (a:=false) rfl (e_ (Yl rfl (Vm ?_))))))
  refine hK _ _ _ _ o9 h1 h2 h3 ?_ (hB.next hn hl hx hb1 hb2) hF
  show σ 9=_
  rw [h9];simp [Ka]
 | cons x r ih=>
  intro acc σ nx bx ow o9 hlen h1 h2 h3 h9 hB hF hA hK
  refine W.loop (Yh (q_ rfl (m_ (Re (p:=t4) (l:=x::r) hL h2 rfl (by omega) hB.bl fun nx' bx' hb1 hb2=>?_))))
  by_cases hc:(Zp t4 x).2=true
  ·rw [Ic hc] at hb1 ⊢
   have h4:=Zeq hc
   have h4:4<=x.length:=h4
   have hB:=hB.next hn hl hx hb1 hb2
   simp only [List.length_cons] at hlen
   refine m_ (x_ rfl rfl (x_ rfl rfl (m_ (m_ (e_ ?_)))))
   refine Zk (q_ rfl (m_ (Xx (a:=true) rfl (e_ (Ur rfl (Yc ?_))))))
   refine W.reg0 rfl fun nx2 hnx=>?_
   refine Yf h9 (He (l:=x) rfl (Hb (l:=x) (n:=2) rfl rfl (by decide) (by simp;omega) ?_))
   refine Ja (f:=Zv) (l:=[x.drop 2]) rfl rfl (Xw rfl rfl rfl Vn) rfl ?_
   refine Qk (f:=Zv) (l:=acc) (m:=[x.drop 2]) Nh rfl rfl rfl hA.1 ⟨?_,?_⟩ rfl fun o' ow' a1 a2 a3=>?_
   ·simp only [List.length_cons,List.length_nil,Wt];omega
   ·simp only [List.length_cons,List.length_nil,Wt];omega
   refine m_ (e_ ?_)
   refine ih (acc++[x.drop 2]) _ _ _ _ o' (by simp only [List.length_append,List.length_cons,List.length_nil];omega) h1 h2 h3 rfl (hB.app hA a2) (hF.keep hA a2 rfl rfl) (hA.new a1 a3 rfl) ?_
   intro σ nx bx ow o9 g1 g2 g3 g9 gB gF
   refine hK σ nx bx ow o9 g1 g2 g3 ?_ ?_ gF
   ·rw [g9];simp [Ka,hc]
   ·have:(Ka (x::r)).2=(Ka r).2:=by simp [Ka,hc]
    rw [this];exact gB
  ·have hc:(Zp t4 x).2=false:=by simpa using hc
   rw [Se (p:=t4) (l:=x::r) (fun _ _ e=>by injection e with e1 e2;rw [<- e1];exact hc)] at hb1 ⊢
   refine m_ (x_ rfl rfl (x_ rfl rfl (m_ (m_ (e_ ?_)))))
   refine Zk (q_ rfl (m_ (Xx (a:=false) rfl (e_ (Yl rfl (Vm ?_))))))
   have e1:Ka (x::r)=([],x::r):=by simp [Ka,hc]
   rw [e1] at hK
   refine hK _ _ _ _ o9 h1 h2 h3 ?_ (hB.next hn hl hx hb1 hb2) hF
   show σ 9=_
   rw [h9];simp
theorem Zga :∀r:List Zd,(Ka r).1.length<=r.length/\(Ka r).2.length<=r.length/\∀x∈(Ka r).2,x∈r
 | []=>⟨Nat.le_refl _,Nat.le_refl _,fun x h=>h⟩
 | x::r=>by
  have ih:=Zga r
  unfold Ka
  split
  ·exact ⟨by simpa using ih.1,Nat.le_succ_of_le ih.2.1,fun y h=>List.mem_cons_of_mem _ (ih.2.2 y h)⟩
  ·exact ⟨Nat.zero_le _,Nat.le_refl _,fun y h=>h⟩
theorem Zna {k:Zq} {x:AV} (h:Nat.blt k.2 Wa=true):Mj k x=true:=by unfold Mj;rw [h];rfl
theorem Xrg (H:HasD PG) (hL:Rc PG) (hm:Wd m) (hn:kl≠kx) (hl:kl.1<d) (hx:kx.1<d) (hkx:Nat.blt kx.2 Wa=true) {Q:AE->Sl->St->Prop} :∀(n:Nat) (l:List Zd) (fs:List Zg) (σ:Sl) (nx:Nat) (bx:Wc) (ow:Xz) (o1:Zn),l.length<n->fs.length+l.length<=500000->
  σ 1=.p kx vx 0->σ 2=.fn 305 [.p kl vl 0]->σ 3=.p (d,0) v0 0->MB d kl vl kx vx v0 m s k bx0 ow0 bx ow l o1 .full .full fs [] []->Ql SF d ow o1 fs.length->
  (∀(σ:Sl) (nx:Nat) (bx:Wc) (ow:Xz),Qp m n l=none->σ 6=.b false->Jv d kl kx bx0 ow0 bx ow->Q .ret σ ⟨nx,bx,ow⟩)->
  (∀(σ:Sl) (nx:Nat) (bx:Wc) (ow:Xz) (o1:Zn) (z:List Zg × List Zd),Qp m n l=some z->σ 1=.p kx vx 0->σ 2=.fn 305 [.p kl vl 0]->σ 3=.p (d,0) v0 0->MB d kl vl kx vx v0 m s k bx0 ow0 bx ow z.2 o1 .full .full (fs++z.1) [] []->Q .normal σ ⟨nx,bx,ow⟩)->
  W PG d (.loop Yj7) σ ⟨nx,bx,ow⟩ (Zw 0 Q):=by
 intro n
 induction n with
 | zero=>intro l fs σ nx bx ow o1 h;omega
 | succ n ih=>
 intro l fs σ nx bx ow o1 hlen hsz h1 h2 h3 hB hA hF hK
 refine W.loop (Yh (q_ rfl (m_ (Re (p:=Nz) (l:=l) hL h2 rfl (by omega) hB.bl fun nx' bx' hb1 hb2=>?_))))
 by_cases hno :∀x r,l=x::r->(Zp Nz x).2=false
 ·rw [Se hno] at hb1 ⊢
  have hB:=hB.next hn hl hx hb1 hb2
  refine m_ (x_ rfl rfl (x_ rfl rfl (m_ (m_ (e_ ?_)))))
  refine Zk (q_ rfl (m_ (Xx (a:=false) rfl (e_ (Yl rfl (Vm ?_))))))
  refine hK _ _ _ _ o1 ([],l) ?_ h1 h2 h3 ?_
  ·cases l with
   | nil=>rfl
   | cons x r=>simp only [Qp,if_neg (show ¬ (Zp Nz x).2=true by rw [hno x r rfl];exact Bool.false_ne_true)]
  ·simpa using hB
 cases l with
 | nil=>exact absurd (fun _ _ e=>by cases e) hno
 | cons x r=>
 have hc:(Zp Nz x).2=true:=by
  by_cases h:(Zp Nz x).2=true
  ·exact h
  ·exact absurd (fun y s e=>by injection e with e1 e2;rw [<- e1];simpa using h) hno
 rw [Ic hc] at hb1 ⊢
 have h4:3<=x.length:=Zeq hc
 have hB:=hB.next hn hl hx hb1 hb2
 simp only [List.length_cons] at hlen hsz
 have hs:=Zga r
 refine m_ (x_ rfl rfl (x_ rfl rfl (m_ (m_ (e_ ?_)))))
 refine Zk (q_ rfl (m_ (Xx (a:=true) rfl (e_ (Ur rfl (Yc ?_))))))
 refine q_ rfl (He (l:=x) rfl (Hb (l:=x) (n:=2) rfl rfl (by decide) (by simp;omega) (Ja (f:=Zv) (l:=[x.drop 2]) rfl rfl (Xw rfl rfl rfl Vn) rfl (m_ (e_ ?_)))))
 refine Zk (Yh (Wdd (v0:=v0) (m:=m) (s:=s) (k:=k) (bx0:=bx0) (ow0:=ow0) (fs:=fs) (o1:=o1) hL hn hl hx r [x.drop 2] _ _ _ _ .full (by simp only [List.length_cons,List.length_nil];omega) h1 h2 h3 rfl hB hA Ql.full ?_))
 intro σ nx bx ow o9 h1 h2 h3 h9 hB hA
 show W PG d Yll σ _ _
 generalize hls:([x.drop 2]++(Ka r).1)=ls at h9
 have hls':x.drop 2::(Ka r).1=ls:=hls
 have hll:ls.length<=1000000:=by rw [<- hls];simp only [List.length_append,List.length_cons,List.length_nil];omega
 have hcall:=c84 H.toHasG hm (l:=ls) (by omega)
 have hfr:Qp m (n+1) (x::r)=if (Ks m ls).2.2=0 then (Qp m n (Ka r).2).map fun z=>((Ks m ls).2.1::z.1,z.2) else none:=by
  conv=>lhs;unfold Qp
  rw [if_pos hc,hls']
 rw [hfr] at hF hK
 generalize hrf:Ks m ls=R at hcall hF hK
 obtain ⟨ra,F,re⟩:=R
 simp only at hcall hF hK
 refine Zk (W.reg ?_)
 change WO PG d 7 nx 0 Zmu σ ⟨nx+Zmu.length,Yx bx (d,28679) (nx+7,[.i .i64 0,.i .i64 0,.i .u64 0,.sl .full []]),ow⟩ _
 have hB:=hB.here (site:=28679) (a:=(nx+7,[.i .i64 0,.i .i64 0,.i .u64 0,.sl .full []])) hl hx rfl
 refine l_ (w:=m.av) h3 hB.b0 rfl rfl (Yf (f:=Zv) (l:=ls) (o:=o9) h9 (Yi (sc rfl rfl (sc rfl rfl sn)) hcall ?_))
 refine m_ (x_ rfl rfl (x_ rfl rfl (x_ rfl rfl (Xy (m_ (Ye (w:=F.av) (cs':=F.row) rfl Zj rfl rfl rfl (m_ (e_ ?_))))))))
 have hB:=hB.here (site:=28679) (a:=(nx+7,F.row)) hl hx rfl
 refine Zk (q_ rfl (m_ (b_ (a:=.i .i64 re) (b:=.i .i64 0) rfl rfl Ws (e_ (Yj rfl (fun he=>?_) (fun he=>Yc ?_))))))
 ·refine q_ rfl (m_ (e_ (Nl ?_)))
  exact hF _ _ _ _ (by rw [if_neg he]) rfl hB.fr
 have he:=Decidable.not_not.1 he
 rw [if_pos he] at hF hK
 refine W.reg0 rfl fun nx2 hnx2=>?_
 refine m_ (m_ (Wp h1 (f_ rfl (l_ (w:=.sl o1 (fs.map Zg.row)) rfl hB.bX rfl rfl ?_))))
 refine l_ (w:=F.av) (k:=(d,28679)) (v:=nx+7) (cs:=F.row) (o:=0) rfl Zj rfl rfl ?_
 refine Ja (f:=Zg.row) (l:=[F]) rfl rfl (Xw (v:=F.av) (cs:=F.row) rfl rfl rfl Vn) rfl ?_
 refine Qk (f:=Zg.row) (l:=fs) (m:=[F]) Zg.row_len rfl rfl rfl hA.1 ⟨?_,?_⟩ rfl fun o' ow' a1 a2 a3=>?_
 ·simp only [List.length_cons,List.length_nil,Wt];omega
 ·simp only [List.length_cons,List.length_nil,Wt];omega
 have hB:=hB.app hA a2
 refine Wp (k:=kx) (v:=vx) (o:=0) h1 (f_ rfl (Ye (k:=kx) (v:=vx) (cs':=xc s k o' .full .full (fs++[F]) [] []) rfl hB.bX rfl rfl rfl (e_ ?_) (Zna hkx)))
 refine ih (Ka r).2 (fs++[F]) _ _ _ _ o' (by omega) (by simp only [List.length_append,List.length_cons,List.length_nil];omega) h1 h2 h3 (hB.setX hn hx) (hA.new a1 a3 rfl) ?_ ?_
 ·intro σ nx bx ow e g6 gF
  exact hF σ nx bx ow (by rw [e];rfl) g6 gF
 ·intro σ nx bx ow o1 z e g1 g2 g3 gB
  refine hK σ nx bx ow o1 (F::z.1,z.2) (by rw [e];rfl) g1 g2 g3 ?_
  simpa using gB
theorem Xym (H:HasD PG) (hL:Rc PG) (hm:Wd m) (hn:kl≠kx) (hl:kl.1<d) (hx:kx.1<d) (hkx:Nat.blt kx.2 Wa=true) {Q:AE->Sl->St->Prop} {o1:Zn} {fs:List Zg} :∀(l:List Zd) (ds:List Zr) (σ:Sl) (nx:Nat) (bx:Wc) (ow:Xz) (o2:Zn),ds.length+l.length<=500000->(∀y∈l,y.length<=1000000)->
  σ 1=.p kx vx 0->σ 2=.fn 305 [.p kl vl 0]->σ 3=.p (d,0) v0 0->MB d kl vl kx vx v0 m s k bx0 ow0 bx ow l o1 o2 .full fs ds []->Ql SD d ow o2 ds.length->
  (∀(σ:Sl) (nx:Nat) (bx:Wc) (ow:Xz),Ue m l=none->σ 6=.b false->Jv d kl kx bx0 ow0 bx ow->Q .ret σ ⟨nx,bx,ow⟩)->
  (∀(σ:Sl) (nx:Nat) (bx:Wc) (ow:Xz) (o2:Zn) (z:List Zr × List Zd),Ue m l=some z->σ 1=.p kx vx 0->σ 2=.fn 305 [.p kl vl 0]->MB d kl vl kx vx v0 m s k bx0 ow0 bx ow z.2 o1 o2 .full fs (ds++z.1) []->Q .normal σ ⟨nx,bx,ow⟩)->
  W PG d (.loop Ygz) σ ⟨nx,bx,ow⟩ (Zw 4 Q):=by
 intro l
 induction l with
 | nil=>
  intro ds σ nx bx ow o2 hsz hmx h1 h2 h3 hB hA hF hK
  refine W.loop (Yh (q_ rfl (m_ (Re (p:=Nd) (l:=[]) hL h2 rfl (by omega) hB.bl fun nx' bx' hb1 hb2=>?_))))
  rw [Se (p:=Nd) (l:=[]) (fun _ _ e=>by cases e)] at hb1 ⊢
  have hB:=hB.next hn hl hx hb1 hb2
  refine m_ (x_ rfl rfl (x_ rfl rfl (m_ (m_ (e_ ?_)))))
  refine Zk (q_ rfl (m_ (Xx (a:=false) rfl (e_ (Yl rfl (Vm ?_))))))
  exact hK _ _ _ _ o2 ([],[]) rfl h1 h2 (by simpa using hB)
 | cons x r ih=>
  intro ds σ nx bx ow o2 hsz hmx h1 h2 h3 hB hA hF hK
  refine W.loop (Yh (q_ rfl (m_ (Re (p:=Nd) (l:=x::r) hL h2 rfl (by omega) hB.bl fun nx' bx' hb1 hb2=>?_))))
  by_cases hc:(Zp Nd x).2=true
  ·rw [Ic hc] at hb1 ⊢
   have h4:8<=x.length:=Zeq hc
   have hxl:=hmx x List.mem_cons_self
   have hB:=hB.next hn hl hx hb1 hb2
   simp only [List.length_cons] at hsz
   refine m_ (x_ rfl rfl (x_ rfl rfl (m_ (m_ (e_ ?_)))))
   refine Zk (q_ rfl (m_ (Xx (a:=true) rfl (e_ (Ur rfl (Yc ?_))))))
   obtain ⟨D,b,hcall,hb1,hb2⟩:=Xru H hm (s:=x.drop 2) (by simp;omega)
   have hfr:Ue m (x::r)=(Gm m (x.drop 2)).bind fun d=>(Ue m r).map fun z=>(d::z.1,z.2):=by
    conv=>lhs;unfold Ue
    rw [if_pos hc]
   rw [hfr] at hF hK
   refine Zk (W.reg ?_)
   change WO PG d 13 _ 0 Yo7 _ ⟨_,Yx bx' (d,53255) (_,[.i .i64 0,.i .i64 0,.b false,.i .u8 0,.i .i64 0,.s [],.sl .full [],.b false]),ow⟩ _
   have hB2:=fun a=>hB.here (site:=53255) (a:=a) hl hx rfl
   refine l_ (w:=m.av) h3 (hB2 _).b0 rfl rfl (He (l:=x) rfl (Hb (l:=x) (n:=2) rfl rfl (by decide) (by simp;omega) (Yi (sc rfl rfl (sc rfl rfl sn)) hcall ?_)))
   refine m_ (x_ rfl rfl (x_ rfl rfl (Xy (Ye (w:=D.av) (cs':=D.row) rfl Zj rfl rfl rfl (m_ (e_ ?_))))))
   have hB3:=fun a b=>(hB2 a).here (site:=53255) (a:=b) hl hx rfl
   refine Zk (q_ rfl (m_ (Xx (a:=b) rfl (e_ (Xs rfl (fun he=>?_) (fun he=>Yc ?_))))))
   ·have he:b=false:=by simpa using he
    refine q_ rfl (m_ (e_ (Nl ?_)))
    exact hF _ _ _ _ (by rw [hb2 he];rfl) rfl (hB3 _ _).fr
   have he:b=true:=by simpa using he
   rw [hb1 he] at hF hK
   refine W.reg0 rfl fun nx2 hnx2=>?_
   refine m_ (m_ (Wp h1 (f_ rfl (l_ (w:=.sl o2 (ds.map Zr.row)) rfl (hB3 _ _).bX rfl rfl ?_))))
   refine l_ (w:=D.av) (k:=(d,53255)) (cs:=D.row) (o:=0) rfl Zj rfl rfl ?_
   refine Ja (f:=Zr.row) (l:=[D]) rfl rfl (Xw (v:=D.av) (cs:=D.row) rfl rfl rfl Vn) rfl ?_
   refine Qk (f:=Zr.row) (l:=ds) (m:=[D]) Zr.row_len rfl rfl rfl hA.1 ⟨?_,?_⟩ rfl fun o' ow' a1 a2 a3=>?_
   ·simp only [List.length_cons,List.length_nil,Wt];omega
   ·simp only [List.length_cons,List.length_nil,Wt];omega
   have hB:=fun a b=>(hB3 a b).app hA a2
   refine Wp (k:=kx) (v:=vx) (o:=0) h1 (f_ rfl (Ye (k:=kx) (v:=vx) (cs':=xc s k o1 o' .full fs (ds++[D]) []) rfl (hB _ _).bX rfl rfl rfl (e_ ?_) (Zna hkx)))
   refine ih (ds++[D]) _ _ _ _ o' (by simp only [List.length_append,List.length_cons,List.length_nil];omega) (fun y h=>hmx y (List.mem_cons_of_mem _ h)) h1 h2 h3 ((hB _ _).setX hn hx) (hA.new a1 a3 rfl) ?_ ?_
   ·intro σ nx bx ow e g6 gF
    exact hF σ nx bx ow (by rw [e];rfl) g6 gF
   ·intro σ nx bx ow o1 z e g1 g2 gB
    refine hK σ nx bx ow o1 (D::z.1,z.2) (by rw [e];rfl) g1 g2 ?_
    simpa using gB
  ·have hc:(Zp Nd x).2=false:=by simpa using hc
   rw [Se (p:=Nd) (l:=x::r) (fun _ _ e=>by injection e with e1 e2;rw [<- e1];exact hc)] at hb1 ⊢
   have hB:=hB.next hn hl hx hb1 hb2
   refine m_ (x_ rfl rfl (x_ rfl rfl (m_ (m_ (e_ ?_)))))
   refine Zk (q_ rfl (m_ (Xx (a:=false) rfl (e_ (Yl rfl (Vm ?_))))))
   refine hK _ _ _ _ o2 ([],x::r) ?_ h1 h2 (by simpa using hB)
   unfold Ue;rw [if_neg (by rw [hc];exact Bool.false_ne_true)]
theorem Wrn (H:HasD PG) (hL:Rc PG) (hn:kl≠kx) (hl:kl.1<d) (hx:kx.1<d) (hkx:Nat.blt kx.2 Wa=true) {Q:AE->Sl->St->Prop} {o1 o2:Zn} {fs:List Zg} {ds:List Zr} :∀(l:List Zd) (ps:List Zh) (σ:Sl) (nx:Nat) (bx:Wc) (ow:Xz) (o3:Zn),ps.length+l.length<=500000->(∀y∈l,y.length<=1000000)->
  σ 1=.p kx vx 0->σ 2=.fn 305 [.p kl vl 0]->MB d kl vl kx vx v0 m s k bx0 ow0 bx ow l o1 o2 o3 fs ds ps->Ql SP d ow o3 ps.length->
  (∀(σ:Sl) (nx:Nat) (bx:Wc) (ow:Xz),Us l=none->σ 6=.b false->Jv d kl kx bx0 ow0 bx ow->Q .ret σ ⟨nx,bx,ow⟩)->
  (∀(σ:Sl) (nx:Nat) (bx:Wc) (ow:Xz) (o3:Zn) (z:List Zh × List Zd),Us l=some z->σ 6=.b true->MB d kl vl kx vx v0 m s k bx0 ow0 bx ow z.2 o1 o2 o3 fs ds (ps++z.1)->Q .ret σ ⟨nx,bx,ow⟩)->
  W PG d (.loop Yc2) σ ⟨nx,bx,ow⟩ (Zw 6 Q):=by
 intro l
 induction l with
 | nil=>
  intro ps σ nx bx ow o3 hsz hmx h1 h2 hB hA hF hK
  refine W.loop (Yh (q_ rfl (m_ (Re (p:=t2) (l:=[]) hL h2 rfl (by omega) hB.bl fun nx' bx' hb1 hb2=>?_))))
  rw [Se (p:=t2) (l:=[]) (fun _ _ e=>by cases e)] at hb1 ⊢
  have hB:=hB.next hn hl hx hb1 hb2
  refine m_ (x_ rfl rfl (x_ rfl rfl (m_ (m_ (e_ ?_)))))
  refine Zk (q_ rfl (m_ (Xx (a:=false) rfl (e_ (Yl rfl (q_ rfl (m_ (e_ (Nl ?_)))))))))
  exact hK _ _ _ _ o3 ([],[]) rfl rfl (by simpa using hB)
 | cons x r ih=>
  intro ps σ nx bx ow o3 hsz hmx h1 h2 hB hA hF hK
  refine W.loop (Yh (q_ rfl (m_ (Re (p:=t2) (l:=x::r) hL h2 rfl (by omega) hB.bl fun nx' bx' hb1 hb2=>?_))))
  by_cases hc:(Zp t2 x).2=true
  ·rw [Ic hc] at hb1 ⊢
   have h4:2<=x.length:=Zeq hc
   have hxl:=hmx x List.mem_cons_self
   have hB:=hB.next hn hl hx hb1 hb2
   simp only [List.length_cons] at hsz
   refine m_ (x_ rfl rfl (x_ rfl rfl (m_ (m_ (e_ ?_)))))
   refine Zk (q_ rfl (m_ (Xx (a:=true) rfl (e_ (Ur rfl (Yc ?_))))))
   have hcall:=Xs2 H.toHasP (s:=x.drop 2) (by simp;omega)
   have hfr:Us (x::r)=if (Ua (x.drop 2)).2=0 then (Us r).map fun z=>((Ua (x.drop 2)).1::z.1,z.2) else none:=by
    conv=>lhs;unfold Us
    rw [if_pos hc]
   rw [hfr] at hF hK
   generalize Ua (x.drop 2)=R at hcall hF hK
   obtain ⟨P,re⟩:=R
   simp only at hcall hF hK
   refine Zk (W.reg ?_)
   change WO PG d 20 _ 0 Ybq _ ⟨_,Yx bx' (d,81926) (_,[.i .u64 0,.i .u8 0,.i .i64 0,.s [],.sl .full [],.b false,.i .u64 0]),ow⟩ _
   have hB2:=fun a=>hB.here (site:=81926) (a:=a) hl hx rfl
   refine He (l:=x) rfl (Hb (l:=x) (n:=2) rfl rfl (by decide) (by simp;omega) (Yi (sc rfl rfl sn) hcall ?_))
   refine m_ (x_ rfl rfl (x_ rfl rfl (Xy (Ye (w:=P.av) (cs':=P.row) rfl Zj rfl rfl rfl (m_ (e_ ?_))))))
   have hB3:=fun a b=>(hB2 a).here (site:=81926) (a:=b) hl hx rfl
   refine Zk (q_ rfl (m_ (b_ (a:=.i .i64 re) (b:=.i .i64 0) rfl rfl Ws (e_ (Yj rfl (fun he=>?_) (fun he=>Yc ?_))))))
   ·refine q_ rfl (m_ (e_ (Nl ?_)))
    exact hF _ _ _ _ (by rw [if_neg he]) rfl (hB3 _ _).fr
   have he:=Decidable.not_not.1 he
   rw [if_pos he] at hF hK
   refine W.reg0 rfl fun nx2 hnx2=>?_
   refine m_ (m_ (Wp h1 (f_ rfl (l_ (w:=.sl o3 (ps.map Zh.row)) rfl (hB3 _ _).bX rfl rfl ?_))))
   refine l_ (w:=P.av) (k:=(d,81926)) (cs:=P.row) (o:=0) rfl Zj rfl rfl ?_
   refine Ja (f:=Zh.row) (l:=[P]) rfl rfl (Xw (v:=P.av) (cs:=P.row) rfl rfl rfl Vn) rfl ?_
   refine Qk (f:=Zh.row) (l:=ps) (m:=[P]) Zh.row_len rfl rfl rfl hA.1 ⟨?_,?_⟩ rfl fun o' ow' a1 a2 a3=>?_
   ·simp only [List.length_cons,List.length_nil,Wt];omega
   ·simp only [List.length_cons,List.length_nil,Wt];omega
   have hB:=fun a b=>(hB3 a b).app hA a2
   refine Wp (k:=kx) (v:=vx) (o:=0) h1 (f_ rfl (Ye (k:=kx) (v:=vx) (cs':=xc s k o1 o2 o' fs ds (ps++[P])) rfl (hB _ _).bX rfl rfl rfl (e_ ?_) (Zna hkx)))
   refine ih (ps++[P]) _ _ _ _ o' (by simp only [List.length_append,List.length_cons,List.length_nil];omega) (fun y h=>hmx y (List.mem_cons_of_mem _ h)) h1 h2 ((hB _ _).setX hn hx) (hA.new a1 a3 rfl) ?_ ?_
   ·intro σ nx bx ow e g6 gF
    exact hF σ nx bx ow (by rw [e];rfl) g6 gF
   ·intro σ nx bx ow o1 z e g6 gB
    refine hK σ nx bx ow o1 (P::z.1,z.2) (by rw [e];rfl) g6 ?_
    simpa using gB
  ·have hc:(Zp t2 x).2=false:=by simpa using hc
   rw [Se (p:=t2) (l:=x::r) (fun _ _ e=>by injection e with e1 e2;rw [<- e1];exact hc)] at hb1 ⊢
   have hB:=hB.next hn hl hx hb1 hb2
   refine m_ (x_ rfl rfl (x_ rfl rfl (m_ (m_ (e_ ?_)))))
   refine Zk (q_ rfl (m_ (Xx (a:=false) rfl (e_ (Yl rfl (q_ rfl (m_ (e_ (Nl ?_)))))))))
   refine hK _ _ _ _ o3 ([],x::r) ?_ rfl (by simpa using hB)
   unfold Us;rw [if_neg (by rw [hc];exact Bool.false_ne_true)]
end
end Go.AM

/- Yg of the proof. -/
namespace Go.AM
open Go
attribute [local irreducible] WO Ww Wx
set_option maxRecDepth 4000
set_option maxHeartbeats 1000000
set_option linter.unusedVariables false
theorem Zvg {m:Ze} :∀(n:Nat) (l:List Zd) (z:List Zg × List Zd),Qp m n l=some z->z.2.length<=l.length/\∀x∈z.2,x∈l
 | 0,_,_,h=>by simp [Qp] at h
 | n+1,[],z,h=>by
  simp only [Qp,Option.some.injEq] at h
  subst h;exact ⟨Nat.le_refl _,fun x h=>h⟩
 | n+1,x::r,z,h=>by
  unfold Qp at h
  split at h
  ·split at h
   ·obtain ⟨y,h1,h2⟩:=Option.map_eq_some_iff.1 h
    have ih:=Zvg n _ _ h1
    have hs:=Zga r
    subst h2
    exact ⟨by simp only [List.length_cons];omega,fun q hq=>List.mem_cons_of_mem _ (hs.2.2 q (ih.2 q hq))⟩
   ·cases h
  ·simp only [Option.some.injEq] at h
   subst h;exact ⟨Nat.le_refl _,fun x h=>h⟩
theorem Zql {m:Ze} :∀(l:List Zd) (z:List Zr × List Zd),Ue m l=some z->z.2.length<=l.length/\∀x∈z.2,x∈l
 | [],z,h=>by
  simp only [Ue,Option.some.injEq] at h
  subst h;exact ⟨Nat.le_refl _,fun x h=>h⟩
 | x::r,z,h=>by
  unfold Ue at h
  split at h
  ·obtain ⟨d,_,h⟩:=Option.bind_eq_some_iff.1 h
   obtain ⟨y,h1,h2⟩:=Option.map_eq_some_iff.1 h
   have ih:=Zql r _ h1
   subst h2
   exact ⟨by simp only [List.length_cons];omega,fun q hq=>List.mem_cons_of_mem _ (ih.2 q hq)⟩
  ·simp only [Option.some.injEq] at h
   subst h;exact ⟨Nat.le_refl _,fun x h=>h⟩
theorem Zzc :∀(l:List Zd) (z:List Zh × List Zd),Us l=some z->z.2.length<=l.length/\∀x∈z.2,x∈l
 | [],z,h=>by
  simp only [Us,Option.some.injEq] at h
  subst h;exact ⟨Nat.le_refl _,fun x h=>h⟩
 | x::r,z,h=>by
  unfold Us at h
  split at h
  ·split at h
   ·obtain ⟨y,h1,h2⟩:=Option.map_eq_some_iff.1 h
    have ih:=Zzc r _ h1
    subst h2
    exact ⟨by simp only [List.length_cons];omega,fun q hq=>List.mem_cons_of_mem _ (ih.2 q hq)⟩
   ·cases h
  ·simp only [Option.some.injEq] at h
   subst h;exact ⟨Nat.le_refl _,fun x h=>h⟩
theorem Ygj {m:Ze} {l:List Zd} {z:List Zg × List Zr × List Zh × List Zd} (h:Qj m l=some z):z.2.2.2.length<=l.length/\∀x∈z.2.2.2,x∈l:=by
 obtain ⟨a,h1,h⟩:=Option.bind_eq_some_iff.1 h
 obtain ⟨b,h2,h⟩:=Option.bind_eq_some_iff.1 h
 obtain ⟨c,h3,h⟩:=Option.map_eq_some_iff.1 h
 subst h
 have s1:=Zvg _ _ _ h1
 have s2:=Zql _ _ h2
 have s3:=Zzc _ _ h3
 exact ⟨by simp only;omega,fun x hx=>s1.2 x (s2.2 x (s3.2 x hx))⟩
theorem Jv.out {d:Nat} {kl kx:Zq} {bx bx':Wc} {ow ow':Xz} (h:Jv d kl kx bx ow bx' ow'):Jv d kl kx bx ow (bx'.filter fun x=>x.1.1<d) ow':=
 ⟨fun k' h1 h2 h3=>(Cr h1).trans (h.1 k' h1 h2 h3),h.2⟩
def PuM (PG:Za) (m:Ze):Prop:=∀(d:Nat) (st:St) (kl:Zq) (vl:Nat) (kx:Zq) (vx:Nat) (s k:Int) (l:List Zd),kl≠kx->kl.1<d->kx.1<d->Nat.blt kx.2 Wa=true->
 lk st.bx kl=some (vl,[.sl .ext (l.map Zv)])->lk st.bx kx=some (vx,xc s k .full .full .full [] [] [])->l.length<=400000->(∀y∈l,y.length<=1000000)->
 ∃st' b,Fn PG d 309 [m.av,.p kx vx 0,.fn 305 [.p kl vl 0]] st (.b b) st'/\Jv d kl kx st.bx st.ow st'.bx st'.ow/\(Qj m l=none->b=false)/\
  ∀z,Qj m l=some z->b=true/\lk st'.bx kl=some (vl,[.sl .ext (z.2.2.2.map Zv)])/\∃o1 o2 o3,lk st'.bx kx=some (vx,xc s k o1 o2 o3 z.1 z.2.1 z.2.2.1)
theorem Wig {PG:Za} (H:HasD PG) (hL:Rc PG) (hf:PG.fn 309=some Zbl) {m:Ze} (hm:Wd m):PuM PG m:=by
 intro d st kl vl kx vx s k l hn hl hx hkx hbl hbx hlen hmx
 have main:=Fn.of' (PG:=PG) (d:=d) (args:=[m.av,.p kx vx 0,.fn 305 [.p kl vl 0]]) (st:=st) (K:=fun r st'=>∃b,r=.b b/\Jv d kl kx st.bx st.ow st'.bx st'.ow/\(Qj m l=none->b=false)/\
  ∀z,Qj m l=some z->b=true/\lk st'.bx kl=some (vl,[.sl .ext (z.2.2.2.map Zv)])/\∃o1 o2 o3,lk st'.bx kx=some (vx,xc s k o1 o2 o3 z.1 z.2.1 z.2.2.1)) hf (Nat.le_of_ble_eq_true rfl) ?_
 ·obtain ⟨r,st',h1,b,rfl,h2⟩:=main
  exact ⟨st',b,h1,h2⟩
 have no :∀(σ:Sl) (nx:Nat) (bx:Wc) (ow:Xz),Qj m l=none->σ 6=.b false->Jv d kl kx st.bx st.ow bx ow->Rr d Zbl.res (fun r st'=>∃b,r=.b b/\Jv d kl kx st.bx st.ow st'.bx st'.ow/\(Qj m l=none->b=false)/\
  ∀z,Qj m l=some z->b=true/\lk st'.bx kl=some (vl,[.sl .ext (z.2.2.2.map Zv)])/\∃o1 o2 o3,lk st'.bx kx=some (vx,xc s k o1 o2 o3 z.1 z.2.1 z.2.2.1)) .ret σ ⟨nx,bx,ow⟩:=by
  intro σ nx bx ow h1 h2 h3
  exact ⟨.b false,congrArg some h2,false,rfl,h3.out,fun _=>rfl,fun z hz=>by rw [h1] at hz;cases hz⟩
 show W PG d Yh1 (Wh [m.av,.p kx vx 0,.fn 305 [.p kl vl 0]]) st _
 refine q_ rfl (Vx (v:=m.av) rfl rfl (m_ (e_ ?_)))
 have hB:MB d kl vl kx vx st.nx m s k st.bx st.ow (Yx st.bx (d,0) (st.nx,m.av.cells)) st.ow l .full .full .full [] [] []:=
  ⟨Zj,(Gx (by rintro rfl;exact Nat.lt_irrefl _ hl)).trans hbl,(Gx (by rintro rfl;exact Nat.lt_irrefl _ hx)).trans hbx,Jv.here ⟨fun _ _ _ _=>rfl,fun _ _=>rfl⟩⟩
 refine Zk (Yh (Xrg H hL hm hn hl hx hkx (l.length+1) l [] _ _ _ _ .full (Nat.lt_succ_self _) (by simp only [List.length_nil];omega) rfl rfl rfl hB Ql.full ?_ ?_))
 ·intro σ nx bx ow e g6 gF
  exact no σ nx bx ow (by unfold Qj;rw [e];rfl) g6 gF
 intro σ nx bx ow o1 z e g1 g2 g3 hB
 have s1:=Zvg _ _ _ e
 show W PG d Ya4 σ _ _
 refine Zk (Yh (Xym H hL hm hn hl hx hkx z.2 [] _ _ _ _ .full (by simp only [List.length_nil];omega) (fun y hy=>hmx y (s1.2 y hy)) g1 g2 g3 hB Ql.full ?_ ?_))
 ·intro σ nx bx ow e2 g6 gF
  exact no σ nx bx ow (by unfold Qj;rw [e];simp only [Option.bind_some,e2];rfl) g6 gF
 intro σ nx bx ow o2 y e2 g1 g2 hB
 have s2:=Zql _ _ e2
 show W PG d Ygg σ _ _
 refine Yh (Wrn H hL hn hl hx hkx y.2 [] _ _ _ _ .full (by simp only [List.length_nil];omega) (fun u hu=>hmx u (s1.2 u (s2.2 u hu))) g1 g2 hB Ql.full ?_ ?_)
 ·intro σ nx bx ow e3 g6 gF
  exact no σ nx bx ow (by unfold Qj;rw [e];simp only [Option.bind_some,e2,e3];rfl) g6 gF
 intro σ nx bx ow o3 u e3 g6 hB
 have e4:Qj m l=some (z.1,y.1,u.1,u.2):=by unfold Qj;rw [e];simp only [Option.bind_some,e2,e3];rfl
 refine ⟨.b true,congrArg some g6,true,rfl,hB.fr.out,fun h=>(by rw [e4] at h;cases h),fun w hw=>?_⟩
 rw [e4] at hw
 injection hw with hw
 subst hw
 exact ⟨rfl,(Cr hl).trans hB.bl,o1,o2,o3,by simpa using (Cr hx).trans hB.bX⟩
end Go.AM

/- Yg of the proof. -/
namespace Go.AM
open Go
attribute [local irreducible] WO Ww Wx
set_option maxRecDepth 4000
set_option maxHeartbeats 1000000
set_option linter.unusedVariables false
theorem Ypi {m:Ze} :∀(n:Nat) (l:List Zd) (z:List Zg × List Zd),Qp m n l=some z->z.1.length+z.2.length<=l.length/\∀x∈z.1,Uo x
 | 0,_,_,h=>by simp [Qp] at h
 | n+1,[],z,h=>by
  simp only [Qp,Option.some.injEq] at h
  subst h;exact ⟨Nat.le_refl _,fun x h=>by cases h⟩
 | n+1,x::r,z,h=>by
  unfold Qp at h
  split at h
  ·split at h
   ·obtain ⟨y,h1,h2⟩:=Option.map_eq_some_iff.1 h
    have ih:=Ypi n _ _ h1
    have hs:=Zga r
    subst h2
    refine ⟨by simp only [List.length_cons];omega,fun q hq=>?_⟩
    rcases List.mem_cons.1 hq with rfl | hq
    ·exact Yzu _ _
    ·exact ih.2 q hq
   ·cases h
  ·simp only [Option.some.injEq] at h
   subst h;exact ⟨by simp,fun x h=>by cases h⟩
theorem Xby {m:Ze} {s:Zd} {d:Zr} (h:Gm m s=some d):Wf d.arg:=by
 unfold Gm at h
 split at h
 ·unfold Bs at h
  split at h
  ·cases h
  split at h
  ·cases h
  unfold Cw at h
  split at h
  ·injection h with h;subst h;exact Wf.zero
  split at h
  ·injection h with h;subst h;exact Zza _
  ·cases h
 ·cases h
theorem Zyd {m:Ze} :∀(l:List Zd) (z:List Zr × List Zd),Ue m l=some z->z.1.length+z.2.length<=l.length/\∀x∈z.1,Wf x.arg
 | [],z,h=>by
  simp only [Ue,Option.some.injEq] at h
  subst h;exact ⟨Nat.le_refl _,fun x h=>by cases h⟩
 | x::r,z,h=>by
  unfold Ue at h
  split at h
  ·obtain ⟨d,hd,h⟩:=Option.bind_eq_some_iff.1 h
   obtain ⟨y,h1,h2⟩:=Option.map_eq_some_iff.1 h
   have ih:=Zyd r _ h1
   subst h2
   refine ⟨by simp only [List.length_cons];omega,fun q hq=>?_⟩
   rcases List.mem_cons.1 hq with rfl | hq
   ·exact Xby hd
   ·exact ih.2 q hq
  ·simp only [Option.some.injEq] at h
   subst h;exact ⟨by simp,fun x h=>by cases h⟩
theorem Zzh :∀(l:List Zd) (z:List Zh × List Zd),Us l=some z->z.1.length+z.2.length<=l.length/\∀x∈z.1,Dg x
 | [],z,h=>by
  simp only [Us,Option.some.injEq] at h
  subst h;exact ⟨Nat.le_refl _,fun x h=>by cases h⟩
 | x::r,z,h=>by
  unfold Us at h
  split at h
  ·split at h
   ·rename_i he
    obtain ⟨y,h1,h2⟩:=Option.map_eq_some_iff.1 h
    have ih:=Zzh r _ h1
    subst h2
    refine ⟨by simp only [List.length_cons];omega,fun q hq=>?_⟩
    rcases List.mem_cons.1 hq with rfl | hq
    ·exact (Wqp he).2.1
    ·exact ih.2 q hq
   ·cases h
  ·simp only [Option.some.injEq] at h
   subst h;exact ⟨by simp,fun x h=>by cases h⟩
theorem Yta {m:Ze} {l:List Zd} {z:List Zg × List Zr × List Zh × List Zd} (h:Qj m l=some z):(z.1.length<=l.length/\∀x∈z.1,Uo x)/\(z.2.1.length<=l.length/\∀x∈z.2.1,Wf x.arg)/\z.2.2.1.length<=l.length/\∀x∈z.2.2.1,Dg x:=by
 obtain ⟨a,h1,h⟩:=Option.bind_eq_some_iff.1 h
 obtain ⟨b,h2,h⟩:=Option.bind_eq_some_iff.1 h
 obtain ⟨c,h3,h⟩:=Option.map_eq_some_iff.1 h
 subst h
 have s1:=Ypi _ _ _ h1
 have s2:=Zyd _ _ h2
 have s3:=Zzh _ _ h3
 exact ⟨⟨by simp only;omega,s1.2⟩,⟨by simp only;omega,s2.2⟩,by simp only;omega,s3.2⟩
theorem Xs9 {s:Zd}:0<=(Kn s).1.status/\-9223372036854775808<=(Kn s).1.key/\(Kn s).1.key<9223372036854775808:=by
 unfold Kn Ew
 repeat' split
 ·exact ⟨by decide,by decide,by decide⟩
 ·exact ⟨by show (0:Int)<=2;decide,Zyf _⟩
 ·exact ⟨by decide,by decide,by decide⟩
 ·exact ⟨by show (0:Int)<=3;decide,by show (-9223372036854775808:Int)<=0;decide,by show (0:Int)<9223372036854775808;decide⟩
theorem Ykf {m:Ze} :∀(n:Nat) (l:List Zd) (z:List Zi × List Zd),l.length<=1000000->Hk m n l=some z->z.1.length+z.2.length<=l.length/\∀x∈z.1,Qh x
 | 0,_,_,_,h=>by simp [Hk] at h
 | n+1,[],z,_,h=>by
  simp only [Hk,Option.some.injEq] at h
  subst h;exact ⟨Nat.le_refl _,fun x h=>by cases h⟩
 | n+1,x::r,z,hl,h=>by
  simp only [List.length_cons] at hl
  unfold Hk at h
  split at h
  ·split at h
   ·obtain ⟨a,ha,h⟩:=Option.bind_eq_some_iff.1 h
    obtain ⟨y,h1,h2⟩:=Option.map_eq_some_iff.1 h
    have w:=Yta ha
    have s:=Ygj ha
    have ih:=Ykf n _ _ (by omega) h1
    subst h2
    refine ⟨by simp only [List.length_cons];omega,fun q hq=>?_⟩
    rcases List.mem_cons.1 hq with rfl | hq
    ·have hk:=Xs9 (s:=x)
     exact ⟨hk.1,hk.2,w.1.2,w.2.1.2,w.2.2.2,by simp only;omega,by simp only;omega,by simp only;omega⟩
    ·exact ih.2 q hq
   ·cases h
  ·simp only [Option.some.injEq] at h
   subst h;exact ⟨by simp,fun x h=>by cases h⟩
theorem Wag (s:Zd):0<=(Bt s).1:=by
 unfold Bt
 split
 ·decide
 ·rename_i h
  simp only;omega
section
variable {PG:Za} {d id base i:Nat} {σ:Sl} {st:St} {K:Sl->St->Prop} {r:List AI} {t:Option Nat}
theorem Wht {args:List Zu} {m:Ze} {kl kx:Zq} {vl vx:Nat} {s k:Int} {l:List Zd} (hM:PuM PG m) (hs:Vj σ args=[m.av,.p kx vx 0,.fn 305 [.p kl vl 0]]) (hn:kl≠kx) (hl:kl.1<d+1) (hx:kx.1<d+1) (hkx:Nat.blt kx.2 Wa=true)
  (hbl:lk st.bx kl=some (vl,[.sl .ext (l.map Zv)])) (hbx:lk st.bx kx=some (vx,xc s k .full .full .full [] [] [])) (hlen:l.length<=400000) (hmx :∀y∈l,y.length<=1000000)
  (h :∀(nx':Nat) (bx':Wc) (ow':Xz) (b:Bool),Jv (d+1) kl kx st.bx st.ow bx' ow'->(Qj m l=none->b=false)->(∀z,Qj m l=some z->b=true/\lk bx' kl=some (vl,[.sl .ext (z.2.2.2.map Zv)])/\∃o1 o2 o3,lk bx' kx=some (vx,xc s k o1 o2 o3 z.1 z.2.1 z.2.2.1))->
   WO PG d id base (i+1) r (Zx σ t (.b b)) ⟨nx',bx',ow'⟩ K):WO PG d id base i (⟨t,.call true 309 args,none⟩::r) σ st K:=by
 refine Ug ?_
 obtain ⟨⟨nx',bx',ow'⟩,b,h1,h2,h3,h4⟩:=hM (d+1) st kl vl kx vx s k l hn hl hx hkx hbl hbx hlen hmx
 rw [Fg,hs]
 exact ⟨_,_,h1,h nx' bx' ow' b h2 h3 h4⟩
theorem Xe.call2 {o:Zn} {n:Nat} {kl kx:Zq} {bx bx2:Wc} {ow ow2:Xz} (h:Xe d ow o n) (c:Jv (d+1) kl kx bx ow bx2 ow2):Xe d ow2 o n:=by
 refine ⟨?_,h.2⟩
 cases o with
 | ext=>exact h.1
 | full=>exact h.1
 | id k v=>
  obtain ⟨e1,e2⟩:=h.2
  obtain ⟨a1,a2⟩:=h.1
  exact ⟨(c.2 k (by omega)).trans a1,a2⟩
end
abbrev Qr:List AV:=[.i .u8 0,.i .i64 0,.i .i64 0,.sl .full []]
abbrev Hm (a b c:Int) (o:Zn) (rs:List Zi):List AV:=[.i .u8 a,.i .i64 b,.i .i64 c,.sl o (rs.map Zi.row)]
structure RB (d v0 v4 v6 v10:Nat) (m:Ze) (a b c:Int) (bx:Wc) (l:List Zd) (o:Zn) (rs:List Zi):Prop where
 b0:lk bx (d,0)=some (v0,[.sl .ext (List.map Wz.row m.types),.sl .ext (List.map Zv m.texts),.sl .ext (List.map Zz.row m.funcs)])
 b4:lk bx (d,1)=some (v4,Qr)
 bl:lk bx (d,12290)=some (v6,[.sl .ext (l.map Zv)])
 bo:lk bx (d,24581)=some (v10,Hm a b c o rs)
section
variable {PG:Za} {d v0 v4 v6 v10:Nat} {m:Ze} {a b c:Int} {bx:Wc} {l:List Zd} {o:Zn} {rs:List Zi}
theorem Hv {d s s':Nat} (h:Nat.beq s s'=false):((d,s):Zq)≠(d,s'):=by
 intro e
 injection e with _ e
 rw [e,Nat.beq_refl] at h
 cases h
theorem RB.next {bx':Wc} {l':List Zd} (h:RB d v0 v4 v6 v10 m a b c bx l o rs) (h1:lk bx' (d,12290)=some (v6,[.sl .ext (l'.map Zv)])) (h2 :∀k':Zq,k'.1<d+1->k'≠(d,12290)->lk bx' k'=lk bx k'):RB d v0 v4 v6 v10 m a b c bx' l' o rs:=
 ⟨(h2 _ (Nat.lt_succ_self d) (Hv rfl)).trans h.b0,(h2 _ (Nat.lt_succ_self d) (Hv rfl)).trans h.b4,h1,(h2 _ (Nat.lt_succ_self d) (Hv rfl)).trans h.bo⟩
theorem RB.here {a':Nat × List AV} (h:RB d v0 v4 v6 v10 m a b c bx l o rs):RB d v0 v4 v6 v10 m a b c (Yx bx (d,45061) a') l o rs:=
 ⟨Zs rfl h.b0,Zs rfl h.b4,Zs rfl h.bl,Zs rfl h.bo⟩
theorem RB.call {bx':Wc} {ow ow':Xz} (h:RB d v0 v4 v6 v10 m a b c bx l o rs) (f:Fr (d+1) (d+1,0) bx ow bx' ow'):RB d v0 v4 v6 v10 m a b c bx' l o rs:=
 ⟨(f.1 _ (Nat.lt_succ_self d) Gc).trans h.b0,(f.1 _ (Nat.lt_succ_self d) Gc).trans h.b4,(f.1 _ (Nat.lt_succ_self d) Gc).trans h.bl,(f.1 _ (Nat.lt_succ_self d) Gc).trans h.bo⟩
theorem RB.mem {bx':Wc} {ow ow':Xz} {l':List Zd} (h:RB d v0 v4 v6 v10 m a b c bx l o rs) (f:Jv (d+1) (d,12290) (d,45061) bx ow bx' ow') (h1:lk bx' (d,12290)=some (v6,[.sl .ext (l'.map Zv)])):RB d v0 v4 v6 v10 m a b c bx' l' o rs:=
 ⟨(f.1 _ (Nat.lt_succ_self d) (Hv rfl) (Hv rfl)).trans h.b0,(f.1 _ (Nat.lt_succ_self d) (Hv rfl) (Hv rfl)).trans h.b4,h1,(f.1 _ (Nat.lt_succ_self d) (Hv rfl) (Hv rfl)).trans h.bo⟩
theorem RB.out {o':Zn} {rs':List Zi} (h:RB d v0 v4 v6 v10 m a b c bx l o rs):RB d v0 v4 v6 v10 m a b c (Yx bx (d,24581) (v10,Hm a b c o' rs')) l o' rs':=
 ⟨Zs rfl h.b0,Zs rfl h.b4,Zs rfl h.bl,Zj⟩
theorem Tt {id tz:Nat} {e:Int} {σ:Sl} {nx:Nat} {ow:Xz} {cs:List AV} {Q:AE->Sl->St->Prop} (h4:σ 4=.p (d,1) v4 0) (hz:Nat.beq 4 tz=false) (hb:lk bx (d,1)=some (v4,cs)) (hc:cs.length=4)
  (hQ :∀(σ:Sl) (nx:Nat) (bx:Wc),σ 4=.p (d,1) v4 0->σ 5=.i .i64 e->lk bx (d,1)=some (v4,Qr)->Q .ret σ ⟨nx,bx,ow⟩) :
  W PG d (.seq (.reg id [oO tz (.build Qr []),oS 4 4 tz,oC 5 (.i .i64 e)]) .ret) σ ⟨nx,bx,ow⟩ Q:=by
 refine q_ rfl (Wb Xr ?_)
 have e4:(Zx σ (some tz) (.ag Qr)) 4=.p (d,1) v4 0:=by
  show cond (Nat.beq 4 tz) _ _=_
  rw [hz];exact h4
 have ez:(Zx σ (some tz) (.ag Qr)) tz=.ag Qr:=by
  show cond (Nat.beq tz tz) _ _=_
  rw [Nat.beq_refl];rfl
 match cs,hc with
 | [c1,c2,c3,c5],_=>
  refine Ye (cs':=Qr) e4 hb ez rfl rfl (m_ (e_ (Nl (hQ _ _ _ ?_ rfl Zj))))
  exact e4
theorem Xg2 (H:HasD PG) (hL:Rc PG) (hM:PuM PG m) {s:Zd} {Q:AE->Sl->St->Prop} :∀(n:Nat) (l:List Zd) (rs:List Zi) (σ:Sl) (nx:Nat) (bx:Wc) (ow:Xz) (o:Zn),l.length<n->rs.length+l.length<=400000->(∀y∈l,y.length<=1000000)->
  σ 1=.s s->σ 2=.p (d,0) v0 0->σ 4=.p (d,1) v4 0->σ 7=.fn 305 [.p (d,12290) v6 0]->σ 10=.p (d,24581) v10 0->RB d v0 v4 v6 v10 m a b c bx l o rs->Xe d ow o rs.length->
  (∀(σ:Sl) (nx:Nat) (bx:Wc) (ow:Xz),Hk m n l=none->σ 4=.p (d,1) v4 0->σ 5=.i .i64 12->lk bx (d,1)=some (v4,Qr)->Q .ret σ ⟨nx,bx,ow⟩)->
  (∀(σ:Sl) (nx:Nat) (bx:Wc) (ow:Xz) (o:Zn) (z:List Zi × List Zd),Hk m n l=some z->σ 1=.s s->σ 2=.p (d,0) v0 0->σ 4=.p (d,1) v4 0->σ 10=.p (d,24581) v10 0->RB d v0 v4 v6 v10 m a b c bx z.2 o (rs++z.1)->Q .normal σ ⟨nx,bx,ow⟩)->
  W PG d (.loop Ydg) σ ⟨nx,bx,ow⟩ (Zw 0 Q):=by
 intro n
 induction n with
 | zero=>intro l rs σ nx bx ow o h;omega
 | succ n ih=>
 intro l rs σ nx bx ow o hlen hsz hmx h1 h2 h4 h7 h10 hB hA hF hK
 refine W.loop (Yh (q_ rfl (m_ (Re (p:=Rh) (l:=l) hL h7 rfl (Nat.lt_succ_self d) hB.bl fun nx' bx' hb1 hb2=>?_))))
 by_cases hno :∀x r,l=x::r->(Zp Rh x).2=false
 ·rw [Se hno] at hb1 ⊢
  have hB:=hB.next hb1 hb2
  refine m_ (x_ rfl rfl (x_ rfl rfl (m_ (m_ (e_ ?_)))))
  refine Zk (q_ rfl (m_ (Xx (a:=false) rfl (e_ (Yl rfl (Vm ?_))))))
  refine hK _ _ _ _ o ([],l) ?_ h1 h2 h4 h10 ?_
  ·cases l with
   | nil=>rfl
   | cons x r=>simp only [Hk,if_neg (show ¬ (Zp Rh x).2=true by rw [hno x r rfl];exact Bool.false_ne_true)]
  ·simpa using hB
 cases l with
 | nil=>exact absurd (fun _ _ e=>by cases e) hno
 | cons x r=>
 have hc:(Zp Rh x).2=true:=by
  by_cases h:(Zp Rh x).2=true
  ·exact h
  ·exact absurd (fun y s e=>by injection e with e1 e2;rw [<- e1];simpa using h) hno
 rw [Ic hc] at hb1 ⊢
 have hB:=hB.next hb1 hb2
 simp only [List.length_cons] at hlen hsz
 have hxl:=hmx x List.mem_cons_self
 have hrm :∀y∈r,y.length<=1000000:=fun y hy=>hmx y (List.mem_cons_of_mem _ hy)
 refine m_ (x_ rfl rfl (x_ rfl rfl (m_ (m_ (e_ ?_)))))
 refine Zk (q_ rfl (@fun nx1 _=>m_ (Xx (a:=true) rfl (e_ (Ur rfl (Yc ?_))))))
 have hfr:Hk m (n+1) (x::r)=if (Kn x).2=true then (Qj m r).bind fun a=>(Hk m n a.2.2.2).map fun z=>(⟨(Kn x).1.status,(Kn x).1.key,a.1,a.2.1,a.2.2.1⟩::z.1,z.2) else none:=by
  conv=>lhs;unfold Hk
  rw [if_pos hc]
 rw [hfr] at hF hK
 have hcall:=Xlt H (s:=x) hxl
 generalize Kn x=R at hcall hF hK
 obtain ⟨X,ok⟩:=R
 simp only at hcall hF hK
 refine Zk (W.reg ?_)
 change WO PG d 11 nx1 0 Yk2 _ ⟨_,Yx bx' (d,45061) (nx1+5,[.i .u8 0,.i .i64 0,.sl .full [],.sl .full [],.sl .full []]),ow⟩ _
 refine m_ (Hf rfl hcall fun st' hfr'=>?_)
 have hB:=(hB.here (a':=(nx1+5,[.i .u8 0,.i .i64 0,.sl .full [],.sl .full [],.sl .full []]))).call hfr'
 have hA:=hA.call hfr'
 have hbx:=(hfr'.1 (d,45061) (Nat.lt_succ_self d) Gc).trans Zj
 clear hfr' hb1 hb2
 obtain ⟨nx',bx',ow'⟩:=st'
 simp only at hB hA hbx
 refine m_ (x_ rfl rfl (x_ rfl rfl (Xy (Ye (w:=.ag (xc X.status X.key .full .full .full [] [] [])) (cs':=xc X.status X.key .full .full .full [] [] []) rfl hbx rfl rfl rfl (m_ (e_ ?_))))))
 have hB:=hB.here (a':=(nx1+5,xc X.status X.key .full .full .full [] [] []))
 refine Zk (q_ rfl (m_ (Xx (a:=ok) rfl (m_ ?_))))
 cases ok with
 | false=>
  refine Hh (b:=true) rfl rfl (Hh (b:=true) rfl rfl (Hh (b:=true) rfl rfl (Hh (b:=true) rfl rfl (Hr rfl rfl (e_ (Yl rfl ?_))))))
  refine Tt (tz:=61) h4 rfl hB.b4 rfl fun σ nx bx g4 g5 gb=>?_
  exact hF σ nx bx _ rfl g4 g5 gb
 | true=>
  rw [if_pos rfl] at hF hK
  refine Zc rfl (l_ (w:=m.av) h2 hB.b0 rfl rfl (Zc rfl (Vo h7 (Zc rfl (Wht (l:=r) hM rfl (Hv rfl) (Nat.lt_succ_self d) (Nat.lt_succ_self d) rfl hB.bl Zj (by omega) hrm fun nx2 bx2 ow2 bb hf2 hm1 hm2=>?_)))))
  refine Zc rfl (Xx (a:=bb) rfl (Vf rfl rfl (e_ ?_)))
  cases hmr:Qj m r with
  | none=>
   have hbb:=hm1 hmr
   subst hbb
   have g4:lk bx2 (d,1)=some (v4,Qr):=(hf2.1 _ (Nat.lt_succ_self d) (Hv rfl) (Hv rfl)).trans hB.b4
   refine Yl rfl ?_
   refine Tt (tz:=61) h4 rfl g4 rfl fun σ nx bx g4 g5 gb=>?_
   exact hF σ nx bx _ (by rw [hmr];rfl) g4 g5 gb
  | some z=>
   obtain ⟨hbb,hb1,o1,o2,o3,hbx2⟩:=hm2 z hmr
   subst hbb
   have hsub:=Ygj hmr
   have hB:=hB.mem hf2 hb1
   have hA:=hA.call2 hf2
   refine Ur rfl (Yc ?_)
   refine W.reg0 rfl fun nx3 hnx3=>?_
   refine f_ h10 (l_ (w:=.sl o (rs.map Zi.row)) rfl hB.bo rfl rfl (l_ (w:=.ag (xc X.status X.key o1 o2 o3 z.1 z.2.1 z.2.2.1)) (k:=(d,45061)) rfl hbx2 rfl rfl ?_))
   refine Ja (f:=Zi.row) (l:=[⟨X.status,X.key,z.1,z.2.1,z.2.2.1⟩]) rfl rfl (Xw (v:=.ag (xc X.status X.key o1 o2 o3 z.1 z.2.1 z.2.2.1)) (cs:=Zi.row ⟨X.status,X.key,z.1,z.2.1,z.2.2.1⟩) rfl rfl rfl Vn) rfl ?_
   refine Qk (f:=Zi.row) (l:=rs) (m:=[⟨X.status,X.key,z.1,z.2.1,z.2.2.1⟩]) Zi.row_len rfl rfl rfl hA.1 ⟨?_,?_⟩ rfl fun o' ow' a1 a2 a3=>?_
   ·simp only [List.length_cons,List.length_nil,Wt];omega
   ·simp only [List.length_cons,List.length_nil,Wt];omega
   refine f_ h10 (Ye (k:=(d,24581)) (v:=v10) (cs':=Hm a b c o' (rs++[⟨X.status,X.key,z.1,z.2.1,z.2.2.1⟩])) rfl hB.bo rfl rfl rfl (e_ ?_))
   refine ih z.2.2.2 (rs++[⟨X.status,X.key,z.1,z.2.1,z.2.2.1⟩]) _ _ _ _ o' (by omega) (by simp only [List.length_append,List.length_cons,List.length_nil];omega) (fun y hy=>hrm y (hsub.2 y hy)) h1 h2 h4 h7 h10 hB.out (Xe.mk a1 (Gi.app hA.2 rfl a3)) ?_ ?_
   ·intro σ nx bx ow e g4 g5 gb
    exact hF σ nx bx ow (by rw [hmr];simp only [Option.bind_some,e];rfl) g4 g5 gb
   ·intro σ nx bx ow o4 y e g1 g2 g4 g10 gB
    refine hK σ nx bx ow o4 (⟨X.status,X.key,z.1,z.2.1,z.2.2.1⟩::y.1,y.2) (by rw [hmr];simp only [Option.bind_some,e];rfl) g1 g2 g4 g10 ?_
    simpa using gB
end
end Go.AM

/- Yg of the proof. -/
namespace Go.AM
open Go
attribute [local irreducible] WO Ww Wx
set_option maxRecDepth 4000
set_option maxHeartbeats 1000000
set_option linter.unusedVariables false
theorem Xor {s x:Zd} (h:x∈Lib.split s [10]):x.length<=s.length:=Zlr _ _ _ _ h
theorem Xnd (s:Zd):Lib.count s [10]<=s.length:=by
 have:=Lib.countB_le ⟨#[10]⟩ (by decide) s.length ⟨s.toArray⟩ (Nat.le_refl _)
 exact this
theorem Yv1 (s:Zd):(Lib.split s [10]).length<=s.length+1:=by
 have h1:=Znw [10] 0 (Lib.count s [10]) s
 have h2:=Xnd s
 unfold Lib.split
 omega
section
variable {PG:Za} {m:Ze} {s:Zd}
def ReK (m:Ze) (s:Zd) (v:AV):Prop:=v=.tup [(Gt m s).1.av,.i .i64 (Gt m s).2]
def ReQ (m:Ze) (s:Zd):AE->Sl->St->Prop:=Rr 0 Ct.res fun r _=>∃v,r.strip=some v/\ReK m s v
theorem Lf {σ:Sl} {nx v4:Nat} {bx:Wc} {ow:Xz} {e:Int} (hr:Gt m s=(sz,e)) (h4:σ 4=.p (0,1) v4 0) (h5:σ 5=.i .i64 e) (hb:lk bx (0,1)=some (v4,Qr)):ReQ m s .ret σ ⟨nx,bx,ow⟩:=by
 refine ⟨.tup [.ag Qr,.i .i64 e],?_,_,rfl,?_⟩
 ·simp only [Ct,Xm,Vk,Jz (st:=⟨nx,bx,ow⟩) (cs:=Qr) (n:=4) h4 hb rfl,h5,Qb,Option.map_some]
 ·unfold ReK;rw [hr];rfl
theorem Xoz {σ:Sl} {nx v4:Nat} {bx:Wc} {ow:Xz} {o:Zn} {x:Zt} (hr:Gt m s=(x,0)) (h4:σ 4=.p (0,1) v4 0) (h5:σ 5=.i .i64 0) (hb:lk bx (0,1)=some (v4,Hm x.outcome x.failing x.steps o x.routines)):ReQ m s .ret σ ⟨nx,bx,ow⟩:=by
 refine ⟨.tup [.ag (Hm x.outcome x.failing x.steps o x.routines),.i .i64 0],?_,_,rfl,?_⟩
 ·simp only [Ct,Xm,Vk,Jz (st:=⟨nx,bx,ow⟩) (cs:=Hm x.outcome x.failing x.steps o x.routines) (n:=4) h4 hb rfl,h5,Qb,Option.map_some]
 ·unfold ReK;rw [hr]
theorem Wma (H:HasD PG) (hm:Wd m) {σ:Sl} {nx v0 v4 v6 v10:Nat} {bx:Wc} {ow:Xz} {o:Zn} {a b c:Int} {rs:List Zi} {l:List Zd} (hw:Gu ⟨a,b,c,rs⟩) (hr:Gt m s=if Qe m ⟨a,b,c,rs⟩=(s,0) then (⟨a,b,c,rs⟩,0) else (sz,12))
  (h1:σ 1=.s s) (h2:σ 2=.p (0,0) v0 0) (h4:σ 4=.p (0,1) v4 0) (h10:σ 10=.p (0,24581) v10 0) (hB:RB 0 v0 v4 v6 v10 m a b c bx l o rs):W PG 0 Yk3 σ ⟨nx,bx,ow⟩ (ReQ m s):=by
 have hcall:=Zox H.toHasT hm hw
 generalize hR:Qe m ⟨a,b,c,rs⟩=R at hcall hr
 obtain ⟨back,e⟩:=R
 simp only at hcall hr
 refine Zk (q_ rfl (l_ (w:=m.av) h2 hB.b0 rfl rfl (l_ (w:=.ag (Hm a b c o rs)) h10 hB.bo rfl rfl (Yi (sc rfl rfl (sc (v:=.ag (Hm a b c o rs)) rfl rfl sn)) hcall (m_ (x_ rfl rfl (x_ rfl rfl (m_ (m_ (e_ ?_))))))))))
 refine q_ rfl (m_ (b_ (a:=.i .i64 e) (b:=.i .i64 0) rfl rfl Ws (m_ (Ym (g:=76) (p:=e≠0) rfl (fun he=>?_) (fun he=>?_)))))
 ·refine Hh (b:=true) rfl rfl (Hh (b:=true) rfl rfl (Hh (b:=true) rfl rfl (Hr rfl rfl (e_ (Yl rfl ?_)))))
  refine Tt (tz:=81) h4 rfl hB.b4 rfl fun σ nx bx g4 g5 gb=>?_
  refine Lf (m:=m) (s:=s) ?_ g4 g5 gb
  rw [hr,if_neg]
  intro h;injection h with _ h;exact he h
 ·have he:=Decidable.not_not.1 he
  subst he
  refine Zc rfl (He (l:=back) rfl (Zc rfl (He (l:=s) h1 (Zc rfl (b_ (a:=.s back) (b:=.s s) rfl rfl By (Vf rfl rfl (e_ (Yj rfl (fun hs=>?_) (fun hs=>Yc ?_)))))))))
  ·refine Tt (tz:=81) h4 rfl hB.b4 rfl fun σ nx bx g4 g5 gb=>?_
   refine Lf (m:=m) (s:=s) ?_ g4 g5 gb
   rw [hr,if_neg]
   intro h;injection h with h _;exact hs h
  ·have hs:=Decidable.not_not.1 hs
   refine q_ rfl (l_ (w:=.ag (Hm a b c o rs)) h10 hB.bo rfl rfl (Ye (w:=.ag (Hm a b c o rs)) (cs':=Hm a b c o rs) h4 hB.b4 rfl rfl rfl (m_ (e_ (Nl ?_)))))
   refine Xoz (m:=m) (s:=s) (o:=o) (x:=⟨a,b,c,rs⟩) ?_ h4 rfl Zj
   rw [hr,if_pos (by rw [hs])]
theorem Yuy (H:HasD PG) (hL:Rc PG) (hM:PuM PG m) (hf:PG.fn 299=some Ct) (hm:Wd m) (hs:s.length<=1000000000):Zf PG 299 [m.av,.s s] (.tup [(Gt m s).1.av,.i .i64 (Gt m s).2]):=by
 have main:W PG 0 Zxy (Wh [m.av,.s s]) Zm (ReQ m s):=?_
 ·obtain ⟨v,h1,h2⟩:=Zf.of (PG:=PG) (f:=299) (args:=[m.av,.s s]) (K:=ReK m s) hf rfl main
  rw [<- show v=_ from h2];exact h1
 refine Zk (W.reg ?_)
 change WO PG 0 0 0 0 Zy1 _ ⟨_,Yx [] (0,1) (1,Qr),[]⟩ _
 refine Vx (v:=m.av) rfl rfl (Xy (m_ (e_ ?_)))
 have b0:lk (Yx (Yx [] (0,1) (1,Qr)) (0,0) (0,m.av.cells)) (0,0)=some (0,m.av.cells):=Zj
 have b4:lk (Yx (Yx [] (0,1) (1,Qr)) (0,0) (0,m.av.cells)) (0,1)=some (1,Qr):=Zs rfl Zj
 revert b0 b4
 show _->_->W PG 0 Yle _ ⟨_,Yx (Yx [] (0,1) (1,Qr)) (0,0) (0,m.av.cells),[]⟩ _
 generalize Yx (Yx [] (0,1) (1,Qr)) (0,0) (0,m.av.cells)=bx
 intro b0 b4
 refine Zk (q_ rfl (He (l:=s) rfl (Dl (l:=s) rfl (b_ (a:=.i .i64 (s.length:Int)) (b:=.i .i64 300000) rfl rfl Vt (e_ (Yj rfl (fun h=>?_) (fun h=>Yc ?_)))))))
 ·refine Tt (v4:=1) (tz:=20) rfl rfl b4 rfl fun σ nx bx g4 g5 gb=>?_
  refine Lf (m:=m) (s:=s) ?_ g4 g5 gb
  unfold Gt;rw [if_pos (by omega)]
 have hrd:Gt m s=match Sq m (Lib.split s [10]) with
  | none=>(sz,12)
  | some x=>if Qe m x=(s,0) then (x,0) else (sz,12):=by unfold Gt;rw [if_neg (by omega)];try (cases Sq m (Lib.split s [10])<;>rfl)
 have hls:s.length<=300000:=by omega
 refine Zk (W.reg ?_)
 rename_i nx1 _
 change WO PG 0 3 nx1 0 Yof _ ⟨_,Yx bx (0,12290) (nx1+2,[.sl .full []]),[]⟩ _
 have hsl:=Yv1 s
 have hsm :∀x∈Lib.split s [10],x.length<=300000:=fun x hx=>Nat.le_trans (Xor hx) hls
 refine He (l:=s) rfl (Yi (sc rfl rfl (sc rfl rfl sn)) (Xs3 H hs) (Xy ?_))
 generalize Lib.split s [10]=L at hrd hsl hsm
 refine Ye (w:=.sl .ext (L.map Zv)) (cs':=[.sl .ext (L.map Zv)]) rfl Zj rfl rfl rfl (e_ ?_)
 have bl:lk (Yx (Yx bx (0,12290) (nx1+2,[.sl .full []])) (0,12290) (nx1+2,[.sl .ext (L.map Zv)])) (0,12290)=some (nx1+2,[.sl .ext (L.map Zv)]):=Zj
 have b0:lk (Yx (Yx bx (0,12290) (nx1+2,[.sl .full []])) (0,12290) (nx1+2,[.sl .ext (L.map Zv)])) (0,0)=some (0,m.av.cells):=Zs rfl (Zs rfl b0)
 have b4:lk (Yx (Yx bx (0,12290) (nx1+2,[.sl .full []])) (0,12290) (nx1+2,[.sl .ext (L.map Zv)])) (0,1)=some (1,Qr):=Zs rfl (Zs rfl b4)
 revert b0 b4 bl
 show _->_->_->W PG 0 Ybh _ ⟨_,Yx (Yx bx (0,12290) (nx1+2,[.sl .full []])) (0,12290) (nx1+2,[.sl .ext (L.map Zv)]),[]⟩ _
 generalize Yx (Yx bx (0,12290) (nx1+2,[.sl .full []])) (0,12290) (nx1+2,[.sl .ext (L.map Zv)])=bx
 intro bl b0 b4
 refine q_ rfl (Zla (vs:=[.p (0,12290) (nx1+2) 0]) rfl (m_ (e_ ?_)))
 refine q_ rfl (m_ (Re (p:=Hu) (k:=(0,12290)) (l:=L) hL rfl rfl Nat.zero_lt_one bl fun nx' bx' hb1 hb2=>?_))
 have b0:=(hb2 (0,0) Nat.zero_lt_one (Hv rfl)).trans b0
 have b4:=(hb2 (0,1) Nat.zero_lt_one (Hv rfl)).trans b4
 generalize hN:Jw Hu L=N at hb1
 obtain ⟨first,ok,rest⟩:=N
 simp only at hb1
 have hfl:first.length<=300000:=by
  cases L with
  | nil=>rw [show Jw Hu []=([],false,[]) from rfl] at hN;injection hN with hN;rw [<- hN];exact Nat.zero_le _
  | cons x r=>
   simp only [Jw] at hN
   split at hN<;>injection hN with hN<;>rw [<- hN]
   ·exact hsm x List.mem_cons_self
   ·exact Nat.zero_le _
 refine m_ (x_ rfl rfl (x_ rfl rfl (m_ (m_ (e_ ?_)))))
 have hX:(Hq first).1.routines=[]:=rfl
 have hcall:=Xpr H (s:=first) (by omega)
 generalize hO:Hq first=O at hcall hX
 obtain ⟨⟨a,b,c,rs0⟩,is⟩:=O
 simp only at hX hcall
 subst hX
 refine Zk (W.reg ?_)
 change WO PG 0 6 nx' 0 Yf2 _ ⟨_,Yx bx' (0,24581) (nx'+5,Qr),_⟩ _
 refine m_ (Hf rfl hcall fun st' hfr'=>?_)
 have b0:=(hfr'.1 (0,0) Nat.zero_lt_one Gc).trans (Zs rfl b0)
 have b4:=(hfr'.1 (0,1) Nat.zero_lt_one Gc).trans (Zs rfl b4)
 have bl:=(hfr'.1 (0,12290) Nat.zero_lt_one Gc).trans (Zs rfl hb1)
 have bo:=(hfr'.1 (0,24581) Nat.zero_lt_one Gc).trans Zj
 clear hfr' hb1 hb2
 obtain ⟨nx2,bx2,ow2⟩:=st'
 simp only at b0 b4 bl bo
 refine m_ (x_ rfl rfl (x_ rfl rfl (Xy (Ye (w:=.ag (Hm a b c .full [])) (cs':=Hm a b c .full []) rfl bo rfl rfl rfl (m_ (e_ ?_))))))
 have hB:RB 0 0 1 (nx1+2) (nx'+5) m a b c (Yx bx2 (0,24581) (nx'+5,Hm a b c .full [])) rest .full []:=⟨Zs rfl b0,Zs rfl b4,Zs rfl bl,Zj⟩
 refine Zk (q_ rfl (m_ (Xx (a:=ok) rfl (m_ ?_))))
 cases ok with
 | false=>
  refine Hh (b:=true) rfl rfl (Hh (b:=true) rfl rfl (Hr rfl rfl (e_ (Yl rfl ?_))))
  refine Tt (v4:=1) (tz:=40) rfl rfl hB.b4 rfl fun σ nx bx g4 g5 gb=>?_
  refine Lf (m:=m) (s:=s) ?_ g4 g5 gb
  rw [hrd]
  cases L with
  | nil=>rfl
  | cons x r=>
   simp only [Jw] at hN
   split at hN
   ·injection hN with _ hN;injection hN with hN _;cases hN
   ·rename_i h;simp only [Sq,if_neg h]
 | true=>
  obtain ⟨x,r,rfl,hc,rfl,rfl⟩ :∃x r,L=x::r/\(Zp Hu x).2=true/\first=x/\rest=r:=by
   cases L with
   | nil=>rw [show Jw Hu []=([],false,[]) from rfl] at hN;injection hN with _ hN;injection hN with hN _;cases hN
   | cons x r=>
    simp only [Jw] at hN
    split at hN
    ·rename_i h;injection hN with h1 hN;injection hN with _ h2;exact ⟨x,r,rfl,h,h1.symm,h2.symm⟩
    ·injection hN with _ hN;injection hN with hN _;cases hN
  refine Zc rfl (m_ (Zc rfl (Xx (a:=is) rfl (Vf rfl rfl (e_ ?_)))))
  simp only [List.length_cons] at hsl
  simp only [Sq,if_pos hc,hO] at hrd
  cases is with
  | false=>
   refine Yl rfl ?_
   refine Tt (v4:=1) (tz:=40) rfl rfl hB.b4 rfl fun σ nx bx g4 g5 gb=>?_
   refine Lf (m:=m) (s:=s) ?_ g4 g5 gb
   rw [hrd];rfl
  | true=>
   refine Ur rfl (Yc ?_)
   refine Zk (Yh (Xg2 (s:=s) H hL hM (rest.length+1) rest [] _ _ _ _ .full (Nat.lt_succ_self _) (by simp only [List.length_nil];omega) (fun y hy=>Nat.le_trans (hsm y (List.mem_cons_of_mem _ hy)) (by decide)) rfl rfl rfl rfl rfl hB ⟨trivial,trivial⟩ ?_ ?_))
   ·intro σ nx bx ow e g4 g5 gb
    refine Lf (m:=m) (s:=s) ?_ g4 g5 gb
    rw [hrd,if_pos rfl,e];rfl
   ·intro σ nx bx ow o z e g1 g2 g4 g10 gB
    have w:=Ykf _ _ _ (by omega) e
    have hwf:Gu ⟨a,b,c,z.1⟩:=by
     refine ⟨?_,w.2,by simp only;omega⟩
     have:a=(Hq first).1.outcome:=by rw [hO]
     rw [this];exact Wag _
    refine Wma H hm (rs:=z.1) hwf ?_ g1 g2 g4 g10 (by simpa using gB)
    rw [hrd,if_pos rfl,e];rfl
end
end Go.AM

/- Yg of the proof. -/
namespace Go.AM
open Go
set_option maxRecDepth 100000
structure HasD1 (PG:Za):Prop extends HasD PG where
 f299:PG.fn 299=some Ct
 f305:PG.fn 305=some Au
 f309:PG.fn 309=some Zbl
 f302:PG.fn 302=some Aa
 f314:PG.fn 314=some Lh
 f292:PG.fn 292=some Ol
 f303:PG.fn 303=some Ir
 f294:PG.fn 294=some Og
 f296:PG.fn 296=some Zal
 f297:PG.fn 297=some Ac
 f293:PG.fn 293=some Zck
 f290:PG.fn 290=some Zcc
def vN (n:Int):Zb:=Zb.mk 2 n [] [] false
def vY:Zb:=Zb.mk 1 1 [] [] false
def Rf:Ze:=Ze.mk [] [] [(Zz.mk [109,97,105,110] 0 0 [] (List.replicate 6 Jx.zero) [] []),(Zz.mk [102] 0 0 [(Xd.mk [120] 0)] (List.replicate 6 Jx.zero) [] [])]
def Zbv:Zi:=Zi.mk 2 (-3) [(Zg.mk 0 1 0 [])] [(Zr.mk 0 1 true vY)] []
def Zda:Zt:=Zt.mk 2 0 17 [(Zi.mk 1 0 [(Zg.mk 0 4 0 [])] [] [(Zh.mk 1 (vN 5) 0)])]
def Yx1:Zd:=[111,117,116,99,111,109,101,32,112,97,110,105,99,44,32,102,97,105,108,105,110,103,32,48,44,32,115,116,101,112,115,32,49,55,10,103,111,114,111,117,116,105,110,101,32,48,58,32,114,101,97,100,121,10,32,32,35,48,32,48,32,34,109,97,105,110,34,32,97,116,32,52,32,99,97,108,108,10,32,32,112,97,110,105,99,32,53,10]
def Yvf:List Zd:=[[103,111,114,111,117,116,105,110,101,32,48,58,32,98,108,111,99,107,101,100,32,45,51],[32,32,35,48,32,48,32,34,109,97,105,110,34,32,97,116,32,49,32,99,97,108,108],[32,32,100,101,102,101,114,32,48,32,49,32,34,102,34,32,119,105,116,104,32,116,114,117,101]]
theorem Ze1:Wd Rf:=Wd.of (by decide +kernel)
theorem Wnd {n:Int} (hn:-9223372036854775808<=n/\n<9223372036854775808):Wf (vN n):=.mk (by decide) hn (by decide) (by simp)
theorem Wej:Wf vY:=.mk (by decide) (by decide) (by decide) (by simp)
theorem Wco:Qh Zbv:=by
 refine ⟨by decide,by decide,fun y hy=>?_,fun y hy=>?_,fun y hy=>(by cases hy),by decide,by decide,by decide⟩
 ·rw [List.mem_singleton.1 hy];exact ⟨by decide,by decide,by simp⟩
 ·rw [List.mem_singleton.1 hy];exact Wej
theorem Wmo:Gu Zda:=by
 refine ⟨by decide,fun x hx=>?_,by decide⟩
 rw [List.mem_singleton.1 hx]
 refine ⟨by decide,by decide,fun y hy=>?_,by simp,fun y hy=>?_,by decide,by decide,by decide⟩
 ·rw [List.mem_singleton.1 hy];exact ⟨by decide,by decide,by simp⟩
 ·rw [List.mem_singleton.1 hy];exact ⟨by decide,Wnd (by decide),by decide⟩
theorem Xw5:Qe Rf Zda=(Yx1,0):=by decide +kernel
theorem Wra:Bo Rf 0 Zbv=(Yvf,0):=by decide +kernel
section
variable {PG:Za} (H:HasD1 PG)
include H
theorem Xpo {m:Ze} (hm:Wd m) {s:Zd} (hs:s.length<=1000000000):Zf PG 299 [m.av,.s s] (.tup [(Gt m s).1.av,.i .i64 (Gt m s).2]):=
 Yuy H.toHasD (Ygu H.toHasD H.f305) (Wig H.toHasD (Ygu H.toHasD H.f305) H.f309 hm) H.f299 hm hs
theorem Xsl (n:Int):Zf PG 292 [.i .i64 n] ((vN n).av):=by
 obtain ⟨x,rfl,h⟩:=Xyv H.f292 (n0:=n) (K:=fun x=>x=vN n) (by unfold Zm7;rfl)
 exact h
theorem Xd9:Zf PG 303 [] (vY.av):=by
 obtain ⟨x,rfl,h⟩:=Xwt H.f303 (K:=fun x=>x=vY) (by unfold Zq1;rfl)
 exact h
theorem Yuz:Zf PG 294 [] (Zbv.av):=by
 obtain ⟨x,rfl,h⟩:=Xpi H.f294 (K:=fun x=>x=Zbv) (by unfold Zuu;exact ⟨_,Xd9 H,rfl⟩)
 exact h
theorem Xdj:Zf PG 296 [] (Zda.av):=by
 obtain ⟨x,rfl,h⟩:=Xk2 H.f296 (K:=fun x=>x=Zda) (by unfold Zk0;exact ⟨_,Xsl H 5,rfl⟩)
 exact h
theorem Zjw:Zf PG 297 [] (Rf.av):=by
 obtain ⟨x,rfl,h⟩:=Wqw H.f297 (K:=fun x=>x=Rf) (by unfold Zkd;rw [Yl7];rfl)
 exact h
theorem Xqe {s:Zt} {t:Zd} (hs:Gu s) (h:Qe Rf s=(t,0)):Zf PG 293 [s.av,.s t] (.b true):=by
 obtain ⟨x,rfl,h⟩:=Ywy H.f293 (s0:=s) (want1:=t) (K:=fun x=>x=true) (by
  have c:=Zox H.toHasT Ze1 hs
  rw [h] at c
  have hf:Uf Rf s=true:=by
   unfold Qe at h
   split at h
   ·assumption
   ·injection h with _ h;cases h
  have ht:Du Rf s=t/\t.length<=300000:=by
   unfold Qe at h
   rw [if_pos hf] at h
   split at h
   ·injection h with _ h;cases h
   ·injection h with h _;exact ⟨h,by rw [<- h];omega⟩
  have r:Gt Rf t=(s,0):=by rw [<- ht.1];exact Yxy Ze1 hs hf (by rw [ht.1];exact ht.2)
  have c2:=Xpo H Ze1 (s:=t) (by omega)
  rw [r] at c2
  have hs0:Fk s:=⟨hs.o,fun x hx=>by
   have w:=hs.r x hx
   have:=w.fl;have:=w.dl;have:=w.pl
   exact ⟨w.st,w.k,w.f,w.d,w.p,by omega,by omega,by omega⟩,hs.n⟩
  unfold Ztg
  exact ⟨_,Zjw H,_,_,c,_,Zjw H,_,_,c2,fun _=>⟨fun _=>⟨fun _=>⟨_,Wsw H.toHasT H.f314 H.f302 hs0,Zu9.2 rfl⟩,fun h=>absurd rfl h⟩,fun h=>absurd rfl h⟩,fun h=>absurd rfl h⟩)
 exact h
theorem Yxb:Zf PG 290 [] (.b true):=by
 obtain ⟨x,rfl,h⟩:=Wks H.f290 (K:=fun x=>x=true) (by
  have c:=Zof H.toHasT (g:=0) Ze1 Wco
  rw [Wra] at c
  unfold Zrw
  exact ⟨_,Zjw H,_,Yuz H,_,_,c,_,Xdj H,_,Xqe H Wmo Xw5,fun _=>⟨fun _=>⟨_,c29 H.toHas03 (by decide),decide_eq_true rfl⟩,fun h=>absurd rfl h⟩,fun h=>(by cases h)⟩)
 exact h
theorem Wab {m:Ze} {s:Zt} (h:(Qe m s).2=0):Uf m s=true/\(Qe m s).1=Du m s/\(Du m s).length<=300000:=by
 unfold Qe at h ⊢
 split
 ·rename_i h1
  rw [if_pos h1] at h
  split
  ·rename_i h2;rw [if_pos h2] at h;cases h
  ·exact ⟨h1,rfl,by omega⟩
 ·rename_i h1;rw [if_neg h1] at h;cases h
end
end Go.AM

/- Yg of the proof. -/
namespace Go.AM
open Go
theorem Ypr (c:UInt8) :∀a:Zd,Xq (a++[c])=if c=10 then ((Xq a).1++[(Xq a).2],[]) else ((Xq a).1,(Xq a).2++[c])
 | []=>by
  simp only [List.nil_append,Xq]
 | x::a=>by
  have ih:=Ypr c a
  rw [List.cons_append]
  conv=>lhs;unfold Xq
  rw [ih]
  conv=>rhs;unfold Xq
  by_cases hc:c=10
  ·rw [if_pos hc]
   by_cases hx:x=10
   ·simp only [if_pos hx,if_pos hc,List.cons_append]
   ·simp only [if_neg hx,if_pos hc]
    cases h:(Xq a).1 with
    | nil=>rfl
    | cons y l=>rfl
  ·rw [if_neg hc]
   by_cases hx:x=10
   ·simp only [if_pos hx,if_neg hc]
   ·simp only [if_neg hx,if_neg hc]
    cases h:(Xq a).1 with
    | nil=>rfl
    | cons y l=>rfl
theorem Xmz (a:Zd):a.drop (a.length-(Xq a).2.length)=(Xq a).2:=by
 have h:=Ow a
 generalize (Xq a).1=l at h
 generalize (Xq a).2=e at h
 subst h
 rw [List.length_append,Nat.add_sub_cancel,List.drop_left]
theorem Yab (a:Zd):(Xq a).2.length<=a.length/\(Xq a).1.length<=a.length:=by
 constructor
 ·have h:=congrArg List.length (Ow a)
  rw [List.length_append] at h
  omega
 ·rw [Xdg];exact List.count_le_length
structure HasR (PG:Za):Prop extends HasQ PG where
 f177:PG.fn 177=some Tw
section
variable {PG:Za}
theorem Xra (hf:PG.fn 177=some Tw) {s:Zd} (hs:s.length<=1000000000):Zf PG 177 [.s s] (.tup [.sl .ext ((Xq s).1.map Zv),.b (decide ((Xq s).2=[]))]):=by
 obtain ⟨x,y,⟨rfl,rfl⟩,h⟩:=Xf4 hf (s0:=s) (K:=fun x y=>x=(Xq s).1/\y=decide ((Xq s).2=[])) (by
  unfold Ztf
  intro P hP
  refine Dz (P:=fun (a:List Zd × Int) i=>P a.1 a.2 i) (fun i=>((Xq (s.take i)).1,((i-(Xq (s.take i)).2.length:Nat):Int))) s.length ?_ fun i hi next=>?_
  ·refine hP _ _ _ ?_
   unfold Ze4 Zsk
   rw [List.take_length]
   refine ⟨fun h=>absurd h (by omega),fun _=>⟨rfl,?_⟩⟩
   have:=(Yab s).1
   rw [decide_eq_decide]
   constructor
   ·intro h
    exact List.length_eq_zero_iff.1 (by omega)
   ·intro h
    rw [h];simp
  ·refine hP _ _ _ ?_
   have h1:=Yab (s.take i)
   have ht:(s.take i).length=i:=by rw [List.length_take];omega
   rw [ht] at h1
   have e:Xq (s.take (i+1))=_:=(congrArg Xq (List.take_succ_eq_append_getElem hi)).trans (Ypr s[i] (s.take i))
   simp only [e] at next
   unfold Ze4
   refine ⟨fun _=>⟨by omega,s[i],by rw [Gd];exact List.getElem?_eq_getElem hi,fun h10=>?_,fun h10=>?_⟩,fun h=>absurd (show (i:Int)<s.length by omega) h⟩
   ·have h10:s[i]=10:=by
     apply UInt8.toNat_inj.1
     exact Int.ofNat_inj.1 h10
    rw [if_pos h10] at next
    simp only [List.length_nil,Nat.sub_zero] at next
    have e2:(s.drop (((i-(Xq (s.take i)).2.length:Nat):Int)).toNat).take ((i:Int).toNat-(((i-(Xq (s.take i)).2.length:Nat):Int)).toNat)=(Xq (s.take i)).2:=by
     have:=Xmz (s.take i)
     rw [ht,List.drop_take] at this
     rw [Gd,Gd]
     exact this
    unfold Iz
    rw [e2,Yv (by omega) (by omega)]
    refine ⟨by omega,by omega,by omega,⟨?_,?_⟩,next⟩<;>simp only [List.length_cons,List.length_nil,Kx]<;>omega
   ·have h10:¬s[i]=10:=fun h=>h10 (by rw [h];rfl)
    rw [if_neg h10] at next
    unfold Iz
    rw [Yv (by omega) (by omega)]
    have e3:(i+1-((Xq (s.take i)).2++[s[i]]).length:Nat)=i-(Xq (s.take i)).2.length:=by
     rw [List.length_append,List.length_cons,List.length_nil];omega
    simp only [e3] at next
    exact next)
 exact h
variable (H:HasR PG)
include H
end
end Go.AM

/- Yg of the proof. -/
namespace Go.AM
open Go
theorem Yki (m:Ze) :∀(a b:List Zg) (i:Nat),Xh m i (a++b)=Xh m i a++Xh m (i+a.length) b
 | [],b,i=>rfl
 | x::r,b,i=>by
  rw [List.cons_append,Xh,Yki m r b (i+1),Xh,List.append_assoc,List.length_cons,show i+1+r.length=i+(r.length+1) by omega]
theorem Zja (m:Ze) :∀(a b:List Zi) (i:Nat),Wv m i (a++b)=Wv m i a++Wv m (i+a.length) b
 | [],b,i=>rfl
 | x::r,b,i=>by
  rw [List.cons_append,Wv,Zja m r b (i+1),Wv,List.append_assoc,List.length_cons,show i+1+r.length=i+(r.length+1) by omega]
theorem Yqs {α:Type} {l:List α} {i:Nat} (h:i<l.length):l=l.take i++l[i]::l.drop (i+1):=by
 rw [<- List.drop_eq_getElem_cons h,List.take_append_drop]
theorem Xhk (m:Ze) {l:List Zg} {i:Nat} (h:i<l.length):Xh m 0 l=Xh m 0 (l.take i)++(Js m i l[i]++Xh m (i+1) (l.drop (i+1))):=by
 conv=>lhs;rw [Yqs h,Yki]
 rw [Xh,List.length_take,show 0+min i l.length=i by omega]
theorem Xub (m:Ze) {l:List Zi} {i:Nat} (h:i<l.length):Wv m 0 l=Wv m 0 (l.take i)++(Ve m i l[i]++Wv m (i+1) (l.drop (i+1))):=by
 conv=>lhs;rw [Yqs h,Zja]
 rw [Wv,List.length_take,show 0+min i l.length=i by omega]
theorem Ym2 {m:Ze} (hm:Wd m) :∀(l:List Zi) (i:Nat),(∀x∈l,Qh x)->(∀x∈l,Qm m x)->(Wv m i l).length<=4001*l.length
 | [],_,_,_=>Nat.le_refl _
 | x::r,i,hw,hb=>by
  have h1:=(Oz (g:=i) hm (hw x List.mem_cons_self) (hb x List.mem_cons_self)).2
  have h2:=Ym2 hm r (i+1) (fun y hy=>hw y (List.mem_cons_of_mem _ hy)) fun y hy=>hb y (List.mem_cons_of_mem _ hy)
  rw [Wv,List.length_append,List.length_cons]
  omega
structure HasD2 (PG:Za):Prop extends HasD1 PG where
 f291:PG.fn 291=some Lz
 f177:PG.fn 177=some Tw
section
variable {PG:Za} (H:HasD1 PG)
include H
theorem Whc (hf:PG.fn 291=some Lz) {m:Ze} (hm:Wd m) {g:Int} {x:Zi} (hx:Qh x) (h0:Qm m x):Zf PG 291 [m.av,x.av,.sl .ext ((Ve m g x).map Zv)] (.b true):=by
 obtain ⟨b,rfl,h⟩:=Xv3 hf (m0:=m) (x1:=x) (l2:=Ve m g x) (K:=fun b=>b=true) (by
  obtain ⟨hlm,hll⟩:=Oz (g:=g) hm hx h0
  have hfl:=h0.f;have hdl:=h0.d;have hpl:=h0.p
  have elen:(Ve m g x).length=1+(Xh m 0 x.frames).length+x.defers.length+x.panics.length:=by
   unfold Ve Qt
   simp only [List.length_cons,List.length_map,List.length_append]
   omega
  unfold Zmy Zok Ztd Zui
  intro P hP
  have key:=Mu (P:=fun a i=>P a i m x) (fun i=>((1+(Xh m 0 (x.frames.take i)).length:Nat):Int)) x.frames.length (fun _=>True) trivial (fun _=>hP _ _ _ _ ?_) (fun i hi _ next=>hP _ _ _ _ ?_)
  ·exact key
  ·unfold Zfy
   refine ⟨fun h=>absurd h (by omega),fun _=>?_⟩
   rw [List.take_length]
   unfold Zm1
   intro P2 hP2
   rw [Yv (by omega) (by omega)]
   have key2:=Mu (P:=fun a i=>P2 a i x) (fun j=>((1+(Xh m 0 x.frames).length:Nat):Int)+(x.defers.length:Int)+(j:Int)) x.panics.length (fun _=>True) trivial (fun _=>hP2 _ _ _ ?_) (fun j hj _ next=>hP2 _ _ _ ?_)
   ·simpa using key2
   ·unfold Zj0 Zny
    refine ⟨fun h=>absurd h (by omega),fun _=>decide_eq_true ?_⟩
    omega
   ·have hp:=hx.p _ (List.getElem_mem hj)
    have ho:=h0.pb _ (List.getElem_mem hj)
    have c:=Yfz H.toHasO hp
    rw [show Mx x.panics[j]=(Jb x.panics[j],0) by unfold Mx;rw [if_pos ho]] at c
    have hget:(Ve m g x)[(((1+(Xh m 0 x.frames).length:Nat):Int)+(x.defers.length:Int)+(j:Int)).toNat]?=some (Wg (Jb x.panics[j])):=by
     rw [show (((1+(Xh m 0 x.frames).length:Nat):Int)+(x.defers.length:Int)+(j:Int)).toNat=((Xh m 0 x.frames).length+x.defers.length+j)+1 by omega]
     unfold Ve Qt
     rw [List.getElem?_cons_succ,List.getElem?_map,List.getElem?_append_right (by simp only [List.length_append,List.length_map];omega)]
     simp only [List.length_append,List.length_map]
     rw [show (Xh m 0 x.frames).length+x.defers.length+j-((Xh m 0 x.frames).length+x.defers.length)=j by omega,List.getElem?_map,List.getElem?_eq_getElem hj]
     rfl
    have hsl:=Zij ho
    unfold Zj0
    refine ⟨fun _=>⟨by omega,_,Xb hj,_,_,c,fun h=>absurd rfl h,fun _=>⟨fun h=>absurd h (by omega),fun _=>⟨by omega,_,hget,?_,fun h=>absurd rfl h,fun _=>?_⟩⟩⟩,fun h=>absurd (show (j:Int)<x.panics.length by omega) h⟩
    ·simp only [List.length_cons,List.length_nil,Uq];omega
    ·rw [Yv (by omega) (by omega),Yv (by omega) (by omega)]
     have:=next trivial
     rwa [show ((1+(Xh m 0 x.frames).length:Nat):Int)+(x.defers.length:Int)+((j+1:Nat):Int)=((1+(Xh m 0 x.frames).length:Nat):Int)+(x.defers.length:Int)+(j:Int)+1 by omega,show ((j+1:Nat):Int)=(j:Int)+1 by omega] at this
  ·have hfb:=h0.fb _ (List.getElem_mem hi)
   have hfx:=hx.f _ (List.getElem_mem hi)
   have c:=c82 H.toHasF (k:=i) hm hfx
   rw [Znu (by omega) hfb] at c
   have hat:=Xhk m hi
   have hsz:(Xh m 0 (x.frames.take i)).length+(Js m i x.frames[i]).length<=(Xh m 0 x.frames).length:=by
    rw [hat];simp only [List.length_append];omega
   have hlen:(Js m i x.frames[i]).length=x.frames[i].locals.length+1:=by
    have hb:=hfb
    unfold Jj at hb
    simp only [Bool.and_eq_true] at hb
    cases hq:m.funcs[x.frames[i].func.toNat]? with
    | none=>rw [hq] at hb;cases hb.2
    | some f=>rw [Nr hq];simp
   have hl17:=(Ak (k:=i) hm hfx hfb).2
   unfold Zfy
   refine ⟨fun _=>⟨by omega,_,Xb hi,_,_,c,fun h=>absurd rfl h,fun _=>⟨by omega,_,Xb hi,fun h=>?_,fun _=>?_⟩⟩,fun h=>absurd (show (i:Int)<x.frames.length by omega) h⟩
   ·rw [Yv (by omega) (by omega)] at h;exact absurd (show ((Js m i x.frames[i]).length:Int)=(x.frames[i].locals.length:Int)+1 by omega) h
   unfold Zt1
   intro P1 hP1
   have key1:=Mu (P:=fun a k=>P1 a k m x) (fun k=>((1+(Xh m 0 (x.frames.take i)).length:Nat):Int)+(k:Int)) (Js m i x.frames[i]).length (fun _=>True) trivial (fun _=>hP1 _ _ _ _ ?_) (fun k hk _ nextk=>hP1 _ _ _ _ ?_)
   ·simpa using key1
   ·unfold Zim Zq8
    refine ⟨fun h=>absurd (show ((Js m i x.frames[i]).length:Int)<((Js m i x.frames[i]).length:Int) from h) (Int.lt_irrefl _),fun _=>?_⟩
    rw [Yv (by omega) (by omega)]
    have:=next trivial
    have e1:(Xh m 0 (x.frames.take (i+1))).length=(Xh m 0 (x.frames.take i)).length+(Js m i x.frames[i]).length:=by
     rw [List.take_succ_eq_append_getElem hi,Zog,List.length_take,show 0+min i x.frames.length=i by omega,List.length_append]
    simp only [e1] at this
    rwa [show ((1+((Xh m 0 (x.frames.take i)).length+(Js m i x.frames[i]).length):Nat):Int)=((1+(Xh m 0 (x.frames.take i)).length:Nat):Int)+((Js m i x.frames[i]).length:Int) by omega,show ((i+1:Nat):Int)=(i:Int)+1 by omega] at this
   ·have hget:(Ve m g x)[(((1+(Xh m 0 (x.frames.take i)).length:Nat):Int)+(k:Int)).toNat]?=some (Wg (Js m i x.frames[i])[k]):=by
     rw [show (((1+(Xh m 0 (x.frames.take i)).length:Nat):Int)+(k:Int)).toNat=((Xh m 0 (x.frames.take i)).length+k)+1 by omega]
     unfold Ve Qt
     rw [List.getElem?_cons_succ,List.getElem?_map,List.getElem?_append_left (by simp only [List.length_append];omega),List.getElem?_append_left (by omega),hat,List.getElem?_append_right (by omega),List.getElem?_append_left (by omega)]
     rw [show (Xh m 0 (x.frames.take i)).length+k-(Xh m 0 (x.frames.take i)).length=k by omega,List.getElem?_eq_getElem hk]
     rfl
    have hfl2:=(Ak (k:=i) hm hfx hfb).1 _ (List.getElem_mem hk)
    unfold Zim
    refine ⟨fun _=>⟨fun h=>absurd h (by omega),fun _=>⟨by omega,_,hget,by omega,_,Xb hk,?_,fun h=>absurd rfl h,fun _=>?_⟩⟩,fun h=>absurd (show (k:Int)<(Js m i x.frames[i]).length by omega) h⟩
    ·simp only [List.length_cons,List.length_nil,Uq];omega
    ·rw [Yv (by omega) (by omega),Yv (by omega) (by omega)]
     have:=nextk trivial
     rwa [show ((1+(Xh m 0 (x.frames.take i)).length:Nat):Int)+((k+1:Nat):Int)=((1+(Xh m 0 (x.frames.take i)).length:Nat):Int)+(k:Int)+1 by omega,show ((k+1:Nat):Int)=(k:Int)+1 by omega] at this)
 exact h
theorem Xqn (hf291:PG.fn 291=some Lz) (hf177:PG.fn 177=some Tw) (hf:PG.fn 286=some Zft) {m:Ze} (hmn:m.funcs.length<=9223372036854775807) {s:Zt} (hs:Fk s):Zf PG 286 [m.av,s.av] (.b true):=by
 obtain ⟨x,rfl,h⟩:=Yz8 hf (m0:=m) (s1:=s) (K:=fun x=>x=true) (by
  unfold Zjd Zt9
  refine ⟨_,Yxb H,?_⟩
  unfold Zoe
  refine ⟨_,c79 H.toHasF hmn,fun _=>rfl,fun hg=>⟨_,Wpr H.toHasT hs,fun _=>rfl,fun gs=>?_⟩⟩
  have hm:=Wd.of hg
  have ws:=Gu.of hs gs
  refine ⟨_,Xas H.toHasT hm ws,fun _=>rfl,fun hfit=>⟨fun _=>rfl,fun _=>?_⟩⟩
  have hfit:Uf m s=true:=by
   unfold Nu at hfit
   by_cases h:Uf m s=true
   ·exact h
   ·rw [if_neg h] at hfit;exact absurd (by decide) hfit
  obtain ⟨_,_,hn16,_,hgo⟩:=Lb hfit
  have hg0 :∀x∈s.routines,Qm m x:=fun x hx=>Qm.of (hgo x hx)
  have hlen:=Ym2 hm s.routines 0 ws.r hg0
  unfold Zkl
  refine ⟨_,_,Zox H.toHasT hm ws,?_⟩
  unfold Znj
  have hl3:(Qe m s).1.length<=1000000000:=by
   unfold Qe
   rw [if_pos hfit]
   split
   ·exact Nat.zero_le _
   ·simp only;omega
  refine ⟨_,_,Xra hf177 hl3,?_⟩
  unfold Zpj
  refine ⟨fun _=>rfl,fun h4=>?_⟩
  have e0:(Qe m s).2=0:=by
   unfold Qe at h4 ⊢
   rw [if_pos hfit] at h4 ⊢
   split
   ·rename_i h;rw [if_pos h] at h4;exact absurd rfl h4
   ·rfl
  obtain ⟨_,e1,_⟩:=Wab H e0
  rw [e1,Yhz ws hfit]
  unfold Zsx
  refine ⟨fun h=>absurd e0 h,fun _=>⟨fun h=>(by cases h),fun _=>⟨fun h=>?_,fun _=>?_⟩⟩⟩
  ·simp only [List.length_cons] at h;omega
  unfold Zlo Zj5
  intro P hP
  have hll:(Bb s::Wv m 0 s.routines).length=1+(Wv m 0 s.routines).length:=by rw [List.length_cons];omega
  have key:=Mu (P:=fun a i=>P a i m s) (fun i=>((1+(Wv m 0 (s.routines.take i)).length:Nat):Int)) s.routines.length (fun _=>True) trivial (fun _=>hP _ _ _ _ ?_) (fun i hi _ next=>hP _ _ _ _ ?_)
  ·exact key
  ·unfold Zfw Zto
   refine ⟨fun h=>absurd h (by omega),fun _=>⟨fun _=>decide_eq_true ?_,fun h=>(by cases h)⟩⟩
   rw [List.take_length,hll]
  ·have hx:=ws.r _ (List.getElem_mem hi)
   have hgx:=hgo _ (List.getElem_mem hi)
   have c:=Zof H.toHasT (g:=(i:Int)) hm hx
   rw [Zm5 (by omega) hgx] at c
   have hat:=Xub m hi
   have hsz:(Wv m 0 (s.routines.take i)).length+(Ve m i s.routines[i]).length<=(Wv m 0 s.routines).length:=by
    rw [hat];simp only [List.length_append];omega
   have hll2:=(Oz (g:=i) hm hx (Qm.of hgx)).2
   have hcut:((Bb s::Wv m 0 s.routines).drop (((1+(Wv m 0 (s.routines.take i)).length:Nat):Int)).toNat).take ((((1+(Wv m 0 (s.routines.take i)).length:Nat):Int)+((Ve m i s.routines[i]).length:Int)).toNat-(((1+(Wv m 0 (s.routines.take i)).length:Nat):Int)).toNat)=Ve m i s.routines[i]:=by
    rw [show (((1+(Wv m 0 (s.routines.take i)).length:Nat):Int)).toNat=(Wv m 0 (s.routines.take i)).length+1 by omega,show (((1+(Wv m 0 (s.routines.take i)).length:Nat):Int)+((Ve m i s.routines[i]).length:Int)).toNat-((Wv m 0 (s.routines.take i)).length+1)=(Ve m i s.routines[i]).length by omega,List.drop_succ_cons,hat,List.drop_left,List.take_left]
   unfold Zfw
   refine ⟨fun _=>⟨by omega,_,Xb hi,_,_,c,fun h=>absurd rfl h,fun _=>?_⟩,fun h=>absurd (show (i:Int)<s.routines.length by omega) h⟩
   simp only
   rw [Yv (by omega) (by omega),hcut]
   refine ⟨fun h=>absurd h (by rw [hll];omega),fun _=>⟨by omega,by omega,by rw [hll];omega,_,c29 H.toHas03 (by omega),fun h=>(by rw [decide_eq_true rfl] at h;cases h),fun _=>⟨_,Whc H hf291 hm hx (Qm.of hgx),fun h=>(by cases h),fun _=>?_⟩⟩⟩
   unfold Zr1
   rw [Yv (by omega) (by omega),Yv (by omega) (by omega)]
   have:=next trivial
   have e2:(Wv m 0 (s.routines.take (i+1))).length=(Wv m 0 (s.routines.take i)).length+(Ve m i s.routines[i]).length:=by
    rw [List.take_succ_eq_append_getElem hi,Zja,List.length_take,show 0+min i s.routines.length=i by omega,Wv,Wv,List.append_nil,List.length_append]
   simp only [e2] at this
   rwa [show ((1+((Wv m 0 (s.routines.take i)).length+(Ve m i s.routines[i]).length):Nat):Int)=((1+(Wv m 0 (s.routines.take i)).length:Nat):Int)+((Ve m i s.routines[i]).length:Int) by omega,show ((i+1:Nat):Int)=(i:Int)+1 by omega] at this)
 exact h
end
end Go.AM

/- The statement ReportOrder: for every input the law returns true, and each argument reads afterwards as before. No conditions. -/
namespace Go.Proofs.YtheacfnopahmjaaGreatDoor.ReportOrderProof
open Go Go.AM Go.RowKit Go.ChangeShapes Go.WideShapes Go.ChangeAt

set_option maxRecDepth 100000
theorem Yla : Yd Tryz.prog X 3 Zft := fK Tryz.func3
def fns : List (Nat × AF) := [(42, Zdp), (46, Zgs), (36, Zi9), (43, Zd8), (47, Zg6), (11, Zh3), (15, Zer), (21, Zd9), (25, Zem), (30, Zb6), (34, Zgu), (37, Zg8), (39, Ag), (45, Ih), (29, Zc1), (145, Zjs), (126, Zvd), (71, Zhi), (72, Zis), (74, Zaz), (76, Zdw), (77, Zfp), (78, Zca), (102, Zfa), (103, Zct), (104, Pl), (107, Lg), (109, Zc9), (110, Zfg), (128, Fa), (129, Pf), (130, Pw), (131, Lq), (136, Zdz), (154, Zfi), (158, Zbu), (159, Zcl), (178, Zay), (180, Zde), (183, Iw), (190, Zdf), (191, Zhm), (156, Em), (160, Zej), (181, Et), (162, Zf5), (163, Zhd), (169, Yqp), (170, Zi2), (79, Zee), (80, Zgl), (82, Zeh), (86, Zht), (87, Zix), (88, Zh0), (111, Zbz), (112, Zhs), (113, Za0), (115, Zgx), (116, Zdx), (119, Zgm), (122, Zeb), (123, Zdu), (124, Zdv), (138, Zoa), (139, Zh6), (141, Ziy), (144, Zcw), (203, Zdy), (204, Zef), (205, Zg1), (207, Zhl), (211, Zf0), (213, Zgg), (214, Zc0), (215, Zav), (216, Zea), (217, Zsj), (218, Zsv), (219, Zc6), (220, Zid), (221, Ze5), (224, Zg2), (225, Zhz), (227, Zi6), (228, Zh9), (229, Zhw), (230, Zd4), (231, Zi1), (232, Zgj), (233, Zdo), (234, Zhb), (235, Zho), (236, Ziu), (237, Zcd), (238, Zic), (239, Zhy), (84, Il), (117, Pp), (118, It), (140, Lm), (143, Zpl), (306, Zc8), (316, Zdt), (322, Zch), (260, Er), (266, En), (317, Zdk), (307, Eb), (308, Lc), (318, Za6), (299, Ct), (305, Au), (309, Zbl), (302, Aa), (314, Lh), (292, Ol), (303, Ir), (294, Og), (296, Zal), (297, Ac), (293, Zck), (290, Zcc), (291, Lz), (177, Tw), (286, Zft)]
def PG : Za := ⟨Mm fns, Hl, Zai⟩
set_option maxRecDepth 100000 in
theorem Xry : Zar Tryz.prog X fns Sr :=
 fN J (fS J Yla (fN J (fN J (fN J (fS J Xd0 (fS J Wrv (fS J Wjk (fS J Yy4 (fS J Xr4 (fS J Xcw (fS J Xof (fS J Ysw (fS J Xkg (fN J (fS J Xxu (fS J Xyp (fS J Wap (fS J Xvf (fN J (fS J Xnf (fS J Wrr (fS J Wje (fN J (fS J Xuo (fN J (fN J (fS J Wtw (fS J Yym (fS J Wad (fS J Xi5 (fS J Xi3 (fS J Xzm (fS J Wne (fN J (fS J Xa4 (fS J Wet (fS J Wjh (fS J Wi5 (fS J Wfv (fS J Wkj (fS J Ywx (fS J Wbq (fS J Wsl (fN J (fS J Wr4 (fS J Xts (fS J Wh3 (fS J Xyr (fS J Xwu (fN J (fN J (fN J (fN J (fN J (fN J (fS J Xl7 (fS J Ws1 (fS J Xye (fS J Xhs (fS J Wd8 (fS J Ws4 (fS J Wiw (fS J Yzc (fS J Ysh (fS J Xmu (fS J Wdu (fS J Wgt (fS J Wrt (fS J Xri (fS J Xpn (fS J Wgn (fS J Xl8 (fS J Xh4 (fS J Xzo (fS J Wjs (fS J Xsz (fS J Xpp (fS J Xtm (fS J Wro (fS J Wr1 (fS J Xmh (fN J (fS J Wt3 (fS J Wo4 (fS J Wce (fS J Xyj (fS J Xha (fS J Wm2 (fS J Yvd (fS J Xp2 (fS J Xwl (fN J (fN J (fN J (fN J (fN J (fN J (fN J (fN J (fN J (fS J Xdm (fN J (fN J (fN J (fN J (fS J Xtg (fS J Wid (fS J Wql (fS J Xmw (fS J Xz9 (fS J Wbe (fN J (fS J Xpy (fS J Wnl (fS J Xyn (fS J Yw4 (fS J Wtu (fS J Yt9 (fS J Waw (fS J Xs7 (fS J Wci (fN J (fN J (fN J (fS J Xo3 (fS J Wpu (fS J Wf9 (fS J Yue (fS J Wmf (fS J Xol (fS J Wpt (fS J Xph (fS J Xic (fN J (fS J Wgy (fS J Wsk (fS J Xjm (fN J (fN J (fS J Xlg (fN J (fS J Xrd (fN J (fN J (fN J (fN J (fS J Way (fS J Xaj (fS J Yy7 (fS J Yvj (fS J Wfy (fS J Xzx (fN J (fN J (fN J (fS J Yyl (fS J Yw2 (fS J Xnl (fS J Ys7 (fS J Xan (fS J Wkf (fN J (fN J (fN J (fN J (fN J (fN J (fN J (fN J (fN J (fS J Xuc (fN J (fS J Yye (fN J (fN J (fS J Yxq (fS J Xei (fS J Wei (fS J Wbf (fN J (fN J (fN J (fS J Wdl (fS J Xbq (fS J Wmp (fN J (fN J (fN J (fN J (trivial))))))))))))))))))))))))))))))))))))))))))))))))))))))))))))))))))))))))))))))))))))))))))))))))))))))))))))))))))))))))))))))))))))))))))))))))))))))))))))))))))))))))))))))))))))))))))))))
theorem Xt4 : Nk Tryz.prog X { fn := Mm fns, orac := Rm 48 } := Xvo (f0 := 185) (fun f h => by have := Fy h; simpa [Sr] using this) Tryz.func185 (by kernel_rfl) (by kernel_rfl) (by kernel_rfl) (by kernel_rfl)
theorem Wdp : Nk Tryz.prog X PG := Xp8 (Xzj Xt4 (f0 := 114) (fun f h => by have := Fy h; simpa [Sr] using this) Tryz.func114 (by kernel_rfl) (by kernel_rfl) (by kernel_rfl) (by kernel_rfl)) (f1 := 46) (f2 := 136) (f3 := 158) (g := 1000000000) rfl
  (fun f h => by have := Fy h; simpa [Sr] using this) (fun args w => Fw Tryz.func46 (by kernel_rfl) (code := Zkp Tryz.f46) (by kernel_rfl) args) (fun s m w hs hm => Xkb Tryz.lays146 (by kernel_rfl) s m w hs hm)
  (fun f h => by have := Fy h; simpa [Sr] using this) (fun args w => Fw Tryz.func136 (by kernel_rfl) (code := Zkp Tryz.f136) (by kernel_rfl) args) (fun s m w hs hm => Yv0 Tryz.lays147 (by kernel_rfl) s m w hs hm)
  (fun f h => by have := Fy h; simpa [Sr] using this) (fun args w => Fw Tryz.func158 (by kernel_rfl) (code := Zkp Tryz.f158) (by kernel_rfl) args) (fun s q m w hs hm => Go.Proofs.Any.stringslite_Index Tryz.lays219 s q m w hs hm)
theorem orsB_ok : Zg9 Tryz.prog X PG := Go.AM.orsB_ok Tryz.lays169 Tryz.extraB (fun f h => by have := Fy h; have e : f = 36 := (by simpa [Sr] using this); exact e) (by kernel_rfl) (by kernel_rfl) Tryz.func36 (by kernel_rfl) rfl
def tl : List Nat := [2, 3, 4, 5, 9, 22, 23, 24, 26, 27, 29, 39, 40, 41, 43, 52, 53, 55, 56, 58, 61, 63, 65, 81, 82, 83, 85, 87, 267, 269, 271]
theorem at_ : Yoy Tryz.prog X PG tl := ⟨Xcs Wg3, by kernel_rfl, Wcp Xry.all rfl, Wdp, orsB_ok, by
    intro t ht
    exact (show ∀ t ∈ tl, Sv X.T tl t = true by decide) t (by simpa using ht)⟩
set_option maxRecDepth 100000 in
theorem has : HasD2 PG := { f42 := by kernel_rfl, f46 := by kernel_rfl, f36 := by kernel_rfl, f43 := by kernel_rfl, f47 := by kernel_rfl, f11 := by kernel_rfl, f15 := by kernel_rfl, f21 := by kernel_rfl, f25 := by kernel_rfl, f30 := by kernel_rfl, f34 := by kernel_rfl, f37 := by kernel_rfl, f39 := by kernel_rfl, f45 := by kernel_rfl, f29 := by kernel_rfl, f145 := by kernel_rfl, f126 := by kernel_rfl, f71 := by kernel_rfl, f72 := by kernel_rfl, f74 := by kernel_rfl, f76 := by kernel_rfl, f77 := by kernel_rfl, f78 := by kernel_rfl, f102 := by kernel_rfl, f103 := by kernel_rfl, f104 := by kernel_rfl, f107 := by kernel_rfl, f109 := by kernel_rfl, f110 := by kernel_rfl, f128 := by kernel_rfl, f129 := by kernel_rfl, f130 := by kernel_rfl, f131 := by kernel_rfl, f136 := by kernel_rfl, f154 := by kernel_rfl, f158 := by kernel_rfl, f159 := by kernel_rfl, f178 := by kernel_rfl, f180 := by kernel_rfl, f183 := by kernel_rfl, f190 := by kernel_rfl, f191 := by kernel_rfl, f156 := by kernel_rfl, f160 := by kernel_rfl, f181 := by kernel_rfl, f162 := by kernel_rfl, f163 := by kernel_rfl, f169 := by kernel_rfl, f170 := by kernel_rfl, f79 := by kernel_rfl, f80 := by kernel_rfl, f82 := by kernel_rfl, f86 := by kernel_rfl, f87 := by kernel_rfl, f88 := by kernel_rfl, f111 := by kernel_rfl, f112 := by kernel_rfl, f113 := by kernel_rfl, f115 := by kernel_rfl, f116 := by kernel_rfl, f119 := by kernel_rfl, f122 := by kernel_rfl, f123 := by kernel_rfl, f124 := by kernel_rfl, f138 := by kernel_rfl, f139 := by kernel_rfl, f141 := by kernel_rfl, f144 := by kernel_rfl, f203 := by kernel_rfl, f204 := by kernel_rfl, f205 := by kernel_rfl, f207 := by kernel_rfl, f211 := by kernel_rfl, f213 := by kernel_rfl, f214 := by kernel_rfl, f215 := by kernel_rfl, f216 := by kernel_rfl, f217 := by kernel_rfl, f218 := by kernel_rfl, f219 := by kernel_rfl, f220 := by kernel_rfl, f221 := by kernel_rfl, f224 := by kernel_rfl, f225 := by kernel_rfl, f227 := by kernel_rfl, f228 := by kernel_rfl, f229 := by kernel_rfl, f230 := by kernel_rfl, f231 := by kernel_rfl, f232 := by kernel_rfl, f233 := by kernel_rfl, f234 := by kernel_rfl, f235 := by kernel_rfl, f236 := by kernel_rfl, f237 := by kernel_rfl, f238 := by kernel_rfl, f239 := by kernel_rfl, f84 := by kernel_rfl, f117 := by kernel_rfl, f118 := by kernel_rfl, f140 := by kernel_rfl, f143 := by kernel_rfl, f306 := by kernel_rfl, f316 := by kernel_rfl, f322 := by kernel_rfl, f260 := by kernel_rfl, f266 := by kernel_rfl, f317 := by kernel_rfl, f307 := by kernel_rfl, f308 := by kernel_rfl, f318 := by kernel_rfl, f299 := by kernel_rfl, f305 := by kernel_rfl, f309 := by kernel_rfl, f302 := by kernel_rfl, f314 := by kernel_rfl, f292 := by kernel_rfl, f303 := by kernel_rfl, f294 := by kernel_rfl, f296 := by kernel_rfl, f297 := by kernel_rfl, f293 := by kernel_rfl, f290 := by kernel_rfl, f291 := by kernel_rfl, f177 := by kernel_rfl, f48 := rfl, o48 := Xiv, f146 := rfl, f105 := rfl, o146 := Xgc, o105 := Yt4, s105 := Xjs, f304 := rfl, o304 := Wn5, f323 := rfl, o323 := Yy1, f197 := rfl, o197 := Wcv }
theorem own : ownKnob Tryz.prog.godebug = none := by kernel_rfl
theorem Wqf : laidOutB Tryz.prog = true := by kernel_rfl
theorem Xey {x : Zi} (hx : Zko x) : Zb0 x := ⟨hx.status.1, hx.key, fun y hy => ⟨((hx.frames.2 y hy).mode).1, Nat.le_trans (hx.frames.2 y hy).locals.1 (by decide), fun z hz => ((hx.frames.2 y hy).locals.2 z hz).value⟩, fun y hy => (hx.defers.2 y hy).arg, fun y hy => ⟨(hx.panics.2 y hy).tag, (hx.panics.2 y hy).value, (hx.panics.2 y hy).flags⟩, Nat.le_trans hx.frames.1 (by decide), Nat.le_trans hx.defers.1 (by decide), Nat.le_trans hx.panics.1 (by decide)⟩
theorem Xku {s : Zt} (hs : Zmm s) : Fk s := ⟨hs.outcome.1, fun x hx => Xey (hs.routines.2 x hx), Nat.le_trans hs.routines.1 (by decide)⟩
theorem typed (avs : List AV) (h : Zk5 X.T [26, 29] avs) : Zf PG 286 avs (.b true) := by
  match avs, h with
  | [a, b], ⟨h1, h2, _⟩ =>
    obtain ⟨m, rfl, hm⟩ := Ki.isImg Yxu h1
    obtain ⟨s, rfl, hs⟩ := Ki.isSta Xhr h2
    exact Xqn has.toHasD1 has.f291 has.f177 rfl (Nat.le_trans hm.funcs.1 (by decide)) (Xku hs)

theorem glob {W : World} (h : W.ShapedOpen Tryz.prog) : Mp X.fm W := fun g hg => by
  obtain rfl : 1000000000 = g := Option.some.inj ((show X.fm 1000000000004 = some 1000000000 from rfl).symm.trans hg)
  obtain ⟨m, hm⟩ := cell_of_shapedOpen_int (P := Tryz.prog) (g := 0) (t := 3) (zero := #[.int .i64 0]) (k := .i64) h (of_decide_eq_true (by kernel_rfl)) (by kernel_rfl) rfl (by kernel_rfl) (by kernel_rfl) (by kernel_rfl)
  exact ⟨Xox hm, m, hm⟩
set_option maxRecDepth 100000 in
theorem Xma (os : Os) (started : os.Started) (H : Type) (enc : TypeId × Value -> H) :
    ReturnsInHanded {} Tryz.checked os 3 .any (fun w args => (Rows.reportOrderSpec.pre enc Tryz.prog Tryz.f3 Rows.reportOrderRow.domain false w args /\ laidMetH Tryz.prog Rows.reportOrderRow.laid w) /\ sizedMet enc Tryz.prog Tryz.f3 (OpenSpec.ofChange Rows.reportOrderSpec) false w args) (Rows.reportOrderSpec.post enc Tryz.prog Tryz.f3 false true false false) := by
  refine Xo5 (C := Tryz.checked) (X := fun w _ => laidMetH Tryz.prog Rows.reportOrderRow.laid w) own started (by kernel_rfl) Tryz.func3
    (ChangeSpec.witness_shaped (enc := enc) (C := Tryz.checked) (os := os) (X := fun w _ => laidMetH Tryz.prog Rows.reportOrderRow.laid w) false (World.laidAll Tryz.prog os Rows.reportOrderRow.laid) #[.agg #[.slice none 0 0, .slice none 0 0, .slice none 0 0], .agg #[.int .u8 0, .int .i64 0, .int .i64 0, .slice none 0 0]] 8 (World.laidAll_os _ _ _)
      (World.shaped_of_ZipB (by kernel_rfl) (by kernel_rfl)) (by kernel_rfl) (by kernel_rfl) (by kernel_rfl)
      (by rw [MakeChecks.laidMetH_plain _ _ _ (by kernel_rfl)]; exact laidMet_laidAll _ (by kernel_rfl) (by kernel_rfl))) ?_
  intro W base args ds gs before hval0 hW hsh
  have hval : ∀ (j : Nat) t v, Tryz.f3.params[j]? = some t -> args[j]? = some v -> Value.okWide Tryz.prog W .any base t v := hval0
  have hW' := hW
  obtain ⟨p, q, hA0, hV, rfl, hfz, hnd⟩ := hW
  have hA : DataW.TrodAll enc Tryz.prog W 0 (fun _ => true) true Tryz.f3.params.toList args.toList ds p := hA0
  rw [Tryz.params3] at hA hval
  obtain ⟨rfl, rfl⟩ := trodVars_none hV
  obtain ⟨avs, hR, hok⟩ := Ynp at_.T at_.types (ts := [26, 29]) (by decide) (fun j t v h1 h2 => hval j t v (by simpa using h1) (by simpa using h2)) hA
  have hlt := Yrg hA
  have hlen := Zx4 hA
  refine (Xeo at_ (f := 3) (c := 286) rfl (Yla.enters _ _) hR (typed avs hok) (glob hsh)).mono fun e W' ⟨he, bel⟩ => ?_
  subst he
  have hB := Ylv Wqf bel (by kernel_rfl) hA hlt
  obtain ⟨d0, d1, rfl⟩ := ds2 hlen
  exact ⟨_, rfl, _, _, _, [], _, [], hW', trodAll_mk1 (shut_bool Tryz.underlying4 _), hB, rfl, bel.frame _, fun h => by cases h⟩

theorem Xm1 : Rows.ReportOrderSaid :=
  OpenClaim.holds_of_wide 3 Tryz.f3 rfl rfl rfl rfl rfl rfl rfl ⟨rfl, rfl, rfl, rfl, rfl⟩ rfl rfl rfl rfl rfl (by kernel_rfl) Tryz.func3 (by kernel_rfl)
    (of_decide_eq_true (by kernel_rfl)) (by unfold Func.isWrapper; rw [if_neg (of_decide_eq_false (by kernel_rfl))]; exact ⟨rfl, rfl⟩)
    (fun os started H enc _ => Xma os started H enc)

/-- The statement: the card. -/
theorem proved : Rows.ReportOrderCardSaid :=
  Claim7.holds_tied_plain_at .later [] [.data, .pinned] true (true, "7754283d7d2aa53d68f672087f55f7cc4332f55f723f6abf0f59cd83e0be1448") false Xm1 (fun _ h => by cases h) (by kernel_rfl) (fun _ h => by cases h) reportOrder_row_tie rfl ⟨rfl, rfl⟩ (by kernel_rfl) rfl
    (fun f fn hf hfn => by
      obtain rfl : f = 3 := Option.some.inj ((show Tryz.prog.funcNamed Tryz.f3.name = some 3 by kernel_rfl).symm.trans hf) |>.symm
      obtain rfl : fn = Tryz.f3 := (Option.some.inj (Tryz.func3.symm.trans hfn)).symm
      exact ⟨by kernel_rfl, fun j t ht => by
        rw [Tryz.params3] at ht
        have hm : t ∈ [26, 29] := by simpa using Array.mem_of_getElem? ht
        have hall : ([26, 29].all fun u => !Tryz.prog.wantsStandIn u) = true := by kernel_rfl
        exact (show Tryz.prog.wantsStandIn t = false by simpa using List.all_eq_true.1 hall t hm)⟩)
    (by kernel_rfl)
#print axioms proved
end Go.Proofs.YtheacfnopahmjaaGreatDoor.ReportOrderProof
