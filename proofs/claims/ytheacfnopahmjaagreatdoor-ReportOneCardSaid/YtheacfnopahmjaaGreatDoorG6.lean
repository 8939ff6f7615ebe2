/- The statement ReportOne: for every input the law returns true, and each argument reads afterwards as before. No conditions. -/
import Derived.Test.YtheacfnopahmjaaGreatDoorG5
import Derived.Test.YtheacfnopahmjaaGreatDoorG3
import Derived.Test.YtheacfnopahmjaaGreatDoorG4
import Derived.Lib.SplitLaws
import Derived.Lib.IndexBytes
import Derived.Lib.IndexMore
import Derived.Test.YtheacfnopahmjaaGreatDoorG2
import Derived.Test.YtheacfnopahmjaaGreatDoorTie
import Derived.Test.YtheacfnopahmjaaGreatDoorCards
import Derived.SevenTiedAt
set_option linter.all false
/- Yf of the proof. -/
namespace Go.AM
open Go
theorem Zkp {f:Yb} {n:Int} (h0:0<=n) (h1:n<f.slots.length) :∃s,f.slots[n.toNat]?=some s/\s∈f.slots/\Bv f n=s.name:=by
 have h:n.toNat<f.slots.length:=by omega
 refine ⟨f.slots[n.toNat],List.getElem?_eq_getElem h,List.getElem_mem h,?_⟩
 unfold Bv
 rw [List.getElem?_eq_getElem h]
 rfl
theorem Zb5 {α β:Type} (g:α->β) {l:List α} {i:Nat} (h:i<l.length):(l.take (i+1)).map g=(l.take i).map g++[g l[i]]:=by
 rw [List.take_succ_eq_append_getElem h,List.map_append]
 rfl
theorem Nw {m:Zf} {x:Zg} {f:Yb} (h:m.funcs[x.func.toNat]?=some f) (k:Int):Gd m k x=Gl f k x::x.locals.map (Gm f):=by
 unfold Gd
 rw [h]
theorem Zus {m:Zf} {k:Int} {x:Zg} (h:k<0\/170<=k):Ut m k x=([],2):=by unfold Ut;rw [if_pos h]
theorem Xis {m:Zf} {k:Int} {x:Zg} (h:¬(k<0\/170<=k)) (h1:Jy m x≠true):Ut m k x=([],8):=by unfold Ut;rw [if_neg h,if_neg h1]
theorem Zww {m:Zf} {k:Int} {x:Zg} (h:¬(k<0\/170<=k)) (h1:Jy m x=true):Ut m k x=(Gd m k x,0):=by unfold Ut;rw [if_neg h,if_pos h1]
noncomputable def Cb (a b:Zg):Bool:=@decide (a=b) (Classical.propDecidable _)
theorem Zvv {v w:Zg}:Cb v w=true↔v=w:=by unfold Cb;simp
theorem Yhj {v w:Zg}:Cb v w=false↔v≠w:=by rw [<- Bool.not_eq_true,Zvv]
noncomputable def Tr (a b:List Zz):Bool:=@decide (a=b) (Classical.propDecidable _)
theorem Yba {v w:List Zz}:Tr v w=true↔v=w:=by unfold Tr;simp
theorem Yv3 {v w:List Zz}:Tr v w=false↔v≠w:=by rw [<- Bool.not_eq_true,Yba]
section
variable {PG:Za} (H:HasF PG)
include H
theorem c82 {m:Zf} {k:Int} {x:Zg} (hm:Wr m) (hx:Uq x):Ze PG 82 [m.av,.i .i64 k,x.av] (.tup [.sl .ext ((Ut m k x).1.map Zv),.i .i64 (Ut m k x).2]):=by
 obtain ⟨y,z,⟨rfl,rfl⟩,h⟩:=p82 H.f82 (m0:=m) (k1:=k) (x2:=x) (K:=fun y z=>y=(Ut m k x).1/\z=(Ut m k x).2) (by
  unfold Zhk Zm5
  refine ⟨fun h=>by rw [Zus (.inl h)];exact ⟨rfl,rfl⟩,fun h0=>⟨fun h=>by rw [Zus (.inr h)];exact ⟨rfl,rfl⟩,fun h1=>?_⟩⟩
  unfold Zo6
  refine ⟨_,c86 H hm hx,fun h=>?_,fun h=>?_⟩
  ·by_cases hb:Jy m x=true
   ·rw [<- Zjq hb] at h;exact absurd rfl h
   ·rw [Xis (by omega) hb,<- Zfw hb];exact ⟨rfl,rfl⟩
  have hb:Jy m x=true:=by
   by_cases hb:Jy m x=true
   ·exact hb
   ·rw [<- Zfw hb] at h;exact absurd (by decide) h
  rw [Zww (by omega) hb]
  obtain ⟨f0,f1,f,hf,hF⟩:=Rv.1 hb
  obtain ⟨g1,g2,g3,g4,g5,g6⟩:=Aa.1 hF
  have hmem:=List.mem_of_getElem? hf
  obtain ⟨q1,q2,q3,q4⟩:=hm.f f hmem
  have hn:=hm.n
  have hfl:x.func<m.funcs.length:=by
   have:=(List.getElem?_eq_some_iff.1 hf).1
   omega
  have l1:=Kx k
  have l2:=Kx x.func
  have l3:=Kx x.pos
  have l4:=Bf f.name
  have l5:=Zuy hx.m f1
  rw [Nw hf]
  unfold Znv
  refine ⟨f0,f,hf,?_⟩
  unfold Zme
  refine ⟨_,Zfn H (by omega) (by omega),?_,?_,_,Zfn H (by omega) (by omega),?_,?_,_,Zdk H (by omega),?_,?_,_,Zfn H (by omega) (by omega),?_,?_,_,Zyy H,rfl,hx.m,_,Xt3 hx.m f1,?_,fun P hP=>?_⟩
  all_goals try (rw [Ge];simp only [List.length_append,List.length_cons,List.length_nil];omega)
  have len:=Zmb g6
  have hn2:x.locals.length<=16:=by
   rcases len with h | h
   ·rw [h];exact Nat.zero_le _
   ·omega
  refine Mc (P:=fun o i=>P o i f) (fun i=>Gl f k x::(x.locals.take i).map (Gm f)) x.locals.length (hP _ _ _ ?_) fun i hi ih=>hP _ _ _ ?_
  ·unfold Zgo Zmo
   rw [List.take_length]
   exact ⟨fun h=>absurd h (by omega),fun _=>⟨rfl,rfl⟩⟩
  ·obtain ⟨a1,a2,a3⟩:=Zed g6 _ (List.getElem_mem hi)
   obtain ⟨s,b1,b2,b3⟩:=Zkp (f:=f) (n:=x.locals[i].slot) (by omega) (by omega)
   have c1:=Kx x.locals[i].slot
   have c2:=Bf s.name
   have c3:=q4 s b2
   have c4:=Tz a3
   unfold Zgo
   refine ⟨fun _=>⟨by omega,_,Xm hi,_,_,c72 H.toHas38 (hx.v _ (List.getElem_mem hi)),fun h=>absurd (Nh.2 a3) h,fun _=>?_⟩,fun h=>absurd (show (i:Int)<x.locals.length by omega) h⟩
   rw [if_pos a3]
   refine ⟨_,Zfn H (by omega) (by omega),?_,?_,by omega,s,b1,_,Zdk H (by omega),?_,?_,?_,⟨?_,?_⟩,?_⟩
   all_goals try (rw [Ge];simp only [List.length_append,List.length_cons,List.length_nil];omega)
   all_goals try (rw [Wl];simp only [List.length_append,List.length_cons,List.length_nil,List.length_map,List.length_take];omega)
   rw [Xq (by omega) (by omega)]
   rw [Zb5 (Gm f) hi] at ih
   unfold Gm at ih ⊢
   rw [b3] at ih
   exact ih)
 exact h
theorem Whu {a b:List Zz} (ha:a.length<=9223372036854775807) (hw :∀l∈a,Wf l.value):Ze PG 124 [.sl .ext (a.map Zz.row),.sl .ext (b.map Zz.row)] (.b (Tr a b)):=by
 obtain ⟨x,rfl,h⟩:=Yn8 H.f124 (a0:=a) (b1:=b) (K:=fun x=>x=Tr a b) (by
  have no :∀{p:Prop},(a=b->p)->¬p->false=Tr a b:=fun h1 h2=>(Yv3.2 fun h=>h2 (h1 h)).symm
  unfold Zq3
  refine ⟨fun h=>no (fun e=>by rw [e]) h,fun h P hP=>?_⟩
  have h5:a.length=b.length:=by omega
  refine Db (P:=P) a.length (fun i=>a.take i=b.take i) (by simp) (fun hI=>hP _ ?_) (fun i hi hI ihP=>hP _ ?_)
  ·unfold Zfu Zni
   refine ⟨fun h=>absurd h (by omega),fun _=>?_⟩
   rw [List.take_length,h5,List.take_length] at hI
   exact (Yba.2 hI).symm
  ·have hi2:i<b.length:=by omega
   unfold Zfu
   refine ⟨fun _=>⟨by omega,_,Xm hi,by omega,_,Xm hi2,fun h6=>no (p:=a[i].slot=b[i].slot) (fun e=>by subst e;rfl) h6,fun h6=>⟨by omega,_,Xm hi,by omega,_,Xm hi2,_,c78 H.toHas38 (hw _ (List.getElem_mem hi)) _,fun h7=>no (p:=a[i].value=b[i].value) (fun e=>by subst e;rfl) (Zet.1 (by simpa using h7)),fun h7=>?_⟩⟩,fun h=>absurd (show (i:Int)<a.length by omega) h⟩
   rw [Xq (by omega) (by omega)]
   refine ihP ?_
   have e1:a[i].slot=b[i].slot:=Decidable.not_not.1 h6
   have e2:a[i].value=b[i].value:=Lr.1 (by simpa using h7)
   have e:a[i]=b[i]:=by
    cases ha:a[i];cases hb:b[i]
    rw [ha,hb] at e1 e2
    simp only at e1 e2
    rw [e1,e2]
   rw [List.take_succ_eq_append_getElem hi,List.take_succ_eq_append_getElem hi2,hI,e])
 exact h
theorem c88 {a b:Zg} (ha:Uq a):Ze PG 88 [a.av,b.av] (.b (Cb a b)):=by
 obtain ⟨x,rfl,h⟩:=p88 H.f88 (a0:=a) (b1:=b) (K:=fun x=>x=Cb a b) (by
  have no :∀{p:Prop},(a=b->p)->¬p->false=Cb a b:=fun h1 h2=>(Yhj.2 fun h=>h2 (h1 h)).symm
  unfold Zry
  refine ⟨fun h1=>⟨fun h2=>⟨fun h3=>⟨_,Whu H ha.n ha.v,?_⟩,fun h=>no (fun e=>by rw [e]) h⟩,fun h=>no (fun e=>by rw [e]) h⟩,fun h=>no (fun e=>by rw [e]) h⟩
  cases a;cases b
  simp only at h1 h2 h3 ⊢
  subst h1;subst h2;subst h3
  unfold Tr Cb
  simp)
 exact h
theorem c79 {m:Zf} (hn:m.funcs.length<=9223372036854775807):Ze PG 79 [m.av] (.b (Ny m)):=by
 obtain ⟨x,rfl,h⟩:=p79 H.f79 (m0:=m) (K:=fun x=>x=Ny m) (by
  unfold Zpk
  intro P hP
  have fin:(m.funcs.take 41).any Dt=false->Ag PG (fun x=>x=Ny m) m:=by
   intro h
   unfold Ag Ny
   rw [h,Bool.false_or]
   exact decide_eq_decide.2 (by omega)
  refine Db (P:=fun i=>P i m) (min m.funcs.length 41) (fun i=>(m.funcs.take i).any Dt=false) (by simp) (fun hI=>hP _ _ ?_) fun i hi hI ihP=>hP _ _ ?_
  ·unfold Zg9
   refine ⟨fun h=>⟨fun h'=>absurd h' (by omega),fun _=>fin ?_⟩,fun h=>fin ?_⟩
   ·rwa [show min m.funcs.length 41=41 by omega] at hI
   ·rw [show min m.funcs.length 41=m.funcs.length by omega,List.take_length] at hI
    rw [List.any_eq_false] at hI ⊢
    exact fun x hx=>hI x (List.mem_of_mem_take hx)
  ·have hil:i<m.funcs.length:=by omega
   have yes:Dt m.funcs[i]=true->true=Ny m:=by
    intro h
    unfold Ny
    rw [List.any_eq_true.2 ⟨m.funcs[i],by rw [List.mem_take_iff_getElem];exact ⟨i,by omega,rfl⟩,h⟩]
    rfl
   have go:Dt m.funcs[i]=false->P (IntKind.i64.wrap ((i:Int)+1)) m:=by
    intro h
    rw [Xq (by omega) (by omega)]
    exact ihP (by rw [List.take_succ_eq_append_getElem hil,List.any_append,hI];simpa using h)
   unfold Zg9
   refine ⟨fun _=>⟨fun _=>?_,fun h=>absurd (show (i:Int)<=40 by omega) h⟩,fun h=>absurd (show (i:Int)<m.funcs.length by omega) h⟩
   unfold Zhs
   refine ⟨by omega,_,Xm hil,fun h=>yes (by unfold Dt;simp;omega),fun h1=>⟨fun h=>yes (by unfold Dt;simp;omega),fun h2=>⟨fun h=>yes (by unfold Dt;simp;omega),fun h3=>?_⟩⟩⟩
   unfold Zr1
   intro P1 hP1
   refine Db (P:=fun i=>P1 i m _) m.funcs[i].slots.length (fun j=>(m.funcs[i].slots.take j).any Ft=false) (by simp) (fun hJ=>hP1 _ _ _ ?_) fun j hj hJ ihJ=>hP1 _ _ _ ?_
   ·unfold Zcg Zit
    refine ⟨fun h=>absurd h (by omega),fun _=>go ?_⟩
    rw [List.take_length] at hJ
    unfold Dt
    rw [hJ,decide_eq_false (by omega),decide_eq_false (by omega),decide_eq_false (by omega)]
    rfl
   ·unfold Zcg
    refine ⟨fun _=>⟨by omega,_,Xm hj,fun h=>yes ?_,fun h=>?_⟩,fun h=>absurd (show (j:Int)<m.funcs[i].slots.length by omega) h⟩
    ·unfold Dt
     rw [List.any_eq_true.2 ⟨_,List.getElem_mem hj,by unfold Ft;exact decide_eq_true (by omega)⟩,Bool.or_true]
    ·rw [Xq (by omega) (by omega)]
     refine ihJ ?_
     rw [List.take_succ_eq_append_getElem hj,List.any_append,hJ]
     simp [Ft]
     omega)
 exact h
theorem c80 {x:Zg} (hx:Uq x):Ze PG 80 [x.av] (.b (Ss x)):=by
 obtain ⟨y,rfl,h⟩:=p80 H.f80 (x0:=x) (K:=fun y=>y=Ss x) (by
  unfold Zik
  intro P hP
  have hn:=hx.n
  have fin:(x.locals.take 21).any (fun l=>Dz l.value)=false->Fl PG (fun y=>y=Ss x) x:=by
   intro h
   unfold Fl Ss
   rw [h,Bool.false_or]
   exact decide_eq_decide.2 (by omega)
  refine Db (P:=fun i=>P i x) (min x.locals.length 21) (fun i=>(x.locals.take i).any (fun l=>Dz l.value)=false) (by simp) (fun hI=>hP _ _ ?_) fun i hi hI ihP=>hP _ _ ?_
  ·unfold Zfr
   refine ⟨fun h=>⟨fun h'=>absurd h' (by omega),fun _=>fin ?_⟩,fun h=>fin ?_⟩
   ·rwa [show min x.locals.length 21=21 by omega] at hI
   ·rw [show min x.locals.length 21=x.locals.length by omega,List.take_length] at hI
    rw [List.any_eq_false] at hI ⊢
    exact fun x hx=>hI x (List.mem_of_mem_take hx)
  ·have hil:i<x.locals.length:=by omega
   unfold Zfr Znt
   refine ⟨fun _=>⟨fun _=>⟨by omega,_,Xm hil,_,c71 H.toHas38 (hx.v _ (List.getElem_mem hil)),fun h=>?_,fun h=>?_⟩,fun h=>absurd (show (i:Int)<=20 by omega) h⟩,fun h=>absurd (show (i:Int)<x.locals.length by omega) h⟩
   ·unfold Ss
    rw [List.any_eq_true.2 ⟨x.locals[i],by rw [List.mem_take_iff_getElem];exact ⟨i,by omega,rfl⟩,h⟩]
    rfl
   ·rw [Xq (by omega) (by omega)]
    exact ihP (by rw [List.take_succ_eq_append_getElem hil,List.any_append,hI];simpa using h))
 exact h
end
end Go.AM

/- Yf of the proof. -/
namespace Go.AM
open Go
structure HasG (PG:Za):Prop extends HasF PG where
 f84:PG.fn 84=some Zap
 f117:PG.fn 117=some Ph
 f118:PG.fn 118=some Af
 f140:PG.fn 140=some Ll
 f143:PG.fn 143=some Zow
theorem Ycz {m:Zf} {n:Int} {f:Yb} (h:m.funcs[n.toNat]?=some f):Qj m n=f.name:=by unfold Qj;rw [h];rfl
theorem Wc4 {m:Zf} {n:Int} {f:Yb} (h:m.funcs[n.toNat]?=some f):Uu m n=(f.code.length:Int):=by unfold Uu;rw [h];rfl
theorem Xpb (a:Int):(if 0<a then a else 0)=max 0 a:=by
 by_cases h:0<a
 ·rw [if_pos h];omega
 ·rw [if_neg h];omega
theorem Zn8 (n:Int) (s:Zc):(Yu n s).2.2.length<=s.length:=Ygy s
section
variable {PG:Za} (H:HasG PG)
include H
theorem Zf1 {n:Int} {s:Zc} (hs:s.length<=1000000000):Yp PG 140 (Bx [.s s]) [.i .i64 n] (fun r=>r=.tup [.i .i64 (Yu n s).1,.b (Yu n s).2.1]) (Bx [.s (Yu n s).2.2]):=by
 refine (Wbg H.f140 (n1:=n) (mP:=⟨s⟩) (K:=fun x y b=>x=(Yu n s).1/\y=(Yu n s).2.1/\b=⟨(Yu n s).2.2⟩) ?_).to (b:=⟨(Yu n s).2.2⟩) fun r b' hk=>?_
 ·unfold Zn0
  refine ⟨_,_,⟨_⟩,Yif H.toHas38 hs,fun h=>⟨fun h1=>⟨rfl,?_,rfl⟩,fun h1=>⟨rfl,?_,rfl⟩⟩,fun h=>⟨rfl,?_,rfl⟩⟩
  ·unfold Yu;simp only [h,decide_eq_true (show 0<=(Kn s).1 by omega),Bool.true_and]
  ·unfold Yu;simp only [h,decide_eq_false (show ¬0<=(Kn s).1 by omega),Bool.true_and,Bool.false_and]
  ·unfold Yu;simp only [h,Bool.false_and]
 ·obtain ⟨x0,x1,h1,rfl,rfl,rfl⟩:=hk
  exact ⟨h1,rfl⟩
abbrev FrA (r:Int × Zg × Bool):AV:=.tup [.i .i64 r.1,r.2.1.avo .full,.b r.2.2]
theorem Ymc {m:Zf} (hm:Wr m) {s:Zc} (hs:s.length<=1000000000):Ym PG 117 [m.av,.s s] (fun r=>r=FrA (Vk m s)):=by
 refine (Xw0 H.f117 (m0:=m) (line1:=s) (K:=fun x y z=>x=(Vk m s).1/\y=(Vk m s).2.1/\z=(Vk m s).2.2) ?_).to ?_
 ·have hn:=hm.n
  unfold Zin Zh7 Zpb Zn7
  refine ⟨_,⟨(Zn [35] s).1⟩,Ui H.toHas38 [35] s,fun h=>?_,fun h=>?_⟩
  ·unfold Vk
   rw [if_pos (by simpa using h)]
   exact ⟨rfl,rfl,rfl⟩
  have e:Vk m s=Mk m (Zn [35] s).1:=by unfold Vk;rw [if_neg (by simpa using h)]
  rw [e]
  have hl:(Zn [35] s).1.length<=1000000000:=Nat.le_trans (Jw _ _) hs
  clear e h hs
  generalize (Zn [35] s).1=t at hl ⊢
  unfold Zrc Zs2 Zd8
  refine ⟨_,_,⟨(Yu 170 t).2.2⟩,Zf1 H hl,fun h=>⟨fun _=>?_,fun h'=>(by cases h')⟩,fun h=>⟨_,⟨(Zn [32] (Yu 170 t).2.2).1⟩,Ui H.toHas38 [32] _,fun h2=>?_,fun h2=>?_⟩⟩
  ·unfold Mk
   rw [if_pos (by simpa using h)]
   exact ⟨rfl,rfl,rfl⟩
  ·unfold Mk
   rw [if_neg (by simpa using h),if_pos (by simpa using h2)]
   exact ⟨rfl,rfl,rfl⟩
  have e:Mk m t=Bs m (Yu 170 t).1 (Zn [32] (Yu 170 t).2.2).1:=by unfold Mk;rw [if_neg (by simpa using h),if_neg (by simpa using h2)]
  rw [e]
  have hl:(Zn [32] (Yu 170 t).2.2).1.length<=1000000000:=Nat.le_trans (Jw _ _) (Nat.le_trans (Zn8 _ _) hl)
  clear e h h2
  generalize (Zn [32] (Yu 170 t).2.2).1=u at hl ⊢
  generalize (Yu 170 t).1=k
  unfold Zq2 Zhj Zgk
  refine ⟨_,_,⟨(Yu m.funcs.length u).2.2⟩,Zf1 H hl,fun h=>⟨fun _=>?_,fun h'=>(by cases h')⟩,fun h=>?_⟩
  ·unfold Bs
   rw [if_pos (by simpa using h)]
   exact ⟨rfl,rfl,rfl⟩
  have h:(Yu m.funcs.length u).2.1=true:=by simpa using h
  have hr:=Zce _ _ h
  obtain ⟨f,hf,hmem⟩:=Zfz hr.1 hr.2
  obtain ⟨q1,q2,q3,q4⟩:=hm.f f hmem
  have q5:=Bf f.name
  refine ⟨hr.1,f,hf,_,Zdk H.toHasF (by omega),?_,?_,_,⟨(Zn ([32]++quo f.name++[32,97,116,32]) (Yu m.funcs.length u).2.2).1⟩,Ui H.toHas38 _ _,fun h2=>?_,fun h2=>?_⟩
  ·rw [Ge];simp only [List.length_append,List.length_cons,List.length_nil];omega
  ·rw [Ge];simp only [List.length_append,List.length_cons,List.length_nil];omega
  ·unfold Bs
   rw [if_neg (by rw [h];decide),Ycz hf,if_pos (by simpa using h2)]
   exact ⟨rfl,rfl,rfl⟩
  have e:Bs m k u=Mq m k (Yu m.funcs.length u).1 (Zn ([32]++quo f.name++[32,97,116,32]) (Yu m.funcs.length u).2.2).1:=by
   unfold Bs
   rw [if_neg (by rw [h];decide),Ycz hf,if_neg (by simpa using h2)]
  rw [e]
  have hl:(Zn ([32]++quo f.name++[32,97,116,32]) (Yu m.funcs.length u).2.2).1.length<=1000000000:=Nat.le_trans (Jw _ _) (Nat.le_trans (Zn8 _ _) hl)
  clear e h h2 q5
  generalize (Zn ([32]++quo f.name++[32,97,116,32]) (Yu m.funcs.length u).2.2).1=v at hl ⊢
  generalize (Yu m.funcs.length u).1=fi at hr hf ⊢
  have hc:=Wc4 hf
  unfold Znl Zbe
  refine ⟨hr.1,f,hf,_,_,⟨(Yu (Uu m fi) v).2.2⟩,by rw [hc];exact Zf1 H hl,fun h=>⟨fun _=>?_,fun h'=>(by cases h')⟩,fun h=>⟨_,⟨(Zn [32] (Yu (Uu m fi) v).2.2).1⟩,Ui H.toHas38 [32] _,fun h2=>?_,fun h2=>?_⟩⟩
  ·unfold Mq
   rw [if_pos (by rw [hc];simpa using h),hc]
   exact ⟨rfl,rfl,rfl⟩
  ·unfold Mq
   rw [if_neg (by rw [hc];simpa using h),if_pos (by simpa using h2),hc]
   exact ⟨rfl,rfl,rfl⟩
  have e:Mq m k fi v=Fa k fi (Yu (Uu m fi) v).1 (Zn [32] (Yu (Uu m fi) v).2.2).1:=by
   unfold Mq
   rw [if_neg (by rw [hc];simpa using h),if_neg (by simpa using h2)]
  rw [e]
  unfold Zjd Fa
  have hb:=Wjc (Zn [32] (Yu (Uu m fi) v).2.2).1
  refine ⟨_,Zyy H.toHasF,rfl,rfl,_,Zsw H.toHasF (l:=Ti) (by decide) _,rfl,?_,rfl⟩
  rw [Xpb,<- hc]
  congr 1
  exact Za2 (show 0<=max 0 (Cd (Zn [32] (Yu (Uu m fi) v).2.2).1) by omega) (show max 0 (Cd (Zn [32] (Yu (Uu m fi) v).2.2).1)<_ by omega)
 ·rintro r ⟨x,y,z,rfl,rfl,rfl,rfl⟩
  rfl
theorem Yxl {f:Yb} (hf:f.slots.length<=30/\∀s∈f.slots,s.name.length<=40) {s:Zc} (hs:s.length<=1000000000) :∃y ok,(ok=(Kf f s).isSome/\(ok=true->Kf f s=some y))/\Ze PG 118 [f.av,.s s] (.tup [y.av,.b ok]):=by
 refine Ywh H.f118 (f0:=f) (line1:=s) (K:=fun y ok=>ok=(Kf f s).isSome/\(ok=true->Kf f s=some y)) ?_
 unfold Zki
 have no:Kf f s=none->∀y:Zz,false=(Kf f s).isSome/\(false=true->Kf f s=some y):=fun h y=>by rw [h];exact ⟨rfl,fun h=>by cases h⟩
 refine ⟨_,⟨(Zn [32,32] s).1⟩,Ui H.toHas38 [32,32] s,fun h=>no ?_ _,fun h=>?_⟩
 ·unfold Kf;rw [if_pos (by simpa using h)]
 have hl:(Zn [32,32] s).1.length<=1000000000:=Nat.le_trans (Jw _ _) hs
 refine ⟨_,_,⟨(Yu f.slots.length (Zn [32,32] s).1).2.2⟩,Zf1 H hl,fun h2=>no ?_ _,fun h2=>?_⟩
 ·unfold Kf;rw [if_neg (by simpa using h),if_pos (by simpa using h2)]
 have h2':(Yu f.slots.length (Zn [32,32] s).1).2.1=true:=by simpa using h2
 have hr:=Zce _ _ h2'
 obtain ⟨sl,k1,k2,k3⟩:=Zkp hr.1 hr.2
 have q4:=hf.2 sl k2
 have q5:=Bf sl.name
 refine ⟨hr.1,sl,k1,_,Zdk H.toHasF (by omega),?_,?_,_,⟨(Zn ([32]++quo sl.name++[32,61,32]) (Yu f.slots.length (Zn [32,32] s).1).2.2).1⟩,Ui H.toHas38 _ _,fun h3=>no ?_ _,fun h3=>?_⟩
 ·rw [Ge];simp only [List.length_append,List.length_cons,List.length_nil];omega
 ·rw [Ge];simp only [List.length_append,List.length_cons,List.length_nil];omega
 ·unfold Kf;rw [if_neg (by simpa using h),if_neg (by simpa using h2),k3,if_pos (by simpa using h3)]
 unfold Zpd
 refine ⟨_,_,c74 H.toHas38 (Nat.le_trans (Jw _ _) (Nat.le_trans (Zn8 _ _) hl)),?_⟩
 unfold Kf
 rw [if_neg (by simpa using h),if_neg (by simpa using h2),k3,if_neg (by simpa using h3)]
 split
 ·rename_i h4;exact ⟨by rw [decide_eq_true h4];rfl,fun _=>rfl⟩
 ·rename_i h4;exact ⟨by rw [decide_eq_false h4];rfl,fun h5=>by simp only [decide_eq_true_eq] at h5;exact absurd h5 h4⟩
end
end Go.AM

/- Yf of the proof. -/
namespace Go.AM
open Go
section
variable {PG:Za} (H:HasG PG)
include H
end
end Go.AM

/- Yf of the proof. -/
namespace Go.AM
open Go
theorem Xb1 {n:Nat} {l:List Zc} (h:Dj n l=false) :∀s∈l,s.length<=n:=Zuc.1 h
theorem Zxo (f:Yb) :∀(l:List Zc) (s:Zc),Qi f (l++[s])=(match Qi f l with | none=>none | some ys=>match Kf f s with | none=>none | some y=>some (ys++[y]))
 | [],s=>by
  simp only [List.nil_append,Qi]
  try (cases Kf f s<;>rfl)
 | x::r,s=>by
  simp only [List.cons_append,Qi,Zxo f r s]
  cases Kf f x with
  | none=>rfl
  | some y=>
   cases Qi f r with
   | none=>rfl
   | some ys=>cases Kf f s<;>rfl
theorem Ywf {f:Yb} {l:List Zc} {i:Nat} (hi:i<l.length):Qi f (l.take (i+1))=(match Qi f (l.take i) with | none=>none | some ys=>match Kf f l[i] with | none=>none | some y=>some (ys++[y])):=by
 rw [List.take_succ_eq_append_getElem hi,Zxo]
theorem Ycs {f:Yb} :∀{l:List Zc} {i:Nat},Qi f (l.take i)=none->Qi f l=none
 | [],i,h=>by rw [List.take_nil] at h;exact h
 | x::r,0,h=>by cases h
 | x::r,i+1,h=>by
  simp only [List.take_succ_cons,Qi] at h ⊢
  cases hx:Kf f x with
  | none=>rfl
  | some y=>
   rw [hx] at h
   simp only at h ⊢
   cases hr:Qi f (r.take i) with
   | none=>rw [Ycs hr]
   | some ys=>rw [hr] at h;cases h
theorem Yxj {f:Yb} {s:Zc} {y:Zz} (h:Kf f s=some y):Wf y.value:=by
 unfold Kf at h
 repeat' split at h
 all_goals first | (cases h;done) | (cases h;exact Yga _)
theorem Zcb {f:Yb} :∀{l:List Zc} {ys:List Zz},Qi f l=some ys->ys.length=l.length/\∀y∈ys,Wf y.value
 | [],ys,h=>by cases h;exact ⟨rfl,by simp⟩
 | s::r,ys,h=>by
  rw [Qi] at h
  cases hx:Kf f s with
  | none=>rw [hx] at h;cases h
  | some y=>
   rw [hx] at h
   simp only at h
   cases hr:Qi f r with
   | none=>rw [hr] at h;cases h
   | some zs=>
    rw [hr] at h
    cases h
    obtain ⟨h1,h2⟩:=Zcb hr
    exact ⟨by simp [h1],fun y hy=>by rcases List.mem_cons.1 hy with rfl | hy;exact Yxj hx;exact h2 y hy⟩
def Ld (m:Zf) (l:List Zc) (k:Int) (x:Zg) (f:Yb):Int × Zg × Int:=match Qi f (l.drop 1) with
 | none=>(0,fz,12)
 | some ys=>if Ut m k { x with locals:=ys }=(l,0) then (k,{ x with locals:=ys },0) else (0,fz,12)
theorem Zlw {m:Zf} {l:List Zc} (h:17<l.length\/Dj 1400060 l=true):Kp m l=(0,fz,4):=by unfold Kp;rw [if_pos h]
theorem Ym4 {m:Zf}:Kp m []=(0,fz,12):=by unfold Kp;rw [if_neg (by decide)]
theorem Xqo {m:Zf} {l:List Zc} {s:Zc} (h:¬(17<l.length\/Dj 1400060 l=true)) (hs:l[0]?=some s) (hf:(Vk m s).2.2=false):Kp m l=(0,fz,12):=by
 cases l with
 | nil=>cases hs
 | cons t r=>
  injection hs with hs
  subst hs
  unfold Kp
  rw [if_neg h]
  simp only
  rw [if_pos hf]
theorem Xic {m:Zf} {l:List Zc} {s:Zc} {f:Yb} (h:¬(17<l.length\/Dj 1400060 l=true)) (hs:l[0]?=some s) (hf:(Vk m s).2.2=true) (hm:m.funcs[(Vk m s).2.1.func.toNat]?=some f):Kp m l=Ld m l (Vk m s).1 (Vk m s).2.1 f:=by
 cases l with
 | nil=>cases hs
 | cons t r=>
  injection hs with hs
  subst hs
  unfold Kp Ld
  rw [if_neg h]
  simp only
  rw [if_neg (by rw [hf];decide),hm]
  rfl
theorem Yrc {l:List Zc}:l.any (fun s=>decide (1400060<s.length))=Dj 1400060 l:=rfl
section
variable {PG:Za} (H:HasG PG)
include H
theorem c84 {m:Zf} (hm:Wr m) {l:List Zc} (hl:l.length<=9223372036854775807):Ze PG 84 [m.av,.sl .ext (l.map Zv)] (.tup [.i .i64 (Kp m l).1,(Kp m l).2.1.av,.i .i64 (Kp m l).2.2]):=by
 obtain ⟨x,y,z,⟨rfl,rfl,rfl⟩,h⟩:=p84 H.f84 (m0:=m) (l1:=l) (K:=fun x y z=>x=(Kp m l).1/\y=(Kp m l).2.1/\z=(Kp m l).2.2) (by
  unfold Zoz Zqa Zdz
  refine ⟨fun h=>⟨fun _=>?_,fun h'=>(by cases h')⟩,fun h=>⟨_,fun o=>Xke H.toHasF (l:=l) (f:=(116,[])) (p:=fun s=>decide (1400060<s.length)) hl (fun s _=>Yo6 H.toHasF s) o,fun h2=>?_,fun h2=>?_⟩⟩
  ·rw [Zlw (.inl (by omega))];exact ⟨rfl,rfl,rfl⟩
  ·rw [Zlw (.inr h2)];exact ⟨rfl,rfl,rfl⟩
  have hok:¬(17<l.length\/Dj 1400060 l=true):=by
   rintro (h3 | h3)
   ·omega
   ·rw [Yrc,h3] at h2;cases h2
  have hlen:=Xb1 (n:=1400060) (l:=l) h2
  unfold Zhl
  refine ⟨fun h3=>?_,fun h3=>?_⟩
  ·have:l=[]:=Hl (by omega)
   subst this
   rw [Ym4];exact ⟨rfl,rfl,rfl⟩
  have h0:0<l.length:=by omega
  have hs:l[0]?=some l[0]:=List.getElem?_eq_getElem h0
  have hs0:=hlen _ (List.getElem_mem h0)
  unfold Zp9 Zhp
  refine ⟨_,hs,_,_,_,Ymc H hm (by omega),fun h4=>?_,fun h4=>?_⟩
  ·rw [Xqo hok hs (by simpa using h4)];exact ⟨rfl,rfl,rfl⟩
  have h4:(Vk m l[0]).2.2=true:=by simpa using h4
  obtain ⟨g1,g2,g3,g4⟩:=Whg h4
  obtain ⟨f,hf,hmem⟩:=Zfz g1 g2
  obtain ⟨q1,q2,q3,q4⟩:=hm.f f hmem
  rw [Xic hok hs h4 hf]
  have g5:=Yj3 m l[0]
  have g6:=Xtk m l[0]
  generalize (Vk m l[0]).1=k at g3 g4 ⊢
  generalize (Vk m l[0]).2.1=x at g1 g2 g5 g6 hf ⊢
  unfold Zqp
  refine ⟨by omega,fun P hP=>?_⟩
  have go :∀n i:Nat,i+n=(l.drop 1).length->∀ys,Qi f ((l.drop 1).take i)=some ys->P (i:Int) m fz { x with locals:=ys }:=by
   intro n
   induction n with
   | zero=>
    intro i hi ys hys
    apply hP
    rw [List.take_of_length_le (by omega)] at hys
    obtain ⟨a1,a2⟩:=Zcb hys
    have hx:Uq { x with locals:=ys }:=⟨g5,by rw [a1];simp;omega,a2⟩
    have e:Ld m l k x f=if Ut m k { x with locals:=ys }=(l,0) then (k,{ x with locals:=ys },0) else (0,fz,12):=by unfold Ld;rw [hys]
    unfold Zbw Zib
    refine ⟨fun h=>absurd h (by omega),fun _=>⟨_,_,c82 H.toHasF hm hx,fun h5=>?_,fun h5=>?_⟩⟩
    ·unfold Ey
     rw [e,if_neg (fun h6=>h5 (by rw [h6]))]
     exact ⟨fun _=>⟨rfl,rfl,rfl⟩,fun h'=>(by cases h')⟩
    ·have hb:(Ut m k { x with locals:=ys }).1.length<=9223372036854775807:=by
      unfold Ut
      split
      ·exact Nat.zero_le _
      ·split
       ·rw [Nw (x:={ x with locals:=ys }) (f:=f) hf];simp [a1];omega
       ·exact Nat.zero_le _
     refine ⟨_,Xxu H.toHasF hb,?_⟩
     unfold Ey Znc
     refine ⟨fun h6=>?_,fun h6=>?_⟩
     ·rw [e,if_neg (fun h7=>by rw [h7] at h6;simp at h6)];exact ⟨rfl,rfl,rfl⟩
     ·have h6:(Ut m k { x with locals:=ys }).1=l:=by simpa using h6
      rw [e,if_pos (by rw [<- h6];exact Prod.ext rfl (Decidable.not_not.1 h5))];exact ⟨rfl,rfl,rfl⟩
   | succ n ih=>
    intro i hi ys hys
    have hd:(l.drop 1).length=l.length-1:=by simp
    have hil:i<(l.drop 1).length:=by omega
    apply hP
    have hsl:=hlen _ (List.mem_of_mem_drop (List.getElem_mem hil))
    obtain ⟨y,ok,⟨b1,b2⟩,b3⟩:=Yxl H (f:=f) ⟨q2,q4⟩ (s:=(l.drop 1)[i]) (by omega)
    obtain ⟨a1,a2⟩:=Zcb hys
    have hyl:ys.length<=20:=by rw [a1];simp;omega
    have e:=Ywf (f:=f) hil
    rw [hys] at e
    unfold Zbw
    refine ⟨fun _=>⟨by omega,_,Xm hil,g1,f,hf,y,ok,b3,fun h5=>?_,fun h5=>⟨⟨?_,?_⟩,?_⟩⟩,fun h=>absurd (show (i:Int)<((l.drop 1).length:Int) by omega) h⟩
    ·have:Kf f (l.drop 1)[i]=none:=by
      rw [<- Option.not_isSome_iff_eq_none,<- b1]
      simpa using h5
     rw [this] at e
     have:Ld m l k x f=(0,fz,12):=by unfold Ld;rw [Ycs e]
     rw [this];exact ⟨rfl,rfl,rfl⟩
    ·simp only [List.length_cons,List.length_nil,Wl];omega
    ·simp only [List.length_cons,List.length_nil,Wl];omega
    ·rw [Xq (by omega) (by omega)]
     rw [b2 (by simpa using h5)] at e
     exact ih (i+1) (by omega) _ e
  have:=go (l.drop 1).length 0 (by omega) [] rfl
  rw [<- g6] at this
  exact this)
 exact h
omit H in
theorem Xer (m:Zf) (l:List Zc):Uq (Kp m l).2.1:=by
 have hz:Uq fz:=⟨by decide,by decide,by simp⟩
 by_cases h:17<l.length\/Dj 1400060 l=true
 ·rw [Zlw h];exact hz
 cases l with
 | nil=>rw [Ym4];exact hz
 | cons s r=>
  unfold Kp
  rw [if_neg h]
  simp only
  by_cases hf:(Vk m s).2.2=false
  ·rw [if_pos hf];exact hz
  rw [if_neg hf]
  cases hg:m.funcs[(Vk m s).2.1.func.toNat]? with
  | none=>exact hz
  | some f=>
   simp only
   cases hys:Qi f r with
   | none=>exact hz
   | some ys=>
    simp only
    split
    ·obtain ⟨a1,a2⟩:=Zcb hys
     refine ⟨Yj3 m s,?_,a2⟩
     simp only [a1]
     simp only [List.length_cons] at h
     omega
    ·exact hz
end
end Go.AM

/- Yf of the proof. -/
namespace Go.AM
open Go
def Ri:List Zc:=[[],[110,111,114,109,97,108],[112,97,110,105,99],[100,101,97,100,108,111,99,107],[115,116,97,99,107],[104,101,97,112],[114,111,117,116,105,110,101,115],[115,116,101,112,115],[115,99,114,105,112,116]]
def Cp (n:Int):Zc × Int:=if n<1\/8<n then ([],2) else ((Ri[n.toNat]?).getD [],0)
def Be (s:Zc):Int × Int:=if Dc s Ri<1 then (0,12) else (Dc s Ri,0)
def Zak (m:Zf) (n:Int):Bool:=match m.funcs[n.toNat]? with
 | none=>false
 | some f=>decide (f.name.length<=16)
def Kz (m:Zf) (Jb:Int) (d:Zq):Bool:=decide (0<=d.frame)&&decide (d.frame<Jb)&&decide (0<=d.func)&&Zak m d.func&&(if d.hasArg=true then decide (d.arg.kind=1\/d.arg.kind=2\/d.arg.kind=4)&&Vh d.arg else Bk d.arg)
def Ke (m:Zf) (x:Zk):Bool:=if x.status=3 then decide (x.frames.length=0)&&decide (x.defers.length=0)&&decide (x.panics.length=0)&&decide (x.key=0)
 else decide (x.status=2\/(x.status=1/\x.key=0))&&decide (1<=x.frames.length/\x.frames.length<=170)&&decide (x.defers.length<=410)&&decide (Ra x.panics=0)&&x.frames.all (Jy m)&&x.defers.all (Kz m x.frames.length)
def Um (m:Zf) (s:Zu):Bool:=decide (1<=s.outcome/\s.outcome<=8)&&decide (0<=s.steps/\s.steps<=5000)&&decide (s.routines.length<=16)&&decide (-1<=s.failing/\s.failing<s.routines.length)&&s.routines.all (Ke m)
structure Qz (x:Zk):Prop where
 st:0<=x.status
 k:-9223372036854775808<=x.key/\x.key<9223372036854775808
 f :∀y∈x.frames,Uq y
 d :∀y∈x.defers,Wf y.arg
 p :∀y∈x.panics,Dq y
 fl:x.frames.length<=1000000000000000000
 dl:x.defers.length<=1000000000000000000
 pl:x.panics.length<=1000000000000000000
structure Ax (x:Zk):Prop where
 st:0<=x.status
 k:-9223372036854775808<=x.key/\x.key<9223372036854775808
 f :∀y∈x.frames,Uq y
 d :∀y∈x.defers,Wf y.arg
 p :∀y∈x.panics,Dq y
 fl:x.frames.length<=9223372036854775807
 dl:x.defers.length<=9223372036854775807
 pl:x.panics.length<=9223372036854775807
structure Cm (s:Zu):Prop where
 o:0<=s.outcome
 r :∀x∈s.routines,Ax x
 n:s.routines.length<=9223372036854775807
structure Uo (s:Zu):Prop where
 o:0<=s.outcome
 r :∀x∈s.routines,Qz x
 n:s.routines.length<=9223372036854775807
def Vv (m:Zf) (d:Zq):Zc:=[100,101,102,101,114,32]++Xa d.frame++[32]++Xa d.func++[32]++quo (Qj m d.func)++(if d.hasArg=true then [32,119,105,116,104,32]++Xd d.arg else [])
def Vu (m:Zf):Nat->List Zg->List Zc
 | _,[]=>[]
 | i,x::r=>Gd m i x++Vu m (i+1) r
def Un (m:Zf) (x:Zk):List Zc:=Vu m 0 x.frames++x.defers.map (Vv m)++x.panics.map Vw
def Hz (x:Zk):Zc:=if x.status=1 then [114,101,97,100,121] else if x.status=3 then [100,111,110,101] else [98,108,111,99,107,101,100,32]++Xa x.key
def Hx (g:Int) (x:Zk):Zc:=[103,111,114,111,117,116,105,110,101,32]++Xa g++[58,32]++Hz x
def Wk (s:Zc):Zc:=[32,32]++s
def Kh (m:Zf) (g:Int) (x:Zk):List Zc:=Hx g x::(Un m x).map Wk
def Bc (m:Zf) (g:Int) (x:Zk):List Zc × Int:=if g<0\/16<=g then ([],2) else if Ke m x=true then (Kh m g x,0) else ([],8)
def Hb (s:Zu):Zc:=[111,117,116,99,111,109,101,32]++(Cp s.outcome).1++[44,32,102,97,105,108,105,110,103,32]++Xa s.failing++[44,32,115,116,101,112,115,32]++Xa s.steps++[10]
def Ub (l:List Zc):Zc:=l.flatMap fun s=>s++[10]
def Kr (m:Zf):Nat->List Zk->Zc
 | _,[]=>[]
 | i,x::r=>Ub (Kh m i x)++Kr m (i+1) r
def Gg (m:Zf) (s:Zu):Zc:=Hb s++Kr m 0 s.routines
def Ji (m:Zf) (s:Zu):Zc × Int:=if Um m s=true then (if 300000<(Gg m s).length then ([],4) else (Gg m s,0)) else ([],8)
def Rr (x:Zk):Bool:=decide (12<x.frames.length)||decide (12<x.defers.length)||decide (20<x.panics.length)||Rn x.panics||x.frames.any Ss||x.defers.any (fun d=>Dz d.arg)
def Tm (s:Zu):Bool:=(s.routines.take 21).any Rr||decide (20<s.routines.length)
theorem Qz.of {x:Zk} (h:Ax x) (hg:Rr x=false):Qz x:=by
 unfold Rr at hg
 simp only [Bool.or_eq_false_iff,decide_eq_false_iff_not] at hg
 obtain ⟨⟨⟨⟨⟨h1,h2⟩,h3⟩,_⟩,_⟩,_⟩:=hg
 exact ⟨h.st,h.k,h.f,h.d,h.p,by omega,by omega,by omega⟩
theorem Uo.of {s:Zu} (h:Cm s) (hg:Tm s=false):Uo s:=by
 unfold Tm at hg
 simp only [Bool.or_eq_false_iff,decide_eq_false_iff_not] at hg
 obtain ⟨h1,h2⟩:=hg
 rw [List.take_of_length_le (by omega),List.any_eq_false] at h1
 exact ⟨h.o,fun x hx=>Qz.of (h.r x hx) (by simpa using h1 x hx),h.n⟩
end Go.AM

/- Yf of the proof. -/
namespace Go.AM
open Go
structure HasT (PG:Za):Prop extends HasQ PG,HasF PG where
 f203:PG.fn 203=some Zgr
 f204:PG.fn 204=some Zdc
 f205:PG.fn 205=some Ze8
 f207:PG.fn 207=some Zc0
 f211:PG.fn 211=some Zb2
 f213:PG.fn 213=some Zep
 f215:PG.fn 215=some Zao
 f216:PG.fn 216=some Zf6
 f217:PG.fn 217=some Zon
 f218:PG.fn 218=some Zo8
 f219:PG.fn 219=some Zf7
 f220:PG.fn 220=some Zbt
 f221:PG.fn 221=some Zrk
 f224:PG.fn 224=some Zbl
 f225:PG.fn 225=some Zb0
 f227:PG.fn 227=some Zd9
 f228:PG.fn 228=some Zfy
 f229:PG.fn 229=some Zfx
 f230:PG.fn 230=some Zbc
 f231:PG.fn 231=some Zds
 f232:PG.fn 232=some Zfa
 f233:PG.fn 233=some Zd1
 f234:PG.fn 234=some Zg7
 f236:PG.fn 236=some Zfd
 f237:PG.fn 237=some Zfp
 f238:PG.fn 238=some Zbu
 f239:PG.fn 239=some Zcf
theorem Yfo {n:Int} (h0:1<=n) (h1:n<=8) :∃w,Ri[n.toNat]?=some w/\Cp n=(w,0)/\w.length<=8:=by
 obtain ⟨k,rfl⟩:=Int.eq_ofNat_of_zero_le (by omega:0<=n)
 have h1:k<=8:=by omega
 have h0:1<=k:=by omega
 match k,h0,h1 with
 | 1,_,_ | 2,_,_ | 3,_,_ | 4,_,_ | 5,_,_ | 6,_,_ | 7,_,_ | 8,_,_=>exact ⟨_,rfl,rfl,by decide⟩
section
variable {PG:Za} (H:HasT PG)
include H
theorem Yfx:Ze PG 215 [] (.ag (Ri.map AV.s)):=by
 obtain ⟨x,rfl,h⟩:=Wb3 H.f215 (K:=fun x=>x=Ri) (by unfold Zpu;rfl)
 exact h
theorem Zab {n:Int} (h1:-9223372036854775808<=n) (h2:n<9223372036854775808):Ze PG 216 [.i .i64 n] (.s (Xa n)):=by
 obtain ⟨x,rfl,h⟩:=Xu9 H.f216 (n0:=n) (K:=fun x=>x=Xa n) (by
  unfold Zmz
  exact ⟨_,c15 H.toHas03 h1 h2,rfl⟩)
 exact h
theorem Xhf (s:Zc):Ze PG 211 [.s s] (.tup [.i .u8 (Be s).1,.i .i64 (Be s).2]):=by
 obtain ⟨x,y,⟨rfl,rfl⟩,h⟩:=Yrg H.f211 (s0:=s) (K:=fun x y=>x=(Be s).1/\y=(Be s).2) (by
  unfold Zpg
  refine ⟨_,Yfx H,rfl,rfl,_,Zsw H.toHasF (by decide) s,fun h=>?_,fun h=>?_⟩
  ·unfold Be;rw [if_pos h];exact ⟨rfl,rfl⟩
  ·have:=Zra s Ri
   have e:(Ri.length:Int)=9:=rfl
   unfold Be;rw [if_neg h]
   exact ⟨Zkz (by omega) (by omega),rfl⟩)
 exact h
theorem Wgo {l:List Zk} {f:Nat × List AV} {p:Zk->Bool} (hl:l.length<=9223372036854775807) (hf :∀x∈l,Ym PG f.1 ([x.av]++f.2) (fun r=>r=.b (p x))) (o:Zl):Ym PG 236 [.sl o (l.map Zk.row),.fn f.1 f.2] (fun r=>r=.i .i64 (Vo p l)):=by
 refine (Xv2 H.f236 (s0:=l) (f1:=f) (K:=fun x=>x=Vo p l) ?_ o).to ?_
 ·unfold Zmr
  intro P hP
  refine Si (Q:=fun x=>x=Vo p l) p l (fun h=>hP _ ?_) (fun i hi hp hq=>hP _ ?_) (fun i hi hp ih=>hP _ ?_) rfl
  ·unfold Ol Zna
   exact ⟨fun h'=>absurd h' (by omega),fun _=>h⟩
  ·unfold Ol
   refine ⟨fun _=>⟨by omega,_,Xm hi,_,hf _ (List.getElem_mem hi),fun _=>hq,fun h'=>?_⟩,fun h'=>absurd h' (by omega)⟩
   rw [hp] at h';cases h'
  ·unfold Ol
   refine ⟨fun _=>⟨by omega,_,Xm hi,_,hf _ (List.getElem_mem hi),fun h'=>?_,fun _=>?_⟩,fun h'=>absurd h' (by omega)⟩
   ·rw [hp] at h';cases h'
   ·rw [Xq (by omega) (by omega)];exact ih
 ·rintro r ⟨x,rfl,rfl⟩;rfl
theorem Xgd {l:List Zk} {f:Nat × List AV} {p:Zk->Bool} (hl:l.length<=9223372036854775807) (hf :∀x∈l,Ym PG f.1 ([x.av]++f.2) (fun r=>r=.b (p x))) (o:Zl):Ym PG 224 [.sl o (l.map Zk.row),.fn f.1 f.2] (fun r=>r=.b (l.any p)):=by
 refine (Xn6 H.f224 (s0:=l) (f1:=f) (K:=fun x=>x=l.any p) ?_ o).to ?_
 ·unfold Zj7
  refine ⟨_,fun o=>Wgo H hl hf o,?_⟩
  have:=(Ru p l).2
  cases h:l.any p
  ·exact decide_eq_false (by rw [h] at this;intro h';exact absurd (this.1 h') (by decide))
  ·exact decide_eq_true (this.2 h)
 ·rintro r ⟨x,rfl,rfl⟩;rfl
theorem Ymi {l:List Zg} {f:Nat × List AV} {p:Zg->Bool} (hl:l.length<=9223372036854775807) (hf :∀x∈l,Ym PG f.1 ([x.av]++f.2) (fun r=>r=.b (p x))) (o:Zl):Ym PG 237 [.sl o (l.map Zg.row),.fn f.1 f.2] (fun r=>r=.i .i64 (Vo p l)):=by
 refine (Xj6 H.f237 (s0:=l) (f1:=f) (K:=fun x=>x=Vo p l) ?_ o).to ?_
 ·unfold Zo0
  intro P hP
  refine Si (Q:=fun x=>x=Vo p l) p l (fun h=>hP _ ?_) (fun i hi hp hq=>hP _ ?_) (fun i hi hp ih=>hP _ ?_) rfl
  ·unfold Fj Zny
   exact ⟨fun h'=>absurd h' (by omega),fun _=>h⟩
  ·unfold Fj
   refine ⟨fun _=>⟨by omega,_,Xm hi,_,hf _ (List.getElem_mem hi),fun _=>hq,fun h'=>?_⟩,fun h'=>absurd h' (by omega)⟩
   rw [hp] at h';cases h'
  ·unfold Fj
   refine ⟨fun _=>⟨by omega,_,Xm hi,_,hf _ (List.getElem_mem hi),fun h'=>?_,fun _=>?_⟩,fun h'=>absurd h' (by omega)⟩
   ·rw [hp] at h';cases h'
   ·rw [Xq (by omega) (by omega)];exact ih
 ·rintro r ⟨x,rfl,rfl⟩;rfl
theorem Xg8 {l:List Zg} {f:Nat × List AV} {p:Zg->Bool} (hl:l.length<=9223372036854775807) (hf :∀x∈l,Ym PG f.1 ([x.av]++f.2) (fun r=>r=.b (p x))) (o:Zl):Ym PG 227 [.sl o (l.map Zg.row),.fn f.1 f.2] (fun r=>r=.b (l.any p)):=by
 refine (Xmn H.f227 (s0:=l) (f1:=f) (K:=fun x=>x=l.any p) ?_ o).to ?_
 ·unfold Zm1
  refine ⟨_,fun o=>Ymi H hl hf o,?_⟩
  have:=(Ru p l).2
  cases h:l.any p
  ·exact decide_eq_false (by rw [h] at this;intro h';exact absurd (this.1 h') (by decide))
  ·exact decide_eq_true (this.2 h)
 ·rintro r ⟨x,rfl,rfl⟩;rfl
theorem Xuy {l:List Zq} {f:Nat × List AV} {p:Zq->Bool} (hl:l.length<=9223372036854775807) (hf :∀x∈l,Ym PG f.1 ([x.av]++f.2) (fun r=>r=.b (p x))) (o:Zl):Ym PG 238 [.sl o (l.map Zq.row),.fn f.1 f.2] (fun r=>r=.i .i64 (Vo p l)):=by
 refine (Xd3 H.f238 (s0:=l) (f1:=f) (K:=fun x=>x=Vo p l) ?_ o).to ?_
 ·unfold Zmf
  intro P hP
  refine Si (Q:=fun x=>x=Vo p l) p l (fun h=>hP _ ?_) (fun i hi hp hq=>hP _ ?_) (fun i hi hp ih=>hP _ ?_) rfl
  ·unfold Ea Zlv
   exact ⟨fun h'=>absurd h' (by omega),fun _=>h⟩
  ·unfold Ea
   refine ⟨fun _=>⟨by omega,_,Xm hi,_,hf _ (List.getElem_mem hi),fun _=>hq,fun h'=>?_⟩,fun h'=>absurd h' (by omega)⟩
   rw [hp] at h';cases h'
  ·unfold Ea
   refine ⟨fun _=>⟨by omega,_,Xm hi,_,hf _ (List.getElem_mem hi),fun h'=>?_,fun _=>?_⟩,fun h'=>absurd h' (by omega)⟩
   ·rw [hp] at h';cases h'
   ·rw [Xq (by omega) (by omega)];exact ih
 ·rintro r ⟨x,rfl,rfl⟩;rfl
theorem Xpn {l:List Zq} {f:Nat × List AV} {p:Zq->Bool} (hl:l.length<=9223372036854775807) (hf :∀x∈l,Ym PG f.1 ([x.av]++f.2) (fun r=>r=.b (p x))) (o:Zl):Ym PG 229 [.sl o (l.map Zq.row),.fn f.1 f.2] (fun r=>r=.b (l.any p)):=by
 refine (Wim H.f229 (s0:=l) (f1:=f) (K:=fun x=>x=l.any p) ?_ o).to ?_
 ·unfold Zo3
  refine ⟨_,fun o=>Xuy H hl hf o,?_⟩
  have:=(Ru p l).2
  cases h:l.any p
  ·exact decide_eq_false (by rw [h] at this;intro h';exact absurd (this.1 h') (by decide))
  ·exact decide_eq_true (this.2 h)
 ·rintro r ⟨x,rfl,rfl⟩;rfl
theorem Yx4 {l:List Zh} {f:Nat × List AV} {p:Zh->Bool} (hl:l.length<=9223372036854775807) (hf :∀x∈l,Ym PG f.1 ([x.av]++f.2) (fun r=>r=.b (p x))) (o:Zl):Ym PG 239 [.sl o (l.map Zh.row),.fn f.1 f.2] (fun r=>r=.i .i64 (Vo p l)):=by
 refine (Yxz H.f239 (s0:=l) (f1:=f) (K:=fun x=>x=Vo p l) ?_ o).to ?_
 ·unfold Zio
  intro P hP
  refine Si (Q:=fun x=>x=Vo p l) p l (fun h=>hP _ ?_) (fun i hi hp hq=>hP _ ?_) (fun i hi hp ih=>hP _ ?_) rfl
  ·unfold Am Zia
   exact ⟨fun h'=>absurd h' (by omega),fun _=>h⟩
  ·unfold Am
   refine ⟨fun _=>⟨by omega,_,Xm hi,_,hf _ (List.getElem_mem hi),fun _=>hq,fun h'=>?_⟩,fun h'=>absurd h' (by omega)⟩
   rw [hp] at h';cases h'
  ·unfold Am
   refine ⟨fun _=>⟨by omega,_,Xm hi,_,hf _ (List.getElem_mem hi),fun h'=>?_,fun _=>?_⟩,fun h'=>absurd h' (by omega)⟩
   ·rw [hp] at h';cases h'
   ·rw [Xq (by omega) (by omega)];exact ih
 ·rintro r ⟨x,rfl,rfl⟩;rfl
theorem Wig {l:List Zh} {f:Nat × List AV} {p:Zh->Bool} (hl:l.length<=9223372036854775807) (hf :∀x∈l,Ym PG f.1 ([x.av]++f.2) (fun r=>r=.b (p x))) (o:Zl):Ym PG 232 [.sl o (l.map Zh.row),.fn f.1 f.2] (fun r=>r=.b (l.any p)):=by
 refine (Xi6 H.f232 (s0:=l) (f1:=f) (K:=fun x=>x=l.any p) ?_ o).to ?_
 ·unfold Zig
  refine ⟨_,fun o=>Yx4 H hl hf o,?_⟩
  have:=(Ru p l).2
  cases h:l.any p
  ·exact decide_eq_false (by rw [h] at this;intro h';exact absurd (this.1 h') (by decide))
  ·exact decide_eq_true (this.2 h)
 ·rintro r ⟨x,rfl,rfl⟩;rfl
theorem Yq0 {m:Zf} {Jb:Int} {d:Zq} (hm:Wr m) (hd:Wf d.arg):Ze PG 231 [m.av,.i .i64 Jb,d.av] (.b (Kz m Jb d)):=by
 obtain ⟨x,rfl,h⟩:=Ymv H.f231 (m0:=m) (frames1:=Jb) (d2:=d) (K:=fun x=>x=Kz m Jb d) (by
  unfold Zo1 Zql
  refine ⟨fun h=>?_,fun h0=>⟨fun h=>?_,fun h1=>⟨fun h=>?_,fun h2=>⟨fun h=>?_,fun h3=>?_⟩⟩⟩⟩
  ·unfold Kz;rw [decide_eq_false (by omega)];rfl
  ·unfold Kz;rw [decide_eq_false (p:=d.frame<Jb) (by omega)];simp
  ·unfold Kz;rw [decide_eq_false (p:=0<=d.func) (by omega)];simp
  ·unfold Kz Zak;rw [List.getElem?_eq_none (by omega)];simp
  obtain ⟨f,hf,hmem⟩:=Zfz (m:=m) (n:=d.func) (by omega) (by omega)
  refine ⟨by omega,f,hf,fun h=>?_,fun h4=>?_⟩
  ·unfold Kz Zak;rw [hf];simp only;rw [decide_eq_false (p:=f.name.length<=16) (by omega)];simp
  have e:Kz m Jb d=(if d.hasArg=true then decide (d.arg.kind=1\/d.arg.kind=2\/d.arg.kind=4)&&Vh d.arg else Bk d.arg):=by
   unfold Kz Zak;rw [hf];simp only
   rw [decide_eq_true (by omega),decide_eq_true (by omega),decide_eq_true (by omega),decide_eq_true (by omega)];rfl
  rw [e]
  unfold Zmq
  refine ⟨fun h=>?_,fun h=>?_⟩
  ·have ha:d.hasArg=false:=by simpa using h
   rw [ha]
   simp only [Bool.false_eq_true,if_false]
   unfold Bk
   refine ⟨fun k0=>⟨fun k1=>⟨fun k2=>⟨fun k3=>?_,fun k3=>?_⟩,fun k2=>?_⟩,fun k1=>?_⟩,fun k0=>?_⟩
   ·rw [decide_eq_true k0,decide_eq_true k1,decide_eq_true k2,decide_eq_true (by omega)];rfl
   ·rw [decide_eq_false (p:=d.arg.list.length=0) (by omega)];simp
   ·rw [decide_eq_false k2];simp
   ·rw [decide_eq_false k1];simp
   ·rw [decide_eq_false k0];rfl
  ·have ha:d.hasArg=true:=by simpa using h
   rw [ha,if_pos rfl]
   have fin :∀b:Bool,b=decide (d.arg.kind=1\/d.arg.kind=2\/d.arg.kind=4)->Pt PG (fun x=>x=(decide (d.arg.kind=1\/d.arg.kind=2\/d.arg.kind=4)&&Vh d.arg)) b d:=fun b hb=>by
    unfold Pt
    rw [<- hb]
    refine ⟨fun h=>⟨_,c76 H.toHas38 hd,?_⟩,fun h=>by rw [h];rfl⟩
    rw [h,Bool.true_and]
    cases hq:Vh d.arg
    ·exact decide_eq_false fun h'=>absurd (Nh.1 h') (by rw [hq];decide)
    ·exact decide_eq_true (Nh.2 hq)
   unfold Zkm
   refine ⟨fun k=>fin _ ?_,fun k=>⟨fun k'=>fin _ ?_,fun k'=>fin _ ?_⟩⟩<;>exact decide_eq_decide.2 (by omega))
 exact h
theorem Yql {m:Zf} (hm:Wr m) {x:Zg} (hx:Uq x):Ym PG 228 ([x.av]++[.fp m.row]) (fun r=>r=.b (!Jy m x)):=by
 refine (Xod H.f228 (y0:=x) (t1:=m) (K:=fun y=>y=!Jy m x) ?_).to ?_
 ·unfold Zog
  refine ⟨_,c86 H.toHasF hm hx,?_⟩
  cases hb:Jy m x
  ·rw [<- Zfw (by rw [hb];decide)];rfl
  ·rw [<- Zjq hb];rfl
 ·rintro r ⟨x,rfl,rfl⟩;rfl
theorem Wiy {m:Zf} (hm:Wr m) {Jb:Int} {d:Zq} (hd:Wf d.arg):Ym PG 230 ([d.av]++[.fp m.row,.fp [.i .i64 Jb]]) (fun r=>r=.b (!Kz m Jb d)):=by
 refine (Yq7 H.f230 (y0:=d) (t1:=m) (t2:=Jb) (K:=fun y=>y=!Kz m Jb d) ?_).to ?_
 ·unfold Zn1
  exact ⟨_,Yq0 H hm hd,rfl⟩
 ·rintro r ⟨x,rfl,rfl⟩;rfl
theorem Yqs {p:Zh} (hp:Dq p):Ym PG 233 ([p.av]++[]) (fun r=>r=.b (!Xy p)):=by
 refine (Wf8 H.f233 (y0:=p) (K:=fun y=>y=!Xy p) ?_).to ?_
 ·unfold Zl3
  refine ⟨_,Zk4 H.toHasO hp,?_⟩
  unfold Hu
  cases hb:Xy p<;>rfl
 ·rintro r ⟨x,rfl,rfl⟩;rfl
end
end Go.AM

/- Yf of the proof. -/
namespace Go.AM
open Go
theorem Ypn {l:List Zh}:decide (Ra l=0)=(decide (l.length<=410)&&l.all Xy):=by
 unfold Ra
 by_cases h:410<l.length
 ·rw [if_pos h,decide_eq_false (p:=l.length<=410) (by omega)];rfl
 ·rw [if_neg h,decide_eq_true (p:=l.length<=410) (by omega)]
  cases l.all Xy<;>rfl
theorem Td {α:Type} (p:α->Bool) (l:List α):(!(l.any fun x=>!p x))=l.all p:=by
 rw [List.not_any_eq_all_not]
 simp
def Bi (m:Zf) (x:Zk):Bool:=decide (1<=x.frames.length/\x.frames.length<=170)&&decide (x.defers.length<=410)&&decide (Ra x.panics=0)&&x.frames.all (Jy m)&&x.defers.all (Kz m x.frames.length)
theorem Zhx {m:Zf} {x:Zk} (h:x.status=3):Ke m x=(decide (x.frames.length=0)&&decide (x.defers.length=0)&&decide (x.panics.length=0)&&decide (x.key=0)):=by unfold Ke;rw [if_pos h]
theorem Yei {m:Zf} {x:Zk} (h:x.status=2\/(x.status=1/\x.key=0)):Ke m x=Bi m x:=by
 unfold Ke Bi
 rw [if_neg (by omega),decide_eq_true h]
 simp
theorem Zen {m:Zf} {x:Zk} (h3:x.status≠3) (h:¬(x.status=2\/(x.status=1/\x.key=0))):Ke m x=false:=by
 unfold Ke
 rw [if_neg h3,decide_eq_false h]
 rfl
theorem Yiu {m:Zf} {x:Zk} (h:¬(1<=x.frames.length/\x.frames.length<=170)):Bi m x=false:=by unfold Bi;rw [decide_eq_false h];rfl
theorem Xhw {m:Zf} {x:Zk} (h:410<x.defers.length):Bi m x=false:=by unfold Bi;rw [decide_eq_false (p:=x.defers.length<=410) (by omega)];simp
theorem Yu2 {m:Zf} {x:Zk} (h:Ra x.panics≠0):Bi m x=false:=by unfold Bi;rw [decide_eq_false h];simp
section
variable {PG:Za} (H:HasT PG)
include H
theorem Ygc {m:Zf} {x:Zk} (hm:Wr m) (hx:Qz x):Ze PG 219 [m.av,x.av] (.b (Ke m x)):=by
 obtain ⟨y,rfl,h⟩:=Ys7 H.f219 (m0:=m) (x1:=x) (K:=fun y=>y=Ke m x) (by
  unfold Zij Zqc
  have hfl:=hx.fl
  have hdl:=hx.dl
  have hpl:=hx.pl
  have t3:(x.status=2\/(x.status=1/\x.key=0))->Ic PG (fun y=>y=Ke m x) m.types m.texts m.funcs x.status x.key x.frames x.defers x.panics (x.defers.length:Int) (x.panics.length:Int) (x.frames.length:Int):=fun hs=>by
   rw [Yei hs]
   unfold Ic
   refine ⟨fun h=>(Yiu (by omega)).symm,fun h1=>⟨fun h=>(Yiu (by omega)).symm,fun h2=>⟨fun h=>(Xhw (by omega)).symm,fun h3=>⟨fun h=>(Yu2 ?_).symm,fun h4=>?_⟩⟩⟩⟩
   ·unfold Ra;rw [if_pos (by omega)];decide
   have e:Bi m x=(x.frames.all (Jy m)&&(x.defers.all (Kz m x.frames.length)&&x.panics.all Xy)):=by
    unfold Bi
    rw [decide_eq_true (by omega),decide_eq_true (by omega),Ypn,decide_eq_true (by omega)]
    simp only [Bool.true_and]
    cases x.panics.all Xy<;>simp
   rw [e]
   unfold Zom
   refine ⟨_,fun o=>Xg8 H (l:=x.frames) (f:=(228,[.fp m.row])) (p:=fun y=>!Jy m y) (by omega) (fun y hy=>Yql H hm (hx.f y hy)) o,fun h=>?_,fun h=>?_⟩
   ·rw [Td] at h
    rw [h,Bool.true_and]
    refine ⟨_,fun o=>Xpn H (l:=x.defers) (f:=(230,[.fp m.row,.fp [.i .i64 (x.frames.length:Int)]])) (p:=fun y=>!Kz m x.frames.length y) (by omega) (fun y hy=>Wiy H hm (hx.d y hy)) o,fun h=>?_,fun h=>?_⟩
    ·rw [Td] at h
     rw [h,Bool.true_and]
     refine ⟨_,fun o=>Wig H (l:=x.panics) (f:=(233,[])) (p:=fun y=>!Xy y) (by omega) (fun y hy=>Yqs H (hx.p y hy)) o,?_⟩
     rw [Td]
    ·rw [Td] at h
     rw [h];rfl
   ·rw [Td] at h
    rw [h];rfl
  refine ⟨fun h3=>?_,fun h3=>⟨fun h1=>?_,fun h1=>⟨fun h2=>t3 (.inl h2),fun h2=>?_⟩⟩⟩
  ·rw [Zhx h3]
   rw [Xq (z:=(x.frames.length:Int)+(x.defers.length:Int)) (by omega) (by omega),Xq (by omega) (by omega)]
   refine ⟨fun k=>?_,fun k=>?_⟩
   ·rw [decide_eq_true (p:=x.frames.length=0) (by omega),decide_eq_true (p:=x.defers.length=0) (by omega),decide_eq_true (p:=x.panics.length=0) (by omega)];rfl
   ·by_cases k1:x.frames.length=0
    ·by_cases k2:x.defers.length=0
     ·rw [decide_eq_false (p:=x.panics.length=0) (by omega)];simp
     ·rw [decide_eq_false k2];simp
    ·rw [decide_eq_false k1];simp
  ·unfold Zq4
   refine ⟨fun hk=>(Zen h3 ?_).symm,fun hk=>t3 (.inr ⟨h1,by omega⟩)⟩
   omega
  ·unfold Zr8
   exact (Zen h3 (by omega)).symm)
 exact h
theorem Wgv {m:Zf} (hm:Wr m) {x:Zk} (hx:Qz x):Ym PG 225 ([x.av]++[.fp m.row]) (fun r=>r=.b (!Ke m x)):=by
 refine (Wix H.f225 (x0:=x) (t1:=m) (K:=fun y=>y=!Ke m x) ?_).to ?_
 ·unfold Zqi
  exact ⟨_,Ygc H hm hx,rfl⟩
 ·rintro r ⟨x,rfl,rfl⟩;rfl
def Za9 (m:Zf) (s:Zu):Int:=if Um m s=true then 0 else 8
theorem Xh3 {m:Zf} {s:Zu} (hm:Wr m) (hs:Uo s):Ze PG 213 [m.av,s.av] (.i .i64 (Za9 m s)):=by
 obtain ⟨y,rfl,h⟩:=Xug H.f213 (m0:=m) (s1:=s) (K:=fun y=>y=Za9 m s) (by
  unfold Zlc Za9 Um
  refine ⟨fun h=>?_,fun h1=>⟨fun h=>?_,fun h2=>⟨fun h=>?_,fun h3=>⟨fun h=>?_,fun h4=>⟨fun h=>?_,fun h5=>⟨fun h=>?_,fun h6=>⟨fun h=>?_,fun h7=>?_⟩⟩⟩⟩⟩⟩⟩
  ·rw [decide_eq_false (by omega)];rfl
  ·rw [decide_eq_false (by omega)];rfl
  ·rw [decide_eq_false (p:=0<=s.steps/\_) (by omega)];simp
  ·rw [decide_eq_false (p:=0<=s.steps/\_) (by omega)];simp
  ·rw [decide_eq_false (p:=s.routines.length<=16) (by omega)];simp
  ·rw [decide_eq_false (p:=-1<=s.failing/\_) (by omega)];simp
  ·rw [decide_eq_false (p:=-1<=s.failing/\_) (by omega)];simp
  rw [decide_eq_true (by omega),decide_eq_true (by omega),decide_eq_true (by omega),decide_eq_true (by omega)]
  simp only [Bool.true_and]
  refine ⟨_,fun o=>Xgd H (l:=s.routines) (f:=(225,[.fp m.row])) (p:=fun y=>!Ke m y) hs.n (fun y hy=>Wgv H hm (hs.r y hy)) o,fun h=>?_,fun h=>?_⟩
  ·have:=Td (Ke m) s.routines
   rw [h] at this
   rw [<- this];rfl
  ·have:=Td (Ke m) s.routines
   rw [h] at this
   rw [<- this];rfl)
 exact h
theorem Xeb {x:Zk} (hx:Ax x):Ze PG 204 [x.av] (.b (Rr x)):=by
 obtain ⟨y,rfl,h⟩:=Wez H.f204 (x0:=x) (K:=fun y=>y=Rr x) (by
  have hfl:=hx.fl
  have hdl:=hx.dl
  have hpl:=hx.pl
  unfold Zkq Rr
  refine ⟨fun h=>?_,fun h1=>⟨fun h=>?_,fun h2=>⟨fun h=>?_,fun h3=>⟨_,Yuy H.toHasQ hx.p,fun h=>?_,fun h4=>?_⟩⟩⟩⟩
  ·rw [decide_eq_true (by omega)];rfl
  ·rw [decide_eq_true (p:=12<x.defers.length) (by omega)];simp
  ·rw [decide_eq_true (p:=20<x.panics.length) (by omega)];simp
  ·rw [h];simp
  rw [decide_eq_false (by omega),decide_eq_false (by omega),decide_eq_false (by omega),h4]
  simp only [Bool.false_or]
  unfold Zmg
  intro P hP
  refine Db (P:=fun i=>P i x) x.frames.length (fun i=>∀y∈x.frames.take i,Ss y=false) (by simp) (fun hI=>hP _ _ ?_) fun i hi hI next=>hP _ _ ?_
  ·rw [List.take_length] at hI
   rw [List.any_eq_false.2 fun y hy=>by rw [hI y hy];decide]
   simp only [Bool.false_or]
   unfold Zfl Zlm
   refine ⟨fun h=>absurd h (by omega),fun _ P hP=>?_⟩
   refine Db (P:=fun i=>P i x) x.defers.length (fun i=>∀y∈x.defers.take i,Dz y.arg=false) (by simp) (fun hI=>hP _ _ ?_) fun i hi hI next=>hP _ _ ?_
   ·rw [List.take_length] at hI
    rw [List.any_eq_false.2 fun y hy=>by rw [hI y hy];decide]
    unfold Zbh Ziv
    exact ⟨fun h=>absurd h (by omega),fun _=>rfl⟩
   ·unfold Zbh
    refine ⟨fun _=>⟨by omega,_,Xm hi,_,c71 H.toHas38 (hx.d _ (List.getElem_mem hi)),fun h=>?_,fun h=>?_⟩,fun h=>absurd (show (i:Int)<x.defers.length by omega) h⟩
    ·exact (List.any_eq_true.2 ⟨_,List.getElem_mem hi,h⟩).symm
    ·rw [Xq (by omega) (by omega)]
     refine next fun y hy=>?_
     rw [List.take_succ_eq_append_getElem hi] at hy
     rcases List.mem_append.1 hy with hy | hy
     ·exact hI y hy
     ·rw [List.mem_singleton.1 hy];exact h
  ·unfold Zfl
   refine ⟨fun _=>⟨by omega,_,Xm hi,_,c80 H.toHasF (hx.f _ (List.getElem_mem hi)),fun h=>?_,fun h=>?_⟩,fun h=>absurd (show (i:Int)<x.frames.length by omega) h⟩
   ·rw [List.any_eq_true.2 ⟨_,List.getElem_mem hi,h⟩];rfl
   ·rw [Xq (by omega) (by omega)]
    refine next fun y hy=>?_
    rw [List.take_succ_eq_append_getElem hi] at hy
    rcases List.mem_append.1 hy with hy | hy
    ·exact hI y hy
    ·rw [List.mem_singleton.1 hy];exact h)
 exact h
theorem Yfc {s:Zu} (hs:Cm s):Ze PG 203 [s.av] (.b (Tm s)):=by
 obtain ⟨y,rfl,h⟩:=Xqz H.f203 (s0:=s) (K:=fun y=>y=Tm s) (by
  have hn:=hs.n
  unfold Zja
  intro P hP
  have fin:(s.routines.take 21).any Rr=false->Ev PG (fun x=>x=Tm s) s:=by
   intro h
   unfold Ev Tm
   rw [h,Bool.false_or]
   exact decide_eq_decide.2 (by omega)
  refine Db (P:=fun i=>P i s) (min s.routines.length 21) (fun i=>(s.routines.take i).any Rr=false) (by simp) (fun hI=>hP _ _ ?_) fun i hi hI ihP=>hP _ _ ?_
  ·unfold Zf4
   refine ⟨fun h=>⟨fun h'=>absurd h' (by omega),fun _=>fin ?_⟩,fun h=>fin ?_⟩
   ·rwa [show min s.routines.length 21=21 by omega] at hI
   ·rw [show min s.routines.length 21=s.routines.length by omega,List.take_length] at hI
    rw [List.any_eq_false] at hI ⊢
    exact fun x hx=>hI x (List.mem_of_mem_take hx)
  ·have hil:i<s.routines.length:=by omega
   unfold Zf4
   refine ⟨fun _=>⟨fun _=>?_,fun h=>absurd (show (i:Int)<=20 by omega) h⟩,fun h=>absurd (show (i:Int)<s.routines.length by omega) h⟩
   unfold Zjt
   refine ⟨by omega,_,Xm hil,_,Xeb H (hs.r _ (List.getElem_mem hil)),fun h=>?_,fun h=>?_⟩
   ·unfold Tm
    rw [List.any_eq_true.2 ⟨s.routines[i],by rw [List.mem_take_iff_getElem];exact ⟨i,by omega,rfl⟩,h⟩]
    rfl
   ·rw [Xq (by omega) (by omega)]
    exact ihP (by rw [List.take_succ_eq_append_getElem hil,List.any_append,hI];simpa using h))
 exact h
end
end Go.AM

/- Yf of the proof. -/
namespace Go.AM
open Go
theorem Zxm {m:Zf} {n:Int} {f:Yb} (h:m.funcs[n.toNat]?=some f):Qj m n=f.name:=by unfold Qj;rw [h];rfl
theorem Xyj (a b:Zc):(a++b).length=a.length+b.length:=List.length_append
theorem Zpm {m:Zf} {k:Int} {x:Zg} (hm:Wr m) (hx:Uq x) (hb:Jy m x=true):(∀s∈Gd m k x,s.length<=1301000)/\(Gd m k x).length<=17:=by
 obtain ⟨f0,f1,f,hf,hF⟩:=Rv.1 hb
 obtain ⟨g1,g2,g3,g4,g5,g6⟩:=Aa.1 hF
 obtain ⟨q1,q2,q3,q4⟩:=hm.f f (List.mem_of_getElem? hf)
 have l1:=Kx k
 have l2:=Kx x.func
 have l3:=Kx x.pos
 have l4:=Bf f.name
 have l5:=Zuy hx.m f1
 rw [Nw hf]
 refine ⟨fun s hs=>?_,?_⟩
 ·rcases List.mem_cons.1 hs with rfl | hs
  ·unfold Gl
   simp only [List.length_append,List.length_cons,List.length_nil]
   omega
  ·obtain ⟨l,hl,rfl⟩:=List.mem_map.1 hs
   obtain ⟨a1,a2,a3⟩:=Zed g6 _ hl
   obtain ⟨s,b1,b2,b3⟩:=Zkp (f:=f) (n:=l.slot) (by omega) (by omega)
   have c1:=Kx l.slot
   have c2:=Bf s.name
   have c3:=q4 s b2
   have c4:=Tz a3
   unfold Gm
   rw [b3]
   simp only [List.length_append,List.length_cons,List.length_nil]
   omega
 ·rw [List.length_cons,List.length_map]
  rcases Zmb g6 with h | h
  ·rw [h];decide
  ·omega
theorem Zox {m:Zf} (hm:Wr m) :∀(l:List Zg) (i:Nat),(∀x∈l,Uq x)->(∀x∈l,Jy m x=true)->(∀s∈Vu m i l,s.length<=1301000)/\(Vu m i l).length<=17*l.length
 | [],i,_,_=>⟨fun s hs=>(by cases hs),Nat.le_refl _⟩
 | x::r,i,hw,hb=>by
  obtain ⟨h1,h2⟩:=Zpm (k:=i) hm (hw x List.mem_cons_self) (hb x List.mem_cons_self)
  obtain ⟨h3,h4⟩:=Zox hm r (i+1) (fun y hy=>hw y (List.mem_cons_of_mem _ hy)) fun y hy=>hb y (List.mem_cons_of_mem _ hy)
  rw [Vu]
  refine ⟨fun s hs=>?_,?_⟩
  ·rcases List.mem_append.1 hs with hs | hs
   ·exact h1 s hs
   ·exact h3 s hs
  ·rw [List.length_append,List.length_cons];omega
theorem Zyp (m:Zf) :∀(l:List Zg) (i:Nat) (x:Zg),Vu m i (l++[x])=Vu m i l++Gd m ((i+l.length:Nat):Int) x
 | [],i,x=>by simp [Vu]
 | y::r,i,x=>by
  rw [List.cons_append,Vu,Zyp m r (i+1) x,Vu,List.append_assoc,List.length_cons,show i+1+r.length=i+(r.length+1) by omega]
theorem Zo2 {m:Zf} {Jb:Int} {d:Zq} (h:Kz m Jb d=true):0<=d.frame/\d.frame<Jb/\0<=d.func/\(∃f,m.funcs[d.func.toNat]?=some f/\f.name.length<=16/\Qj m d.func=f.name)/\(d.hasArg=true->Vh d.arg=true/\(d.arg.kind=1\/d.arg.kind=2\/d.arg.kind=4))/\(d.hasArg=false->d.arg=vz):=by
 unfold Kz Zak at h
 cases hf:m.funcs[d.func.toNat]? with
 | none=>rw [hf] at h;simp at h
 | some f=>
  rw [hf] at h
  simp only [Bool.and_eq_true,decide_eq_true_eq] at h
  obtain ⟨⟨⟨⟨h1,h2⟩,h3⟩,h4⟩,h5⟩:=h
  refine ⟨h1,h2,h3,⟨f,rfl,h4,Zxm hf⟩,fun ha=>?_,fun ha=>?_⟩
  ·rw [ha,if_pos rfl,Bool.and_eq_true,decide_eq_true_eq] at h5
   exact ⟨h5.2,h5.1⟩
  ·rw [ha] at h5
   exact Zoa.1 (by simpa using h5)
theorem Wgt {m:Zf} {Jb:Int} {d:Zq} (h:Kz m Jb d=true):(Vv m d).length<=1301000:=by
 obtain ⟨h1,h2,h3,⟨f,hf,h4,h5⟩,h6,_⟩:=Zo2 h
 have l1:=Kx d.frame
 have l2:=Kx d.func
 have l3:=Bf f.name
 unfold Vv
 rw [h5]
 simp only [List.length_append,List.length_cons,List.length_nil]
 cases ha:d.hasArg
 ·simp only [Bool.false_eq_true,if_false,List.length_nil];omega
 ·have:=Tz (h6 ha).1
  simp only [if_true,List.length_append,List.length_cons,List.length_nil];omega
structure Gy (m:Zf) (x:Zk):Prop where
 f:x.frames.length<=170
 d:x.defers.length<=410
 p:x.panics.length<=410
 fb :∀y∈x.frames,Jy m y=true
 db :∀y∈x.defers,Kz m x.frames.length y=true
 pb :∀y∈x.panics,Xy y=true
 st:x.status=1\/x.status=2\/x.status=3
theorem Gy.of {m:Zf} {x:Zk} (h:Ke m x=true):Gy m x:=by
 by_cases h3:x.status=3
 ·rw [Zhx h3] at h
  simp only [Bool.and_eq_true,decide_eq_true_eq,List.length_eq_zero_iff] at h
  obtain ⟨⟨⟨k1,k2⟩,k3⟩,k4⟩:=h
  exact ⟨by rw [k1];decide,by rw [k2];decide,by rw [k3];decide,by rw [k1];simp,by rw [k2];simp,by rw [k3];simp,.inr (.inr h3)⟩
 ·by_cases h2:x.status=2\/(x.status=1/\x.key=0)
  ·rw [Yei h2] at h
   unfold Bi at h
   simp only [Bool.and_eq_true,decide_eq_true_eq,List.all_eq_true] at h
   obtain ⟨⟨⟨⟨k1,k2⟩,k3⟩,k4⟩,k5⟩:=h
   exact ⟨k1.2,k2,(Zyb k3).1,k4,k5,(Zyb k3).2,by omega⟩
  ·rw [Zen h3 h2] at h;cases h
theorem Zls {m:Zf} {x:Zk} (hm:Wr m) (hx:Qz x) (h:Gy m x):(∀s∈Un m x,s.length<=1301000)/\(Un m x).length<=4000:=by
 obtain ⟨h1,h2⟩:=Zox hm x.frames 0 hx.f h.fb
 have a:=h.f
 have b:=h.d
 have c:=h.p
 refine ⟨fun s hs=>?_,?_⟩
 ·unfold Un at hs
  rcases List.mem_append.1 hs with hs | hs
  ·rcases List.mem_append.1 hs with hs | hs
   ·exact h1 s hs
   ·obtain ⟨d,hd,rfl⟩:=List.mem_map.1 hs
    exact Wgt (h.db d hd)
  ·obtain ⟨p,hp,rfl⟩:=List.mem_map.1 hs
   have:=Zlx (h.pb p hp)
   exact Nat.le_trans this (by decide)
 ·unfold Un
  simp only [List.length_append,List.length_map]
  omega
theorem Zua (x:Zk):(Hz x).length<=80:=by
 have:=Kx x.key
 unfold Hz
 split
 ·decide
 ·split
  ·decide
  ·simp only [List.length_append,List.length_cons,List.length_nil];omega
theorem Xid (g:Int) (x:Zk):(Hx g x).length<=200:=by
 have:=Kx g
 have:=Zua x
 unfold Hx
 simp only [List.length_append,List.length_cons,List.length_nil];omega
theorem Zup {m:Zf} {g:Int} {x:Zk} (hm:Wr m) (hx:Qz x) (h:Gy m x):(∀s∈Kh m g x,s.length<=1301002)/\(Kh m g x).length<=4001:=by
 obtain ⟨h1,h2⟩:=Zls hm hx h
 unfold Kh
 refine ⟨fun s hs=>?_,?_⟩
 ·rcases List.mem_cons.1 hs with rfl | hs
  ·exact Nat.le_trans (Xid g x) (by decide)
  ·obtain ⟨t,ht,rfl⟩:=List.mem_map.1 hs
   have:=h1 t ht
   unfold Wk
   simp only [List.length_append,List.length_cons,List.length_nil];omega
 ·rw [List.length_cons,List.length_map];omega
theorem Zvi {B:Nat} :∀{l:List Zc},(∀s∈l,s.length<=B)->(Ub l).length<=(B+1)*l.length
 | [],_=>Nat.le_refl _
 | s::r,h=>by
  have h1:=h s List.mem_cons_self
  have h2:=Zvi fun t ht=>h t (List.mem_cons_of_mem _ ht)
  unfold Ub at h2 ⊢
  simp only [List.flatMap_cons,List.length_append,List.length_cons,List.length_nil]
  rw [Nat.mul_succ]
  omega
theorem Xop (a b:List Zc):Ub (a++b)=Ub a++Ub b:=by unfold Ub;rw [List.flatMap_append]
theorem Yz9 {l:List Zc} {i:Nat} (h:i<l.length):Ub (l.take (i+1))=Ub (l.take i)++(l[i]++[10]):=by
 rw [List.take_succ_eq_append_getElem h,Xop]
 simp [Ub]
theorem Ydn {m:Zf} {g:Int} {x:Zk} (hm:Wr m) (hx:Qz x) (h:Gy m x) (i:Nat):(Ub ((Kh m g x).take i)).length<=5300000000:=by
 obtain ⟨h1,h2⟩:=Zup (g:=g) hm hx h
 have h3:=Zvi (l:=(Kh m g x).take i) (B:=1301002) fun s hs=>h1 s (List.mem_of_mem_take hs)
 have h4:((Kh m g x).take i).length<=4001:=by rw [List.length_take];omega
 have h5:1301003*((Kh m g x).take i).length<=1301003*4001:=Nat.mul_le_mul_left _ h4
 exact Nat.le_trans h3 (Nat.le_trans h5 (by decide))
theorem Zso (m:Zf) :∀(l:List Zk) (i:Nat) (x:Zk),Kr m i (l++[x])=Kr m i l++Ub (Kh m ((i+l.length:Nat):Int) x)
 | [],i,x=>by simp [Kr]
 | y::r,i,x=>by
  rw [List.cons_append,Kr,Zso m r (i+1) x,Kr,List.append_assoc,List.length_cons,show i+1+r.length=i+(r.length+1) by omega]
theorem Zy0 {m:Zf} (hm:Wr m) :∀(l:List Zk) (i:Nat),(∀x∈l,Qz x)->(∀x∈l,Gy m x)->(Kr m i l).length<=5300000000*l.length
 | [],i,_,_=>Nat.le_refl _
 | x::r,i,hw,hb=>by
  have h1:=Ydn (g:=i) hm (hw x List.mem_cons_self) (hb x List.mem_cons_self) (Kh m i x).length
  rw [List.take_length] at h1
  have h2:=Zy0 hm r (i+1) (fun y hy=>hw y (List.mem_cons_of_mem _ hy)) fun y hy=>hb y (List.mem_cons_of_mem _ hy)
  rw [Kr,List.length_append,List.length_cons]
  omega
theorem Ydd {m:Zf} {g:Int} {x:Zk} (h:¬(g<0\/16<=g)) (h1:Ke m x=true):Bc m g x=(Kh m g x,0):=by unfold Bc;rw [if_neg h,if_pos h1]
theorem Ynq {m:Zf} {g:Int} {x:Zk} (h:¬(g<0\/16<=g)) (h1:Ke m x=false):Bc m g x=([],8):=by unfold Bc;rw [if_neg h,if_neg (by rw [h1];decide)]
theorem Zzb {m:Zf} {g:Int} {x:Zk} (h:g<0\/16<=g):Bc m g x=([],2):=by unfold Bc;rw [if_pos h]
section
variable {PG:Za} (H:HasT PG)
include H
theorem Xd0 {b:List UInt8} (hs:b.length<=Qd):Yp PG 217 (Bl b) [] (fun r=>r=.i .i64 (b.length:Int)) (Bl b):=by
 refine Yp.of H.f217 rfl Bl.out fun d st k v hk hB=>?_
 obtain ⟨c0,o,hb,hc0,hap,hbig⟩:=hB
 refine W.seq (W.reg0 rfl fun nx _=>Ve rfl (Gc (W.seq (W.reg0 rfl fun nx2 _=>?_))))
 refine Ve (v:=.p k v 0) rfl (Wh rfl (Np rfl (Cl (w:=.sl o (b.map Ys)) rfl hb rfl rfl (Zop (f:=Ys) rfl (Ve rfl (Gc (W.ret ?_)))))))
 refine ⟨.inr rfl,_,rfl,rfl,⟨c0,o,hb,hc0,hap,hbig⟩,Fr.refl⟩
theorem Xhg {m:Zf} {Jb:Int} {d:Zq} (hm:Wr m) (hd:Wf d.arg) (hn:Jb<=1000) (h:Kz m Jb d=true):Ze PG 234 [m.av,d.av] (.tup [.s (Vv m d),.i .i64 0]):=by
 obtain ⟨x,y,⟨rfl,rfl⟩,h⟩:=Xj8 H.f234 (m0:=m) (d1:=d) (K:=fun x y=>x=Vv m d/\y=0) (by
  obtain ⟨h1,h2,h3,⟨f,hf,h4,h5⟩,h6,_⟩:=Zo2 h
  have hfl:d.func<m.funcs.length:=by
   have:=(List.getElem?_eq_some_iff.1 hf).1
   omega
  have hmn:=hm.n
  have l1:=Kx d.frame
  have l2:=Kx d.func
  have l3:=Bf f.name
  have hq:=c11 H.toHas03 f.name
  rw [Zoy (by omega)] at hq
  unfold Zis
  refine ⟨h3,f,hf,_,_,hq,fun h=>absurd rfl h,fun _=>⟨_,Zab H (by omega) (by omega),?_,?_,_,Zab H (by omega) (by omega),?_,?_,?_,fun ha=>?_,fun ha=>?_⟩⟩
  all_goals try (rw [Ge];simp only [List.length_append,List.length_cons,List.length_nil];omega)
  ·have hfi:=(h6 ha).1
   have l4:=Tz hfi
   have k:=c72 H.toHas38 hd
   rw [if_pos hfi,Nh.2 hfi] at k
   refine ⟨_,_,k,fun h=>absurd rfl h,fun _=>⟨?_,?_,?_⟩⟩
   ·rw [Ge];simp only [List.length_cons,List.length_nil];omega
   ·rw [Ge];simp only [List.length_append,List.length_cons,List.length_nil];omega
   ·unfold Iz Vv
    rw [h5,ha]
    exact ⟨rfl,rfl⟩
  ·unfold Iz Vv
   rw [h5,ha]
   exact ⟨by simp,rfl⟩)
 exact h
theorem Wfx {m:Zf} {x:Zk} (hm:Wr m) (hx:Qz x) (h:Gy m x):Ze PG 220 [m.av,x.av] (.tup [.sl .ext ((Un m x).map Zv),.i .i64 0]):=by
 obtain ⟨y,z,⟨rfl,rfl⟩,h⟩:=Xyq H.f220 (m0:=m) (x1:=x) (K:=fun y z=>y=Un m x/\z=0) (by
  obtain ⟨_,hl⟩:=Zls hm hx h
  have a:=h.f
  have b:=h.d
  have c:=h.p
  have b1 :∀i,i<=x.frames.length->(Vu m 0 (x.frames.take i)).length<=17*170:=fun i hi=>by
   have h1:=(Zox hm (x.frames.take i) 0 (fun y hy=>hx.f y (List.mem_of_mem_take hy)) fun y hy=>h.fb y (List.mem_of_mem_take hy)).2
   rw [List.length_take] at h1
   omega
  have b0:(Vu m 0 x.frames).length<=17*170:=by have:=b1 x.frames.length (Nat.le_refl _);rwa [List.take_length] at this
  unfold Zhf Zs7 Zo7
  intro P hP
  refine Mc (P:=fun o i=>P o i m x) (fun i=>Vu m 0 (x.frames.take i)) x.frames.length (hP _ _ _ _ ?_) fun i hi ih=>hP _ _ _ _ ?_
  ·rw [List.take_length]
   unfold Zfb Zpw
   refine ⟨fun h=>absurd h (by omega),fun _ P hP=>?_⟩
   have ho:Vu m 0 x.frames=Vu m 0 x.frames++(x.defers.take 0).map (Vv m):=by simp
   rw [ho]
   refine Mc (P:=fun o i=>P o i m x) (fun i=>Vu m 0 x.frames++(x.defers.take i).map (Vv m)) x.defers.length (hP _ _ _ _ ?_) fun i hi ih=>hP _ _ _ _ ?_
   ·rw [List.take_length]
    unfold Zc8 Zqo
    refine ⟨fun h=>absurd h (by omega),fun _ P hP=>?_⟩
    have ho:Vu m 0 x.frames++x.defers.map (Vv m)=Vu m 0 x.frames++x.defers.map (Vv m)++(x.panics.take 0).map Vw:=by simp
    rw [ho]
    refine Mc (P:=fun o i=>P o i) (fun i=>Vu m 0 x.frames++x.defers.map (Vv m)++(x.panics.take i).map Vw) x.panics.length (hP _ _ ?_) fun i hi ih=>hP _ _ ?_
    ·rw [List.take_length]
     unfold Zba Zi5
     exact ⟨fun h=>absurd h (by omega),fun _=>⟨rfl,rfl⟩⟩
    ·have hok:=h.pb _ (List.getElem_mem hi)
     have k:=Xyc H.toHasO (hx.p _ (List.getElem_mem hi))
     rw [show Rp x.panics[i]=(Vw x.panics[i],0) by unfold Rp;rw [if_pos hok]] at k
     unfold Zba
     refine ⟨fun _=>⟨by omega,_,Xm hi,_,_,k,fun h=>absurd rfl h,fun _=>⟨⟨?_,?_⟩,?_⟩⟩,fun h=>absurd (show (i:Int)<x.panics.length by omega) h⟩
     ·rw [Wl];simp only [List.length_append,List.length_cons,List.length_nil,List.length_map,List.length_take];omega
     ·rw [Wl];simp only [List.length_append,List.length_cons,List.length_nil,List.length_map,List.length_take];omega
     ·rw [Xq (by omega) (by omega)]
      rw [Zb5 Vw hi,<- List.append_assoc] at ih
      exact ih
   ·have hok:=h.db _ (List.getElem_mem hi)
    have k:=Xhg H hm (hx.d _ (List.getElem_mem hi)) (by omega) hok
    unfold Zc8
    refine ⟨fun _=>⟨by omega,_,Xm hi,_,_,k,fun h=>absurd rfl h,fun _=>⟨⟨?_,?_⟩,?_⟩⟩,fun h=>absurd (show (i:Int)<x.defers.length by omega) h⟩
    ·rw [Wl];simp only [List.length_append,List.length_cons,List.length_nil,List.length_map,List.length_take];omega
    ·rw [Wl];simp only [List.length_append,List.length_cons,List.length_nil,List.length_map,List.length_take];omega
    ·rw [Xq (by omega) (by omega)]
     rw [Zb5 (Vv m) hi,<- List.append_assoc] at ih
     exact ih
  ·have hb:=h.fb _ (List.getElem_mem hi)
   have hw:=hx.f _ (List.getElem_mem hi)
   have k:=c82 H.toHasF (k:=(i:Int)) hm hw
   rw [Zww (by omega) hb] at k
   have q1:=b1 i (by omega)
   have q2:=(Zpm (k:=(i:Int)) hm hw hb).2
   unfold Zfb
   refine ⟨fun _=>⟨by omega,_,Xm hi,_,_,k,fun h=>absurd rfl h,fun _=>⟨⟨?_,?_⟩,?_⟩⟩,fun h=>absurd (show (i:Int)<x.frames.length by omega) h⟩
   ·dsimp only;rw [Wl];omega
   ·dsimp only;rw [Wl];omega
   ·rw [Xq (by omega) (by omega)]
    rw [List.take_succ_eq_append_getElem hi,Zyp,List.length_take,show 0+min i x.frames.length=i by omega] at ih
    exact ih)
 exact h
theorem Ybo {m:Zf} {g:Int} {x:Zk} (hm:Wr m) (hx:Qz x):Ze PG 207 [m.av,.i .i64 g,x.av] (.tup [.sl .ext ((Bc m g x).1.map Zv),.i .i64 (Bc m g x).2]):=by
 obtain ⟨y,z,⟨rfl,rfl⟩,h⟩:=Xv3 H.f207 (m0:=m) (g1:=g) (x2:=x) (K:=fun y z=>y=(Bc m g x).1/\z=(Bc m g x).2) (by
  unfold Ziq
  refine ⟨fun h=>by rw [Zzb (.inl h)];exact ⟨rfl,rfl⟩,fun h0=>⟨fun h=>by rw [Zzb (.inr h)];exact ⟨rfl,rfl⟩,fun h1=>?_⟩⟩
  unfold Zkx
  refine ⟨_,Ygc H hm hx,fun h=>?_,fun h=>?_⟩
  ·rw [Ynq (by omega) (by simpa using h)];exact ⟨rfl,rfl⟩
  have hg:Ke m x=true:=by simpa using h
  rw [Ydd (by omega) hg]
  have h2:=Gy.of hg
  obtain ⟨p1,p2⟩:=Zls hm hx h2
  have l1:=Kx g
  have l2:=Kx x.key
  have l3:=Zua x
  have e3 :∃c,([[],([114,101,97,100,121]:Zc),(([98,108,111,99,107,101,100,32]:Zc)++Xa x.key),([100,111,110,101]:Zc)]:List Zc)[x.status.toNat]?=some c/\c=Hz x:=by
   unfold Hz
   rcases h2.st with h | h | h<;>rw [h]<;>exact ⟨_,rfl,rfl⟩
  obtain ⟨c,e3,rfl⟩:=e3
  refine ⟨_,_,Wfx H hm hx h2,fun h=>absurd rfl h,fun _=>⟨_,Zab H (by omega) (by omega),?_,?_,_,c15 H.toHas03 hx.k.1 hx.k.2,?_,hx.st,_,e3,?_,fun P hP=>?_⟩⟩
  all_goals try (rw [Ge];simp only [List.length_append,List.length_cons,List.length_nil];omega)
  refine Mc (P:=fun o i=>P o i) (fun i=>Hx g x::((Un m x).take i).map Wk) (Un m x).length (hP _ _ ?_) fun i hi ih=>hP _ _ ?_
  ·rw [List.take_length]
   unfold Zbz Zr7
   exact ⟨fun h=>absurd h (by omega),fun _=>⟨rfl,rfl⟩⟩
  ·have:=p1 _ (List.getElem_mem hi)
   unfold Zbz
   refine ⟨fun _=>⟨by omega,_,Xm hi,?_,⟨?_,?_⟩,?_⟩,fun h=>absurd (show (i:Int)<(Un m x).length by omega) h⟩
   ·rw [Ge];simp only [List.length_cons,List.length_nil];omega
   ·rw [Wl];simp only [List.length_append,List.length_cons,List.length_nil,List.length_map,List.length_take];omega
   ·rw [Wl];simp only [List.length_append,List.length_cons,List.length_nil,List.length_map,List.length_take];omega
   ·rw [Xq (by omega) (by omega)]
    rw [Zb5 Wk hi] at ih
    exact ih)
 exact h
end
end Go.AM

/- Yf of the proof. -/
namespace Go.AM
open Go
theorem Ia {m:Zf} {s:Zu} (h:Um m s=true):(1<=s.outcome/\s.outcome<=8)/\(0<=s.steps/\s.steps<=5000)/\s.routines.length<=16/\(-1<=s.failing/\s.failing<s.routines.length)/\∀x∈s.routines,Ke m x=true:=by
 unfold Um at h
 simp only [Bool.and_eq_true,decide_eq_true_eq,List.all_eq_true] at h
 obtain ⟨⟨⟨⟨h1,h2⟩,h3⟩,h4⟩,h5⟩:=h
 exact ⟨h1,h2,h3,h4,h5⟩
theorem Wgf {s:Zu} (h:1<=s.outcome/\s.outcome<=8):(Hb s).length<=200:=by
 obtain ⟨w,hw,e,hl⟩:=Yfo h.1 h.2
 have l1:=Kx s.failing
 have l2:=Kx s.steps
 unfold Hb
 rw [e]
 simp only [List.length_append,List.length_cons,List.length_nil]
 omega
theorem Ybq {m:Zf} {s:Zu} (hm:Wr m) (hs:Uo s) (h:Um m s=true) (i:Nat):(Hb s++Kr m 0 (s.routines.take i)).length<=84800000200:=by
 obtain ⟨h1,h2,h3,h4,h5⟩:=Ia h
 have a:=Wgf h1
 have b:=Zy0 hm (s.routines.take i) 0 (fun x hx=>hs.r x (List.mem_of_mem_take hx)) fun x hx=>Gy.of (h5 x (List.mem_of_mem_take hx))
 have c:(s.routines.take i).length<=16:=by rw [List.length_take];omega
 rw [List.length_append]
 omega
theorem Wc0 {m:Zf} {s:Zu} (hm:Wr m) (hs:Uo s) (h:Um m s=true) {i:Nat} (hi:i<s.routines.length) (j:Nat):(Hb s++Kr m 0 (s.routines.take i)++Ub ((Kh m i s.routines[i]).take j)).length<=90100000200:=by
 obtain ⟨h1,h2,h3,h4,h5⟩:=Ia h
 have a:=Ybq hm hs h i
 have b:=Ydn (g:=(i:Int)) hm (hs.r _ (List.getElem_mem hi)) (Gy.of (h5 _ (List.getElem_mem hi))) j
 rw [List.length_append]
 omega
theorem Xfa {m:Zf} {l:List Zk} {i:Nat} (hi:i<l.length):Kr m 0 (l.take (i+1))=Kr m 0 (l.take i)++Ub (Kh m i l[i]):=by
 rw [List.take_succ_eq_append_getElem hi,Zso,List.length_take,show 0+min i l.length=i by omega]
section
variable {PG:Za} (H:HasT PG)
include H
theorem Zdi {m:Zf} {s:Zu} (hm:Wr m) (hs:Uo s):Ze PG 205 [m.av,s.av] (.tup [.s (Ji m s).1,.i .i64 (Ji m s).2]):=by
 obtain ⟨x,y,⟨rfl,rfl⟩,h⟩:=Xi1 H.f205 (m0:=m) (s1:=s) (K:=fun x y=>x=(Ji m s).1/\y=(Ji m s).2) (by
  unfold Zs6 Zl4
  refine ⟨_,Xh3 H hm hs,fun h=>?_,fun h=>?_⟩
  ·unfold Za9 Ji at *
   by_cases hf:Um m s=true
   ·rw [if_pos hf] at h;exact absurd rfl h
   ·rw [if_neg hf,if_neg hf];exact ⟨rfl,rfl⟩
  have hf:Um m s=true:=by
   unfold Za9 at h
   by_cases hf:Um m s=true
   ·exact hf
   ·rw [if_neg hf] at h;exact absurd (by decide) h
  obtain ⟨h1,h2,h3,h4,h5⟩:=Ia hf
  obtain ⟨w,hw,e,hl⟩:=Yfo h1.1 h1.2
  have l1:=Kx s.failing
  have l2:=Kx s.steps
  unfold Zmu Zo9
  refine ⟨_,Yfx H,rfl,by omega,w,hw,?_,?_,_,Zab H (by omega) (by omega),?_,?_,_,Zab H (by omega) (by omega),?_,?_,_,_,Mj H.toHasB ?_ (by simp),fun P hP=>?_⟩
  all_goals try (rw [Ge];simp only [List.length_append,List.length_cons,List.length_nil];omega)
  ·rw [Wl];simp only [List.length_append,List.length_cons,List.length_nil];omega
  have e0:([]:Zc)++([111,117,116,99,111,109,101,32]++w++[44,32,102,97,105,108,105,110,103,32]++Xa s.failing++[44,32,115,116,101,112,115,32]++Xa s.steps++[10])=Hb s++Kr m 0 (s.routines.take 0):=by
   unfold Hb;rw [e];simp [Kr]
  rw [e0]
  refine Mc (P:=fun b i=>P i m b) (fun i=>Hb s++Kr m 0 (s.routines.take i)) s.routines.length (hP _ _ _ ?_) fun i hi ih=>hP _ _ _ ?_
  ·have hb:=Ybq hm hs hf s.routines.length
   rw [List.take_length] at hb ⊢
   have er:Hb s++Kr m 0 s.routines=Gg m s:=rfl
   rw [er] at hb ⊢
   unfold Zax Zpn Ji
   rw [if_pos hf]
   refine ⟨fun h=>absurd h (by omega),fun _=>⟨_,_,Xd0 H (by rw [Wl];omega),fun h=>?_,fun h=>⟨_,Yl4 H.toHasB (by rw [Wl];omega),?_⟩⟩⟩
   ·rw [if_pos (by omega)];exact ⟨rfl,rfl⟩
   ·rw [if_neg (by omega)];exact ⟨rfl,rfl⟩
  ·have hw:=hs.r _ (List.getElem_mem hi)
   have hg:=h5 _ (List.getElem_mem hi)
   have k:=Ybo H (g:=(i:Int)) hm hw
   rw [Ydd (by omega) hg] at k
   unfold Zax
   refine ⟨fun _=>⟨by omega,_,Xm hi,_,_,k,fun h=>absurd rfl h,fun _ P1 hP1=>?_⟩,fun h=>absurd (show (i:Int)<s.routines.length by omega) h⟩
   have ho:Hb s++Kr m 0 (s.routines.take i)=Hb s++Kr m 0 (s.routines.take i)++Ub ((Kh m i s.routines[i]).take 0):=by simp [Ub]
   rw [ho]
   obtain ⟨q1,q2⟩:=Zup (g:=(i:Int)) hm hw (Gy.of hg)
   refine Mc (P:=fun b j=>P1 j m b) (fun j=>Hb s++Kr m 0 (s.routines.take i)++Ub ((Kh m i s.routines[i]).take j)) (Kh m i s.routines[i]).length (hP1 _ _ _ ?_) fun j hj ihj=>hP1 _ _ _ ?_
   ·rw [List.take_length]
    unfold Zeg Zix
    refine ⟨fun h=>absurd h (by dsimp only;omega),fun _=>?_⟩
    rw [Xq (by omega) (by omega)]
    rw [Xfa hi,<- List.append_assoc] at ih
    exact ih
   ·have r1:=q1 _ (List.getElem_mem hj)
    have r2:=Wc0 hm hs hf hi j
    unfold Zeg
    refine ⟨fun _=>⟨by omega,_,Xm hj,?_,_,_,Mj H.toHasB ?_ (by simp),?_⟩,fun h=>absurd (show (j:Int)<(Kh m i s.routines[i]).length by omega) h⟩
    ·rw [Ge];simp only [List.length_cons,List.length_nil];omega
    ·rw [Wl,Xyj _ [10]];simp only [List.length_cons,List.length_nil];omega
    ·rw [Xq (by omega) (by omega)]
     rw [Yz9 hj,<- List.append_assoc] at ihj
     exact ihj)
 exact h
end
end Go.AM

/- Yf of the proof. -/
namespace Go.AM
open Go
theorem Zsq (c:UInt8) (s:Zc):Zn [c] (c::s)=(s,true):=Jx [c] s
theorem Zez (r:Zc):Qq (32::r)=0:=rfl
theorem Xcy {n:Int} (h0:0<=n) (h3:n<=3):Cd (Rl n)=n:=by
 rcases (show n=0\/n=1\/n=2\/n=3 by omega) with rfl | rfl | rfl | rfl<;>decide
theorem Zcv {n k:Int} {r:Zc} (h0:0<=k) (h1:k<n) (h2:k<1000000000) (hr:Qq r=0):Yu n (Xa k++r)=(k,true,r):=by
 unfold Yu
 rw [Zul (by omega) (by omega) hr,decide_eq_true h0,decide_eq_true h1];rfl
theorem Wcq {m:Zf} {f:Yb} {k:Int} {x:Zg} (hm:Wr m) (hf:m.funcs[x.func.toNat]?=some f) (hk:0<=k/\k<170) (hx:0<=x.func) (hp:0<=x.pos) (hc:x.pos<f.code.length) (hmo:0<=x.mode/\x.mode<=3) :
  Vk m (Gl f k x)=(k,⟨x.func,x.pos,x.mode,[]⟩,true):=by
 have hlen:x.func<m.funcs.length:=by
  have:=(List.getElem?_eq_some_iff.1 hf).1
  omega
 have hn:=hm.n
 obtain ⟨q1,q2,q3,q4⟩:=hm.f f (List.mem_of_getElem? hf)
 have e:Gl f k x=[35]++(Xa k++32::(Xa x.func++32::(quo f.name++32::97::116::32::(Xa x.pos++32::Rl x.mode)))):=by unfold Gl;simp
 have en:Qj m x.func=f.name:=Zxm hf
 have ec:Uu m x.func=(f.code.length:Int):=by unfold Uu;rw [hf];rfl
 rw [e]
 unfold Vk
 rw [Jx]
 simp only [Bool.true_eq_false,if_false]
 unfold Mk
 rw [Zcv hk.1 hk.2 (by omega) (Zez _)]
 simp only [Bool.true_eq_false,if_false]
 rw [Zsq]
 simp only [Bool.true_eq_false,if_false]
 unfold Bs
 rw [Zcv hx hlen (by omega) (Zez _)]
 simp only [Bool.true_eq_false,if_false]
 rw [en,show (32::(quo f.name++32::97::116::32::(Xa x.pos++32::Rl x.mode)):Zc)=([32]++quo f.name++[32,97,116,32])++(Xa x.pos++32::Rl x.mode) from by simp,Jx]
 simp only [Bool.true_eq_false,if_false]
 unfold Mq
 rw [ec,Zcv hp hc (by omega) (Zez _)]
 simp only [Bool.true_eq_false,if_false]
 rw [Zsq]
 simp only [Bool.true_eq_false,if_false]
 unfold Fa
 rw [Xcy hmo.1 hmo.2,decide_eq_true hmo.1,show max 0 x.mode=x.mode by omega]
theorem Xdv {f:Yb} {l:Zz} (hf:f.slots.length<=1000) (h0:0<=l.slot) (h1:l.slot<f.slots.length) (hv:Vh l.value=true) (hw:Wf l.value):Kf f (Gm f l)=some l:=by
 have e:Gm f l=[32,32]++(Xa l.slot++32::(quo (Bv f l.slot)++32::61::32::Xd l.value)):=by unfold Gm;simp
 have e2:(32::(quo (Bv f l.slot)++32::61::32::Xd l.value):Zc)=([32]++quo (Bv f l.slot)++[32,61,32])++Xd l.value:=by simp
 rw [e]
 unfold Kf
 rw [Jx]
 simp only [Bool.true_eq_false,if_false]
 rw [Zcv h0 h1 (by omega) (Zez _)]
 simp only [Bool.true_eq_false,if_false]
 rw [e2,Jx]
 simp only [Bool.true_eq_false,if_false]
 rw [Zrl hv hw,if_pos rfl]
theorem Zxj {f:Yb} (hf:f.slots.length<=1000) :∀(l:List Zz),(∀y∈l,0<=y.slot/\y.slot<f.slots.length/\Vh y.value=true/\Wf y.value)->Qi f (l.map (Gm f))=some l
 | [],_=>rfl
 | y::l,h=>by
  obtain ⟨a,b,c,d⟩:=h y (by simp)
  rw [List.map_cons,Qi,Xdv hf a b c d]
  simp only
  rw [Zxj hf l fun z hz=>h z (by simp [hz])]
theorem Xox {m:Zf} {k:Int} {x:Zg} (hm:Wr m) (hx:Uq x) (hk:0<=k/\k<170) (hb:Jy m x=true):Kp m (Gd m k x)=(k,x,0):=by
 obtain ⟨f0,f1,f,hf,hF⟩:=Rv.1 hb
 obtain ⟨g1,g2,g3,g4,g5,g6⟩:=Aa.1 hF
 obtain ⟨l1,l2⟩:=Zpm (k:=k) hm hx hb
 have hl:¬(17<(Gd m k x).length\/Dj 1400060 (Gd m k x)=true):=by
  rintro (h | h)
  ·omega
  ·rw [Zuc.2 fun s hs=>Nat.le_trans (l1 s hs) (by decide)] at h;cases h
 have e:=Nw hf k
 have hp:=Wcq (k:=k) hm hf hk f0 g3 g4 ⟨hx.m,f1⟩
 have hr:=Zxj (f:=f) (by omega) x.locals fun y hy=>by
  obtain ⟨a,b,c⟩:=Zed g6 _ hy
  exact ⟨by omega,b,c,hx.v y hy⟩
 rw [e] at hl ⊢
 unfold Kp
 rw [if_neg hl]
 simp only
 rw [hp]
 simp only [Bool.true_eq_false,if_false]
 rw [hf]
 simp only
 rw [hr]
 simp only
 have ex:({ func:=x.func,pos:=x.pos,mode:=x.mode,locals:=x.locals }:Zg)=x:=by cases x;rfl
 rw [ex,if_pos]
 unfold Ut
 rw [if_neg (by omega),if_pos hb,e]
end Go.AM

/- Yf of the proof. -/
namespace Go.AM
open Go
def Jt:Zc->List Zc × Zc
 | []=>([],[])
 | c::r=>if c=10 then ([]::(Jt r).1,(Jt r).2) else match (Jt r).1 with
  | []=>([],c::(Jt r).2)
  | x::l=>((c::x)::l,(Jt r).2)
def Gw (l:List Zc):Zc:=l.flatMap fun x=>x++[10]
theorem Xut (l m:List Zc):Gw (l++m)=Gw l++Gw m:=by unfold Gw;rw [List.flatMap_append]
theorem Lm (x:Zc) (l:List Zc):Gw (x::l)=x++10::Gw l:=by unfold Gw;simp
theorem Yju :∀s:Zc,s=Gw (Jt s).1++(Jt s).2
 | []=>rfl
 | c::r=>by
  have ih:=Yju r
  unfold Jt
  split
  ·rename_i h
   subst h
   simp only [Lm,List.nil_append,List.cons_append]
   rw [<- ih]
  ·split
   ·rename_i h
    rw [h] at ih
    simp only [Gw,List.flatMap_nil,List.nil_append] at ih ⊢
    rw [<- ih]
   ·rename_i x l h
    rw [h,Lm] at ih
    simp only [Lm,List.cons_append]
    rw [<- ih]
theorem Yb4 :∀s:Zc,(∀x∈(Jt s).1,(10:UInt8) ∉ x)/\(10:UInt8) ∉ (Jt s).2
 | []=>⟨fun x h=>(by simp [Jt] at h),by simp [Jt]⟩
 | c::r=>by
  have ih:=Yb4 r
  unfold Jt
  split
  ·refine ⟨fun x h=>?_,ih.2⟩
   simp only [List.mem_cons] at h
   rcases h with rfl | h
   ·simp
   ·exact ih.1 x h
  ·rename_i hc
   have hc':(10:UInt8)≠c:=fun h=>hc h.symm
   split
   ·exact ⟨fun x h=>by simp at h,by simp only [List.mem_cons,not_or];exact ⟨hc',ih.2⟩⟩
   ·rename_i x l h
    rw [h] at ih
    refine ⟨fun y hy=>?_,ih.2⟩
    simp only [List.mem_cons] at hy
    rcases hy with rfl | hy
    ·simp only [List.mem_cons,not_or]
     exact ⟨hc',ih.1 x (by simp)⟩
    ·exact ih.1 y (by simp [hy])
theorem Yjw :∀e:Zc,(10:UInt8) ∉ e->Jt e=([],e)
 | [],_=>rfl
 | c::r,h=>by
  simp only [List.mem_cons,not_or] at h
  unfold Jt
  rw [if_neg (fun e=>h.1 e.symm),Yjw r h.2]
theorem Zsf :∀(x r:Zc),(10:UInt8) ∉ x->Jt (x++10::r)=(x::(Jt r).1,(Jt r).2)
 | [],r,_=>by rw [List.nil_append,Jt,if_pos rfl]
 | c::x,r,h=>by
  simp only [List.mem_cons,not_or] at h
  rw [List.cons_append,Jt,if_neg (fun e=>h.1 e.symm),Zsf x r h.2]
theorem Zyo :∀(l:List Zc) (e:Zc),(∀x∈l,(10:UInt8) ∉ x)->(10:UInt8) ∉ e->Jt (Gw l++e)=(l,e)
 | [],e,_,he=>by simpa [Gw] using Yjw e he
 | x::l,e,h,he=>by
  rw [Lm,List.append_assoc,List.cons_append,Zsf x _ (h x (by simp)),Zyo l e (fun y hy=>h y (by simp [hy])) he]
theorem Xf9 :∀k:Fin 16,(10:UInt8)≠Kt k:=by decide
theorem Zf8 (n:Nat):(10:UInt8)≠Kt n:=by
 by_cases h:n<16
 ·exact Xf9 ⟨n,h⟩
 ·unfold Kt
  rw [List.getD_eq_getElem?_getD,List.getElem?_eq_none (by simp;omega)]
  decide
theorem Zrv (b:Nat) :∀f n,(10:UInt8) ∉ ds b f n
 | 0,_=>by simp [ds]
 | f+1,n=>by
  unfold ds
  split
  ·simp only [List.mem_singleton];exact Zf8 n
  ·simp only [List.mem_append,List.mem_singleton,not_or]
   exact ⟨Zrv b f (n / b),Zf8 _⟩
theorem Bd (n:Int):(10:UInt8) ∉ Xa n:=by
 unfold Xa
 split
 ·simp only [List.mem_cons,not_or]
  exact ⟨by decide,Zrv _ _ _⟩
 ·exact Zrv _ _ _
theorem Xf5 (c:UInt8):(10:UInt8) ∉ Jl c:=by
 unfold Jl
 split
 ·rename_i h
  simp only [List.mem_cons,List.not_mem_nil,or_false,not_or]
  exact ⟨by decide,fun e=>by subst e;revert h;decide⟩
 ·split
  ·decide
  ·rename_i h
   split
   ·simp only [List.mem_cons,List.not_mem_nil,or_false,not_or]
    exact ⟨by decide,by decide,Zf8 _,Zf8 _⟩
   ·simp only [List.mem_singleton]
    exact fun e=>h (by rw [<- e];rfl)
theorem Zdx (s:Zc):(10:UInt8) ∉ quo s:=by
 unfold quo Ka
 simp only [List.mem_cons,List.mem_append,List.mem_flatMap,List.not_mem_nil,or_false,not_or,not_exists,not_and]
 exact ⟨by decide,fun c _=>Xf5 c,by decide⟩
mutual
theorem Oi :∀v:Zb,(10:UInt8) ∉ Xd v
 | .mk k n s l c=>by
  have h:=Xs0 l
  rw [Xd]
  split
  ·split<;>decide
  ·split
   ·exact Bd n
   ·split
    ·exact Zdx s
    ·split
     ·simp only [List.mem_cons,List.mem_append,List.not_mem_nil,or_false,not_or];exact ⟨by decide,h,by decide⟩
     ·split
      ·simp only [List.mem_cons,List.mem_append,List.not_mem_nil,or_false,not_or];exact ⟨by decide,h,by decide⟩
      ·split
       ·split
        ·decide
        ·simp only [List.mem_cons,List.mem_append,List.not_mem_nil,or_false,not_or];exact ⟨by decide,h,by decide⟩
       ·split
        ·decide
        ·split
         ·decide
         ·simp only [List.mem_cons,not_or];exact ⟨by decide,h⟩
theorem Xs0 :∀l:List Zb,(10:UInt8) ∉ Yy l
 | []=>by simp [Yy]
 | v::l=>by rw [Yy];simp only [List.mem_append,not_or];exact ⟨Oi v,Zz6 l⟩
theorem Zz6 :∀l:List Zb,(10:UInt8) ∉ Qw l
 | []=>by simp [Qw]
 | v::l=>by rw [Qw];simp only [List.mem_cons,List.mem_append,not_or];exact ⟨by decide,by decide,Oi v,Zz6 l⟩
end
theorem Yvv (p:Zh):(10:UInt8) ∉ Vw p:=by
 unfold Vw Vj Tj
 simp only [List.mem_append,not_or]
 refine ⟨?_,?_,?_⟩
 ·split
  ·decide
  ·split
   ·unfold Ew
    split
    ·decide
    ·split
     ·decide
     ·split<;>decide
   ·simp only [List.mem_append,not_or]
    exact ⟨by decide,Oi _⟩
 ·split<;>decide
 ·split<;>decide
end Go.AM

/- Yf of the proof. -/
namespace Go.AM
open Go
def Hd:Zc:=[111,117,116,99,111,109,101,32]
def Md:Zc:=[44,32,102,97,105,108,105,110,103,32]
def Mt:Zc:=[44,32,115,116,101,112,115,32]
def Rz:Zc:=[103,111,114,111,117,116,105,110,101,32]
def Ng:Zc:=[58,32]
def Ib:Zc:=[98,108,111,99,107,101,100,32]
def Zgs:Zc:=[114,101,97,100,121]
def Zvj:Zc:=[100,111,110,101]
def Nf:Zc:=[32,32,35]
def t4:Zc:=[32,32,32,32]
def Nt:Zc:=[32,32,100,101,102,101,114,32]
def t2:Zc:=[32,32]
def Sj:Zc:=[32,119,105,116,104,32]
def Zrb (w f st:Zc) (ab:Bool):Zu × Bool:=(⟨(Be w).1,(Wb f).1,(Wb st).1,[]⟩,ab&&decide ((Wb f).2=0)&&decide ((Wb st).2=0)&&decide ((Be w).2=0))
def Zo4 (w r:Zc) (a:Bool):Zu × Bool:=Zrb w (Lib.cut r Mt).1 (Lib.cut r Mt).2.1 (a&&(Lib.cut r Mt).2.2)
def Hk (s:Zc):Zu × Bool:=Zo4 (Lib.cut (Zn Hd s).1 Md).1 (Lib.cut (Zn Hd s).1 Md).2.1 (Lib.cut (Zn Hd s).1 Md).2.2
abbrev rz:Zk:=⟨0,0,[],[],[]⟩
def Oz (st:Zc):Zk × Bool:=if (Zn Ib st).2=true then (⟨2,(Wb (Zn Ib st).1).1,[],[],[]⟩,decide ((Wb (Zn Ib st).1).2=0)) else if st=Zgs then (⟨1,0,[],[],[]⟩,true) else (⟨3,0,[],[],[]⟩,decide (st=Zvj))
def Kk (s:Zc):Zk × Bool:=if (Lib.cut s Ng).2.2=false then (rz,false) else Oz (Lib.cut s Ng).2.1
def Tt (a b:Int) (r:Zc):Option Zq:=if r=[] then some ⟨a,b,false,vz⟩ else if (Jj (Zn Sj r).1).2=0 then some ⟨a,b,true,(Jj (Zn Sj r).1).1⟩ else none
def Bh (m:Zf) (a b c:Zc):Option Zq:=if (Wb a).2≠0\/(Wb b).2≠0\/(Wb b).1<0\/(m.funcs.length:Int)<=(Wb b).1 then none else
 if (Zn (quo (Qj m (Wb b).1)) c).2=false then none else Tt (Wb a).1 (Wb b).1 (Zn (quo (Qj m (Wb b).1)) c).1
def Gf (m:Zf) (s:Zc):Option Zq:=match Lib.splitN s [32] 4 with
 | [_,a,b,c]=>Bh m a b c
 | _=>none
def Ju:List Zc->List Zc × List Zc
 | []=>([],[])
 | x::r=>if (Zn t4 x).2=true then (x.drop 2::(Ju r).1,(Ju r).2) else ([],x::r)
def Qm (m:Zf):Nat->List Zc->Option (List Zg × List Zc)
 | 0,_=>none
 | _+1,[]=>some ([],[])
 | n+1,x::r=>if (Zn Nf x).2=true then
   if (Kp m (x.drop 2::(Ju r).1)).2.2=0 then (Qm m n (Ju r).2).map fun z=>((Kp m (x.drop 2::(Ju r).1)).2.1::z.1,z.2) else none
  else some ([],x::r)
def Uj (m:Zf):List Zc->Option (List Zq × List Zc)
 | []=>some ([],[])
 | x::r=>if (Zn Nt x).2=true then (Gf m (x.drop 2)).bind fun d=>(Uj m r).map fun z=>(d::z.1,z.2) else some ([],x::r)
def Ua:List Zc->Option (List Zh × List Zc)
 | []=>some ([],[])
 | x::r=>if (Zn t2 x).2=true then (if (Qr (x.drop 2)).2=0 then (Ua r).map fun z=>((Qr (x.drop 2)).1::z.1,z.2) else none) else some ([],x::r)
def Qb (m:Zf) (l:List Zc):Option (List Zg × List Zq × List Zh × List Zc):=
 (Qm m (l.length+1) l).bind fun a=>(Uj m a.2).bind fun b=>(Ua b.2).map fun c=>(a.1,b.1,c.1,c.2)
def Ha (m:Zf):Nat->List Zc->Option (List Zk × List Zc)
 | 0,_=>none
 | _+1,[]=>some ([],[])
 | n+1,x::r=>if (Zn Rz x).2=true then
   if (Kk x).2=true then (Qb m r).bind fun a=>(Ha m n a.2.2.2).map fun z=>(⟨(Kk x).1.status,(Kk x).1.key,a.1,a.2.1,a.2.2.1⟩::z.1,z.2) else none
  else some ([],x::r)
abbrev sz:Zu:=⟨0,0,0,[]⟩
def Rb (m:Zf):List Zc->Option Zu
 | []=>none
 | x::r=>if (Zn Hd x).2=true then (if (Hk x).2=true then (Ha m (r.length+1) r).map fun z=>⟨(Hk x).1.outcome,(Hk x).1.failing,(Hk x).1.steps,z.1⟩ else none) else none
def Gp (m:Zf) (s:Zc):Zu × Int:=if 300000<s.length then (sz,4) else match Rb m (Lib.split s [10]) with
 | none=>(sz,12)
 | some x=>if Ji m x=(s,0) then (x,0) else (sz,12)
theorem Ym2 {c:UInt8} {t a b:Zc} (h:c ∉ a):Lib.index (a++((c::t)++b)) (c::t)=(a.length:Int):=by
 refine Lib.index_first (by simp) ?_ fun j hj=>?_
 ·unfold Lib.occAt
  rw [List.drop_left]
  simp
 ·unfold Lib.occAt
  rw [List.drop_append_of_le_length (by omega)]
  cases e:a.drop j with
  | nil=>exact absurd (List.drop_eq_nil_iff.1 e) (by omega)
  | cons d r=>
   rw [List.cons_append,List.isPrefixOf_cons₂]
   have hd:d∈a:=List.mem_of_mem_drop (i:=j) (by rw [e];simp)
   have:(c==d)=false:=by rw [beq_eq_false_iff_ne];rintro rfl;exact h hd
   rw [this];rfl
theorem Zri {c:UInt8} {t a b:Zc} (h:c ∉ a):Lib.cut (a++((c::t)++b)) (c::t)=(a,b,true):=by
 unfold Lib.cut
 rw [Ym2 h,if_pos (by omega)]
 have e:((a.length:Nat):Int).toNat=a.length:=rfl
 rw [e,List.take_left,<- List.length_append,<- List.append_assoc,List.drop_left]
theorem Zgt {c:UInt8} {a b:Zc} (h:c ∉ a) (k:Nat):Lib.splitK [c] 0 (k+1) (a++c::b)=a::Lib.splitK [c] 0 k b:=by
 have e:=Ym2 (t:=[]) (b:=b) h
 rw [List.singleton_append] at e
 rw [Lib.splitK,e,if_neg (by simp only [beq_iff_eq];omega)]
 have e2:((a.length:Nat):Int).toNat=a.length:=rfl
 rw [e2,Nat.add_zero,List.take_left]
 congr 2
 rw [show a++c::b=(a++[c])++b by simp,show a.length+[c].length=(a++[c]).length by simp,List.drop_left]
theorem Xde (s:Zc):Lib.split s [10]=(Jt s).1++[(Jt s).2]:=by
 unfold Lib.split
 rw [Lib.count_one]
 have h1:=Yb4 s
 have h2:=Yju s
 generalize (Jt s).2=e at *
 generalize (Jt s).1=l at *
 subst h2
 obtain ⟨h1,h3⟩:=h1
 induction l with
 | nil=>
  simp only [Gw,List.flatMap_nil,List.nil_append]
  rw [List.count_eq_zero.2 h3];rfl
 | cons x l ih=>
  have hx:=h1 x (by simp)
  rw [Lm,List.append_assoc,List.cons_append,List.count_append,List.count_eq_zero.2 hx,List.count_cons_self,Nat.zero_add,Zgt hx,ih fun y hy=>h1 y (by simp [hy])]
  rfl
end Go.AM

/- Yf of the proof. -/
namespace Go.AM
open Go
theorem Zg8 (n:Int) {c:UInt8} (h:Ur c=false) (h2:c≠45):c ∉ Xa n:=by
 have hd :∀k,c ∉ Jc 10 k:=fun k hc=>by
  have:=Sf _ _ c hc
  rw [h] at this;cases this
 unfold Xa
 split
 ·simp only [List.mem_cons,not_or]
  exact ⟨h2,hd _⟩
 ·exact hd _
theorem Xk4 {a b:Zc} (h:(44:UInt8) ∉ a):Lib.cut (a++(Md++b)) Md=(a,b,true):=Zri (t:=[32,102,97,105,108,105,110,103,32]) h
theorem Xkl {a b:Zc} (h:(44:UInt8) ∉ a):Lib.cut (a++(Mt++b)) Mt=(a,b,true):=Zri (t:=[32,115,116,101,112,115,32]) h
theorem Yo7 {a b:Zc} (h:(58:UInt8) ∉ a):Lib.cut (a++(Ng++b)) Ng=(a,b,true):=Zri (t:=[32]) h
def Nq (s:Zu):Zc:=Hd++((Cp s.outcome).1++(Md++(Xa s.failing++(Mt++Xa s.steps))))
theorem Xl7 (s:Zu):Hb s=Nq s++[10]:=by unfold Hb Nq Hd Md Mt;simp
theorem Yla {n:Int} (h1:1<=n) (h8:n<=8):(44:UInt8) ∉ (Cp n).1/\(10:UInt8) ∉ (Cp n).1/\Be (Cp n).1=(n,0):=by
 rcases (show n=1\/n=2\/n=3\/n=4\/n=5\/n=6\/n=7\/n=8 by omega) with rfl | rfl | rfl | rfl | rfl | rfl | rfl | rfl<;>exact ⟨by decide,by decide,by decide⟩
theorem Xzd {s:Zu} (h1:1<=s.outcome/\s.outcome<=8) (h2:-1000000<=s.failing/\s.failing<=1000000) (h3:0<=s.steps/\s.steps<=5000):Hk (Nq s)=(⟨s.outcome,s.failing,s.steps,[]⟩,true):=by
 obtain ⟨w1,w2,w3⟩:=Yla h1.1 h1.2
 unfold Hk Nq
 rw [Jx]
 simp only
 rw [Xk4 w1]
 unfold Zo4
 rw [Xkl (Zg8 s.failing (c:=44) rfl (by decide))]
 unfold Zrb
 rw [w3,Lj (by omega) (by omega),Lj (by omega) (by omega)]
 rfl
theorem Xgx (g:Int) (x:Zk):Hx g x=Rz++(Xa g++(Ng++Hz x)):=by unfold Hx Rz Ng;simp
theorem Yvp {g:Int} {x:Zk} (hs:x.status=1\/x.status=2\/x.status=3) (h1:x.status≠2->x.key=0) (hk:-9223372036854775808<=x.key/\x.key<9223372036854775808):Kk (Hx g x)=(⟨x.status,x.key,[],[],[]⟩,true):=by
 unfold Kk
 rw [Xgx,<- List.append_assoc,Yo7 (by
  simp only [List.mem_append,not_or]
  exact ⟨by decide,Zg8 g rfl (by decide)⟩)]
 simp only [Bool.true_eq_false,if_false]
 unfold Oz
 rcases hs with h | h | h
 ·rw [show Hz x=Zgs from by unfold Hz;rw [if_pos h];rfl,h,h1 (by omega)];rfl
 ·rw [show Hz x=Ib++Xa x.key from by unfold Hz;rw [if_neg (by omega),if_neg (by omega)];rfl,h,Jx]
  simp only [if_true]
  rw [Lj hk.1 hk.2];rfl
 ·rw [show Hz x=Zvj from by unfold Hz;rw [if_neg (by omega),if_pos h];rfl,h,h1 (by omega)];rfl
theorem Xvx {m:Zf} {Jb:Int} {d:Zq} (hm:Wr m) (hw:Wf d.arg) (hn:Jb<=1000000) (h:Kz m Jb d=true):Gf m (Vv m d)=some d:=by
 obtain ⟨a1,a2,a3,⟨f,a4,a5,a6⟩,a7,a8⟩:=Zo2 h
 have hlen:d.func<m.funcs.length:=by
  have:=(List.getElem?_eq_some_iff.1 a4).1
  omega
 have hmn:=hm.n
 have e:Vv m d=[100,101,102,101,114]++32::(Xa d.frame++32::(Xa d.func++32::(quo (Qj m d.func)++(if d.hasArg=true then Sj++Xd d.arg else [])))):=by unfold Vv Sj;simp
 have e2:Lib.splitN (Vv m d) [32] 4=[[100,101,102,101,114],Xa d.frame,Xa d.func,quo (Qj m d.func)++(if d.hasArg=true then Sj++Xd d.arg else [])]:=by
  unfold Lib.splitN
  have hl:3<=(Vv m d).length:=by rw [e];simp only [List.length_append,List.length_cons,List.length_nil];omega
  rw [show min 4 ((Vv m d).length+1)-1=3 from by omega,e]
  rw [Zgt (by decide),Zgt (Zg8 _ rfl (by decide)),Zgt (Zg8 _ rfl (by decide))]
  rfl
 unfold Gf
 rw [e2]
 simp only
 unfold Bh
 rw [Lj (by omega) (by omega),Lj (by omega) (by omega)]
 simp only
 rw [if_neg (by omega),Jx]
 simp only [Bool.true_eq_false,if_false]
 unfold Tt
 cases ha:d.hasArg with
 | false=>
  have:=a8 ha
  simp only [Bool.false_eq_true,if_false,if_true]
  rw [<- this,<- ha]
 | true=>
  simp only [if_true]
  rw [if_neg (by unfold Sj;simp),Jx]
  simp only
  rw [Zrl (a7 ha).1 hw,if_pos rfl,<- ha]
def Qx (p:Zc) (l:List Zc):Prop:=∀x r,l=x::r->(Zn p x).2=false
theorem Fd {p x:Zc} {r:List Zc} (h:(Zn p x).2=false):Qx p (x::r):=fun y s e=>by injection e with e1 e2;rw [<- e1];exact h
theorem Sp {p:Zc} {a b:List Zc} (ha:Qx p a) (hb:Qx p b):Qx p (a++b):=by
 cases a with
 | nil=>exact hb
 | cons x r=>exact Fd (ha x r rfl)
theorem Xwp {ls rest:List Zc} (h:Qx t4 rest):Ju ((ls.map Wk).map Wk++rest)=(ls.map Wk,rest):=by
 induction ls with
 | nil=>
  cases rest with
  | nil=>rfl
  | cons x r=>
   show Ju (x::r)=_
   rw [Ju,if_neg (by rw [h x r rfl];decide)];rfl
 | cons x l ih=>
  rw [List.map_cons,List.map_cons,List.cons_append,Ju,show Wk (Wk x)=t4++x from rfl,Jx,if_pos rfl,ih]
  rfl
theorem Xna (f:Yb) (l:Zz) :∃y,Gm f l=Wk y:=⟨Xa l.slot++[32]++quo (Bv f l.slot)++[32,61,32]++Xd l.value,by unfold Gm Wk;simp⟩
theorem Xxc (f:Yb) (l:List Zz) :∃ys:List Zc,l.map (Gm f)=ys.map Wk:=by
 induction l with
 | nil=>exact ⟨[],rfl⟩
 | cons x l ih=>
  obtain ⟨ys,h⟩:=ih
  obtain ⟨y,hy⟩:=Xna f x
  exact ⟨y::ys,by rw [List.map_cons,List.map_cons,h,hy]⟩
theorem Yjf (m:Zf) :∀(l:List Zg) (i:Nat),Qx t4 ((Vu m i l).map Wk)
 | [],_=>fun x r e=>by cases e
 | x::l,i=>by
  show Qx t4 ((Gd m i x++Vu m (i+1) l).map Wk)
  rw [List.map_append]
  refine Sp ?_ (Yjf m l (i+1))
  unfold Gd
  split
  ·exact fun x r e=>by cases e
  ·exact Fd (by unfold Gl;rfl)
theorem Yh2 {m:Zf} (hm:Wr m) {rest:List Zc} (h1:Qx Nf rest) (h2:Qx t4 rest) :∀(l:List Zg) (i n:Nat),(∀x∈l,Uq x)->(∀x∈l,Jy m x=true)->i+l.length<=170->l.length<n->Qm m n ((Vu m i l).map Wk++rest)=some (l,rest)
 | [],_,n+1,_,_,_,_=>by
  cases rest with
  | nil=>rfl
  | cons x r=>
   show Qm m (n+1) (x::r)=_
   rw [Qm,if_neg (by rw [h1 x r rfl];decide)]
 | x::l,i,n+1,hw,hb,hi,hn=>by
  obtain ⟨f0,f1,f,hf,hF⟩:=Rv.1 (hb x (by simp))
  obtain ⟨ys,hys⟩:=Xxc f x.locals
  rw [List.length_cons] at hi hn
  have ih:=Yh2 hm h1 h2 l (i+1) n (fun y hy=>hw y (by simp [hy])) (fun y hy=>hb y (by simp [hy])) (by omega) (by omega)
  have e:(Vu m i (x::l)).map Wk++rest=Wk (Gl f i x)::((ys.map Wk).map Wk++((Vu m (i+1) l).map Wk++rest)):=by
   show (Gd m i x++Vu m (i+1) l).map Wk++rest=_
   rw [Nw hf,hys,List.map_append,List.map_cons];simp
  have hr:=Xox (k:=(i:Int)) hm (hw x (by simp)) (by omega) (hb x (by simp))
  rw [Nw hf,hys] at hr
  have ep:(Zn Nf (Wk (Gl f i x))).2=true:=by unfold Gl;rfl
  have ed:(Wk (Gl f i x)).drop 2=Gl f i x:=rfl
  rw [e,Qm,if_pos ep,Xwp (Sp (Yjf m l (i+1)) h2)]
  simp only
  rw [ed,hr]
  simp only [if_true]
  rw [ih]
  rfl
theorem Zwg {m:Zf} {Jb:Int} (hm:Wr m) (hn:Jb<=1000000) {rest:List Zc} (h1:Qx Nt rest) :∀l:List Zq,(∀d∈l,Wf d.arg)->(∀d∈l,Kz m Jb d=true)->Uj m ((l.map (Vv m)).map Wk++rest)=some (l,rest)
 | [],_,_=>by
  cases rest with
  | nil=>rfl
  | cons x r=>
   show Uj m (x::r)=_
   rw [Uj,if_neg (by rw [h1 x r rfl];decide)]
 | d::l,hw,hb=>by
  have ih:=Zwg hm hn h1 l (fun y hy=>hw y (by simp [hy])) (fun y hy=>hb y (by simp [hy]))
  rw [List.map_cons,List.map_cons,List.cons_append,Uj,if_pos (by unfold Vv;rfl),show (Wk (Vv m d)).drop 2=Vv m d from rfl,Xvx hm (hw d (by simp)) hn (hb d (by simp)),ih]
  rfl
theorem Ylm {rest:List Zc} (h1:Qx t2 rest) :∀l:List Zh,(∀p∈l,Dq p)->(∀p∈l,Xy p=true)->Ua ((l.map Vw).map Wk++rest)=some (l,rest)
 | [],_,_=>by
  cases rest with
  | nil=>rfl
  | cons x r=>
   show Ua (x::r)=_
   rw [Ua,if_neg (by rw [h1 x r rfl];decide)]
 | p::l,hw,hb=>by
  have ih:=Ylm h1 l (fun y hy=>hw y (by simp [hy])) (fun y hy=>hb y (by simp [hy]))
  rw [List.map_cons,List.map_cons,List.cons_append,Ua,if_pos (by rfl),show (Wk (Vw p)).drop 2=Vw p from rfl,Ymt (hb p (by simp)) (hw p (by simp)).v,if_pos rfl,ih]
  rfl
theorem Xpg (p:Zh) (h:Xy p=true) :∃c r,Vw p=c::r/\(c=101\/c=102\/c=112):=by
 have h4:=@Zse p h
 unfold Vw Vj
 split
 ·exact ⟨101,_,rfl,.inl rfl⟩
 ·split
  ·rename_i h
   obtain ⟨a,b⟩:=h4 h
   unfold Ew
   rcases (show p.value.int=1\/p.value.int=2\/p.value.int=3 by omega) with e | e | e<;>rw [e]<;>exact ⟨102,_,rfl,.inr (.inl rfl)⟩
  ·exact ⟨112,_,rfl,.inr (.inr rfl)⟩
theorem Yk9 {q:Zc} {e c:UInt8} {r:Zc} (h:e≠c):(Zn (32::32::e::q) (Wk (c::r))).2=false:=by
 show (Zn (32::32::e::q) (32::32::c::r)).2=false
 rw [Zh1,Zh1,Za0 h];rfl
theorem Zb3 {q:Zc} {e:UInt8} (he:e≠101/\e≠102/\e≠112) {l:List Zh} (h :∀p∈l,Xy p=true):Qx (32::32::e::q) ((l.map Vw).map Wk):=by
 cases l with
 | nil=>exact fun x r e=>by cases e
 | cons p l=>
  obtain ⟨c,r,h1,h2⟩:=Xpg p (h p (by simp))
  rw [List.map_cons,List.map_cons,h1]
  refine Fd (Yk9 ?_)
  rcases h2 with rfl | rfl | rfl
  ·exact he.1
  ·exact he.2.1
  ·exact he.2.2
theorem Zzn (m:Zf) {q:Zc} {e:UInt8} (he:e≠100) (l:List Zq):Qx (32::32::e::q) ((l.map (Vv m)).map Wk):=by
 cases l with
 | nil=>exact fun x r e=>by cases e
 | cons d l=>
  rw [List.map_cons,List.map_cons]
  exact Fd (by unfold Vv;exact Yk9 he)
theorem Xus {m:Zf} {x:Zk} (hm:Wr m) (hx:Qz x) (h:Gy m x) {rest:List Zc} (h1:Qx t2 rest):Qb m ((Un m x).map Wk++rest)=some (x.frames,x.defers,x.panics,rest):=by
 have hf:=h.f
 have n2 :∀{q:Zc},Qx (32::32::q) rest:=fun {q} y r e=>by
  have:=h1 y r e
  unfold Zn at this ⊢
  split at this
  ·cases this
  ·rename_i h2
   rw [if_neg]
   intro h3
   refine h2 ?_
   have:=congrArg (List.take 2) h3
   rw [List.take_take] at this
   simpa [t2] using this
 have e:(Un m x).map Wk++rest=(Vu m 0 x.frames).map Wk++((x.defers.map (Vv m)).map Wk++((x.panics.map Vw).map Wk++rest)):=by unfold Un;simp
 have p1:=@Zb3
 have a1:Qx Nt ((x.panics.map Vw).map Wk++rest):=Sp (Zb3 (by decide) h.pb) n2
 have a2:Qx Nf ((x.defers.map (Vv m)).map Wk++((x.panics.map Vw).map Wk++rest)):=Sp (Zzn m (by decide) _) (Sp (Zb3 (by decide) h.pb) n2)
 have a3:Qx t4 ((x.defers.map (Vv m)).map Wk++((x.panics.map Vw).map Wk++rest)):=Sp (Zzn m (by decide) _) (Sp (Zb3 (by decide) h.pb) n2)
 have hl:x.frames.length<((Vu m 0 x.frames).map Wk++((x.defers.map (Vv m)).map Wk++((x.panics.map Vw).map Wk++rest))).length+1:=by
  have :∀(l:List Zg) (i:Nat),(∀y∈l,Jy m y=true)->l.length<=(Vu m i l).length:=by
   intro l
   induction l with
   | nil=>intro i _;exact Nat.le_refl _
   | cons y l ih=>
    intro i hb
    obtain ⟨f0,f1,f,hf,hF⟩:=Rv.1 (hb y (by simp))
    have:=ih (i+1) fun z hz=>hb z (by simp [hz])
    show _<=(Gd m i y++Vu m (i+1) l).length
    rw [Nw hf,List.length_append,List.length_cons,List.length_cons]
    omega
  have:=this x.frames 0 h.fb
  rw [List.length_append,List.length_map]
  omega
 rw [e]
 unfold Qb
 rw [Yh2 hm a2 a3 x.frames 0 _ hx.f h.fb (by omega) hl]
 simp only [Option.bind_some]
 rw [Zwg hm (Jb:=x.frames.length) (by omega) a1 x.defers hx.d h.db]
 simp only [Option.bind_some]
 rw [Ylm h1 x.panics hx.p h.pb]
 rfl
def Ho (m:Zf):Nat->List Zk->List Zc
 | _,[]=>[]
 | i,x::r=>Kh m i x++Ho m (i+1) r
theorem Yp2 (m:Zf) (l:List Zk) (i:Nat):Qx t2 (Ho m i l++[[]]):=by
 cases l with
 | nil=>exact Fd rfl
 | cons x l=>exact Fd (by unfold Hx;rfl)
theorem Xqw {m:Zf} {x:Zk} (h:Ke m x=true):x.status≠2->x.key=0:=by
 intro h2
 by_cases h3:x.status=3
 ·rw [Zhx h3] at h
  simp only [Bool.and_eq_true,decide_eq_true_eq] at h
  exact h.2
 ·by_cases h1:x.status=1/\x.key=0
  ·exact h1.2
  ·rw [Zen h3 (by rintro (h | h);exact h2 h;exact h1 h)] at h;cases h
theorem Zxe {m:Zf} (hm:Wr m) :∀(l:List Zk) (i n:Nat),(∀x∈l,Qz x)->(∀x∈l,Ke m x=true)->l.length<n->Ha m n (Ho m i l++[[]])=some (l,[[]])
 | [],_,n+1,_,_,_=>rfl
 | x::l,i,n+1,hw,hb,hn=>by
  rw [List.length_cons] at hn
  have ih:=Zxe hm l (i+1) n (fun y hy=>hw y (by simp [hy])) (fun y hy=>hb y (by simp [hy])) (by omega)
  have hx:=hw x (by simp)
  have hg:=hb x (by simp)
  have h0:=Gy.of hg
  have e:Ho m i (x::l)++[[]]=Hx i x::((Un m x).map Wk++(Ho m (i+1) l++[[]])):=by
   show (Hx i x::(Un m x).map Wk)++Ho m (i+1) l++[[]]=_
   simp
  rw [e,Ha,if_pos (by unfold Hx;rfl),Yvp h0.st (Xqw hg) hx.k]
  simp only [if_true]
  rw [Xus hm hx h0 (Yp2 m l (i+1))]
  simp only [Option.bind_some]
  rw [ih]
  rfl
theorem Xvv {f:Yb} {k:Int} {x:Zg} (h:0<=x.mode/\x.mode<=3):(10:UInt8) ∉ Gl f k x:=by
 have:(10:UInt8) ∉ Rl x.mode:=by rcases (show x.mode=0\/x.mode=1\/x.mode=2\/x.mode=3 by omega) with e | e | e | e<;>rw [e]<;>decide
 unfold Gl
 simp only [List.mem_append,not_or]
 exact ⟨⟨⟨⟨⟨⟨⟨⟨⟨by decide,Bd _⟩,by decide⟩,Bd _⟩,by decide⟩,Zdx _⟩,by decide⟩,Bd _⟩,by decide⟩,this⟩
theorem Xva (f:Yb) (l:Zz):(10:UInt8) ∉ Gm f l:=by
 unfold Gm
 simp only [List.mem_append,not_or]
 exact ⟨⟨⟨⟨⟨by decide,Bd _⟩,by decide⟩,Zdx _⟩,by decide⟩,Oi _⟩
theorem Zut {m:Zf} :∀(l:List Zg) (i:Nat),(∀x∈l,Uq x)->(∀x∈l,Jy m x=true)->∀s∈Vu m i l,(10:UInt8) ∉ s
 | [],_,_,_,s,hs=>by cases hs
 | x::l,i,hw,hb,s,hs=>by
  obtain ⟨f0,f1,f,hf,hF⟩:=Rv.1 (hb x (by simp))
  have hs:s∈Gd m i x++Vu m (i+1) l:=hs
  rw [Nw hf] at hs
  rcases List.mem_append.1 hs with hs | hs
  ·rcases List.mem_cons.1 hs with rfl | hs
   ·exact Xvv ⟨(hw x (by simp)).m,f1⟩
   ·obtain ⟨y,_,rfl⟩:=List.mem_map.1 hs
    exact Xva f y
  ·exact Zut l (i+1) (fun y hy=>hw y (by simp [hy])) (fun y hy=>hb y (by simp [hy])) s hs
theorem Xxz (m:Zf) (d:Zq):(10:UInt8) ∉ Vv m d:=by
 unfold Vv
 simp only [List.mem_append,not_or]
 refine ⟨⟨⟨⟨⟨⟨by decide,Bd _⟩,by decide⟩,Bd _⟩,by decide⟩,Zdx _⟩,?_⟩
 split
 ·simp only [List.mem_append,not_or];exact ⟨by decide,Oi _⟩
 ·simp
theorem Xen (g:Int) (x:Zk):(10:UInt8) ∉ Hx g x:=by
 unfold Hx Hz
 simp only [List.mem_append,not_or]
 refine ⟨⟨⟨by decide,Bd _⟩,by decide⟩,?_⟩
 split
 ·decide
 ·split
  ·decide
  ·simp only [List.mem_append,not_or];exact ⟨by decide,Bd _⟩
theorem Yyg {m:Zf} {x:Zk} (g:Int) (hx:Qz x) (h:Gy m x) :∀s∈Kh m g x,(10:UInt8) ∉ s:=by
 intro s hs
 rcases List.mem_cons.1 hs with rfl | hs
 ·exact Xen g x
 ·obtain ⟨y,hy,rfl⟩:=List.mem_map.1 hs
  have:(10:UInt8) ∉ y:=by
   unfold Un at hy
   rcases List.mem_append.1 hy with hy | hy
   ·rcases List.mem_append.1 hy with hy | hy
    ·exact Zut _ _ hx.f h.fb _ hy
    ·obtain ⟨d,_,rfl⟩:=List.mem_map.1 hy
     exact Xxz m d
   ·obtain ⟨p,_,rfl⟩:=List.mem_map.1 hy
    exact Yvv p
  show (10:UInt8) ∉ 32::32::y
  simp only [List.mem_cons,not_or]
  exact ⟨by decide,by decide,this⟩
theorem Ztc {m:Zf} :∀(l:List Zk) (i:Nat),(∀x∈l,Qz x)->(∀x∈l,Ke m x=true)->∀s∈Ho m i l,(10:UInt8) ∉ s
 | [],_,_,_,s,hs=>by cases hs
 | x::l,i,hw,hb,s,hs=>by
  rcases List.mem_append.1 hs with hs | hs
  ·exact Yyg i (hw x (by simp)) (Gy.of (hb x (by simp))) s hs
  ·exact Ztc l (i+1) (fun y hy=>hw y (by simp [hy])) (fun y hy=>hb y (by simp [hy])) s hs
theorem Yb3 (m:Zf) :∀(l:List Zk) (i:Nat),Kr m i l=Gw (Ho m i l)
 | [],_=>rfl
 | x::l,i=>by
  show Ub (Kh m i x)++Kr m (i+1) l=Gw (Kh m i x++Ho m (i+1) l)
  rw [Yb3 m l (i+1),Xut];rfl
theorem Waz {m:Zf} {s:Zu} (hs:Uo s) (hf:Um m s=true):Jt (Gg m s)=(Nq s::Ho m 0 s.routines,[]):=by
 obtain ⟨h1,h2,h3,h4,h5⟩:=Ia hf
 have e:Gg m s=Gw (Nq s::Ho m 0 s.routines)++[]:=by
  unfold Gg
  rw [Xl7,Yb3,Lm];simp
 rw [e]
 refine Zyo _ _ (fun x hx=>?_) (by simp)
 rcases List.mem_cons.1 hx with rfl | hx
 ·unfold Nq
  simp only [List.mem_append,not_or]
  exact ⟨by decide,(Yla h1.1 h1.2).2.1,by decide,Bd _,by decide,Bd _⟩
 ·exact Ztc _ _ hs.r h5 x hx
theorem Zk0 {m:Zf} {s:Zu} (hm:Wr m) (hs:Uo s) (hf:Um m s=true):Rb m (Lib.split (Gg m s) [10])=some s:=by
 obtain ⟨h1,h2,h3,h4,h5⟩:=Ia hf
 rw [Xde,Waz hs hf]
 show Rb m (Nq s::(Ho m 0 s.routines++[[]]))=_
 have hl :∀(l:List Zk) (i:Nat),l.length<=(Ho m i l).length:=by
  intro l
  induction l with
  | nil=>intro i;exact Nat.le_refl _
  | cons x l ih=>
   intro i
   have:=ih (i+1)
   show _<=(Kh m i x++Ho m (i+1) l).length
   rw [List.length_append,show (Kh m i x).length=((Un m x).map Wk).length+1 from rfl,List.length_cons]
   omega
 have:=hl s.routines 0
 rw [Rb,if_pos (by unfold Nq;rw [Jx]),Xzd h1 (by omega) h2,if_pos rfl,Zxe hm s.routines 0 _ hs.r h5 (by rw [List.length_append];omega)]
 rfl
theorem Xkq {m:Zf} {s:Zu} (hm:Wr m) (hs:Uo s) (hf:Um m s=true) (hl:(Gg m s).length<=300000):Gp m (Gg m s)=(s,0):=by
 unfold Gp
 rw [if_neg (by omega),Zk0 hm hs hf]
 simp only
 rw [if_pos]
 unfold Ji
 rw [if_pos hf,if_neg (by omega)]
theorem Xy6 {m:Zf} {s t:Zu} (hm:Wr m) (hs:Uo s) (ht:Uo t) (fs:Um m s=true) (ft:Um m t=true) (h:Gg m s=Gg m t):s=t:=by
 have a:=Zk0 hm hs fs
 rw [h,Zk0 hm ht ft] at a
 injection a with a
 exact a.symm
end Go.AM

/- Yf of the proof. -/
namespace Go.AM
open Go
structure HasD (PG:Za):Prop extends HasT PG,HasG PG where
 f306:PG.fn 306=some Zbk
 f316:PG.fn 316=some Ze4
 f322:PG.fn 322=some Zfo
 f260:PG.fn 260=some Al
 f266:PG.fn 266=some Zaj
 f317:PG.fn 317=some Zda
 f307:PG.fn 307=some Lq
 f308:PG.fn 308=some Lc
 f318:PG.fn 318=some Ae
 f304:PG.fn 304=none
 o304 :∀s:Zc,s.length<=1000000000->PG.orac 304 [.s s,.s [10]]=some (.sl .ext ((Lib.split s [10]).map Zv))
 f323:PG.fn 323=none
 o323 :∀s:Zc,s.length<=1000000000->PG.orac 323 [.s s,.s [32],.i .i64 4]=some (.sl .ext ((Lib.splitN s [32] 4).map Zv))
 f197:PG.fn 197=none
 o197 :∀s p:Zc,s.length<=1000000000->PG.orac 197 [.s s,.s p]=some (.i .i64 (Lib.index s p))
section
variable {PG:Za} (H:HasD PG)
include H
theorem Xnl {s:Zc} (hs:s.length<=1000000000) (p:Zc):Ze PG 197 [.s s,.s p] (.i .i64 (Lib.index s p)):=Ze.orac H.f197 (H.o197 s p hs) rfl
theorem Xvj {s:Zc} (hs:s.length<=1000000000):Ze PG 304 [.s s,.s [10]] (.sl .ext ((Lib.split s [10]).map Zv)):=Ze.orac H.f304 (H.o304 s hs) rfl
theorem Xk0 {s:Zc} (hs:s.length<=1000000000):Ze PG 323 [.s s,.s [32],.i .i64 4] (.sl .ext ((Lib.splitN s [32] 4).map Zv)):=Ze.orac H.f323 (H.o323 s hs) rfl
theorem Xey (s p:Zc):Ze PG 306 [.s s,.s p] (.b (Zn p s).2):=by
 obtain ⟨x,rfl,h⟩:=Yqe H.f306 (s0:=s) (prefix1:=p) (K:=fun x=>x=(Zn p s).2) (by
  unfold Zmy
  refine ⟨_,c46 H.toHas03 s p,?_⟩
  unfold Zn
  split<;>rename_i h<;>simp [h])
 exact h
theorem Xwx (s p:Zc) (hp:p.length<=1000000000):Ze PG 322 [.s s,.s p] (.s (Zn p s).1):=by
 obtain ⟨x,rfl,h⟩:=Wa9 H.f322 (s0:=s) (prefix1:=p) (K:=fun x=>x=(Zn p s).1) (by
  unfold Zoh
  refine ⟨_,c46 H.toHas03 s p,fun h=>?_,fun h=>?_⟩
  ·have h:s.take p.length=p:=by simpa using h
   refine ⟨by omega,?_,?_⟩
   ·have:=congrArg List.length h
    simp only [List.length_take] at this
    omega
   ·unfold Zn;rw [if_pos h];rfl
  ·have h:¬ s.take p.length=p:=by simpa using h
   unfold Zn;rw [if_neg h])
 exact h
theorem Zvs (s p:Zc) (hp:p.length<=1000000000):Ze PG 316 [.s s,.s p] (.s (Zn p s).1):=by
 obtain ⟨x,rfl,h⟩:=Ywi H.f316 (s0:=s) (prefix1:=p) (K:=fun x=>x=(Zn p s).1) (by
  unfold Zqr
  exact ⟨_,Xwx H s p hp,rfl⟩)
 exact h
theorem Xn5 {s p:Zc} (hs:s.length<=1000000000) (hp:p.length<=1000):Ze PG 266 [.s s,.s p] (.tup [.s (Lib.cut s p).1,.s (Lib.cut s p).2.1,.b (Lib.cut s p).2.2]):=by
 obtain ⟨x,y,z,⟨rfl,rfl,rfl⟩,h⟩:=Xlf H.f266 (s0:=s) (sep1:=p) (K:=fun x y z=>x=(Lib.cut s p).1/\y=(Lib.cut s p).2.1/\z=(Lib.cut s p).2.2) (by
  unfold Znn
  refine ⟨_,Xnl H hs p,fun h=>?_,fun h=>?_⟩
  ·have h1:=Lib.index_le s p
   have h2:=Lib.index_room s p (by omega)
   rw [Xq (by omega) (by omega)]
   unfold Lib.cut
   rw [if_pos (by omega)]
   refine ⟨by omega,by omega,by omega,by omega,rfl,?_,rfl⟩
   congr 1
   omega
  ·unfold Lib.cut
   rw [if_neg (by omega)]
   exact ⟨rfl,rfl,rfl⟩)
 exact h
theorem Zjl {s p:Zc} (hs:s.length<=1000000000) (hp:p.length<=1000):Ze PG 260 [.s s,.s p] (.tup [.s (Lib.cut s p).1,.s (Lib.cut s p).2.1,.b (Lib.cut s p).2.2]):=by
 obtain ⟨x,y,z,⟨rfl,rfl,rfl⟩,h⟩:=We4 H.f260 (s0:=s) (sep1:=p) (K:=fun x y z=>x=(Lib.cut s p).1/\y=(Lib.cut s p).2.1/\z=(Lib.cut s p).2.2) (by
  unfold Zpc
  exact ⟨_,_,_,Xn5 H hs hp,rfl,rfl,rfl⟩)
 exact h
theorem Zgh (s:Zc):Ze PG 317 [.s s] (.tup [.i .i64 (Wb s).1,.b (decide ((Wb s).2=0))]):=by
 obtain ⟨x,y,⟨rfl,rfl⟩,h⟩:=Xd5 H.f317 (s0:=s) (K:=fun x y=>x=(Wb s).1/\y=decide ((Wb s).2=0)) (by
  unfold Zmn
  exact ⟨_,_,c21 H.toHas03 s,rfl,rfl⟩)
 exact h
theorem Xrq {s:Zc} (hs:s.length<=1000000):Ym PG 307 [.s s] (fun r=>r=.tup [(Hk s).1.avo .full,.b (Hk s).2]):=by
 refine (Xvk H.f307 (s0:=s) (K:=fun x y=>x=(Hk s).1/\y=(Hk s).2) ?_).to ?_
 ·unfold Zjf Zhw Zp2
  have l0:(Zn Hd s).1.length<=1000000:=by unfold Zn;split<;>simp<;>omega
  have lc :∀(x p:Zc),x.length<=1000000->(Lib.cut x p).1.length<=1000000/\(Lib.cut x p).2.1.length<=1000000:=by
   intro x p hx
   unfold Lib.cut
   split<;>simp<;>omega
  have l1:=lc _ Md l0
  refine ⟨_,Zvs H s Hd (by decide),_,_,_,Zjl H (p:=Md) (by omega) (by decide),?_⟩
  unfold Zm9
  refine ⟨_,_,_,Zjl H (p:=Mt) (by omega) (by decide),?_⟩
  unfold Zkt
  refine ⟨_,_,Xhf H.toHasT _,?_⟩
  unfold Zih Zob Zhy
  refine ⟨_,_,Zgh H _,?_⟩
  unfold Zkj
  refine ⟨_,_,Zgh H _,?_⟩
  unfold Zk5 Hk Zo4 Zrb
  simp only
  generalize Lib.cut (Zn Hd s).1 Md=a
  generalize Lib.cut a.2.1 Mt=b
  cases a.2.2<;>cases b.2.2<;>by_cases e1:(Wb b.1).2=0<;>by_cases e2:(Wb b.2.1).2=0<;>simp [e1,e2]
 ·rintro r ⟨x,y,rfl,rfl,rfl⟩
  rfl
theorem Wjb {s:Zc} (hs:s.length<=1000000):Ym PG 308 [.s s] (fun r=>r=.tup [.ag [.i .u8 (Kk s).1.status,.i .i64 (Kk s).1.key,.sl .full [],.sl .full [],.sl .full []],.b (Kk s).2]):=by
 have hz:(Kk s).1.frames=[]/\(Kk s).1.defers=[]/\(Kk s).1.panics=[]:=by
  unfold Kk Oz
  repeat' split
  all_goals exact ⟨rfl,rfl,rfl⟩
 refine (Xgc H.f308 (s0:=s) (K:=fun x y=>x=(Kk s).1/\y=(Kk s).2) ?_).to ?_
 ·unfold Znq
  refine ⟨_,_,_,Zjl H (p:=Ng) (by omega) (by decide),_,_,Py H.toHas03 _ Ib,fun h=>?_,fun h=>⟨fun h2=>⟨_,_,c21 H.toHas03 _,?_⟩,fun h2=>⟨fun h3=>?_,fun h3=>?_⟩⟩⟩
  ·have h:(Lib.cut s Ng).2.2=false:=by simpa using h
   unfold Kk;rw [if_pos h];exact ⟨rfl,rfl⟩
  all_goals
   have h:¬ (Lib.cut s Ng).2.2=false:=by simpa using h
   unfold Kk;rw [if_neg h];unfold Oz
  ·rw [if_pos h2];exact ⟨rfl,rfl⟩
  ·rw [if_neg (by rw [h2];exact Bool.false_ne_true),if_pos (show _=Zgs from h3)];exact ⟨rfl,rfl⟩
  ·rw [if_neg (by rw [h2];exact Bool.false_ne_true),if_neg (show ¬ _=Zgs from h3)];exact ⟨rfl,rfl⟩
 ·rintro r ⟨x,y,rfl,rfl,rfl⟩
  rw [hz.1,hz.2.1,hz.2.2]
  rfl
end
end Go.AM

/- Yf of the proof. -/
namespace Go.AM
open Go
section
variable {PG:Za} (H:HasQ PG)
include H
end
end Go.AM

/- Yf of the proof. -/
namespace Go.AM
open Go
section
variable {PG:Za} (H:HasQ PG)
include H
end
end Go.AM

/- Yf of the proof. -/
namespace Go.AM
open Go
theorem Zor (p:Zc) (v:Nat) :∀(k:Nat) (s:Zc),(Lib.splitK p v k s).length<=k+1
 | 0,_=>Nat.le_refl _
 | k+1,s=>by
  unfold Lib.splitK
  split
  ·simp
  ·have:=Zor p v k (s.drop ((Lib.index s p).toNat+p.length))
   simp only [List.length_cons];omega
theorem Zrs (p:Zc) :∀(k:Nat) (s x:Zc),x∈Lib.splitK p 0 k s->x.length<=s.length
 | 0,s,x,h=>by
  simp only [Lib.splitK,List.mem_singleton] at h
  rw [h];exact Nat.le_refl _
 | k+1,s,x,h=>by
  unfold Lib.splitK at h
  split at h
  ·rw [List.mem_singleton.1 h];exact Nat.le_refl _
  ·rcases List.mem_cons.1 h with rfl | h
   ·simp;omega
   ·have:=Zrs p k _ x h
    simp at this
    omega
noncomputable def Cw (a b:Zk):Bool:=@decide (a=b) (Classical.propDecidable _)
theorem Zhg {v w:Zk}:Cw v w=true↔v=w:=by unfold Cw;simp
theorem Zwy {v w:Zk}:Cw v w=false↔v≠w:=by rw [<- Bool.not_eq_true,Zhg]
noncomputable def Lo (a b:Zu):Bool:=@decide (a=b) (Classical.propDecidable _)
theorem Zey {v w:Zu}:Lo v w=true↔v=w:=by unfold Lo;simp
theorem Ygz {v w:Zu}:Lo v w=false↔v≠w:=by rw [<- Bool.not_eq_true,Zey]
noncomputable def Pa (a b:List Zh):Bool:=@decide (a=b) (Classical.propDecidable _)
theorem Zeq {v w:List Zh}:Pa v w=true↔v=w:=by unfold Pa;simp
theorem Wit {v w:List Zh}:Pa v w=false↔v≠w:=by rw [<- Bool.not_eq_true,Zeq]
section
variable {PG:Za}
theorem Xgj (H:HasD PG) {m:Zf} (hm:Wr m) {s:Zc} (hs:s.length<=1000000) :∃d b,Ze PG 318 [m.av,.s s] (.tup [Zq.av d,.b b])/\(b=true->Gf m s=some d)/\(b=false->Gf m s=none):=by
 obtain ⟨x,y,⟨h1,h2⟩,h⟩:=Wbj H.f318 (m0:=m) (s1:=s) (K:=fun x y=>(y=true->Gf m s=some x)/\(y=false->Gf m s=none)) (by
  have no :∀{d:Zq},Gf m s=none->(Eq false true->Gf m s=some d)/\(Eq false false->Gf m s=none):=fun h=>⟨fun h=>(by cases h),fun _=>h⟩
  unfold Zln Zoe Zl6
  refine ⟨_,Xk0 H (by omega),?_⟩
  have hl:(Lib.splitN s [32] 4).length<=4:=Nat.le_trans (Zor _ _ _ _) (by omega)
  have hmm :∀x∈Lib.splitN s [32] 4,x.length<=1000000:=fun x hx=>Nat.le_trans (Zrs _ _ _ _ hx) hs
  unfold Zkb
  generalize hw:Lib.splitN s [32] 4=w at hl hmm
  refine ⟨fun h=>no ?_,fun h=>?_⟩
  ·unfold Gf;rw [hw]
   match w,h with
   | [],_=>rfl
   | [_],_=>rfl
   | [_,_],_=>rfl
   | [_,_,_],_=>rfl
   | _::_::_::_::r,h=>exact absurd h (by simp only [List.length_cons];omega)
  match w,hl,h,hw,hmm with
  | [],_,h,_,_=>exact absurd (by simp only [List.length_cons,List.length_nil];omega) h
  | [_],_,h,_,_=>exact absurd (by simp only [List.length_cons,List.length_nil];omega) h
  | [_,_],_,h,_,_=>exact absurd (by simp only [List.length_cons,List.length_nil];omega) h
  | [_,_,_],_,h,_,_=>exact absurd (by simp only [List.length_cons,List.length_nil];omega) h
  | _::_::_::_::_::r,hl,_,_,_=>simp only [List.length_cons] at hl;omega
  | [z,a,b,c],_,_,hw,hmm=>
  have e:Gf m s=Bh m a b c:=by unfold Gf;rw [hw]
  have hc:c.length<=1000000:=hmm c (by simp)
  rw [e] at no ⊢
  unfold Zp3 Zn6
  refine ⟨a,rfl,_,_,Zgh H a,?_⟩
  unfold Zms
  refine ⟨b,rfl,_,_,Zgh H b,?_⟩
  unfold Zre
  refine ⟨fun h=>no ?_,fun h1=>⟨fun h=>no ?_,fun h2=>⟨fun h=>no ?_,fun h3=>⟨fun h=>no ?_,fun h4=>?_⟩⟩⟩⟩
  ·unfold Bh;rw [if_pos (.inl (by simpa using h))]
  ·unfold Bh;rw [if_pos (.inr (.inl (by simpa using h)))]
  ·unfold Bh;rw [if_pos (.inr (.inr (.inl h)))]
  ·unfold Bh;rw [if_pos (.inr (.inr (.inr h)))]
  have h1:(Wb a).2=0:=by simpa using h1
  have h2:(Wb b).2=0:=by simpa using h2
  simp only at h3 h4
  have hn:(Wb b).1.toNat<m.funcs.length:=by omega
  have hcnd:¬ ((Wb a).2≠0\/(Wb b).2≠0\/(Wb b).1<0\/(m.funcs.length:Int)<=(Wb b).1):=by omega
  have hq:Ms (m.funcs[(Wb b).1.toNat]).name=(quo (Qj m (Wb b).1),0):=by
   have:=(hm.f _ (List.getElem_mem hn)).1
   unfold Ms Qj
   rw [if_neg (by omega),List.getElem?_eq_getElem hn,Option.getD_some]
  unfold Zk6
  refine ⟨by simp only;omega,_,List.getElem?_eq_getElem hn,_,_,c11 H.toHas03 _,c,rfl,_,_,Py H.toHas03 _ _,?_⟩
  rw [hq]
  refine ⟨fun h=>absurd rfl h,fun _=>⟨fun h=>no ?_,fun h=>?_⟩⟩
  ·unfold Bh;rw [if_neg hcnd,if_pos (by simpa using h)]
  have hcut:¬ (Zn (quo (Qj m (Wb b).1)) c).2=false:=by simpa using h
  have e2:Bh m a b c=Tt (Wb a).1 (Wb b).1 (Zn (quo (Qj m (Wb b).1)) c).1:=by unfold Bh;rw [if_neg hcnd,if_neg hcut]
  rw [e2] at no ⊢
  have hr:(Zn (quo (Qj m (Wb b).1)) c).1.length<=1000000:=by unfold Zn;split<;>simp<;>omega
  generalize (Zn (quo (Qj m (Wb b).1)) c).1=r at no hr
  unfold Zi8
  refine ⟨fun h=>?_,fun h=>⟨_,Zvs H r Sj (by decide),_,_,c74 H.toHas38 ?_,?_,?_⟩⟩
  ·unfold Tt;rw [if_pos h];exact ⟨fun _=>rfl,fun h=>by cases h⟩
  ·unfold Zn;split<;>simp<;>omega
  ·intro h3
   have h3:=of_decide_eq_true h3
   unfold Tt;rw [if_neg h,if_pos h3]
  ·intro h3
   have h3:=of_decide_eq_false h3
   unfold Tt;rw [if_neg h,if_neg h3])
 exact ⟨x,y,h,h1,h2⟩
theorem Xud (H:HasQ PG) {a b:List Zh} (hl:a.length<=9223372036854775807) (hw :∀p∈a,Wf p.value):Ze PG 170 [.sl .ext (a.map Zh.row),.sl .ext (b.map Zh.row)] (.b (Pa a b)):=by
 obtain ⟨x,rfl,h⟩:=Xta H.f170 (a0:=a) (b1:=b) (K:=fun x=>x=Pa a b) (by
  have no :∀{p:Prop},(a=b->p)->¬p->false=Pa a b:=fun h1 h2=>(Wit.2 fun h=>h2 (h1 h)).symm
  unfold Znf
  refine ⟨fun h=>no (fun e=>by rw [e]) h,fun h P hP=>?_⟩
  have h5:a.length=b.length:=by omega
  refine Db (P:=P) a.length (fun i=>a.take i=b.take i) (by simp) (fun hI=>hP _ ?_) (fun i hi hI ihP=>hP _ ?_)
  ·unfold Zcn Zpv
   refine ⟨fun h=>absurd h (by omega),fun _=>?_⟩
   rw [List.take_length,h5,List.take_length] at hI
   exact (Zeq.2 hI).symm
  ·have hi2:i<b.length:=by omega
   unfold Zcn
   refine ⟨fun _=>⟨by omega,_,Xm hi,by omega,_,Xm hi2,_,Xel H.toHasP (hw _ (List.getElem_mem hi)),fun h7=>no (p:=a[i]=b[i]) (fun e=>by subst e;rfl) (fun e=>by rw [Zx1.2 e] at h7;cases h7),fun h7=>?_⟩,fun h=>absurd (show (i:Int)<a.length by omega) h⟩
   rw [Xq (by omega) (by omega)]
   refine ihP ?_
   have e:a[i]=b[i]:=Zx1.1 (by simpa using h7)
   rw [List.take_succ_eq_append_getElem hi,List.take_succ_eq_append_getElem hi2,hI,e])
 exact h
theorem Xvo (H:HasT PG) (hf:PG.fn 314=some Lv) {a b:Zk} (ha:Ax a):Ze PG 314 [a.av,b.av] (.b (Cw a b)):=by
 obtain ⟨x,rfl,h⟩:=Xl4 hf (a0:=a) (b1:=b) (K:=fun x=>x=Cw a b) (by
  have no :∀{p:Prop},(a=b->p)->¬p->false=Cw a b:=fun h1 h2=>(Zwy.2 fun h=>h2 (h1 h)).symm
  have hfl:=ha.fl;have hdl:=ha.dl
  unfold Zlz Zkl
  refine ⟨fun h=>no (fun e=>by rw [e]) h,fun e1=>⟨fun h=>no (fun e=>by rw [e]) h,fun e2=>⟨fun h=>no (fun e=>by rw [e]) h,fun e3=>⟨fun h=>no (fun e=>by rw [e]) h,fun e4=>⟨_,Xud H.toHasQ ha.pl fun p hp=>(ha.p p hp).v,fun h=>no (p:=a.panics=b.panics) (fun e=>by rw [e]) (fun e=>by rw [Zeq.2 e] at h;cases h),fun e5=>?_⟩⟩⟩⟩⟩
  have e5:a.panics=b.panics:=Zeq.1 (by simpa using e5)
  unfold Zp6
  intro P hP
  refine Db (P:=P) a.frames.length (fun i=>a.frames.take i=b.frames.take i) (by simp) (fun hI=>hP _ ?_) (fun i hi hI ihP=>hP _ ?_)
  ·unfold Zbq Znp
   refine ⟨fun h=>absurd h (by omega),fun _ P hP=>?_⟩
   have e3':a.frames.length=b.frames.length:=by omega
   rw [List.take_length,e3',List.take_length] at hI
   refine Db (P:=P) a.defers.length (fun i=>a.defers.take i=b.defers.take i) (by simp) (fun hJ=>hP _ ?_) (fun i hi hJ ihP=>hP _ ?_)
   ·unfold Zff Zs3
    refine ⟨fun h=>absurd h (by omega),fun _=>?_⟩
    have e4':a.defers.length=b.defers.length:=by omega
    rw [List.take_length,e4',List.take_length] at hJ
    refine (Zhg.2 ?_).symm
    have e1:=Decidable.not_not.1 e1
    have e2:=Decidable.not_not.1 e2
    cases a;cases b
    simp only at e1 e2 e5 hI hJ
    rw [e1,e2,e5,hI,hJ]
   ·have hi2:i<b.defers.length:=by omega
    unfold Zff
    refine ⟨fun _=>⟨by omega,_,Xm hi,by omega,_,Xm hi2,fun h=>no (p:=a.defers[i].frame=b.defers[i].frame) (fun e=>by subst e;rfl) h,fun h1=>⟨fun h=>no (p:=a.defers[i].func=b.defers[i].func) (fun e=>by subst e;rfl) h,fun h2=>⟨fun h=>no (p:=a.defers[i].hasArg=b.defers[i].hasArg) (fun e=>by subst e;rfl) h,fun h3=>⟨_,c78 H.toHas38 (ha.d _ (List.getElem_mem hi)) _,fun h=>no (p:=a.defers[i].arg=b.defers[i].arg) (fun e=>by subst e;rfl) (Zet.1 (by simpa using h)),fun h4=>?_⟩⟩⟩⟩,fun h=>absurd (show (i:Int)<a.defers.length by omega) h⟩
    rw [Xq (by omega) (by omega)]
    refine ihP ?_
    have e:a.defers[i]=b.defers[i]:=by
     have h1:=Decidable.not_not.1 h1
     have h2:=Decidable.not_not.1 h2
     have h3:=Decidable.not_not.1 h3
     have h4:=Lr.1 (show Rh _ _=true by simpa using h4)
     revert h1 h2 h3 h4
     generalize a.defers[i]=x
     generalize b.defers[i]=y
     intro h1 h2 h3 h4
     cases x;cases y
     simp only at h1 h2 h3 h4
     rw [h1,h2,h3,h4]
    rw [List.take_succ_eq_append_getElem hi,List.take_succ_eq_append_getElem hi2,hJ,e]
  ·have hi2:i<b.frames.length:=by omega
   unfold Zbq
   refine ⟨fun _=>⟨by omega,_,Xm hi,by omega,_,Xm hi2,_,c88 H.toHasF (ha.f _ (List.getElem_mem hi)),fun h=>no (p:=a.frames[i]=b.frames[i]) (fun e=>by subst e;rfl) (Yhj.1 (by simpa using h)),fun h=>?_⟩,fun h=>absurd (show (i:Int)<a.frames.length by omega) h⟩
   rw [Xq (by omega) (by omega)]
   refine ihP ?_
   have e:a.frames[i]=b.frames[i]:=Zvv.1 (by simpa using h)
   rw [List.take_succ_eq_append_getElem hi,List.take_succ_eq_append_getElem hi2,hI,e])
 exact h
theorem Ylt (H:HasT PG) (hf:PG.fn 314=some Lv) (hf2:PG.fn 302=some Oa) {a b:Zu} (ha:Cm a):Ze PG 302 [a.av,b.av] (.b (Lo a b)):=by
 obtain ⟨x,rfl,h⟩:=Xmk hf2 (a0:=a) (b1:=b) (K:=fun x=>x=Lo a b) (by
  have no :∀{p:Prop},(a=b->p)->¬p->false=Lo a b:=fun h1 h2=>(Ygz.2 fun h=>h2 (h1 h)).symm
  have hl:=ha.n
  unfold Ziu
  refine ⟨fun h=>no (fun e=>by rw [e]) h,fun e1=>⟨fun h=>no (fun e=>by rw [e]) h,fun e2=>⟨fun h=>no (fun e=>by rw [e]) h,fun e3=>⟨fun h=>no (fun e=>by rw [e]) h,fun e4=>?_⟩⟩⟩⟩
  unfold Zl5
  intro P hP
  refine Db (P:=fun i=>P i a b) a.routines.length (fun i=>a.routines.take i=b.routines.take i) (by simp) (fun hI=>hP _ _ _ ?_) (fun i hi hI ihP=>hP _ _ _ ?_)
  ·unfold Ze1 Zoc
   refine ⟨fun h=>absurd h (by omega),fun _=>?_⟩
   have e4':a.routines.length=b.routines.length:=by omega
   rw [List.take_length,e4',List.take_length] at hI
   refine (Zey.2 ?_).symm
   have e1:=Decidable.not_not.1 e1
   have e2:=Decidable.not_not.1 e2
   have e3:=Decidable.not_not.1 e3
   cases a;cases b
   simp only at e1 e2 e3 hI
   rw [e1,e2,e3,hI]
  ·have hi2:i<b.routines.length:=by omega
   unfold Ze1
   refine ⟨fun _=>⟨by omega,_,Xm hi,by omega,_,Xm hi2,_,Xvo H hf (ha.r _ (List.getElem_mem hi)),fun h=>no (p:=a.routines[i]=b.routines[i]) (fun e=>by subst e;rfl) (Zwy.1 (by simpa using h)),fun h=>?_⟩,fun h=>absurd (show (i:Int)<a.routines.length by omega) h⟩
   rw [Xq (by omega) (by omega)]
   refine ihP ?_
   have e:a.routines[i]=b.routines[i]:=Zhg.1 (by simpa using h)
   rw [List.take_succ_eq_append_getElem hi,List.take_succ_eq_append_getElem hi2,hI,e])
 exact h
end
end Go.AM

/- Yf of the proof. -/
namespace Go.AM
open Go
attribute [local irreducible] WO Wq Ws
set_option maxRecDepth 4000
def Jr (p:Zc):List Zc->Zc × Bool × List Zc
 | []=>([],false,[])
 | x::r=>if (Zn p x).2=true then (x,true,r) else ([],false,x::r)
def Ni (PG:Za):Prop:=∀(p:Zc) (d:Nat) (st:St) (k:Zo) (v:Nat) (l:List Zc),k.1<d->lk st.bx k=some (v,[.sl .ext (l.map Zv)])->
 ∃st',Fn PG d 305 [.s p,.p k v 0] st (.tup [.s (Jr p l).1,.b (Jr p l).2.1]) st'/\st'.ow=st.ow/\lk st'.bx k=some (v,[.sl .ext ((Jr p l).2.2.map Zv)])/\∀k':Zo,k'.1<d->k'≠k->lk st'.bx k'=lk st.bx k'
theorem Tk {bx:Xw} {d:Nat} {k:Zo} (hk:k.1<d):lk (bx.filter fun x=>x.1.1<d) k=lk bx k:=Av hk
theorem Yeb {PG:Za} (H:HasD PG) (hf:PG.fn 305=some Zag):Ni PG:=by
 intro p d st k v l hk hb
 have main:=Fn.of' (PG:=PG) (d:=d) (args:=[.s p,.p k v 0]) (st:=st) (K:=fun r st'=>r=.tup [.s (Jr p l).1,.b (Jr p l).2.1]/\st'.ow=st.ow/\lk st'.bx k=some (v,[.sl .ext ((Jr p l).2.2.map Zv)])/\∀k':Zo,k'.1<d->k'≠k->lk st'.bx k'=lk st.bx k') hf (Nat.le_of_ble_eq_true rfl) ?_
 ·obtain ⟨r,st',h1,rfl,h2⟩:=main
  exact ⟨st',h1,h2⟩
 -- nothing left of that kind: the result is ("",false)
 have no :∀{σ:Sl} {nx:Nat},Jr p l=([],false,l)->W PG d (.seq (.reg 2 Yjn) .ret) σ ⟨nx,st.bx,st.ow⟩ (Zs PG d Ygb (Re d Zag.res fun r st'=>r=.tup [.s (Jr p l).1,.b (Jr p l).2.1]/\st'.ow=st.ow/\lk st'.bx k=some (v,[.sl .ext ((Jr p l).2.2.map Zv)])/\∀k':Zo,k'.1<d->k'≠k->lk st'.bx k'=lk st.bx k')):=by
  intro σ nx hn
  rw [hn]
  refine q_ rfl (m_ (m_ (e_ (Nk ⟨_,rfl,rfl,rfl,?_,fun k' h1 h2=>?_⟩))))
  ·exact (Tk hk).trans hb
  ·exact Tk h1
 show W PG d Zuu (Xz [.s p,.p k v 0]) st _
 refine q_ rfl (m_ (m_ (e_ (Zm (q_ rfl (l_ rfl hb rfl rfl ?_))))))
 cases l with
 | nil=>
  refine Xc (l:=([]:List Zc)) (f:=Zv) rfl (Ro (a:=.i .i64 0) (b:=.i .i64 0) (v:=.b true) rfl rfl rfl (m_ ?_))
  refine Gv (b:=true) rfl rfl (Gv (b:=true) rfl rfl (Gv (b:=true) rfl rfl (Gv (b:=true) rfl rfl (Gv (b:=true) rfl rfl (Gv (b:=true) rfl rfl ?_)))))
  exact Dh rfl rfl (e_ (Yr rfl (no rfl)))
 | cons x r=>
  have hne:decide (((x::r).length:Int)=0)=false:=by simp;omega
  refine Xc (l:=x::r) (f:=Zv) rfl (Ro (a:=.i .i64 ((x::r).length:Int)) (b:=.i .i64 0) (v:=.b false) rfl rfl (by rw [Ygl,hne]) (m_ ?_))
  refine Zd rfl (l_ rfl hb rfl rfl (Zd rfl (Wz (l:=x::r) (f:=Zv) rfl rfl (by decide) rfl rfl rfl (Zd rfl (Xp rfl rfl rfl (Zd rfl (m_ ?_)))))))
  refine Zd rfl (Yg (sc rfl rfl (sc rfl rfl sn)) (Xey H x p) (Zd rfl (Xx rfl (Vp rfl rfl (e_ ?_)))))
  by_cases hc:(Zn p x).2=true
  ·have hn:Jr p (x::r)=(x,true,r):=by simp only [Jr,if_pos hc]
   rw [hn]
   refine Hy (show AV.b (!(Zn p x).2)=_ by rw [hc];rfl) (Yd ?_)
   refine q_ rfl (l_ rfl hb rfl rfl (Wz (l:=x::r) (f:=Zv) rfl rfl (by decide) rfl rfl rfl (Xp rfl rfl rfl (m_ (e_ ?_)))))
   refine q_ rfl (l_ rfl hb rfl rfl (Zv5 (l:=x::r) (f:=Zv) Cc rfl rfl (by decide) (by simp) (Ye rfl hb rfl rfl rfl (e_ ?_))))
   refine q_ rfl (m_ (m_ (m_ (e_ (Nk ⟨_,rfl,rfl,rfl,?_,fun k' h1 h2=>?_⟩)))))
   ·exact (Tk hk).trans Zi
   ·exact (Tk h1).trans (Gj (fun e=>h2 e.symm))
  ·have hn:Jr p (x::r)=([],false,x::r):=by simp only [Jr,if_neg hc]
   have hc:(Zn p x).2=false:=by simpa using hc
   exact Yr (show AV.b (!(Zn p x).2)=_ by rw [hc];rfl) (no hn)
end Go.AM

/- Yf of the proof. -/
namespace Go.AM
open Go
attribute [local irreducible] WO Wq Ws
set_option maxRecDepth 4000
set_option maxHeartbeats 1000000
set_option linter.unusedVariables false
def Jo (d:Nat) (kl kx:Zo) (bx:Xw) (ow:Xt) (bx':Xw) (ow':Xt):Prop:=
 (∀k':Zo,k'.1<d->k'≠kl->k'≠kx->lk bx' k'=lk bx k')/\(∀k':Zo,k'.1<d->lk ow' k'=lk ow k')
theorem Jo.app {S:List Nat} {d n site:Nat} {kl kx:Zo} {bx bx':Xw} {ow ow1 ow2:Xt} {o:Zl} (h:Jo d kl kx bx ow bx' ow1) (ha:Qe S d ow1 o n) (hw :∀k',some k'≠Ko o->k'≠(d,site)->lk ow2 k'=lk ow1 k'):Jo d kl kx bx ow bx' ow2:=by
 refine ⟨h.1,fun k' h1=>(hw k' ?_ ?_).trans (h.2 k' h1)⟩
 ·intro e
  cases o with
  | ext=>cases e
  | full=>cases e
  | id k v=>
   injection e with e
   subst e
   have:=(ha.2 _ _ rfl).1
   omega
 ·rintro rfl
  exact Nat.lt_irrefl _ h1
theorem Jo.here {d:Nat} {kl kx:Zo} {bx bx':Xw} {ow ow':Xt} {s:Nat} {a:Nat × List AV} (h:Jo d kl kx bx ow bx' ow'):Jo d kl kx bx ow (Yx bx' (d,s) a) ow':=
 ⟨fun k' h1 h2 h3=>(Gj (by rintro rfl;exact Nat.lt_irrefl _ h1)).trans (h.1 k' h1 h2 h3),h.2⟩
theorem Jo.setX {d:Nat} {kl kx:Zo} {bx bx':Xw} {ow ow':Xt} {a:Nat × List AV} (h:Jo d kl kx bx ow bx' ow'):Jo d kl kx bx ow (Yx bx' kx a) ow':=
 ⟨fun k' h1 h2 h3=>(Gj (fun e=>h3 e.symm)).trans (h.1 k' h1 h2 h3),h.2⟩
theorem Jo.next {d:Nat} {kl kx:Zo} {bx bx' bx2:Xw} {ow ow':Xt} (h:Jo d kl kx bx ow bx' ow') (c :∀k':Zo,k'.1<d+1->k'≠kl->lk bx2 k'=lk bx' k'):Jo d kl kx bx ow bx2 ow':=
 ⟨fun k' h1 h2 h3=>(c k' (Nat.lt_succ_of_lt h1) h2).trans (h.1 k' h1 h2 h3),h.2⟩
section
variable {PG:Za} {d id base i:Nat} {σ:Sl} {st:St} {K:Sl->St->Prop} {r:List AI} {t:Option Nat} {x y:Zr}
theorem Nd {args:List Zr} {p:Zc} {k:Zo} {v:Nat} {l:List Zc} (hL:Ni PG) (hx:x.ev σ=.fn 305 [.p k v 0]) (hs:Vb σ args=[.s p]) (hk:k.1<d+1) (hb:lk st.bx k=some (v,[.sl .ext (l.map Zv)]))
  (h :∀(nx':Nat) (bx':Xw),lk bx' k=some (v,[.sl .ext ((Jr p l).2.2.map Zv)])->(∀k':Zo,k'.1<d+1->k'≠k->lk bx' k'=lk st.bx k')->WO PG d id base (i+1) r (Zw σ t (.tup [.s (Jr p l).1,.b (Jr p l).2.1])) ⟨nx',bx',st.ow⟩ K):WO PG d id base i (⟨t,.callv x args,none⟩::r) σ st K:=by
 refine Qy ?_
 obtain ⟨⟨nx',bx',ow'⟩,h1,h2,h3,h4⟩:=hL p (d+1) st k v l hk hb
 simp only at h2 h3 h4
 subst h2
 show Fy (x.ev σ) (Vb σ args) (fun g l=>WF PG (d+1) g l st _)
 rw [hx,hs]
 exact ⟨_,_,h1,h nx' bx' h3 h4⟩
end
abbrev xc (s k:Int) (o1 o2 o3:Zl) (fs:List Zg) (ds:List Zq) (ps:List Zh):List AV:=[.i .u8 s,.i .i64 k,.sl o1 (fs.map Zg.row),.sl o2 (ds.map Zq.row),.sl o3 (ps.map Zh.row)]
structure MB (d:Nat) (kl:Zo) (vl:Nat) (kx:Zo) (vx v0:Nat) (m:Zf) (s k:Int) (bx0:Xw) (ow0:Xt) (bx:Xw) (ow:Xt) (l:List Zc) (o1 o2 o3:Zl) (fs:List Zg) (ds:List Zq) (ps:List Zh):Prop where
 b0:lk bx (d,0)=some (v0,[.sl .ext (List.map Wu.row m.types),.sl .ext (List.map Zv m.texts),.sl .ext (List.map Yb.row m.funcs)])
 bl:lk bx kl=some (vl,[.sl .ext (l.map Zv)])
 bX:lk bx kx=some (vx,xc s k o1 o2 o3 fs ds ps)
 fr:Jo d kl kx bx0 ow0 bx ow
section
variable {PG:Za} {d:Nat} {kl:Zo} {vl:Nat} {kx:Zo} {vx v0:Nat} {m:Zf} {s k:Int} {bx0:Xw} {ow0:Xt} {bx:Xw} {ow:Xt} {l:List Zc} {o1 o2 o3:Zl} {fs:List Zg} {ds:List Zq} {ps:List Zh}
theorem MB.next {bx':Xw} {l':List Zc} (h:MB d kl vl kx vx v0 m s k bx0 ow0 bx ow l o1 o2 o3 fs ds ps) (hn:kl≠kx) (hl:kl.1<d) (hx:kx.1<d) (h1:lk bx' kl=some (vl,[.sl .ext (l'.map Zv)])) (h2 :∀k':Zo,k'.1<d+1->k'≠kl->lk bx' k'=lk bx k'):MB d kl vl kx vx v0 m s k bx0 ow0 bx' ow l' o1 o2 o3 fs ds ps:=
 ⟨(h2 (d,0) (Nat.lt_succ_self d) (by rintro rfl;exact Nat.lt_irrefl _ hl)).trans h.b0,h1,(h2 kx (by omega) (fun e=>hn e.symm)).trans h.bX,h.fr.next h2⟩
theorem MB.here {site:Nat} {a:Nat × List AV} (h:MB d kl vl kx vx v0 m s k bx0 ow0 bx ow l o1 o2 o3 fs ds ps) (hl:kl.1<d) (hx:kx.1<d) (hs:Nat.beq site 0=false):MB d kl vl kx vx v0 m s k bx0 ow0 (Yx bx (d,site) a) ow l o1 o2 o3 fs ds ps:=
 ⟨Zt hs h.b0,(Gj (by rintro rfl;exact Nat.lt_irrefl _ hl)).trans h.bl,(Gj (by rintro rfl;exact Nat.lt_irrefl _ hx)).trans h.bX,h.fr.here⟩
theorem MB.setX {o1' o2' o3':Zl} {fs':List Zg} {ds':List Zq} {ps':List Zh} (h:MB d kl vl kx vx v0 m s k bx0 ow0 bx ow l o1 o2 o3 fs ds ps) (hn:kl≠kx) (hx:kx.1<d):MB d kl vl kx vx v0 m s k bx0 ow0 (Yx bx kx (vx,xc s k o1' o2' o3' fs' ds' ps')) ow l o1' o2' o3' fs' ds' ps':=
 ⟨(Gj (by rintro rfl;exact Nat.lt_irrefl _ hx)).trans h.b0,(Gj (fun e=>hn e.symm)).trans h.bl,Zi,h.fr.setX⟩
theorem MB.app {S:List Nat} {n site:Nat} {ow2:Xt} {o:Zl} (h:MB d kl vl kx vx v0 m s k bx0 ow0 bx ow l o1 o2 o3 fs ds ps) (ha:Qe S d ow o n) (hw :∀k',some k'≠Ko o->k'≠(d,site)->lk ow2 k'=lk ow k'):MB d kl vl kx vx v0 m s k bx0 ow0 bx ow2 l o1 o2 o3 fs ds ps:=
 ⟨h.b0,h.bl,h.bX,h.fr.app ha hw⟩
end
abbrev S9:List Nat:=[24580]
abbrev SF:List Nat:=[40967]
abbrev SD:List Nat:=[65543]
abbrev SP:List Nat:=[94215]
theorem Zau {p x:Zc} {r:List Zc} (h:(Zn p x).2=true):Jr p (x::r)=(x,true,r):=by simp only [Jr,if_pos h]
theorem Nu {p:Zc} {l:List Zc} (h :∀x r,l=x::r->(Zn p x).2=false):Jr p l=([],false,l):=by
 cases l with
 | nil=>rfl
 | cons x r=>simp only [Jr,if_neg (show ¬ (Zn p x).2=true by rw [h x r rfl];exact Bool.false_ne_true)]
theorem Zb6 {p x:Zc} (h:(Zn p x).2=true):p.length<=x.length:=by
 unfold Zn at h
 split at h
 ·rename_i e
  have:=congrArg List.length e
  simp only [List.length_take] at this
  omega
 ·cases h
section
variable {PG:Za} {d:Nat} {kl:Zo} {vl:Nat} {kx:Zo} {vx v0:Nat} {m:Zf} {s k:Int} {bx0:Xw} {ow0:Xt}
theorem Ysm (hL:Ni PG) (hn:kl≠kx) (hl:kl.1<d) (hx:kx.1<d) {Q:AE->Sl->St->Prop} {fs:List Zg} {o1:Zl} :∀(r acc:List Zc) (σ:Sl) (nx:Nat) (bx:Xw) (ow:Xt) (o9:Zl),acc.length+r.length<=1000000->
  σ 1=.p kx vx 0->σ 2=.fn 305 [.p kl vl 0]->σ 3=.p (d,0) v0 0->σ 9=.sl o9 (acc.map Zv)->MB d kl vl kx vx v0 m s k bx0 ow0 bx ow r o1 .full .full fs [] []->Qe SF d ow o1 fs.length->Qe S9 d ow o9 acc.length->
  (∀(σ:Sl) (nx:Nat) (bx:Xw) (ow:Xt) (o9:Zl),σ 1=.p kx vx 0->σ 2=.fn 305 [.p kl vl 0]->σ 3=.p (d,0) v0 0->σ 9=.sl o9 ((acc++(Ju r).1).map Zv)->MB d kl vl kx vx v0 m s k bx0 ow0 bx ow (Ju r).2 o1 .full .full fs [] []->Qe SF d ow o1 fs.length->Q .normal σ ⟨nx,bx,ow⟩)->
  W PG d (.loop Ygg) σ ⟨nx,bx,ow⟩ (Ya 2 Q):=by
 intro r
 induction r with
 | nil=>
  intro acc σ nx bx ow o9 hlen h1 h2 h3 h9 hB hF hA hK
  refine W.loop (Yj (q_ rfl (m_ (Nd (p:=t4) (l:=[]) hL h2 rfl (by omega) hB.bl fun nx' bx' hb1 hb2=>?_))))
  rw [Nu (p:=t4) (l:=[]) (fun _ _ e=>by cases e)] at hb1 ⊢
  refine m_ (x_ rfl rfl (x_ rfl rfl (m_ (m_ (e_ ?_)))))
  refine Zm (q_ rfl (m_ (Xx (a:=false) rfl (e_ (Yr rfl (Vr ?_))))))
  refine hK _ _ _ _ o9 h1 h2 h3 ?_ (hB.next hn hl hx hb1 hb2) hF
  show σ 9=_
  rw [h9];simp [Ju]
 | cons x r ih=>
  intro acc σ nx bx ow o9 hlen h1 h2 h3 h9 hB hF hA hK
  refine W.loop (Yj (q_ rfl (m_ (Nd (p:=t4) (l:=x::r) hL h2 rfl (by omega) hB.bl fun nx' bx' hb1 hb2=>?_))))
  by_cases hc:(Zn t4 x).2=true
  ·rw [Zau hc] at hb1 ⊢
   have h4:=Zb6 hc
   have h4:4<=x.length:=h4
   have hB:=hB.next hn hl hx hb1 hb2
   simp only [List.length_cons] at hlen
   refine m_ (x_ rfl rfl (x_ rfl rfl (m_ (m_ (e_ ?_)))))
   refine Zm (q_ rfl (m_ (Xx (a:=true) rfl (e_ (Hy rfl (Yd ?_))))))
   refine W.reg0 rfl fun nx2 hnx=>?_
   refine Yi h9 (Qs (l:=x) rfl (Gu (l:=x) (n:=2) rfl rfl (by decide) (by simp;omega) ?_))
   refine Vt (f:=Zv) (l:=[x.drop 2]) rfl rfl (Wg rfl rfl rfl Vl) rfl ?_
   refine Qo (f:=Zv) (l:=acc) (m:=[x.drop 2]) Cc rfl rfl rfl hA.1 ⟨?_,?_⟩ rfl fun o' ow' a1 a2 a3=>?_
   ·simp only [List.length_cons,List.length_nil,Wl];omega
   ·simp only [List.length_cons,List.length_nil,Wl];omega
   refine m_ (e_ ?_)
   refine ih (acc++[x.drop 2]) _ _ _ _ o' (by simp only [List.length_append,List.length_cons,List.length_nil];omega) h1 h2 h3 rfl (hB.app hA a2) (hF.keep hA a2 rfl rfl) (hA.new a1 a3 rfl) ?_
   intro σ nx bx ow o9 g1 g2 g3 g9 gB gF
   refine hK σ nx bx ow o9 g1 g2 g3 ?_ ?_ gF
   ·rw [g9];simp [Ju,hc]
   ·have:(Ju (x::r)).2=(Ju r).2:=by simp [Ju,hc]
    rw [this];exact gB
  ·have hc:(Zn t4 x).2=false:=by simpa using hc
   rw [Nu (p:=t4) (l:=x::r) (fun _ _ e=>by injection e with e1 e2;rw [<- e1];exact hc)] at hb1 ⊢
   refine m_ (x_ rfl rfl (x_ rfl rfl (m_ (m_ (e_ ?_)))))
   refine Zm (q_ rfl (m_ (Xx (a:=false) rfl (e_ (Yr rfl (Vr ?_))))))
   have e1:Ju (x::r)=([],x::r):=by simp [Ju,hc]
   rw [e1] at hK
   refine hK _ _ _ _ o9 h1 h2 h3 ?_ (hB.next hn hl hx hb1 hb2) hF
   show σ 9=_
   rw [h9];simp
theorem Zga :∀r:List Zc,(Ju r).1.length<=r.length/\(Ju r).2.length<=r.length/\∀x∈(Ju r).2,x∈r
 | []=>⟨Nat.le_refl _,Nat.le_refl _,fun x h=>h⟩
 | x::r=>by
  have ih:=Zga r
  unfold Ju
  split
  ·exact ⟨by simpa using ih.1,Nat.le_succ_of_le ih.2.1,fun y h=>List.mem_cons_of_mem _ (ih.2.2 y h)⟩
  ·exact ⟨Nat.zero_le _,Nat.le_refl _,fun y h=>h⟩
theorem Zil {k:Zo} {x:AV} (h:Nat.blt k.2 Xu=true):Me k x=true:=by unfold Me;rw [h];rfl
theorem Xy3 (H:HasD PG) (hL:Ni PG) (hm:Wr m) (hn:kl≠kx) (hl:kl.1<d) (hx:kx.1<d) (hkx:Nat.blt kx.2 Xu=true) {Q:AE->Sl->St->Prop} :∀(n:Nat) (l:List Zc) (fs:List Zg) (σ:Sl) (nx:Nat) (bx:Xw) (ow:Xt) (o1:Zl),l.length<n->fs.length+l.length<=500000->
  σ 1=.p kx vx 0->σ 2=.fn 305 [.p kl vl 0]->σ 3=.p (d,0) v0 0->MB d kl vl kx vx v0 m s k bx0 ow0 bx ow l o1 .full .full fs [] []->Qe SF d ow o1 fs.length->
  (∀(σ:Sl) (nx:Nat) (bx:Xw) (ow:Xt),Qm m n l=none->σ 6=.b false->Jo d kl kx bx0 ow0 bx ow->Q .ret σ ⟨nx,bx,ow⟩)->
  (∀(σ:Sl) (nx:Nat) (bx:Xw) (ow:Xt) (o1:Zl) (z:List Zg × List Zc),Qm m n l=some z->σ 1=.p kx vx 0->σ 2=.fn 305 [.p kl vl 0]->σ 3=.p (d,0) v0 0->MB d kl vl kx vx v0 m s k bx0 ow0 bx ow z.2 o1 .full .full (fs++z.1) [] []->Q .normal σ ⟨nx,bx,ow⟩)->
  W PG d (.loop Zx5) σ ⟨nx,bx,ow⟩ (Ya 0 Q):=by
 intro n
 induction n with
 | zero=>intro l fs σ nx bx ow o1 h;omega
 | succ n ih=>
 intro l fs σ nx bx ow o1 hlen hsz h1 h2 h3 hB hA hF hK
 refine W.loop (Yj (q_ rfl (m_ (Nd (p:=Nf) (l:=l) hL h2 rfl (by omega) hB.bl fun nx' bx' hb1 hb2=>?_))))
 by_cases hno :∀x r,l=x::r->(Zn Nf x).2=false
 ·rw [Nu hno] at hb1 ⊢
  have hB:=hB.next hn hl hx hb1 hb2
  refine m_ (x_ rfl rfl (x_ rfl rfl (m_ (m_ (e_ ?_)))))
  refine Zm (q_ rfl (m_ (Xx (a:=false) rfl (e_ (Yr rfl (Vr ?_))))))
  refine hK _ _ _ _ o1 ([],l) ?_ h1 h2 h3 ?_
  ·cases l with
   | nil=>rfl
   | cons x r=>simp only [Qm,if_neg (show ¬ (Zn Nf x).2=true by rw [hno x r rfl];exact Bool.false_ne_true)]
  ·simpa using hB
 cases l with
 | nil=>exact absurd (fun _ _ e=>by cases e) hno
 | cons x r=>
 have hc:(Zn Nf x).2=true:=by
  by_cases h:(Zn Nf x).2=true
  ·exact h
  ·exact absurd (fun y s e=>by injection e with e1 e2;rw [<- e1];simpa using h) hno
 rw [Zau hc] at hb1 ⊢
 have h4:3<=x.length:=Zb6 hc
 have hB:=hB.next hn hl hx hb1 hb2
 simp only [List.length_cons] at hlen hsz
 have hs:=Zga r
 refine m_ (x_ rfl rfl (x_ rfl rfl (m_ (m_ (e_ ?_)))))
 refine Zm (q_ rfl (m_ (Xx (a:=true) rfl (e_ (Hy rfl (Yd ?_))))))
 refine q_ rfl (Qs (l:=x) rfl (Gu (l:=x) (n:=2) rfl rfl (by decide) (by simp;omega) (Vt (f:=Zv) (l:=[x.drop 2]) rfl rfl (Wg rfl rfl rfl Vl) rfl (m_ (e_ ?_)))))
 refine Zm (Yj (Ysm (v0:=v0) (m:=m) (s:=s) (k:=k) (bx0:=bx0) (ow0:=ow0) (fs:=fs) (o1:=o1) hL hn hl hx r [x.drop 2] _ _ _ _ .full (by simp only [List.length_cons,List.length_nil];omega) h1 h2 h3 rfl hB hA Qe.full ?_))
 intro σ nx bx ow o9 h1 h2 h3 h9 hB hA
 show W PG d Yhv σ _ _
 generalize hls:([x.drop 2]++(Ju r).1)=ls at h9
 have hls':x.drop 2::(Ju r).1=ls:=hls
 have hll:ls.length<=1000000:=by rw [<- hls];simp only [List.length_append,List.length_cons,List.length_nil];omega
 have hcall:=c84 H.toHasG hm (l:=ls) (by omega)
 have hfr:Qm m (n+1) (x::r)=if (Kp m ls).2.2=0 then (Qm m n (Ju r).2).map fun z=>((Kp m ls).2.1::z.1,z.2) else none:=by
  conv=>lhs;unfold Qm
  rw [if_pos hc,hls']
 rw [hfr] at hF hK
 generalize hrf:Kp m ls=R at hcall hF hK
 obtain ⟨ra,F,re⟩:=R
 simp only at hcall hF hK
 refine Zm (W.reg ?_)
 change WO PG d 7 nx 0 Zl0 σ ⟨nx+Zl0.length,Yx bx (d,28679) (nx+7,[.i .i64 0,.i .i64 0,.i .u64 0,.sl .full []]),ow⟩ _
 have hB:=hB.here (site:=28679) (a:=(nx+7,[.i .i64 0,.i .i64 0,.i .u64 0,.sl .full []])) hl hx rfl
 refine l_ (w:=m.av) h3 hB.b0 rfl rfl (Yi (f:=Zv) (l:=ls) (o:=o9) h9 (Yg (sc rfl rfl (sc rfl rfl sn)) hcall ?_))
 refine m_ (x_ rfl rfl (x_ rfl rfl (x_ rfl rfl (Xs (m_ (Ye (w:=F.av) (cs':=F.row) rfl Zi rfl rfl rfl (m_ (e_ ?_))))))))
 have hB:=hB.here (site:=28679) (a:=(nx+7,F.row)) hl hx rfl
 refine Zm (q_ rfl (m_ (b_ (a:=.i .i64 re) (b:=.i .i64 0) rfl rfl Vd (e_ (Yk rfl (fun he=>?_) (fun he=>Yd ?_))))))
 ·refine q_ rfl (m_ (e_ (Nk ?_)))
  exact hF _ _ _ _ (by rw [if_neg he]) rfl hB.fr
 have he:=Decidable.not_not.1 he
 rw [if_pos he] at hF hK
 refine W.reg0 rfl fun nx2 hnx2=>?_
 refine m_ (m_ (Wh h1 (f_ rfl (l_ (w:=.sl o1 (fs.map Zg.row)) rfl hB.bX rfl rfl ?_))))
 refine l_ (w:=F.av) (k:=(d,28679)) (v:=nx+7) (cs:=F.row) (o:=0) rfl Zi rfl rfl ?_
 refine Vt (f:=Zg.row) (l:=[F]) rfl rfl (Wg (v:=F.av) (cs:=F.row) rfl rfl rfl Vl) rfl ?_
 refine Qo (f:=Zg.row) (l:=fs) (m:=[F]) Zg.row_len rfl rfl rfl hA.1 ⟨?_,?_⟩ rfl fun o' ow' a1 a2 a3=>?_
 ·simp only [List.length_cons,List.length_nil,Wl];omega
 ·simp only [List.length_cons,List.length_nil,Wl];omega
 have hB:=hB.app hA a2
 refine Wh (k:=kx) (v:=vx) (o:=0) h1 (f_ rfl (Ye (k:=kx) (v:=vx) (cs':=xc s k o' .full .full (fs++[F]) [] []) rfl hB.bX rfl rfl rfl (e_ ?_) (Zil hkx)))
 refine ih (Ju r).2 (fs++[F]) _ _ _ _ o' (by omega) (by simp only [List.length_append,List.length_cons,List.length_nil];omega) h1 h2 h3 (hB.setX hn hx) (hA.new a1 a3 rfl) ?_ ?_
 ·intro σ nx bx ow e g6 gF
  exact hF σ nx bx ow (by rw [e];rfl) g6 gF
 ·intro σ nx bx ow o1 z e g1 g2 g3 gB
  refine hK σ nx bx ow o1 (F::z.1,z.2) (by rw [e];rfl) g1 g2 g3 ?_
  simpa using gB
theorem Xs9 (H:HasD PG) (hL:Ni PG) (hm:Wr m) (hn:kl≠kx) (hl:kl.1<d) (hx:kx.1<d) (hkx:Nat.blt kx.2 Xu=true) {Q:AE->Sl->St->Prop} {o1:Zl} {fs:List Zg} :∀(l:List Zc) (ds:List Zq) (σ:Sl) (nx:Nat) (bx:Xw) (ow:Xt) (o2:Zl),ds.length+l.length<=500000->(∀y∈l,y.length<=1000000)->
  σ 1=.p kx vx 0->σ 2=.fn 305 [.p kl vl 0]->σ 3=.p (d,0) v0 0->MB d kl vl kx vx v0 m s k bx0 ow0 bx ow l o1 o2 .full fs ds []->Qe SD d ow o2 ds.length->
  (∀(σ:Sl) (nx:Nat) (bx:Xw) (ow:Xt),Uj m l=none->σ 6=.b false->Jo d kl kx bx0 ow0 bx ow->Q .ret σ ⟨nx,bx,ow⟩)->
  (∀(σ:Sl) (nx:Nat) (bx:Xw) (ow:Xt) (o2:Zl) (z:List Zq × List Zc),Uj m l=some z->σ 1=.p kx vx 0->σ 2=.fn 305 [.p kl vl 0]->MB d kl vl kx vx v0 m s k bx0 ow0 bx ow z.2 o1 o2 .full fs (ds++z.1) []->Q .normal σ ⟨nx,bx,ow⟩)->
  W PG d (.loop Yhg) σ ⟨nx,bx,ow⟩ (Ya 4 Q):=by
 intro l
 induction l with
 | nil=>
  intro ds σ nx bx ow o2 hsz hmx h1 h2 h3 hB hA hF hK
  refine W.loop (Yj (q_ rfl (m_ (Nd (p:=Nt) (l:=[]) hL h2 rfl (by omega) hB.bl fun nx' bx' hb1 hb2=>?_))))
  rw [Nu (p:=Nt) (l:=[]) (fun _ _ e=>by cases e)] at hb1 ⊢
  have hB:=hB.next hn hl hx hb1 hb2
  refine m_ (x_ rfl rfl (x_ rfl rfl (m_ (m_ (e_ ?_)))))
  refine Zm (q_ rfl (m_ (Xx (a:=false) rfl (e_ (Yr rfl (Vr ?_))))))
  exact hK _ _ _ _ o2 ([],[]) rfl h1 h2 (by simpa using hB)
 | cons x r ih=>
  intro ds σ nx bx ow o2 hsz hmx h1 h2 h3 hB hA hF hK
  refine W.loop (Yj (q_ rfl (m_ (Nd (p:=Nt) (l:=x::r) hL h2 rfl (by omega) hB.bl fun nx' bx' hb1 hb2=>?_))))
  by_cases hc:(Zn Nt x).2=true
  ·rw [Zau hc] at hb1 ⊢
   have h4:8<=x.length:=Zb6 hc
   have hxl:=hmx x List.mem_cons_self
   have hB:=hB.next hn hl hx hb1 hb2
   simp only [List.length_cons] at hsz
   refine m_ (x_ rfl rfl (x_ rfl rfl (m_ (m_ (e_ ?_)))))
   refine Zm (q_ rfl (m_ (Xx (a:=true) rfl (e_ (Hy rfl (Yd ?_))))))
   obtain ⟨D,b,hcall,hb1,hb2⟩:=Xgj H hm (s:=x.drop 2) (by simp;omega)
   have hfr:Uj m (x::r)=(Gf m (x.drop 2)).bind fun d=>(Uj m r).map fun z=>(d::z.1,z.2):=by
    conv=>lhs;unfold Uj
    rw [if_pos hc]
   rw [hfr] at hF hK
   refine Zm (W.reg ?_)
   change WO PG d 13 _ 0 Yl9 _ ⟨_,Yx bx' (d,53255) (_,[.i .i64 0,.i .i64 0,.b false,.i .u8 0,.i .i64 0,.s [],.sl .full [],.b false]),ow⟩ _
   have hB2:=fun a=>hB.here (site:=53255) (a:=a) hl hx rfl
   refine l_ (w:=m.av) h3 (hB2 _).b0 rfl rfl (Qs (l:=x) rfl (Gu (l:=x) (n:=2) rfl rfl (by decide) (by simp;omega) (Yg (sc rfl rfl (sc rfl rfl sn)) hcall ?_)))
   refine m_ (x_ rfl rfl (x_ rfl rfl (Xs (Ye (w:=D.av) (cs':=D.row) rfl Zi rfl rfl rfl (m_ (e_ ?_))))))
   have hB3:=fun a b=>(hB2 a).here (site:=53255) (a:=b) hl hx rfl
   refine Zm (q_ rfl (m_ (Xx (a:=b) rfl (e_ (Xl rfl (fun he=>?_) (fun he=>Yd ?_))))))
   ·have he:b=false:=by simpa using he
    refine q_ rfl (m_ (e_ (Nk ?_)))
    exact hF _ _ _ _ (by rw [hb2 he];rfl) rfl (hB3 _ _).fr
   have he:b=true:=by simpa using he
   rw [hb1 he] at hF hK
   refine W.reg0 rfl fun nx2 hnx2=>?_
   refine m_ (m_ (Wh h1 (f_ rfl (l_ (w:=.sl o2 (ds.map Zq.row)) rfl (hB3 _ _).bX rfl rfl ?_))))
   refine l_ (w:=D.av) (k:=(d,53255)) (cs:=D.row) (o:=0) rfl Zi rfl rfl ?_
   refine Vt (f:=Zq.row) (l:=[D]) rfl rfl (Wg (v:=D.av) (cs:=D.row) rfl rfl rfl Vl) rfl ?_
   refine Qo (f:=Zq.row) (l:=ds) (m:=[D]) Zq.row_len rfl rfl rfl hA.1 ⟨?_,?_⟩ rfl fun o' ow' a1 a2 a3=>?_
   ·simp only [List.length_cons,List.length_nil,Wl];omega
   ·simp only [List.length_cons,List.length_nil,Wl];omega
   have hB:=fun a b=>(hB3 a b).app hA a2
   refine Wh (k:=kx) (v:=vx) (o:=0) h1 (f_ rfl (Ye (k:=kx) (v:=vx) (cs':=xc s k o1 o' .full fs (ds++[D]) []) rfl (hB _ _).bX rfl rfl rfl (e_ ?_) (Zil hkx)))
   refine ih (ds++[D]) _ _ _ _ o' (by simp only [List.length_append,List.length_cons,List.length_nil];omega) (fun y h=>hmx y (List.mem_cons_of_mem _ h)) h1 h2 h3 ((hB _ _).setX hn hx) (hA.new a1 a3 rfl) ?_ ?_
   ·intro σ nx bx ow e g6 gF
    exact hF σ nx bx ow (by rw [e];rfl) g6 gF
   ·intro σ nx bx ow o1 z e g1 g2 gB
    refine hK σ nx bx ow o1 (D::z.1,z.2) (by rw [e];rfl) g1 g2 ?_
    simpa using gB
  ·have hc:(Zn Nt x).2=false:=by simpa using hc
   rw [Nu (p:=Nt) (l:=x::r) (fun _ _ e=>by injection e with e1 e2;rw [<- e1];exact hc)] at hb1 ⊢
   have hB:=hB.next hn hl hx hb1 hb2
   refine m_ (x_ rfl rfl (x_ rfl rfl (m_ (m_ (e_ ?_)))))
   refine Zm (q_ rfl (m_ (Xx (a:=false) rfl (e_ (Yr rfl (Vr ?_))))))
   refine hK _ _ _ _ o2 ([],x::r) ?_ h1 h2 (by simpa using hB)
   unfold Uj;rw [if_neg (by rw [hc];exact Bool.false_ne_true)]
theorem Ytl (H:HasD PG) (hL:Ni PG) (hn:kl≠kx) (hl:kl.1<d) (hx:kx.1<d) (hkx:Nat.blt kx.2 Xu=true) {Q:AE->Sl->St->Prop} {o1 o2:Zl} {fs:List Zg} {ds:List Zq} :∀(l:List Zc) (ps:List Zh) (σ:Sl) (nx:Nat) (bx:Xw) (ow:Xt) (o3:Zl),ps.length+l.length<=500000->(∀y∈l,y.length<=1000000)->
  σ 1=.p kx vx 0->σ 2=.fn 305 [.p kl vl 0]->MB d kl vl kx vx v0 m s k bx0 ow0 bx ow l o1 o2 o3 fs ds ps->Qe SP d ow o3 ps.length->
  (∀(σ:Sl) (nx:Nat) (bx:Xw) (ow:Xt),Ua l=none->σ 6=.b false->Jo d kl kx bx0 ow0 bx ow->Q .ret σ ⟨nx,bx,ow⟩)->
  (∀(σ:Sl) (nx:Nat) (bx:Xw) (ow:Xt) (o3:Zl) (z:List Zh × List Zc),Ua l=some z->σ 6=.b true->MB d kl vl kx vx v0 m s k bx0 ow0 bx ow z.2 o1 o2 o3 fs ds (ps++z.1)->Q .ret σ ⟨nx,bx,ow⟩)->
  W PG d (.loop Yj0) σ ⟨nx,bx,ow⟩ (Ya 6 Q):=by
 intro l
 induction l with
 | nil=>
  intro ps σ nx bx ow o3 hsz hmx h1 h2 hB hA hF hK
  refine W.loop (Yj (q_ rfl (m_ (Nd (p:=t2) (l:=[]) hL h2 rfl (by omega) hB.bl fun nx' bx' hb1 hb2=>?_))))
  rw [Nu (p:=t2) (l:=[]) (fun _ _ e=>by cases e)] at hb1 ⊢
  have hB:=hB.next hn hl hx hb1 hb2
  refine m_ (x_ rfl rfl (x_ rfl rfl (m_ (m_ (e_ ?_)))))
  refine Zm (q_ rfl (m_ (Xx (a:=false) rfl (e_ (Yr rfl (q_ rfl (m_ (e_ (Nk ?_)))))))))
  exact hK _ _ _ _ o3 ([],[]) rfl rfl (by simpa using hB)
 | cons x r ih=>
  intro ps σ nx bx ow o3 hsz hmx h1 h2 hB hA hF hK
  refine W.loop (Yj (q_ rfl (m_ (Nd (p:=t2) (l:=x::r) hL h2 rfl (by omega) hB.bl fun nx' bx' hb1 hb2=>?_))))
  by_cases hc:(Zn t2 x).2=true
  ·rw [Zau hc] at hb1 ⊢
   have h4:2<=x.length:=Zb6 hc
   have hxl:=hmx x List.mem_cons_self
   have hB:=hB.next hn hl hx hb1 hb2
   simp only [List.length_cons] at hsz
   refine m_ (x_ rfl rfl (x_ rfl rfl (m_ (m_ (e_ ?_)))))
   refine Zm (q_ rfl (m_ (Xx (a:=true) rfl (e_ (Hy rfl (Yd ?_))))))
   have hcall:=Xom H.toHasP (s:=x.drop 2) (by simp;omega)
   have hfr:Ua (x::r)=if (Qr (x.drop 2)).2=0 then (Ua r).map fun z=>((Qr (x.drop 2)).1::z.1,z.2) else none:=by
    conv=>lhs;unfold Ua
    rw [if_pos hc]
   rw [hfr] at hF hK
   generalize Qr (x.drop 2)=R at hcall hF hK
   obtain ⟨P,re⟩:=R
   simp only at hcall hF hK
   refine Zm (W.reg ?_)
   change WO PG d 20 _ 0 Ybw _ ⟨_,Yx bx' (d,81926) (_,[.i .u64 0,.i .u8 0,.i .i64 0,.s [],.sl .full [],.b false,.i .u64 0]),ow⟩ _
   have hB2:=fun a=>hB.here (site:=81926) (a:=a) hl hx rfl
   refine Qs (l:=x) rfl (Gu (l:=x) (n:=2) rfl rfl (by decide) (by simp;omega) (Yg (sc rfl rfl sn) hcall ?_))
   refine m_ (x_ rfl rfl (x_ rfl rfl (Xs (Ye (w:=P.av) (cs':=P.row) rfl Zi rfl rfl rfl (m_ (e_ ?_))))))
   have hB3:=fun a b=>(hB2 a).here (site:=81926) (a:=b) hl hx rfl
   refine Zm (q_ rfl (m_ (b_ (a:=.i .i64 re) (b:=.i .i64 0) rfl rfl Vd (e_ (Yk rfl (fun he=>?_) (fun he=>Yd ?_))))))
   ·refine q_ rfl (m_ (e_ (Nk ?_)))
    exact hF _ _ _ _ (by rw [if_neg he]) rfl (hB3 _ _).fr
   have he:=Decidable.not_not.1 he
   rw [if_pos he] at hF hK
   refine W.reg0 rfl fun nx2 hnx2=>?_
   refine m_ (m_ (Wh h1 (f_ rfl (l_ (w:=.sl o3 (ps.map Zh.row)) rfl (hB3 _ _).bX rfl rfl ?_))))
   refine l_ (w:=P.av) (k:=(d,81926)) (cs:=P.row) (o:=0) rfl Zi rfl rfl ?_
   refine Vt (f:=Zh.row) (l:=[P]) rfl rfl (Wg (v:=P.av) (cs:=P.row) rfl rfl rfl Vl) rfl ?_
   refine Qo (f:=Zh.row) (l:=ps) (m:=[P]) Zh.row_len rfl rfl rfl hA.1 ⟨?_,?_⟩ rfl fun o' ow' a1 a2 a3=>?_
   ·simp only [List.length_cons,List.length_nil,Wl];omega
   ·simp only [List.length_cons,List.length_nil,Wl];omega
   have hB:=fun a b=>(hB3 a b).app hA a2
   refine Wh (k:=kx) (v:=vx) (o:=0) h1 (f_ rfl (Ye (k:=kx) (v:=vx) (cs':=xc s k o1 o2 o' fs ds (ps++[P])) rfl (hB _ _).bX rfl rfl rfl (e_ ?_) (Zil hkx)))
   refine ih (ps++[P]) _ _ _ _ o' (by simp only [List.length_append,List.length_cons,List.length_nil];omega) (fun y h=>hmx y (List.mem_cons_of_mem _ h)) h1 h2 ((hB _ _).setX hn hx) (hA.new a1 a3 rfl) ?_ ?_
   ·intro σ nx bx ow e g6 gF
    exact hF σ nx bx ow (by rw [e];rfl) g6 gF
   ·intro σ nx bx ow o1 z e g6 gB
    refine hK σ nx bx ow o1 (P::z.1,z.2) (by rw [e];rfl) g6 ?_
    simpa using gB
  ·have hc:(Zn t2 x).2=false:=by simpa using hc
   rw [Nu (p:=t2) (l:=x::r) (fun _ _ e=>by injection e with e1 e2;rw [<- e1];exact hc)] at hb1 ⊢
   have hB:=hB.next hn hl hx hb1 hb2
   refine m_ (x_ rfl rfl (x_ rfl rfl (m_ (m_ (e_ ?_)))))
   refine Zm (q_ rfl (m_ (Xx (a:=false) rfl (e_ (Yr rfl (q_ rfl (m_ (e_ (Nk ?_)))))))))
   refine hK _ _ _ _ o3 ([],x::r) ?_ rfl (by simpa using hB)
   unfold Ua;rw [if_neg (by rw [hc];exact Bool.false_ne_true)]
end
end Go.AM

/- Yf of the proof. -/
namespace Go.AM
open Go
attribute [local irreducible] WO Wq Ws
set_option maxRecDepth 4000
set_option maxHeartbeats 1000000
set_option linter.unusedVariables false
theorem Znw {m:Zf} :∀(n:Nat) (l:List Zc) (z:List Zg × List Zc),Qm m n l=some z->z.2.length<=l.length/\∀x∈z.2,x∈l
 | 0,_,_,h=>by simp [Qm] at h
 | n+1,[],z,h=>by
  simp only [Qm,Option.some.injEq] at h
  subst h;exact ⟨Nat.le_refl _,fun x h=>h⟩
 | n+1,x::r,z,h=>by
  unfold Qm at h
  split at h
  ·split at h
   ·obtain ⟨y,h1,h2⟩:=Option.map_eq_some_iff.1 h
    have ih:=Znw n _ _ h1
    have hs:=Zga r
    subst h2
    exact ⟨by simp only [List.length_cons];omega,fun q hq=>List.mem_cons_of_mem _ (hs.2.2 q (ih.2 q hq))⟩
   ·cases h
  ·simp only [Option.some.injEq] at h
   subst h;exact ⟨Nat.le_refl _,fun x h=>h⟩
theorem Zoi {m:Zf} :∀(l:List Zc) (z:List Zq × List Zc),Uj m l=some z->z.2.length<=l.length/\∀x∈z.2,x∈l
 | [],z,h=>by
  simp only [Uj,Option.some.injEq] at h
  subst h;exact ⟨Nat.le_refl _,fun x h=>h⟩
 | x::r,z,h=>by
  unfold Uj at h
  split at h
  ·obtain ⟨d,_,h⟩:=Option.bind_eq_some_iff.1 h
   obtain ⟨y,h1,h2⟩:=Option.map_eq_some_iff.1 h
   have ih:=Zoi r _ h1
   subst h2
   exact ⟨by simp only [List.length_cons];omega,fun q hq=>List.mem_cons_of_mem _ (ih.2 q hq)⟩
  ·simp only [Option.some.injEq] at h
   subst h;exact ⟨Nat.le_refl _,fun x h=>h⟩
theorem Zue :∀(l:List Zc) (z:List Zh × List Zc),Ua l=some z->z.2.length<=l.length/\∀x∈z.2,x∈l
 | [],z,h=>by
  simp only [Ua,Option.some.injEq] at h
  subst h;exact ⟨Nat.le_refl _,fun x h=>h⟩
 | x::r,z,h=>by
  unfold Ua at h
  split at h
  ·split at h
   ·obtain ⟨y,h1,h2⟩:=Option.map_eq_some_iff.1 h
    have ih:=Zue r _ h1
    subst h2
    exact ⟨by simp only [List.length_cons];omega,fun q hq=>List.mem_cons_of_mem _ (ih.2 q hq)⟩
   ·cases h
  ·simp only [Option.some.injEq] at h
   subst h;exact ⟨Nat.le_refl _,fun x h=>h⟩
theorem Yff {m:Zf} {l:List Zc} {z:List Zg × List Zq × List Zh × List Zc} (h:Qb m l=some z):z.2.2.2.length<=l.length/\∀x∈z.2.2.2,x∈l:=by
 obtain ⟨a,h1,h⟩:=Option.bind_eq_some_iff.1 h
 obtain ⟨b,h2,h⟩:=Option.bind_eq_some_iff.1 h
 obtain ⟨c,h3,h⟩:=Option.map_eq_some_iff.1 h
 subst h
 have s1:=Znw _ _ _ h1
 have s2:=Zoi _ _ h2
 have s3:=Zue _ _ h3
 exact ⟨by simp only;omega,fun x hx=>s1.2 x (s2.2 x (s3.2 x hx))⟩
theorem Jo.out {d:Nat} {kl kx:Zo} {bx bx':Xw} {ow ow':Xt} (h:Jo d kl kx bx ow bx' ow'):Jo d kl kx bx ow (bx'.filter fun x=>x.1.1<d) ow':=
 ⟨fun k' h1 h2 h3=>(Tk h1).trans (h.1 k' h1 h2 h3),h.2⟩
def PuM (PG:Za) (m:Zf):Prop:=∀(d:Nat) (st:St) (kl:Zo) (vl:Nat) (kx:Zo) (vx:Nat) (s k:Int) (l:List Zc),kl≠kx->kl.1<d->kx.1<d->Nat.blt kx.2 Xu=true->
 lk st.bx kl=some (vl,[.sl .ext (l.map Zv)])->lk st.bx kx=some (vx,xc s k .full .full .full [] [] [])->l.length<=400000->(∀y∈l,y.length<=1000000)->
 ∃st' b,Fn PG d 309 [m.av,.p kx vx 0,.fn 305 [.p kl vl 0]] st (.b b) st'/\Jo d kl kx st.bx st.ow st'.bx st'.ow/\(Qb m l=none->b=false)/\
  ∀z,Qb m l=some z->b=true/\lk st'.bx kl=some (vl,[.sl .ext (z.2.2.2.map Zv)])/\∃o1 o2 o3,lk st'.bx kx=some (vx,xc s k o1 o2 o3 z.1 z.2.1 z.2.2.1)
theorem Ysi {PG:Za} (H:HasD PG) (hL:Ni PG) (hf:PG.fn 309=some Iy) {m:Zf} (hm:Wr m):PuM PG m:=by
 intro d st kl vl kx vx s k l hn hl hx hkx hbl hbx hlen hmx
 have main:=Fn.of' (PG:=PG) (d:=d) (args:=[m.av,.p kx vx 0,.fn 305 [.p kl vl 0]]) (st:=st) (K:=fun r st'=>∃b,r=.b b/\Jo d kl kx st.bx st.ow st'.bx st'.ow/\(Qb m l=none->b=false)/\
  ∀z,Qb m l=some z->b=true/\lk st'.bx kl=some (vl,[.sl .ext (z.2.2.2.map Zv)])/\∃o1 o2 o3,lk st'.bx kx=some (vx,xc s k o1 o2 o3 z.1 z.2.1 z.2.2.1)) hf (Nat.le_of_ble_eq_true rfl) ?_
 ·obtain ⟨r,st',h1,b,rfl,h2⟩:=main
  exact ⟨st',b,h1,h2⟩
 have no :∀(σ:Sl) (nx:Nat) (bx:Xw) (ow:Xt),Qb m l=none->σ 6=.b false->Jo d kl kx st.bx st.ow bx ow->Re d Iy.res (fun r st'=>∃b,r=.b b/\Jo d kl kx st.bx st.ow st'.bx st'.ow/\(Qb m l=none->b=false)/\
  ∀z,Qb m l=some z->b=true/\lk st'.bx kl=some (vl,[.sl .ext (z.2.2.2.map Zv)])/\∃o1 o2 o3,lk st'.bx kx=some (vx,xc s k o1 o2 o3 z.1 z.2.1 z.2.2.1)) .ret σ ⟨nx,bx,ow⟩:=by
  intro σ nx bx ow h1 h2 h3
  exact ⟨.b false,congrArg some h2,false,rfl,h3.out,fun _=>rfl,fun z hz=>by rw [h1] at hz;cases hz⟩
 show W PG d Ya4 (Xz [m.av,.p kx vx 0,.fn 305 [.p kl vl 0]]) st _
 refine q_ rfl (Vs (v:=m.av) rfl rfl (m_ (e_ ?_)))
 have hB:MB d kl vl kx vx st.nx m s k st.bx st.ow (Yx st.bx (d,0) (st.nx,m.av.cells)) st.ow l .full .full .full [] [] []:=
  ⟨Zi,(Gj (by rintro rfl;exact Nat.lt_irrefl _ hl)).trans hbl,(Gj (by rintro rfl;exact Nat.lt_irrefl _ hx)).trans hbx,Jo.here ⟨fun _ _ _ _=>rfl,fun _ _=>rfl⟩⟩
 refine Zm (Yj (Xy3 H hL hm hn hl hx hkx (l.length+1) l [] _ _ _ _ .full (Nat.lt_succ_self _) (by simp only [List.length_nil];omega) rfl rfl rfl hB Qe.full ?_ ?_))
 ·intro σ nx bx ow e g6 gF
  exact no σ nx bx ow (by unfold Qb;rw [e];rfl) g6 gF
 intro σ nx bx ow o1 z e g1 g2 g3 hB
 have s1:=Znw _ _ _ e
 show W PG d Ya0 σ _ _
 refine Zm (Yj (Xs9 H hL hm hn hl hx hkx z.2 [] _ _ _ _ .full (by simp only [List.length_nil];omega) (fun y hy=>hmx y (s1.2 y hy)) g1 g2 g3 hB Qe.full ?_ ?_))
 ·intro σ nx bx ow e2 g6 gF
  exact no σ nx bx ow (by unfold Qb;rw [e];simp only [Option.bind_some,e2];rfl) g6 gF
 intro σ nx bx ow o2 y e2 g1 g2 hB
 have s2:=Zoi _ _ e2
 show W PG d Yeh σ _ _
 refine Yj (Ytl H hL hn hl hx hkx y.2 [] _ _ _ _ .full (by simp only [List.length_nil];omega) (fun u hu=>hmx u (s1.2 u (s2.2 u hu))) g1 g2 hB Qe.full ?_ ?_)
 ·intro σ nx bx ow e3 g6 gF
  exact no σ nx bx ow (by unfold Qb;rw [e];simp only [Option.bind_some,e2,e3];rfl) g6 gF
 intro σ nx bx ow o3 u e3 g6 hB
 have e4:Qb m l=some (z.1,y.1,u.1,u.2):=by unfold Qb;rw [e];simp only [Option.bind_some,e2,e3];rfl
 refine ⟨.b true,congrArg some g6,true,rfl,hB.fr.out,fun h=>(by rw [e4] at h;cases h),fun w hw=>?_⟩
 rw [e4] at hw
 injection hw with hw
 subst hw
 exact ⟨rfl,(Tk hl).trans hB.bl,o1,o2,o3,by simpa using (Tk hx).trans hB.bX⟩
end Go.AM

/- Yf of the proof. -/
namespace Go.AM
open Go
attribute [local irreducible] WO Wq Ws
set_option maxRecDepth 4000
set_option maxHeartbeats 1000000
set_option linter.unusedVariables false
theorem Ybu {m:Zf} :∀(n:Nat) (l:List Zc) (z:List Zg × List Zc),Qm m n l=some z->z.1.length+z.2.length<=l.length/\∀x∈z.1,Uq x
 | 0,_,_,h=>by simp [Qm] at h
 | n+1,[],z,h=>by
  simp only [Qm,Option.some.injEq] at h
  subst h;exact ⟨Nat.le_refl _,fun x h=>by cases h⟩
 | n+1,x::r,z,h=>by
  unfold Qm at h
  split at h
  ·split at h
   ·obtain ⟨y,h1,h2⟩:=Option.map_eq_some_iff.1 h
    have ih:=Ybu n _ _ h1
    have hs:=Zga r
    subst h2
    refine ⟨by simp only [List.length_cons];omega,fun q hq=>?_⟩
    rcases List.mem_cons.1 hq with rfl | hq
    ·exact Xer _ _
    ·exact ih.2 q hq
   ·cases h
  ·simp only [Option.some.injEq] at h
   subst h;exact ⟨by simp,fun x h=>by cases h⟩
theorem Ypq {m:Zf} {s:Zc} {d:Zq} (h:Gf m s=some d):Wf d.arg:=by
 unfold Gf at h
 split at h
 ·unfold Bh at h
  split at h
  ·cases h
  split at h
  ·cases h
  unfold Tt at h
  split at h
  ·injection h with h;subst h;exact Wf.zero
  split at h
  ·injection h with h;subst h;exact Yga _
  ·cases h
 ·cases h
theorem Yf6 {m:Zf} :∀(l:List Zc) (z:List Zq × List Zc),Uj m l=some z->z.1.length+z.2.length<=l.length/\∀x∈z.1,Wf x.arg
 | [],z,h=>by
  simp only [Uj,Option.some.injEq] at h
  subst h;exact ⟨Nat.le_refl _,fun x h=>by cases h⟩
 | x::r,z,h=>by
  unfold Uj at h
  split at h
  ·obtain ⟨d,hd,h⟩:=Option.bind_eq_some_iff.1 h
   obtain ⟨y,h1,h2⟩:=Option.map_eq_some_iff.1 h
   have ih:=Yf6 r _ h1
   subst h2
   refine ⟨by simp only [List.length_cons];omega,fun q hq=>?_⟩
   rcases List.mem_cons.1 hq with rfl | hq
   ·exact Ypq hd
   ·exact ih.2 q hq
  ·simp only [Option.some.injEq] at h
   subst h;exact ⟨by simp,fun x h=>by cases h⟩
theorem Yct :∀(l:List Zc) (z:List Zh × List Zc),Ua l=some z->z.1.length+z.2.length<=l.length/\∀x∈z.1,Dq x
 | [],z,h=>by
  simp only [Ua,Option.some.injEq] at h
  subst h;exact ⟨Nat.le_refl _,fun x h=>by cases h⟩
 | x::r,z,h=>by
  unfold Ua at h
  split at h
  ·split at h
   ·rename_i he
    obtain ⟨y,h1,h2⟩:=Option.map_eq_some_iff.1 h
    have ih:=Yct r _ h1
    subst h2
    refine ⟨by simp only [List.length_cons];omega,fun q hq=>?_⟩
    rcases List.mem_cons.1 hq with rfl | hq
    ·exact (Yx7 he).2.1
    ·exact ih.2 q hq
   ·cases h
  ·simp only [Option.some.injEq] at h
   subst h;exact ⟨by simp,fun x h=>by cases h⟩
theorem Yor {m:Zf} {l:List Zc} {z:List Zg × List Zq × List Zh × List Zc} (h:Qb m l=some z):(z.1.length<=l.length/\∀x∈z.1,Uq x)/\(z.2.1.length<=l.length/\∀x∈z.2.1,Wf x.arg)/\z.2.2.1.length<=l.length/\∀x∈z.2.2.1,Dq x:=by
 obtain ⟨a,h1,h⟩:=Option.bind_eq_some_iff.1 h
 obtain ⟨b,h2,h⟩:=Option.bind_eq_some_iff.1 h
 obtain ⟨c,h3,h⟩:=Option.map_eq_some_iff.1 h
 subst h
 have s1:=Ybu _ _ _ h1
 have s2:=Yf6 _ _ h2
 have s3:=Yct _ _ h3
 exact ⟨⟨by simp only;omega,s1.2⟩,⟨by simp only;omega,s2.2⟩,by simp only;omega,s3.2⟩
theorem Xld {s:Zc}:0<=(Kk s).1.status/\-9223372036854775808<=(Kk s).1.key/\(Kk s).1.key<9223372036854775808:=by
 unfold Kk Oz
 repeat' split
 ·exact ⟨by decide,by decide,by decide⟩
 ·exact ⟨by show (0:Int)<=2;decide,Yav _⟩
 ·exact ⟨by decide,by decide,by decide⟩
 ·exact ⟨by show (0:Int)<=3;decide,by show (-9223372036854775808:Int)<=0;decide,by show (0:Int)<9223372036854775808;decide⟩
theorem Yhf {m:Zf} :∀(n:Nat) (l:List Zc) (z:List Zk × List Zc),l.length<=1000000->Ha m n l=some z->z.1.length+z.2.length<=l.length/\∀x∈z.1,Qz x
 | 0,_,_,_,h=>by simp [Ha] at h
 | n+1,[],z,_,h=>by
  simp only [Ha,Option.some.injEq] at h
  subst h;exact ⟨Nat.le_refl _,fun x h=>by cases h⟩
 | n+1,x::r,z,hl,h=>by
  simp only [List.length_cons] at hl
  unfold Ha at h
  split at h
  ·split at h
   ·obtain ⟨a,ha,h⟩:=Option.bind_eq_some_iff.1 h
    obtain ⟨y,h1,h2⟩:=Option.map_eq_some_iff.1 h
    have w:=Yor ha
    have s:=Yff ha
    have ih:=Yhf n _ _ (by omega) h1
    subst h2
    refine ⟨by simp only [List.length_cons];omega,fun q hq=>?_⟩
    rcases List.mem_cons.1 hq with rfl | hq
    ·have hk:=Xld (s:=x)
     exact ⟨hk.1,hk.2,w.1.2,w.2.1.2,w.2.2.2,by simp only;omega,by simp only;omega,by simp only;omega⟩
    ·exact ih.2 q hq
   ·cases h
  ·simp only [Option.some.injEq] at h
   subst h;exact ⟨by simp,fun x h=>by cases h⟩
theorem Xx0 (s:Zc):0<=(Be s).1:=by
 unfold Be
 split
 ·decide
 ·rename_i h
  simp only;omega
section
variable {PG:Za} {d id base i:Nat} {σ:Sl} {st:St} {K:Sl->St->Prop} {r:List AI} {t:Option Nat}
theorem Yqu {args:List Zr} {m:Zf} {kl kx:Zo} {vl vx:Nat} {s k:Int} {l:List Zc} (hM:PuM PG m) (hs:Vb σ args=[m.av,.p kx vx 0,.fn 305 [.p kl vl 0]]) (hn:kl≠kx) (hl:kl.1<d+1) (hx:kx.1<d+1) (hkx:Nat.blt kx.2 Xu=true)
  (hbl:lk st.bx kl=some (vl,[.sl .ext (l.map Zv)])) (hbx:lk st.bx kx=some (vx,xc s k .full .full .full [] [] [])) (hlen:l.length<=400000) (hmx :∀y∈l,y.length<=1000000)
  (h :∀(nx':Nat) (bx':Xw) (ow':Xt) (b:Bool),Jo (d+1) kl kx st.bx st.ow bx' ow'->(Qb m l=none->b=false)->(∀z,Qb m l=some z->b=true/\lk bx' kl=some (vl,[.sl .ext (z.2.2.2.map Zv)])/\∃o1 o2 o3,lk bx' kx=some (vx,xc s k o1 o2 o3 z.1 z.2.1 z.2.2.1))->
   WO PG d id base (i+1) r (Zw σ t (.b b)) ⟨nx',bx',ow'⟩ K):WO PG d id base i (⟨t,.call true 309 args,none⟩::r) σ st K:=by
 refine Qy ?_
 obtain ⟨⟨nx',bx',ow'⟩,b,h1,h2,h3,h4⟩:=hM (d+1) st kl vl kx vx s k l hn hl hx hkx hbl hbx hlen hmx
 rw [Lt,hs]
 exact ⟨_,_,h1,h nx' bx' ow' b h2 h3 h4⟩
theorem Xe.call2 {o:Zl} {n:Nat} {kl kx:Zo} {bx bx2:Xw} {ow ow2:Xt} (h:Xe d ow o n) (c:Jo (d+1) kl kx bx ow bx2 ow2):Xe d ow2 o n:=by
 refine ⟨?_,h.2⟩
 cases o with
 | ext=>exact h.1
 | full=>exact h.1
 | id k v=>
  obtain ⟨e1,e2⟩:=h.2
  obtain ⟨a1,a2⟩:=h.1
  exact ⟨(c.2 k (by omega)).trans a1,a2⟩
end
abbrev Ql:List AV:=[.i .u8 0,.i .i64 0,.i .i64 0,.sl .full []]
abbrev Gz (a b c:Int) (o:Zl) (rs:List Zk):List AV:=[.i .u8 a,.i .i64 b,.i .i64 c,.sl o (rs.map Zk.row)]
structure RB (d v0 v4 v6 v10:Nat) (m:Zf) (a b c:Int) (bx:Xw) (l:List Zc) (o:Zl) (rs:List Zk):Prop where
 b0:lk bx (d,0)=some (v0,[.sl .ext (List.map Wu.row m.types),.sl .ext (List.map Zv m.texts),.sl .ext (List.map Yb.row m.funcs)])
 b4:lk bx (d,1)=some (v4,Ql)
 bl:lk bx (d,12290)=some (v6,[.sl .ext (l.map Zv)])
 bo:lk bx (d,24581)=some (v10,Gz a b c o rs)
section
variable {PG:Za} {d v0 v4 v6 v10:Nat} {m:Zf} {a b c:Int} {bx:Xw} {l:List Zc} {o:Zl} {rs:List Zk}
theorem Hn {d s s':Nat} (h:Nat.beq s s'=false):((d,s):Zo)≠(d,s'):=by
 intro e
 injection e with _ e
 rw [e,Nat.beq_refl] at h
 cases h
theorem RB.next {bx':Xw} {l':List Zc} (h:RB d v0 v4 v6 v10 m a b c bx l o rs) (h1:lk bx' (d,12290)=some (v6,[.sl .ext (l'.map Zv)])) (h2 :∀k':Zo,k'.1<d+1->k'≠(d,12290)->lk bx' k'=lk bx k'):RB d v0 v4 v6 v10 m a b c bx' l' o rs:=
 ⟨(h2 _ (Nat.lt_succ_self d) (Hn rfl)).trans h.b0,(h2 _ (Nat.lt_succ_self d) (Hn rfl)).trans h.b4,h1,(h2 _ (Nat.lt_succ_self d) (Hn rfl)).trans h.bo⟩
theorem RB.here {a':Nat × List AV} (h:RB d v0 v4 v6 v10 m a b c bx l o rs):RB d v0 v4 v6 v10 m a b c (Yx bx (d,45061) a') l o rs:=
 ⟨Zt rfl h.b0,Zt rfl h.b4,Zt rfl h.bl,Zt rfl h.bo⟩
theorem RB.call {bx':Xw} {ow ow':Xt} (h:RB d v0 v4 v6 v10 m a b c bx l o rs) (f:Fr (d+1) (d+1,0) bx ow bx' ow'):RB d v0 v4 v6 v10 m a b c bx' l o rs:=
 ⟨(f.1 _ (Nat.lt_succ_self d) Us).trans h.b0,(f.1 _ (Nat.lt_succ_self d) Us).trans h.b4,(f.1 _ (Nat.lt_succ_self d) Us).trans h.bl,(f.1 _ (Nat.lt_succ_self d) Us).trans h.bo⟩
theorem RB.mem {bx':Xw} {ow ow':Xt} {l':List Zc} (h:RB d v0 v4 v6 v10 m a b c bx l o rs) (f:Jo (d+1) (d,12290) (d,45061) bx ow bx' ow') (h1:lk bx' (d,12290)=some (v6,[.sl .ext (l'.map Zv)])):RB d v0 v4 v6 v10 m a b c bx' l' o rs:=
 ⟨(f.1 _ (Nat.lt_succ_self d) (Hn rfl) (Hn rfl)).trans h.b0,(f.1 _ (Nat.lt_succ_self d) (Hn rfl) (Hn rfl)).trans h.b4,h1,(f.1 _ (Nat.lt_succ_self d) (Hn rfl) (Hn rfl)).trans h.bo⟩
theorem RB.out {o':Zl} {rs':List Zk} (h:RB d v0 v4 v6 v10 m a b c bx l o rs):RB d v0 v4 v6 v10 m a b c (Yx bx (d,24581) (v10,Gz a b c o' rs')) l o' rs':=
 ⟨Zt rfl h.b0,Zt rfl h.b4,Zt rfl h.bl,Zi⟩
theorem Cg {id tz:Nat} {e:Int} {σ:Sl} {nx:Nat} {ow:Xt} {cs:List AV} {Q:AE->Sl->St->Prop} (h4:σ 4=.p (d,1) v4 0) (hz:Nat.beq 4 tz=false) (hb:lk bx (d,1)=some (v4,cs)) (hc:cs.length=4)
  (hQ :∀(σ:Sl) (nx:Nat) (bx:Xw),σ 4=.p (d,1) v4 0->σ 5=.i .i64 e->lk bx (d,1)=some (v4,Ql)->Q .ret σ ⟨nx,bx,ow⟩) :
  W PG d (.seq (.reg id [oO tz (.build Ql []),oS 4 4 tz,oC 5 (.i .i64 e)]) .ret) σ ⟨nx,bx,ow⟩ Q:=by
 refine q_ rfl (Xv Xn ?_)
 have e4:(Zw σ (some tz) (.ag Ql)) 4=.p (d,1) v4 0:=by
  show cond (Nat.beq 4 tz) _ _=_
  rw [hz];exact h4
 have ez:(Zw σ (some tz) (.ag Ql)) tz=.ag Ql:=by
  show cond (Nat.beq tz tz) _ _=_
  rw [Nat.beq_refl];rfl
 match cs,hc with
 | [c1,c2,c3,c5],_=>
  refine Ye (cs':=Ql) e4 hb ez rfl rfl (m_ (e_ (Nk (hQ _ _ _ ?_ rfl Zi))))
  exact e4
theorem Ync (H:HasD PG) (hL:Ni PG) (hM:PuM PG m) {s:Zc} {Q:AE->Sl->St->Prop} :∀(n:Nat) (l:List Zc) (rs:List Zk) (σ:Sl) (nx:Nat) (bx:Xw) (ow:Xt) (o:Zl),l.length<n->rs.length+l.length<=400000->(∀y∈l,y.length<=1000000)->
  σ 1=.s s->σ 2=.p (d,0) v0 0->σ 4=.p (d,1) v4 0->σ 7=.fn 305 [.p (d,12290) v6 0]->σ 10=.p (d,24581) v10 0->RB d v0 v4 v6 v10 m a b c bx l o rs->Xe d ow o rs.length->
  (∀(σ:Sl) (nx:Nat) (bx:Xw) (ow:Xt),Ha m n l=none->σ 4=.p (d,1) v4 0->σ 5=.i .i64 12->lk bx (d,1)=some (v4,Ql)->Q .ret σ ⟨nx,bx,ow⟩)->
  (∀(σ:Sl) (nx:Nat) (bx:Xw) (ow:Xt) (o:Zl) (z:List Zk × List Zc),Ha m n l=some z->σ 1=.s s->σ 2=.p (d,0) v0 0->σ 4=.p (d,1) v4 0->σ 10=.p (d,24581) v10 0->RB d v0 v4 v6 v10 m a b c bx z.2 o (rs++z.1)->Q .normal σ ⟨nx,bx,ow⟩)->
  W PG d (.loop Yde) σ ⟨nx,bx,ow⟩ (Ya 0 Q):=by
 intro n
 induction n with
 | zero=>intro l rs σ nx bx ow o h;omega
 | succ n ih=>
 intro l rs σ nx bx ow o hlen hsz hmx h1 h2 h4 h7 h10 hB hA hF hK
 refine W.loop (Yj (q_ rfl (m_ (Nd (p:=Rz) (l:=l) hL h7 rfl (Nat.lt_succ_self d) hB.bl fun nx' bx' hb1 hb2=>?_))))
 by_cases hno :∀x r,l=x::r->(Zn Rz x).2=false
 ·rw [Nu hno] at hb1 ⊢
  have hB:=hB.next hb1 hb2
  refine m_ (x_ rfl rfl (x_ rfl rfl (m_ (m_ (e_ ?_)))))
  refine Zm (q_ rfl (m_ (Xx (a:=false) rfl (e_ (Yr rfl (Vr ?_))))))
  refine hK _ _ _ _ o ([],l) ?_ h1 h2 h4 h10 ?_
  ·cases l with
   | nil=>rfl
   | cons x r=>simp only [Ha,if_neg (show ¬ (Zn Rz x).2=true by rw [hno x r rfl];exact Bool.false_ne_true)]
  ·simpa using hB
 cases l with
 | nil=>exact absurd (fun _ _ e=>by cases e) hno
 | cons x r=>
 have hc:(Zn Rz x).2=true:=by
  by_cases h:(Zn Rz x).2=true
  ·exact h
  ·exact absurd (fun y s e=>by injection e with e1 e2;rw [<- e1];simpa using h) hno
 rw [Zau hc] at hb1 ⊢
 have hB:=hB.next hb1 hb2
 simp only [List.length_cons] at hlen hsz
 have hxl:=hmx x List.mem_cons_self
 have hrm :∀y∈r,y.length<=1000000:=fun y hy=>hmx y (List.mem_cons_of_mem _ hy)
 refine m_ (x_ rfl rfl (x_ rfl rfl (m_ (m_ (e_ ?_)))))
 refine Zm (q_ rfl (@fun nx1 _=>m_ (Xx (a:=true) rfl (e_ (Hy rfl (Yd ?_))))))
 have hfr:Ha m (n+1) (x::r)=if (Kk x).2=true then (Qb m r).bind fun a=>(Ha m n a.2.2.2).map fun z=>(⟨(Kk x).1.status,(Kk x).1.key,a.1,a.2.1,a.2.2.1⟩::z.1,z.2) else none:=by
  conv=>lhs;unfold Ha
  rw [if_pos hc]
 rw [hfr] at hF hK
 have hcall:=Wjb H (s:=x) hxl
 generalize Kk x=R at hcall hF hK
 obtain ⟨X,ok⟩:=R
 simp only at hcall hF hK
 refine Zm (W.reg ?_)
 change WO PG d 11 nx1 0 Zv3 _ ⟨_,Yx bx' (d,45061) (nx1+5,[.i .u8 0,.i .i64 0,.sl .full [],.sl .full [],.sl .full []]),ow⟩ _
 refine m_ (Gx rfl hcall fun st' hfr'=>?_)
 have hB:=(hB.here (a':=(nx1+5,[.i .u8 0,.i .i64 0,.sl .full [],.sl .full [],.sl .full []]))).call hfr'
 have hA:=hA.call hfr'
 have hbx:=(hfr'.1 (d,45061) (Nat.lt_succ_self d) Us).trans Zi
 clear hfr' hb1 hb2
 obtain ⟨nx',bx',ow'⟩:=st'
 simp only at hB hA hbx
 refine m_ (x_ rfl rfl (x_ rfl rfl (Xs (Ye (w:=.ag (xc X.status X.key .full .full .full [] [] [])) (cs':=xc X.status X.key .full .full .full [] [] []) rfl hbx rfl rfl rfl (m_ (e_ ?_))))))
 have hB:=hB.here (a':=(nx1+5,xc X.status X.key .full .full .full [] [] []))
 refine Zm (q_ rfl (m_ (Xx (a:=ok) rfl (m_ ?_))))
 cases ok with
 | false=>
  refine Gv (b:=true) rfl rfl (Gv (b:=true) rfl rfl (Gv (b:=true) rfl rfl (Gv (b:=true) rfl rfl (Dh rfl rfl (e_ (Yr rfl ?_))))))
  refine Cg (tz:=61) h4 rfl hB.b4 rfl fun σ nx bx g4 g5 gb=>?_
  exact hF σ nx bx _ rfl g4 g5 gb
 | true=>
  rw [if_pos rfl] at hF hK
  refine Zd rfl (l_ (w:=m.av) h2 hB.b0 rfl rfl (Zd rfl (Ve h7 (Zd rfl (Yqu (l:=r) hM rfl (Hn rfl) (Nat.lt_succ_self d) (Nat.lt_succ_self d) rfl hB.bl Zi (by omega) hrm fun nx2 bx2 ow2 bb hf2 hm1 hm2=>?_)))))
  refine Zd rfl (Xx (a:=bb) rfl (Vp rfl rfl (e_ ?_)))
  cases hmr:Qb m r with
  | none=>
   have hbb:=hm1 hmr
   subst hbb
   have g4:lk bx2 (d,1)=some (v4,Ql):=(hf2.1 _ (Nat.lt_succ_self d) (Hn rfl) (Hn rfl)).trans hB.b4
   refine Yr rfl ?_
   refine Cg (tz:=61) h4 rfl g4 rfl fun σ nx bx g4 g5 gb=>?_
   exact hF σ nx bx _ (by rw [hmr];rfl) g4 g5 gb
  | some z=>
   obtain ⟨hbb,hb1,o1,o2,o3,hbx2⟩:=hm2 z hmr
   subst hbb
   have hsub:=Yff hmr
   have hB:=hB.mem hf2 hb1
   have hA:=hA.call2 hf2
   refine Hy rfl (Yd ?_)
   refine W.reg0 rfl fun nx3 hnx3=>?_
   refine f_ h10 (l_ (w:=.sl o (rs.map Zk.row)) rfl hB.bo rfl rfl (l_ (w:=.ag (xc X.status X.key o1 o2 o3 z.1 z.2.1 z.2.2.1)) (k:=(d,45061)) rfl hbx2 rfl rfl ?_))
   refine Vt (f:=Zk.row) (l:=[⟨X.status,X.key,z.1,z.2.1,z.2.2.1⟩]) rfl rfl (Wg (v:=.ag (xc X.status X.key o1 o2 o3 z.1 z.2.1 z.2.2.1)) (cs:=Zk.row ⟨X.status,X.key,z.1,z.2.1,z.2.2.1⟩) rfl rfl rfl Vl) rfl ?_
   refine Qo (f:=Zk.row) (l:=rs) (m:=[⟨X.status,X.key,z.1,z.2.1,z.2.2.1⟩]) Zk.row_len rfl rfl rfl hA.1 ⟨?_,?_⟩ rfl fun o' ow' a1 a2 a3=>?_
   ·simp only [List.length_cons,List.length_nil,Wl];omega
   ·simp only [List.length_cons,List.length_nil,Wl];omega
   refine f_ h10 (Ye (k:=(d,24581)) (v:=v10) (cs':=Gz a b c o' (rs++[⟨X.status,X.key,z.1,z.2.1,z.2.2.1⟩])) rfl hB.bo rfl rfl rfl (e_ ?_))
   refine ih z.2.2.2 (rs++[⟨X.status,X.key,z.1,z.2.1,z.2.2.1⟩]) _ _ _ _ o' (by omega) (by simp only [List.length_append,List.length_cons,List.length_nil];omega) (fun y hy=>hrm y (hsub.2 y hy)) h1 h2 h4 h7 h10 hB.out (Xe.mk a1 (Gr.app hA.2 rfl a3)) ?_ ?_
   ·intro σ nx bx ow e g4 g5 gb
    exact hF σ nx bx ow (by rw [hmr];simp only [Option.bind_some,e];rfl) g4 g5 gb
   ·intro σ nx bx ow o4 y e g1 g2 g4 g10 gB
    refine hK σ nx bx ow o4 (⟨X.status,X.key,z.1,z.2.1,z.2.2.1⟩::y.1,y.2) (by rw [hmr];simp only [Option.bind_some,e];rfl) g1 g2 g4 g10 ?_
    simpa using gB
end
end Go.AM

/- Yf of the proof. -/
namespace Go.AM
open Go
attribute [local irreducible] WO Wq Ws
set_option maxRecDepth 4000
set_option maxHeartbeats 1000000
set_option linter.unusedVariables false
theorem Wb0 {s x:Zc} (h:x∈Lib.split s [10]):x.length<=s.length:=Zrs _ _ _ _ h
theorem Xzm (s:Zc):Lib.count s [10]<=s.length:=by
 have:=Lib.countB_le ⟨#[10]⟩ (by decide) s.length ⟨s.toArray⟩ (Nat.le_refl _)
 exact this
theorem Ytp (s:Zc):(Lib.split s [10]).length<=s.length+1:=by
 have h1:=Zor [10] 0 (Lib.count s [10]) s
 have h2:=Xzm s
 unfold Lib.split
 omega
section
variable {PG:Za} {m:Zf} {s:Zc}
def ReK (m:Zf) (s:Zc) (v:AV):Prop:=v=.tup [(Gp m s).1.av,.i .i64 (Gp m s).2]
def ReQ (m:Zf) (s:Zc):AE->Sl->St->Prop:=Re 0 Se.res fun r _=>∃v,r.strip=some v/\ReK m s v
theorem Fb {σ:Sl} {nx v4:Nat} {bx:Xw} {ow:Xt} {e:Int} (hr:Gp m s=(sz,e)) (h4:σ 4=.p (0,1) v4 0) (h5:σ 5=.i .i64 e) (hb:lk bx (0,1)=some (v4,Ql)):ReQ m s .ret σ ⟨nx,bx,ow⟩:=by
 refine ⟨.tup [.ag Ql,.i .i64 e],?_,_,rfl,?_⟩
 ·simp only [Se,Xg,Vc,Jq (st:=⟨nx,bx,ow⟩) (cs:=Ql) (n:=4) h4 hb rfl,h5,Ks,Option.map_some]
 ·unfold ReK;rw [hr];rfl
theorem Xtx {σ:Sl} {nx v4:Nat} {bx:Xw} {ow:Xt} {o:Zl} {x:Zu} (hr:Gp m s=(x,0)) (h4:σ 4=.p (0,1) v4 0) (h5:σ 5=.i .i64 0) (hb:lk bx (0,1)=some (v4,Gz x.outcome x.failing x.steps o x.routines)):ReQ m s .ret σ ⟨nx,bx,ow⟩:=by
 refine ⟨.tup [.ag (Gz x.outcome x.failing x.steps o x.routines),.i .i64 0],?_,_,rfl,?_⟩
 ·simp only [Se,Xg,Vc,Jq (st:=⟨nx,bx,ow⟩) (cs:=Gz x.outcome x.failing x.steps o x.routines) (n:=4) h4 hb rfl,h5,Ks,Option.map_some]
 ·unfold ReK;rw [hr]
theorem Yxx (H:HasD PG) (hm:Wr m) {σ:Sl} {nx v0 v4 v6 v10:Nat} {bx:Xw} {ow:Xt} {o:Zl} {a b c:Int} {rs:List Zk} {l:List Zc} (hw:Uo ⟨a,b,c,rs⟩) (hr:Gp m s=if Ji m ⟨a,b,c,rs⟩=(s,0) then (⟨a,b,c,rs⟩,0) else (sz,12))
  (h1:σ 1=.s s) (h2:σ 2=.p (0,0) v0 0) (h4:σ 4=.p (0,1) v4 0) (h10:σ 10=.p (0,24581) v10 0) (hB:RB 0 v0 v4 v6 v10 m a b c bx l o rs):W PG 0 Yh0 σ ⟨nx,bx,ow⟩ (ReQ m s):=by
 have hcall:=Zdi H.toHasT hm hw
 generalize hR:Ji m ⟨a,b,c,rs⟩=R at hcall hr
 obtain ⟨back,e⟩:=R
 simp only at hcall hr
 refine Zm (q_ rfl (l_ (w:=m.av) h2 hB.b0 rfl rfl (l_ (w:=.ag (Gz a b c o rs)) h10 hB.bo rfl rfl (Yg (sc rfl rfl (sc (v:=.ag (Gz a b c o rs)) rfl rfl sn)) hcall (m_ (x_ rfl rfl (x_ rfl rfl (m_ (m_ (e_ ?_))))))))))
 refine q_ rfl (m_ (b_ (a:=.i .i64 e) (b:=.i .i64 0) rfl rfl Vd (m_ (Yq (g:=76) (p:=e≠0) rfl (fun he=>?_) (fun he=>?_)))))
 ·refine Gv (b:=true) rfl rfl (Gv (b:=true) rfl rfl (Gv (b:=true) rfl rfl (Dh rfl rfl (e_ (Yr rfl ?_)))))
  refine Cg (tz:=81) h4 rfl hB.b4 rfl fun σ nx bx g4 g5 gb=>?_
  refine Fb (m:=m) (s:=s) ?_ g4 g5 gb
  rw [hr,if_neg]
  intro h;injection h with _ h;exact he h
 ·have he:=Decidable.not_not.1 he
  subst he
  refine Zd rfl (Qs (l:=back) rfl (Zd rfl (Qs (l:=s) h1 (Zd rfl (b_ (a:=.s back) (b:=.s s) rfl rfl Tg (Vp rfl rfl (e_ (Yk rfl (fun hs=>?_) (fun hs=>Yd ?_)))))))))
  ·refine Cg (tz:=81) h4 rfl hB.b4 rfl fun σ nx bx g4 g5 gb=>?_
   refine Fb (m:=m) (s:=s) ?_ g4 g5 gb
   rw [hr,if_neg]
   intro h;injection h with h _;exact hs h
  ·have hs:=Decidable.not_not.1 hs
   refine q_ rfl (l_ (w:=.ag (Gz a b c o rs)) h10 hB.bo rfl rfl (Ye (w:=.ag (Gz a b c o rs)) (cs':=Gz a b c o rs) h4 hB.b4 rfl rfl rfl (m_ (e_ (Nk ?_)))))
   refine Xtx (m:=m) (s:=s) (o:=o) (x:=⟨a,b,c,rs⟩) ?_ h4 rfl Zi
   rw [hr,if_pos (by rw [hs])]
theorem Wbl (H:HasD PG) (hL:Ni PG) (hM:PuM PG m) (hf:PG.fn 299=some Se) (hm:Wr m) (hs:s.length<=1000000000):Ze PG 299 [m.av,.s s] (.tup [(Gp m s).1.av,.i .i64 (Gp m s).2]):=by
 have main:W PG 0 Zvu (Xz [m.av,.s s]) Zj (ReQ m s):=?_
 ·obtain ⟨v,h1,h2⟩:=Ze.of (PG:=PG) (f:=299) (args:=[m.av,.s s]) (K:=ReK m s) hf rfl main
  rw [<- show v=_ from h2];exact h1
 refine Zm (W.reg ?_)
 change WO PG 0 0 0 0 Yey _ ⟨_,Yx [] (0,1) (1,Ql),[]⟩ _
 refine Vs (v:=m.av) rfl rfl (Xs (m_ (e_ ?_)))
 have b0:lk (Yx (Yx [] (0,1) (1,Ql)) (0,0) (0,m.av.cells)) (0,0)=some (0,m.av.cells):=Zi
 have b4:lk (Yx (Yx [] (0,1) (1,Ql)) (0,0) (0,m.av.cells)) (0,1)=some (1,Ql):=Zt rfl Zi
 revert b0 b4
 show _->_->W PG 0 Ygv _ ⟨_,Yx (Yx [] (0,1) (1,Ql)) (0,0) (0,m.av.cells),[]⟩ _
 generalize Yx (Yx [] (0,1) (1,Ql)) (0,0) (0,m.av.cells)=bx
 intro b0 b4
 refine Zm (q_ rfl (Qs (l:=s) rfl (Hf (l:=s) rfl (b_ (a:=.i .i64 (s.length:Int)) (b:=.i .i64 300000) rfl rfl Vz (e_ (Yk rfl (fun h=>?_) (fun h=>Yd ?_)))))))
 ·refine Cg (v4:=1) (tz:=20) rfl rfl b4 rfl fun σ nx bx g4 g5 gb=>?_
  refine Fb (m:=m) (s:=s) ?_ g4 g5 gb
  unfold Gp;rw [if_pos (by omega)]
 have hrd:Gp m s=match Rb m (Lib.split s [10]) with
  | none=>(sz,12)
  | some x=>if Ji m x=(s,0) then (x,0) else (sz,12):=by unfold Gp;rw [if_neg (by omega)];try (cases Rb m (Lib.split s [10])<;>rfl)
 have hls:s.length<=300000:=by omega
 refine Zm (W.reg ?_)
 rename_i nx1 _
 change WO PG 0 3 nx1 0 Zuk _ ⟨_,Yx bx (0,12290) (nx1+2,[.sl .full []]),[]⟩ _
 have hsl:=Ytp s
 have hsm :∀x∈Lib.split s [10],x.length<=300000:=fun x hx=>Nat.le_trans (Wb0 hx) hls
 refine Qs (l:=s) rfl (Yg (sc rfl rfl (sc rfl rfl sn)) (Xvj H hs) (Xs ?_))
 generalize Lib.split s [10]=L at hrd hsl hsm
 refine Ye (w:=.sl .ext (L.map Zv)) (cs':=[.sl .ext (L.map Zv)]) rfl Zi rfl rfl rfl (e_ ?_)
 have bl:lk (Yx (Yx bx (0,12290) (nx1+2,[.sl .full []])) (0,12290) (nx1+2,[.sl .ext (L.map Zv)])) (0,12290)=some (nx1+2,[.sl .ext (L.map Zv)]):=Zi
 have b0:lk (Yx (Yx bx (0,12290) (nx1+2,[.sl .full []])) (0,12290) (nx1+2,[.sl .ext (L.map Zv)])) (0,0)=some (0,m.av.cells):=Zt rfl (Zt rfl b0)
 have b4:lk (Yx (Yx bx (0,12290) (nx1+2,[.sl .full []])) (0,12290) (nx1+2,[.sl .ext (L.map Zv)])) (0,1)=some (1,Ql):=Zt rfl (Zt rfl b4)
 revert b0 b4 bl
 show _->_->_->W PG 0 Yj2 _ ⟨_,Yx (Yx bx (0,12290) (nx1+2,[.sl .full []])) (0,12290) (nx1+2,[.sl .ext (L.map Zv)]),[]⟩ _
 generalize Yx (Yx bx (0,12290) (nx1+2,[.sl .full []])) (0,12290) (nx1+2,[.sl .ext (L.map Zv)])=bx
 intro bl b0 b4
 refine q_ rfl (Zhb (vs:=[.p (0,12290) (nx1+2) 0]) rfl (m_ (e_ ?_)))
 refine q_ rfl (m_ (Nd (p:=Hd) (k:=(0,12290)) (l:=L) hL rfl rfl Nat.zero_lt_one bl fun nx' bx' hb1 hb2=>?_))
 have b0:=(hb2 (0,0) Nat.zero_lt_one (Hn rfl)).trans b0
 have b4:=(hb2 (0,1) Nat.zero_lt_one (Hn rfl)).trans b4
 generalize hN:Jr Hd L=N at hb1
 obtain ⟨first,ok,rest⟩:=N
 simp only at hb1
 have hfl:first.length<=300000:=by
  cases L with
  | nil=>rw [show Jr Hd []=([],false,[]) from rfl] at hN;injection hN with hN;rw [<- hN];exact Nat.zero_le _
  | cons x r=>
   simp only [Jr] at hN
   split at hN<;>injection hN with hN<;>rw [<- hN]
   ·exact hsm x List.mem_cons_self
   ·exact Nat.zero_le _
 refine m_ (x_ rfl rfl (x_ rfl rfl (m_ (m_ (e_ ?_)))))
 have hX:(Hk first).1.routines=[]:=rfl
 have hcall:=Xrq H (s:=first) (by omega)
 generalize hO:Hk first=O at hcall hX
 obtain ⟨⟨a,b,c,rs0⟩,is⟩:=O
 simp only at hX hcall
 subst hX
 refine Zm (W.reg ?_)
 change WO PG 0 6 nx' 0 Ztf _ ⟨_,Yx bx' (0,24581) (nx'+5,Ql),_⟩ _
 refine m_ (Gx rfl hcall fun st' hfr'=>?_)
 have b0:=(hfr'.1 (0,0) Nat.zero_lt_one Us).trans (Zt rfl b0)
 have b4:=(hfr'.1 (0,1) Nat.zero_lt_one Us).trans (Zt rfl b4)
 have bl:=(hfr'.1 (0,12290) Nat.zero_lt_one Us).trans (Zt rfl hb1)
 have bo:=(hfr'.1 (0,24581) Nat.zero_lt_one Us).trans Zi
 clear hfr' hb1 hb2
 obtain ⟨nx2,bx2,ow2⟩:=st'
 simp only at b0 b4 bl bo
 refine m_ (x_ rfl rfl (x_ rfl rfl (Xs (Ye (w:=.ag (Gz a b c .full [])) (cs':=Gz a b c .full []) rfl bo rfl rfl rfl (m_ (e_ ?_))))))
 have hB:RB 0 0 1 (nx1+2) (nx'+5) m a b c (Yx bx2 (0,24581) (nx'+5,Gz a b c .full [])) rest .full []:=⟨Zt rfl b0,Zt rfl b4,Zt rfl bl,Zi⟩
 refine Zm (q_ rfl (m_ (Xx (a:=ok) rfl (m_ ?_))))
 cases ok with
 | false=>
  refine Gv (b:=true) rfl rfl (Gv (b:=true) rfl rfl (Dh rfl rfl (e_ (Yr rfl ?_))))
  refine Cg (v4:=1) (tz:=40) rfl rfl hB.b4 rfl fun σ nx bx g4 g5 gb=>?_
  refine Fb (m:=m) (s:=s) ?_ g4 g5 gb
  rw [hrd]
  cases L with
  | nil=>rfl
  | cons x r=>
   simp only [Jr] at hN
   split at hN
   ·injection hN with _ hN;injection hN with hN _;cases hN
   ·rename_i h;simp only [Rb,if_neg h]
 | true=>
  obtain ⟨x,r,rfl,hc,rfl,rfl⟩ :∃x r,L=x::r/\(Zn Hd x).2=true/\first=x/\rest=r:=by
   cases L with
   | nil=>rw [show Jr Hd []=([],false,[]) from rfl] at hN;injection hN with _ hN;injection hN with hN _;cases hN
   | cons x r=>
    simp only [Jr] at hN
    split at hN
    ·rename_i h;injection hN with h1 hN;injection hN with _ h2;exact ⟨x,r,rfl,h,h1.symm,h2.symm⟩
    ·injection hN with _ hN;injection hN with hN _;cases hN
  refine Zd rfl (m_ (Zd rfl (Xx (a:=is) rfl (Vp rfl rfl (e_ ?_)))))
  simp only [List.length_cons] at hsl
  simp only [Rb,if_pos hc,hO] at hrd
  cases is with
  | false=>
   refine Yr rfl ?_
   refine Cg (v4:=1) (tz:=40) rfl rfl hB.b4 rfl fun σ nx bx g4 g5 gb=>?_
   refine Fb (m:=m) (s:=s) ?_ g4 g5 gb
   rw [hrd];rfl
  | true=>
   refine Hy rfl (Yd ?_)
   refine Zm (Yj (Ync (s:=s) H hL hM (rest.length+1) rest [] _ _ _ _ .full (Nat.lt_succ_self _) (by simp only [List.length_nil];omega) (fun y hy=>Nat.le_trans (hsm y (List.mem_cons_of_mem _ hy)) (by decide)) rfl rfl rfl rfl rfl hB ⟨trivial,trivial⟩ ?_ ?_))
   ·intro σ nx bx ow e g4 g5 gb
    refine Fb (m:=m) (s:=s) ?_ g4 g5 gb
    rw [hrd,if_pos rfl,e];rfl
   ·intro σ nx bx ow o z e g1 g2 g4 g10 gB
    have w:=Yhf _ _ _ (by omega) e
    have hwf:Uo ⟨a,b,c,z.1⟩:=by
     refine ⟨?_,w.2,by simp only;omega⟩
     have:a=(Hk first).1.outcome:=by rw [hO]
     rw [this];exact Xx0 _
    refine Yxx H hm (rs:=z.1) hwf ?_ g1 g2 g4 g10 (by simpa using gB)
    rw [hrd,if_pos rfl,e];rfl
end
end Go.AM

/- Yf of the proof. -/
namespace Go.AM
open Go
set_option maxRecDepth 100000
structure HasD1 (PG:Za):Prop extends HasD PG where
 f299:PG.fn 299=some Se
 f305:PG.fn 305=some Zag
 f309:PG.fn 309=some Iy
 f302:PG.fn 302=some Oa
 f314:PG.fn 314=some Lv
 f292:PG.fn 292=some Zan
 f303:PG.fn 303=some Zac
 f294:PG.fn 294=some Za1
 f296:PG.fn 296=some Ed
 f297:PG.fn 297=some Ow
 f293:PG.fn 293=some Zbn
 f290:PG.fn 290=some Zgz
def vN (n:Int):Zb:=Zb.mk 2 n [] [] false
def vY:Zb:=Zb.mk 1 1 [] [] false
def Mw:Zf:=Zf.mk [] [] [(Yb.mk [109,97,105,110] 0 0 [] (List.replicate 6 Jn.zero) [] []),(Yb.mk [102] 0 0 [(Yz.mk [120] 0)] (List.replicate 6 Jn.zero) [] [])]
def Zd3:Zk:=Zk.mk 2 (-3) [(Zg.mk 0 1 0 [])] [(Zq.mk 0 1 true vY)] []
def Zc1:Zu:=Zu.mk 2 0 17 [(Zk.mk 1 0 [(Zg.mk 0 4 0 [])] [] [(Zh.mk 1 (vN 5) 0)])]
def Xsf:Zc:=[111,117,116,99,111,109,101,32,112,97,110,105,99,44,32,102,97,105,108,105,110,103,32,48,44,32,115,116,101,112,115,32,49,55,10,103,111,114,111,117,116,105,110,101,32,48,58,32,114,101,97,100,121,10,32,32,35,48,32,48,32,34,109,97,105,110,34,32,97,116,32,52,32,99,97,108,108,10,32,32,112,97,110,105,99,32,53,10]
def Xos:List Zc:=[[103,111,114,111,117,116,105,110,101,32,48,58,32,98,108,111,99,107,101,100,32,45,51],[32,32,35,48,32,48,32,34,109,97,105,110,34,32,97,116,32,49,32,99,97,108,108],[32,32,100,101,102,101,114,32,48,32,49,32,34,102,34,32,119,105,116,104,32,116,114,117,101]]
theorem Zg6:Wr Mw:=Wr.of (by decide +kernel)
theorem Xuk {n:Int} (hn:-9223372036854775808<=n/\n<9223372036854775808):Wf (vN n):=.mk (by decide) hn (by decide) (by simp)
theorem Ymg:Wf vY:=.mk (by decide) (by decide) (by decide) (by simp)
theorem Wf6:Qz Zd3:=by
 refine ⟨by decide,by decide,fun y hy=>?_,fun y hy=>?_,fun y hy=>(by cases hy),by decide,by decide,by decide⟩
 ·rw [List.mem_singleton.1 hy];exact ⟨by decide,by decide,by simp⟩
 ·rw [List.mem_singleton.1 hy];exact Ymg
theorem Yvy:Uo Zc1:=by
 refine ⟨by decide,fun x hx=>?_,by decide⟩
 rw [List.mem_singleton.1 hx]
 refine ⟨by decide,by decide,fun y hy=>?_,by simp,fun y hy=>?_,by decide,by decide,by decide⟩
 ·rw [List.mem_singleton.1 hy];exact ⟨by decide,by decide,by simp⟩
 ·rw [List.mem_singleton.1 hy];exact ⟨by decide,Xuk (by decide),by decide⟩
theorem Xzf:Ji Mw Zc1=(Xsf,0):=by decide +kernel
theorem Xcb:Bc Mw 0 Zd3=(Xos,0):=by decide +kernel
section
variable {PG:Za} (H:HasD1 PG)
include H
theorem Xl6 {m:Zf} (hm:Wr m) {s:Zc} (hs:s.length<=1000000000):Ze PG 299 [m.av,.s s] (.tup [(Gp m s).1.av,.i .i64 (Gp m s).2]):=
 Wbl H.toHasD (Yeb H.toHasD H.f305) (Ysi H.toHasD (Yeb H.toHasD H.f305) H.f309 hm) H.f299 hm hs
theorem Xw6 (n:Int):Ze PG 292 [.i .i64 n] ((vN n).av):=by
 obtain ⟨x,rfl,h⟩:=Xfv H.f292 (n0:=n) (K:=fun x=>x=vN n) (by unfold Zl2;rfl)
 exact h
theorem Yn7:Ze PG 303 [] (vY.av):=by
 obtain ⟨x,rfl,h⟩:=Xmo H.f303 (K:=fun x=>x=vY) (by unfold Znj;rfl)
 exact h
theorem Wf4:Ze PG 294 [] (Zd3.av):=by
 obtain ⟨x,rfl,h⟩:=Ymn H.f294 (K:=fun x=>x=Zd3) (by unfold Zp5;exact ⟨_,Yn7 H,rfl⟩)
 exact h
theorem Xdh:Ze PG 296 [] (Zc1.av):=by
 obtain ⟨x,rfl,h⟩:=Yqr H.f296 (K:=fun x=>x=Zc1) (by unfold Zs4;exact ⟨_,Xw6 H 5,rfl⟩)
 exact h
theorem Znd:Ze PG 297 [] (Mw.av):=by
 obtain ⟨x,rfl,h⟩:=Ywl H.f297 (K:=fun x=>x=Mw) (by unfold Zm8;rw [Zsn];rfl)
 exact h
theorem Yx6 {s:Zu} {t:Zc} (hs:Uo s) (h:Ji Mw s=(t,0)):Ze PG 293 [s.av,.s t] (.b true):=by
 obtain ⟨x,rfl,h⟩:=Yry H.f293 (s0:=s) (want1:=t) (K:=fun x=>x=true) (by
  have c:=Zdi H.toHasT Zg6 hs
  rw [h] at c
  have hf:Um Mw s=true:=by
   unfold Ji at h
   split at h
   ·assumption
   ·injection h with _ h;cases h
  have ht:Gg Mw s=t/\t.length<=300000:=by
   unfold Ji at h
   rw [if_pos hf] at h
   split at h
   ·injection h with _ h;cases h
   ·injection h with h _;exact ⟨h,by rw [<- h];omega⟩
  have r:Gp Mw t=(s,0):=by rw [<- ht.1];exact Xkq Zg6 hs hf (by rw [ht.1];exact ht.2)
  have c2:=Xl6 H Zg6 (s:=t) (by omega)
  rw [r] at c2
  have hs0:Cm s:=⟨hs.o,fun x hx=>by
   have w:=hs.r x hx
   have:=w.fl;have:=w.dl;have:=w.pl
   exact ⟨w.st,w.k,w.f,w.d,w.p,by omega,by omega,by omega⟩,hs.n⟩
  unfold Zjg
  exact ⟨_,Znd H,_,_,c,_,Znd H,_,_,c2,fun _=>⟨fun _=>⟨fun _=>⟨_,Ylt H.toHasT H.f314 H.f302 hs0,Zey.2 rfl⟩,fun h=>absurd rfl h⟩,fun h=>absurd rfl h⟩,fun h=>absurd rfl h⟩)
 exact h
theorem Xgt:Ze PG 290 [] (.b true):=by
 obtain ⟨x,rfl,h⟩:=Wd1 H.f290 (K:=fun x=>x=true) (by
  have c:=Ybo H.toHasT (g:=0) Zg6 Wf6
  rw [Xcb] at c
  unfold Zrg
  exact ⟨_,Znd H,_,Wf4 H,_,_,c,_,Xdh H,_,Yx6 H Yvy Xzf,fun _=>⟨fun _=>⟨_,c29 H.toHas03 (by decide),decide_eq_true rfl⟩,fun h=>absurd rfl h⟩,fun h=>(by cases h)⟩)
 exact h
theorem Zlr {m:Zf} {s:Zu} (h:(Ji m s).2≠0):(Ji m s).1=[]:=by
 unfold Ji at h ⊢
 split
 ·split
  ·rfl
  ·rename_i h1 h2;rw [if_pos h1,if_neg h2] at h;exact absurd rfl h
 ·rfl
theorem Zzv {m:Zf} {s:Zu} (h:(Ji m s).2=0):Um m s=true/\(Ji m s).1=Gg m s/\(Gg m s).length<=300000:=by
 unfold Ji at h ⊢
 split
 ·rename_i h1
  rw [if_pos h1] at h
  split
  ·rename_i h2;rw [if_pos h2] at h;cases h
  ·exact ⟨h1,rfl,by omega⟩
 ·rename_i h1;rw [if_neg h1] at h;cases h
theorem Xzg (hf:PG.fn 289=some Zgi) {m:Zf} (hmn:m.funcs.length<=9223372036854775807) {s t:Zu} (hs:Cm s) (ht:Cm t):Ze PG 289 [m.av,s.av,t.av] (.b true):=by
 obtain ⟨x,rfl,h⟩:=Yoi hf (m0:=m) (s1:=s) (t2:=t) (K:=fun x=>x=true) (by
  unfold Zla Zq6
  refine ⟨_,Xgt H,?_⟩
  unfold Zqj
  refine ⟨_,c79 H.toHasF hmn,fun _=>rfl,fun hg=>⟨_,Yfc H.toHasT hs,fun _=>rfl,fun gs=>⟨_,Yfc H.toHasT ht,fun _=>rfl,fun gt=>⟨fun _=>rfl,fun _=>?_⟩⟩⟩⟩
  have hm:=Wr.of hg
  have ws:=Uo.of hs gs
  have wt:=Uo.of ht gt
  unfold Zm2
  refine ⟨_,_,Zdi H.toHasT hm ws,_,_,Zdi H.toHasT hm wt,?_⟩
  have last :∀{p q:Prop},((Ji m s).2≠0\/(Ji m t).2≠0)->Pv PG (fun x=>x=true) true (Ji m s).1 (Ji m s).2 (Ji m t).1 (Ji m t).2 true s t:=by
   intro _ _ hor
   unfold Pv
   refine ⟨fun _=>⟨fun _=>⟨fun h1=>⟨fun _=>rfl,fun h2=>decide_eq_true (by rw [Zlr H h2];rfl)⟩,fun h1=>⟨fun _=>⟨fun _=>rfl,fun h2=>decide_eq_true (by rw [Zlr H h2];rfl)⟩,fun h=>absurd (by rw [Zlr H h1];rfl) h⟩⟩,fun h=>(by cases h)⟩,fun h=>(by cases h)⟩
  refine ⟨fun h=>last (p:=True) (q:=True) (.inl h),fun h=>?_⟩
  by_cases h2:(Ji m t).2=0
  ·rw [decide_eq_false (by simpa using h2)]
   have h:=Decidable.not_not.1 h
   unfold Pv Zhu
   refine ⟨fun h=>(by cases h),fun _=>⟨fun _=>⟨_,Ylt H.toHasT H.f314 H.f302 hs,?_⟩,fun h=>(by cases h)⟩⟩
   obtain ⟨f1,e1,_⟩:=Zzv H h
   obtain ⟨f2,e2,_⟩:=Zzv H h2
   rw [e1,e2]
   refine decide_eq_true ?_
   by_cases e:Gg m s=Gg m t
   ·rw [decide_eq_true e,Zey.2 (Xy6 hm ws wt f1 f2 e)]
   ·rw [decide_eq_false e,(Ygz.2 fun h=>e (by rw [h]))]
  ·rw [decide_eq_true (by simpa using h2)]
   exact last (p:=True) (q:=True) (.inr h2))
 exact h
end
end Go.AM

/- The statement ReportOne: for every input the law returns true, and each argument reads afterwards as before. No conditions. -/
namespace Go.Proofs.YtheacfnopahmjaaGreatDoor.ReportOneProof
open Go Go.AM Go.RowKit Go.ChangeShapes Go.WideShapes Go.ChangeAt

set_option maxRecDepth 100000
theorem Yci : Yc Tryz.prog X 6 Zgi := fK Tryz.func6
def fns : List (Nat × AF) := [(42, Zfh), (46, Zdv), (36, Ze5), (43, Zd0), (47, Zcl), (11, Zdm), (15, Zdu), (21, Zd6), (25, Ze3), (30, Za8), (34, Zes), (37, Zc3), (39, Ep), (45, Es), (29, Zgm), (145, Zq5), (126, Zlk), (71, Zcp), (72, Zb4), (74, Ee), (76, Zdn), (78, Zh4), (102, Zfe), (103, Zek), (104, Pf), (107, Ct), (109, Zaz), (128, Lp), (129, Pw), (130, Pg), (131, Lw), (136, Zr6), (154, Zgw), (158, Zb1), (178, Ez), (180, Zf2), (183, Fo), (190, Zem), (191, Zfm), (156, Ir), (160, Zdw), (181, As), (162, Zdj), (169, Yd8), (170, Zbx), (79, Zgl), (80, Zdr), (82, Zbv), (86, Zec), (88, Zdf), (111, Zcq), (112, Zef), (113, Ex), (115, Zei), (116, Zbd), (119, Zdg), (122, Zg4), (123, Zgd), (124, Zfg), (138, Zpf), (139, Zbp), (141, Zch), (144, Zf3), (203, Zgr), (204, Zdc), (205, Ze8), (207, Zc0), (211, Zb2), (213, Zep), (215, Zao), (216, Zf6), (217, Zon), (218, Zo8), (219, Zf7), (220, Zbt), (221, Zrk), (224, Zbl), (225, Zb0), (227, Zd9), (228, Zfy), (229, Zfx), (230, Zbc), (231, Zds), (232, Zfa), (233, Zd1), (234, Zg7), (236, Zfd), (237, Zfp), (238, Zbu), (239, Zcf), (84, Zap), (117, Ph), (118, Af), (140, Ll), (143, Zow), (306, Zbk), (316, Ze4), (322, Zfo), (260, Al), (266, Zaj), (317, Zda), (307, Lq), (308, Lc), (318, Ae), (299, Se), (305, Zag), (309, Iy), (302, Oa), (314, Lv), (292, Zan), (303, Zac), (294, Za1), (296, Ed), (297, Ow), (293, Zbn), (290, Zgz), (289, Zgi)]
def PG : Za := ⟨Mp fns, He, Ik⟩
set_option maxRecDepth 100000 in
theorem Xmb : Zad Tryz.prog X fns Rx :=
 fN J (fN J (fN J (fN J (fS J Yci (fS J Xyx (fS J Xcj (fS J Wc8 (fN J (fS J Xo3 (fN J (fS J Xge (fS J Xhe (fN J (fN J (fS J Wcc (fS J Wet (fS J Yzv (fS J Xbe (fN J (fS J Yqb (fS J Yzd (fS J Xvw (fN J (fS J Wj5 (fN J (fN J (fS J Xh9 (fS J Wf7 (fS J Xxi (fS J Xkx (fS J Ywg (fS J Xcd (fS J Yup (fN J (fS J Ytk (fS J Yw3 (fS J Ytu (fS J Wco (fS J Xuc (fS J Xpz (fS J Xvf (fS J Ytw (fS J Xvs (fN J (fS J Xxv (fS J Xmi (fS J Xgz (fS J Yvj (fS J Wad (fN J (fN J (fN J (fN J (fN J (fN J (fS J Xy9 (fS J Yvn (fS J Xyy (fS J Xiy (fS J Yrs (fN J (fN J (fN J (fS J Yzg (fS J Xne (fS J Xau (fS J Yx0 (fS J Wb9 (fS J Wfh (fS J Yx5 (fS J Wj8 (fS J Xn7 (fS J Why (fS J Xzn (fS J Wge (fS J Xuq (fS J Xvp (fS J Wbe (fS J Wj2 (fS J Xy0 (fS J Xxr (fN J (fS J Xbx (fS J Xh5 (fS J Xxt (fS J Xg0 (fS J Yqn (fS J Yv8 (fS J Yyo (fS J Xc7 (fS J Wgy (fN J (fN J (fN J (fN J (fN J (fN J (fN J (fN J (fN J (fN J (fN J (fN J (fN J (fN J (fS J Yvg (fS J Xz5 (fS J Wbx (fS J Yqz (fS J Yot (fN J (fN J (fS J Xz4 (fS J Wdb (fS J Xm5 (fS J Xxo (fS J Yro (fS J Xz0 (fS J Xoc (fS J Yn1 (fS J Yr9 (fN J (fN J (fN J (fS J Xfr (fS J Yof (fS J Yti (fS J Waw (fS J Xp9 (fS J Xzs (fS J Xew (fS J Yzc (fS J Xiu (fN J (fS J Ynw (fS J Wdy (fS J Yxt (fN J (fN J (fS J Wfm (fN J (fS J Yw6 (fN J (fN J (fN J (fN J (fS J Yu6 (fS J Xu1 (fN J (fS J Yuc (fS J Wdo (fS J Xnr (fN J (fN J (fN J (fS J Xsn (fS J Xcr (fS J Whd (fS J Wcb (fS J Xnh (fS J Yxo (fN J (fN J (fN J (fN J (fN J (fN J (fN J (fN J (fN J (fS J Xpw (fN J (fS J Wac (fN J (fN J (fS J Xcl (fS J Weo (fS J Xc2 (fS J Yxc (fN J (fN J (fN J (fS J Wd3 (fS J Wc7 (fS J Yom (fN J (fN J (fN J (fN J (trivial))))))))))))))))))))))))))))))))))))))))))))))))))))))))))))))))))))))))))))))))))))))))))))))))))))))))))))))))))))))))))))))))))))))))))))))))))))))))))))))))))))))))))))))))))))))))))))))
theorem Xh0 : Nm Tryz.prog X { fn := Mp fns, orac := Rt 48 } := Yra (f0 := 185) (fun f h => by have := Cs h; simpa [Rx] using this) Tryz.func185 (by kernel_rfl) (by kernel_rfl) (by kernel_rfl) (by kernel_rfl)
theorem Xx1 : Nm Tryz.prog X PG := Xgi (Yzn Xh0 (f0 := 114) (fun f h => by have := Cs h; simpa [Rx] using this) Tryz.func114 (by kernel_rfl) (by kernel_rfl) (by kernel_rfl) (by kernel_rfl)) (f1 := 46) (f2 := 136) (f3 := 158) (g := 1000000000) rfl
  (fun f h => by have := Cs h; simpa [Rx] using this) (fun args w => Lh Tryz.func46 (by kernel_rfl) (code := Zlj Tryz.f46) (by kernel_rfl) args) (fun s m w hs hm => Xu0 Tryz.lays146 (by kernel_rfl) s m w hs hm)
  (fun f h => by have := Cs h; simpa [Rx] using this) (fun args w => Lh Tryz.func136 (by kernel_rfl) (code := Zlj Tryz.f136) (by kernel_rfl) args) (fun s m w hs hm => Xt2 Tryz.lays147 (by kernel_rfl) s m w hs hm)
  (fun f h => by have := Cs h; simpa [Rx] using this) (fun args w => Lh Tryz.func158 (by kernel_rfl) (code := Zlj Tryz.f158) (by kernel_rfl) args) (fun s q m w hs hm => Go.Proofs.Any.stringslite_Index Tryz.lays219 s q m w hs hm)
theorem orsB_ok : Zcy Tryz.prog X PG := Go.AM.orsB_ok Tryz.lays169 Tryz.extraB (fun f h => by have := Cs h; have e : f = 36 := (by simpa [Rx] using this); exact e) (by kernel_rfl) (by kernel_rfl) Tryz.func36 (by kernel_rfl) rfl
def tl : List Nat := [2, 3, 4, 5, 9, 22, 23, 24, 26, 27, 29, 39, 40, 41, 43, 52, 53, 55, 56, 58, 61, 63, 65, 81, 82, 83, 85, 87, 267, 269, 271]
theorem at_ : Yby Tryz.prog X PG tl := ⟨Xs2 Xxw, by kernel_rfl, Xei Xmb.all rfl, Xx1, orsB_ok, by
    intro t ht
    exact (show ∀ t ∈ tl, Sk X.T tl t = true by decide) t (by simpa using ht)⟩
set_option maxRecDepth 100000 in
theorem has : HasD1 PG := { f42 := by kernel_rfl, f46 := by kernel_rfl, f36 := by kernel_rfl, f43 := by kernel_rfl, f47 := by kernel_rfl, f11 := by kernel_rfl, f15 := by kernel_rfl, f21 := by kernel_rfl, f25 := by kernel_rfl, f30 := by kernel_rfl, f34 := by kernel_rfl, f37 := by kernel_rfl, f39 := by kernel_rfl, f45 := by kernel_rfl, f29 := by kernel_rfl, f145 := by kernel_rfl, f126 := by kernel_rfl, f71 := by kernel_rfl, f72 := by kernel_rfl, f74 := by kernel_rfl, f76 := by kernel_rfl, f78 := by kernel_rfl, f102 := by kernel_rfl, f103 := by kernel_rfl, f104 := by kernel_rfl, f107 := by kernel_rfl, f109 := by kernel_rfl, f128 := by kernel_rfl, f129 := by kernel_rfl, f130 := by kernel_rfl, f131 := by kernel_rfl, f136 := by kernel_rfl, f154 := by kernel_rfl, f158 := by kernel_rfl, f178 := by kernel_rfl, f180 := by kernel_rfl, f183 := by kernel_rfl, f190 := by kernel_rfl, f191 := by kernel_rfl, f156 := by kernel_rfl, f160 := by kernel_rfl, f181 := by kernel_rfl, f162 := by kernel_rfl, f169 := by kernel_rfl, f170 := by kernel_rfl, f79 := by kernel_rfl, f80 := by kernel_rfl, f82 := by kernel_rfl, f86 := by kernel_rfl, f88 := by kernel_rfl, f111 := by kernel_rfl, f112 := by kernel_rfl, f113 := by kernel_rfl, f115 := by kernel_rfl, f116 := by kernel_rfl, f119 := by kernel_rfl, f122 := by kernel_rfl, f123 := by kernel_rfl, f124 := by kernel_rfl, f138 := by kernel_rfl, f139 := by kernel_rfl, f141 := by kernel_rfl, f144 := by kernel_rfl, f203 := by kernel_rfl, f204 := by kernel_rfl, f205 := by kernel_rfl, f207 := by kernel_rfl, f211 := by kernel_rfl, f213 := by kernel_rfl, f215 := by kernel_rfl, f216 := by kernel_rfl, f217 := by kernel_rfl, f218 := by kernel_rfl, f219 := by kernel_rfl, f220 := by kernel_rfl, f221 := by kernel_rfl, f224 := by kernel_rfl, f225 := by kernel_rfl, f227 := by kernel_rfl, f228 := by kernel_rfl, f229 := by kernel_rfl, f230 := by kernel_rfl, f231 := by kernel_rfl, f232 := by kernel_rfl, f233 := by kernel_rfl, f234 := by kernel_rfl, f236 := by kernel_rfl, f237 := by kernel_rfl, f238 := by kernel_rfl, f239 := by kernel_rfl, f84 := by kernel_rfl, f117 := by kernel_rfl, f118 := by kernel_rfl, f140 := by kernel_rfl, f143 := by kernel_rfl, f306 := by kernel_rfl, f316 := by kernel_rfl, f322 := by kernel_rfl, f260 := by kernel_rfl, f266 := by kernel_rfl, f317 := by kernel_rfl, f307 := by kernel_rfl, f308 := by kernel_rfl, f318 := by kernel_rfl, f299 := by kernel_rfl, f305 := by kernel_rfl, f309 := by kernel_rfl, f302 := by kernel_rfl, f314 := by kernel_rfl, f292 := by kernel_rfl, f303 := by kernel_rfl, f294 := by kernel_rfl, f296 := by kernel_rfl, f297 := by kernel_rfl, f293 := by kernel_rfl, f290 := by kernel_rfl, f48 := rfl, o48 := Xlc, f146 := rfl, f105 := rfl, o146 := Ymm, o105 := Yvr, s105 := Wax, f304 := rfl, o304 := Wga, f323 := rfl, o323 := Wde, f197 := rfl, o197 := We3 }
theorem own : ownKnob Tryz.prog.godebug = none := by kernel_rfl
theorem Wid : laidOutB Tryz.prog = true := by kernel_rfl
theorem Xq4 {x : Zk} (hx : Zok x) : Ax x := ⟨hx.status.1, hx.key, fun y hy => ⟨((hx.frames.2 y hy).mode).1, Nat.le_trans (hx.frames.2 y hy).locals.1 (by decide), fun z hz => ((hx.frames.2 y hy).locals.2 z hz).value⟩, fun y hy => (hx.defers.2 y hy).arg, fun y hy => ⟨(hx.panics.2 y hy).tag, (hx.panics.2 y hy).value, (hx.panics.2 y hy).flags⟩, Nat.le_trans hx.frames.1 (by decide), Nat.le_trans hx.defers.1 (by decide), Nat.le_trans hx.panics.1 (by decide)⟩
theorem Yc7 {s : Zu} (hs : Zps s) : Cm s := ⟨hs.outcome.1, fun x hx => Xq4 (hs.routines.2 x hx), Nat.le_trans hs.routines.1 (by decide)⟩
theorem typed (avs : List AV) (h : Zhh X.T [26, 29, 29] avs) : Ze PG 289 avs (.b true) := by
  match avs, h with
  | [a, b, c], ⟨h1, h2, h3, _⟩ =>
    obtain ⟨m, rfl, hm⟩ := Jv.isImg Xy8 h1
    obtain ⟨s, rfl, hs⟩ := Jv.isSta Yeq h2
    obtain ⟨t, rfl, ht⟩ := Jv.isSta Yeq h3
    exact Xzg has rfl (Nat.le_trans hm.funcs.1 (by decide)) (Yc7 hs) (Yc7 ht)

theorem glob {W : World} (h : W.ShapedOpen Tryz.prog) : Bq X.fm W := fun g hg => by
  obtain rfl : 1000000000 = g := Option.some.inj ((show X.fm 1000000000004 = some 1000000000 from rfl).symm.trans hg)
  obtain ⟨m, hm⟩ := cell_of_shapedOpen_int (P := Tryz.prog) (g := 0) (t := 3) (zero := #[.int .i64 0]) (k := .i64) h (of_decide_eq_true (by kernel_rfl)) (by kernel_rfl) rfl (by kernel_rfl) (by kernel_rfl) (by kernel_rfl)
  exact ⟨Xev hm, m, hm⟩
set_option maxRecDepth 100000 in
theorem Xtz (os : Os) (started : os.Started) (H : Type) (enc : TypeId × Value -> H) :
    ReturnsInHanded {} Tryz.checked os 6 .any (fun w args => (Rows.reportOneSpec.pre enc Tryz.prog Tryz.f6 Rows.reportOneRow.domain false w args /\ laidMetH Tryz.prog Rows.reportOneRow.laid w) /\ sizedMet enc Tryz.prog Tryz.f6 (OpenSpec.ofChange Rows.reportOneSpec) false w args) (Rows.reportOneSpec.post enc Tryz.prog Tryz.f6 false true false false) := by
  refine Xip (C := Tryz.checked) (X := fun w _ => laidMetH Tryz.prog Rows.reportOneRow.laid w) own started (by kernel_rfl) Tryz.func6
    (ChangeSpec.witness_shaped (enc := enc) (C := Tryz.checked) (os := os) (X := fun w _ => laidMetH Tryz.prog Rows.reportOneRow.laid w) false (World.laidAll Tryz.prog os Rows.reportOneRow.laid) #[.agg #[.slice none 0 0, .slice none 0 0, .slice none 0 0], .agg #[.int .u8 0, .int .i64 0, .int .i64 0, .slice none 0 0], .agg #[.int .u8 0, .int .i64 0, .int .i64 0, .slice none 0 0]] 8 (World.laidAll_os _ _ _)
      (World.shaped_of_ZipB (by kernel_rfl) (by kernel_rfl)) (by kernel_rfl) (by kernel_rfl) (by kernel_rfl)
      (by rw [MakeChecks.laidMetH_plain _ _ _ (by kernel_rfl)]; exact laidMet_laidAll _ (by kernel_rfl) (by kernel_rfl))) ?_
  intro W base args ds gs before hval0 hW hsh
  have hval : ∀ (j : Nat) t v, Tryz.f6.params[j]? = some t -> args[j]? = some v -> Value.okWide Tryz.prog W .any base t v := hval0
  have hW' := hW
  obtain ⟨p, q, hA0, hV, rfl, hfz, hnd⟩ := hW
  have hA : DataW.TrodAll enc Tryz.prog W 0 (fun _ => true) true Tryz.f6.params.toList args.toList ds p := hA0
  rw [Tryz.params6] at hA hval
  obtain ⟨rfl, rfl⟩ := trodVars_none hV
  obtain ⟨avs, hR, hok⟩ := Yic at_.T at_.types (ts := [26, 29, 29]) (by decide) (fun j t v h1 h2 => hval j t v (by simpa using h1) (by simpa using h2)) hA
  have hlt := Ydw hA
  have hlen := Zsb hA
  refine (Yrz at_ (f := 6) (c := 289) rfl (Yci.enters _ _) hR (typed avs hok) (glob hsh)).mono fun e W' ⟨he, bel⟩ => ?_
  subst he
  have hB := Ycx Wid bel (by kernel_rfl) hA hlt
  obtain ⟨d0, d1, d2, rfl⟩ := ds3 hlen
  exact ⟨_, rfl, _, _, _, [], _, [], hW', trodAll_mk1 (shut_bool Tryz.underlying4 _), hB, rfl, bel.frame _, fun h => by cases h⟩

theorem Yoy : Rows.ReportOneSaid :=
  OpenClaim.holds_of_wide 6 Tryz.f6 rfl rfl rfl rfl rfl rfl rfl ⟨rfl, rfl, rfl, rfl, rfl⟩ rfl rfl rfl rfl rfl (by kernel_rfl) Tryz.func6 (by kernel_rfl)
    (of_decide_eq_true (by kernel_rfl)) (by unfold Func.isWrapper; rw [if_neg (of_decide_eq_false (by kernel_rfl))]; exact ⟨rfl, rfl⟩)
    (fun os started H enc _ => Xtz os started H enc)

/-- The statement: the card. -/
theorem proved : Rows.ReportOneCardSaid :=
  Claim7.holds_tied_plain_at .later [] [.data, .pinned] true (true, "7754283d7d2aa53d68f672087f55f7cc4332f55f723f6abf0f59cd83e0be1448") false Yoy (fun _ h => by cases h) (by kernel_rfl) (fun _ h => by cases h) reportOne_row_tie rfl ⟨rfl, rfl⟩ (by kernel_rfl) rfl
    (fun f fn hf hfn => by
      obtain rfl : f = 6 := Option.some.inj ((show Tryz.prog.funcNamed Tryz.f6.name = some 6 by kernel_rfl).symm.trans hf) |>.symm
      obtain rfl : fn = Tryz.f6 := (Option.some.inj (Tryz.func6.symm.trans hfn)).symm
      exact ⟨by kernel_rfl, fun j t ht => by
        rw [Tryz.params6] at ht
        have hm : t ∈ [26, 29, 29] := by simpa using Array.mem_of_getElem? ht
        have hall : ([26, 29, 29].all fun u => !Tryz.prog.wantsStandIn u) = true := by kernel_rfl
        exact (show Tryz.prog.wantsStandIn t = false by simpa using List.all_eq_true.1 hall t hm)⟩)
    (by kernel_rfl)
#print axioms proved
end Go.Proofs.YtheacfnopahmjaaGreatDoor.ReportOneProof
