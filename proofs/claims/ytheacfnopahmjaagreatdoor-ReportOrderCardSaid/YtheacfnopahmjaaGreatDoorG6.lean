/- Parts of the proof: C38c, C38d, C38e, C38f, C38g, C39, C39b, C39c, V38f, C38h, C38i, C38j, C38k, C38l, C38m, V40, C40, C40b, C40c, C40d, V40r, V39c, V40s, V40t, C40e, C39d, C39e. -/
import Derived.Test.YtheacfnopahmjaaGreatDoorG5
import Derived.Test.YtheacfnopahmjaaGreatDoorG4
import Derived.Test.YtheacfnopahmjaaGreatDoorG2
import Derived.Test.YtheacfnopahmjaaGreatDoorG3
import Derived.Lib.SplitLaws
import Derived.Lib.IndexBytes
import Derived.Lib.IndexMore
set_option linter.all false
/- Yg of the proof. -/
namespace Go.AM
open Go
section
variable {PG:Za} (H:Has38 PG)
include H
set_option maxHeartbeats 1000000 in
theorem Yif :∀(d:Nat) {v:Zb},Wf v->d<=1000->Zf PG 109 [v.av,.i .i64 (d:Int)] (.tup [.i .i64 (Qs d v).1,.b (Qs d v).2])
 | 0,v,hw,hd=>by
  obtain ⟨x,y,⟨rfl,rfl⟩,h⟩:=Zym H.f109 (v0:=v) (nest1:=((0:Nat):Int)) (K:=fun x y=>x=(Qs 0 v).1/\y=(Qs 0 v).2) (by
   unfold Zd1 Zfz Zgt Mg Zf9
   have:Qs 0 v=(0,false):=by unfold Qs;rw [if_neg (by rintro ⟨h,_⟩;cases h)]
   rw [this]
   repeat' first | exact ⟨rfl,rfl⟩ | refine ⟨fun _=>?_,fun _=>?_⟩ | (intro h)
   all_goals exact absurd rfl ‹¬((0:Nat):Int)=0›)
  exact h
 | d+1,v,hw,hd=>by
  have ih:=@Yif d
  obtain ⟨x,y,⟨rfl,rfl⟩,h⟩:=Zym H.f109 (v0:=v) (nest1:=((d+1:Nat):Int)) (K:=fun x y=>x=(Qs (d+1) v).1/\y=(Qs (d+1) v).2) (by
   have hm:IntKind.i64.wrap (((d+1:Nat):Int)-1)=(d:Int):=by rw [Yv (by omega) (by omega)];omega
   have ht:v.text=[]↔v.text.length=0:=List.length_eq_zero_iff.symm
   have ht':[]=v.text↔v.text.length=0:=by rw [<- ht];exact eq_comm
   have cno:¬(Vr (d+1) v=true/\v.nodes<=5000)->Qs (d+1) v=(0,false):=fun h=>by unfold Qs;rw [if_neg h]
   have no:¬v.okh->(0:Int)=(Qs (d+1) v).1/\false=(Qs (d+1) v).2:=fun h=>by
    rw [cno (by rw [Zwu h];rintro ⟨h,_⟩;cases h)];exact ⟨rfl,rfl⟩
   have hl:=hw.l
   have hn:=Zpc v
   have lp:v.okh->∀P:Int->Int->Prop,(∀(sum10:Int) (t103:Int),Pj PG (fun x y=>x=(Qs (d+1) v).1/\y=(Qs (d+1) v).2) P ((d+1:Nat):Int) sum10 v.list (v.list.length:Int) t103->P sum10 t103)->P 1 0:=by
    intro ho P hP
    have e:=Yi8 (d:=d) ho
    refine Mu (P:=fun s i=>P s i) (fun i=>((1+Zb.nodesL (v.list.take i):Nat):Int)) v.list.length (fun i=>(v.list.take i).all (Vr d)=true/\1+Zb.nodesL (v.list.take i)<=5000) (by simp [Zb.nodesL]) (fun hI=>?_) (fun i hi hI ihP=>?_)
    ·apply hP
     unfold Pj Zrc
     refine ⟨fun h=>absurd h (by omega),fun _=>?_⟩
     rw [List.take_length] at hI ⊢
     unfold Qs
     rw [if_pos ⟨by rw [e];exact hI.1,by omega⟩,hn]
     exact ⟨rfl,rfl⟩
    ·apply hP
     unfold Pj
     have hnt:=Zz0 hi
     have hle:=Zxk (l:=v.list) (i+1)
     refine ⟨fun _=>⟨by omega,_,Xb hi,_,_,by rw [hm];exact ih (hw.e _ (List.getElem_mem hi)) (by omega),?_⟩,fun h=>absurd (show (i:Int)<v.list.length by omega) h⟩
     by_cases hc:Vr d v.list[i]=true/\v.list[i].nodes<=5000
     ·rw [show Qs d v.list[i]=((v.list[i].nodes:Int),true) by unfold Qs;rw [if_pos hc]]
      refine ⟨fun h=>(by cases h),fun _=>⟨fun h=>?_,fun h=>?_⟩⟩
      ·rw [Yv (by omega) (by omega)] at h
       rw [cno (by omega)]
       exact ⟨rfl,rfl⟩
      ·rw [Yv (by omega) (by omega)] at h ⊢
       rw [Yv (by omega) (by omega)]
       have:=ihP ⟨by rw [List.take_succ_eq_append_getElem hi,List.all_append,hI.1];simpa using hc.1,by omega⟩
       rw [hnt] at this
       rw [show ((1+Zb.nodesL (v.list.take i):Nat):Int)+(v.list[i].nodes:Int)=((1+(Zb.nodesL (v.list.take i)+v.list[i].nodes):Nat):Int) by omega]
       exact this
     ·rw [show Qs d v.list[i]=(0,false) by unfold Qs;rw [if_neg hc]]
      refine ⟨fun _=>?_,fun h=>(by cases h)⟩
      rw [cno (fun h=>hc ⟨Oi h.1 _ (List.getElem_mem hi),by have:=Wfc (List.getElem_mem hi);omega⟩)]
      exact ⟨rfl,rfl⟩
   unfold Zd1 Zfz Zgt Mg Zf9
   simp only [Zb.int_mk,Zb.text_mk,Zb.cut_mk,Zb.kind_mk,Zb.list_mk,Ysy,ht',ne_eq,not_true_eq_false,false_imp_iff,true_imp_iff,true_and,not_false_eq_true]
   rcases Zxr v with ⟨hc,hcn⟩ | ⟨hc,hcn⟩
   all_goals simp only [hc,reduceCtorEq,false_imp_iff,true_imp_iff,not_true_eq_false,not_false_eq_true,true_and,and_true]
   all_goals repeat' first | refine ⟨fun _=>?_,fun _=>?_⟩ | (intro h)
   all_goals first
    | exact no (by unfold Zb.okh Kc;omega)
    | exact lp (by unfold Zb.okh Kc;omega) _ ‹_›
    | (exfalso;omega))
  exact h
theorem c76 {v:Zb} (hw:Wf v):Zf PG 76 [v.av] (.i .i64 (Hg v)):=by
 obtain ⟨x,rfl,h⟩:=p76 H.f76 (v0:=v) (K:=fun x=>x=Hg v) (by
  unfold Zjq Hg
  refine ⟨_,_,Yif H 130 hw (by decide),?_⟩
  unfold Qs Va
  by_cases h:Vr 130 v=true/\v.nodes<=5000
  ·rw [if_pos h,if_pos (by simpa using h)]
   exact ⟨fun h=>(by cases h),fun _=>rfl⟩
  ·rw [if_neg h,if_neg (by simpa using h)]
   exact ⟨fun _=>rfl,fun h=>(by cases h)⟩)
 exact h
theorem Az {v:Zb} (hw:Wf v):Zf PG 77 [v.av] (.i .i64 (Hg v)):=by
 obtain ⟨x,rfl,h⟩:=p77 H.f77 (v0:=v) (K:=fun x=>x=Hg v) (by
  unfold Zrm Hg Va
  refine ⟨_,Ylo H 130 hw (by decide),fun h=>?_,fun h=>⟨_,Zv3 H 130 (Yhk (by simpa using h)) (by decide),fun h1=>?_,fun h1=>?_⟩⟩
  ·rw [show Vr 130 v=false by simpa using h];rfl
  ·have h2:=Zr5 v
   rw [show Vr 130 v=true by simpa using h,decide_eq_false (by omega)];rfl
  ·have h2:=Zr5 v
   rw [show Vr 130 v=true by simpa using h,decide_eq_true (by omega)];rfl)
 exact h
end
end Go.AM

/- Yg of the proof. -/
namespace Go.AM
open Go
theorem Wc7 (l m:List Zb):Xc (l++m)=Xc l++(if l.length=0 then Xc m else Ub m):=by
 cases l with
 | nil=>simp [Xc]
 | cons a l=>simp [Xc,Zk6]
theorem Wd7 (l:List Zb) (i:Nat):(Xc (l.take i)).length<=(Xc l).length:=by
 have:=Wc7 (l.take i) (l.drop i)
 rw [List.take_append_drop] at this
 rw [this,List.length_append]
 omega
theorem Zrn {s:Zd} (h:s.length<=400):Nv s=(quo s,0):=by
 unfold Nv
 rw [if_neg (by omega)]
section
variable {PG:Za} (H:Has38 PG)
include H
theorem Zse {K:Int->Zd->Prop} {l:List Zb} {e0 e1:UInt8} {b:Zd} (hl:l.length<=16) (hx :∀x∈l,∀b:Zd,b.length+(Xi x).length<=100000000->Yt PG 104 (Bl b) [x.av] (fun r=>r=.i .i64 0) (Bl (b++Xi x)))
  (hb:b.length+(Xc l).length+2<=100000000) (hK:K 0 (b++[e0]++Xc l++[e1])) :∀P0:Int->Zd->Prop,(∀(t22:Int) (mP:Zd),Py PG K P0 [e0,e1] l (l.length:Int) t22 mP->P0 t22 mP)->P0 0 (b++[e0]):=by
 intro P hP
 have:=Dz (P:=fun m i=>P i m) (fun i=>b++[e0]++Xc (l.take i)) l.length ?_ fun i hi ihP=>?_
 ·simpa [Xc] using this
 ·apply hP
  unfold Py Zup Dv
  rw [List.take_length]
  refine ⟨fun h=>absurd h (by omega),fun _=>⟨by simp,_,_,Bz H.toHasB (s:=[e1]) ?_,hK⟩⟩
  rw [Wt];simp only [List.length_append,List.length_cons,List.length_nil];omega
 ·apply hP
  have h1:=Wd7 l (i+1)
  rw [Wbw hi] at h1 ihP
  simp only [List.length_append] at h1
  unfold Py Zdj
  refine ⟨fun _=>⟨by omega,_,Xb hi,fun h2=>?_,fun h2=>?_⟩,fun h=>absurd (show (i:Int)<l.length by omega) h⟩
  ·rw [if_pos (by omega)] at h1 ihP
   refine ⟨_,_,Bz H.toHasB (s:=[44,32]) ?_,_,_,hx _ (List.getElem_mem hi) _ ?_,fun h=>absurd rfl h,fun _=>?_⟩
   ·rw [Wt];simp only [List.length_append,List.length_cons,List.length_nil];omega
   ·simp only [List.length_append,List.length_cons,List.length_nil] at h1 ⊢;omega
   ·rw [My (by omega)]
    simpa using ihP
  ·rw [if_neg (by omega)] at h1 ihP
   refine ⟨_,_,hx _ (List.getElem_mem hi) _ ?_,fun h=>absurd rfl h,fun _=>?_⟩
   ·simp only [List.length_append,List.length_cons,List.length_nil] at h1 ⊢;omega
   ·rw [My (by omega)]
    simpa using ihP
set_option maxHeartbeats 1000000 in
theorem Yr1 :∀(d:Nat) {v:Zb},Vr d v=true->Wf v->∀b:Zd,b.length+(Xi v).length<=100000000->Yt PG 104 (Bl b) [v.av] (fun r=>r=.i .i64 0) (Bl (b++Xi v))
 | 0,v,h,_,_,_=>by cases h
 | d+1,v,h,hw,b,hlen=>by
  have h1:=Mn h
  have h2:=Oi h
  have ih :∀x∈v.list,∀b:Zd,b.length+(Xi x).length<=100000000->Yt PG 104 (Bl b) [x.av] (fun r=>r=.i .i64 0) (Bl (b++Xi x)):=fun x hx b hb=>Yr1 d (h2 _ hx) (hw.e _ hx) b hb
  refine (Xsa H.f104 (v1:=v) (mP:=b) (K:=fun r b'=>r=0/\b'=b++Xi v) ?_).to fun r b' hk=>?_
  ·have hB :∀{s:Zd} {a:Int},(Xi v)=s->∃r':Int,∃b'':Zd,Yt PG 126 (Bl b) [.s s] (fun r=>r=.tup [.i .i64 r',.ni]) (Bl b'')/\Dv PG (fun r b'=>r=0/\b'=b++Xi v) b'':=by
    intro s a hs
    refine ⟨_,_,Bz H.toHasB (s:=s) ?_ (hs ▸ Yfh v),?_⟩
    ·rw [<- hs,Wt];omega
    ·unfold Dv;rw [hs];exact ⟨rfl,rfl⟩
   have hk:1<=v.kind/\v.kind<=7:=by unfold Zb.okh Kc at h1;omega
   have hn:=hw.n
   rw [Tv] at hlen
   have ht:=Tv v
   unfold Zri Zlx
   refine ⟨by omega,?_⟩
   have hkk:v.kind=1\/v.kind=2\/v.kind=3\/v.kind=4\/v.kind=5\/v.kind=6\/v.kind=7:=by omega
   rcases hkk with k | k | k | k | k | k | k
   all_goals rw [k]
   all_goals simp only [k,if_true,reduceCtorEq,if_false,Int.reduceEq] at ht hlen
   ·refine ⟨[],rfl,?_⟩
    unfold Nx Mc Np
    rw [k]
    refine ⟨fun _=>⟨fun h=>hB (a:=0) ?_,fun h=>⟨fun _=>hB (a:=0) ?_,fun h=>by simp at h⟩⟩,fun h=>absurd rfl h⟩
    ·rw [ht,if_pos (by simpa using h)];rfl
    ·rw [ht,if_neg (by simpa using h)];rfl
   ·refine ⟨[],rfl,?_⟩
    unfold Nx Mc Np Rp
    rw [k]
    refine ⟨fun h=>absurd h (by decide),fun _=>⟨fun h=>(by cases h),fun _=>⟨fun h=>(by simp at h),fun _=>⟨fun _=>⟨_,c15 H.toHas03 hn.1 hn.2,hB (a:=0) ht⟩,fun h=>by simp at h⟩⟩⟩⟩
   ·refine ⟨[],rfl,?_⟩
    unfold Nx Mc Np Rp Cu
    rw [k]
    refine ⟨fun h=>absurd h (by decide),fun _=>⟨fun h=>(by cases h),fun _=>⟨fun h=>(by simp at h),fun _=>⟨fun h=>(by simp at h),fun _=>⟨fun _=>⟨_,_,c11 H.toHas03 v.text,?_⟩,fun h=>by simp at h⟩⟩⟩⟩⟩
    rw [Zrn (by unfold Zb.okh Kc at h1;omega)]
    refine ⟨_,_,Bz H.toHasB (s:=quo v.text) ?_,rfl,?_⟩
    ·rw [Wt];omega
    ·rw [ht]
   ·refine ⟨[],rfl,?_⟩
    unfold Nx Mc Np Rp Cu Ts
    rw [k]
    refine ⟨fun h=>absurd h (by decide),fun _=>⟨fun h=>(by cases h),fun _=>⟨fun h=>(by simp at h),fun _=>⟨fun h=>(by simp at h),fun _=>⟨fun h=>(by simp at h),fun _=>⟨fun _=>⟨fun hc=>hB (a:=0) ?_,fun hc=>⟨fun _=>⟨fun hl=>hB (a:=0) ?_,fun hl=>⟨fun _=>?_,fun h=>absurd rfl h⟩⟩,fun h=>absurd rfl h⟩⟩,fun h=>absurd rfl h⟩⟩⟩⟩⟩⟩
    ·rw [ht,if_pos hc];rfl
    ·rw [ht,if_neg (by rw [hc];decide),if_pos (by omega)];rfl
    ·rw [if_neg (by rw [hc];decide),if_neg (by omega)] at ht hlen
     have hl1:v.list.length=1:=by unfold Zb.okh Kc at h1;omega
     obtain ⟨w,hw1⟩:=List.length_eq_one_iff.1 hl1
     rw [hw1,Zsn] at hlen ht
     simp only [List.length_cons] at hlen
     refine ⟨_,_,Bz H.toHasB (s:=[38]) ?_,w,by rw [hw1];rfl,_,_,ih w (by rw [hw1];exact List.mem_cons_self) _ ?_,rfl,?_⟩
     ·rw [Wt];simp only [List.length_cons,List.length_nil];omega
     ·simp only [List.length_append,List.length_cons,List.length_nil];omega
     ·rw [ht];simp
   ·have hc:v.cut=false:=by
     have:v.cut.toNat=0:=by unfold Zb.okh Kc at h1;omega
     cases hc:v.cut
     ·rfl
     ·rw [hc] at this;cases this
    refine ⟨[123,125],rfl,?_⟩
    unfold Nx Mc Np Rp Cu Ts
    rw [k]
    refine ⟨fun h=>absurd h (by decide),fun _=>⟨fun h=>(by cases h),fun _=>⟨fun h=>(by simp at h),fun _=>⟨fun h=>(by simp at h),fun _=>⟨fun h=>(by simp at h),fun _=>⟨fun h=>absurd h (by decide),fun _=>⟨fun h=>(by cases h),fun _=>⟨fun h=>absurd h (by decide),fun _=>⟨fun h=>absurd h (by decide),fun _=>⟨fun h=>(by rw [hc] at h;cases h),fun _=>⟨by decide,_,_,Bz H.toHasB (s:=[123]) ?_,?_⟩⟩⟩⟩⟩⟩⟩⟩⟩⟩⟩
    ·rw [Wt];simp only [List.length_cons,List.length_nil,List.length_append] at hlen ⊢;omega
    ·simp only [List.length_cons,List.length_nil,List.length_append] at hlen
     exact Zse H (by unfold Zb.okh Kc at h1;omega) ih (by omega) ⟨rfl,by rw [ht];simp⟩
   ·have hc:v.cut=false:=by
     have:v.cut.toNat=0:=by unfold Zb.okh Kc at h1;omega
     cases hc:v.cut
     ·rfl
     ·rw [hc] at this;cases this
    refine ⟨[91,93],rfl,?_⟩
    unfold Nx Mc Np Rp Cu Ts
    rw [k]
    refine ⟨fun h=>absurd h (by decide),fun _=>⟨fun h=>(by cases h),fun _=>⟨fun h=>(by simp at h),fun _=>⟨fun h=>(by simp at h),fun _=>⟨fun h=>(by simp at h),fun _=>⟨fun h=>absurd h (by decide),fun _=>⟨fun h=>(by cases h),fun _=>⟨fun h=>absurd h (by decide),fun _=>⟨fun h=>absurd h (by decide),fun _=>⟨fun h=>(by rw [hc] at h;cases h),fun _=>⟨by decide,_,_,Bz H.toHasB (s:=[91]) ?_,?_⟩⟩⟩⟩⟩⟩⟩⟩⟩⟩⟩
    ·rw [Wt];simp only [List.length_cons,List.length_nil,List.length_append] at hlen ⊢;omega
    ·simp only [List.length_cons,List.length_nil,List.length_append] at hlen
     exact Zse H (by unfold Zb.okh Kc at h1;omega) ih (by omega) ⟨rfl,by rw [ht];simp⟩
   ·refine ⟨[60,62],rfl,?_⟩
    unfold Nx Mc Np Rp Cu Ts
    rw [k]
    refine ⟨fun h=>absurd h (by decide),fun _=>⟨fun h=>(by cases h),fun _=>⟨fun h=>(by simp at h),fun _=>⟨fun h=>(by simp at h),fun _=>⟨fun h=>(by simp at h),fun _=>⟨fun h=>absurd h (by decide),fun _=>⟨fun h=>(by cases h),fun _=>⟨fun h=>absurd h (by decide),fun _=>⟨fun h=>absurd h (by decide),fun _=>⟨fun hc=>hB (a:=0) ?_,fun hc=>⟨by decide,_,_,Bz H.toHasB (s:=[60]) ?_,?_⟩⟩⟩⟩⟩⟩⟩⟩⟩⟩⟩
    ·rw [ht,if_pos hc];rfl
    ·rw [if_neg (by rw [hc];decide)] at hlen
     rw [Wt];simp only [List.length_cons,List.length_nil,List.length_append] at hlen ⊢;omega
    ·rw [if_neg (by rw [hc];decide)] at hlen ht
     simp only [List.length_cons,List.length_nil,List.length_append] at hlen
     exact Zse H (by unfold Zb.okh Kc at h1;omega) ih (by omega) ⟨rfl,by rw [ht];simp⟩
  ·obtain ⟨x0,h1,rfl,rfl⟩:=hk
   exact ⟨h1,rfl⟩
theorem c72 {v:Zb} (hw:Wf v):Zf PG 72 [v.av] (.tup [.s (if Va v=true then Xi v else []),.i .i64 (Hg v)]):=by
 obtain ⟨x,y,⟨rfl,rfl⟩,h⟩:=p72 H.f72 (v0:=v) (K:=fun x y=>x=(if Va v=true then Xi v else [])/\y=Hg v) (by
  unfold Zuv
  refine ⟨_,c76 H hw,fun h=>?_,fun h=>?_⟩
  ·unfold Hg at h ⊢
   by_cases hf:Va v=true
   ·rw [if_pos hf] at h;exact absurd rfl h
   ·rw [if_neg hf,if_neg hf];exact ⟨rfl,rfl⟩
  ·unfold Hg at h ⊢
   by_cases hf:Va v=true
   ·rw [if_pos hf,if_pos hf]
    have:=Td hf
    refine ⟨_,_,Yr1 H 130 (Ru hf).1 hw [] (by simp only [List.length_nil];omega),fun h=>absurd rfl h,fun _=>⟨_,Ylk H.toHasB (by rw [List.nil_append,Wt];omega),rfl,rfl⟩⟩
   ·rw [if_neg hf] at h;exact absurd (by decide) h)
 exact h
end
end Go.AM

/- Yg of the proof. -/
namespace Go.AM
open Go
theorem Zrg :∀{s:Zd} {i:Nat},i<Qu s->∃c,s[i]?=some c/\Gb c=true
 | [],i,h=>absurd h (Nat.not_lt_zero _)
 | c::s,0,h=>by
  rw [Qu] at h
  split at h
  ·rename_i hc;exact ⟨c,rfl,hc⟩
  ·exact absurd h (Nat.not_lt_zero _)
 | c::s,i+1,h=>by
  rw [Qu] at h
  split at h
  ·exact Zrg (s:=s) (i:=i) (by omega)
  ·exact absurd h (Nat.not_lt_zero _)
theorem Zrs :∀{s:Zd} {c:UInt8},s[Qu s]?=some c->Gb c=false
 | [],c,h=>by cases h
 | x::s,c,h=>by
  rw [Qu] at h
  split at h
  ·rw [Nat.add_comm,List.getElem?_cons_succ] at h
   exact Zrs h
  ·rename_i hx
   rw [List.getElem?_cons_zero] at h
   injection h with h
   subst h
   simpa using hx
theorem Ywp {s:Zd} {i:Nat} (h:i<Jr s) :∃c,s[i]?=some c/\(Gb c=true\/(i=0/\c=45)):=by
 unfold Jr at h
 split at h
 ·rename_i h1
  cases s with
  | nil=>cases h1
  | cons x s=>
   injection h1 with h1
   subst h1
   cases i with
   | zero=>exact ⟨45,rfl,.inr ⟨rfl,rfl⟩⟩
   | succ i=>
    obtain ⟨c,h2,h3⟩:=Zrg (s:=s) (i:=i) (by simp only [List.drop_succ_cons,List.drop_zero] at h;omega)
    exact ⟨c,h2,.inl h3⟩
 ·obtain ⟨c,h2,h3⟩:=Zrg h
  exact ⟨c,h2,.inl h3⟩
theorem Xoi {s:Zd} {c:UInt8} (h:s[Jr s]?=some c):Gb c=false/\(Jr s=0->c≠45):=by
 unfold Jr at *
 split at h
 ·rename_i h1
  rw [if_pos h1]
  cases s with
  | nil=>cases h1
  | cons x s=>
   simp only [List.drop_succ_cons,List.drop_zero] at h ⊢
   rw [Nat.add_comm,List.getElem?_cons_succ] at h
   exact ⟨Zrs h,fun h=>absurd h (by omega)⟩
 ·rename_i h1
  rw [if_neg h1]
  refine ⟨Zrs h,fun h2=>?_⟩
  rw [h2] at h
  rintro rfl
  exact h1 (by rw [List.head?_eq_getElem?];exact h)
theorem Zw0 {c:UInt8}:Gb c=true↔48<=c.toNat/\c.toNat<=57:=by unfold Gb;simp
theorem Xxf {c:UInt8}:Gb c=false↔¬(48<=c.toNat/\c.toNat<=57):=by rw [<- Zw0];simp
theorem Yj4:qs []=none:=rfl
theorem Xkm:qs [92]=none:=rfl
theorem Xny (x:UInt8) (r:Zd):qs (92::x::r)=(qs r).map (·+2):=rfl
theorem Wl0 (r:Zd):qs (34::r)=some 1:=by rw [qs.eq_def];rfl
theorem Ywj {c:UInt8} (h1:¬c=92) (h2:¬c=34) (r:Zd):qs (c::r)=(qs r).map (·+1):=by
 rw [qs.eq_def]
 simp only [if_neg h1,if_neg h2]
theorem Yks {c:UInt8}:c=45↔c.toNat=45:=⟨fun h=>by rw [h];rfl,fun h=>Do h⟩
section
variable {PG:Za} (H:Has38 PG)
include H
theorem Uv (p s:Zd):Yt PG 128 (Bx [.s s]) [.s p] (fun r=>r=.b (Zp p s).2) (Bx [.s (Zp p s).1]):=by
 refine (Xqz H.f128 (what1:=p) (mP:=⟨s⟩) (K:=fun r b=>r=(Zp p s).2/\b=⟨(Zp p s).1⟩) ?_).to (b:=⟨(Zp p s).1⟩) fun r b' hk=>?_
 ·unfold Zml
  exact ⟨_,_,Fx H.toHas03 s p,rfl,rfl⟩
 ·obtain ⟨x0,h1,rfl,rfl⟩:=hk
  exact ⟨h1,rfl⟩
theorem Zyz {s:Zd} (hs:s.length<=1000000000):Yt PG 131 (Bx [.s s]) [] (fun r=>r=.tup [.i .i64 (Ku s).1,.b (Ku s).2.1]) (Bx [.s (Ku s).2.2]):=by
 refine (Xjw H.f131 (mP:=⟨s⟩) (K:=fun x y b=>x=(Ku s).1/\y=(Ku s).2.1/\b=⟨(Ku s).2.2⟩) ?_).to (b:=⟨(Ku s).2.2⟩) fun r b' hk=>?_
 ·unfold Ztx Zqd
  intro P hP
  have hle:=Xjj s
  refine Xge (P:=fun i=>P i ⟨s⟩) (Jr s) ?_ fun i hi ih=>?_
  ·apply hP
   unfold Zhq
   have fin:0<=((Jr s:Nat):Int)/\((Jr s:Nat):Int).toNat<=s.length/\∃r:Int,∃r':Int,Zf PG 21 [.s (s.take ((Jr s:Nat):Int).toNat)] (.tup [.i .i64 r,.i .i64 r'])/\0<=((Jr s:Nat):Int)/\((Jr s:Nat):Int).toNat<=s.length/\r=(Ku s).1/\(decide (r'=0))=(Ku s).2.1/\Sc.mk (s.drop ((Jr s:Nat):Int).toNat)=⟨(Ku s).2.2⟩:=by
    rw [Gd]
    exact ⟨by omega,hle,_,_,c21 H.toHas03 _,by omega,hle,rfl,rfl,rfl⟩
   refine ⟨fun h=>?_,fun _=>fin⟩
   have hlt:Jr s<s.length:=by simp only at h;omega
   obtain ⟨h1,h2⟩:=Xoi (List.getElem?_eq_getElem hlt)
   have h1:=Xxf.1 h1
   have h2:Jr s=0->¬(s[Jr s].toNat=45):=fun h=>fun h'=>h2 h (Yks.2 h')
   refine ⟨by omega,s[Jr s],Xb hlt,fun h3=>⟨by omega,s[Jr s],Xb hlt,fun h4=>absurd ⟨by omega,by omega⟩ h1,fun h4=>⟨fun h5=>⟨by omega,s[Jr s],Xb hlt,fun h6=>absurd (show s[Jr s].toNat=45 by omega) (h2 (by omega)),fun _=>fin⟩,fun _=>fin⟩⟩,
    fun h3=>⟨fun h5=>⟨by omega,s[Jr s],Xb hlt,fun h6=>absurd (show s[Jr s].toNat=45 by omega) (h2 (by omega)),fun _=>fin⟩,fun _=>fin⟩⟩
  ·apply hP
   obtain ⟨c,hc,hd⟩:=Ywp hi
   have hc':s[((i:Nat):Int).toNat]?=some c:=hc
   rw [Zw0,Yks] at hd
   have ih':P (IntKind.i64.wrap ((i:Int)+1)) ⟨s⟩:=by rw [My (by omega)];exact ih
   unfold Zhq
   refine ⟨fun _=>⟨by omega,c,hc',fun h3=>⟨by omega,c,hc',fun _=>ih',fun h4=>⟨fun h5=>⟨by omega,c,hc',fun _=>ih',fun h6=>absurd h6 (by omega)⟩,fun h5=>absurd h5 (by omega)⟩⟩,
    fun h3=>⟨fun h5=>⟨by omega,c,hc',fun _=>ih',fun h6=>absurd h6 (by omega)⟩,fun h5=>absurd h5 (by omega)⟩⟩,fun h=>absurd (show (i:Int)<s.length by omega) h⟩
 ·obtain ⟨x0,x1,h1,rfl,rfl,rfl⟩:=hk
  exact ⟨h1,rfl⟩
theorem Yu2 {s:Zd} (hs:s.length<=1000000000):Yt PG 130 (Bx [.s s]) [] (fun r=>r=.tup [.s (Gv s).1,.b (Gv s).2.1]) (Bx [.s (Gv s).2.2]):=by
 refine (Xw6 H.f130 (mP:=⟨s⟩) (K:=fun x y b=>x=(Gv s).1/\y=(Gv s).2.1/\b=⟨(Gv s).2.2⟩) ?_).to (b:=⟨(Gv s).2.2⟩) fun r b' hk=>?_
 ·unfold Zn3 Zuh
  intro P hP
  have go :∀m i:Nat,s.length<=i+m->i<=s.length+1->1<=i->qs (s.drop 1)=(qs (s.drop i)).map (·+(i-1))->P (i:Int) ⟨s⟩:=by
   intro m
   induction m using Nat.strongRecOn with
   | _ m ih=>
   intro i hm hi h1 hq
   apply hP
   unfold Zr0
   refine ⟨fun h=>?_,fun h=>?_⟩
   ·have:s.drop i=[]:=List.drop_eq_nil_of_le (by simp only at h;omega)
    rw [this,Yj4,Option.map_none] at hq
    unfold Gv
    rw [hq]
    exact ⟨rfl,rfl,rfl⟩
   ·have hlt:i<s.length:=by simp only at h;omega
    have hd:s.drop i=s[i]::s.drop (i+1):=List.drop_eq_getElem_cons hlt
    refine ⟨by omega,s[i],Xb hlt,fun h2=>?_,fun h2=>⟨by omega,s[i],Xb hlt,fun h3=>?_,fun h3=>?_⟩⟩
    ·rw [Yv (by omega) (by omega),show (i:Int)+2=((i+2:Nat):Int) by omega]
     have hc:s[i]=92:=Do (by show s[i].toNat=92;omega)
     rw [hd,hc] at hq
     by_cases hl:i+1<s.length
     ·have hd2:s.drop (i+1)=s[i+1]::s.drop (i+2):=List.drop_eq_getElem_cons hl
      refine ih (m-2) (by omega) (i+2) (by omega) (by omega) (by omega) ?_
      rw [hd2,Xny,Option.map_map] at hq
      rw [hq]
      congr 1
      funext x
      simp only [Function.comp]
      omega
     ·have hd2:s.drop (i+1)=[]:=List.drop_eq_nil_of_le (by omega)
      refine ih (m-1) (by omega) (i+2) (by omega) (by omega) (by omega) ?_
      rw [hd2,Xkm] at hq
      rw [hq,List.drop_eq_nil_of_le (show s.length<=i+2 by omega),Yj4]
      rfl
    ·rw [My (by omega)]
     have hc:¬s[i]=92:=fun e=>h2 (by rw [e];rfl)
     have hc':¬s[i]=34:=fun e=>h3 (by rw [e];rfl)
     rw [hd,Ywj hc hc',Option.map_map] at hq
     refine ih (m-1) (by omega) (i+1) (by omega) (by omega) (by omega) ?_
     rw [hq]
     congr 1
     funext x
     simp only [Function.comp]
     omega
    ·rw [My (by omega),Gd]
     have hc:s[i]=34:=Do (by show s[i].toNat=34;simp only [ne_eq,Decidable.not_not] at h3;omega)
     rw [hd,hc,Wl0,Option.map_some] at hq
     have e:1+(i-1)+1=i+1:=by omega
     refine ⟨by omega,by show i+1<=s.length;omega,_,_,c25 H.toHas03 _,by omega,by show i+1<=s.length;omega,?_⟩
     unfold Gv
     rw [hq]
     simp [e]
  exact go s.length 1 (by omega) (by omega) (by omega) (by simp)
 ·obtain ⟨x0,x1,h1,rfl,rfl,rfl⟩:=hk
  exact ⟨h1,rfl⟩
end
end Go.AM

/- Yg of the proof. -/
namespace Go.AM
open Go
theorem Ylj (s:Zd):(Ku s).2.2.length<=s.length:=by unfold Ku;simp
theorem Xa8 (s:Zd):(Gv s).2.2.length<=s.length:=by
 unfold Gv
 split<;>simp
theorem Kl (p s:Zd):(Zp p s).1.length<=s.length:=by
 unfold Zp
 split<;>simp
section
variable {f:Zd->Zb × Bool × Zd}
theorem Ydk {kind:Int} {stop:Zd} (hf :∀s,(f s).2.2.length<=s.length) :∀(n:Nat) (acc:List Zb) (s:Zd),(Ha f kind stop n acc s).2.2.length<=s.length
 | 0,acc,s=>Nat.le_refl _
 | n+1,acc,s=>by
  have h1:=hf s
  have h2:=Kl stop (f s).2.2
  have h3:=Kl [44,32] (Zp stop (f s).2.2).1
  rw [Ha]
  split
  ·exact h1
  ·split
   ·exact Nat.le_trans h2 h1
   ·split
    ·exact Nat.le_trans h3 (Nat.le_trans h2 h1)
    ·exact Nat.le_trans (Ydk hf n _ _) (Nat.le_trans h3 (Nat.le_trans h2 h1))
theorem Zu7 {kind:Int} {stop s:Zd} (hf :∀s,(f s).2.2.length<=s.length):(Uk f kind stop s).2.2.length<=s.length:=by
 unfold Uk
 split
 ·exact Kl _ _
 ·exact Nat.le_trans (Ydk hf 17 [] _) (Kl _ _)
theorem Bf {c:Prop} [Decidable c] {a b:Zb × Bool × Zd} {n:Nat} (ha:a.2.2.length<=n) (hb:b.2.2.length<=n):(if c then a else b).2.2.length<=n:=by
 split
 ·exact ha
 ·exact hb
theorem Zhj :∀(d:Nat) (s:Zd),(Jk d s).2.2.length<=s.length
 | 0,s=>Nat.le_refl _
 | d+1,s=>by
  have ih:=Zhj d
  rw [Jk]
  exact Bf (Nat.le_refl _) (Bf (Kl _ _) (Bf (Kl _ _) (Bf (Kl _ _) (Bf (Kl _ _) (Bf (Kl _ _) (Bf (Nat.le_trans (ih _) (Kl _ _)) (Bf (Nat.le_trans (Zu7 ih) (Kl _ _))
   (Bf (Nat.le_trans (Zu7 ih) (Kl _ _)) (Bf (Nat.le_trans (Zu7 ih) (Kl _ _)) (Bf (Xa8 _) (Ylj _)))))))))))
end
section
variable {PG:Za} (H:Has38 PG)
include H
abbrev ScR (r:Zb × Bool × Zd):AV->Prop:=fun x=>∃o:Zn,x=.tup [.ag [.i .u8 r.1.kind,.i .i64 r.1.int,.s r.1.text,.sl o (List.map Zb.row r.1.list),.b r.1.cut],.b r.2.1]
theorem Zk1 {f:Zd->Zb × Bool × Zd} {d:Nat} (hf :∀s,(f s).2.2.length<=s.length) (hc :∀s:Zd,s.length<=1000000000->Yt PG 107 (Bx [.s s]) [.i .i64 (d:Int)] (ScR (f s)) (Bx [.s (f s).2.2])) {kind:Int} {stop s:Zd} (hs:s.length<=1000000000) :
  Yt PG 129 (Bx [.s s]) [.i .u8 kind,.s stop,.i .i64 (d:Int)] (ScR (Uk f kind stop s)) (Bx [.s (Uk f kind stop s).2.2]):=by
 refine (Wod H.f129 (kind1:=kind) (end2:=stop) (nest3:=(d:Int)) (mP:=⟨s⟩) (K:=fun x y b=>x=(Uk f kind stop s).1/\y=(Uk f kind stop s).2.1/\b=⟨(Uk f kind stop s).2.2⟩) ?_).to (b:=⟨(Uk f kind stop s).2.2⟩) fun r b' hk=>?_
 ·unfold Zp2
  refine ⟨_,⟨(Zp stop s).1⟩,Uv H stop s,fun h=>?_,fun h P hP=>?_⟩
  ·unfold Uk
   rw [if_pos h]
   exact ⟨rfl,rfl,rfl⟩
  ·have e:Uk f kind stop s=Ha f kind stop 17 [] (Zp stop s).1:=by unfold Uk;rw [if_neg (by rw [h];decide)]
   have hl:=Kl stop s
   generalize (Zp stop s).1=t at hl e ⊢
   have go :∀(n:Nat) (acc:List Zb) (u:Zd),acc.length+n=17->u.length<=t.length->Ha f kind stop 17 [] t=Ha f kind stop n acc u->P (Zb.mk 0 0 [] [] false) (Zb.mk kind 0 [] acc false) ⟨u⟩:=by
    intro n
    induction n with
    | zero=>
     intro acc u ha hu hq
     apply hP
     rw [e,hq]
     unfold Zby Zp5
     refine ⟨fun h=>absurd h (by simp only [Zb.list_mk];omega),fun _=>⟨rfl,rfl,rfl⟩⟩
    | succ n ih=>
     intro acc u ha hu hq
     apply hP
     rw [e,hq,Ha]
     have h1:=hf u
     have h2:=Kl stop (f u).2.2
     have h3:=Kl [44,32] (Zp stop (f u).2.2).1
     unfold Zby
     refine ⟨fun _=>⟨(f u).1,(f u).2.1,⟨(f u).2.2⟩,hc u (by omega),fun g1=>?_,fun g1=>⟨⟨?_,?_⟩,_,⟨(Zp stop (f u).2.2).1⟩,Uv H stop (f u).2.2,fun g2=>?_,fun g2=>⟨_,⟨(Zp [44,32] (Zp stop (f u).2.2).1).1⟩,Uv H [44,32] (Zp stop (f u).2.2).1,fun g3=>?_,fun g3=>?_⟩⟩⟩,fun h=>absurd (show (acc.length:Int)<=16 by omega) h⟩
     ·rw [if_pos (by simpa using g1)]
      exact ⟨rfl,rfl,rfl⟩
     ·simp only [Zb.list_mk,List.length_cons,List.length_nil,Wt];omega
     ·simp only [Zb.list_mk,List.length_cons,List.length_nil,Wt];omega
     ·rw [if_neg (by simpa using g1),if_pos g2]
      exact ⟨rfl,rfl,rfl⟩
     ·rw [if_neg (by simpa using g1),if_neg (by rw [g2];decide),if_pos (by simpa using g3)]
      exact ⟨rfl,rfl,rfl⟩
     ·refine ih (acc++[(f u).1]) _ (by simp;omega) (by omega) ?_
      rw [hq,Ha,if_neg (by simpa using g1),if_neg (by rw [g2];decide),if_neg (by simpa using g3)]
   exact go 17 [] t rfl (Nat.le_refl _) rfl
 ·obtain ⟨x0,x1,h1,rfl,rfl,rfl⟩:=hk
  exact ⟨h1,rfl⟩
theorem Ykp :∀(d:Nat) {s:Zd},s.length<=1000000000->d<=1000->Yt PG 107 (Bx [.s s]) [.i .i64 (d:Int)] (ScR (Jk d s)) (Bx [.s (Jk d s).2.2])
 | 0,s,hs,hd=>by
  refine (Yiv H.f107 (nest1:=((0:Nat):Int)) (mP:=⟨s⟩) (K:=fun x y b=>x=(Jk 0 s).1/\y=(Jk 0 s).2.1/\b=⟨(Jk 0 s).2.2⟩) ?_).to (b:=⟨(Jk 0 s).2.2⟩) fun r b' hk=>?_
  ·unfold Zd2 Zce
   exact ⟨fun _=>⟨rfl,rfl,rfl⟩,fun h=>absurd rfl h⟩
  ·obtain ⟨x0,x1,h1,rfl,rfl,rfl⟩:=hk
   exact ⟨h1,rfl⟩
 | d+1,s,hs,hd=>by
  have ih:=fun s hs=>@Ykp d s hs (by omega)
  have hm:IntKind.i64.wrap (((d+1:Nat):Int)-1)=(d:Int):=by rw [Yv (by omega) (by omega)];omega
  refine (Yiv H.f107 (nest1:=((d+1:Nat):Int)) (mP:=⟨s⟩) (K:=fun x y b=>x=(Jk (d+1) s).1/\y=(Jk (d+1) s).2.1/\b=⟨(Jk (d+1) s).2.2⟩) ?_).to (b:=⟨(Jk (d+1) s).2.2⟩) fun r b' hk=>?_
  ·have e:=Jk.eq_2 s d
   unfold Zd2 Zce
   refine ⟨fun h=>absurd h (by omega),fun _=>⟨fun h=>?_,fun h0=>?_⟩⟩
   ·rw [e,if_pos h];exact ⟨rfl,rfl,rfl⟩
   rw [if_neg h0] at e
   unfold Zlj
   refine ⟨_,⟨(Zp Qz s).1⟩,Uv H Qz s,?_⟩
   unfold Zrk
   refine ⟨fun h=>?_,fun h=>?_⟩
   ·rw [e,if_pos h];exact ⟨rfl,rfl,rfl⟩
   rw [if_neg (by rw [h];decide)] at e
   rw [Nf h]
   refine ⟨_,⟨(Zp Qg s).1⟩,Uv H Qg s,?_⟩
   clear h
   unfold Zua
   refine ⟨fun h=>?_,fun h=>?_⟩
   ·rw [e,if_pos h];exact ⟨rfl,rfl,rfl⟩
   rw [if_neg (by rw [h];decide)] at e
   rw [Nf h]
   refine ⟨_,⟨(Zp Qy s).1⟩,Uv H Qy s,?_⟩
   clear h
   unfold Zj3
   refine ⟨fun h=>?_,fun h=>?_⟩
   ·rw [e,if_pos h];exact ⟨rfl,rfl,rfl⟩
   rw [if_neg (by rw [h];decide)] at e
   rw [Nf h]
   refine ⟨_,⟨(Zp Qw s).1⟩,Uv H Qw s,?_⟩
   clear h
   unfold Zvm
   refine ⟨fun h=>?_,fun h=>?_⟩
   ·rw [e,if_pos h];exact ⟨rfl,rfl,rfl⟩
   rw [if_neg (by rw [h];decide)] at e
   rw [Nf h]
   refine ⟨_,⟨(Zp Uu s).1⟩,Uv H Uu s,?_⟩
   clear h
   unfold Zkm
   refine ⟨fun h=>?_,fun h=>?_⟩
   ·rw [e,if_pos h];exact ⟨rfl,rfl,rfl⟩
   rw [if_neg (by rw [h];decide)] at e
   rw [Nf h]
   refine ⟨_,⟨(Zp [38] s).1⟩,Uv H [38] s,?_⟩
   clear h
   unfold Zmv
   rw [hm]
   have l1:=Kl [38] s
   refine ⟨fun h=>⟨_,_,⟨_⟩,ih _ (Nat.le_trans l1 hs),?_⟩,fun h=>?_⟩
   ·rw [e,if_pos h];exact ⟨rfl,rfl,rfl⟩
   rw [if_neg (by rw [h];decide)] at e
   rw [Nf h]
   have l1:=Kl [123] s
   refine ⟨_,⟨(Zp [123] s).1⟩,Uv H [123] s,fun h=>⟨_,_,⟨_⟩,Zk1 H (Zhj d) ih (Nat.le_trans l1 hs),?_⟩,fun h=>?_⟩
   ·rw [e,if_pos h];exact ⟨rfl,rfl,rfl⟩
   rw [if_neg (by rw [h];decide)] at e
   rw [Nf h]
   have l1:=Kl [91] s
   refine ⟨_,⟨(Zp [91] s).1⟩,Uv H [91] s,fun h=>⟨_,_,⟨_⟩,Zk1 H (Zhj d) ih (Nat.le_trans l1 hs),?_⟩,fun h=>?_⟩
   ·rw [e,if_pos h];exact ⟨rfl,rfl,rfl⟩
   rw [if_neg (by rw [h];decide)] at e
   rw [Nf h]
   have l1:=Kl [60] s
   refine ⟨_,⟨(Zp [60] s).1⟩,Uv H [60] s,fun h=>⟨_,_,⟨_⟩,Zk1 H (Zhj d) ih (Nat.le_trans l1 hs),?_⟩,fun h=>?_⟩
   ·rw [e,if_pos h];exact ⟨rfl,rfl,rfl⟩
   rw [if_neg (by rw [h];decide)] at e
   rw [Nf h]
   cases s with
   | nil=>exact absurd rfl h0
   | cons c s=>
    refine ⟨c,rfl,fun h=>⟨_,_,⟨_⟩,Yu2 H hs,?_⟩,fun h=>⟨_,_,⟨_⟩,Zyz H hs,?_⟩⟩
    ·have hc:c=34:=Do (by show c.toNat=34;omega)
     subst hc
     rw [e,List.head?_cons,if_pos rfl];exact ⟨rfl,rfl,rfl⟩
    ·rw [e,if_neg (by rw [List.head?_cons];intro he;injection he with he;exact h (by rw [he];rfl))];exact ⟨rfl,rfl,rfl⟩
  ·obtain ⟨x0,x1,h1,rfl,rfl,rfl⟩:=hk
   exact ⟨h1,rfl⟩
omit H in
theorem Gr {v:Zb}:Hg v=0↔Va v=true:=by
 unfold Hg
 by_cases h:Va v=true
 ·rw [if_pos h];simp [h]
 ·rw [if_neg h];simp [h]
theorem c74 {s:Zd} (hs:s.length<=1000000000):Zf PG 74 [.s s] (.tup [(Jt s).1.av,.i .i64 (Jt s).2]):=by
 obtain ⟨x,y,⟨rfl,rfl⟩,h⟩:=p74 H.f74 (s0:=s) (K:=fun x y=>x=(Jt s).1/\y=(Jt s).2) (by
  unfold Ztr Jt
  refine ⟨fun h=>?_,fun h=>⟨_,_,⟨_⟩,Ykp H 130 hs (by decide),fun h1=>?_,fun h1=>⟨fun h2=>?_,fun h2=>⟨_,_,c72 H (Cv _ _),fun h3=>?_,fun h3=>⟨fun h4=>?_,fun h4=>?_⟩⟩⟩⟩⟩
  ·rw [if_pos (by omega)];exact ⟨rfl,rfl⟩
  ·rw [if_neg (by omega),if_neg (by rintro ⟨h,_⟩;rw [h] at h1;cases h1)];exact ⟨rfl,rfl⟩
  ·rw [if_neg (by omega),if_neg (by rintro ⟨_,h,_⟩;exact h2 h)];exact ⟨rfl,rfl⟩
  ·rw [if_neg (by omega),if_neg (by rintro ⟨_,_,h,_⟩;exact h3 (Gr.2 h))];exact ⟨rfl,rfl⟩
  ·rw [if_neg (by omega),if_neg];· exact ⟨rfl,rfl⟩
   rintro ⟨_,_,h5,h6⟩
   rw [if_pos h5] at h4
   exact h4 h6
  ·have h5:=Gr.1 (Decidable.not_not.1 h3)
   rw [if_pos h5] at h4
   rw [if_neg (by omega),if_pos ⟨by simpa using h1,Decidable.not_not.1 h2,h5,Decidable.not_not.1 h4⟩]
   exact ⟨rfl,rfl⟩)
 exact h
end
end Go.AM

/- Yg of the proof. -/
namespace Go.AM
open Go
section
variable {PG:Za} (H:Has38 PG)
include H
theorem c78 {a:Zb} (hw:Wf a) :∀b:Zb,Zf PG 78 [a.av,b.av] (.b (Rg a b)):=by
 induction hw with
 | @mk k n s l c hk hn hl _ ih=>
  intro b
  obtain ⟨x,rfl,h⟩:=p78 H.f78 (a0:=Zb.mk k n s l c) (b1:=b) (K:=fun x=>x=Rg (Zb.mk k n s l c) b) (by
   have no :∀{p:Prop},(Zb.mk k n s l c=b->p)->¬p->false=Rg (Zb.mk k n s l c) b:=fun h1 h2=>(Ec.2 fun h=>h2 (h1 h)).symm
   unfold Zoh
   refine ⟨fun h=>no (fun e=>by rw [<- e]) h,fun h1=>⟨fun h=>no (fun e=>by rw [<- e]) h,fun h2=>⟨fun h=>no (fun e=>by rw [<- e]) h,fun h3=>⟨fun h=>no (fun e=>by rw [<- e]) h,fun h4=>⟨fun h=>no (fun e=>by rw [<- e]) h,fun h5 P hP=>?_⟩⟩⟩⟩⟩
   have h1:=Decidable.not_not.1 h1
   have h2:=Decidable.not_not.1 h2
   have h3:=Decidable.not_not.1 h3
   have h4:=Decidable.not_not.1 h4
   have h5:l.length=b.list.length:=by have:=Decidable.not_not.1 h5;simp only [Zb.list_mk] at this;omega
   refine Mu (P:=fun _ i=>P i (Zb.mk k n s l c) b) (fun _=>()) l.length (fun i=>l.take i=b.list.take i) (by simp) (fun hI=>?_) (fun i hi hI ihP=>?_)
   ·apply hP
    unfold Zcz Zrz
    refine ⟨fun h=>absurd h (by simp only [Zb.list_mk];omega),fun _=>(Ri.2 ?_).symm⟩
    rw [List.take_length,h5,List.take_length] at hI
    rw [b.eta,<- h1,<- h2,<- h3,<- h4,hI]
    rfl
   ·apply hP
    have hi2:i<b.list.length:=by omega
    unfold Zcz
    refine ⟨fun _=>⟨by omega,l[i],Xb (l:=l) hi,by omega,b.list[i],Xb hi2,_,ih _ (List.getElem_mem hi) _,fun h6=>?_,fun h6=>?_⟩,fun h=>absurd (show (i:Int)<l.length by omega) h⟩
    ·refine no (p:=l[i]=b.list[i]) (fun e=>?_) (Ec.1 (by simpa using h6))
     subst e
     rfl
    ·rw [Yv (by omega) (by omega)]
     refine ihP ?_
     have h7:l[i]=b.list[i]:=Ri.1 (by simpa using h6)
     rw [List.take_succ_eq_append_getElem hi,List.take_succ_eq_append_getElem hi2,hI,h7])
  exact h
end
end Go.AM

/- Yg of the proof. -/
namespace Go.AM
open Go
structure HasO (PG:Za):Prop extends Has38 PG where
 f154:PG.fn 154=some Zfi
 f158:PG.fn 158=some Zbu
 f159:PG.fn 159=some Zcl
 f178:PG.fn 178=some Zay
 f180:PG.fn 180=some Zde
 f183:PG.fn 183=some Iw
 f190:PG.fn 190=some Zdf
 f191:PG.fn 191=some Zhm
def Zfq:List Zd:=[[],Tb,Tf,Tq]
def Ib:List UInt8:=[0,2,1,3,2]
theorem Yn9 {t:Int} (h:0<=t) (h4:¬t>4) :∃c:UInt8,Ib[t.toNat]?=some c/\((c.toNat:Nat):Int)=Bc t:=by
 rcases (show t=0\/t=1\/t=2\/t=3\/t=4 by omega) with rfl | rfl | rfl | rfl | rfl
 ·exact ⟨0,rfl,rfl⟩
 ·exact ⟨2,rfl,rfl⟩
 ·exact ⟨1,rfl,rfl⟩
 ·exact ⟨3,rfl,rfl⟩
 ·exact ⟨2,rfl,rfl⟩
theorem Wi6 {n:Int} (h:1<=n) (h3:n<=3):Zfq[n.toNat]?=some (Zad n):=by
 rcases (show n=1\/n=2\/n=3 by omega) with rfl | rfl | rfl<;>rfl
theorem Zy2 {p:Zh} (h:p.tag>4):Xu p=false:=by unfold Xu;rw [decide_eq_false (by omega)];rfl
theorem Yar {p:Zh} (h:p.value.kind≠Bc p.tag):Xu p=false:=by unfold Xu;rw [decide_eq_false h];simp
theorem Zwa {p:Zh} (h:p.tag=0) (hk:p.value.kind=Bc p.tag):Xu p=(Gw p.value&&decide (p.flags=2\/p.flags=6)):=by
 unfold Xu;rw [decide_eq_true hk,decide_eq_true (by omega),if_pos h];rfl
theorem Yrk {p:Zh} (h4:¬p.tag>4) (h:p.tag≠0) (hk:p.value.kind=Bc p.tag):Xu p=(decide (p.flags=0\/p.flags=1\/p.flags=4\/p.flags=5)&&decide (p.tag=4->1<=p.value.int/\p.value.int<=3)&&Va p.value):=by
 unfold Xu;rw [decide_eq_true hk,decide_eq_true (by omega),if_neg h];rfl
theorem Dx {p:Zh} (h:Xu p=false):Ge p=8:=by unfold Ge;rw [h];rfl
theorem Zzq {p:Zh} (h:Xu p=true):Ge p=0:=by unfold Ge;rw [h];rfl
theorem Pv {p:Zh}:Ge p=0↔Xu p=true:=by unfold Ge;split<;>simp_all
section
variable {PG:Za} (H:HasO PG)
include H
theorem Zyb:Zf PG 178 [] (.ag (Zfq.map AV.s)):=by
 obtain ⟨x,rfl,h⟩:=Wd1 H.f178 (K:=fun x=>x=Zfq) rfl
 exact h
theorem Yop:Zf PG 183 [] (.ag (Ib.map c8)):=by
 obtain ⟨x,rfl,h⟩:=Wk3 H.f183 (K:=fun x=>x=Ib) rfl
 exact h
theorem Wbz {s p:Zd} (hs:s.length<=1000000000):Zf PG 191 [.s s,.s p] (.b (Xv p s).2):=by
 obtain ⟨x,rfl,h⟩:=Wae H.f191 (s0:=s) (suffix1:=p) (K:=fun x=>x=(Xv p s).2) (by
  unfold Zu8 Xv
  refine ⟨fun h=>?_,fun h=>?_⟩
  ·rw [Yv (by omega) (by omega),show ((s.length:Int)-(p.length:Int)).toNat=s.length-p.length by omega]
   refine ⟨by omega,by omega,?_⟩
   by_cases h1:s.drop (s.length-p.length)=p
   ·rw [decide_eq_true h1,if_pos ⟨by omega,h1⟩]
   ·rw [decide_eq_false h1,if_neg fun h2=>h1 h2.2]
  ·rw [if_neg fun h2=>h (by omega)])
 exact h
theorem Xqf {s p:Zd} (hs:s.length<=1000000000):Zf PG 190 [.s s,.s p] (.tup [.s (Xv p s).1,.b (Xv p s).2]):=by
 obtain ⟨x,y,⟨rfl,rfl⟩,h⟩:=Xaz H.f190 (s0:=s) (suffix1:=p) (K:=fun x y=>x=(Xv p s).1/\y=(Xv p s).2) (by
  unfold Zlt
  refine ⟨_,Wbz H hs,fun h=>?_,fun h=>?_⟩
  ·have h:(Xv p s).2=false:=by simpa using h
   exact ⟨(Ztb h).symm,h.symm⟩
  ·have h:(Xv p s).2=true:=by simpa using h
   have hl:p.length<=s.length:=by have:=congrArg List.length (Zs8 h);rw [List.length_append] at this;omega
   rw [Yv (by omega) (by omega),show ((s.length:Int)-(p.length:Int)).toNat=s.length-p.length by omega]
   refine ⟨by omega,by omega,?_,h.symm⟩
   unfold Xv at h ⊢
   split
   ·rfl
   ·rename_i h1;rw [if_neg h1] at h;cases h)
 exact h
theorem Yoq {s p:Zd} (hs:s.length<=1000000000):Zf PG 180 [.s s,.s p] (.tup [.s (Xv p s).1,.b (Xv p s).2]):=by
 obtain ⟨x,y,⟨rfl,rfl⟩,h⟩:=Ysm H.f180 (s0:=s) (suffix1:=p) (K:=fun x y=>x=(Xv p s).1/\y=(Xv p s).2) (by
  unfold Zjj
  exact ⟨_,_,Xqf H hs,rfl,rfl⟩)
 exact h
theorem Zk8 {p:Zh} (hp:Dg p):Zf PG 158 [p.av] (.i .i64 (Ge p)):=by
 obtain ⟨x,rfl,h⟩:=Wi3 H.f158 (p0:=p) (K:=fun x=>x=Ge p) (by
  unfold Zo4 Zv0
  refine ⟨fun h=>(Dx (Zy2 h)).symm,fun h4=>?_⟩
  obtain ⟨c,g1,g2⟩:=Yn9 hp.t.1 h4
  refine ⟨_,Yop H,rfl,hp.t.1,c,g1,fun h=>(Dx (Yar (by rw [<- g2];exact h))).symm,fun h=>?_⟩
  have hk:p.value.kind=Bc p.tag:=by rw [<- g2];exact Decidable.not_not.1 h
  unfold Zsz
  refine ⟨fun h0=>?_,fun h0=>?_⟩
  ·have e:=Zwa h0 hk
   have hk0:p.value.kind=0:=by rw [hk,h0];rfl
   have no:Gw p.value=false->8=Ge p:=fun h=>(Dx (by rw [e,h];rfl)).symm
   have nz :∀{q:Prop},(p.value=vz->q)->¬q->Gw p.value=false:=fun a b=>by rw [<- Bool.not_eq_true,Tz];exact fun h=>b (a h)
   refine ⟨fun h=>no (nz (fun e=>by rw [e];rfl) h),fun h1=>⟨fun h=>no (nz (fun e=>by rw [e];rfl) h),fun h2=>⟨fun h=>no (nz (q:=¬((p.value.list.length:Int)>0)) (fun e=>by rw [e];decide) (fun h'=>h' h)),fun h3=>⟨fun h=>no (nz (q:=p.value.cut=false) (fun e=>by rw [e];rfl) (by rw [h];decide)),fun h4=>?_⟩⟩⟩⟩
   have hz:Gw p.value=true:=by
    unfold Gw
    rw [decide_eq_true hk0,decide_eq_true (Decidable.not_not.1 h1),decide_eq_true (Decidable.not_not.1 h2),decide_eq_true (by omega),h4];rfl
   have fl:=Wta hp.f
   rw [hz,Bool.true_and] at e
   refine ⟨fun h=>(Dx (by rw [e];exact decide_eq_false fun h'=>h (fl.2 h'))).symm,fun h=>(Zzq (by rw [e];exact decide_eq_true (fl.1 (Decidable.not_not.1 h)))).symm⟩
  ·have e:=Yrk h4 h0 hk
   have fl:=Ys4 hp.f
   unfold Zp4
   refine ⟨fun h=>(Dx (by rw [e,decide_eq_false (fun h'=>h (fl.2 h'))];rfl)).symm,fun h=>?_⟩
   rw [decide_eq_true (fl.1 (Decidable.not_not.1 h)),Bool.true_and] at e
   have last:(p.tag=4->1<=p.value.int/\p.value.int<=3)->Zao PG (fun x=>x=Ge p) p:=fun hh=>by
    unfold Zao
    refine ⟨_,c76 H.toHas38 hp.v,?_⟩
    rw [decide_eq_true hh,Bool.true_and] at e
    unfold Hg Ge
    rw [e]
   refine ⟨fun h5=>⟨fun h=>(Dx (by rw [e,decide_eq_false (fun h'=>by have:=h' h5;omega)];rfl)).symm,fun h6=>⟨fun h=>(Dx (by rw [e,decide_eq_false (fun h'=>by have:=h' h5;omega)];rfl)).symm,fun h7=>last fun _=>by omega⟩⟩,fun h5=>last fun h'=>absurd h' h5⟩)
 exact h
theorem Xon {p:Zh} (hp:Dg p):Zf PG 159 [p.av] (.i .i64 (Ge p)):=by
 obtain ⟨x,rfl,h⟩:=Yxt H.f159 (p0:=p) (K:=fun x=>x=Ge p) (by
  unfold Zo8 Zpo
  refine ⟨_,Az H.toHas38 hp.v,?_⟩
  have ef:decide (Hg p.value=0)=Va p.value:=by
   cases h:Va p.value with
   | true=>exact decide_eq_true (Gr.2 h)
   | false=>exact decide_eq_false fun h'=>by rw [Gr.1 h'] at h;cases h
  rw [ef]
  unfold Zq2 Zol
  refine ⟨fun h=>(Dx (Zy2 h)).symm,fun h4=>?_⟩
  obtain ⟨c,g1,g2⟩:=Yn9 hp.t.1 h4
  refine ⟨hp.t.1,c,g1,fun h=>(Dx (Yar (by rw [<- g2];exact h))).symm,fun h=>?_⟩
  have hk:p.value.kind=Bc p.tag:=by rw [<- g2];exact Decidable.not_not.1 h
  have t6 :∀b:Bool,Xu p=b->Tr PG (fun x=>x=Ge p) b:=fun b hb=>by
   unfold Tr
   cases b with
   | true=>exact ⟨fun h=>(by cases h),fun _=>(Zzq hb).symm⟩
   | false=>exact ⟨fun _=>(Dx hb).symm,fun h=>(by cases h)⟩
  have t5 :∀b:Bool,(Xu p=(b&&decide (p.tag=4->1<=p.value.int/\p.value.int<=3)))->Bq PG (fun x=>x=Ge p) b p:=fun b hb=>by
   unfold Bq
   refine ⟨fun h=>⟨fun h1=>⟨fun h2=>t6 _ ?_,fun h2=>t6 _ ?_⟩,fun h1=>t6 _ (by rw [hb,h1];rfl)⟩,fun h=>t6 _ ?_⟩
   ·rw [hb,h1,Bool.true_and];exact decide_eq_decide.2 ⟨fun h3=>(h3 h).2,fun h3 _=>⟨h2,h3⟩⟩
   ·rw [hb,decide_eq_false (fun h3=>h2 (h3 h).1),Bool.and_false]
   ·rw [hb,decide_eq_true fun h3=>absurd h3 h,Bool.and_true]
  unfold Zt6
  refine ⟨fun h0=>?_,fun h0=>?_⟩
  ·have e:=Zwa h0 hk
   have e5:decide (p.tag=4->1<=p.value.int/\p.value.int<=3)=true:=decide_eq_true fun h=>by omega
   refine ⟨_,c78 H.toHas38 hp.v vz,fun h=>?_,fun h=>t5 _ ?_⟩
   ·have hz:Gw p.value=true:=Tz.2 (Ri.1 h)
    rw [hz,Bool.true_and] at e
    refine ⟨fun h1=>t5 _ ?_,fun h1=>t5 _ ?_⟩
    ·rw [e,e5,decide_eq_true (.inl h1)];rfl
    ·rw [e,e5,Bool.and_true];exact decide_eq_decide.2 ⟨fun h=>h.resolve_left h1,.inr⟩
   ·have hz:Gw p.value=false:=by rw [<- Bool.not_eq_true,Tz];exact Ec.1 h
    rw [e,hz];rfl
  ·have e:=Yrk h4 h0 hk
   refine ⟨fun hf=>?_,fun hf=>t5 _ (by rw [e,hf];simp)⟩
   rw [hf,Bool.and_true] at e
   refine ⟨fun h1=>t5 _ ?_,fun h1=>⟨fun h2=>t5 _ ?_,fun h2=>⟨fun h3=>t5 _ ?_,fun h3=>t5 _ ?_⟩⟩⟩
   ·rw [e,decide_eq_true (.inl h1)]
   ·rw [e,decide_eq_true (.inr (.inl h2))]
   ·rw [e,decide_eq_true (.inr (.inr (.inl h3)))]
   ·rw [e];congr 1;exact decide_eq_decide.2 ⟨fun h=>by omega,fun h=>by omega⟩)
 exact h
omit H in
theorem Wm5 {f:Int} (h:f=0\/f=1\/f=2\/f=4\/f=5\/f=6):(Gl .u64 f 1≠0↔f % 2=1)/\(Gl .u64 f 4≠0↔4<=f)/\(f.tmod 2=1↔f % 2=1):=by
 rcases h with rfl | rfl | rfl | rfl | rfl | rfl<;>decide
omit H in
theorem Xc5 {p:Zh} (h:Xu p=true):p.flags=0\/p.flags=1\/p.flags=2\/p.flags=4\/p.flags=5\/p.flags=6:=by rcases Cp h with ⟨_,_,h⟩ | ⟨_,_,h⟩<;>omega
omit H in
theorem Yff {p:Zh} (h:Xu p=true) (h4:p.tag=4):1<=p.value.int/\p.value.int<=3:=by
 unfold Xu at h
 simp only [Bool.and_eq_true,decide_eq_true_eq] at h
 have h3:=h.2
 rw [if_neg (by omega)] at h3
 simp only [Bool.and_eq_true,decide_eq_true_eq] at h3
 exact h3.1.2 h4
omit H in
theorem Xrs {p:Zh} {b:Zd} (hb:b=Vu p):Jb p=(b++(if p.flags % 2=1 then Kj else []))++(if 4<=p.flags then Ji else []):=by
 rw [hb,Jb,Ss,List.append_assoc]
theorem Yfz {p:Zh} (hp:Dg p):Zf PG 154 [p.av] (.tup [.s (Mx p).1,.i .i64 (Mx p).2]):=by
 obtain ⟨x,y,⟨rfl,rfl⟩,h⟩:=Xu7 H.f154 (p0:=p) (K:=fun x y=>x=(Mx p).1/\y=(Mx p).2) (by
  unfold Zjx
  refine ⟨_,Zk8 H hp,fun h=>?_,fun h=>?_⟩
  ·have h1:Xu p≠true:=fun h'=>h (Pv.2 h')
   unfold Mx Ge;rw [if_neg h1,if_neg h1];exact ⟨rfl,rfl⟩
  ·have ho:=Pv.1 (Decidable.not_not.1 h)
   have hl:=Zij ho
   obtain ⟨a1,a2,a3⟩:=Wm5 (Xc5 ho)
   unfold Mx;rw [if_pos ho]
   have t1 :∀b,b=Vu p->Ph PG (fun x y=>x=(Jb p,(0:Int)).1/\y=(Jb p,(0:Int)).2) b p:=fun b hb=>by
    have e:=Xrs hb
    have hl:b.length<=400:=by rw [e,List.length_append,List.length_append] at hl;omega
    unfold Ph Zcb Zek
    simp only [List.length_append,List.length_cons,List.length_nil,Uq]
    refine ⟨fun h1=>⟨by omega,fun h2=>⟨by omega,?_,trivial⟩,fun h2=>⟨?_,trivial⟩⟩,fun h1=>⟨fun h2=>⟨by omega,?_,trivial⟩,fun h2=>⟨?_,trivial⟩⟩⟩
    ·rw [e,if_pos (a1.1 h1),if_pos (a2.1 h2)];rfl
    ·rw [e,if_pos (a1.1 h1),if_neg fun h=>h2 (a2.2 h),List.append_nil];rfl
    ·rw [e,if_neg fun h=>h1 (a1.2 h),if_pos (a2.1 h2),List.append_nil];rfl
    ·rw [e,if_neg fun h=>h1 (a1.2 h),if_neg fun h=>h2 (a2.2 h),List.append_nil,List.append_nil]
   refine ⟨fun h0=>t1 _ (by unfold Vu;rw [if_pos h0];rfl),fun h0=>⟨fun h4=>?_,fun h4=>?_⟩⟩
   ·obtain ⟨g1,g2⟩:=Yff ho h4
    exact ⟨_,Zyb H,rfl,by omega,_,Wi6 g1 g2,t1 _ (by unfold Vu;rw [if_neg h0,if_pos h4])⟩
   ·have hf:Va p.value=true:=by rcases Cp ho with h | h;exact absurd h.1 h0;exact h.2.1
    have:=Td hf
    refine ⟨_,_,c72 H.toHas38 hp.v,fun h=>absurd (Gr.2 hf) h,fun _=>?_⟩
    rw [if_pos hf]
    refine ⟨?_,t1 _ (by unfold Vu;rw [if_neg h0,if_neg h4];rfl)⟩
    simp only [List.length_cons,List.length_nil,Uq];omega)
 exact h
end
end Go.AM

/- Yg of the proof. -/
namespace Go.AM
open Go
structure HasP (PG:Za):Prop extends HasO PG where
 f156:PG.fn 156=some Em
 f160:PG.fn 160=some Zej
 f181:PG.fn 181=some Et
theorem Yrj (p s:Zd):(Xv p s).1.length<=s.length:=by
 unfold Xv
 split
 ·simp only [List.length_take];omega
 ·exact Nat.le_refl _
noncomputable def Tx (p q:Zh):Bool:=decide (p.tag=q.tag)&&decide (p.flags=q.flags)&&Rg p.value q.value
theorem Ypc {p q:Zh}:Tx p q=true↔p=q:=by
 obtain ⟨a,b,c⟩:=p
 obtain ⟨d,e,f⟩:=q
 unfold Tx
 simp only [Bool.and_eq_true,decide_eq_true_eq,Ri,Zh.mk.injEq]
 constructor
 ·rintro ⟨⟨h1,h2⟩,h3⟩;exact ⟨h1,h3,h2⟩
 ·rintro ⟨h1,h2,h3⟩;exact ⟨⟨h1,h3⟩,h2⟩
def Un (s:Zd):Zh × Bool:=match Ux s with | some p=>(p,true) | none=>(pz,false)
def Br (p:Zh) (r a:Bool):Zh:=⟨p.tag,p.value,p.flags+(if r=true then 1 else 0)+(if a=true then 4 else 0)⟩
section
variable {PG:Za} (H:HasP PG)
include H
theorem Wfe {p q:Zh} (hp:Wf p.value):Zf PG 160 [p.av,q.av] (.b (Tx p q)):=by
 obtain ⟨x,rfl,h⟩:=Yuc H.f160 (a0:=p) (b1:=q) (K:=fun x=>x=Tx p q) (by
  unfold Zqs
  refine ⟨fun h1=>⟨fun h2=>⟨_,c78 H.toHas38 hp _,?_⟩,fun h2=>?_⟩,fun h1=>?_⟩
  ·unfold Tx;rw [decide_eq_true h1,decide_eq_true h2];rfl
  ·unfold Tx;rw [decide_eq_false h2,Bool.and_false];rfl
  ·unfold Tx;rw [decide_eq_false h1];rfl)
 exact h
theorem Wr8 {s:Zd} (hs:s.length<=1000000000):Zf PG 181 [.s s] (.tup [(Un s).1.av,.b (Un s).2]):=by
 obtain ⟨x,y,⟨rfl,rfl⟩,h⟩:=Xlq H.f181 (s0:=s) (K:=fun x y=>x=(Un s).1/\y=(Un s).2) (by
  unfold Zn2 Zpz
  have yes :∀{p:Zh},Ux s=some p->p=(Un s).1/\true=(Un s).2:=fun h=>by unfold Un;rw [h];exact ⟨rfl,rfl⟩
  have no:Ux s=none->pz=(Un s).1/\false=(Un s).2:=fun h=>by unfold Un;rw [h];exact ⟨rfl,rfl⟩
  refine ⟨fun h=>yes (by unfold Ux;rw [if_pos (show s=Pn from h)]),fun h0=>?_⟩
  have h0:s≠Pn:=h0
  unfold Zpv
  refine ⟨_,Zyb H.toHasO,fun P hP=>?_⟩
  have step :∀(i:Nat) (f:Zd),Zfq[i]?=some f->i<4->(0<i->f=s->(Zh.mk 4 (Zb.mk 2 (i:Int) [] [] false) 0)=(Un s).1/\true=(Un s).2)->((0<i->f≠s)->P ((i+1:Nat):Int) pz)->P (i:Int) pz:=fun i f hf hi h1 h2=>by
   apply hP
   unfold Zd6
   refine ⟨fun _=>⟨rfl,by omega,f,by rw [Gd];exact hf,fun h3=>?_,fun h3=>?_⟩,fun h=>absurd (show (i:Int)<4 by omega) h⟩
   ·unfold Zac
    rw [Yv (by omega) (by omega)]
    exact ⟨fun h4=>h1 (by omega) (of_decide_eq_true h4),fun h4=>h2 fun _=>of_decide_eq_false h4⟩
   ·unfold Zac
    rw [Yv (by omega) (by omega)]
    exact ⟨fun h4=>(by cases h4),fun _=>h2 fun h=>by omega⟩
  refine step 0 [] rfl (by decide) (fun h=>absurd h (by decide)) fun _=>step 1 Tb rfl (by decide) (fun _ e=>yes (by unfold Ux;rw [if_neg h0,if_pos e.symm];rfl)) fun n1=>step 2 Tf rfl (by decide) (fun _ e=>yes (by unfold Ux;rw [if_neg h0,if_neg fun e'=>n1 (by decide) e'.symm,if_pos e.symm];rfl)) fun n2=>step 3 Tq rfl (by decide) (fun _ e=>yes (by unfold Ux;rw [if_neg h0,if_neg fun e'=>n1 (by decide) e'.symm,if_neg fun e'=>n2 (by decide) e'.symm,if_pos e.symm];rfl)) fun n3=>?_
  apply hP
  unfold Zd6 Zkk
  refine ⟨fun h=>absurd h (by decide),fun _=>⟨_,_,Fx H.toHas03 s Kr,fun h1=>?_,fun h1=>?_⟩⟩
  all_goals
   have e1:Ux s=if (Zp Kr s).2=false then none else
    if (Jt (Zp Kr s).1).2≠0 then none else
    let v:=(Jt (Zp Kr s).1).1
    if v.kind=2 then some ⟨1,v,0⟩ else if v.kind=1 then some ⟨2,v,0⟩ else if v.kind=3 then some ⟨3,v,0⟩ else none:=by
    conv=>lhs;unfold Ux
    rw [if_neg h0,if_neg fun e'=>n1 (by decide) e'.symm,if_neg fun e'=>n2 (by decide) e'.symm,if_neg fun e'=>n3 (by decide) e'.symm]
  ·exact no (by rw [e1,if_pos (by simpa using h1)])
  ·rw [if_neg (by simpa using h1)] at e1
   have hl:(Zp Kr s).1.length<=1000000000:=by unfold Zp;split<;>simp<;>omega
   refine ⟨_,_,c74 H.toHas38 hl,_,Yop H.toHasO,fun Q hQ=>?_⟩
   by_cases he:(Jt (Zp Kr s).1).2=0
   ·rw [if_neg (by rw [he];decide)] at e1
    obtain ⟨g1,_,_⟩:=Yj8 he
    generalize (Jt (Zp Kr s).1).1=v at e1 g1 hQ ⊢
    have h7:=Mn (Ru g1).1
    unfold Zb.okh Kc at h7
    simp only at e1
    have st :∀(i:Nat) (c:UInt8),Ib[i]?=some c->i<5->((c.toNat:Int)=v.kind->(Zh.mk (i:Int) v 0)=(Un s).1/\true=(Un s).2)->(¬(c.toNat:Int)=v.kind->Q ((i+1:Nat):Int) pz v)->Q (i:Int) pz v:=fun i c hc hi h1 h2=>by
     apply hQ
     unfold Fc
     refine ⟨fun _=>⟨rfl,by omega,c,by rw [Gd];exact hc,fun h3=>?_,fun h3=>absurd he h3⟩,fun h=>absurd (show (i:Int)<5 by omega) h⟩
     unfold Zb9
     rw [Yv (by omega) (by omega),Zbj (by omega) (by omega)]
     exact ⟨fun h4=>h1 (of_decide_eq_true h4),fun h4=>h2 (of_decide_eq_false h4)⟩
    refine st 0 0 rfl (by decide) (fun h=>absurd h (show ¬((0:Int)=v.kind) by omega)) fun _=>st 1 2 rfl (by decide) (fun h=>yes (by rw [e1,if_pos (show v.kind=2 from h.symm)];rfl)) fun n2=>st 2 1 rfl (by decide) (fun h=>yes (by rw [e1,if_neg fun h'=>n2 h'.symm,if_pos (show v.kind=1 from h.symm)];rfl)) fun n1=>st 3 3 rfl (by decide) (fun h=>yes (by rw [e1,if_neg fun h'=>n2 h'.symm,if_neg fun h'=>n1 h'.symm,if_pos (show v.kind=3 from h.symm)];rfl)) fun n3=>st 4 2 rfl (by decide) (fun h=>absurd h n2) fun _=>?_
    apply hQ
    unfold Fc Zep
    exact ⟨fun h=>absurd h (by decide),fun _=>no (by rw [e1,if_neg fun h'=>n2 h'.symm,if_neg fun h'=>n1 h'.symm,if_neg fun h'=>n3 h'.symm])⟩
   ·rw [if_pos he] at e1
    have st :∀(i:Nat) (c:UInt8),Ib[i]?=some c->i<5->Q ((i+1:Nat):Int) pz (Jt (Zp Kr s).1).1->Q (i:Int) pz (Jt (Zp Kr s).1).1:=fun i c hc hi h2=>by
     apply hQ
     unfold Fc
     refine ⟨fun _=>⟨rfl,by omega,c,by rw [Gd];exact hc,fun h3=>absurd h3 he,fun h3=>?_⟩,fun h=>absurd (show (i:Int)<5 by omega) h⟩
     unfold Zb9
     rw [Yv (by omega) (by omega)]
     exact ⟨fun h4=>(by cases h4),fun _=>h2⟩
    refine st 0 0 rfl (by decide) (st 1 2 rfl (by decide) (st 2 1 rfl (by decide) (st 3 3 rfl (by decide) (st 4 2 rfl (by decide) ?_))))
    apply hQ
    unfold Fc Zep
    exact ⟨fun h=>absurd h (by decide),fun _=>no e1⟩)
 exact h
omit H in
theorem Xci {f:Int} (h:f=0\/f=2):bOr .u64 f 1=f+1/\bOr .u64 f 4=f+4/\bOr .u64 (f+1) 4=f+1+4/\IntKind.u64.wrap (f+1)=f+1/\IntKind.u64.wrap (f+4)=f+4/\IntKind.u64.wrap (f+1+4)=f+1+4:=by
 rcases h with rfl | rfl<;>decide
theorem Xs2 {s:Zd} (hs:s.length<=1000000000):Zf PG 156 [.s s] (.tup [(Ua s).1.av,.i .i64 (Ua s).2]):=by
 obtain ⟨x,y,⟨rfl,rfl⟩,h⟩:=Yub H.f156 (s0:=s) (K:=fun x y=>x=(Ua s).1/\y=(Ua s).2) (by
  unfold Zov
  refine ⟨fun h=>?_,fun h=>?_⟩
  ·unfold Ua;rw [if_pos (by omega)];exact ⟨rfl,rfl⟩
  have hl:¬2000<s.length:=by omega
  have l1:(Xv Ji s).1.length<=1000000000:=Nat.le_trans (Yrj _ _) hs
  have l2:(Xv Kj (Xv Ji s).1).1.length<=1000000000:=Nat.le_trans (Yrj _ _) l1
  have e:Ua s=(match Ux (Xv Kj (Xv Ji s).1).1 with
   | none=>(pz,12)
   | some p=>if Xu (Br p (Xv Kj (Xv Ji s).1).2 (Xv Ji s).2)=true then (Br p (Xv Kj (Xv Ji s).1).2 (Xv Ji s).2,0) else (pz,12)):=by
   conv=>lhs;unfold Ua
   rw [if_neg hl]
   rfl
  refine ⟨_,_,Yoq H.toHasO (p:=Ji) hs,_,_,Yoq H.toHasO (p:=Kj) l1,_,_,Wr8 H l2,?_⟩
  generalize Xv Ji s=a at e l1 l2 ⊢
  generalize Xv Kj a.1=r at e l2 ⊢
  cases hc:Ux r.1 with
  | none=>
   rw [hc] at e
   have e2:Un r.1=(pz,false):=by unfold Un;rw [hc]
   rw [e,e2]
   unfold Eh Pg
   exact ⟨fun _=>⟨fun _=>⟨fun _=>⟨rfl,rfl⟩,fun h=>(by cases h)⟩,fun _=>⟨fun _=>⟨rfl,rfl⟩,fun h=>(by cases h)⟩⟩,fun _=>⟨fun _=>⟨fun _=>⟨rfl,rfl⟩,fun h=>(by cases h)⟩,fun _=>⟨fun _=>⟨rfl,rfl⟩,fun h=>(by cases h)⟩⟩⟩
  | some p=>
   rw [hc] at e
   have e2:Un r.1=(p,true):=by unfold Un;rw [hc]
   rw [e,e2]
   obtain ⟨w1,w2,w3,w4,_⟩:=Zw9 hc
   obtain ⟨o1,o2,o3,_⟩:=Xci w2
   have fin :∀q:Zh,q=Br p r.2 a.2->Pg PG (fun x y=>x=(if Xu (Br p r.2 a.2)=true then (Br p r.2 a.2,(0:Int)) else (pz,12)).1/\y=(if Xu (Br p r.2 a.2)=true then (Br p r.2 a.2,(0:Int)) else (pz,12)).2) true pz q:=fun q hq=>by
    subst hq
    have hw:Dg (Br p r.2 a.2):=⟨⟨w3,by simp only [Br];omega⟩,w1,by simp only [Br];constructor<;>(split<;>split<;>omega)⟩
    unfold Pg
    refine ⟨fun h=>(by cases h),fun _=>⟨_,Zk8 H.toHasO hw,fun h1=>?_,fun h1=>?_⟩⟩
    ·rw [if_neg fun h'=>h1 (Pv.2 h')];exact ⟨rfl,rfl⟩
    ·rw [if_pos (Pv.1 (Decidable.not_not.1 h1))];exact ⟨rfl,rfl⟩
   unfold Eh
   simp only
   refine ⟨fun h1=>⟨fun h2=>fin _ ?_,fun h2=>fin _ ?_⟩,fun h1=>⟨fun h2=>fin _ ?_,fun h2=>fin _ ?_⟩⟩<;>unfold Br<;>rw [h1,h2]
   ·rw [o1,o3];rfl
   ·rw [o1];simp
   ·rw [o2];simp
   ·simp)
 exact h
end
end Go.AM

/- Yg of the proof. -/
namespace Go.AM
open Go
structure HasQ (PG:Za):Prop extends HasP PG where
 f162:PG.fn 162=some Zf5
 f163:PG.fn 163=some Zhd
 f169:PG.fn 169=some Yqp
 f170:PG.fn 170=some Zi2
def Gk (l:List Zh):Int:=if 410<l.length then 4 else if l.all Xu=true then 0 else 8
def Sd (l:List Zh):Bool:=(decide (20<l.length)&&decide (l.length<=410))||decide (420<l.length)||l.any (fun p=>Bi p.value)
theorem Wec {l:List Zh} (h:¬410<l.length) (ho :∀p∈l,Xu p=true):Gk l=0:=by
 unfold Gk;rw [if_neg h,if_pos (List.all_eq_true.2 ho)]
theorem Ytp {l:List Zh} (h:¬410<l.length) {p:Zh} (hp:p∈l) (ho:Xu p≠true):Gk l=8:=by
 unfold Gk;rw [if_neg h,if_neg fun h'=>ho (List.all_eq_true.1 h' p hp)]
theorem Ynm {l:List Zh} (h:Gk l=0):l.length<=410/\∀p∈l,Xu p=true:=by
 unfold Gk at h
 split at h
 ·cases h
 ·split at h
  ·rename_i h1 h2;exact ⟨by omega,List.all_eq_true.1 h2⟩
  ·cases h
section
variable {PG:Za} (H:HasQ PG)
include H
theorem Xz5 {l:List Zh} (hw :∀p∈l,Dg p):Zf PG 163 [.sl .ext (l.map Zh.row)] (.i .i64 (Gk l)):=by
 obtain ⟨x,rfl,h⟩:=Xm8 H.f163 (l0:=l) (K:=fun x=>x=Gk l) (by
  unfold Zo0
  refine ⟨fun h=>by unfold Gk;rw [if_pos (by omega)],fun h P hP=>?_⟩
  refine Uh l.length (fun i=>∀p∈l.take i,Xu p=true) (by simp) (fun hI=>hP _ ?_) fun i hi hI next=>hP _ ?_
  ·unfold Zia Zp6
   rw [List.take_length] at hI
   exact ⟨fun h=>absurd h (by omega),fun _=>(Wec (by omega) hI).symm⟩
  ·unfold Zia
   refine ⟨fun _=>⟨by omega,_,Xb hi,_,Xon H.toHasO (hw _ (List.getElem_mem hi)),fun h1=>?_,fun h1=>?_⟩,fun h=>absurd (show (i:Int)<l.length by omega) h⟩
   ·have hn:Xu l[i]≠true:=fun h'=>h1 (Pv.2 h')
    rw [Ytp (by omega) (List.getElem_mem hi) hn,Dx (by simpa using hn)]
   ·rw [Yv (by omega) (by omega)]
    refine next fun p hp=>?_
    rw [List.take_succ_eq_append_getElem hi] at hp
    rcases List.mem_append.1 hp with hp | hp
    ·exact hI p hp
    ·rw [List.mem_singleton.1 hp];exact Pv.1 (Decidable.not_not.1 h1))
 exact h
theorem Xzq {l:List Zh} (hw :∀p∈l,Dg p):Zf PG 162 [.sl .ext (l.map Zh.row)] (.b (Sd l)):=by
 obtain ⟨x,rfl,h⟩:=Wbb H.f162 (l0:=l) (K:=fun x=>x=Sd l) (by
  have t1:(decide (20<l.length)&&decide (l.length<=410))=false->¬420<l.length->Oy PG (fun x=>x=Sd l) l:=fun h1 h2=>by
   unfold Oy
   intro P hP
   have e:Sd l=l.any (fun p=>Bi p.value):=by unfold Sd;rw [h1,decide_eq_false h2];rfl
   rw [e] at hP
   refine Uh l.length (fun i=>∀p∈l.take i,Bi p.value=false) (by simp) (fun hI=>hP _ ?_) fun i hi hI next=>hP _ ?_
   ·unfold Zh7 Zj6
    rw [List.take_length] at hI
    exact ⟨fun h=>absurd h (by omega),fun _=>(List.any_eq_false.2 fun p hp=>by simpa using hI p hp).symm⟩
   ·unfold Zh7
    refine ⟨fun _=>⟨by omega,_,Xb hi,_,c71 H.toHas38 (hw _ (List.getElem_mem hi)).v,fun h1=>(List.any_eq_true.2 ⟨_,List.getElem_mem hi,h1⟩).symm,fun h1=>?_⟩,fun h=>absurd (show (i:Int)<l.length by omega) h⟩
    rw [Yv (by omega) (by omega)]
    refine next fun p hp=>?_
    rw [List.take_succ_eq_append_getElem hi] at hp
    rcases List.mem_append.1 hp with hp | hp
    ·exact hI p hp
    ·rw [List.mem_singleton.1 hp];exact h1
  unfold Zq5
  refine ⟨fun h1=>⟨fun h2=>?_,fun h2=>⟨fun h3=>?_,fun h3=>?_⟩⟩,fun h1=>⟨fun h3=>?_,fun h3=>?_⟩⟩
  ·unfold Sd;rw [decide_eq_true (by omega),decide_eq_true (by omega)];rfl
  ·unfold Sd;rw [decide_eq_true (p:=420<l.length) (by omega)];simp
  ·exact t1 (by rw [decide_eq_false (p:=l.length<=410) (by omega)];simp) (by omega)
  ·omega
  ·exact t1 (by rw [decide_eq_false (p:=20<l.length) (by omega)];rfl) (by omega))
 exact h
end
section
variable {PG:Za} (H:HasQ PG)
include H
end
end Go.AM

/- Yg of the proof. -/
namespace Go.AM
open Go
def Ot (s:Xd):Bool:=decide (40<s.name.length)
def Bp (f:Zz):Bool:=decide (40<f.name.length)||decide (30<f.slots.length)||decide (300<f.code.length)||f.slots.any Ot
def Sh (m:Ze):Bool:=(m.funcs.take 41).any Bp||decide (40<m.funcs.length)
def Cg (x:Zg):Bool:=(x.locals.take 21).any (fun l=>Bi l.value)||decide (20<x.locals.length)
structure Wd (m:Ze):Prop where
 n:m.funcs.length<=40
 f :∀f∈m.funcs,f.name.length<=40/\f.slots.length<=30/\f.code.length<=300/\∀s∈f.slots,s.name.length<=40
theorem Wd.of {m:Ze} (h:Sh m=false):Wd m:=by
 simp only [Sh,Bool.or_eq_false_iff,decide_eq_false_iff_not] at h
 have hn:m.funcs.length<=40:=by omega
 refine ⟨hn,fun f hf=>?_⟩
 have h1:=h.1
 rw [List.take_of_length_le (by omega),List.any_eq_false] at h1
 have h2:=h1 f hf
 simp only [Bp,Bool.not_eq_true,Bool.or_eq_false_iff,decide_eq_false_iff_not,List.any_eq_false] at h2
 refine ⟨by omega,by omega,by omega,fun s hs=>?_⟩
 simpa [Ot] using h2.2 s hs
structure Uo (x:Zg):Prop where
 m:0<=x.mode
 n:x.locals.length<=9223372036854775807
 v :∀l∈x.locals,Wf l.value
def Kd (n:Int):Int->List Yb->Bool
 | _,[]=>true
 | last,l::r=>decide (last<l.slot)&&decide (l.slot<n)&&Va l.value&&Kd n l.slot r
def Sf (f:Zz) (x:Zg):Bool:=decide (f.slots.length<=16)&&decide (f.name.length<=16)&&decide (0<=x.pos)&&decide (x.pos<f.code.length)&&f.slots.all (fun s=>decide (s.name.length<=16))&&Kd f.slots.length (-1) x.locals
def Jj (m:Ze) (x:Zg):Bool:=decide (0<=x.func)&&decide (x.mode<=3)&&(match m.funcs[x.func.toNat]? with | none=>false | some f=>Sf f x)
def Uc (m:Ze) (x:Zg):Int:=if Jj m x=true then 0 else 8
def Tu:List Zd:=[[99,97,108,108],[100,101,102,101,114],[112,97,110,105,99],[101,120,105,116]]
def Rq (n:Int):Zd:=(Tu[n.toNat]?).getD []
def Gy (f:Zz) (k:Int) (x:Zg):Zd:=[35]++Xf k++[32]++Xf x.func++[32]++quo f.name++[32,97,116,32]++Xf x.pos++[32]++Rq x.mode
def Ma (f:Zz) (n:Int):Zd:=((f.slots[n.toNat]?).getD Xd.zero).name
def Gp (f:Zz) (l:Yb):Zd:=[32,32]++Xf l.slot++[32]++quo (Ma f l.slot)++[32,61,32]++Xi l.value
def Js (m:Ze) (k:Int) (x:Zg):List Zd:=match m.funcs[x.func.toNat]? with
 | none=>[]
 | some f=>Gy f k x::x.locals.map (Gp f)
def Uz (m:Ze) (k:Int) (x:Zg):List Zd × Int:=if k<0\/170<=k then ([],2) else if Jj m x=true then (Js m k x,0) else ([],8)
theorem Mq {m:Ze} {x:Zg}:Jj m x=true↔0<=x.func/\x.mode<=3/\∃f,m.funcs[x.func.toNat]?=some f/\Sf f x=true:=by
 unfold Jj
 cases h:m.funcs[x.func.toNat]? with
 | none=>simp
 | some f=>simp [and_assoc]
theorem Cl {f:Zz} {x:Zg}:Sf f x=true↔f.slots.length<=16/\f.name.length<=16/\0<=x.pos/\x.pos<f.code.length/\(∀s∈f.slots,s.name.length<=16)/\Kd f.slots.length (-1) x.locals=true:=by
 simp [Sf,and_assoc]
theorem Zbr {n:Int} :∀{l:List Yb} {last:Int},Kd n last l=true->∀x∈l,last<x.slot/\x.slot<n/\Va x.value=true
 | [],_,_,x,hx=>by cases hx
 | y::r,last,h,x,hx=>by
  simp only [Kd,Bool.and_eq_true,decide_eq_true_eq] at h
  obtain ⟨⟨⟨h1,h2⟩,h3⟩,h4⟩:=h
  rcases List.mem_cons.1 hx with rfl | hx
  ·exact ⟨h1,h2,h3⟩
  ·have:=Zbr h4 x hx
   exact ⟨by omega,this.2⟩
theorem Zni {n:Int} :∀{l:List Yb} {last:Int},Kd n last l=true->l=[]\/(l.length:Int)<n-last
 | [],_,_=>.inl rfl
 | y::r,last,h=>by
  simp only [Kd,Bool.and_eq_true,decide_eq_true_eq] at h
  obtain ⟨⟨⟨h1,h2⟩,h3⟩,h4⟩:=h
  rcases Zni h4 with rfl | h5
  ·right;simp only [List.length_cons,List.length_nil];omega
  ·right;simp only [List.length_cons];omega
theorem Yas {n last:Int} :∀(l:List Yb) (i:Nat),Kd n last l=true->Kd n last (l.take i)=true
 | [],i,h=>by rw [List.take_nil];rfl
 | y::r,0,h=>rfl
 | y::r,i+1,h=>by
  simp only [Kd,List.take_succ_cons,Bool.and_eq_true] at h ⊢
  exact ⟨h.1,Yas r i h.2⟩
def Mv (last:Int):List Yb->Int
 | []=>last
 | l::r=>Mv l.slot r
theorem Zlc :∀(l:List Yb) (last:Int) (x:Yb),Mv last (l++[x])=x.slot
 | [],_,_=>rfl
 | y::r,last,x=>Zlc r y.slot x
theorem Yq8 {n:Int} :∀(l:List Yb) (last:Int) (x:Yb),Kd n last (l++[x])=(Kd n last l&&decide (Mv last l<x.slot)&&decide (x.slot<n)&&Va x.value)
 | [],last,x=>by simp [Kd,Mv];rfl
 | y::r,last,x=>by
  simp only [List.cons_append,Kd,Mv,Yq8 r y.slot x]
  simp only [Bool.and_assoc]
  rfl
theorem Yee {n last:Int} {l:List Yb} {i:Nat} (h:Kd n last (l.take i)=false):Kd n last l=false:=by
 rw [<- Bool.not_eq_true] at h ⊢
 exact fun h'=>h (Yas l i h')
def Yw (n:Int) (s:Zd):Int × Bool × Zd:=((Ku s).1,(Ku s).2.1&&decide (0<=(Ku s).1)&&decide ((Ku s).1<n),(Ku s).2.2)
def Df (v:Zd):List Zd->Int
 | []=>-1
 | x::r=>if v=x then 0 else if Df v r = -1 then -1 else 1+Df v r
def Cs (s:Zd):Int:=Df s Tu
def Qq (m:Ze) (n:Int):Zd:=((m.funcs[n.toNat]?).getD Zz.zero).name
def Ga (m:Ze) (n:Int):Int:=(((m.funcs[n.toNat]?).getD Zz.zero).code.length:Nat)
def Lo (k f p:Int) (s:Zd):Int × Zg × Bool:=(k,⟨f,p,max 0 (Cs s),[]⟩,decide (0<=Cs s))
def Na (m:Ze) (k f:Int) (s:Zd):Int × Zg × Bool:=
 if (Yw (Ga m f) s).2.1=false then (0,⟨f,(Yw (Ga m f) s).1,0,[]⟩,false) else
 if (Zp [32] (Yw (Ga m f) s).2.2).2=false then (0,⟨f,(Yw (Ga m f) s).1,0,[]⟩,false) else Lo k f (Yw (Ga m f) s).1 (Zp [32] (Yw (Ga m f) s).2.2).1
def Mw (m:Ze) (k:Int) (s:Zd):Int × Zg × Bool:=
 if (Yw m.funcs.length s).2.1=false then (0,⟨(Yw m.funcs.length s).1,0,0,[]⟩,false) else
 if (Zp ([32]++quo (Qq m (Yw m.funcs.length s).1)++[32,97,116,32]) (Yw m.funcs.length s).2.2).2=false then (0,⟨(Yw m.funcs.length s).1,0,0,[]⟩,false) else
 Na m k (Yw m.funcs.length s).1 (Zp ([32]++quo (Qq m (Yw m.funcs.length s).1)++[32,97,116,32]) (Yw m.funcs.length s).2.2).1
def Mt (m:Ze) (s:Zd):Int × Zg × Bool:=
 if (Yw 170 s).2.1=false then (0,⟨0,0,0,[]⟩,false) else if (Zp [32] (Yw 170 s).2.2).2=false then (0,⟨0,0,0,[]⟩,false) else Mw m (Yw 170 s).1 (Zp [32] (Yw 170 s).2.2).1
def Vv (m:Ze) (s:Zd):Int × Zg × Bool:=if (Zp [35] s).2=false then (0,⟨0,0,0,[]⟩,false) else Mt m (Zp [35] s).1
def Km (f:Zz) (s:Zd):Option Yb:=
 if (Zp [32,32] s).2=false then none else
 if (Yw f.slots.length (Zp [32,32] s).1).2.1=false then none else
 if (Zp ([32]++quo (Ma f (Yw f.slots.length (Zp [32,32] s).1).1)++[32,61,32]) (Yw f.slots.length (Zp [32,32] s).1).2.2).2=false then none else
 if (Jt (Zp ([32]++quo (Ma f (Yw f.slots.length (Zp [32,32] s).1).1)++[32,61,32]) (Yw f.slots.length (Zp [32,32] s).1).2.2).1).2=0 then
  some ⟨(Yw f.slots.length (Zp [32,32] s).1).1,(Jt (Zp ([32]++quo (Ma f (Yw f.slots.length (Zp [32,32] s).1).1)++[32,61,32]) (Yw f.slots.length (Zp [32,32] s).1).2.2).1).1⟩ else none
def Qo (f:Zz):List Zd->Option (List Yb)
 | []=>some []
 | s::r=>match Km f s with
  | none=>none
  | some y=>match Qo f r with | none=>none | some ys=>some (y::ys)
abbrev fz:Zg:=⟨0,0,0,[]⟩
def Ks (m:Ze) (l:List Zd):Int × Zg × Int:=
 if 17<l.length\/Dq 1400060 l=true then (0,fz,4) else
 match l with
 | []=>(0,fz,12)
 | s::r=>if (Vv m s).2.2=false then (0,fz,12) else
  match m.funcs[(Vv m s).2.1.func.toNat]? with
  | none=>(0,fz,12)
  | some f=>match Qo f r with
   | none=>(0,fz,12)
   | some ys=>if Uz m (Vv m s).1 { (Vv m s).2.1 with locals:=ys }=(l,0) then ((Vv m s).1,{ (Vv m s).2.1 with locals:=ys },0) else (0,fz,12)
theorem Zgz (n:Int) (s:Zd):(Yw n s).2.1=true->0<=(Yw n s).1/\(Yw n s).1<n:=by
 intro h
 simp only [Yw,Bool.and_eq_true,decide_eq_true_eq] at h ⊢
 omega
theorem Zpw (v:Zd) :∀l:List Zd,-1<=Df v l/\Df v l<l.length
 | []=>⟨Int.le_refl _,by show (-1:Int)<0;decide⟩
 | x::r=>by
  have:=Zpw v r
  rw [Df,List.length_cons]
  repeat' split
  all_goals omega
theorem Xff (s:Zd):-1<=Cs s/\Cs s<4:=Zpw s Tu
theorem Yoh (m:Ze) (s:Zd):0<=(Vv m s).2.1.mode:=by
 have h0 :∀a:Int,0<=max 0 a:=fun a=>by omega
 unfold Vv Mt Mw Na Lo
 repeat' split
 all_goals first | exact h0 _ | exact Int.le_refl 0
theorem Wdw (m:Ze) (s:Zd):(Vv m s).2.1.locals=[]:=by
 unfold Vv Mt Mw Na Lo
 repeat' split
 all_goals rfl
theorem Wdh {m:Ze} {s:Zd} (h:(Vv m s).2.2=true):0<=(Vv m s).2.1.func/\(Vv m s).2.1.func<m.funcs.length/\0<=(Vv m s).1/\(Vv m s).1<170:=by
 unfold Vv at h ⊢
 split at h
 ·cases h
 rename_i h1
 rw [if_neg h1]
 clear h1
 generalize (Zp [35] s).1=t at h ⊢
 unfold Mt at h ⊢
 split at h
 ·cases h
 rename_i h1
 rw [if_neg h1]
 split at h
 ·cases h
 rename_i h2
 rw [if_neg h2]
 have k1:=Zgz 170 t (by simpa using h1)
 clear h1 h2
 generalize (Yw 170 t).1=k at h k1 ⊢
 generalize (Zp [32] (Yw 170 t).2.2).1=u at h ⊢
 unfold Mw at h ⊢
 split at h
 ·cases h
 rename_i h1
 rw [if_neg h1]
 split at h
 ·cases h
 rename_i h2
 rw [if_neg h2]
 have k2:=Zgz m.funcs.length u (by simpa using h1)
 clear h1 h2
 generalize (Zp ([32]++quo (Qq m (Yw m.funcs.length u).1)++[32,97,116,32]) (Yw m.funcs.length u).2.2).1=w at h ⊢
 generalize (Yw m.funcs.length u).1=f at h k2 ⊢
 unfold Na at h ⊢
 split at h
 ·cases h
 rename_i h1
 rw [if_neg h1]
 split at h
 ·cases h
 rename_i h2
 rw [if_neg h2]
 exact ⟨k2.1,k2.2,k1.1,k1.2⟩
end Go.AM

/- Yg of the proof. -/
namespace Go.AM
open Go
structure HasF (PG:Za):Prop extends Has38 PG where
 f79:PG.fn 79=some Zee
 f80:PG.fn 80=some Zgl
 f82:PG.fn 82=some Zeh
 f86:PG.fn 86=some Zht
 f87:PG.fn 87=some Zix
 f88:PG.fn 88=some Zh0
 f111:PG.fn 111=some Zbz
 f112:PG.fn 112=some Zhs
 f113:PG.fn 113=some Za0
 f115:PG.fn 115=some Zgx
 f116:PG.fn 116=some Zdx
 f119:PG.fn 119=some Zgm
 f122:PG.fn 122=some Zeb
 f123:PG.fn 123=some Zdu
 f124:PG.fn 124=some Zdv
 f138:PG.fn 138=some Zoa
 f139:PG.fn 139=some Zh6
 f141:PG.fn 141=some Ziy
 f144:PG.fn 144=some Zcw
def Vy {α:Type} (p:α->Bool):List α->Int
 | []=>-1
 | x::r=>if p x=true then 0 else if Vy p r = -1 then -1 else 1+Vy p r
theorem Ry {α:Type} (p:α->Bool) :∀l:List α,-1<=Vy p l/\(0<=Vy p l↔l.any p=true)
 | []=>by simp [Vy]
 | x::r=>by
  have:=Ry p r
  rw [Vy,List.any_cons]
  cases p x
  ·simp only [Bool.false_eq_true,if_false,Bool.false_or]
   split
   ·exact ⟨by omega,fun h=>absurd h (by decide),fun h=>absurd (this.2.2 h) (by omega)⟩
   ·exact ⟨by omega,fun _=>this.2.1 (by omega),fun h=>by have:=this.2.2 h;omega⟩
  ·simp
theorem Cc {α:Type} {P:Int->Prop} {Q:Int->Prop} (p:α->Bool) (l:List α) (h1:Q (-1)->P (l.length:Int)) (h2 :∀(i:Nat) (hi:i<l.length),p l[i]=true->Q (i:Int)->P (i:Int)) (h3 :∀(i:Nat) (hi:i<l.length),p l[i]=false->P ((i+1:Nat):Int)->P (i:Int)) (hQ:Q (Vy p l)):P 0:=by
 have key :∀m i:Nat,i+m=l.length->Q (if Vy p (l.drop i) = -1 then -1 else i+Vy p (l.drop i))->P (i:Int):=by
  intro m
  induction m with
  | zero=>
   intro i hi hq
   have:l.drop i=[]:=List.drop_eq_nil_of_le (by omega)
   rw [this] at hq
   simp only [Nat.add_zero] at hi
   subst hi
   exact h1 (by simpa [Vy] using hq)
  | succ m ih=>
   intro i hi hq
   have hil:i<l.length:=by omega
   rw [List.drop_eq_getElem_cons hil,Vy] at hq
   have hb:=(Ry p (l.drop (i+1))).1
   cases hp:p l[i] with
   | true=>
    refine h2 i hil hp ?_
    rw [hp] at hq
    simpa using hq
   | false=>
    refine h3 i hil hp (ih (i+1) (by omega) ?_)
    rw [hp] at hq
    simp only [Bool.false_eq_true,if_false] at hq
    by_cases hn:Vy p (l.drop (i+1)) = -1
    ·rw [if_pos hn] at hq ⊢
     simpa using hq
    ·rw [if_neg hn] at hq ⊢
     rw [if_neg (by omega)] at hq
     rw [show ((i+1:Nat):Int)+Vy p (l.drop (i+1))=(i:Int)+(1+Vy p (l.drop (i+1))) by omega]
     exact hq
 refine key l.length 0 (by omega) ?_
 rw [List.drop_zero]
 split
 ·rename_i h;rw [h] at hQ;exact hQ
 ·simpa using hQ
theorem Yln (v:Zd) :∀l:List Zd,Df v l=Vy (fun x=>decide (v=x)) l
 | []=>rfl
 | x::r=>by rw [Df,Vy,Yln v r];simp
theorem Xlu {n:Int} (h0:0<=n) (h1:n<=3):Tu[n.toNat]?=some (Rq n):=by
 have:n=0\/n=1\/n=2\/n=3:=by omega
 rcases this with rfl | rfl | rfl | rfl<;>rfl
theorem Zyp {n:Int} (h0:0<=n) (h1:n<=3):(Rq n).length<=5:=by
 have:n=0\/n=1\/n=2\/n=3:=by omega
 rcases this with rfl | rfl | rfl | rfl<;>decide
section
variable {PG:Za} (H:HasF PG)
include H
theorem Zcf {n:Int} (h1:-9223372036854775808<=n) (h2:n<9223372036854775808):Zf PG 111 [.i .i64 n] (.s (Xf n)):=by
 obtain ⟨x,rfl,h⟩:=Ws5 H.f111 (n0:=n) (K:=fun x=>x=Xf n) (by
  unfold Zjf
  exact ⟨_,c15 H.toHas03 h1 h2,rfl⟩)
 exact h
theorem Zgf {s:Zd} (hs:s.length<=400):Zf PG 112 [.s s] (.s (quo s)):=by
 obtain ⟨x,rfl,h⟩:=Wnn H.f112 (s0:=s) (K:=fun x=>x=quo s) (by
  unfold Zjl
  refine ⟨_,_,c11 H.toHas03 s,?_⟩
  rw [Zrn hs])
 exact h
theorem Yrd:Zf PG 113 [] (.ag (Tu.map AV.s)):=by
 obtain ⟨x,rfl,h⟩:=Xom H.f113 (K:=fun x=>x=Tu) (by unfold Zn8;rfl)
 exact h
theorem Xux (s:Zd):Yp PG 116 [.s s] (fun r=>r=.b (decide (1400060<s.length))):=by
 refine (Wdm H.f116 (s0:=s) (K:=fun x=>x=decide (1400060<s.length)) ?_).to ?_
 ·unfold Zs2
  exact decide_eq_decide.2 (by omega)
 ·rintro r ⟨x,rfl,rfl⟩;rfl
theorem Xnx (s:Xd):Yp PG 123 [s.av] (fun r=>r=.b (decide (16<s.name.length))):=by
 refine (Wa5 H.f123 (s0:=s) (K:=fun x=>x=decide (16<s.name.length)) ?_).to ?_
 ·unfold Zqo
  exact decide_eq_decide.2 (by omega)
 ·rintro r ⟨x,rfl,rfl⟩;rfl
theorem Xov {l:List Zd} {f:Nat × List AV} {p:Zd->Bool} (hl:l.length<=9223372036854775807) (hf :∀x∈l,Yp PG f.1 ([.s x]++f.2) (fun r=>r=.b (p x))) (o:Zn):Yp PG 139 [.sl o (l.map Zv),.fn f.1 f.2] (fun r=>r=.i .i64 (Vy p l)):=by
 refine (Xyy H.f139 (s0:=l) (f1:=f) (K:=fun x=>x=Vy p l) ?_ o).to ?_
 ·unfold Zss
  intro P hP
  refine Cc (Q:=fun x=>x=Vy p l) p l (fun h=>hP _ ?_) (fun i hi hp hq=>hP _ ?_) (fun i hi hp ih=>hP _ ?_) rfl
  ·unfold In Zji
   exact ⟨fun h'=>absurd h' (by omega),fun _=>h⟩
  ·unfold In
   refine ⟨fun _=>⟨by omega,_,Xb hi,_,hf _ (List.getElem_mem hi),fun _=>hq,fun h'=>?_⟩,fun h'=>absurd h' (by omega)⟩
   rw [hp] at h';cases h'
  ·unfold In
   refine ⟨fun _=>⟨by omega,_,Xb hi,_,hf _ (List.getElem_mem hi),fun h'=>?_,fun _=>?_⟩,fun h'=>absurd h' (by omega)⟩
   ·rw [hp] at h';cases h'
   ·rw [Yv (by omega) (by omega)];exact ih
 ·rintro r ⟨x,rfl,rfl⟩;rfl
theorem Wfz {l:List Xd} {f:Nat × List AV} {p:Xd->Bool} (hl:l.length<=9223372036854775807) (hf :∀x∈l,Yp PG f.1 ([x.av]++f.2) (fun r=>r=.b (p x))) (o:Zn):Yp PG 144 [.sl o (l.map Xd.row),.fn f.1 f.2] (fun r=>r=.i .i64 (Vy p l)):=by
 refine (Wgl H.f144 (s0:=l) (f1:=f) (K:=fun x=>x=Vy p l) ?_ o).to ?_
 ·unfold Zje
  intro P hP
  refine Cc (Q:=fun x=>x=Vy p l) p l (fun h=>hP _ ?_) (fun i hi hp hq=>hP _ ?_) (fun i hi hp ih=>hP _ ?_) rfl
  ·unfold Ap Zka
   exact ⟨fun h'=>absurd h' (by omega),fun _=>h⟩
  ·unfold Ap
   refine ⟨fun _=>⟨by omega,_,Xb hi,_,hf _ (List.getElem_mem hi),fun _=>hq,fun h'=>?_⟩,fun h'=>absurd h' (by omega)⟩
   rw [hp] at h';cases h'
  ·unfold Ap
   refine ⟨fun _=>⟨by omega,_,Xb hi,_,hf _ (List.getElem_mem hi),fun h'=>?_,fun _=>?_⟩,fun h'=>absurd h' (by omega)⟩
   ·rw [hp] at h';cases h'
   ·rw [Yv (by omega) (by omega)];exact ih
 ·rintro r ⟨x,rfl,rfl⟩;rfl
theorem Xc2 {l:List Zd} {f:Nat × List AV} {p:Zd->Bool} (hl:l.length<=9223372036854775807) (hf :∀x∈l,Yp PG f.1 ([.s x]++f.2) (fun r=>r=.b (p x))) (o:Zn):Yp PG 115 [.sl o (l.map Zv),.fn f.1 f.2] (fun r=>r=.b (l.any p)):=by
 refine (Wh2 H.f115 (s0:=l) (f1:=f) (K:=fun x=>x=l.any p) ?_ o).to ?_
 ·unfold Zr8
  refine ⟨_,fun o=>Xov H hl hf o,?_⟩
  have:=(Ry p l).2
  cases h:l.any p
  ·exact decide_eq_false (by rw [h] at this;intro h';exact absurd (this.1 h') (by decide))
  ·exact decide_eq_true (this.2 h)
 ·rintro r ⟨x,rfl,rfl⟩;rfl
theorem Wsq {l:List Xd} {f:Nat × List AV} {p:Xd->Bool} (hl:l.length<=9223372036854775807) (hf :∀x∈l,Yp PG f.1 ([x.av]++f.2) (fun r=>r=.b (p x))) (o:Zn):Yp PG 122 [.sl o (l.map Xd.row),.fn f.1 f.2] (fun r=>r=.b (l.any p)):=by
 refine (Xr1 H.f122 (s0:=l) (f1:=f) (K:=fun x=>x=l.any p) ?_ o).to ?_
 ·unfold Zmn
  refine ⟨_,fun o=>Wfz H hl hf o,?_⟩
  have:=(Ry p l).2
  cases h:l.any p
  ·exact decide_eq_false (by rw [h] at this;intro h';exact absurd (this.1 h') (by decide))
  ·exact decide_eq_true (this.2 h)
 ·rintro r ⟨x,rfl,rfl⟩;rfl
theorem Ykv {l:List Zd} (hl:l.length<=1000000) (v:Zd):Zf PG 141 [.sl .ext (l.map Zv),.s v] (.i .i64 (Df v l)):=by
 obtain ⟨x,rfl,h⟩:=Wqc H.f141 (s0:=l) (v1:=v) (K:=fun x=>x=Df v l) (by
  unfold Ztl
  intro P hP
  refine Cc (Q:=fun x=>x=Df v l) (fun x=>decide (v=x)) l (fun h=>hP _ ?_) (fun i hi hp hq=>hP _ ?_) (fun i hi hp ih=>hP _ ?_) (Yln v l).symm
  ·unfold Za5 Zon
   exact ⟨fun h'=>absurd h' (by omega),fun _=>h⟩
  ·unfold Za5
   exact ⟨fun _=>⟨by omega,_,Xb hi,fun _=>hq,fun h'=>absurd (by simpa using hp) h'⟩,fun h'=>absurd h' (by omega)⟩
  ·unfold Za5
   refine ⟨fun _=>⟨by omega,_,Xb hi,fun h'=>absurd h' (by simpa using hp),fun _=>?_⟩,fun h'=>absurd h' (by omega)⟩
   rw [Yv (by omega) (by omega)];exact ih)
 exact h
theorem Xu8 {a b:List Zd} (ha:a.length<=9223372036854775807):Zf PG 119 [.sl .ext (a.map Zv),.sl .ext (b.map Zv)] (.b (decide (a=b))):=by
 obtain ⟨x,rfl,h⟩:=Xnb H.f119 (s10:=a) (s21:=b) (K:=fun x=>x=decide (a=b)) (by
  unfold Zlh
  refine ⟨fun h=>(decide_eq_false fun e=>h (by rw [e])).symm,fun h P hP=>?_⟩
  have h5:a.length=b.length:=by omega
  refine Uh (P:=P) a.length (fun i=>a.take i=b.take i) (by simp) (fun hI=>hP _ ?_) (fun i hi hI ihP=>hP _ ?_)
  ·unfold Zir Zv7
   refine ⟨fun h=>absurd h (by omega),fun _=>?_⟩
   rw [List.take_length,h5,List.take_length] at hI
   exact (decide_eq_true hI).symm
  ·have hi2:i<b.length:=by omega
   unfold Zir
   refine ⟨fun _=>⟨by omega,_,Xb hi,by omega,_,Xb hi2,fun h6=>?_,fun h6=>?_⟩,fun h=>absurd h (by omega)⟩
   ·refine (decide_eq_false fun e=>h6 ?_).symm
    subst e;rfl
   ·rw [Yv (by omega) (by omega)]
    refine ihP ?_
    rw [List.take_succ_eq_append_getElem hi,List.take_succ_eq_append_getElem hi2,hI,Decidable.not_not.1 h6])
 exact h
end
end Go.AM

/- Yg of the proof. -/
namespace Go.AM
open Go
theorem Fd {m:Ze} {x:Zg} (h:Jj m x≠true):(8:Int)=Uc m x:=by unfold Uc;rw [if_neg h]
theorem Za3 {m:Ze} {x:Zg} (h:Jj m x=true):(0:Int)=Uc m x:=by unfold Uc;rw [if_pos h]
theorem Fj {m:Ze} {n:Int} (h0:0<=n) (h1:n<m.funcs.length) :∃f,m.funcs[n.toNat]?=some f/\f∈m.funcs:=by
 have h:n.toNat<m.funcs.length:=by omega
 exact ⟨m.funcs[n.toNat],List.getElem?_eq_getElem h,List.getElem_mem h⟩
theorem Yfp {n:Int} {l:List Yb} {i:Nat} (hi:i<l.length):Kd n (-1) (l.take (i+1))=(Kd n (-1) (l.take i)&&decide (Mv (-1) (l.take i)<l[i].slot)&&decide (l[i].slot<n)&&Va l[i].value):=by
 rw [List.take_succ_eq_append_getElem hi,Yq8]
section
variable {PG:Za} (H:HasF PG)
include H
theorem c86 {m:Ze} {x:Zg} (hm:Wd m) (hx:Uo x):Zf PG 86 [m.av,x.av] (.i .i64 (Uc m x)):=by
 obtain ⟨y,rfl,h⟩:=p86 H.f86 (m0:=m) (x1:=x) (K:=fun y=>y=Uc m x) (by
  unfold Zpn Zu0
  have no:¬(0<=x.func/\x.mode<=3/\∃f,m.funcs[x.func.toNat]?=some f/\Sf f x=true)->(8:Int)=Uc m x:=fun h=>Fd fun h'=>h (Mq.1 h')
  refine ⟨fun h=>no (by omega),fun h0=>⟨fun h=>no ?_,fun h1=>⟨fun h=>no (by omega),fun h2=>?_⟩⟩⟩
  ·rintro ⟨_,_,f,hf,_⟩
   rw [List.getElem?_eq_none (by omega)] at hf
   cases hf
  obtain ⟨f,hf,hmem⟩:=Fj (m:=m) (n:=x.func) (by omega) (by omega)
  obtain ⟨q1,q2,q3,q4⟩:=hm.f f hmem
  have no:Sf f x≠true->(8:Int)=Uc m x:=fun h=>no (by
   rintro ⟨_,_,g,hg,h'⟩
   rw [hf] at hg
   cases hg
   exact h h')
  have no:¬(f.slots.length<=16/\f.name.length<=16/\0<=x.pos/\x.pos<f.code.length/\(∀s∈f.slots,s.name.length<=16)/\Kd f.slots.length (-1) x.locals=true)->(8:Int)=Uc m x:=fun h=>no fun h'=>h (Cl.1 h')
  unfold Zo3 Zuy
  refine ⟨by omega,f,hf,fun h=>no (by omega),fun k1=>⟨fun h=>no (by omega),fun k2=>⟨fun h=>no (by omega),fun k3=>⟨fun h=>no (by omega),fun k4=>⟨_,fun o=>Wsq H (l:=f.slots) (f:=(123,[])) (p:=fun s=>decide (16<s.name.length)) (by omega) (fun s _=>Xnx H s) o,fun h=>no ?_,fun h=>?_⟩⟩⟩⟩⟩
  ·rintro ⟨_,_,_,_,h',_⟩
   rw [List.any_eq_true] at h
   obtain ⟨s,hs,h3⟩:=h
   have:=h' s hs
   simp only [decide_eq_true_eq] at h3
   omega
  have hs :∀s∈f.slots,s.name.length<=16:=by
   intro s hs
   rw [List.any_eq_false] at h
   simpa using h s hs
  have no:Kd f.slots.length (-1) x.locals≠true->(8:Int)=Uc m x:=fun h=>no (by rintro ⟨_,_,_,_,_,h'⟩;exact h h')
  unfold Zqr
  intro P hP
  have hn:=hx.n
  have go :∀k i:Nat,i+k=x.locals.length->Kd f.slots.length (-1) (x.locals.take i)=true->P (Mv (-1) (x.locals.take i)) (i:Int) f:=by
   intro k
   induction k with
   | zero=>
    intro i hi ha
    apply hP
    unfold Zhf Zqi
    refine ⟨fun h=>absurd h (by omega),fun _=>Za3 ?_⟩
    rw [List.take_of_length_le (by omega)] at ha
    exact Mq.2 ⟨by omega,by omega,f,hf,Cl.2 ⟨by omega,by omega,by omega,by omega,hs,ha⟩⟩
   | succ k ih=>
    intro i hi ha
    have hil:i<x.locals.length:=by omega
    have e:=Yfp (n:=f.slots.length) hil
    have no:Kd f.slots.length (-1) (x.locals.take (i+1))=false->(8:Int)=Uc m x:=fun h=>no (by rw [Yee h];decide)
    rw [ha,Bool.true_and] at e
    apply hP
    unfold Zhf
    refine ⟨fun _=>⟨by omega,_,Xb hil,fun h=>no ?_,fun h3=>⟨fun h=>no ?_,fun h4=>⟨_,c76 H.toHas38 (hx.v _ (List.getElem_mem hil)),fun h=>no ?_,fun h5=>?_⟩⟩⟩,fun h=>absurd (show (i:Int)<x.locals.length by omega) h⟩
    ·rw [e,decide_eq_false (by omega)];rfl
    ·rw [e,decide_eq_false (p:=x.locals[i].slot<_) (by omega)];simp
    ·rw [e,show Va x.locals[i].value=false by rw [<- Bool.not_eq_true];exact fun h'=>h (Gr.2 h')];simp
    ·rw [Yv (by omega) (by omega)]
     have h6:=Gr.1 (Decidable.not_not.1 h5)
     have:=ih (i+1) (by omega) (by rw [e,h6,decide_eq_true (by omega),decide_eq_true (by omega)];rfl)
     rw [List.take_succ_eq_append_getElem hil,Zlc] at this
     exact this
  exact go x.locals.length 0 (by omega) rfl)
 exact h
theorem c87 {m:Ze} {x:Zg} (hm:Wd m) (hx:Uo x):Zf PG 87 [m.av,x.av] (.i .i64 (Uc m x)):=by
 obtain ⟨y,rfl,h⟩:=p87 H.f87 (m0:=m) (x1:=x) (K:=fun y=>y=Uc m x) (by
  unfold Znt Zqh
  have no:¬(0<=x.func/\x.mode<=3/\∃f,m.funcs[x.func.toNat]?=some f/\Sf f x=true)->(8:Int)=Uc m x:=fun h=>Fd fun h'=>h (Mq.1 h')
  refine ⟨fun h=>no (by omega),fun h0=>⟨fun h=>no ?_,fun h1=>⟨fun h=>no (by omega),fun h2=>?_⟩⟩⟩
  ·rintro ⟨_,_,f,hf,_⟩
   rw [List.getElem?_eq_none (by omega)] at hf
   cases hf
  obtain ⟨f,hf,hmem⟩:=Fj (m:=m) (n:=x.func) (by omega) (by omega)
  obtain ⟨q1,q2,q3,q4⟩:=hm.f f hmem
  have no:Sf f x≠true->(8:Int)=Uc m x:=fun h=>no (by
   rintro ⟨_,_,g,hg,h'⟩
   rw [hf] at hg
   cases hg
   exact h h')
  have no:¬(f.slots.length<=16/\f.name.length<=16/\0<=x.pos/\x.pos<f.code.length/\(∀s∈f.slots,s.name.length<=16)/\Kd f.slots.length (-1) x.locals=true)->(8:Int)=Uc m x:=fun h=>no fun h'=>h (Cl.1 h')
  unfold Zll Zma
  refine ⟨by omega,f,hf,fun h=>no (by omega),fun k1=>⟨fun h=>no (by omega),fun k2=>⟨fun h=>no (by omega),fun k3=>⟨fun h=>no (by omega),fun k4=>?_⟩⟩⟩⟩
  unfold Zkf
  intro P0 hP0
  refine Uh (P:=fun i=>P0 i x f) f.slots.length (fun i=>∀s∈f.slots.take i,s.name.length<=16) (by simp) (fun hs=>hP0 _ _ _ ?_) fun i hi hI ihP=>hP0 _ _ _ ?_
  ·rw [List.take_length] at hs
   have no:Kd f.slots.length (-1) x.locals≠true->(8:Int)=Uc m x:=fun h=>no (by rintro ⟨_,_,_,_,_,h'⟩;exact h h')
   unfold Zhk
   refine ⟨fun h=>absurd h (by omega),fun _=>?_⟩
   unfold Zpp
   intro P hP
   have hn:=hx.n
   have go :∀k i:Nat,i+k=x.locals.length->Kd f.slots.length (-1) (x.locals.take i)=true->P (i:Int) x f:=by
    intro k
    induction k with
    | zero=>
     intro i hi ha
     apply hP
     unfold Zi8 Zsm
     refine ⟨fun h=>absurd h (by omega),fun _=>Za3 ?_⟩
     rw [List.take_of_length_le (by omega)] at ha
     exact Mq.2 ⟨by omega,by omega,f,hf,Cl.2 ⟨by omega,by omega,by omega,by omega,hs,ha⟩⟩
    | succ k ih=>
     intro i hi ha
     have hil:i<x.locals.length:=by omega
     have e:=Yfp (n:=f.slots.length) hil
     have no:Kd f.slots.length (-1) (x.locals.take (i+1))=false->(8:Int)=Uc m x:=fun h=>no (by rw [Yee h];decide)
     rw [ha,Bool.true_and] at e
     have last:0<i->∃y:Yb,x.locals[i-1]?=some y/\Mv (-1) (x.locals.take i)=y.slot:=by
      intro h0
      have h1:i-1<x.locals.length:=by omega
      refine ⟨x.locals[i-1],List.getElem?_eq_getElem h1,?_⟩
      have:=List.take_succ_eq_append_getElem h1
      rw [show i-1+1=i by omega] at this
      rw [this,Zlc]
     have fin:(Mv (-1) (x.locals.take i)<x.locals[i].slot)->x.locals[i].slot<f.slots.length->∃r:Int,Zf PG 77 [x.locals[i].value.av] (.i .i64 r)/\(r≠0->(8:Int)=Uc m x)/\(¬(r≠0)->P (IntKind.i64.wrap ((i:Int)+1)) x f):=by
      intro h3 h4
      refine ⟨_,Az H.toHas38 (hx.v _ (List.getElem_mem hil)),fun h=>no ?_,fun h5=>?_⟩
      ·rw [e,show Va x.locals[i].value=false by rw [<- Bool.not_eq_true];exact fun h'=>h (Gr.2 h')];simp
      ·rw [Yv (by omega) (by omega)]
       have h6:=Gr.1 (Decidable.not_not.1 h5)
       exact ih (i+1) (by omega) (by rw [e,h6,decide_eq_true h3,decide_eq_true h4];rfl)
     have low:0<i->0<=Mv (-1) (x.locals.take i):=by
      intro h0
      obtain ⟨y,h1,h2⟩:=last h0
      rw [h2]
      have h3:=Zbr ha y (by
       rw [List.mem_take_iff_getElem]
       obtain ⟨h4,h5⟩:=List.getElem?_eq_some_iff.1 h1
       exact ⟨i-1,by omega,h5⟩)
      omega
     apply hP
     unfold Zi8
     refine ⟨fun _=>⟨by omega,_,Xb hil,fun h=>no ?_,fun h3=>⟨fun h=>no ?_,fun h4=>⟨fun h5=>?_,fun h5=>fin ?_ (by omega)⟩⟩⟩,fun h=>absurd (show (i:Int)<x.locals.length by omega) h⟩
     ·rw [e,decide_eq_false ?_];· rfl
      by_cases h0:0<i
      ·have:=low h0;omega
      ·have:i=0:=by omega
       subst this
       show ¬((-1:Int)<_)
       omega
     ·rw [e,decide_eq_false (p:=x.locals[i].slot<_) (by omega)];simp
     ·obtain ⟨y,h6,h7⟩:=last (by omega)
      have hw:IntKind.i64.wrap ((i:Int)-1)=((i-1:Nat):Int):=by rw [Yv (by omega) (by omega)];omega
      rw [hw]
      refine ⟨by omega,y,by rw [Gd];exact h6,fun h=>no ?_,fun h=>fin (by omega) (by omega)⟩
      rw [e,decide_eq_false (by omega)];rfl
     ·have:i=0:=by omega
      subst this
      show (-1:Int)<_
      omega
   exact go x.locals.length 0 (by omega) rfl
  ·unfold Zhk
   refine ⟨fun _=>⟨by omega,_,Xb hi,fun h=>no ?_,fun h=>?_⟩,fun h=>absurd (show (i:Int)<f.slots.length by omega) h⟩
   ·rintro ⟨_,_,_,_,h',_⟩
    have:=h' _ (List.getElem_mem hi)
    omega
   ·rw [Yv (by omega) (by omega)]
    refine ihP fun s hs=>?_
    rw [List.take_succ_eq_append_getElem hi] at hs
    rcases List.mem_append.1 hs with hs | hs
    ·exact hI s hs
    ·rw [List.mem_singleton.1 hs];omega)
 exact h
end
end Go.AM

/- Yg of the proof. -/
namespace Go.AM
open Go
theorem Zud {f:Zz} {n:Int} (h0:0<=n) (h1:n<f.slots.length) :∃s,f.slots[n.toNat]?=some s/\s∈f.slots/\Ma f n=s.name:=by
 have h:n.toNat<f.slots.length:=by omega
 refine ⟨f.slots[n.toNat],List.getElem?_eq_getElem h,List.getElem_mem h,?_⟩
 unfold Ma
 rw [List.getElem?_eq_getElem h]
 rfl
theorem Zg0 {α β:Type} (g:α->β) {l:List α} {i:Nat} (h:i<l.length):(l.take (i+1)).map g=(l.take i).map g++[g l[i]]:=by
 rw [List.take_succ_eq_append_getElem h,List.map_append]
 rfl
theorem Nr {m:Ze} {x:Zg} {f:Zz} (h:m.funcs[x.func.toNat]?=some f) (k:Int):Js m k x=Gy f k x::x.locals.map (Gp f):=by
 unfold Js
 rw [h]
theorem Yj3 {m:Ze} {k:Int} {x:Zg} (h:k<0\/170<=k):Uz m k x=([],2):=by unfold Uz;rw [if_pos h]
theorem Yvi {m:Ze} {k:Int} {x:Zg} (h:¬(k<0\/170<=k)) (h1:Jj m x≠true):Uz m k x=([],8):=by unfold Uz;rw [if_neg h,if_neg h1]
theorem Znu {m:Ze} {k:Int} {x:Zg} (h:¬(k<0\/170<=k)) (h1:Jj m x=true):Uz m k x=(Js m k x,0):=by unfold Uz;rw [if_neg h,if_pos h1]
noncomputable def To (a b:Zg):Bool:=@decide (a=b) (Classical.propDecidable _)
theorem Zvs {v w:Zg}:To v w=true↔v=w:=by unfold To;simp
theorem Yqw {v w:Zg}:To v w=false↔v≠w:=by rw [<- Bool.not_eq_true,Zvs]
noncomputable def Pa (a b:List Yb):Bool:=@decide (a=b) (Classical.propDecidable _)
theorem Yc5 {v w:List Yb}:Pa v w=true↔v=w:=by unfold Pa;simp
theorem Xec {v w:List Yb}:Pa v w=false↔v≠w:=by rw [<- Bool.not_eq_true,Yc5]
section
variable {PG:Za} (H:HasF PG)
include H
theorem c82 {m:Ze} {k:Int} {x:Zg} (hm:Wd m) (hx:Uo x):Zf PG 82 [m.av,.i .i64 k,x.av] (.tup [.sl .ext ((Uz m k x).1.map Zv),.i .i64 (Uz m k x).2]):=by
 obtain ⟨y,z,⟨rfl,rfl⟩,h⟩:=p82 H.f82 (m0:=m) (k1:=k) (x2:=x) (K:=fun y z=>y=(Uz m k x).1/\z=(Uz m k x).2) (by
  unfold Zjn Zsc
  refine ⟨fun h=>by rw [Yj3 (.inl h)];exact ⟨rfl,rfl⟩,fun h0=>⟨fun h=>by rw [Yj3 (.inr h)];exact ⟨rfl,rfl⟩,fun h1=>?_⟩⟩
  unfold Zqk
  refine ⟨_,c86 H hm hx,fun h=>?_,fun h=>?_⟩
  ·by_cases hb:Jj m x=true
   ·rw [<- Za3 hb] at h;exact absurd rfl h
   ·rw [Yvi (by omega) hb,<- Fd hb];exact ⟨rfl,rfl⟩
  have hb:Jj m x=true:=by
   by_cases hb:Jj m x=true
   ·exact hb
   ·rw [<- Fd hb] at h;exact absurd (by decide) h
  rw [Znu (by omega) hb]
  obtain ⟨f0,f1,f,hf,hF⟩:=Mq.1 hb
  obtain ⟨g1,g2,g3,g4,g5,g6⟩:=Cl.1 hF
  have hmem:=List.mem_of_getElem? hf
  obtain ⟨q1,q2,q3,q4⟩:=hm.f f hmem
  have hn:=hm.n
  have hfl:x.func<m.funcs.length:=by
   have:=(List.getElem?_eq_some_iff.1 hf).1
   omega
  have l1:=Qc k
  have l2:=Qc x.func
  have l3:=Qc x.pos
  have l4:=Be f.name
  have l5:=Zyp hx.m f1
  rw [Nr hf]
  unfold Zo9
  refine ⟨f0,f,hf,?_⟩
  unfold Zv2
  refine ⟨_,Zcf H (by omega) (by omega),?_,?_,_,Zcf H (by omega) (by omega),?_,?_,_,Zgf H (by omega),?_,?_,_,Zcf H (by omega) (by omega),?_,?_,_,Yrd H,rfl,hx.m,_,Xlu hx.m f1,?_,fun P hP=>?_⟩
  all_goals try (rw [Uq];simp only [List.length_append,List.length_cons,List.length_nil];omega)
  have len:=Zni g6
  have hn2:x.locals.length<=16:=by
   rcases len with h | h
   ·rw [h];exact Nat.zero_le _
   ·omega
  refine Dz (P:=fun o i=>P o i f) (fun i=>Gy f k x::(x.locals.take i).map (Gp f)) x.locals.length (hP _ _ _ ?_) fun i hi ih=>hP _ _ _ ?_
  ·unfold Zds Zpe
   rw [List.take_length]
   exact ⟨fun h=>absurd h (by omega),fun _=>⟨rfl,rfl⟩⟩
  ·obtain ⟨a1,a2,a3⟩:=Zbr g6 _ (List.getElem_mem hi)
   obtain ⟨s,b1,b2,b3⟩:=Zud (f:=f) (n:=x.locals[i].slot) (by omega) (by omega)
   have c1:=Qc x.locals[i].slot
   have c2:=Be s.name
   have c3:=q4 s b2
   have c4:=Td a3
   unfold Zds
   refine ⟨fun _=>⟨by omega,_,Xb hi,_,_,c72 H.toHas38 (hx.v _ (List.getElem_mem hi)),fun h=>absurd (Gr.2 a3) h,fun _=>?_⟩,fun h=>absurd (show (i:Int)<x.locals.length by omega) h⟩
   rw [if_pos a3]
   refine ⟨_,Zcf H (by omega) (by omega),?_,?_,by omega,s,b1,_,Zgf H (by omega),?_,?_,?_,⟨?_,?_⟩,?_⟩
   all_goals try (rw [Uq];simp only [List.length_append,List.length_cons,List.length_nil];omega)
   all_goals try (rw [Wt];simp only [List.length_append,List.length_cons,List.length_nil,List.length_map,List.length_take];omega)
   rw [Yv (by omega) (by omega)]
   rw [Zg0 (Gp f) hi] at ih
   unfold Gp at ih ⊢
   rw [b3] at ih
   exact ih)
 exact h
theorem Xjo {a b:List Yb} (ha:a.length<=9223372036854775807) (hw :∀l∈a,Wf l.value):Zf PG 124 [.sl .ext (a.map Yb.row),.sl .ext (b.map Yb.row)] (.b (Pa a b)):=by
 obtain ⟨x,rfl,h⟩:=Wp1 H.f124 (a0:=a) (b1:=b) (K:=fun x=>x=Pa a b) (by
  have no :∀{p:Prop},(a=b->p)->¬p->false=Pa a b:=fun h1 h2=>(Xec.2 fun h=>h2 (h1 h)).symm
  unfold Zu4
  refine ⟨fun h=>no (fun e=>by rw [e]) h,fun h P hP=>?_⟩
  have h5:a.length=b.length:=by omega
  refine Uh (P:=P) a.length (fun i=>a.take i=b.take i) (by simp) (fun hI=>hP _ ?_) (fun i hi hI ihP=>hP _ ?_)
  ·unfold Zg5 Zl8
   refine ⟨fun h=>absurd h (by omega),fun _=>?_⟩
   rw [List.take_length,h5,List.take_length] at hI
   exact (Yc5.2 hI).symm
  ·have hi2:i<b.length:=by omega
   unfold Zg5
   refine ⟨fun _=>⟨by omega,_,Xb hi,by omega,_,Xb hi2,fun h6=>no (p:=a[i].slot=b[i].slot) (fun e=>by subst e;rfl) h6,fun h6=>⟨by omega,_,Xb hi,by omega,_,Xb hi2,_,c78 H.toHas38 (hw _ (List.getElem_mem hi)) _,fun h7=>no (p:=a[i].value=b[i].value) (fun e=>by subst e;rfl) (Ec.1 (by simpa using h7)),fun h7=>?_⟩⟩,fun h=>absurd (show (i:Int)<a.length by omega) h⟩
   rw [Yv (by omega) (by omega)]
   refine ihP ?_
   have e1:a[i].slot=b[i].slot:=Decidable.not_not.1 h6
   have e2:a[i].value=b[i].value:=Ri.1 (by simpa using h7)
   have e:a[i]=b[i]:=by
    cases ha:a[i];cases hb:b[i]
    rw [ha,hb] at e1 e2
    simp only at e1 e2
    rw [e1,e2]
   rw [List.take_succ_eq_append_getElem hi,List.take_succ_eq_append_getElem hi2,hI,e])
 exact h
theorem c88 {a b:Zg} (ha:Uo a):Zf PG 88 [a.av,b.av] (.b (To a b)):=by
 obtain ⟨x,rfl,h⟩:=p88 H.f88 (a0:=a) (b1:=b) (K:=fun x=>x=To a b) (by
  have no :∀{p:Prop},(a=b->p)->¬p->false=To a b:=fun h1 h2=>(Yqw.2 fun h=>h2 (h1 h)).symm
  unfold Zns
  refine ⟨fun h1=>⟨fun h2=>⟨fun h3=>⟨_,Xjo H ha.n ha.v,?_⟩,fun h=>no (fun e=>by rw [e]) h⟩,fun h=>no (fun e=>by rw [e]) h⟩,fun h=>no (fun e=>by rw [e]) h⟩
  cases a;cases b
  simp only at h1 h2 h3 ⊢
  subst h1;subst h2;subst h3
  unfold Pa To
  simp)
 exact h
theorem c79 {m:Ze} (hn:m.funcs.length<=9223372036854775807):Zf PG 79 [m.av] (.b (Sh m)):=by
 obtain ⟨x,rfl,h⟩:=p79 H.f79 (m0:=m) (K:=fun x=>x=Sh m) (by
  unfold Zq7
  intro P hP
  have fin:(m.funcs.take 41).any Bp=false->Ex PG (fun x=>x=Sh m) m:=by
   intro h
   unfold Ex Sh
   rw [h,Bool.false_or]
   exact decide_eq_decide.2 (by omega)
  refine Uh (P:=fun i=>P i m) (min m.funcs.length 41) (fun i=>(m.funcs.take i).any Bp=false) (by simp) (fun hI=>hP _ _ ?_) fun i hi hI ihP=>hP _ _ ?_
  ·unfold Zgb
   refine ⟨fun h=>⟨fun h'=>absurd h' (by omega),fun _=>fin ?_⟩,fun h=>fin ?_⟩
   ·rwa [show min m.funcs.length 41=41 by omega] at hI
   ·rw [show min m.funcs.length 41=m.funcs.length by omega,List.take_length] at hI
    rw [List.any_eq_false] at hI ⊢
    exact fun x hx=>hI x (List.mem_of_mem_take hx)
  ·have hil:i<m.funcs.length:=by omega
   have yes:Bp m.funcs[i]=true->true=Sh m:=by
    intro h
    unfold Sh
    rw [List.any_eq_true.2 ⟨m.funcs[i],by rw [List.mem_take_iff_getElem];exact ⟨i,by omega,rfl⟩,h⟩]
    rfl
   have go:Bp m.funcs[i]=false->P (IntKind.i64.wrap ((i:Int)+1)) m:=by
    intro h
    rw [Yv (by omega) (by omega)]
    exact ihP (by rw [List.take_succ_eq_append_getElem hil,List.any_append,hI];simpa using h)
   unfold Zgb
   refine ⟨fun _=>⟨fun _=>?_,fun h=>absurd (show (i:Int)<=40 by omega) h⟩,fun h=>absurd (show (i:Int)<m.funcs.length by omega) h⟩
   unfold Zqx
   refine ⟨by omega,_,Xb hil,fun h=>yes (by unfold Bp;simp;omega),fun h1=>⟨fun h=>yes (by unfold Bp;simp;omega),fun h2=>⟨fun h=>yes (by unfold Bp;simp;omega),fun h3=>?_⟩⟩⟩
   unfold Zpk
   intro P1 hP1
   refine Uh (P:=fun i=>P1 i m _) m.funcs[i].slots.length (fun j=>(m.funcs[i].slots.take j).any Ot=false) (by simp) (fun hJ=>hP1 _ _ _ ?_) fun j hj hJ ihJ=>hP1 _ _ _ ?_
   ·unfold Zcn Zpd
    refine ⟨fun h=>absurd h (by omega),fun _=>go ?_⟩
    rw [List.take_length] at hJ
    unfold Bp
    rw [hJ,decide_eq_false (by omega),decide_eq_false (by omega),decide_eq_false (by omega)]
    rfl
   ·unfold Zcn
    refine ⟨fun _=>⟨by omega,_,Xb hj,fun h=>yes ?_,fun h=>?_⟩,fun h=>absurd (show (j:Int)<m.funcs[i].slots.length by omega) h⟩
    ·unfold Bp
     rw [List.any_eq_true.2 ⟨_,List.getElem_mem hj,by unfold Ot;exact decide_eq_true (by omega)⟩,Bool.or_true]
    ·rw [Yv (by omega) (by omega)]
     refine ihJ ?_
     rw [List.take_succ_eq_append_getElem hj,List.any_append,hJ]
     simp [Ot]
     omega)
 exact h
theorem c80 {x:Zg} (hx:Uo x):Zf PG 80 [x.av] (.b (Cg x)):=by
 obtain ⟨y,rfl,h⟩:=p80 H.f80 (x0:=x) (K:=fun y=>y=Cg x) (by
  unfold Zst
  intro P hP
  have hn:=hx.n
  have fin:(x.locals.take 21).any (fun l=>Bi l.value)=false->Zau PG (fun y=>y=Cg x) x:=by
   intro h
   unfold Zau Cg
   rw [h,Bool.false_or]
   exact decide_eq_decide.2 (by omega)
  refine Uh (P:=fun i=>P i x) (min x.locals.length 21) (fun i=>(x.locals.take i).any (fun l=>Bi l.value)=false) (by simp) (fun hI=>hP _ _ ?_) fun i hi hI ihP=>hP _ _ ?_
  ·unfold Zf4
   refine ⟨fun h=>⟨fun h'=>absurd h' (by omega),fun _=>fin ?_⟩,fun h=>fin ?_⟩
   ·rwa [show min x.locals.length 21=21 by omega] at hI
   ·rw [show min x.locals.length 21=x.locals.length by omega,List.take_length] at hI
    rw [List.any_eq_false] at hI ⊢
    exact fun x hx=>hI x (List.mem_of_mem_take hx)
  ·have hil:i<x.locals.length:=by omega
   unfold Zf4 Zmw
   refine ⟨fun _=>⟨fun _=>⟨by omega,_,Xb hil,_,c71 H.toHas38 (hx.v _ (List.getElem_mem hil)),fun h=>?_,fun h=>?_⟩,fun h=>absurd (show (i:Int)<=20 by omega) h⟩,fun h=>absurd (show (i:Int)<x.locals.length by omega) h⟩
   ·unfold Cg
    rw [List.any_eq_true.2 ⟨x.locals[i],by rw [List.mem_take_iff_getElem];exact ⟨i,by omega,rfl⟩,h⟩]
    rfl
   ·rw [Yv (by omega) (by omega)]
    exact ihP (by rw [List.take_succ_eq_append_getElem hil,List.any_append,hI];simpa using h))
 exact h
end
end Go.AM

/- Yg of the proof. -/
namespace Go.AM
open Go
structure HasG (PG:Za):Prop extends HasF PG where
 f84:PG.fn 84=some Il
 f117:PG.fn 117=some Pp
 f118:PG.fn 118=some It
 f140:PG.fn 140=some Lm
 f143:PG.fn 143=some Zpl
theorem Yoj {m:Ze} {n:Int} {f:Zz} (h:m.funcs[n.toNat]?=some f):Qq m n=f.name:=by unfold Qq;rw [h];rfl
theorem Wmt {m:Ze} {n:Int} {f:Zz} (h:m.funcs[n.toNat]?=some f):Ga m n=(f.code.length:Int):=by unfold Ga;rw [h];rfl
theorem Wok (a:Int):(if 0<a then a else 0)=max 0 a:=by
 by_cases h:0<a
 ·rw [if_pos h];omega
 ·rw [if_neg h];omega
theorem Zld (n:Int) (s:Zd):(Yw n s).2.2.length<=s.length:=Ylj s
section
variable {PG:Za} (H:HasG PG)
include H
theorem Zd7 {n:Int} {s:Zd} (hs:s.length<=1000000000):Yt PG 140 (Bx [.s s]) [.i .i64 n] (fun r=>r=.tup [.i .i64 (Yw n s).1,.b (Yw n s).2.1]) (Bx [.s (Yw n s).2.2]):=by
 refine (Wfs H.f140 (n1:=n) (mP:=⟨s⟩) (K:=fun x y b=>x=(Yw n s).1/\y=(Yw n s).2.1/\b=⟨(Yw n s).2.2⟩) ?_).to (b:=⟨(Yw n s).2.2⟩) fun r b' hk=>?_
 ·unfold Zvi
  refine ⟨_,_,⟨_⟩,Zyz H.toHas38 hs,fun h=>⟨fun h1=>⟨rfl,?_,rfl⟩,fun h1=>⟨rfl,?_,rfl⟩⟩,fun h=>⟨rfl,?_,rfl⟩⟩
  ·unfold Yw;simp only [h,decide_eq_true (show 0<=(Ku s).1 by omega),Bool.true_and]
  ·unfold Yw;simp only [h,decide_eq_false (show ¬0<=(Ku s).1 by omega),Bool.true_and,Bool.false_and]
  ·unfold Yw;simp only [h,Bool.false_and]
 ·obtain ⟨x0,x1,h1,rfl,rfl,rfl⟩:=hk
  exact ⟨h1,rfl⟩
abbrev FrA (r:Int × Zg × Bool):AV:=.tup [.i .i64 r.1,r.2.1.avo .full,.b r.2.2]
theorem Wh7 {m:Ze} (hm:Wd m) {s:Zd} (hs:s.length<=1000000000):Yp PG 117 [m.av,.s s] (fun r=>r=FrA (Vv m s)):=by
 refine (Xwi H.f117 (m0:=m) (line1:=s) (K:=fun x y z=>x=(Vv m s).1/\y=(Vv m s).2.1/\z=(Vv m s).2.2) ?_).to ?_
 ·have hn:=hm.n
  unfold Zou Zmb Zuc Zlp
  refine ⟨_,⟨(Zp [35] s).1⟩,Uv H.toHas38 [35] s,fun h=>?_,fun h=>?_⟩
  ·unfold Vv
   rw [if_pos (by simpa using h)]
   exact ⟨rfl,rfl,rfl⟩
  have e:Vv m s=Mt m (Zp [35] s).1:=by unfold Vv;rw [if_neg (by simpa using h)]
  rw [e]
  have hl:(Zp [35] s).1.length<=1000000000:=Nat.le_trans (Kl _ _) hs
  clear e h hs
  generalize (Zp [35] s).1=t at hl ⊢
  unfold Zmz Zuq Zik
  refine ⟨_,_,⟨(Yw 170 t).2.2⟩,Zd7 H hl,fun h=>⟨fun _=>?_,fun h'=>(by cases h')⟩,fun h=>⟨_,⟨(Zp [32] (Yw 170 t).2.2).1⟩,Uv H.toHas38 [32] _,fun h2=>?_,fun h2=>?_⟩⟩
  ·unfold Mt
   rw [if_pos (by simpa using h)]
   exact ⟨rfl,rfl,rfl⟩
  ·unfold Mt
   rw [if_neg (by simpa using h),if_pos (by simpa using h2)]
   exact ⟨rfl,rfl,rfl⟩
  have e:Mt m t=Mw m (Yw 170 t).1 (Zp [32] (Yw 170 t).2.2).1:=by unfold Mt;rw [if_neg (by simpa using h),if_neg (by simpa using h2)]
  rw [e]
  have hl:(Zp [32] (Yw 170 t).2.2).1.length<=1000000000:=Nat.le_trans (Kl _ _) (Nat.le_trans (Zld _ _) hl)
  clear e h h2
  generalize (Zp [32] (Yw 170 t).2.2).1=u at hl ⊢
  generalize (Yw 170 t).1=k
  unfold Zkg Ztp Zex
  refine ⟨_,_,⟨(Yw m.funcs.length u).2.2⟩,Zd7 H hl,fun h=>⟨fun _=>?_,fun h'=>(by cases h')⟩,fun h=>?_⟩
  ·unfold Mw
   rw [if_pos (by simpa using h)]
   exact ⟨rfl,rfl,rfl⟩
  have h:(Yw m.funcs.length u).2.1=true:=by simpa using h
  have hr:=Zgz _ _ h
  obtain ⟨f,hf,hmem⟩:=Fj hr.1 hr.2
  obtain ⟨q1,q2,q3,q4⟩:=hm.f f hmem
  have q5:=Be f.name
  refine ⟨hr.1,f,hf,_,Zgf H.toHasF (by omega),?_,?_,_,⟨(Zp ([32]++quo f.name++[32,97,116,32]) (Yw m.funcs.length u).2.2).1⟩,Uv H.toHas38 _ _,fun h2=>?_,fun h2=>?_⟩
  ·rw [Uq];simp only [List.length_append,List.length_cons,List.length_nil];omega
  ·rw [Uq];simp only [List.length_append,List.length_cons,List.length_nil];omega
  ·unfold Mw
   rw [if_neg (by rw [h];decide),Yoj hf,if_pos (by simpa using h2)]
   exact ⟨rfl,rfl,rfl⟩
  have e:Mw m k u=Na m k (Yw m.funcs.length u).1 (Zp ([32]++quo f.name++[32,97,116,32]) (Yw m.funcs.length u).2.2).1:=by
   unfold Mw
   rw [if_neg (by rw [h];decide),Yoj hf,if_neg (by simpa using h2)]
  rw [e]
  have hl:(Zp ([32]++quo f.name++[32,97,116,32]) (Yw m.funcs.length u).2.2).1.length<=1000000000:=Nat.le_trans (Kl _ _) (Nat.le_trans (Zld _ _) hl)
  clear e h h2 q5
  generalize (Zp ([32]++quo f.name++[32,97,116,32]) (Yw m.funcs.length u).2.2).1=v at hl ⊢
  generalize (Yw m.funcs.length u).1=fi at hr hf ⊢
  have hc:=Wmt hf
  unfold Zod Zf7
  refine ⟨hr.1,f,hf,_,_,⟨(Yw (Ga m fi) v).2.2⟩,by rw [hc];exact Zd7 H hl,fun h=>⟨fun _=>?_,fun h'=>(by cases h')⟩,fun h=>⟨_,⟨(Zp [32] (Yw (Ga m fi) v).2.2).1⟩,Uv H.toHas38 [32] _,fun h2=>?_,fun h2=>?_⟩⟩
  ·unfold Na
   rw [if_pos (by rw [hc];simpa using h),hc]
   exact ⟨rfl,rfl,rfl⟩
  ·unfold Na
   rw [if_neg (by rw [hc];simpa using h),if_pos (by simpa using h2),hc]
   exact ⟨rfl,rfl,rfl⟩
  have e:Na m k fi v=Lo k fi (Yw (Ga m fi) v).1 (Zp [32] (Yw (Ga m fi) v).2.2).1:=by
   unfold Na
   rw [if_neg (by rw [hc];simpa using h),if_neg (by simpa using h2)]
  rw [e]
  unfold Zne Lo
  have hb:=Xff (Zp [32] (Yw (Ga m fi) v).2.2).1
  refine ⟨_,Yrd H.toHasF,rfl,rfl,_,Ykv H.toHasF (l:=Tu) (by decide) _,rfl,?_,rfl⟩
  rw [Wok,<- hc]
  congr 1
  exact Zbj (show 0<=max 0 (Cs (Zp [32] (Yw (Ga m fi) v).2.2).1) by omega) (show max 0 (Cs (Zp [32] (Yw (Ga m fi) v).2.2).1)<_ by omega)
 ·rintro r ⟨x,y,z,rfl,rfl,rfl,rfl⟩
  rfl
theorem Yzs {f:Zz} (hf:f.slots.length<=30/\∀s∈f.slots,s.name.length<=40) {s:Zd} (hs:s.length<=1000000000) :∃y ok,(ok=(Km f s).isSome/\(ok=true->Km f s=some y))/\Zf PG 118 [f.av,.s s] (.tup [y.av,.b ok]):=by
 refine Xvh H.f118 (f0:=f) (line1:=s) (K:=fun y ok=>ok=(Km f s).isSome/\(ok=true->Km f s=some y)) ?_
 unfold Zvf
 have no:Km f s=none->∀y:Yb,false=(Km f s).isSome/\(false=true->Km f s=some y):=fun h y=>by rw [h];exact ⟨rfl,fun h=>by cases h⟩
 refine ⟨_,⟨(Zp [32,32] s).1⟩,Uv H.toHas38 [32,32] s,fun h=>no ?_ _,fun h=>?_⟩
 ·unfold Km;rw [if_pos (by simpa using h)]
 have hl:(Zp [32,32] s).1.length<=1000000000:=Nat.le_trans (Kl _ _) hs
 refine ⟨_,_,⟨(Yw f.slots.length (Zp [32,32] s).1).2.2⟩,Zd7 H hl,fun h2=>no ?_ _,fun h2=>?_⟩
 ·unfold Km;rw [if_neg (by simpa using h),if_pos (by simpa using h2)]
 have h2':(Yw f.slots.length (Zp [32,32] s).1).2.1=true:=by simpa using h2
 have hr:=Zgz _ _ h2'
 obtain ⟨sl,k1,k2,k3⟩:=Zud hr.1 hr.2
 have q4:=hf.2 sl k2
 have q5:=Be sl.name
 refine ⟨hr.1,sl,k1,_,Zgf H.toHasF (by omega),?_,?_,_,⟨(Zp ([32]++quo sl.name++[32,61,32]) (Yw f.slots.length (Zp [32,32] s).1).2.2).1⟩,Uv H.toHas38 _ _,fun h3=>no ?_ _,fun h3=>?_⟩
 ·rw [Uq];simp only [List.length_append,List.length_cons,List.length_nil];omega
 ·rw [Uq];simp only [List.length_append,List.length_cons,List.length_nil];omega
 ·unfold Km;rw [if_neg (by simpa using h),if_neg (by simpa using h2),k3,if_pos (by simpa using h3)]
 unfold Zn0
 refine ⟨_,_,c74 H.toHas38 (Nat.le_trans (Kl _ _) (Nat.le_trans (Zld _ _) hl)),?_⟩
 unfold Km
 rw [if_neg (by simpa using h),if_neg (by simpa using h2),k3,if_neg (by simpa using h3)]
 split
 ·rename_i h4;exact ⟨by rw [decide_eq_true h4];rfl,fun _=>rfl⟩
 ·rename_i h4;exact ⟨by rw [decide_eq_false h4];rfl,fun h5=>by simp only [decide_eq_true_eq] at h5;exact absurd h5 h4⟩
end
end Go.AM

/- Yg of the proof. -/
namespace Go.AM
open Go
section
variable {PG:Za} (H:HasG PG)
include H
end
end Go.AM

/- Yg of the proof. -/
namespace Go.AM
open Go
theorem Wsy {n:Nat} {l:List Zd} (h:Dq n l=false) :∀s∈l,s.length<=n:=Yhj.1 h
theorem Ym5 (f:Zz) :∀(l:List Zd) (s:Zd),Qo f (l++[s])=(match Qo f l with | none=>none | some ys=>match Km f s with | none=>none | some y=>some (ys++[y]))
 | [],s=>by
  simp only [List.nil_append,Qo]
  try (cases Km f s<;>rfl)
 | x::r,s=>by
  simp only [List.cons_append,Qo,Ym5 f r s]
  cases Km f x with
  | none=>rfl
  | some y=>
   cases Qo f r with
   | none=>rfl
   | some ys=>cases Km f s<;>rfl
theorem Wdk {f:Zz} {l:List Zd} {i:Nat} (hi:i<l.length):Qo f (l.take (i+1))=(match Qo f (l.take i) with | none=>none | some ys=>match Km f l[i] with | none=>none | some y=>some (ys++[y])):=by
 rw [List.take_succ_eq_append_getElem hi,Ym5]
theorem Zy6 {f:Zz} :∀{l:List Zd} {i:Nat},Qo f (l.take i)=none->Qo f l=none
 | [],i,h=>by rw [List.take_nil] at h;exact h
 | x::r,0,h=>by cases h
 | x::r,i+1,h=>by
  simp only [List.take_succ_cons,Qo] at h ⊢
  cases hx:Km f x with
  | none=>rfl
  | some y=>
   rw [hx] at h
   simp only at h ⊢
   cases hr:Qo f (r.take i) with
   | none=>rw [Zy6 hr]
   | some ys=>rw [hr] at h;cases h
theorem Xsf {f:Zz} {s:Zd} {y:Yb} (h:Km f s=some y):Wf y.value:=by
 unfold Km at h
 repeat' split at h
 all_goals first | (cases h;done) | (cases h;exact Zza _)
theorem Zdb {f:Zz} :∀{l:List Zd} {ys:List Yb},Qo f l=some ys->ys.length=l.length/\∀y∈ys,Wf y.value
 | [],ys,h=>by cases h;exact ⟨rfl,by simp⟩
 | s::r,ys,h=>by
  rw [Qo] at h
  cases hx:Km f s with
  | none=>rw [hx] at h;cases h
  | some y=>
   rw [hx] at h
   simp only at h
   cases hr:Qo f r with
   | none=>rw [hr] at h;cases h
   | some zs=>
    rw [hr] at h
    cases h
    obtain ⟨h1,h2⟩:=Zdb hr
    exact ⟨by simp [h1],fun y hy=>by rcases List.mem_cons.1 hy with rfl | hy;exact Xsf hx;exact h2 y hy⟩
def Pr (m:Ze) (l:List Zd) (k:Int) (x:Zg) (f:Zz):Int × Zg × Int:=match Qo f (l.drop 1) with
 | none=>(0,fz,12)
 | some ys=>if Uz m k { x with locals:=ys }=(l,0) then (k,{ x with locals:=ys },0) else (0,fz,12)
theorem Zl7 {m:Ze} {l:List Zd} (h:17<l.length\/Dq 1400060 l=true):Ks m l=(0,fz,4):=by unfold Ks;rw [if_pos h]
theorem Ylr {m:Ze}:Ks m []=(0,fz,12):=by unfold Ks;rw [if_neg (by decide)]
theorem Xoy {m:Ze} {l:List Zd} {s:Zd} (h:¬(17<l.length\/Dq 1400060 l=true)) (hs:l[0]?=some s) (hf:(Vv m s).2.2=false):Ks m l=(0,fz,12):=by
 cases l with
 | nil=>cases hs
 | cons t r=>
  injection hs with hs
  subst hs
  unfold Ks
  rw [if_neg h]
  simp only
  rw [if_pos hf]
theorem Xd8 {m:Ze} {l:List Zd} {s:Zd} {f:Zz} (h:¬(17<l.length\/Dq 1400060 l=true)) (hs:l[0]?=some s) (hf:(Vv m s).2.2=true) (hm:m.funcs[(Vv m s).2.1.func.toNat]?=some f):Ks m l=Pr m l (Vv m s).1 (Vv m s).2.1 f:=by
 cases l with
 | nil=>cases hs
 | cons t r=>
  injection hs with hs
  subst hs
  unfold Ks Pr
  rw [if_neg h]
  simp only
  rw [if_neg (by rw [hf];decide),hm]
  rfl
theorem Yug {l:List Zd}:l.any (fun s=>decide (1400060<s.length))=Dq 1400060 l:=rfl
section
variable {PG:Za} (H:HasG PG)
include H
theorem c84 {m:Ze} (hm:Wd m) {l:List Zd} (hl:l.length<=9223372036854775807):Zf PG 84 [m.av,.sl .ext (l.map Zv)] (.tup [.i .i64 (Ks m l).1,(Ks m l).2.1.av,.i .i64 (Ks m l).2.2]):=by
 obtain ⟨x,y,z,⟨rfl,rfl,rfl⟩,h⟩:=p84 H.f84 (m0:=m) (l1:=l) (K:=fun x y z=>x=(Ks m l).1/\y=(Ks m l).2.1/\z=(Ks m l).2.2) (by
  unfold Zlb Zl5 Ze3
  refine ⟨fun h=>⟨fun _=>?_,fun h'=>(by cases h')⟩,fun h=>⟨_,fun o=>Xc2 H.toHasF (l:=l) (f:=(116,[])) (p:=fun s=>decide (1400060<s.length)) hl (fun s _=>Xux H.toHasF s) o,fun h2=>?_,fun h2=>?_⟩⟩
  ·rw [Zl7 (.inl (by omega))];exact ⟨rfl,rfl,rfl⟩
  ·rw [Zl7 (.inr h2)];exact ⟨rfl,rfl,rfl⟩
  have hok:¬(17<l.length\/Dq 1400060 l=true):=by
   rintro (h3 | h3)
   ·omega
   ·rw [Yug,h3] at h2;cases h2
  have hlen:=Wsy (n:=1400060) (l:=l) h2
  unfold Zrv
  refine ⟨fun h3=>?_,fun h3=>?_⟩
  ·have:l=[]:=Gq (by omega)
   subst this
   rw [Ylr];exact ⟨rfl,rfl,rfl⟩
  have h0:0<l.length:=by omega
  have hs:l[0]?=some l[0]:=List.getElem?_eq_getElem h0
  have hs0:=hlen _ (List.getElem_mem h0)
  unfold Zku Zkr
  refine ⟨_,hs,_,_,_,Wh7 H hm (by omega),fun h4=>?_,fun h4=>?_⟩
  ·rw [Xoy hok hs (by simpa using h4)];exact ⟨rfl,rfl,rfl⟩
  have h4:(Vv m l[0]).2.2=true:=by simpa using h4
  obtain ⟨g1,g2,g3,g4⟩:=Wdh h4
  obtain ⟨f,hf,hmem⟩:=Fj g1 g2
  obtain ⟨q1,q2,q3,q4⟩:=hm.f f hmem
  rw [Xd8 hok hs h4 hf]
  have g5:=Yoh m l[0]
  have g6:=Wdw m l[0]
  generalize (Vv m l[0]).1=k at g3 g4 ⊢
  generalize (Vv m l[0]).2.1=x at g1 g2 g5 g6 hf ⊢
  unfold Zlz
  refine ⟨by omega,fun P hP=>?_⟩
  have go :∀n i:Nat,i+n=(l.drop 1).length->∀ys,Qo f ((l.drop 1).take i)=some ys->P (i:Int) m fz { x with locals:=ys }:=by
   intro n
   induction n with
   | zero=>
    intro i hi ys hys
    apply hP
    rw [List.take_of_length_le (by omega)] at hys
    obtain ⟨a1,a2⟩:=Zdb hys
    have hx:Uo { x with locals:=ys }:=⟨g5,by rw [a1];simp;omega,a2⟩
    have e:Pr m l k x f=if Uz m k { x with locals:=ys }=(l,0) then (k,{ x with locals:=ys },0) else (0,fz,12):=by unfold Pr;rw [hys]
    unfold Zbx Zth
    refine ⟨fun h=>absurd h (by omega),fun _=>⟨_,_,c82 H.toHasF hm hx,fun h5=>?_,fun h5=>?_⟩⟩
    ·unfold Ou
     rw [e,if_neg (fun h6=>h5 (by rw [h6]))]
     exact ⟨fun _=>⟨rfl,rfl,rfl⟩,fun h'=>(by cases h')⟩
    ·have hb:(Uz m k { x with locals:=ys }).1.length<=9223372036854775807:=by
      unfold Uz
      split
      ·exact Nat.zero_le _
      ·split
       ·rw [Nr (x:={ x with locals:=ys }) (f:=f) hf];simp [a1];omega
       ·exact Nat.zero_le _
     refine ⟨_,Xu8 H.toHasF hb,?_⟩
     unfold Ou Zn7
     refine ⟨fun h6=>?_,fun h6=>?_⟩
     ·rw [e,if_neg (fun h7=>by rw [h7] at h6;simp at h6)];exact ⟨rfl,rfl,rfl⟩
     ·have h6:(Uz m k { x with locals:=ys }).1=l:=by simpa using h6
      rw [e,if_pos (by rw [<- h6];exact Prod.ext rfl (Decidable.not_not.1 h5))];exact ⟨rfl,rfl,rfl⟩
   | succ n ih=>
    intro i hi ys hys
    have hd:(l.drop 1).length=l.length-1:=by simp
    have hil:i<(l.drop 1).length:=by omega
    apply hP
    have hsl:=hlen _ (List.mem_of_mem_drop (List.getElem_mem hil))
    obtain ⟨y,ok,⟨b1,b2⟩,b3⟩:=Yzs H (f:=f) ⟨q2,q4⟩ (s:=(l.drop 1)[i]) (by omega)
    obtain ⟨a1,a2⟩:=Zdb hys
    have hyl:ys.length<=20:=by rw [a1];simp;omega
    have e:=Wdk (f:=f) hil
    rw [hys] at e
    unfold Zbx
    refine ⟨fun _=>⟨by omega,_,Xb hil,g1,f,hf,y,ok,b3,fun h5=>?_,fun h5=>⟨⟨?_,?_⟩,?_⟩⟩,fun h=>absurd (show (i:Int)<((l.drop 1).length:Int) by omega) h⟩
    ·have:Km f (l.drop 1)[i]=none:=by
      rw [<- Option.not_isSome_iff_eq_none,<- b1]
      simpa using h5
     rw [this] at e
     have:Pr m l k x f=(0,fz,12):=by unfold Pr;rw [Zy6 e]
     rw [this];exact ⟨rfl,rfl,rfl⟩
    ·simp only [List.length_cons,List.length_nil,Wt];omega
    ·simp only [List.length_cons,List.length_nil,Wt];omega
    ·rw [Yv (by omega) (by omega)]
     rw [b2 (by simpa using h5)] at e
     exact ih (i+1) (by omega) _ e
  have:=go (l.drop 1).length 0 (by omega) [] rfl
  rw [<- g6] at this
  exact this)
 exact h
omit H in
theorem Yzu (m:Ze) (l:List Zd):Uo (Ks m l).2.1:=by
 have hz:Uo fz:=⟨by decide,by decide,by simp⟩
 by_cases h:17<l.length\/Dq 1400060 l=true
 ·rw [Zl7 h];exact hz
 cases l with
 | nil=>rw [Ylr];exact hz
 | cons s r=>
  unfold Ks
  rw [if_neg h]
  simp only
  by_cases hf:(Vv m s).2.2=false
  ·rw [if_pos hf];exact hz
  rw [if_neg hf]
  cases hg:m.funcs[(Vv m s).2.1.func.toNat]? with
  | none=>exact hz
  | some f=>
   simp only
   cases hys:Qo f r with
   | none=>exact hz
   | some ys=>
    simp only
    split
    ·obtain ⟨a1,a2⟩:=Zdb hys
     refine ⟨Yoh m s,?_,a2⟩
     simp only [a1]
     simp only [List.length_cons] at h
     omega
    ·exact hz
end
end Go.AM

/- Yg of the proof. -/
namespace Go.AM
open Go
def Si:List Zd:=[[],[110,111,114,109,97,108],[112,97,110,105,99],[100,101,97,100,108,111,99,107],[115,116,97,99,107],[104,101,97,112],[114,111,117,116,105,110,101,115],[115,116,101,112,115],[115,99,114,105,112,116]]
def Lj (n:Int):Zd × Int:=if n<1\/8<n then ([],2) else ((Si[n.toNat]?).getD [],0)
def Bt (s:Zd):Int × Int:=if Df s Si<1 then (0,12) else (Df s Si,0)
def Sb (m:Ze) (n:Int):Bool:=match m.funcs[n.toNat]? with
 | none=>false
 | some f=>decide (f.name.length<=16)
def Jd (m:Ze) (Vp:Int) (d:Zr):Bool:=decide (0<=d.frame)&&decide (d.frame<Vp)&&decide (0<=d.func)&&Sb m d.func&&(if d.hasArg=true then decide (d.arg.kind=1\/d.arg.kind=2\/d.arg.kind=4)&&Va d.arg else Gw d.arg)
def Jp (m:Ze) (x:Zi):Bool:=if x.status=3 then decide (x.frames.length=0)&&decide (x.defers.length=0)&&decide (x.panics.length=0)&&decide (x.key=0)
 else decide (x.status=2\/(x.status=1/\x.key=0))&&decide (1<=x.frames.length/\x.frames.length<=170)&&decide (x.defers.length<=410)&&decide (Gk x.panics=0)&&x.frames.all (Jj m)&&x.defers.all (Jd m x.frames.length)
def Uf (m:Ze) (s:Zt):Bool:=decide (1<=s.outcome/\s.outcome<=8)&&decide (0<=s.steps/\s.steps<=5000)&&decide (s.routines.length<=16)&&decide (-1<=s.failing/\s.failing<s.routines.length)&&s.routines.all (Jp m)
structure Qh (x:Zi):Prop where
 st:0<=x.status
 k:-9223372036854775808<=x.key/\x.key<9223372036854775808
 f :∀y∈x.frames,Uo y
 d :∀y∈x.defers,Wf y.arg
 p :∀y∈x.panics,Dg y
 fl:x.frames.length<=1000000000000000000
 dl:x.defers.length<=1000000000000000000
 pl:x.panics.length<=1000000000000000000
structure Zb0 (x:Zi):Prop where
 st:0<=x.status
 k:-9223372036854775808<=x.key/\x.key<9223372036854775808
 f :∀y∈x.frames,Uo y
 d :∀y∈x.defers,Wf y.arg
 p :∀y∈x.panics,Dg y
 fl:x.frames.length<=9223372036854775807
 dl:x.defers.length<=9223372036854775807
 pl:x.panics.length<=9223372036854775807
structure Fk (s:Zt):Prop where
 o:0<=s.outcome
 r :∀x∈s.routines,Zb0 x
 n:s.routines.length<=9223372036854775807
structure Gu (s:Zt):Prop where
 o:0<=s.outcome
 r :∀x∈s.routines,Qh x
 n:s.routines.length<=9223372036854775807
def Jf (m:Ze) (d:Zr):Zd:=[100,101,102,101,114,32]++Xf d.frame++[32]++Xf d.func++[32]++quo (Qq m d.func)++(if d.hasArg=true then [32,119,105,116,104,32]++Xi d.arg else [])
def Xh (m:Ze):Nat->List Zg->List Zd
 | _,[]=>[]
 | i,x::r=>Js m i x++Xh m (i+1) r
def Qt (m:Ze) (x:Zi):List Zd:=Xh m 0 x.frames++x.defers.map (Jf m)++x.panics.map Jb
def Db (x:Zi):Zd:=if x.status=1 then [114,101,97,100,121] else if x.status=3 then [100,111,110,101] else [98,108,111,99,107,101,100,32]++Xf x.key
def Hx (g:Int) (x:Zi):Zd:=[103,111,114,111,117,116,105,110,101,32]++Xf g++[58,32]++Db x
def Wg (s:Zd):Zd:=[32,32]++s
def Ve (m:Ze) (g:Int) (x:Zi):List Zd:=Hx g x::(Qt m x).map Wg
def Bo (m:Ze) (g:Int) (x:Zi):List Zd × Int:=if g<0\/16<=g then ([],2) else if Jp m x=true then (Ve m g x,0) else ([],8)
def Hw (s:Zt):Zd:=[111,117,116,99,111,109,101,32]++(Lj s.outcome).1++[44,32,102,97,105,108,105,110,103,32]++Xf s.failing++[44,32,115,116,101,112,115,32]++Xf s.steps++[10]
def Um (l:List Zd):Zd:=l.flatMap fun s=>s++[10]
def Ky (m:Ze):Nat->List Zi->Zd
 | _,[]=>[]
 | i,x::r=>Um (Ve m i x)++Ky m (i+1) r
def Du (m:Ze) (s:Zt):Zd:=Hw s++Ky m 0 s.routines
def Qe (m:Ze) (s:Zt):Zd × Int:=if Uf m s=true then (if 300000<(Du m s).length then ([],4) else (Du m s,0)) else ([],8)
def Rt (x:Zi):Bool:=decide (12<x.frames.length)||decide (12<x.defers.length)||decide (20<x.panics.length)||Sd x.panics||x.frames.any Cg||x.defers.any (fun d=>Bi d.arg)
def Cj (s:Zt):Bool:=(s.routines.take 21).any Rt||decide (20<s.routines.length)
theorem Qh.of {x:Zi} (h:Zb0 x) (hg:Rt x=false):Qh x:=by
 unfold Rt at hg
 simp only [Bool.or_eq_false_iff,decide_eq_false_iff_not] at hg
 obtain ⟨⟨⟨⟨⟨h1,h2⟩,h3⟩,_⟩,_⟩,_⟩:=hg
 exact ⟨h.st,h.k,h.f,h.d,h.p,by omega,by omega,by omega⟩
theorem Gu.of {s:Zt} (h:Fk s) (hg:Cj s=false):Gu s:=by
 unfold Cj at hg
 simp only [Bool.or_eq_false_iff,decide_eq_false_iff_not] at hg
 obtain ⟨h1,h2⟩:=hg
 rw [List.take_of_length_le (by omega),List.any_eq_false] at h1
 exact ⟨h.o,fun x hx=>Qh.of (h.r x hx) (by simpa using h1 x hx),h.n⟩
end Go.AM

/- Yg of the proof. -/
namespace Go.AM
open Go
structure HasT (PG:Za):Prop extends HasQ PG,HasF PG where
 f203:PG.fn 203=some Zdy
 f204:PG.fn 204=some Zef
 f205:PG.fn 205=some Zg1
 f207:PG.fn 207=some Zhl
 f211:PG.fn 211=some Zf0
 f213:PG.fn 213=some Zgg
 f214:PG.fn 214=some Zc0
 f215:PG.fn 215=some Zav
 f216:PG.fn 216=some Zea
 f217:PG.fn 217=some Zsj
 f218:PG.fn 218=some Zsv
 f219:PG.fn 219=some Zc6
 f220:PG.fn 220=some Zid
 f221:PG.fn 221=some Ze5
 f224:PG.fn 224=some Zg2
 f225:PG.fn 225=some Zhz
 f227:PG.fn 227=some Zi6
 f228:PG.fn 228=some Zh9
 f229:PG.fn 229=some Zhw
 f230:PG.fn 230=some Zd4
 f231:PG.fn 231=some Zi1
 f232:PG.fn 232=some Zgj
 f233:PG.fn 233=some Zdo
 f234:PG.fn 234=some Zhb
 f235:PG.fn 235=some Zho
 f236:PG.fn 236=some Ziu
 f237:PG.fn 237=some Zcd
 f238:PG.fn 238=some Zic
 f239:PG.fn 239=some Zhy
theorem Ymj {n:Int} (h0:1<=n) (h1:n<=8) :∃w,Si[n.toNat]?=some w/\Lj n=(w,0)/\w.length<=8:=by
 obtain ⟨k,rfl⟩:=Int.eq_ofNat_of_zero_le (by omega:0<=n)
 have h1:k<=8:=by omega
 have h0:1<=k:=by omega
 match k,h0,h1 with
 | 1,_,_ | 2,_,_ | 3,_,_ | 4,_,_ | 5,_,_ | 6,_,_ | 7,_,_ | 8,_,_=>exact ⟨_,rfl,rfl,by decide⟩
section
variable {PG:Za} (H:HasT PG)
include H
theorem Yj0:Zf PG 215 [] (.ag (Si.map AV.s)):=by
 obtain ⟨x,rfl,h⟩:=Yt0 H.f215 (K:=fun x=>x=Si) (by unfold Zt7;rfl)
 exact h
theorem Ax {n:Int} (h1:-9223372036854775808<=n) (h2:n<9223372036854775808):Zf PG 216 [.i .i64 n] (.s (Xf n)):=by
 obtain ⟨x,rfl,h⟩:=Wja H.f216 (n0:=n) (K:=fun x=>x=Xf n) (by
  unfold Zvb
  exact ⟨_,c15 H.toHas03 h1 h2,rfl⟩)
 exact h
theorem Xav (s:Zd):Zf PG 211 [.s s] (.tup [.i .u8 (Bt s).1,.i .i64 (Bt s).2]):=by
 obtain ⟨x,y,⟨rfl,rfl⟩,h⟩:=Xh2 H.f211 (s0:=s) (K:=fun x y=>x=(Bt s).1/\y=(Bt s).2) (by
  unfold Zkc
  refine ⟨_,Yj0 H,rfl,rfl,_,Ykv H.toHasF (by decide) s,fun h=>?_,fun h=>?_⟩
  ·unfold Bt;rw [if_pos h];exact ⟨rfl,rfl⟩
  ·have:=Zpw s Si
   have e:(Si.length:Int)=9:=rfl
   unfold Bt;rw [if_neg h]
   exact ⟨Ztm (by omega) (by omega),rfl⟩)
 exact h
theorem Xgu {l:List Zi} {f:Nat × List AV} {p:Zi->Bool} (hl:l.length<=9223372036854775807) (hf :∀x∈l,Yp PG f.1 ([x.av]++f.2) (fun r=>r=.b (p x))) (o:Zn):Yp PG 236 [.sl o (l.map Zi.row),.fn f.1 f.2] (fun r=>r=.i .i64 (Vy p l)):=by
 refine (Wrk H.f236 (s0:=l) (f1:=f) (K:=fun x=>x=Vy p l) ?_ o).to ?_
 ·unfold Znm
  intro P hP
  refine Cc (Q:=fun x=>x=Vy p l) p l (fun h=>hP _ ?_) (fun i hi hp hq=>hP _ ?_) (fun i hi hp ih=>hP _ ?_) rfl
  ·unfold Zbe Zme
   exact ⟨fun h'=>absurd h' (by omega),fun _=>h⟩
  ·unfold Zbe
   refine ⟨fun _=>⟨by omega,_,Xb hi,_,hf _ (List.getElem_mem hi),fun _=>hq,fun h'=>?_⟩,fun h'=>absurd h' (by omega)⟩
   rw [hp] at h';cases h'
  ·unfold Zbe
   refine ⟨fun _=>⟨by omega,_,Xb hi,_,hf _ (List.getElem_mem hi),fun h'=>?_,fun _=>?_⟩,fun h'=>absurd h' (by omega)⟩
   ·rw [hp] at h';cases h'
   ·rw [Yv (by omega) (by omega)];exact ih
 ·rintro r ⟨x,rfl,rfl⟩;rfl
theorem Xcu {l:List Zi} {f:Nat × List AV} {p:Zi->Bool} (hl:l.length<=9223372036854775807) (hf :∀x∈l,Yp PG f.1 ([x.av]++f.2) (fun r=>r=.b (p x))) (o:Zn):Yp PG 224 [.sl o (l.map Zi.row),.fn f.1 f.2] (fun r=>r=.b (l.any p)):=by
 refine (Xok H.f224 (s0:=l) (f1:=f) (K:=fun x=>x=l.any p) ?_ o).to ?_
 ·unfold Zl2
  refine ⟨_,fun o=>Xgu H hl hf o,?_⟩
  have:=(Ry p l).2
  cases h:l.any p
  ·exact decide_eq_false (by rw [h] at this;intro h';exact absurd (this.1 h') (by decide))
  ·exact decide_eq_true (this.2 h)
 ·rintro r ⟨x,rfl,rfl⟩;rfl
theorem Yw1 {l:List Zg} {f:Nat × List AV} {p:Zg->Bool} (hl:l.length<=9223372036854775807) (hf :∀x∈l,Yp PG f.1 ([x.av]++f.2) (fun r=>r=.b (p x))) (o:Zn):Yp PG 237 [.sl o (l.map Zg.row),.fn f.1 f.2] (fun r=>r=.i .i64 (Vy p l)):=by
 refine (Yzd H.f237 (s0:=l) (f1:=f) (K:=fun x=>x=Vy p l) ?_ o).to ?_
 ·unfold Zt4
  intro P hP
  refine Cc (Q:=fun x=>x=Vy p l) p l (fun h=>hP _ ?_) (fun i hi hp hq=>hP _ ?_) (fun i hi hp ih=>hP _ ?_) rfl
  ·unfold Ov Zs7
   exact ⟨fun h'=>absurd h' (by omega),fun _=>h⟩
  ·unfold Ov
   refine ⟨fun _=>⟨by omega,_,Xb hi,_,hf _ (List.getElem_mem hi),fun _=>hq,fun h'=>?_⟩,fun h'=>absurd h' (by omega)⟩
   rw [hp] at h';cases h'
  ·unfold Ov
   refine ⟨fun _=>⟨by omega,_,Xb hi,_,hf _ (List.getElem_mem hi),fun h'=>?_,fun _=>?_⟩,fun h'=>absurd h' (by omega)⟩
   ·rw [hp] at h';cases h'
   ·rw [Yv (by omega) (by omega)];exact ih
 ·rintro r ⟨x,rfl,rfl⟩;rfl
theorem Xka {l:List Zg} {f:Nat × List AV} {p:Zg->Bool} (hl:l.length<=9223372036854775807) (hf :∀x∈l,Yp PG f.1 ([x.av]++f.2) (fun r=>r=.b (p x))) (o:Zn):Yp PG 227 [.sl o (l.map Zg.row),.fn f.1 f.2] (fun r=>r=.b (l.any p)):=by
 refine (Yy8 H.f227 (s0:=l) (f1:=f) (K:=fun x=>x=l.any p) ?_ o).to ?_
 ·unfold Zkn
  refine ⟨_,fun o=>Yw1 H hl hf o,?_⟩
  have:=(Ry p l).2
  cases h:l.any p
  ·exact decide_eq_false (by rw [h] at this;intro h';exact absurd (this.1 h') (by decide))
  ·exact decide_eq_true (this.2 h)
 ·rintro r ⟨x,rfl,rfl⟩;rfl
theorem Ywo {l:List Zr} {f:Nat × List AV} {p:Zr->Bool} (hl:l.length<=9223372036854775807) (hf :∀x∈l,Yp PG f.1 ([x.av]++f.2) (fun r=>r=.b (p x))) (o:Zn):Yp PG 238 [.sl o (l.map Zr.row),.fn f.1 f.2] (fun r=>r=.i .i64 (Vy p l)):=by
 refine (Wn2 H.f238 (s0:=l) (f1:=f) (K:=fun x=>x=Vy p l) ?_ o).to ?_
 ·unfold Zuz
  intro P hP
  refine Cc (Q:=fun x=>x=Vy p l) p l (fun h=>hP _ ?_) (fun i hi hp hq=>hP _ ?_) (fun i hi hp ih=>hP _ ?_) rfl
  ·unfold Om Znn
   exact ⟨fun h'=>absurd h' (by omega),fun _=>h⟩
  ·unfold Om
   refine ⟨fun _=>⟨by omega,_,Xb hi,_,hf _ (List.getElem_mem hi),fun _=>hq,fun h'=>?_⟩,fun h'=>absurd h' (by omega)⟩
   rw [hp] at h';cases h'
  ·unfold Om
   refine ⟨fun _=>⟨by omega,_,Xb hi,_,hf _ (List.getElem_mem hi),fun h'=>?_,fun _=>?_⟩,fun h'=>absurd h' (by omega)⟩
   ·rw [hp] at h';cases h'
   ·rw [Yv (by omega) (by omega)];exact ih
 ·rintro r ⟨x,rfl,rfl⟩;rfl
theorem Wl9 {l:List Zr} {f:Nat × List AV} {p:Zr->Bool} (hl:l.length<=9223372036854775807) (hf :∀x∈l,Yp PG f.1 ([x.av]++f.2) (fun r=>r=.b (p x))) (o:Zn):Yp PG 229 [.sl o (l.map Zr.row),.fn f.1 f.2] (fun r=>r=.b (l.any p)):=by
 refine (Xgq H.f229 (s0:=l) (f1:=f) (K:=fun x=>x=l.any p) ?_ o).to ?_
 ·unfold Zv1
  refine ⟨_,fun o=>Ywo H hl hf o,?_⟩
  have:=(Ry p l).2
  cases h:l.any p
  ·exact decide_eq_false (by rw [h] at this;intro h';exact absurd (this.1 h') (by decide))
  ·exact decide_eq_true (this.2 h)
 ·rintro r ⟨x,rfl,rfl⟩;rfl
theorem Wfi {l:List Zh} {f:Nat × List AV} {p:Zh->Bool} (hl:l.length<=9223372036854775807) (hf :∀x∈l,Yp PG f.1 ([x.av]++f.2) (fun r=>r=.b (p x))) (o:Zn):Yp PG 239 [.sl o (l.map Zh.row),.fn f.1 f.2] (fun r=>r=.i .i64 (Vy p l)):=by
 refine (Xum H.f239 (s0:=l) (f1:=f) (K:=fun x=>x=Vy p l) ?_ o).to ?_
 ·unfold Zpq
  intro P hP
  refine Cc (Q:=fun x=>x=Vy p l) p l (fun h=>hP _ ?_) (fun i hi hp hq=>hP _ ?_) (fun i hi hp ih=>hP _ ?_) rfl
  ·unfold Zaw Zlq
   exact ⟨fun h'=>absurd h' (by omega),fun _=>h⟩
  ·unfold Zaw
   refine ⟨fun _=>⟨by omega,_,Xb hi,_,hf _ (List.getElem_mem hi),fun _=>hq,fun h'=>?_⟩,fun h'=>absurd h' (by omega)⟩
   rw [hp] at h';cases h'
  ·unfold Zaw
   refine ⟨fun _=>⟨by omega,_,Xb hi,_,hf _ (List.getElem_mem hi),fun h'=>?_,fun _=>?_⟩,fun h'=>absurd h' (by omega)⟩
   ·rw [hp] at h';cases h'
   ·rw [Yv (by omega) (by omega)];exact ih
 ·rintro r ⟨x,rfl,rfl⟩;rfl
theorem Yxi {l:List Zh} {f:Nat × List AV} {p:Zh->Bool} (hl:l.length<=9223372036854775807) (hf :∀x∈l,Yp PG f.1 ([x.av]++f.2) (fun r=>r=.b (p x))) (o:Zn):Yp PG 232 [.sl o (l.map Zh.row),.fn f.1 f.2] (fun r=>r=.b (l.any p)):=by
 refine (Yrp H.f232 (s0:=l) (f1:=f) (K:=fun x=>x=l.any p) ?_ o).to ?_
 ·unfold Zlu
  refine ⟨_,fun o=>Wfi H hl hf o,?_⟩
  have:=(Ry p l).2
  cases h:l.any p
  ·exact decide_eq_false (by rw [h] at this;intro h';exact absurd (this.1 h') (by decide))
  ·exact decide_eq_true (this.2 h)
 ·rintro r ⟨x,rfl,rfl⟩;rfl
theorem Ys2 {m:Ze} {Vp:Int} {d:Zr} (hm:Wd m) (hd:Wf d.arg):Zf PG 231 [m.av,.i .i64 Vp,d.av] (.b (Jd m Vp d)):=by
 obtain ⟨x,rfl,h⟩:=Wmw H.f231 (m0:=m) (frames1:=Vp) (d2:=d) (K:=fun x=>x=Jd m Vp d) (by
  unfold Zmi Zqb
  refine ⟨fun h=>?_,fun h0=>⟨fun h=>?_,fun h1=>⟨fun h=>?_,fun h2=>⟨fun h=>?_,fun h3=>?_⟩⟩⟩⟩
  ·unfold Jd;rw [decide_eq_false (by omega)];rfl
  ·unfold Jd;rw [decide_eq_false (p:=d.frame<Vp) (by omega)];simp
  ·unfold Jd;rw [decide_eq_false (p:=0<=d.func) (by omega)];simp
  ·unfold Jd Sb;rw [List.getElem?_eq_none (by omega)];simp
  obtain ⟨f,hf,hmem⟩:=Fj (m:=m) (n:=d.func) (by omega) (by omega)
  refine ⟨by omega,f,hf,fun h=>?_,fun h4=>?_⟩
  ·unfold Jd Sb;rw [hf];simp only;rw [decide_eq_false (p:=f.name.length<=16) (by omega)];simp
  have e:Jd m Vp d=(if d.hasArg=true then decide (d.arg.kind=1\/d.arg.kind=2\/d.arg.kind=4)&&Va d.arg else Gw d.arg):=by
   unfold Jd Sb;rw [hf];simp only
   rw [decide_eq_true (by omega),decide_eq_true (by omega),decide_eq_true (by omega),decide_eq_true (by omega)];rfl
  rw [e]
  unfold Zjm
  refine ⟨fun h=>?_,fun h=>?_⟩
  ·have ha:d.hasArg=false:=by simpa using h
   rw [ha]
   simp only [Bool.false_eq_true,if_false]
   unfold Gw
   refine ⟨fun k0=>⟨fun k1=>⟨fun k2=>⟨fun k3=>?_,fun k3=>?_⟩,fun k2=>?_⟩,fun k1=>?_⟩,fun k0=>?_⟩
   ·rw [decide_eq_true k0,decide_eq_true k1,decide_eq_true k2,decide_eq_true (by omega)];rfl
   ·rw [decide_eq_false (p:=d.arg.list.length=0) (by omega)];simp
   ·rw [decide_eq_false k2];simp
   ·rw [decide_eq_false k1];simp
   ·rw [decide_eq_false k0];rfl
  ·have ha:d.hasArg=true:=by simpa using h
   rw [ha,if_pos rfl]
   have fin :∀b:Bool,b=decide (d.arg.kind=1\/d.arg.kind=2\/d.arg.kind=4)->Fp PG (fun x=>x=(decide (d.arg.kind=1\/d.arg.kind=2\/d.arg.kind=4)&&Va d.arg)) b d:=fun b hb=>by
    unfold Fp
    rw [<- hb]
    refine ⟨fun h=>⟨_,c76 H.toHas38 hd,?_⟩,fun h=>by rw [h];rfl⟩
    rw [h,Bool.true_and]
    cases hq:Va d.arg
    ·exact decide_eq_false fun h'=>absurd (Gr.1 h') (by rw [hq];decide)
    ·exact decide_eq_true (Gr.2 hq)
   unfold Zo7
   refine ⟨fun k=>fin _ ?_,fun k=>⟨fun k'=>fin _ ?_,fun k'=>fin _ ?_⟩⟩<;>exact decide_eq_decide.2 (by omega))
 exact h
theorem Xyx {m:Ze} {Vp:Int} {d:Zr} (hm:Wd m) (hd:Wf d.arg):Zf PG 235 [m.av,.i .i64 Vp,d.av] (.b (Jd m Vp d)):=by
 obtain ⟨x,rfl,h⟩:=Xyf H.f235 (m0:=m) (many1:=Vp) (d2:=d) (K:=fun x=>x=Jd m Vp d) (by
  unfold Zr6 Zrh
  refine ⟨fun h=>?_,fun h0=>⟨fun h=>?_,fun h1=>⟨fun h=>?_,fun h2=>⟨fun h=>?_,fun h3=>?_⟩⟩⟩⟩
  ·unfold Jd;rw [decide_eq_false (by omega)];rfl
  ·unfold Jd;rw [decide_eq_false (p:=d.frame<Vp) (by omega)];simp
  ·unfold Jd;rw [decide_eq_false (p:=0<=d.func) (by omega)];simp
  ·unfold Jd Sb;rw [List.getElem?_eq_none (by omega)];simp
  obtain ⟨f,hf,hmem⟩:=Fj (m:=m) (n:=d.func) (by omega) (by omega)
  refine ⟨by omega,f,hf,fun h=>?_,fun h4=>?_⟩
  ·unfold Jd Sb;rw [hf];simp only;rw [decide_eq_false (p:=f.name.length<=16) (by omega)];simp
  have e:Jd m Vp d=(if d.hasArg=true then decide (d.arg.kind=1\/d.arg.kind=2\/d.arg.kind=4)&&Va d.arg else Gw d.arg):=by
   unfold Jd Sb;rw [hf];simp only
   rw [decide_eq_true (by omega),decide_eq_true (by omega),decide_eq_true (by omega),decide_eq_true (by omega)];rfl
  rw [e]
  have fin :∀(p:Prop) [Decidable p],p->(decide p&&Va d.arg)=decide (Hg d.arg=0):=fun p _ hp=>by
   rw [decide_eq_true hp,Bool.true_and]
   cases hq:Va d.arg
   ·exact (decide_eq_false fun h'=>absurd (Gr.1 h') (by rw [hq];decide)).symm
   ·exact (decide_eq_true (Gr.2 hq)).symm
  unfold Zk4
  refine ⟨fun h=>?_,fun h=>?_⟩
  ·have ha:d.hasArg=false:=by simpa using h
   rw [ha]
   refine ⟨_,c78 H.toHas38 hd vz,?_⟩
   simp only [Bool.false_eq_true,if_false]
   cases hq:Gw d.arg
   ·exact Ec.2 fun h'=>absurd (Tz.2 h') (by rw [hq];decide)
   ·exact Ri.2 (Tz.1 hq)
  ·have ha:d.hasArg=true:=by simpa using h
   rw [ha,if_pos rfl]
   refine ⟨fun k=>⟨_,Az H.toHas38 hd,(fin _ (by omega)).symm⟩,fun k=>⟨fun k'=>⟨_,Az H.toHas38 hd,(fin _ (by omega)).symm⟩,fun k'=>⟨fun k''=>⟨_,Az H.toHas38 hd,(fin _ (by omega)).symm⟩,fun k''=>?_⟩⟩⟩
   rw [decide_eq_false (by omega)];rfl)
 exact h
theorem Xqa {m:Ze} (hm:Wd m) {x:Zg} (hx:Uo x):Yp PG 228 ([x.av]++[.fp m.row]) (fun r=>r=.b (!Jj m x)):=by
 refine (Yso H.f228 (y0:=x) (t1:=m) (K:=fun y=>y=!Jj m x) ?_).to ?_
 ·unfold Zrl
  refine ⟨_,c86 H.toHasF hm hx,?_⟩
  cases hb:Jj m x
  ·rw [<- Fd (by rw [hb];decide)];rfl
  ·rw [<- Za3 hb];rfl
 ·rintro r ⟨x,rfl,rfl⟩;rfl
theorem Xkr {m:Ze} (hm:Wd m) {Vp:Int} {d:Zr} (hd:Wf d.arg):Yp PG 230 ([d.av]++[.fp m.row,.fp [.i .i64 Vp]]) (fun r=>r=.b (!Jd m Vp d)):=by
 refine (Xjv H.f230 (y0:=d) (t1:=m) (t2:=Vp) (K:=fun y=>y=!Jd m Vp d) ?_).to ?_
 ·unfold Zm4
  exact ⟨_,Ys2 H hm hd,rfl⟩
 ·rintro r ⟨x,rfl,rfl⟩;rfl
theorem Wbd {p:Zh} (hp:Dg p):Yp PG 233 ([p.av]++[]) (fun r=>r=.b (!Xu p)):=by
 refine (Wa2 H.f233 (y0:=p) (K:=fun y=>y=!Xu p) ?_).to ?_
 ·unfold Zli
  refine ⟨_,Zk8 H.toHasO hp,?_⟩
  unfold Ge
  cases hb:Xu p<;>rfl
 ·rintro r ⟨x,rfl,rfl⟩;rfl
end
end Go.AM

/- Yg of the proof. -/
namespace Go.AM
open Go
theorem Yuo {l:List Zh}:decide (Gk l=0)=(decide (l.length<=410)&&l.all Xu):=by
 unfold Gk
 by_cases h:410<l.length
 ·rw [if_pos h,decide_eq_false (p:=l.length<=410) (by omega)];rfl
 ·rw [if_neg h,decide_eq_true (p:=l.length<=410) (by omega)]
  cases l.all Xu<;>rfl
theorem Sw {α:Type} (p:α->Bool) (l:List α):(!(l.any fun x=>!p x))=l.all p:=by
 rw [List.not_any_eq_all_not]
 simp
def Hy (m:Ze) (x:Zi):Bool:=decide (1<=x.frames.length/\x.frames.length<=170)&&decide (x.defers.length<=410)&&decide (Gk x.panics=0)&&x.frames.all (Jj m)&&x.defers.all (Jd m x.frames.length)
theorem Zf1 {m:Ze} {x:Zi} (h:x.status=3):Jp m x=(decide (x.frames.length=0)&&decide (x.defers.length=0)&&decide (x.panics.length=0)&&decide (x.key=0)):=by unfold Jp;rw [if_pos h]
theorem Zq6 {m:Ze} {x:Zi} (h:x.status=2\/(x.status=1/\x.key=0)):Jp m x=Hy m x:=by
 unfold Jp Hy
 rw [if_neg (by omega),decide_eq_true h]
 simp
theorem Lu {m:Ze} {x:Zi} (h3:x.status≠3) (h:¬(x.status=2\/(x.status=1/\x.key=0))):Jp m x=false:=by
 unfold Jp
 rw [if_neg h3,decide_eq_false h]
 rfl
theorem Zfk {m:Ze} {x:Zi} (h:¬(1<=x.frames.length/\x.frames.length<=170)):Hy m x=false:=by unfold Hy;rw [decide_eq_false h];rfl
theorem Yb1 {m:Ze} {x:Zi} (h:410<x.defers.length):Hy m x=false:=by unfold Hy;rw [decide_eq_false (p:=x.defers.length<=410) (by omega)];simp
theorem Yer {m:Ze} {x:Zi} (h:Gk x.panics≠0):Hy m x=false:=by unfold Hy;rw [decide_eq_false h];simp
theorem Xnp {m:Ze} {x:Zi} (hf:1<=x.frames.length/\x.frames.length<=170) (hd:x.defers.length<=410) (hp:Gk x.panics=0):Hy m x=(x.frames.all (Jj m)&&x.defers.all (Jd m x.frames.length)):=by
 unfold Hy
 rw [decide_eq_true hf,decide_eq_true hd,decide_eq_true hp]
 rfl
section
variable {PG:Za} (H:HasT PG)
include H
theorem Zwq {m:Ze} {x:Zi} (hm:Wd m) (hx:Qh x):Zf PG 219 [m.av,x.av] (.b (Jp m x)):=by
 obtain ⟨y,rfl,h⟩:=Wqu H.f219 (m0:=m) (x1:=x) (K:=fun y=>y=Jp m x) (by
  unfold Zt8 Zrb
  have hfl:=hx.fl
  have hdl:=hx.dl
  have hpl:=hx.pl
  have t3:(x.status=2\/(x.status=1/\x.key=0))->Ar PG (fun y=>y=Jp m x) m.types m.texts m.funcs x.status x.key x.frames x.defers x.panics (x.defers.length:Int) (x.panics.length:Int) (x.frames.length:Int):=fun hs=>by
   rw [Zq6 hs]
   unfold Ar
   refine ⟨fun h=>(Zfk (by omega)).symm,fun h1=>⟨fun h=>(Zfk (by omega)).symm,fun h2=>⟨fun h=>(Yb1 (by omega)).symm,fun h3=>⟨fun h=>(Yer ?_).symm,fun h4=>?_⟩⟩⟩⟩
   ·unfold Gk;rw [if_pos (by omega)];decide
   have e:Hy m x=(x.frames.all (Jj m)&&(x.defers.all (Jd m x.frames.length)&&x.panics.all Xu)):=by
    unfold Hy
    rw [decide_eq_true (by omega),decide_eq_true (by omega),Yuo,decide_eq_true (by omega)]
    simp only [Bool.true_and]
    cases x.panics.all Xu<;>simp
   rw [e]
   unfold Zjc
   refine ⟨_,fun o=>Xka H (l:=x.frames) (f:=(228,[.fp m.row])) (p:=fun y=>!Jj m y) (by omega) (fun y hy=>Xqa H hm (hx.f y hy)) o,fun h=>?_,fun h=>?_⟩
   ·rw [Sw] at h
    rw [h,Bool.true_and]
    refine ⟨_,fun o=>Wl9 H (l:=x.defers) (f:=(230,[.fp m.row,.fp [.i .i64 (x.frames.length:Int)]])) (p:=fun y=>!Jd m x.frames.length y) (by omega) (fun y hy=>Xkr H hm (hx.d y hy)) o,fun h=>?_,fun h=>?_⟩
    ·rw [Sw] at h
     rw [h,Bool.true_and]
     refine ⟨_,fun o=>Yxi H (l:=x.panics) (f:=(233,[])) (p:=fun y=>!Xu y) (by omega) (fun y hy=>Wbd H (hx.p y hy)) o,?_⟩
     rw [Sw]
    ·rw [Sw] at h
     rw [h];rfl
   ·rw [Sw] at h
    rw [h];rfl
  refine ⟨fun h3=>?_,fun h3=>⟨fun h1=>?_,fun h1=>⟨fun h2=>t3 (.inl h2),fun h2=>?_⟩⟩⟩
  ·rw [Zf1 h3]
   rw [Yv (z:=(x.frames.length:Int)+(x.defers.length:Int)) (by omega) (by omega),Yv (by omega) (by omega)]
   refine ⟨fun k=>?_,fun k=>?_⟩
   ·rw [decide_eq_true (p:=x.frames.length=0) (by omega),decide_eq_true (p:=x.defers.length=0) (by omega),decide_eq_true (p:=x.panics.length=0) (by omega)];rfl
   ·by_cases k1:x.frames.length=0
    ·by_cases k2:x.defers.length=0
     ·rw [decide_eq_false (p:=x.panics.length=0) (by omega)];simp
     ·rw [decide_eq_false k2];simp
    ·rw [decide_eq_false k1];simp
  ·unfold Zqc
   refine ⟨fun hk=>(Lu h3 ?_).symm,fun hk=>t3 (.inr ⟨h1,by omega⟩)⟩
   omega
  ·unfold Ztt
   exact (Lu h3 (by omega)).symm)
 exact h
theorem Xb6 {m:Ze} {x:Zi} (hm:Wd m) (hx:Qh x):Zf PG 221 [m.av,x.av] (.b (Jp m x)):=by
 obtain ⟨y,rfl,h⟩:=Wlq H.f221 (m0:=m) (x1:=x) (K:=fun y=>y=Jp m x) (by
  unfold Zlm Zju
  have hfl:=hx.fl
  have hdl:=hx.dl
  have hpl:=hx.pl
  have t3:(x.status=2\/(x.status=1/\x.key=0))->Af PG (fun y=>y=Jp m x) m x:=fun hs=>by
   rw [Zq6 hs]
   unfold Af
   refine ⟨fun h=>(Zfk (by omega)).symm,fun h1=>⟨fun h=>(Zfk (by omega)).symm,fun h2=>⟨fun h=>(Yb1 (by omega)).symm,fun h3=>⟨_,Xz5 H.toHasQ hx.p,fun h=>(Yer h).symm,fun h4=>?_⟩⟩⟩⟩
   rw [Xnp (by omega) (by omega) (Decidable.not_not.1 h4)]
   unfold Zk3
   intro P hP
   refine Uh (P:=fun i=>P i m x) x.frames.length (fun i=>∀y∈x.frames.take i,Jj m y=true) (by simp) (fun hI=>hP _ _ _ ?_) fun i hi hI next=>hP _ _ _ ?_
   ·rw [List.take_length] at hI
    rw [List.all_eq_true.2 hI,Bool.true_and]
    unfold Zcv Zsr
    refine ⟨fun h=>absurd h (by omega),fun _ P hP=>?_⟩
    refine Uh (P:=fun i=>P i m x) x.defers.length (fun i=>∀y∈x.defers.take i,Jd m x.frames.length y=true) (by simp) (fun hI=>hP _ _ _ ?_) fun i hi hI next=>hP _ _ _ ?_
    ·rw [List.take_length] at hI
     unfold Zfm Zva
     exact ⟨fun h=>absurd h (by omega),fun _=>(List.all_eq_true.2 hI).symm⟩
    ·unfold Zfm
     refine ⟨fun _=>⟨by omega,_,Xb hi,_,Xyx H hm (hx.d _ (List.getElem_mem hi)),fun h=>?_,fun h=>?_⟩,fun h=>absurd (show (i:Int)<x.defers.length by omega) h⟩
     ·refine (List.all_eq_false.2 ⟨_,List.getElem_mem hi,?_⟩).symm
      simpa using h
     ·rw [Yv (by omega) (by omega)]
      refine next fun y hy=>?_
      rw [List.take_succ_eq_append_getElem hi] at hy
      rcases List.mem_append.1 hy with hy | hy
      ·exact hI y hy
      ·rw [List.mem_singleton.1 hy];simpa using h
   ·unfold Zcv
    refine ⟨fun _=>⟨by omega,_,Xb hi,_,c87 H.toHasF hm (hx.f _ (List.getElem_mem hi)),fun h=>?_,fun h=>?_⟩,fun h=>absurd (show (i:Int)<x.frames.length by omega) h⟩
    ·rw [List.all_eq_false.2 ⟨_,List.getElem_mem hi,?_⟩];rfl
     intro hb;exact h (Za3 hb).symm
    ·rw [Yv (by omega) (by omega)]
     refine next fun y hy=>?_
     rw [List.take_succ_eq_append_getElem hi] at hy
     rcases List.mem_append.1 hy with hy | hy
     ·exact hI y hy
     ·rw [List.mem_singleton.1 hy]
      by_cases hb:Jj m x.frames[i]=true
      ·exact hb
      ·exact absurd (Fd hb).symm (by rw [Decidable.not_not.1 h];decide)
  refine ⟨fun h3=>?_,fun h3=>?_⟩
  ·rw [Zf1 h3]
   refine ⟨fun k1=>⟨fun k2=>⟨fun k3=>?_,fun k3=>?_⟩,fun k2=>?_⟩,fun k1=>?_⟩
   ·rw [decide_eq_true (p:=x.frames.length=0) (by omega),decide_eq_true (p:=x.defers.length=0) (by omega),decide_eq_true (p:=x.panics.length=0) (by omega)];rfl
   ·rw [decide_eq_false (p:=x.panics.length=0) (by omega)];simp
   ·rw [decide_eq_false (p:=x.defers.length=0) (by omega)];simp
   ·rw [decide_eq_false (p:=x.frames.length=0) (by omega)];simp
  ·unfold Zj8
   refine ⟨fun h2=>⟨fun h1=>(Lu h3 (by omega)).symm,fun h1=>⟨fun hk=>(Lu h3 (by omega)).symm,fun hk=>t3 (.inr (by omega))⟩⟩,fun h2=>t3 (.inl (by omega))⟩)
 exact h
theorem Xo9 {m:Ze} (hm:Wd m) {x:Zi} (hx:Qh x):Yp PG 225 ([x.av]++[.fp m.row]) (fun r=>r=.b (!Jp m x)):=by
 refine (Xh8 H.f225 (x0:=x) (t1:=m) (K:=fun y=>y=!Jp m x) ?_).to ?_
 ·unfold Zjr
  exact ⟨_,Zwq H hm hx,rfl⟩
 ·rintro r ⟨x,rfl,rfl⟩;rfl
def Nu (m:Ze) (s:Zt):Int:=if Uf m s=true then 0 else 8
theorem Yz2 {m:Ze} {s:Zt} (hm:Wd m) (hs:Gu s):Zf PG 213 [m.av,s.av] (.i .i64 (Nu m s)):=by
 obtain ⟨y,rfl,h⟩:=Wty H.f213 (m0:=m) (s1:=s) (K:=fun y=>y=Nu m s) (by
  unfold Zj2 Nu Uf
  refine ⟨fun h=>?_,fun h1=>⟨fun h=>?_,fun h2=>⟨fun h=>?_,fun h3=>⟨fun h=>?_,fun h4=>⟨fun h=>?_,fun h5=>⟨fun h=>?_,fun h6=>⟨fun h=>?_,fun h7=>?_⟩⟩⟩⟩⟩⟩⟩
  ·rw [decide_eq_false (by omega)];rfl
  ·rw [decide_eq_false (by omega)];rfl
  ·rw [decide_eq_false (p:=0<=s.steps/\_) (by omega)];simp
  ·rw [decide_eq_false (p:=0<=s.steps/\_) (by omega)];simp
  ·rw [decide_eq_false (p:=s.routines.length<=16) (by omega)];simp
  ·rw [decide_eq_false (p:=-1<=s.failing/\_) (by omega)];simp
  ·rw [decide_eq_false (p:=-1<=s.failing/\_) (by omega)];simp
  rw [decide_eq_true (by omega),decide_eq_true (by omega),decide_eq_true (by omega),decide_eq_true (by omega)]
  simp only [Bool.true_and]
  refine ⟨_,fun o=>Xcu H (l:=s.routines) (f:=(225,[.fp m.row])) (p:=fun y=>!Jp m y) hs.n (fun y hy=>Xo9 H hm (hs.r y hy)) o,fun h=>?_,fun h=>?_⟩
  ·have:=Sw (Jp m) s.routines
   rw [h] at this
   rw [<- this];rfl
  ·have:=Sw (Jp m) s.routines
   rw [h] at this
   rw [<- this];rfl)
 exact h
theorem Xas {m:Ze} {s:Zt} (hm:Wd m) (hs:Gu s):Zf PG 214 [m.av,s.av] (.i .i64 (Nu m s)):=by
 obtain ⟨y,rfl,h⟩:=Ytm H.f214 (m0:=m) (s1:=s) (K:=fun y=>y=Nu m s) (by
  unfold Zr4 Nu Uf
  refine ⟨fun h=>?_,fun h1=>⟨fun h=>?_,fun h2=>⟨fun h=>?_,fun h3=>⟨fun h=>?_,fun h4=>⟨fun h=>?_,fun h5=>⟨fun h=>?_,fun h6=>⟨fun h=>?_,fun h7=>?_⟩⟩⟩⟩⟩⟩⟩
  ·rw [decide_eq_false (by omega)];rfl
  ·rw [decide_eq_false (by omega)];rfl
  ·rw [decide_eq_false (p:=0<=s.steps/\_) (by omega)];simp
  ·rw [decide_eq_false (p:=0<=s.steps/\_) (by omega)];simp
  ·rw [decide_eq_false (p:=s.routines.length<=16) (by omega)];simp
  ·rw [decide_eq_false (p:=-1<=s.failing/\_) (by omega)];simp
  ·rw [decide_eq_false (p:=-1<=s.failing/\_) (by omega)];simp
  rw [decide_eq_true (by omega),decide_eq_true (by omega),decide_eq_true (by omega),decide_eq_true (by omega)]
  simp only [Bool.true_and]
  unfold Zvj
  intro P hP
  refine Uh (P:=fun i=>P i m s) s.routines.length (fun i=>∀y∈s.routines.take i,Jp m y=true) (by simp) (fun hI=>hP _ _ _ ?_) fun i hi hI next=>hP _ _ _ ?_
  ·rw [List.take_length] at hI
   unfold Zfu Zjp
   exact ⟨fun h=>absurd h (by omega),fun _=>by rw [if_pos (List.all_eq_true.2 hI)]⟩
  ·unfold Zfu
   refine ⟨fun _=>⟨by omega,_,Xb hi,_,Xb6 H hm (hs.r _ (List.getElem_mem hi)),fun h=>?_,fun h=>?_⟩,fun h=>absurd (show (i:Int)<s.routines.length by omega) h⟩
   ·rw [List.all_eq_false.2 ⟨_,List.getElem_mem hi,by simpa using h⟩];rfl
   ·rw [Yv (by omega) (by omega)]
    refine next fun y hy=>?_
    rw [List.take_succ_eq_append_getElem hi] at hy
    rcases List.mem_append.1 hy with hy | hy
    ·exact hI y hy
    ·rw [List.mem_singleton.1 hy];simpa using h)
 exact h
theorem Wt2 {x:Zi} (hx:Zb0 x):Zf PG 204 [x.av] (.b (Rt x)):=by
 obtain ⟨y,rfl,h⟩:=Wjq H.f204 (x0:=x) (K:=fun y=>y=Rt x) (by
  have hfl:=hx.fl
  have hdl:=hx.dl
  have hpl:=hx.pl
  unfold Zo6 Rt
  refine ⟨fun h=>?_,fun h1=>⟨fun h=>?_,fun h2=>⟨fun h=>?_,fun h3=>⟨_,Xzq H.toHasQ hx.p,fun h=>?_,fun h4=>?_⟩⟩⟩⟩
  ·rw [decide_eq_true (by omega)];rfl
  ·rw [decide_eq_true (p:=12<x.defers.length) (by omega)];simp
  ·rw [decide_eq_true (p:=20<x.panics.length) (by omega)];simp
  ·rw [h];simp
  rw [decide_eq_false (by omega),decide_eq_false (by omega),decide_eq_false (by omega),h4]
  simp only [Bool.false_or]
  unfold Zmj
  intro P hP
  refine Uh (P:=fun i=>P i x) x.frames.length (fun i=>∀y∈x.frames.take i,Cg y=false) (by simp) (fun hI=>hP _ _ ?_) fun i hi hI next=>hP _ _ ?_
  ·rw [List.take_length] at hI
   rw [List.any_eq_false.2 fun y hy=>by rw [hI y hy];decide]
   simp only [Bool.false_or]
   unfold Zhv Zr2
   refine ⟨fun h=>absurd h (by omega),fun _ P hP=>?_⟩
   refine Uh (P:=fun i=>P i x) x.defers.length (fun i=>∀y∈x.defers.take i,Bi y.arg=false) (by simp) (fun hI=>hP _ _ ?_) fun i hi hI next=>hP _ _ ?_
   ·rw [List.take_length] at hI
    rw [List.any_eq_false.2 fun y hy=>by rw [hI y hy];decide]
    unfold Zit Zpt
    exact ⟨fun h=>absurd h (by omega),fun _=>rfl⟩
   ·unfold Zit
    refine ⟨fun _=>⟨by omega,_,Xb hi,_,c71 H.toHas38 (hx.d _ (List.getElem_mem hi)),fun h=>?_,fun h=>?_⟩,fun h=>absurd (show (i:Int)<x.defers.length by omega) h⟩
    ·exact (List.any_eq_true.2 ⟨_,List.getElem_mem hi,h⟩).symm
    ·rw [Yv (by omega) (by omega)]
     refine next fun y hy=>?_
     rw [List.take_succ_eq_append_getElem hi] at hy
     rcases List.mem_append.1 hy with hy | hy
     ·exact hI y hy
     ·rw [List.mem_singleton.1 hy];exact h
  ·unfold Zhv
   refine ⟨fun _=>⟨by omega,_,Xb hi,_,c80 H.toHasF (hx.f _ (List.getElem_mem hi)),fun h=>?_,fun h=>?_⟩,fun h=>absurd (show (i:Int)<x.frames.length by omega) h⟩
   ·rw [List.any_eq_true.2 ⟨_,List.getElem_mem hi,h⟩];rfl
   ·rw [Yv (by omega) (by omega)]
    refine next fun y hy=>?_
    rw [List.take_succ_eq_append_getElem hi] at hy
    rcases List.mem_append.1 hy with hy | hy
    ·exact hI y hy
    ·rw [List.mem_singleton.1 hy];exact h)
 exact h
theorem Wpr {s:Zt} (hs:Fk s):Zf PG 203 [s.av] (.b (Cj s)):=by
 obtain ⟨y,rfl,h⟩:=Wi2 H.f203 (s0:=s) (K:=fun y=>y=Cj s) (by
  have hn:=hs.n
  unfold Zun
  intro P hP
  have fin:(s.routines.take 21).any Rt=false->Ev PG (fun x=>x=Cj s) s:=by
   intro h
   unfold Ev Cj
   rw [h,Bool.false_or]
   exact decide_eq_decide.2 (by omega)
  refine Uh (P:=fun i=>P i s) (min s.routines.length 21) (fun i=>(s.routines.take i).any Rt=false) (by simp) (fun hI=>hP _ _ ?_) fun i hi hI ihP=>hP _ _ ?_
  ·unfold Zfh
   refine ⟨fun h=>⟨fun h'=>absurd h' (by omega),fun _=>fin ?_⟩,fun h=>fin ?_⟩
   ·rwa [show min s.routines.length 21=21 by omega] at hI
   ·rw [show min s.routines.length 21=s.routines.length by omega,List.take_length] at hI
    rw [List.any_eq_false] at hI ⊢
    exact fun x hx=>hI x (List.mem_of_mem_take hx)
  ·have hil:i<s.routines.length:=by omega
   unfold Zfh
   refine ⟨fun _=>⟨fun _=>?_,fun h=>absurd (show (i:Int)<=20 by omega) h⟩,fun h=>absurd (show (i:Int)<s.routines.length by omega) h⟩
   unfold Zr7
   refine ⟨by omega,_,Xb hil,_,Wt2 H (hs.r _ (List.getElem_mem hil)),fun h=>?_,fun h=>?_⟩
   ·unfold Cj
    rw [List.any_eq_true.2 ⟨s.routines[i],by rw [List.mem_take_iff_getElem];exact ⟨i,by omega,rfl⟩,h⟩]
    rfl
   ·rw [Yv (by omega) (by omega)]
    exact ihP (by rw [List.take_succ_eq_append_getElem hil,List.any_append,hI];simpa using h))
 exact h
end
end Go.AM

/- Yg of the proof. -/
namespace Go.AM
open Go
theorem Ymn {m:Ze} {n:Int} {f:Zz} (h:m.funcs[n.toNat]?=some f):Qq m n=f.name:=by unfold Qq;rw [h];rfl
theorem Xh1 (a b:Zd):(a++b).length=a.length+b.length:=List.length_append
theorem Ak {m:Ze} {k:Int} {x:Zg} (hm:Wd m) (hx:Uo x) (hb:Jj m x=true):(∀s∈Js m k x,s.length<=1301000)/\(Js m k x).length<=17:=by
 obtain ⟨f0,f1,f,hf,hF⟩:=Mq.1 hb
 obtain ⟨g1,g2,g3,g4,g5,g6⟩:=Cl.1 hF
 obtain ⟨q1,q2,q3,q4⟩:=hm.f f (List.mem_of_getElem? hf)
 have l1:=Qc k
 have l2:=Qc x.func
 have l3:=Qc x.pos
 have l4:=Be f.name
 have l5:=Zyp hx.m f1
 rw [Nr hf]
 refine ⟨fun s hs=>?_,?_⟩
 ·rcases List.mem_cons.1 hs with rfl | hs
  ·unfold Gy
   simp only [List.length_append,List.length_cons,List.length_nil]
   omega
  ·obtain ⟨l,hl,rfl⟩:=List.mem_map.1 hs
   obtain ⟨a1,a2,a3⟩:=Zbr g6 _ hl
   obtain ⟨s,b1,b2,b3⟩:=Zud (f:=f) (n:=l.slot) (by omega) (by omega)
   have c1:=Qc l.slot
   have c2:=Be s.name
   have c3:=q4 s b2
   have c4:=Td a3
   unfold Gp
   rw [b3]
   simp only [List.length_append,List.length_cons,List.length_nil]
   omega
 ·rw [List.length_cons,List.length_map]
  rcases Zni g6 with h | h
  ·rw [h];decide
  ·omega
theorem Znb {m:Ze} (hm:Wd m) :∀(l:List Zg) (i:Nat),(∀x∈l,Uo x)->(∀x∈l,Jj m x=true)->(∀s∈Xh m i l,s.length<=1301000)/\(Xh m i l).length<=17*l.length
 | [],i,_,_=>⟨fun s hs=>(by cases hs),Nat.le_refl _⟩
 | x::r,i,hw,hb=>by
  obtain ⟨h1,h2⟩:=Ak (k:=i) hm (hw x List.mem_cons_self) (hb x List.mem_cons_self)
  obtain ⟨h3,h4⟩:=Znb hm r (i+1) (fun y hy=>hw y (List.mem_cons_of_mem _ hy)) fun y hy=>hb y (List.mem_cons_of_mem _ hy)
  rw [Xh]
  refine ⟨fun s hs=>?_,?_⟩
  ·rcases List.mem_append.1 hs with hs | hs
   ·exact h1 s hs
   ·exact h3 s hs
  ·rw [List.length_append,List.length_cons];omega
theorem Zog (m:Ze) :∀(l:List Zg) (i:Nat) (x:Zg),Xh m i (l++[x])=Xh m i l++Js m ((i+l.length:Nat):Int) x
 | [],i,x=>by simp [Xh]
 | y::r,i,x=>by
  rw [List.cons_append,Xh,Zog m r (i+1) x,Xh,List.append_assoc,List.length_cons,show i+1+r.length=i+(r.length+1) by omega]
theorem Zoy {m:Ze} {Vp:Int} {d:Zr} (h:Jd m Vp d=true):0<=d.frame/\d.frame<Vp/\0<=d.func/\(∃f,m.funcs[d.func.toNat]?=some f/\f.name.length<=16/\Qq m d.func=f.name)/\(d.hasArg=true->Va d.arg=true/\(d.arg.kind=1\/d.arg.kind=2\/d.arg.kind=4))/\(d.hasArg=false->d.arg=vz):=by
 unfold Jd Sb at h
 cases hf:m.funcs[d.func.toNat]? with
 | none=>rw [hf] at h;simp at h
 | some f=>
  rw [hf] at h
  simp only [Bool.and_eq_true,decide_eq_true_eq] at h
  obtain ⟨⟨⟨⟨h1,h2⟩,h3⟩,h4⟩,h5⟩:=h
  refine ⟨h1,h2,h3,⟨f,rfl,h4,Ymn hf⟩,fun ha=>?_,fun ha=>?_⟩
  ·rw [ha,if_pos rfl,Bool.and_eq_true,decide_eq_true_eq] at h5
   exact ⟨h5.2,h5.1⟩
  ·rw [ha] at h5
   exact Tz.1 (by simpa using h5)
theorem Xbv {m:Ze} {Vp:Int} {d:Zr} (h:Jd m Vp d=true):(Jf m d).length<=1301000:=by
 obtain ⟨h1,h2,h3,⟨f,hf,h4,h5⟩,h6,_⟩:=Zoy h
 have l1:=Qc d.frame
 have l2:=Qc d.func
 have l3:=Be f.name
 unfold Jf
 rw [h5]
 simp only [List.length_append,List.length_cons,List.length_nil]
 cases ha:d.hasArg
 ·simp only [Bool.false_eq_true,if_false,List.length_nil];omega
 ·have:=Td (h6 ha).1
  simp only [if_true,List.length_append,List.length_cons,List.length_nil];omega
structure Qm (m:Ze) (x:Zi):Prop where
 f:x.frames.length<=170
 d:x.defers.length<=410
 p:x.panics.length<=410
 fb :∀y∈x.frames,Jj m y=true
 db :∀y∈x.defers,Jd m x.frames.length y=true
 pb :∀y∈x.panics,Xu y=true
 st:x.status=1\/x.status=2\/x.status=3
theorem Qm.of {m:Ze} {x:Zi} (h:Jp m x=true):Qm m x:=by
 by_cases h3:x.status=3
 ·rw [Zf1 h3] at h
  simp only [Bool.and_eq_true,decide_eq_true_eq,List.length_eq_zero_iff] at h
  obtain ⟨⟨⟨k1,k2⟩,k3⟩,k4⟩:=h
  exact ⟨by rw [k1];decide,by rw [k2];decide,by rw [k3];decide,by rw [k1];simp,by rw [k2];simp,by rw [k3];simp,.inr (.inr h3)⟩
 ·by_cases h2:x.status=2\/(x.status=1/\x.key=0)
  ·rw [Zq6 h2] at h
   unfold Hy at h
   simp only [Bool.and_eq_true,decide_eq_true_eq,List.all_eq_true] at h
   obtain ⟨⟨⟨⟨k1,k2⟩,k3⟩,k4⟩,k5⟩:=h
   exact ⟨k1.2,k2,(Ynm k3).1,k4,k5,(Ynm k3).2,by omega⟩
  ·rw [Lu h3 h2] at h;cases h
theorem Znz {m:Ze} {x:Zi} (hm:Wd m) (hx:Qh x) (h:Qm m x):(∀s∈Qt m x,s.length<=1301000)/\(Qt m x).length<=4000:=by
 obtain ⟨h1,h2⟩:=Znb hm x.frames 0 hx.f h.fb
 have a:=h.f
 have b:=h.d
 have c:=h.p
 refine ⟨fun s hs=>?_,?_⟩
 ·unfold Qt at hs
  rcases List.mem_append.1 hs with hs | hs
  ·rcases List.mem_append.1 hs with hs | hs
   ·exact h1 s hs
   ·obtain ⟨d,hd,rfl⟩:=List.mem_map.1 hs
    exact Xbv (h.db d hd)
  ·obtain ⟨p,hp,rfl⟩:=List.mem_map.1 hs
   have:=Zij (h.pb p hp)
   exact Nat.le_trans this (by decide)
 ·unfold Qt
  simp only [List.length_append,List.length_map]
  omega
theorem Yir (x:Zi):(Db x).length<=80:=by
 have:=Qc x.key
 unfold Db
 split
 ·decide
 ·split
  ·decide
  ·simp only [List.length_append,List.length_cons,List.length_nil];omega
theorem Wps (g:Int) (x:Zi):(Hx g x).length<=200:=by
 have:=Qc g
 have:=Yir x
 unfold Hx
 simp only [List.length_append,List.length_cons,List.length_nil];omega
theorem Oz {m:Ze} {g:Int} {x:Zi} (hm:Wd m) (hx:Qh x) (h:Qm m x):(∀s∈Ve m g x,s.length<=1301002)/\(Ve m g x).length<=4001:=by
 obtain ⟨h1,h2⟩:=Znz hm hx h
 unfold Ve
 refine ⟨fun s hs=>?_,?_⟩
 ·rcases List.mem_cons.1 hs with rfl | hs
  ·exact Nat.le_trans (Wps g x) (by decide)
  ·obtain ⟨t,ht,rfl⟩:=List.mem_map.1 hs
   have:=h1 t ht
   unfold Wg
   simp only [List.length_append,List.length_cons,List.length_nil];omega
 ·rw [List.length_cons,List.length_map];omega
theorem Ye0 {B:Nat} :∀{l:List Zd},(∀s∈l,s.length<=B)->(Um l).length<=(B+1)*l.length
 | [],_=>Nat.le_refl _
 | s::r,h=>by
  have h1:=h s List.mem_cons_self
  have h2:=Ye0 fun t ht=>h t (List.mem_cons_of_mem _ ht)
  unfold Um at h2 ⊢
  simp only [List.flatMap_cons,List.length_append,List.length_cons,List.length_nil]
  rw [Nat.mul_succ]
  omega
theorem Wdf (a b:List Zd):Um (a++b)=Um a++Um b:=by unfold Um;rw [List.flatMap_append]
theorem Wo7 {l:List Zd} {i:Nat} (h:i<l.length):Um (l.take (i+1))=Um (l.take i)++(l[i]++[10]):=by
 rw [List.take_succ_eq_append_getElem h,Wdf]
 simp [Um]
theorem Yms {m:Ze} {g:Int} {x:Zi} (hm:Wd m) (hx:Qh x) (h:Qm m x) (i:Nat):(Um ((Ve m g x).take i)).length<=5300000000:=by
 obtain ⟨h1,h2⟩:=Oz (g:=g) hm hx h
 have h3:=Ye0 (l:=(Ve m g x).take i) (B:=1301002) fun s hs=>h1 s (List.mem_of_mem_take hs)
 have h4:((Ve m g x).take i).length<=4001:=by rw [List.length_take];omega
 have h5:1301003*((Ve m g x).take i).length<=1301003*4001:=Nat.mul_le_mul_left _ h4
 exact Nat.le_trans h3 (Nat.le_trans h5 (by decide))
theorem Yo0 (m:Ze) :∀(l:List Zi) (i:Nat) (x:Zi),Ky m i (l++[x])=Ky m i l++Um (Ve m ((i+l.length:Nat):Int) x)
 | [],i,x=>by simp [Ky]
 | y::r,i,x=>by
  rw [List.cons_append,Ky,Yo0 m r (i+1) x,Ky,List.append_assoc,List.length_cons,show i+1+r.length=i+(r.length+1) by omega]
theorem Yii {m:Ze} (hm:Wd m) :∀(l:List Zi) (i:Nat),(∀x∈l,Qh x)->(∀x∈l,Qm m x)->(Ky m i l).length<=5300000000*l.length
 | [],i,_,_=>Nat.le_refl _
 | x::r,i,hw,hb=>by
  have h1:=Yms (g:=i) hm (hw x List.mem_cons_self) (hb x List.mem_cons_self) (Ve m i x).length
  rw [List.take_length] at h1
  have h2:=Yii hm r (i+1) (fun y hy=>hw y (List.mem_cons_of_mem _ hy)) fun y hy=>hb y (List.mem_cons_of_mem _ hy)
  rw [Ky,List.length_append,List.length_cons]
  omega
theorem Zm5 {m:Ze} {g:Int} {x:Zi} (h:¬(g<0\/16<=g)) (h1:Jp m x=true):Bo m g x=(Ve m g x,0):=by unfold Bo;rw [if_neg h,if_pos h1]
theorem Wcj {m:Ze} {g:Int} {x:Zi} (h:¬(g<0\/16<=g)) (h1:Jp m x=false):Bo m g x=([],8):=by unfold Bo;rw [if_neg h,if_neg (by rw [h1];decide)]
theorem Zz8 {m:Ze} {g:Int} {x:Zi} (h:g<0\/16<=g):Bo m g x=([],2):=by unfold Bo;rw [if_pos h]
section
variable {PG:Za} (H:HasT PG)
include H
theorem Yzl {b:List UInt8} (hs:b.length<=Kx):Yt PG 217 (Bl b) [] (fun r=>r=.i .i64 (b.length:Int)) (Bl b):=by
 refine Yt.of H.f217 rfl Bl.out fun d st k v hk hB=>?_
 obtain ⟨c0,o,hb,hc0,hap,hbig⟩:=hB
 refine W.seq (W.reg0 rfl fun nx _=>Vo rfl (Gn (W.seq (W.reg0 rfl fun nx2 _=>?_))))
 refine Vo (v:=.p k v 0) rfl (Wp rfl (Ns rfl (Ck (w:=.sl o (b.map Yu)) rfl hb rfl rfl (Zrt (f:=Yu) rfl (Vo rfl (Gn (W.ret ?_)))))))
 refine ⟨.inr rfl,_,rfl,rfl,⟨c0,o,hb,hc0,hap,hbig⟩,Fr.refl⟩
theorem Xqp {m:Ze} {Vp:Int} {d:Zr} (hm:Wd m) (hd:Wf d.arg) (hn:Vp<=1000) (h:Jd m Vp d=true):Zf PG 234 [m.av,d.av] (.tup [.s (Jf m d),.i .i64 0]):=by
 obtain ⟨x,y,⟨rfl,rfl⟩,h⟩:=Xy0 H.f234 (m0:=m) (d1:=d) (K:=fun x y=>x=Jf m d/\y=0) (by
  obtain ⟨h1,h2,h3,⟨f,hf,h4,h5⟩,h6,_⟩:=Zoy h
  have hfl:d.func<m.funcs.length:=by
   have:=(List.getElem?_eq_some_iff.1 hf).1
   omega
  have hmn:=hm.n
  have l1:=Qc d.frame
  have l2:=Qc d.func
  have l3:=Be f.name
  have hq:=c11 H.toHas03 f.name
  rw [Zrn (by omega)] at hq
  unfold Zt3
  refine ⟨h3,f,hf,_,_,hq,fun h=>absurd rfl h,fun _=>⟨_,Ax H (by omega) (by omega),?_,?_,_,Ax H (by omega) (by omega),?_,?_,?_,fun ha=>?_,fun ha=>?_⟩⟩
  all_goals try (rw [Uq];simp only [List.length_append,List.length_cons,List.length_nil];omega)
  ·have hfi:=(h6 ha).1
   have l4:=Td hfi
   have k:=c72 H.toHas38 hd
   rw [if_pos hfi,Gr.2 hfi] at k
   refine ⟨_,_,k,fun h=>absurd rfl h,fun _=>⟨?_,?_,?_⟩⟩
   ·rw [Uq];simp only [List.length_cons,List.length_nil];omega
   ·rw [Uq];simp only [List.length_append,List.length_cons,List.length_nil];omega
   ·unfold Zb3 Jf
    rw [h5,ha]
    exact ⟨rfl,rfl⟩
  ·unfold Zb3 Jf
   rw [h5,ha]
   exact ⟨by simp,rfl⟩)
 exact h
theorem Wsz {m:Ze} {x:Zi} (hm:Wd m) (hx:Qh x) (h:Qm m x):Zf PG 220 [m.av,x.av] (.tup [.sl .ext ((Qt m x).map Zv),.i .i64 0]):=by
 obtain ⟨y,z,⟨rfl,rfl⟩,h⟩:=Xod H.f220 (m0:=m) (x1:=x) (K:=fun y z=>y=Qt m x/\z=0) (by
  obtain ⟨_,hl⟩:=Znz hm hx h
  have a:=h.f
  have b:=h.d
  have c:=h.p
  have b1 :∀i,i<=x.frames.length->(Xh m 0 (x.frames.take i)).length<=17*170:=fun i hi=>by
   have h1:=(Znb hm (x.frames.take i) 0 (fun y hy=>hx.f y (List.mem_of_mem_take hy)) fun y hy=>h.fb y (List.mem_of_mem_take hy)).2
   rw [List.length_take] at h1
   omega
  have b0:(Xh m 0 x.frames).length<=17*170:=by have:=b1 x.frames.length (Nat.le_refl _);rwa [List.take_length] at this
  unfold Zry Zqz Zuo
  intro P hP
  refine Dz (P:=fun o i=>P o i m x) (fun i=>Xh m 0 (x.frames.take i)) x.frames.length (hP _ _ _ _ ?_) fun i hi ih=>hP _ _ _ _ ?_
  ·rw [List.take_length]
   unfold Zgv Zkq
   refine ⟨fun h=>absurd h (by omega),fun _ P hP=>?_⟩
   have ho:Xh m 0 x.frames=Xh m 0 x.frames++(x.defers.take 0).map (Jf m):=by simp
   rw [ho]
   refine Dz (P:=fun o i=>P o i m x) (fun i=>Xh m 0 x.frames++(x.defers.take i).map (Jf m)) x.defers.length (hP _ _ _ _ ?_) fun i hi ih=>hP _ _ _ _ ?_
   ·rw [List.take_length]
    unfold Zgq Zoo
    refine ⟨fun h=>absurd h (by omega),fun _ P hP=>?_⟩
    have ho:Xh m 0 x.frames++x.defers.map (Jf m)=Xh m 0 x.frames++x.defers.map (Jf m)++(x.panics.take 0).map Jb:=by simp
    rw [ho]
    refine Dz (P:=fun o i=>P o i) (fun i=>Xh m 0 x.frames++x.defers.map (Jf m)++(x.panics.take i).map Jb) x.panics.length (hP _ _ ?_) fun i hi ih=>hP _ _ ?_
    ·rw [List.take_length]
     unfold Zfb Zn9
     exact ⟨fun h=>absurd h (by omega),fun _=>⟨rfl,rfl⟩⟩
    ·have hok:=h.pb _ (List.getElem_mem hi)
     have k:=Yfz H.toHasO (hx.p _ (List.getElem_mem hi))
     rw [show Mx x.panics[i]=(Jb x.panics[i],0) by unfold Mx;rw [if_pos hok]] at k
     unfold Zfb
     refine ⟨fun _=>⟨by omega,_,Xb hi,_,_,k,fun h=>absurd rfl h,fun _=>⟨⟨?_,?_⟩,?_⟩⟩,fun h=>absurd (show (i:Int)<x.panics.length by omega) h⟩
     ·rw [Wt];simp only [List.length_append,List.length_cons,List.length_nil,List.length_map,List.length_take];omega
     ·rw [Wt];simp only [List.length_append,List.length_cons,List.length_nil,List.length_map,List.length_take];omega
     ·rw [Yv (by omega) (by omega)]
      rw [Zg0 Jb hi,<- List.append_assoc] at ih
      exact ih
   ·have hok:=h.db _ (List.getElem_mem hi)
    have k:=Xqp H hm (hx.d _ (List.getElem_mem hi)) (by omega) hok
    unfold Zgq
    refine ⟨fun _=>⟨by omega,_,Xb hi,_,_,k,fun h=>absurd rfl h,fun _=>⟨⟨?_,?_⟩,?_⟩⟩,fun h=>absurd (show (i:Int)<x.defers.length by omega) h⟩
    ·rw [Wt];simp only [List.length_append,List.length_cons,List.length_nil,List.length_map,List.length_take];omega
    ·rw [Wt];simp only [List.length_append,List.length_cons,List.length_nil,List.length_map,List.length_take];omega
    ·rw [Yv (by omega) (by omega)]
     rw [Zg0 (Jf m) hi,<- List.append_assoc] at ih
     exact ih
  ·have hb:=h.fb _ (List.getElem_mem hi)
   have hw:=hx.f _ (List.getElem_mem hi)
   have k:=c82 H.toHasF (k:=(i:Int)) hm hw
   rw [Znu (by omega) hb] at k
   have q1:=b1 i (by omega)
   have q2:=(Ak (k:=(i:Int)) hm hw hb).2
   unfold Zgv
   refine ⟨fun _=>⟨by omega,_,Xb hi,_,_,k,fun h=>absurd rfl h,fun _=>⟨⟨?_,?_⟩,?_⟩⟩,fun h=>absurd (show (i:Int)<x.frames.length by omega) h⟩
   ·dsimp only;rw [Wt];omega
   ·dsimp only;rw [Wt];omega
   ·rw [Yv (by omega) (by omega)]
    rw [List.take_succ_eq_append_getElem hi,Zog,List.length_take,show 0+min i x.frames.length=i by omega] at ih
    exact ih)
 exact h
theorem Zof {m:Ze} {g:Int} {x:Zi} (hm:Wd m) (hx:Qh x):Zf PG 207 [m.av,.i .i64 g,x.av] (.tup [.sl .ext ((Bo m g x).1.map Zv),.i .i64 (Bo m g x).2]):=by
 obtain ⟨y,z,⟨rfl,rfl⟩,h⟩:=Wcc H.f207 (m0:=m) (g1:=g) (x2:=x) (K:=fun y z=>y=(Bo m g x).1/\z=(Bo m g x).2) (by
  unfold Zuw
  refine ⟨fun h=>by rw [Zz8 (.inl h)];exact ⟨rfl,rfl⟩,fun h0=>⟨fun h=>by rw [Zz8 (.inr h)];exact ⟨rfl,rfl⟩,fun h1=>?_⟩⟩
  unfold Zpy
  refine ⟨_,Zwq H hm hx,fun h=>?_,fun h=>?_⟩
  ·rw [Wcj (by omega) (by simpa using h)];exact ⟨rfl,rfl⟩
  have hg:Jp m x=true:=by simpa using h
  rw [Zm5 (by omega) hg]
  have h2:=Qm.of hg
  obtain ⟨p1,p2⟩:=Znz hm hx h2
  have l1:=Qc g
  have l2:=Qc x.key
  have l3:=Yir x
  have e3 :∃c,([[],([114,101,97,100,121]:Zd),(([98,108,111,99,107,101,100,32]:Zd)++Xf x.key),([100,111,110,101]:Zd)]:List Zd)[x.status.toNat]?=some c/\c=Db x:=by
   unfold Db
   rcases h2.st with h | h | h<;>rw [h]<;>exact ⟨_,rfl,rfl⟩
  obtain ⟨c,e3,rfl⟩:=e3
  refine ⟨_,_,Wsz H hm hx h2,fun h=>absurd rfl h,fun _=>⟨_,Ax H (by omega) (by omega),?_,?_,_,c15 H.toHas03 hx.k.1 hx.k.2,?_,hx.st,_,e3,?_,fun P hP=>?_⟩⟩
  all_goals try (rw [Uq];simp only [List.length_append,List.length_cons,List.length_nil];omega)
  refine Dz (P:=fun o i=>P o i) (fun i=>Hx g x::((Qt m x).take i).map Wg) (Qt m x).length (hP _ _ ?_) fun i hi ih=>hP _ _ ?_
  ·rw [List.take_length]
   unfold Zco Zqw
   exact ⟨fun h=>absurd h (by omega),fun _=>⟨rfl,rfl⟩⟩
  ·have:=p1 _ (List.getElem_mem hi)
   unfold Zco
   refine ⟨fun _=>⟨by omega,_,Xb hi,?_,⟨?_,?_⟩,?_⟩,fun h=>absurd (show (i:Int)<(Qt m x).length by omega) h⟩
   ·rw [Uq];simp only [List.length_cons,List.length_nil];omega
   ·rw [Wt];simp only [List.length_append,List.length_cons,List.length_nil,List.length_map,List.length_take];omega
   ·rw [Wt];simp only [List.length_append,List.length_cons,List.length_nil,List.length_map,List.length_take];omega
   ·rw [Yv (by omega) (by omega)]
    rw [Zg0 Wg hi] at ih
    exact ih)
 exact h
end
end Go.AM

/- Yg of the proof. -/
namespace Go.AM
open Go
theorem Lb {m:Ze} {s:Zt} (h:Uf m s=true):(1<=s.outcome/\s.outcome<=8)/\(0<=s.steps/\s.steps<=5000)/\s.routines.length<=16/\(-1<=s.failing/\s.failing<s.routines.length)/\∀x∈s.routines,Jp m x=true:=by
 unfold Uf at h
 simp only [Bool.and_eq_true,decide_eq_true_eq,List.all_eq_true] at h
 obtain ⟨⟨⟨⟨h1,h2⟩,h3⟩,h4⟩,h5⟩:=h
 exact ⟨h1,h2,h3,h4,h5⟩
theorem Xfc {s:Zt} (h:1<=s.outcome/\s.outcome<=8):(Hw s).length<=200:=by
 obtain ⟨w,hw,e,hl⟩:=Ymj h.1 h.2
 have l1:=Qc s.failing
 have l2:=Qc s.steps
 unfold Hw
 rw [e]
 simp only [List.length_append,List.length_cons,List.length_nil]
 omega
theorem Ypm {m:Ze} {s:Zt} (hm:Wd m) (hs:Gu s) (h:Uf m s=true) (i:Nat):(Hw s++Ky m 0 (s.routines.take i)).length<=84800000200:=by
 obtain ⟨h1,h2,h3,h4,h5⟩:=Lb h
 have a:=Xfc h1
 have b:=Yii hm (s.routines.take i) 0 (fun x hx=>hs.r x (List.mem_of_mem_take hx)) fun x hx=>Qm.of (h5 x (List.mem_of_mem_take hx))
 have c:(s.routines.take i).length<=16:=by rw [List.length_take];omega
 rw [List.length_append]
 omega
theorem Wba {m:Ze} {s:Zt} (hm:Wd m) (hs:Gu s) (h:Uf m s=true) {i:Nat} (hi:i<s.routines.length) (j:Nat):(Hw s++Ky m 0 (s.routines.take i)++Um ((Ve m i s.routines[i]).take j)).length<=90100000200:=by
 obtain ⟨h1,h2,h3,h4,h5⟩:=Lb h
 have a:=Ypm hm hs h i
 have b:=Yms (g:=(i:Int)) hm (hs.r _ (List.getElem_mem hi)) (Qm.of (h5 _ (List.getElem_mem hi))) j
 rw [List.length_append]
 omega
theorem Yu0 {m:Ze} {l:List Zi} {i:Nat} (hi:i<l.length):Ky m 0 (l.take (i+1))=Ky m 0 (l.take i)++Um (Ve m i l[i]):=by
 rw [List.take_succ_eq_append_getElem hi,Yo0,List.length_take,show 0+min i l.length=i by omega]
section
variable {PG:Za} (H:HasT PG)
include H
theorem Zox {m:Ze} {s:Zt} (hm:Wd m) (hs:Gu s):Zf PG 205 [m.av,s.av] (.tup [.s (Qe m s).1,.i .i64 (Qe m s).2]):=by
 obtain ⟨x,y,⟨rfl,rfl⟩,h⟩:=Yw5 H.f205 (m0:=m) (s1:=s) (K:=fun x y=>x=(Qe m s).1/\y=(Qe m s).2) (by
  unfold Zo1 Zvh
  refine ⟨_,Yz2 H hm hs,fun h=>?_,fun h=>?_⟩
  ·unfold Nu Qe at *
   by_cases hf:Uf m s=true
   ·rw [if_pos hf] at h;exact absurd rfl h
   ·rw [if_neg hf,if_neg hf];exact ⟨rfl,rfl⟩
  have hf:Uf m s=true:=by
   unfold Nu at h
   by_cases hf:Uf m s=true
   ·exact hf
   ·rw [if_neg hf] at h;exact absurd (by decide) h
  obtain ⟨h1,h2,h3,h4,h5⟩:=Lb hf
  obtain ⟨w,hw,e,hl⟩:=Ymj h1.1 h1.2
  have l1:=Qc s.failing
  have l2:=Qc s.steps
  unfold Zvn Zpm
  refine ⟨_,Yj0 H,rfl,by omega,w,hw,?_,?_,_,Ax H (by omega) (by omega),?_,?_,_,Ax H (by omega) (by omega),?_,?_,_,_,Bz H.toHasB ?_ (by simp),fun P hP=>?_⟩
  all_goals try (rw [Uq];simp only [List.length_append,List.length_cons,List.length_nil];omega)
  ·rw [Wt];simp only [List.length_append,List.length_cons,List.length_nil];omega
  have e0:([]:Zd)++([111,117,116,99,111,109,101,32]++w++[44,32,102,97,105,108,105,110,103,32]++Xf s.failing++[44,32,115,116,101,112,115,32]++Xf s.steps++[10])=Hw s++Ky m 0 (s.routines.take 0):=by
   unfold Hw;rw [e];simp [Ky]
  rw [e0]
  refine Dz (P:=fun b i=>P i m b) (fun i=>Hw s++Ky m 0 (s.routines.take i)) s.routines.length (hP _ _ _ ?_) fun i hi ih=>hP _ _ _ ?_
  ·have hb:=Ypm hm hs hf s.routines.length
   rw [List.take_length] at hb ⊢
   have er:Hw s++Ky m 0 s.routines=Du m s:=rfl
   rw [er] at hb ⊢
   unfold Zfo Znr Qe
   rw [if_pos hf]
   refine ⟨fun h=>absurd h (by omega),fun _=>⟨_,_,Yzl H (by rw [Wt];omega),fun h=>?_,fun h=>⟨_,Ylk H.toHasB (by rw [Wt];omega),?_⟩⟩⟩
   ·rw [if_pos (by omega)];exact ⟨rfl,rfl⟩
   ·rw [if_neg (by omega)];exact ⟨rfl,rfl⟩
  ·have hw:=hs.r _ (List.getElem_mem hi)
   have hg:=h5 _ (List.getElem_mem hi)
   have k:=Zof H (g:=(i:Int)) hm hw
   rw [Zm5 (by omega) hg] at k
   unfold Zfo
   refine ⟨fun _=>⟨by omega,_,Xb hi,_,_,k,fun h=>absurd rfl h,fun _ P1 hP1=>?_⟩,fun h=>absurd (show (i:Int)<s.routines.length by omega) h⟩
   have ho:Hw s++Ky m 0 (s.routines.take i)=Hw s++Ky m 0 (s.routines.take i)++Um ((Ve m i s.routines[i]).take 0):=by simp [Um]
   rw [ho]
   obtain ⟨q1,q2⟩:=Oz (g:=(i:Int)) hm hw (Qm.of hg)
   refine Dz (P:=fun b j=>P1 j m b) (fun j=>Hw s++Ky m 0 (s.routines.take i)++Um ((Ve m i s.routines[i]).take j)) (Ve m i s.routines[i]).length (hP1 _ _ _ ?_) fun j hj ihj=>hP1 _ _ _ ?_
   ·rw [List.take_length]
    unfold Ze9 Zlg
    refine ⟨fun h=>absurd h (by dsimp only;omega),fun _=>?_⟩
    rw [Yv (by omega) (by omega)]
    rw [Yu0 hi,<- List.append_assoc] at ih
    exact ih
   ·have r1:=q1 _ (List.getElem_mem hj)
    have r2:=Wba hm hs hf hi j
    unfold Ze9
    refine ⟨fun _=>⟨by omega,_,Xb hj,?_,_,_,Bz H.toHasB ?_ (by simp),?_⟩,fun h=>absurd (show (j:Int)<(Ve m i s.routines[i]).length by omega) h⟩
    ·rw [Uq];simp only [List.length_cons,List.length_nil];omega
    ·rw [Wt,Xh1 _ [10]];simp only [List.length_cons,List.length_nil];omega
    ·rw [Yv (by omega) (by omega)]
     rw [Wo7 hj,<- List.append_assoc] at ihj
     exact ihj)
 exact h
end
end Go.AM

/- Yg of the proof. -/
namespace Go.AM
open Go
theorem Ydw (c:UInt8) (s:Zd):Zp [c] (c::s)=(s,true):=Kg [c] s
theorem Zbt (r:Zd):Qu (32::r)=0:=rfl
theorem Wdb {n:Int} (h0:0<=n) (h3:n<=3):Cs (Rq n)=n:=by
 rcases (show n=0\/n=1\/n=2\/n=3 by omega) with rfl | rfl | rfl | rfl<;>decide
theorem Zhe {n k:Int} {r:Zd} (h0:0<=k) (h1:k<n) (h2:k<1000000000) (hr:Qu r=0):Yw n (Xf k++r)=(k,true,r):=by
 unfold Yw
 rw [Ydi (by omega) (by omega) hr,decide_eq_true h0,decide_eq_true h1];rfl
theorem Wev {m:Ze} {f:Zz} {k:Int} {x:Zg} (hm:Wd m) (hf:m.funcs[x.func.toNat]?=some f) (hk:0<=k/\k<170) (hx:0<=x.func) (hp:0<=x.pos) (hc:x.pos<f.code.length) (hmo:0<=x.mode/\x.mode<=3) :
  Vv m (Gy f k x)=(k,⟨x.func,x.pos,x.mode,[]⟩,true):=by
 have hlen:x.func<m.funcs.length:=by
  have:=(List.getElem?_eq_some_iff.1 hf).1
  omega
 have hn:=hm.n
 obtain ⟨q1,q2,q3,q4⟩:=hm.f f (List.mem_of_getElem? hf)
 have e:Gy f k x=[35]++(Xf k++32::(Xf x.func++32::(quo f.name++32::97::116::32::(Xf x.pos++32::Rq x.mode)))):=by unfold Gy;simp
 have en:Qq m x.func=f.name:=Ymn hf
 have ec:Ga m x.func=(f.code.length:Int):=by unfold Ga;rw [hf];rfl
 rw [e]
 unfold Vv
 rw [Kg]
 simp only [Bool.true_eq_false,if_false]
 unfold Mt
 rw [Zhe hk.1 hk.2 (by omega) (Zbt _)]
 simp only [Bool.true_eq_false,if_false]
 rw [Ydw]
 simp only [Bool.true_eq_false,if_false]
 unfold Mw
 rw [Zhe hx hlen (by omega) (Zbt _)]
 simp only [Bool.true_eq_false,if_false]
 rw [en,show (32::(quo f.name++32::97::116::32::(Xf x.pos++32::Rq x.mode)):Zd)=([32]++quo f.name++[32,97,116,32])++(Xf x.pos++32::Rq x.mode) from by simp,Kg]
 simp only [Bool.true_eq_false,if_false]
 unfold Na
 rw [ec,Zhe hp hc (by omega) (Zbt _)]
 simp only [Bool.true_eq_false,if_false]
 rw [Ydw]
 simp only [Bool.true_eq_false,if_false]
 unfold Lo
 rw [Wdb hmo.1 hmo.2,decide_eq_true hmo.1,show max 0 x.mode=x.mode by omega]
theorem Xbx {f:Zz} {l:Yb} (hf:f.slots.length<=1000) (h0:0<=l.slot) (h1:l.slot<f.slots.length) (hv:Va l.value=true) (hw:Wf l.value):Km f (Gp f l)=some l:=by
 have e:Gp f l=[32,32]++(Xf l.slot++32::(quo (Ma f l.slot)++32::61::32::Xi l.value)):=by unfold Gp;simp
 have e2:(32::(quo (Ma f l.slot)++32::61::32::Xi l.value):Zd)=([32]++quo (Ma f l.slot)++[32,61,32])++Xi l.value:=by simp
 rw [e]
 unfold Km
 rw [Kg]
 simp only [Bool.true_eq_false,if_false]
 rw [Zhe h0 h1 (by omega) (Zbt _)]
 simp only [Bool.true_eq_false,if_false]
 rw [e2,Kg]
 simp only [Bool.true_eq_false,if_false]
 rw [Zly hv hw,if_pos rfl]
theorem Yf4 {f:Zz} (hf:f.slots.length<=1000) :∀(l:List Yb),(∀y∈l,0<=y.slot/\y.slot<f.slots.length/\Va y.value=true/\Wf y.value)->Qo f (l.map (Gp f))=some l
 | [],_=>rfl
 | y::l,h=>by
  obtain ⟨a,b,c,d⟩:=h y (by simp)
  rw [List.map_cons,Qo,Xbx hf a b c d]
  simp only
  rw [Yf4 hf l fun z hz=>h z (by simp [hz])]
theorem Xxj {m:Ze} {k:Int} {x:Zg} (hm:Wd m) (hx:Uo x) (hk:0<=k/\k<170) (hb:Jj m x=true):Ks m (Js m k x)=(k,x,0):=by
 obtain ⟨f0,f1,f,hf,hF⟩:=Mq.1 hb
 obtain ⟨g1,g2,g3,g4,g5,g6⟩:=Cl.1 hF
 obtain ⟨l1,l2⟩:=Ak (k:=k) hm hx hb
 have hl:¬(17<(Js m k x).length\/Dq 1400060 (Js m k x)=true):=by
  rintro (h | h)
  ·omega
  ·rw [Yhj.2 fun s hs=>Nat.le_trans (l1 s hs) (by decide)] at h;cases h
 have e:=Nr hf k
 have hp:=Wev (k:=k) hm hf hk f0 g3 g4 ⟨hx.m,f1⟩
 have hr:=Yf4 (f:=f) (by omega) x.locals fun y hy=>by
  obtain ⟨a,b,c⟩:=Zbr g6 _ hy
  exact ⟨by omega,b,c,hx.v y hy⟩
 rw [e] at hl ⊢
 unfold Ks
 rw [if_neg hl]
 simp only
 rw [hp]
 simp only [Bool.true_eq_false,if_false]
 rw [hf]
 simp only
 rw [hr]
 simp only
 have ex:({ func:=x.func,pos:=x.pos,mode:=x.mode,locals:=x.locals }:Zg)=x:=by cases x;rfl
 rw [ex,if_pos]
 unfold Uz
 rw [if_neg (by omega),if_pos hb,e]
end Go.AM

/- Yg of the proof. -/
namespace Go.AM
open Go
def Xq:Zd->List Zd × Zd
 | []=>([],[])
 | c::r=>if c=10 then ([]::(Xq r).1,(Xq r).2) else match (Xq r).1 with
  | []=>([],c::(Xq r).2)
  | x::l=>((c::x)::l,(Xq r).2)
def Gz (l:List Zd):Zd:=l.flatMap fun x=>x++[10]
theorem Yth (l m:List Zd):Gz (l++m)=Gz l++Gz m:=by unfold Gz;rw [List.flatMap_append]
theorem Cm (x:Zd) (l:List Zd):Gz (x::l)=x++10::Gz l:=by unfold Gz;simp
theorem Ow :∀s:Zd,s=Gz (Xq s).1++(Xq s).2
 | []=>rfl
 | c::r=>by
  have ih:=Ow r
  unfold Xq
  split
  ·rename_i h
   subst h
   simp only [Cm,List.nil_append,List.cons_append]
   rw [<- ih]
  ·split
   ·rename_i h
    rw [h] at ih
    simp only [Gz,List.flatMap_nil,List.nil_append] at ih ⊢
    rw [<- ih]
   ·rename_i x l h
    rw [h,Cm] at ih
    simp only [Cm,List.cons_append]
    rw [<- ih]
theorem Zm2 :∀s:Zd,(∀x∈(Xq s).1,(10:UInt8) ∉ x)/\(10:UInt8) ∉ (Xq s).2
 | []=>⟨fun x h=>(by simp [Xq] at h),by simp [Xq]⟩
 | c::r=>by
  have ih:=Zm2 r
  unfold Xq
  split
  ·refine ⟨fun x h=>?_,ih.2⟩
   simp only [List.mem_cons] at h
   rcases h with rfl | h
   ·simp
   ·exact ih.1 x h
  ·rename_i hc
   have hc':(10:UInt8)≠c:=fun h=>hc h.symm
   split
   ·exact ⟨fun x h=>by simp at h,by simp only [List.mem_cons,not_or];exact ⟨hc',ih.2⟩⟩
   ·rename_i x l h
    rw [h] at ih
    refine ⟨fun y hy=>?_,ih.2⟩
    simp only [List.mem_cons] at hy
    rcases hy with rfl | hy
    ·simp only [List.mem_cons,not_or]
     exact ⟨hc',ih.1 x (by simp)⟩
    ·exact ih.1 y (by simp [hy])
theorem Yqy :∀e:Zd,(10:UInt8) ∉ e->Xq e=([],e)
 | [],_=>rfl
 | c::r,h=>by
  simp only [List.mem_cons,not_or] at h
  unfold Xq
  rw [if_neg (fun e=>h.1 e.symm),Yqy r h.2]
theorem Yi6 :∀(x r:Zd),(10:UInt8) ∉ x->Xq (x++10::r)=(x::(Xq r).1,(Xq r).2)
 | [],r,_=>by rw [List.nil_append,Xq,if_pos rfl]
 | c::x,r,h=>by
  simp only [List.mem_cons,not_or] at h
  rw [List.cons_append,Xq,if_neg (fun e=>h.1 e.symm),Yi6 x r h.2]
theorem Zxq :∀(l:List Zd) (e:Zd),(∀x∈l,(10:UInt8) ∉ x)->(10:UInt8) ∉ e->Xq (Gz l++e)=(l,e)
 | [],e,_,he=>by simpa [Gz] using Yqy e he
 | x::l,e,h,he=>by
  rw [Cm,List.append_assoc,List.cons_append,Yi6 x _ (h x (by simp)),Zxq l e (fun y hy=>h y (by simp [hy])) he]
theorem Xdg (s:Zd):(Xq s).1.length=s.count 10:=by
 have h:=Ow s
 have h1:=Zm2 s
 rw [congrArg (List.count (10:UInt8)) h,List.count_append,List.count_eq_zero.2 h1.2,Nat.add_zero]
 generalize (Xq s).1=l at h1
 clear h
 replace h1:=h1.1
 induction l with
 | nil=>rfl
 | cons x l ih=>
  rw [Cm,List.count_append,List.count_eq_zero.2 (h1 x (by simp)),List.count_cons_self,List.length_cons,ih fun y hy=>h1 y (by simp [hy])]
  omega
theorem Xi9 :∀k:Fin 16,(10:UInt8)≠Qa k:=by decide
theorem Zfd (n:Nat):(10:UInt8)≠Qa n:=by
 by_cases h:n<16
 ·exact Xi9 ⟨n,h⟩
 ·unfold Qa
  rw [List.getD_eq_getElem?_getD,List.getElem?_eq_none (by simp;omega)]
  decide
theorem Zob (b:Nat) :∀f n,(10:UInt8) ∉ ds b f n
 | 0,_=>by simp [ds]
 | f+1,n=>by
  unfold ds
  split
  ·simp only [List.mem_singleton];exact Zfd n
  ·simp only [List.mem_append,List.mem_singleton,not_or]
   exact ⟨Zob b f (n / b),Zfd _⟩
theorem Bn (n:Int):(10:UInt8) ∉ Xf n:=by
 unfold Xf
 split
 ·simp only [List.mem_cons,not_or]
  exact ⟨by decide,Zob _ _ _⟩
 ·exact Zob _ _ _
theorem Xn0 (c:UInt8):(10:UInt8) ∉ Jn c:=by
 unfold Jn
 split
 ·rename_i h
  simp only [List.mem_cons,List.not_mem_nil,or_false,not_or]
  exact ⟨by decide,fun e=>by subst e;revert h;decide⟩
 ·split
  ·decide
  ·rename_i h
   split
   ·simp only [List.mem_cons,List.not_mem_nil,or_false,not_or]
    exact ⟨by decide,by decide,Zfd _,Zfd _⟩
   ·simp only [List.mem_singleton]
    exact fun e=>h (by rw [<- e];rfl)
theorem Zdm (s:Zd):(10:UInt8) ∉ quo s:=by
 unfold quo Kh
 simp only [List.mem_cons,List.mem_append,List.mem_flatMap,List.not_mem_nil,or_false,not_or,not_exists,not_and]
 exact ⟨by decide,fun c _=>Xn0 c,by decide⟩
mutual
theorem Ez :∀v:Zb,(10:UInt8) ∉ Xi v
 | .mk k n s l c=>by
  have h:=Ysx l
  rw [Xi]
  split
  ·split<;>decide
  ·split
   ·exact Bn n
   ·split
    ·exact Zdm s
    ·split
     ·simp only [List.mem_cons,List.mem_append,List.not_mem_nil,or_false,not_or];exact ⟨by decide,h,by decide⟩
     ·split
      ·simp only [List.mem_cons,List.mem_append,List.not_mem_nil,or_false,not_or];exact ⟨by decide,h,by decide⟩
      ·split
       ·split
        ·decide
        ·simp only [List.mem_cons,List.mem_append,List.not_mem_nil,or_false,not_or];exact ⟨by decide,h,by decide⟩
       ·split
        ·decide
        ·split
         ·decide
         ·simp only [List.mem_cons,not_or];exact ⟨by decide,h⟩
theorem Ysx :∀l:List Zb,(10:UInt8) ∉ Xc l
 | []=>by simp [Xc]
 | v::l=>by rw [Xc];simp only [List.mem_append,not_or];exact ⟨Ez v,Ybo l⟩
theorem Ybo :∀l:List Zb,(10:UInt8) ∉ Ub l
 | []=>by simp [Ub]
 | v::l=>by rw [Ub];simp only [List.mem_cons,List.mem_append,not_or];exact ⟨by decide,by decide,Ez v,Ybo l⟩
end
theorem Wjt (p:Zh):(10:UInt8) ∉ Jb p:=by
 unfold Jb Vu Ss
 simp only [List.mem_append,not_or]
 refine ⟨?_,?_,?_⟩
 ·split
  ·decide
  ·split
   ·unfold Zad
    split
    ·decide
    ·split
     ·decide
     ·split<;>decide
   ·simp only [List.mem_append,not_or]
    exact ⟨by decide,Ez _⟩
 ·split<;>decide
 ·split<;>decide
end Go.AM

/- Yg of the proof. -/
namespace Go.AM
open Go
def Hu:Zd:=[111,117,116,99,111,109,101,32]
def Ms:Zd:=[44,32,102,97,105,108,105,110,103,32]
def Ny:Zd:=[44,32,115,116,101,112,115,32]
def Rh:Zd:=[103,111,114,111,117,116,105,110,101,32]
def Rd:Zd:=[58,32]
def Oh:Zd:=[98,108,111,99,107,101,100,32]
def Zih:Zd:=[114,101,97,100,121]
def Yce:Zd:=[100,111,110,101]
def Nz:Zd:=[32,32,35]
def t4:Zd:=[32,32,32,32]
def Nd:Zd:=[32,32,100,101,102,101,114,32]
def t2:Zd:=[32,32]
def Pd:Zd:=[32,119,105,116,104,32]
def Ztv (w f st:Zd) (ab:Bool):Zt × Bool:=(⟨(Bt w).1,(Wj f).1,(Wj st).1,[]⟩,ab&&decide ((Wj f).2=0)&&decide ((Wj st).2=0)&&decide ((Bt w).2=0))
def Zmg (w r:Zd) (a:Bool):Zt × Bool:=Ztv w (Lib.cut r Ny).1 (Lib.cut r Ny).2.1 (a&&(Lib.cut r Ny).2.2)
def Hq (s:Zd):Zt × Bool:=Zmg (Lib.cut (Zp Hu s).1 Ms).1 (Lib.cut (Zp Hu s).1 Ms).2.1 (Lib.cut (Zp Hu s).1 Ms).2.2
abbrev rz:Zi:=⟨0,0,[],[],[]⟩
def Ew (st:Zd):Zi × Bool:=if (Zp Oh st).2=true then (⟨2,(Wj (Zp Oh st).1).1,[],[],[]⟩,decide ((Wj (Zp Oh st).1).2=0)) else if st=Zih then (⟨1,0,[],[],[]⟩,true) else (⟨3,0,[],[],[]⟩,decide (st=Yce))
def Kn (s:Zd):Zi × Bool:=if (Lib.cut s Rd).2.2=false then (rz,false) else Ew (Lib.cut s Rd).2.1
def Cw (a b:Int) (r:Zd):Option Zr:=if r=[] then some ⟨a,b,false,vz⟩ else if (Jt (Zp Pd r).1).2=0 then some ⟨a,b,true,(Jt (Zp Pd r).1).1⟩ else none
def Bs (m:Ze) (a b c:Zd):Option Zr:=if (Wj a).2≠0\/(Wj b).2≠0\/(Wj b).1<0\/(m.funcs.length:Int)<=(Wj b).1 then none else
 if (Zp (quo (Qq m (Wj b).1)) c).2=false then none else Cw (Wj a).1 (Wj b).1 (Zp (quo (Qq m (Wj b).1)) c).1
def Gm (m:Ze) (s:Zd):Option Zr:=match Lib.splitN s [32] 4 with
 | [_,a,b,c]=>Bs m a b c
 | _=>none
def Ka:List Zd->List Zd × List Zd
 | []=>([],[])
 | x::r=>if (Zp t4 x).2=true then (x.drop 2::(Ka r).1,(Ka r).2) else ([],x::r)
def Qp (m:Ze):Nat->List Zd->Option (List Zg × List Zd)
 | 0,_=>none
 | _+1,[]=>some ([],[])
 | n+1,x::r=>if (Zp Nz x).2=true then
   if (Ks m (x.drop 2::(Ka r).1)).2.2=0 then (Qp m n (Ka r).2).map fun z=>((Ks m (x.drop 2::(Ka r).1)).2.1::z.1,z.2) else none
  else some ([],x::r)
def Ue (m:Ze):List Zd->Option (List Zr × List Zd)
 | []=>some ([],[])
 | x::r=>if (Zp Nd x).2=true then (Gm m (x.drop 2)).bind fun d=>(Ue m r).map fun z=>(d::z.1,z.2) else some ([],x::r)
def Us:List Zd->Option (List Zh × List Zd)
 | []=>some ([],[])
 | x::r=>if (Zp t2 x).2=true then (if (Ua (x.drop 2)).2=0 then (Us r).map fun z=>((Ua (x.drop 2)).1::z.1,z.2) else none) else some ([],x::r)
def Qj (m:Ze) (l:List Zd):Option (List Zg × List Zr × List Zh × List Zd):=
 (Qp m (l.length+1) l).bind fun a=>(Ue m a.2).bind fun b=>(Us b.2).map fun c=>(a.1,b.1,c.1,c.2)
def Hk (m:Ze):Nat->List Zd->Option (List Zi × List Zd)
 | 0,_=>none
 | _+1,[]=>some ([],[])
 | n+1,x::r=>if (Zp Rh x).2=true then
   if (Kn x).2=true then (Qj m r).bind fun a=>(Hk m n a.2.2.2).map fun z=>(⟨(Kn x).1.status,(Kn x).1.key,a.1,a.2.1,a.2.2.1⟩::z.1,z.2) else none
  else some ([],x::r)
abbrev sz:Zt:=⟨0,0,0,[]⟩
def Sq (m:Ze):List Zd->Option Zt
 | []=>none
 | x::r=>if (Zp Hu x).2=true then (if (Hq x).2=true then (Hk m (r.length+1) r).map fun z=>⟨(Hq x).1.outcome,(Hq x).1.failing,(Hq x).1.steps,z.1⟩ else none) else none
def Gt (m:Ze) (s:Zd):Zt × Int:=if 300000<s.length then (sz,4) else match Sq m (Lib.split s [10]) with
 | none=>(sz,12)
 | some x=>if Qe m x=(s,0) then (x,0) else (sz,12)
theorem Ygd {c:UInt8} {t a b:Zd} (h:c ∉ a):Lib.index (a++((c::t)++b)) (c::t)=(a.length:Int):=by
 refine Lib.index_first (by simp) ?_ fun j hj=>?_
 ·unfold Lib.occAt
  rw [List.drop_left]
  simp
 ·unfold Lib.occAt
  rw [List.drop_append_of_le_length (by omega)]
  cases e:a.drop j with
  | nil=>exact absurd (List.drop_eq_nil_iff.1 e) (by omega)
  | cons d r=>
   rw [List.cons_append,List.isPrefixOf_cons₂]
   have hd:d∈a:=List.mem_of_mem_drop (i:=j) (by rw [e];simp)
   have:(c==d)=false:=by rw [beq_eq_false_iff_ne];rintro rfl;exact h hd
   rw [this];rfl
theorem Zq9 {c:UInt8} {t a b:Zd} (h:c ∉ a):Lib.cut (a++((c::t)++b)) (c::t)=(a,b,true):=by
 unfold Lib.cut
 rw [Ygd h,if_pos (by omega)]
 have e:((a.length:Nat):Int).toNat=a.length:=rfl
 rw [e,List.take_left,<- List.length_append,<- List.append_assoc,List.drop_left]
theorem Zc7 {c:UInt8} {a b:Zd} (h:c ∉ a) (k:Nat):Lib.splitK [c] 0 (k+1) (a++c::b)=a::Lib.splitK [c] 0 k b:=by
 have e:=Ygd (t:=[]) (b:=b) h
 rw [List.singleton_append] at e
 rw [Lib.splitK,e,if_neg (by simp only [beq_iff_eq];omega)]
 have e2:((a.length:Nat):Int).toNat=a.length:=rfl
 rw [e2,Nat.add_zero,List.take_left]
 congr 2
 rw [show a++c::b=(a++[c])++b by simp,show a.length+[c].length=(a++[c]).length by simp,List.drop_left]
theorem Wc1 (s:Zd):Lib.split s [10]=(Xq s).1++[(Xq s).2]:=by
 unfold Lib.split
 rw [Lib.count_one]
 have h1:=Zm2 s
 have h2:=Ow s
 generalize (Xq s).2=e at *
 generalize (Xq s).1=l at *
 subst h2
 obtain ⟨h1,h3⟩:=h1
 induction l with
 | nil=>
  simp only [Gz,List.flatMap_nil,List.nil_append]
  rw [List.count_eq_zero.2 h3];rfl
 | cons x l ih=>
  have hx:=h1 x (by simp)
  rw [Cm,List.append_assoc,List.cons_append,List.count_append,List.count_eq_zero.2 hx,List.count_cons_self,Nat.zero_add,Zc7 hx,ih fun y hy=>h1 y (by simp [hy])]
  rfl
end Go.AM

/- Yg of the proof. -/
namespace Go.AM
open Go
theorem Zcm (n:Int) {c:UInt8} (h:Gb c=false) (h2:c≠45):c ∉ Xf n:=by
 have hd :∀k,c ∉ Jl 10 k:=fun k hc=>by
  have:=Cq _ _ c hc
  rw [h] at this;cases this
 unfold Xf
 split
 ·simp only [List.mem_cons,not_or]
  exact ⟨h2,hd _⟩
 ·exact hd _
theorem Ywu {a b:Zd} (h:(44:UInt8) ∉ a):Lib.cut (a++(Ms++b)) Ms=(a,b,true):=Zq9 (t:=[32,102,97,105,108,105,110,103,32]) h
theorem Wnm {a b:Zd} (h:(44:UInt8) ∉ a):Lib.cut (a++(Ny++b)) Ny=(a,b,true):=Zq9 (t:=[32,115,116,101,112,115,32]) h
theorem Xtv {a b:Zd} (h:(58:UInt8) ∉ a):Lib.cut (a++(Rd++b)) Rd=(a,b,true):=Zq9 (t:=[32]) h
def Bb (s:Zt):Zd:=Hu++((Lj s.outcome).1++(Ms++(Xf s.failing++(Ny++Xf s.steps))))
theorem Wif (s:Zt):Hw s=Bb s++[10]:=by unfold Hw Bb Hu Ms Ny;simp
theorem Yo1 {n:Int} (h1:1<=n) (h8:n<=8):(44:UInt8) ∉ (Lj n).1/\(10:UInt8) ∉ (Lj n).1/\Bt (Lj n).1=(n,0):=by
 rcases (show n=1\/n=2\/n=3\/n=4\/n=5\/n=6\/n=7\/n=8 by omega) with rfl | rfl | rfl | rfl | rfl | rfl | rfl | rfl<;>exact ⟨by decide,by decide,by decide⟩
theorem Xt6 {s:Zt} (h1:1<=s.outcome/\s.outcome<=8) (h2:-1000000<=s.failing/\s.failing<=1000000) (h3:0<=s.steps/\s.steps<=5000):Hq (Bb s)=(⟨s.outcome,s.failing,s.steps,[]⟩,true):=by
 obtain ⟨w1,w2,w3⟩:=Yo1 h1.1 h1.2
 unfold Hq Bb
 rw [Kg]
 simp only
 rw [Ywu w1]
 unfold Zmg
 rw [Wnm (Zcm s.failing (c:=44) rfl (by decide))]
 unfold Ztv
 rw [w3,Ea (by omega) (by omega),Ea (by omega) (by omega)]
 rfl
theorem Wr7 (g:Int) (x:Zi):Hx g x=Rh++(Xf g++(Rd++Db x)):=by unfold Hx Rh Rd;simp
theorem Xg0 {g:Int} {x:Zi} (hs:x.status=1\/x.status=2\/x.status=3) (h1:x.status≠2->x.key=0) (hk:-9223372036854775808<=x.key/\x.key<9223372036854775808):Kn (Hx g x)=(⟨x.status,x.key,[],[],[]⟩,true):=by
 unfold Kn
 rw [Wr7,<- List.append_assoc,Xtv (by
  simp only [List.mem_append,not_or]
  exact ⟨by decide,Zcm g rfl (by decide)⟩)]
 simp only [Bool.true_eq_false,if_false]
 unfold Ew
 rcases hs with h | h | h
 ·rw [show Db x=Zih from by unfold Db;rw [if_pos h];rfl,h,h1 (by omega)];rfl
 ·rw [show Db x=Oh++Xf x.key from by unfold Db;rw [if_neg (by omega),if_neg (by omega)];rfl,h,Kg]
  simp only [if_true]
  rw [Ea hk.1 hk.2];rfl
 ·rw [show Db x=Yce from by unfold Db;rw [if_neg (by omega),if_pos h];rfl,h,h1 (by omega)];rfl
theorem Ytn {m:Ze} {Vp:Int} {d:Zr} (hm:Wd m) (hw:Wf d.arg) (hn:Vp<=1000000) (h:Jd m Vp d=true):Gm m (Jf m d)=some d:=by
 obtain ⟨a1,a2,a3,⟨f,a4,a5,a6⟩,a7,a8⟩:=Zoy h
 have hlen:d.func<m.funcs.length:=by
  have:=(List.getElem?_eq_some_iff.1 a4).1
  omega
 have hmn:=hm.n
 have e:Jf m d=[100,101,102,101,114]++32::(Xf d.frame++32::(Xf d.func++32::(quo (Qq m d.func)++(if d.hasArg=true then Pd++Xi d.arg else [])))):=by unfold Jf Pd;simp
 have e2:Lib.splitN (Jf m d) [32] 4=[[100,101,102,101,114],Xf d.frame,Xf d.func,quo (Qq m d.func)++(if d.hasArg=true then Pd++Xi d.arg else [])]:=by
  unfold Lib.splitN
  have hl:3<=(Jf m d).length:=by rw [e];simp only [List.length_append,List.length_cons,List.length_nil];omega
  rw [show min 4 ((Jf m d).length+1)-1=3 from by omega,e]
  rw [Zc7 (by decide),Zc7 (Zcm _ rfl (by decide)),Zc7 (Zcm _ rfl (by decide))]
  rfl
 unfold Gm
 rw [e2]
 simp only
 unfold Bs
 rw [Ea (by omega) (by omega),Ea (by omega) (by omega)]
 simp only
 rw [if_neg (by omega),Kg]
 simp only [Bool.true_eq_false,if_false]
 unfold Cw
 cases ha:d.hasArg with
 | false=>
  have:=a8 ha
  simp only [Bool.false_eq_true,if_false,if_true]
  rw [<- this,<- ha]
 | true=>
  simp only [if_true]
  rw [if_neg (by unfold Pd;simp),Kg]
  simp only
  rw [Zly (a7 ha).1 hw,if_pos rfl,<- ha]
def Qx (p:Zd) (l:List Zd):Prop:=∀x r,l=x::r->(Zp p x).2=false
theorem Pi {p x:Zd} {r:List Zd} (h:(Zp p x).2=false):Qx p (x::r):=fun y s e=>by injection e with e1 e2;rw [<- e1];exact h
theorem Cb {p:Zd} {a b:List Zd} (ha:Qx p a) (hb:Qx p b):Qx p (a++b):=by
 cases a with
 | nil=>exact hb
 | cons x r=>exact Pi (ha x r rfl)
theorem Wgm {ls rest:List Zd} (h:Qx t4 rest):Ka ((ls.map Wg).map Wg++rest)=(ls.map Wg,rest):=by
 induction ls with
 | nil=>
  cases rest with
  | nil=>rfl
  | cons x r=>
   show Ka (x::r)=_
   rw [Ka,if_neg (by rw [h x r rfl];decide)];rfl
 | cons x l ih=>
  rw [List.map_cons,List.map_cons,List.cons_append,Ka,show Wg (Wg x)=t4++x from rfl,Kg,if_pos rfl,ih]
  rfl
theorem Xqw (f:Zz) (l:Yb) :∃y,Gp f l=Wg y:=⟨Xf l.slot++[32]++quo (Ma f l.slot)++[32,61,32]++Xi l.value,by unfold Gp Wg;simp⟩
theorem Xih (f:Zz) (l:List Yb) :∃ys:List Zd,l.map (Gp f)=ys.map Wg:=by
 induction l with
 | nil=>exact ⟨[],rfl⟩
 | cons x l ih=>
  obtain ⟨ys,h⟩:=ih
  obtain ⟨y,hy⟩:=Xqw f x
  exact ⟨y::ys,by rw [List.map_cons,List.map_cons,h,hy]⟩
theorem Yam (m:Ze) :∀(l:List Zg) (i:Nat),Qx t4 ((Xh m i l).map Wg)
 | [],_=>fun x r e=>by cases e
 | x::l,i=>by
  show Qx t4 ((Js m i x++Xh m (i+1) l).map Wg)
  rw [List.map_append]
  refine Cb ?_ (Yam m l (i+1))
  unfold Js
  split
  ·exact fun x r e=>by cases e
  ·exact Pi (by unfold Gy;rfl)
theorem Zzv {m:Ze} (hm:Wd m) {rest:List Zd} (h1:Qx Nz rest) (h2:Qx t4 rest) :∀(l:List Zg) (i n:Nat),(∀x∈l,Uo x)->(∀x∈l,Jj m x=true)->i+l.length<=170->l.length<n->Qp m n ((Xh m i l).map Wg++rest)=some (l,rest)
 | [],_,n+1,_,_,_,_=>by
  cases rest with
  | nil=>rfl
  | cons x r=>
   show Qp m (n+1) (x::r)=_
   rw [Qp,if_neg (by rw [h1 x r rfl];decide)]
 | x::l,i,n+1,hw,hb,hi,hn=>by
  obtain ⟨f0,f1,f,hf,hF⟩:=Mq.1 (hb x (by simp))
  obtain ⟨ys,hys⟩:=Xih f x.locals
  rw [List.length_cons] at hi hn
  have ih:=Zzv hm h1 h2 l (i+1) n (fun y hy=>hw y (by simp [hy])) (fun y hy=>hb y (by simp [hy])) (by omega) (by omega)
  have e:(Xh m i (x::l)).map Wg++rest=Wg (Gy f i x)::((ys.map Wg).map Wg++((Xh m (i+1) l).map Wg++rest)):=by
   show (Js m i x++Xh m (i+1) l).map Wg++rest=_
   rw [Nr hf,hys,List.map_append,List.map_cons];simp
  have hr:=Xxj (k:=(i:Int)) hm (hw x (by simp)) (by omega) (hb x (by simp))
  rw [Nr hf,hys] at hr
  have ep:(Zp Nz (Wg (Gy f i x))).2=true:=by unfold Gy;rfl
  have ed:(Wg (Gy f i x)).drop 2=Gy f i x:=rfl
  rw [e,Qp,if_pos ep,Wgm (Cb (Yam m l (i+1)) h2)]
  simp only
  rw [ed,hr]
  simp only [if_true]
  rw [ih]
  rfl
theorem Yql {m:Ze} {Vp:Int} (hm:Wd m) (hn:Vp<=1000000) {rest:List Zd} (h1:Qx Nd rest) :∀l:List Zr,(∀d∈l,Wf d.arg)->(∀d∈l,Jd m Vp d=true)->Ue m ((l.map (Jf m)).map Wg++rest)=some (l,rest)
 | [],_,_=>by
  cases rest with
  | nil=>rfl
  | cons x r=>
   show Ue m (x::r)=_
   rw [Ue,if_neg (by rw [h1 x r rfl];decide)]
 | d::l,hw,hb=>by
  have ih:=Yql hm hn h1 l (fun y hy=>hw y (by simp [hy])) (fun y hy=>hb y (by simp [hy]))
  rw [List.map_cons,List.map_cons,List.cons_append,Ue,if_pos (by unfold Jf;rfl),show (Wg (Jf m d)).drop 2=Jf m d from rfl,Ytn hm (hw d (by simp)) hn (hb d (by simp)),ih]
  rfl
theorem Yfd {rest:List Zd} (h1:Qx t2 rest) :∀l:List Zh,(∀p∈l,Dg p)->(∀p∈l,Xu p=true)->Us ((l.map Jb).map Wg++rest)=some (l,rest)
 | [],_,_=>by
  cases rest with
  | nil=>rfl
  | cons x r=>
   show Us (x::r)=_
   rw [Us,if_neg (by rw [h1 x r rfl];decide)]
 | p::l,hw,hb=>by
  have ih:=Yfd h1 l (fun y hy=>hw y (by simp [hy])) (fun y hy=>hb y (by simp [hy]))
  rw [List.map_cons,List.map_cons,List.cons_append,Us,if_pos (by rfl),show (Wg (Jb p)).drop 2=Jb p from rfl,Xoe (hb p (by simp)) (hw p (by simp)).v,if_pos rfl,ih]
  rfl
theorem Wji (p:Zh) (h:Xu p=true) :∃c r,Jb p=c::r/\(c=101\/c=102\/c=112):=by
 have h4:=@Yff p h
 unfold Jb Vu
 split
 ·exact ⟨101,_,rfl,.inl rfl⟩
 ·split
  ·rename_i h
   obtain ⟨a,b⟩:=h4 h
   unfold Zad
   rcases (show p.value.int=1\/p.value.int=2\/p.value.int=3 by omega) with e | e | e<;>rw [e]<;>exact ⟨102,_,rfl,.inr (.inl rfl)⟩
  ·exact ⟨112,_,rfl,.inr (.inr rfl)⟩
theorem Zy7 {q:Zd} {e c:UInt8} {r:Zd} (h:e≠c):(Zp (32::32::e::q) (Wg (c::r))).2=false:=by
 show (Zp (32::32::e::q) (32::32::c::r)).2=false
 rw [Zd0,Zd0,Ek h];rfl
theorem Zcp {q:Zd} {e:UInt8} (he:e≠101/\e≠102/\e≠112) {l:List Zh} (h :∀p∈l,Xu p=true):Qx (32::32::e::q) ((l.map Jb).map Wg):=by
 cases l with
 | nil=>exact fun x r e=>by cases e
 | cons p l=>
  obtain ⟨c,r,h1,h2⟩:=Wji p (h p (by simp))
  rw [List.map_cons,List.map_cons,h1]
  refine Pi (Zy7 ?_)
  rcases h2 with rfl | rfl | rfl
  ·exact he.1
  ·exact he.2.1
  ·exact he.2.2
theorem Zxn (m:Ze) {q:Zd} {e:UInt8} (he:e≠100) (l:List Zr):Qx (32::32::e::q) ((l.map (Jf m)).map Wg):=by
 cases l with
 | nil=>exact fun x r e=>by cases e
 | cons d l=>
  rw [List.map_cons,List.map_cons]
  exact Pi (by unfold Jf;exact Zy7 he)
theorem Wpa {m:Ze} {x:Zi} (hm:Wd m) (hx:Qh x) (h:Qm m x) {rest:List Zd} (h1:Qx t2 rest):Qj m ((Qt m x).map Wg++rest)=some (x.frames,x.defers,x.panics,rest):=by
 have hf:=h.f
 have n2 :∀{q:Zd},Qx (32::32::q) rest:=fun {q} y r e=>by
  have:=h1 y r e
  unfold Zp at this ⊢
  split at this
  ·cases this
  ·rename_i h2
   rw [if_neg]
   intro h3
   refine h2 ?_
   have:=congrArg (List.take 2) h3
   rw [List.take_take] at this
   simpa [t2] using this
 have e:(Qt m x).map Wg++rest=(Xh m 0 x.frames).map Wg++((x.defers.map (Jf m)).map Wg++((x.panics.map Jb).map Wg++rest)):=by unfold Qt;simp
 have p1:=@Zcp
 have a1:Qx Nd ((x.panics.map Jb).map Wg++rest):=Cb (Zcp (by decide) h.pb) n2
 have a2:Qx Nz ((x.defers.map (Jf m)).map Wg++((x.panics.map Jb).map Wg++rest)):=Cb (Zxn m (by decide) _) (Cb (Zcp (by decide) h.pb) n2)
 have a3:Qx t4 ((x.defers.map (Jf m)).map Wg++((x.panics.map Jb).map Wg++rest)):=Cb (Zxn m (by decide) _) (Cb (Zcp (by decide) h.pb) n2)
 have hl:x.frames.length<((Xh m 0 x.frames).map Wg++((x.defers.map (Jf m)).map Wg++((x.panics.map Jb).map Wg++rest))).length+1:=by
  have :∀(l:List Zg) (i:Nat),(∀y∈l,Jj m y=true)->l.length<=(Xh m i l).length:=by
   intro l
   induction l with
   | nil=>intro i _;exact Nat.le_refl _
   | cons y l ih=>
    intro i hb
    obtain ⟨f0,f1,f,hf,hF⟩:=Mq.1 (hb y (by simp))
    have:=ih (i+1) fun z hz=>hb z (by simp [hz])
    show _<=(Js m i y++Xh m (i+1) l).length
    rw [Nr hf,List.length_append,List.length_cons,List.length_cons]
    omega
  have:=this x.frames 0 h.fb
  rw [List.length_append,List.length_map]
  omega
 rw [e]
 unfold Qj
 rw [Zzv hm a2 a3 x.frames 0 _ hx.f h.fb (by omega) hl]
 simp only [Option.bind_some]
 rw [Yql hm (Vp:=x.frames.length) (by omega) a1 x.defers hx.d h.db]
 simp only [Option.bind_some]
 rw [Yfd h1 x.panics hx.p h.pb]
 rfl
def Wv (m:Ze):Nat->List Zi->List Zd
 | _,[]=>[]
 | i,x::r=>Ve m i x++Wv m (i+1) r
theorem Xhc (m:Ze) (l:List Zi) (i:Nat):Qx t2 (Wv m i l++[[]]):=by
 cases l with
 | nil=>exact Pi rfl
 | cons x l=>exact Pi (by unfold Hx;rfl)
theorem Yt2 {m:Ze} {x:Zi} (h:Jp m x=true):x.status≠2->x.key=0:=by
 intro h2
 by_cases h3:x.status=3
 ·rw [Zf1 h3] at h
  simp only [Bool.and_eq_true,decide_eq_true_eq] at h
  exact h.2
 ·by_cases h1:x.status=1/\x.key=0
  ·exact h1.2
  ·rw [Lu h3 (by rintro (h | h);exact h2 h;exact h1 h)] at h;cases h
theorem Zzx {m:Ze} (hm:Wd m) :∀(l:List Zi) (i n:Nat),(∀x∈l,Qh x)->(∀x∈l,Jp m x=true)->l.length<n->Hk m n (Wv m i l++[[]])=some (l,[[]])
 | [],_,n+1,_,_,_=>rfl
 | x::l,i,n+1,hw,hb,hn=>by
  rw [List.length_cons] at hn
  have ih:=Zzx hm l (i+1) n (fun y hy=>hw y (by simp [hy])) (fun y hy=>hb y (by simp [hy])) (by omega)
  have hx:=hw x (by simp)
  have hg:=hb x (by simp)
  have h0:=Qm.of hg
  have e:Wv m i (x::l)++[[]]=Hx i x::((Qt m x).map Wg++(Wv m (i+1) l++[[]])):=by
   show (Hx i x::(Qt m x).map Wg)++Wv m (i+1) l++[[]]=_
   simp
  rw [e,Hk,if_pos (by unfold Hx;rfl),Xg0 h0.st (Yt2 hg) hx.k]
  simp only [if_true]
  rw [Wpa hm hx h0 (Xhc m l (i+1))]
  simp only [Option.bind_some]
  rw [ih]
  rfl
theorem Wm9 {f:Zz} {k:Int} {x:Zg} (h:0<=x.mode/\x.mode<=3):(10:UInt8) ∉ Gy f k x:=by
 have:(10:UInt8) ∉ Rq x.mode:=by rcases (show x.mode=0\/x.mode=1\/x.mode=2\/x.mode=3 by omega) with e | e | e | e<;>rw [e]<;>decide
 unfold Gy
 simp only [List.mem_append,not_or]
 exact ⟨⟨⟨⟨⟨⟨⟨⟨⟨by decide,Bn _⟩,by decide⟩,Bn _⟩,by decide⟩,Zdm _⟩,by decide⟩,Bn _⟩,by decide⟩,this⟩
theorem Wt7 (f:Zz) (l:Yb):(10:UInt8) ∉ Gp f l:=by
 unfold Gp
 simp only [List.mem_append,not_or]
 exact ⟨⟨⟨⟨⟨by decide,Bn _⟩,by decide⟩,Zdm _⟩,by decide⟩,Ez _⟩
theorem Zyy {m:Ze} :∀(l:List Zg) (i:Nat),(∀x∈l,Uo x)->(∀x∈l,Jj m x=true)->∀s∈Xh m i l,(10:UInt8) ∉ s
 | [],_,_,_,s,hs=>by cases hs
 | x::l,i,hw,hb,s,hs=>by
  obtain ⟨f0,f1,f,hf,hF⟩:=Mq.1 (hb x (by simp))
  have hs:s∈Js m i x++Xh m (i+1) l:=hs
  rw [Nr hf] at hs
  rcases List.mem_append.1 hs with hs | hs
  ·rcases List.mem_cons.1 hs with rfl | hs
   ·exact Wm9 ⟨(hw x (by simp)).m,f1⟩
   ·obtain ⟨y,_,rfl⟩:=List.mem_map.1 hs
    exact Wt7 f y
  ·exact Zyy l (i+1) (fun y hy=>hw y (by simp [hy])) (fun y hy=>hb y (by simp [hy])) s hs
theorem Xhj (m:Ze) (d:Zr):(10:UInt8) ∉ Jf m d:=by
 unfold Jf
 simp only [List.mem_append,not_or]
 refine ⟨⟨⟨⟨⟨⟨by decide,Bn _⟩,by decide⟩,Bn _⟩,by decide⟩,Zdm _⟩,?_⟩
 split
 ·simp only [List.mem_append,not_or];exact ⟨by decide,Ez _⟩
 ·simp
theorem Xx5 (g:Int) (x:Zi):(10:UInt8) ∉ Hx g x:=by
 unfold Hx Db
 simp only [List.mem_append,not_or]
 refine ⟨⟨⟨by decide,Bn _⟩,by decide⟩,?_⟩
 split
 ·decide
 ·split
  ·decide
  ·simp only [List.mem_append,not_or];exact ⟨by decide,Bn _⟩
theorem Xjl {m:Ze} {x:Zi} (g:Int) (hx:Qh x) (h:Qm m x) :∀s∈Ve m g x,(10:UInt8) ∉ s:=by
 intro s hs
 rcases List.mem_cons.1 hs with rfl | hs
 ·exact Xx5 g x
 ·obtain ⟨y,hy,rfl⟩:=List.mem_map.1 hs
  have:(10:UInt8) ∉ y:=by
   unfold Qt at hy
   rcases List.mem_append.1 hy with hy | hy
   ·rcases List.mem_append.1 hy with hy | hy
    ·exact Zyy _ _ hx.f h.fb _ hy
    ·obtain ⟨d,_,rfl⟩:=List.mem_map.1 hy
     exact Xhj m d
   ·obtain ⟨p,_,rfl⟩:=List.mem_map.1 hy
    exact Wjt p
  show (10:UInt8) ∉ 32::32::y
  simp only [List.mem_cons,not_or]
  exact ⟨by decide,by decide,this⟩
theorem Zz3 {m:Ze} :∀(l:List Zi) (i:Nat),(∀x∈l,Qh x)->(∀x∈l,Jp m x=true)->∀s∈Wv m i l,(10:UInt8) ∉ s
 | [],_,_,_,s,hs=>by cases hs
 | x::l,i,hw,hb,s,hs=>by
  rcases List.mem_append.1 hs with hs | hs
  ·exact Xjl i (hw x (by simp)) (Qm.of (hb x (by simp))) s hs
  ·exact Zz3 l (i+1) (fun y hy=>hw y (by simp [hy])) (fun y hy=>hb y (by simp [hy])) s hs
theorem Yqx (m:Ze) :∀(l:List Zi) (i:Nat),Ky m i l=Gz (Wv m i l)
 | [],_=>rfl
 | x::l,i=>by
  show Um (Ve m i x)++Ky m (i+1) l=Gz (Ve m i x++Wv m (i+1) l)
  rw [Yqx m l (i+1),Yth];rfl
theorem Yhz {m:Ze} {s:Zt} (hs:Gu s) (hf:Uf m s=true):Xq (Du m s)=(Bb s::Wv m 0 s.routines,[]):=by
 obtain ⟨h1,h2,h3,h4,h5⟩:=Lb hf
 have e:Du m s=Gz (Bb s::Wv m 0 s.routines)++[]:=by
  unfold Du
  rw [Wif,Yqx,Cm];simp
 rw [e]
 refine Zxq _ _ (fun x hx=>?_) (by simp)
 rcases List.mem_cons.1 hx with rfl | hx
 ·unfold Bb
  simp only [List.mem_append,not_or]
  exact ⟨by decide,(Yo1 h1.1 h1.2).2.1,by decide,Bn _,by decide,Bn _⟩
 ·exact Zz3 _ _ hs.r h5 x hx
theorem Wam {m:Ze} {s:Zt} (hm:Wd m) (hs:Gu s) (hf:Uf m s=true):Sq m (Lib.split (Du m s) [10])=some s:=by
 obtain ⟨h1,h2,h3,h4,h5⟩:=Lb hf
 rw [Wc1,Yhz hs hf]
 show Sq m (Bb s::(Wv m 0 s.routines++[[]]))=_
 have hl :∀(l:List Zi) (i:Nat),l.length<=(Wv m i l).length:=by
  intro l
  induction l with
  | nil=>intro i;exact Nat.le_refl _
  | cons x l ih=>
   intro i
   have:=ih (i+1)
   show _<=(Ve m i x++Wv m (i+1) l).length
   rw [List.length_append,show (Ve m i x).length=((Qt m x).map Wg).length+1 from rfl,List.length_cons]
   omega
 have:=hl s.routines 0
 rw [Sq,if_pos (by unfold Bb;rw [Kg]),Xt6 h1 (by omega) h2,if_pos rfl,Zzx hm s.routines 0 _ hs.r h5 (by rw [List.length_append];omega)]
 rfl
theorem Yxy {m:Ze} {s:Zt} (hm:Wd m) (hs:Gu s) (hf:Uf m s=true) (hl:(Du m s).length<=300000):Gt m (Du m s)=(s,0):=by
 unfold Gt
 rw [if_neg (by omega),Wam hm hs hf]
 simp only
 rw [if_pos]
 unfold Qe
 rw [if_pos hf,if_neg (by omega)]
end Go.AM

/- Yg of the proof. -/
namespace Go.AM
open Go
structure HasD (PG:Za):Prop extends HasT PG,HasG PG where
 f306:PG.fn 306=some Zc8
 f316:PG.fn 316=some Zdt
 f322:PG.fn 322=some Zch
 f260:PG.fn 260=some Er
 f266:PG.fn 266=some En
 f317:PG.fn 317=some Zdk
 f307:PG.fn 307=some Eb
 f308:PG.fn 308=some Lc
 f318:PG.fn 318=some Za6
 f304:PG.fn 304=none
 o304 :∀s:Zd,s.length<=1000000000->PG.orac 304 [.s s,.s [10]]=some (.sl .ext ((Lib.split s [10]).map Zv))
 f323:PG.fn 323=none
 o323 :∀s:Zd,s.length<=1000000000->PG.orac 323 [.s s,.s [32],.i .i64 4]=some (.sl .ext ((Lib.splitN s [32] 4).map Zv))
 f197:PG.fn 197=none
 o197 :∀s p:Zd,s.length<=1000000000->PG.orac 197 [.s s,.s p]=some (.i .i64 (Lib.index s p))
section
variable {PG:Za} (H:HasD PG)
include H
theorem Wsd {s:Zd} (hs:s.length<=1000000000) (p:Zd):Zf PG 197 [.s s,.s p] (.i .i64 (Lib.index s p)):=Zf.orac H.f197 (H.o197 s p hs) rfl
theorem Xs3 {s:Zd} (hs:s.length<=1000000000):Zf PG 304 [.s s,.s [10]] (.sl .ext ((Lib.split s [10]).map Zv)):=Zf.orac H.f304 (H.o304 s hs) rfl
theorem Xtx {s:Zd} (hs:s.length<=1000000000):Zf PG 323 [.s s,.s [32],.i .i64 4] (.sl .ext ((Lib.splitN s [32] 4).map Zv)):=Zf.orac H.f323 (H.o323 s hs) rfl
theorem Wgh (s p:Zd):Zf PG 306 [.s s,.s p] (.b (Zp p s).2):=by
 obtain ⟨x,rfl,h⟩:=Xj8 H.f306 (s0:=s) (prefix1:=p) (K:=fun x=>x=(Zp p s).2) (by
  unfold Zlf
  refine ⟨_,c46 H.toHas03 s p,?_⟩
  unfold Zp
  split<;>rename_i h<;>simp [h])
 exact h
theorem Whj (s p:Zd) (hp:p.length<=1000000000):Zf PG 322 [.s s,.s p] (.s (Zp p s).1):=by
 obtain ⟨x,rfl,h⟩:=Xpj H.f322 (s0:=s) (prefix1:=p) (K:=fun x=>x=(Zp p s).1) (by
  unfold Zv9
  refine ⟨_,c46 H.toHas03 s p,fun h=>?_,fun h=>?_⟩
  ·have h:s.take p.length=p:=by simpa using h
   refine ⟨by omega,?_,?_⟩
   ·have:=congrArg List.length h
    simp only [List.length_take] at this
    omega
   ·unfold Zp;rw [if_pos h];rfl
  ·have h:¬ s.take p.length=p:=by simpa using h
   unfold Zp;rw [if_neg h])
 exact h
theorem Ylh (s p:Zd) (hp:p.length<=1000000000):Zf PG 316 [.s s,.s p] (.s (Zp p s).1):=by
 obtain ⟨x,rfl,h⟩:=Wa0 H.f316 (s0:=s) (prefix1:=p) (K:=fun x=>x=(Zp p s).1) (by
  unfold Zjh
  exact ⟨_,Whj H s p hp,rfl⟩)
 exact h
theorem Yup {s p:Zd} (hs:s.length<=1000000000) (hp:p.length<=1000):Zf PG 266 [.s s,.s p] (.tup [.s (Lib.cut s p).1,.s (Lib.cut s p).2.1,.b (Lib.cut s p).2.2]):=by
 obtain ⟨x,y,z,⟨rfl,rfl,rfl⟩,h⟩:=Yvl H.f266 (s0:=s) (sep1:=p) (K:=fun x y z=>x=(Lib.cut s p).1/\y=(Lib.cut s p).2.1/\z=(Lib.cut s p).2.2) (by
  unfold Zjv
  refine ⟨_,Wsd H hs p,fun h=>?_,fun h=>?_⟩
  ·have h1:=Lib.index_le s p
   have h2:=Lib.index_room s p (by omega)
   rw [Yv (by omega) (by omega)]
   unfold Lib.cut
   rw [if_pos (by omega)]
   refine ⟨by omega,by omega,by omega,by omega,rfl,?_,rfl⟩
   congr 1
   omega
  ·unfold Lib.cut
   rw [if_neg (by omega)]
   exact ⟨rfl,rfl,rfl⟩)
 exact h
theorem Zmq {s p:Zd} (hs:s.length<=1000000000) (hp:p.length<=1000):Zf PG 260 [.s s,.s p] (.tup [.s (Lib.cut s p).1,.s (Lib.cut s p).2.1,.b (Lib.cut s p).2.2]):=by
 obtain ⟨x,y,z,⟨rfl,rfl,rfl⟩,h⟩:=Xza H.f260 (s0:=s) (sep1:=p) (K:=fun x y z=>x=(Lib.cut s p).1/\y=(Lib.cut s p).2.1/\z=(Lib.cut s p).2.2) (by
  unfold Zvo
  exact ⟨_,_,_,Yup H hs hp,rfl,rfl,rfl⟩)
 exact h
theorem Zgc (s:Zd):Zf PG 317 [.s s] (.tup [.i .i64 (Wj s).1,.b (decide ((Wj s).2=0))]):=by
 obtain ⟨x,y,⟨rfl,rfl⟩,h⟩:=Xin H.f317 (s0:=s) (K:=fun x y=>x=(Wj s).1/\y=decide ((Wj s).2=0)) (by
  unfold Ztq
  exact ⟨_,_,c21 H.toHas03 s,rfl,rfl⟩)
 exact h
theorem Xpr {s:Zd} (hs:s.length<=1000000):Yp PG 307 [.s s] (fun r=>r=.tup [(Hq s).1.avo .full,.b (Hq s).2]):=by
 refine (Xfp H.f307 (s0:=s) (K:=fun x y=>x=(Hq s).1/\y=(Hq s).2) ?_).to ?_
 ·unfold Zvc Zos Zjb
  have l0:(Zp Hu s).1.length<=1000000:=by unfold Zp;split<;>simp<;>omega
  have lc :∀(x p:Zd),x.length<=1000000->(Lib.cut x p).1.length<=1000000/\(Lib.cut x p).2.1.length<=1000000:=by
   intro x p hx
   unfold Lib.cut
   split<;>simp<;>omega
  have l1:=lc _ Ms l0
  refine ⟨_,Ylh H s Hu (by decide),_,_,_,Zmq H (p:=Ms) (by omega) (by decide),?_⟩
  unfold Zom
  refine ⟨_,_,_,Zmq H (p:=Ny) (by omega) (by decide),?_⟩
  unfold Zmk
  refine ⟨_,_,Xav H.toHasT _,?_⟩
  unfold Zkt Zur Znv
  refine ⟨_,_,Zgc H _,?_⟩
  unfold Zug
  refine ⟨_,_,Zgc H _,?_⟩
  unfold Zl4 Hq Zmg Ztv
  simp only
  generalize Lib.cut (Zp Hu s).1 Ms=a
  generalize Lib.cut a.2.1 Ny=b
  cases a.2.2<;>cases b.2.2<;>by_cases e1:(Wj b.1).2=0<;>by_cases e2:(Wj b.2.1).2=0<;>simp [e1,e2]
 ·rintro r ⟨x,y,rfl,rfl,rfl⟩
  rfl
theorem Xlt {s:Zd} (hs:s.length<=1000000):Yp PG 308 [.s s] (fun r=>r=.tup [.ag [.i .u8 (Kn s).1.status,.i .i64 (Kn s).1.key,.sl .full [],.sl .full [],.sl .full []],.b (Kn s).2]):=by
 have hz:(Kn s).1.frames=[]/\(Kn s).1.defers=[]/\(Kn s).1.panics=[]:=by
  unfold Kn Ew
  repeat' split
  all_goals exact ⟨rfl,rfl,rfl⟩
 refine (Xrj H.f308 (s0:=s) (K:=fun x y=>x=(Kn s).1/\y=(Kn s).2) ?_).to ?_
 ·unfold Zsh
  refine ⟨_,_,_,Zmq H (p:=Rd) (by omega) (by decide),_,_,Fx H.toHas03 _ Oh,fun h=>?_,fun h=>⟨fun h2=>⟨_,_,c21 H.toHas03 _,?_⟩,fun h2=>⟨fun h3=>?_,fun h3=>?_⟩⟩⟩
  ·have h:(Lib.cut s Rd).2.2=false:=by simpa using h
   unfold Kn;rw [if_pos h];exact ⟨rfl,rfl⟩
  all_goals
   have h:¬ (Lib.cut s Rd).2.2=false:=by simpa using h
   unfold Kn;rw [if_neg h];unfold Ew
  ·rw [if_pos h2];exact ⟨rfl,rfl⟩
  ·rw [if_neg (by rw [h2];exact Bool.false_ne_true),if_pos (show _=Zih from h3)];exact ⟨rfl,rfl⟩
  ·rw [if_neg (by rw [h2];exact Bool.false_ne_true),if_neg (show ¬ _=Zih from h3)];exact ⟨rfl,rfl⟩
 ·rintro r ⟨x,y,rfl,rfl,rfl⟩
  rw [hz.1,hz.2.1,hz.2.2]
  rfl
end
end Go.AM

/- Yg of the proof. -/
namespace Go.AM
open Go
section
variable {PG:Za} (H:HasQ PG)
include H
end
end Go.AM

/- Yg of the proof. -/
namespace Go.AM
open Go
section
variable {PG:Za} (H:HasQ PG)
include H
end
end Go.AM
