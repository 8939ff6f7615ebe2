/- Parts of the proof: V38b, V38c, V39, V39b, C38, C38b, C38c, C38d, C38e, C38f, C38g, C39, C39b, C39c, V38f, C38h, C38i, C38j, C38k, C38l, C38m, V40, C40, C40b, C40c, C40d. -/
import Derived.Test.YtheacfnopahmjaaGreatDoorG2
import Derived.Test.YtheacfnopahmjaaGreatDoorG5
import Derived.Test.YtheacfnopahmjaaGreatDoorG3
import Derived.Test.YtheacfnopahmjaaGreatDoorG4
set_option linter.all false
namespace Go.AM
open Go
def isD (c:UInt8):Bool:=decide (48≤c.toNat)&&decide (c.toNat≤57)
def digN:Bytes→Nat
 | []=>0
 | c::s=>if isD c=true then 1+digN s else 0
def numN (s:Bytes):Nat:=if s.head?=some 45 then 1+digN (s.drop 1) else digN s
theorem digN_le :∀s:Bytes,digN s≤s.length
 | []=>Nat.le_refl _
 | c::s=>by
  have:=digN_le s
  rw [digN,List.length_cons]
  split<;>omega
theorem numN_le (s:Bytes):numN s≤s.length:=by
 unfold numN
 cases s with
 | nil=>simp [digN]
 | cons c s=>
  have h1:=digN_le s
  have h2:=digN_le (c::s)
  split
  ·simp only [List.drop_succ_cons,List.drop_zero,List.length_cons];omega
  ·exact h2
def qs:Bytes→Option Nat
 | []=>none
 | c::r=>if c=92 then (match r with | []=>none | _::r'=>(qs r').map (·+2)) else if c=34 then some 1 else (qs r).map (·+1)
def scNum (s:Bytes):Int × Bool × Bytes:=((unnum (s.take (numN s))).1,decide ((unnum (s.take (numN s))).2=0),s.drop (numN s))
def scQ (s:Bytes):Bytes × Bool × Bytes:=match qs (s.drop 1) with
 | none=>([],false,s)
 | some k=>((unquo (s.take (k+1))).1,decide ((unquo (s.take (k+1))).2=0),s.drop (k+1))
def scG (f:Bytes→Val × Bool × Bytes) (kind:Int) (stop:Bytes):Nat→List Val→Bytes→Val × Bool × Bytes
 | 0,acc,s=>(Val.mk kind 0 [] acc false,false,s)
 | k+1,acc,s=>if (f s).2.1=false then (Val.mk kind 0 [] acc false,false,(f s).2.2) else
   if (cutp stop (f s).2.2).2=true then (Val.mk kind 0 [] (acc++[(f s).1]) false,true,(cutp stop (f s).2.2).1) else
   if (cutp [44,32] (cutp stop (f s).2.2).1).2=false then (Val.mk kind 0 [] (acc++[(f s).1]) false,false,(cutp [44,32] (cutp stop (f s).2.2).1).1) else
   scG f kind stop k (acc++[(f s).1]) (cutp [44,32] (cutp stop (f s).2.2).1).1
def scL (f:Bytes→Val × Bool × Bytes) (kind:Int) (stop s:Bytes):Val × Bool × Bytes:=
 if (cutp stop s).2=true then (Val.mk kind 0 [] [] false,true,(cutp stop s).1) else scG f kind stop 17 [] (cutp stop s).1
def scV:Nat→Bytes→Val × Bool × Bytes
 | 0,s=>(vz,false,s)
 | d+1,s=>if s=[] then (vz,false,s) else
   if (cutp tTrue s).2=true then (Val.mk 1 1 [] [] false,true,(cutp tTrue s).1) else
   if (cutp tFalse s).2=true then (Val.mk 1 0 [] [] false,true,(cutp tFalse s).1) else
   if (cutp tNil s).2=true then (Val.mk 4 0 [] [] false,true,(cutp tNil s).1) else
   if (cutp tCutP s).2=true then (Val.mk 4 0 [] [] true,true,(cutp tCutP s).1) else
   if (cutp tCutS s).2=true then (Val.mk 7 0 [] [] true,true,(cutp tCutS s).1) else
   if (cutp [38] s).2=true then (Val.mk 4 0 [] [(scV d (cutp [38] s).1).1] false,(scV d (cutp [38] s).1).2) else
   if (cutp [123] s).2=true then scL (scV d) 5 [125] (cutp [123] s).1 else
   if (cutp [91] s).2=true then scL (scV d) 6 [93] (cutp [91] s).1 else
   if (cutp [60] s).2=true then scL (scV d) 7 [62] (cutp [60] s).1 else
   if s.head?=some 34 then (Val.mk 3 0 (scQ s).1 [] false,(scQ s).2) else
   (Val.mk 2 (scNum s).1 [] [] false,(scNum s).2)
theorem cutp_no {p s:Bytes} (h:(cutp p s).2=false):(cutp p s).1=s:=by
 unfold cutp at h ⊢
 split
 ·rename_i h1;rw [if_pos h1] at h;cases h
 ·rfl
theorem cutp_app (p s:Bytes):cutp p (p++s)=(s,true):=by
 unfold cutp
 rw [if_pos (by simp),List.drop_left]
theorem cutp_head {c d:UInt8} {p s:Bytes} (h:c≠d):cutp (c::p) (d::s)=(d::s,false):=by
 unfold cutp
 rw [if_neg]
 simp only [List.length_cons,List.take_succ_cons,List.cons.injEq]
 rintro ⟨rfl,_⟩
 exact h rfl
theorem cutp_cons (c:UInt8) (p s:Bytes):cutp (c::p) (c::s)=if (cutp p s).2=true then ((cutp p s).1,true) else (c::s,false):=by
 unfold cutp
 simp only [List.length_cons,List.take_succ_cons,List.cons.injEq,true_and,List.drop_succ_cons]
 split<;>simp_all
theorem unnum_rng (s:Bytes):-9223372036854775808≤(unnum s).1∧(unnum s).1<9223372036854775808:=by
 have h1:=rd_le 10 9223372036854775808 (s.drop 1)
 have h2:=rd_le 10 9223372036854775807 s
 unfold unnum
 split
 ·exact ⟨by decide,by decide⟩
 split
 ·split
  ·exact ⟨by decide,by decide⟩
  ·dsimp only
   omega
 ·dsimp only
  omega
theorem Wf.ite {c:Prop} [Decidable c] {a b:Val × Bool × Bytes} (ha:Wf a.1) (hb:Wf b.1):Wf (if c then a else b).1:=by
 split
 ·exact ha
 ·exact hb
theorem scG_wf {f:Bytes→Val × Bool × Bytes} {kind:Int} {stop:Bytes} (hk:0≤kind∧kind<256) (hf :∀s,Wf (f s).1) :∀(n:Nat) (acc:List Val) (s:Bytes),n≤17→acc.length+n=17→(∀x∈acc,Wf x)→Wf (scG f kind stop n acc s).1
 | 0,acc,s,_,hl,h=>by
  rw [scG]
  exact .mk hk (by decide) (by omega) h
 | n+1,acc,s,hn,hl,h=>by
  have h1 :∀x∈acc++[(f s).1],Wf x:=by
   intro x hx
   rcases List.mem_append.1 hx with hx | hx
   ·exact h x hx
   ·rw [List.mem_singleton.1 hx];exact hf s
  rw [scG]
  split
  ·exact .mk hk (by decide) (by omega) h
  ·split
   ·exact .mk hk (by decide) (by simp;omega) h1
   ·split
    ·exact .mk hk (by decide) (by simp;omega) h1
    ·exact scG_wf hk hf n _ _ (by omega) (by simp;omega) h1
theorem scL_wf {f:Bytes→Val × Bool × Bytes} {kind:Int} {stop s:Bytes} (hk:0≤kind∧kind<256) (hf :∀s,Wf (f s).1):Wf (scL f kind stop s).1:=by
 unfold scL
 split
 ·exact .mk hk (by decide) (by decide) (by simp)
 ·exact scG_wf hk hf 17 [] _ (by omega) rfl (by simp)
theorem scV_wf :∀(d:Nat) (s:Bytes),Wf (scV d s).1
 | 0,s=>Wf.zero
 | d+1,s=>by
  have w0 :∀(k n:Int) (c:Bool),0≤k∧k<256→-9223372036854775808≤n∧n<9223372036854775808→Wf (Val.mk k n [] [] c):=fun k n c h1 h2=>.mk h1 h2 (by decide) (by simp)
  rw [scV]
  exact .ite Wf.zero (.ite (w0 _ _ _ (by decide) (by decide)) (.ite (w0 _ _ _ (by decide) (by decide)) (.ite (w0 _ _ _ (by decide) (by decide)) (.ite (w0 _ _ _ (by decide) (by decide)) (.ite (w0 _ _ _ (by decide) (by decide))
   (.ite (.mk (by decide) (by decide) (by simp) (fun x hx=>by rw [List.mem_singleton.1 hx];exact scV_wf d _)) (.ite (scL_wf (by decide) (scV_wf d)) (.ite (scL_wf (by decide) (scV_wf d)) (.ite (scL_wf (by decide) (scV_wf d))
   (.ite (.mk (by decide) (by decide) (by simp) (by simp)) (.mk (by decide) (unnum_rng _) (by simp) (by simp))))))))))))
def Stop (r:Bytes):Prop:=∀c,r.head?=some c→c=44∨c=125∨c=93∨c=62
theorem Stop.notD {r:Bytes} (h:Stop r):digN r=0:=by
 cases r with
 | nil=>rfl
 | cons c r=>
  rw [digN,if_neg]
  rcases h c rfl with rfl | rfl | rfl | rfl<;>decide
theorem digN_all :∀(s r:Bytes),(∀c∈s,isD c=true)→digN r=0→digN (s++r)=s.length
 | [],r,_,h=>h
 | c::s,r,hs,h=>by
  rw [List.cons_append,digN,if_pos (hs c List.mem_cons_self),digN_all s r (fun c hc=>hs c (List.mem_cons_of_mem _ hc)) h,List.length_cons]
  omega
theorem hexd_isD :∀n:Fin 10,isD (hexd n.val)=true:=by decide
theorem ds_isD :∀(f n:Nat),∀c∈ds 10 f n,isD c=true
 | 0,n,c,h=>by simp [ds] at h
 | f+1,n,c,h=>by
  rw [ds] at h
  split at h
  ·rename_i hn
   rw [List.mem_singleton.1 h]
   exact hexd_isD ⟨n,hn⟩
  ·rcases List.mem_append.1 h with h | h
   ·exact ds_isD f _ c h
   ·rw [List.mem_singleton.1 h]
    exact hexd_isD ⟨n % 10,Nat.mod_lt _ (by decide)⟩
theorem isD_ne {c:UInt8} {l:List UInt8} (h:isD c=true) (hl:(l.all fun x=>!isD x)=true):c ∉ l:=by
 intro hc
 have:=List.all_eq_true.1 hl c hc
 rw [h] at this
 cases this
theorem num_head (n:Int) :∃c r,num n=c::r∧(c=45∨isD c=true):=by
 have hd :∀n,∃c r,digs 10 n=c::r∧isD c=true:=by
  intro n
  have h1:=digs_ne 10 n
  have h2:=ds_isD 64 n
  unfold digs at *
  cases h:ds 10 64 n with
  | nil=>exact absurd h h1
  | cons c r=>exact ⟨c,r,rfl,h2 c (by rw [h];exact List.mem_cons_self)⟩
 unfold num
 split
 ·exact ⟨45,_,rfl,.inl rfl⟩
 ·obtain ⟨c,r,h1,h2⟩:=hd n.toNat
  exact ⟨c,r,h1,.inr h2⟩
theorem numN_num {n:Int} {r:Bytes} (hr:digN r=0):numN (num n++r)=(num n).length:=by
 unfold num numN
 split
 ·rw [List.cons_append,List.head?_cons,if_pos rfl,List.drop_succ_cons,List.drop_zero,List.length_cons,Nat.add_comm]
  congr 1
  exact digN_all _ r (ds_isD 64 _) hr
 ·obtain ⟨c,t,h1,h2⟩:=num_head n
  rw [num,if_neg (by assumption)] at h1
  rw [if_neg]
  ·exact digN_all _ r (ds_isD 64 _) hr
  rw [h1,List.cons_append,List.head?_cons]
  intro e
  injection e with e
  subst e
  rcases h2 with h2 | h2
  ·have:=ds_isD 64 n.toNat 45 (by show (45:UInt8)∈digs 10 n.toNat;rw [h1];exact List.mem_cons_self)
   exact absurd this (by decide)
  ·exact absurd h2 (by decide)
theorem scNum_num {n:Int} {r:Bytes} (h1:-9223372036854775808≤n) (h2:n<9223372036854775808) (hr:digN r=0):scNum (num n++r)=(n,true,r):=by
 unfold scNum
 rw [numN_num hr,List.take_left,List.drop_left,unnum_num h1 h2]
 rfl
theorem qs_chrs :∀(s r:Bytes),qs (chrs s++34::r)=some ((chrs s).length+1)
 | [],r=>by
  show qs (34::r)=some 1
  rw [qs.eq_def]
  simp
 | c::s,r=>by
  have ih:=qs_chrs s r
  have e:chrs (c::s)=chr c++chrs s:=rfl
  have hx :∀k:Fin 16,hexd k.val≠92∧hexd k.val≠34:=by decide
  rw [e,List.append_assoc]
  unfold chr
  split
  ·rw [List.cons_append,List.cons_append,List.nil_append,qs.eq_def]
   simp only [if_true,ih,Option.map_some,List.length_append,List.length_cons,List.length_nil]
   congr 1
   omega
  ·rename_i h1
   split
   ·rw [List.cons_append,List.cons_append,List.nil_append,qs.eq_def]
    simp only [if_true,ih,Option.map_some,List.length_append,List.length_cons,List.length_nil]
    congr 1
    omega
   ·split
    ·have hc:=c.toNat_lt
     obtain ⟨a1,a2⟩:=hx ⟨c.toNat / 16,by omega⟩
     obtain ⟨b1,b2⟩:=hx ⟨c.toNat % 16,by omega⟩
     simp only at a1 a2 b1 b2
     rw [List.cons_append,List.cons_append,List.cons_append,List.cons_append,List.nil_append,qs.eq_def]
     simp only [if_true]
     rw [qs.eq_def]
     simp only [if_neg a1,if_neg a2]
     rw [qs.eq_def]
     simp only [if_neg b1,if_neg b2,ih,Option.map_some,List.length_append,List.length_cons,List.length_nil]
     congr 1
     omega
    ·have c1:c≠92:=by rintro rfl;exact h1 (.inr rfl)
     have c2:c≠34:=by rintro rfl;exact h1 (.inl rfl)
     rw [List.cons_append,List.nil_append,qs.eq_def]
     simp only [if_neg c1,if_neg c2,ih,Option.map_some,List.length_append,List.length_cons,List.length_nil]
     congr 1
     omega
theorem scQ_quo {s r:Bytes} (h:s.length≤400):scQ (quo s++r)=(s,true,r):=by
 have e:quo s++r=34::(chrs s++34::r):=by simp [quo]
 have e2:(quo s).length=(chrs s).length+1+1:=by simp [quo]
 unfold scQ
 rw [show (quo s++r).drop 1=chrs s++34::r by rw [e];rfl,qs_chrs]
 simp only
 rw [← e2,List.take_left,List.drop_left,unquo_quo h]
 rfl
end Go.AM

namespace Go.AM
open Go
theorem txt_head (v:Val) :∃c t,txt v=c::t∧(c∈([116,102,110,38,60,123,91,34,45]:Bytes)∨isD c=true):=by
  rw [txt_eq]
  have h1:=num_head v.int
  repeat' split
  all_goals first
    | (obtain ⟨c,t,h2,h3⟩:=h1
       refine ⟨c,t,h2,?_⟩
       rcases h3 with rfl | h3
       · exact .inl (by decide)
       · exact .inr h3)
    | exact ⟨_,_,rfl,.inl (by decide)⟩
theorem txt_head_ne {v:Val} {e:UInt8} (he:(e=46∨e=125∨e=93∨e=62∨e=44)) (p r:Bytes):(cutp (e::p) (txt v++r))=(txt v++r,false):=by
  obtain ⟨c,t,h1,h2⟩:=txt_head v
  rw [h1,List.cons_append]
  refine cutp_head ?_
  rintro rfl
  rcases h2 with h2 | h2
  · rcases he with rfl | rfl | rfl | rfl | rfl<;>exact absurd h2 (by decide)
  · rcases he with rfl | rfl | rfl | rfl | rfl<;>exact absurd h2 (by decide)
section
variable {f:Bytes→Val × Bool × Bytes} {kind:Int} {e:UInt8}
theorem scG_txts (he:e=125∨e=93∨e=62) :∀(l:List Val) (x:Val) (acc:List Val) (n:Nat) (r:Bytes),(∀y∈x::l,∀r,Stop r→f (txt y++r)=(y,true,r))→l.length<n→scG f kind [e] n acc (txts (x::l)++e::r)=(Val.mk kind 0 [] (acc++x::l) false,true,r)
  | l,x,acc,0,r,hf,hn=>absurd hn (Nat.not_lt_zero _)
  | [],x,acc,n+1,r,hf,hn=>by
    have hs:Stop (e::r):=by intro c hc;injection hc with hc;subst hc;rcases he with h | h | h<;>simp [h]
    have h1:=hf x List.mem_cons_self (e::r) hs
    have h2:cutp [e] (e::r)=(r,true):=cutp_app [e] r
    rw [txts_one,scG]
    simp only [h1,h2,Bool.true_eq_false,if_false,if_true]
  | y::l,x,acc,n+1,r,hf,hn=>by
    have e1:txts (x::y::l)++e::r=txt x++(44::32::(txts (y::l)++e::r)):=by simp [txts,txtl]
    have hs:Stop (44::32::(txts (y::l)++e::r)):=by intro c hc;injection hc with hc;subst hc;exact .inl rfl
    have h1:=hf x List.mem_cons_self _ hs
    have hne:e≠44:=by rcases he with rfl | rfl | rfl<;>decide
    have h2:cutp [e] (44::32::(txts (y::l)++e::r))=(44::32::(txts (y::l)++e::r),false):=cutp_head hne
    have h3:cutp [44,32] (44::32::(txts (y::l)++e::r))=(txts (y::l)++e::r,true):=cutp_app [44,32] _
    have ih:=scG_txts he l y (acc++[x]) n r (fun z hz=>hf z (List.mem_cons_of_mem _ hz)) (by simp only [List.length_cons] at hn;omega)
    rw [e1,scG]
    simp only [h1,h2,h3,Bool.true_eq_false,Bool.false_eq_true,if_false]
    rw [ih,List.append_assoc]
    rfl
theorem scL_txts (he:e=125∨e=93∨e=62) (l:List Val) (r:Bytes) (hf :∀y∈l,∀r,Stop r→f (txt y++r)=(y,true,r)) (hn:l.length≤16):scL f kind [e] (txts l++e::r)=(Val.mk kind 0 [] l false,true,r):=by
  unfold scL
  cases l with
  | nil=>
    have h2:cutp [e] (txts []++e::r)=(r,true):=cutp_app [e] r
    simp only [h2,if_true]
  | cons x l=>
    have h2:cutp [e] (txts (x::l)++e::r)=(txts (x::l)++e::r,false):=by
      rw [txts,List.append_assoc]
      exact txt_head_ne (by rcases he with h | h | h<;>simp [h]) _ _
    simp only [h2,Bool.false_eq_true,if_false]
    exact scG_txts he l x [] 17 r hf (by simp only [List.length_cons] at hn;omega)
end
theorem txts_head {l:List Val} {e:UInt8} {p r:Bytes}:(cutp (46::p) (txts l++62::r)).2=false:=by
  cases l with
  | nil=>rw [show txts []++62::r=62::r from rfl,cutp_head (by decide)]
  | cons x l=>rw [txts,List.append_assoc,txt_head_ne (.inl rfl)]
theorem len0 {α:Type} {l:List α} (h:l.length=0):l=[]:=List.length_eq_zero_iff.1 h
theorem scV_txt :∀(d:Nat) (v:Val),okv d v=true→Wf v→∀r,Stop r→scV d (txt v++r)=(v,true,r)
  | 0,v,h,_,r,hr=>by cases h
  | d+1,v,h,hw,r,hr=>by
    have h1:=okv_head h
    have h2:=okv_sub h
    have ih :∀y∈v.list,∀r,Stop r→scV d (txt y++r)=(y,true,r):=fun y hy=>scV_txt d y (h2 y hy) (hw.e y hy)
    have hn:=hw.n
    have hne :∀x:Bytes,¬(txt v++x=[]):=fun x e=>txt_ne v (List.append_eq_nil_iff.1 e).1
    clear h h2 hw
    cases v with
    | mk k n s l c=>
    unfold Val.okh Okh at h1
    simp only [Val.kind_mk,Val.int_mk,Val.text_mk,Val.list_mk,Val.cut_mk] at h1 ih hn
    have ht:=hne r
    rw [scV,if_neg ht]
    clear ht hne
    have nohead :∀{a b:UInt8} {p t:Bytes},a≠b→(cutp (a::p) (b::t)).2=false:=fun h=>by rw [cutp_head h]
    rcases h1 with ⟨rfl,a1,a2,a3,a4⟩ | ⟨rfl,a1,a2,a3⟩ | ⟨rfl,a1,a2,rfl,a4⟩ | ⟨rfl,rfl,a1,a2,a3⟩ | ⟨rfl,rfl,a1,a2,a3⟩ | ⟨rfl,rfl,a1,a2,a3,a4⟩ | ⟨rfl,rfl,a1,a2,a3⟩
    · have:=len0 a1;have:=len0 a3;subst l;subst s
      have:c=false:=by cases c;rfl;cases a2
      subst c
      rcases a4 with rfl | rfl
      · rw [show txt (Val.mk 1 0 [] [] false)=tFalse from rfl,show tFalse++r=102::([97,108,115,101]++r) from rfl,tTrue,if_neg (by rw [nohead (by decide)];decide)]
        have:=cutp_app tFalse r
        rw [show tFalse++r=102::([97,108,115,101]++r) from rfl] at this
        rw [if_pos (by rw [this]),this]
      · rw [show txt (Val.mk 1 1 [] [] false)=tTrue from rfl,if_pos (by rw [cutp_app]),cutp_app]
    · have:=len0 a1;have:=len0 a3;subst l;subst s
      have:c=false:=by cases c;rfl;cases a2
      subst c
      rw [show txt (Val.mk 2 n [] [] false)=num n from rfl]
      have hd:=scNum_num (r:=r) hn.1 hn.2 hr.notD
      obtain ⟨x,t,h3,h4⟩:=num_head n
      rw [h3] at hd ⊢
      rw [List.cons_append] at hd ⊢
      have hx :∀y:UInt8,y∈([116,102,110,38,60,123,91,34]:Bytes)→y≠x:=by
        rintro y hy rfl
        rcases h4 with rfl | h4
        · exact absurd hy (by decide)
        · exact isD_ne h4 (by decide) hy
      rw [tTrue,if_neg (by rw [nohead (hx _ (by decide))];decide),tFalse,if_neg (by rw [nohead (hx _ (by decide))];decide),tNil,if_neg (by rw [nohead (hx _ (by decide))];decide),tCutP,if_neg (by rw [nohead (hx _ (by decide))];decide),tCutS,if_neg (by rw [nohead (hx _ (by decide))];decide),
        if_neg (by rw [nohead (hx _ (by decide))];decide),if_neg (by rw [nohead (hx _ (by decide))];decide),if_neg (by rw [nohead (hx _ (by decide))];decide),if_neg (by rw [nohead (hx _ (by decide))];decide),
        if_neg (by rw [List.head?_cons];intro e;injection e with e;exact hx 34 (by decide) e.symm),hd]
    · have:=len0 a1;subst l
      have:c=false:=by cases c;rfl;cases a2
      subst c
      rw [show txt (Val.mk 3 0 s [] false)=quo s from rfl]
      have hd:=scQ_quo (s:=s) (r:=r) (by omega)
      rw [show quo s++r=34::(chrs s++[34]++r) from rfl] at hd ⊢
      rw [tTrue,if_neg (by rw [nohead (by decide)];decide),tFalse,if_neg (by rw [nohead (by decide)];decide),tNil,if_neg (by rw [nohead (by decide)];decide),tCutP,if_neg (by rw [nohead (by decide)];decide),tCutS,if_neg (by rw [nohead (by decide)];decide),
        if_neg (by rw [nohead (by decide)];decide),if_neg (by rw [nohead (by decide)];decide),if_neg (by rw [nohead (by decide)];decide),if_neg (by rw [nohead (by decide)];decide),List.head?_cons,if_pos rfl,hd]
    · have:=len0 a1;subst s
      cases c with
      | true=>
        have:=len0 (a3.resolve_left (by decide));subst l
        have e:=cutp_app tCutP r
        rw [show txt (Val.mk 4 0 [] [] true)=tCutP from rfl]
        rw [show tCutP++r=38::([46,46,46]++r) from rfl] at e ⊢
        rw [tTrue,if_neg (by rw [nohead (by decide)];decide),tFalse,if_neg (by rw [nohead (by decide)];decide),tNil,if_neg (by rw [nohead (by decide)];decide),if_pos (by rw [e]),e]
      | false=>
        match l,a2 with
        | [],_=>
          have e:=cutp_app tNil r
          rw [show txt (Val.mk 4 0 [] [] false)=tNil from rfl]
          rw [show tNil++r=110::([105,108]++r) from rfl] at e ⊢
          rw [tTrue,if_neg (by rw [nohead (by decide)];decide),tFalse,if_neg (by rw [nohead (by decide)];decide),if_pos (by rw [e]),e]
        | [w],_=>
          rw [show txt (Val.mk 4 0 [] [w] false)=38::txts [w] from rfl,txts_one,List.cons_append]
          have e:cutp [38] (38::(txt w++r))=(txt w++r,true):=cutp_app [38] _
          have e2:(cutp tCutP (38::(txt w++r))).2=false:=by rw [tCutP,cutp_cons,txt_head_ne (.inl rfl)];rfl
          rw [tTrue,if_neg (by rw [nohead (by decide)];decide),tFalse,if_neg (by rw [nohead (by decide)];decide),tNil,if_neg (by rw [nohead (by decide)];decide),if_neg (by rw [e2];decide),tCutS,if_neg (by rw [nohead (by decide)];decide),if_pos (by rw [e]),e]
          simp only
          rw [ih w List.mem_cons_self r hr]
    · have:=len0 a1;subst s
      have:c=false:=by cases c;rfl;cases a3
      subst c
      rw [show txt (Val.mk 5 0 [] l false)=123::(txts l++[125]) from rfl]
      have e0:123::(txts l++[125])++r=123::(txts l++125::r):=by simp
      have e:cutp [123] (123::(txts l++125::r))=(txts l++125::r,true):=cutp_app [123] _
      rw [e0,tTrue,if_neg (by rw [nohead (by decide)];decide),tFalse,if_neg (by rw [nohead (by decide)];decide),tNil,if_neg (by rw [nohead (by decide)];decide),tCutP,if_neg (by rw [nohead (by decide)];decide),tCutS,if_neg (by rw [nohead (by decide)];decide),if_neg (by rw [nohead (by decide)];decide),if_pos (by rw [e]),e]
      exact scL_txts (.inl rfl) l r ih (by omega)
    · have:=len0 a1;subst s
      have:c=false:=by cases c;rfl;cases a4
      subst c
      rw [show txt (Val.mk 6 0 [] l false)=91::(txts l++[93]) from rfl]
      have e0:91::(txts l++[93])++r=91::(txts l++93::r):=by simp
      have e:cutp [91] (91::(txts l++93::r))=(txts l++93::r,true):=cutp_app [91] _
      rw [e0,tTrue,if_neg (by rw [nohead (by decide)];decide),tFalse,if_neg (by rw [nohead (by decide)];decide),tNil,if_neg (by rw [nohead (by decide)];decide),tCutP,if_neg (by rw [nohead (by decide)];decide),tCutS,if_neg (by rw [nohead (by decide)];decide),if_neg (by rw [nohead (by decide)];decide),if_neg (by rw [nohead (by decide)];decide),if_pos (by rw [e]),e]
      exact scL_txts (.inr (.inl rfl)) l r ih (by omega)
    · have:=len0 a1;subst s
      cases c with
      | true=>
        have:=len0 (a3.resolve_left (by decide));subst l
        have e:=cutp_app tCutS r
        rw [show txt (Val.mk 7 0 [] [] true)=tCutS from rfl]
        rw [show tCutS++r=60::([46,46,46,62]++r) from rfl] at e ⊢
        rw [tTrue,if_neg (by rw [nohead (by decide)];decide),tFalse,if_neg (by rw [nohead (by decide)];decide),tNil,if_neg (by rw [nohead (by decide)];decide),tCutP,if_neg (by rw [nohead (by decide)];decide),if_pos (by rw [e]),e]
      | false=>
        rw [show txt (Val.mk 7 0 [] l false)=60::(txts l++[62]) from rfl]
        have e0:60::(txts l++[62])++r=60::(txts l++62::r):=by simp
        have e:cutp [60] (60::(txts l++62::r))=(txts l++62::r,true):=cutp_app [60] _
        have e2:(cutp tCutS (60::(txts l++62::r))).2=false:=by
          have:=txts_head (l:=l) (e:=0) (p:=[46,46,62]) (r:=r)
          rw [tCutS,cutp_cons,if_neg (by rw [this];decide)]
        rw [e0,tTrue,if_neg (by rw [nohead (by decide)];decide),tFalse,if_neg (by rw [nohead (by decide)];decide),tNil,if_neg (by rw [nohead (by decide)];decide),tCutP,if_neg (by rw [nohead (by decide)];decide),if_neg (by rw [e2];decide),if_neg (by rw [nohead (by decide)];decide),if_neg (by rw [nohead (by decide)];decide),if_neg (by rw [nohead (by decide)];decide),if_pos (by rw [e]),e]
        exact scL_txts (.inr (.inr rfl)) l r ih (by omega)
def rvs (s:Bytes):Val × Int:=if 1400000<s.length then (vz,4) else
  if (scV 130 s).2.1=true∧(scV 130 s).2.2=[]∧fine (scV 130 s).1=true∧txt (scV 130 s).1=s then ((scV 130 s).1,0) else (vz,12)
theorem fine_ok {v:Val} (h:fine v=true):okv 130 v=true∧v.nodes≤5000:=by
  simpa [fine] using h
theorem scV_fine {v:Val} (h:fine v=true) (hw:Wf v):scV 130 (txt v)=(v,true,[]):=by
  have:=scV_txt 130 v (fine_ok h).1 hw [] (by intro c hc;cases hc)
  rwa [List.append_nil] at this
theorem rvs_txt {v:Val} (h:fine v=true) (hw:Wf v):rvs (txt v)=(v,0):=by
  have h1:=fine_len h
  unfold rvs
  rw [if_neg (by omega),scV_fine h hw,if_pos ⟨rfl,rfl,h,rfl⟩]
theorem rvs_inv {s:Bytes} (h:(rvs s).2=0):fine (rvs s).1=true∧txt (rvs s).1=s∧Wf (rvs s).1:=by
  unfold rvs at h ⊢
  split
  · rename_i h1;rw [if_pos h1] at h;cases h
  · rename_i h1
    rw [if_neg h1] at h
    split
    · rename_i h2;exact ⟨h2.2.2.1,h2.2.2.2,scV_wf _ _⟩
    · rename_i h2;rw [if_neg h2] at h;cases h
theorem rvs_wf (s:Bytes):Wf (rvs s).1:=by
  unfold rvs
  split
  · exact Wf.zero
  · split
    · exact scV_wf _ _
    · exact Wf.zero
noncomputable def sameV (v w:Val):Bool:=@decide (v=w) (Classical.propDecidable _)
theorem sameV_true {v w:Val}:sameV v w=true↔v=w:=by unfold sameV;simp
theorem sameV_false {v w:Val}:sameV v w=false↔v≠w:=by
  rw [← Bool.not_eq_true,sameV_true]
end Go.AM

namespace Go.AM
open Go
theorem bv_split {x m c:BitVec 64} (h:x &&& ~~~m=c):x=c ||| (x &&& m):=by
 subst h
 apply BitVec.eq_of_getLsbD_eq
 intro i hi
 simp only [BitVec.getLsbD_or,BitVec.getLsbD_and,BitVec.getLsbD_not,hi,decide_true,Bool.true_and]
 cases x.getLsbD i<;>cases m.getLsbD i<;>rfl
theorem bv_two (x:BitVec 64) (i:Nat):x &&& BitVec.twoPow 64 i=BitVec.twoPow 64 i∨x &&& BitVec.twoPow 64 i=0#64:=by
 rw [BitVec.and_twoPow]
 split
 ·exact .inl rfl
 ·exact .inr rfl
theorem wrap_toNat (x:BitVec 64):IntKind.u64.wrap (x.toNat:Int)=(x.toNat:Int):=wr_u64_nat x.isLt
theorem ofInt_toNat {f:Int} (h:0≤f∧f<18446744073709551616):f=((BitVec.ofInt 64 f).toNat:Int):=by
 rw [BitVec.toNat_ofInt];omega
theorem flag2 {f:Int} (h:0≤f∧f<18446744073709551616):bAndNot .u64 f 4=2↔f=2∨f=6:=by
 constructor
 ·intro h1
  have h1:IntKind.u64.wrap ((BitVec.ofInt 64 f &&& ~~~(BitVec.ofInt 64 4)).toNat:Int)=2:=h1
  rw [wrap_toNat] at h1
  have h2:BitVec.ofInt 64 f &&& ~~~(BitVec.ofInt 64 4)=2#64:=BitVec.eq_of_toNat_eq (by rw [show (2#64).toNat=2 from rfl];omega)
  have h3:=bv_split h2
  rw [show BitVec.ofInt 64 4=BitVec.twoPow 64 2 from by decide] at h3
  rcases bv_two (BitVec.ofInt 64 f) 2 with h4 | h4<;>rw [h4] at h3<;>have h5:=ofInt_toNat h<;>rw [h3] at h5
  ·exact .inr h5
  ·exact .inl h5
 ·rintro (rfl | rfl)<;>decide
theorem flag0 {f:Int} (h:0≤f∧f<18446744073709551616):bAndNot .u64 f 5=0↔f=0∨f=1∨f=4∨f=5:=by
 constructor
 ·intro h1
  have h1:IntKind.u64.wrap ((BitVec.ofInt 64 f &&& ~~~(BitVec.ofInt 64 5)).toNat:Int)=0:=h1
  rw [wrap_toNat] at h1
  have h2:BitVec.ofInt 64 f &&& ~~~(BitVec.ofInt 64 5)=0#64:=BitVec.eq_of_toNat_eq (by rw [show (0#64).toNat=0 from rfl];omega)
  have h3:=bv_split h2
  have e:BitVec.ofInt 64 f &&& BitVec.ofInt 64 5=(BitVec.ofInt 64 f &&& BitVec.twoPow 64 2) ||| (BitVec.ofInt 64 f &&& BitVec.twoPow 64 0):=by
   rw [show BitVec.ofInt 64 5=BitVec.twoPow 64 2 ||| BitVec.twoPow 64 0 from by decide]
   apply BitVec.eq_of_getLsbD_eq
   intro i hi
   simp only [BitVec.getLsbD_or,BitVec.getLsbD_and]
   cases (BitVec.ofInt 64 f).getLsbD i<;>rfl
  rw [e] at h3
  have h5:=ofInt_toNat h
  rcases bv_two (BitVec.ofInt 64 f) 2 with h4 | h4<;>rcases bv_two (BitVec.ofInt 64 f) 0 with h6 | h6<;>rw [h4,h6] at h3<;>rw [h3] at h5
  ·exact .inr (.inr (.inr h5))
  ·exact .inr (.inr (.inl h5))
  ·exact .inr (.inl h5)
  ·exact .inl h5
 ·rintro (rfl | rfl | rfl | rfl)<;>decide
def tExit:Bytes:=[101,120,105,116]
def tPan:Bytes:=[112,97,110,105,99,32]
def tRec:Bytes:=[32,114,101,99,111,118,101,114,101,100]
def tAb:Bytes:=[32,97,98,111,114,116,101,100]
def tF1:Bytes:=[102,97,117,108,116,32,49,58,32,100,105,118,105,115,105,111,110,32,98,121,32,122,101,114,111]
def tF2:Bytes:=[102,97,117,108,116,32,50,58,32,110,105,108,32,112,111,105,110,116,101,114]
def tF3:Bytes:=[102,97,117,108,116,32,51,58,32,111,117,116,32,111,102,32,114,97,110,103,101]
def faultT (n:Int):Bytes:=if n=1 then tF1 else if n=2 then tF2 else if n=3 then tF3 else []
def kindT (t:Int):Int:=if t=1 then 2 else if t=2 then 1 else if t=3 then 3 else if t=4 then 2 else 0
structure WfP (p:Pan):Prop where
 t:0≤p.tag∧p.tag<18446744073709551616
 v:Wf p.value
 f:0≤p.flags∧p.flags<18446744073709551616
def isZ (v:Val):Bool:=decide (v.kind=0)&&decide (v.int=0)&&decide (v.text=[])&&decide (v.list.length=0)&&!v.cut
theorem isZ_true {v:Val}:isZ v=true↔v=vz:=by
 unfold isZ
 simp only [Bool.and_eq_true,decide_eq_true_eq,Bool.not_eq_true',and_assoc,List.length_eq_zero_iff]
 cases v with
 | mk k n s l c=>simp
def okP (p:Pan):Bool:=decide (p.tag≤4)&&decide (p.value.kind=kindT p.tag)&&(if p.tag=0 then isZ p.value&&decide (p.flags=2∨p.flags=6)
 else decide (p.flags=0∨p.flags=1∨p.flags=4∨p.flags=5)&&decide (p.tag=4→1≤p.value.int∧p.value.int≤3)&&fine p.value)
def chkP (p:Pan):Int:=if okP p=true then 0 else 8
def baseP (p:Pan):Bytes:=if p.tag=0 then tExit else if p.tag=4 then faultT p.value.int else tPan++txt p.value
def sufP (f:Int):Bytes:=(if f % 2=1 then tRec else [])++(if 4≤f then tAb else [])
def shown (p:Pan):Bytes:=baseP p++sufP p.flags
def lnP (p:Pan):Bytes × Int:=if okP p=true then (shown p,0) else ([],8)
def pz:Pan:=⟨0,vz,0⟩
def cuts (p s:Bytes):Bytes × Bool:=if p.length≤s.length∧s.drop (s.length-p.length)=p then (s.take (s.length-p.length),true) else (s,false)
theorem cuts_app (p s:Bytes):cuts p (s++p)=(s,true):=by
 unfold cuts
 rw [if_pos ⟨by simp,by simp⟩]
 simp
theorem cuts_yes {p s:Bytes} (h:(cuts p s).2=true):s=(cuts p s).1++p:=by
 unfold cuts at h ⊢
 split
 ·rename_i h1
  have:=List.take_append_drop (s.length-p.length) s
  rw [h1.2] at this
  exact this.symm
 ·rename_i h1;rw [if_neg h1] at h;cases h
theorem cuts_no {p s:Bytes} (h:(cuts p s).2=false):(cuts p s).1=s:=by
 unfold cuts at h ⊢
 split
 ·rename_i h1;rw [if_pos h1] at h;cases h
 ·rfl
theorem cuts_last {p s:Bytes} {c d:UInt8} (hs:s.getLast?=some c) (hp:p.getLast?=some d) (h:c≠d):cuts p s=(s,false):=by
 unfold cuts
 rw [if_neg]
 rintro ⟨h1,h2⟩
 have h3:s.getLast?=p.getLast?:=by
  rw [← List.take_append_drop (s.length-p.length) s,h2,List.getLast?_append,hp];rfl
 rw [hs,hp] at h3
 injection h3 with h3
 exact h h3
def coreP (s:Bytes):Option Pan:=if s=tExit then some ⟨0,vz,2⟩ else if s=tF1 then some ⟨4,Val.mk 2 1 [] [] false,0⟩ else if s=tF2 then some ⟨4,Val.mk 2 2 [] [] false,0⟩ else if s=tF3 then some ⟨4,Val.mk 2 3 [] [] false,0⟩ else
 if (cutp tPan s).2=false then none else
 if (rvs (cutp tPan s).1).2≠0 then none else
 let v:=(rvs (cutp tPan s).1).1
 if v.kind=2 then some ⟨1,v,0⟩ else if v.kind=1 then some ⟨2,v,0⟩ else if v.kind=3 then some ⟨3,v,0⟩ else none
def rlP (s:Bytes):Pan × Int:=if 2000<s.length then (pz,4) else
 let a:=cuts tAb s
 let r:=cuts tRec a.1
 match coreP r.1 with
 | none=>(pz,12)
 | some p=>let q:Pan:=⟨p.tag,p.value,p.flags+(if r.2=true then 1 else 0)+(if a.2=true then 4 else 0)⟩
  if okP q=true then (q,0) else (pz,12)
end Go.AM

namespace Go.AM
open Go
theorem cuts_long {p q b:Bytes} (h:p.length≤q.length):cuts p (b++q)=(b++(cuts p q).1,(cuts p q).2):=by
 have e:(b++q).length-p.length=b.length+(q.length-p.length):=by simp;omega
 unfold cuts
 rw [e,List.drop_append,List.take_append]
 rw [List.drop_of_length_le (by omega),List.take_of_length_le (by omega),List.nil_append,show b.length+(q.length-p.length)-b.length=q.length-p.length by omega]
 by_cases h1:q.drop (q.length-p.length)=p
 ·rw [if_pos ⟨by simp;omega,h1⟩,if_pos ⟨h,h1⟩]
 ·rw [if_neg fun h2=>h1 h2.2,if_neg fun h2=>h1 h2.2]
theorem vNum_eq {v:Val} (h:fine v=true) (hk:v.kind=2):v=Val.mk 2 v.int [] [] false:=by
 have h1:=okv_head (fine_ok h).1
 cases v with
 | mk k n s l c=>
  simp only [Val.okh,Okh,Val.kind_mk,Val.int_mk,Val.text_mk,Val.list_mk,Val.cut_mk] at h1 hk ⊢
  subst hk
  have hl:=len0 (l:=l) (by omega)
  have hs:=len0 (l:=s) (by omega)
  subst hl;subst hs
  cases c with
  | false=>rfl
  | true=>simp at h1
theorem num_last (n:Int) :∃b c,num n=b++[c]∧c≠100:=by
 have key :∀m:Nat,∃b c,digs 10 m=b++[c]∧c≠100:=by
  intro m
  obtain ⟨b,c,h⟩ :∃b c,digs 10 m=b++[c]:=by
   have h:=digs_ne 10 m
   exact ⟨_,_,(List.dropLast_concat_getLast h).symm⟩
  refine ⟨b,c,h,fun hc=>?_⟩
  have:=ds_isD 64 m c (by rw [show ds 10 64 m=digs 10 m from rfl,h];simp)
  rw [hc] at this
  exact absurd this (by decide)
 unfold num
 split
 ·obtain ⟨b,c,h,hc⟩:=key (-n).toNat
  exact ⟨45::b,c,by rw [h];rfl,hc⟩
 ·exact key _
theorem base_last {p:Pan} (h:okP p=true) :∃b c,baseP p=b++[c]∧c≠100:=by
 unfold okP at h
 simp only [Bool.and_eq_true,decide_eq_true_eq] at h
 obtain ⟨⟨h1,h2⟩,h3⟩:=h
 unfold baseP
 by_cases t0:p.tag=0
 ·rw [if_pos t0];exact ⟨[101,120,105],116,rfl,by decide⟩
 rw [if_neg t0] at h3 ⊢
 simp only [Bool.and_eq_true,decide_eq_true_eq] at h3
 obtain ⟨⟨h4,h5⟩,h6⟩:=h3
 by_cases t4:p.tag=4
 ·rw [if_pos t4]
  have:=h5 t4
  rcases (show p.value.int=1∨p.value.int=2∨p.value.int=3 by omega) with h | h | h<;>rw [h]
  ·exact ⟨tF1.dropLast,111,rfl,by decide⟩
  ·exact ⟨tF2.dropLast,114,rfl,by decide⟩
  ·exact ⟨tF3.dropLast,101,rfl,by decide⟩
 rw [if_neg t4]
 have hk:p.value.kind=2∨p.value.kind=1∨p.value.kind=3:=by
  rw [h2];unfold kindT
  by_cases a1:p.tag=1
  ·rw [if_pos a1];exact .inl rfl
  rw [if_neg a1]
  by_cases a2:p.tag=2
  ·rw [if_pos a2];exact .inr (.inl rfl)
  rw [if_neg a2]
  by_cases a3:p.tag=3
  ·rw [if_pos a3];exact .inr (.inr rfl)
  rw [if_neg a3,if_neg t4]
  have h0:=okv_head (fine_ok h6).1
  unfold Val.okh Okh at h0
  rw [h2] at h0
  unfold kindT at h0
  rw [if_neg a1,if_neg a2,if_neg a3,if_neg t4] at h0
  omega
 have add :∀{x:Bytes},(∃b c,x=b++[c]∧c≠(100:UInt8))→∃b c,tPan++x=b++[c]∧c≠(100:UInt8):=fun ⟨b,c,h,hc⟩=>⟨tPan++b,c,by rw [h];simp,hc⟩
 apply add
 rw [txt_eq]
 rcases hk with h | h | h<;>rw [h]
 ·exact num_last _
 ·rw [if_pos rfl]
  split
  ·exact ⟨[116,114,117],101,rfl,by decide⟩
  ·exact ⟨[102,97,108,115],101,rfl,by decide⟩
 ·exact ⟨34::chrs p.value.text,34,rfl,by decide⟩
theorem okP_flags {p:Pan} (h:okP p=true):(p.tag=0∧p.value=vz∧(p.flags=2∨p.flags=6))∨(p.tag≠0∧fine p.value=true∧(p.flags=0∨p.flags=1∨p.flags=4∨p.flags=5)):=by
 unfold okP at h
 simp only [Bool.and_eq_true,decide_eq_true_eq] at h
 obtain ⟨⟨h1,h2⟩,h3⟩:=h
 by_cases t0:p.tag=0
 ·rw [if_pos t0] at h3
  simp only [Bool.and_eq_true,decide_eq_true_eq] at h3
  exact .inl ⟨t0,isZ_true.1 h3.1,h3.2⟩
 ·rw [if_neg t0] at h3
  simp only [Bool.and_eq_true,decide_eq_true_eq] at h3
  exact .inr ⟨t0,h3.2,h3.1.1⟩
theorem cut_shown {p:Pan} (h:okP p=true):(cuts tAb (shown p)).2=decide (4≤p.flags)∧cuts tRec (cuts tAb (shown p)).1=(baseP p,decide (p.flags % 2=1)):=by
 obtain ⟨b,c,hb,hc⟩:=base_last h
 have a1:cuts tAb (baseP p)=(baseP p,false):=cuts_last (c:=c) (d:=100) (by rw [hb];simp) rfl hc
 have a2:cuts tRec (baseP p)=(baseP p,false):=cuts_last (c:=c) (d:=100) (by rw [hb];simp) rfl hc
 have a3:cuts tAb (baseP p++tRec)=(baseP p++tRec,false):=by rw [cuts_long (by decide)];rfl
 have hf:p.flags=0∨p.flags=1∨p.flags=2∨p.flags=4∨p.flags=5∨p.flags=6:=by rcases okP_flags h with ⟨_,_,h⟩ | ⟨_,_,h⟩<;>omega
 unfold shown sufP
 rcases hf with h | h | h | h | h | h<;>rw [h]
 ·rw [show baseP p++((if (0:Int) % 2=1 then tRec else [])++(if (4:Int)≤0 then tAb else []))=baseP p by simp,a1];exact ⟨rfl,a2⟩
 ·rw [show baseP p++((if (1:Int) % 2=1 then tRec else [])++(if (4:Int)≤1 then tAb else []))=baseP p++tRec by simp,a3];exact ⟨rfl,cuts_app _ _⟩
 ·rw [show baseP p++((if (2:Int) % 2=1 then tRec else [])++(if (4:Int)≤2 then tAb else []))=baseP p by simp,a1];exact ⟨rfl,a2⟩
 ·rw [show baseP p++((if (4:Int) % 2=1 then tRec else [])++(if (4:Int)≤4 then tAb else []))=baseP p++tAb by simp,cuts_app];exact ⟨rfl,a2⟩
 ·rw [show baseP p++((if (5:Int) % 2=1 then tRec else [])++(if (4:Int)≤5 then tAb else []))=(baseP p++tRec)++tAb by simp,cuts_app];exact ⟨rfl,cuts_app _ _⟩
 ·rw [show baseP p++((if (6:Int) % 2=1 then tRec else [])++(if (4:Int)≤6 then tAb else []))=baseP p++tAb by simp,cuts_app];exact ⟨rfl,a2⟩
theorem core_base {p:Pan} (h:okP p=true) (hw:Wf p.value):coreP (baseP p)=some ⟨p.tag,p.value,if p.tag=0 then 2 else 0⟩:=by
 have h0:=okP_flags h
 unfold okP at h
 simp only [Bool.and_eq_true,decide_eq_true_eq] at h
 obtain ⟨⟨h1,h2⟩,h3⟩:=h
 obtain ⟨t,v,f⟩:=p
 simp only at h0 h1 h2 h3 hw ⊢
 unfold baseP
 rcases h0 with ⟨rfl,rfl,_⟩ | ⟨t0,hf,_⟩
 ·rfl
 rw [if_neg t0] at h3
 simp only [Bool.and_eq_true,decide_eq_true_eq] at h3
 obtain ⟨⟨h4,h5⟩,h6⟩:=h3
 simp only
 rw [if_neg t0]
 by_cases t4:t=4
 ·subst t4
  have hv:=vNum_eq hf h2
  have:=h5 rfl
  rw [if_pos rfl]
  rcases (show v.int=1∨v.int=2∨v.int=3 by omega) with h | h | h<;>rw [h] at hv<;>rw [hv]<;>rfl
 rw [if_neg t4,if_neg t0]
 have ne :∀{x:Bytes} {c:UInt8} {r:Bytes},x=c::r→c≠112→tPan++txt v≠x:=fun hx hc e=>by
  rw [hx] at e
  injection e with e
  exact hc e.symm
 unfold coreP
 rw [if_neg (ne (x:=tExit) (c:=101) rfl (by decide)),if_neg (ne (x:=tF1) (c:=102) rfl (by decide)),if_neg (ne (x:=tF2) (c:=102) rfl (by decide)),if_neg (ne (x:=tF3) (c:=102) rfl (by decide)),cutp_app,if_neg (show ¬(true=false) by decide),rvs_txt hf hw,if_neg (show ¬((0:Int)≠0) by decide)]
 simp only
 unfold kindT at h2
 by_cases a1:t=1
 ·subst a1
  rw [if_pos rfl] at h2
  rw [if_pos h2]
 rw [if_neg a1] at h2
 by_cases a2:t=2
 ·subst a2
  rw [if_pos rfl] at h2
  rw [if_neg (by omega),if_pos h2]
 rw [if_neg a2] at h2
 by_cases a3:t=3
 ·subst a3
  rw [if_pos rfl] at h2
  rw [if_neg (by omega),if_neg (by omega),if_pos h2]
 rw [if_neg a3,if_neg t4] at h2
 have h7:=okv_head (fine_ok hf).1
 unfold Val.okh Okh at h7
 omega
theorem txt_small {v:Val} (h:fine v=true) (hk:v.kind=1∨v.kind=2∨v.kind=3):(txt v).length≤300:=by
 have h7:=okv_head (fine_ok h).1
 unfold Val.okh Okh at h7
 have h8:=num_len v.int
 have h9:=quo_len v.text
 rw [txt_eq]
 rcases hk with h | h | h<;>rw [h]
 ·rw [if_pos rfl];split<;>decide
 ·show (num v.int).length≤300;omega
 ·show (quo v.text).length≤300;omega
theorem okP_kind {p:Pan} (h:okP p=true) (h0:p.tag≠0):p.value.kind=1∨p.value.kind=2∨p.value.kind=3:=by
 have hf:fine p.value=true:=by rcases okP_flags h with h | h;exact absurd h.1 h0;exact h.2.1
 unfold okP at h
 simp only [Bool.and_eq_true,decide_eq_true_eq] at h
 have h2:=h.1.2
 have h7:=okv_head (fine_ok hf).1
 unfold Val.okh Okh at h7
 unfold kindT at h2
 repeat' split at h2
 all_goals omega
theorem shown_len {p:Pan} (h:okP p=true):(shown p).length≤400:=by
 have hs:(sufP p.flags).length≤18:=by unfold sufP;split<;>split<;>decide
 have hb:(baseP p).length≤310:=by
  unfold baseP
  by_cases t0:p.tag=0
  ·rw [if_pos t0];decide
  rw [if_neg t0]
  split
  ·unfold faultT;repeat' split
   all_goals decide
  ·have hf:fine p.value=true:=by rcases okP_flags h with h | h;exact absurd h.1 t0;exact h.2.1
   have:=txt_small hf (okP_kind h t0)
   rw [List.length_append,show tPan.length=6 from rfl];omega
 unfold shown
 rw [List.length_append];omega
theorem rlP_shown {p:Pan} (h:okP p=true) (hw:Wf p.value):rlP (shown p)=(p,0):=by
 have h1:=shown_len h
 obtain ⟨h2,h3⟩:=cut_shown h
 have h4:=core_base h hw
 unfold rlP
 rw [if_neg (by omega)]
 simp only [h2,h3]
 rw [h4]
 simp only
 have e:(if p.tag=0 then (2:Int) else 0)+(if decide (p.flags % 2=1)=true then 1 else 0)+(if decide (4≤p.flags)=true then 4 else 0)=p.flags:=by
  simp only [decide_eq_true_eq]
  rcases okP_flags h with ⟨a,_,b⟩ | ⟨a,_,b⟩
  ·rw [if_pos a];rcases b with b | b<;>rw [b]<;>decide
  ·rw [if_neg a];rcases b with b | b | b | b<;>rw [b]<;>decide
 rw [e,if_pos (show okP ⟨p.tag,p.value,p.flags⟩=true from h)]
theorem core_wf {s:Bytes} {p:Pan} (h:coreP s=some p):Wf p.value∧(p.flags=0∨p.flags=2)∧0≤p.tag∧p.tag≤4∧baseP p=s:=by
 have wn :∀n:Int,n=1∨n=2∨n=3→Wf (Val.mk 2 n [] [] false):=fun n hn=>.mk (by decide) (by omega) (by decide) (by simp)
 unfold coreP at h
 by_cases h1:s=tExit
 ·rw [if_pos h1] at h;cases h;exact ⟨Wf.zero,.inr rfl,by decide,by decide,h1.symm⟩
 rw [if_neg h1] at h
 by_cases h2:s=tF1
 ·rw [if_pos h2] at h;cases h;exact ⟨wn 1 (by decide),.inl rfl,by decide,by decide,h2.symm⟩
 rw [if_neg h2] at h
 by_cases h3:s=tF2
 ·rw [if_pos h3] at h;cases h;exact ⟨wn 2 (by decide),.inl rfl,by decide,by decide,h3.symm⟩
 rw [if_neg h3] at h
 by_cases h4:s=tF3
 ·rw [if_pos h4] at h;cases h;exact ⟨wn 3 (by decide),.inl rfl,by decide,by decide,h4.symm⟩
 rw [if_neg h4] at h
 by_cases h5:(cutp tPan s).2=false
 ·rw [if_pos h5] at h;cases h
 rw [if_neg h5] at h
 by_cases h6:(rvs (cutp tPan s).1).2≠0
 ·rw [if_pos h6] at h;cases h
 rw [if_neg h6] at h
 have h5:(cutp tPan s).2=true:=by simpa using h5
 obtain ⟨g1,g2,g3⟩:=rvs_inv (Decidable.not_not.1 h6)
 have es:tPan++txt (rvs (cutp tPan s).1).1=s:=by
  rw [g2]
  unfold cutp at h5 ⊢
  split at h5
  ·rename_i h7
   have:=List.take_append_drop tPan.length s
   rw [h7] at this
   rw [if_pos h7]
   exact this
  ·cases h5
 simp only at h
 split at h
 ·cases h;exact ⟨g3,.inl rfl,by simp only;decide,by simp only;decide,es⟩
 split at h
 ·cases h;exact ⟨g3,.inl rfl,by simp only;decide,by simp only;decide,es⟩
 split at h
 ·cases h;exact ⟨g3,.inl rfl,by simp only;decide,by simp only;decide,es⟩
 ·cases h
theorem suf_add {f:Int} (hf:f=0∨f=2) (r a:Bool):sufP (f+(if r=true then 1 else 0)+(if a=true then 4 else 0))=(if r=true then tRec else [])++(if a=true then tAb else []):=by
 rcases hf with rfl | rfl<;>cases r<;>cases a<;>rfl
theorem rlP_inv {s:Bytes} (h:(rlP s).2=0):okP (rlP s).1=true∧WfP (rlP s).1∧shown (rlP s).1=s∧s.length≤2000:=by
 unfold rlP at h ⊢
 by_cases hl:2000<s.length
 ·rw [if_pos hl] at h;cases h
 rw [if_neg hl] at h ⊢
 simp only at h ⊢
 have ha1:=@cuts_yes tAb s
 have ha2:=@cuts_no tAb s
 generalize cuts tAb s=a at h ha1 ha2 ⊢
 have hr1:=@cuts_yes tRec a.1
 have hr2:=@cuts_no tRec a.1
 generalize cuts tRec a.1=r at h hr1 hr2 ⊢
 cases hc:coreP r.1 with
 | none=>rw [hc] at h;cases h
 | some p=>
  rw [hc] at h
  simp only at h ⊢
  obtain ⟨g1,g2,g3,g3',g4⟩:=core_wf hc
  by_cases ho:okP ⟨p.tag,p.value,p.flags+(if r.2=true then 1 else 0)+(if a.2=true then 4 else 0)⟩=true
  ·rw [if_pos ho]
   refine ⟨ho,⟨⟨g3,by simp only;omega⟩,g1,?_⟩,?_,by omega⟩
   ·simp only;constructor<;>(split<;>split<;>omega)
   ·have e:baseP ⟨p.tag,p.value,p.flags+(if r.2=true then 1 else 0)+(if a.2=true then 4 else 0)⟩=r.1:=g4
    unfold shown
    rw [e]
    simp only
    rw [suf_add g2]
    cases hr:r.2 with
    | true=>
     cases ha:a.2 with
     | true=>rw [ha1 ha,hr1 hr];simp
     | false=>rw [← ha2 ha,hr1 hr];simp
    | false=>
     cases ha:a.2 with
     | true=>rw [ha1 ha,← hr2 hr];simp
     | false=>rw [← ha2 ha,← hr2 hr];simp
  ·rw [if_neg ho] at h;cases h
end Go.AM

namespace Go.AM
open Go
structure Has38 (prog:Prog):Prop extends Has03 prog,HasB prog where
 f71:prog.fn 71=some pf71
 f72:prog.fn 72=some pf72
 f74:prog.fn 74=some pf74
 f76:prog.fn 76=some pf76
 f78:prog.fn 78=some pf78
 f102:prog.fn 102=some pf102
 f103:prog.fn 103=some pf103
 f104:prog.fn 104=some pf104
 f107:prog.fn 107=some pf107
 f109:prog.fn 109=some pf109
 f128:prog.fn 128=some pf128
 f129:prog.fn 129=some pf129
 f130:prog.fn 130=some pf130
 f131:prog.fn 131=some pf131
 f136:prog.fn 136=some pf136
section
variable {prog:Prog} (H:Has38 prog)
include H
theorem c102 :∀(d:Nat) {v:Val},Wf v→d≤1000→Pus prog 102 [v.av,.i .i64 (d:Int)] (.b (deepv d v))
 | 0,v,hw,hd=>by
  obtain ⟨x,rfl,h⟩:=p102 H.f102 (v0:=v) (most1:=((0:Nat):Int)) (K:=fun x=>x=deepv 0 v) (by
   unfold T102_0
   exact ⟨fun _=>rfl,fun h=>absurd rfl h⟩)
  exact h
 | d+1,v,hw,hd=>by
  have ih:=@c102 d
  obtain ⟨x,rfl,h⟩:=p102 H.f102 (v0:=v) (most1:=((d+1:Nat):Int)) (K:=fun x=>x=deepv (d+1) v) (by
   have hm:IntKind.i64.wrap (((d+1:Nat):Int)-1)=(d:Int):=by rw [wr_i64 (by omega) (by omega)];omega
   unfold T102_0
   refine ⟨fun h=>absurd h (by omega),fun _=>⟨fun h=>?_,fun h1=>⟨fun h=>?_,fun h2 P hP=>?_⟩⟩⟩
   ·rw [deepv,decide_eq_true (show 100<v.text.length by omega)];rfl
   ·rw [deepv,decide_eq_true (show 400<v.list.length by omega),Bool.or_true];rfl
   ·have e:deepv (d+1) v=v.list.any (deepv d):=by
     rw [deepv,decide_eq_false (by omega),decide_eq_false (by omega)];rfl
    refine loop_inv (P:=fun _ i=>P i v) (fun _=>()) v.list.length (fun i=>(v.list.take i).any (deepv d)=false) (by simp) (fun hI=>?_) (fun i hi hI ihP=>?_)
    ·apply hP
     unfold T102_1 T102_2
     refine ⟨fun h=>absurd h (by omega),fun _=>?_⟩
     rw [List.take_length] at hI
     rw [e,hI]
    ·apply hP
     unfold T102_1
     refine ⟨fun _=>⟨by omega,_,get_at hi,_,by rw [hm];exact ih (hw.e _ (List.getElem_mem hi)) (by omega),fun h3=>?_,fun h3=>?_⟩,fun h=>absurd (show (i:Int)<v.list.length by omega) h⟩
     ·rw [e]
      exact (List.any_eq_true.2 ⟨_,List.getElem_mem hi,h3⟩).symm
     ·rw [wr_succ (by omega)]
      refine ihP ?_
      rw [List.take_succ_eq_append_getElem hi,List.any_append,hI]
      simpa using h3)
  exact h
omit H in
theorem rNs_snoc {l:List Val} {i n:Nat} (hi:i<l.length) (hn:rNs (l.take i) n≤5000):rNs (l.take (i+1)) n=rNs (l.take i) n+rN l[i]:=by
 have key :∀(l:List Val) (v:Val) (n:Nat),rNs l n≤5000→rNs (l++[v]) n=rNs l n+rN v:=by
  intro l
  induction l with
  | nil=>intro v n h;rw [rNs] at h;simp [rNs,h]
  | cons w l ih=>
   intro v n h
   rw [rNs] at h
   by_cases hn:n≤5000
   ·rw [if_pos hn] at h
    simp only [List.cons_append,rNs,if_pos hn]
    exact ih v _ h
   ·rw [if_neg hn] at h
    exact absurd h hn
 rw [List.take_succ_eq_append_getElem hi,key _ _ _ hn]
omit H in
theorem rNs_stop {l:List Val} {i n:Nat} (h:5000<rNs (l.take i) n):rNs l n=rNs (l.take i) n:=by
 have key :∀(l m:List Val) (n:Nat),5000<rNs l n→rNs (l++m) n=rNs l n:=by
  intro l
  induction l with
  | nil=>
   intro m n h
   rw [rNs] at h
   cases m with
   | nil=>rfl
   | cons w m=>simp only [List.nil_append,rNs];rw [if_neg (by omega)]
  | cons w l ih=>
   intro m n h
   rw [rNs] at h
   simp only [List.cons_append,rNs]
   split
   ·rename_i hn;rw [if_pos hn] at h;exact ih m _ h
   ·rfl
 have:=key (l.take i) (l.drop i) n h
 rwa [List.take_append_drop] at this
theorem c103 :∀(d:Nat) {v:Val},Sm d v→d≤1000→Pus prog 103 [v.av] (.i .i64 (rN v:Int))
 | 0,v,hs,hd=>hs.elim
 | d+1,v,hs,hd=>by
  have ih:=@c103 d
  obtain ⟨x,rfl,h⟩:=p103 H.f103 (v0:=v) (K:=fun x=>x=(rN v:Int)) (by
   unfold T103_0
   intro P hP
   have e:=rN_eq v
   refine loop_inv (P:=fun n i=>P n i v) (fun i=>(rNs (v.list.take i) 1:Int)) v.list.length (fun _=>True) trivial (fun _=>?_) (fun i hi _ ihP=>?_)
   ·apply hP
    unfold T103_1 T103_2
    refine ⟨fun h=>absurd h (by omega),fun _=>?_⟩
    rw [List.take_length,e]
   ·apply hP
    unfold T103_1 T103_2
    refine ⟨fun _=>⟨fun h=>⟨by omega,_,get_at hi,_,ih (hs.2 _ (List.getElem_mem hi)) (by omega),?_⟩,fun h=>?_⟩,fun h=>absurd (show (i:Int)<v.list.length by omega) h⟩
    ·have h1:=rN_le (hs.2 _ (List.getElem_mem hi))
     have h2:=hs.1
     have h3:=rNs_snoc (l:=v.list) (n:=1) hi (by omega)
     have:=ihP trivial
     rw [h3] at this
     rw [wr_i64 (by omega) (by omega),wr_succ (by omega)]
     simpa using this
    ·rw [e,rNs_stop (i:=i) (by omega)])
  exact h
theorem c71 {v:Val} (hw:Wf v):Pus prog 71 [v.av] (.b (greatv v)):=by
 obtain ⟨x,rfl,h⟩:=p71 H.f71 (v0:=v) (K:=fun x=>x=greatv v) (by
  unfold T71_0 greatv
  refine ⟨_,c102 H 14 hw (by decide),fun h=>by rw [h];rfl,fun h=>⟨_,c103 H 14 (deepv_sm h) (by decide),?_⟩⟩
  rw [h,Bool.false_or]
  exact decide_eq_decide.2 (by omega))
 exact h
end
end Go.AM

namespace Go.AM
open Go
theorem bAnd1 (n:Int):bAnd .i64 n 1=n % 2:=by
 unfold bAnd
 have h1:(BitVec.ofInt IntKind.i64.bits n &&& BitVec.ofInt IntKind.i64.bits 1).toNat=(n % 2).toNat:=by
  show (BitVec.ofInt 64 n &&& BitVec.ofInt 64 1).toNat=_
  rw [BitVec.toNat_and]
  have h2:(BitVec.ofInt 64 1).toNat=2 ^ 1-1:=by decide
  rw [h2,Nat.and_two_pow_sub_one_eq_mod,BitVec.toNat_ofInt]
  omega
 rw [h1,wr_i64 (by omega) (by omega)]
 omega
theorem cut_cases (v:Val):(v.cut=true∧v.cut.toNat=1)∨(v.cut=false∧v.cut.toNat=0):=by cases v.cut<;>simp
theorem okv_succ (d:Nat) (v:Val):okv (d+1) v=(decide v.okh&&v.list.all (okv d)):=rfl
theorem okv_no {d:Nat} {v:Val} (h:¬v.okh):okv (d+1) v=false:=by rw [okv_succ,decide_eq_false h];rfl
theorem okv_yes {d:Nat} {v:Val} (h:v.okh):okv (d+1) v=v.list.all (okv d):=by rw [okv_succ,decide_eq_true h];rfl
section
variable {prog:Prog} (H:Has38 prog)
include H
end
end Go.AM

namespace Go.AM
open Go
section
variable {prog:Prog} (H:Has38 prog)
include H
set_option maxHeartbeats 1000000 in
theorem c109 :∀(d:Nat) {v:Val},Wf v→d≤1000→Pus prog 109 [v.av,.i .i64 (d:Int)] (.tup [.i .i64 (cntR d v).1,.b (cntR d v).2])
 | 0,v,hw,hd=>by
  obtain ⟨x,y,⟨rfl,rfl⟩,h⟩:=p109 H.f109 (v0:=v) (nest1:=((0:Nat):Int)) (K:=fun x y=>x=(cntR 0 v).1∧y=(cntR 0 v).2) (by
   unfold T109_0 T109_1 T109_2 T109_3 T109_4
   have:cntR 0 v=(0,false):=by unfold cntR;rw [if_neg (by rintro ⟨h,_⟩;cases h)]
   rw [this]
   repeat' first | exact ⟨rfl,rfl⟩ | refine ⟨fun _=>?_,fun _=>?_⟩ | (intro h)
   all_goals exact absurd rfl ‹¬((0:Nat):Int)=0›)
  exact h
 | d+1,v,hw,hd=>by
  have ih:=@c109 d
  obtain ⟨x,y,⟨rfl,rfl⟩,h⟩:=p109 H.f109 (v0:=v) (nest1:=((d+1:Nat):Int)) (K:=fun x y=>x=(cntR (d+1) v).1∧y=(cntR (d+1) v).2) (by
   have hm:IntKind.i64.wrap (((d+1:Nat):Int)-1)=(d:Int):=by rw [wr_i64 (by omega) (by omega)];omega
   have ht:v.text=[]↔v.text.length=0:=List.length_eq_zero_iff.symm
   have ht':[]=v.text↔v.text.length=0:=by rw [← ht];exact eq_comm
   have cno:¬(okv (d+1) v=true∧v.nodes≤5000)→cntR (d+1) v=(0,false):=fun h=>by unfold cntR;rw [if_neg h]
   have no:¬v.okh→(0:Int)=(cntR (d+1) v).1∧false=(cntR (d+1) v).2:=fun h=>by
    rw [cno (by rw [okv_no h];rintro ⟨h,_⟩;cases h)];exact ⟨rfl,rfl⟩
   have hl:=hw.l
   have hn:=nodes_eq v
   have lp:v.okh→∀P:Int→Int→Prop,(∀(sum10:Int) (t103:Int),T109_5 prog (fun x y=>x=(cntR (d+1) v).1∧y=(cntR (d+1) v).2) P ((d+1:Nat):Int) sum10 v.list (v.list.length:Int) t103→P sum10 t103)→P 1 0:=by
    intro ho P hP
    have e:=okv_yes (d:=d) ho
    refine loop_inv (P:=fun s i=>P s i) (fun i=>((1+Val.nodesL (v.list.take i):Nat):Int)) v.list.length (fun i=>(v.list.take i).all (okv d)=true∧1+Val.nodesL (v.list.take i)≤5000) (by simp [Val.nodesL]) (fun hI=>?_) (fun i hi hI ihP=>?_)
    ·apply hP
     unfold T109_5 T109_6
     refine ⟨fun h=>absurd h (by omega),fun _=>?_⟩
     rw [List.take_length] at hI ⊢
     unfold cntR
     rw [if_pos ⟨by rw [e];exact hI.1,by omega⟩,hn]
     exact ⟨rfl,rfl⟩
    ·apply hP
     unfold T109_5
     have hnt:=nodesL_take hi
     have hle:=nodesL_le (l:=v.list) (i+1)
     refine ⟨fun _=>⟨by omega,_,get_at hi,_,_,by rw [hm];exact ih (hw.e _ (List.getElem_mem hi)) (by omega),?_⟩,fun h=>absurd (show (i:Int)<v.list.length by omega) h⟩
     by_cases hc:okv d v.list[i]=true∧v.list[i].nodes≤5000
     ·rw [show cntR d v.list[i]=((v.list[i].nodes:Int),true) by unfold cntR;rw [if_pos hc]]
      refine ⟨fun h=>(by cases h),fun _=>⟨fun h=>?_,fun h=>?_⟩⟩
      ·rw [wr_i64 (by omega) (by omega)] at h
       rw [cno (by omega)]
       exact ⟨rfl,rfl⟩
      ·rw [wr_i64 (by omega) (by omega)] at h ⊢
       rw [wr_i64 (by omega) (by omega)]
       have:=ihP ⟨by rw [List.take_succ_eq_append_getElem hi,List.all_append,hI.1];simpa using hc.1,by omega⟩
       rw [hnt] at this
       rw [show ((1+Val.nodesL (v.list.take i):Nat):Int)+(v.list[i].nodes:Int)=((1+(Val.nodesL (v.list.take i)+v.list[i].nodes):Nat):Int) by omega]
       exact this
     ·rw [show cntR d v.list[i]=(0,false) by unfold cntR;rw [if_neg hc]]
      refine ⟨fun _=>?_,fun h=>(by cases h)⟩
      rw [cno (fun h=>hc ⟨okv_sub h.1 _ (List.getElem_mem hi),by have:=nodes_mem (List.getElem_mem hi);omega⟩)]
      exact ⟨rfl,rfl⟩
   unfold T109_0 T109_1 T109_2 T109_3 T109_4
   simp only [Val.int_mk,Val.text_mk,Val.cut_mk,Val.kind_mk,Val.list_mk,bAnd1,ht',ne_eq,not_true_eq_false,false_imp_iff,true_imp_iff,true_and,not_false_eq_true]
   rcases cut_cases v with ⟨hc,hcn⟩ | ⟨hc,hcn⟩
   all_goals simp only [hc,reduceCtorEq,false_imp_iff,true_imp_iff,not_true_eq_false,not_false_eq_true,true_and,and_true]
   all_goals repeat' first | refine ⟨fun _=>?_,fun _=>?_⟩ | (intro h)
   all_goals first
    | exact no (by unfold Val.okh Okh;omega)
    | exact lp (by unfold Val.okh Okh;omega) _ ‹_›
    | (exfalso;omega))
  exact h
theorem c76 {v:Val} (hw:Wf v):Pus prog 76 [v.av] (.i .i64 (chkR v)):=by
 obtain ⟨x,rfl,h⟩:=p76 H.f76 (v0:=v) (K:=fun x=>x=chkR v) (by
  unfold T76_0 chkR
  refine ⟨_,_,c109 H 130 hw (by decide),?_⟩
  unfold cntR fine
  by_cases h:okv 130 v=true∧v.nodes≤5000
  ·rw [if_pos h,if_pos (by simpa using h)]
   exact ⟨fun h=>(by cases h),fun _=>rfl⟩
  ·rw [if_neg h,if_neg (by simpa using h)]
   exact ⟨fun _=>rfl,fun h=>(by cases h)⟩)
 exact h
end
end Go.AM

namespace Go.AM
open Go
theorem txts_app (l m:List Val):txts (l++m)=txts l++(if l.length=0 then txts m else txtl m):=by
 cases l with
 | nil=>simp [txts]
 | cons a l=>simp [txts,txtl_app]
theorem txts_take_len (l:List Val) (i:Nat):(txts (l.take i)).length≤(txts l).length:=by
 have:=txts_app (l.take i) (l.drop i)
 rw [List.take_append_drop] at this
 rw [this,List.length_append]
 omega
theorem quoR_ok {s:Bytes} (h:s.length≤400):quoR s=(quo s,0):=by
 unfold quoR
 rw [if_neg (by omega)]
section
variable {prog:Prog} (H:Has38 prog)
include H
theorem show_loop {K:Int→Bytes→Prop} {l:List Val} {e0 e1:UInt8} {b:Bytes} (hl:l.length≤16) (hx :∀x∈l,∀b:Bytes,b.length+(txt x).length≤100000000→PuX prog 104 (Bl b) [x.av] (fun r=>r=.i .i64 0) (Bl (b++txt x)))
  (hb:b.length+(txts l).length+2≤100000000) (hK:K 0 (b++[e0]++txts l++[e1])) :∀P0:Int→Bytes→Prop,(∀(t22:Int) (mP:Bytes),T104_9 prog K P0 [e0,e1] l (l.length:Int) t22 mP→P0 t22 mP)→P0 0 (b++[e0]):=by
 intro P hP
 have:=loop_up (P:=fun m i=>P i m) (fun i=>b++[e0]++txts (l.take i)) l.length ?_ fun i hi ihP=>?_
 ·simpa [txts] using this
 ·apply hP
  unfold T104_9 T104_11 T104_4
  rw [List.take_length]
  refine ⟨fun h=>absurd h (by omega),fun _=>⟨by simp,_,_,c126 H.toHasB (s:=[e1]) ?_,hK⟩⟩
  rw [maxBytes_eq];simp only [List.length_append,List.length_cons,List.length_nil];omega
 ·apply hP
  have h1:=txts_take_len l (i+1)
  rw [txts_take hi] at h1 ihP
  simp only [List.length_append] at h1
  unfold T104_9 T104_10
  refine ⟨fun _=>⟨by omega,_,get_at hi,fun h2=>?_,fun h2=>?_⟩,fun h=>absurd (show (i:Int)<l.length by omega) h⟩
  ·rw [if_pos (by omega)] at h1 ihP
   refine ⟨_,_,c126 H.toHasB (s:=[44,32]) ?_,_,_,hx _ (List.getElem_mem hi) _ ?_,fun h=>absurd rfl h,fun _=>?_⟩
   ·rw [maxBytes_eq];simp only [List.length_append,List.length_cons,List.length_nil];omega
   ·simp only [List.length_append,List.length_cons,List.length_nil] at h1 ⊢;omega
   ·rw [wr_succ (by omega)]
    simpa using ihP
  ·rw [if_neg (by omega)] at h1 ihP
   refine ⟨_,_,hx _ (List.getElem_mem hi) _ ?_,fun h=>absurd rfl h,fun _=>?_⟩
   ·simp only [List.length_append,List.length_cons,List.length_nil] at h1 ⊢;omega
   ·rw [wr_succ (by omega)]
    simpa using ihP
set_option maxHeartbeats 1000000 in
theorem c104 :∀(d:Nat) {v:Val},okv d v=true→Wf v→∀b:Bytes,b.length+(txt v).length≤100000000→PuX prog 104 (Bl b) [v.av] (fun r=>r=.i .i64 0) (Bl (b++txt v))
 | 0,v,h,_,_,_=>by cases h
 | d+1,v,h,hw,b,hlen=>by
  have h1:=okv_head h
  have h2:=okv_sub h
  have ih :∀x∈v.list,∀b:Bytes,b.length+(txt x).length≤100000000→PuX prog 104 (Bl b) [x.av] (fun r=>r=.i .i64 0) (Bl (b++txt x)):=fun x hx b hb=>c104 d (h2 _ hx) (hw.e _ hx) b hb
  refine (p104 H.f104 (v1:=v) (mP:=b) (K:=fun r b'=>r=0∧b'=b++txt v) ?_).to fun r b' hk=>?_
  ·have hB :∀{s:Bytes} {a:Int},(txt v)=s→∃r':Int,∃b'':Bytes,PuX prog 126 (Bl b) [.s s] (fun r=>r=.tup [.i .i64 r',.ni]) (Bl b'')∧T104_4 prog (fun r b'=>r=0∧b'=b++txt v) b'':=by
    intro s a hs
    refine ⟨_,_,c126 H.toHasB (s:=s) ?_ (hs ▸ txt_ne v),?_⟩
    ·rw [← hs,maxBytes_eq];omega
    ·unfold T104_4;rw [hs];exact ⟨rfl,rfl⟩
   have hk:1≤v.kind∧v.kind≤7:=by unfold Val.okh Okh at h1;omega
   have hn:=hw.n
   rw [txt_eq] at hlen
   have ht:=txt_eq v
   unfold T104_0 T104_1
   refine ⟨by omega,?_⟩
   have hkk:v.kind=1∨v.kind=2∨v.kind=3∨v.kind=4∨v.kind=5∨v.kind=6∨v.kind=7:=by omega
   rcases hkk with k | k | k | k | k | k | k
   all_goals rw [k]
   all_goals simp only [k,if_true,reduceCtorEq,if_false,Int.reduceEq] at ht hlen
   ·refine ⟨[],rfl,?_⟩
    unfold T104_2 T104_3 T104_5
    rw [k]
    refine ⟨fun _=>⟨fun h=>hB (a:=0) ?_,fun h=>⟨fun _=>hB (a:=0) ?_,fun h=>by simp at h⟩⟩,fun h=>absurd rfl h⟩
    ·rw [ht,if_pos (by simpa using h)];rfl
    ·rw [ht,if_neg (by simpa using h)];rfl
   ·refine ⟨[],rfl,?_⟩
    unfold T104_2 T104_3 T104_5 T104_6
    rw [k]
    refine ⟨fun h=>absurd h (by decide),fun _=>⟨fun h=>(by cases h),fun _=>⟨fun h=>(by simp at h),fun _=>⟨fun _=>⟨_,c15 H.toHas03 hn.1 hn.2,hB (a:=0) ht⟩,fun h=>by simp at h⟩⟩⟩⟩
   ·refine ⟨[],rfl,?_⟩
    unfold T104_2 T104_3 T104_5 T104_6 T104_7
    rw [k]
    refine ⟨fun h=>absurd h (by decide),fun _=>⟨fun h=>(by cases h),fun _=>⟨fun h=>(by simp at h),fun _=>⟨fun h=>(by simp at h),fun _=>⟨fun _=>⟨_,_,c11 H.toHas03 v.text,?_⟩,fun h=>by simp at h⟩⟩⟩⟩⟩
    rw [quoR_ok (by unfold Val.okh Okh at h1;omega)]
    refine ⟨_,_,c126 H.toHasB (s:=quo v.text) ?_,rfl,?_⟩
    ·rw [maxBytes_eq];omega
    ·rw [ht]
   ·refine ⟨[],rfl,?_⟩
    unfold T104_2 T104_3 T104_5 T104_6 T104_7 T104_8
    rw [k]
    refine ⟨fun h=>absurd h (by decide),fun _=>⟨fun h=>(by cases h),fun _=>⟨fun h=>(by simp at h),fun _=>⟨fun h=>(by simp at h),fun _=>⟨fun h=>(by simp at h),fun _=>⟨fun _=>⟨fun hc=>hB (a:=0) ?_,fun hc=>⟨fun _=>⟨fun hl=>hB (a:=0) ?_,fun hl=>⟨fun _=>?_,fun h=>absurd rfl h⟩⟩,fun h=>absurd rfl h⟩⟩,fun h=>absurd rfl h⟩⟩⟩⟩⟩⟩
    ·rw [ht,if_pos hc];rfl
    ·rw [ht,if_neg (by rw [hc];decide),if_pos (by omega)];rfl
    ·rw [if_neg (by rw [hc];decide),if_neg (by omega)] at ht hlen
     have hl1:v.list.length=1:=by unfold Val.okh Okh at h1;omega
     obtain ⟨w,hw1⟩:=List.length_eq_one_iff.1 hl1
     rw [hw1,txts_one] at hlen ht
     simp only [List.length_cons] at hlen
     refine ⟨_,_,c126 H.toHasB (s:=[38]) ?_,w,by rw [hw1];rfl,_,_,ih w (by rw [hw1];exact List.mem_cons_self) _ ?_,rfl,?_⟩
     ·rw [maxBytes_eq];simp only [List.length_cons,List.length_nil];omega
     ·simp only [List.length_append,List.length_cons,List.length_nil];omega
     ·rw [ht];simp
   ·have hc:v.cut=false:=by
     have:v.cut.toNat=0:=by unfold Val.okh Okh at h1;omega
     cases hc:v.cut
     ·rfl
     ·rw [hc] at this;cases this
    refine ⟨[123,125],rfl,?_⟩
    unfold T104_2 T104_3 T104_5 T104_6 T104_7 T104_8
    rw [k]
    refine ⟨fun h=>absurd h (by decide),fun _=>⟨fun h=>(by cases h),fun _=>⟨fun h=>(by simp at h),fun _=>⟨fun h=>(by simp at h),fun _=>⟨fun h=>(by simp at h),fun _=>⟨fun h=>absurd h (by decide),fun _=>⟨fun h=>(by cases h),fun _=>⟨fun h=>absurd h (by decide),fun _=>⟨fun h=>absurd h (by decide),fun _=>⟨fun h=>(by rw [hc] at h;cases h),fun _=>⟨by decide,_,_,c126 H.toHasB (s:=[123]) ?_,?_⟩⟩⟩⟩⟩⟩⟩⟩⟩⟩⟩
    ·rw [maxBytes_eq];simp only [List.length_cons,List.length_nil,List.length_append] at hlen ⊢;omega
    ·simp only [List.length_cons,List.length_nil,List.length_append] at hlen
     exact show_loop H (by unfold Val.okh Okh at h1;omega) ih (by omega) ⟨rfl,by rw [ht];simp⟩
   ·have hc:v.cut=false:=by
     have:v.cut.toNat=0:=by unfold Val.okh Okh at h1;omega
     cases hc:v.cut
     ·rfl
     ·rw [hc] at this;cases this
    refine ⟨[91,93],rfl,?_⟩
    unfold T104_2 T104_3 T104_5 T104_6 T104_7 T104_8
    rw [k]
    refine ⟨fun h=>absurd h (by decide),fun _=>⟨fun h=>(by cases h),fun _=>⟨fun h=>(by simp at h),fun _=>⟨fun h=>(by simp at h),fun _=>⟨fun h=>(by simp at h),fun _=>⟨fun h=>absurd h (by decide),fun _=>⟨fun h=>(by cases h),fun _=>⟨fun h=>absurd h (by decide),fun _=>⟨fun h=>absurd h (by decide),fun _=>⟨fun h=>(by rw [hc] at h;cases h),fun _=>⟨by decide,_,_,c126 H.toHasB (s:=[91]) ?_,?_⟩⟩⟩⟩⟩⟩⟩⟩⟩⟩⟩
    ·rw [maxBytes_eq];simp only [List.length_cons,List.length_nil,List.length_append] at hlen ⊢;omega
    ·simp only [List.length_cons,List.length_nil,List.length_append] at hlen
     exact show_loop H (by unfold Val.okh Okh at h1;omega) ih (by omega) ⟨rfl,by rw [ht];simp⟩
   ·refine ⟨[60,62],rfl,?_⟩
    unfold T104_2 T104_3 T104_5 T104_6 T104_7 T104_8
    rw [k]
    refine ⟨fun h=>absurd h (by decide),fun _=>⟨fun h=>(by cases h),fun _=>⟨fun h=>(by simp at h),fun _=>⟨fun h=>(by simp at h),fun _=>⟨fun h=>(by simp at h),fun _=>⟨fun h=>absurd h (by decide),fun _=>⟨fun h=>(by cases h),fun _=>⟨fun h=>absurd h (by decide),fun _=>⟨fun h=>absurd h (by decide),fun _=>⟨fun hc=>hB (a:=0) ?_,fun hc=>⟨by decide,_,_,c126 H.toHasB (s:=[60]) ?_,?_⟩⟩⟩⟩⟩⟩⟩⟩⟩⟩⟩
    ·rw [ht,if_pos hc];rfl
    ·rw [if_neg (by rw [hc];decide)] at hlen
     rw [maxBytes_eq];simp only [List.length_cons,List.length_nil,List.length_append] at hlen ⊢;omega
    ·rw [if_neg (by rw [hc];decide)] at hlen ht
     simp only [List.length_cons,List.length_nil,List.length_append] at hlen
     exact show_loop H (by unfold Val.okh Okh at h1;omega) ih (by omega) ⟨rfl,by rw [ht];simp⟩
  ·obtain ⟨x0,h1,rfl,rfl⟩:=hk
   exact ⟨h1,rfl⟩
theorem c72 {v:Val} (hw:Wf v):Pus prog 72 [v.av] (.tup [.s (if fine v=true then txt v else []),.i .i64 (chkR v)]):=by
 obtain ⟨x,y,⟨rfl,rfl⟩,h⟩:=p72 H.f72 (v0:=v) (K:=fun x y=>x=(if fine v=true then txt v else [])∧y=chkR v) (by
  unfold T72_0
  refine ⟨_,c76 H hw,fun h=>?_,fun h=>?_⟩
  ·unfold chkR at h ⊢
   by_cases hf:fine v=true
   ·rw [if_pos hf] at h;exact absurd rfl h
   ·rw [if_neg hf,if_neg hf];exact ⟨rfl,rfl⟩
  ·unfold chkR at h ⊢
   by_cases hf:fine v=true
   ·rw [if_pos hf,if_pos hf]
    have:=fine_len hf
    refine ⟨_,_,c104 H 130 (fine_ok hf).1 hw [] (by simp only [List.length_nil];omega),fun h=>absurd rfl h,fun _=>⟨_,c105 H.toHasB (by rw [List.nil_append,maxBytes_eq];omega),rfl,rfl⟩⟩
   ·rw [if_neg hf] at h;exact absurd (by decide) h)
 exact h
end
end Go.AM

namespace Go.AM
open Go
theorem digN_lt :∀{s:Bytes} {i:Nat},i<digN s→∃c,s[i]?=some c∧isD c=true
 | [],i,h=>absurd h (Nat.not_lt_zero _)
 | c::s,0,h=>by
  rw [digN] at h
  split at h
  ·rename_i hc;exact ⟨c,rfl,hc⟩
  ·exact absurd h (Nat.not_lt_zero _)
 | c::s,i+1,h=>by
  rw [digN] at h
  split at h
  ·exact digN_lt (s:=s) (i:=i) (by omega)
  ·exact absurd h (Nat.not_lt_zero _)
theorem digN_stop :∀{s:Bytes} {c:UInt8},s[digN s]?=some c→isD c=false
 | [],c,h=>by cases h
 | x::s,c,h=>by
  rw [digN] at h
  split at h
  ·rw [Nat.add_comm,List.getElem?_cons_succ] at h
   exact digN_stop h
  ·rename_i hx
   rw [List.getElem?_cons_zero] at h
   injection h with h
   subst h
   simpa using hx
theorem numN_lt {s:Bytes} {i:Nat} (h:i<numN s) :∃c,s[i]?=some c∧(isD c=true∨(i=0∧c=45)):=by
 unfold numN at h
 split at h
 ·rename_i h1
  cases s with
  | nil=>cases h1
  | cons x s=>
   injection h1 with h1
   subst h1
   cases i with
   | zero=>exact ⟨45,rfl,.inr ⟨rfl,rfl⟩⟩
   | succ i=>
    obtain ⟨c,h2,h3⟩:=digN_lt (s:=s) (i:=i) (by simp only [List.drop_succ_cons,List.drop_zero] at h;omega)
    exact ⟨c,h2,.inl h3⟩
 ·obtain ⟨c,h2,h3⟩:=digN_lt h
  exact ⟨c,h2,.inl h3⟩
theorem numN_stop {s:Bytes} {c:UInt8} (h:s[numN s]?=some c):isD c=false∧(numN s=0→c≠45):=by
 unfold numN at *
 split at h
 ·rename_i h1
  rw [if_pos h1]
  cases s with
  | nil=>cases h1
  | cons x s=>
   simp only [List.drop_succ_cons,List.drop_zero] at h ⊢
   rw [Nat.add_comm,List.getElem?_cons_succ] at h
   exact ⟨digN_stop h,fun h=>absurd h (by omega)⟩
 ·rename_i h1
  rw [if_neg h1]
  refine ⟨digN_stop h,fun h2=>?_⟩
  rw [h2] at h
  rintro rfl
  exact h1 (by rw [List.head?_eq_getElem?];exact h)
theorem isD_iff {c:UInt8}:isD c=true↔48≤c.toNat∧c.toNat≤57:=by unfold isD;simp
theorem isD_not {c:UInt8}:isD c=false↔¬(48≤c.toNat∧c.toNat≤57):=by rw [← isD_iff];simp
theorem qs_nil:qs []=none:=rfl
theorem qs_esc0:qs [92]=none:=rfl
theorem qs_esc (x:UInt8) (r:Bytes):qs (92::x::r)=(qs r).map (·+2):=rfl
theorem qs_end (r:Bytes):qs (34::r)=some 1:=by rw [qs.eq_def];rfl
theorem qs_go {c:UInt8} (h1:¬c=92) (h2:¬c=34) (r:Bytes):qs (c::r)=(qs r).map (·+1):=by
 rw [qs.eq_def]
 simp only [if_neg h1,if_neg h2]
theorem u8_45 {c:UInt8}:c=45↔c.toNat=45:=⟨fun h=>by rw [h];rfl,fun h=>u8_eq h⟩
section
variable {prog:Prog} (H:Has38 prog)
include H
theorem c128 (p s:Bytes):PuX prog 128 (Bx [.s s]) [.s p] (fun r=>r=.b (cutp p s).2) (Bx [.s (cutp p s).1]):=by
 refine (p128 H.f128 (what1:=p) (mP:=⟨s⟩) (K:=fun r b=>r=(cutp p s).2∧b=⟨(cutp p s).1⟩) ?_).to (b:=⟨(cutp p s).1⟩) fun r b' hk=>?_
 ·unfold T128_0
  exact ⟨_,_,c36 H.toHas03 s p,rfl,rfl⟩
 ·obtain ⟨x0,h1,rfl,rfl⟩:=hk
  exact ⟨h1,rfl⟩
theorem c131 {s:Bytes} (hs:s.length≤1000000000):PuX prog 131 (Bx [.s s]) [] (fun r=>r=.tup [.i .i64 (scNum s).1,.b (scNum s).2.1]) (Bx [.s (scNum s).2.2]):=by
 refine (p131 H.f131 (mP:=⟨s⟩) (K:=fun x y b=>x=(scNum s).1∧y=(scNum s).2.1∧b=⟨(scNum s).2.2⟩) ?_).to (b:=⟨(scNum s).2.2⟩) fun r b' hk=>?_
 ·unfold T131_0 T131_1
  intro P hP
  have hle:=numN_le s
  refine loop_up0 (P:=fun i=>P i ⟨s⟩) (numN s) ?_ fun i hi ih=>?_
  ·apply hP
   unfold T131_2
   have fin:0≤((numN s:Nat):Int)∧((numN s:Nat):Int).toNat≤s.length∧∃r:Int,∃r':Int,Pus prog 21 [.s (s.take ((numN s:Nat):Int).toNat)] (.tup [.i .i64 r,.i .i64 r'])∧0≤((numN s:Nat):Int)∧((numN s:Nat):Int).toNat≤s.length∧r=(scNum s).1∧(decide (r'=0))=(scNum s).2.1∧Sc.mk (s.drop ((numN s:Nat):Int).toNat)=⟨(scNum s).2.2⟩:=by
    rw [toNat_cast]
    exact ⟨by omega,hle,_,_,c21 H.toHas03 _,by omega,hle,rfl,rfl,rfl⟩
   refine ⟨fun h=>?_,fun _=>fin⟩
   have hlt:numN s<s.length:=by simp only at h;omega
   obtain ⟨h1,h2⟩:=numN_stop (List.getElem?_eq_getElem hlt)
   have h1:=isD_not.1 h1
   have h2:numN s=0→¬(s[numN s].toNat=45):=fun h=>fun h'=>h2 h (u8_45.2 h')
   refine ⟨by omega,s[numN s],get_at hlt,fun h3=>⟨by omega,s[numN s],get_at hlt,fun h4=>absurd ⟨by omega,by omega⟩ h1,fun h4=>⟨fun h5=>⟨by omega,s[numN s],get_at hlt,fun h6=>absurd (show s[numN s].toNat=45 by omega) (h2 (by omega)),fun _=>fin⟩,fun _=>fin⟩⟩,
    fun h3=>⟨fun h5=>⟨by omega,s[numN s],get_at hlt,fun h6=>absurd (show s[numN s].toNat=45 by omega) (h2 (by omega)),fun _=>fin⟩,fun _=>fin⟩⟩
  ·apply hP
   obtain ⟨c,hc,hd⟩:=numN_lt hi
   have hc':s[((i:Nat):Int).toNat]?=some c:=hc
   rw [isD_iff,u8_45] at hd
   have ih':P (IntKind.i64.wrap ((i:Int)+1)) ⟨s⟩:=by rw [wr_succ (by omega)];exact ih
   unfold T131_2
   refine ⟨fun _=>⟨by omega,c,hc',fun h3=>⟨by omega,c,hc',fun _=>ih',fun h4=>⟨fun h5=>⟨by omega,c,hc',fun _=>ih',fun h6=>absurd h6 (by omega)⟩,fun h5=>absurd h5 (by omega)⟩⟩,
    fun h3=>⟨fun h5=>⟨by omega,c,hc',fun _=>ih',fun h6=>absurd h6 (by omega)⟩,fun h5=>absurd h5 (by omega)⟩⟩,fun h=>absurd (show (i:Int)<s.length by omega) h⟩
 ·obtain ⟨x0,x1,h1,rfl,rfl,rfl⟩:=hk
  exact ⟨h1,rfl⟩
theorem c130 {s:Bytes} (hs:s.length≤1000000000):PuX prog 130 (Bx [.s s]) [] (fun r=>r=.tup [.s (scQ s).1,.b (scQ s).2.1]) (Bx [.s (scQ s).2.2]):=by
 refine (p130 H.f130 (mP:=⟨s⟩) (K:=fun x y b=>x=(scQ s).1∧y=(scQ s).2.1∧b=⟨(scQ s).2.2⟩) ?_).to (b:=⟨(scQ s).2.2⟩) fun r b' hk=>?_
 ·unfold T130_0 T130_1
  intro P hP
  have go :∀m i:Nat,s.length≤i+m→i≤s.length+1→1≤i→qs (s.drop 1)=(qs (s.drop i)).map (·+(i-1))→P (i:Int) ⟨s⟩:=by
   intro m
   induction m using Nat.strongRecOn with
   | _ m ih=>
   intro i hm hi h1 hq
   apply hP
   unfold T130_2
   refine ⟨fun h=>?_,fun h=>?_⟩
   ·have:s.drop i=[]:=List.drop_eq_nil_of_le (by simp only at h;omega)
    rw [this,qs_nil,Option.map_none] at hq
    unfold scQ
    rw [hq]
    exact ⟨rfl,rfl,rfl⟩
   ·have hlt:i<s.length:=by simp only at h;omega
    have hd:s.drop i=s[i]::s.drop (i+1):=List.drop_eq_getElem_cons hlt
    refine ⟨by omega,s[i],get_at hlt,fun h2=>?_,fun h2=>⟨by omega,s[i],get_at hlt,fun h3=>?_,fun h3=>?_⟩⟩
    ·rw [wr_i64 (by omega) (by omega),show (i:Int)+2=((i+2:Nat):Int) by omega]
     have hc:s[i]=92:=u8_eq (by show s[i].toNat=92;omega)
     rw [hd,hc] at hq
     by_cases hl:i+1<s.length
     ·have hd2:s.drop (i+1)=s[i+1]::s.drop (i+2):=List.drop_eq_getElem_cons hl
      refine ih (m-2) (by omega) (i+2) (by omega) (by omega) (by omega) ?_
      rw [hd2,qs_esc,Option.map_map] at hq
      rw [hq]
      congr 1
      funext x
      simp only [Function.comp]
      omega
     ·have hd2:s.drop (i+1)=[]:=List.drop_eq_nil_of_le (by omega)
      refine ih (m-1) (by omega) (i+2) (by omega) (by omega) (by omega) ?_
      rw [hd2,qs_esc0] at hq
      rw [hq,List.drop_eq_nil_of_le (show s.length≤i+2 by omega),qs_nil]
      rfl
    ·rw [wr_succ (by omega)]
     have hc:¬s[i]=92:=fun e=>h2 (by rw [e];rfl)
     have hc':¬s[i]=34:=fun e=>h3 (by rw [e];rfl)
     rw [hd,qs_go hc hc',Option.map_map] at hq
     refine ih (m-1) (by omega) (i+1) (by omega) (by omega) (by omega) ?_
     rw [hq]
     congr 1
     funext x
     simp only [Function.comp]
     omega
    ·rw [wr_succ (by omega),toNat_cast]
     have hc:s[i]=34:=u8_eq (by show s[i].toNat=34;simp only [ne_eq,Decidable.not_not] at h3;omega)
     rw [hd,hc,qs_end,Option.map_some] at hq
     have e:1+(i-1)+1=i+1:=by omega
     refine ⟨by omega,by show i+1≤s.length;omega,_,_,c25 H.toHas03 _,by omega,by show i+1≤s.length;omega,?_⟩
     unfold scQ
     rw [hq]
     simp [e]
  exact go s.length 1 (by omega) (by omega) (by omega) (by simp)
 ·obtain ⟨x0,x1,h1,rfl,rfl,rfl⟩:=hk
  exact ⟨h1,rfl⟩
end
end Go.AM

namespace Go.AM
open Go
theorem scNum_len (s:Bytes):(scNum s).2.2.length≤s.length:=by unfold scNum;simp
theorem scQ_len (s:Bytes):(scQ s).2.2.length≤s.length:=by
 unfold scQ
 split<;>simp
theorem cutp_len (p s:Bytes):(cutp p s).1.length≤s.length:=by
 unfold cutp
 split<;>simp
section
variable {f:Bytes→Val × Bool × Bytes}
theorem scG_len {kind:Int} {stop:Bytes} (hf :∀s,(f s).2.2.length≤s.length) :∀(n:Nat) (acc:List Val) (s:Bytes),(scG f kind stop n acc s).2.2.length≤s.length
 | 0,acc,s=>Nat.le_refl _
 | n+1,acc,s=>by
  have h1:=hf s
  have h2:=cutp_len stop (f s).2.2
  have h3:=cutp_len [44,32] (cutp stop (f s).2.2).1
  rw [scG]
  split
  ·exact h1
  ·split
   ·exact Nat.le_trans h2 h1
   ·split
    ·exact Nat.le_trans h3 (Nat.le_trans h2 h1)
    ·exact Nat.le_trans (scG_len hf n _ _) (Nat.le_trans h3 (Nat.le_trans h2 h1))
theorem scL_len {kind:Int} {stop s:Bytes} (hf :∀s,(f s).2.2.length≤s.length):(scL f kind stop s).2.2.length≤s.length:=by
 unfold scL
 split
 ·exact cutp_len _ _
 ·exact Nat.le_trans (scG_len hf 17 [] _) (cutp_len _ _)
theorem len_ite {c:Prop} [Decidable c] {a b:Val × Bool × Bytes} {n:Nat} (ha:a.2.2.length≤n) (hb:b.2.2.length≤n):(if c then a else b).2.2.length≤n:=by
 split
 ·exact ha
 ·exact hb
theorem scV_len :∀(d:Nat) (s:Bytes),(scV d s).2.2.length≤s.length
 | 0,s=>Nat.le_refl _
 | d+1,s=>by
  have ih:=scV_len d
  rw [scV]
  exact len_ite (Nat.le_refl _) (len_ite (cutp_len _ _) (len_ite (cutp_len _ _) (len_ite (cutp_len _ _) (len_ite (cutp_len _ _) (len_ite (cutp_len _ _) (len_ite (Nat.le_trans (ih _) (cutp_len _ _)) (len_ite (Nat.le_trans (scL_len ih) (cutp_len _ _))
   (len_ite (Nat.le_trans (scL_len ih) (cutp_len _ _)) (len_ite (Nat.le_trans (scL_len ih) (cutp_len _ _)) (len_ite (scQ_len _) (scNum_len _)))))))))))
end
section
variable {prog:Prog} (H:Has38 prog)
include H
abbrev ScR (r:Val × Bool × Bytes):AV→Prop:=fun x=>∃o:Own,x=.tup [.ag [.i .u8 r.1.kind,.i .i64 r.1.int,.s r.1.text,.sl o (List.map Val.row r.1.list),.b r.1.cut],.b r.2.1]
theorem c129 {f:Bytes→Val × Bool × Bytes} {d:Nat} (hf :∀s,(f s).2.2.length≤s.length) (hc :∀s:Bytes,s.length≤1000000000→PuX prog 107 (Bx [.s s]) [.i .i64 (d:Int)] (ScR (f s)) (Bx [.s (f s).2.2])) {kind:Int} {stop s:Bytes} (hs:s.length≤1000000000) :
  PuX prog 129 (Bx [.s s]) [.i .u8 kind,.s stop,.i .i64 (d:Int)] (ScR (scL f kind stop s)) (Bx [.s (scL f kind stop s).2.2]):=by
 refine (p129 H.f129 (kind1:=kind) (end2:=stop) (nest3:=(d:Int)) (mP:=⟨s⟩) (K:=fun x y b=>x=(scL f kind stop s).1∧y=(scL f kind stop s).2.1∧b=⟨(scL f kind stop s).2.2⟩) ?_).to (b:=⟨(scL f kind stop s).2.2⟩) fun r b' hk=>?_
 ·unfold T129_0
  refine ⟨_,⟨(cutp stop s).1⟩,c128 H stop s,fun h=>?_,fun h P hP=>?_⟩
  ·unfold scL
   rw [if_pos h]
   exact ⟨rfl,rfl,rfl⟩
  ·have e:scL f kind stop s=scG f kind stop 17 [] (cutp stop s).1:=by unfold scL;rw [if_neg (by rw [h];decide)]
   have hl:=cutp_len stop s
   generalize (cutp stop s).1=t at hl e ⊢
   have go :∀(n:Nat) (acc:List Val) (u:Bytes),acc.length+n=17→u.length≤t.length→scG f kind stop 17 [] t=scG f kind stop n acc u→P (Val.mk 0 0 [] [] false) (Val.mk kind 0 [] acc false) ⟨u⟩:=by
    intro n
    induction n with
    | zero=>
     intro acc u ha hu hq
     apply hP
     rw [e,hq]
     unfold T129_1 T129_2
     refine ⟨fun h=>absurd h (by simp only [Val.list_mk];omega),fun _=>⟨rfl,rfl,rfl⟩⟩
    | succ n ih=>
     intro acc u ha hu hq
     apply hP
     rw [e,hq,scG]
     have h1:=hf u
     have h2:=cutp_len stop (f u).2.2
     have h3:=cutp_len [44,32] (cutp stop (f u).2.2).1
     unfold T129_1
     refine ⟨fun _=>⟨(f u).1,(f u).2.1,⟨(f u).2.2⟩,hc u (by omega),fun g1=>?_,fun g1=>⟨⟨?_,?_⟩,_,⟨(cutp stop (f u).2.2).1⟩,c128 H stop (f u).2.2,fun g2=>?_,fun g2=>⟨_,⟨(cutp [44,32] (cutp stop (f u).2.2).1).1⟩,c128 H [44,32] (cutp stop (f u).2.2).1,fun g3=>?_,fun g3=>?_⟩⟩⟩,fun h=>absurd (show (acc.length:Int)≤16 by omega) h⟩
     ·rw [if_pos (by simpa using g1)]
      exact ⟨rfl,rfl,rfl⟩
     ·simp only [Val.list_mk,List.length_cons,List.length_nil,maxBytes_eq];omega
     ·simp only [Val.list_mk,List.length_cons,List.length_nil,maxBytes_eq];omega
     ·rw [if_neg (by simpa using g1),if_pos g2]
      exact ⟨rfl,rfl,rfl⟩
     ·rw [if_neg (by simpa using g1),if_neg (by rw [g2];decide),if_pos (by simpa using g3)]
      exact ⟨rfl,rfl,rfl⟩
     ·refine ih (acc++[(f u).1]) _ (by simp;omega) (by omega) ?_
      rw [hq,scG,if_neg (by simpa using g1),if_neg (by rw [g2];decide),if_neg (by simpa using g3)]
   exact go 17 [] t rfl (Nat.le_refl _) rfl
 ·obtain ⟨x0,x1,h1,rfl,rfl,rfl⟩:=hk
  exact ⟨h1,rfl⟩
theorem c107 :∀(d:Nat) {s:Bytes},s.length≤1000000000→d≤1000→PuX prog 107 (Bx [.s s]) [.i .i64 (d:Int)] (ScR (scV d s)) (Bx [.s (scV d s).2.2])
 | 0,s,hs,hd=>by
  refine (p107 H.f107 (nest1:=((0:Nat):Int)) (mP:=⟨s⟩) (K:=fun x y b=>x=(scV 0 s).1∧y=(scV 0 s).2.1∧b=⟨(scV 0 s).2.2⟩) ?_).to (b:=⟨(scV 0 s).2.2⟩) fun r b' hk=>?_
  ·unfold T107_0 T107_1
   exact ⟨fun _=>⟨rfl,rfl,rfl⟩,fun h=>absurd rfl h⟩
  ·obtain ⟨x0,x1,h1,rfl,rfl,rfl⟩:=hk
   exact ⟨h1,rfl⟩
 | d+1,s,hs,hd=>by
  have ih:=fun s hs=>@c107 d s hs (by omega)
  have hm:IntKind.i64.wrap (((d+1:Nat):Int)-1)=(d:Int):=by rw [wr_i64 (by omega) (by omega)];omega
  refine (p107 H.f107 (nest1:=((d+1:Nat):Int)) (mP:=⟨s⟩) (K:=fun x y b=>x=(scV (d+1) s).1∧y=(scV (d+1) s).2.1∧b=⟨(scV (d+1) s).2.2⟩) ?_).to (b:=⟨(scV (d+1) s).2.2⟩) fun r b' hk=>?_
  ·have e:=scV.eq_2 s d
   unfold T107_0 T107_1
   refine ⟨fun h=>absurd h (by omega),fun _=>⟨fun h=>?_,fun h0=>?_⟩⟩
   ·rw [e,if_pos h];exact ⟨rfl,rfl,rfl⟩
   rw [if_neg h0] at e
   unfold T107_2
   refine ⟨_,⟨(cutp tTrue s).1⟩,c128 H tTrue s,?_⟩
   unfold T107_3
   refine ⟨fun h=>?_,fun h=>?_⟩
   ·rw [e,if_pos h];exact ⟨rfl,rfl,rfl⟩
   rw [if_neg (by rw [h];decide)] at e
   rw [cutp_no h]
   refine ⟨_,⟨(cutp tFalse s).1⟩,c128 H tFalse s,?_⟩
   clear h
   unfold T107_4
   refine ⟨fun h=>?_,fun h=>?_⟩
   ·rw [e,if_pos h];exact ⟨rfl,rfl,rfl⟩
   rw [if_neg (by rw [h];decide)] at e
   rw [cutp_no h]
   refine ⟨_,⟨(cutp tNil s).1⟩,c128 H tNil s,?_⟩
   clear h
   unfold T107_5
   refine ⟨fun h=>?_,fun h=>?_⟩
   ·rw [e,if_pos h];exact ⟨rfl,rfl,rfl⟩
   rw [if_neg (by rw [h];decide)] at e
   rw [cutp_no h]
   refine ⟨_,⟨(cutp tCutP s).1⟩,c128 H tCutP s,?_⟩
   clear h
   unfold T107_6
   refine ⟨fun h=>?_,fun h=>?_⟩
   ·rw [e,if_pos h];exact ⟨rfl,rfl,rfl⟩
   rw [if_neg (by rw [h];decide)] at e
   rw [cutp_no h]
   refine ⟨_,⟨(cutp tCutS s).1⟩,c128 H tCutS s,?_⟩
   clear h
   unfold T107_7
   refine ⟨fun h=>?_,fun h=>?_⟩
   ·rw [e,if_pos h];exact ⟨rfl,rfl,rfl⟩
   rw [if_neg (by rw [h];decide)] at e
   rw [cutp_no h]
   refine ⟨_,⟨(cutp [38] s).1⟩,c128 H [38] s,?_⟩
   clear h
   unfold T107_8
   rw [hm]
   have l1:=cutp_len [38] s
   refine ⟨fun h=>⟨_,_,⟨_⟩,ih _ (Nat.le_trans l1 hs),?_⟩,fun h=>?_⟩
   ·rw [e,if_pos h];exact ⟨rfl,rfl,rfl⟩
   rw [if_neg (by rw [h];decide)] at e
   rw [cutp_no h]
   have l1:=cutp_len [123] s
   refine ⟨_,⟨(cutp [123] s).1⟩,c128 H [123] s,fun h=>⟨_,_,⟨_⟩,c129 H (scV_len d) ih (Nat.le_trans l1 hs),?_⟩,fun h=>?_⟩
   ·rw [e,if_pos h];exact ⟨rfl,rfl,rfl⟩
   rw [if_neg (by rw [h];decide)] at e
   rw [cutp_no h]
   have l1:=cutp_len [91] s
   refine ⟨_,⟨(cutp [91] s).1⟩,c128 H [91] s,fun h=>⟨_,_,⟨_⟩,c129 H (scV_len d) ih (Nat.le_trans l1 hs),?_⟩,fun h=>?_⟩
   ·rw [e,if_pos h];exact ⟨rfl,rfl,rfl⟩
   rw [if_neg (by rw [h];decide)] at e
   rw [cutp_no h]
   have l1:=cutp_len [60] s
   refine ⟨_,⟨(cutp [60] s).1⟩,c128 H [60] s,fun h=>⟨_,_,⟨_⟩,c129 H (scV_len d) ih (Nat.le_trans l1 hs),?_⟩,fun h=>?_⟩
   ·rw [e,if_pos h];exact ⟨rfl,rfl,rfl⟩
   rw [if_neg (by rw [h];decide)] at e
   rw [cutp_no h]
   cases s with
   | nil=>exact absurd rfl h0
   | cons c s=>
    refine ⟨c,rfl,fun h=>⟨_,_,⟨_⟩,c130 H hs,?_⟩,fun h=>⟨_,_,⟨_⟩,c131 H hs,?_⟩⟩
    ·have hc:c=34:=u8_eq (by show c.toNat=34;omega)
     subst hc
     rw [e,List.head?_cons,if_pos rfl];exact ⟨rfl,rfl,rfl⟩
    ·rw [e,if_neg (by rw [List.head?_cons];intro he;injection he with he;exact h (by rw [he];rfl))];exact ⟨rfl,rfl,rfl⟩
  ·obtain ⟨x0,x1,h1,rfl,rfl,rfl⟩:=hk
   exact ⟨h1,rfl⟩
omit H in
theorem chk_fine {v:Val}:chkR v=0↔fine v=true:=by
 unfold chkR
 by_cases h:fine v=true
 ·rw [if_pos h];simp [h]
 ·rw [if_neg h];simp [h]
theorem c74 {s:Bytes} (hs:s.length≤1000000000):Pus prog 74 [.s s] (.tup [(rvs s).1.av,.i .i64 (rvs s).2]):=by
 obtain ⟨x,y,⟨rfl,rfl⟩,h⟩:=p74 H.f74 (s0:=s) (K:=fun x y=>x=(rvs s).1∧y=(rvs s).2) (by
  unfold T74_0 rvs
  refine ⟨fun h=>?_,fun h=>⟨_,_,⟨_⟩,c107 H 130 hs (by decide),fun h1=>?_,fun h1=>⟨fun h2=>?_,fun h2=>⟨_,_,c72 H (scV_wf _ _),fun h3=>?_,fun h3=>⟨fun h4=>?_,fun h4=>?_⟩⟩⟩⟩⟩
  ·rw [if_pos (by omega)];exact ⟨rfl,rfl⟩
  ·rw [if_neg (by omega),if_neg (by rintro ⟨h,_⟩;rw [h] at h1;cases h1)];exact ⟨rfl,rfl⟩
  ·rw [if_neg (by omega),if_neg (by rintro ⟨_,h,_⟩;exact h2 h)];exact ⟨rfl,rfl⟩
  ·rw [if_neg (by omega),if_neg (by rintro ⟨_,_,h,_⟩;exact h3 (chk_fine.2 h))];exact ⟨rfl,rfl⟩
  ·rw [if_neg (by omega),if_neg];· exact ⟨rfl,rfl⟩
   rintro ⟨_,_,h5,h6⟩
   rw [if_pos h5] at h4
   exact h4 h6
  ·have h5:=chk_fine.1 (Decidable.not_not.1 h3)
   rw [if_pos h5] at h4
   rw [if_neg (by omega),if_pos ⟨by simpa using h1,Decidable.not_not.1 h2,h5,Decidable.not_not.1 h4⟩]
   exact ⟨rfl,rfl⟩)
 exact h
end
end Go.AM

namespace Go.AM
open Go
section
variable {prog:Prog} (H:Has38 prog)
include H
theorem c78 {a:Val} (hw:Wf a) :∀b:Val,Pus prog 78 [a.av,b.av] (.b (sameV a b)):=by
 induction hw with
 | @mk k n s l c hk hn hl _ ih=>
  intro b
  obtain ⟨x,rfl,h⟩:=p78 H.f78 (a0:=Val.mk k n s l c) (b1:=b) (K:=fun x=>x=sameV (Val.mk k n s l c) b) (by
   have no :∀{p:Prop},(Val.mk k n s l c=b→p)→¬p→false=sameV (Val.mk k n s l c) b:=fun h1 h2=>(sameV_false.2 fun h=>h2 (h1 h)).symm
   unfold T78_0
   refine ⟨fun h=>no (fun e=>by rw [← e]) h,fun h1=>⟨fun h=>no (fun e=>by rw [← e]) h,fun h2=>⟨fun h=>no (fun e=>by rw [← e]) h,fun h3=>⟨fun h=>no (fun e=>by rw [← e]) h,fun h4=>⟨fun h=>no (fun e=>by rw [← e]) h,fun h5 P hP=>?_⟩⟩⟩⟩⟩
   have h1:=Decidable.not_not.1 h1
   have h2:=Decidable.not_not.1 h2
   have h3:=Decidable.not_not.1 h3
   have h4:=Decidable.not_not.1 h4
   have h5:l.length=b.list.length:=by have:=Decidable.not_not.1 h5;simp only [Val.list_mk] at this;omega
   refine loop_inv (P:=fun _ i=>P i (Val.mk k n s l c) b) (fun _=>()) l.length (fun i=>l.take i=b.list.take i) (by simp) (fun hI=>?_) (fun i hi hI ihP=>?_)
   ·apply hP
    unfold T78_1 T78_2
    refine ⟨fun h=>absurd h (by simp only [Val.list_mk];omega),fun _=>(sameV_true.2 ?_).symm⟩
    rw [List.take_length,h5,List.take_length] at hI
    rw [b.eta,← h1,← h2,← h3,← h4,hI]
    rfl
   ·apply hP
    have hi2:i<b.list.length:=by omega
    unfold T78_1
    refine ⟨fun _=>⟨by omega,l[i],get_at (l:=l) hi,by omega,b.list[i],get_at hi2,_,ih _ (List.getElem_mem hi) _,fun h6=>?_,fun h6=>?_⟩,fun h=>absurd (show (i:Int)<l.length by omega) h⟩
    ·refine no (p:=l[i]=b.list[i]) (fun e=>?_) (sameV_false.1 (by simpa using h6))
     subst e
     rfl
    ·rw [wr_i64 (by omega) (by omega)]
     refine ihP ?_
     have h7:l[i]=b.list[i]:=sameV_true.1 (by simpa using h6)
     rw [List.take_succ_eq_append_getElem hi,List.take_succ_eq_append_getElem hi2,hI,h7])
  exact h
end
end Go.AM

namespace Go.AM
open Go
structure HasO (prog:Prog):Prop extends Has38 prog where
 f154:prog.fn 154=some pf154
 f158:prog.fn 158=some pf158
 f178:prog.fn 178=some pf178
 f180:prog.fn 180=some pf180
 f183:prog.fn 183=some pf183
 f190:prog.fn 190=some pf190
 f191:prog.fn 191=some pf191
def faults4:List Bytes:=[[],tF1,tF2,tF3]
def kinds5:List UInt8:=[0,2,1,3,2]
theorem kinds5_at {t:Int} (h:0≤t) (h4:¬t>4) :∃c:UInt8,kinds5[t.toNat]?=some c∧((c.toNat:Nat):Int)=kindT t:=by
 rcases (show t=0∨t=1∨t=2∨t=3∨t=4 by omega) with rfl | rfl | rfl | rfl | rfl
 ·exact ⟨0,rfl,rfl⟩
 ·exact ⟨2,rfl,rfl⟩
 ·exact ⟨1,rfl,rfl⟩
 ·exact ⟨3,rfl,rfl⟩
 ·exact ⟨2,rfl,rfl⟩
theorem faults4_at {n:Int} (h:1≤n) (h3:n≤3):faults4[n.toNat]?=some (faultT n):=by
 rcases (show n=1∨n=2∨n=3 by omega) with rfl | rfl | rfl<;>rfl
theorem okP_no4 {p:Pan} (h:p.tag>4):okP p=false:=by unfold okP;rw [decide_eq_false (by omega)];rfl
theorem okP_nok {p:Pan} (h:p.value.kind≠kindT p.tag):okP p=false:=by unfold okP;rw [decide_eq_false h];simp
theorem okP_0 {p:Pan} (h:p.tag=0) (hk:p.value.kind=kindT p.tag):okP p=(isZ p.value&&decide (p.flags=2∨p.flags=6)):=by
 unfold okP;rw [decide_eq_true hk,decide_eq_true (by omega),if_pos h];rfl
theorem okP_n0 {p:Pan} (h4:¬p.tag>4) (h:p.tag≠0) (hk:p.value.kind=kindT p.tag):okP p=(decide (p.flags=0∨p.flags=1∨p.flags=4∨p.flags=5)&&decide (p.tag=4→1≤p.value.int∧p.value.int≤3)&&fine p.value):=by
 unfold okP;rw [decide_eq_true hk,decide_eq_true (by omega),if_neg h];rfl
theorem chkP_no {p:Pan} (h:okP p=false):chkP p=8:=by unfold chkP;rw [h];rfl
theorem chkP_yes {p:Pan} (h:okP p=true):chkP p=0:=by unfold chkP;rw [h];rfl
theorem chkP_iff {p:Pan}:chkP p=0↔okP p=true:=by unfold chkP;split<;>simp_all
section
variable {prog:Prog} (H:HasO prog)
include H
theorem c178:Pus prog 178 [] (.ag (faults4.map AV.s)):=by
 obtain ⟨x,rfl,h⟩:=p178 H.f178 (K:=fun x=>x=faults4) rfl
 exact h
theorem c183:Pus prog 183 [] (.ag (kinds5.map c8)):=by
 obtain ⟨x,rfl,h⟩:=p183 H.f183 (K:=fun x=>x=kinds5) rfl
 exact h
theorem c191 {s p:Bytes} (hs:s.length≤1000000000):Pus prog 191 [.s s,.s p] (.b (cuts p s).2):=by
 obtain ⟨x,rfl,h⟩:=p191 H.f191 (s0:=s) (suffix1:=p) (K:=fun x=>x=(cuts p s).2) (by
  unfold T191_0 cuts
  refine ⟨fun h=>?_,fun h=>?_⟩
  ·rw [wr_i64 (by omega) (by omega),show ((s.length:Int)-(p.length:Int)).toNat=s.length-p.length by omega]
   refine ⟨by omega,by omega,?_⟩
   by_cases h1:s.drop (s.length-p.length)=p
   ·rw [decide_eq_true h1,if_pos ⟨by omega,h1⟩]
   ·rw [decide_eq_false h1,if_neg fun h2=>h1 h2.2]
  ·rw [if_neg fun h2=>h (by omega)])
 exact h
theorem c190 {s p:Bytes} (hs:s.length≤1000000000):Pus prog 190 [.s s,.s p] (.tup [.s (cuts p s).1,.b (cuts p s).2]):=by
 obtain ⟨x,y,⟨rfl,rfl⟩,h⟩:=p190 H.f190 (s0:=s) (suffix1:=p) (K:=fun x y=>x=(cuts p s).1∧y=(cuts p s).2) (by
  unfold T190_0
  refine ⟨_,c191 H hs,fun h=>?_,fun h=>?_⟩
  ·have h:(cuts p s).2=false:=by simpa using h
   exact ⟨(cuts_no h).symm,h.symm⟩
  ·have h:(cuts p s).2=true:=by simpa using h
   have hl:p.length≤s.length:=by have:=congrArg List.length (cuts_yes h);rw [List.length_append] at this;omega
   rw [wr_i64 (by omega) (by omega),show ((s.length:Int)-(p.length:Int)).toNat=s.length-p.length by omega]
   refine ⟨by omega,by omega,?_,h.symm⟩
   unfold cuts at h ⊢
   split
   ·rfl
   ·rename_i h1;rw [if_neg h1] at h;cases h)
 exact h
theorem c180 {s p:Bytes} (hs:s.length≤1000000000):Pus prog 180 [.s s,.s p] (.tup [.s (cuts p s).1,.b (cuts p s).2]):=by
 obtain ⟨x,y,⟨rfl,rfl⟩,h⟩:=p180 H.f180 (s0:=s) (suffix1:=p) (K:=fun x y=>x=(cuts p s).1∧y=(cuts p s).2) (by
  unfold T180_0
  exact ⟨_,_,c190 H hs,rfl,rfl⟩)
 exact h
theorem c158 {p:Pan} (hp:WfP p):Pus prog 158 [p.av] (.i .i64 (chkP p)):=by
 obtain ⟨x,rfl,h⟩:=p158 H.f158 (p0:=p) (K:=fun x=>x=chkP p) (by
  unfold T158_0 T158_1
  refine ⟨fun h=>(chkP_no (okP_no4 h)).symm,fun h4=>?_⟩
  obtain ⟨c,g1,g2⟩:=kinds5_at hp.t.1 h4
  refine ⟨_,c183 H,rfl,hp.t.1,c,g1,fun h=>(chkP_no (okP_nok (by rw [← g2];exact h))).symm,fun h=>?_⟩
  have hk:p.value.kind=kindT p.tag:=by rw [← g2];exact Decidable.not_not.1 h
  unfold T158_2
  refine ⟨fun h0=>?_,fun h0=>?_⟩
  ·have e:=okP_0 h0 hk
   have hk0:p.value.kind=0:=by rw [hk,h0];rfl
   have no:isZ p.value=false→8=chkP p:=fun h=>(chkP_no (by rw [e,h];rfl)).symm
   have nz :∀{q:Prop},(p.value=vz→q)→¬q→isZ p.value=false:=fun a b=>by rw [← Bool.not_eq_true,isZ_true];exact fun h=>b (a h)
   refine ⟨fun h=>no (nz (fun e=>by rw [e];rfl) h),fun h1=>⟨fun h=>no (nz (fun e=>by rw [e];rfl) h),fun h2=>⟨fun h=>no (nz (q:=¬((p.value.list.length:Int)>0)) (fun e=>by rw [e];decide) (fun h'=>h' h)),fun h3=>⟨fun h=>no (nz (q:=p.value.cut=false) (fun e=>by rw [e];rfl) (by rw [h];decide)),fun h4=>?_⟩⟩⟩⟩
   have hz:isZ p.value=true:=by
    unfold isZ
    rw [decide_eq_true hk0,decide_eq_true (Decidable.not_not.1 h1),decide_eq_true (Decidable.not_not.1 h2),decide_eq_true (by omega),h4];rfl
   have fl:=flag2 hp.f
   rw [hz,Bool.true_and] at e
   refine ⟨fun h=>(chkP_no (by rw [e];exact decide_eq_false fun h'=>h (fl.2 h'))).symm,fun h=>(chkP_yes (by rw [e];exact decide_eq_true (fl.1 (Decidable.not_not.1 h)))).symm⟩
  ·have e:=okP_n0 h4 h0 hk
   have fl:=flag0 hp.f
   unfold T158_3
   refine ⟨fun h=>(chkP_no (by rw [e,decide_eq_false (fun h'=>h (fl.2 h'))];rfl)).symm,fun h=>?_⟩
   rw [decide_eq_true (fl.1 (Decidable.not_not.1 h)),Bool.true_and] at e
   have last:(p.tag=4→1≤p.value.int∧p.value.int≤3)→T158_4 prog (fun x=>x=chkP p) p:=fun hh=>by
    unfold T158_4
    refine ⟨_,c76 H.toHas38 hp.v,?_⟩
    rw [decide_eq_true hh,Bool.true_and] at e
    unfold chkR chkP
    rw [e]
   refine ⟨fun h5=>⟨fun h=>(chkP_no (by rw [e,decide_eq_false (fun h'=>by have:=h' h5;omega)];rfl)).symm,fun h6=>⟨fun h=>(chkP_no (by rw [e,decide_eq_false (fun h'=>by have:=h' h5;omega)];rfl)).symm,fun h7=>last fun _=>by omega⟩⟩,fun h5=>last fun h'=>absurd h' h5⟩)
 exact h
omit H in
theorem and1 {f:Int} (h:f=0∨f=1∨f=2∨f=4∨f=5∨f=6):(bAnd .u64 f 1≠0↔f % 2=1)∧(bAnd .u64 f 4≠0↔4≤f)∧(f.tmod 2=1↔f % 2=1):=by
 rcases h with rfl | rfl | rfl | rfl | rfl | rfl<;>decide
omit H in
theorem okP_f6 {p:Pan} (h:okP p=true):p.flags=0∨p.flags=1∨p.flags=2∨p.flags=4∨p.flags=5∨p.flags=6:=by rcases okP_flags h with ⟨_,_,h⟩ | ⟨_,_,h⟩<;>omega
omit H in
theorem okP_4 {p:Pan} (h:okP p=true) (h4:p.tag=4):1≤p.value.int∧p.value.int≤3:=by
 unfold okP at h
 simp only [Bool.and_eq_true,decide_eq_true_eq] at h
 have h3:=h.2
 rw [if_neg (by omega)] at h3
 simp only [Bool.and_eq_true,decide_eq_true_eq] at h3
 exact h3.1.2 h4
omit H in
theorem shown_steps {p:Pan} {b:Bytes} (hb:b=baseP p):shown p=(b++(if p.flags % 2=1 then tRec else []))++(if 4≤p.flags then tAb else []):=by
 rw [hb,shown,sufP,List.append_assoc]
theorem c154 {p:Pan} (hp:WfP p):Pus prog 154 [p.av] (.tup [.s (lnP p).1,.i .i64 (lnP p).2]):=by
 obtain ⟨x,y,⟨rfl,rfl⟩,h⟩:=p154 H.f154 (p0:=p) (K:=fun x y=>x=(lnP p).1∧y=(lnP p).2) (by
  unfold T154_0
  refine ⟨_,c158 H hp,fun h=>?_,fun h=>?_⟩
  ·have h1:okP p≠true:=fun h'=>h (chkP_iff.2 h')
   unfold lnP chkP;rw [if_neg h1,if_neg h1];exact ⟨rfl,rfl⟩
  ·have ho:=chkP_iff.1 (Decidable.not_not.1 h)
   have hl:=shown_len ho
   obtain ⟨a1,a2,a3⟩:=and1 (okP_f6 ho)
   unfold lnP;rw [if_pos ho]
   have t1 :∀b,b=baseP p→T154_1 prog (fun x y=>x=(shown p,(0:Int)).1∧y=(shown p,(0:Int)).2) b p:=fun b hb=>by
    have e:=shown_steps hb
    have hl:b.length≤400:=by rw [e,List.length_append,List.length_append] at hl;omega
    unfold T154_1 T154_2 T154_3
    simp only [List.length_append,List.length_cons,List.length_nil,maxStr_eq]
    refine ⟨fun h1=>⟨by omega,fun h2=>⟨by omega,?_,trivial⟩,fun h2=>⟨?_,trivial⟩⟩,fun h1=>⟨fun h2=>⟨by omega,?_,trivial⟩,fun h2=>⟨?_,trivial⟩⟩⟩
    ·rw [e,if_pos (a1.1 h1),if_pos (a2.1 h2)];rfl
    ·rw [e,if_pos (a1.1 h1),if_neg fun h=>h2 (a2.2 h),List.append_nil];rfl
    ·rw [e,if_neg fun h=>h1 (a1.2 h),if_pos (a2.1 h2),List.append_nil];rfl
    ·rw [e,if_neg fun h=>h1 (a1.2 h),if_neg fun h=>h2 (a2.2 h),List.append_nil,List.append_nil]
   refine ⟨fun h0=>t1 _ (by unfold baseP;rw [if_pos h0];rfl),fun h0=>⟨fun h4=>?_,fun h4=>?_⟩⟩
   ·obtain ⟨g1,g2⟩:=okP_4 ho h4
    exact ⟨_,c178 H,rfl,by omega,_,faults4_at g1 g2,t1 _ (by unfold baseP;rw [if_neg h0,if_pos h4])⟩
   ·have hf:fine p.value=true:=by rcases okP_flags ho with h | h;exact absurd h.1 h0;exact h.2.1
    have:=fine_len hf
    refine ⟨_,_,c72 H.toHas38 hp.v,fun h=>absurd (chk_fine.2 hf) h,fun _=>?_⟩
    rw [if_pos hf]
    refine ⟨?_,t1 _ (by unfold baseP;rw [if_neg h0,if_neg h4];rfl)⟩
    simp only [List.length_cons,List.length_nil,maxStr_eq];omega)
 exact h
end
end Go.AM

namespace Go.AM
open Go
structure HasP (prog:Prog):Prop extends HasO prog where
 f156:prog.fn 156=some pf156
 f160:prog.fn 160=some pf160
 f181:prog.fn 181=some pf181
theorem cuts_len (p s:Bytes):(cuts p s).1.length≤s.length:=by
 unfold cuts
 split
 ·simp only [List.length_take];omega
 ·exact Nat.le_refl _
noncomputable def sameP (p q:Pan):Bool:=decide (p.tag=q.tag)&&decide (p.flags=q.flags)&&sameV p.value q.value
theorem sameP_true {p q:Pan}:sameP p q=true↔p=q:=by
 obtain ⟨a,b,c⟩:=p
 obtain ⟨d,e,f⟩:=q
 unfold sameP
 simp only [Bool.and_eq_true,decide_eq_true_eq,sameV_true,Pan.mk.injEq]
 constructor
 ·rintro ⟨⟨h1,h2⟩,h3⟩;exact ⟨h1,h3,h2⟩
 ·rintro ⟨h1,h2,h3⟩;exact ⟨⟨h1,h3⟩,h2⟩
def rdC (s:Bytes):Pan × Bool:=match coreP s with | some p=>(p,true) | none=>(pz,false)
def addF (p:Pan) (r a:Bool):Pan:=⟨p.tag,p.value,p.flags+(if r=true then 1 else 0)+(if a=true then 4 else 0)⟩
section
variable {prog:Prog} (H:HasP prog)
include H
theorem c160 {p q:Pan} (hp:Wf p.value):Pus prog 160 [p.av,q.av] (.b (sameP p q)):=by
 obtain ⟨x,rfl,h⟩:=p160 H.f160 (a0:=p) (b1:=q) (K:=fun x=>x=sameP p q) (by
  unfold T160_0
  refine ⟨fun h1=>⟨fun h2=>⟨_,c78 H.toHas38 hp _,?_⟩,fun h2=>?_⟩,fun h1=>?_⟩
  ·unfold sameP;rw [decide_eq_true h1,decide_eq_true h2];rfl
  ·unfold sameP;rw [decide_eq_false h2,Bool.and_false];rfl
  ·unfold sameP;rw [decide_eq_false h1];rfl)
 exact h
theorem c181 {s:Bytes} (hs:s.length≤1000000000):Pus prog 181 [.s s] (.tup [(rdC s).1.av,.b (rdC s).2]):=by
 obtain ⟨x,y,⟨rfl,rfl⟩,h⟩:=p181 H.f181 (s0:=s) (K:=fun x y=>x=(rdC s).1∧y=(rdC s).2) (by
  unfold T181_0 T181_1
  have yes :∀{p:Pan},coreP s=some p→p=(rdC s).1∧true=(rdC s).2:=fun h=>by unfold rdC;rw [h];exact ⟨rfl,rfl⟩
  have no:coreP s=none→pz=(rdC s).1∧false=(rdC s).2:=fun h=>by unfold rdC;rw [h];exact ⟨rfl,rfl⟩
  refine ⟨fun h=>yes (by unfold coreP;rw [if_pos (show s=tExit from h)]),fun h0=>?_⟩
  have h0:s≠tExit:=h0
  unfold T181_2
  refine ⟨_,c178 H.toHasO,fun P hP=>?_⟩
  have step :∀(i:Nat) (f:Bytes),faults4[i]?=some f→i<4→(0<i→f=s→(Pan.mk 4 (Val.mk 2 (i:Int) [] [] false) 0)=(rdC s).1∧true=(rdC s).2)→((0<i→f≠s)→P ((i+1:Nat):Int) pz)→P (i:Int) pz:=fun i f hf hi h1 h2=>by
   apply hP
   unfold T181_3
   refine ⟨fun _=>⟨rfl,by omega,f,by rw [toNat_cast];exact hf,fun h3=>?_,fun h3=>?_⟩,fun h=>absurd (show (i:Int)<4 by omega) h⟩
   ·unfold T181_4
    rw [wr_i64 (by omega) (by omega)]
    exact ⟨fun h4=>h1 (by omega) (of_decide_eq_true h4),fun h4=>h2 fun _=>of_decide_eq_false h4⟩
   ·unfold T181_4
    rw [wr_i64 (by omega) (by omega)]
    exact ⟨fun h4=>(by cases h4),fun _=>h2 fun h=>by omega⟩
  refine step 0 [] rfl (by decide) (fun h=>absurd h (by decide)) fun _=>step 1 tF1 rfl (by decide) (fun _ e=>yes (by unfold coreP;rw [if_neg h0,if_pos e.symm];rfl)) fun n1=>step 2 tF2 rfl (by decide) (fun _ e=>yes (by unfold coreP;rw [if_neg h0,if_neg fun e'=>n1 (by decide) e'.symm,if_pos e.symm];rfl)) fun n2=>step 3 tF3 rfl (by decide) (fun _ e=>yes (by unfold coreP;rw [if_neg h0,if_neg fun e'=>n1 (by decide) e'.symm,if_neg fun e'=>n2 (by decide) e'.symm,if_pos e.symm];rfl)) fun n3=>?_
  apply hP
  unfold T181_3 T181_5
  refine ⟨fun h=>absurd h (by decide),fun _=>⟨_,_,c36 H.toHas03 s tPan,fun h1=>?_,fun h1=>?_⟩⟩
  all_goals
   have e1:coreP s=if (cutp tPan s).2=false then none else
    if (rvs (cutp tPan s).1).2≠0 then none else
    let v:=(rvs (cutp tPan s).1).1
    if v.kind=2 then some ⟨1,v,0⟩ else if v.kind=1 then some ⟨2,v,0⟩ else if v.kind=3 then some ⟨3,v,0⟩ else none:=by
    conv=>lhs;unfold coreP
    rw [if_neg h0,if_neg fun e'=>n1 (by decide) e'.symm,if_neg fun e'=>n2 (by decide) e'.symm,if_neg fun e'=>n3 (by decide) e'.symm]
  ·exact no (by rw [e1,if_pos (by simpa using h1)])
  ·rw [if_neg (by simpa using h1)] at e1
   have hl:(cutp tPan s).1.length≤1000000000:=by unfold cutp;split<;>simp<;>omega
   refine ⟨_,_,c74 H.toHas38 hl,_,c183 H.toHasO,fun Q hQ=>?_⟩
   by_cases he:(rvs (cutp tPan s).1).2=0
   ·rw [if_neg (by rw [he];decide)] at e1
    obtain ⟨g1,_,_⟩:=rvs_inv he
    generalize (rvs (cutp tPan s).1).1=v at e1 g1 hQ ⊢
    have h7:=okv_head (fine_ok g1).1
    unfold Val.okh Okh at h7
    simp only at e1
    have st :∀(i:Nat) (c:UInt8),kinds5[i]?=some c→i<5→((c.toNat:Int)=v.kind→(Pan.mk (i:Int) v 0)=(rdC s).1∧true=(rdC s).2)→(¬(c.toNat:Int)=v.kind→Q ((i+1:Nat):Int) pz v)→Q (i:Int) pz v:=fun i c hc hi h1 h2=>by
     apply hQ
     unfold T181_6
     refine ⟨fun _=>⟨rfl,by omega,c,by rw [toNat_cast];exact hc,fun h3=>?_,fun h3=>absurd he h3⟩,fun h=>absurd (show (i:Int)<5 by omega) h⟩
     unfold T181_7
     rw [wr_i64 (by omega) (by omega),wr_u64 (by omega) (by omega)]
     exact ⟨fun h4=>h1 (of_decide_eq_true h4),fun h4=>h2 (of_decide_eq_false h4)⟩
    refine st 0 0 rfl (by decide) (fun h=>absurd h (show ¬((0:Int)=v.kind) by omega)) fun _=>st 1 2 rfl (by decide) (fun h=>yes (by rw [e1,if_pos (show v.kind=2 from h.symm)];rfl)) fun n2=>st 2 1 rfl (by decide) (fun h=>yes (by rw [e1,if_neg fun h'=>n2 h'.symm,if_pos (show v.kind=1 from h.symm)];rfl)) fun n1=>st 3 3 rfl (by decide) (fun h=>yes (by rw [e1,if_neg fun h'=>n2 h'.symm,if_neg fun h'=>n1 h'.symm,if_pos (show v.kind=3 from h.symm)];rfl)) fun n3=>st 4 2 rfl (by decide) (fun h=>absurd h n2) fun _=>?_
    apply hQ
    unfold T181_6 T181_8
    exact ⟨fun h=>absurd h (by decide),fun _=>no (by rw [e1,if_neg fun h'=>n2 h'.symm,if_neg fun h'=>n1 h'.symm,if_neg fun h'=>n3 h'.symm])⟩
   ·rw [if_pos he] at e1
    have st :∀(i:Nat) (c:UInt8),kinds5[i]?=some c→i<5→Q ((i+1:Nat):Int) pz (rvs (cutp tPan s).1).1→Q (i:Int) pz (rvs (cutp tPan s).1).1:=fun i c hc hi h2=>by
     apply hQ
     unfold T181_6
     refine ⟨fun _=>⟨rfl,by omega,c,by rw [toNat_cast];exact hc,fun h3=>absurd h3 he,fun h3=>?_⟩,fun h=>absurd (show (i:Int)<5 by omega) h⟩
     unfold T181_7
     rw [wr_i64 (by omega) (by omega)]
     exact ⟨fun h4=>(by cases h4),fun _=>h2⟩
    refine st 0 0 rfl (by decide) (st 1 2 rfl (by decide) (st 2 1 rfl (by decide) (st 3 3 rfl (by decide) (st 4 2 rfl (by decide) ?_))))
    apply hQ
    unfold T181_6 T181_8
    exact ⟨fun h=>absurd h (by decide),fun _=>no e1⟩)
 exact h
omit H in
theorem or_flags {f:Int} (h:f=0∨f=2):bOr .u64 f 1=f+1∧bOr .u64 f 4=f+4∧bOr .u64 (f+1) 4=f+1+4∧IntKind.u64.wrap (f+1)=f+1∧IntKind.u64.wrap (f+4)=f+4∧IntKind.u64.wrap (f+1+4)=f+1+4:=by
 rcases h with rfl | rfl<;>decide
theorem c156 {s:Bytes} (hs:s.length≤1000000000):Pus prog 156 [.s s] (.tup [(rlP s).1.av,.i .i64 (rlP s).2]):=by
 obtain ⟨x,y,⟨rfl,rfl⟩,h⟩:=p156 H.f156 (s0:=s) (K:=fun x y=>x=(rlP s).1∧y=(rlP s).2) (by
  unfold T156_0
  refine ⟨fun h=>?_,fun h=>?_⟩
  ·unfold rlP;rw [if_pos (by omega)];exact ⟨rfl,rfl⟩
  have hl:¬2000<s.length:=by omega
  have l1:(cuts tAb s).1.length≤1000000000:=Nat.le_trans (cuts_len _ _) hs
  have l2:(cuts tRec (cuts tAb s).1).1.length≤1000000000:=Nat.le_trans (cuts_len _ _) l1
  have e:rlP s=(match coreP (cuts tRec (cuts tAb s).1).1 with
   | none=>(pz,12)
   | some p=>if okP (addF p (cuts tRec (cuts tAb s).1).2 (cuts tAb s).2)=true then (addF p (cuts tRec (cuts tAb s).1).2 (cuts tAb s).2,0) else (pz,12)):=by
   conv=>lhs;unfold rlP
   rw [if_neg hl]
   rfl
  refine ⟨_,_,c180 H.toHasO (p:=tAb) hs,_,_,c180 H.toHasO (p:=tRec) l1,_,_,c181 H l2,?_⟩
  generalize cuts tAb s=a at e l1 l2 ⊢
  generalize cuts tRec a.1=r at e l2 ⊢
  cases hc:coreP r.1 with
  | none=>
   rw [hc] at e
   have e2:rdC r.1=(pz,false):=by unfold rdC;rw [hc]
   rw [e,e2]
   unfold T156_1 T156_2
   exact ⟨fun _=>⟨fun _=>⟨fun _=>⟨rfl,rfl⟩,fun h=>(by cases h)⟩,fun _=>⟨fun _=>⟨rfl,rfl⟩,fun h=>(by cases h)⟩⟩,fun _=>⟨fun _=>⟨fun _=>⟨rfl,rfl⟩,fun h=>(by cases h)⟩,fun _=>⟨fun _=>⟨rfl,rfl⟩,fun h=>(by cases h)⟩⟩⟩
  | some p=>
   rw [hc] at e
   have e2:rdC r.1=(p,true):=by unfold rdC;rw [hc]
   rw [e,e2]
   obtain ⟨w1,w2,w3,w4,_⟩:=core_wf hc
   obtain ⟨o1,o2,o3,_⟩:=or_flags w2
   have fin :∀q:Pan,q=addF p r.2 a.2→T156_2 prog (fun x y=>x=(if okP (addF p r.2 a.2)=true then (addF p r.2 a.2,(0:Int)) else (pz,12)).1∧y=(if okP (addF p r.2 a.2)=true then (addF p r.2 a.2,(0:Int)) else (pz,12)).2) true pz q:=fun q hq=>by
    subst hq
    have hw:WfP (addF p r.2 a.2):=⟨⟨w3,by simp only [addF];omega⟩,w1,by simp only [addF];constructor<;>(split<;>split<;>omega)⟩
    unfold T156_2
    refine ⟨fun h=>(by cases h),fun _=>⟨_,c158 H.toHasO hw,fun h1=>?_,fun h1=>?_⟩⟩
    ·rw [if_neg fun h'=>h1 (chkP_iff.2 h')];exact ⟨rfl,rfl⟩
    ·rw [if_pos (chkP_iff.1 (Decidable.not_not.1 h1))];exact ⟨rfl,rfl⟩
   unfold T156_1
   simp only
   refine ⟨fun h1=>⟨fun h2=>fin _ ?_,fun h2=>fin _ ?_⟩,fun h1=>⟨fun h2=>fin _ ?_,fun h2=>fin _ ?_⟩⟩<;>unfold addF<;>rw [h1,h2]
   ·rw [o1,o3];rfl
   ·rw [o1];simp
   ·rw [o2];simp
   ·simp)
 exact h
end
end Go.AM

namespace Go.AM
open Go
structure HasQ (prog:Prog):Prop extends HasP prog where
 f162:prog.fn 162=some pf162
 f169:prog.fn 169=some pf169
 f170:prog.fn 170=some pf170
def chainR (l:List Pan):Int:=if 410<l.length then 4 else if l.all okP=true then 0 else 8
def greatC (l:List Pan):Bool:=(decide (20<l.length)&&decide (l.length≤410))||decide (420<l.length)||l.any (fun p=>greatv p.value)
theorem chain_ok {l:List Pan} (h:chainR l=0):l.length≤410∧∀p∈l,okP p=true:=by
 unfold chainR at h
 split at h
 ·cases h
 ·split at h
  ·rename_i h1 h2;exact ⟨by omega,List.all_eq_true.1 h2⟩
  ·cases h
section
variable {prog:Prog} (H:HasQ prog)
include H
theorem c162 {l:List Pan} (hw :∀p∈l,WfP p):Pus prog 162 [.sl .ext (l.map Pan.row)] (.b (greatC l)):=by
 obtain ⟨x,rfl,h⟩:=p162 H.f162 (l0:=l) (K:=fun x=>x=greatC l) (by
  have t1:(decide (20<l.length)&&decide (l.length≤410))=false→¬420<l.length→T162_1 prog (fun x=>x=greatC l) l:=fun h1 h2=>by
   unfold T162_1
   intro P hP
   have e:greatC l=l.any (fun p=>greatv p.value):=by unfold greatC;rw [h1,decide_eq_false h2];rfl
   rw [e] at hP
   refine loop_inv0 l.length (fun i=>∀p∈l.take i,greatv p.value=false) (by simp) (fun hI=>hP _ ?_) fun i hi hI next=>hP _ ?_
   ·unfold T162_2 T162_3
    rw [List.take_length] at hI
    exact ⟨fun h=>absurd h (by omega),fun _=>(List.any_eq_false.2 fun p hp=>by simpa using hI p hp).symm⟩
   ·unfold T162_2
    refine ⟨fun _=>⟨by omega,_,get_at hi,_,c71 H.toHas38 (hw _ (List.getElem_mem hi)).v,fun h1=>(List.any_eq_true.2 ⟨_,List.getElem_mem hi,h1⟩).symm,fun h1=>?_⟩,fun h=>absurd (show (i:Int)<l.length by omega) h⟩
    rw [wr_i64 (by omega) (by omega)]
    refine next fun p hp=>?_
    rw [List.take_succ_eq_append_getElem hi] at hp
    rcases List.mem_append.1 hp with hp | hp
    ·exact hI p hp
    ·rw [List.mem_singleton.1 hp];exact h1
  unfold T162_0
  refine ⟨fun h1=>⟨fun h2=>?_,fun h2=>⟨fun h3=>?_,fun h3=>?_⟩⟩,fun h1=>⟨fun h3=>?_,fun h3=>?_⟩⟩
  ·unfold greatC;rw [decide_eq_true (by omega),decide_eq_true (by omega)];rfl
  ·unfold greatC;rw [decide_eq_true (p:=420<l.length) (by omega)];simp
  ·exact t1 (by rw [decide_eq_false (p:=l.length≤410) (by omega)];simp) (by omega)
  ·omega
  ·exact t1 (by rw [decide_eq_false (p:=20<l.length) (by omega)];rfl) (by omega))
 exact h
end
section
variable {prog:Prog} (H:HasQ prog)
include H
end
end Go.AM

namespace Go.AM
open Go
def gFld (s:Fld):Bool:=decide (40<s.name.length)
def gFun (f:Fun):Bool:=decide (40<f.name.length)||decide (30<f.slots.length)||decide (300<f.code.length)||f.slots.any gFld
def greatI (m:Img):Bool:=(m.funcs.take 41).any gFun||decide (40<m.funcs.length)
def greatX (x:Frm):Bool:=(x.locals.take 21).any (fun l=>greatv l.value)||decide (20<x.locals.length)
structure OkI (m:Img):Prop where
 n:m.funcs.length≤40
 f :∀f∈m.funcs,f.name.length≤40∧f.slots.length≤30∧f.code.length≤300∧∀s∈f.slots,s.name.length≤40
theorem OkI.of {m:Img} (h:greatI m=false):OkI m:=by
 simp only [greatI,Bool.or_eq_false_iff,decide_eq_false_iff_not] at h
 have hn:m.funcs.length≤40:=by omega
 refine ⟨hn,fun f hf=>?_⟩
 have h1:=h.1
 rw [List.take_of_length_le (by omega),List.any_eq_false] at h1
 have h2:=h1 f hf
 simp only [gFun,Bool.not_eq_true,Bool.or_eq_false_iff,decide_eq_false_iff_not,List.any_eq_false] at h2
 refine ⟨by omega,by omega,by omega,fun s hs=>?_⟩
 simpa [gFld] using h2.2 s hs
structure WfX (x:Frm):Prop where
 m:0≤x.mode
 n:x.locals.length≤9223372036854775807
 v :∀l∈x.locals,Wf l.value
def asc (n:Int):Int→List Loc→Bool
 | _,[]=>true
 | last,l::r=>decide (last<l.slot)&&decide (l.slot<n)&&fine l.value&&asc n l.slot r
def fitF (f:Fun) (x:Frm):Bool:=decide (f.slots.length≤16)&&decide (f.name.length≤16)&&decide (0≤x.pos)&&decide (x.pos<f.code.length)&&f.slots.all (fun s=>decide (s.name.length≤16))&&asc f.slots.length (-1) x.locals
def fitb (m:Img) (x:Frm):Bool:=decide (0≤x.func)&&decide (x.mode≤3)&&(match m.funcs[x.func.toNat]? with | none=>false | some f=>fitF f x)
def fitR (m:Img) (x:Frm):Int:=if fitb m x=true then 0 else 8
def modes4:List Bytes:=[[99,97,108,108],[100,101,102,101,114],[112,97,110,105,99],[101,120,105,116]]
def modeW (n:Int):Bytes:=(modes4[n.toNat]?).getD []
def headL (f:Fun) (k:Int) (x:Frm):Bytes:=[35]++num k++[32]++num x.func++[32]++quo f.name++[32,97,116,32]++num x.pos++[32]++modeW x.mode
def slotN (f:Fun) (n:Int):Bytes:=((f.slots[n.toNat]?).getD Fld.zero).name
def locL (f:Fun) (l:Loc):Bytes:=[32,32]++num l.slot++[32]++quo (slotN f l.slot)++[32,61,32]++txt l.value
def frmL (m:Img) (k:Int) (x:Frm):List Bytes:=match m.funcs[x.func.toNat]? with
 | none=>[]
 | some f=>headL f k x::x.locals.map (locL f)
def frR (m:Img) (k:Int) (x:Frm):List Bytes × Int:=if k<0∨170≤k then ([],2) else if fitb m x=true then (frmL m k x,0) else ([],8)
theorem fitb_iff {m:Img} {x:Frm}:fitb m x=true↔0≤x.func∧x.mode≤3∧∃f,m.funcs[x.func.toNat]?=some f∧fitF f x=true:=by
 unfold fitb
 cases h:m.funcs[x.func.toNat]? with
 | none=>simp
 | some f=>simp [and_assoc]
theorem fitF_iff {f:Fun} {x:Frm}:fitF f x=true↔f.slots.length≤16∧f.name.length≤16∧0≤x.pos∧x.pos<f.code.length∧(∀s∈f.slots,s.name.length≤16)∧asc f.slots.length (-1) x.locals=true:=by
 simp [fitF,and_assoc]
theorem asc_mem {n:Int} :∀{l:List Loc} {last:Int},asc n last l=true→∀x∈l,last<x.slot∧x.slot<n∧fine x.value=true
 | [],_,_,x,hx=>by cases hx
 | y::r,last,h,x,hx=>by
  simp only [asc,Bool.and_eq_true,decide_eq_true_eq] at h
  obtain ⟨⟨⟨h1,h2⟩,h3⟩,h4⟩:=h
  rcases List.mem_cons.1 hx with rfl | hx
  ·exact ⟨h1,h2,h3⟩
  ·have:=asc_mem h4 x hx
   exact ⟨by omega,this.2⟩
theorem asc_len {n:Int} :∀{l:List Loc} {last:Int},asc n last l=true→l=[]∨(l.length:Int)<n-last
 | [],_,_=>.inl rfl
 | y::r,last,h=>by
  simp only [asc,Bool.and_eq_true,decide_eq_true_eq] at h
  obtain ⟨⟨⟨h1,h2⟩,h3⟩,h4⟩:=h
  rcases asc_len h4 with rfl | h5
  ·right;simp only [List.length_cons,List.length_nil];omega
  ·right;simp only [List.length_cons];omega
theorem asc_take {n last:Int} :∀(l:List Loc) (i:Nat),asc n last l=true→asc n last (l.take i)=true
 | [],i,h=>by rw [List.take_nil];rfl
 | y::r,0,h=>rfl
 | y::r,i+1,h=>by
  simp only [asc,List.take_succ_cons,Bool.and_eq_true] at h ⊢
  exact ⟨h.1,asc_take r i h.2⟩
def lastS (last:Int):List Loc→Int
 | []=>last
 | l::r=>lastS l.slot r
theorem lastS_snoc :∀(l:List Loc) (last:Int) (x:Loc),lastS last (l++[x])=x.slot
 | [],_,_=>rfl
 | y::r,last,x=>lastS_snoc r y.slot x
theorem asc_snoc {n:Int} :∀(l:List Loc) (last:Int) (x:Loc),asc n last (l++[x])=(asc n last l&&decide (lastS last l<x.slot)&&decide (x.slot<n)&&fine x.value)
 | [],last,x=>by simp [asc,lastS];rfl
 | y::r,last,x=>by
  simp only [List.cons_append,asc,lastS,asc_snoc r y.slot x]
  simp only [Bool.and_assoc]
  rfl
theorem asc_no {n last:Int} {l:List Loc} {i:Nat} (h:asc n last (l.take i)=false):asc n last l=false:=by
 rw [← Bool.not_eq_true] at h ⊢
 exact fun h'=>h (asc_take l i h')
def scI (n:Int) (s:Bytes):Int × Bool × Bytes:=((scNum s).1,(scNum s).2.1&&decide (0≤(scNum s).1)&&decide ((scNum s).1<n),(scNum s).2.2)
def idxOf (v:Bytes):List Bytes→Int
 | []=>-1
 | x::r=>if v=x then 0 else if idxOf v r = -1 then -1 else 1+idxOf v r
def modeI (s:Bytes):Int:=idxOf s modes4
def nameAt (m:Img) (n:Int):Bytes:=((m.funcs[n.toNat]?).getD Fun.zero).name
def codeAt (m:Img) (n:Int):Int:=(((m.funcs[n.toNat]?).getD Fun.zero).code.length:Nat)
def frP4 (k f p:Int) (s:Bytes):Int × Frm × Bool:=(k,⟨f,p,max 0 (modeI s),[]⟩,decide (0≤modeI s))
def frP3 (m:Img) (k f:Int) (s:Bytes):Int × Frm × Bool:=
 if (scI (codeAt m f) s).2.1=false then (0,⟨f,(scI (codeAt m f) s).1,0,[]⟩,false) else
 if (cutp [32] (scI (codeAt m f) s).2.2).2=false then (0,⟨f,(scI (codeAt m f) s).1,0,[]⟩,false) else frP4 k f (scI (codeAt m f) s).1 (cutp [32] (scI (codeAt m f) s).2.2).1
def frP2 (m:Img) (k:Int) (s:Bytes):Int × Frm × Bool:=
 if (scI m.funcs.length s).2.1=false then (0,⟨(scI m.funcs.length s).1,0,0,[]⟩,false) else
 if (cutp ([32]++quo (nameAt m (scI m.funcs.length s).1)++[32,97,116,32]) (scI m.funcs.length s).2.2).2=false then (0,⟨(scI m.funcs.length s).1,0,0,[]⟩,false) else
 frP3 m k (scI m.funcs.length s).1 (cutp ([32]++quo (nameAt m (scI m.funcs.length s).1)++[32,97,116,32]) (scI m.funcs.length s).2.2).1
def frP1 (m:Img) (s:Bytes):Int × Frm × Bool:=
 if (scI 170 s).2.1=false then (0,⟨0,0,0,[]⟩,false) else if (cutp [32] (scI 170 s).2.2).2=false then (0,⟨0,0,0,[]⟩,false) else frP2 m (scI 170 s).1 (cutp [32] (scI 170 s).2.2).1
def frP (m:Img) (s:Bytes):Int × Frm × Bool:=if (cutp [35] s).2=false then (0,⟨0,0,0,[]⟩,false) else frP1 m (cutp [35] s).1
def loP (f:Fun) (s:Bytes):Option Loc:=
 if (cutp [32,32] s).2=false then none else
 if (scI f.slots.length (cutp [32,32] s).1).2.1=false then none else
 if (cutp ([32]++quo (slotN f (scI f.slots.length (cutp [32,32] s).1).1)++[32,61,32]) (scI f.slots.length (cutp [32,32] s).1).2.2).2=false then none else
 if (rvs (cutp ([32]++quo (slotN f (scI f.slots.length (cutp [32,32] s).1).1)++[32,61,32]) (scI f.slots.length (cutp [32,32] s).1).2.2).1).2=0 then
  some ⟨(scI f.slots.length (cutp [32,32] s).1).1,(rvs (cutp ([32]++quo (slotN f (scI f.slots.length (cutp [32,32] s).1).1)++[32,61,32]) (scI f.slots.length (cutp [32,32] s).1).2.2).1).1⟩ else none
def loPs (f:Fun):List Bytes→Option (List Loc)
 | []=>some []
 | s::r=>match loP f s with
  | none=>none
  | some y=>match loPs f r with | none=>none | some ys=>some (y::ys)
abbrev fz:Frm:=⟨0,0,0,[]⟩
def rfR (m:Img) (l:List Bytes):Int × Frm × Int:=
 if 17<l.length∨long 1400060 l=true then (0,fz,4) else
 match l with
 | []=>(0,fz,12)
 | s::r=>if (frP m s).2.2=false then (0,fz,12) else
  match m.funcs[(frP m s).2.1.func.toNat]? with
  | none=>(0,fz,12)
  | some f=>match loPs f r with
   | none=>(0,fz,12)
   | some ys=>if frR m (frP m s).1 { (frP m s).2.1 with locals:=ys }=(l,0) then ((frP m s).1,{ (frP m s).2.1 with locals:=ys },0) else (0,fz,12)
theorem scI_rng (n:Int) (s:Bytes):(scI n s).2.1=true→0≤(scI n s).1∧(scI n s).1<n:=by
 intro h
 simp only [scI,Bool.and_eq_true,decide_eq_true_eq] at h ⊢
 omega
theorem idxOf_rng (v:Bytes) :∀l:List Bytes,-1≤idxOf v l∧idxOf v l<l.length
 | []=>⟨Int.le_refl _,by show (-1:Int)<0;decide⟩
 | x::r=>by
  have:=idxOf_rng v r
  rw [idxOf,List.length_cons]
  repeat' split
  all_goals omega
theorem modeI_rng (s:Bytes):-1≤modeI s∧modeI s<4:=idxOf_rng s modes4
theorem frP_mode (m:Img) (s:Bytes):0≤(frP m s).2.1.mode:=by
 have h0 :∀a:Int,0≤max 0 a:=fun a=>by omega
 unfold frP frP1 frP2 frP3 frP4
 repeat' split
 all_goals first | exact h0 _ | exact Int.le_refl 0
theorem frP_locals (m:Img) (s:Bytes):(frP m s).2.1.locals=[]:=by
 unfold frP frP1 frP2 frP3 frP4
 repeat' split
 all_goals rfl
theorem frP_ok {m:Img} {s:Bytes} (h:(frP m s).2.2=true):0≤(frP m s).2.1.func∧(frP m s).2.1.func<m.funcs.length∧0≤(frP m s).1∧(frP m s).1<170:=by
 unfold frP at h ⊢
 split at h
 ·cases h
 rename_i h1
 rw [if_neg h1]
 clear h1
 generalize (cutp [35] s).1=t at h ⊢
 unfold frP1 at h ⊢
 split at h
 ·cases h
 rename_i h1
 rw [if_neg h1]
 split at h
 ·cases h
 rename_i h2
 rw [if_neg h2]
 have k1:=scI_rng 170 t (by simpa using h1)
 clear h1 h2
 generalize (scI 170 t).1=k at h k1 ⊢
 generalize (cutp [32] (scI 170 t).2.2).1=u at h ⊢
 unfold frP2 at h ⊢
 split at h
 ·cases h
 rename_i h1
 rw [if_neg h1]
 split at h
 ·cases h
 rename_i h2
 rw [if_neg h2]
 have k2:=scI_rng m.funcs.length u (by simpa using h1)
 clear h1 h2
 generalize (cutp ([32]++quo (nameAt m (scI m.funcs.length u).1)++[32,97,116,32]) (scI m.funcs.length u).2.2).1=w at h ⊢
 generalize (scI m.funcs.length u).1=f at h k2 ⊢
 unfold frP3 at h ⊢
 split at h
 ·cases h
 rename_i h1
 rw [if_neg h1]
 split at h
 ·cases h
 rename_i h2
 rw [if_neg h2]
 exact ⟨k2.1,k2.2,k1.1,k1.2⟩
end Go.AM

namespace Go.AM
open Go
structure HasF (prog:Prog):Prop extends Has38 prog where
 f79:prog.fn 79=some pf79
 f80:prog.fn 80=some pf80
 f82:prog.fn 82=some pf82
 f86:prog.fn 86=some pf86
 f88:prog.fn 88=some pf88
 f111:prog.fn 111=some pf111
 f112:prog.fn 112=some pf112
 f113:prog.fn 113=some pf113
 f115:prog.fn 115=some pf115
 f116:prog.fn 116=some pf116
 f119:prog.fn 119=some pf119
 f122:prog.fn 122=some pf122
 f123:prog.fn 123=some pf123
 f124:prog.fn 124=some pf124
 f138:prog.fn 138=some pf138
 f139:prog.fn 139=some pf139
 f141:prog.fn 141=some pf141
 f144:prog.fn 144=some pf144
def idxP {α:Type} (p:α→Bool):List α→Int
 | []=>-1
 | x::r=>if p x=true then 0 else if idxP p r = -1 then -1 else 1+idxP p r
theorem idxP_any {α:Type} (p:α→Bool) :∀l:List α,-1≤idxP p l∧(0≤idxP p l↔l.any p=true)
 | []=>by simp [idxP]
 | x::r=>by
  have:=idxP_any p r
  rw [idxP,List.any_cons]
  cases p x
  ·simp only [Bool.false_eq_true,if_false,Bool.false_or]
   split
   ·exact ⟨by omega,fun h=>absurd h (by decide),fun h=>absurd (this.2.2 h) (by omega)⟩
   ·exact ⟨by omega,fun _=>this.2.1 (by omega),fun h=>by have:=this.2.2 h;omega⟩
  ·simp
theorem loop_idx {α:Type} {P:Int→Prop} {Q:Int→Prop} (p:α→Bool) (l:List α) (h1:Q (-1)→P (l.length:Int)) (h2 :∀(i:Nat) (hi:i<l.length),p l[i]=true→Q (i:Int)→P (i:Int)) (h3 :∀(i:Nat) (hi:i<l.length),p l[i]=false→P ((i+1:Nat):Int)→P (i:Int)) (hQ:Q (idxP p l)):P 0:=by
 have key :∀m i:Nat,i+m=l.length→Q (if idxP p (l.drop i) = -1 then -1 else i+idxP p (l.drop i))→P (i:Int):=by
  intro m
  induction m with
  | zero=>
   intro i hi hq
   have:l.drop i=[]:=List.drop_eq_nil_of_le (by omega)
   rw [this] at hq
   simp only [Nat.add_zero] at hi
   subst hi
   exact h1 (by simpa [idxP] using hq)
  | succ m ih=>
   intro i hi hq
   have hil:i<l.length:=by omega
   rw [List.drop_eq_getElem_cons hil,idxP] at hq
   have hb:=(idxP_any p (l.drop (i+1))).1
   cases hp:p l[i] with
   | true=>
    refine h2 i hil hp ?_
    rw [hp] at hq
    simpa using hq
   | false=>
    refine h3 i hil hp (ih (i+1) (by omega) ?_)
    rw [hp] at hq
    simp only [Bool.false_eq_true,if_false] at hq
    by_cases hn:idxP p (l.drop (i+1)) = -1
    ·rw [if_pos hn] at hq ⊢
     simpa using hq
    ·rw [if_neg hn] at hq ⊢
     rw [if_neg (by omega)] at hq
     rw [show ((i+1:Nat):Int)+idxP p (l.drop (i+1))=(i:Int)+(1+idxP p (l.drop (i+1))) by omega]
     exact hq
 refine key l.length 0 (by omega) ?_
 rw [List.drop_zero]
 split
 ·rename_i h;rw [h] at hQ;exact hQ
 ·simpa using hQ
theorem idxOf_P (v:Bytes) :∀l:List Bytes,idxOf v l=idxP (fun x=>decide (v=x)) l
 | []=>rfl
 | x::r=>by rw [idxOf,idxP,idxOf_P v r];simp
theorem modes4_get {n:Int} (h0:0≤n) (h1:n≤3):modes4[n.toNat]?=some (modeW n):=by
 have:n=0∨n=1∨n=2∨n=3:=by omega
 rcases this with rfl | rfl | rfl | rfl<;>rfl
theorem modeW_len {n:Int} (h0:0≤n) (h1:n≤3):(modeW n).length≤5:=by
 have:n=0∨n=1∨n=2∨n=3:=by omega
 rcases this with rfl | rfl | rfl | rfl<;>decide
section
variable {prog:Prog} (H:HasF prog)
include H
theorem c111 {n:Int} (h1:-9223372036854775808≤n) (h2:n<9223372036854775808):Pus prog 111 [.i .i64 n] (.s (num n)):=by
 obtain ⟨x,rfl,h⟩:=p111 H.f111 (n0:=n) (K:=fun x=>x=num n) (by
  unfold T111_0
  exact ⟨_,c15 H.toHas03 h1 h2,rfl⟩)
 exact h
theorem c112 {s:Bytes} (hs:s.length≤400):Pus prog 112 [.s s] (.s (quo s)):=by
 obtain ⟨x,rfl,h⟩:=p112 H.f112 (s0:=s) (K:=fun x=>x=quo s) (by
  unfold T112_0
  refine ⟨_,_,c11 H.toHas03 s,?_⟩
  rw [quoR_ok hs])
 exact h
theorem c113:Pus prog 113 [] (.ag (modes4.map AV.s)):=by
 obtain ⟨x,rfl,h⟩:=p113 H.f113 (K:=fun x=>x=modes4) (by unfold T113_0;rfl)
 exact h
theorem c116 (s:Bytes):PuN prog 116 [.s s] (fun r=>r=.b (decide (1400060<s.length))):=by
 refine (p116 H.f116 (s0:=s) (K:=fun x=>x=decide (1400060<s.length)) ?_).to ?_
 ·unfold T116_0
  exact decide_eq_decide.2 (by omega)
 ·rintro r ⟨x,rfl,rfl⟩;rfl
theorem c123 (s:Fld):PuN prog 123 [s.av] (fun r=>r=.b (decide (16<s.name.length))):=by
 refine (p123 H.f123 (s0:=s) (K:=fun x=>x=decide (16<s.name.length)) ?_).to ?_
 ·unfold T123_0
  exact decide_eq_decide.2 (by omega)
 ·rintro r ⟨x,rfl,rfl⟩;rfl
theorem c139 {l:List Bytes} {f:Nat × List AV} {p:Bytes→Bool} (hl:l.length≤9223372036854775807) (hf :∀x∈l,PuN prog f.1 ([.s x]++f.2) (fun r=>r=.b (p x))) (o:Own):PuN prog 139 [.sl o (l.map rowS),.fn f.1 f.2] (fun r=>r=.i .i64 (idxP p l)):=by
 refine (p139 H.f139 (s0:=l) (f1:=f) (K:=fun x=>x=idxP p l) ?_ o).to ?_
 ·unfold T139_0
  intro P hP
  refine loop_idx (Q:=fun x=>x=idxP p l) p l (fun h=>hP _ ?_) (fun i hi hp hq=>hP _ ?_) (fun i hi hp ih=>hP _ ?_) rfl
  ·unfold T139_1 T139_2
   exact ⟨fun h'=>absurd h' (by omega),fun _=>h⟩
  ·unfold T139_1
   refine ⟨fun _=>⟨by omega,_,get_at hi,_,hf _ (List.getElem_mem hi),fun _=>hq,fun h'=>?_⟩,fun h'=>absurd h' (by omega)⟩
   rw [hp] at h';cases h'
  ·unfold T139_1
   refine ⟨fun _=>⟨by omega,_,get_at hi,_,hf _ (List.getElem_mem hi),fun h'=>?_,fun _=>?_⟩,fun h'=>absurd h' (by omega)⟩
   ·rw [hp] at h';cases h'
   ·rw [wr_i64 (by omega) (by omega)];exact ih
 ·rintro r ⟨x,rfl,rfl⟩;rfl
theorem c144 {l:List Fld} {f:Nat × List AV} {p:Fld→Bool} (hl:l.length≤9223372036854775807) (hf :∀x∈l,PuN prog f.1 ([x.av]++f.2) (fun r=>r=.b (p x))) (o:Own):PuN prog 144 [.sl o (l.map Fld.row),.fn f.1 f.2] (fun r=>r=.i .i64 (idxP p l)):=by
 refine (p144 H.f144 (s0:=l) (f1:=f) (K:=fun x=>x=idxP p l) ?_ o).to ?_
 ·unfold T144_0
  intro P hP
  refine loop_idx (Q:=fun x=>x=idxP p l) p l (fun h=>hP _ ?_) (fun i hi hp hq=>hP _ ?_) (fun i hi hp ih=>hP _ ?_) rfl
  ·unfold T144_1 T144_2
   exact ⟨fun h'=>absurd h' (by omega),fun _=>h⟩
  ·unfold T144_1
   refine ⟨fun _=>⟨by omega,_,get_at hi,_,hf _ (List.getElem_mem hi),fun _=>hq,fun h'=>?_⟩,fun h'=>absurd h' (by omega)⟩
   rw [hp] at h';cases h'
  ·unfold T144_1
   refine ⟨fun _=>⟨by omega,_,get_at hi,_,hf _ (List.getElem_mem hi),fun h'=>?_,fun _=>?_⟩,fun h'=>absurd h' (by omega)⟩
   ·rw [hp] at h';cases h'
   ·rw [wr_i64 (by omega) (by omega)];exact ih
 ·rintro r ⟨x,rfl,rfl⟩;rfl
theorem c115 {l:List Bytes} {f:Nat × List AV} {p:Bytes→Bool} (hl:l.length≤9223372036854775807) (hf :∀x∈l,PuN prog f.1 ([.s x]++f.2) (fun r=>r=.b (p x))) (o:Own):PuN prog 115 [.sl o (l.map rowS),.fn f.1 f.2] (fun r=>r=.b (l.any p)):=by
 refine (p115 H.f115 (s0:=l) (f1:=f) (K:=fun x=>x=l.any p) ?_ o).to ?_
 ·unfold T115_0
  refine ⟨_,fun o=>c139 H hl hf o,?_⟩
  have:=(idxP_any p l).2
  cases h:l.any p
  ·exact decide_eq_false (by rw [h] at this;intro h';exact absurd (this.1 h') (by decide))
  ·exact decide_eq_true (this.2 h)
 ·rintro r ⟨x,rfl,rfl⟩;rfl
theorem c122 {l:List Fld} {f:Nat × List AV} {p:Fld→Bool} (hl:l.length≤9223372036854775807) (hf :∀x∈l,PuN prog f.1 ([x.av]++f.2) (fun r=>r=.b (p x))) (o:Own):PuN prog 122 [.sl o (l.map Fld.row),.fn f.1 f.2] (fun r=>r=.b (l.any p)):=by
 refine (p122 H.f122 (s0:=l) (f1:=f) (K:=fun x=>x=l.any p) ?_ o).to ?_
 ·unfold T122_0
  refine ⟨_,fun o=>c144 H hl hf o,?_⟩
  have:=(idxP_any p l).2
  cases h:l.any p
  ·exact decide_eq_false (by rw [h] at this;intro h';exact absurd (this.1 h') (by decide))
  ·exact decide_eq_true (this.2 h)
 ·rintro r ⟨x,rfl,rfl⟩;rfl
theorem c141 {l:List Bytes} (hl:l.length≤1000000) (v:Bytes):Pus prog 141 [.sl .ext (l.map rowS),.s v] (.i .i64 (idxOf v l)):=by
 obtain ⟨x,rfl,h⟩:=p141 H.f141 (s0:=l) (v1:=v) (K:=fun x=>x=idxOf v l) (by
  unfold T141_0
  intro P hP
  refine loop_idx (Q:=fun x=>x=idxOf v l) (fun x=>decide (v=x)) l (fun h=>hP _ ?_) (fun i hi hp hq=>hP _ ?_) (fun i hi hp ih=>hP _ ?_) (idxOf_P v l).symm
  ·unfold T141_1 T141_2
   exact ⟨fun h'=>absurd h' (by omega),fun _=>h⟩
  ·unfold T141_1
   exact ⟨fun _=>⟨by omega,_,get_at hi,fun _=>hq,fun h'=>absurd (by simpa using hp) h'⟩,fun h'=>absurd h' (by omega)⟩
  ·unfold T141_1
   refine ⟨fun _=>⟨by omega,_,get_at hi,fun h'=>absurd h' (by simpa using hp),fun _=>?_⟩,fun h'=>absurd h' (by omega)⟩
   rw [wr_i64 (by omega) (by omega)];exact ih)
 exact h
theorem c119 {a b:List Bytes} (ha:a.length≤9223372036854775807):Pus prog 119 [.sl .ext (a.map rowS),.sl .ext (b.map rowS)] (.b (decide (a=b))):=by
 obtain ⟨x,rfl,h⟩:=p119 H.f119 (s10:=a) (s21:=b) (K:=fun x=>x=decide (a=b)) (by
  unfold T119_0
  refine ⟨fun h=>(decide_eq_false fun e=>h (by rw [e])).symm,fun h P hP=>?_⟩
  have h5:a.length=b.length:=by omega
  refine loop_inv0 (P:=P) a.length (fun i=>a.take i=b.take i) (by simp) (fun hI=>hP _ ?_) (fun i hi hI ihP=>hP _ ?_)
  ·unfold T119_1 T119_2
   refine ⟨fun h=>absurd h (by omega),fun _=>?_⟩
   rw [List.take_length,h5,List.take_length] at hI
   exact (decide_eq_true hI).symm
  ·have hi2:i<b.length:=by omega
   unfold T119_1
   refine ⟨fun _=>⟨by omega,_,get_at hi,by omega,_,get_at hi2,fun h6=>?_,fun h6=>?_⟩,fun h=>absurd h (by omega)⟩
   ·refine (decide_eq_false fun e=>h6 ?_).symm
    subst e;rfl
   ·rw [wr_i64 (by omega) (by omega)]
    refine ihP ?_
    rw [List.take_succ_eq_append_getElem hi,List.take_succ_eq_append_getElem hi2,hI,Decidable.not_not.1 h6])
 exact h
end
end Go.AM

namespace Go.AM
open Go
theorem fitR_no {m:Img} {x:Frm} (h:fitb m x≠true):(8:Int)=fitR m x:=by unfold fitR;rw [if_neg h]
theorem fitR_yes {m:Img} {x:Frm} (h:fitb m x=true):(0:Int)=fitR m x:=by unfold fitR;rw [if_pos h]
theorem fun_at {m:Img} {n:Int} (h0:0≤n) (h1:n<m.funcs.length) :∃f,m.funcs[n.toNat]?=some f∧f∈m.funcs:=by
 have h:n.toNat<m.funcs.length:=by omega
 exact ⟨m.funcs[n.toNat],List.getElem?_eq_getElem h,List.getElem_mem h⟩
theorem asc_go {n:Int} {l:List Loc} {i:Nat} (hi:i<l.length):asc n (-1) (l.take (i+1))=(asc n (-1) (l.take i)&&decide (lastS (-1) (l.take i)<l[i].slot)&&decide (l[i].slot<n)&&fine l[i].value):=by
 rw [List.take_succ_eq_append_getElem hi,asc_snoc]
section
variable {prog:Prog} (H:HasF prog)
include H
theorem c86 {m:Img} {x:Frm} (hm:OkI m) (hx:WfX x):Pus prog 86 [m.av,x.av] (.i .i64 (fitR m x)):=by
 obtain ⟨y,rfl,h⟩:=p86 H.f86 (m0:=m) (x1:=x) (K:=fun y=>y=fitR m x) (by
  unfold T86_0 T86_1
  have no:¬(0≤x.func∧x.mode≤3∧∃f,m.funcs[x.func.toNat]?=some f∧fitF f x=true)→(8:Int)=fitR m x:=fun h=>fitR_no fun h'=>h (fitb_iff.1 h')
  refine ⟨fun h=>no (by omega),fun h0=>⟨fun h=>no ?_,fun h1=>⟨fun h=>no (by omega),fun h2=>?_⟩⟩⟩
  ·rintro ⟨_,_,f,hf,_⟩
   rw [List.getElem?_eq_none (by omega)] at hf
   cases hf
  obtain ⟨f,hf,hmem⟩:=fun_at (m:=m) (n:=x.func) (by omega) (by omega)
  obtain ⟨q1,q2,q3,q4⟩:=hm.f f hmem
  have no:fitF f x≠true→(8:Int)=fitR m x:=fun h=>no (by
   rintro ⟨_,_,g,hg,h'⟩
   rw [hf] at hg
   cases hg
   exact h h')
  have no:¬(f.slots.length≤16∧f.name.length≤16∧0≤x.pos∧x.pos<f.code.length∧(∀s∈f.slots,s.name.length≤16)∧asc f.slots.length (-1) x.locals=true)→(8:Int)=fitR m x:=fun h=>no fun h'=>h (fitF_iff.1 h')
  unfold T86_2 T86_3
  refine ⟨by omega,f,hf,fun h=>no (by omega),fun k1=>⟨fun h=>no (by omega),fun k2=>⟨fun h=>no (by omega),fun k3=>⟨fun h=>no (by omega),fun k4=>⟨_,fun o=>c122 H (l:=f.slots) (f:=(123,[])) (p:=fun s=>decide (16<s.name.length)) (by omega) (fun s _=>c123 H s) o,fun h=>no ?_,fun h=>?_⟩⟩⟩⟩⟩
  ·rintro ⟨_,_,_,_,h',_⟩
   rw [List.any_eq_true] at h
   obtain ⟨s,hs,h3⟩:=h
   have:=h' s hs
   simp only [decide_eq_true_eq] at h3
   omega
  have hs :∀s∈f.slots,s.name.length≤16:=by
   intro s hs
   rw [List.any_eq_false] at h
   simpa using h s hs
  have no:asc f.slots.length (-1) x.locals≠true→(8:Int)=fitR m x:=fun h=>no (by rintro ⟨_,_,_,_,_,h'⟩;exact h h')
  unfold T86_4
  intro P hP
  have hn:=hx.n
  have go :∀k i:Nat,i+k=x.locals.length→asc f.slots.length (-1) (x.locals.take i)=true→P (lastS (-1) (x.locals.take i)) (i:Int) f:=by
   intro k
   induction k with
   | zero=>
    intro i hi ha
    apply hP
    unfold T86_5 T86_6
    refine ⟨fun h=>absurd h (by omega),fun _=>fitR_yes ?_⟩
    rw [List.take_of_length_le (by omega)] at ha
    exact fitb_iff.2 ⟨by omega,by omega,f,hf,fitF_iff.2 ⟨by omega,by omega,by omega,by omega,hs,ha⟩⟩
   | succ k ih=>
    intro i hi ha
    have hil:i<x.locals.length:=by omega
    have e:=asc_go (n:=f.slots.length) hil
    have no:asc f.slots.length (-1) (x.locals.take (i+1))=false→(8:Int)=fitR m x:=fun h=>no (by rw [asc_no h];decide)
    rw [ha,Bool.true_and] at e
    apply hP
    unfold T86_5
    refine ⟨fun _=>⟨by omega,_,get_at hil,fun h=>no ?_,fun h3=>⟨fun h=>no ?_,fun h4=>⟨_,c76 H.toHas38 (hx.v _ (List.getElem_mem hil)),fun h=>no ?_,fun h5=>?_⟩⟩⟩,fun h=>absurd (show (i:Int)<x.locals.length by omega) h⟩
    ·rw [e,decide_eq_false (by omega)];rfl
    ·rw [e,decide_eq_false (p:=x.locals[i].slot<_) (by omega)];simp
    ·rw [e,show fine x.locals[i].value=false by rw [← Bool.not_eq_true];exact fun h'=>h (chk_fine.2 h')];simp
    ·rw [wr_i64 (by omega) (by omega)]
     have h6:=chk_fine.1 (Decidable.not_not.1 h5)
     have:=ih (i+1) (by omega) (by rw [e,h6,decide_eq_true (by omega),decide_eq_true (by omega)];rfl)
     rw [List.take_succ_eq_append_getElem hil,lastS_snoc] at this
     exact this
  exact go x.locals.length 0 (by omega) rfl)
 exact h
end
end Go.AM

namespace Go.AM
open Go
theorem slot_at {f:Fun} {n:Int} (h0:0≤n) (h1:n<f.slots.length) :∃s,f.slots[n.toNat]?=some s∧s∈f.slots∧slotN f n=s.name:=by
 have h:n.toNat<f.slots.length:=by omega
 refine ⟨f.slots[n.toNat],List.getElem?_eq_getElem h,List.getElem_mem h,?_⟩
 unfold slotN
 rw [List.getElem?_eq_getElem h]
 rfl
theorem map_take_snoc {α β:Type} (g:α→β) {l:List α} {i:Nat} (h:i<l.length):(l.take (i+1)).map g=(l.take i).map g++[g l[i]]:=by
 rw [List.take_succ_eq_append_getElem h,List.map_append]
 rfl
theorem frmL_eq {m:Img} {x:Frm} {f:Fun} (h:m.funcs[x.func.toNat]?=some f) (k:Int):frmL m k x=headL f k x::x.locals.map (locL f):=by
 unfold frmL
 rw [h]
theorem frR_bad {m:Img} {k:Int} {x:Frm} (h:k<0∨170≤k):frR m k x=([],2):=by unfold frR;rw [if_pos h]
theorem frR_no {m:Img} {k:Int} {x:Frm} (h:¬(k<0∨170≤k)) (h1:fitb m x≠true):frR m k x=([],8):=by unfold frR;rw [if_neg h,if_neg h1]
theorem frR_yes {m:Img} {k:Int} {x:Frm} (h:¬(k<0∨170≤k)) (h1:fitb m x=true):frR m k x=(frmL m k x,0):=by unfold frR;rw [if_neg h,if_pos h1]
noncomputable def sameX (a b:Frm):Bool:=@decide (a=b) (Classical.propDecidable _)
theorem sameX_true {v w:Frm}:sameX v w=true↔v=w:=by unfold sameX;simp
theorem sameX_false {v w:Frm}:sameX v w=false↔v≠w:=by rw [← Bool.not_eq_true,sameX_true]
noncomputable def sameLs (a b:List Loc):Bool:=@decide (a=b) (Classical.propDecidable _)
theorem sameLs_true {v w:List Loc}:sameLs v w=true↔v=w:=by unfold sameLs;simp
theorem sameLs_false {v w:List Loc}:sameLs v w=false↔v≠w:=by rw [← Bool.not_eq_true,sameLs_true]
section
variable {prog:Prog} (H:HasF prog)
include H
theorem c82 {m:Img} {k:Int} {x:Frm} (hm:OkI m) (hx:WfX x):Pus prog 82 [m.av,.i .i64 k,x.av] (.tup [.sl .ext ((frR m k x).1.map rowS),.i .i64 (frR m k x).2]):=by
 obtain ⟨y,z,⟨rfl,rfl⟩,h⟩:=p82 H.f82 (m0:=m) (k1:=k) (x2:=x) (K:=fun y z=>y=(frR m k x).1∧z=(frR m k x).2) (by
  unfold T82_0 T82_1
  refine ⟨fun h=>by rw [frR_bad (.inl h)];exact ⟨rfl,rfl⟩,fun h0=>⟨fun h=>by rw [frR_bad (.inr h)];exact ⟨rfl,rfl⟩,fun h1=>?_⟩⟩
  unfold T82_2
  refine ⟨_,c86 H hm hx,fun h=>?_,fun h=>?_⟩
  ·by_cases hb:fitb m x=true
   ·rw [← fitR_yes hb] at h;exact absurd rfl h
   ·rw [frR_no (by omega) hb,← fitR_no hb];exact ⟨rfl,rfl⟩
  have hb:fitb m x=true:=by
   by_cases hb:fitb m x=true
   ·exact hb
   ·rw [← fitR_no hb] at h;exact absurd (by decide) h
  rw [frR_yes (by omega) hb]
  obtain ⟨f0,f1,f,hf,hF⟩:=fitb_iff.1 hb
  obtain ⟨g1,g2,g3,g4,g5,g6⟩:=fitF_iff.1 hF
  have hmem:=List.mem_of_getElem? hf
  obtain ⟨q1,q2,q3,q4⟩:=hm.f f hmem
  have hn:=hm.n
  have hfl:x.func<m.funcs.length:=by
   have:=(List.getElem?_eq_some_iff.1 hf).1
   omega
  have l1:=num_len k
  have l2:=num_len x.func
  have l3:=num_len x.pos
  have l4:=quo_len f.name
  have l5:=modeW_len hx.m f1
  rw [frmL_eq hf]
  unfold T82_3
  refine ⟨f0,f,hf,?_⟩
  unfold T82_4
  refine ⟨_,c111 H (by omega) (by omega),?_,?_,_,c111 H (by omega) (by omega),?_,?_,_,c112 H (by omega),?_,?_,_,c111 H (by omega) (by omega),?_,?_,_,c113 H,rfl,hx.m,_,modes4_get hx.m f1,?_,fun P hP=>?_⟩
  all_goals try (rw [maxStr_eq];simp only [List.length_append,List.length_cons,List.length_nil];omega)
  have len:=asc_len g6
  have hn2:x.locals.length≤16:=by
   rcases len with h | h
   ·rw [h];exact Nat.zero_le _
   ·omega
  refine loop_up (P:=fun o i=>P o i f) (fun i=>headL f k x::(x.locals.take i).map (locL f)) x.locals.length (hP _ _ _ ?_) fun i hi ih=>hP _ _ _ ?_
  ·unfold T82_5 T82_6
   rw [List.take_length]
   exact ⟨fun h=>absurd h (by omega),fun _=>⟨rfl,rfl⟩⟩
  ·obtain ⟨a1,a2,a3⟩:=asc_mem g6 _ (List.getElem_mem hi)
   obtain ⟨s,b1,b2,b3⟩:=slot_at (f:=f) (n:=x.locals[i].slot) (by omega) (by omega)
   have c1:=num_len x.locals[i].slot
   have c2:=quo_len s.name
   have c3:=q4 s b2
   have c4:=fine_len a3
   unfold T82_5
   refine ⟨fun _=>⟨by omega,_,get_at hi,_,_,c72 H.toHas38 (hx.v _ (List.getElem_mem hi)),fun h=>absurd (chk_fine.2 a3) h,fun _=>?_⟩,fun h=>absurd (show (i:Int)<x.locals.length by omega) h⟩
   rw [if_pos a3]
   refine ⟨_,c111 H (by omega) (by omega),?_,?_,by omega,s,b1,_,c112 H (by omega),?_,?_,?_,⟨?_,?_⟩,?_⟩
   all_goals try (rw [maxStr_eq];simp only [List.length_append,List.length_cons,List.length_nil];omega)
   all_goals try (rw [maxBytes_eq];simp only [List.length_append,List.length_cons,List.length_nil,List.length_map,List.length_take];omega)
   rw [wr_i64 (by omega) (by omega)]
   rw [map_take_snoc (locL f) hi] at ih
   unfold locL at ih ⊢
   rw [b3] at ih
   exact ih)
 exact h
theorem c124 {a b:List Loc} (ha:a.length≤9223372036854775807) (hw :∀l∈a,Wf l.value):Pus prog 124 [.sl .ext (a.map Loc.row),.sl .ext (b.map Loc.row)] (.b (sameLs a b)):=by
 obtain ⟨x,rfl,h⟩:=p124 H.f124 (a0:=a) (b1:=b) (K:=fun x=>x=sameLs a b) (by
  have no :∀{p:Prop},(a=b→p)→¬p→false=sameLs a b:=fun h1 h2=>(sameLs_false.2 fun h=>h2 (h1 h)).symm
  unfold T124_0
  refine ⟨fun h=>no (fun e=>by rw [e]) h,fun h P hP=>?_⟩
  have h5:a.length=b.length:=by omega
  refine loop_inv0 (P:=P) a.length (fun i=>a.take i=b.take i) (by simp) (fun hI=>hP _ ?_) (fun i hi hI ihP=>hP _ ?_)
  ·unfold T124_1 T124_2
   refine ⟨fun h=>absurd h (by omega),fun _=>?_⟩
   rw [List.take_length,h5,List.take_length] at hI
   exact (sameLs_true.2 hI).symm
  ·have hi2:i<b.length:=by omega
   unfold T124_1
   refine ⟨fun _=>⟨by omega,_,get_at hi,by omega,_,get_at hi2,fun h6=>no (p:=a[i].slot=b[i].slot) (fun e=>by subst e;rfl) h6,fun h6=>⟨by omega,_,get_at hi,by omega,_,get_at hi2,_,c78 H.toHas38 (hw _ (List.getElem_mem hi)) _,fun h7=>no (p:=a[i].value=b[i].value) (fun e=>by subst e;rfl) (sameV_false.1 (by simpa using h7)),fun h7=>?_⟩⟩,fun h=>absurd (show (i:Int)<a.length by omega) h⟩
   rw [wr_i64 (by omega) (by omega)]
   refine ihP ?_
   have e1:a[i].slot=b[i].slot:=Decidable.not_not.1 h6
   have e2:a[i].value=b[i].value:=sameV_true.1 (by simpa using h7)
   have e:a[i]=b[i]:=by
    cases ha:a[i];cases hb:b[i]
    rw [ha,hb] at e1 e2
    simp only at e1 e2
    rw [e1,e2]
   rw [List.take_succ_eq_append_getElem hi,List.take_succ_eq_append_getElem hi2,hI,e])
 exact h
theorem c88 {a b:Frm} (ha:WfX a):Pus prog 88 [a.av,b.av] (.b (sameX a b)):=by
 obtain ⟨x,rfl,h⟩:=p88 H.f88 (a0:=a) (b1:=b) (K:=fun x=>x=sameX a b) (by
  have no :∀{p:Prop},(a=b→p)→¬p→false=sameX a b:=fun h1 h2=>(sameX_false.2 fun h=>h2 (h1 h)).symm
  unfold T88_0
  refine ⟨fun h1=>⟨fun h2=>⟨fun h3=>⟨_,c124 H ha.n ha.v,?_⟩,fun h=>no (fun e=>by rw [e]) h⟩,fun h=>no (fun e=>by rw [e]) h⟩,fun h=>no (fun e=>by rw [e]) h⟩
  cases a;cases b
  simp only at h1 h2 h3 ⊢
  subst h1;subst h2;subst h3
  unfold sameLs sameX
  simp)
 exact h
theorem c79 {m:Img} (hn:m.funcs.length≤9223372036854775807):Pus prog 79 [m.av] (.b (greatI m)):=by
 obtain ⟨x,rfl,h⟩:=p79 H.f79 (m0:=m) (K:=fun x=>x=greatI m) (by
  unfold T79_0
  intro P hP
  have fin:(m.funcs.take 41).any gFun=false→T79_6 prog (fun x=>x=greatI m) m:=by
   intro h
   unfold T79_6 greatI
   rw [h,Bool.false_or]
   exact decide_eq_decide.2 (by omega)
  refine loop_inv0 (P:=fun i=>P i m) (min m.funcs.length 41) (fun i=>(m.funcs.take i).any gFun=false) (by simp) (fun hI=>hP _ _ ?_) fun i hi hI ihP=>hP _ _ ?_
  ·unfold T79_1
   refine ⟨fun h=>⟨fun h'=>absurd h' (by omega),fun _=>fin ?_⟩,fun h=>fin ?_⟩
   ·rwa [show min m.funcs.length 41=41 by omega] at hI
   ·rw [show min m.funcs.length 41=m.funcs.length by omega,List.take_length] at hI
    rw [List.any_eq_false] at hI ⊢
    exact fun x hx=>hI x (List.mem_of_mem_take hx)
  ·have hil:i<m.funcs.length:=by omega
   have yes:gFun m.funcs[i]=true→true=greatI m:=by
    intro h
    unfold greatI
    rw [List.any_eq_true.2 ⟨m.funcs[i],by rw [List.mem_take_iff_getElem];exact ⟨i,by omega,rfl⟩,h⟩]
    rfl
   have go:gFun m.funcs[i]=false→P (IntKind.i64.wrap ((i:Int)+1)) m:=by
    intro h
    rw [wr_i64 (by omega) (by omega)]
    exact ihP (by rw [List.take_succ_eq_append_getElem hil,List.any_append,hI];simpa using h)
   unfold T79_1
   refine ⟨fun _=>⟨fun _=>?_,fun h=>absurd (show (i:Int)≤40 by omega) h⟩,fun h=>absurd (show (i:Int)<m.funcs.length by omega) h⟩
   unfold T79_2
   refine ⟨by omega,_,get_at hil,fun h=>yes (by unfold gFun;simp;omega),fun h1=>⟨fun h=>yes (by unfold gFun;simp;omega),fun h2=>⟨fun h=>yes (by unfold gFun;simp;omega),fun h3=>?_⟩⟩⟩
   unfold T79_3
   intro P1 hP1
   refine loop_inv0 (P:=fun i=>P1 i m _) m.funcs[i].slots.length (fun j=>(m.funcs[i].slots.take j).any gFld=false) (by simp) (fun hJ=>hP1 _ _ _ ?_) fun j hj hJ ihJ=>hP1 _ _ _ ?_
   ·unfold T79_4 T79_5
    refine ⟨fun h=>absurd h (by omega),fun _=>go ?_⟩
    rw [List.take_length] at hJ
    unfold gFun
    rw [hJ,decide_eq_false (by omega),decide_eq_false (by omega),decide_eq_false (by omega)]
    rfl
   ·unfold T79_4
    refine ⟨fun _=>⟨by omega,_,get_at hj,fun h=>yes ?_,fun h=>?_⟩,fun h=>absurd (show (j:Int)<m.funcs[i].slots.length by omega) h⟩
    ·unfold gFun
     rw [List.any_eq_true.2 ⟨_,List.getElem_mem hj,by unfold gFld;exact decide_eq_true (by omega)⟩,Bool.or_true]
    ·rw [wr_i64 (by omega) (by omega)]
     refine ihJ ?_
     rw [List.take_succ_eq_append_getElem hj,List.any_append,hJ]
     simp [gFld]
     omega)
 exact h
theorem c80 {x:Frm} (hx:WfX x):Pus prog 80 [x.av] (.b (greatX x)):=by
 obtain ⟨y,rfl,h⟩:=p80 H.f80 (x0:=x) (K:=fun y=>y=greatX x) (by
  unfold T80_0
  intro P hP
  have hn:=hx.n
  have fin:(x.locals.take 21).any (fun l=>greatv l.value)=false→T80_3 prog (fun y=>y=greatX x) x:=by
   intro h
   unfold T80_3 greatX
   rw [h,Bool.false_or]
   exact decide_eq_decide.2 (by omega)
  refine loop_inv0 (P:=fun i=>P i x) (min x.locals.length 21) (fun i=>(x.locals.take i).any (fun l=>greatv l.value)=false) (by simp) (fun hI=>hP _ _ ?_) fun i hi hI ihP=>hP _ _ ?_
  ·unfold T80_1
   refine ⟨fun h=>⟨fun h'=>absurd h' (by omega),fun _=>fin ?_⟩,fun h=>fin ?_⟩
   ·rwa [show min x.locals.length 21=21 by omega] at hI
   ·rw [show min x.locals.length 21=x.locals.length by omega,List.take_length] at hI
    rw [List.any_eq_false] at hI ⊢
    exact fun x hx=>hI x (List.mem_of_mem_take hx)
  ·have hil:i<x.locals.length:=by omega
   unfold T80_1 T80_2
   refine ⟨fun _=>⟨fun _=>⟨by omega,_,get_at hil,_,c71 H.toHas38 (hx.v _ (List.getElem_mem hil)),fun h=>?_,fun h=>?_⟩,fun h=>absurd (show (i:Int)≤20 by omega) h⟩,fun h=>absurd (show (i:Int)<x.locals.length by omega) h⟩
   ·unfold greatX
    rw [List.any_eq_true.2 ⟨x.locals[i],by rw [List.mem_take_iff_getElem];exact ⟨i,by omega,rfl⟩,h⟩]
    rfl
   ·rw [wr_i64 (by omega) (by omega)]
    exact ihP (by rw [List.take_succ_eq_append_getElem hil,List.any_append,hI];simpa using h))
 exact h
end
end Go.AM

namespace Go.AM
open Go
structure HasG (prog:Prog):Prop extends HasF prog where
 f84:prog.fn 84=some pf84
 f117:prog.fn 117=some pf117
 f118:prog.fn 118=some pf118
 f140:prog.fn 140=some pf140
 f143:prog.fn 143=some pf143
theorem nameAt_eq {m:Img} {n:Int} {f:Fun} (h:m.funcs[n.toNat]?=some f):nameAt m n=f.name:=by unfold nameAt;rw [h];rfl
theorem codeAt_eq {m:Img} {n:Int} {f:Fun} (h:m.funcs[n.toNat]?=some f):codeAt m n=(f.code.length:Int):=by unfold codeAt;rw [h];rfl
theorem max0 (a:Int):(if 0<a then a else 0)=max 0 a:=by
 by_cases h:0<a
 ·rw [if_pos h];omega
 ·rw [if_neg h];omega
theorem scI_len (n:Int) (s:Bytes):(scI n s).2.2.length≤s.length:=scNum_len s
section
variable {prog:Prog} (H:HasG prog)
include H
theorem c140 {n:Int} {s:Bytes} (hs:s.length≤1000000000):PuX prog 140 (Bx [.s s]) [.i .i64 n] (fun r=>r=.tup [.i .i64 (scI n s).1,.b (scI n s).2.1]) (Bx [.s (scI n s).2.2]):=by
 refine (p140 H.f140 (n1:=n) (mP:=⟨s⟩) (K:=fun x y b=>x=(scI n s).1∧y=(scI n s).2.1∧b=⟨(scI n s).2.2⟩) ?_).to (b:=⟨(scI n s).2.2⟩) fun r b' hk=>?_
 ·unfold T140_0
  refine ⟨_,_,⟨_⟩,c131 H.toHas38 hs,fun h=>⟨fun h1=>⟨rfl,?_,rfl⟩,fun h1=>⟨rfl,?_,rfl⟩⟩,fun h=>⟨rfl,?_,rfl⟩⟩
  ·unfold scI;simp only [h,decide_eq_true (show 0≤(scNum s).1 by omega),Bool.true_and]
  ·unfold scI;simp only [h,decide_eq_false (show ¬0≤(scNum s).1 by omega),Bool.true_and,Bool.false_and]
  ·unfold scI;simp only [h,Bool.false_and]
 ·obtain ⟨x0,x1,h1,rfl,rfl,rfl⟩:=hk
  exact ⟨h1,rfl⟩
abbrev FrA (r:Int × Frm × Bool):AV:=.tup [.i .i64 r.1,r.2.1.avo .full,.b r.2.2]
theorem c117 {m:Img} (hm:OkI m) {s:Bytes} (hs:s.length≤1000000000):PuN prog 117 [m.av,.s s] (fun r=>r=FrA (frP m s)):=by
 refine (p117 H.f117 (m0:=m) (line1:=s) (K:=fun x y z=>x=(frP m s).1∧y=(frP m s).2.1∧z=(frP m s).2.2) ?_).to ?_
 ·have hn:=hm.n
  unfold T117_0 T117_1 T117_2 T117_3
  refine ⟨_,⟨(cutp [35] s).1⟩,c128 H.toHas38 [35] s,fun h=>?_,fun h=>?_⟩
  ·unfold frP
   rw [if_pos (by simpa using h)]
   exact ⟨rfl,rfl,rfl⟩
  have e:frP m s=frP1 m (cutp [35] s).1:=by unfold frP;rw [if_neg (by simpa using h)]
  rw [e]
  have hl:(cutp [35] s).1.length≤1000000000:=Nat.le_trans (cutp_len _ _) hs
  clear e h hs
  generalize (cutp [35] s).1=t at hl ⊢
  unfold T117_4 T117_5 T117_6
  refine ⟨_,_,⟨(scI 170 t).2.2⟩,c140 H hl,fun h=>⟨fun _=>?_,fun h'=>(by cases h')⟩,fun h=>⟨_,⟨(cutp [32] (scI 170 t).2.2).1⟩,c128 H.toHas38 [32] _,fun h2=>?_,fun h2=>?_⟩⟩
  ·unfold frP1
   rw [if_pos (by simpa using h)]
   exact ⟨rfl,rfl,rfl⟩
  ·unfold frP1
   rw [if_neg (by simpa using h),if_pos (by simpa using h2)]
   exact ⟨rfl,rfl,rfl⟩
  have e:frP1 m t=frP2 m (scI 170 t).1 (cutp [32] (scI 170 t).2.2).1:=by unfold frP1;rw [if_neg (by simpa using h),if_neg (by simpa using h2)]
  rw [e]
  have hl:(cutp [32] (scI 170 t).2.2).1.length≤1000000000:=Nat.le_trans (cutp_len _ _) (Nat.le_trans (scI_len _ _) hl)
  clear e h h2
  generalize (cutp [32] (scI 170 t).2.2).1=u at hl ⊢
  generalize (scI 170 t).1=k
  unfold T117_7 T117_8 T117_9
  refine ⟨_,_,⟨(scI m.funcs.length u).2.2⟩,c140 H hl,fun h=>⟨fun _=>?_,fun h'=>(by cases h')⟩,fun h=>?_⟩
  ·unfold frP2
   rw [if_pos (by simpa using h)]
   exact ⟨rfl,rfl,rfl⟩
  have h:(scI m.funcs.length u).2.1=true:=by simpa using h
  have hr:=scI_rng _ _ h
  obtain ⟨f,hf,hmem⟩:=fun_at hr.1 hr.2
  obtain ⟨q1,q2,q3,q4⟩:=hm.f f hmem
  have q5:=quo_len f.name
  refine ⟨hr.1,f,hf,_,c112 H.toHasF (by omega),?_,?_,_,⟨(cutp ([32]++quo f.name++[32,97,116,32]) (scI m.funcs.length u).2.2).1⟩,c128 H.toHas38 _ _,fun h2=>?_,fun h2=>?_⟩
  ·rw [maxStr_eq];simp only [List.length_append,List.length_cons,List.length_nil];omega
  ·rw [maxStr_eq];simp only [List.length_append,List.length_cons,List.length_nil];omega
  ·unfold frP2
   rw [if_neg (by rw [h];decide),nameAt_eq hf,if_pos (by simpa using h2)]
   exact ⟨rfl,rfl,rfl⟩
  have e:frP2 m k u=frP3 m k (scI m.funcs.length u).1 (cutp ([32]++quo f.name++[32,97,116,32]) (scI m.funcs.length u).2.2).1:=by
   unfold frP2
   rw [if_neg (by rw [h];decide),nameAt_eq hf,if_neg (by simpa using h2)]
  rw [e]
  have hl:(cutp ([32]++quo f.name++[32,97,116,32]) (scI m.funcs.length u).2.2).1.length≤1000000000:=Nat.le_trans (cutp_len _ _) (Nat.le_trans (scI_len _ _) hl)
  clear e h h2 q5
  generalize (cutp ([32]++quo f.name++[32,97,116,32]) (scI m.funcs.length u).2.2).1=v at hl ⊢
  generalize (scI m.funcs.length u).1=fi at hr hf ⊢
  have hc:=codeAt_eq hf
  unfold T117_10 T117_11
  refine ⟨hr.1,f,hf,_,_,⟨(scI (codeAt m fi) v).2.2⟩,by rw [hc];exact c140 H hl,fun h=>⟨fun _=>?_,fun h'=>(by cases h')⟩,fun h=>⟨_,⟨(cutp [32] (scI (codeAt m fi) v).2.2).1⟩,c128 H.toHas38 [32] _,fun h2=>?_,fun h2=>?_⟩⟩
  ·unfold frP3
   rw [if_pos (by rw [hc];simpa using h),hc]
   exact ⟨rfl,rfl,rfl⟩
  ·unfold frP3
   rw [if_neg (by rw [hc];simpa using h),if_pos (by simpa using h2),hc]
   exact ⟨rfl,rfl,rfl⟩
  have e:frP3 m k fi v=frP4 k fi (scI (codeAt m fi) v).1 (cutp [32] (scI (codeAt m fi) v).2.2).1:=by
   unfold frP3
   rw [if_neg (by rw [hc];simpa using h),if_neg (by simpa using h2)]
  rw [e]
  unfold T117_12 frP4
  have hb:=modeI_rng (cutp [32] (scI (codeAt m fi) v).2.2).1
  refine ⟨_,c113 H.toHasF,rfl,rfl,_,c141 H.toHasF (l:=modes4) (by decide) _,rfl,?_,rfl⟩
  rw [max0,← hc]
  congr 1
  exact wr_u64 (show 0≤max 0 (modeI (cutp [32] (scI (codeAt m fi) v).2.2).1) by omega) (show max 0 (modeI (cutp [32] (scI (codeAt m fi) v).2.2).1)<_ by omega)
 ·rintro r ⟨x,y,z,rfl,rfl,rfl,rfl⟩
  rfl
theorem c118 {f:Fun} (hf:f.slots.length≤30∧∀s∈f.slots,s.name.length≤40) {s:Bytes} (hs:s.length≤1000000000) :∃y ok,(ok=(loP f s).isSome∧(ok=true→loP f s=some y))∧Pus prog 118 [f.av,.s s] (.tup [y.av,.b ok]):=by
 refine p118 H.f118 (f0:=f) (line1:=s) (K:=fun y ok=>ok=(loP f s).isSome∧(ok=true→loP f s=some y)) ?_
 unfold T118_0
 have no:loP f s=none→∀y:Loc,false=(loP f s).isSome∧(false=true→loP f s=some y):=fun h y=>by rw [h];exact ⟨rfl,fun h=>by cases h⟩
 refine ⟨_,⟨(cutp [32,32] s).1⟩,c128 H.toHas38 [32,32] s,fun h=>no ?_ _,fun h=>?_⟩
 ·unfold loP;rw [if_pos (by simpa using h)]
 have hl:(cutp [32,32] s).1.length≤1000000000:=Nat.le_trans (cutp_len _ _) hs
 refine ⟨_,_,⟨(scI f.slots.length (cutp [32,32] s).1).2.2⟩,c140 H hl,fun h2=>no ?_ _,fun h2=>?_⟩
 ·unfold loP;rw [if_neg (by simpa using h),if_pos (by simpa using h2)]
 have h2':(scI f.slots.length (cutp [32,32] s).1).2.1=true:=by simpa using h2
 have hr:=scI_rng _ _ h2'
 obtain ⟨sl,k1,k2,k3⟩:=slot_at hr.1 hr.2
 have q4:=hf.2 sl k2
 have q5:=quo_len sl.name
 refine ⟨hr.1,sl,k1,_,c112 H.toHasF (by omega),?_,?_,_,⟨(cutp ([32]++quo sl.name++[32,61,32]) (scI f.slots.length (cutp [32,32] s).1).2.2).1⟩,c128 H.toHas38 _ _,fun h3=>no ?_ _,fun h3=>?_⟩
 ·rw [maxStr_eq];simp only [List.length_append,List.length_cons,List.length_nil];omega
 ·rw [maxStr_eq];simp only [List.length_append,List.length_cons,List.length_nil];omega
 ·unfold loP;rw [if_neg (by simpa using h),if_neg (by simpa using h2),k3,if_pos (by simpa using h3)]
 unfold T118_1
 refine ⟨_,_,c74 H.toHas38 (Nat.le_trans (cutp_len _ _) (Nat.le_trans (scI_len _ _) hl)),?_⟩
 unfold loP
 rw [if_neg (by simpa using h),if_neg (by simpa using h2),k3,if_neg (by simpa using h3)]
 split
 ·rename_i h4;exact ⟨by rw [decide_eq_true h4];rfl,fun _=>rfl⟩
 ·rename_i h4;exact ⟨by rw [decide_eq_false h4];rfl,fun h5=>by simp only [decide_eq_true_eq] at h5;exact absurd h5 h4⟩
end
end Go.AM

namespace Go.AM
open Go
section
variable {prog:Prog} (H:HasG prog)
include H
end
end Go.AM

namespace Go.AM
open Go
theorem long_len {n:Nat} {l:List Bytes} (h:long n l=false) :∀s∈l,s.length≤n:=not_long.1 h
theorem loPs_snoc (f:Fun) :∀(l:List Bytes) (s:Bytes),loPs f (l++[s])=(match loPs f l with | none=>none | some ys=>match loP f s with | none=>none | some y=>some (ys++[y]))
 | [],s=>by
  simp only [List.nil_append,loPs]
  try (cases loP f s<;>rfl)
 | x::r,s=>by
  simp only [List.cons_append,loPs,loPs_snoc f r s]
  cases loP f x with
  | none=>rfl
  | some y=>
   cases loPs f r with
   | none=>rfl
   | some ys=>cases loP f s<;>rfl
theorem loPs_take {f:Fun} {l:List Bytes} {i:Nat} (hi:i<l.length):loPs f (l.take (i+1))=(match loPs f (l.take i) with | none=>none | some ys=>match loP f l[i] with | none=>none | some y=>some (ys++[y])):=by
 rw [List.take_succ_eq_append_getElem hi,loPs_snoc]
theorem loPs_none {f:Fun} :∀{l:List Bytes} {i:Nat},loPs f (l.take i)=none→loPs f l=none
 | [],i,h=>by rw [List.take_nil] at h;exact h
 | x::r,0,h=>by cases h
 | x::r,i+1,h=>by
  simp only [List.take_succ_cons,loPs] at h ⊢
  cases hx:loP f x with
  | none=>rfl
  | some y=>
   rw [hx] at h
   simp only at h ⊢
   cases hr:loPs f (r.take i) with
   | none=>rw [loPs_none hr]
   | some ys=>rw [hr] at h;cases h
theorem loP_wf {f:Fun} {s:Bytes} {y:Loc} (h:loP f s=some y):Wf y.value:=by
 unfold loP at h
 repeat' split at h
 all_goals first | (cases h;done) | (cases h;exact rvs_wf _)
theorem loPs_wf {f:Fun} :∀{l:List Bytes} {ys:List Loc},loPs f l=some ys→ys.length=l.length∧∀y∈ys,Wf y.value
 | [],ys,h=>by cases h;exact ⟨rfl,by simp⟩
 | s::r,ys,h=>by
  rw [loPs] at h
  cases hx:loP f s with
  | none=>rw [hx] at h;cases h
  | some y=>
   rw [hx] at h
   simp only at h
   cases hr:loPs f r with
   | none=>rw [hr] at h;cases h
   | some zs=>
    rw [hr] at h
    cases h
    obtain ⟨h1,h2⟩:=loPs_wf hr
    exact ⟨by simp [h1],fun y hy=>by rcases List.mem_cons.1 hy with rfl | hy;exact loP_wf hx;exact h2 y hy⟩
def rfT (m:Img) (l:List Bytes) (k:Int) (x:Frm) (f:Fun):Int × Frm × Int:=match loPs f (l.drop 1) with
 | none=>(0,fz,12)
 | some ys=>if frR m k { x with locals:=ys }=(l,0) then (k,{ x with locals:=ys },0) else (0,fz,12)
theorem rfR_many {m:Img} {l:List Bytes} (h:17<l.length∨long 1400060 l=true):rfR m l=(0,fz,4):=by unfold rfR;rw [if_pos h]
theorem rfR_nil {m:Img}:rfR m []=(0,fz,12):=by unfold rfR;rw [if_neg (by decide)]
theorem rfR_no {m:Img} {l:List Bytes} {s:Bytes} (h:¬(17<l.length∨long 1400060 l=true)) (hs:l[0]?=some s) (hf:(frP m s).2.2=false):rfR m l=(0,fz,12):=by
 cases l with
 | nil=>cases hs
 | cons t r=>
  injection hs with hs
  subst hs
  unfold rfR
  rw [if_neg h]
  simp only
  rw [if_pos hf]
theorem rfR_yes {m:Img} {l:List Bytes} {s:Bytes} {f:Fun} (h:¬(17<l.length∨long 1400060 l=true)) (hs:l[0]?=some s) (hf:(frP m s).2.2=true) (hm:m.funcs[(frP m s).2.1.func.toNat]?=some f):rfR m l=rfT m l (frP m s).1 (frP m s).2.1 f:=by
 cases l with
 | nil=>cases hs
 | cons t r=>
  injection hs with hs
  subst hs
  unfold rfR rfT
  rw [if_neg h]
  simp only
  rw [if_neg (by rw [hf];decide),hm]
  rfl
theorem any_long {l:List Bytes}:l.any (fun s=>decide (1400060<s.length))=long 1400060 l:=rfl
section
variable {prog:Prog} (H:HasG prog)
include H
theorem c84 {m:Img} (hm:OkI m) {l:List Bytes} (hl:l.length≤9223372036854775807):Pus prog 84 [m.av,.sl .ext (l.map rowS)] (.tup [.i .i64 (rfR m l).1,(rfR m l).2.1.av,.i .i64 (rfR m l).2.2]):=by
 obtain ⟨x,y,z,⟨rfl,rfl,rfl⟩,h⟩:=p84 H.f84 (m0:=m) (l1:=l) (K:=fun x y z=>x=(rfR m l).1∧y=(rfR m l).2.1∧z=(rfR m l).2.2) (by
  unfold T84_0 T84_1 T84_2
  refine ⟨fun h=>⟨fun _=>?_,fun h'=>(by cases h')⟩,fun h=>⟨_,fun o=>c115 H.toHasF (l:=l) (f:=(116,[])) (p:=fun s=>decide (1400060<s.length)) hl (fun s _=>c116 H.toHasF s) o,fun h2=>?_,fun h2=>?_⟩⟩
  ·rw [rfR_many (.inl (by omega))];exact ⟨rfl,rfl,rfl⟩
  ·rw [rfR_many (.inr h2)];exact ⟨rfl,rfl,rfl⟩
  have hok:¬(17<l.length∨long 1400060 l=true):=by
   rintro (h3 | h3)
   ·omega
   ·rw [any_long,h3] at h2;cases h2
  have hlen:=long_len (n:=1400060) (l:=l) h2
  unfold T84_3
  refine ⟨fun h3=>?_,fun h3=>?_⟩
  ·have:l=[]:=len0 (by omega)
   subst this
   rw [rfR_nil];exact ⟨rfl,rfl,rfl⟩
  have h0:0<l.length:=by omega
  have hs:l[0]?=some l[0]:=List.getElem?_eq_getElem h0
  have hs0:=hlen _ (List.getElem_mem h0)
  unfold T84_4 T84_5
  refine ⟨_,hs,_,_,_,c117 H hm (by omega),fun h4=>?_,fun h4=>?_⟩
  ·rw [rfR_no hok hs (by simpa using h4)];exact ⟨rfl,rfl,rfl⟩
  have h4:(frP m l[0]).2.2=true:=by simpa using h4
  obtain ⟨g1,g2,g3,g4⟩:=frP_ok h4
  obtain ⟨f,hf,hmem⟩:=fun_at g1 g2
  obtain ⟨q1,q2,q3,q4⟩:=hm.f f hmem
  rw [rfR_yes hok hs h4 hf]
  have g5:=frP_mode m l[0]
  have g6:=frP_locals m l[0]
  generalize (frP m l[0]).1=k at g3 g4 ⊢
  generalize (frP m l[0]).2.1=x at g1 g2 g5 g6 hf ⊢
  unfold T84_6
  refine ⟨by omega,fun P hP=>?_⟩
  have go :∀n i:Nat,i+n=(l.drop 1).length→∀ys,loPs f ((l.drop 1).take i)=some ys→P (i:Int) m fz { x with locals:=ys }:=by
   intro n
   induction n with
   | zero=>
    intro i hi ys hys
    apply hP
    rw [List.take_of_length_le (by omega)] at hys
    obtain ⟨a1,a2⟩:=loPs_wf hys
    have hx:WfX { x with locals:=ys }:=⟨g5,by rw [a1];simp;omega,a2⟩
    have e:rfT m l k x f=if frR m k { x with locals:=ys }=(l,0) then (k,{ x with locals:=ys },0) else (0,fz,12):=by unfold rfT;rw [hys]
    unfold T84_7 T84_8
    refine ⟨fun h=>absurd h (by omega),fun _=>⟨_,_,c82 H.toHasF hm hx,fun h5=>?_,fun h5=>?_⟩⟩
    ·unfold T84_9
     rw [e,if_neg (fun h6=>h5 (by rw [h6]))]
     exact ⟨fun _=>⟨rfl,rfl,rfl⟩,fun h'=>(by cases h')⟩
    ·have hb:(frR m k { x with locals:=ys }).1.length≤9223372036854775807:=by
      unfold frR
      split
      ·exact Nat.zero_le _
      ·split
       ·rw [frmL_eq (x:={ x with locals:=ys }) (f:=f) hf];simp [a1];omega
       ·exact Nat.zero_le _
     refine ⟨_,c119 H.toHasF hb,?_⟩
     unfold T84_9 T84_10
     refine ⟨fun h6=>?_,fun h6=>?_⟩
     ·rw [e,if_neg (fun h7=>by rw [h7] at h6;simp at h6)];exact ⟨rfl,rfl,rfl⟩
     ·have h6:(frR m k { x with locals:=ys }).1=l:=by simpa using h6
      rw [e,if_pos (by rw [← h6];exact Prod.ext rfl (Decidable.not_not.1 h5))];exact ⟨rfl,rfl,rfl⟩
   | succ n ih=>
    intro i hi ys hys
    have hd:(l.drop 1).length=l.length-1:=by simp
    have hil:i<(l.drop 1).length:=by omega
    apply hP
    have hsl:=hlen _ (List.mem_of_mem_drop (List.getElem_mem hil))
    obtain ⟨y,ok,⟨b1,b2⟩,b3⟩:=c118 H (f:=f) ⟨q2,q4⟩ (s:=(l.drop 1)[i]) (by omega)
    obtain ⟨a1,a2⟩:=loPs_wf hys
    have hyl:ys.length≤20:=by rw [a1];simp;omega
    have e:=loPs_take (f:=f) hil
    rw [hys] at e
    unfold T84_7
    refine ⟨fun _=>⟨by omega,_,get_at hil,g1,f,hf,y,ok,b3,fun h5=>?_,fun h5=>⟨⟨?_,?_⟩,?_⟩⟩,fun h=>absurd (show (i:Int)<((l.drop 1).length:Int) by omega) h⟩
    ·have:loP f (l.drop 1)[i]=none:=by
      rw [← Option.not_isSome_iff_eq_none,← b1]
      simpa using h5
     rw [this] at e
     have:rfT m l k x f=(0,fz,12):=by unfold rfT;rw [loPs_none e]
     rw [this];exact ⟨rfl,rfl,rfl⟩
    ·simp only [List.length_cons,List.length_nil,maxBytes_eq];omega
    ·simp only [List.length_cons,List.length_nil,maxBytes_eq];omega
    ·rw [wr_i64 (by omega) (by omega)]
     rw [b2 (by simpa using h5)] at e
     exact ih (i+1) (by omega) _ e
  have:=go (l.drop 1).length 0 (by omega) [] rfl
  rw [← g6] at this
  exact this)
 exact h
omit H in
theorem rfR_wfx (m:Img) (l:List Bytes):WfX (rfR m l).2.1:=by
 have hz:WfX fz:=⟨by decide,by decide,by simp⟩
 by_cases h:17<l.length∨long 1400060 l=true
 ·rw [rfR_many h];exact hz
 cases l with
 | nil=>rw [rfR_nil];exact hz
 | cons s r=>
  unfold rfR
  rw [if_neg h]
  simp only
  by_cases hf:(frP m s).2.2=false
  ·rw [if_pos hf];exact hz
  rw [if_neg hf]
  cases hg:m.funcs[(frP m s).2.1.func.toNat]? with
  | none=>exact hz
  | some f=>
   simp only
   cases hys:loPs f r with
   | none=>exact hz
   | some ys=>
    simp only
    split
    ·obtain ⟨a1,a2⟩:=loPs_wf hys
     refine ⟨frP_mode m s,?_,a2⟩
     simp only [a1]
     simp only [List.length_cons] at h
     omega
    ·exact hz
end
end Go.AM

namespace Go.AM
open Go
def wordsO:List Bytes:=[[],[110,111,114,109,97,108],[112,97,110,105,99],[100,101,97,100,108,111,99,107],[115,116,97,99,107],[104,101,97,112],[114,111,117,116,105,110,101,115],[115,116,101,112,115],[115,99,114,105,112,116]]
def outO (n:Int):Bytes × Int:=if n<1∨8<n then ([],2) else ((wordsO[n.toNat]?).getD [],0)
def rdOut (s:Bytes):Int × Int:=if idxOf s wordsO<1 then (0,12) else (idxOf s wordsO,0)
def nameOk (m:Img) (n:Int):Bool:=match m.funcs[n.toNat]? with
 | none=>false
 | some f=>decide (f.name.length≤16)
def callD (m:Img) (many:Int) (d:Dfr):Bool:=decide (0≤d.frame)&&decide (d.frame<many)&&decide (0≤d.func)&&nameOk m d.func&&(if d.hasArg=true then decide (d.arg.kind=1∨d.arg.kind=2∨d.arg.kind=4)&&fine d.arg else isZ d.arg)
def goesR (m:Img) (x:Rou):Bool:=if x.status=3 then decide (x.frames.length=0)&&decide (x.defers.length=0)&&decide (x.panics.length=0)&&decide (x.key=0)
 else decide (x.status=2∨(x.status=1∧x.key=0))&&decide (1≤x.frames.length∧x.frames.length≤170)&&decide (x.defers.length≤410)&&decide (chainR x.panics=0)&&x.frames.all (fitb m)&&x.defers.all (callD m x.frames.length)
def fitS (m:Img) (s:Sta):Bool:=decide (1≤s.outcome∧s.outcome≤8)&&decide (0≤s.steps∧s.steps≤5000)&&decide (s.routines.length≤16)&&decide (-1≤s.failing∧s.failing<s.routines.length)&&s.routines.all (goesR m)
structure WfR (x:Rou):Prop where
 st:0≤x.status
 k:-9223372036854775808≤x.key∧x.key<9223372036854775808
 f :∀y∈x.frames,WfX y
 d :∀y∈x.defers,Wf y.arg
 p :∀y∈x.panics,WfP y
 fl:x.frames.length≤1000000000000000000
 dl:x.defers.length≤1000000000000000000
 pl:x.panics.length≤1000000000000000000
structure WfR0 (x:Rou):Prop where
 st:0≤x.status
 k:-9223372036854775808≤x.key∧x.key<9223372036854775808
 f :∀y∈x.frames,WfX y
 d :∀y∈x.defers,Wf y.arg
 p :∀y∈x.panics,WfP y
 fl:x.frames.length≤9223372036854775807
 dl:x.defers.length≤9223372036854775807
 pl:x.panics.length≤9223372036854775807
structure WfS0 (s:Sta):Prop where
 o:0≤s.outcome
 r :∀x∈s.routines,WfR0 x
 n:s.routines.length≤9223372036854775807
structure WfS (s:Sta):Prop where
 o:0≤s.outcome
 r :∀x∈s.routines,WfR x
 n:s.routines.length≤9223372036854775807
def defL (m:Img) (d:Dfr):Bytes:=[100,101,102,101,114,32]++num d.frame++[32]++num d.func++[32]++quo (nameAt m d.func)++(if d.hasArg=true then [32,119,105,116,104,32]++txt d.arg else [])
def frmsL (m:Img):Nat→List Frm→List Bytes
 | _,[]=>[]
 | i,x::r=>frmL m i x++frmsL m (i+1) r
def partsL (m:Img) (x:Rou):List Bytes:=frmsL m 0 x.frames++x.defers.map (defL m)++x.panics.map shown
def statL (x:Rou):Bytes:=if x.status=1 then [114,101,97,100,121] else if x.status=3 then [100,111,110,101] else [98,108,111,99,107,101,100,32]++num x.key
def headR (g:Int) (x:Rou):Bytes:=[103,111,114,111,117,116,105,110,101,32]++num g++[58,32]++statL x
def sp2 (s:Bytes):Bytes:=[32,32]++s
def linR (m:Img) (g:Int) (x:Rou):List Bytes:=headR g x::(partsL m x).map sp2
def rouR (m:Img) (g:Int) (x:Rou):List Bytes × Int:=if g<0∨16≤g then ([],2) else if goesR m x=true then (linR m g x,0) else ([],8)
def headS (s:Sta):Bytes:=[111,117,116,99,111,109,101,32]++(outO s.outcome).1++[44,32,102,97,105,108,105,110,103,32]++num s.failing++[44,32,115,116,101,112,115,32]++num s.steps++[10]
def nlT (l:List Bytes):Bytes:=l.flatMap fun s=>s++[10]
def rousT (m:Img):Nat→List Rou→Bytes
 | _,[]=>[]
 | i,x::r=>nlT (linR m i x)++rousT m (i+1) r
def repT (m:Img) (s:Sta):Bytes:=headS s++rousT m 0 s.routines
def repR (m:Img) (s:Sta):Bytes × Int:=if fitS m s=true then (if 300000<(repT m s).length then ([],4) else (repT m s,0)) else ([],8)
def greatR (x:Rou):Bool:=decide (12<x.frames.length)||decide (12<x.defers.length)||decide (20<x.panics.length)||greatC x.panics||x.frames.any greatX||x.defers.any (fun d=>greatv d.arg)
def greatS (s:Sta):Bool:=(s.routines.take 21).any greatR||decide (20<s.routines.length)
theorem WfR.of {x:Rou} (h:WfR0 x) (hg:greatR x=false):WfR x:=by
 unfold greatR at hg
 simp only [Bool.or_eq_false_iff,decide_eq_false_iff_not] at hg
 obtain ⟨⟨⟨⟨⟨h1,h2⟩,h3⟩,_⟩,_⟩,_⟩:=hg
 exact ⟨h.st,h.k,h.f,h.d,h.p,by omega,by omega,by omega⟩
theorem WfS.of {s:Sta} (h:WfS0 s) (hg:greatS s=false):WfS s:=by
 unfold greatS at hg
 simp only [Bool.or_eq_false_iff,decide_eq_false_iff_not] at hg
 obtain ⟨h1,h2⟩:=hg
 rw [List.take_of_length_le (by omega),List.any_eq_false] at h1
 exact ⟨h.o,fun x hx=>WfR.of (h.r x hx) (by simpa using h1 x hx),h.n⟩
end Go.AM

namespace Go.AM
open Go
structure HasT (prog:Prog):Prop extends HasQ prog,HasF prog where
 f203:prog.fn 203=some pf203
 f204:prog.fn 204=some pf204
 f205:prog.fn 205=some pf205
 f207:prog.fn 207=some pf207
 f211:prog.fn 211=some pf211
 f213:prog.fn 213=some pf213
 f215:prog.fn 215=some pf215
 f216:prog.fn 216=some pf216
 f217:prog.fn 217=some pf217
 f218:prog.fn 218=some pf218
 f219:prog.fn 219=some pf219
 f220:prog.fn 220=some pf220
 f221:prog.fn 221=some pf221
 f224:prog.fn 224=some pf224
 f225:prog.fn 225=some pf225
 f227:prog.fn 227=some pf227
 f228:prog.fn 228=some pf228
 f229:prog.fn 229=some pf229
 f230:prog.fn 230=some pf230
 f231:prog.fn 231=some pf231
 f232:prog.fn 232=some pf232
 f233:prog.fn 233=some pf233
 f234:prog.fn 234=some pf234
 f236:prog.fn 236=some pf236
 f237:prog.fn 237=some pf237
 f238:prog.fn 238=some pf238
 f239:prog.fn 239=some pf239
theorem outO_1 {n:Int} (h0:1≤n) (h1:n≤8) :∃w,wordsO[n.toNat]?=some w∧outO n=(w,0)∧w.length≤8:=by
 obtain ⟨k,rfl⟩:=Int.eq_ofNat_of_zero_le (by omega:0≤n)
 have h1:k≤8:=by omega
 have h0:1≤k:=by omega
 match k,h0,h1 with
 | 1,_,_ | 2,_,_ | 3,_,_ | 4,_,_ | 5,_,_ | 6,_,_ | 7,_,_ | 8,_,_=>exact ⟨_,rfl,rfl,by decide⟩
section
variable {prog:Prog} (H:HasT prog)
include H
theorem c215:Pus prog 215 [] (.ag (wordsO.map AV.s)):=by
 obtain ⟨x,rfl,h⟩:=p215 H.f215 (K:=fun x=>x=wordsO) (by unfold T215_0;rfl)
 exact h
theorem c216 {n:Int} (h1:-9223372036854775808≤n) (h2:n<9223372036854775808):Pus prog 216 [.i .i64 n] (.s (num n)):=by
 obtain ⟨x,rfl,h⟩:=p216 H.f216 (n0:=n) (K:=fun x=>x=num n) (by
  unfold T216_0
  exact ⟨_,c15 H.toHas03 h1 h2,rfl⟩)
 exact h
theorem c211 (s:Bytes):Pus prog 211 [.s s] (.tup [.i .u8 (rdOut s).1,.i .i64 (rdOut s).2]):=by
 obtain ⟨x,y,⟨rfl,rfl⟩,h⟩:=p211 H.f211 (s0:=s) (K:=fun x y=>x=(rdOut s).1∧y=(rdOut s).2) (by
  unfold T211_0
  refine ⟨_,c215 H,rfl,rfl,_,c141 H.toHasF (by decide) s,fun h=>?_,fun h=>?_⟩
  ·unfold rdOut;rw [if_pos h];exact ⟨rfl,rfl⟩
  ·have:=idxOf_rng s wordsO
   have e:(wordsO.length:Int)=9:=rfl
   unfold rdOut;rw [if_neg h]
   exact ⟨wr_u8 (by omega) (by omega),rfl⟩)
 exact h
theorem c236 {l:List Rou} {f:Nat × List AV} {p:Rou→Bool} (hl:l.length≤9223372036854775807) (hf :∀x∈l,PuN prog f.1 ([x.av]++f.2) (fun r=>r=.b (p x))) (o:Own):PuN prog 236 [.sl o (l.map Rou.row),.fn f.1 f.2] (fun r=>r=.i .i64 (idxP p l)):=by
 refine (p236 H.f236 (s0:=l) (f1:=f) (K:=fun x=>x=idxP p l) ?_ o).to ?_
 ·unfold T236_0
  intro P hP
  refine loop_idx (Q:=fun x=>x=idxP p l) p l (fun h=>hP _ ?_) (fun i hi hp hq=>hP _ ?_) (fun i hi hp ih=>hP _ ?_) rfl
  ·unfold T236_1 T236_2
   exact ⟨fun h'=>absurd h' (by omega),fun _=>h⟩
  ·unfold T236_1
   refine ⟨fun _=>⟨by omega,_,get_at hi,_,hf _ (List.getElem_mem hi),fun _=>hq,fun h'=>?_⟩,fun h'=>absurd h' (by omega)⟩
   rw [hp] at h';cases h'
  ·unfold T236_1
   refine ⟨fun _=>⟨by omega,_,get_at hi,_,hf _ (List.getElem_mem hi),fun h'=>?_,fun _=>?_⟩,fun h'=>absurd h' (by omega)⟩
   ·rw [hp] at h';cases h'
   ·rw [wr_i64 (by omega) (by omega)];exact ih
 ·rintro r ⟨x,rfl,rfl⟩;rfl
theorem c224 {l:List Rou} {f:Nat × List AV} {p:Rou→Bool} (hl:l.length≤9223372036854775807) (hf :∀x∈l,PuN prog f.1 ([x.av]++f.2) (fun r=>r=.b (p x))) (o:Own):PuN prog 224 [.sl o (l.map Rou.row),.fn f.1 f.2] (fun r=>r=.b (l.any p)):=by
 refine (p224 H.f224 (s0:=l) (f1:=f) (K:=fun x=>x=l.any p) ?_ o).to ?_
 ·unfold T224_0
  refine ⟨_,fun o=>c236 H hl hf o,?_⟩
  have:=(idxP_any p l).2
  cases h:l.any p
  ·exact decide_eq_false (by rw [h] at this;intro h';exact absurd (this.1 h') (by decide))
  ·exact decide_eq_true (this.2 h)
 ·rintro r ⟨x,rfl,rfl⟩;rfl
theorem c237 {l:List Frm} {f:Nat × List AV} {p:Frm→Bool} (hl:l.length≤9223372036854775807) (hf :∀x∈l,PuN prog f.1 ([x.av]++f.2) (fun r=>r=.b (p x))) (o:Own):PuN prog 237 [.sl o (l.map Frm.row),.fn f.1 f.2] (fun r=>r=.i .i64 (idxP p l)):=by
 refine (p237 H.f237 (s0:=l) (f1:=f) (K:=fun x=>x=idxP p l) ?_ o).to ?_
 ·unfold T237_0
  intro P hP
  refine loop_idx (Q:=fun x=>x=idxP p l) p l (fun h=>hP _ ?_) (fun i hi hp hq=>hP _ ?_) (fun i hi hp ih=>hP _ ?_) rfl
  ·unfold T237_1 T237_2
   exact ⟨fun h'=>absurd h' (by omega),fun _=>h⟩
  ·unfold T237_1
   refine ⟨fun _=>⟨by omega,_,get_at hi,_,hf _ (List.getElem_mem hi),fun _=>hq,fun h'=>?_⟩,fun h'=>absurd h' (by omega)⟩
   rw [hp] at h';cases h'
  ·unfold T237_1
   refine ⟨fun _=>⟨by omega,_,get_at hi,_,hf _ (List.getElem_mem hi),fun h'=>?_,fun _=>?_⟩,fun h'=>absurd h' (by omega)⟩
   ·rw [hp] at h';cases h'
   ·rw [wr_i64 (by omega) (by omega)];exact ih
 ·rintro r ⟨x,rfl,rfl⟩;rfl
theorem c227 {l:List Frm} {f:Nat × List AV} {p:Frm→Bool} (hl:l.length≤9223372036854775807) (hf :∀x∈l,PuN prog f.1 ([x.av]++f.2) (fun r=>r=.b (p x))) (o:Own):PuN prog 227 [.sl o (l.map Frm.row),.fn f.1 f.2] (fun r=>r=.b (l.any p)):=by
 refine (p227 H.f227 (s0:=l) (f1:=f) (K:=fun x=>x=l.any p) ?_ o).to ?_
 ·unfold T227_0
  refine ⟨_,fun o=>c237 H hl hf o,?_⟩
  have:=(idxP_any p l).2
  cases h:l.any p
  ·exact decide_eq_false (by rw [h] at this;intro h';exact absurd (this.1 h') (by decide))
  ·exact decide_eq_true (this.2 h)
 ·rintro r ⟨x,rfl,rfl⟩;rfl
theorem c238 {l:List Dfr} {f:Nat × List AV} {p:Dfr→Bool} (hl:l.length≤9223372036854775807) (hf :∀x∈l,PuN prog f.1 ([x.av]++f.2) (fun r=>r=.b (p x))) (o:Own):PuN prog 238 [.sl o (l.map Dfr.row),.fn f.1 f.2] (fun r=>r=.i .i64 (idxP p l)):=by
 refine (p238 H.f238 (s0:=l) (f1:=f) (K:=fun x=>x=idxP p l) ?_ o).to ?_
 ·unfold T238_0
  intro P hP
  refine loop_idx (Q:=fun x=>x=idxP p l) p l (fun h=>hP _ ?_) (fun i hi hp hq=>hP _ ?_) (fun i hi hp ih=>hP _ ?_) rfl
  ·unfold T238_1 T238_2
   exact ⟨fun h'=>absurd h' (by omega),fun _=>h⟩
  ·unfold T238_1
   refine ⟨fun _=>⟨by omega,_,get_at hi,_,hf _ (List.getElem_mem hi),fun _=>hq,fun h'=>?_⟩,fun h'=>absurd h' (by omega)⟩
   rw [hp] at h';cases h'
  ·unfold T238_1
   refine ⟨fun _=>⟨by omega,_,get_at hi,_,hf _ (List.getElem_mem hi),fun h'=>?_,fun _=>?_⟩,fun h'=>absurd h' (by omega)⟩
   ·rw [hp] at h';cases h'
   ·rw [wr_i64 (by omega) (by omega)];exact ih
 ·rintro r ⟨x,rfl,rfl⟩;rfl
theorem c229 {l:List Dfr} {f:Nat × List AV} {p:Dfr→Bool} (hl:l.length≤9223372036854775807) (hf :∀x∈l,PuN prog f.1 ([x.av]++f.2) (fun r=>r=.b (p x))) (o:Own):PuN prog 229 [.sl o (l.map Dfr.row),.fn f.1 f.2] (fun r=>r=.b (l.any p)):=by
 refine (p229 H.f229 (s0:=l) (f1:=f) (K:=fun x=>x=l.any p) ?_ o).to ?_
 ·unfold T229_0
  refine ⟨_,fun o=>c238 H hl hf o,?_⟩
  have:=(idxP_any p l).2
  cases h:l.any p
  ·exact decide_eq_false (by rw [h] at this;intro h';exact absurd (this.1 h') (by decide))
  ·exact decide_eq_true (this.2 h)
 ·rintro r ⟨x,rfl,rfl⟩;rfl
theorem c239 {l:List Pan} {f:Nat × List AV} {p:Pan→Bool} (hl:l.length≤9223372036854775807) (hf :∀x∈l,PuN prog f.1 ([x.av]++f.2) (fun r=>r=.b (p x))) (o:Own):PuN prog 239 [.sl o (l.map Pan.row),.fn f.1 f.2] (fun r=>r=.i .i64 (idxP p l)):=by
 refine (p239 H.f239 (s0:=l) (f1:=f) (K:=fun x=>x=idxP p l) ?_ o).to ?_
 ·unfold T239_0
  intro P hP
  refine loop_idx (Q:=fun x=>x=idxP p l) p l (fun h=>hP _ ?_) (fun i hi hp hq=>hP _ ?_) (fun i hi hp ih=>hP _ ?_) rfl
  ·unfold T239_1 T239_2
   exact ⟨fun h'=>absurd h' (by omega),fun _=>h⟩
  ·unfold T239_1
   refine ⟨fun _=>⟨by omega,_,get_at hi,_,hf _ (List.getElem_mem hi),fun _=>hq,fun h'=>?_⟩,fun h'=>absurd h' (by omega)⟩
   rw [hp] at h';cases h'
  ·unfold T239_1
   refine ⟨fun _=>⟨by omega,_,get_at hi,_,hf _ (List.getElem_mem hi),fun h'=>?_,fun _=>?_⟩,fun h'=>absurd h' (by omega)⟩
   ·rw [hp] at h';cases h'
   ·rw [wr_i64 (by omega) (by omega)];exact ih
 ·rintro r ⟨x,rfl,rfl⟩;rfl
theorem c232 {l:List Pan} {f:Nat × List AV} {p:Pan→Bool} (hl:l.length≤9223372036854775807) (hf :∀x∈l,PuN prog f.1 ([x.av]++f.2) (fun r=>r=.b (p x))) (o:Own):PuN prog 232 [.sl o (l.map Pan.row),.fn f.1 f.2] (fun r=>r=.b (l.any p)):=by
 refine (p232 H.f232 (s0:=l) (f1:=f) (K:=fun x=>x=l.any p) ?_ o).to ?_
 ·unfold T232_0
  refine ⟨_,fun o=>c239 H hl hf o,?_⟩
  have:=(idxP_any p l).2
  cases h:l.any p
  ·exact decide_eq_false (by rw [h] at this;intro h';exact absurd (this.1 h') (by decide))
  ·exact decide_eq_true (this.2 h)
 ·rintro r ⟨x,rfl,rfl⟩;rfl
theorem c231 {m:Img} {many:Int} {d:Dfr} (hm:OkI m) (hd:Wf d.arg):Pus prog 231 [m.av,.i .i64 many,d.av] (.b (callD m many d)):=by
 obtain ⟨x,rfl,h⟩:=p231 H.f231 (m0:=m) (frames1:=many) (d2:=d) (K:=fun x=>x=callD m many d) (by
  unfold T231_0 T231_1
  refine ⟨fun h=>?_,fun h0=>⟨fun h=>?_,fun h1=>⟨fun h=>?_,fun h2=>⟨fun h=>?_,fun h3=>?_⟩⟩⟩⟩
  ·unfold callD;rw [decide_eq_false (by omega)];rfl
  ·unfold callD;rw [decide_eq_false (p:=d.frame<many) (by omega)];simp
  ·unfold callD;rw [decide_eq_false (p:=0≤d.func) (by omega)];simp
  ·unfold callD nameOk;rw [List.getElem?_eq_none (by omega)];simp
  obtain ⟨f,hf,hmem⟩:=fun_at (m:=m) (n:=d.func) (by omega) (by omega)
  refine ⟨by omega,f,hf,fun h=>?_,fun h4=>?_⟩
  ·unfold callD nameOk;rw [hf];simp only;rw [decide_eq_false (p:=f.name.length≤16) (by omega)];simp
  have e:callD m many d=(if d.hasArg=true then decide (d.arg.kind=1∨d.arg.kind=2∨d.arg.kind=4)&&fine d.arg else isZ d.arg):=by
   unfold callD nameOk;rw [hf];simp only
   rw [decide_eq_true (by omega),decide_eq_true (by omega),decide_eq_true (by omega),decide_eq_true (by omega)];rfl
  rw [e]
  unfold T231_2
  refine ⟨fun h=>?_,fun h=>?_⟩
  ·have ha:d.hasArg=false:=by simpa using h
   rw [ha]
   simp only [Bool.false_eq_true,if_false]
   unfold isZ
   refine ⟨fun k0=>⟨fun k1=>⟨fun k2=>⟨fun k3=>?_,fun k3=>?_⟩,fun k2=>?_⟩,fun k1=>?_⟩,fun k0=>?_⟩
   ·rw [decide_eq_true k0,decide_eq_true k1,decide_eq_true k2,decide_eq_true (by omega)];rfl
   ·rw [decide_eq_false (p:=d.arg.list.length=0) (by omega)];simp
   ·rw [decide_eq_false k2];simp
   ·rw [decide_eq_false k1];simp
   ·rw [decide_eq_false k0];rfl
  ·have ha:d.hasArg=true:=by simpa using h
   rw [ha,if_pos rfl]
   have fin :∀b:Bool,b=decide (d.arg.kind=1∨d.arg.kind=2∨d.arg.kind=4)→T231_4 prog (fun x=>x=(decide (d.arg.kind=1∨d.arg.kind=2∨d.arg.kind=4)&&fine d.arg)) b d:=fun b hb=>by
    unfold T231_4
    rw [← hb]
    refine ⟨fun h=>⟨_,c76 H.toHas38 hd,?_⟩,fun h=>by rw [h];rfl⟩
    rw [h,Bool.true_and]
    cases hq:fine d.arg
    ·exact decide_eq_false fun h'=>absurd (chk_fine.1 h') (by rw [hq];decide)
    ·exact decide_eq_true (chk_fine.2 hq)
   unfold T231_3
   refine ⟨fun k=>fin _ ?_,fun k=>⟨fun k'=>fin _ ?_,fun k'=>fin _ ?_⟩⟩<;>exact decide_eq_decide.2 (by omega))
 exact h
theorem c228 {m:Img} (hm:OkI m) {x:Frm} (hx:WfX x):PuN prog 228 ([x.av]++[.fp m.row]) (fun r=>r=.b (!fitb m x)):=by
 refine (p228 H.f228 (y0:=x) (t1:=m) (K:=fun y=>y=!fitb m x) ?_).to ?_
 ·unfold T228_0
  refine ⟨_,c86 H.toHasF hm hx,?_⟩
  cases hb:fitb m x
  ·rw [← fitR_no (by rw [hb];decide)];rfl
  ·rw [← fitR_yes hb];rfl
 ·rintro r ⟨x,rfl,rfl⟩;rfl
theorem c230 {m:Img} (hm:OkI m) {many:Int} {d:Dfr} (hd:Wf d.arg):PuN prog 230 ([d.av]++[.fp m.row,.fp [.i .i64 many]]) (fun r=>r=.b (!callD m many d)):=by
 refine (p230 H.f230 (y0:=d) (t1:=m) (t2:=many) (K:=fun y=>y=!callD m many d) ?_).to ?_
 ·unfold T230_0
  exact ⟨_,c231 H hm hd,rfl⟩
 ·rintro r ⟨x,rfl,rfl⟩;rfl
theorem c233 {p:Pan} (hp:WfP p):PuN prog 233 ([p.av]++[]) (fun r=>r=.b (!okP p)):=by
 refine (p233 H.f233 (y0:=p) (K:=fun y=>y=!okP p) ?_).to ?_
 ·unfold T233_0
  refine ⟨_,c158 H.toHasO hp,?_⟩
  unfold chkP
  cases hb:okP p<;>rfl
 ·rintro r ⟨x,rfl,rfl⟩;rfl
end
end Go.AM

namespace Go.AM
open Go
theorem chainR_all {l:List Pan}:decide (chainR l=0)=(decide (l.length≤410)&&l.all okP):=by
 unfold chainR
 by_cases h:410<l.length
 ·rw [if_pos h,decide_eq_false (p:=l.length≤410) (by omega)];rfl
 ·rw [if_neg h,decide_eq_true (p:=l.length≤410) (by omega)]
  cases l.all okP<;>rfl
theorem any_not {α:Type} (p:α→Bool) (l:List α):(!(l.any fun x=>!p x))=l.all p:=by
 rw [List.not_any_eq_all_not]
 simp
def goes0 (m:Img) (x:Rou):Bool:=decide (1≤x.frames.length∧x.frames.length≤170)&&decide (x.defers.length≤410)&&decide (chainR x.panics=0)&&x.frames.all (fitb m)&&x.defers.all (callD m x.frames.length)
theorem goes_3 {m:Img} {x:Rou} (h:x.status=3):goesR m x=(decide (x.frames.length=0)&&decide (x.defers.length=0)&&decide (x.panics.length=0)&&decide (x.key=0)):=by unfold goesR;rw [if_pos h]
theorem goes_2 {m:Img} {x:Rou} (h:x.status=2∨(x.status=1∧x.key=0)):goesR m x=goes0 m x:=by
 unfold goesR goes0
 rw [if_neg (by omega),decide_eq_true h]
 simp
theorem goes_no {m:Img} {x:Rou} (h3:x.status≠3) (h:¬(x.status=2∨(x.status=1∧x.key=0))):goesR m x=false:=by
 unfold goesR
 rw [if_neg h3,decide_eq_false h]
 rfl
theorem goes0_f {m:Img} {x:Rou} (h:¬(1≤x.frames.length∧x.frames.length≤170)):goes0 m x=false:=by unfold goes0;rw [decide_eq_false h];rfl
theorem goes0_d {m:Img} {x:Rou} (h:410<x.defers.length):goes0 m x=false:=by unfold goes0;rw [decide_eq_false (p:=x.defers.length≤410) (by omega)];simp
theorem goes0_p {m:Img} {x:Rou} (h:chainR x.panics≠0):goes0 m x=false:=by unfold goes0;rw [decide_eq_false h];simp
section
variable {prog:Prog} (H:HasT prog)
include H
theorem c219 {m:Img} {x:Rou} (hm:OkI m) (hx:WfR x):Pus prog 219 [m.av,x.av] (.b (goesR m x)):=by
 obtain ⟨y,rfl,h⟩:=p219 H.f219 (m0:=m) (x1:=x) (K:=fun y=>y=goesR m x) (by
  unfold T219_0 T219_1
  have hfl:=hx.fl
  have hdl:=hx.dl
  have hpl:=hx.pl
  have t3:(x.status=2∨(x.status=1∧x.key=0))→T219_3 prog (fun y=>y=goesR m x) m.types m.texts m.funcs x.status x.key x.frames x.defers x.panics (x.defers.length:Int) (x.panics.length:Int) (x.frames.length:Int):=fun hs=>by
   rw [goes_2 hs]
   unfold T219_3
   refine ⟨fun h=>(goes0_f (by omega)).symm,fun h1=>⟨fun h=>(goes0_f (by omega)).symm,fun h2=>⟨fun h=>(goes0_d (by omega)).symm,fun h3=>⟨fun h=>(goes0_p ?_).symm,fun h4=>?_⟩⟩⟩⟩
   ·unfold chainR;rw [if_pos (by omega)];decide
   have e:goes0 m x=(x.frames.all (fitb m)&&(x.defers.all (callD m x.frames.length)&&x.panics.all okP)):=by
    unfold goes0
    rw [decide_eq_true (by omega),decide_eq_true (by omega),chainR_all,decide_eq_true (by omega)]
    simp only [Bool.true_and]
    cases x.panics.all okP<;>simp
   rw [e]
   unfold T219_4
   refine ⟨_,fun o=>c227 H (l:=x.frames) (f:=(228,[.fp m.row])) (p:=fun y=>!fitb m y) (by omega) (fun y hy=>c228 H hm (hx.f y hy)) o,fun h=>?_,fun h=>?_⟩
   ·rw [any_not] at h
    rw [h,Bool.true_and]
    refine ⟨_,fun o=>c229 H (l:=x.defers) (f:=(230,[.fp m.row,.fp [.i .i64 (x.frames.length:Int)]])) (p:=fun y=>!callD m x.frames.length y) (by omega) (fun y hy=>c230 H hm (hx.d y hy)) o,fun h=>?_,fun h=>?_⟩
    ·rw [any_not] at h
     rw [h,Bool.true_and]
     refine ⟨_,fun o=>c232 H (l:=x.panics) (f:=(233,[])) (p:=fun y=>!okP y) (by omega) (fun y hy=>c233 H (hx.p y hy)) o,?_⟩
     rw [any_not]
    ·rw [any_not] at h
     rw [h];rfl
   ·rw [any_not] at h
    rw [h];rfl
  refine ⟨fun h3=>?_,fun h3=>⟨fun h1=>?_,fun h1=>⟨fun h2=>t3 (.inl h2),fun h2=>?_⟩⟩⟩
  ·rw [goes_3 h3]
   rw [wr_i64 (z:=(x.frames.length:Int)+(x.defers.length:Int)) (by omega) (by omega),wr_i64 (by omega) (by omega)]
   refine ⟨fun k=>?_,fun k=>?_⟩
   ·rw [decide_eq_true (p:=x.frames.length=0) (by omega),decide_eq_true (p:=x.defers.length=0) (by omega),decide_eq_true (p:=x.panics.length=0) (by omega)];rfl
   ·by_cases k1:x.frames.length=0
    ·by_cases k2:x.defers.length=0
     ·rw [decide_eq_false (p:=x.panics.length=0) (by omega)];simp
     ·rw [decide_eq_false k2];simp
    ·rw [decide_eq_false k1];simp
  ·unfold T219_2
   refine ⟨fun hk=>(goes_no h3 ?_).symm,fun hk=>t3 (.inr ⟨h1,by omega⟩)⟩
   omega
  ·unfold T219_5
   exact (goes_no h3 (by omega)).symm)
 exact h
theorem c225 {m:Img} (hm:OkI m) {x:Rou} (hx:WfR x):PuN prog 225 ([x.av]++[.fp m.row]) (fun r=>r=.b (!goesR m x)):=by
 refine (p225 H.f225 (x0:=x) (t1:=m) (K:=fun y=>y=!goesR m x) ?_).to ?_
 ·unfold T225_0
  exact ⟨_,c219 H hm hx,rfl⟩
 ·rintro r ⟨x,rfl,rfl⟩;rfl
def fitSR (m:Img) (s:Sta):Int:=if fitS m s=true then 0 else 8
theorem c213 {m:Img} {s:Sta} (hm:OkI m) (hs:WfS s):Pus prog 213 [m.av,s.av] (.i .i64 (fitSR m s)):=by
 obtain ⟨y,rfl,h⟩:=p213 H.f213 (m0:=m) (s1:=s) (K:=fun y=>y=fitSR m s) (by
  unfold T213_0 fitSR fitS
  refine ⟨fun h=>?_,fun h1=>⟨fun h=>?_,fun h2=>⟨fun h=>?_,fun h3=>⟨fun h=>?_,fun h4=>⟨fun h=>?_,fun h5=>⟨fun h=>?_,fun h6=>⟨fun h=>?_,fun h7=>?_⟩⟩⟩⟩⟩⟩⟩
  ·rw [decide_eq_false (by omega)];rfl
  ·rw [decide_eq_false (by omega)];rfl
  ·rw [decide_eq_false (p:=0≤s.steps∧_) (by omega)];simp
  ·rw [decide_eq_false (p:=0≤s.steps∧_) (by omega)];simp
  ·rw [decide_eq_false (p:=s.routines.length≤16) (by omega)];simp
  ·rw [decide_eq_false (p:=-1≤s.failing∧_) (by omega)];simp
  ·rw [decide_eq_false (p:=-1≤s.failing∧_) (by omega)];simp
  rw [decide_eq_true (by omega),decide_eq_true (by omega),decide_eq_true (by omega),decide_eq_true (by omega)]
  simp only [Bool.true_and]
  refine ⟨_,fun o=>c224 H (l:=s.routines) (f:=(225,[.fp m.row])) (p:=fun y=>!goesR m y) hs.n (fun y hy=>c225 H hm (hs.r y hy)) o,fun h=>?_,fun h=>?_⟩
  ·have:=any_not (goesR m) s.routines
   rw [h] at this
   rw [← this];rfl
  ·have:=any_not (goesR m) s.routines
   rw [h] at this
   rw [← this];rfl)
 exact h
theorem c204 {x:Rou} (hx:WfR0 x):Pus prog 204 [x.av] (.b (greatR x)):=by
 obtain ⟨y,rfl,h⟩:=p204 H.f204 (x0:=x) (K:=fun y=>y=greatR x) (by
  have hfl:=hx.fl
  have hdl:=hx.dl
  have hpl:=hx.pl
  unfold T204_0 greatR
  refine ⟨fun h=>?_,fun h1=>⟨fun h=>?_,fun h2=>⟨fun h=>?_,fun h3=>⟨_,c162 H.toHasQ hx.p,fun h=>?_,fun h4=>?_⟩⟩⟩⟩
  ·rw [decide_eq_true (by omega)];rfl
  ·rw [decide_eq_true (p:=12<x.defers.length) (by omega)];simp
  ·rw [decide_eq_true (p:=20<x.panics.length) (by omega)];simp
  ·rw [h];simp
  rw [decide_eq_false (by omega),decide_eq_false (by omega),decide_eq_false (by omega),h4]
  simp only [Bool.false_or]
  unfold T204_1
  intro P hP
  refine loop_inv0 (P:=fun i=>P i x) x.frames.length (fun i=>∀y∈x.frames.take i,greatX y=false) (by simp) (fun hI=>hP _ _ ?_) fun i hi hI next=>hP _ _ ?_
  ·rw [List.take_length] at hI
   rw [List.any_eq_false.2 fun y hy=>by rw [hI y hy];decide]
   simp only [Bool.false_or]
   unfold T204_2 T204_3
   refine ⟨fun h=>absurd h (by omega),fun _ P hP=>?_⟩
   refine loop_inv0 (P:=fun i=>P i x) x.defers.length (fun i=>∀y∈x.defers.take i,greatv y.arg=false) (by simp) (fun hI=>hP _ _ ?_) fun i hi hI next=>hP _ _ ?_
   ·rw [List.take_length] at hI
    rw [List.any_eq_false.2 fun y hy=>by rw [hI y hy];decide]
    unfold T204_4 T204_5
    exact ⟨fun h=>absurd h (by omega),fun _=>rfl⟩
   ·unfold T204_4
    refine ⟨fun _=>⟨by omega,_,get_at hi,_,c71 H.toHas38 (hx.d _ (List.getElem_mem hi)),fun h=>?_,fun h=>?_⟩,fun h=>absurd (show (i:Int)<x.defers.length by omega) h⟩
    ·exact (List.any_eq_true.2 ⟨_,List.getElem_mem hi,h⟩).symm
    ·rw [wr_i64 (by omega) (by omega)]
     refine next fun y hy=>?_
     rw [List.take_succ_eq_append_getElem hi] at hy
     rcases List.mem_append.1 hy with hy | hy
     ·exact hI y hy
     ·rw [List.mem_singleton.1 hy];exact h
  ·unfold T204_2
   refine ⟨fun _=>⟨by omega,_,get_at hi,_,c80 H.toHasF (hx.f _ (List.getElem_mem hi)),fun h=>?_,fun h=>?_⟩,fun h=>absurd (show (i:Int)<x.frames.length by omega) h⟩
   ·rw [List.any_eq_true.2 ⟨_,List.getElem_mem hi,h⟩];rfl
   ·rw [wr_i64 (by omega) (by omega)]
    refine next fun y hy=>?_
    rw [List.take_succ_eq_append_getElem hi] at hy
    rcases List.mem_append.1 hy with hy | hy
    ·exact hI y hy
    ·rw [List.mem_singleton.1 hy];exact h)
 exact h
theorem c203 {s:Sta} (hs:WfS0 s):Pus prog 203 [s.av] (.b (greatS s)):=by
 obtain ⟨y,rfl,h⟩:=p203 H.f203 (s0:=s) (K:=fun y=>y=greatS s) (by
  have hn:=hs.n
  unfold T203_0
  intro P hP
  have fin:(s.routines.take 21).any greatR=false→T203_3 prog (fun x=>x=greatS s) s:=by
   intro h
   unfold T203_3 greatS
   rw [h,Bool.false_or]
   exact decide_eq_decide.2 (by omega)
  refine loop_inv0 (P:=fun i=>P i s) (min s.routines.length 21) (fun i=>(s.routines.take i).any greatR=false) (by simp) (fun hI=>hP _ _ ?_) fun i hi hI ihP=>hP _ _ ?_
  ·unfold T203_1
   refine ⟨fun h=>⟨fun h'=>absurd h' (by omega),fun _=>fin ?_⟩,fun h=>fin ?_⟩
   ·rwa [show min s.routines.length 21=21 by omega] at hI
   ·rw [show min s.routines.length 21=s.routines.length by omega,List.take_length] at hI
    rw [List.any_eq_false] at hI ⊢
    exact fun x hx=>hI x (List.mem_of_mem_take hx)
  ·have hil:i<s.routines.length:=by omega
   unfold T203_1
   refine ⟨fun _=>⟨fun _=>?_,fun h=>absurd (show (i:Int)≤20 by omega) h⟩,fun h=>absurd (show (i:Int)<s.routines.length by omega) h⟩
   unfold T203_2
   refine ⟨by omega,_,get_at hil,_,c204 H (hs.r _ (List.getElem_mem hil)),fun h=>?_,fun h=>?_⟩
   ·unfold greatS
    rw [List.any_eq_true.2 ⟨s.routines[i],by rw [List.mem_take_iff_getElem];exact ⟨i,by omega,rfl⟩,h⟩]
    rfl
   ·rw [wr_i64 (by omega) (by omega)]
    exact ihP (by rw [List.take_succ_eq_append_getElem hil,List.any_append,hI];simpa using h))
 exact h
end
end Go.AM

namespace Go.AM
open Go
theorem nameAt_eq' {m:Img} {n:Int} {f:Fun} (h:m.funcs[n.toNat]?=some f):nameAt m n=f.name:=by unfold nameAt;rw [h];rfl
theorem len_cat2 (a b:Bytes):(a++b).length=a.length+b.length:=List.length_append
theorem frmL_len {m:Img} {k:Int} {x:Frm} (hm:OkI m) (hx:WfX x) (hb:fitb m x=true):(∀s∈frmL m k x,s.length≤1301000)∧(frmL m k x).length≤17:=by
 obtain ⟨f0,f1,f,hf,hF⟩:=fitb_iff.1 hb
 obtain ⟨g1,g2,g3,g4,g5,g6⟩:=fitF_iff.1 hF
 obtain ⟨q1,q2,q3,q4⟩:=hm.f f (List.mem_of_getElem? hf)
 have l1:=num_len k
 have l2:=num_len x.func
 have l3:=num_len x.pos
 have l4:=quo_len f.name
 have l5:=modeW_len hx.m f1
 rw [frmL_eq hf]
 refine ⟨fun s hs=>?_,?_⟩
 ·rcases List.mem_cons.1 hs with rfl | hs
  ·unfold headL
   simp only [List.length_append,List.length_cons,List.length_nil]
   omega
  ·obtain ⟨l,hl,rfl⟩:=List.mem_map.1 hs
   obtain ⟨a1,a2,a3⟩:=asc_mem g6 _ hl
   obtain ⟨s,b1,b2,b3⟩:=slot_at (f:=f) (n:=l.slot) (by omega) (by omega)
   have c1:=num_len l.slot
   have c2:=quo_len s.name
   have c3:=q4 s b2
   have c4:=fine_len a3
   unfold locL
   rw [b3]
   simp only [List.length_append,List.length_cons,List.length_nil]
   omega
 ·rw [List.length_cons,List.length_map]
  rcases asc_len g6 with h | h
  ·rw [h];decide
  ·omega
theorem frmsL_len {m:Img} (hm:OkI m) :∀(l:List Frm) (i:Nat),(∀x∈l,WfX x)→(∀x∈l,fitb m x=true)→(∀s∈frmsL m i l,s.length≤1301000)∧(frmsL m i l).length≤17*l.length
 | [],i,_,_=>⟨fun s hs=>(by cases hs),Nat.le_refl _⟩
 | x::r,i,hw,hb=>by
  obtain ⟨h1,h2⟩:=frmL_len (k:=i) hm (hw x List.mem_cons_self) (hb x List.mem_cons_self)
  obtain ⟨h3,h4⟩:=frmsL_len hm r (i+1) (fun y hy=>hw y (List.mem_cons_of_mem _ hy)) fun y hy=>hb y (List.mem_cons_of_mem _ hy)
  rw [frmsL]
  refine ⟨fun s hs=>?_,?_⟩
  ·rcases List.mem_append.1 hs with hs | hs
   ·exact h1 s hs
   ·exact h3 s hs
  ·rw [List.length_append,List.length_cons];omega
theorem frmsL_snoc (m:Img) :∀(l:List Frm) (i:Nat) (x:Frm),frmsL m i (l++[x])=frmsL m i l++frmL m ((i+l.length:Nat):Int) x
 | [],i,x=>by simp [frmsL]
 | y::r,i,x=>by
  rw [List.cons_append,frmsL,frmsL_snoc m r (i+1) x,frmsL,List.append_assoc,List.length_cons,show i+1+r.length=i+(r.length+1) by omega]
theorem callD_iff {m:Img} {many:Int} {d:Dfr} (h:callD m many d=true):0≤d.frame∧d.frame<many∧0≤d.func∧(∃f,m.funcs[d.func.toNat]?=some f∧f.name.length≤16∧nameAt m d.func=f.name)∧(d.hasArg=true→fine d.arg=true∧(d.arg.kind=1∨d.arg.kind=2∨d.arg.kind=4))∧(d.hasArg=false→d.arg=vz):=by
 unfold callD nameOk at h
 cases hf:m.funcs[d.func.toNat]? with
 | none=>rw [hf] at h;simp at h
 | some f=>
  rw [hf] at h
  simp only [Bool.and_eq_true,decide_eq_true_eq] at h
  obtain ⟨⟨⟨⟨h1,h2⟩,h3⟩,h4⟩,h5⟩:=h
  refine ⟨h1,h2,h3,⟨f,rfl,h4,nameAt_eq' hf⟩,fun ha=>?_,fun ha=>?_⟩
  ·rw [ha,if_pos rfl,Bool.and_eq_true,decide_eq_true_eq] at h5
   exact ⟨h5.2,h5.1⟩
  ·rw [ha] at h5
   exact isZ_true.1 (by simpa using h5)
theorem defL_len {m:Img} {many:Int} {d:Dfr} (h:callD m many d=true):(defL m d).length≤1301000:=by
 obtain ⟨h1,h2,h3,⟨f,hf,h4,h5⟩,h6,_⟩:=callD_iff h
 have l1:=num_len d.frame
 have l2:=num_len d.func
 have l3:=quo_len f.name
 unfold defL
 rw [h5]
 simp only [List.length_append,List.length_cons,List.length_nil]
 cases ha:d.hasArg
 ·simp only [Bool.false_eq_true,if_false,List.length_nil];omega
 ·have:=fine_len (h6 ha).1
  simp only [if_true,List.length_append,List.length_cons,List.length_nil];omega
structure Go0 (m:Img) (x:Rou):Prop where
 f:x.frames.length≤170
 d:x.defers.length≤410
 p:x.panics.length≤410
 fb :∀y∈x.frames,fitb m y=true
 db :∀y∈x.defers,callD m x.frames.length y=true
 pb :∀y∈x.panics,okP y=true
 st:x.status=1∨x.status=2∨x.status=3
theorem Go0.of {m:Img} {x:Rou} (h:goesR m x=true):Go0 m x:=by
 by_cases h3:x.status=3
 ·rw [goes_3 h3] at h
  simp only [Bool.and_eq_true,decide_eq_true_eq,List.length_eq_zero_iff] at h
  obtain ⟨⟨⟨k1,k2⟩,k3⟩,k4⟩:=h
  exact ⟨by rw [k1];decide,by rw [k2];decide,by rw [k3];decide,by rw [k1];simp,by rw [k2];simp,by rw [k3];simp,.inr (.inr h3)⟩
 ·by_cases h2:x.status=2∨(x.status=1∧x.key=0)
  ·rw [goes_2 h2] at h
   unfold goes0 at h
   simp only [Bool.and_eq_true,decide_eq_true_eq,List.all_eq_true] at h
   obtain ⟨⟨⟨⟨k1,k2⟩,k3⟩,k4⟩,k5⟩:=h
   exact ⟨k1.2,k2,(chain_ok k3).1,k4,k5,(chain_ok k3).2,by omega⟩
  ·rw [goes_no h3 h2] at h;cases h
theorem parts_len {m:Img} {x:Rou} (hm:OkI m) (hx:WfR x) (h:Go0 m x):(∀s∈partsL m x,s.length≤1301000)∧(partsL m x).length≤4000:=by
 obtain ⟨h1,h2⟩:=frmsL_len hm x.frames 0 hx.f h.fb
 have a:=h.f
 have b:=h.d
 have c:=h.p
 refine ⟨fun s hs=>?_,?_⟩
 ·unfold partsL at hs
  rcases List.mem_append.1 hs with hs | hs
  ·rcases List.mem_append.1 hs with hs | hs
   ·exact h1 s hs
   ·obtain ⟨d,hd,rfl⟩:=List.mem_map.1 hs
    exact defL_len (h.db d hd)
  ·obtain ⟨p,hp,rfl⟩:=List.mem_map.1 hs
   have:=shown_len (h.pb p hp)
   exact Nat.le_trans this (by decide)
 ·unfold partsL
  simp only [List.length_append,List.length_map]
  omega
theorem statL_len (x:Rou):(statL x).length≤80:=by
 have:=num_len x.key
 unfold statL
 split
 ·decide
 ·split
  ·decide
  ·simp only [List.length_append,List.length_cons,List.length_nil];omega
theorem headR_len (g:Int) (x:Rou):(headR g x).length≤200:=by
 have:=num_len g
 have:=statL_len x
 unfold headR
 simp only [List.length_append,List.length_cons,List.length_nil];omega
theorem linR_len {m:Img} {g:Int} {x:Rou} (hm:OkI m) (hx:WfR x) (h:Go0 m x):(∀s∈linR m g x,s.length≤1301002)∧(linR m g x).length≤4001:=by
 obtain ⟨h1,h2⟩:=parts_len hm hx h
 unfold linR
 refine ⟨fun s hs=>?_,?_⟩
 ·rcases List.mem_cons.1 hs with rfl | hs
  ·exact Nat.le_trans (headR_len g x) (by decide)
  ·obtain ⟨t,ht,rfl⟩:=List.mem_map.1 hs
   have:=h1 t ht
   unfold sp2
   simp only [List.length_append,List.length_cons,List.length_nil];omega
 ·rw [List.length_cons,List.length_map];omega
theorem nlT_len {B:Nat} :∀{l:List Bytes},(∀s∈l,s.length≤B)→(nlT l).length≤(B+1)*l.length
 | [],_=>Nat.le_refl _
 | s::r,h=>by
  have h1:=h s List.mem_cons_self
  have h2:=nlT_len fun t ht=>h t (List.mem_cons_of_mem _ ht)
  unfold nlT at h2 ⊢
  simp only [List.flatMap_cons,List.length_append,List.length_cons,List.length_nil]
  rw [Nat.mul_succ]
  omega
theorem nlT_app (a b:List Bytes):nlT (a++b)=nlT a++nlT b:=by unfold nlT;rw [List.flatMap_append]
theorem nlT_take {l:List Bytes} {i:Nat} (h:i<l.length):nlT (l.take (i+1))=nlT (l.take i)++(l[i]++[10]):=by
 rw [List.take_succ_eq_append_getElem h,nlT_app]
 simp [nlT]
theorem nlT_lin {m:Img} {g:Int} {x:Rou} (hm:OkI m) (hx:WfR x) (h:Go0 m x) (i:Nat):(nlT ((linR m g x).take i)).length≤5300000000:=by
 obtain ⟨h1,h2⟩:=linR_len (g:=g) hm hx h
 have h3:=nlT_len (l:=(linR m g x).take i) (B:=1301002) fun s hs=>h1 s (List.mem_of_mem_take hs)
 have h4:((linR m g x).take i).length≤4001:=by rw [List.length_take];omega
 have h5:1301003*((linR m g x).take i).length≤1301003*4001:=Nat.mul_le_mul_left _ h4
 exact Nat.le_trans h3 (Nat.le_trans h5 (by decide))
theorem rousT_snoc (m:Img) :∀(l:List Rou) (i:Nat) (x:Rou),rousT m i (l++[x])=rousT m i l++nlT (linR m ((i+l.length:Nat):Int) x)
 | [],i,x=>by simp [rousT]
 | y::r,i,x=>by
  rw [List.cons_append,rousT,rousT_snoc m r (i+1) x,rousT,List.append_assoc,List.length_cons,show i+1+r.length=i+(r.length+1) by omega]
theorem rousT_len {m:Img} (hm:OkI m) :∀(l:List Rou) (i:Nat),(∀x∈l,WfR x)→(∀x∈l,Go0 m x)→(rousT m i l).length≤5300000000*l.length
 | [],i,_,_=>Nat.le_refl _
 | x::r,i,hw,hb=>by
  have h1:=nlT_lin (g:=i) hm (hw x List.mem_cons_self) (hb x List.mem_cons_self) (linR m i x).length
  rw [List.take_length] at h1
  have h2:=rousT_len hm r (i+1) (fun y hy=>hw y (List.mem_cons_of_mem _ hy)) fun y hy=>hb y (List.mem_cons_of_mem _ hy)
  rw [rousT,List.length_append,List.length_cons]
  omega
theorem rouR_yes {m:Img} {g:Int} {x:Rou} (h:¬(g<0∨16≤g)) (h1:goesR m x=true):rouR m g x=(linR m g x,0):=by unfold rouR;rw [if_neg h,if_pos h1]
theorem rouR_no {m:Img} {g:Int} {x:Rou} (h:¬(g<0∨16≤g)) (h1:goesR m x=false):rouR m g x=([],8):=by unfold rouR;rw [if_neg h,if_neg (by rw [h1];decide)]
theorem rouR_bad {m:Img} {g:Int} {x:Rou} (h:g<0∨16≤g):rouR m g x=([],2):=by unfold rouR;rw [if_pos h]
section
variable {prog:Prog} (H:HasT prog)
include H
theorem c217 {b:List UInt8} (hs:b.length≤maxBytes):PuX prog 217 (Bl b) [] (fun r=>r=.i .i64 (b.length:Int)) (Bl b):=by
 refine PuX.of H.f217 rfl Bl.out fun d st k v hk hB=>?_
 obtain ⟨c0,o,hb,hc0,hap,hbig⟩:=hB
 refine W.seq (W.reg0 rfl fun nx _=>s_mv rfl (s_nil (W.seq (W.reg0 rfl fun nx2 _=>?_))))
 refine s_mv (v:=.p k v 0) rfl (s_nilP rfl (s_fadP rfl (s_loadP (w:=.sl o (b.map row8)) rfl hb rfl rfl (s_lenL (f:=row8) rfl (s_mv rfl (s_nil (W.ret ?_)))))))
 refine ⟨.inr rfl,_,rfl,rfl,⟨c0,o,hb,hc0,hap,hbig⟩,Fr.refl⟩
theorem c234 {m:Img} {many:Int} {d:Dfr} (hm:OkI m) (hd:Wf d.arg) (hn:many≤1000) (h:callD m many d=true):Pus prog 234 [m.av,d.av] (.tup [.s (defL m d),.i .i64 0]):=by
 obtain ⟨x,y,⟨rfl,rfl⟩,h⟩:=p234 H.f234 (m0:=m) (d1:=d) (K:=fun x y=>x=defL m d∧y=0) (by
  obtain ⟨h1,h2,h3,⟨f,hf,h4,h5⟩,h6,_⟩:=callD_iff h
  have hfl:d.func<m.funcs.length:=by
   have:=(List.getElem?_eq_some_iff.1 hf).1
   omega
  have hmn:=hm.n
  have l1:=num_len d.frame
  have l2:=num_len d.func
  have l3:=quo_len f.name
  have hq:=c11 H.toHas03 f.name
  rw [quoR_ok (by omega)] at hq
  unfold T234_0
  refine ⟨h3,f,hf,_,_,hq,fun h=>absurd rfl h,fun _=>⟨_,c216 H (by omega) (by omega),?_,?_,_,c216 H (by omega) (by omega),?_,?_,?_,fun ha=>?_,fun ha=>?_⟩⟩
  all_goals try (rw [maxStr_eq];simp only [List.length_append,List.length_cons,List.length_nil];omega)
  ·have hfi:=(h6 ha).1
   have l4:=fine_len hfi
   have k:=c72 H.toHas38 hd
   rw [if_pos hfi,chk_fine.2 hfi] at k
   refine ⟨_,_,k,fun h=>absurd rfl h,fun _=>⟨?_,?_,?_⟩⟩
   ·rw [maxStr_eq];simp only [List.length_cons,List.length_nil];omega
   ·rw [maxStr_eq];simp only [List.length_append,List.length_cons,List.length_nil];omega
   ·unfold T234_1 defL
    rw [h5,ha]
    exact ⟨rfl,rfl⟩
  ·unfold T234_1 defL
   rw [h5,ha]
   exact ⟨by simp,rfl⟩)
 exact h
theorem c220 {m:Img} {x:Rou} (hm:OkI m) (hx:WfR x) (h:Go0 m x):Pus prog 220 [m.av,x.av] (.tup [.sl .ext ((partsL m x).map rowS),.i .i64 0]):=by
 obtain ⟨y,z,⟨rfl,rfl⟩,h⟩:=p220 H.f220 (m0:=m) (x1:=x) (K:=fun y z=>y=partsL m x∧z=0) (by
  obtain ⟨_,hl⟩:=parts_len hm hx h
  have a:=h.f
  have b:=h.d
  have c:=h.p
  have b1 :∀i,i≤x.frames.length→(frmsL m 0 (x.frames.take i)).length≤17*170:=fun i hi=>by
   have h1:=(frmsL_len hm (x.frames.take i) 0 (fun y hy=>hx.f y (List.mem_of_mem_take hy)) fun y hy=>h.fb y (List.mem_of_mem_take hy)).2
   rw [List.length_take] at h1
   omega
  have b0:(frmsL m 0 x.frames).length≤17*170:=by have:=b1 x.frames.length (Nat.le_refl _);rwa [List.take_length] at this
  unfold T220_0 T220_1 T220_2
  intro P hP
  refine loop_up (P:=fun o i=>P o i m x) (fun i=>frmsL m 0 (x.frames.take i)) x.frames.length (hP _ _ _ _ ?_) fun i hi ih=>hP _ _ _ _ ?_
  ·rw [List.take_length]
   unfold T220_3 T220_4
   refine ⟨fun h=>absurd h (by omega),fun _ P hP=>?_⟩
   have ho:frmsL m 0 x.frames=frmsL m 0 x.frames++(x.defers.take 0).map (defL m):=by simp
   rw [ho]
   refine loop_up (P:=fun o i=>P o i m x) (fun i=>frmsL m 0 x.frames++(x.defers.take i).map (defL m)) x.defers.length (hP _ _ _ _ ?_) fun i hi ih=>hP _ _ _ _ ?_
   ·rw [List.take_length]
    unfold T220_5 T220_6
    refine ⟨fun h=>absurd h (by omega),fun _ P hP=>?_⟩
    have ho:frmsL m 0 x.frames++x.defers.map (defL m)=frmsL m 0 x.frames++x.defers.map (defL m)++(x.panics.take 0).map shown:=by simp
    rw [ho]
    refine loop_up (P:=fun o i=>P o i) (fun i=>frmsL m 0 x.frames++x.defers.map (defL m)++(x.panics.take i).map shown) x.panics.length (hP _ _ ?_) fun i hi ih=>hP _ _ ?_
    ·rw [List.take_length]
     unfold T220_7 T220_8
     exact ⟨fun h=>absurd h (by omega),fun _=>⟨rfl,rfl⟩⟩
    ·have hok:=h.pb _ (List.getElem_mem hi)
     have k:=c154 H.toHasO (hx.p _ (List.getElem_mem hi))
     rw [show lnP x.panics[i]=(shown x.panics[i],0) by unfold lnP;rw [if_pos hok]] at k
     unfold T220_7
     refine ⟨fun _=>⟨by omega,_,get_at hi,_,_,k,fun h=>absurd rfl h,fun _=>⟨⟨?_,?_⟩,?_⟩⟩,fun h=>absurd (show (i:Int)<x.panics.length by omega) h⟩
     ·rw [maxBytes_eq];simp only [List.length_append,List.length_cons,List.length_nil,List.length_map,List.length_take];omega
     ·rw [maxBytes_eq];simp only [List.length_append,List.length_cons,List.length_nil,List.length_map,List.length_take];omega
     ·rw [wr_i64 (by omega) (by omega)]
      rw [map_take_snoc shown hi,← List.append_assoc] at ih
      exact ih
   ·have hok:=h.db _ (List.getElem_mem hi)
    have k:=c234 H hm (hx.d _ (List.getElem_mem hi)) (by omega) hok
    unfold T220_5
    refine ⟨fun _=>⟨by omega,_,get_at hi,_,_,k,fun h=>absurd rfl h,fun _=>⟨⟨?_,?_⟩,?_⟩⟩,fun h=>absurd (show (i:Int)<x.defers.length by omega) h⟩
    ·rw [maxBytes_eq];simp only [List.length_append,List.length_cons,List.length_nil,List.length_map,List.length_take];omega
    ·rw [maxBytes_eq];simp only [List.length_append,List.length_cons,List.length_nil,List.length_map,List.length_take];omega
    ·rw [wr_i64 (by omega) (by omega)]
     rw [map_take_snoc (defL m) hi,← List.append_assoc] at ih
     exact ih
  ·have hb:=h.fb _ (List.getElem_mem hi)
   have hw:=hx.f _ (List.getElem_mem hi)
   have k:=c82 H.toHasF (k:=(i:Int)) hm hw
   rw [frR_yes (by omega) hb] at k
   have q1:=b1 i (by omega)
   have q2:=(frmL_len (k:=(i:Int)) hm hw hb).2
   unfold T220_3
   refine ⟨fun _=>⟨by omega,_,get_at hi,_,_,k,fun h=>absurd rfl h,fun _=>⟨⟨?_,?_⟩,?_⟩⟩,fun h=>absurd (show (i:Int)<x.frames.length by omega) h⟩
   ·dsimp only;rw [maxBytes_eq];omega
   ·dsimp only;rw [maxBytes_eq];omega
   ·rw [wr_i64 (by omega) (by omega)]
    rw [List.take_succ_eq_append_getElem hi,frmsL_snoc,List.length_take,show 0+min i x.frames.length=i by omega] at ih
    exact ih)
 exact h
theorem c207 {m:Img} {g:Int} {x:Rou} (hm:OkI m) (hx:WfR x):Pus prog 207 [m.av,.i .i64 g,x.av] (.tup [.sl .ext ((rouR m g x).1.map rowS),.i .i64 (rouR m g x).2]):=by
 obtain ⟨y,z,⟨rfl,rfl⟩,h⟩:=p207 H.f207 (m0:=m) (g1:=g) (x2:=x) (K:=fun y z=>y=(rouR m g x).1∧z=(rouR m g x).2) (by
  unfold T207_0
  refine ⟨fun h=>by rw [rouR_bad (.inl h)];exact ⟨rfl,rfl⟩,fun h0=>⟨fun h=>by rw [rouR_bad (.inr h)];exact ⟨rfl,rfl⟩,fun h1=>?_⟩⟩
  unfold T207_1
  refine ⟨_,c219 H hm hx,fun h=>?_,fun h=>?_⟩
  ·rw [rouR_no (by omega) (by simpa using h)];exact ⟨rfl,rfl⟩
  have hg:goesR m x=true:=by simpa using h
  rw [rouR_yes (by omega) hg]
  have h2:=Go0.of hg
  obtain ⟨p1,p2⟩:=parts_len hm hx h2
  have l1:=num_len g
  have l2:=num_len x.key
  have l3:=statL_len x
  have e3 :∃c,([[],([114,101,97,100,121]:Bytes),(([98,108,111,99,107,101,100,32]:Bytes)++num x.key),([100,111,110,101]:Bytes)]:List Bytes)[x.status.toNat]?=some c∧c=statL x:=by
   unfold statL
   rcases h2.st with h | h | h<;>rw [h]<;>exact ⟨_,rfl,rfl⟩
  obtain ⟨c,e3,rfl⟩:=e3
  refine ⟨_,_,c220 H hm hx h2,fun h=>absurd rfl h,fun _=>⟨_,c216 H (by omega) (by omega),?_,?_,_,c15 H.toHas03 hx.k.1 hx.k.2,?_,hx.st,_,e3,?_,fun P hP=>?_⟩⟩
  all_goals try (rw [maxStr_eq];simp only [List.length_append,List.length_cons,List.length_nil];omega)
  refine loop_up (P:=fun o i=>P o i) (fun i=>headR g x::((partsL m x).take i).map sp2) (partsL m x).length (hP _ _ ?_) fun i hi ih=>hP _ _ ?_
  ·rw [List.take_length]
   unfold T207_2 T207_3
   exact ⟨fun h=>absurd h (by omega),fun _=>⟨rfl,rfl⟩⟩
  ·have:=p1 _ (List.getElem_mem hi)
   unfold T207_2
   refine ⟨fun _=>⟨by omega,_,get_at hi,?_,⟨?_,?_⟩,?_⟩,fun h=>absurd (show (i:Int)<(partsL m x).length by omega) h⟩
   ·rw [maxStr_eq];simp only [List.length_cons,List.length_nil];omega
   ·rw [maxBytes_eq];simp only [List.length_append,List.length_cons,List.length_nil,List.length_map,List.length_take];omega
   ·rw [maxBytes_eq];simp only [List.length_append,List.length_cons,List.length_nil,List.length_map,List.length_take];omega
   ·rw [wr_i64 (by omega) (by omega)]
    rw [map_take_snoc sp2 hi] at ih
    exact ih)
 exact h
end
end Go.AM

namespace Go.AM
open Go
theorem fitS_iff {m:Img} {s:Sta} (h:fitS m s=true):(1≤s.outcome∧s.outcome≤8)∧(0≤s.steps∧s.steps≤5000)∧s.routines.length≤16∧(-1≤s.failing∧s.failing<s.routines.length)∧∀x∈s.routines,goesR m x=true:=by
 unfold fitS at h
 simp only [Bool.and_eq_true,decide_eq_true_eq,List.all_eq_true] at h
 obtain ⟨⟨⟨⟨h1,h2⟩,h3⟩,h4⟩,h5⟩:=h
 exact ⟨h1,h2,h3,h4,h5⟩
theorem headS_len {s:Sta} (h:1≤s.outcome∧s.outcome≤8):(headS s).length≤200:=by
 obtain ⟨w,hw,e,hl⟩:=outO_1 h.1 h.2
 have l1:=num_len s.failing
 have l2:=num_len s.steps
 unfold headS
 rw [e]
 simp only [List.length_append,List.length_cons,List.length_nil]
 omega
theorem repT_len {m:Img} {s:Sta} (hm:OkI m) (hs:WfS s) (h:fitS m s=true) (i:Nat):(headS s++rousT m 0 (s.routines.take i)).length≤84800000200:=by
 obtain ⟨h1,h2,h3,h4,h5⟩:=fitS_iff h
 have a:=headS_len h1
 have b:=rousT_len hm (s.routines.take i) 0 (fun x hx=>hs.r x (List.mem_of_mem_take hx)) fun x hx=>Go0.of (h5 x (List.mem_of_mem_take hx))
 have c:(s.routines.take i).length≤16:=by rw [List.length_take];omega
 rw [List.length_append]
 omega
theorem repT_lin {m:Img} {s:Sta} (hm:OkI m) (hs:WfS s) (h:fitS m s=true) {i:Nat} (hi:i<s.routines.length) (j:Nat):(headS s++rousT m 0 (s.routines.take i)++nlT ((linR m i s.routines[i]).take j)).length≤90100000200:=by
 obtain ⟨h1,h2,h3,h4,h5⟩:=fitS_iff h
 have a:=repT_len hm hs h i
 have b:=nlT_lin (g:=(i:Int)) hm (hs.r _ (List.getElem_mem hi)) (Go0.of (h5 _ (List.getElem_mem hi))) j
 rw [List.length_append]
 omega
theorem rousT_at {m:Img} {l:List Rou} {i:Nat} (hi:i<l.length):rousT m 0 (l.take (i+1))=rousT m 0 (l.take i)++nlT (linR m i l[i]):=by
 rw [List.take_succ_eq_append_getElem hi,rousT_snoc,List.length_take,show 0+min i l.length=i by omega]
section
variable {prog:Prog} (H:HasT prog)
include H
theorem c205 {m:Img} {s:Sta} (hm:OkI m) (hs:WfS s):Pus prog 205 [m.av,s.av] (.tup [.s (repR m s).1,.i .i64 (repR m s).2]):=by
 obtain ⟨x,y,⟨rfl,rfl⟩,h⟩:=p205 H.f205 (m0:=m) (s1:=s) (K:=fun x y=>x=(repR m s).1∧y=(repR m s).2) (by
  unfold T205_0 T205_1
  refine ⟨_,c213 H hm hs,fun h=>?_,fun h=>?_⟩
  ·unfold fitSR repR at *
   by_cases hf:fitS m s=true
   ·rw [if_pos hf] at h;exact absurd rfl h
   ·rw [if_neg hf,if_neg hf];exact ⟨rfl,rfl⟩
  have hf:fitS m s=true:=by
   unfold fitSR at h
   by_cases hf:fitS m s=true
   ·exact hf
   ·rw [if_neg hf] at h;exact absurd (by decide) h
  obtain ⟨h1,h2,h3,h4,h5⟩:=fitS_iff hf
  obtain ⟨w,hw,e,hl⟩:=outO_1 h1.1 h1.2
  have l1:=num_len s.failing
  have l2:=num_len s.steps
  unfold T205_2 T205_3
  refine ⟨_,c215 H,rfl,by omega,w,hw,?_,?_,_,c216 H (by omega) (by omega),?_,?_,_,c216 H (by omega) (by omega),?_,?_,_,_,c126 H.toHasB ?_ (by simp),fun P hP=>?_⟩
  all_goals try (rw [maxStr_eq];simp only [List.length_append,List.length_cons,List.length_nil];omega)
  ·rw [maxBytes_eq];simp only [List.length_append,List.length_cons,List.length_nil];omega
  have e0:([]:Bytes)++([111,117,116,99,111,109,101,32]++w++[44,32,102,97,105,108,105,110,103,32]++num s.failing++[44,32,115,116,101,112,115,32]++num s.steps++[10])=headS s++rousT m 0 (s.routines.take 0):=by
   unfold headS;rw [e];simp [rousT]
  rw [e0]
  refine loop_up (P:=fun b i=>P i m b) (fun i=>headS s++rousT m 0 (s.routines.take i)) s.routines.length (hP _ _ _ ?_) fun i hi ih=>hP _ _ _ ?_
  ·have hb:=repT_len hm hs hf s.routines.length
   rw [List.take_length] at hb ⊢
   have er:headS s++rousT m 0 s.routines=repT m s:=rfl
   rw [er] at hb ⊢
   unfold T205_4 T205_7 repR
   rw [if_pos hf]
   refine ⟨fun h=>absurd h (by omega),fun _=>⟨_,_,c217 H (by rw [maxBytes_eq];omega),fun h=>?_,fun h=>⟨_,c105 H.toHasB (by rw [maxBytes_eq];omega),?_⟩⟩⟩
   ·rw [if_pos (by omega)];exact ⟨rfl,rfl⟩
   ·rw [if_neg (by omega)];exact ⟨rfl,rfl⟩
  ·have hw:=hs.r _ (List.getElem_mem hi)
   have hg:=h5 _ (List.getElem_mem hi)
   have k:=c207 H (g:=(i:Int)) hm hw
   rw [rouR_yes (by omega) hg] at k
   unfold T205_4
   refine ⟨fun _=>⟨by omega,_,get_at hi,_,_,k,fun h=>absurd rfl h,fun _ P1 hP1=>?_⟩,fun h=>absurd (show (i:Int)<s.routines.length by omega) h⟩
   have ho:headS s++rousT m 0 (s.routines.take i)=headS s++rousT m 0 (s.routines.take i)++nlT ((linR m i s.routines[i]).take 0):=by simp [nlT]
   rw [ho]
   obtain ⟨q1,q2⟩:=linR_len (g:=(i:Int)) hm hw (Go0.of hg)
   refine loop_up (P:=fun b j=>P1 j m b) (fun j=>headS s++rousT m 0 (s.routines.take i)++nlT ((linR m i s.routines[i]).take j)) (linR m i s.routines[i]).length (hP1 _ _ _ ?_) fun j hj ihj=>hP1 _ _ _ ?_
   ·rw [List.take_length]
    unfold T205_5 T205_6
    refine ⟨fun h=>absurd h (by dsimp only;omega),fun _=>?_⟩
    rw [wr_i64 (by omega) (by omega)]
    rw [rousT_at hi,← List.append_assoc] at ih
    exact ih
   ·have r1:=q1 _ (List.getElem_mem hj)
    have r2:=repT_lin hm hs hf hi j
    unfold T205_5
    refine ⟨fun _=>⟨by omega,_,get_at hj,?_,_,_,c126 H.toHasB ?_ (by simp),?_⟩,fun h=>absurd (show (j:Int)<(linR m i s.routines[i]).length by omega) h⟩
    ·rw [maxStr_eq];simp only [List.length_cons,List.length_nil];omega
    ·rw [maxBytes_eq,len_cat2 _ [10]];simp only [List.length_cons,List.length_nil];omega
    ·rw [wr_i64 (by omega) (by omega)]
     rw [nlT_take hj,← List.append_assoc] at ihj
     exact ihj)
 exact h
end
end Go.AM
