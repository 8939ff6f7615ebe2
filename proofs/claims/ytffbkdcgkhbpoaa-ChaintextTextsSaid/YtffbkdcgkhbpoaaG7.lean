/- Parts of the proof: V38b, V38c, V39, V39b, C38, C38b, C38c, C38d, C38e, C38f, C38g, C39, C39b, C39c, V39c, C39d, C39e, C39f, Pk. -/
import Derived.Test.YtffbkdcgkhbpoaaG2
import Derived.Test.YtffbkdcgkhbpoaaG6
import Derived.Test.YtffbkdcgkhbpoaaG4
import Derived.Test.YtffbkdcgkhbpoaaG5
set_option linter.all false
namespace Go.AM
open Go
def isD (c:UInt8):Bool:=decide (48≤c.toNat) && decide (c.toNat≤57)
def digN:Bytes→Nat
  | []=>0
  | c :: s=>if isD c = true then 1 + digN s else 0
def numN (s:Bytes):Nat:=if s.head? = some 45 then 1 + digN (s.drop 1) else digN s
theorem digN_le :∀s:Bytes,digN s≤s.length
  | []=>Nat.le_refl _
  | c :: s=>by
    have:=digN_le s
    rw [digN,List.length_cons]
    split <;> omega
theorem numN_le (s:Bytes):numN s≤s.length:=by
  unfold numN
  cases s with
  | nil=>simp [digN]
  | cons c s=>
    have h1:=digN_le s
    have h2:=digN_le (c :: s)
    split
    · simp only [List.drop_succ_cons,List.drop_zero,List.length_cons]; omega
    · exact h2
def qs:Bytes→Option Nat
  | []=>none
  | c :: r=>if c = 92 then (match r with | []=>none | _ :: r'=>(qs r').map (· + 2)) else if c = 34 then some 1 else (qs r).map (· + 1)
theorem qs_le :∀(n:Nat) (s:Bytes) (k:Nat),s.length≤n→qs s = some k→1≤k∧k≤s.length
  | n,[],k,_,h=>by rw [qs] at h; cases h
  | n + 1,c :: r,k,hn,h=>by
    rw [qs.eq_def] at h
    simp only at h
    simp only [List.length_cons] at hn ⊢
    split at h
    · cases r with
      | nil=>cases h
      | cons c' r'=>
        simp only [Option.map_eq_some_iff] at h
        obtain ⟨m,h1,rfl⟩:=h
        simp only [List.length_cons] at hn ⊢
        have:=qs_le n r' m (by omega) h1
        omega
    · split at h
      · cases h; omega
      · simp only [Option.map_eq_some_iff] at h
        obtain ⟨m,h1,rfl⟩:=h
        have:=qs_le n r m (by omega) h1
        omega
def scNum (s:Bytes):Int × Bool × Bytes:=((unnum (s.take (numN s))).1,decide ((unnum (s.take (numN s))).2 = 0),s.drop (numN s))
def scQ (s:Bytes):Bytes × Bool × Bytes:=match qs (s.drop 1) with
  | none=>([],false,s)
  | some k=>((unquo (s.take (k + 1))).1,decide ((unquo (s.take (k + 1))).2 = 0),s.drop (k + 1))
def scG (f:Bytes→Val × Bool × Bytes) (kind:Int) (stop:Bytes):Nat→List Val→Bytes→Val × Bool × Bytes
  | 0,acc,s=>(Val.mk kind 0 [] acc false,false,s)
  | k + 1,acc,s=>if (f s).2.1 = false then (Val.mk kind 0 [] acc false,false,(f s).2.2) else
      if (cutp stop (f s).2.2).2 = true then (Val.mk kind 0 [] (acc ++ [(f s).1]) false,true,(cutp stop (f s).2.2).1) else
      if (cutp [44,32] (cutp stop (f s).2.2).1).2 = false then (Val.mk kind 0 [] (acc ++ [(f s).1]) false,false,(cutp [44,32] (cutp stop (f s).2.2).1).1) else
      scG f kind stop k (acc ++ [(f s).1]) (cutp [44,32] (cutp stop (f s).2.2).1).1
def scL (f:Bytes→Val × Bool × Bytes) (kind:Int) (stop s:Bytes):Val × Bool × Bytes:=
  if (cutp stop s).2 = true then (Val.mk kind 0 [] [] false,true,(cutp stop s).1) else scG f kind stop 17 [] (cutp stop s).1
def scV:Nat→Bytes→Val × Bool × Bytes
  | 0,s=>(vz,false,s)
  | d + 1,s=>if s = [] then (vz,false,s) else
      if (cutp tTrue s).2 = true then (Val.mk 1 1 [] [] false,true,(cutp tTrue s).1) else
      if (cutp tFalse s).2 = true then (Val.mk 1 0 [] [] false,true,(cutp tFalse s).1) else
      if (cutp tNil s).2 = true then (Val.mk 4 0 [] [] false,true,(cutp tNil s).1) else
      if (cutp tCutP s).2 = true then (Val.mk 4 0 [] [] true,true,(cutp tCutP s).1) else
      if (cutp tCutS s).2 = true then (Val.mk 7 0 [] [] true,true,(cutp tCutS s).1) else
      if (cutp [38] s).2 = true then (Val.mk 4 0 [] [(scV d (cutp [38] s).1).1] false,(scV d (cutp [38] s).1).2) else
      if (cutp [123] s).2 = true then scL (scV d) 5 [125] (cutp [123] s).1 else
      if (cutp [91] s).2 = true then scL (scV d) 6 [93] (cutp [91] s).1 else
      if (cutp [60] s).2 = true then scL (scV d) 7 [62] (cutp [60] s).1 else
      if s.head? = some 34 then (Val.mk 3 0 (scQ s).1 [] false,(scQ s).2) else
      (Val.mk 2 (scNum s).1 [] [] false,(scNum s).2)
theorem cutp_no {p s:Bytes} (h:(cutp p s).2 = false):(cutp p s).1 = s:=by
  unfold cutp at h ⊢
  split
  · rename_i h1; rw [if_pos h1] at h; cases h
  · rfl
theorem cutp_app (p s:Bytes):cutp p (p ++ s) = (s,true):=by
  unfold cutp
  rw [if_pos (by simp),List.drop_left]
theorem cutp_head {c d:UInt8} {p s:Bytes} (h:c≠d):cutp (c :: p) (d :: s) = (d :: s,false):=by
  unfold cutp
  rw [if_neg]
  simp only [List.length_cons,List.take_succ_cons,List.cons.injEq]
  rintro ⟨rfl,_⟩
  exact h rfl
theorem cutp_cons (c:UInt8) (p s:Bytes):cutp (c :: p) (c :: s) = if (cutp p s).2 = true then ((cutp p s).1,true) else (c :: s,false):=by
  unfold cutp
  simp only [List.length_cons,List.take_succ_cons,List.cons.injEq,true_and,List.drop_succ_cons]
  split <;> simp_all
theorem cutp_nil {c:UInt8} {p:Bytes}:cutp (c :: p) [] = ([],false):=by
  unfold cutp
  rw [if_neg (by simp)]
theorem unnum_rng (s:Bytes):-9223372036854775808≤(unnum s).1∧(unnum s).1 < 9223372036854775808:=by
  have h1:=rd_le 10 9223372036854775808 (s.drop 1)
  have h2:=rd_le 10 9223372036854775807 s
  unfold unnum
  split
  · exact ⟨by decide,by decide⟩
  split
  · split
    · exact ⟨by decide,by decide⟩
    · dsimp only
      omega
  · dsimp only
    omega
theorem Wf.ite {c:Prop} [Decidable c] {a b:Val × Bool × Bytes} (ha:Wf a.1) (hb:Wf b.1):Wf (if c then a else b).1:=by
  split
  · exact ha
  · exact hb
theorem scG_wf {f:Bytes→Val × Bool × Bytes} {kind:Int} {stop:Bytes} (hk:0≤kind∧kind < 256) (hf :∀s,Wf (f s).1) :∀(n:Nat) (acc:List Val) (s:Bytes),n≤17→acc.length + n = 17→(∀x ∈ acc,Wf x)→Wf (scG f kind stop n acc s).1
  | 0,acc,s,_,hl,h=>by
    rw [scG]
    exact .mk hk (by decide) (by omega) h
  | n + 1,acc,s,hn,hl,h=>by
    have h1 :∀x ∈ acc ++ [(f s).1],Wf x:=by
      intro x hx
      rcases List.mem_append.1 hx with hx | hx
      · exact h x hx
      · rw [List.mem_singleton.1 hx]; exact hf s
    rw [scG]
    split
    · exact .mk hk (by decide) (by omega) h
    · split
      · exact .mk hk (by decide) (by simp; omega) h1
      · split
        · exact .mk hk (by decide) (by simp; omega) h1
        · exact scG_wf hk hf n _ _ (by omega) (by simp; omega) h1
theorem scL_wf {f:Bytes→Val × Bool × Bytes} {kind:Int} {stop s:Bytes} (hk:0≤kind∧kind < 256) (hf :∀s,Wf (f s).1):Wf (scL f kind stop s).1:=by
  unfold scL
  split
  · exact .mk hk (by decide) (by decide) (by simp)
  · exact scG_wf hk hf 17 [] _ (by omega) rfl (by simp)
theorem scV_wf :∀(d:Nat) (s:Bytes),Wf (scV d s).1
  | 0,s=>Wf.zero
  | d + 1,s=>by
    have w0 :∀(k n:Int) (c:Bool),0≤k∧k < 256→-9223372036854775808≤n∧n < 9223372036854775808→Wf (Val.mk k n [] [] c):=fun k n c h1 h2=>.mk h1 h2 (by decide) (by simp)
    rw [scV]
    exact .ite Wf.zero (.ite (w0 _ _ _ (by decide) (by decide)) (.ite (w0 _ _ _ (by decide) (by decide)) (.ite (w0 _ _ _ (by decide) (by decide)) (.ite (w0 _ _ _ (by decide) (by decide)) (.ite (w0 _ _ _ (by decide) (by decide))
      (.ite (.mk (by decide) (by decide) (by simp) (fun x hx=>by rw [List.mem_singleton.1 hx]; exact scV_wf d _)) (.ite (scL_wf (by decide) (scV_wf d)) (.ite (scL_wf (by decide) (scV_wf d)) (.ite (scL_wf (by decide) (scV_wf d))
      (.ite (.mk (by decide) (by decide) (by simp) (by simp)) (.mk (by decide) (unnum_rng _) (by simp) (by simp))))))))))))
def Stop (r:Bytes):Prop:=∀c,r.head? = some c→c = 44∨c = 125∨c = 93∨c = 62
theorem Stop.notD {r:Bytes} (h:Stop r):digN r = 0:=by
  cases r with
  | nil=>rfl
  | cons c r=>
    rw [digN,if_neg]
    rcases h c rfl with rfl | rfl | rfl | rfl <;> decide
theorem digN_all :∀(s r:Bytes),(∀c ∈ s,isD c = true)→digN r = 0→digN (s ++ r) = s.length
  | [],r,_,h=>h
  | c :: s,r,hs,h=>by
    rw [List.cons_append,digN,if_pos (hs c List.mem_cons_self),digN_all s r (fun c hc=>hs c (List.mem_cons_of_mem _ hc)) h,List.length_cons]
    omega
theorem hexd_isD :∀n:Fin 10,isD (hexd n.val) = true:=by decide
theorem ds_isD :∀(f n:Nat),∀c ∈ ds 10 f n,isD c = true
  | 0,n,c,h=>by simp [ds] at h
  | f + 1,n,c,h=>by
    rw [ds] at h
    split at h
    · rename_i hn
      rw [List.mem_singleton.1 h]
      exact hexd_isD ⟨n,hn⟩
    · rcases List.mem_append.1 h with h | h
      · exact ds_isD f _ c h
      · rw [List.mem_singleton.1 h]
        exact hexd_isD ⟨n % 10,Nat.mod_lt _ (by decide)⟩
theorem isD_ne {c:UInt8} {l:List UInt8} (h:isD c = true) (hl:(l.all fun x=>!isD x) = true):c ∉ l:=by
  intro hc
  have:=List.all_eq_true.1 hl c hc
  rw [h] at this
  cases this
theorem num_head (n:Int) :∃c r,num n = c :: r∧(c = 45∨isD c = true):=by
  have hd :∀n,∃c r,digs 10 n = c :: r∧isD c = true:=by
    intro n
    have h1:=digs_ne 10 n
    have h2:=ds_isD 64 n
    unfold digs at *
    cases h:ds 10 64 n with
    | nil=>exact absurd h h1
    | cons c r=>exact ⟨c,r,rfl,h2 c (by rw [h]; exact List.mem_cons_self)⟩
  unfold num
  split
  · exact ⟨45,_,rfl,.inl rfl⟩
  · obtain ⟨c,r,h1,h2⟩:=hd n.toNat
    exact ⟨c,r,h1,.inr h2⟩
theorem numN_num {n:Int} {r:Bytes} (hr:digN r = 0):numN (num n ++ r) = (num n).length:=by
  unfold num numN
  split
  · rw [List.cons_append,List.head?_cons,if_pos rfl,List.drop_succ_cons,List.drop_zero,List.length_cons,Nat.add_comm]
    congr 1
    exact digN_all _ r (ds_isD 64 _) hr
  · obtain ⟨c,t,h1,h2⟩:=num_head n
    rw [num,if_neg (by assumption)] at h1
    rw [if_neg]
    · exact digN_all _ r (ds_isD 64 _) hr
    rw [h1,List.cons_append,List.head?_cons]
    intro e
    injection e with e
    subst e
    rcases h2 with h2 | h2
    · have:=ds_isD 64 n.toNat 45 (by show (45:UInt8) ∈ digs 10 n.toNat; rw [h1]; exact List.mem_cons_self)
      exact absurd this (by decide)
    · exact absurd h2 (by decide)
theorem scNum_num {n:Int} {r:Bytes} (h1:-9223372036854775808≤n) (h2:n < 9223372036854775808) (hr:digN r = 0):scNum (num n ++ r) = (n,true,r):=by
  unfold scNum
  rw [numN_num hr,List.take_left,List.drop_left,unnum_num h1 h2]
  rfl
theorem qs_chrs :∀(s r:Bytes),qs (chrs s ++ 34 :: r) = some ((chrs s).length + 1)
  | [],r=>by
    show qs (34 :: r) = some 1
    rw [qs.eq_def]
    simp
  | c :: s,r=>by
    have ih:=qs_chrs s r
    have e:chrs (c :: s) = chr c ++ chrs s:=rfl
    have hx :∀k:Fin 16,hexd k.val≠92∧hexd k.val≠34:=by decide
    rw [e,List.append_assoc]
    unfold chr
    split
    · rw [List.cons_append,List.cons_append,List.nil_append,qs.eq_def]
      simp only [if_true,ih,Option.map_some,List.length_append,List.length_cons,List.length_nil]
      congr 1
      omega
    · rename_i h1
      split
      · rw [List.cons_append,List.cons_append,List.nil_append,qs.eq_def]
        simp only [if_true,ih,Option.map_some,List.length_append,List.length_cons,List.length_nil]
        congr 1
        omega
      · split
        · have hc:=c.toNat_lt
          obtain ⟨a1,a2⟩:=hx ⟨c.toNat / 16,by omega⟩
          obtain ⟨b1,b2⟩:=hx ⟨c.toNat % 16,by omega⟩
          simp only at a1 a2 b1 b2
          rw [List.cons_append,List.cons_append,List.cons_append,List.cons_append,List.nil_append,qs.eq_def]
          simp only [if_true]
          rw [qs.eq_def]
          simp only [if_neg a1,if_neg a2]
          rw [qs.eq_def]
          simp only [if_neg b1,if_neg b2,ih,Option.map_some,List.length_append,List.length_cons,List.length_nil]
          congr 1
          omega
        · have c1:c≠92:=by rintro rfl; exact h1 (.inr rfl)
          have c2:c≠34:=by rintro rfl; exact h1 (.inl rfl)
          rw [List.cons_append,List.nil_append,qs.eq_def]
          simp only [if_neg c1,if_neg c2,ih,Option.map_some,List.length_append,List.length_cons,List.length_nil]
          congr 1
          omega
theorem scQ_quo {s r:Bytes} (h:s.length≤400):scQ (quo s ++ r) = (s,true,r):=by
  have e:quo s ++ r = 34 :: (chrs s ++ 34 :: r):=by simp [quo]
  have e2:(quo s).length = (chrs s).length + 1 + 1:=by simp [quo]
  unfold scQ
  rw [show (quo s ++ r).drop 1 = chrs s ++ 34 :: r by rw [e]; rfl,qs_chrs]
  simp only
  rw [← e2,List.take_left,List.drop_left,unquo_quo h]
  rfl
end Go.AM

namespace Go.AM
open Go
theorem txt_head (v:Val) :∃c t,txt v = c :: t∧(c ∈ ([116,102,110,38,60,123,91,34,45]:Bytes)∨isD c = true):=by
  rw [txt_eq]
  have h1:=num_head v.int
  repeat' split
  all_goals first
    | (obtain ⟨c,t,h2,h3⟩:=h1
       refine ⟨c,t,h2,?_⟩
       rcases h3 with rfl | h3
       · exact .inl (by decide)
       · exact .inr h3)
    | exact ⟨_,_,rfl,.inl (by decide)⟩
theorem txt_head_ne {v:Val} {e:UInt8} (he:(e = 46∨e = 125∨e = 93∨e = 62∨e = 44)) (p r:Bytes):(cutp (e :: p) (txt v ++ r)) = (txt v ++ r,false):=by
  obtain ⟨c,t,h1,h2⟩:=txt_head v
  rw [h1,List.cons_append]
  refine cutp_head ?_
  rintro rfl
  rcases h2 with h2 | h2
  · rcases he with rfl | rfl | rfl | rfl | rfl <;> exact absurd h2 (by decide)
  · rcases he with rfl | rfl | rfl | rfl | rfl <;> exact absurd h2 (by decide)
section
variable {f:Bytes→Val × Bool × Bytes} {kind:Int} {e:UInt8}
theorem scG_txts (he:e = 125∨e = 93∨e = 62) :∀(l:List Val) (x:Val) (acc:List Val) (n:Nat) (r:Bytes),(∀y ∈ x :: l,∀r,Stop r→f (txt y ++ r) = (y,true,r))→l.length < n→scG f kind [e] n acc (txts (x :: l) ++ e :: r) = (Val.mk kind 0 [] (acc ++ x :: l) false,true,r)
  | l,x,acc,0,r,hf,hn=>absurd hn (Nat.not_lt_zero _)
  | [],x,acc,n + 1,r,hf,hn=>by
    have hs:Stop (e :: r):=by intro c hc; injection hc with hc; subst hc; rcases he with h | h | h <;> simp [h]
    have h1:=hf x List.mem_cons_self (e :: r) hs
    have h2:cutp [e] (e :: r) = (r,true):=cutp_app [e] r
    rw [txts_one,scG]
    simp only [h1,h2,Bool.true_eq_false,if_false,if_true]
  | y :: l,x,acc,n + 1,r,hf,hn=>by
    have e1:txts (x :: y :: l) ++ e :: r = txt x ++ (44 :: 32 :: (txts (y :: l) ++ e :: r)):=by simp [txts,txtl]
    have hs:Stop (44 :: 32 :: (txts (y :: l) ++ e :: r)):=by intro c hc; injection hc with hc; subst hc; exact .inl rfl
    have h1:=hf x List.mem_cons_self _ hs
    have hne:e≠44:=by rcases he with rfl | rfl | rfl <;> decide
    have h2:cutp [e] (44 :: 32 :: (txts (y :: l) ++ e :: r)) = (44 :: 32 :: (txts (y :: l) ++ e :: r),false):=cutp_head hne
    have h3:cutp [44,32] (44 :: 32 :: (txts (y :: l) ++ e :: r)) = (txts (y :: l) ++ e :: r,true):=cutp_app [44,32] _
    have ih:=scG_txts he l y (acc ++ [x]) n r (fun z hz=>hf z (List.mem_cons_of_mem _ hz)) (by simp only [List.length_cons] at hn; omega)
    rw [e1,scG]
    simp only [h1,h2,h3,Bool.true_eq_false,Bool.false_eq_true,if_false]
    rw [ih,List.append_assoc]
    rfl
theorem scL_txts (he:e = 125∨e = 93∨e = 62) (l:List Val) (r:Bytes) (hf :∀y ∈ l,∀r,Stop r→f (txt y ++ r) = (y,true,r)) (hn:l.length≤16):scL f kind [e] (txts l ++ e :: r) = (Val.mk kind 0 [] l false,true,r):=by
  unfold scL
  cases l with
  | nil=>
    have h2:cutp [e] (txts [] ++ e :: r) = (r,true):=cutp_app [e] r
    simp only [h2,if_true]
  | cons x l=>
    have h2:cutp [e] (txts (x :: l) ++ e :: r) = (txts (x :: l) ++ e :: r,false):=by
      rw [txts,List.append_assoc]
      exact txt_head_ne (by rcases he with h | h | h <;> simp [h]) _ _
    simp only [h2,Bool.false_eq_true,if_false]
    exact scG_txts he l x [] 17 r hf (by simp only [List.length_cons] at hn; omega)
end
theorem txts_head {l:List Val} {e:UInt8} {p r:Bytes}:(cutp (46 :: p) (txts l ++ 62 :: r)).2 = false:=by
  cases l with
  | nil=>rw [show txts [] ++ 62 :: r = 62 :: r from rfl,cutp_head (by decide)]
  | cons x l=>rw [txts,List.append_assoc,txt_head_ne (.inl rfl)]
theorem len0 {α:Type} {l:List α} (h:l.length = 0):l = []:=List.length_eq_zero_iff.1 h
theorem scV_txt :∀(d:Nat) (v:Val),okv d v = true→Wf v→∀r,Stop r→scV d (txt v ++ r) = (v,true,r)
  | 0,v,h,_,r,hr=>by cases h
  | d + 1,v,h,hw,r,hr=>by
    have h1:=okv_head h
    have h2:=okv_sub h
    have ih :∀y ∈ v.list,∀r,Stop r→scV d (txt y ++ r) = (y,true,r):=fun y hy=>scV_txt d y (h2 y hy) (hw.e y hy)
    have hn:=hw.n
    have hne :∀x:Bytes,¬(txt v ++ x = []):=fun x e=>txt_ne v (List.append_eq_nil_iff.1 e).1
    clear h h2 hw
    cases v with
    | mk k n s l c=>
    unfold Val.okh Okh at h1
    simp only [Val.kind_mk,Val.int_mk,Val.text_mk,Val.list_mk,Val.cut_mk] at h1 ih hn
    have ht:=hne r
    rw [scV,if_neg ht]
    clear ht hne
    have nohead :∀{a b:UInt8} {p t:Bytes},a≠b→(cutp (a :: p) (b :: t)).2 = false:=fun h=>by rw [cutp_head h]
    rcases h1 with ⟨rfl,a1,a2,a3,a4⟩ | ⟨rfl,a1,a2,a3⟩ | ⟨rfl,a1,a2,rfl,a4⟩ | ⟨rfl,rfl,a1,a2,a3⟩ | ⟨rfl,rfl,a1,a2,a3⟩ | ⟨rfl,rfl,a1,a2,a3,a4⟩ | ⟨rfl,rfl,a1,a2,a3⟩
    · have:=len0 a1; have:=len0 a3; subst l; subst s
      have:c = false:=by cases c; rfl; cases a2
      subst c
      rcases a4 with rfl | rfl
      · rw [show txt (Val.mk 1 0 [] [] false) = tFalse from rfl,show tFalse ++ r = 102 :: ([97,108,115,101] ++ r) from rfl,tTrue,if_neg (by rw [nohead (by decide)]; decide)]
        have:=cutp_app tFalse r
        rw [show tFalse ++ r = 102 :: ([97,108,115,101] ++ r) from rfl] at this
        rw [if_pos (by rw [this]),this]
      · rw [show txt (Val.mk 1 1 [] [] false) = tTrue from rfl,if_pos (by rw [cutp_app]),cutp_app]
    · have:=len0 a1; have:=len0 a3; subst l; subst s
      have:c = false:=by cases c; rfl; cases a2
      subst c
      rw [show txt (Val.mk 2 n [] [] false) = num n from rfl]
      have hd:=scNum_num (r:=r) hn.1 hn.2 hr.notD
      obtain ⟨x,t,h3,h4⟩:=num_head n
      rw [h3] at hd ⊢
      rw [List.cons_append] at hd ⊢
      have hx :∀y:UInt8,y ∈ ([116,102,110,38,60,123,91,34]:Bytes)→y≠x:=by
        rintro y hy rfl
        rcases h4 with rfl | h4
        · exact absurd hy (by decide)
        · exact isD_ne h4 (by decide) hy
      rw [tTrue,if_neg (by rw [nohead (hx _ (by decide))]; decide),tFalse,if_neg (by rw [nohead (hx _ (by decide))]; decide),tNil,if_neg (by rw [nohead (hx _ (by decide))]; decide),tCutP,if_neg (by rw [nohead (hx _ (by decide))]; decide),tCutS,if_neg (by rw [nohead (hx _ (by decide))]; decide),
        if_neg (by rw [nohead (hx _ (by decide))]; decide),if_neg (by rw [nohead (hx _ (by decide))]; decide),if_neg (by rw [nohead (hx _ (by decide))]; decide),if_neg (by rw [nohead (hx _ (by decide))]; decide),
        if_neg (by rw [List.head?_cons]; intro e; injection e with e; exact hx 34 (by decide) e.symm),hd]
    · have:=len0 a1; subst l
      have:c = false:=by cases c; rfl; cases a2
      subst c
      rw [show txt (Val.mk 3 0 s [] false) = quo s from rfl]
      have hd:=scQ_quo (s:=s) (r:=r) (by omega)
      rw [show quo s ++ r = 34 :: (chrs s ++ [34] ++ r) from rfl] at hd ⊢
      rw [tTrue,if_neg (by rw [nohead (by decide)]; decide),tFalse,if_neg (by rw [nohead (by decide)]; decide),tNil,if_neg (by rw [nohead (by decide)]; decide),tCutP,if_neg (by rw [nohead (by decide)]; decide),tCutS,if_neg (by rw [nohead (by decide)]; decide),
        if_neg (by rw [nohead (by decide)]; decide),if_neg (by rw [nohead (by decide)]; decide),if_neg (by rw [nohead (by decide)]; decide),if_neg (by rw [nohead (by decide)]; decide),List.head?_cons,if_pos rfl,hd]
    · have:=len0 a1; subst s
      cases c with
      | true=>
        have:=len0 (a3.resolve_left (by decide)); subst l
        have e:=cutp_app tCutP r
        rw [show txt (Val.mk 4 0 [] [] true) = tCutP from rfl]
        rw [show tCutP ++ r = 38 :: ([46,46,46] ++ r) from rfl] at e ⊢
        rw [tTrue,if_neg (by rw [nohead (by decide)]; decide),tFalse,if_neg (by rw [nohead (by decide)]; decide),tNil,if_neg (by rw [nohead (by decide)]; decide),if_pos (by rw [e]),e]
      | false=>
        match l,a2 with
        | [],_=>
          have e:=cutp_app tNil r
          rw [show txt (Val.mk 4 0 [] [] false) = tNil from rfl]
          rw [show tNil ++ r = 110 :: ([105,108] ++ r) from rfl] at e ⊢
          rw [tTrue,if_neg (by rw [nohead (by decide)]; decide),tFalse,if_neg (by rw [nohead (by decide)]; decide),if_pos (by rw [e]),e]
        | [w],_=>
          rw [show txt (Val.mk 4 0 [] [w] false) = 38 :: txts [w] from rfl,txts_one,List.cons_append]
          have e:cutp [38] (38 :: (txt w ++ r)) = (txt w ++ r,true):=cutp_app [38] _
          have e2:(cutp tCutP (38 :: (txt w ++ r))).2 = false:=by rw [tCutP,cutp_cons,txt_head_ne (.inl rfl)]; rfl
          rw [tTrue,if_neg (by rw [nohead (by decide)]; decide),tFalse,if_neg (by rw [nohead (by decide)]; decide),tNil,if_neg (by rw [nohead (by decide)]; decide),if_neg (by rw [e2]; decide),tCutS,if_neg (by rw [nohead (by decide)]; decide),if_pos (by rw [e]),e]
          simp only
          rw [ih w List.mem_cons_self r hr]
    · have:=len0 a1; subst s
      have:c = false:=by cases c; rfl; cases a3
      subst c
      rw [show txt (Val.mk 5 0 [] l false) = 123 :: (txts l ++ [125]) from rfl]
      have e0:123 :: (txts l ++ [125]) ++ r = 123 :: (txts l ++ 125 :: r):=by simp
      have e:cutp [123] (123 :: (txts l ++ 125 :: r)) = (txts l ++ 125 :: r,true):=cutp_app [123] _
      rw [e0,tTrue,if_neg (by rw [nohead (by decide)]; decide),tFalse,if_neg (by rw [nohead (by decide)]; decide),tNil,if_neg (by rw [nohead (by decide)]; decide),tCutP,if_neg (by rw [nohead (by decide)]; decide),tCutS,if_neg (by rw [nohead (by decide)]; decide),if_neg (by rw [nohead (by decide)]; decide),if_pos (by rw [e]),e]
      exact scL_txts (.inl rfl) l r ih (by omega)
    · have:=len0 a1; subst s
      have:c = false:=by cases c; rfl; cases a4
      subst c
      rw [show txt (Val.mk 6 0 [] l false) = 91 :: (txts l ++ [93]) from rfl]
      have e0:91 :: (txts l ++ [93]) ++ r = 91 :: (txts l ++ 93 :: r):=by simp
      have e:cutp [91] (91 :: (txts l ++ 93 :: r)) = (txts l ++ 93 :: r,true):=cutp_app [91] _
      rw [e0,tTrue,if_neg (by rw [nohead (by decide)]; decide),tFalse,if_neg (by rw [nohead (by decide)]; decide),tNil,if_neg (by rw [nohead (by decide)]; decide),tCutP,if_neg (by rw [nohead (by decide)]; decide),tCutS,if_neg (by rw [nohead (by decide)]; decide),if_neg (by rw [nohead (by decide)]; decide),if_neg (by rw [nohead (by decide)]; decide),if_pos (by rw [e]),e]
      exact scL_txts (.inr (.inl rfl)) l r ih (by omega)
    · have:=len0 a1; subst s
      cases c with
      | true=>
        have:=len0 (a3.resolve_left (by decide)); subst l
        have e:=cutp_app tCutS r
        rw [show txt (Val.mk 7 0 [] [] true) = tCutS from rfl]
        rw [show tCutS ++ r = 60 :: ([46,46,46,62] ++ r) from rfl] at e ⊢
        rw [tTrue,if_neg (by rw [nohead (by decide)]; decide),tFalse,if_neg (by rw [nohead (by decide)]; decide),tNil,if_neg (by rw [nohead (by decide)]; decide),tCutP,if_neg (by rw [nohead (by decide)]; decide),if_pos (by rw [e]),e]
      | false=>
        rw [show txt (Val.mk 7 0 [] l false) = 60 :: (txts l ++ [62]) from rfl]
        have e0:60 :: (txts l ++ [62]) ++ r = 60 :: (txts l ++ 62 :: r):=by simp
        have e:cutp [60] (60 :: (txts l ++ 62 :: r)) = (txts l ++ 62 :: r,true):=cutp_app [60] _
        have e2:(cutp tCutS (60 :: (txts l ++ 62 :: r))).2 = false:=by
          have:=txts_head (l:=l) (e:=0) (p:=[46,46,62]) (r:=r)
          rw [tCutS,cutp_cons,if_neg (by rw [this]; decide)]
        rw [e0,tTrue,if_neg (by rw [nohead (by decide)]; decide),tFalse,if_neg (by rw [nohead (by decide)]; decide),tNil,if_neg (by rw [nohead (by decide)]; decide),tCutP,if_neg (by rw [nohead (by decide)]; decide),if_neg (by rw [e2]; decide),if_neg (by rw [nohead (by decide)]; decide),if_neg (by rw [nohead (by decide)]; decide),if_neg (by rw [nohead (by decide)]; decide),if_pos (by rw [e]),e]
        exact scL_txts (.inr (.inr rfl)) l r ih (by omega)
def rvs (s:Bytes):Val × Int:=if 1400000 < s.length then (vz,4) else
  if (scV 130 s).2.1 = true∧(scV 130 s).2.2 = []∧fine (scV 130 s).1 = true∧txt (scV 130 s).1 = s then ((scV 130 s).1,0) else (vz,12)
theorem fine_ok {v:Val} (h:fine v = true):okv 130 v = true∧v.nodes≤5000:=by
  simpa [fine] using h
theorem scV_fine {v:Val} (h:fine v = true) (hw:Wf v):scV 130 (txt v) = (v,true,[]):=by
  have:=scV_txt 130 v (fine_ok h).1 hw [] (by intro c hc; cases hc)
  rwa [List.append_nil] at this
theorem rvs_txt {v:Val} (h:fine v = true) (hw:Wf v):rvs (txt v) = (v,0):=by
  have h1:=fine_len h
  unfold rvs
  rw [if_neg (by omega),scV_fine h hw,if_pos ⟨rfl,rfl,h,rfl⟩]
theorem rvs_inv {s:Bytes} (h:(rvs s).2 = 0):fine (rvs s).1 = true∧txt (rvs s).1 = s∧Wf (rvs s).1:=by
  unfold rvs at h ⊢
  split
  · rename_i h1; rw [if_pos h1] at h; cases h
  · rename_i h1
    rw [if_neg h1] at h
    split
    · rename_i h2; exact ⟨h2.2.2.1,h2.2.2.2,scV_wf _ _⟩
    · rename_i h2; rw [if_neg h2] at h; cases h
theorem rvs_wf (s:Bytes):Wf (rvs s).1:=by
  unfold rvs
  split
  · exact Wf.zero
  · split
    · exact scV_wf _ _
    · exact Wf.zero
noncomputable def sameV (v w:Val):Bool:=@decide (v = w) (Classical.propDecidable _)
theorem sameV_true {v w:Val}:sameV v w = true ↔ v = w:=by unfold sameV; simp
theorem sameV_false {v w:Val}:sameV v w = false ↔ v≠w:=by
  rw [← Bool.not_eq_true,sameV_true]
end Go.AM

namespace Go.AM
open Go
theorem bv_split {x m c:BitVec 64} (h:x &&& ~~~m = c):x = c ||| (x &&& m):=by
  subst h
  apply BitVec.eq_of_getLsbD_eq
  intro i hi
  simp only [BitVec.getLsbD_or,BitVec.getLsbD_and,BitVec.getLsbD_not,hi,decide_true,Bool.true_and]
  cases x.getLsbD i <;> cases m.getLsbD i <;> rfl
theorem bv_two (x:BitVec 64) (i:Nat):x &&& BitVec.twoPow 64 i = BitVec.twoPow 64 i∨x &&& BitVec.twoPow 64 i = 0#64:=by
  rw [BitVec.and_twoPow]
  split
  · exact .inl rfl
  · exact .inr rfl
theorem wrap_toNat (x:BitVec 64):IntKind.u64.wrap (x.toNat:Int) = (x.toNat:Int):=wr_u64_nat x.isLt
theorem ofInt_toNat {f:Int} (h:0≤f∧f < 18446744073709551616):f = ((BitVec.ofInt 64 f).toNat:Int):=by
  rw [BitVec.toNat_ofInt]; omega
theorem flag2 {f:Int} (h:0≤f∧f < 18446744073709551616):bAndNot .u64 f 4 = 2 ↔ f = 2∨f = 6:=by
  constructor
  · intro h1
    have h1:IntKind.u64.wrap ((BitVec.ofInt 64 f &&& ~~~(BitVec.ofInt 64 4)).toNat:Int) = 2:=h1
    rw [wrap_toNat] at h1
    have h2:BitVec.ofInt 64 f &&& ~~~(BitVec.ofInt 64 4) = 2#64:=BitVec.eq_of_toNat_eq (by rw [show (2#64).toNat = 2 from rfl]; omega)
    have h3:=bv_split h2
    rw [show BitVec.ofInt 64 4 = BitVec.twoPow 64 2 from by decide] at h3
    rcases bv_two (BitVec.ofInt 64 f) 2 with h4 | h4 <;> rw [h4] at h3 <;> have h5:=ofInt_toNat h <;> rw [h3] at h5
    · exact .inr h5
    · exact .inl h5
  · rintro (rfl | rfl) <;> decide
theorem flag0 {f:Int} (h:0≤f∧f < 18446744073709551616):bAndNot .u64 f 5 = 0 ↔ f = 0∨f = 1∨f = 4∨f = 5:=by
  constructor
  · intro h1
    have h1:IntKind.u64.wrap ((BitVec.ofInt 64 f &&& ~~~(BitVec.ofInt 64 5)).toNat:Int) = 0:=h1
    rw [wrap_toNat] at h1
    have h2:BitVec.ofInt 64 f &&& ~~~(BitVec.ofInt 64 5) = 0#64:=BitVec.eq_of_toNat_eq (by rw [show (0#64).toNat = 0 from rfl]; omega)
    have h3:=bv_split h2
    have e:BitVec.ofInt 64 f &&& BitVec.ofInt 64 5 = (BitVec.ofInt 64 f &&& BitVec.twoPow 64 2) ||| (BitVec.ofInt 64 f &&& BitVec.twoPow 64 0):=by
      rw [show BitVec.ofInt 64 5 = BitVec.twoPow 64 2 ||| BitVec.twoPow 64 0 from by decide]
      apply BitVec.eq_of_getLsbD_eq
      intro i hi
      simp only [BitVec.getLsbD_or,BitVec.getLsbD_and]
      cases (BitVec.ofInt 64 f).getLsbD i <;> rfl
    rw [e] at h3
    have h5:=ofInt_toNat h
    rcases bv_two (BitVec.ofInt 64 f) 2 with h4 | h4 <;> rcases bv_two (BitVec.ofInt 64 f) 0 with h6 | h6 <;> rw [h4,h6] at h3 <;> rw [h3] at h5
    · exact .inr (.inr (.inr h5))
    · exact .inr (.inr (.inl h5))
    · exact .inr (.inl h5)
    · exact .inl h5
  · rintro (rfl | rfl | rfl | rfl) <;> decide
def tExit:Bytes:=[101,120,105,116]
def tPan:Bytes:=[112,97,110,105,99,32]
def tRec:Bytes:=[32,114,101,99,111,118,101,114,101,100]
def tAb:Bytes:=[32,97,98,111,114,116,101,100]
def tFau:Bytes:=[102,97,117,108,116,32]
def tF1:Bytes:=[102,97,117,108,116,32,49,58,32,100,105,118,105,115,105,111,110,32,98,121,32,122,101,114,111]
def tF2:Bytes:=[102,97,117,108,116,32,50,58,32,110,105,108,32,112,111,105,110,116,101,114]
def tF3:Bytes:=[102,97,117,108,116,32,51,58,32,111,117,116,32,111,102,32,114,97,110,103,101]
def faultT (n:Int):Bytes:=if n = 1 then tF1 else if n = 2 then tF2 else if n = 3 then tF3 else []
def kindT (t:Int):Int:=if t = 1 then 2 else if t = 2 then 1 else if t = 3 then 3 else if t = 4 then 2 else 0
structure WfP (p:Pan):Prop where
  t:0≤p.tag∧p.tag < 18446744073709551616
  v:Wf p.value
  f:0≤p.flags∧p.flags < 18446744073709551616
def isZ (v:Val):Bool:=decide (v.kind = 0) && decide (v.int = 0) && decide (v.text = []) && decide (v.list.length = 0) && !v.cut
theorem isZ_true {v:Val}:isZ v = true ↔ v = vz:=by
  unfold isZ
  simp only [Bool.and_eq_true,decide_eq_true_eq,Bool.not_eq_true',and_assoc,List.length_eq_zero_iff]
  cases v with
  | mk k n s l c=>simp
def okP (p:Pan):Bool:=decide (p.tag≤4) && decide (p.value.kind = kindT p.tag) && (if p.tag = 0 then isZ p.value && decide (p.flags = 2∨p.flags = 6)
  else decide (p.flags = 0∨p.flags = 1∨p.flags = 4∨p.flags = 5) && decide (p.tag = 4→1≤p.value.int∧p.value.int≤3) && fine p.value)
def chkP (p:Pan):Int:=if okP p = true then 0 else 8
def baseP (p:Pan):Bytes:=if p.tag = 0 then tExit else if p.tag = 4 then faultT p.value.int else tPan ++ txt p.value
def sufP (f:Int):Bytes:=(if f % 2 = 1 then tRec else []) ++ (if 4≤f then tAb else [])
def shown (p:Pan):Bytes:=baseP p ++ sufP p.flags
def lnP (p:Pan):Bytes × Int:=if okP p = true then (shown p,0) else ([],8)
def pz:Pan:=⟨0,vz,0⟩
def cuts (p s:Bytes):Bytes × Bool:=if p.length≤s.length∧s.drop (s.length - p.length) = p then (s.take (s.length - p.length),true) else (s,false)
theorem cuts_app (p s:Bytes):cuts p (s ++ p) = (s,true):=by
  unfold cuts
  rw [if_pos ⟨by simp,by simp⟩]
  simp
theorem cuts_yes {p s:Bytes} (h:(cuts p s).2 = true):s = (cuts p s).1 ++ p:=by
  unfold cuts at h ⊢
  split
  · rename_i h1
    have:=List.take_append_drop (s.length - p.length) s
    rw [h1.2] at this
    exact this.symm
  · rename_i h1; rw [if_neg h1] at h; cases h
theorem cuts_no {p s:Bytes} (h:(cuts p s).2 = false):(cuts p s).1 = s:=by
  unfold cuts at h ⊢
  split
  · rename_i h1; rw [if_pos h1] at h; cases h
  · rfl
theorem cuts_last {p s:Bytes} {c d:UInt8} (hs:s.getLast? = some c) (hp:p.getLast? = some d) (h:c≠d):cuts p s = (s,false):=by
  unfold cuts
  rw [if_neg]
  rintro ⟨h1,h2⟩
  have h3:s.getLast? = p.getLast?:=by
    rw [← List.take_append_drop (s.length - p.length) s,h2,List.getLast?_append,hp]; rfl
  rw [hs,hp] at h3
  injection h3 with h3
  exact h h3
def coreP (s:Bytes):Option Pan:=if s = tExit then some ⟨0,vz,2⟩ else if s = tF1 then some ⟨4,Val.mk 2 1 [] [] false,0⟩ else if s = tF2 then some ⟨4,Val.mk 2 2 [] [] false,0⟩ else if s = tF3 then some ⟨4,Val.mk 2 3 [] [] false,0⟩ else
  if (cutp tPan s).2 = false then none else
  if (rvs (cutp tPan s).1).2≠0 then none else
  let v:=(rvs (cutp tPan s).1).1
  if v.kind = 2 then some ⟨1,v,0⟩ else if v.kind = 1 then some ⟨2,v,0⟩ else if v.kind = 3 then some ⟨3,v,0⟩ else none
def rlP (s:Bytes):Pan × Int:=if 2000 < s.length then (pz,4) else
  let a:=cuts tAb s
  let r:=cuts tRec a.1
  match coreP r.1 with
  | none=>(pz,12)
  | some p=>let q:Pan:=⟨p.tag,p.value,p.flags + (if r.2 = true then 1 else 0) + (if a.2 = true then 4 else 0)⟩
    if okP q = true then (q,0) else (pz,12)
end Go.AM

namespace Go.AM
open Go
theorem cuts_long {p q b:Bytes} (h:p.length≤q.length):cuts p (b ++ q) = (b ++ (cuts p q).1,(cuts p q).2):=by
  have e:(b ++ q).length - p.length = b.length + (q.length - p.length):=by simp; omega
  unfold cuts
  rw [e,List.drop_append,List.take_append]
  rw [List.drop_of_length_le (by omega),List.take_of_length_le (by omega),List.nil_append,show b.length + (q.length - p.length) - b.length = q.length - p.length by omega]
  by_cases h1:q.drop (q.length - p.length) = p
  · rw [if_pos ⟨by simp; omega,h1⟩,if_pos ⟨h,h1⟩]
  · rw [if_neg fun h2=>h1 h2.2,if_neg fun h2=>h1 h2.2]
theorem vNum_eq {v:Val} (h:fine v = true) (hk:v.kind = 2):v = Val.mk 2 v.int [] [] false:=by
  have h1:=okv_head (fine_ok h).1
  cases v with
  | mk k n s l c=>
    simp only [Val.okh,Okh,Val.kind_mk,Val.int_mk,Val.text_mk,Val.list_mk,Val.cut_mk] at h1 hk ⊢
    subst hk
    have hl:=len0 (l:=l) (by omega)
    have hs:=len0 (l:=s) (by omega)
    subst hl; subst hs
    cases c with
    | false=>rfl
    | true=>simp at h1
theorem num_last (n:Int) :∃b c,num n = b ++ [c]∧c≠100:=by
  have key :∀m:Nat,∃b c,digs 10 m = b ++ [c]∧c≠100:=by
    intro m
    obtain ⟨b,c,h⟩ :∃b c,digs 10 m = b ++ [c]:=by
      have h:=digs_ne 10 m
      exact ⟨_,_,(List.dropLast_concat_getLast h).symm⟩
    refine ⟨b,c,h,fun hc=>?_⟩
    have:=ds_isD 64 m c (by rw [show ds 10 64 m = digs 10 m from rfl,h]; simp)
    rw [hc] at this
    exact absurd this (by decide)
  unfold num
  split
  · obtain ⟨b,c,h,hc⟩:=key (-n).toNat
    exact ⟨45 :: b,c,by rw [h]; rfl,hc⟩
  · exact key _
theorem base_last {p:Pan} (h:okP p = true) :∃b c,baseP p = b ++ [c]∧c≠100:=by
  unfold okP at h
  simp only [Bool.and_eq_true,decide_eq_true_eq] at h
  obtain ⟨⟨h1,h2⟩,h3⟩:=h
  unfold baseP
  by_cases t0:p.tag = 0
  · rw [if_pos t0]; exact ⟨[101,120,105],116,rfl,by decide⟩
  rw [if_neg t0] at h3 ⊢
  simp only [Bool.and_eq_true,decide_eq_true_eq] at h3
  obtain ⟨⟨h4,h5⟩,h6⟩:=h3
  by_cases t4:p.tag = 4
  · rw [if_pos t4]
    have:=h5 t4
    rcases (show p.value.int = 1∨p.value.int = 2∨p.value.int = 3 by omega) with h | h | h <;> rw [h]
    · exact ⟨tF1.dropLast,111,rfl,by decide⟩
    · exact ⟨tF2.dropLast,114,rfl,by decide⟩
    · exact ⟨tF3.dropLast,101,rfl,by decide⟩
  rw [if_neg t4]
  have hk:p.value.kind = 2∨p.value.kind = 1∨p.value.kind = 3:=by
    rw [h2]; unfold kindT
    by_cases a1:p.tag = 1
    · rw [if_pos a1]; exact .inl rfl
    rw [if_neg a1]
    by_cases a2:p.tag = 2
    · rw [if_pos a2]; exact .inr (.inl rfl)
    rw [if_neg a2]
    by_cases a3:p.tag = 3
    · rw [if_pos a3]; exact .inr (.inr rfl)
    rw [if_neg a3,if_neg t4]
    have h0:=okv_head (fine_ok h6).1
    unfold Val.okh Okh at h0
    rw [h2] at h0
    unfold kindT at h0
    rw [if_neg a1,if_neg a2,if_neg a3,if_neg t4] at h0
    omega
  have add :∀{x:Bytes},(∃b c,x = b ++ [c]∧c≠(100:UInt8))→∃b c,tPan ++ x = b ++ [c]∧c≠(100:UInt8):=fun ⟨b,c,h,hc⟩=>⟨tPan ++ b,c,by rw [h]; simp,hc⟩
  apply add
  rw [txt_eq]
  rcases hk with h | h | h <;> rw [h]
  · exact num_last _
  · rw [if_pos rfl]
    split
    · exact ⟨[116,114,117],101,rfl,by decide⟩
    · exact ⟨[102,97,108,115],101,rfl,by decide⟩
  · exact ⟨34 :: chrs p.value.text,34,rfl,by decide⟩
theorem okP_flags {p:Pan} (h:okP p = true):(p.tag = 0∧p.value = vz∧(p.flags = 2∨p.flags = 6))∨(p.tag≠0∧fine p.value = true∧(p.flags = 0∨p.flags = 1∨p.flags = 4∨p.flags = 5)):=by
  unfold okP at h
  simp only [Bool.and_eq_true,decide_eq_true_eq] at h
  obtain ⟨⟨h1,h2⟩,h3⟩:=h
  by_cases t0:p.tag = 0
  · rw [if_pos t0] at h3
    simp only [Bool.and_eq_true,decide_eq_true_eq] at h3
    exact .inl ⟨t0,isZ_true.1 h3.1,h3.2⟩
  · rw [if_neg t0] at h3
    simp only [Bool.and_eq_true,decide_eq_true_eq] at h3
    exact .inr ⟨t0,h3.2,h3.1.1⟩
theorem cut_shown {p:Pan} (h:okP p = true):(cuts tAb (shown p)).2 = decide (4≤p.flags)∧cuts tRec (cuts tAb (shown p)).1 = (baseP p,decide (p.flags % 2 = 1)):=by
  obtain ⟨b,c,hb,hc⟩:=base_last h
  have a1:cuts tAb (baseP p) = (baseP p,false):=cuts_last (c:=c) (d:=100) (by rw [hb]; simp) rfl hc
  have a2:cuts tRec (baseP p) = (baseP p,false):=cuts_last (c:=c) (d:=100) (by rw [hb]; simp) rfl hc
  have a3:cuts tAb (baseP p ++ tRec) = (baseP p ++ tRec,false):=by rw [cuts_long (by decide)]; rfl
  have hf:p.flags = 0∨p.flags = 1∨p.flags = 2∨p.flags = 4∨p.flags = 5∨p.flags = 6:=by rcases okP_flags h with ⟨_,_,h⟩ | ⟨_,_,h⟩ <;> omega
  unfold shown sufP
  rcases hf with h | h | h | h | h | h <;> rw [h]
  · rw [show baseP p ++ ((if (0:Int) % 2 = 1 then tRec else []) ++ (if (4:Int)≤0 then tAb else [])) = baseP p by simp,a1]; exact ⟨rfl,a2⟩
  · rw [show baseP p ++ ((if (1:Int) % 2 = 1 then tRec else []) ++ (if (4:Int)≤1 then tAb else [])) = baseP p ++ tRec by simp,a3]; exact ⟨rfl,cuts_app _ _⟩
  · rw [show baseP p ++ ((if (2:Int) % 2 = 1 then tRec else []) ++ (if (4:Int)≤2 then tAb else [])) = baseP p by simp,a1]; exact ⟨rfl,a2⟩
  · rw [show baseP p ++ ((if (4:Int) % 2 = 1 then tRec else []) ++ (if (4:Int)≤4 then tAb else [])) = baseP p ++ tAb by simp,cuts_app]; exact ⟨rfl,a2⟩
  · rw [show baseP p ++ ((if (5:Int) % 2 = 1 then tRec else []) ++ (if (4:Int)≤5 then tAb else [])) = (baseP p ++ tRec) ++ tAb by simp,cuts_app]; exact ⟨rfl,cuts_app _ _⟩
  · rw [show baseP p ++ ((if (6:Int) % 2 = 1 then tRec else []) ++ (if (4:Int)≤6 then tAb else [])) = baseP p ++ tAb by simp,cuts_app]; exact ⟨rfl,a2⟩
theorem core_base {p:Pan} (h:okP p = true) (hw:Wf p.value):coreP (baseP p) = some ⟨p.tag,p.value,if p.tag = 0 then 2 else 0⟩:=by
  have h0:=okP_flags h
  unfold okP at h
  simp only [Bool.and_eq_true,decide_eq_true_eq] at h
  obtain ⟨⟨h1,h2⟩,h3⟩:=h
  obtain ⟨t,v,f⟩:=p
  simp only at h0 h1 h2 h3 hw ⊢
  unfold baseP
  rcases h0 with ⟨rfl,rfl,_⟩ | ⟨t0,hf,_⟩
  · rfl
  rw [if_neg t0] at h3
  simp only [Bool.and_eq_true,decide_eq_true_eq] at h3
  obtain ⟨⟨h4,h5⟩,h6⟩:=h3
  simp only
  rw [if_neg t0]
  by_cases t4:t = 4
  · subst t4
    have hv:=vNum_eq hf h2
    have:=h5 rfl
    rw [if_pos rfl]
    rcases (show v.int = 1∨v.int = 2∨v.int = 3 by omega) with h | h | h <;> rw [h] at hv <;> rw [hv] <;> rfl
  rw [if_neg t4,if_neg t0]
  have ne :∀{x:Bytes} {c:UInt8} {r:Bytes},x = c :: r→c≠112→tPan ++ txt v≠x:=fun hx hc e=>by
    rw [hx] at e
    injection e with e
    exact hc e.symm
  unfold coreP
  rw [if_neg (ne (x:=tExit) (c:=101) rfl (by decide)),if_neg (ne (x:=tF1) (c:=102) rfl (by decide)),if_neg (ne (x:=tF2) (c:=102) rfl (by decide)),if_neg (ne (x:=tF3) (c:=102) rfl (by decide)),cutp_app,if_neg (show ¬(true = false) by decide),rvs_txt hf hw,if_neg (show ¬((0:Int)≠0) by decide)]
  simp only
  unfold kindT at h2
  by_cases a1:t = 1
  · subst a1
    rw [if_pos rfl] at h2
    rw [if_pos h2]
  rw [if_neg a1] at h2
  by_cases a2:t = 2
  · subst a2
    rw [if_pos rfl] at h2
    rw [if_neg (by omega),if_pos h2]
  rw [if_neg a2] at h2
  by_cases a3:t = 3
  · subst a3
    rw [if_pos rfl] at h2
    rw [if_neg (by omega),if_neg (by omega),if_pos h2]
  rw [if_neg a3,if_neg t4] at h2
  have h7:=okv_head (fine_ok hf).1
  unfold Val.okh Okh at h7
  omega
theorem txt_small {v:Val} (h:fine v = true) (hk:v.kind = 1∨v.kind = 2∨v.kind = 3):(txt v).length≤300:=by
  have h7:=okv_head (fine_ok h).1
  unfold Val.okh Okh at h7
  have h8:=num_len v.int
  have h9:=quo_len v.text
  rw [txt_eq]
  rcases hk with h | h | h <;> rw [h]
  · rw [if_pos rfl]; split <;> decide
  · show (num v.int).length≤300; omega
  · show (quo v.text).length≤300; omega
theorem okP_kind {p:Pan} (h:okP p = true) (h0:p.tag≠0):p.value.kind = 1∨p.value.kind = 2∨p.value.kind = 3:=by
  have hf:fine p.value = true:=by rcases okP_flags h with h | h; exact absurd h.1 h0; exact h.2.1
  unfold okP at h
  simp only [Bool.and_eq_true,decide_eq_true_eq] at h
  have h2:=h.1.2
  have h7:=okv_head (fine_ok hf).1
  unfold Val.okh Okh at h7
  unfold kindT at h2
  repeat' split at h2
  all_goals omega
theorem shown_len {p:Pan} (h:okP p = true):(shown p).length≤400:=by
  have hs:(sufP p.flags).length≤18:=by unfold sufP; split <;> split <;> decide
  have hb:(baseP p).length≤310:=by
    unfold baseP
    by_cases t0:p.tag = 0
    · rw [if_pos t0]; decide
    rw [if_neg t0]
    split
    · unfold faultT; repeat' split
      all_goals decide
    · have hf:fine p.value = true:=by rcases okP_flags h with h | h; exact absurd h.1 t0; exact h.2.1
      have:=txt_small hf (okP_kind h t0)
      rw [List.length_append,show tPan.length = 6 from rfl]; omega
  unfold shown
  rw [List.length_append]; omega
theorem rlP_shown {p:Pan} (h:okP p = true) (hw:Wf p.value):rlP (shown p) = (p,0):=by
  have h1:=shown_len h
  obtain ⟨h2,h3⟩:=cut_shown h
  have h4:=core_base h hw
  unfold rlP
  rw [if_neg (by omega)]
  simp only [h2,h3]
  rw [h4]
  simp only
  have e:(if p.tag = 0 then (2:Int) else 0) + (if decide (p.flags % 2 = 1) = true then 1 else 0) + (if decide (4≤p.flags) = true then 4 else 0) = p.flags:=by
    simp only [decide_eq_true_eq]
    rcases okP_flags h with ⟨a,_,b⟩ | ⟨a,_,b⟩
    · rw [if_pos a]; rcases b with b | b <;> rw [b] <;> decide
    · rw [if_neg a]; rcases b with b | b | b | b <;> rw [b] <;> decide
  rw [e,if_pos (show okP ⟨p.tag,p.value,p.flags⟩ = true from h)]
theorem core_wf {s:Bytes} {p:Pan} (h:coreP s = some p):Wf p.value∧(p.flags = 0∨p.flags = 2)∧0≤p.tag∧p.tag≤4∧baseP p = s:=by
  have wn :∀n:Int,n = 1∨n = 2∨n = 3→Wf (Val.mk 2 n [] [] false):=fun n hn=>.mk (by decide) (by omega) (by decide) (by simp)
  unfold coreP at h
  by_cases h1:s = tExit
  · rw [if_pos h1] at h; cases h; exact ⟨Wf.zero,.inr rfl,by decide,by decide,h1.symm⟩
  rw [if_neg h1] at h
  by_cases h2:s = tF1
  · rw [if_pos h2] at h; cases h; exact ⟨wn 1 (by decide),.inl rfl,by decide,by decide,h2.symm⟩
  rw [if_neg h2] at h
  by_cases h3:s = tF2
  · rw [if_pos h3] at h; cases h; exact ⟨wn 2 (by decide),.inl rfl,by decide,by decide,h3.symm⟩
  rw [if_neg h3] at h
  by_cases h4:s = tF3
  · rw [if_pos h4] at h; cases h; exact ⟨wn 3 (by decide),.inl rfl,by decide,by decide,h4.symm⟩
  rw [if_neg h4] at h
  by_cases h5:(cutp tPan s).2 = false
  · rw [if_pos h5] at h; cases h
  rw [if_neg h5] at h
  by_cases h6:(rvs (cutp tPan s).1).2≠0
  · rw [if_pos h6] at h; cases h
  rw [if_neg h6] at h
  have h5:(cutp tPan s).2 = true:=by simpa using h5
  obtain ⟨g1,g2,g3⟩:=rvs_inv (Decidable.not_not.1 h6)
  have es:tPan ++ txt (rvs (cutp tPan s).1).1 = s:=by
    rw [g2]
    unfold cutp at h5 ⊢
    split at h5
    · rename_i h7
      have:=List.take_append_drop tPan.length s
      rw [h7] at this
      rw [if_pos h7]
      exact this
    · cases h5
  simp only at h
  split at h
  · cases h; exact ⟨g3,.inl rfl,by simp only; decide,by simp only; decide,es⟩
  split at h
  · cases h; exact ⟨g3,.inl rfl,by simp only; decide,by simp only; decide,es⟩
  split at h
  · cases h; exact ⟨g3,.inl rfl,by simp only; decide,by simp only; decide,es⟩
  · cases h
theorem suf_add {f:Int} (hf:f = 0∨f = 2) (r a:Bool):sufP (f + (if r = true then 1 else 0) + (if a = true then 4 else 0)) = (if r = true then tRec else []) ++ (if a = true then tAb else []):=by
  rcases hf with rfl | rfl <;> cases r <;> cases a <;> rfl
theorem rlP_inv {s:Bytes} (h:(rlP s).2 = 0):okP (rlP s).1 = true∧WfP (rlP s).1∧shown (rlP s).1 = s∧s.length≤2000:=by
  unfold rlP at h ⊢
  by_cases hl:2000 < s.length
  · rw [if_pos hl] at h; cases h
  rw [if_neg hl] at h ⊢
  simp only at h ⊢
  have ha1:=@cuts_yes tAb s
  have ha2:=@cuts_no tAb s
  generalize cuts tAb s = a at h ha1 ha2 ⊢
  have hr1:=@cuts_yes tRec a.1
  have hr2:=@cuts_no tRec a.1
  generalize cuts tRec a.1 = r at h hr1 hr2 ⊢
  cases hc:coreP r.1 with
  | none=>rw [hc] at h; cases h
  | some p=>
    rw [hc] at h
    simp only at h ⊢
    obtain ⟨g1,g2,g3,g3',g4⟩:=core_wf hc
    by_cases ho:okP ⟨p.tag,p.value,p.flags + (if r.2 = true then 1 else 0) + (if a.2 = true then 4 else 0)⟩ = true
    · rw [if_pos ho]
      refine ⟨ho,⟨⟨g3,by simp only; omega⟩,g1,?_⟩,?_,by omega⟩
      · simp only; constructor <;> (split <;> split <;> omega)
      · have e:baseP ⟨p.tag,p.value,p.flags + (if r.2 = true then 1 else 0) + (if a.2 = true then 4 else 0)⟩ = r.1:=g4
        unfold shown
        rw [e]
        simp only
        rw [suf_add g2]
        cases hr:r.2 with
        | true=>
          cases ha:a.2 with
          | true=>rw [ha1 ha,hr1 hr]; simp
          | false=>rw [← ha2 ha,hr1 hr]; simp
        | false=>
          cases ha:a.2 with
          | true=>rw [ha1 ha,← hr2 hr]; simp
          | false=>rw [← ha2 ha,← hr2 hr]; simp
    · rw [if_neg ho] at h; cases h
end Go.AM

namespace Go.AM
open Go
structure Has38 (prog:Prog):Prop extends Has03 prog,HasB prog where
  f71:prog.fn 71 = some pf71
  f72:prog.fn 72 = some pf72
  f74:prog.fn 74 = some pf74
  f75:prog.fn 75 = some pf75
  f76:prog.fn 76 = some pf76
  f77:prog.fn 77 = some pf77
  f78:prog.fn 78 = some pf78
  f102:prog.fn 102 = some pf102
  f103:prog.fn 103 = some pf103
  f104:prog.fn 104 = some pf104
  f106:prog.fn 106 = some pf106
  f107:prog.fn 107 = some pf107
  f108:prog.fn 108 = some pf108
  f109:prog.fn 109 = some pf109
  f110:prog.fn 110 = some pf110
  f127:prog.fn 127 = some pf127
  f128:prog.fn 128 = some pf128
  f129:prog.fn 129 = some pf129
  f130:prog.fn 130 = some pf130
  f131:prog.fn 131 = some pf131
  f132:prog.fn 132 = some pf132
  f133:prog.fn 133 = some pf133
  f134:prog.fn 134 = some pf134
  f135:prog.fn 135 = some pf135
  f136:prog.fn 136 = some pf136
section
variable {prog:Prog} (H:Has38 prog)
include H
theorem c136 (v:Val):Pus prog 136 [v.av] (.b (decide (v.list.length = 0∧v.cut = false))):=by
  obtain ⟨x,rfl,h⟩:=p136 H.f136 (v0:=v) (K:=fun x=>x = decide (v.list.length = 0∧v.cut = false)) (by
    unfold T136_0
    refine ⟨fun h=>?_,fun h=>?_⟩
    · cases v.cut
      · exact (decide_eq_true ⟨by omega,rfl⟩).symm
      · exact (decide_eq_false (by rintro ⟨_,h⟩; cases h)).symm
    · exact (decide_eq_false (by rintro ⟨h1,_⟩; omega)).symm)
  exact h
theorem c102 :∀(d:Nat) {v:Val},Wf v→d≤1000→Pus prog 102 [v.av,.i .i64 (d:Int)] (.b (deepv d v))
  | 0,v,hw,hd=>by
    obtain ⟨x,rfl,h⟩:=p102 H.f102 (v0:=v) (most1:=((0:Nat):Int)) (K:=fun x=>x = deepv 0 v) (by
      unfold T102_0
      exact ⟨fun _=>rfl,fun h=>absurd rfl h⟩)
    exact h
  | d + 1,v,hw,hd=>by
    have ih:=@c102 d
    obtain ⟨x,rfl,h⟩:=p102 H.f102 (v0:=v) (most1:=((d + 1:Nat):Int)) (K:=fun x=>x = deepv (d + 1) v) (by
      have hm:IntKind.i64.wrap (((d + 1:Nat):Int) - 1) = (d:Int):=by rw [wr_i64 (by omega) (by omega)]; omega
      unfold T102_0
      refine ⟨fun h=>absurd h (by omega),fun _=>⟨fun h=>?_,fun h1=>⟨fun h=>?_,fun h2 P hP=>?_⟩⟩⟩
      · rw [deepv,decide_eq_true (show 100 < v.text.length by omega)]; rfl
      · rw [deepv,decide_eq_true (show 400 < v.list.length by omega),Bool.or_true]; rfl
      · have e:deepv (d + 1) v = v.list.any (deepv d):=by
          rw [deepv,decide_eq_false (by omega),decide_eq_false (by omega)]; rfl
        refine loop_inv (P:=fun _ i=>P i v) (fun _=>()) v.list.length (fun i=>(v.list.take i).any (deepv d) = false) (by simp) (fun hI=>?_) (fun i hi hI ihP=>?_)
        · apply hP
          unfold T102_1 T102_2
          refine ⟨fun h=>absurd h (by omega),fun _=>?_⟩
          rw [List.take_length] at hI
          rw [e,hI]
        · apply hP
          unfold T102_1
          refine ⟨fun _=>⟨by omega,_,get_at hi,_,by rw [hm]; exact ih (hw.e _ (List.getElem_mem hi)) (by omega),fun h3=>?_,fun h3=>?_⟩,fun h=>absurd (show (i:Int) < v.list.length by omega) h⟩
          · rw [e]
            exact (List.any_eq_true.2 ⟨_,List.getElem_mem hi,h3⟩).symm
          · rw [wr_succ (by omega)]
            refine ihP ?_
            rw [List.take_succ_eq_append_getElem hi,List.any_append,hI]
            simpa using h3)
    exact h
omit H in
theorem rNs_snoc {l:List Val} {i n:Nat} (hi:i < l.length) (hn:rNs (l.take i) n≤5000):rNs (l.take (i + 1)) n = rNs (l.take i) n + rN l[i]:=by
  have key :∀(l:List Val) (v:Val) (n:Nat),rNs l n≤5000→rNs (l ++ [v]) n = rNs l n + rN v:=by
    intro l
    induction l with
    | nil=>intro v n h; rw [rNs] at h; simp [rNs,h]
    | cons w l ih=>
      intro v n h
      rw [rNs] at h
      by_cases hn:n≤5000
      · rw [if_pos hn] at h
        simp only [List.cons_append,rNs,if_pos hn]
        exact ih v _ h
      · rw [if_neg hn] at h
        exact absurd h hn
  rw [List.take_succ_eq_append_getElem hi,key _ _ _ hn]
omit H in
theorem rNs_stop {l:List Val} {i n:Nat} (h:5000 < rNs (l.take i) n):rNs l n = rNs (l.take i) n:=by
  have key :∀(l m:List Val) (n:Nat),5000 < rNs l n→rNs (l ++ m) n = rNs l n:=by
    intro l
    induction l with
    | nil=>
      intro m n h
      rw [rNs] at h
      cases m with
      | nil=>rfl
      | cons w m=>simp only [List.nil_append,rNs]; rw [if_neg (by omega)]
    | cons w l ih=>
      intro m n h
      rw [rNs] at h
      simp only [List.cons_append,rNs]
      split
      · rename_i hn; rw [if_pos hn] at h; exact ih m _ h
      · rfl
  have:=key (l.take i) (l.drop i) n h
  rwa [List.take_append_drop] at this
theorem c103 :∀(d:Nat) {v:Val},Sm d v→d≤1000→Pus prog 103 [v.av] (.i .i64 (rN v:Int))
  | 0,v,hs,hd=>hs.elim
  | d + 1,v,hs,hd=>by
    have ih:=@c103 d
    obtain ⟨x,rfl,h⟩:=p103 H.f103 (v0:=v) (K:=fun x=>x = (rN v:Int)) (by
      unfold T103_0
      intro P hP
      have e:=rN_eq v
      refine loop_inv (P:=fun n i=>P n i v) (fun i=>(rNs (v.list.take i) 1:Int)) v.list.length (fun _=>True) trivial (fun _=>?_) (fun i hi _ ihP=>?_)
      · apply hP
        unfold T103_1 T103_2
        refine ⟨fun h=>absurd h (by omega),fun _=>?_⟩
        rw [List.take_length,e]
      · apply hP
        unfold T103_1 T103_2
        refine ⟨fun _=>⟨fun h=>⟨by omega,_,get_at hi,_,ih (hs.2 _ (List.getElem_mem hi)) (by omega),?_⟩,fun h=>?_⟩,fun h=>absurd (show (i:Int) < v.list.length by omega) h⟩
        · have h1:=rN_le (hs.2 _ (List.getElem_mem hi))
          have h2:=hs.1
          have h3:=rNs_snoc (l:=v.list) (n:=1) hi (by omega)
          have:=ihP trivial
          rw [h3] at this
          rw [wr_i64 (by omega) (by omega),wr_succ (by omega)]
          simpa using this
        · rw [e,rNs_stop (i:=i) (by omega)])
    exact h
theorem c71 {v:Val} (hw:Wf v):Pus prog 71 [v.av] (.b (greatv v)):=by
  obtain ⟨x,rfl,h⟩:=p71 H.f71 (v0:=v) (K:=fun x=>x = greatv v) (by
    unfold T71_0 greatv
    refine ⟨_,c102 H 14 hw (by decide),fun h=>by rw [h]; rfl,fun h=>⟨_,c103 H 14 (deepv_sm h) (by decide),?_⟩⟩
    rw [h,Bool.false_or]
    exact decide_eq_decide.2 (by omega))
  exact h
end
end Go.AM

namespace Go.AM
open Go
theorem bAnd1 (n:Int):bAnd .i64 n 1 = n % 2:=by
  unfold bAnd
  have h1:(BitVec.ofInt IntKind.i64.bits n &&& BitVec.ofInt IntKind.i64.bits 1).toNat = (n % 2).toNat:=by
    show (BitVec.ofInt 64 n &&& BitVec.ofInt 64 1).toNat = _
    rw [BitVec.toNat_and]
    have h2:(BitVec.ofInt 64 1).toNat = 2 ^ 1 - 1:=by decide
    rw [h2,Nat.and_two_pow_sub_one_eq_mod,BitVec.toNat_ofInt]
    omega
  rw [h1,wr_i64 (by omega) (by omega)]
  omega
theorem cut_cases (v:Val):(v.cut = true∧v.cut.toNat = 1)∨(v.cut = false∧v.cut.toNat = 0):=by cases v.cut <;> simp
theorem okv_succ (d:Nat) (v:Val):okv (d + 1) v = (decide v.okh && v.list.all (okv d)):=rfl
theorem okv_no {d:Nat} {v:Val} (h:¬v.okh):okv (d + 1) v = false:=by rw [okv_succ,decide_eq_false h]; rfl
theorem okv_yes {d:Nat} {v:Val} (h:v.okh):okv (d + 1) v = v.list.all (okv d):=by rw [okv_succ,decide_eq_true h]; rfl
theorem okv_leaf {d:Nat} {v:Val} (h:v.list.length = 0) (p:Prop) [Decidable p] (hp:p ↔ v.okh):decide p = okv (d + 1) v:=by
  rw [okv_succ,decide_eq_decide.2 hp,show v.list.all (okv d) = true by rw [len0 h]; rfl,Bool.and_true]
section
variable {prog:Prog} (H:Has38 prog)
include H
set_option maxHeartbeats 1000000 in
theorem c110 :∀(d:Nat) {v:Val},Wf v→d≤1000→Pus prog 110 [v.av,.i .i64 (d:Int)] (.b (okv d v))
  | 0,v,hw,hd=>by
    obtain ⟨x,rfl,h⟩:=p110 H.f110 (v0:=v) (deep1:=((0:Nat):Int)) (K:=fun x=>x = okv 0 v) (by
      unfold T110_0 T110_1
      exact ⟨fun _=>rfl,fun h=>absurd rfl h⟩)
    exact h
  | d + 1,v,hw,hd=>by
    have ih:=@c110 d
    obtain ⟨x,rfl,h⟩:=p110 H.f110 (v0:=v) (deep1:=((d + 1:Nat):Int)) (K:=fun x=>x = okv (d + 1) v) (by
      have hm:IntKind.i64.wrap (((d + 1:Nat):Int) - 1) = (d:Int):=by rw [wr_i64 (by omega) (by omega)]; omega
      have ht:v.text = [] ↔ v.text.length = 0:=List.length_eq_zero_iff.symm
      have no:¬v.okh→false = okv (d + 1) v:=fun h=>(okv_no h).symm
      have hl:=hw.l
      have lp:v.okh→∀P:Int→Val→Prop,(∀(i6:Int) (m0:Val),T110_8 prog (fun x=>x = okv (d + 1) v) P ((d + 1:Nat):Int) i6 m0→P i6 m0)→P 0 v:=by
        intro ho P hP
        have e:=okv_yes (d:=d) ho
        refine loop_inv (P:=fun _ i=>P i v) (fun _=>()) v.list.length (fun i=>(v.list.take i).all (okv d) = true) (by simp) (fun hI=>?_) (fun i hi hI ihP=>?_)
        · apply hP
          unfold T110_8 T110_9
          refine ⟨fun h=>absurd h (by omega),fun _=>?_⟩
          rw [List.take_length] at hI
          rw [e,hI]
        · apply hP
          unfold T110_8
          refine ⟨fun _=>⟨by omega,_,get_at hi,_,by rw [hm]; exact ih (hw.e _ (List.getElem_mem hi)) (by omega),fun h3=>?_,fun h3=>?_⟩,fun h=>absurd (show (i:Int) < v.list.length by omega) h⟩
          · rw [e]
            refine (List.all_eq_false.2 ⟨_,List.getElem_mem hi,?_⟩).symm
            simpa using h3
          · rw [wr_i64 (by omega) (by omega)]
            refine ihP ?_
            rw [List.take_succ_eq_append_getElem hi,List.all_append,hI]
            simpa using h3
      have leaf:v.list.length = 0→∀(p:Prop) [Decidable p],(p ↔ v.okh)→decide p = okv (d + 1) v:=fun h p _ hp=>okv_leaf h p hp
      have leafT:v.list.length = 0→v.okh→true = okv (d + 1) v:=fun h hp=>by rw [← leaf h True (by simpa using hp)]; simp
      unfold T110_0 T110_1 T110_2 T110_3 T110_4 T110_5 T110_6 T110_7
      simp only [ht,ne_eq]
      refine ⟨fun h=>absurd h (by omega),fun _=>?_⟩
      rcases cut_cases v with ⟨hc,hcn⟩ | ⟨hc,hcn⟩
      all_goals
        refine ⟨fun _=>⟨_,c136 H v,?_,?_⟩,fun _=>⟨fun _=>⟨_,c136 H v,?_,?_⟩,fun _=>⟨fun _=>⟨_,c136 H v,?_,?_⟩,?_⟩⟩⟩
      all_goals simp only [hc,decide_eq_true_eq,decide_eq_false_iff_not,reduceCtorEq,false_imp_iff,true_imp_iff,and_true,true_and,and_false]
      all_goals repeat' first | refine ⟨fun _=>?_,fun _=>?_⟩ | (intro h)
      all_goals first
        | exact no (by unfold Val.okh Okh; omega)
        | exact leafT (by omega) (by unfold Val.okh Okh; omega)
        | exact leaf (by omega) _ (by unfold Val.okh Okh; omega)
        | exact lp (by unfold Val.okh Okh; omega) _ ‹_›
        | (exfalso; omega))
    exact h
end
end Go.AM

namespace Go.AM
open Go
section
variable {prog:Prog} (H:Has38 prog)
include H
set_option maxHeartbeats 1000000 in
theorem c109 :∀(d:Nat) {v:Val},Wf v→d≤1000→Pus prog 109 [v.av,.i .i64 (d:Int)] (.tup [.i .i64 (cntR d v).1,.b (cntR d v).2])
  | 0,v,hw,hd=>by
    obtain ⟨x,y,⟨rfl,rfl⟩,h⟩:=p109 H.f109 (v0:=v) (nest1:=((0:Nat):Int)) (K:=fun x y=>x = (cntR 0 v).1∧y = (cntR 0 v).2) (by
      unfold T109_0 T109_1 T109_2 T109_3 T109_4
      have:cntR 0 v = (0,false):=by unfold cntR; rw [if_neg (by rintro ⟨h,_⟩; cases h)]
      rw [this]
      repeat' first | exact ⟨rfl,rfl⟩ | refine ⟨fun _=>?_,fun _=>?_⟩ | (intro h)
      all_goals exact absurd rfl ‹¬((0:Nat):Int) = 0›)
    exact h
  | d + 1,v,hw,hd=>by
    have ih:=@c109 d
    obtain ⟨x,y,⟨rfl,rfl⟩,h⟩:=p109 H.f109 (v0:=v) (nest1:=((d + 1:Nat):Int)) (K:=fun x y=>x = (cntR (d + 1) v).1∧y = (cntR (d + 1) v).2) (by
      have hm:IntKind.i64.wrap (((d + 1:Nat):Int) - 1) = (d:Int):=by rw [wr_i64 (by omega) (by omega)]; omega
      have ht:v.text = [] ↔ v.text.length = 0:=List.length_eq_zero_iff.symm
      have ht':[] = v.text ↔ v.text.length = 0:=by rw [← ht]; exact eq_comm
      have cno:¬(okv (d + 1) v = true∧v.nodes≤5000)→cntR (d + 1) v = (0,false):=fun h=>by unfold cntR; rw [if_neg h]
      have no:¬v.okh→(0:Int) = (cntR (d + 1) v).1∧false = (cntR (d + 1) v).2:=fun h=>by
        rw [cno (by rw [okv_no h]; rintro ⟨h,_⟩; cases h)]; exact ⟨rfl,rfl⟩
      have hl:=hw.l
      have hn:=nodes_eq v
      have lp:v.okh→∀P:Int→Int→Prop,(∀(sum10:Int) (t103:Int),T109_5 prog (fun x y=>x = (cntR (d + 1) v).1∧y = (cntR (d + 1) v).2) P ((d + 1:Nat):Int) sum10 v.list (v.list.length:Int) t103→P sum10 t103)→P 1 0:=by
        intro ho P hP
        have e:=okv_yes (d:=d) ho
        refine loop_inv (P:=fun s i=>P s i) (fun i=>((1 + Val.nodesL (v.list.take i):Nat):Int)) v.list.length (fun i=>(v.list.take i).all (okv d) = true∧1 + Val.nodesL (v.list.take i)≤5000) (by simp [Val.nodesL]) (fun hI=>?_) (fun i hi hI ihP=>?_)
        · apply hP
          unfold T109_5 T109_6
          refine ⟨fun h=>absurd h (by omega),fun _=>?_⟩
          rw [List.take_length] at hI ⊢
          unfold cntR
          rw [if_pos ⟨by rw [e]; exact hI.1,by omega⟩,hn]
          exact ⟨rfl,rfl⟩
        · apply hP
          unfold T109_5
          have hnt:=nodesL_take hi
          have hle:=nodesL_le (l:=v.list) (i + 1)
          refine ⟨fun _=>⟨by omega,_,get_at hi,_,_,by rw [hm]; exact ih (hw.e _ (List.getElem_mem hi)) (by omega),?_⟩,fun h=>absurd (show (i:Int) < v.list.length by omega) h⟩
          by_cases hc:okv d v.list[i] = true∧v.list[i].nodes≤5000
          · rw [show cntR d v.list[i] = ((v.list[i].nodes:Int),true) by unfold cntR; rw [if_pos hc]]
            refine ⟨fun h=>(by cases h),fun _=>⟨fun h=>?_,fun h=>?_⟩⟩
            · rw [wr_i64 (by omega) (by omega)] at h
              rw [cno (by omega)]
              exact ⟨rfl,rfl⟩
            · rw [wr_i64 (by omega) (by omega)] at h ⊢
              rw [wr_i64 (by omega) (by omega)]
              have:=ihP ⟨by rw [List.take_succ_eq_append_getElem hi,List.all_append,hI.1]; simpa using hc.1,by omega⟩
              rw [hnt] at this
              rw [show ((1 + Val.nodesL (v.list.take i):Nat):Int) + (v.list[i].nodes:Int) = ((1 + (Val.nodesL (v.list.take i) + v.list[i].nodes):Nat):Int) by omega]
              exact this
          · rw [show cntR d v.list[i] = (0,false) by unfold cntR; rw [if_neg hc]]
            refine ⟨fun _=>?_,fun h=>(by cases h)⟩
            rw [cno (fun h=>hc ⟨okv_sub h.1 _ (List.getElem_mem hi),by have:=nodes_mem (List.getElem_mem hi); omega⟩)]
            exact ⟨rfl,rfl⟩
      unfold T109_0 T109_1 T109_2 T109_3 T109_4
      simp only [Val.int_mk,Val.text_mk,Val.cut_mk,Val.kind_mk,Val.list_mk,bAnd1,ht',ne_eq,not_true_eq_false,false_imp_iff,true_imp_iff,true_and,not_false_eq_true]
      rcases cut_cases v with ⟨hc,hcn⟩ | ⟨hc,hcn⟩
      all_goals simp only [hc,reduceCtorEq,false_imp_iff,true_imp_iff,not_true_eq_false,not_false_eq_true,true_and,and_true]
      all_goals repeat' first | refine ⟨fun _=>?_,fun _=>?_⟩ | (intro h)
      all_goals first
        | exact no (by unfold Val.okh Okh; omega)
        | exact lp (by unfold Val.okh Okh; omega) _ ‹_›
        | (exfalso; omega))
    exact h
theorem c76 {v:Val} (hw:Wf v):Pus prog 76 [v.av] (.i .i64 (chkR v)):=by
  obtain ⟨x,rfl,h⟩:=p76 H.f76 (v0:=v) (K:=fun x=>x = chkR v) (by
    unfold T76_0 chkR
    refine ⟨_,_,c109 H 130 hw (by decide),?_⟩
    unfold cntR fine
    by_cases h:okv 130 v = true∧v.nodes≤5000
    · rw [if_pos h,if_pos (by simpa using h)]
      exact ⟨fun h=>(by cases h),fun _=>rfl⟩
    · rw [if_neg h,if_neg (by simpa using h)]
      exact ⟨fun _=>rfl,fun h=>(by cases h)⟩)
  exact h
theorem c77 {v:Val} (hw:Wf v):Pus prog 77 [v.av] (.i .i64 (chkR v)):=by
  obtain ⟨x,rfl,h⟩:=p77 H.f77 (v0:=v) (K:=fun x=>x = chkR v) (by
    unfold T77_0 chkR fine
    refine ⟨_,c110 H 130 hw (by decide),fun h=>?_,fun h=>⟨_,c103 H 130 (okv_sm (by simpa using h)) (by decide),fun h1=>?_,fun h1=>?_⟩⟩
    · rw [show okv 130 v = false by simpa using h]; rfl
    · have h2:=rN_spec v
      rw [show okv 130 v = true by simpa using h,decide_eq_false (by omega)]; rfl
    · have h2:=rN_spec v
      rw [show okv 130 v = true by simpa using h,decide_eq_true (by omega)]; rfl)
  exact h
end
end Go.AM

namespace Go.AM
open Go
theorem txts_app (l m:List Val):txts (l ++ m) = txts l ++ (if l.length = 0 then txts m else txtl m):=by
  cases l with
  | nil=>simp [txts]
  | cons a l=>simp [txts,txtl_app]
theorem txts_take_len (l:List Val) (i:Nat):(txts (l.take i)).length≤(txts l).length:=by
  have:=txts_app (l.take i) (l.drop i)
  rw [List.take_append_drop] at this
  rw [this,List.length_append]
  omega
theorem quoR_ok {s:Bytes} (h:s.length≤400):quoR s = (quo s,0):=by
  unfold quoR
  rw [if_neg (by omega)]
section
variable {prog:Prog} (H:Has38 prog)
include H
theorem c127 {l:List Val} (hl:l.length≤16) (h :∀x ∈ l,Pus prog 106 [x.av] (.s (txt x))) (hs:(txts l).length≤10000000):Pus prog 127 [.sl .ext (l.map Val.row)] (.s (txts l)):=by
  obtain ⟨x,rfl,h⟩:=p127 H.f127 (l0:=l) (K:=fun x=>x = txts l) (by
    unfold T127_0
    intro P hP
    refine loop_up (P:=fun s i=>P s i) (fun i=>txts (l.take i)) l.length ?_ fun i hi ihP=>?_
    · apply hP
      unfold T127_1 T127_3
      rw [List.take_length]
      exact ⟨fun h=>absurd h (by omega),fun _=>rfl⟩
    · apply hP
      have h1:=txts_take_len l (i + 1)
      rw [txts_take hi] at h1 ihP
      simp only [List.length_append] at h1
      unfold T127_1 T127_2
      refine ⟨fun _=>⟨fun h2=>?_,fun h2=>?_⟩,fun h=>absurd (show (i:Int) < l.length by omega) h⟩
      · rw [if_pos (by omega)] at h1 ihP
        refine ⟨by rw [maxStr_eq]; omega,by omega,_,get_at hi,_,h _ (List.getElem_mem hi),?_,?_⟩
        · rw [List.length_append,maxStr_eq]; omega
        · rw [wr_succ (by omega)]; exact ihP
      · rw [if_neg (by omega)] at h1 ihP
        refine ⟨by omega,_,get_at hi,_,h _ (List.getElem_mem hi),?_,?_⟩
        · rw [maxStr_eq]; simp only [List.length_nil] at h1; omega
        · rw [wr_succ (by omega)]; simpa using ihP)
  exact h
theorem c106 :∀(d:Nat) {v:Val},okv d v = true→Wf v→(txt v).length≤10000000→Pus prog 106 [v.av] (.s (txt v))
  | 0,v,h,_,_=>by cases h
  | d + 1,v,h,hw,hlen=>by
    have h1:=okv_head h
    have h2:=okv_sub h
    have ih :∀x ∈ v.list,(txts v.list).length≤10000000→Pus prog 106 [x.av] (.s (txt x)):=by
      intro x hx hl
      obtain ⟨i,hi,rfl⟩:=List.getElem_of_mem hx
      refine c106 d (h2 _ hx) (hw.e _ hx) ?_
      have h3:=txts_take_len v.list (i + 1)
      rw [txts_take hi] at h3
      simp only [List.length_append] at h3
      omega
    obtain ⟨x,rfl,h⟩:=p106 H.f106 (v0:=v) (K:=fun x=>x = txt v) (by
      unfold T106_0 T106_1
      rw [txt_eq] at hlen ⊢
      refine ⟨fun k1=>⟨fun h=>?_,fun h=>?_⟩,fun k1=>⟨fun k2=>⟨_,c16 H.toHas03 hw.n.1 hw.n.2,?_⟩,fun k2=>⟨fun k3=>⟨_,c31 H.toHas03 ?_,?_⟩,fun k3=>⟨fun k5=>?_,fun k5=>⟨fun k6=>?_,fun k6=>⟨fun k7=>⟨fun hc=>?_,fun hc=>?_⟩,fun k7=>⟨fun hc=>?_,fun hc=>⟨fun hl=>?_,fun hl=>?_⟩⟩⟩⟩⟩⟩⟩⟩
      · rw [if_pos k1,if_pos h]; rfl
      · rw [if_pos k1,if_neg h]; rfl
      · rw [if_neg k1,if_pos k2]
      · unfold Val.okh Okh at h1; omega
      · rw [if_neg k1,if_neg k2,if_pos k3]
      · rw [if_neg k1,if_neg k2,if_neg k3,if_pos k5] at hlen ⊢
        simp only [List.length_cons,List.length_append,List.length_nil] at hlen
        refine ⟨_,c127 H (by unfold Val.okh Okh at h1; omega) (fun x hx=>ih x hx (by omega)) (by omega),?_,?_,?_⟩
        · rw [maxStr_eq]; simp only [List.length_cons,List.length_nil]; omega
        · rw [maxStr_eq]; simp only [List.length_cons,List.length_nil,List.length_append]; omega
        · simp
      · rw [if_neg k1,if_neg k2,if_neg k3,if_neg k5,if_pos k6] at hlen ⊢
        simp only [List.length_cons,List.length_append,List.length_nil] at hlen
        refine ⟨_,c127 H (by unfold Val.okh Okh at h1; omega) (fun x hx=>ih x hx (by omega)) (by omega),?_,?_,?_⟩
        · rw [maxStr_eq]; simp only [List.length_cons,List.length_nil]; omega
        · rw [maxStr_eq]; simp only [List.length_cons,List.length_nil,List.length_append]; omega
        · simp
      · rw [if_neg k1,if_neg k2,if_neg k3,if_neg k5,if_neg k6,if_pos k7,if_pos hc]; rfl
      · rw [if_neg k1,if_neg k2,if_neg k3,if_neg k5,if_neg k6,if_pos k7,if_neg (by rw [hc]; decide)] at hlen ⊢
        simp only [List.length_cons,List.length_append,List.length_nil] at hlen
        refine ⟨_,c127 H (by unfold Val.okh Okh at h1; omega) (fun x hx=>ih x hx (by omega)) (by omega),?_,?_,?_⟩
        · rw [maxStr_eq]; simp only [List.length_cons,List.length_nil]; omega
        · rw [maxStr_eq]; simp only [List.length_cons,List.length_nil,List.length_append]; omega
        · simp
      · rw [if_neg k1,if_neg k2,if_neg k3,if_neg k5,if_neg k6,if_neg k7,if_pos hc]; rfl
      · rw [if_neg k1,if_neg k2,if_neg k3,if_neg k5,if_neg k6,if_neg k7,if_neg (by rw [hc]; decide),if_pos (by omega)]; rfl
      · rw [if_neg k1,if_neg k2,if_neg k3,if_neg k5,if_neg k6,if_neg k7,if_neg (by rw [hc]; decide),if_neg (by omega)] at hlen ⊢
        have hl1:v.list.length = 1:=by unfold Val.okh Okh at h1; omega
        obtain ⟨w,hw1⟩:=List.length_eq_one_iff.1 hl1
        rw [hw1,txts_one] at hlen ⊢
        simp only [List.length_cons] at hlen
        refine ⟨w,rfl,_,ih w (by rw [hw1]; exact List.mem_cons_self) (by rw [hw1,txts_one]; omega),?_,rfl⟩
        rw [maxStr_eq]; simp only [List.length_cons,List.length_nil]; omega)
    exact h
theorem show_loop {K:Int→Bytes→Prop} {l:List Val} {e0 e1:UInt8} {b:Bytes} (hl:l.length≤16) (hx :∀x ∈ l,∀b:Bytes,b.length + (txt x).length≤100000000→PuX prog 104 (Bl b) [x.av] (fun r=>r = .i .i64 0) (Bl (b ++ txt x)))
    (hb:b.length + (txts l).length + 2≤100000000) (hK:K 0 (b ++ [e0] ++ txts l ++ [e1])) :∀P0:Int→Bytes→Prop,(∀(t22:Int) (mP:Bytes),T104_9 prog K P0 [e0,e1] l (l.length:Int) t22 mP→P0 t22 mP)→P0 0 (b ++ [e0]):=by
  intro P hP
  have:=loop_up (P:=fun m i=>P i m) (fun i=>b ++ [e0] ++ txts (l.take i)) l.length ?_ fun i hi ihP=>?_
  · simpa [txts] using this
  · apply hP
    unfold T104_9 T104_11 T104_4
    rw [List.take_length]
    refine ⟨fun h=>absurd h (by omega),fun _=>⟨by simp,_,_,c126 H.toHasB (s:=[e1]) ?_,hK⟩⟩
    rw [maxBytes_eq]; simp only [List.length_append,List.length_cons,List.length_nil]; omega
  · apply hP
    have h1:=txts_take_len l (i + 1)
    rw [txts_take hi] at h1 ihP
    simp only [List.length_append] at h1
    unfold T104_9 T104_10
    refine ⟨fun _=>⟨by omega,_,get_at hi,fun h2=>?_,fun h2=>?_⟩,fun h=>absurd (show (i:Int) < l.length by omega) h⟩
    · rw [if_pos (by omega)] at h1 ihP
      refine ⟨_,_,c126 H.toHasB (s:=[44,32]) ?_,_,_,hx _ (List.getElem_mem hi) _ ?_,fun h=>absurd rfl h,fun _=>?_⟩
      · rw [maxBytes_eq]; simp only [List.length_append,List.length_cons,List.length_nil]; omega
      · simp only [List.length_append,List.length_cons,List.length_nil] at h1 ⊢; omega
      · rw [wr_succ (by omega)]
        simpa using ihP
    · rw [if_neg (by omega)] at h1 ihP
      refine ⟨_,_,hx _ (List.getElem_mem hi) _ ?_,fun h=>absurd rfl h,fun _=>?_⟩
      · simp only [List.length_append,List.length_cons,List.length_nil] at h1 ⊢; omega
      · rw [wr_succ (by omega)]
        simpa using ihP
set_option maxHeartbeats 1000000 in
theorem c104 :∀(d:Nat) {v:Val},okv d v = true→Wf v→∀b:Bytes,b.length + (txt v).length≤100000000→PuX prog 104 (Bl b) [v.av] (fun r=>r = .i .i64 0) (Bl (b ++ txt v))
  | 0,v,h,_,_,_=>by cases h
  | d + 1,v,h,hw,b,hlen=>by
    have h1:=okv_head h
    have h2:=okv_sub h
    have ih :∀x ∈ v.list,∀b:Bytes,b.length + (txt x).length≤100000000→PuX prog 104 (Bl b) [x.av] (fun r=>r = .i .i64 0) (Bl (b ++ txt x)):=fun x hx b hb=>c104 d (h2 _ hx) (hw.e _ hx) b hb
    refine (p104 H.f104 (v1:=v) (mP:=b) (K:=fun r b'=>r = 0∧b' = b ++ txt v) ?_).to fun r b' hk=>?_
    · have hB :∀{s:Bytes} {a:Int},(txt v) = s→∃r':Int,∃b'':Bytes,PuX prog 126 (Bl b) [.s s] (fun r=>r = .tup [.i .i64 r',.ni]) (Bl b'')∧T104_4 prog (fun r b'=>r = 0∧b' = b ++ txt v) b'':=by
        intro s a hs
        refine ⟨_,_,c126 H.toHasB (s:=s) ?_ (hs ▸ txt_ne v),?_⟩
        · rw [← hs,maxBytes_eq]; omega
        · unfold T104_4; rw [hs]; exact ⟨rfl,rfl⟩
      have hk:1≤v.kind∧v.kind≤7:=by unfold Val.okh Okh at h1; omega
      have hn:=hw.n
      rw [txt_eq] at hlen
      have ht:=txt_eq v
      unfold T104_0 T104_1
      refine ⟨by omega,?_⟩
      have hkk:v.kind = 1∨v.kind = 2∨v.kind = 3∨v.kind = 4∨v.kind = 5∨v.kind = 6∨v.kind = 7:=by omega
      rcases hkk with k | k | k | k | k | k | k
      all_goals rw [k]
      all_goals simp only [k,if_true,reduceCtorEq,if_false,Int.reduceEq] at ht hlen
      · refine ⟨[],rfl,?_⟩
        unfold T104_2 T104_3 T104_5
        rw [k]
        refine ⟨fun _=>⟨fun h=>hB (a:=0) ?_,fun h=>⟨fun _=>hB (a:=0) ?_,fun h=>by simp at h⟩⟩,fun h=>absurd rfl h⟩
        · rw [ht,if_pos (by simpa using h)]; rfl
        · rw [ht,if_neg (by simpa using h)]; rfl
      · refine ⟨[],rfl,?_⟩
        unfold T104_2 T104_3 T104_5 T104_6
        rw [k]
        refine ⟨fun h=>absurd h (by decide),fun _=>⟨fun h=>(by cases h),fun _=>⟨fun h=>(by simp at h),fun _=>⟨fun _=>⟨_,c15 H.toHas03 hn.1 hn.2,hB (a:=0) ht⟩,fun h=>by simp at h⟩⟩⟩⟩
      · refine ⟨[],rfl,?_⟩
        unfold T104_2 T104_3 T104_5 T104_6 T104_7
        rw [k]
        refine ⟨fun h=>absurd h (by decide),fun _=>⟨fun h=>(by cases h),fun _=>⟨fun h=>(by simp at h),fun _=>⟨fun h=>(by simp at h),fun _=>⟨fun _=>⟨_,_,c11 H.toHas03 v.text,?_⟩,fun h=>by simp at h⟩⟩⟩⟩⟩
        rw [quoR_ok (by unfold Val.okh Okh at h1; omega)]
        refine ⟨_,_,c126 H.toHasB (s:=quo v.text) ?_,rfl,?_⟩
        · rw [maxBytes_eq]; omega
        · rw [ht]
      · refine ⟨[],rfl,?_⟩
        unfold T104_2 T104_3 T104_5 T104_6 T104_7 T104_8
        rw [k]
        refine ⟨fun h=>absurd h (by decide),fun _=>⟨fun h=>(by cases h),fun _=>⟨fun h=>(by simp at h),fun _=>⟨fun h=>(by simp at h),fun _=>⟨fun h=>(by simp at h),fun _=>⟨fun _=>⟨fun hc=>hB (a:=0) ?_,fun hc=>⟨fun _=>⟨fun hl=>hB (a:=0) ?_,fun hl=>⟨fun _=>?_,fun h=>absurd rfl h⟩⟩,fun h=>absurd rfl h⟩⟩,fun h=>absurd rfl h⟩⟩⟩⟩⟩⟩
        · rw [ht,if_pos hc]; rfl
        · rw [ht,if_neg (by rw [hc]; decide),if_pos (by omega)]; rfl
        · rw [if_neg (by rw [hc]; decide),if_neg (by omega)] at ht hlen
          have hl1:v.list.length = 1:=by unfold Val.okh Okh at h1; omega
          obtain ⟨w,hw1⟩:=List.length_eq_one_iff.1 hl1
          rw [hw1,txts_one] at hlen ht
          simp only [List.length_cons] at hlen
          refine ⟨_,_,c126 H.toHasB (s:=[38]) ?_,w,by rw [hw1]; rfl,_,_,ih w (by rw [hw1]; exact List.mem_cons_self) _ ?_,rfl,?_⟩
          · rw [maxBytes_eq]; simp only [List.length_cons,List.length_nil]; omega
          · simp only [List.length_append,List.length_cons,List.length_nil]; omega
          · rw [ht]; simp
      · have hc:v.cut = false:=by
          have:v.cut.toNat = 0:=by unfold Val.okh Okh at h1; omega
          cases hc:v.cut
          · rfl
          · rw [hc] at this; cases this
        refine ⟨[123,125],rfl,?_⟩
        unfold T104_2 T104_3 T104_5 T104_6 T104_7 T104_8
        rw [k]
        refine ⟨fun h=>absurd h (by decide),fun _=>⟨fun h=>(by cases h),fun _=>⟨fun h=>(by simp at h),fun _=>⟨fun h=>(by simp at h),fun _=>⟨fun h=>(by simp at h),fun _=>⟨fun h=>absurd h (by decide),fun _=>⟨fun h=>(by cases h),fun _=>⟨fun h=>absurd h (by decide),fun _=>⟨fun h=>absurd h (by decide),fun _=>⟨fun h=>(by rw [hc] at h; cases h),fun _=>⟨by decide,_,_,c126 H.toHasB (s:=[123]) ?_,?_⟩⟩⟩⟩⟩⟩⟩⟩⟩⟩⟩
        · rw [maxBytes_eq]; simp only [List.length_cons,List.length_nil,List.length_append] at hlen ⊢; omega
        · simp only [List.length_cons,List.length_nil,List.length_append] at hlen
          exact show_loop H (by unfold Val.okh Okh at h1; omega) ih (by omega) ⟨rfl,by rw [ht]; simp⟩
      · have hc:v.cut = false:=by
          have:v.cut.toNat = 0:=by unfold Val.okh Okh at h1; omega
          cases hc:v.cut
          · rfl
          · rw [hc] at this; cases this
        refine ⟨[91,93],rfl,?_⟩
        unfold T104_2 T104_3 T104_5 T104_6 T104_7 T104_8
        rw [k]
        refine ⟨fun h=>absurd h (by decide),fun _=>⟨fun h=>(by cases h),fun _=>⟨fun h=>(by simp at h),fun _=>⟨fun h=>(by simp at h),fun _=>⟨fun h=>(by simp at h),fun _=>⟨fun h=>absurd h (by decide),fun _=>⟨fun h=>(by cases h),fun _=>⟨fun h=>absurd h (by decide),fun _=>⟨fun h=>absurd h (by decide),fun _=>⟨fun h=>(by rw [hc] at h; cases h),fun _=>⟨by decide,_,_,c126 H.toHasB (s:=[91]) ?_,?_⟩⟩⟩⟩⟩⟩⟩⟩⟩⟩⟩
        · rw [maxBytes_eq]; simp only [List.length_cons,List.length_nil,List.length_append] at hlen ⊢; omega
        · simp only [List.length_cons,List.length_nil,List.length_append] at hlen
          exact show_loop H (by unfold Val.okh Okh at h1; omega) ih (by omega) ⟨rfl,by rw [ht]; simp⟩
      · refine ⟨[60,62],rfl,?_⟩
        unfold T104_2 T104_3 T104_5 T104_6 T104_7 T104_8
        rw [k]
        refine ⟨fun h=>absurd h (by decide),fun _=>⟨fun h=>(by cases h),fun _=>⟨fun h=>(by simp at h),fun _=>⟨fun h=>(by simp at h),fun _=>⟨fun h=>(by simp at h),fun _=>⟨fun h=>absurd h (by decide),fun _=>⟨fun h=>(by cases h),fun _=>⟨fun h=>absurd h (by decide),fun _=>⟨fun h=>absurd h (by decide),fun _=>⟨fun hc=>hB (a:=0) ?_,fun hc=>⟨by decide,_,_,c126 H.toHasB (s:=[60]) ?_,?_⟩⟩⟩⟩⟩⟩⟩⟩⟩⟩⟩
        · rw [ht,if_pos hc]; rfl
        · rw [if_neg (by rw [hc]; decide)] at hlen
          rw [maxBytes_eq]; simp only [List.length_cons,List.length_nil,List.length_append] at hlen ⊢; omega
        · rw [if_neg (by rw [hc]; decide)] at hlen ht
          simp only [List.length_cons,List.length_nil,List.length_append] at hlen
          exact show_loop H (by unfold Val.okh Okh at h1; omega) ih (by omega) ⟨rfl,by rw [ht]; simp⟩
    · obtain ⟨x0,h1,rfl,rfl⟩:=hk
      exact ⟨h1,rfl⟩
theorem c72 {v:Val} (hw:Wf v):Pus prog 72 [v.av] (.tup [.s (if fine v = true then txt v else []),.i .i64 (chkR v)]):=by
  obtain ⟨x,y,⟨rfl,rfl⟩,h⟩:=p72 H.f72 (v0:=v) (K:=fun x y=>x = (if fine v = true then txt v else [])∧y = chkR v) (by
    unfold T72_0
    refine ⟨_,c76 H hw,fun h=>?_,fun h=>?_⟩
    · unfold chkR at h ⊢
      by_cases hf:fine v = true
      · rw [if_pos hf] at h; exact absurd rfl h
      · rw [if_neg hf,if_neg hf]; exact ⟨rfl,rfl⟩
    · unfold chkR at h ⊢
      by_cases hf:fine v = true
      · rw [if_pos hf,if_pos hf]
        have:=fine_len hf
        refine ⟨_,_,c104 H 130 (fine_ok hf).1 hw [] (by simp only [List.length_nil]; omega),fun h=>absurd rfl h,fun _=>⟨_,c105 H.toHasB (by rw [List.nil_append,maxBytes_eq]; omega),rfl,rfl⟩⟩
      · rw [if_neg hf] at h; exact absurd (by decide) h)
  exact h
end
end Go.AM

namespace Go.AM
open Go
theorem digN_lt :∀{s:Bytes} {i:Nat},i < digN s→∃c,s[i]? = some c∧isD c = true
  | [],i,h=>absurd h (Nat.not_lt_zero _)
  | c :: s,0,h=>by
    rw [digN] at h
    split at h
    · rename_i hc; exact ⟨c,rfl,hc⟩
    · exact absurd h (Nat.not_lt_zero _)
  | c :: s,i + 1,h=>by
    rw [digN] at h
    split at h
    · exact digN_lt (s:=s) (i:=i) (by omega)
    · exact absurd h (Nat.not_lt_zero _)
theorem digN_stop :∀{s:Bytes} {c:UInt8},s[digN s]? = some c→isD c = false
  | [],c,h=>by cases h
  | x :: s,c,h=>by
    rw [digN] at h
    split at h
    · rw [Nat.add_comm,List.getElem?_cons_succ] at h
      exact digN_stop h
    · rename_i hx
      rw [List.getElem?_cons_zero] at h
      injection h with h
      subst h
      simpa using hx
theorem numN_lt {s:Bytes} {i:Nat} (h:i < numN s) :∃c,s[i]? = some c∧(isD c = true∨(i = 0∧c = 45)):=by
  unfold numN at h
  split at h
  · rename_i h1
    cases s with
    | nil=>cases h1
    | cons x s=>
      injection h1 with h1
      subst h1
      cases i with
      | zero=>exact ⟨45,rfl,.inr ⟨rfl,rfl⟩⟩
      | succ i=>
        obtain ⟨c,h2,h3⟩:=digN_lt (s:=s) (i:=i) (by simp only [List.drop_succ_cons,List.drop_zero] at h; omega)
        exact ⟨c,h2,.inl h3⟩
  · obtain ⟨c,h2,h3⟩:=digN_lt h
    exact ⟨c,h2,.inl h3⟩
theorem numN_stop {s:Bytes} {c:UInt8} (h:s[numN s]? = some c):isD c = false∧(numN s = 0→c≠45):=by
  unfold numN at *
  split at h
  · rename_i h1
    rw [if_pos h1]
    cases s with
    | nil=>cases h1
    | cons x s=>
      simp only [List.drop_succ_cons,List.drop_zero] at h ⊢
      rw [Nat.add_comm,List.getElem?_cons_succ] at h
      exact ⟨digN_stop h,fun h=>absurd h (by omega)⟩
  · rename_i h1
    rw [if_neg h1]
    refine ⟨digN_stop h,fun h2=>?_⟩
    rw [h2] at h
    rintro rfl
    exact h1 (by rw [List.head?_eq_getElem?]; exact h)
theorem isD_iff {c:UInt8}:isD c = true ↔ 48≤c.toNat∧c.toNat≤57:=by unfold isD; simp
theorem isD_not {c:UInt8}:isD c = false ↔ ¬(48≤c.toNat∧c.toNat≤57):=by rw [← isD_iff]; simp
theorem qs_nil:qs [] = none:=rfl
theorem qs_esc0:qs [92] = none:=rfl
theorem qs_esc (x:UInt8) (r:Bytes):qs (92 :: x :: r) = (qs r).map (· + 2):=rfl
theorem qs_end (r:Bytes):qs (34 :: r) = some 1:=by rw [qs.eq_def]; rfl
theorem qs_go {c:UInt8} (h1:¬c = 92) (h2:¬c = 34) (r:Bytes):qs (c :: r) = (qs r).map (· + 1):=by
  rw [qs.eq_def]
  simp only [if_neg h1,if_neg h2]
theorem u8_45 {c:UInt8}:c = 45 ↔ c.toNat = 45:=⟨fun h=>by rw [h]; rfl,fun h=>u8_eq h⟩
section
variable {prog:Prog} (H:Has38 prog)
include H
theorem c128 (p s:Bytes):PuX prog 128 (Bx [.s s]) [.s p] (fun r=>r = .b (cutp p s).2) (Bx [.s (cutp p s).1]):=by
  refine (p128 H.f128 (what1:=p) (mP:=⟨s⟩) (K:=fun r b=>r = (cutp p s).2∧b = ⟨(cutp p s).1⟩) ?_).to (b:=⟨(cutp p s).1⟩) fun r b' hk=>?_
  · unfold T128_0
    exact ⟨_,_,c36 H.toHas03 s p,rfl,rfl⟩
  · obtain ⟨x0,h1,rfl,rfl⟩:=hk
    exact ⟨h1,rfl⟩
theorem c132 (s p:Bytes):Pus prog 132 [.s s,.s p] (.b (cutp p s).2):=by
  obtain ⟨x,rfl,h⟩:=p132 H.f132 (s0:=s) (with1:=p) (K:=fun x=>x = (cutp p s).2) (by
    unfold T132_0 cutp
    refine ⟨fun h=>⟨by omega,by omega,?_⟩,fun h=>?_⟩
    · rw [toNat_cast]
      by_cases h1:s.take p.length = p
      · rw [if_pos h1]; simp [h1]
      · rw [if_neg h1]; simp [h1]
    · rw [if_neg]
      intro h1
      have:=congrArg List.length h1
      simp only [List.length_take] at this
      omega)
  exact h
theorem c131 {s:Bytes} (hs:s.length≤1000000000):PuX prog 131 (Bx [.s s]) [] (fun r=>r = .tup [.i .i64 (scNum s).1,.b (scNum s).2.1]) (Bx [.s (scNum s).2.2]):=by
  refine (p131 H.f131 (mP:=⟨s⟩) (K:=fun x y b=>x = (scNum s).1∧y = (scNum s).2.1∧b = ⟨(scNum s).2.2⟩) ?_).to (b:=⟨(scNum s).2.2⟩) fun r b' hk=>?_
  · unfold T131_0 T131_1
    intro P hP
    have hle:=numN_le s
    refine loop_up0 (P:=fun i=>P i ⟨s⟩) (numN s) ?_ fun i hi ih=>?_
    · apply hP
      unfold T131_2
      have fin:0≤((numN s:Nat):Int)∧((numN s:Nat):Int).toNat≤s.length∧∃r:Int,∃r':Int,Pus prog 21 [.s (s.take ((numN s:Nat):Int).toNat)] (.tup [.i .i64 r,.i .i64 r'])∧0≤((numN s:Nat):Int)∧((numN s:Nat):Int).toNat≤s.length∧r = (scNum s).1∧(decide (r' = 0)) = (scNum s).2.1∧Sc.mk (s.drop ((numN s:Nat):Int).toNat) = ⟨(scNum s).2.2⟩:=by
        rw [toNat_cast]
        exact ⟨by omega,hle,_,_,c21 H.toHas03 _,by omega,hle,rfl,rfl,rfl⟩
      refine ⟨fun h=>?_,fun _=>fin⟩
      have hlt:numN s < s.length:=by simp only at h; omega
      obtain ⟨h1,h2⟩:=numN_stop (List.getElem?_eq_getElem hlt)
      have h1:=isD_not.1 h1
      have h2:numN s = 0→¬(s[numN s].toNat = 45):=fun h=>fun h'=>h2 h (u8_45.2 h')
      refine ⟨by omega,s[numN s],get_at hlt,fun h3=>⟨by omega,s[numN s],get_at hlt,fun h4=>absurd ⟨by omega,by omega⟩ h1,fun h4=>⟨fun h5=>⟨by omega,s[numN s],get_at hlt,fun h6=>absurd (show s[numN s].toNat = 45 by omega) (h2 (by omega)),fun _=>fin⟩,fun _=>fin⟩⟩,
        fun h3=>⟨fun h5=>⟨by omega,s[numN s],get_at hlt,fun h6=>absurd (show s[numN s].toNat = 45 by omega) (h2 (by omega)),fun _=>fin⟩,fun _=>fin⟩⟩
    · apply hP
      obtain ⟨c,hc,hd⟩:=numN_lt hi
      have hc':s[((i:Nat):Int).toNat]? = some c:=hc
      rw [isD_iff,u8_45] at hd
      have ih':P (IntKind.i64.wrap ((i:Int) + 1)) ⟨s⟩:=by rw [wr_succ (by omega)]; exact ih
      unfold T131_2
      refine ⟨fun _=>⟨by omega,c,hc',fun h3=>⟨by omega,c,hc',fun _=>ih',fun h4=>⟨fun h5=>⟨by omega,c,hc',fun _=>ih',fun h6=>absurd h6 (by omega)⟩,fun h5=>absurd h5 (by omega)⟩⟩,
        fun h3=>⟨fun h5=>⟨by omega,c,hc',fun _=>ih',fun h6=>absurd h6 (by omega)⟩,fun h5=>absurd h5 (by omega)⟩⟩,fun h=>absurd (show (i:Int) < s.length by omega) h⟩
  · obtain ⟨x0,x1,h1,rfl,rfl,rfl⟩:=hk
    exact ⟨h1,rfl⟩
theorem c135 {s:Bytes} (hs:s.length≤1000000000):Pus prog 135 [.s s] (.i .i64 (numN s:Int)):=by
  obtain ⟨x,rfl,h⟩:=p135 H.f135 (s0:=s) (K:=fun x=>x = (numN s:Int)) (by
    have hle:=numN_le s
    have key :∀k:Nat,k≤numN s→(numN s = 0∨k≠0∨s.head?≠some 45)→T135_1 prog (fun x=>x = (numN s:Int)) s (k:Int):=by
      intro k hk hk0
      unfold T135_1
      intro P hP
      have go :∀m i:Nat,i + m = numN s→(numN s = 0∨i≠0∨s.head?≠some 45)→P (i:Int):=by
        intro m
        induction m with
        | zero=>
          intro i hi _
          simp only [Nat.add_zero] at hi
          subst hi
          apply hP
          unfold T135_2 T135_3
          refine ⟨fun h=>?_,fun _=>rfl⟩
          have hlt:numN s < s.length:=by omega
          obtain ⟨h1,h2⟩:=numN_stop (List.getElem?_eq_getElem hlt)
          have h1:=isD_not.1 h1
          exact ⟨by omega,s[numN s],get_at hlt,fun h3=>⟨by omega,s[numN s],get_at hlt,fun h4=>absurd ⟨by omega,by omega⟩ h1,fun _=>rfl⟩,fun _=>rfl⟩
        | succ m ih=>
          intro i hi h0
          apply hP
          obtain ⟨c,hc,hd⟩:=numN_lt (s:=s) (i:=i) (by omega)
          have hc':s[((i:Nat):Int).toNat]? = some c:=hc
          have hd:isD c = true:=by
            rcases hd with hd | ⟨rfl,rfl⟩
            · exact hd
            · rcases h0 with h0 | h0 | h0
              · omega
              · exact absurd rfl h0
              · rw [List.head?_eq_getElem?] at h0; exact absurd hc h0
          rw [isD_iff] at hd
          unfold T135_2
          refine ⟨fun _=>⟨by omega,c,hc',fun h3=>⟨by omega,c,hc',fun _=>?_,fun h4=>absurd h4 (by omega)⟩,fun h3=>absurd h3 (by omega)⟩,fun h=>absurd (show (i:Int) < s.length by omega) h⟩
          rw [wr_succ (by omega)]
          exact ih (i + 1) (by omega) (.inr (.inl (by omega)))
      exact go (numN s - k) k (by omega) hk0
    unfold T135_0
    have e:(cutp [45] s).2 = true ↔ s.head? = some 45:=by
      cases s with
      | nil=>rw [cutp_nil]; simp
      | cons c s=>
        by_cases hc:c = 45
        · subst hc
          have:=cutp_app [45] s
          rw [show [45] ++ s = 45 :: s from rfl] at this
          rw [this]; simp
        · rw [cutp_head (fun h=>hc h.symm)]; simp [hc]
    refine ⟨_,c132 H s [45],fun h=>key 1 ?_ (.inr (.inl (by decide))),fun h=>key 0 (Nat.zero_le _) (.inr (.inr ?_))⟩
    · unfold numN
      rw [if_pos (e.1 h)]
      omega
    · intro h'
      rw [e.2 h'] at h
      cases h)
  exact h
theorem c130 {s:Bytes} (hs:s.length≤1000000000):PuX prog 130 (Bx [.s s]) [] (fun r=>r = .tup [.s (scQ s).1,.b (scQ s).2.1]) (Bx [.s (scQ s).2.2]):=by
  refine (p130 H.f130 (mP:=⟨s⟩) (K:=fun x y b=>x = (scQ s).1∧y = (scQ s).2.1∧b = ⟨(scQ s).2.2⟩) ?_).to (b:=⟨(scQ s).2.2⟩) fun r b' hk=>?_
  · unfold T130_0 T130_1
    intro P hP
    have go :∀m i:Nat,s.length≤i + m→i≤s.length + 1→1≤i→qs (s.drop 1) = (qs (s.drop i)).map (· + (i - 1))→P (i:Int) ⟨s⟩:=by
      intro m
      induction m using Nat.strongRecOn with
      | _ m ih=>
      intro i hm hi h1 hq
      apply hP
      unfold T130_2
      refine ⟨fun h=>?_,fun h=>?_⟩
      · have:s.drop i = []:=List.drop_eq_nil_of_le (by simp only at h; omega)
        rw [this,qs_nil,Option.map_none] at hq
        unfold scQ
        rw [hq]
        exact ⟨rfl,rfl,rfl⟩
      · have hlt:i < s.length:=by simp only at h; omega
        have hd:s.drop i = s[i] :: s.drop (i + 1):=List.drop_eq_getElem_cons hlt
        refine ⟨by omega,s[i],get_at hlt,fun h2=>?_,fun h2=>⟨by omega,s[i],get_at hlt,fun h3=>?_,fun h3=>?_⟩⟩
        · rw [wr_i64 (by omega) (by omega),show (i:Int) + 2 = ((i + 2:Nat):Int) by omega]
          have hc:s[i] = 92:=u8_eq (by show s[i].toNat = 92; omega)
          rw [hd,hc] at hq
          by_cases hl:i + 1 < s.length
          · have hd2:s.drop (i + 1) = s[i + 1] :: s.drop (i + 2):=List.drop_eq_getElem_cons hl
            refine ih (m - 2) (by omega) (i + 2) (by omega) (by omega) (by omega) ?_
            rw [hd2,qs_esc,Option.map_map] at hq
            rw [hq]
            congr 1
            funext x
            simp only [Function.comp]
            omega
          · have hd2:s.drop (i + 1) = []:=List.drop_eq_nil_of_le (by omega)
            refine ih (m - 1) (by omega) (i + 2) (by omega) (by omega) (by omega) ?_
            rw [hd2,qs_esc0] at hq
            rw [hq,List.drop_eq_nil_of_le (show s.length≤i + 2 by omega),qs_nil]
            rfl
        · rw [wr_succ (by omega)]
          have hc:¬s[i] = 92:=fun e=>h2 (by rw [e]; rfl)
          have hc':¬s[i] = 34:=fun e=>h3 (by rw [e]; rfl)
          rw [hd,qs_go hc hc',Option.map_map] at hq
          refine ih (m - 1) (by omega) (i + 1) (by omega) (by omega) (by omega) ?_
          rw [hq]
          congr 1
          funext x
          simp only [Function.comp]
          omega
        · rw [wr_succ (by omega),toNat_cast]
          have hc:s[i] = 34:=u8_eq (by show s[i].toNat = 34; simp only [ne_eq,Decidable.not_not] at h3; omega)
          rw [hd,hc,qs_end,Option.map_some] at hq
          have e:1 + (i - 1) + 1 = i + 1:=by omega
          refine ⟨by omega,by show i + 1≤s.length; omega,_,_,c25 H.toHas03 _,by omega,by show i + 1≤s.length; omega,?_⟩
          unfold scQ
          rw [hq]
          simp [e]
    exact go s.length 1 (by omega) (by omega) (by omega) (by simp)
  · obtain ⟨x0,x1,h1,rfl,rfl,rfl⟩:=hk
    exact ⟨h1,rfl⟩
theorem c134 {s:Bytes} (hs:s.length≤1000000000):Pus prog 134 [.s s] (.i .i64 (match qs (s.drop 1) with | none=>0 | some k=>((k + 1:Nat):Int))):=by
  obtain ⟨x,rfl,h⟩:=p134 H.f134 (s0:=s) (K:=fun x=>x = (match qs (s.drop 1) with | none=>0 | some k=>((k + 1:Nat):Int))) (by
    unfold T134_0
    intro P hP
    have go :∀m i:Nat,s.length≤i + m→i≤s.length + 1→1≤i→qs (s.drop 1) = (qs (s.drop i)).map (· + (i - 1))→P (i:Int):=by
      intro m
      induction m using Nat.strongRecOn with
      | _ m ih=>
      intro i hm hi h1 hq
      apply hP
      unfold T134_1 T134_2 T134_3
      refine ⟨fun h=>?_,fun h=>?_⟩
      · have hlt:i < s.length:=by omega
        have hd:s.drop i = s[i] :: s.drop (i + 1):=List.drop_eq_getElem_cons hlt
        refine ⟨by omega,s[i],get_at hlt,fun h2=>?_,fun h2=>⟨by omega,s[i],get_at hlt,fun h3=>?_,fun h3=>?_⟩⟩
        · rw [wr_succ (by omega),wr_succ (by omega)]
          have hc:s[i] = 92:=u8_eq (by show s[i].toNat = 92; omega)
          rw [hd,hc] at hq
          by_cases hl:i + 1 < s.length
          · have hd2:s.drop (i + 1) = s[i + 1] :: s.drop (i + 2):=List.drop_eq_getElem_cons hl
            refine ih (m - 2) (by omega) (i + 2) (by omega) (by omega) (by omega) ?_
            rw [hd2,qs_esc,Option.map_map] at hq
            rw [hq]
            congr 1
            funext x
            simp only [Function.comp]
            omega
          · have hd2:s.drop (i + 1) = []:=List.drop_eq_nil_of_le (by omega)
            refine ih (m - 1) (by omega) (i + 2) (by omega) (by omega) (by omega) ?_
            rw [hd2,qs_esc0] at hq
            rw [hq,List.drop_eq_nil_of_le (show s.length≤i + 2 by omega),qs_nil]
            rfl
        · rw [wr_succ (by omega)]
          have hc:s[i] = 34:=u8_eq (by show s[i].toNat = 34; omega)
          rw [hd,hc,qs_end,Option.map_some] at hq
          rw [hq]
          simp only
          omega
        · rw [wr_succ (by omega)]
          have hc:¬s[i] = 92:=fun e=>h2 (by rw [e]; rfl)
          have hc':¬s[i] = 34:=fun e=>h3 (by rw [e]; rfl)
          rw [hd,qs_go hc hc',Option.map_map] at hq
          refine ih (m - 1) (by omega) (i + 1) (by omega) (by omega) (by omega) ?_
          rw [hq]
          congr 1
          funext x
          simp only [Function.comp]
          omega
      · have:s.drop i = []:=List.drop_eq_nil_of_le (by omega)
        rw [this,qs_nil,Option.map_none] at hq
        rw [hq]
    exact go s.length 1 (by omega) (by omega) (by omega) (by simp))
  exact h
end
end Go.AM

namespace Go.AM
open Go
theorem scNum_len (s:Bytes):(scNum s).2.2.length≤s.length:=by unfold scNum; simp
theorem scQ_len (s:Bytes):(scQ s).2.2.length≤s.length:=by
  unfold scQ
  split <;> simp
theorem cutp_len (p s:Bytes):(cutp p s).1.length≤s.length:=by
  unfold cutp
  split <;> simp
section
variable {f:Bytes→Val × Bool × Bytes}
theorem scG_len {kind:Int} {stop:Bytes} (hf :∀s,(f s).2.2.length≤s.length) :∀(n:Nat) (acc:List Val) (s:Bytes),(scG f kind stop n acc s).2.2.length≤s.length
  | 0,acc,s=>Nat.le_refl _
  | n + 1,acc,s=>by
    have h1:=hf s
    have h2:=cutp_len stop (f s).2.2
    have h3:=cutp_len [44,32] (cutp stop (f s).2.2).1
    rw [scG]
    split
    · exact h1
    · split
      · exact Nat.le_trans h2 h1
      · split
        · exact Nat.le_trans h3 (Nat.le_trans h2 h1)
        · exact Nat.le_trans (scG_len hf n _ _) (Nat.le_trans h3 (Nat.le_trans h2 h1))
theorem scL_len {kind:Int} {stop s:Bytes} (hf :∀s,(f s).2.2.length≤s.length):(scL f kind stop s).2.2.length≤s.length:=by
  unfold scL
  split
  · exact cutp_len _ _
  · exact Nat.le_trans (scG_len hf 17 [] _) (cutp_len _ _)
theorem len_ite {c:Prop} [Decidable c] {a b:Val × Bool × Bytes} {n:Nat} (ha:a.2.2.length≤n) (hb:b.2.2.length≤n):(if c then a else b).2.2.length≤n:=by
  split
  · exact ha
  · exact hb
theorem scV_len :∀(d:Nat) (s:Bytes),(scV d s).2.2.length≤s.length
  | 0,s=>Nat.le_refl _
  | d + 1,s=>by
    have ih:=scV_len d
    rw [scV]
    exact len_ite (Nat.le_refl _) (len_ite (cutp_len _ _) (len_ite (cutp_len _ _) (len_ite (cutp_len _ _) (len_ite (cutp_len _ _) (len_ite (cutp_len _ _) (len_ite (Nat.le_trans (ih _) (cutp_len _ _)) (len_ite (Nat.le_trans (scL_len ih) (cutp_len _ _))
      (len_ite (Nat.le_trans (scL_len ih) (cutp_len _ _)) (len_ite (Nat.le_trans (scL_len ih) (cutp_len _ _)) (len_ite (scQ_len _) (scNum_len _)))))))))))
end
section
variable {prog:Prog} (H:Has38 prog)
include H
abbrev ScR (r:Val × Bool × Bytes):AV→Prop:=fun x=>∃o:Own,x = .tup [.ag [.i .u8 r.1.kind,.i .i64 r.1.int,.s r.1.text,.sl o (List.map Val.row r.1.list),.b r.1.cut],.b r.2.1]
theorem c129 {f:Bytes→Val × Bool × Bytes} {d:Nat} (hf :∀s,(f s).2.2.length≤s.length) (hc :∀s:Bytes,s.length≤1000000000→PuX prog 107 (Bx [.s s]) [.i .i64 (d:Int)] (ScR (f s)) (Bx [.s (f s).2.2])) {kind:Int} {stop s:Bytes} (hs:s.length≤1000000000) :
    PuX prog 129 (Bx [.s s]) [.i .u8 kind,.s stop,.i .i64 (d:Int)] (ScR (scL f kind stop s)) (Bx [.s (scL f kind stop s).2.2]):=by
  refine (p129 H.f129 (kind1:=kind) (end2:=stop) (nest3:=(d:Int)) (mP:=⟨s⟩) (K:=fun x y b=>x = (scL f kind stop s).1∧y = (scL f kind stop s).2.1∧b = ⟨(scL f kind stop s).2.2⟩) ?_).to (b:=⟨(scL f kind stop s).2.2⟩) fun r b' hk=>?_
  · unfold T129_0
    refine ⟨_,⟨(cutp stop s).1⟩,c128 H stop s,fun h=>?_,fun h P hP=>?_⟩
    · unfold scL
      rw [if_pos h]
      exact ⟨rfl,rfl,rfl⟩
    · have e:scL f kind stop s = scG f kind stop 17 [] (cutp stop s).1:=by unfold scL; rw [if_neg (by rw [h]; decide)]
      have hl:=cutp_len stop s
      generalize (cutp stop s).1 = t at hl e ⊢
      have go :∀(n:Nat) (acc:List Val) (u:Bytes),acc.length + n = 17→u.length≤t.length→scG f kind stop 17 [] t = scG f kind stop n acc u→P (Val.mk 0 0 [] [] false) (Val.mk kind 0 [] acc false) ⟨u⟩:=by
        intro n
        induction n with
        | zero=>
          intro acc u ha hu hq
          apply hP
          rw [e,hq]
          unfold T129_1 T129_2
          refine ⟨fun h=>absurd h (by simp only [Val.list_mk]; omega),fun _=>⟨rfl,rfl,rfl⟩⟩
        | succ n ih=>
          intro acc u ha hu hq
          apply hP
          rw [e,hq,scG]
          have h1:=hf u
          have h2:=cutp_len stop (f u).2.2
          have h3:=cutp_len [44,32] (cutp stop (f u).2.2).1
          unfold T129_1
          refine ⟨fun _=>⟨(f u).1,(f u).2.1,⟨(f u).2.2⟩,hc u (by omega),fun g1=>?_,fun g1=>⟨⟨?_,?_⟩,_,⟨(cutp stop (f u).2.2).1⟩,c128 H stop (f u).2.2,fun g2=>?_,fun g2=>⟨_,⟨(cutp [44,32] (cutp stop (f u).2.2).1).1⟩,c128 H [44,32] (cutp stop (f u).2.2).1,fun g3=>?_,fun g3=>?_⟩⟩⟩,fun h=>absurd (show (acc.length:Int)≤16 by omega) h⟩
          · rw [if_pos (by simpa using g1)]
            exact ⟨rfl,rfl,rfl⟩
          · simp only [Val.list_mk,List.length_cons,List.length_nil,maxBytes_eq]; omega
          · simp only [Val.list_mk,List.length_cons,List.length_nil,maxBytes_eq]; omega
          · rw [if_neg (by simpa using g1),if_pos g2]
            exact ⟨rfl,rfl,rfl⟩
          · rw [if_neg (by simpa using g1),if_neg (by rw [g2]; decide),if_pos (by simpa using g3)]
            exact ⟨rfl,rfl,rfl⟩
          · refine ih (acc ++ [(f u).1]) _ (by simp; omega) (by omega) ?_
            rw [hq,scG,if_neg (by simpa using g1),if_neg (by rw [g2]; decide),if_neg (by simpa using g3)]
      exact go 17 [] t rfl (Nat.le_refl _) rfl
  · obtain ⟨x0,x1,h1,rfl,rfl,rfl⟩:=hk
    exact ⟨h1,rfl⟩
theorem c107 :∀(d:Nat) {s:Bytes},s.length≤1000000000→d≤1000→PuX prog 107 (Bx [.s s]) [.i .i64 (d:Int)] (ScR (scV d s)) (Bx [.s (scV d s).2.2])
  | 0,s,hs,hd=>by
    refine (p107 H.f107 (nest1:=((0:Nat):Int)) (mP:=⟨s⟩) (K:=fun x y b=>x = (scV 0 s).1∧y = (scV 0 s).2.1∧b = ⟨(scV 0 s).2.2⟩) ?_).to (b:=⟨(scV 0 s).2.2⟩) fun r b' hk=>?_
    · unfold T107_0 T107_1
      exact ⟨fun _=>⟨rfl,rfl,rfl⟩,fun h=>absurd rfl h⟩
    · obtain ⟨x0,x1,h1,rfl,rfl,rfl⟩:=hk
      exact ⟨h1,rfl⟩
  | d + 1,s,hs,hd=>by
    have ih:=fun s hs=>@c107 d s hs (by omega)
    have hm:IntKind.i64.wrap (((d + 1:Nat):Int) - 1) = (d:Int):=by rw [wr_i64 (by omega) (by omega)]; omega
    refine (p107 H.f107 (nest1:=((d + 1:Nat):Int)) (mP:=⟨s⟩) (K:=fun x y b=>x = (scV (d + 1) s).1∧y = (scV (d + 1) s).2.1∧b = ⟨(scV (d + 1) s).2.2⟩) ?_).to (b:=⟨(scV (d + 1) s).2.2⟩) fun r b' hk=>?_
    · have e:=scV.eq_2 s d
      unfold T107_0 T107_1
      refine ⟨fun h=>absurd h (by omega),fun _=>⟨fun h=>?_,fun h0=>?_⟩⟩
      · rw [e,if_pos h]; exact ⟨rfl,rfl,rfl⟩
      rw [if_neg h0] at e
      unfold T107_2
      refine ⟨_,⟨(cutp tTrue s).1⟩,c128 H tTrue s,?_⟩
      unfold T107_3
      refine ⟨fun h=>?_,fun h=>?_⟩
      · rw [e,if_pos h]; exact ⟨rfl,rfl,rfl⟩
      rw [if_neg (by rw [h]; decide)] at e
      rw [cutp_no h]
      refine ⟨_,⟨(cutp tFalse s).1⟩,c128 H tFalse s,?_⟩
      clear h
      unfold T107_4
      refine ⟨fun h=>?_,fun h=>?_⟩
      · rw [e,if_pos h]; exact ⟨rfl,rfl,rfl⟩
      rw [if_neg (by rw [h]; decide)] at e
      rw [cutp_no h]
      refine ⟨_,⟨(cutp tNil s).1⟩,c128 H tNil s,?_⟩
      clear h
      unfold T107_5
      refine ⟨fun h=>?_,fun h=>?_⟩
      · rw [e,if_pos h]; exact ⟨rfl,rfl,rfl⟩
      rw [if_neg (by rw [h]; decide)] at e
      rw [cutp_no h]
      refine ⟨_,⟨(cutp tCutP s).1⟩,c128 H tCutP s,?_⟩
      clear h
      unfold T107_6
      refine ⟨fun h=>?_,fun h=>?_⟩
      · rw [e,if_pos h]; exact ⟨rfl,rfl,rfl⟩
      rw [if_neg (by rw [h]; decide)] at e
      rw [cutp_no h]
      refine ⟨_,⟨(cutp tCutS s).1⟩,c128 H tCutS s,?_⟩
      clear h
      unfold T107_7
      refine ⟨fun h=>?_,fun h=>?_⟩
      · rw [e,if_pos h]; exact ⟨rfl,rfl,rfl⟩
      rw [if_neg (by rw [h]; decide)] at e
      rw [cutp_no h]
      refine ⟨_,⟨(cutp [38] s).1⟩,c128 H [38] s,?_⟩
      clear h
      unfold T107_8
      rw [hm]
      have l1:=cutp_len [38] s
      refine ⟨fun h=>⟨_,_,⟨_⟩,ih _ (Nat.le_trans l1 hs),?_⟩,fun h=>?_⟩
      · rw [e,if_pos h]; exact ⟨rfl,rfl,rfl⟩
      rw [if_neg (by rw [h]; decide)] at e
      rw [cutp_no h]
      have l1:=cutp_len [123] s
      refine ⟨_,⟨(cutp [123] s).1⟩,c128 H [123] s,fun h=>⟨_,_,⟨_⟩,c129 H (scV_len d) ih (Nat.le_trans l1 hs),?_⟩,fun h=>?_⟩
      · rw [e,if_pos h]; exact ⟨rfl,rfl,rfl⟩
      rw [if_neg (by rw [h]; decide)] at e
      rw [cutp_no h]
      have l1:=cutp_len [91] s
      refine ⟨_,⟨(cutp [91] s).1⟩,c128 H [91] s,fun h=>⟨_,_,⟨_⟩,c129 H (scV_len d) ih (Nat.le_trans l1 hs),?_⟩,fun h=>?_⟩
      · rw [e,if_pos h]; exact ⟨rfl,rfl,rfl⟩
      rw [if_neg (by rw [h]; decide)] at e
      rw [cutp_no h]
      have l1:=cutp_len [60] s
      refine ⟨_,⟨(cutp [60] s).1⟩,c128 H [60] s,fun h=>⟨_,_,⟨_⟩,c129 H (scV_len d) ih (Nat.le_trans l1 hs),?_⟩,fun h=>?_⟩
      · rw [e,if_pos h]; exact ⟨rfl,rfl,rfl⟩
      rw [if_neg (by rw [h]; decide)] at e
      rw [cutp_no h]
      cases s with
      | nil=>exact absurd rfl h0
      | cons c s=>
        refine ⟨c,rfl,fun h=>⟨_,_,⟨_⟩,c130 H hs,?_⟩,fun h=>⟨_,_,⟨_⟩,c131 H hs,?_⟩⟩
        · have hc:c = 34:=u8_eq (by show c.toNat = 34; omega)
          subst hc
          rw [e,List.head?_cons,if_pos rfl]; exact ⟨rfl,rfl,rfl⟩
        · rw [e,if_neg (by rw [List.head?_cons]; intro he; injection he with he; exact h (by rw [he]; rfl))]; exact ⟨rfl,rfl,rfl⟩
    · obtain ⟨x0,x1,h1,rfl,rfl,rfl⟩:=hk
      exact ⟨h1,rfl⟩
omit H in
theorem chk_fine {v:Val}:chkR v = 0 ↔ fine v = true:=by
  unfold chkR
  by_cases h:fine v = true
  · rw [if_pos h]; simp [h]
  · rw [if_neg h]; simp [h]
theorem c74 {s:Bytes} (hs:s.length≤1000000000):Pus prog 74 [.s s] (.tup [(rvs s).1.av,.i .i64 (rvs s).2]):=by
  obtain ⟨x,y,⟨rfl,rfl⟩,h⟩:=p74 H.f74 (s0:=s) (K:=fun x y=>x = (rvs s).1∧y = (rvs s).2) (by
    unfold T74_0 rvs
    refine ⟨fun h=>?_,fun h=>⟨_,_,⟨_⟩,c107 H 130 hs (by decide),fun h1=>?_,fun h1=>⟨fun h2=>?_,fun h2=>⟨_,_,c72 H (scV_wf _ _),fun h3=>?_,fun h3=>⟨fun h4=>?_,fun h4=>?_⟩⟩⟩⟩⟩
    · rw [if_pos (by omega)]; exact ⟨rfl,rfl⟩
    · rw [if_neg (by omega),if_neg (by rintro ⟨h,_⟩; rw [h] at h1; cases h1)]; exact ⟨rfl,rfl⟩
    · rw [if_neg (by omega),if_neg (by rintro ⟨_,h,_⟩; exact h2 h)]; exact ⟨rfl,rfl⟩
    · rw [if_neg (by omega),if_neg (by rintro ⟨_,_,h,_⟩; exact h3 (chk_fine.2 h))]; exact ⟨rfl,rfl⟩
    · rw [if_neg (by omega),if_neg]; · exact ⟨rfl,rfl⟩
      rintro ⟨_,_,h5,h6⟩
      rw [if_pos h5] at h4
      exact h4 h6
    · have h5:=chk_fine.1 (Decidable.not_not.1 h3)
      rw [if_pos h5] at h4
      rw [if_neg (by omega),if_pos ⟨by simpa using h1,Decidable.not_not.1 h2,h5,Decidable.not_not.1 h4⟩]
      exact ⟨rfl,rfl⟩)
  exact h
end
end Go.AM

namespace Go.AM
open Go
theorem cutp_one (e c:UInt8) (t:Bytes):cutp [e] (c :: t) = if c = e then (t,true) else (c :: t,false):=by
  by_cases h:c = e
  · subst h; rw [if_pos rfl]; exact cutp_app [c] t
  · rw [if_neg h]; exact cutp_head fun h'=>h h'.symm
def RdK (q:Val × Bool × Bytes) (v:Val) (r:Bytes) (ok:Bool):Prop:=ok = q.2.1∧(ok = true→v = q.1∧r = q.2.2)
theorem RdK.no {q:Val × Bool × Bytes} {v:Val} {r:Bytes} (h:q.2.1 = false):RdK q v r false:=⟨h.symm,fun h=>by cases h⟩
theorem RdK.yes {q:Val × Bool × Bytes} {v:Val} {r:Bytes} (h:q = (v,true,r)):RdK q v r true:=by subst h; exact ⟨rfl,fun _=>⟨rfl,rfl⟩⟩
section
variable {prog:Prog} (H:Has38 prog)
include H
theorem c133 {f:Bytes→Val × Bool × Bytes} {d:Nat} (hd:d≤1000) (hf :∀s,(f s).2.2.length≤s.length) (hc :∀s:Bytes,s.length≤1000000000→∃v r ok,RdK (f s) v r ok∧Pus prog 108 [.s s,.i .i64 (d:Int)] (.tup [v.av,.s r,.b ok])) {kind:Int} {e:UInt8} {s:Bytes} (hs:s.length≤1000000000) :
    ∃v r ok,RdK (scL f kind [e] s) v r ok∧Pus prog 133 [.s s,.i .u8 kind,.i .u8 (e.toNat:Int),.i .i64 ((d + 1:Nat):Int)] (.tup [v.av,.s r,.b ok]):=by
  refine p133 H.f133 (s0:=s) (kind1:=kind) (end2:=(e.toNat:Int)) (deep3:=((d + 1:Nat):Int)) (K:=RdK (scL f kind [e] s)) ?_
  have hm:IntKind.i64.wrap (((d + 1:Nat):Int) - 1) = (d:Int):=by rw [wr_i64 (by omega) (by omega)]; omega
  have lp:(cutp [e] s).2 = false→∀P0:Bytes→Val→Val→Prop,(∀(s0:Bytes) (m0:Val) (m4098:Val),T133_3 prog (RdK (scL f kind [e] s)) P0 s0 (e.toNat:Int) ((d + 1:Nat):Int) m0 m4098→P0 s0 m0 m4098)→P0 s (Val.mk 0 0 [] [] false) (Val.mk kind 0 [] [] false):=by
    intro hcut P hP
    have e1:scL f kind [e] s = scG f kind [e] 17 [] s:=by unfold scL; rw [if_neg (by rw [hcut]; decide),cutp_no hcut]
    have go :∀(n:Nat) (acc:List Val) (u:Bytes),acc.length + n = 17→u.length≤s.length→scG f kind [e] 17 [] s = scG f kind [e] n acc u→P u (Val.mk 0 0 [] [] false) (Val.mk kind 0 [] acc false):=by
      intro n
      induction n with
      | zero=>
        intro acc u ha hu hq
        apply hP
        rw [e1,hq]
        unfold T133_3 T133_4
        refine ⟨fun h=>absurd h (by simp only [Val.list_mk]; omega),fun _=>RdK.no rfl⟩
      | succ n ih=>
        intro acc u ha hu hq
        apply hP
        rw [e1,hq]
        obtain ⟨v,r,ok,⟨hk1,hk2⟩,hk3⟩:=hc u (by omega)
        have h1:=hf u
        unfold T133_3 T133_4
        rw [hm]
        refine ⟨fun _=>⟨v,r,ok,hk3,fun g1=>?_,fun g1=>?_⟩,fun h=>absurd (show (acc.length:Int)≤16 by omega) h⟩
        · refine RdK.no ?_
          rw [scG,if_pos (by rw [← hk1]; simpa using g1)]
        have g1:ok = true:=by simpa using g1
        obtain ⟨rfl,rfl⟩:=hk2 g1
        rw [g1] at hk1
        have e2:=scG.eq_2 f kind [e] acc u n
        rw [if_neg (by rw [← hk1]; decide)] at e2
        refine ⟨fun g2=>?_,fun g2=>⟨⟨?_,?_⟩,?_⟩⟩
        · have h2:(f u).2.2 = []:=len0 (by omega)
          rw [h2,cutp_nil,if_neg (by simp),cutp_nil,if_pos rfl] at e2
          refine RdK.no ?_
          rw [show n + 1 = n.succ from rfl,e2]
        · simp only [Val.list_mk,List.length_cons,List.length_nil,maxBytes_eq]; omega
        · simp only [Val.list_mk,List.length_cons,List.length_nil,maxBytes_eq]; omega
        · cases hr:(f u).2.2 with
          | nil=>rw [hr] at g2; exact absurd rfl g2
          | cons c t=>
            rw [hr] at e2 h1
            rw [cutp_one] at e2
            refine ⟨c,rfl,fun g3=>⟨by simp,?_⟩,fun g3=>?_⟩
            · have hce:c = e:=u8_eq (by omega)
              rw [if_pos hce,if_pos rfl] at e2
              exact RdK.yes e2
            · have hce:¬c = e:=fun h=>g3 (by rw [h])
              rw [if_neg hce,if_neg (by simp)] at e2
              refine ⟨_,c132 H _ [44,32],fun g4=>?_,fun g4=>?_⟩
              · rw [if_pos (by simpa using g4)] at e2
                refine RdK.no ?_
                rw [show n + 1 = n.succ from rfl,e2]
              · have g4:(cutp [44,32] (c :: t)).2 = true:=by simpa using g4
                rw [if_neg (by rw [g4]; decide)] at e2
                have h4:(cutp [44,32] (c :: t)).1 = (c :: t).drop 2∧2≤(c :: t).length:=by
                  unfold cutp at g4 ⊢
                  split at g4
                  · rename_i h5
                    rw [if_pos h5]
                    have:=congrArg List.length h5
                    simp only [List.length_take,List.length_cons,List.length_nil] at this
                    exact ⟨rfl,by simp only [List.length_cons]; omega⟩
                  · cases g4
                refine ⟨h4.2,?_⟩
                rw [h4.1] at e2
                refine ih (acc ++ [(f u).1]) _ (by simp; omega) (by simp only [List.length_drop,List.length_cons] at h1 ⊢; omega) ?_
                rw [hq,show n + 1 = n.succ from rfl,e2]
    exact go 17 [] s rfl (Nat.le_refl _) rfl
  unfold T133_0 T133_1 T133_2
  refine ⟨fun h=>?_,fun h=>?_⟩
  · cases s with
    | nil=>exact absurd h (by decide)
    | cons c t=>
      have e3:=cutp_one e c t
      refine ⟨c,rfl,fun g=>⟨by simp,?_⟩,fun g=>?_⟩
      · have hce:c = e:=u8_eq (by omega)
        rw [if_pos hce] at e3
        refine RdK.yes ?_
        unfold scL
        rw [e3,if_pos rfl]
        rfl
      · have hce:¬c = e:=fun h=>g (by rw [h])
        rw [if_neg hce] at e3
        exact lp (by rw [e3])
  · have h0:s = []:=len0 (by omega)
    exact lp (by rw [h0,cutp_nil])
theorem c108 :∀(d:Nat) {s:Bytes},s.length≤1000000000→d≤1000→∃v r ok,RdK (scV d s) v r ok∧Pus prog 108 [.s s,.i .i64 (d:Int)] (.tup [v.av,.s r,.b ok])
  | 0,s,hs,hd=>by
    refine p108 H.f108 (s0:=s) (deep1:=((0:Nat):Int)) (K:=RdK (scV 0 s)) ?_
    unfold T108_0 T108_1
    exact ⟨fun _=>RdK.no rfl,fun h=>absurd rfl h⟩
  | d + 1,s,hs,hd=>by
    have ih:=fun s hs=>@c108 d s hs (by omega)
    have hm:IntKind.i64.wrap (((d + 1:Nat):Int) - 1) = (d:Int):=by rw [wr_i64 (by omega) (by omega)]; omega
    refine p108 H.f108 (s0:=s) (deep1:=((d + 1:Nat):Int)) (K:=RdK (scV (d + 1) s)) ?_
    have e:=scV.eq_2 s d
    unfold T108_0 T108_1
    refine ⟨fun h=>absurd h (by omega),fun _=>⟨fun h=>?_,fun h0=>?_⟩⟩
    · have h0:s = []:=len0 (by omega)
      refine RdK.no ?_
      rw [show d + 1 = d.succ from rfl,e,if_pos h0]
    have h0:¬s = []:=fun h=>h0 (by rw [h]; rfl)
    rw [if_neg h0] at e
    unfold T108_2 T108_3 T108_4
    intro P hP
    have word :∀(i:Nat) (w:Bytes) (v:Val),[tTrue,tFalse,tNil,tCutP,tCutS][i]? = some w→[Val.mk 1 1 [] [] false,Val.mk 1 0 [] [] false,Val.mk 4 0 [] [] false,Val.mk 4 0 [] [] true,Val.mk 7 0 [] [] true][i]? = some v→i < 5→
        ((cutp w s).2 = true→scV (d + 1) s = (v,true,(cutp w s).1))→((cutp w s).2 = false→P ((i + 1:Nat):Int) (Val.mk 0 0 [] [] false))→P (i:Int) (Val.mk 0 0 [] [] false):=by
      intro i w v hw hv hi h1 h2
      apply hP
      unfold T108_5
      refine ⟨fun _=>⟨by omega,w,hw,_,c132 H s w,fun g=>⟨by omega,v,hv,by omega,w,hw,by omega,?_,?_⟩,fun g=>?_⟩,fun h=>absurd (show (i:Int) < 5 by omega) h⟩
      · rw [toNat_cast]
        unfold cutp at g
        split at g
        · rename_i h5
          have:=congrArg List.length h5
          simp only [List.length_take] at this
          omega
        · cases g
      · refine RdK.yes ?_
        rw [h1 g]
        unfold cutp at g ⊢
        split at g
        · rename_i h5; rw [if_pos h5,toNat_cast]
        · cases g
      · rw [wr_succ (by omega)]
        exact h2 g
    refine word 0 tTrue _ rfl rfl (by decide) (fun h=>by rw [show d + 1 = d.succ from rfl,e,if_pos h]) fun h=>?_
    rw [if_neg (by rw [h]; decide)] at e
    refine word 1 tFalse _ rfl rfl (by decide) (fun h=>by rw [show d + 1 = d.succ from rfl,e,if_pos h]) fun h=>?_
    rw [if_neg (by rw [h]; decide)] at e
    refine word 2 tNil _ rfl rfl (by decide) (fun h=>by rw [show d + 1 = d.succ from rfl,e,if_pos h]) fun h=>?_
    rw [if_neg (by rw [h]; decide)] at e
    refine word 3 tCutP _ rfl rfl (by decide) (fun h=>by rw [show d + 1 = d.succ from rfl,e,if_pos h]) fun h=>?_
    rw [if_neg (by rw [h]; decide)] at e
    refine word 4 tCutS _ rfl rfl (by decide) (fun h=>by rw [show d + 1 = d.succ from rfl,e,if_pos h]) fun h=>?_
    rw [if_neg (by rw [h]; decide)] at e
    apply hP
    unfold T108_5
    refine ⟨fun h=>absurd h (by decide),fun _=>?_⟩
    cases s with
    | nil=>exact absurd rfl h0
    | cons c s=>
      have ch :∀x:UInt8,(c.toNat:Int) = (x.toNat:Int) ↔ c = x:=fun x=>⟨fun h=>u8_eq (by omega),fun h=>by rw [h]⟩
      have hsl:s.length≤1000000000:=by simp only [List.length_cons] at hs; omega
      unfold T108_6 T108_7 T108_8
      refine ⟨c,rfl,fun h=>⟨by simp,?_⟩,fun h=>⟨fun h1=>⟨by simp,?_⟩,fun h1=>⟨fun h2=>⟨by simp,?_⟩,fun h2=>⟨fun h3=>⟨by simp,?_⟩,fun h3=>⟨fun h4=>?_,fun h4=>?_⟩⟩⟩⟩⟩
      · have hce:c = 38:=(ch 38).1 (by simpa using h)
        rw [cutp_one,if_pos hce,if_pos rfl] at e
        obtain ⟨v,r,ok,⟨hk1,hk2⟩,hk3⟩:=ih s hsl
        rw [hm]
        refine ⟨v,r,ok,hk3,?_⟩
        rw [show d + 1 = d.succ from rfl,e]
        refine ⟨hk1,fun h=>?_⟩
        obtain ⟨rfl,rfl⟩:=hk2 h
        exact ⟨rfl,rfl⟩
      all_goals
        have hce:¬c = 38:=fun g=>by rw [g] at h; revert h; decide
        rw [cutp_one,if_neg hce,if_neg (by simp),cutp_one] at e
      · rw [if_pos ((ch 123).1 h1),if_pos rfl] at e
        rw [show d + 1 = d.succ from rfl,e]
        obtain ⟨v,r,ok,h5,h6⟩:=c133 H (by omega) (scV_len d) ih (kind:=5) (e:=125) hsl
        exact ⟨v,r,ok,h6,h5⟩
      all_goals rw [if_neg (fun g=>h1 ((ch 123).2 g)),if_neg (by simp),cutp_one] at e
      · rw [if_pos ((ch 91).1 h2),if_pos rfl] at e
        rw [show d + 1 = d.succ from rfl,e]
        obtain ⟨v,r,ok,h5,h6⟩:=c133 H (by omega) (scV_len d) ih (kind:=6) (e:=93) hsl
        exact ⟨v,r,ok,h6,h5⟩
      all_goals rw [if_neg (fun g=>h2 ((ch 91).2 g)),if_neg (by simp),cutp_one] at e
      · rw [if_pos ((ch 60).1 h3),if_pos rfl] at e
        rw [show d + 1 = d.succ from rfl,e]
        obtain ⟨v,r,ok,h5,h6⟩:=c133 H (by omega) (scV_len d) ih (kind:=7) (e:=62) hsl
        exact ⟨v,r,ok,h6,h5⟩
      all_goals rw [if_neg (fun g=>h3 ((ch 60).2 g)),if_neg (by simp),List.head?_cons] at e
      · rw [if_pos (by rw [(ch 34).1 h4])] at e
        rw [show d + 1 = d.succ from rfl,e]
        have hq :∀k,qs ((c :: s).drop 1) = some k→k + 1≤(c :: s).length:=by
          intro k hk
          have:=qs_le _ _ k (Nat.le_refl _) hk
          simp only [List.drop_succ_cons,List.drop_zero,List.length_cons] at this ⊢
          omega
        refine ⟨_,c134 H hs,?_⟩
        unfold scQ
        cases hk:qs ((c :: s).drop 1) with
        | none=>
          refine ⟨by decide,by simp,_,_,c26 H.toHas03 _,by decide,by simp,?_⟩
          have:decide ((unquo (((c :: s)).take 0)).2 = 0) = false:=by rw [List.take_zero]; decide
          rw [show ((0:Int)).toNat = 0 from rfl,this]
          exact RdK.no rfl
        | some k=>
          have:=hq k hk
          refine ⟨by show (0:Int)≤((k + 1:Nat):Int); omega,this,_,_,c26 H.toHas03 _,by show (0:Int)≤((k + 1:Nat):Int); omega,this,?_⟩
          exact ⟨rfl,fun _=>⟨rfl,rfl⟩⟩
      · rw [if_neg (by intro g; injection g with g; exact h4 ((ch 34).2 g))] at e
        rw [show d + 1 = d.succ from rfl,e]
        have:=numN_le (c :: s)
        refine ⟨_,c135 H hs,by omega,this,_,_,c22 H.toHas03 _,by omega,this,?_⟩
        exact ⟨rfl,fun _=>⟨rfl,rfl⟩⟩
theorem c75 {s:Bytes} (hs:s.length≤1000000000):Pus prog 75 [.s s] (.tup [(rvs s).1.av,.i .i64 (rvs s).2]):=by
  obtain ⟨x,y,⟨rfl,rfl⟩,h⟩:=p75 H.f75 (s0:=s) (K:=fun x y=>x = (rvs s).1∧y = (rvs s).2) (by
    unfold T75_0 rvs
    obtain ⟨v,r,ok,⟨hk1,hk2⟩,hk3⟩:=c108 H 130 hs (by decide)
    refine ⟨fun h=>?_,fun h=>⟨v,r,ok,hk3,fun h1=>?_,fun h1=>?_⟩⟩
    · rw [if_pos (by omega)]; exact ⟨rfl,rfl⟩
    · rw [if_neg (by omega),if_neg (by rintro ⟨h,_⟩; rw [hk1,h] at h1; cases h1)]; exact ⟨rfl,rfl⟩
    · have h1:ok = true:=by simpa using h1
      obtain ⟨rfl,rfl⟩:=hk2 h1
      rw [h1] at hk1
      refine ⟨fun h2=>?_,fun h2=>⟨_,c77 H (scV_wf _ _),fun h3=>?_,fun h3=>?_⟩⟩
      · rw [if_neg (by omega),if_neg (by rintro ⟨_,h,_⟩; exact h2 h)]; exact ⟨rfl,rfl⟩
      · rw [if_neg (by omega),if_neg (by rintro ⟨_,_,h,_⟩; exact h3 (chk_fine.2 h))]; exact ⟨rfl,rfl⟩
      · have h5:=chk_fine.1 (Decidable.not_not.1 h3)
        have h6:=fine_len h5
        refine ⟨_,c106 H 130 (fine_ok h5).1 (scV_wf _ _) (by omega),fun h4=>?_,fun h4=>?_⟩
        · rw [if_neg (by omega),if_neg]; · exact ⟨rfl,rfl⟩
          rintro ⟨_,_,_,h7⟩
          exact h4 h7
        · rw [if_neg (by omega),if_pos ⟨hk1.symm,Decidable.not_not.1 h2,h5,Decidable.not_not.1 h4⟩]
          exact ⟨rfl,rfl⟩)
  exact h
theorem c78 {a:Val} (hw:Wf a) :∀b:Val,Pus prog 78 [a.av,b.av] (.b (sameV a b)):=by
  induction hw with
  | @mk k n s l c hk hn hl _ ih=>
    intro b
    obtain ⟨x,rfl,h⟩:=p78 H.f78 (a0:=Val.mk k n s l c) (b1:=b) (K:=fun x=>x = sameV (Val.mk k n s l c) b) (by
      have no :∀{p:Prop},(Val.mk k n s l c = b→p)→¬p→false = sameV (Val.mk k n s l c) b:=fun h1 h2=>(sameV_false.2 fun h=>h2 (h1 h)).symm
      unfold T78_0
      refine ⟨fun h=>no (fun e=>by rw [← e]) h,fun h1=>⟨fun h=>no (fun e=>by rw [← e]) h,fun h2=>⟨fun h=>no (fun e=>by rw [← e]) h,fun h3=>⟨fun h=>no (fun e=>by rw [← e]) h,fun h4=>⟨fun h=>no (fun e=>by rw [← e]) h,fun h5 P hP=>?_⟩⟩⟩⟩⟩
      have h1:=Decidable.not_not.1 h1
      have h2:=Decidable.not_not.1 h2
      have h3:=Decidable.not_not.1 h3
      have h4:=Decidable.not_not.1 h4
      have h5:l.length = b.list.length:=by have:=Decidable.not_not.1 h5; simp only [Val.list_mk] at this; omega
      refine loop_inv (P:=fun _ i=>P i (Val.mk k n s l c) b) (fun _=>()) l.length (fun i=>l.take i = b.list.take i) (by simp) (fun hI=>?_) (fun i hi hI ihP=>?_)
      · apply hP
        unfold T78_1 T78_2
        refine ⟨fun h=>absurd h (by simp only [Val.list_mk]; omega),fun _=>(sameV_true.2 ?_).symm⟩
        rw [List.take_length,h5,List.take_length] at hI
        rw [b.eta,← h1,← h2,← h3,← h4,hI]
        rfl
      · apply hP
        have hi2:i < b.list.length:=by omega
        unfold T78_1
        refine ⟨fun _=>⟨by omega,l[i],get_at (l:=l) hi,by omega,b.list[i],get_at hi2,_,ih _ (List.getElem_mem hi) _,fun h6=>?_,fun h6=>?_⟩,fun h=>absurd (show (i:Int) < l.length by omega) h⟩
        · refine no (p:=l[i] = b.list[i]) (fun e=>?_) (sameV_false.1 (by simpa using h6))
          subst e
          rfl
        · rw [wr_i64 (by omega) (by omega)]
          refine ihP ?_
          have h7:l[i] = b.list[i]:=sameV_true.1 (by simpa using h6)
          rw [List.take_succ_eq_append_getElem hi,List.take_succ_eq_append_getElem hi2,hI,h7])
    exact h
end
end Go.AM

namespace Go.AM
open Go
structure HasO (prog:Prog):Prop extends Has38 prog where
  f154:prog.fn 154 = some pf154
  f158:prog.fn 158 = some pf158
  f159:prog.fn 159 = some pf159
  f178:prog.fn 178 = some pf178
  f179:prog.fn 179 = some pf179
  f180:prog.fn 180 = some pf180
  f182:prog.fn 182 = some pf182
  f183:prog.fn 183 = some pf183
  f186:prog.fn 186 = some pf186
  f190:prog.fn 190 = some pf190
  f191:prog.fn 191 = some pf191
def faults4:List Bytes:=[[],tF1,tF2,tF3]
def kinds5:List UInt8:=[0,2,1,3,2]
theorem kinds5_at {t:Int} (h:0≤t) (h4:¬t > 4) :∃c:UInt8,kinds5[t.toNat]? = some c∧((c.toNat:Nat):Int) = kindT t:=by
  rcases (show t = 0∨t = 1∨t = 2∨t = 3∨t = 4 by omega) with rfl | rfl | rfl | rfl | rfl
  · exact ⟨0,rfl,rfl⟩
  · exact ⟨2,rfl,rfl⟩
  · exact ⟨1,rfl,rfl⟩
  · exact ⟨3,rfl,rfl⟩
  · exact ⟨2,rfl,rfl⟩
theorem faults4_at {n:Int} (h:1≤n) (h3:n≤3):faults4[n.toNat]? = some (faultT n):=by
  rcases (show n = 1∨n = 2∨n = 3 by omega) with rfl | rfl | rfl <;> rfl
theorem okP_no4 {p:Pan} (h:p.tag > 4):okP p = false:=by unfold okP; rw [decide_eq_false (by omega)]; rfl
theorem okP_nok {p:Pan} (h:p.value.kind≠kindT p.tag):okP p = false:=by unfold okP; rw [decide_eq_false h]; simp
theorem okP_0 {p:Pan} (h:p.tag = 0) (hk:p.value.kind = kindT p.tag):okP p = (isZ p.value && decide (p.flags = 2∨p.flags = 6)):=by
  unfold okP; rw [decide_eq_true hk,decide_eq_true (by omega),if_pos h]; rfl
theorem okP_n0 {p:Pan} (h4:¬p.tag > 4) (h:p.tag≠0) (hk:p.value.kind = kindT p.tag):okP p = (decide (p.flags = 0∨p.flags = 1∨p.flags = 4∨p.flags = 5) && decide (p.tag = 4→1≤p.value.int∧p.value.int≤3) && fine p.value):=by
  unfold okP; rw [decide_eq_true hk,decide_eq_true (by omega),if_neg h]; rfl
theorem chkP_no {p:Pan} (h:okP p = false):chkP p = 8:=by unfold chkP; rw [h]; rfl
theorem chkP_yes {p:Pan} (h:okP p = true):chkP p = 0:=by unfold chkP; rw [h]; rfl
theorem chkP_iff {p:Pan}:chkP p = 0 ↔ okP p = true:=by unfold chkP; split <;> simp_all
section
variable {prog:Prog} (H:HasO prog)
include H
theorem c178:Pus prog 178 [] (.ag (faults4.map AV.s)):=by
  obtain ⟨x,rfl,h⟩:=p178 H.f178 (K:=fun x=>x = faults4) rfl
  exact h
theorem c183:Pus prog 183 [] (.ag (kinds5.map c8)):=by
  obtain ⟨x,rfl,h⟩:=p183 H.f183 (K:=fun x=>x = kinds5) rfl
  exact h
theorem c191 {s p:Bytes} (hs:s.length≤1000000000):Pus prog 191 [.s s,.s p] (.b (cuts p s).2):=by
  obtain ⟨x,rfl,h⟩:=p191 H.f191 (s0:=s) (suffix1:=p) (K:=fun x=>x = (cuts p s).2) (by
    unfold T191_0 cuts
    refine ⟨fun h=>?_,fun h=>?_⟩
    · rw [wr_i64 (by omega) (by omega),show ((s.length:Int) - (p.length:Int)).toNat = s.length - p.length by omega]
      refine ⟨by omega,by omega,?_⟩
      by_cases h1:s.drop (s.length - p.length) = p
      · rw [decide_eq_true h1,if_pos ⟨by omega,h1⟩]
      · rw [decide_eq_false h1,if_neg fun h2=>h1 h2.2]
    · rw [if_neg fun h2=>h (by omega)])
  exact h
theorem c186 {s p:Bytes} (hs:s.length≤1000000000):Pus prog 186 [.s s,.s p] (.b (cuts p s).2):=by
  obtain ⟨x,rfl,h⟩:=p186 H.f186 (s0:=s) (suffix1:=p) (K:=fun x=>x = (cuts p s).2) (by
    unfold T186_0
    exact ⟨_,c191 H hs,rfl⟩)
  exact h
theorem c190 {s p:Bytes} (hs:s.length≤1000000000):Pus prog 190 [.s s,.s p] (.tup [.s (cuts p s).1,.b (cuts p s).2]):=by
  obtain ⟨x,y,⟨rfl,rfl⟩,h⟩:=p190 H.f190 (s0:=s) (suffix1:=p) (K:=fun x y=>x = (cuts p s).1∧y = (cuts p s).2) (by
    unfold T190_0
    refine ⟨_,c191 H hs,fun h=>?_,fun h=>?_⟩
    · have h:(cuts p s).2 = false:=by simpa using h
      exact ⟨(cuts_no h).symm,h.symm⟩
    · have h:(cuts p s).2 = true:=by simpa using h
      have hl:p.length≤s.length:=by have:=congrArg List.length (cuts_yes h); rw [List.length_append] at this; omega
      rw [wr_i64 (by omega) (by omega),show ((s.length:Int) - (p.length:Int)).toNat = s.length - p.length by omega]
      refine ⟨by omega,by omega,?_,h.symm⟩
      unfold cuts at h ⊢
      split
      · rfl
      · rename_i h1; rw [if_neg h1] at h; cases h)
  exact h
theorem c180 {s p:Bytes} (hs:s.length≤1000000000):Pus prog 180 [.s s,.s p] (.tup [.s (cuts p s).1,.b (cuts p s).2]):=by
  obtain ⟨x,y,⟨rfl,rfl⟩,h⟩:=p180 H.f180 (s0:=s) (suffix1:=p) (K:=fun x y=>x = (cuts p s).1∧y = (cuts p s).2) (by
    unfold T180_0
    exact ⟨_,_,c190 H hs,rfl,rfl⟩)
  exact h
theorem c182 {s p:Bytes} (hs:s.length≤1000000000):Pus prog 182 [.s s,.s p] (.tup [.s (cuts p s).1,.b (cuts p s).2]):=by
  obtain ⟨x,y,⟨rfl,rfl⟩,h⟩:=p182 H.f182 (s0:=s) (end1:=p) (K:=fun x y=>x = (cuts p s).1∧y = (cuts p s).2) (by
    unfold T182_0 T182_1
    refine ⟨fun h=>?_,fun h=>?_⟩
    · unfold cuts; rw [if_neg fun h2=>by omega]; exact ⟨rfl,rfl⟩
    · rw [wr_i64 (by omega) (by omega),show ((s.length:Int) - (p.length:Int)).toNat = s.length - p.length by omega]
      refine ⟨by omega,by omega,fun h1=>?_,fun h1=>⟨by omega,by omega,?_⟩⟩
      · unfold cuts; rw [if_neg fun h2=>h1 h2.2]; exact ⟨rfl,rfl⟩
      · unfold cuts; rw [if_pos ⟨by omega,Decidable.not_not.1 h1⟩]; exact ⟨rfl,rfl⟩)
  exact h
theorem c158 {p:Pan} (hp:WfP p):Pus prog 158 [p.av] (.i .i64 (chkP p)):=by
  obtain ⟨x,rfl,h⟩:=p158 H.f158 (p0:=p) (K:=fun x=>x = chkP p) (by
    unfold T158_0 T158_1
    refine ⟨fun h=>(chkP_no (okP_no4 h)).symm,fun h4=>?_⟩
    obtain ⟨c,g1,g2⟩:=kinds5_at hp.t.1 h4
    refine ⟨_,c183 H,rfl,hp.t.1,c,g1,fun h=>(chkP_no (okP_nok (by rw [← g2]; exact h))).symm,fun h=>?_⟩
    have hk:p.value.kind = kindT p.tag:=by rw [← g2]; exact Decidable.not_not.1 h
    unfold T158_2
    refine ⟨fun h0=>?_,fun h0=>?_⟩
    · have e:=okP_0 h0 hk
      have hk0:p.value.kind = 0:=by rw [hk,h0]; rfl
      have no:isZ p.value = false→8 = chkP p:=fun h=>(chkP_no (by rw [e,h]; rfl)).symm
      have nz :∀{q:Prop},(p.value = vz→q)→¬q→isZ p.value = false:=fun a b=>by rw [← Bool.not_eq_true,isZ_true]; exact fun h=>b (a h)
      refine ⟨fun h=>no (nz (fun e=>by rw [e]; rfl) h),fun h1=>⟨fun h=>no (nz (fun e=>by rw [e]; rfl) h),fun h2=>⟨fun h=>no (nz (q:=¬((p.value.list.length:Int) > 0)) (fun e=>by rw [e]; decide) (fun h'=>h' h)),fun h3=>⟨fun h=>no (nz (q:=p.value.cut = false) (fun e=>by rw [e]; rfl) (by rw [h]; decide)),fun h4=>?_⟩⟩⟩⟩
      have hz:isZ p.value = true:=by
        unfold isZ
        rw [decide_eq_true hk0,decide_eq_true (Decidable.not_not.1 h1),decide_eq_true (Decidable.not_not.1 h2),decide_eq_true (by omega),h4]; rfl
      have fl:=flag2 hp.f
      rw [hz,Bool.true_and] at e
      refine ⟨fun h=>(chkP_no (by rw [e]; exact decide_eq_false fun h'=>h (fl.2 h'))).symm,fun h=>(chkP_yes (by rw [e]; exact decide_eq_true (fl.1 (Decidable.not_not.1 h)))).symm⟩
    · have e:=okP_n0 h4 h0 hk
      have fl:=flag0 hp.f
      unfold T158_3
      refine ⟨fun h=>(chkP_no (by rw [e,decide_eq_false (fun h'=>h (fl.2 h'))]; rfl)).symm,fun h=>?_⟩
      rw [decide_eq_true (fl.1 (Decidable.not_not.1 h)),Bool.true_and] at e
      have last:(p.tag = 4→1≤p.value.int∧p.value.int≤3)→T158_4 prog (fun x=>x = chkP p) p:=fun hh=>by
        unfold T158_4
        refine ⟨_,c76 H.toHas38 hp.v,?_⟩
        rw [decide_eq_true hh,Bool.true_and] at e
        unfold chkR chkP
        rw [e]
      refine ⟨fun h5=>⟨fun h=>(chkP_no (by rw [e,decide_eq_false (fun h'=>by have:=h' h5; omega)]; rfl)).symm,fun h6=>⟨fun h=>(chkP_no (by rw [e,decide_eq_false (fun h'=>by have:=h' h5; omega)]; rfl)).symm,fun h7=>last fun _=>by omega⟩⟩,fun h5=>last fun h'=>absurd h' h5⟩)
  exact h
theorem c159 {p:Pan} (hp:WfP p):Pus prog 159 [p.av] (.i .i64 (chkP p)):=by
  obtain ⟨x,rfl,h⟩:=p159 H.f159 (p0:=p) (K:=fun x=>x = chkP p) (by
    unfold T159_0 T159_1
    refine ⟨_,c77 H.toHas38 hp.v,?_⟩
    have ef:decide (chkR p.value = 0) = fine p.value:=by
      cases h:fine p.value with
      | true=>exact decide_eq_true (chk_fine.2 h)
      | false=>exact decide_eq_false fun h'=>by rw [chk_fine.1 h'] at h; cases h
    rw [ef]
    unfold T159_2 T159_3
    refine ⟨fun h=>(chkP_no (okP_no4 h)).symm,fun h4=>?_⟩
    obtain ⟨c,g1,g2⟩:=kinds5_at hp.t.1 h4
    refine ⟨hp.t.1,c,g1,fun h=>(chkP_no (okP_nok (by rw [← g2]; exact h))).symm,fun h=>?_⟩
    have hk:p.value.kind = kindT p.tag:=by rw [← g2]; exact Decidable.not_not.1 h
    have t6 :∀b:Bool,okP p = b→T159_6 prog (fun x=>x = chkP p) b:=fun b hb=>by
      unfold T159_6
      cases b with
      | true=>exact ⟨fun h=>(by cases h),fun _=>(chkP_yes hb).symm⟩
      | false=>exact ⟨fun _=>(chkP_no hb).symm,fun h=>(by cases h)⟩
    have t5 :∀b:Bool,(okP p = (b && decide (p.tag = 4→1≤p.value.int∧p.value.int≤3)))→T159_5 prog (fun x=>x = chkP p) b p:=fun b hb=>by
      unfold T159_5
      refine ⟨fun h=>⟨fun h1=>⟨fun h2=>t6 _ ?_,fun h2=>t6 _ ?_⟩,fun h1=>t6 _ (by rw [hb,h1]; rfl)⟩,fun h=>t6 _ ?_⟩
      · rw [hb,h1,Bool.true_and]; exact decide_eq_decide.2 ⟨fun h3=>(h3 h).2,fun h3 _=>⟨h2,h3⟩⟩
      · rw [hb,decide_eq_false (fun h3=>h2 (h3 h).1),Bool.and_false]
      · rw [hb,decide_eq_true fun h3=>absurd h3 h,Bool.and_true]
    unfold T159_4
    refine ⟨fun h0=>?_,fun h0=>?_⟩
    · have e:=okP_0 h0 hk
      have e5:decide (p.tag = 4→1≤p.value.int∧p.value.int≤3) = true:=decide_eq_true fun h=>by omega
      refine ⟨_,c78 H.toHas38 hp.v vz,fun h=>?_,fun h=>t5 _ ?_⟩
      · have hz:isZ p.value = true:=isZ_true.2 (sameV_true.1 h)
        rw [hz,Bool.true_and] at e
        refine ⟨fun h1=>t5 _ ?_,fun h1=>t5 _ ?_⟩
        · rw [e,e5,decide_eq_true (.inl h1)]; rfl
        · rw [e,e5,Bool.and_true]; exact decide_eq_decide.2 ⟨fun h=>h.resolve_left h1,.inr⟩
      · have hz:isZ p.value = false:=by rw [← Bool.not_eq_true,isZ_true]; exact sameV_false.1 h
        rw [e,hz]; rfl
    · have e:=okP_n0 h4 h0 hk
      refine ⟨fun hf=>?_,fun hf=>t5 _ (by rw [e,hf]; simp)⟩
      rw [hf,Bool.and_true] at e
      refine ⟨fun h1=>t5 _ ?_,fun h1=>⟨fun h2=>t5 _ ?_,fun h2=>⟨fun h3=>t5 _ ?_,fun h3=>t5 _ ?_⟩⟩⟩
      · rw [e,decide_eq_true (.inl h1)]
      · rw [e,decide_eq_true (.inr (.inl h2))]
      · rw [e,decide_eq_true (.inr (.inr (.inl h3)))]
      · rw [e]; congr 1; exact decide_eq_decide.2 ⟨fun h=>by omega,fun h=>by omega⟩)
  exact h
omit H in
theorem and1 {f:Int} (h:f = 0∨f = 1∨f = 2∨f = 4∨f = 5∨f = 6):(bAnd .u64 f 1≠0 ↔ f % 2 = 1)∧(bAnd .u64 f 4≠0 ↔ 4≤f)∧(f.tmod 2 = 1 ↔ f % 2 = 1):=by
  rcases h with rfl | rfl | rfl | rfl | rfl | rfl <;> decide
omit H in
theorem okP_f6 {p:Pan} (h:okP p = true):p.flags = 0∨p.flags = 1∨p.flags = 2∨p.flags = 4∨p.flags = 5∨p.flags = 6:=by rcases okP_flags h with ⟨_,_,h⟩ | ⟨_,_,h⟩ <;> omega
omit H in
theorem okP_4 {p:Pan} (h:okP p = true) (h4:p.tag = 4):1≤p.value.int∧p.value.int≤3:=by
  unfold okP at h
  simp only [Bool.and_eq_true,decide_eq_true_eq] at h
  have h3:=h.2
  rw [if_neg (by omega)] at h3
  simp only [Bool.and_eq_true,decide_eq_true_eq] at h3
  exact h3.1.2 h4
omit H in
theorem shown_steps {p:Pan} {b:Bytes} (hb:b = baseP p):shown p = (b ++ (if p.flags % 2 = 1 then tRec else [])) ++ (if 4≤p.flags then tAb else []):=by
  rw [hb,shown,sufP,List.append_assoc]
theorem c179 {p:Pan} (hp:WfP p) (ho:okP p = true):Pus prog 179 [p.av] (.s (shown p)):=by
  obtain ⟨x,rfl,h⟩:=p179 H.f179 (p0:=p) (K:=fun x=>x = shown p) (by
    have hl:=shown_len ho
    obtain ⟨a1,a2,a3⟩:=and1 (okP_f6 ho)
    have t1 :∀b,b = baseP p→T179_1 prog (fun x=>x = shown p) b p:=fun b hb=>by
      have e:=shown_steps hb
      have hl:b.length≤400:=by rw [e,List.length_append,List.length_append] at hl; omega
      unfold T179_1 T179_2 T179_3
      simp only [List.length_append,List.length_cons,List.length_nil,maxStr_eq]
      refine ⟨fun h1=>⟨by omega,fun h2=>⟨by omega,?_⟩,fun h2=>?_⟩,fun h1=>⟨fun h2=>⟨by omega,?_⟩,fun h2=>?_⟩⟩
      · rw [e,if_pos (a3.1 h1),if_pos h2]; rfl
      · rw [e,if_pos (a3.1 h1),if_neg (by omega),List.append_nil]; rfl
      · rw [e,if_neg fun h=>h1 (a3.2 h),if_pos h2,List.append_nil]; rfl
      · rw [e,if_neg fun h=>h1 (a3.2 h),if_neg (by omega),List.append_nil,List.append_nil]
    unfold T179_0
    refine ⟨fun h4=>?_,fun h4=>⟨fun h0=>?_,fun h0=>?_⟩⟩
    · obtain ⟨g1,g2⟩:=okP_4 ho h4
      exact ⟨by omega,_,faults4_at g1 g2,t1 _ (by unfold baseP; rw [if_neg (by omega),if_pos h4])⟩
    · have hf:fine p.value = true:=by rcases okP_flags ho with h | h; exact absurd h.1 h0; exact h.2.1
      have:=fine_len hf
      refine ⟨_,c106 H.toHas38 130 (fine_ok hf).1 hp.v (by omega),?_,t1 _ (by unfold baseP; rw [if_neg h0,if_neg h4]; rfl)⟩
      simp only [List.length_cons,List.length_nil,maxStr_eq]; omega
    · exact t1 _ (by unfold baseP; rw [if_pos (Decidable.not_not.1 h0)]; rfl))
  exact h
theorem c154 {p:Pan} (hp:WfP p):Pus prog 154 [p.av] (.tup [.s (lnP p).1,.i .i64 (lnP p).2]):=by
  obtain ⟨x,y,⟨rfl,rfl⟩,h⟩:=p154 H.f154 (p0:=p) (K:=fun x y=>x = (lnP p).1∧y = (lnP p).2) (by
    unfold T154_0
    refine ⟨_,c158 H hp,fun h=>?_,fun h=>?_⟩
    · have h1:okP p≠true:=fun h'=>h (chkP_iff.2 h')
      unfold lnP chkP; rw [if_neg h1,if_neg h1]; exact ⟨rfl,rfl⟩
    · have ho:=chkP_iff.1 (Decidable.not_not.1 h)
      have hl:=shown_len ho
      obtain ⟨a1,a2,a3⟩:=and1 (okP_f6 ho)
      unfold lnP; rw [if_pos ho]
      have t1 :∀b,b = baseP p→T154_1 prog (fun x y=>x = (shown p,(0:Int)).1∧y = (shown p,(0:Int)).2) b p:=fun b hb=>by
        have e:=shown_steps hb
        have hl:b.length≤400:=by rw [e,List.length_append,List.length_append] at hl; omega
        unfold T154_1 T154_2 T154_3
        simp only [List.length_append,List.length_cons,List.length_nil,maxStr_eq]
        refine ⟨fun h1=>⟨by omega,fun h2=>⟨by omega,?_,trivial⟩,fun h2=>⟨?_,trivial⟩⟩,fun h1=>⟨fun h2=>⟨by omega,?_,trivial⟩,fun h2=>⟨?_,trivial⟩⟩⟩
        · rw [e,if_pos (a1.1 h1),if_pos (a2.1 h2)]; rfl
        · rw [e,if_pos (a1.1 h1),if_neg fun h=>h2 (a2.2 h),List.append_nil]; rfl
        · rw [e,if_neg fun h=>h1 (a1.2 h),if_pos (a2.1 h2),List.append_nil]; rfl
        · rw [e,if_neg fun h=>h1 (a1.2 h),if_neg fun h=>h2 (a2.2 h),List.append_nil,List.append_nil]
      refine ⟨fun h0=>t1 _ (by unfold baseP; rw [if_pos h0]; rfl),fun h0=>⟨fun h4=>?_,fun h4=>?_⟩⟩
      · obtain ⟨g1,g2⟩:=okP_4 ho h4
        exact ⟨_,c178 H,rfl,by omega,_,faults4_at g1 g2,t1 _ (by unfold baseP; rw [if_neg h0,if_pos h4])⟩
      · have hf:fine p.value = true:=by rcases okP_flags ho with h | h; exact absurd h.1 h0; exact h.2.1
        have:=fine_len hf
        refine ⟨_,_,c72 H.toHas38 hp.v,fun h=>absurd (chk_fine.2 hf) h,fun _=>?_⟩
        rw [if_pos hf]
        refine ⟨?_,t1 _ (by unfold baseP; rw [if_neg h0,if_neg h4]; rfl)⟩
        simp only [List.length_cons,List.length_nil,maxStr_eq]; omega)
  exact h
end
end Go.AM

namespace Go.AM
open Go
structure HasP (prog:Prog):Prop extends HasO prog where
  f156:prog.fn 156 = some pf156
  f157:prog.fn 157 = some pf157
  f160:prog.fn 160 = some pf160
  f181:prog.fn 181 = some pf181
theorem cuts_len (p s:Bytes):(cuts p s).1.length≤s.length:=by
  unfold cuts
  split
  · simp only [List.length_take]; omega
  · exact Nat.le_refl _
noncomputable def sameP (p q:Pan):Bool:=decide (p.tag = q.tag) && decide (p.flags = q.flags) && sameV p.value q.value
theorem sameP_true {p q:Pan}:sameP p q = true ↔ p = q:=by
  obtain ⟨a,b,c⟩:=p
  obtain ⟨d,e,f⟩:=q
  unfold sameP
  simp only [Bool.and_eq_true,decide_eq_true_eq,sameV_true,Pan.mk.injEq]
  constructor
  · rintro ⟨⟨h1,h2⟩,h3⟩; exact ⟨h1,h3,h2⟩
  · rintro ⟨h1,h2,h3⟩; exact ⟨⟨h1,h3⟩,h2⟩
theorem sameP_rfl (p:Pan):sameP p p = true:=sameP_true.2 rfl
def rdC (s:Bytes):Pan × Bool:=match coreP s with | some p=>(p,true) | none=>(pz,false)
def refC (s:Bytes):Option Pan:=if s = tExit then some ⟨0,vz,2⟩ else
  if 6 < s.length∧s.take 6 = tFau then some ⟨4,Val.mk 2 (((s[6]?.getD 0).toNat:Int) - 48) [] [] false,0⟩ else
  if 6 < s.length∧s.take 6 = tPan then (if (rvs (s.drop 6)).2≠0 then none else some ⟨(([9,2,1,3,9,9,9,9]:List Int)[(rvs (s.drop 6)).1.kind.toNat]?).getD 0,(rvs (s.drop 6)).1,0⟩) else none
def addF (p:Pan) (r a:Bool):Pan:=⟨p.tag,p.value,p.flags + (if r = true then 1 else 0) + (if a = true then 4 else 0)⟩
def refR (s:Bytes) (r a:Bool) (rest:Bytes):Pan × Int:=match refC rest with
  | none=>(pz,12)
  | some p=>if okP (addF p r a) = true∧shown (addF p r a) = s then (addF p r a,0) else (pz,12)
theorem refC_base {p:Pan} (h:okP p = true) (hw:Wf p.value):refC (baseP p) = some ⟨p.tag,p.value,if p.tag = 0 then 2 else 0⟩:=by
  have h0:=okP_flags h
  have hk4:=fun h4=>okP_4 h h4
  have hkk:=fun hk=>okP_kind h hk
  unfold okP at h
  simp only [Bool.and_eq_true,decide_eq_true_eq] at h
  obtain ⟨⟨h1,h2⟩,h3⟩:=h
  obtain ⟨t,v,f⟩:=p
  simp only at h0 h1 h2 h3 hw hk4 hkk ⊢
  unfold baseP
  rcases h0 with ⟨rfl,rfl,_⟩ | ⟨t0,hf,_⟩
  · rfl
  simp only
  rw [if_neg t0]
  by_cases t4:t = 4
  · subst t4
    have hv:=vNum_eq hf h2
    have:=hk4 rfl
    rw [if_pos rfl]
    rcases (show v.int = 1∨v.int = 2∨v.int = 3 by omega) with h | h | h <;> rw [h] at hv <;> rw [hv] <;> rfl
  rw [if_neg t4,if_neg t0]
  have ne:tPan ++ txt v≠tExit:=fun e=>by injection e with e; exact absurd e (by decide)
  obtain ⟨c,r,hc,_⟩:=txt_head v
  have e6:(tPan ++ txt v).take 6 = tPan:=rfl
  have d6:(tPan ++ txt v).drop 6 = txt v:=rfl
  have l6:6 < (tPan ++ txt v).length:=by rw [hc]; simp [tPan]
  unfold refC
  rw [if_neg ne,if_neg (by rw [e6]; exact fun h=>absurd h.2 (by decide)),if_pos ⟨l6,e6⟩,d6,rvs_txt hf hw,if_neg (show ¬((0:Int)≠0) by decide)]
  simp only
  have hk:=hkk t0
  unfold kindT at h2
  rcases (show t = 1∨t = 2∨t = 3∨(t≠1∧t≠2∧t≠3) by omega) with rfl | rfl | rfl | ⟨a1,a2,a3⟩
  · rw [if_pos rfl] at h2; rw [h2]; rfl
  · rw [if_neg (by decide),if_pos rfl] at h2; rw [h2]; rfl
  · rw [if_neg (by decide),if_neg (by decide),if_pos rfl] at h2; rw [h2]; rfl
  · rw [if_neg a1,if_neg a2,if_neg a3,if_neg t4] at h2; omega
theorem refC_wf {s:Bytes} {p:Pan} (h:refC s = some p):Wf p.value∧(p.flags = 0∨p.flags = 2)∧0≤p.tag∧p.tag < 100:=by
  unfold refC at h
  split at h
  · cases h; exact ⟨Wf.zero,.inr rfl,by decide,by decide⟩
  split at h
  · cases h
    have:=(s[6]?.getD 0).toNat_lt
    exact ⟨.mk (by decide) (by omega) (by decide) (by simp),.inl rfl,by simp only; decide,by simp only; decide⟩
  split at h
  · split at h
    · cases h
    · rename_i h6
      cases h
      refine ⟨rvs_wf _,.inl rfl,?_,?_⟩ <;> simp only
      all_goals
        obtain ⟨g1,_,_⟩:=rvs_inv (Decidable.not_not.1 h6)
        have h7:=okv_head (fine_ok g1).1
        unfold Val.okh Okh at h7
        generalize (rvs (s.drop 6)).1.kind = k at h7
        rcases (show k = 1∨k = 2∨k = 3∨k = 4∨k = 5∨k = 6∨k = 7 by omega) with rfl | rfl | rfl | rfl | rfl | rfl | rfl <;> decide
  · cases h
theorem rlP_or (s:Bytes) (h:¬2000 < s.length):(rlP s).2 = 0∨rlP s = (pz,12):=by
  unfold rlP
  rw [if_neg h]
  simp only
  split
  · exact .inr rfl
  · rename_i p _
    by_cases ho:okP ⟨p.tag,p.value,p.flags + (if (cuts tRec (cuts tAb s).1).2 = true then 1 else 0) + (if (cuts tAb s).2 = true then 4 else 0)⟩ = true
    · rw [if_pos ho]; exact .inl rfl
    · rw [if_neg ho]; exact .inr rfl
theorem refR_eq {s:Bytes} (h:¬2000 < s.length):refR s (cuts tRec (cuts tAb s).1).2 (cuts tAb s).2 (cuts tRec (cuts tAb s).1).1 = rlP s:=by
  rcases rlP_or s h with h0 | h0
  · obtain ⟨g1,g2,g3,_⟩:=rlP_inv h0
    have e:rlP s = ((rlP s).1,0):=Prod.ext rfl h0
    rw [e]
    generalize (rlP s).1 = q at g1 g2 g3
    obtain ⟨c1,c2⟩:=cut_shown g1
    rw [← g3,c1,c2]
    unfold refR
    rw [refC_base g1 g2.v]
    have eq:addF ⟨q.tag,q.value,if q.tag = 0 then 2 else 0⟩ (decide (q.flags % 2 = 1)) (decide (4≤q.flags)) = q:=by
      obtain ⟨t,v,f⟩:=q
      unfold addF
      simp only [Pan.mk.injEq,true_and,decide_eq_true_eq]
      rcases okP_flags g1 with ⟨a,_,b⟩ | ⟨a,_,b⟩ <;> simp only at a b
      · rw [if_pos a]; rcases b with b | b <;> rw [b] <;> decide
      · rw [if_neg a]; rcases b with b | b | b | b <;> rw [b] <;> decide
    simp only [eq]
    rw [if_pos ⟨g1,trivial⟩]
  · rw [h0]
    unfold refR
    cases hc:refC (cuts tRec (cuts tAb s).1).1 with
    | none=>rfl
    | some p=>
      simp only
      rw [if_neg]
      rintro ⟨h1,h2⟩
      have h3:=rlP_shown h1 (refC_wf hc).1
      rw [h2,h0] at h3
      exact absurd (congrArg Prod.snd h3) (show ¬((12:Int) = 0) by decide)
section
variable {prog:Prog} (H:HasP prog)
include H
theorem c160 {p q:Pan} (hp:Wf p.value):Pus prog 160 [p.av,q.av] (.b (sameP p q)):=by
  obtain ⟨x,rfl,h⟩:=p160 H.f160 (a0:=p) (b1:=q) (K:=fun x=>x = sameP p q) (by
    unfold T160_0
    refine ⟨fun h1=>⟨fun h2=>⟨_,c78 H.toHas38 hp _,?_⟩,fun h2=>?_⟩,fun h1=>?_⟩
    · unfold sameP; rw [decide_eq_true h1,decide_eq_true h2]; rfl
    · unfold sameP; rw [decide_eq_false h2,Bool.and_false]; rfl
    · unfold sameP; rw [decide_eq_false h1]; rfl)
  exact h
theorem c181 {s:Bytes} (hs:s.length≤1000000000):Pus prog 181 [.s s] (.tup [(rdC s).1.av,.b (rdC s).2]):=by
  obtain ⟨x,y,⟨rfl,rfl⟩,h⟩:=p181 H.f181 (s0:=s) (K:=fun x y=>x = (rdC s).1∧y = (rdC s).2) (by
    unfold T181_0 T181_1
    have yes :∀{p:Pan},coreP s = some p→p = (rdC s).1∧true = (rdC s).2:=fun h=>by unfold rdC; rw [h]; exact ⟨rfl,rfl⟩
    have no:coreP s = none→pz = (rdC s).1∧false = (rdC s).2:=fun h=>by unfold rdC; rw [h]; exact ⟨rfl,rfl⟩
    refine ⟨fun h=>yes (by unfold coreP; rw [if_pos (show s = tExit from h)]),fun h0=>?_⟩
    have h0:s≠tExit:=h0
    unfold T181_2
    refine ⟨_,c178 H.toHasO,fun P hP=>?_⟩
    have step :∀(i:Nat) (f:Bytes),faults4[i]? = some f→i < 4→(0 < i→f = s→(Pan.mk 4 (Val.mk 2 (i:Int) [] [] false) 0) = (rdC s).1∧true = (rdC s).2)→((0 < i→f≠s)→P ((i + 1:Nat):Int) pz)→P (i:Int) pz:=fun i f hf hi h1 h2=>by
      apply hP
      unfold T181_3
      refine ⟨fun _=>⟨rfl,by omega,f,by rw [toNat_cast]; exact hf,fun h3=>?_,fun h3=>?_⟩,fun h=>absurd (show (i:Int) < 4 by omega) h⟩
      · unfold T181_4
        rw [wr_i64 (by omega) (by omega)]
        exact ⟨fun h4=>h1 (by omega) (of_decide_eq_true h4),fun h4=>h2 fun _=>of_decide_eq_false h4⟩
      · unfold T181_4
        rw [wr_i64 (by omega) (by omega)]
        exact ⟨fun h4=>(by cases h4),fun _=>h2 fun h=>by omega⟩
    refine step 0 [] rfl (by decide) (fun h=>absurd h (by decide)) fun _=>step 1 tF1 rfl (by decide) (fun _ e=>yes (by unfold coreP; rw [if_neg h0,if_pos e.symm]; rfl)) fun n1=>step 2 tF2 rfl (by decide) (fun _ e=>yes (by unfold coreP; rw [if_neg h0,if_neg fun e'=>n1 (by decide) e'.symm,if_pos e.symm]; rfl)) fun n2=>step 3 tF3 rfl (by decide) (fun _ e=>yes (by unfold coreP; rw [if_neg h0,if_neg fun e'=>n1 (by decide) e'.symm,if_neg fun e'=>n2 (by decide) e'.symm,if_pos e.symm]; rfl)) fun n3=>?_
    apply hP
    unfold T181_3 T181_5
    refine ⟨fun h=>absurd h (by decide),fun _=>⟨_,_,c36 H.toHas03 s tPan,fun h1=>?_,fun h1=>?_⟩⟩
    all_goals
      have e1:coreP s = if (cutp tPan s).2 = false then none else
        if (rvs (cutp tPan s).1).2≠0 then none else
        let v:=(rvs (cutp tPan s).1).1
        if v.kind = 2 then some ⟨1,v,0⟩ else if v.kind = 1 then some ⟨2,v,0⟩ else if v.kind = 3 then some ⟨3,v,0⟩ else none:=by
        conv=>lhs; unfold coreP
        rw [if_neg h0,if_neg fun e'=>n1 (by decide) e'.symm,if_neg fun e'=>n2 (by decide) e'.symm,if_neg fun e'=>n3 (by decide) e'.symm]
    · exact no (by rw [e1,if_pos (by simpa using h1)])
    · rw [if_neg (by simpa using h1)] at e1
      have hl:(cutp tPan s).1.length≤1000000000:=by unfold cutp; split <;> simp <;> omega
      refine ⟨_,_,c74 H.toHas38 hl,_,c183 H.toHasO,fun Q hQ=>?_⟩
      by_cases he:(rvs (cutp tPan s).1).2 = 0
      · rw [if_neg (by rw [he]; decide)] at e1
        obtain ⟨g1,_,_⟩:=rvs_inv he
        generalize (rvs (cutp tPan s).1).1 = v at e1 g1 hQ ⊢
        have h7:=okv_head (fine_ok g1).1
        unfold Val.okh Okh at h7
        simp only at e1
        have st :∀(i:Nat) (c:UInt8),kinds5[i]? = some c→i < 5→((c.toNat:Int) = v.kind→(Pan.mk (i:Int) v 0) = (rdC s).1∧true = (rdC s).2)→(¬(c.toNat:Int) = v.kind→Q ((i + 1:Nat):Int) pz v)→Q (i:Int) pz v:=fun i c hc hi h1 h2=>by
          apply hQ
          unfold T181_6
          refine ⟨fun _=>⟨rfl,by omega,c,by rw [toNat_cast]; exact hc,fun h3=>?_,fun h3=>absurd he h3⟩,fun h=>absurd (show (i:Int) < 5 by omega) h⟩
          unfold T181_7
          rw [wr_i64 (by omega) (by omega),wr_u64 (by omega) (by omega)]
          exact ⟨fun h4=>h1 (of_decide_eq_true h4),fun h4=>h2 (of_decide_eq_false h4)⟩
        refine st 0 0 rfl (by decide) (fun h=>absurd h (show ¬((0:Int) = v.kind) by omega)) fun _=>st 1 2 rfl (by decide) (fun h=>yes (by rw [e1,if_pos (show v.kind = 2 from h.symm)]; rfl)) fun n2=>st 2 1 rfl (by decide) (fun h=>yes (by rw [e1,if_neg fun h'=>n2 h'.symm,if_pos (show v.kind = 1 from h.symm)]; rfl)) fun n1=>st 3 3 rfl (by decide) (fun h=>yes (by rw [e1,if_neg fun h'=>n2 h'.symm,if_neg fun h'=>n1 h'.symm,if_pos (show v.kind = 3 from h.symm)]; rfl)) fun n3=>st 4 2 rfl (by decide) (fun h=>absurd h n2) fun _=>?_
        apply hQ
        unfold T181_6 T181_8
        exact ⟨fun h=>absurd h (by decide),fun _=>no (by rw [e1,if_neg fun h'=>n2 h'.symm,if_neg fun h'=>n1 h'.symm,if_neg fun h'=>n3 h'.symm])⟩
      · rw [if_pos he] at e1
        have st :∀(i:Nat) (c:UInt8),kinds5[i]? = some c→i < 5→Q ((i + 1:Nat):Int) pz (rvs (cutp tPan s).1).1→Q (i:Int) pz (rvs (cutp tPan s).1).1:=fun i c hc hi h2=>by
          apply hQ
          unfold T181_6
          refine ⟨fun _=>⟨rfl,by omega,c,by rw [toNat_cast]; exact hc,fun h3=>absurd h3 he,fun h3=>?_⟩,fun h=>absurd (show (i:Int) < 5 by omega) h⟩
          unfold T181_7
          rw [wr_i64 (by omega) (by omega)]
          exact ⟨fun h4=>(by cases h4),fun _=>h2⟩
        refine st 0 0 rfl (by decide) (st 1 2 rfl (by decide) (st 2 1 rfl (by decide) (st 3 3 rfl (by decide) (st 4 2 rfl (by decide) ?_))))
        apply hQ
        unfold T181_6 T181_8
        exact ⟨fun h=>absurd h (by decide),fun _=>no e1⟩)
  exact h
omit H in
theorem or_flags {f:Int} (h:f = 0∨f = 2):bOr .u64 f 1 = f + 1∧bOr .u64 f 4 = f + 4∧bOr .u64 (f + 1) 4 = f + 1 + 4∧IntKind.u64.wrap (f + 1) = f + 1∧IntKind.u64.wrap (f + 4) = f + 4∧IntKind.u64.wrap (f + 1 + 4) = f + 1 + 4:=by
  rcases h with rfl | rfl <;> decide
theorem c156 {s:Bytes} (hs:s.length≤1000000000):Pus prog 156 [.s s] (.tup [(rlP s).1.av,.i .i64 (rlP s).2]):=by
  obtain ⟨x,y,⟨rfl,rfl⟩,h⟩:=p156 H.f156 (s0:=s) (K:=fun x y=>x = (rlP s).1∧y = (rlP s).2) (by
    unfold T156_0
    refine ⟨fun h=>?_,fun h=>?_⟩
    · unfold rlP; rw [if_pos (by omega)]; exact ⟨rfl,rfl⟩
    have hl:¬2000 < s.length:=by omega
    have l1:(cuts tAb s).1.length≤1000000000:=Nat.le_trans (cuts_len _ _) hs
    have l2:(cuts tRec (cuts tAb s).1).1.length≤1000000000:=Nat.le_trans (cuts_len _ _) l1
    have e:rlP s = (match coreP (cuts tRec (cuts tAb s).1).1 with
      | none=>(pz,12)
      | some p=>if okP (addF p (cuts tRec (cuts tAb s).1).2 (cuts tAb s).2) = true then (addF p (cuts tRec (cuts tAb s).1).2 (cuts tAb s).2,0) else (pz,12)):=by
      conv=>lhs; unfold rlP
      rw [if_neg hl]
      rfl
    refine ⟨_,_,c180 H.toHasO (p:=tAb) hs,_,_,c180 H.toHasO (p:=tRec) l1,_,_,c181 H l2,?_⟩
    generalize cuts tAb s = a at e l1 l2 ⊢
    generalize cuts tRec a.1 = r at e l2 ⊢
    cases hc:coreP r.1 with
    | none=>
      rw [hc] at e
      have e2:rdC r.1 = (pz,false):=by unfold rdC; rw [hc]
      rw [e,e2]
      unfold T156_1 T156_2
      exact ⟨fun _=>⟨fun _=>⟨fun _=>⟨rfl,rfl⟩,fun h=>(by cases h)⟩,fun _=>⟨fun _=>⟨rfl,rfl⟩,fun h=>(by cases h)⟩⟩,fun _=>⟨fun _=>⟨fun _=>⟨rfl,rfl⟩,fun h=>(by cases h)⟩,fun _=>⟨fun _=>⟨rfl,rfl⟩,fun h=>(by cases h)⟩⟩⟩
    | some p=>
      rw [hc] at e
      have e2:rdC r.1 = (p,true):=by unfold rdC; rw [hc]
      rw [e,e2]
      obtain ⟨w1,w2,w3,w4,_⟩:=core_wf hc
      obtain ⟨o1,o2,o3,_⟩:=or_flags w2
      have fin :∀q:Pan,q = addF p r.2 a.2→T156_2 prog (fun x y=>x = (if okP (addF p r.2 a.2) = true then (addF p r.2 a.2,(0:Int)) else (pz,12)).1∧y = (if okP (addF p r.2 a.2) = true then (addF p r.2 a.2,(0:Int)) else (pz,12)).2) true pz q:=fun q hq=>by
        subst hq
        have hw:WfP (addF p r.2 a.2):=⟨⟨w3,by simp only [addF]; omega⟩,w1,by simp only [addF]; constructor <;> (split <;> split <;> omega)⟩
        unfold T156_2
        refine ⟨fun h=>(by cases h),fun _=>⟨_,c158 H.toHasO hw,fun h1=>?_,fun h1=>?_⟩⟩
        · rw [if_neg fun h'=>h1 (chkP_iff.2 h')]; exact ⟨rfl,rfl⟩
        · rw [if_pos (chkP_iff.1 (Decidable.not_not.1 h1))]; exact ⟨rfl,rfl⟩
      unfold T156_1
      simp only
      refine ⟨fun h1=>⟨fun h2=>fin _ ?_,fun h2=>fin _ ?_⟩,fun h1=>⟨fun h2=>fin _ ?_,fun h2=>fin _ ?_⟩⟩ <;> unfold addF <;> rw [h1,h2]
      · rw [o1,o3]; rfl
      · rw [o1]; simp
      · rw [o2]; simp
      · simp)
  exact h
theorem c157 {s:Bytes} (hs:s.length≤1000000000):Pus prog 157 [.s s] (.tup [(rlP s).1.av,.i .i64 (rlP s).2]):=by
  obtain ⟨x,y,⟨rfl,rfl⟩,h⟩:=p157 H.f157 (s0:=s) (K:=fun x y=>x = (rlP s).1∧y = (rlP s).2) (by
    unfold T157_0 T157_1
    refine ⟨fun h=>?_,fun h=>?_⟩
    · unfold rlP; rw [if_pos (by omega)]; exact ⟨rfl,rfl⟩
    have hl:¬2000 < s.length:=by omega
    have l1:(cuts tAb s).1.length≤1000000000:=Nat.le_trans (cuts_len _ _) hs
    have l2:(cuts tRec (cuts tAb s).1).1.length≤1000000000:=Nat.le_trans (cuts_len _ _) l1
    have e:=refR_eq hl
    unfold T157_2 T157_3 T157_4
    refine ⟨_,_,c182 H.toHasO (p:=tAb) hs,_,_,c182 H.toHasO (p:=tRec) l1,?_⟩
    rw [← e]
    clear e
    generalize cuts tAb s = a at l1 l2 ⊢
    generalize cuts tRec a.1 = r at l2 ⊢
    have no:refC r.1 = none→pz = (refR s r.2 a.2 r.1).1∧(12:Int) = (refR s r.2 a.2 r.1).2:=fun h=>by unfold refR; rw [h]; exact ⟨rfl,rfl⟩
    have t6 :∀p:Pan,refC r.1 = some p→T157_6 prog (fun x y=>x = (refR s r.2 a.2 r.1).1∧y = (refR s r.2 a.2 r.1).2) s a.2 r.2 pz p:=fun p hp=>by
      obtain ⟨w1,w2,w3,w4⟩:=refC_wf hp
      obtain ⟨_,_,_,o1,o2,o3⟩:=or_flags w2
      have fin :∀q:Pan,q = addF p r.2 a.2→T157_8 prog (fun x y=>x = (refR s r.2 a.2 r.1).1∧y = (refR s r.2 a.2 r.1).2) s pz q:=fun q hq=>by
        subst hq
        have hw:WfP (addF p r.2 a.2):=⟨⟨w3,by simp only [addF]; omega⟩,w1,by simp only [addF]; constructor <;> (split <;> split <;> omega)⟩
        have er:refR s r.2 a.2 r.1 = if okP (addF p r.2 a.2) = true∧shown (addF p r.2 a.2) = s then (addF p r.2 a.2,0) else (pz,12):=by unfold refR; rw [hp]
        unfold T157_8
        refine ⟨_,c159 H.toHasO hw,fun h1=>?_,fun h1=>?_⟩
        · rw [er,if_neg fun h'=>h1 (chkP_iff.2 h'.1)]; exact ⟨rfl,rfl⟩
        have h1:=chkP_iff.1 (Decidable.not_not.1 h1)
        refine ⟨_,c179 H.toHasO hw h1,fun h2=>?_,fun h2=>?_⟩
        · rw [er,if_neg fun h'=>h2 h'.2]; exact ⟨rfl,rfl⟩
        · rw [er,if_pos ⟨h1,Decidable.not_not.1 h2⟩]; exact ⟨rfl,rfl⟩
      unfold T157_6 T157_7
      simp only
      refine ⟨fun h1=>⟨fun h2=>fin _ ?_,fun h2=>fin _ ?_⟩,fun h1=>⟨fun h2=>fin _ ?_,fun h2=>fin _ ?_⟩⟩ <;> unfold addF <;> rw [h1,h2]
      · rw [o1,o3]; rfl
      · rw [o1]; simp
      · rw [o2]; simp
      · simp
    unfold T157_5
    refine ⟨fun h0=>t6 _ (by unfold refC; rw [if_pos (show r.1 = tExit from h0)]),fun h0=>?_⟩
    have h0:r.1≠tExit:=h0
    have t10 :∀b:Bool,b = decide (6 < r.1.length∧r.1.take 6 = tPan)→¬(6 < r.1.length∧r.1.take 6 = tFau)→T157_10 prog (fun x y=>x = (refR s r.2 a.2 r.1).1∧y = (refR s r.2 a.2 r.1).2) s r.1 a.2 r.2 b pz pz:=fun b hb hn=>by
      unfold T157_10
      refine ⟨fun h1=>?_,fun h1=>no (by unfold refC; rw [if_neg h0,if_neg hn,if_neg (of_decide_eq_false (hb ▸ h1))])⟩
      have hy:=of_decide_eq_true (hb ▸ h1)
      have e:refC r.1 = if (rvs (r.1.drop 6)).2≠0 then none else some ⟨(([9,2,1,3,9,9,9,9]:List Int)[(rvs (r.1.drop 6)).1.kind.toNat]?).getD 0,(rvs (r.1.drop 6)).1,0⟩:=by
        unfold refC; rw [if_neg h0,if_neg hn,if_pos hy]
      refine ⟨by omega,_,_,c75 H.toHas38 (by simp; omega),fun h2=>no (by rw [e,if_pos h2]),fun h2=>?_⟩
      rw [if_neg h2] at e
      obtain ⟨g1,_,g3⟩:=rvs_inv (Decidable.not_not.1 h2)
      have h7:=okv_head (fine_ok g1).1
      unfold Val.okh Okh at h7
      have hk :∃c:Int,([9,2,1,3,9,9,9,9]:List Int)[(rvs (r.1.drop 6)).1.kind.toNat]? = some c:=by
        generalize (rvs (r.1.drop 6)).1.kind = k at h7
        rcases (show k = 1∨k = 2∨k = 3∨k = 4∨k = 5∨k = 6∨k = 7 by omega) with rfl | rfl | rfl | rfl | rfl | rfl | rfl <;> exact ⟨_,rfl⟩
      obtain ⟨c,hc⟩:=hk
      rw [hc] at e
      exact ⟨g3.k.1,c,hc,t6 _ e⟩
    have t9 :∀b:Bool,b = decide (6 < r.1.length∧r.1.take 6 = tFau)→T157_9 prog (fun x y=>x = (refR s r.2 a.2 r.1).1∧y = (refR s r.2 a.2 r.1).2) s r.1 a.2 r.2 b pz pz:=fun b hb=>by
      unfold T157_9
      refine ⟨fun h1=>?_,fun h1=>⟨fun h2=>⟨by omega,t10 _ (decide_eq_decide.2 ⟨fun h=>⟨by omega,h⟩,fun h=>h.2⟩) (of_decide_eq_false (hb ▸ h1))⟩,fun h2=>t10 _ (decide_eq_false fun h=>h2 (by omega)).symm (of_decide_eq_false (hb ▸ h1))⟩⟩
      have hy:=of_decide_eq_true (hb ▸ h1)
      have g6:r.1[6]? = some r.1[6]:=List.getElem?_eq_getElem hy.1
      have:=(r.1[6]).toNat_lt
      refine ⟨_,g6,?_⟩
      rw [wr_i64 (by omega) (by omega)]
      exact t6 _ (by unfold refC; rw [if_neg h0,if_pos hy,g6]; rfl)
    exact ⟨fun h1=>⟨by omega,t9 _ (decide_eq_decide.2 ⟨fun h=>⟨by omega,h⟩,fun h=>h.2⟩)⟩,fun h1=>t9 _ (decide_eq_false fun h=>h1 (by omega)).symm⟩)
  exact h
end
end Go.AM

namespace Go.AM
open Go
structure HasQ (prog:Prog):Prop extends HasP prog where
  f162:prog.fn 162 = some pf162
  f163:prog.fn 163 = some pf163
  f164:prog.fn 164 = some pf164
  f165:prog.fn 165 = some pf165
  f166:prog.fn 166 = some pf166
  f169:prog.fn 169 = some pf169
  f170:prog.fn 170 = some pf170
  f185:prog.fn 185 = some pf185
def chainR (l:List Pan):Int:=if 410 < l.length then 4 else if l.all okP = true then 0 else 8
def greatC (l:List Pan):Bool:=(decide (20 < l.length) && decide (l.length≤410)) || decide (420 < l.length) || l.any (fun p=>greatv p.value)
def fl0 (p:Pan):Bool:=decide (p.flags = 0)
def causeR (l:List Pan):Int × Int:=if chainR l = 0 then (if l.findIdx fl0 < l.length then ((l.findIdx fl0:Int),0) else (0,6)) else (0,chainR l)
def txtC (l:List Pan):Bytes:=l.flatMap fun p=>shown p ++ [10]
def textR (l:List Pan):Bytes × Int:=if chainR l = 0 then (txtC l,0) else ([],chainR l)
theorem chain_all {l:List Pan} (h:¬410 < l.length) (ho :∀p ∈ l,okP p = true):chainR l = 0:=by
  unfold chainR; rw [if_neg h,if_pos (List.all_eq_true.2 ho)]
theorem chain_not {l:List Pan} (h:¬410 < l.length) {p:Pan} (hp:p ∈ l) (ho:okP p≠true):chainR l = 8:=by
  unfold chainR; rw [if_neg h,if_neg fun h'=>ho (List.all_eq_true.1 h' p hp)]
theorem chain_ok {l:List Pan} (h:chainR l = 0):l.length≤410∧∀p ∈ l,okP p = true:=by
  unfold chainR at h
  split at h
  · cases h
  · split at h
    · rename_i h1 h2; exact ⟨by omega,List.all_eq_true.1 h2⟩
    · cases h
theorem txtC_take {l:List Pan} {i:Nat} (h:i < l.length):txtC (l.take (i + 1)) = txtC (l.take i) ++ (shown l[i] ++ [10]):=by
  unfold txtC
  rw [List.take_succ_eq_append_getElem h,List.flatMap_append]
  simp
theorem txtC_len {l:List Pan} (ho :∀p ∈ l,okP p = true):(txtC l).length≤401 * l.length:=by
  induction l with
  | nil=>exact Nat.le_refl _
  | cons p l ih=>
    have h1:=shown_len (ho p List.mem_cons_self)
    have h2:=ih fun q hq=>ho q (List.mem_cons_of_mem _ hq)
    unfold txtC at h2 ⊢
    simp only [List.flatMap_cons,List.length_append,List.length_cons,List.length_nil]
    omega
section
variable {prog:Prog} (H:HasQ prog)
include H
theorem c185 {l:List Pan} (hw :∀p ∈ l,WfP p):Pus prog 185 [.sl .ext (l.map Pan.row)] (.i .i64 (chainR l)):=by
  obtain ⟨x,rfl,h⟩:=p185 H.f185 (l0:=l) (K:=fun x=>x = chainR l) (by
    unfold T185_0
    refine ⟨fun h=>by unfold chainR; rw [if_pos (by omega)],fun h P hP=>?_⟩
    refine loop_inv0 l.length (fun i=>∀p ∈ l.take i,okP p = true) (by simp) (fun hI=>hP _ ?_) fun i hi hI next=>hP _ ?_
    · unfold T185_1 T185_2
      rw [List.take_length] at hI
      exact ⟨fun h=>absurd h (by omega),fun _=>(chain_all (by omega) hI).symm⟩
    · unfold T185_1
      refine ⟨fun _=>⟨by omega,_,get_at hi,_,c158 H.toHasO (hw _ (List.getElem_mem hi)),fun h1=>?_,fun h1=>?_⟩,fun h=>absurd (show (i:Int) < l.length by omega) h⟩
      · have hn:okP l[i]≠true:=fun h'=>h1 (chkP_iff.2 h')
        rw [chain_not (by omega) (List.getElem_mem hi) hn,chkP_no (by simpa using hn)]
      · rw [wr_i64 (by omega) (by omega)]
        refine next fun p hp=>?_
        rw [List.take_succ_eq_append_getElem hi] at hp
        rcases List.mem_append.1 hp with hp | hp
        · exact hI p hp
        · rw [List.mem_singleton.1 hp]; exact chkP_iff.1 (Decidable.not_not.1 h1))
  exact h
theorem c163 {l:List Pan} (hw :∀p ∈ l,WfP p):Pus prog 163 [.sl .ext (l.map Pan.row)] (.i .i64 (chainR l)):=by
  obtain ⟨x,rfl,h⟩:=p163 H.f163 (l0:=l) (K:=fun x=>x = chainR l) (by
    unfold T163_0
    refine ⟨fun h=>by unfold chainR; rw [if_pos (by omega)],fun h P hP=>?_⟩
    refine loop_inv0 l.length (fun i=>∀p ∈ l.take i,okP p = true) (by simp) (fun hI=>hP _ ?_) fun i hi hI next=>hP _ ?_
    · unfold T163_1 T163_2
      rw [List.take_length] at hI
      exact ⟨fun h=>absurd h (by omega),fun _=>(chain_all (by omega) hI).symm⟩
    · unfold T163_1
      refine ⟨fun _=>⟨by omega,_,get_at hi,_,c159 H.toHasO (hw _ (List.getElem_mem hi)),fun h1=>?_,fun h1=>?_⟩,fun h=>absurd (show (i:Int) < l.length by omega) h⟩
      · have hn:okP l[i]≠true:=fun h'=>h1 (chkP_iff.2 h')
        rw [chain_not (by omega) (List.getElem_mem hi) hn,chkP_no (by simpa using hn)]
      · rw [wr_i64 (by omega) (by omega)]
        refine next fun p hp=>?_
        rw [List.take_succ_eq_append_getElem hi] at hp
        rcases List.mem_append.1 hp with hp | hp
        · exact hI p hp
        · rw [List.mem_singleton.1 hp]; exact chkP_iff.1 (Decidable.not_not.1 h1))
  exact h
omit H in
theorem idx_at {l:List Pan} {i:Nat} (hi:i < l.length) (h :∀j (hj:j < i),fl0 (l[j]'(by omega)) = false) (h1:fl0 l[i] = true):l.findIdx fl0 = i:=by
  rw [List.findIdx_eq hi]
  exact ⟨h1,h⟩
omit H in
theorem idx_none {l:List Pan} (h :∀j (hj:j < l.length),fl0 l[j] = false):¬l.findIdx fl0 < l.length:=by
  intro h1
  have:=List.findIdx_getElem (w:=h1)
  rw [h _ h1] at this
  cases this
theorem c165 {l:List Pan} (hw :∀p ∈ l,WfP p):Pus prog 165 [.sl .ext (l.map Pan.row)] (.tup [.i .i64 (causeR l).1,.i .i64 (causeR l).2]):=by
  obtain ⟨x,y,⟨rfl,rfl⟩,h⟩:=p165 H.f165 (l0:=l) (K:=fun x y=>x = (causeR l).1∧y = (causeR l).2) (by
    unfold T165_0
    refine ⟨_,c185 H hw,fun h=>?_,fun h P hP=>?_⟩
    · unfold causeR; rw [if_neg h]; exact ⟨rfl,rfl⟩
    have h:=Decidable.not_not.1 h
    have hl:=(chain_ok h).1
    refine loop_inv0 l.length (fun i=>∀j (hj:j < l.length),j < i→fl0 l[j] = false) (fun j _ hj=>by omega) (fun hI=>hP _ ?_) fun i hi hI next=>hP _ ?_
    · unfold T165_1 T165_2 causeR
      rw [if_pos h,if_neg (idx_none fun j hj=>hI j hj hj)]
      exact ⟨fun h=>absurd h (by omega),fun _=>⟨rfl,rfl⟩⟩
    · unfold T165_1
      refine ⟨fun _=>⟨by omega,_,get_at hi,fun h1=>?_,fun h1=>?_⟩,fun h=>absurd (show (i:Int) < l.length by omega) h⟩
      · have e:=idx_at hi (fun j hj=>hI j _ hj) (decide_eq_true h1)
        unfold causeR
        rw [if_pos h,e,if_pos hi]; exact ⟨rfl,rfl⟩
      · rw [wr_i64 (by omega) (by omega)]
        refine next fun j hj hji=>?_
        rcases Nat.lt_or_ge j i with h2 | h2
        · exact hI j hj h2
        · have:j = i:=by omega
          subst this; exact decide_eq_false h1)
  exact h
theorem c169 {l:List Pan} (hw :∀p ∈ l,WfP p):Pus prog 169 [.sl .ext (l.map Pan.row)] (.tup [.i .i64 (causeR l).1,.i .i64 (causeR l).2]):=by
  obtain ⟨x,y,⟨rfl,rfl⟩,h⟩:=p169 H.f169 (l0:=l) (K:=fun x y=>x = (causeR l).1∧y = (causeR l).2) (by
    unfold T169_0
    refine ⟨_,c163 H hw,fun h=>?_,fun h P hP=>?_⟩
    · unfold causeR; rw [if_neg h]; exact ⟨rfl,rfl⟩
    have h:=Decidable.not_not.1 h
    have hl:=(chain_ok h).1
    refine loop_inv0 l.length (fun i=>∀j (hj:j < l.length),j < i→fl0 l[j] = false) (fun j _ hj=>by omega) (fun hI=>hP _ ?_) fun i hi hI next=>hP _ ?_
    · unfold T169_1 T169_2 causeR
      rw [if_pos h,if_neg (idx_none fun j hj=>hI j hj hj)]
      exact ⟨fun h=>absurd h (by omega),fun _=>⟨rfl,rfl⟩⟩
    · unfold T169_1
      refine ⟨fun _=>⟨by omega,_,get_at hi,fun h1=>?_,fun h1=>?_⟩,fun h=>absurd (show (i:Int) < l.length by omega) h⟩
      · have e:=idx_at hi (fun j hj=>hI j _ hj) (decide_eq_true h1)
        unfold causeR
        rw [if_pos h,e,if_pos hi]; exact ⟨rfl,rfl⟩
      · rw [wr_i64 (by omega) (by omega)]
        refine next fun j hj hji=>?_
        rcases Nat.lt_or_ge j i with h2 | h2
        · exact hI j hj h2
        · have:j = i:=by omega
          subst this; exact decide_eq_false h1)
  exact h
theorem c162 {l:List Pan} (hw :∀p ∈ l,WfP p):Pus prog 162 [.sl .ext (l.map Pan.row)] (.b (greatC l)):=by
  obtain ⟨x,rfl,h⟩:=p162 H.f162 (l0:=l) (K:=fun x=>x = greatC l) (by
    have t1:(decide (20 < l.length) && decide (l.length≤410)) = false→¬420 < l.length→T162_1 prog (fun x=>x = greatC l) l:=fun h1 h2=>by
      unfold T162_1
      intro P hP
      have e:greatC l = l.any (fun p=>greatv p.value):=by unfold greatC; rw [h1,decide_eq_false h2]; rfl
      rw [e] at hP
      refine loop_inv0 l.length (fun i=>∀p ∈ l.take i,greatv p.value = false) (by simp) (fun hI=>hP _ ?_) fun i hi hI next=>hP _ ?_
      · unfold T162_2 T162_3
        rw [List.take_length] at hI
        exact ⟨fun h=>absurd h (by omega),fun _=>(List.any_eq_false.2 fun p hp=>by simpa using hI p hp).symm⟩
      · unfold T162_2
        refine ⟨fun _=>⟨by omega,_,get_at hi,_,c71 H.toHas38 (hw _ (List.getElem_mem hi)).v,fun h1=>(List.any_eq_true.2 ⟨_,List.getElem_mem hi,h1⟩).symm,fun h1=>?_⟩,fun h=>absurd (show (i:Int) < l.length by omega) h⟩
        rw [wr_i64 (by omega) (by omega)]
        refine next fun p hp=>?_
        rw [List.take_succ_eq_append_getElem hi] at hp
        rcases List.mem_append.1 hp with hp | hp
        · exact hI p hp
        · rw [List.mem_singleton.1 hp]; exact h1
    unfold T162_0
    refine ⟨fun h1=>⟨fun h2=>?_,fun h2=>⟨fun h3=>?_,fun h3=>?_⟩⟩,fun h1=>⟨fun h3=>?_,fun h3=>?_⟩⟩
    · unfold greatC; rw [decide_eq_true (by omega),decide_eq_true (by omega)]; rfl
    · unfold greatC; rw [decide_eq_true (p:=420 < l.length) (by omega)]; simp
    · exact t1 (by rw [decide_eq_false (p:=l.length≤410) (by omega)]; simp) (by omega)
    · omega
    · exact t1 (by rw [decide_eq_false (p:=20 < l.length) (by omega)]; rfl) (by omega))
  exact h
theorem c164 {l:List Pan} (hw :∀p ∈ l,WfP p):Pus prog 164 [.sl .ext (l.map Pan.row)] (.tup [.s (textR l).1,.i .i64 (textR l).2]):=by
  obtain ⟨x,y,⟨rfl,rfl⟩,h⟩:=p164 H.f164 (l0:=l) (K:=fun x y=>x = (textR l).1∧y = (textR l).2) (by
    unfold T164_0
    refine ⟨_,c185 H hw,fun h=>?_,fun h P hP=>?_⟩
    · unfold textR; rw [if_neg h]; exact ⟨rfl,rfl⟩
    have h:=Decidable.not_not.1 h
    obtain ⟨hl,ho⟩:=chain_ok h
    have hb :∀i,(txtC (l.take i)).length≤1000000:=fun i=>by
      have h1:=txtC_len (l:=l.take i) fun p hp=>ho p (List.mem_of_mem_take hp)
      have h2:(l.take i).length≤l.length:=by simp only [List.length_take]; omega
      omega
    refine loop_inv (P:=fun b i=>P i b) (fun i=>txtC (l.take i)) l.length (fun _=>True) trivial (fun _=>hP _ _ ?_) fun i hi _ next=>hP _ _ ?_
    · unfold T164_1 T164_2
      rw [List.take_length]
      have hb2:=hb l.length
      rw [List.take_length] at hb2
      refine ⟨fun h=>absurd h (by omega),fun _=>⟨_,c105 H.toHasB (by rw [maxBytes_eq]; omega),?_⟩⟩
      unfold textR; rw [if_pos h]; exact ⟨rfl,rfl⟩
    · have hoi:=ho _ (List.getElem_mem hi)
      have hs:=shown_len hoi
      have hbi:=hb i
      have hln:lnP l[i] = (shown l[i],0):=by unfold lnP; rw [if_pos hoi]
      have k:=c154 H.toHasO (hw _ (List.getElem_mem hi))
      rw [hln] at k
      unfold T164_1
      refine ⟨fun _=>⟨by omega,_,get_at hi,_,_,k,fun h1=>absurd rfl h1,fun _=>⟨?_,_,_,c126 H.toHasB ?_ (by simp),?_⟩⟩,fun h=>absurd (show (i:Int) < l.length by omega) h⟩
      · simp only [List.length_cons,List.length_nil,maxStr_eq]; omega
      · simp only [List.length_append,List.length_cons,List.length_nil,maxBytes_eq]; omega
      · rw [wr_i64 (by omega) (by omega),← txtC_take hi]
        exact next trivial)
  exact h
end
section
variable {prog:Prog} (H:HasQ prog)
include H
end
end Go.AM

namespace Go.AM
open Go
def spl:Bytes→List Bytes × Bytes
  | []=>([],[])
  | c :: r=>if c = 10 then ([] :: (spl r).1,(spl r).2) else match (spl r).1 with
    | []=>([],c :: (spl r).2)
    | x :: l=>((c :: x) :: l,(spl r).2)
def unl10 (l:List Bytes):Bytes:=l.flatMap fun x=>x ++ [10]
theorem unl10_app (l m:List Bytes):unl10 (l ++ m) = unl10 l ++ unl10 m:=by unfold unl10; rw [List.flatMap_append]
theorem unl10_cons (x:Bytes) (l:List Bytes):unl10 (x :: l) = x ++ 10 :: unl10 l:=by unfold unl10; simp
theorem spl_join :∀s:Bytes,s = unl10 (spl s).1 ++ (spl s).2
  | []=>rfl
  | c :: r=>by
    have ih:=spl_join r
    unfold spl
    split
    · rename_i h
      subst h
      simp only [unl10_cons,List.nil_append,List.cons_append]
      rw [← ih]
    · split
      · rename_i h
        rw [h] at ih
        simp only [unl10,List.flatMap_nil,List.nil_append] at ih ⊢
        rw [← ih]
      · rename_i x l h
        rw [h,unl10_cons] at ih
        simp only [unl10_cons,List.cons_append]
        rw [← ih]
theorem spl_nl :∀s:Bytes,(∀x ∈ (spl s).1,(10:UInt8) ∉ x)∧(10:UInt8) ∉ (spl s).2
  | []=>⟨fun x h=>(by simp [spl] at h),by simp [spl]⟩
  | c :: r=>by
    have ih:=spl_nl r
    unfold spl
    split
    · refine ⟨fun x h=>?_,ih.2⟩
      simp only [List.mem_cons] at h
      rcases h with rfl | h
      · simp
      · exact ih.1 x h
    · rename_i hc
      have hc':(10:UInt8)≠c:=fun h=>hc h.symm
      split
      · exact ⟨fun x h=>by simp at h,by simp only [List.mem_cons,not_or]; exact ⟨hc',ih.2⟩⟩
      · rename_i x l h
        rw [h] at ih
        refine ⟨fun y hy=>?_,ih.2⟩
        simp only [List.mem_cons] at hy
        rcases hy with rfl | hy
        · simp only [List.mem_cons,not_or]
          exact ⟨hc',ih.1 x (by simp)⟩
        · exact ih.1 y (by simp [hy])
theorem spl_count (s:Bytes):(spl s).1.length = s.count 10:=by
  have h:=spl_join s
  have h1:=spl_nl s
  rw [congrArg (List.count (10:UInt8)) h,List.count_append,List.count_eq_zero.2 h1.2,Nat.add_zero]
  generalize (spl s).1 = l at h1
  clear h
  replace h1:=h1.1
  induction l with
  | nil=>rfl
  | cons x l ih=>
    rw [unl10_cons,List.count_append,List.count_eq_zero.2 (h1 x (by simp)),List.count_cons_self,List.length_cons,ih fun y hy=>h1 y (by simp [hy])]
    omega
theorem unl10_last {l:List Bytes} (h:l≠[]) :∃b,unl10 l = b ++ [10]:=by
  obtain ⟨m,x,rfl⟩ :∃m x,l = m ++ [x]:=⟨l.dropLast,l.getLast h,(List.dropLast_concat_getLast h).symm⟩
  exact ⟨unl10 m ++ x,by rw [unl10_app]; simp [unl10]⟩
theorem spl_rest {s:Bytes}:(spl s).2 = [] ↔ s = []∨(cuts [10] s).2 = true:=by
  constructor
  · intro h
    have h1:=spl_join s
    rw [h,List.append_nil] at h1
    by_cases h2:(spl s).1 = []
    · rw [h2] at h1; exact .inl h1
    · obtain ⟨b,hb⟩:=unl10_last h2
      rw [h1,hb]
      exact .inr (by rw [cuts_app])
  · rintro (rfl | h)
    · rfl
    · have h1:=cuts_yes h
      generalize (cuts [10] s).1 = b at h1
      subst h1
      have h2 :∀b:Bytes,(spl (b ++ [10])).2 = []:=by
        intro b
        induction b with
        | nil=>rfl
        | cons c b ih=>
          rw [List.cons_append,spl]
          split
          · exact ih
          · split
            · rename_i h
              have:=spl_join (b ++ [10])
              rw [h,ih] at this
              simp [unl10] at this
            · exact ih
      exact h2 b
def rtR (s:Bytes):List Pan × Int:=if 120000 < s.length then ([],4) else if (spl s).2≠[]∨410 < (spl s).1.length then ([],12) else
  if (spl s).1.all (fun x=>decide ((rlP x).2 = 0)) = true then ((spl s).1.map fun x=>(rlP x).1,0) else ([],12)
theorem hexd_nl :∀k:Fin 16,(10:UInt8)≠hexd k:=by decide
theorem hexd_nl' (n:Nat):(10:UInt8)≠hexd n:=by
  by_cases h:n < 16
  · exact hexd_nl ⟨n,h⟩
  · unfold hexd
    rw [List.getD_eq_getElem?_getD,List.getElem?_eq_none (by simp; omega)]
    decide
theorem ds_nl (b:Nat) :∀f n,(10:UInt8) ∉ ds b f n
  | 0,_=>by simp [ds]
  | f + 1,n=>by
    unfold ds
    split
    · simp only [List.mem_singleton]; exact hexd_nl' n
    · simp only [List.mem_append,List.mem_singleton,not_or]
      exact ⟨ds_nl b f (n / b),hexd_nl' _⟩
theorem num_nl (n:Int):(10:UInt8) ∉ num n:=by
  unfold num
  split
  · simp only [List.mem_cons,not_or]
    exact ⟨by decide,ds_nl _ _ _⟩
  · exact ds_nl _ _ _
theorem chr_nl (c:UInt8):(10:UInt8) ∉ chr c:=by
  unfold chr
  split
  · rename_i h
    simp only [List.mem_cons,List.not_mem_nil,or_false,not_or]
    exact ⟨by decide,fun e=>by subst e; revert h; decide⟩
  · split
    · decide
    · rename_i h
      split
      · simp only [List.mem_cons,List.not_mem_nil,or_false,not_or]
        exact ⟨by decide,by decide,hexd_nl' _,hexd_nl' _⟩
      · simp only [List.mem_singleton]
        exact fun e=>h (by rw [← e]; rfl)
theorem quo_nl (s:Bytes):(10:UInt8) ∉ quo s:=by
  unfold quo chrs
  simp only [List.mem_cons,List.mem_append,List.mem_flatMap,List.not_mem_nil,or_false,not_or,not_exists,not_and]
  exact ⟨by decide,fun c _=>chr_nl c,by decide⟩
mutual
theorem txt_nl :∀v:Val,(10:UInt8) ∉ txt v
  | .mk k n s l c=>by
    have h:=txts_nl l
    rw [txt]
    split
    · split <;> decide
    · split
      · exact num_nl n
      · split
        · exact quo_nl s
        · split
          · simp only [List.mem_cons,List.mem_append,List.not_mem_nil,or_false,not_or]; exact ⟨by decide,h,by decide⟩
          · split
            · simp only [List.mem_cons,List.mem_append,List.not_mem_nil,or_false,not_or]; exact ⟨by decide,h,by decide⟩
            · split
              · split
                · decide
                · simp only [List.mem_cons,List.mem_append,List.not_mem_nil,or_false,not_or]; exact ⟨by decide,h,by decide⟩
              · split
                · decide
                · split
                  · decide
                  · simp only [List.mem_cons,not_or]; exact ⟨by decide,h⟩
theorem txts_nl :∀l:List Val,(10:UInt8) ∉ txts l
  | []=>by simp [txts]
  | v :: l=>by rw [txts]; simp only [List.mem_append,not_or]; exact ⟨txt_nl v,txtl_nl l⟩
theorem txtl_nl :∀l:List Val,(10:UInt8) ∉ txtl l
  | []=>by simp [txtl]
  | v :: l=>by rw [txtl]; simp only [List.mem_cons,List.mem_append,not_or]; exact ⟨by decide,by decide,txt_nl v,txtl_nl l⟩
end
theorem txtC_unl (l:List Pan):txtC l = unl10 (l.map shown):=by unfold txtC unl10; rw [List.flatMap_map]
theorem rtR_inv {s:Bytes} (h:(rtR s).2 = 0):chainR (rtR s).1 = 0∧txtC (rtR s).1 = s∧∀p ∈ (rtR s).1,WfP p:=by
  unfold rtR at h ⊢
  split at h
  · cases h
  rename_i h1
  rw [if_neg h1]
  split at h
  · cases h
  rename_i h2
  rw [if_neg h2]
  split at h
  case isFalse=>cases h
  rename_i h3
  rw [if_pos h3]
  have h4 :∀x ∈ (spl s).1,(rlP x).2 = 0:=fun x hx=>by simpa using List.all_eq_true.1 h3 x hx
  have h5:(spl s).2 = []:=by
    by_cases e:(spl s).2 = []
    · exact e
    · exact absurd (.inl e) h2
  refine ⟨chain_all (by rw [List.length_map]; exact fun h=>h2 (.inr h)) fun p hp=>?_,?_,fun p hp=>?_⟩
  · rw [List.mem_map] at hp
    obtain ⟨x,hx,rfl⟩:=hp
    exact (rlP_inv (h4 x hx)).1
  · rw [txtC_unl,List.map_map,List.map_congr_left (g:=id) (f:=shown ∘ fun x=>(rlP x).1) fun x hx=>(rlP_inv (h4 x hx)).2.2.1,List.map_id]
    have:=spl_join s
    rw [h5,List.append_nil] at this
    exact this.symm
  · rw [List.mem_map] at hp
    obtain ⟨x,hx,rfl⟩:=hp
    exact (rlP_inv (h4 x hx)).2.1
end Go.AM

namespace Go.AM
open Go
section
variable {prog:Prog} (H:HasQ prog)
include H
end
end Go.AM

namespace Go.AM
open Go
section
variable {prog:Prog} (H:HasQ prog)
include H
theorem c166 {l:List Pan} (hw :∀p ∈ l,WfP p):Pus prog 166 [.sl .ext (l.map Pan.row)] (.tup [.s (textR l).1,.i .i64 (textR l).2]):=by
  obtain ⟨x,y,⟨rfl,rfl⟩,h⟩:=p166 H.f166 (l0:=l) (K:=fun x y=>x = (textR l).1∧y = (textR l).2) (by
    unfold T166_0
    refine ⟨_,c163 H hw,fun h=>?_,fun h P hP=>?_⟩
    · unfold textR; rw [if_neg h]; exact ⟨rfl,rfl⟩
    have h:=Decidable.not_not.1 h
    obtain ⟨hl,ho⟩:=chain_ok h
    have hb :∀i,(txtC (l.take i)).length≤1000000:=fun i=>by
      have h1:=txtC_len (l:=l.take i) fun p hp=>ho p (List.mem_of_mem_take hp)
      have h2:(l.take i).length≤l.length:=by simp only [List.length_take]; omega
      omega
    refine loop_inv (P:=P) (fun i=>txtC (l.take i)) l.length (fun _=>True) trivial (fun _=>hP _ _ ?_) fun i hi _ next=>hP _ _ ?_
    · unfold T166_1 T166_2
      rw [List.take_length]
      refine ⟨fun h=>absurd h (by omega),fun _=>?_⟩
      unfold textR; rw [if_pos h]; exact ⟨rfl,rfl⟩
    · have hoi:=ho _ (List.getElem_mem hi)
      have hs:=shown_len hoi
      have hbi:=hb i
      unfold T166_1
      refine ⟨fun _=>⟨by omega,_,get_at hi,_,c179 H.toHasO (hw _ (List.getElem_mem hi)) hoi,?_,?_,?_⟩,fun h=>absurd (show (i:Int) < l.length by omega) h⟩
      · simp only [List.length_cons,List.length_nil,maxStr_eq]; omega
      · simp only [List.length_append,List.length_cons,List.length_nil,maxStr_eq]; omega
      · rw [wr_i64 (by omega) (by omega),← txtC_take hi]
        exact next trivial)
  exact h
theorem c170 {l:List Pan} (hl:l.length≤1000000000) (hw :∀p ∈ l,WfP p):Pus prog 170 [.sl .ext (l.map Pan.row),.sl .ext (l.map Pan.row)] (.b true):=by
  obtain ⟨x,rfl,h⟩:=p170 H.f170 (a0:=l) (b1:=l) (K:=fun x=>x = true) (by
    unfold T170_0
    refine ⟨fun h=>absurd rfl h,fun _ P hP=>?_⟩
    refine loop_inv0 l.length (fun _=>True) trivial (fun _=>hP _ ?_) fun i hi _ next=>hP _ ?_
    · unfold T170_1 T170_2
      exact ⟨fun h=>absurd h (by omega),fun _=>rfl⟩
    · have k:=c160 H.toHasP (p:=l[i]) (q:=l[i]) (hw _ (List.getElem_mem hi)).v
      rw [sameP_rfl] at k
      unfold T170_1
      refine ⟨fun _=>⟨by omega,_,get_at hi,by omega,_,get_at hi,_,k,fun h=>(by cases h),fun _=>?_⟩,fun h=>absurd (show (i:Int) < l.length by omega) h⟩
      rw [wr_i64 (by omega) (by omega)]
      exact next trivial)
  exact h
end
end Go.AM

namespace Go.AM
open Go
theorem spl_snoc (c:UInt8) :∀a:Bytes,spl (a ++ [c]) = if c = 10 then ((spl a).1 ++ [(spl a).2],[]) else ((spl a).1,(spl a).2 ++ [c])
  | []=>by
    simp only [List.nil_append,spl]
  | x :: a=>by
    have ih:=spl_snoc c a
    rw [List.cons_append]
    conv=>lhs; unfold spl
    rw [ih]
    conv=>rhs; unfold spl
    by_cases hc:c = 10
    · rw [if_pos hc]
      by_cases hx:x = 10
      · simp only [if_pos hx,if_pos hc,List.cons_append]
      · simp only [if_neg hx,if_pos hc]
        cases h:(spl a).1 with
        | nil=>rfl
        | cons y l=>rfl
    · rw [if_neg hc]
      by_cases hx:x = 10
      · simp only [if_pos hx,if_neg hc]
      · simp only [if_neg hx,if_neg hc]
        cases h:(spl a).1 with
        | nil=>rfl
        | cons y l=>rfl
theorem spl_drop (a:Bytes):a.drop (a.length - (spl a).2.length) = (spl a).2:=by
  have h:=spl_join a
  generalize (spl a).1 = l at h
  generalize (spl a).2 = e at h
  subst h
  rw [List.length_append,Nat.add_sub_cancel,List.drop_left]
theorem spl_le (a:Bytes):(spl a).2.length≤a.length∧(spl a).1.length≤a.length:=by
  constructor
  · have h:=congrArg List.length (spl_join a)
    rw [List.length_append] at h
    omega
  · rw [spl_count]; exact List.count_le_length
theorem spl_len (a:Bytes) :∀x ∈ (spl a).1,x.length≤a.length:=by
  intro x hx
  have h:=congrArg List.length (spl_join a)
  rw [List.length_append] at h
  have :∀l:List Bytes,x ∈ l→x.length≤(unl10 l).length:=by
    intro l
    induction l with
    | nil=>intro h; cases h
    | cons y l ih=>
      intro h
      rw [unl10_cons,List.length_append,List.length_cons]
      rcases List.mem_cons.1 h with rfl | h
      · omega
      · have:=ih h; omega
  have:=this _ hx
  omega
theorem rtR_wf {s:Bytes} :∀p ∈ (rtR s).1,WfP p:=by
  by_cases h:(rtR s).2 = 0
  · exact (rtR_inv h).2.2
  · intro p hp
    unfold rtR at h hp
    split at hp
    · cases hp
    · rename_i h1
      rw [if_neg h1] at h
      split at hp
      · cases hp
      · rename_i h2
        rw [if_neg h2] at h
        split at hp
        · rename_i h3
          rw [if_pos h3] at h
          exact absurd rfl h
        · cases hp
theorem rtR_len {s:Bytes}:(rtR s).1.length≤1000000000:=by
  unfold rtR
  split
  · simp
  · split
    · simp
    · split
      · have:=(spl_le s).2
        simp only [List.length_map]; omega
      · simp
structure HasR (prog:Prog):Prop extends HasQ prog where
  f168:prog.fn 168 = some pf168
  f177:prog.fn 177 = some pf177
  f167:prog.fn 167 = none
  o167 :∀s:Bytes,s.length≤1000000000→prog.orac 167 [.s s] = some (.tup [.sl .ext ((rtR s).1.map Pan.row),.i .i64 (rtR s).2])
section
variable {prog:Prog}
theorem c177 (hf:prog.fn 177 = some pf177) {s:Bytes} (hs:s.length≤1000000000):Pus prog 177 [.s s] (.tup [.sl .ext ((spl s).1.map rowS),.b (decide ((spl s).2 = []))]):=by
  obtain ⟨x,y,⟨rfl,rfl⟩,h⟩:=p177 hf (s0:=s) (K:=fun x y=>x = (spl s).1∧y = decide ((spl s).2 = [])) (by
    unfold T177_0
    intro P hP
    refine loop_up (P:=fun (a:List Bytes × Int) i=>P a.1 a.2 i) (fun i=>((spl (s.take i)).1,((i - (spl (s.take i)).2.length:Nat):Int))) s.length ?_ fun i hi next=>?_
    · refine hP _ _ _ ?_
      unfold T177_1 T177_3
      rw [List.take_length]
      refine ⟨fun h=>absurd h (by omega),fun _=>⟨rfl,?_⟩⟩
      have:=(spl_le s).1
      rw [decide_eq_decide]
      constructor
      · intro h
        exact List.length_eq_zero_iff.1 (by omega)
      · intro h
        rw [h]; simp
    · refine hP _ _ _ ?_
      have h1:=spl_le (s.take i)
      have ht:(s.take i).length = i:=by rw [List.length_take]; omega
      rw [ht] at h1
      have e:spl (s.take (i + 1)) = _:=(congrArg spl (List.take_succ_eq_append_getElem hi)).trans (spl_snoc s[i] (s.take i))
      simp only [e] at next
      unfold T177_1
      refine ⟨fun _=>⟨by omega,s[i],by rw [toNat_cast]; exact List.getElem?_eq_getElem hi,fun h10=>?_,fun h10=>?_⟩,fun h=>absurd (show (i:Int) < s.length by omega) h⟩
      · have h10:s[i] = 10:=by
          apply UInt8.toNat_inj.1
          exact Int.ofNat_inj.1 h10
        rw [if_pos h10] at next
        simp only [List.length_nil,Nat.sub_zero] at next
        have e2:(s.drop (((i - (spl (s.take i)).2.length:Nat):Int)).toNat).take ((i:Int).toNat - (((i - (spl (s.take i)).2.length:Nat):Int)).toNat) = (spl (s.take i)).2:=by
          have:=spl_drop (s.take i)
          rw [ht,List.drop_take] at this
          rw [toNat_cast,toNat_cast]
          exact this
        unfold T177_2
        rw [e2,wr_i64 (by omega) (by omega)]
        refine ⟨by omega,by omega,by omega,⟨?_,?_⟩,next⟩ <;> simp only [List.length_cons,List.length_nil,maxBytes] <;> omega
      · have h10:¬s[i] = 10:=fun h=>h10 (by rw [h]; rfl)
        rw [if_neg h10] at next
        unfold T177_2
        rw [wr_i64 (by omega) (by omega)]
        have e3:(i + 1 - ((spl (s.take i)).2 ++ [s[i]]).length:Nat) = i - (spl (s.take i)).2.length:=by
          rw [List.length_append,List.length_cons,List.length_nil]; omega
        simp only [e3] at next
        exact next)
  exact h
variable (H:HasR prog)
include H
theorem c167 {s:Bytes} (hs:s.length≤1000000000):Pus prog 167 [.s s] (.tup [.sl .ext ((rtR s).1.map Pan.row),.i .i64 (rtR s).2]):=Pus.orac H.f167 (H.o167 s hs) rfl
theorem c168 {s:Bytes} (hs:s.length≤1000000000):Pus prog 168 [.s s] (.tup [.sl .ext ((rtR s).1.map Pan.row),.i .i64 (rtR s).2]):=by
  obtain ⟨x,y,⟨rfl,rfl⟩,h⟩:=p168 H.f168 (s0:=s) (K:=fun x y=>x = (rtR s).1∧y = (rtR s).2) (by
    unfold T168_0
    have hle:=spl_le s
    refine ⟨fun h=>?_,fun h=>⟨_,_,c177 H.f177 hs,fun h1=>?_,fun h1=>⟨fun h2=>?_,fun h2=>?_⟩⟩⟩
    · unfold rtR; rw [if_pos (by omega)]; exact ⟨rfl,rfl⟩
    · unfold rtR
      rw [if_neg (by omega),if_pos (.inl (by simpa using h1))]; exact ⟨rfl,rfl⟩
    · unfold rtR
      rw [if_neg (by omega),if_pos (.inr (by omega))]; exact ⟨rfl,rfl⟩
    · have h1:(spl s).2 = []:=by simpa using h1
      have e:rtR s = if (spl s).1.all (fun x=>decide ((rlP x).2 = 0)) = true then ((spl s).1.map fun x=>(rlP x).1,0) else ([],12):=by
        unfold rtR
        rw [if_neg (by omega),if_neg]
        rintro (h | h)
        · exact h h1
        · omega
      rw [e]
      unfold T168_1
      intro P hP
      by_cases ha:(spl s).1.all (fun x=>decide ((rlP x).2 = 0)) = true
      · rw [if_pos ha] at hP
        refine loop_up (fun i=>(((spl s).1.take i).map fun x=>(rlP x).1)) (spl s).1.length (hP _ _ ?_) fun i hi next=>hP _ _ ?_
        · unfold T168_2 T168_3
          rw [List.take_length]
          exact ⟨fun h=>absurd h (by omega),fun _=>⟨rfl,rfl⟩⟩
        · have hx:(rlP (spl s).1[i]).2 = 0:=by simpa using List.all_eq_true.1 ha _ (List.getElem_mem hi)
          unfold T168_2
          refine ⟨fun _=>⟨by omega,_,get_at hi,_,_,c157 H.toHasP (Nat.le_trans (spl_len s _ (List.getElem_mem hi)) hs),fun h=>absurd hx h,fun _=>⟨?_,?_⟩⟩,fun h=>absurd (show (i:Int) < (spl s).1.length by omega) h⟩
          · constructor <;> simp only [List.length_map,List.length_take,List.length_cons,List.length_nil,maxBytes] <;> omega
          · rw [wr_i64 (by omega) (by omega)]
            rw [List.take_succ_eq_append_getElem hi,List.map_append,List.map_cons,List.map_nil] at next
            exact next
      · rw [if_neg ha] at hP
        obtain ⟨j,hj,hjb,hjm⟩ :∃j,∃hj:j < (spl s).1.length,(rlP (spl s).1[j]).2≠0∧∀i,∀hi:i < j,(rlP ((spl s).1[i]'(by omega))).2 = 0:=by
          have hex :∃j,∃hj:j < (spl s).1.length,(rlP (spl s).1[j]).2≠0:=by
            have ha:¬∀x ∈ (spl s).1,decide ((rlP x).2 = 0) = true:=fun h=>ha (List.all_eq_true.2 h)
            rw [Classical.not_forall] at ha
            obtain ⟨x,hx⟩:=ha
            rw [Classical.not_imp] at hx
            obtain ⟨hx,hx2⟩:=hx
            obtain ⟨j,hj,rfl⟩:=List.getElem_of_mem hx
            exact ⟨j,hj,by simpa using hx2⟩
          obtain ⟨j,hjj⟩:=hex
          induction j using Nat.strongRecOn with
          | _ j ih=>
            by_cases h :∃i,i < j∧∃hi:i < (spl s).1.length,(rlP (spl s).1[i]).2≠0
            · obtain ⟨i,hij,hi⟩:=h
              exact ih i hij hi
            · obtain ⟨hj,hb⟩:=hjj
              refine ⟨j,hj,hb,fun i hi=>?_⟩
              exact Classical.byContradiction fun hne=>h ⟨i,hi,by omega,hne⟩
        refine loop_up (fun i=>(((spl s).1.take i).map fun x=>(rlP x).1)) j (hP _ _ ?_) fun i hi next=>hP _ _ ?_
        · unfold T168_2
          exact ⟨fun _=>⟨by omega,_,get_at hj,_,_,c157 H.toHasP (Nat.le_trans (spl_len s _ (List.getElem_mem hj)) hs),fun _=>⟨rfl,rfl⟩,fun h=>absurd hjb h⟩,fun h=>absurd (show (j:Int) < (spl s).1.length by omega) h⟩
        · have hi':i < (spl s).1.length:=by omega
          unfold T168_2
          refine ⟨fun _=>⟨by omega,_,get_at hi',_,_,c157 H.toHasP (Nat.le_trans (spl_len s _ (List.getElem_mem hi')) hs),fun h=>absurd (hjm i hi) h,fun _=>⟨?_,?_⟩⟩,fun h=>absurd (show (i:Int) < (spl s).1.length by omega) h⟩
          · constructor <;> simp only [List.length_map,List.length_take,List.length_cons,List.length_nil,maxBytes] <;> omega
          · rw [wr_i64 (by omega) (by omega)]
            rw [List.take_succ_eq_append_getElem hi',List.map_append,List.map_cons,List.map_nil] at next
            exact next)
  exact h
theorem law151 (hf:prog.fn 151 = some pf151) {l:List Pan} (hw :∀p ∈ l,WfP p) (s:Bytes):Pus prog 151 [.sl .ext (l.map Pan.row),.s s] (.b true):=by
  obtain ⟨x,rfl,h⟩:=p151 hf (l0:=l) (s1:=s) (K:=fun x=>x = true) (by
    have main:s.length≤1000000000→T151_2 prog (fun x=>x = true) l s:=fun hs=>by
      unfold T151_2 T151_3
      have k:=c170 H.toHasQ (rtR_len (s:=s)) rtR_wf
      refine ⟨_,_,c164 H.toHasQ hw,_,_,c166 H.toHasQ hw,_,_,c167 H hs,_,_,c168 H hs,_,_,c165 H.toHasQ hw,_,_,c169 H.toHasQ hw,fun _=>⟨fun _=>⟨_,k,fun _=>⟨fun _=>⟨fun _=>?_,fun h=>absurd rfl h⟩,fun h=>absurd rfl h⟩,fun h=>(by cases h)⟩,fun h=>absurd rfl h⟩,fun h=>absurd rfl h⟩
      exact decide_eq_true rfl
    unfold T151_0 T151_1
    refine ⟨_,c162 H.toHasQ hw,fun _=>rfl,fun _=>⟨fun _=>⟨fun _=>rfl,fun _=>⟨fun _=>rfl,fun h=>main (by omega)⟩⟩,fun _=>⟨fun _=>rfl,fun h=>main (by omega)⟩⟩⟩)
  exact h
end
end Go.AM

namespace Go.AM
open Go
abbrev ts : List Nat → List Opd
  | [] => []
  | a :: r => .t a :: ts r
abbrev zs : AV := .s []
abbrev Rou.cs (V : Rou) : List AV := [.i .u8 V.status, .i .i64 V.key, .sl .ext (List.map Frm.row V.frames), .sl .ext (List.map Dfr.row V.defers), .sl .ext (List.map Pan.row V.panics)]
abbrev Img.cs (V : Img) : List AV := [.sl .ext (List.map Typ.row V.types), .sl .ext (List.map rowS V.texts), .sl .ext (List.map Fun.row V.funcs)]
abbrev Fun.cs (V : Fun) : List AV := [.s V.name, .i .i64 V.params, .i .i64 V.result, .sl .ext (List.map Fld.row V.slots), .sl .ext (List.map Ins.row V.code), .sl .ext (List.map Rnn.row V.sizes), .sl .ext (List.map Rnn.row V.lives)]
abbrev Qry.cs (V : Qry) : List AV := [.i .u8 V.kind, .i .i64 V.g, .i .i64 V.k, .i .i64 V.key, .s V.name]
abbrev Val.cs (V : Val) : List AV := [.i .u8 V.kind, .i .i64 V.int, .s V.text, .sl .ext (List.map Val.row V.list), .b V.cut]
abbrev Frm.cs (V : Frm) : List AV := [.i .i64 V.func, .i .i64 V.pos, .i .u64 V.mode, .sl .ext (List.map Loc.row V.locals)]
abbrev Sta.cs (V : Sta) : List AV := [.i .u8 V.outcome, .i .i64 V.failing, .i .i64 V.steps, .sl .ext (List.map Rou.row V.routines)]
abbrev Pan.cs (V : Pan) : List AV := [.i .u64 V.tag, .i .u8 V.value.kind, .i .i64 V.value.int, .s V.value.text, .sl .ext (List.map Val.row V.value.list), .b V.value.cut, .i .u64 V.flags]
section
variable {prog : Prog} {d id base i : Nat} {σ : Sl} {st : St} {K : Sl → St → Prop} {r : List AI} {o o2 o3 o4 : Option Nat} {p p2 p3 p4 : AOp} {g g2 g3 g4 : Nat}
end
end Go.AM
namespace Go.AM
open Go
section
variable {α β γ : Type}
abbrev H1 (e : α → AV) (s : Nat) (Q : AE → Sl → St → Prop) (K : α → Prop) : Prop := ∀ ⦃σ : Sl⦄ ⦃st : St⦄ ⦃a : α⦄, σ s = e a → K a → Q .ret σ st
abbrev H2 (e : α → AV) (f : β → AV) (s t : Nat) (Q : AE → Sl → St → Prop) (K : α → β → Prop) : Prop := ∀ ⦃σ : Sl⦄ ⦃st : St⦄ ⦃a : α⦄ ⦃b : β⦄, σ s = e a → σ t = f b → K a b → Q .ret σ st
abbrev HL (e : α → List AV) (s : Nat) (Q : AE → Sl → St → Prop) (K : List α → Prop) : Prop := ∀ ⦃σ : Sl⦄ ⦃st : St⦄ ⦃o : Own⦄ ⦃a : List α⦄, σ s = .sl o (List.map e a) → K a → Q .ret σ st
abbrev HM (e : α → List AV) (f : β → AV) (s t : Nat) (Q : AE → Sl → St → Prop) (K : List α → β → Prop) : Prop := ∀ ⦃σ : Sl⦄ ⦃st : St⦄ ⦃o : Own⦄ ⦃a : List α⦄ ⦃b : β⦄, σ s = .sl o (List.map e a) → σ t = f b → K a b → Q .ret σ st
variable {prog : Prog} {f : Nat} {F : AF} {args : List AV} {s t : Nat}
abbrev Q1 (F : AF) (R : AV → Prop) : AE → Sl → St → Prop := endW 0 F.res fun r _ => ∃ v, r.strip = some v ∧ R v
theorem h1 {e : α → AV} {K : α → Prop} (hr : F.res = [.tmp s]) (he : ∀ a, (e a).strip = some (e a)) : H1 e s (Q1 F fun v => ∃ a, K a ∧ v = e a) K := by
  intro σ st a h k
  exact ⟨e a, by simp only [hr, ares, ares1, h], _, he a, a, k, rfl⟩
theorem h2 {e : α → AV} {g : β → AV} {K : α → β → Prop} (hr : F.res = [.tmp s, .tmp t]) (he : ∀ a b, (AV.tup [e a, g b]).strip = some (AV.tup [e a, g b])) : H2 e g s t (Q1 F fun v => ∃ a b, K a b ∧ v = .tup [e a, g b]) K := by
  intro σ st a b h h' k
  exact ⟨.tup [e a, g b], by simp only [hr, ares, aresL, ares1, h, h', Option.map_some], _, he a b, a, b, k, rfl⟩
theorem hL {e : α → List AV} {K : List α → Prop} (hr : F.res = [.tmp s]) : HL e s (Q1 F fun v => ∃ a, K a ∧ v = .sl .ext (List.map e a)) K := by
  intro σ st o a h k
  exact ⟨.sl o (List.map e a), by simp only [hr, ares, ares1, h], _, rfl, a, k, rfl⟩
theorem hM {e : α → List AV} {g : β → AV} {K : List α → β → Prop} (hr : F.res = [.tmp s, .tmp t]) (he : ∀ o a b, (AV.tup [.sl o (List.map e a), g b]).strip = some (AV.tup [.sl .ext (List.map e a), g b])) : HM e g s t (Q1 F fun v => ∃ a b, K a b ∧ v = .tup [.sl .ext (List.map e a), g b]) K := by
  intro σ st o a b h h' k
  exact ⟨.tup [.sl o (List.map e a), g b], by simp only [hr, ares, aresL, ares1, h, h', Option.map_some], _, he o a b, a, b, k, rfl⟩
theorem P1 {e : α → AV} {K : α → Prop} (hf : prog.fn f = some F) (hn : Nat.ble args.length F.nt = true) (w : W prog 0 F.body (sl0 args) st0 (Q1 F fun v => ∃ a, K a ∧ v = e a)) : ∃ a, K a ∧ Pus prog f args (e a) := by
  obtain ⟨v, hv, a, hk, rfl⟩ := Pus.of hf hn w
  exact ⟨a, hk, hv⟩
end
end Go.AM
namespace Go.AM
open Go
section
variable {prog : Prog} {d id base i : Nat} {σ : Sl} {st : St} {K : Sl → St → Prop}
variable {x y z u : Opd} {v v2 v3 v4 w w2 w3 w4 : AV}
theorem x2 {α β : Type} {p : α → β → Prop} {c : Prop} (h : ∃ a b, p a b) (k : ∀ a b, p a b → c) : c := h.elim fun a h => h.elim fun b h => k a b h
theorem x1 {α : Type} {p : α → Prop} {c : Prop} (h : ∃ a, p a) (k : ∀ a, p a → c) : c := h.elim k
end
end Go.AM
