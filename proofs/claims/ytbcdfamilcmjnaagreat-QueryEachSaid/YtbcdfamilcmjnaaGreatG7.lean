/- The statement QueryEach: for every input the law returns true, and each argument reads afterwards as before. No conditions. -/
import Derived.Test.YtbcdfamilcmjnaaGreatG6
import Derived.Test.YtbcdfamilcmjnaaGreatG5
set_option linter.all false
/- Parts of the proof. -/
namespace Go.AM
open Go
theorem nameAt_eq' {m:Img} {n:Int} {f:Fun} (h:m.funcs[n.toNat]?=some f):nameAt m n=f.name:=by unfold nameAt;rw [h];rfl
theorem frmL_len {m:Img} {k:Int} {x:Frm} (hm:OkI m) (hx:WfX x) (hb:fitb m x=true):(∀s∈frmL m k x,s.length≤1301000)∧(frmL m k x).length≤17:=by
 obtain ⟨f0,f1,f,hf,hF⟩:=fitb_iff.1 hb
 obtain ⟨g1,g2,g3,g4,g5,g6⟩:=fitF_iff.1 hF
 obtain ⟨q1,q2,q3,q4⟩:=hm.f f (List.mem_of_getElem? hf)
 have l1:=num_len k
 have l2:=num_len x.func
 have l3:=num_len x.pos
 have l4:=quo_len f.name
 have l5:=modeW_len hx.m f1
 rw [frmL_eq hf]
 refine ⟨fun s hs=>?_,?_⟩
 ·rcases List.mem_cons.1 hs with rfl | hs
  ·unfold headL
   simp only [List.length_append,List.length_cons,List.length_nil]
   omega
  ·obtain ⟨l,hl,rfl⟩:=List.mem_map.1 hs
   obtain ⟨a1,a2,a3⟩:=asc_mem g6 _ hl
   obtain ⟨s,b1,b2,b3⟩:=slot_at (f:=f) (n:=l.slot) (by omega) (by omega)
   have c1:=num_len l.slot
   have c2:=quo_len s.name
   have c3:=q4 s b2
   have c4:=fine_len a3
   unfold locL
   rw [b3]
   simp only [List.length_append,List.length_cons,List.length_nil]
   omega
 ·rw [List.length_cons,List.length_map]
  rcases asc_len g6 with h | h
  ·rw [h];decide
  ·omega
theorem frmsL_len {m:Img} (hm:OkI m) :∀(l:List Frm) (i:Nat),(∀x∈l,WfX x)→(∀x∈l,fitb m x=true)→(∀s∈frmsL m i l,s.length≤1301000)∧(frmsL m i l).length≤17*l.length
 | [],i,_,_=>⟨fun s hs=>(by cases hs),Nat.le_refl _⟩
 | x::r,i,hw,hb=>by
  obtain ⟨h1,h2⟩:=frmL_len (k:=i) hm (hw x List.mem_cons_self) (hb x List.mem_cons_self)
  obtain ⟨h3,h4⟩:=frmsL_len hm r (i+1) (fun y hy=>hw y (List.mem_cons_of_mem _ hy)) fun y hy=>hb y (List.mem_cons_of_mem _ hy)
  rw [frmsL]
  refine ⟨fun s hs=>?_,?_⟩
  ·rcases List.mem_append.1 hs with hs | hs
   ·exact h1 s hs
   ·exact h3 s hs
  ·rw [List.length_append,List.length_cons];omega
theorem frmsL_snoc (m:Img) :∀(l:List Frm) (i:Nat) (x:Frm),frmsL m i (l++[x])=frmsL m i l++frmL m ((i+l.length:Nat):Int) x
 | [],i,x=>by simp [frmsL]
 | y::r,i,x=>by
  rw [List.cons_append,frmsL,frmsL_snoc m r (i+1) x,frmsL,List.append_assoc,List.length_cons,show i+1+r.length=i+(r.length+1) by omega]
theorem callD_iff {m:Img} {many:Int} {d:Dfr} (h:callD m many d=true):0≤d.frame∧d.frame<many∧0≤d.func∧(∃f,m.funcs[d.func.toNat]?=some f∧f.name.length≤16∧nameAt m d.func=f.name)∧(d.hasArg=true→fine d.arg=true∧(d.arg.kind=1∨d.arg.kind=2∨d.arg.kind=4))∧(d.hasArg=false→d.arg=vz):=by
 unfold callD nameOk at h
 cases hf:m.funcs[d.func.toNat]? with
 | none=>rw [hf] at h;simp at h
 | some f=>
  rw [hf] at h
  simp only [Bool.and_eq_true,decide_eq_true_eq] at h
  obtain ⟨⟨⟨⟨h1,h2⟩,h3⟩,h4⟩,h5⟩:=h
  refine ⟨h1,h2,h3,⟨f,rfl,h4,nameAt_eq' hf⟩,fun ha=>?_,fun ha=>?_⟩
  ·rw [ha,if_pos rfl,Bool.and_eq_true,decide_eq_true_eq] at h5
   exact ⟨h5.2,h5.1⟩
  ·rw [ha] at h5
   exact isZ_true.1 (by simpa using h5)
theorem defL_len {m:Img} {many:Int} {d:Dfr} (h:callD m many d=true):(defL m d).length≤1301000:=by
 obtain ⟨h1,h2,h3,⟨f,hf,h4,h5⟩,h6,_⟩:=callD_iff h
 have l1:=num_len d.frame
 have l2:=num_len d.func
 have l3:=quo_len f.name
 unfold defL
 rw [h5]
 simp only [List.length_append,List.length_cons,List.length_nil]
 cases ha:d.hasArg
 ·simp only [Bool.false_eq_true,if_false,List.length_nil];omega
 ·have:=fine_len (h6 ha).1
  simp only [if_true,List.length_append,List.length_cons,List.length_nil];omega
structure Go0 (m:Img) (x:Rou):Prop where
 f:x.frames.length≤170
 d:x.defers.length≤410
 p:x.panics.length≤410
 fb :∀y∈x.frames,fitb m y=true
 db :∀y∈x.defers,callD m x.frames.length y=true
 pb :∀y∈x.panics,okP y=true
 st:x.status=1∨x.status=2∨x.status=3
theorem Go0.of {m:Img} {x:Rou} (h:goesR m x=true):Go0 m x:=by
 by_cases h3:x.status=3
 ·rw [goes_3 h3] at h
  simp only [Bool.and_eq_true,decide_eq_true_eq,List.length_eq_zero_iff] at h
  obtain ⟨⟨⟨k1,k2⟩,k3⟩,k4⟩:=h
  exact ⟨by rw [k1];decide,by rw [k2];decide,by rw [k3];decide,by rw [k1];simp,by rw [k2];simp,by rw [k3];simp,.inr (.inr h3)⟩
 ·by_cases h2:x.status=2∨(x.status=1∧x.key=0)
  ·rw [goes_2 h2] at h
   unfold goes0 at h
   simp only [Bool.and_eq_true,decide_eq_true_eq,List.all_eq_true] at h
   obtain ⟨⟨⟨⟨k1,k2⟩,k3⟩,k4⟩,k5⟩:=h
   exact ⟨k1.2,k2,(chain_ok k3).1,k4,k5,(chain_ok k3).2,by omega⟩
  ·rw [goes_no h3 h2] at h;cases h
theorem parts_len {m:Img} {x:Rou} (hm:OkI m) (hx:WfR x) (h:Go0 m x):(∀s∈partsL m x,s.length≤1301000)∧(partsL m x).length≤4000:=by
 obtain ⟨h1,h2⟩:=frmsL_len hm x.frames 0 hx.f h.fb
 have a:=h.f
 have b:=h.d
 have c:=h.p
 refine ⟨fun s hs=>?_,?_⟩
 ·unfold partsL at hs
  rcases List.mem_append.1 hs with hs | hs
  ·rcases List.mem_append.1 hs with hs | hs
   ·exact h1 s hs
   ·obtain ⟨d,hd,rfl⟩:=List.mem_map.1 hs
    exact defL_len (h.db d hd)
  ·obtain ⟨p,hp,rfl⟩:=List.mem_map.1 hs
   have:=shown_len (h.pb p hp)
   exact Nat.le_trans this (by decide)
 ·unfold partsL
  simp only [List.length_append,List.length_map]
  omega
theorem statL_len (x:Rou):(statL x).length≤80:=by
 have:=num_len x.key
 unfold statL
 split
 ·decide
 ·split
  ·decide
  ·simp only [List.length_append,List.length_cons,List.length_nil];omega
theorem rouR_yes {m:Img} {g:Int} {x:Rou} (h:¬(g<0∨16≤g)) (h1:goesR m x=true):rouR m g x=(linR m g x,0):=by unfold rouR;rw [if_neg h,if_pos h1]
theorem rouR_no {m:Img} {g:Int} {x:Rou} (h:¬(g<0∨16≤g)) (h1:goesR m x=false):rouR m g x=([],8):=by unfold rouR;rw [if_neg h,if_neg (by rw [h1];decide)]
theorem rouR_bad {m:Img} {g:Int} {x:Rou} (h:g<0∨16≤g):rouR m g x=([],2):=by unfold rouR;rw [if_pos h]
section
variable {prog:Prog} (H:HasT prog)
include H
theorem c234 {m:Img} {many:Int} {d:Dfr} (hm:OkI m) (hd:Wf d.arg) (hn:many≤1000) (h:callD m many d=true):Pus prog 234 [m.av,d.av] (.tup [.s (defL m d),.i .i64 0]):=by
 obtain ⟨x,y,⟨rfl,rfl⟩,h⟩:=p234 H.f234 (m0:=m) (d1:=d) (K:=fun x y=>x=defL m d∧y=0) (by
  obtain ⟨h1,h2,h3,⟨f,hf,h4,h5⟩,h6,_⟩:=callD_iff h
  have hfl:d.func<m.funcs.length:=by
   have:=(List.getElem?_eq_some_iff.1 hf).1
   omega
  have hmn:=hm.n
  have l1:=num_len d.frame
  have l2:=num_len d.func
  have l3:=quo_len f.name
  have hq:=c11 H.toHas03 f.name
  rw [quoR_ok (by omega)] at hq
  unfold T234_0
  refine ⟨h3,f,hf,_,_,hq,fun h=>absurd rfl h,fun _=>⟨_,c216 H (by omega) (by omega),?_,?_,_,c216 H (by omega) (by omega),?_,?_,?_,fun ha=>?_,fun ha=>?_⟩⟩
  all_goals try (rw [maxStr_eq];simp only [List.length_append,List.length_cons,List.length_nil];omega)
  ·have hfi:=(h6 ha).1
   have l4:=fine_len hfi
   have k:=c72 H.toHas38 hd
   rw [if_pos hfi,chk_fine.2 hfi] at k
   refine ⟨_,_,k,fun h=>absurd rfl h,fun _=>⟨?_,?_,?_⟩⟩
   ·rw [maxStr_eq];simp only [List.length_cons,List.length_nil];omega
   ·rw [maxStr_eq];simp only [List.length_append,List.length_cons,List.length_nil];omega
   ·unfold T234_1 defL
    rw [h5,ha]
    exact ⟨rfl,rfl⟩
  ·unfold T234_1 defL
   rw [h5,ha]
   exact ⟨by simp,rfl⟩)
 exact h
theorem c220 {m:Img} {x:Rou} (hm:OkI m) (hx:WfR x) (h:Go0 m x):Pus prog 220 [m.av,x.av] (.tup [.sl .ext ((partsL m x).map rowS),.i .i64 0]):=by
 obtain ⟨y,z,⟨rfl,rfl⟩,h⟩:=p220 H.f220 (m0:=m) (x1:=x) (K:=fun y z=>y=partsL m x∧z=0) (by
  obtain ⟨_,hl⟩:=parts_len hm hx h
  have a:=h.f
  have b:=h.d
  have c:=h.p
  have b1 :∀i,i≤x.frames.length→(frmsL m 0 (x.frames.take i)).length≤17*170:=fun i hi=>by
   have h1:=(frmsL_len hm (x.frames.take i) 0 (fun y hy=>hx.f y (List.mem_of_mem_take hy)) fun y hy=>h.fb y (List.mem_of_mem_take hy)).2
   rw [List.length_take] at h1
   omega
  have b0:(frmsL m 0 x.frames).length≤17*170:=by have:=b1 x.frames.length (Nat.le_refl _);rwa [List.take_length] at this
  unfold T220_0 T220_1 T220_2
  intro P hP
  refine loop_up (P:=fun o i=>P o i m x) (fun i=>frmsL m 0 (x.frames.take i)) x.frames.length (hP _ _ _ _ ?_) fun i hi ih=>hP _ _ _ _ ?_
  ·rw [List.take_length]
   unfold T220_3 T220_4
   refine ⟨fun h=>absurd h (by omega),fun _ P hP=>?_⟩
   have ho:frmsL m 0 x.frames=frmsL m 0 x.frames++(x.defers.take 0).map (defL m):=by simp
   rw [ho]
   refine loop_up (P:=fun o i=>P o i m x) (fun i=>frmsL m 0 x.frames++(x.defers.take i).map (defL m)) x.defers.length (hP _ _ _ _ ?_) fun i hi ih=>hP _ _ _ _ ?_
   ·rw [List.take_length]
    unfold T220_5 T220_6
    refine ⟨fun h=>absurd h (by omega),fun _ P hP=>?_⟩
    have ho:frmsL m 0 x.frames++x.defers.map (defL m)=frmsL m 0 x.frames++x.defers.map (defL m)++(x.panics.take 0).map shown:=by simp
    rw [ho]
    refine loop_up (P:=fun o i=>P o i) (fun i=>frmsL m 0 x.frames++x.defers.map (defL m)++(x.panics.take i).map shown) x.panics.length (hP _ _ ?_) fun i hi ih=>hP _ _ ?_
    ·rw [List.take_length]
     unfold T220_7 T220_8
     exact ⟨fun h=>absurd h (by omega),fun _=>⟨rfl,rfl⟩⟩
    ·have hok:=h.pb _ (List.getElem_mem hi)
     have k:=c154 H.toHasO (hx.p _ (List.getElem_mem hi))
     rw [show lnP x.panics[i]=(shown x.panics[i],0) by unfold lnP;rw [if_pos hok]] at k
     unfold T220_7
     refine ⟨fun _=>⟨by omega,_,get_at hi,_,_,k,fun h=>absurd rfl h,fun _=>⟨⟨?_,?_⟩,?_⟩⟩,fun h=>absurd (show (i:Int)<x.panics.length by omega) h⟩
     ·rw [maxBytes_eq];simp only [List.length_append,List.length_cons,List.length_nil,List.length_map,List.length_take];omega
     ·rw [maxBytes_eq];simp only [List.length_append,List.length_cons,List.length_nil,List.length_map,List.length_take];omega
     ·rw [wr_i64 (by omega) (by omega)]
      rw [map_take_snoc shown hi,← List.append_assoc] at ih
      exact ih
   ·have hok:=h.db _ (List.getElem_mem hi)
    have k:=c234 H hm (hx.d _ (List.getElem_mem hi)) (by omega) hok
    unfold T220_5
    refine ⟨fun _=>⟨by omega,_,get_at hi,_,_,k,fun h=>absurd rfl h,fun _=>⟨⟨?_,?_⟩,?_⟩⟩,fun h=>absurd (show (i:Int)<x.defers.length by omega) h⟩
    ·rw [maxBytes_eq];simp only [List.length_append,List.length_cons,List.length_nil,List.length_map,List.length_take];omega
    ·rw [maxBytes_eq];simp only [List.length_append,List.length_cons,List.length_nil,List.length_map,List.length_take];omega
    ·rw [wr_i64 (by omega) (by omega)]
     rw [map_take_snoc (defL m) hi,← List.append_assoc] at ih
     exact ih
  ·have hb:=h.fb _ (List.getElem_mem hi)
   have hw:=hx.f _ (List.getElem_mem hi)
   have k:=c82 H.toHasF (k:=(i:Int)) hm hw
   rw [frR_yes (by omega) hb] at k
   have q1:=b1 i (by omega)
   have q2:=(frmL_len (k:=(i:Int)) hm hw hb).2
   unfold T220_3
   refine ⟨fun _=>⟨by omega,_,get_at hi,_,_,k,fun h=>absurd rfl h,fun _=>⟨⟨?_,?_⟩,?_⟩⟩,fun h=>absurd (show (i:Int)<x.frames.length by omega) h⟩
   ·dsimp only;rw [maxBytes_eq];omega
   ·dsimp only;rw [maxBytes_eq];omega
   ·rw [wr_i64 (by omega) (by omega)]
    rw [List.take_succ_eq_append_getElem hi,frmsL_snoc,List.length_take,show 0+min i x.frames.length=i by omega] at ih
    exact ih)
 exact h
theorem c207 {m:Img} {g:Int} {x:Rou} (hm:OkI m) (hx:WfR x):Pus prog 207 [m.av,.i .i64 g,x.av] (.tup [.sl .ext ((rouR m g x).1.map rowS),.i .i64 (rouR m g x).2]):=by
 obtain ⟨y,z,⟨rfl,rfl⟩,h⟩:=p207 H.f207 (m0:=m) (g1:=g) (x2:=x) (K:=fun y z=>y=(rouR m g x).1∧z=(rouR m g x).2) (by
  unfold T207_0
  refine ⟨fun h=>by rw [rouR_bad (.inl h)];exact ⟨rfl,rfl⟩,fun h0=>⟨fun h=>by rw [rouR_bad (.inr h)];exact ⟨rfl,rfl⟩,fun h1=>?_⟩⟩
  unfold T207_1
  refine ⟨_,c219 H hm hx,fun h=>?_,fun h=>?_⟩
  ·rw [rouR_no (by omega) (by simpa using h)];exact ⟨rfl,rfl⟩
  have hg:goesR m x=true:=by simpa using h
  rw [rouR_yes (by omega) hg]
  have h2:=Go0.of hg
  obtain ⟨p1,p2⟩:=parts_len hm hx h2
  have l1:=num_len g
  have l2:=num_len x.key
  have l3:=statL_len x
  have e3 :∃c,([[],([114,101,97,100,121]:Bytes),(([98,108,111,99,107,101,100,32]:Bytes)++num x.key),([100,111,110,101]:Bytes)]:List Bytes)[x.status.toNat]?=some c∧c=statL x:=by
   unfold statL
   rcases h2.st with h | h | h<;>rw [h]<;>exact ⟨_,rfl,rfl⟩
  obtain ⟨c,e3,rfl⟩:=e3
  refine ⟨_,_,c220 H hm hx h2,fun h=>absurd rfl h,fun _=>⟨_,c216 H (by omega) (by omega),?_,?_,_,c15 H.toHas03 hx.k.1 hx.k.2,?_,hx.st,_,e3,?_,fun P hP=>?_⟩⟩
  all_goals try (rw [maxStr_eq];simp only [List.length_append,List.length_cons,List.length_nil];omega)
  refine loop_up (P:=fun o i=>P o i) (fun i=>headR g x::((partsL m x).take i).map sp2) (partsL m x).length (hP _ _ ?_) fun i hi ih=>hP _ _ ?_
  ·rw [List.take_length]
   unfold T207_2 T207_3
   exact ⟨fun h=>absurd h (by omega),fun _=>⟨rfl,rfl⟩⟩
  ·have:=p1 _ (List.getElem_mem hi)
   unfold T207_2
   refine ⟨fun _=>⟨by omega,_,get_at hi,?_,⟨?_,?_⟩,?_⟩,fun h=>absurd (show (i:Int)<(partsL m x).length by omega) h⟩
   ·rw [maxStr_eq];simp only [List.length_cons,List.length_nil];omega
   ·rw [maxBytes_eq];simp only [List.length_append,List.length_cons,List.length_nil,List.length_map,List.length_take];omega
   ·rw [maxBytes_eq];simp only [List.length_append,List.length_cons,List.length_nil,List.length_map,List.length_take];omega
   ·rw [wr_i64 (by omega) (by omega)]
    rw [map_take_snoc sp2 hi] at ih
    exact ih)
 exact h
end
end Go.AM

/- Parts of the proof. -/
namespace Go.AM
open Go
theorem wr_nat {i:Nat} (h:i≤1000000000000000000):IntKind.i64.wrap ((i:Int)+1)=((i+1:Nat):Int):=wr_i64 (by omega) (by omega)
theorem fitS_iff {m:Img} {s:Sta} (h:fitS m s=true):(1≤s.outcome∧s.outcome≤8)∧(0≤s.steps∧s.steps≤5000)∧s.routines.length≤16∧(-1≤s.failing∧s.failing<s.routines.length)∧∀x∈s.routines,goesR m x=true:=by
 unfold fitS at h
 simp only [Bool.and_eq_true,decide_eq_true_eq,List.all_eq_true] at h
 obtain ⟨⟨⟨⟨h1,h2⟩,h3⟩,h4⟩,h5⟩:=h
 exact ⟨h1,h2,h3,h4,h5⟩
section
variable {prog:Prog} (H:HasT prog)
include H
end
end Go.AM

/- Parts of the proof. -/
namespace Go.AM
open Go
structure HasV (prog:Prog):Prop extends HasU prog,HasT prog where
 f264:prog.fn 264=some pf264
 f268:prog.fn 268=some pf268
 f269:prog.fn 269=some pf269
 f270:prog.fn 270=some pf270
 f271:prog.fn 271=some pf271
 f272:prog.fn 272=some pf272
 f273:prog.fn 273=some pf273
 f274:prog.fn 274=some pf274
 f275:prog.fn 275=some pf275
 f276:prog.fn 276=some pf276
theorem isF0_snoc (o:Own) (l:List Bytes) (s:Bytes):AV.isF0 (.sl o (List.map rowS (l++[s])))=false:=by
 cases l<;>cases o<;>rfl
theorem in_fit {m:Img} {x:Frm} (hm:OkI m) (h:fitb m x=true):(0≤x.func∧x.func.toNat<m.funcs.length)∧(0≤x.pos∧x.pos<1000000):=by
 obtain ⟨f0,_,f,hf,hff⟩:=fitb_iff.1 h
 obtain ⟨_,_,p0,p1,_,_⟩:=fitF_iff.1 hff
 have:=(hm.f f (List.mem_of_getElem? hf)).2.2.1
 exact ⟨⟨f0,(List.getElem?_eq_some_iff.1 hf).1⟩,p0,by omega⟩
section
variable {prog:Prog} (H:HasV prog)
include H
theorem c276 {m:Dsk} {s:Bytes} (hl:m.out.length≤1000000000):PuX prog 276 (Dk m) [.s s] (fun r=>r=.tup []) (Dk (m.add [s])):=by
 refine PuX.of H.f276 rfl Dk.out fun d st k v hk hB=>?_
 obtain ⟨o,hb,ho⟩:=hB
 refine W.reg0 rfl fun nx _=>m_ (m_ (s_nilP rfl (s_fadP rfl (s_loadP rfl hb rfl rfl (m_ (s_bslM (f:=rowS) (l:=[s]) rfl rfl (g_cons rfl rfl rfl g_nil) rfl (s_app (f:=rowS) (fun _=>rfl) rfl rfl rfl ho.app ⟨?_,?_⟩ rfl fun o' ow' h1 h2 h3=>s_nilP rfl (s_fadP rfl (s_storeP rfl hb rfl rfl rfl (s_nil ?_) (okSt_r (by show (AV.isF0 (.sl o' (List.map rowS (m.out++[s])))||false)=false;rw [isF0_snoc];rfl)))))))))))
 ·have e:maxBytes=70368744177664:=rfl
  rw [e];simp;omega
 ·have e:maxBytes=70368744177664:=rfl
  rw [e];simp;omega
 ·refine ⟨.inl rfl,.tup [],rfl,rfl,⟨o',lk_here,?_⟩,fun k' q1 q2=>lk_ne fun e=>q2 e.symm,fun k' q1 q2=>h2 k' ?_ ?_⟩
  ·have ho:=ho
   cases o' with
   | ext=>exact h1
   | full=>trivial
   | id q w=>
    refine ⟨h1,?_⟩
    rcases h3 with h3 | h3
    ·cases o with
     | ext=>exact ho.elim
     | full=>cases h3
     | id q' w'=>
      injection h3 with h3
      subst h3
      exact ho.2
    ·injection h3 with h3
     subst h3
     exact ⟨by show midSite≤500000*4096+7;decide,by show 500000*4096+7<bigSite;decide⟩
  ·cases o with
   | ext=>exact ho.elim
   | full=>intro e;cases e
   | id q w=>
    intro e
    injection e with e
    subst e
    exact absurd q2 (Nat.not_lt.2 ho.2.1)
  ·rintro rfl
   exact absurd q2 (Nat.not_lt.2 (by show midSite≤500000*4096+7;decide))
theorem c273 {m:Dsk} {g k:Nat} {x:Frm} (hl:m.out.length≤1000000000) (hf:0≤x.func∧x.func.toNat<m.image.funcs.length) (hg:g≤1000000) (hk:k≤1000000) (hp:0≤x.pos∧x.pos<1000000):PuX prog 273 (Dk m) [.i .i64 g,.i .i64 k,x.av] (fun r=>r=.i .i64 0) (Dk (m.add (inL m.image m.query.name g k x))):=by
 refine (p273 H.f273 (g1:=g) (k2:=k) (x3:=x) (mP:=m) (K:=fun a b=>a=0∧b=m.add (inL m.image m.query.name g k x)) ?_).to (fun r b' ⟨res0,e,h1,h2⟩=>⟨by rw [e,h1],h2⟩)
 unfold T273_0 T273_1
 have l1:=num_len g
 have l2:=num_len k
 have l3:=num_len x.pos
 have e:nameAt m.image x.func=m.image.funcs[x.func.toNat].name:=by unfold nameAt;rw [List.getElem?_eq_getElem hf.2];rfl
 refine ⟨hf.1,_,List.getElem?_eq_getElem hf.2,fun h=>⟨_,c258 H.toHasU (by omega) (by omega),?_,_,c258 H.toHasU (by omega) (by omega),?_,?_,_,c258 H.toHasU (by omega) (by omega),?_,_,c276 H hl,rfl,?_⟩,fun h=>⟨rfl,?_⟩⟩
 case refine_5=>unfold inL;rw [e,if_pos h]
 case refine_6=>unfold inL;rw [e,if_neg h,Dsk.add_nil]
 all_goals (rw [maxStr_eq];simp only [List.length_append,List.length_cons,List.length_nil];omega)
theorem c275 {m:Dsk} {g k:Nat} {x:Frm} (hx:fitb m.image x=true) (hw:WfX x) (hl:m.out.length+(slotL m.image m.query.name g k x).length≤1000000000) (hg:g≤1000000) (hk:k≤1000000):PuX prog 275 (Dk m) [.i .i64 g,.i .i64 k,x.av] (fun r=>r=.i .i64 0) (Dk (m.add (slotL m.image m.query.name g k x))):=by
 refine (p275 H.f275 (g1:=g) (k2:=k) (x3:=x) (mP:=m) (K:=fun a b=>a=0∧b=m.add (slotL m.image m.query.name g k x)) ?_).to (fun r b' ⟨res0,e,h1,h2⟩=>⟨by rw [e,h1],h2⟩)
 obtain ⟨f0,_,f,hf,hff⟩:=fitb_iff.1 hx
 unfold fitF at hff
 simp only [Bool.and_eq_true,decide_eq_true_eq] at hff
 obtain ⟨⟨⟨⟨⟨q1,q2⟩,q3⟩,q4⟩,q5⟩,ha⟩:=hff
 have hll:x.locals.length≤16:=by
  rcases asc_len ha with e | e
  ·rw [e];simp
  ·omega
 unfold T275_0 T275_1
 intro P0 hP
 refine loop_out (P:=fun i d=>P0 i x d) m x.locals (fun _ l=>slL m.image m.query.name g k x l) (hP _ _ _ ?_) fun i hi a hlen next=>hP _ _ _ ?_
 ·unfold T275_2 T275_4
  exact ⟨fun h=>absurd h (by omega),fun _=>⟨rfl,rfl⟩⟩
 ·have hm:=asc_mem ha _ (List.getElem_mem hi)
  obtain ⟨s1,s2,s3⟩:=hm
  have hs:(x.locals[i].slot).toNat<f.slots.length:=by omega
  have e:slotAt m.image x x.locals[i]=f.slots[(x.locals[i].slot).toNat].name:=by
   unfold slotAt slotN
   rw [hf]
   show ((f.slots[(x.locals[i].slot).toNat]?).getD Fld.zero).name=_
   rw [List.getElem?_eq_getElem hs]
   rfl
  have hv:chkR x.locals[i].value=0:=by unfold chkR;rw [if_pos s3]
  have hnx:IntKind.i64.wrap ((i:Int)+1)=((i+1:Nat):Int):=wr_nat (by omega)
  unfold T275_2 T275_3
  refine ⟨fun _=>⟨by omega,_,get_at hi,f0,f,hf,by omega,_,List.getElem?_eq_getElem hs,fun hne=>?_,fun he=>?_⟩,fun h=>absurd (show (i:Int)<x.locals.length by omega) h⟩
  ·have hne:f.slots[(x.locals[i].slot).toNat].name≠m.query.name:=hne
   rw [hnx]
   have e0:slL m.image m.query.name g k x x.locals[i]=[]:=by unfold slL;rw [e,if_neg hne]
   rw [e0,Dsk.add_nil] at next
   exact next
  ·have he:f.slots[(x.locals[i].slot).toNat].name=m.query.name:=Decidable.not_not.1 he
   have e0:slL m.image m.query.name g k x x.locals[i]=[num g++[32]++num k++[32]++num x.locals[i].slot++[32,61,32]++txt x.locals[i].value]:=by unfold slL;rw [e,if_pos he]
   rw [e0] at next hlen
   have l1:=num_len g
   have l2:=num_len k
   have l3:=num_len x.locals[i].slot
   have l4:=fine_len s3
   have c72':=c72 H.toHasT.toHasF.toHas38 (hw.v _ (List.getElem_mem hi))
   rw [if_pos s3] at c72'
   refine ⟨_,_,c72',fun h=>absurd hv h,fun _=>⟨_,c258 H.toHasU (by omega) (by omega),?_,_,c258 H.toHasU (by omega) (by omega),?_,?_,_,c258 H.toHasU (by omega) (by omega),?_,?_,?_,_,c276 H ?_,by rw [hnx];exact next⟩⟩
   case refine_7=>
    have e1:(m.add a).out.length=m.out.length+a.length:=List.length_append
    have e2:(slotL m.image m.query.name g k x).length=(idxT (fun _ l=>slL m.image m.query.name g k x l) 0 x.locals).length:=rfl
    rw [List.length_append] at hlen
    omega
   all_goals (rw [maxStr_eq];simp only [List.length_append,List.length_cons,List.length_nil];omega)
theorem c272i {m:Dsk} (hm:OkI m.image) (hs:WfS m.state) (hf:fitS m.image m.state=true) (hl:m.out.length+(eachL (inL m.image m.query.name) m.state).length≤1000000000):PuXF prog 272 (Dk m) (fun kp vp=>[.bf 273 [.p kp vp 0]]) (fun r=>r=.i .i64 0) (Dk (m.add (eachL (inL m.image m.query.name) m.state))):=by
 refine (p272 H.f272 (mP:=m) (K:=fun a b=>a=0∧b=m.add (eachL (inL m.image m.query.name) m.state)) ?_).to (fun r b' ⟨res0,e,h1,h2⟩=>⟨by rw [e,h1],h2⟩)
 obtain ⟨_,_,hn,_,hg⟩:=fitS_iff hf
 unfold T272_0
 intro P0 hP
 refine loop_out (P:=P0) m m.state.routines (fun g x=>idxT (inL m.image m.query.name g) 0 x.frames) (hP _ _ ?_) fun i hi a hlen next=>hP _ _ ?_
 ·unfold T272_1 T272_4
  exact ⟨fun h=>absurd h (by omega),fun _=>⟨rfl,rfl⟩⟩
 have hx:=Go0.of (hg _ (List.getElem_mem hi))
 have hwx:=hs.r _ (List.getElem_mem hi)
 unfold T272_1
 refine ⟨fun _=>⟨by omega,_,get_at hi,fun P1 hP1=>?_⟩,fun h=>absurd (show (i:Int)<m.state.routines.length by omega) h⟩
 refine loop_out (P:=P1) (m.add a) m.state.routines[i].frames (inL m.image m.query.name i) (hP1 _ _ ?_) fun j hj b hlen2 next2=>hP1 _ _ ?_
 ·unfold T272_2 T272_3
  refine ⟨fun h=>absurd h (by omega),fun _=>?_⟩
  rw [wr_nat (by omega)]
  exact next
 have hfx:=hx.f
 unfold T272_2
 refine ⟨fun _=>⟨by omega,_,get_at hj,_,_,c273 H (m:=(m.add a).add b) (Nat.le_trans (Nat.le_add_right _ 0) ?_) (in_fit hm (hx.fb _ (List.getElem_mem hj))).1 (by omega) (by omega) (in_fit hm (hx.fb _ (List.getElem_mem hj))).2,fun h=>absurd rfl h,fun _=>?_⟩,fun h=>absurd (show (j:Int)<m.state.routines[i].frames.length by omega) h⟩
 ·have e1:(eachL (inL m.image m.query.name) m.state).length=(idxT (fun g x=>idxT (inL m.image m.query.name g) 0 x.frames) 0 m.state.routines).length:=rfl
  rw [List.length_append] at hlen hlen2
  show ((m.out++a)++b).length+_≤_
  rw [List.length_append,List.length_append]
  first
  | omega
  | (show _+(slotL m.image m.query.name i j _).length≤_;omega)
 ·rw [wr_nat (by omega)]
  exact next2
theorem c272s {m:Dsk} (hm:OkI m.image) (hs:WfS m.state) (hf:fitS m.image m.state=true) (hl:m.out.length+(eachL (slotL m.image m.query.name) m.state).length≤1000000000):PuXF prog 272 (Dk m) (fun kp vp=>[.bf 275 [.p kp vp 0]]) (fun r=>r=.i .i64 0) (Dk (m.add (eachL (slotL m.image m.query.name) m.state))):=by
 refine (SlotV.p272 H.f272 (mP:=m) (K:=fun a b=>a=0∧b=m.add (eachL (slotL m.image m.query.name) m.state)) ?_).to (fun r b' ⟨res0,e,h1,h2⟩=>⟨by rw [e,h1],h2⟩)
 obtain ⟨_,_,hn,_,hg⟩:=fitS_iff hf
 unfold SlotV.T272_0
 intro P0 hP
 refine loop_out (P:=P0) m m.state.routines (fun g x=>idxT (slotL m.image m.query.name g) 0 x.frames) (hP _ _ ?_) fun i hi a hlen next=>hP _ _ ?_
 ·unfold SlotV.T272_1 SlotV.T272_4
  exact ⟨fun h=>absurd h (by omega),fun _=>⟨rfl,rfl⟩⟩
 have hx:=Go0.of (hg _ (List.getElem_mem hi))
 have hwx:=hs.r _ (List.getElem_mem hi)
 unfold SlotV.T272_1
 refine ⟨fun _=>⟨by omega,_,get_at hi,fun P1 hP1=>?_⟩,fun h=>absurd (show (i:Int)<m.state.routines.length by omega) h⟩
 refine loop_out (P:=P1) (m.add a) m.state.routines[i].frames (slotL m.image m.query.name i) (hP1 _ _ ?_) fun j hj b hlen2 next2=>hP1 _ _ ?_
 ·unfold SlotV.T272_2 SlotV.T272_3
  refine ⟨fun h=>absurd h (by omega),fun _=>?_⟩
  rw [wr_nat (by omega)]
  exact next
 have hfx:=hx.f
 unfold SlotV.T272_2
 refine ⟨fun _=>⟨by omega,_,get_at hj,_,_,c275 H (m:=(m.add a).add b) (hx.fb _ (List.getElem_mem hj)) (hwx.f _ (List.getElem_mem hj)) ?_ (by omega) (by omega),fun h=>absurd rfl h,fun _=>?_⟩,fun h=>absurd (show (j:Int)<m.state.routines[i].frames.length by omega) h⟩
 ·have e1:(eachL (slotL m.image m.query.name) m.state).length=(idxT (fun g x=>idxT (slotL m.image m.query.name g) 0 x.frames) 0 m.state.routines).length:=rfl
  rw [List.length_append] at hlen hlen2
  show ((m.out++a)++b).length+_≤_
  rw [List.length_append,List.length_append]
  first
  | omega
  | (show _+(slotL m.image m.query.name i j _).length≤_;omega)
 ·rw [wr_nat (by omega)]
  exact next2
theorem c270 {m:Dsk} (hf:fitS m.image m.state=true) (hl:m.out.length+(waitsL m.query.key m.state).length≤1000000000):PuX prog 270 (Dk m) [] (fun r=>r=.i .i64 0) (Dk (m.add (waitsL m.query.key m.state))):=by
 refine (p270 H.f270 (mP:=m) (K:=fun a b=>a=0∧b=m.add (waitsL m.query.key m.state)) ?_).to (fun r b' ⟨res0,e,h1,h2⟩=>⟨by rw [e,h1],h2⟩)
 obtain ⟨_,_,hn,_,hg⟩:=fitS_iff hf
 unfold T270_0
 intro P0 hP
 refine loop_out (P:=P0) m m.state.routines (wtL m.query.key) (hP _ _ ?_) fun i hi a hlen next=>hP _ _ ?_
 ·unfold T270_1 T270_4
  exact ⟨fun h=>absurd h (by omega),fun _=>⟨rfl,rfl⟩⟩
 have no:¬(m.state.routines[i].status=2∧m.state.routines[i].key=m.query.key)→T270_3 prog (fun a b=>a=0∧b=m.add (waitsL m.query.key m.state)) P0 m.state.routines (m.state.routines.length:Int) (i:Int) (m.add a):=fun h=>by
  unfold T270_3
  rw [wr_nat (by omega)]
  have e0:wtL m.query.key i m.state.routines[i]=[]:=by unfold wtL;rw [if_neg h]
  rw [e0,Dsk.add_nil] at next
  exact next
 unfold T270_1 T270_2
 refine ⟨fun _=>⟨by omega,_,get_at hi,fun h2=>⟨fun hk=>?_,fun hk=>no fun h=>?_⟩,fun h2=>⟨fun h=>(by cases h),fun _=>no fun h=>h2 h.1⟩⟩,fun h=>absurd (show (i:Int)<m.state.routines.length by omega) h⟩
 ·have hk:m.state.routines[i].key=m.query.key:=of_decide_eq_true hk
  have e0:wtL m.query.key i m.state.routines[i]=[[103,111,114,111,117,116,105,110,101,32]++num i]:=by unfold wtL;rw [if_pos ⟨h2,hk⟩]
  rw [e0] at next hlen
  have l1:=num_len i
  refine ⟨_,c258 H.toHasU (by omega) (by omega),?_,_,c276 H ?_,?_⟩
  ·rw [maxStr_eq];simp only [List.length_append,List.length_cons,List.length_nil];omega
  ·have e1:(m.add a).out.length=m.out.length+a.length:=List.length_append
   have e2:(waitsL m.query.key m.state).length=(idxT (wtL m.query.key) 0 m.state.routines).length:=rfl
   rw [List.length_append] at hlen
   omega
  ·unfold T270_3
   rw [wr_nat (by omega)]
   exact next
 ·have hk:=of_decide_eq_false hk
  exact hk h.2
theorem c269 {m:Dsk} (hm:OkI m.image) (hs:WfS m.state) (hf:fitS m.image m.state=true) (hl:m.out.length+(headsL m.state).length≤1000000000):PuX prog 269 (Dk m) [] (fun r=>r=.i .i64 0) (Dk (m.add (headsL m.state))):=by
 refine (p269 H.f269 (mP:=m) (K:=fun a b=>a=0∧b=m.add (headsL m.state)) ?_).to (fun r b' ⟨res0,e,h1,h2⟩=>⟨by rw [e,h1],h2⟩)
 obtain ⟨_,_,hn,_,hg⟩:=fitS_iff hf
 unfold T269_0
 intro P0 hP
 refine loop_out (P:=P0) m m.state.routines (fun g x=>[headR g x]) (hP _ _ ?_) fun i hi a hlen next=>hP _ _ ?_
 ·unfold T269_1 T269_2
  exact ⟨fun h=>absurd h (by omega),fun _=>⟨rfl,rfl⟩⟩
 have e:rouR (m.add a).image i m.state.routines[i]=(linR m.image i m.state.routines[i],0):=rouR_yes (by omega) (hg _ (List.getElem_mem hi))
 unfold T269_1
 refine ⟨fun _=>⟨by omega,_,get_at hi,_,_,c207 H.toHasT hm (hs.r _ (List.getElem_mem hi)),fun h=>?_,fun _=>⟨headR i m.state.routines[i],?_,_,c276 H ?_,?_⟩⟩,fun h=>absurd (show (i:Int)<m.state.routines.length by omega) h⟩
 ·rw [e] at h;exact absurd rfl h
 ·rw [e];rfl
 ·have e1:(m.add a).out.length=m.out.length+a.length:=List.length_append
  have e2:(headsL m.state).length=(idxT (fun g x=>[headR g x]) 0 m.state.routines).length:=rfl
  rw [List.length_append] at hlen
  omega
 ·rw [wr_nat (by omega)]
  exact next
end
end Go.AM

/- Parts of the proof. -/
namespace Go.AM
open Go
theorem ans_len {m:Img} {s:Sta} (hs:WfS s) (hf:fitS m s=true) (q:Qry):(headsL s).length≤100000000∧(waitsL q.key s).length≤100000000∧(eachL (inL m q.name) s).length≤100000000∧(eachL (slotL m q.name) s).length≤100000000∧(partR m s q).1.length≤100000000:=by
 obtain ⟨_,_,hn,_,hg⟩:=fitS_iff hf
 have hr :∀{f:Nat→Rou→List Bytes} {c:Nat},c≤5000000→(∀j,∀x∈s.routines,(f j x).length≤c)→(idxT f 0 s.routines).length≤100000000:=fun {f c} hc h=>by
  refine Nat.le_trans (idxT_len h) (Nat.le_trans (Nat.mul_le_mul hn hc) (by decide))
 have hfr :∀{f:Nat→Frm→List Bytes} {c:Nat} {x:Rou},x∈s.routines→c≤17→(∀j,∀y∈x.frames,(f j y).length≤c)→(idxT f 0 x.frames).length≤170*17:=fun {f c x} hx hc h=>by
  refine Nat.le_trans (idxT_len h) (Nat.mul_le_mul (Go0.of (hg x hx)).f hc)
 have hlc :∀{x:Rou} {y:Frm},x∈s.routines→y∈x.frames→y.locals.length≤16:=fun {x y} hx hy=>by
  obtain ⟨_,_,f,_,hff⟩:=fitb_iff.1 ((Go0.of (hg x hx)).fb y hy)
  obtain ⟨q1,_,_,_,_,ha⟩:=fitF_iff.1 hff
  rcases asc_len ha with e | e
  ·rw [e];simp
  ·omega
 refine ⟨hr (c:=1) (by decide) fun j x hx=>Nat.le_refl _,hr (c:=1) (by decide) fun j x hx=>by unfold wtL;split<;>simp,hr (c:=170*17) (by decide) fun j x hx=>hfr hx (c:=1) (by decide) fun k y hy=>by unfold inL;split<;>simp,hr (c:=170*17) (by decide) fun j x hx=>hfr hx (c:=16) (by decide) fun k y hy=>?_,?_⟩
 ·refine Nat.le_trans (idxT_len (c:=1) fun n l hl=>by unfold slL;split<;>simp) ?_
  have:=hlc hx hy
  omega
 ·unfold partR
  split
  ·simp
  ·rename_i x hx
   split
   ·simp
   have hx:=List.mem_of_getElem? hx
   have h1:(idxT (prtL m q) 0 x.frames).length≤170*17:=hfr hx (c:=17) (by decide) fun k y hy=>by
    obtain ⟨a,l,ea,el⟩:=frm_shape ((Go0.of (hg x hx)).fb y hy) (k:Int)
    have:=hlc hx hy
    unfold prtL
    rw [ea]
    split
    ·simp
    ·split
     ·show l.length≤17
      omega
     ·simp
   have h2:(tailL m q x).length≤410:=by
    have:=(Go0.of (hg x hx)).d
    have:=(Go0.of (hg x hx)).p
    unfold tailL
    split
    ·rw [List.length_map];omega
    ·split
     ·rw [List.length_map];omega
     ·simp
   show (idxT (prtL m q) 0 x.frames++tailL m q x).length≤_
   rw [List.length_append]
   omega
section
variable {prog:Prog} (H:HasV prog)
include H
theorem c268 {m:Dsk} (hm:OkI m.image) (hs:WfS m.state) (hf:fitS m.image m.state=true) (hg:0≤m.query.g) (hl:m.out.length+(partR m.image m.state m.query).1.length≤1000000000):PuX prog 268 (Dk m) [] (fun r=>r=.i .i64 (partR m.image m.state m.query).2) (Dk (m.add (partR m.image m.state m.query).1)):=by
 refine (p268 H.f268 (mP:=m) (K:=fun a b=>a=(partR m.image m.state m.query).2∧b=m.add (partR m.image m.state m.query).1) ?_).to (fun r b' ⟨res0,e,h1,h2⟩=>⟨by rw [e,h1],h2⟩)
 obtain ⟨_,_,hn,_,hgs⟩:=fitS_iff hf
 unfold T268_0 T268_1 T268_2
 refine ⟨fun h=>?_,fun h=>?_⟩
 ·have e:m.state.routines[m.query.g.toNat]?=none:=List.getElem?_eq_none (by omega)
  unfold partR
  rw [e]
  exact ⟨rfl,(Dsk.add_nil m).symm⟩
 have hi:m.query.g.toNat<m.state.routines.length:=by omega
 have hx0:=hgs _ (List.getElem_mem hi)
 have hwx:=hs.r _ (List.getElem_mem hi)
 have ex:m.state.routines[m.query.g.toNat]?=some m.state.routines[m.query.g.toNat]:=List.getElem?_eq_getElem hi
 generalize m.state.routines[m.query.g.toNat]=x at ex hx0 hwx
 have er:partR m.image m.state m.query=if m.query.kind=3∧(x.frames.length:Int)≤m.query.k then ([],6) else (partL m.image m.query x,0):=by unfold partR;rw [ex]
 rw [er] at hl ⊢
 have hx:=Go0.of hx0
 have hfx:=hx.f
 unfold T268_3
 refine ⟨hg,x,ex,?_⟩
 have t5:¬(m.query.kind=3∧(x.frames.length:Int)≤m.query.k)→T268_5 prog (fun a b=>a=(if m.query.kind=3∧(x.frames.length:Int)≤m.query.k then (([]:List Bytes),(6:Int)) else (partL m.image m.query x,0)).2∧b=m.add (if m.query.kind=3∧(x.frames.length:Int)≤m.query.k then (([]:List Bytes),(6:Int)) else (partL m.image m.query x,0)).1) m.query.g x m:=fun hk=>by
  rw [if_neg hk] at hl ⊢
  have hl:m.out.length+(partL m.image m.query x).length≤1000000000:=hl
  have hl2:m.out.length+((idxT (prtL m.image m.query) 0 x.frames).length+(tailL m.image m.query x).length)≤1000000000:=by
   have:(partL m.image m.query x).length=(idxT (prtL m.image m.query) 0 x.frames).length+(tailL m.image m.query x).length:=List.length_append
   omega
  unfold T268_5 T268_6 T268_7
  have e:rouR m.image m.query.g x=(linR m.image m.query.g x,0):=rouR_yes (by omega) hx0
  have c:=c207 H.toHasT (g:=m.query.g) hm hwx
  rw [e] at c
  refine ⟨_,_,c,fun h=>absurd rfl h,fun _=>⟨by unfold linR;simp,?_⟩⟩
  have e1:(linR m.image m.query.g x).drop 1=(partsL m.image x).map sp2:=rfl
  show T268_8 prog _ ((linR m.image m.query.g x).drop 1) x m
  rw [e1]
  unfold T268_8
  intro P0 hP
  let D:List Bytes:=x.defers.map (defL m.image)++x.panics.map shown
  have:=loop_inv (P:=fun (b:List Bytes × Dsk) i=>P0 b.1 i x b.2) (fun i=>((frmsL m.image i (x.frames.drop i)++D).map sp2,m.add (idxT (prtL m.image m.query) 0 (x.frames.take i)))) x.frames.length (fun _=>True) trivial (fun _=>hP _ _ _ _ ?_) fun i hi _ next=>hP _ _ _ _ ?_
  ·have e2:partsL m.image x=frmsL m.image 0 (x.frames.drop 0)++D:=by unfold partsL;rw [List.append_assoc];rfl
   rw [e2]
   have e3:m.add (idxT (prtL m.image m.query) 0 (x.frames.take 0))=m:=Dsk.add_nil m
   show P0 _ 0 x m
   rw [← e3]
   exact this
  ·rw [List.drop_length,List.take_length]
   unfold T268_9 T268_15
   refine ⟨fun h=>absurd h (by omega),fun _=>?_⟩
   have t16 :∀l:List Bytes,l=tailL m.image m.query x→T268_16 prog (fun a b=>a=(partL m.image m.query x,(0:Int)).2∧b=m.add (partL m.image m.query x,(0:Int)).1) (l.map sp2) (m.add (idxT (prtL m.image m.query) 0 x.frames)):=fun l hl'=>by
    unfold T268_16
    intro P2 hP2
    refine loop_out (P:=P2) (m.add (idxT (prtL m.image m.query) 0 x.frames)) (l.map sp2) (fun _ (s:Bytes)=>[s.drop 2]) (hP2 _ _ ?_) fun j hj a hlen next2=>hP2 _ _ ?_
    ·unfold T268_17 T268_18
     refine ⟨fun h=>absurd h (by omega),fun _=>⟨rfl,?_⟩⟩
     rw [idxT_sp2,Dsk.add_add,hl']
     rfl
    ·unfold T268_17
     rw [idxT_sp2,List.length_append] at hlen
     have h2:2≤(l.map sp2)[j].length:=by rw [List.getElem_map];show 2≤([32,32]++l[j]'(by simpa using hj)).length;simp
     rw [List.length_map] at hj
     have hll:l.length=(tailL m.image m.query x).length:=by rw [hl']
     refine ⟨fun _=>⟨by omega,_,get_at (by simpa using hj),h2,_,c276 H ?_,?_⟩,fun h=>absurd (show (j:Int)<((l.map sp2).length:Int) by rw [List.length_map];omega) h⟩
     ·show ((m.out++idxT (prtL m.image m.query) 0 x.frames)++a).length≤_
      rw [List.length_append,List.length_append]
      omega
     ·rw [wr_nat (by omega)]
      exact next2
   have eD:([]++D).map sp2=(x.defers.map (defL m.image)).map sp2++(x.panics.map shown).map sp2:=by show (x.defers.map (defL m.image)++x.panics.map shown).map sp2=_;rw [List.map_append]
   have el:(x.defers.length:Int).toNat=((x.defers.map (defL m.image)).map sp2).length:=by simp
   show (m.query.kind=4→_∧_≤(([]++D).map sp2).length∧T268_16 prog _ (List.take _ (([]++D).map sp2)) _)∧(¬(m.query.kind=4)→(m.query.kind=5→_∧_≤(([]++D).map sp2).length∧T268_16 prog _ (List.drop _ (([]++D).map sp2)) _)∧(¬(m.query.kind=5)→T268_16 prog _ [] _))
   rw [eD,el,List.take_left,List.drop_left]
   refine ⟨fun h=>⟨by omega,by rw [List.length_append];omega,t16 _ ?_⟩,fun h4=>⟨fun h=>⟨by omega,by rw [List.length_append];omega,t16 _ ?_⟩,fun h5=>t16 [] ?_⟩⟩
   ·unfold tailL;rw [if_pos h]
   ·unfold tailL;rw [if_neg h4,if_pos h]
   ·unfold tailL;rw [if_neg h4,if_neg h5]
  ·obtain ⟨a,l,ea,ell⟩:=frm_shape (hx.fb _ (List.getElem_mem hi)) (i:Int)
   have hll:x.frames[i].locals.length≤16:=by
    obtain ⟨_,_,f,_,hff⟩:=fitb_iff.1 (hx.fb _ (List.getElem_mem hi))
    obtain ⟨q1,_,_,_,_,ha⟩:=fitF_iff.1 hff
    rcases asc_len ha with e | e
    ·rw [e];simp
    ·omega
   have hpre:=idxT_le (prtL m.image m.query) x.frames (i+1)
   rw [idxT_take _ hi,List.length_append] at hpre
   have next:P0 ((frmsL m.image (i+1) (x.frames.drop (i+1))++D).map sp2) ((i+1:Nat):Int) x (m.add (idxT (prtL m.image m.query) 0 (x.frames.take (i+1)))):=next trivial
   rw [idxT_take _ hi] at next
   generalize hR:frmsL m.image (i+1) (x.frames.drop (i+1))++D=R at next
   generalize hB:idxT (prtL m.image m.query) 0 (x.frames.take i)=B at next hpre
   have e5:(frmsL m.image i (x.frames.drop i)++D).map sp2=sp2 a::(l.map sp2++R.map sp2):=by
    rw [List.drop_eq_getElem_cons hi]
    show ((frmL m.image i x.frames[i]++frmsL m.image (i+1) (x.frames.drop (i+1)))++D).map sp2=_
    rw [List.append_assoc,hR,ea]
    simp
   show T268_9 prog _ P0 ((frmsL m.image i (x.frames.drop i)++D).map sp2) _ _ _ _ _
   rw [e5]
   have hnn:IntKind.i64.wrap (1+(x.frames[i].locals.length:Int))=((1+l.length:Nat):Int):=by rw [wr_i64 (by omega) (by omega)];omega
   -- behind the lines of a frame
   have t13 :∀C,C=prtL m.image m.query i x.frames[i]→T268_13 prog (fun a b=>a=(partL m.image m.query x,(0:Int)).2∧b=m.add (partL m.image m.query x,(0:Int)).1) P0 (sp2 a::(l.map sp2++R.map sp2)) ((1+l.length:Nat):Int) x.frames (x.frames.length:Int) (i:Int) x ((m.add B).add C):=fun C hC=>by
    unfold T268_13 T268_14
    rw [wr_nat (by omega)]
    refine ⟨by omega,by simp;omega,?_⟩
    have e6:(sp2 a::(l.map sp2++R.map sp2)).drop (((1+l.length:Nat):Int)).toNat=R.map sp2:=by
     have:(((1+l.length:Nat):Int)).toNat=l.length+1:=by omega
     rw [this,List.drop_succ_cons]
     have:l.length=(l.map sp2).length:=by simp
     rw [this,List.drop_left]
    rw [e6,Dsk.add_add,hC]
    exact next
   have t10 :∀C,(m.query.kind≠3→C=prtL m.image m.query i x.frames[i])→(m.query.kind=3→C=[])→T268_10 prog (fun a b=>a=(partL m.image m.query x,(0:Int)).2∧b=m.add (partL m.image m.query x,(0:Int)).1) P0 (sp2 a::(l.map sp2++R.map sp2)) (i:Int) ((1+l.length:Nat):Int) x.frames (x.frames.length:Int) (i:Int) x ((m.add B).add C):=fun C hC hC3=>by
    unfold T268_10 T268_11
    refine ⟨fun h3=>⟨fun hk=>⟨by omega,by omega,by simp;omega,?_⟩,fun hk=>t13 C ?_⟩,fun h3=>⟨fun h=>(by cases h),fun _=>t13 C (hC h3)⟩⟩
    ·have hk:m.query.k=(i:Int):=of_decide_eq_true hk
     have h3:m.query.kind=3:=h3
     rw [hC3 h3,Dsk.add_nil]
     have e7:(((sp2 a::(l.map sp2++R.map sp2)).drop 1).take ((((1+l.length:Nat):Int)).toNat-1))=l.map sp2:=by
      have:(((1+l.length:Nat):Int)).toNat-1=(l.map sp2).length:=by rw [List.length_map];omega
      rw [this]
      show (l.map sp2++R.map sp2).take _=_
      rw [List.take_left]
     rw [e7]
     have ep:prtL m.image m.query i x.frames[i]=l:=by
      unfold prtL
      rw [if_neg (by omega),if_pos ⟨h3,hk⟩,ea]
      rfl
     rw [ep] at hpre
     intro P1 hP1
     refine loop_out (P:=fun j d=>P1 j x d) (m.add B) (l.map sp2) (fun _ (s:Bytes)=>[s.drop 2]) (hP1 _ _ _ ?_) fun j hj b hlen next2=>hP1 _ _ _ ?_
     ·unfold T268_12
      refine ⟨fun h=>absurd h (by omega),fun _=>?_⟩
      rw [idxT_sp2]
      exact t13 l ep.symm
     ·unfold T268_12
      rw [idxT_sp2,List.length_append] at hlen
      have h2:2≤(l.map sp2)[j].length:=by rw [List.getElem_map];show 2≤([32,32]++l[j]'(by simpa using hj)).length;simp
      rw [List.length_map] at hj
      refine ⟨fun _=>⟨by omega,_,get_at (by simpa using hj),h2,_,c276 H ?_,?_⟩,fun h=>absurd (show (j:Int)<((l.map sp2).length:Int) by rw [List.length_map];omega) h⟩
      ·show ((m.out++B)++b).length≤_
       rw [List.length_append,List.length_append]
       omega
      ·rw [wr_nat (by omega)]
       exact next2
    ·have hk:¬m.query.k=(i:Int):=of_decide_eq_false hk
     have h3:m.query.kind=3:=h3
     rw [hC3 h3]
     unfold prtL
     rw [if_neg (by omega),if_neg (by omega)]
   unfold T268_9
   simp only [← hnn] at t10
   refine ⟨fun _=>⟨by omega,_,get_at hi,fun k2=>⟨sp2 a,rfl,by show 2≤([32,32]++a).length;simp,_,c276 H ?_,?_⟩,fun k2=>?_⟩,fun h=>absurd (show (i:Int)<x.frames.length by omega) h⟩
   ·show (m.out++B).length≤_
    rw [List.length_append]
    omega
   ·have k2:m.query.kind=2:=k2
    refine t10 [a] (fun _=>?_) (fun h3=>absurd h3 (by omega))
    unfold prtL
    rw [if_pos k2,ea]
    rfl
   ·have k2:¬m.query.kind=2:=k2
    have:=t10 [] (fun h3=>by unfold prtL;rw [if_neg k2,if_neg (by omega)]) (fun _=>rfl)
    rw [Dsk.add_nil] at this
    exact this
 unfold T268_4
 refine ⟨fun h3=>⟨fun hk=>?_,fun hk=>t5 (by omega)⟩,fun h3=>t5 fun h=>h3 h.1⟩
 rw [if_pos ⟨h3,by omega⟩]
 exact ⟨rfl,(Dsk.add_nil m).symm⟩
theorem c271 {m:Dsk} (hm:OkI m.image) (hs:WfS m.state) (hf:fitS m.image m.state=true) (hl:m.out.length+(eachL (inL m.image m.query.name) m.state).length≤1000000000):PuV prog 271 (Dk m) (fun r=>r=.i .i64 0) (Dk (m.add (eachL (inL m.image m.query.name) m.state))):=by
 intro d st q u k v hq hk hb hB
 have hW:W prog d pf271.body (sl0 [.p q u 0]) st fun e σ st'=>(e=.normal∨e=.ret)∧∃r,ares σ st' pf271.res=some r∧r=.i .i64 0∧Dk (m.add (eachL (inL m.image m.query.name) m.state)) st'.bx st'.ow k v∧Fr d k st.bx st.ow st'.bx st'.ow:=
  q_ rfl (m_ (s_nil (q_ rfl (s_loadP rfl hb rfl rfl (s_loadP rfl hb rfl rfl (s_mkbf (sec rfl sen) (s_callXF (sec rfl (sec rfl sen)) (c272i H hm hs hf hl) (Nat.lt_succ_of_lt hk) hB fun st' hb' hf'=>m_ (s_nil (W.ret ⟨.inr rfl,_,rfl,rfl,hb',Fr.pass Fr.refl hf'⟩)))))))))
 obtain ⟨r,st',h1,h2⟩:=Fn.of' (prog:=prog) (K:=fun r st'=>r=.i .i64 0∧Dk (m.add (eachL (inL m.image m.query.name) m.state)) st'.bx st'.ow k v∧Fr d k st.bx st.ow st'.bx st'.ow) H.f271 (Nat.le_of_ble_eq_true rfl) (hW.mono fun e σ st' hq=>by
  obtain ⟨he,r,h1,h2,h3,h4⟩:=hq
  rcases he with rfl | rfl
  ·exact ⟨r,h1,h2,Dk.out d _ _ k v hk h3,h4.out⟩
  ·exact ⟨r,h1,h2,Dk.out d _ _ k v hk h3,h4.out⟩)
 exact ⟨r,st',h1,h2⟩
theorem c274 {m:Dsk} (hm:OkI m.image) (hs:WfS m.state) (hf:fitS m.image m.state=true) (hl:m.out.length+(eachL (slotL m.image m.query.name) m.state).length≤1000000000):PuV prog 274 (Dk m) (fun r=>r=.i .i64 0) (Dk (m.add (eachL (slotL m.image m.query.name) m.state))):=by
 intro d st q u k v hq hk hb hB
 have hW:W prog d pf274.body (sl0 [.p q u 0]) st fun e σ st'=>(e=.normal∨e=.ret)∧∃r,ares σ st' pf274.res=some r∧r=.i .i64 0∧Dk (m.add (eachL (slotL m.image m.query.name) m.state)) st'.bx st'.ow k v∧Fr d k st.bx st.ow st'.bx st'.ow:=
  q_ rfl (m_ (s_nil (q_ rfl (s_loadP rfl hb rfl rfl (s_loadP rfl hb rfl rfl (s_mkbf (sec rfl sen) (s_callXF (sec rfl (sec rfl sen)) (c272s H hm hs hf hl) (Nat.lt_succ_of_lt hk) hB fun st' hb' hf'=>m_ (s_nil (W.ret ⟨.inr rfl,_,rfl,rfl,hb',Fr.pass Fr.refl hf'⟩)))))))))
 obtain ⟨r,st',h1,h2⟩:=Fn.of' (prog:=prog) (K:=fun r st'=>r=.i .i64 0∧Dk (m.add (eachL (slotL m.image m.query.name) m.state)) st'.bx st'.ow k v∧Fr d k st.bx st.ow st'.bx st'.ow) H.f274 (Nat.le_of_ble_eq_true rfl) (hW.mono fun e σ st' hq=>by
  obtain ⟨he,r,h1,h2,h3,h4⟩:=hq
  rcases he with rfl | rfl
  ·exact ⟨r,h1,h2,Dk.out d _ _ k v hk h3,h4.out⟩
  ·exact ⟨r,h1,h2,Dk.out d _ _ k v hk h3,h4.out⟩)
 exact ⟨r,st',h1,h2⟩
theorem c264 {m:Img} {s:Sta} {q:Qry} (hm:OkI m) (hs:WfS s):Pus prog 264 [m.av,s.av,q.av] (.tup [.sl .ext ((ansR m s q).1.map rowS),.i .i64 (ansR m s q).2]):=by
 obtain ⟨x,y,⟨rfl,rfl⟩,h⟩:=p264 H.f264 (m0:=m) (s1:=s) (q2:=q) (K:=fun x y=>x=(ansR m s q).1∧y=(ansR m s q).2) (by
  unfold T264_0 T264_1
  refine ⟨_,c247 H.toHasU q,fun h=>?_,fun h=>⟨_,c213 H.toHasT hm hs,fun h2=>?_,fun h2=>?_⟩⟩
  ·have h':¬okQ q=true:=fun e=>h (chkQ_iff.2 e)
   unfold ansR chkQ
   rw [if_neg h',if_neg h']
   exact ⟨rfl,rfl⟩
  ·have ho:okQ q=true:=chkQ_iff.1 (Decidable.not_not.1 h)
   have h':¬fitS m s=true:=fun e=>h2 (by unfold fitSR;rw [if_pos e])
   unfold ansR fitSR
   rw [if_pos ho,if_neg h',if_neg h']
   exact ⟨rfl,rfl⟩
  have ho:okQ q=true:=chkQ_iff.1 (Decidable.not_not.1 h)
  have hf:fitS m s=true:=by
   rcases Bool.eq_false_or_eq_true (fitS m s) with e | e
   ·exact e
   ·unfold fitSR at h2
    rw [e] at h2
    exact absurd (show (8:Int)≠0 by decide) h2
  obtain ⟨l1,l2,l3,l4,l5⟩:=ans_len hs hf q
  have bd :∀{n:Nat},n≤100000000→0+n≤1000000000:=fun h=>by omega
  have e:ansR m s q=ansL m s q:=by unfold ansR;rw [if_pos ho,if_pos hf]
  rw [e]
  have hg:=(okQ_iff.1 ho).g
  have fin :∀l:List Bytes,l=(ansL m s q).1→(ansL m s q).2=0→(((Dsk.mk m s q []).add l).out=(ansL m s q).1∧(0:Int)=(ansL m s q).2):=fun l h1 h2=>⟨by unfold Dsk.add;simpa using h1,h2.symm⟩
  refine ⟨fun k1=>⟨_,_,c269 H (m:=⟨m,s,q,[]⟩) hm hs hf (bd l1),fun h=>absurd rfl h,fun _=>fin _ ?_ ?_⟩,fun k1=>⟨fun k6=>⟨_,_,c270 H (m:=⟨m,s,q,[]⟩) hf (bd l2),fun h=>absurd rfl h,fun _=>fin _ ?_ ?_⟩,fun k6=>⟨fun k7=>⟨_,_,c271 H (m:=⟨m,s,q,[]⟩) hm hs hf (bd l3),fun h=>absurd rfl h,fun _=>fin _ ?_ ?_⟩,fun k7=>⟨fun k8=>⟨_,_,c274 H (m:=⟨m,s,q,[]⟩) hm hs hf (bd l4),fun h=>absurd rfl h,fun _=>fin _ ?_ ?_⟩,fun k8=>?_⟩⟩⟩⟩
  ·unfold ansL;rw [if_pos k1]
  ·unfold ansL;rw [if_pos k1]
  ·unfold ansL;rw [if_neg k1,if_pos k6]
  ·unfold ansL;rw [if_neg k1,if_pos k6]
  ·unfold ansL;rw [if_neg k1,if_neg k6,if_pos k7]
  ·unfold ansL;rw [if_neg k1,if_neg k6,if_pos k7]
  ·unfold ansL;rw [if_neg k1,if_neg k6,if_neg k7,if_pos k8]
  ·unfold ansL;rw [if_neg k1,if_neg k6,if_neg k7,if_pos k8]
  ·have e:ansL m s q=partR m s q:=by unfold ansL;rw [if_neg k1,if_neg k6,if_neg k7,if_neg k8]
   rw [e] at fin ⊢
   refine ⟨_,_,c268 H (m:=⟨m,s,q,[]⟩) hm hs hf hg.1 (bd l5),fun h=>?_,fun h=>fin _ rfl (Decidable.not_not.1 h)⟩
   rcases partR_out (m:=m) (s:=s) (q:=q) with e0 | e0
   ·exact absurd e0 h
   ·exact ⟨e0.symm,rfl⟩)
 exact h
end
end Go.AM

/- Parts of the proof. -/
namespace Go.AM
open Go
structure HasW (prog:Prog):Prop extends HasV prog where
 f251:prog.fn 251=some pf251
 f252:prog.fn 252=some pf252
 f253:prog.fn 253=some pf253
 f254:prog.fn 254=some pf254
 f255:prog.fn 255=some pf255
 f256:prog.fn 256=some pf256
abbrev sGiven:Sta:=⟨3,-1,0,[⟨2,7,[⟨1,2,0,[⟨0,⟨2,5,[],[],false⟩⟩]⟩,⟨0,4,0,[]⟩],[],[]⟩]⟩
abbrev mProg:Img:=⟨[],[],[⟨[109,97,105,110],0,0,[],rep 6 Ins.zero,[],[]⟩,⟨[102],0,0,[⟨[120],0⟩,⟨[121],0⟩],rep 6 Ins.zero,[],[]⟩]⟩
theorem ok_prog:OkI mProg:=OkI.of (by decide +kernel)
theorem wfv {k n:Int} (hk:0≤k∧k<256) (hn:-9223372036854775808≤n∧n<9223372036854775808):Wf ⟨k,n,[],[],false⟩:=.mk hk hn (by decide) (by simp)
theorem wf_given:WfS sGiven:=by
 refine ⟨by decide,fun x hx=>?_,by decide⟩
 obtain rfl:=List.mem_singleton.1 hx
 refine ⟨by decide,by decide,fun y hy=>?_,by simp,by simp,by decide,by decide,by decide⟩
 simp only [List.mem_cons,List.not_mem_nil,or_false] at hy
 rcases hy with rfl | rfl
 ·refine ⟨by decide,by decide,fun l hl=>?_⟩
  obtain rfl:=List.mem_singleton.1 hl
  exact wfv (by decide) (by decide)
 ·exact ⟨by decide,by decide,by simp⟩
section
variable {prog:Prog} (H:HasW prog)
include H
theorem c254 {m:Img} {s:Sta} {t:Bytes} (hm:OkI m) (hs:WfS s):Pus prog 254 [m.av,s.av,.s t] (.tup [.sl .ext ((askR m s t).1.map rowS),.i .i64 (askR m s t).2]):=by
 obtain ⟨x,y,⟨rfl,rfl⟩,h⟩:=p254 H.f254 (m0:=m) (s1:=s) (text2:=t) (K:=fun x y=>x=(askR m s t).1∧y=(askR m s t).2) (by
  unfold T254_0
  refine ⟨_,_,c245 H.toHasU t,fun h=>?_,fun h=>⟨_,_,c264 H.toHasV hm hs,?_⟩⟩
  ·unfold askR;rw [if_neg h];exact ⟨rfl,rfl⟩
  ·unfold askR;rw [if_pos (Decidable.not_not.1 h)];exact ⟨rfl,rfl⟩)
 exact h
theorem c252:PuN prog 252 [] (fun r=>r=sGiven.avo .full):=by
 refine (p252 H.f252 (K:=fun x=>x=sGiven) (by unfold T252_0;rfl)).to ?_
 rintro r ⟨x,h1,rfl⟩
 exact h1
theorem c255:Pus prog 255 [] mProg.av:=by
 obtain ⟨x,rfl,h⟩:=p255 H.f255 (K:=fun x=>x=mProg) (by unfold T255_0;rfl)
 exact h
theorem c251 {t:Bytes} {e:Int} (h:askR mProg sGiven t=([],e)):Pus prog 251 [.s t,.i .i64 e] (.b true):=by
 obtain ⟨x,rfl,h⟩:=p251 H.f251 (text0:=t) (want1:=e) (K:=fun x=>x=true) (by
  have c:=c254 H (t:=t) ok_prog wf_given
  rw [h] at c
  unfold T251_0
  exact ⟨_,c255 H,_,c252 H,_,_,c,fun _=>rfl,fun h=>absurd rfl h⟩)
 exact h
theorem c253 {s:Sta} {t:Bytes} {want:List Bytes} (hs:WfS s) (h:askR mProg s t=(want,0)) (hw:want.length≤1000000000):Pus prog 253 [s.av,.s t,.sl .ext (want.map rowS)] (.b true):=by
 obtain ⟨x,rfl,h⟩:=p253 H.f253 (s0:=s) (text1:=t) (want2:=want) (K:=fun x=>x=true) (by
  have c:=c254 H (t:=t) ok_prog hs
  rw [h] at c
  unfold T253_0
  exact ⟨_,c255 H,_,_,c,fun _=>⟨_,c29 H.toHas03 hw,decide_eq_true rfl⟩,fun h=>absurd rfl h⟩)
 exact h
theorem c256:Pus prog 256 [] (.b true):=by
 obtain ⟨x,rfl,h⟩:=p256 H.f256 (K:=fun x=>x=true) (by
  unfold T256_0
  exact ⟨_,c252 H,_,c253 H (t:=[103,111,114,111,117,116,105,110,101,115]) (want:=[[103,111,114,111,117,116,105,110,101,32,48,58,32,98,108,111,99,107,101,100,32,55]]) wf_given (by decide +kernel) (by decide),fun _=>⟨_,c253 H (t:=[119,97,105,116,115,32,55]) (want:=[[103,111,114,111,117,116,105,110,101,32,48]]) wf_given (by decide +kernel) (by decide),fun _=>⟨_,c253 H (t:=[105,110,32,34,109,97,105,110,34]) (want:=[[48,32,49,32,97,116,32,52]]) wf_given (by decide +kernel) (by decide),fun _=>⟨_,c253 H (t:=[115,108,111,116,32,34,120,34]) (want:=[[48,32,48,32,48,32,61,32,53]]) wf_given (by decide +kernel) (by decide),fun _=>⟨_,c253 H (t:=[102,114,97,109,101,115,32,48]) (want:=[[35,48,32,49,32,34,102,34,32,97,116,32,50,32,99,97,108,108],[35,49,32,48,32,34,109,97,105,110,34,32,97,116,32,52,32,99,97,108,108]]) wf_given (by decide +kernel) (by decide),fun _=>⟨_,c253 H (t:=[108,111,99,97,108,115,32,48,32,49]) (want:=[]) wf_given (by decide +kernel) (by decide),fun _=>⟨_,c251 H (t:=[102,114,97,109,101,115,32,49]) (by decide +kernel),fun _=>⟨_,c251 H (t:=[102,114,97,109,101,115,32,48,49]) (by decide +kernel),rfl⟩,nofun⟩,nofun⟩,nofun⟩,nofun⟩,nofun⟩,nofun⟩,nofun⟩)
 exact h
end
end Go.AM

/- Parts of the proof. -/
namespace Go.AM
open Go
theorem loop_lst {α:Type} {P:List Bytes→Int→Prop} (o:List Bytes) (l:List α) (f:Nat→α→List Bytes) (h1:P (o++idxT f 0 l) (l.length:Int))
  (h2 :∀(i:Nat) (hi:i<l.length) (a:List Bytes),(a++f i l[i]).length≤(o++idxT f 0 l).length→P (a++f i l[i]) ((i+1:Nat):Int)→P a (i:Int)):P o 0:=by
 have:=loop_inv (P:=fun b i=>P b i) (fun i=>o++idxT f 0 (l.take i)) l.length (fun _=>True) trivial (fun _=>by rw [List.take_length];exact h1) fun i hi _ next=>h2 i hi _ (by
  rw [List.append_assoc,← idxT_take f hi,List.length_append,List.length_append]
  have:=idxT_le f l (i+1)
  omega) (by
  rw [List.append_assoc,← idxT_take f hi]
  exact next trivial)
 simpa [idxT] using this
end Go.AM

/- Parts of the proof. -/
namespace Go.AM
open Go
structure HasE (prog:Prog):Prop extends HasW prog where
 f282:prog.fn 282=some pf282
theorem fits16 {n:Nat} (h:n≤1000000001):Fit n 16:=by
 have e:maxBytes=70368744177664:=rfl
 unfold Fit
 rw [e]
 omega
def fitB (m:Img) (s:Sta):Bool:=!greatI m&&(!greatS s&&fitS m s)
theorem fitB_true {m:Img} {s:Sta} (h:fitB m s=true) (hs:WfS0 s):OkI m∧WfS s∧fitS m s=true:=by
 unfold fitB at h
 simp only [Bool.and_eq_true,Bool.not_eq_true'] at h
 exact ⟨OkI.of h.1,WfS.of hs h.2.1,h.2.2⟩
theorem ans7 {m:Img} {s:Sta} {name:Bytes} (hn:name.length≤16) (hf:fitS m s=true):ansR m s ⟨7,0,0,0,name⟩=(eachL (inL m name) s,0):=by
 have ho:okQ ⟨7,0,0,0,name⟩=true:=okQ_iff.2 ⟨by show (1:Int)≤7;decide,by show (7:Int)≤8;decide,rfl,⟨by show (0:Int)≤0;decide,by show (0:Int)<16;decide⟩,⟨by show (0:Int)≤0;decide,by show (0:Int)<170;decide⟩,hn⟩
 unfold ansR
 rw [if_pos ho,if_pos hf]
 rfl
theorem ans8 {m:Img} {s:Sta} {name:Bytes} (hn:name.length≤16) (hf:fitS m s=true):ansR m s ⟨8,0,0,0,name⟩=(eachL (slotL m name) s,0):=by
 have ho:okQ ⟨8,0,0,0,name⟩=true:=okQ_iff.2 ⟨by show (1:Int)≤8;decide,by show (8:Int)≤8;decide,rfl,⟨by show (0:Int)≤0;decide,by show (0:Int)<16;decide⟩,⟨by show (0:Int)≤0;decide,by show (0:Int)<170;decide⟩,hn⟩
 unfold ansR
 rw [if_pos ho,if_pos hf]
 rfl
theorem ans6 {m:Img} {s:Sta} {key:Int} (hf:fitS m s=true):ansR m s ⟨6,0,0,key,[]⟩=(waitsL key s,0):=by
 have ho:okQ ⟨6,0,0,key,[]⟩=true:=okQ_iff.2 ⟨by show (1:Int)≤6;decide,by show (6:Int)≤8;decide,rfl,⟨by show (0:Int)≤0;decide,by show (0:Int)<16;decide⟩,⟨by show (0:Int)≤0;decide,by show (0:Int)<170;decide⟩,by show ([]:Bytes).length≤16;decide⟩
 unfold ansR
 rw [if_pos ho,if_pos hf]
 rfl
section
variable {prog:Prog} (H:HasE prog)
include H
theorem c282 {m:Img} (hmn:m.funcs.length≤9223372036854775807) {s:Sta} (hs:WfS0 s):Pus prog 282 [m.av,s.av] (.b (fitB m s)):=by
 obtain ⟨x,rfl,h⟩:=p282 H.f282 (m0:=m) (s1:=s) (K:=fun x=>x=fitB m s) (by
  unfold T282_0 fitB
  refine ⟨_,c79 H.toHasT.toHasF hmn,fun h1=>⟨_,c203 H.toHasT hs,fun h2=>?_,fun h2=>?_⟩,fun h1=>?_⟩
  ·have hm:=OkI.of (by simpa using h1)
   have hw:=WfS.of hs (by simpa using h2)
   refine ⟨_,c214 H.toHasT hm hw,?_⟩
   rw [h1,h2]
   unfold fitSR
   cases fitS m s<;>rfl
  ·rw [h1,h2];rfl
  ·rw [h1];rfl)
 exact h
theorem law278 (hf:prog.fn 278=some pf278) {m:Img} (hmn:m.funcs.length≤9223372036854775807) {s:Sta} (hs0:WfS0 s) (name:Bytes) (key:Int):Pus prog 278 [m.av,s.av,.s name,.i .i64 key] (.b true):=by
 obtain ⟨x,rfl,h⟩:=p278 hf (m0:=m) (s1:=s) (name2:=name) (key3:=key) (K:=fun x=>x=true) (by
  unfold T278_0 T278_1 T278_2
  refine ⟨_,c256 H.toHasW,_,c282 H hmn hs0,fun _=>rfl,fun hfit=>⟨fun _=>rfl,fun hnl=>⟨fun h=>(by cases h),fun _=>?_⟩⟩⟩
  obtain ⟨hm,hs,hf⟩:=fitB_true (by simpa using hfit) hs0
  have hnl:name.length≤16:=by omega
  have a7:=c264 H.toHasV (q:=⟨7,0,0,0,name⟩) hm hs
  have a8:=c264 H.toHasV (q:=⟨8,0,0,0,name⟩) hm hs
  have a6:=c264 H.toHasV (q:=⟨6,0,0,key,[]⟩) hm hs
  rw [ans7 hnl hf] at a7
  rw [ans8 hnl hf] at a8
  rw [ans6 hf] at a6
  obtain ⟨_,l6,l7,l8,_⟩:=ans_len hs hf ⟨6,0,0,key,name⟩
  have l6:(waitsL key s).length≤100000000:=l6
  have l7:(eachL (inL m name) s).length≤100000000:=l7
  have l8:(eachL (slotL m name) s).length≤100000000:=l8
  obtain ⟨_,_,hn,_,hgs⟩:=fitS_iff hf
  unfold T278_3 T278_4 T278_5 T278_6
  refine ⟨_,_,a7,_,_,a8,_,_,a6,fun h=>absurd rfl h,fun _=>⟨fun h=>absurd rfl h,fun _=>⟨fun h=>absurd rfl h,fun _=>?_⟩⟩⟩
  unfold T278_7 T278_8 T278_9
  intro P0 hP0
  let fa:Nat→Rou→List Bytes:=fun g x=>idxT (inL m name g) 0 x.frames
  let fb:Nat→Rou→List Bytes:=fun g x=>idxT (slotL m name g) 0 x.frames
  refine loop_inv (P:=fun (t:List Bytes × List Bytes × List Bytes) i=>P0 t.1 t.2.1 t.2.2 i m s) (fun i=>(idxT fa 0 (s.routines.take i),idxT fb 0 (s.routines.take i),idxT (wtL key) 0 (s.routines.take i))) s.routines.length (fun _=>True) trivial (fun _=>hP0 _ _ _ _ _ _ ?_) fun g hgi _ next=>hP0 _ _ _ _ _ _ ?_
  ·rw [List.take_length]
   unfold T278_10 T278_26
   refine ⟨fun h=>absurd h (by omega),fun _=>⟨fun _=>⟨_,c29 H.toHas03 (Nat.le_trans l7 (by decide)),fun _=>⟨_,c29 H.toHas03 (Nat.le_trans l8 (by decide)),fun _=>⟨_,c29 H.toHas03 (Nat.le_trans l6 (by decide)),decide_eq_true rfl⟩,fun h=>absurd rfl (of_decide_eq_false h)⟩,fun h=>absurd rfl (of_decide_eq_false h)⟩,fun h=>(by cases h)⟩⟩
  have next:P0 (idxT fa 0 (s.routines.take (g+1))) (idxT fb 0 (s.routines.take (g+1))) (idxT (wtL key) 0 (s.routines.take (g+1))) ((g+1:Nat):Int) m s:=next trivial
  have la:(idxT fa 0 (s.routines.take (g+1))).length≤100000000:=Nat.le_trans (idxT_le fa s.routines (g+1)) l7
  have lb:(idxT fb 0 (s.routines.take (g+1))).length≤100000000:=Nat.le_trans (idxT_le fb s.routines (g+1)) l8
  have lc:(idxT (wtL key) 0 (s.routines.take (g+1))).length≤100000000:=Nat.le_trans (idxT_le (wtL key) s.routines (g+1)) l6
  rw [idxT_take fa hgi] at next la
  rw [idxT_take fb hgi] at next lb
  rw [idxT_take (wtL key) hgi] at next lc
  rw [List.length_append] at la lb lc
  have h0:=Go0.of (hgs _ (List.getElem_mem hgi))
  have hwx:=hs.r _ (List.getElem_mem hgi)
  unfold T278_10 T278_11
  refine ⟨fun _=>⟨by omega,_,get_at hgi,?_⟩,fun h=>absurd (show (g:Int)<s.routines.length by omega) h⟩
  show T278_12 prog _ P0 name key true _ _ _ (idxT fa 0 (s.routines.take g)) (idxT fb 0 (s.routines.take g)) (idxT (wtL key) 0 (s.routines.take g)) (g:Int) m s s.routines[g]
  generalize idxT fa 0 (s.routines.take g)=a at *
  generalize idxT fb 0 (s.routines.take g)=b at *
  generalize idxT (wtL key) 0 (s.routines.take g)=c at *
  generalize s.routines[g]=x at *
  have hfl:=h0.f
  have lg:=num_len g
  -- the frames
  have t15 :∀c',c'=c++wtL key g x→T278_15 prog (fun x=>x=true) P0 name key true (eachL (inL m name) s) (eachL (slotL m name) s) (waitsL key s) a b c' (g:Int) (num g) m s x:=fun c' hc=>by
   unfold T278_15 T278_16
   intro P1 hP1
   have:=loop_inv (P:=fun (t:List Bytes × List Bytes) k=>P1 t.1 t.2 k m s x) (fun k=>(a++idxT (inL m name g) 0 (x.frames.take k),b++idxT (slotL m name g) 0 (x.frames.take k))) x.frames.length (fun _=>True) trivial (fun _=>hP1 _ _ _ _ _ _ ?_) fun k hki _ next1=>hP1 _ _ _ _ _ _ ?_
   ·simpa [idxT] using this
   ·rw [List.take_length]
    unfold T278_17 T278_25
    refine ⟨fun h=>absurd h (by omega),fun _=>?_⟩
    rw [wr_nat (by omega),hc]
    exact next
   have next1:P1 (a++idxT (inL m name g) 0 (x.frames.take (k+1))) (b++idxT (slotL m name g) 0 (x.frames.take (k+1))) ((k+1:Nat):Int) m s x:=next1 trivial
   have ma:(idxT (inL m name g) 0 (x.frames.take (k+1))).length≤(fa g x).length:=idxT_le _ _ _
   have mb:(idxT (slotL m name g) 0 (x.frames.take (k+1))).length≤(fb g x).length:=idxT_le _ _ _
   rw [idxT_take _ hki] at next1 ma
   rw [idxT_take _ hki] at next1 mb
   rw [← List.append_assoc,← List.append_assoc] at next1
   rw [List.length_append] at ma mb
   have hb:=h0.fb _ (List.getElem_mem hki)
   have hwf:=hwx.f _ (List.getElem_mem hki)
   unfold T278_17 T278_18
   refine ⟨fun _=>⟨by omega,_,get_at hki,?_⟩,fun h=>absurd (show (k:Int)<x.frames.length by omega) h⟩
   show T278_19 prog _ P1 P0 name key true _ _ _ (a++idxT (inL m name g) 0 (x.frames.take k)) (b++idxT (slotL m name g) 0 (x.frames.take k)) c' (g:Int) (num g) (k:Int) m s x x.frames[k]
   have ea:(a++idxT (inL m name g) 0 (x.frames.take k)).length=a.length+(idxT (inL m name g) 0 (x.frames.take k)).length:=List.length_append
   have eb:(b++idxT (slotL m name g) 0 (x.frames.take k)).length=b.length+(idxT (slotL m name g) 0 (x.frames.take k)).length:=List.length_append
   generalize a++idxT (inL m name g) 0 (x.frames.take k)=a1 at *
   generalize b++idxT (slotL m name g) 0 (x.frames.take k)=b1 at *
   generalize x.frames[k]=y at *
   obtain ⟨f0,_,f,hff,hfit⟩:=fitb_iff.1 hb
   obtain ⟨q1,_,p0,p1,_,ha⟩:=fitF_iff.1 hfit
   have hcode:=(hm.f f (List.mem_of_getElem? hff)).2.2.1
   have hll:y.locals.length≤16:=by
    rcases asc_len ha with e | e
    ·rw [e];simp
    ·omega
   have lk:=num_len k
   have lp:=num_len y.pos
   have en:nameAt m y.func=f.name:=by unfold nameAt;rw [hff];rfl
   -- the locals
   have t21 :∀a',a'=a1++inL m name g k y→T278_21 prog (fun x=>x=true) P1 P0 name key true (eachL (inL m name) s) (eachL (slotL m name) s) (waitsL key s) a' b1 c' (g:Int) (num g) (k:Int) (num g++[32]++num k) m s x y:=fun a' ha'=>by
    unfold T278_21
    intro P2 hP2
    refine loop_lst (P:=fun o n=>P2 o n m s x y) b1 y.locals (fun _ l=>slL m name g k y l) (hP2 _ _ _ _ _ _ ?_) fun n hni r hlen3 next3=>hP2 _ _ _ _ _ _ ?_
    ·unfold T278_22 T278_24
     refine ⟨fun h=>absurd h (by omega),fun _=>?_⟩
     rw [wr_nat (by omega),ha']
     exact next1
    have e4:(b1++idxT (fun _ l=>slL m name g k y l) 0 y.locals).length=b1.length+(slotL m name g k y).length:=List.length_append
    rw [e4] at hlen3
    have hmm:=asc_mem ha _ (List.getElem_mem hni)
    have hwv:=hwf.v _ (List.getElem_mem hni)
    unfold T278_22
    have hg:=get_at hni
    generalize y.locals[n]=z at *
    obtain ⟨s1,s2,s3⟩:=hmm
    have hs':(z.slot).toNat<f.slots.length:=by omega
    have e:slotAt m y z=f.slots[(z.slot).toNat].name:=by
     unfold slotAt slotN
     rw [hff]
     show ((f.slots[(z.slot).toNat]?).getD Fld.zero).name=_
     rw [List.getElem?_eq_getElem hs']
     rfl
    have hv:chkR z.value=0:=by unfold chkR;rw [if_pos s3]
    have cv:=c72 H.toHasT.toHasF.toHas38 hwv
    rw [if_pos s3] at cv
    refine ⟨fun _=>⟨by omega,z,hg,_,_,cv,fun h=>absurd hv h,fun _=>⟨f0,f,hff,by omega,z,hg,by omega,_,List.getElem?_eq_getElem hs',fun he=>?_,fun he=>?_⟩⟩,fun h=>absurd (show (n:Int)<y.locals.length by omega) h⟩
    ·have e0:slL m name g k y z=[num g++[32]++num k++[32]++num z.slot++[32,61,32]++txt z.value]:=by unfold slL;rw [e,if_pos he]
     rw [e0] at next3 hlen3
     have l4:=fine_len s3
     have ls:=num_len z.slot
     simp only [List.length_append,List.length_cons,List.length_nil] at hlen3
     unfold T278_23
     refine ⟨?_,by omega,z,hg,_,c16 H.toHas03 (by omega) (by omega),?_,?_,?_,fits16 ?_,?_⟩
     case refine_6=>rw [wr_nat (by omega)];exact next3
     case refine_5=>simp only [List.length_cons,List.length_nil];omega
     all_goals (rw [maxStr_eq];simp only [List.length_append,List.length_cons,List.length_nil];omega)
    ·have e0:slL m name g k y z=[]:=by unfold slL;rw [e,if_neg he]
     rw [e0,List.append_nil] at next3
     unfold T278_23
     rw [wr_nat (by omega)]
     exact next3
   unfold T278_19 T278_20
   refine ⟨?_,_,c16 H.toHas03 (by omega) (by omega),?_,f0,f,hff,fun he=>⟨?_,_,c16 H.toHas03 (by omega) (by omega),?_,fits16 ?_,?_⟩,fun he=>t21 a1 ?_⟩
   case refine_6=>
    have e0:inL m name g k y=[num g++[32]++num k++[32,97,116,32]++num y.pos]:=by unfold inL;rw [en,if_pos he]
    have t:=t21 _ rfl
    rw [e0] at t
    exact t
   case refine_7=>
    have e0:inL m name g k y=[]:=by unfold inL;rw [en,if_neg he]
    rw [e0,List.append_nil]
   case refine_5=>
    simp only [List.length_cons,List.length_nil]
    omega
   all_goals (rw [maxStr_eq];simp only [List.length_append,List.length_cons,List.length_nil];omega)
  have no:¬(x.status=2∧x.key=key)→T278_15 prog (fun x=>x=true) P0 name key true (eachL (inL m name) s) (eachL (slotL m name) s) (waitsL key s) a b c (g:Int) (num g) m s x:=fun hno=>t15 c (by
   have:wtL key g x=[]:=by unfold wtL;rw [if_neg hno]
   rw [this,List.append_nil])
  unfold T278_12 T278_13 T278_14
  refine ⟨_,c16 H.toHas03 (by omega) (by omega),fun h2=>⟨fun hk=>?_,fun hk=>no fun h=>?_⟩,fun h2=>⟨fun h=>(by cases h),fun _=>no fun h=>h2 h.1⟩⟩
  ·have hk:x.key=key:=of_decide_eq_true hk
   have e0:wtL key g x=[[103,111,114,111,117,116,105,110,101,32]++num g]:=by unfold wtL;rw [if_pos ⟨h2,hk⟩]
   have t:=t15 _ rfl
   rw [e0] at t lc
   refine ⟨?_,fits16 ?_,t⟩
   ·rw [maxStr_eq];simp only [List.length_append,List.length_cons,List.length_nil];omega
   ·simp only [List.length_cons,List.length_nil] at lc ⊢;omega
  ·have hk:=of_decide_eq_false hk
   exact hk h.2)
 exact h
end
end Go.AM

/- The statement QueryEach: for every input the law returns true, and each argument reads afterwards as before. No conditions. -/
namespace Go.Proofs.YtbcdfamilcmjnaaGreat.QueryEachProof
open Go Go.AM Go.RowKit Go.ChangeShapes Go.WideShapes Go.ChangeAt

theorem ok278 : FnOk Tryz.prog X 4 pf278 := FnOk.of Tryz.func4 (by kernel_rfl) (by kernel_rfl) (by kernel_rfl) (by kernel_rfl) (by kernel_rfl)
def fns : List (Nat × AF) := [(42, pf42), (46, pf46), (36, pf36), (43, pf43), (47, pf47), (11, pf11), (15, pf15), (21, pf21), (25, pf25), (30, pf30), (34, pf34), (37, pf37), (39, pf39), (45, pf45), (16, pf16), (29, pf29), (35, pf35), (197, pf197), (243, pf243), (245, pf245), (247, pf247), (258, pf258), (260, pf260), (261, pf261), (266, pf266), (267, pf267), (145, pf145), (126, pf126), (71, pf71), (72, pf72), (76, pf76), (77, pf77), (78, pf78), (102, pf102), (103, pf103), (104, pf104), (109, pf109), (110, pf110), (136, pf136), (154, pf154), (158, pf158), (159, pf159), (178, pf178), (183, pf183), (162, pf162), (163, pf163), (169, pf169), (79, pf79), (80, pf80), (82, pf82), (86, pf86), (87, pf87), (111, pf111), (112, pf112), (113, pf113), (122, pf122), (123, pf123), (144, pf144), (203, pf203), (204, pf204), (207, pf207), (213, pf213), (214, pf214), (216, pf216), (219, pf219), (220, pf220), (221, pf221), (224, pf224), (225, pf225), (227, pf227), (228, pf228), (229, pf229), (230, pf230), (231, pf231), (232, pf232), (233, pf233), (234, pf234), (235, pf235), (236, pf236), (237, pf237), (238, pf238), (239, pf239), (264, pf264), (268, pf268), (269, pf269), (270, pf270), (271, pf271), (272, pf272), (273, pf273), (274, pf274), (275, pf275), (276, pf276), (251, pf251), (252, pf252), (253, pf253), (254, pf254), (255, pf255), (256, pf256), (282, pf282), (278, pf278)]
def prog : Prog := ⟨fnOf fns, orcQ, orsB⟩
set_option maxRecDepth 100000 in
theorem fns_ok : FnsOk Tryz.prog X fns fms :=
  And.intro (fun F h => noneF (show (none : Option AF) = some F from h)) (
  And.intro (fun F h => noneF (show (none : Option AF) = some F from h)) (
  And.intro (fun F h => Option.some.inj (show some pf278 = some F from h) ▸ ok278) (
  And.intro (fun F h => noneF (show (none : Option AF) = some F from h)) (
  And.intro (fun F h => Option.some.inj (show some pf79 = some F from h) ▸ ok79) (
  And.intro (fun F h => Option.some.inj (show some pf203 = some F from h) ▸ ok203) (
  And.intro (fun F h => Option.some.inj (show some pf264 = some F from h) ▸ ok264) (
  And.intro (fun F h => noneF (show (none : Option AF) = some F from h)) (
  And.intro (fun F h => Option.some.inj (show some pf254 = some F from h) ▸ ok254) (
  And.intro (fun F h => noneF (show (none : Option AF) = some F from h)) (
  And.intro (fun F h => Option.some.inj (show some pf29 = some F from h) ▸ ok29) (
  And.intro (fun F h => Option.some.inj (show some pf256 = some F from h) ▸ ok256) (
  And.intro (fun F h => Option.some.inj (show some pf282 = some F from h) ▸ ok282) (
  And.intro (fun F h => Option.some.inj (show some pf16 = some F from h) ▸ ok16) (
  And.intro (fun F h => Option.some.inj (show some pf72 = some F from h) ▸ ok72) (
  And.intro (fun F h => Option.some.inj (show some pf207 = some F from h) ▸ ok207) (
  And.intro (fun F h => Option.some.inj (show some pf204 = some F from h) ▸ ok204) (
  And.intro (fun F h => Option.some.inj (show some pf247 = some F from h) ▸ ok247) (
  And.intro (fun F h => Option.some.inj (show some pf213 = some F from h) ▸ ok213) (
  And.intro (fun F h => Option.some.inj (show some pf268 = some F from h) ▸ ok268) (
  And.intro (fun F h => Option.some.inj (show some pf269 = some F from h) ▸ ok269) (
  And.intro (fun F h => Option.some.inj (show some pf270 = some F from h) ▸ ok270) (
  And.intro (fun F h => Option.some.inj (show some pf271 = some F from h) ▸ ok271) (
  And.intro (fun F h => Option.some.inj (show some pf272 = some F from h) ▸ ok272) (
  And.intro (fun F h => Option.some.inj (show some pf273 = some F from h) ▸ ok273) (
  And.intro (fun F h => Option.some.inj (show some pf274 = some F from h) ▸ ok274) (
  And.intro (fun F h => Option.some.inj (show some pf275 = some F from h) ▸ ok275) (
  And.intro (fun F h => noneF (show (none : Option AF) = some F from h)) (
  And.intro (fun F h => Option.some.inj (show some pf214 = some F from h) ▸ ok214) (
  And.intro (fun F h => noneF (show (none : Option AF) = some F from h)) (
  And.intro (fun F h => noneF (show (none : Option AF) = some F from h)) (
  And.intro (fun F h => noneF (show (none : Option AF) = some F from h)) (
  And.intro (fun F h => noneF (show (none : Option AF) = some F from h)) (
  And.intro (fun F h => noneF (show (none : Option AF) = some F from h)) (
  And.intro (fun F h => Option.some.inj (show some pf245 = some F from h) ▸ ok245) (
  And.intro (fun F h => noneF (show (none : Option AF) = some F from h)) (
  And.intro (fun F h => Option.some.inj (show some pf252 = some F from h) ▸ ok252) (
  And.intro (fun F h => Option.some.inj (show some pf253 = some F from h) ▸ ok253) (
  And.intro (fun F h => Option.some.inj (show some pf251 = some F from h) ▸ ok251) (
  And.intro (fun F h => Option.some.inj (show some pf35 = some F from h) ▸ ok35) (
  And.intro (fun F h => Option.some.inj (show some pf76 = some F from h) ▸ ok76) (
  And.intro (fun F h => Option.some.inj (show some pf104 = some F from h) ▸ ok104) (
  And.intro (fun F h => noneF (show (none : Option AF) = some F from h)) (
  And.intro (fun F h => Option.some.inj (show some pf219 = some F from h) ▸ ok219) (
  And.intro (fun F h => Option.some.inj (show some pf220 = some F from h) ▸ ok220) (
  And.intro (fun F h => Option.some.inj (show some pf216 = some F from h) ▸ ok216) (
  And.intro (fun F h => Option.some.inj (show some pf15 = some F from h) ▸ ok15) (
  And.intro (fun F h => Option.some.inj (show some pf162 = some F from h) ▸ ok162) (
  And.intro (fun F h => Option.some.inj (show some pf80 = some F from h) ▸ ok80) (
  And.intro (fun F h => Option.some.inj (show some pf71 = some F from h) ▸ ok71) (
  And.intro (fun F h => Option.some.inj (show some pf224 = some F from h) ▸ ok224) (
  And.intro (fun F h => Option.some.inj (show some pf225 = some F from h) ▸ ok225) (
  And.intro (fun F h => Option.some.inj (show some pf276 = some F from h) ▸ ok276) (
  And.intro (fun F h => Option.some.inj (show some pf258 = some F from h) ▸ ok258) (
  And.intro (fun F h => Option.some.inj (show some pf221 = some F from h) ▸ ok221) (
  And.intro (fun F h => noneF (show (none : Option AF) = some F from h)) (
  And.intro (fun F h => noneF (show (none : Option AF) = some F from h)) (
  And.intro (fun F h => noneF (show (none : Option AF) = some F from h)) (
  And.intro (fun F h => noneF (show (none : Option AF) = some F from h)) (
  And.intro (fun F h => noneF (show (none : Option AF) = some F from h)) (
  And.intro (fun F h => noneF (show (none : Option AF) = some F from h)) (
  And.intro (fun F h => Option.some.inj (show some pf260 = some F from h) ▸ ok260) (
  And.intro (fun F h => Option.some.inj (show some pf261 = some F from h) ▸ ok261) (
  And.intro (fun F h => noneF (show (none : Option AF) = some F from h)) (
  And.intro (fun F h => Option.some.inj (show some pf243 = some F from h) ▸ ok243) (
  And.intro (fun F h => noneF (show (none : Option AF) = some F from h)) (
  And.intro (fun F h => noneF (show (none : Option AF) = some F from h)) (
  And.intro (fun F h => noneF (show (none : Option AF) = some F from h)) (
  And.intro (fun F h => noneF (show (none : Option AF) = some F from h)) (
  And.intro (fun F h => noneF (show (none : Option AF) = some F from h)) (
  And.intro (fun F h => Option.some.inj (show some pf255 = some F from h) ▸ ok255) (
  And.intro (fun F h => Option.some.inj (show some pf109 = some F from h) ▸ ok109) (
  And.intro (fun F h => Option.some.inj (show some pf126 = some F from h) ▸ ok126) (
  And.intro (fun F h => Option.some.inj (show some pf11 = some F from h) ▸ ok11) (
  And.intro (fun F h => Option.some.inj (show some pf227 = some F from h) ▸ ok227) (
  And.intro (fun F h => Option.some.inj (show some pf228 = some F from h) ▸ ok228) (
  And.intro (fun F h => Option.some.inj (show some pf86 = some F from h) ▸ ok86) (
  And.intro (fun F h => Option.some.inj (show some pf229 = some F from h) ▸ ok229) (
  And.intro (fun F h => Option.some.inj (show some pf230 = some F from h) ▸ ok230) (
  And.intro (fun F h => Option.some.inj (show some pf231 = some F from h) ▸ ok231) (
  And.intro (fun F h => Option.some.inj (show some pf232 = some F from h) ▸ ok232) (
  And.intro (fun F h => Option.some.inj (show some pf233 = some F from h) ▸ ok233) (
  And.intro (fun F h => Option.some.inj (show some pf158 = some F from h) ▸ ok158) (
  And.intro (fun F h => Option.some.inj (show some pf82 = some F from h) ▸ ok82) (
  And.intro (fun F h => Option.some.inj (show some pf234 = some F from h) ▸ ok234) (
  And.intro (fun F h => Option.some.inj (show some pf154 = some F from h) ▸ ok154) (
  And.intro (fun F h => Option.some.inj (show some pf34 = some F from h) ▸ ok34) (
  And.intro (fun F h => Option.some.inj (show some pf102 = some F from h) ▸ ok102) (
  And.intro (fun F h => Option.some.inj (show some pf103 = some F from h) ▸ ok103) (
  And.intro (fun F h => Option.some.inj (show some pf236 = some F from h) ▸ ok236) (
  And.intro (fun F h => Option.some.inj (show some pf163 = some F from h) ▸ ok163) (
  And.intro (fun F h => Option.some.inj (show some pf87 = some F from h) ▸ ok87) (
  And.intro (fun F h => Option.some.inj (show some pf235 = some F from h) ▸ ok235) (
  And.intro (fun F h => noneF (show (none : Option AF) = some F from h)) (
  And.intro (fun F h => noneF (show (none : Option AF) = some F from h)) (
  And.intro (fun F h => noneF (show (none : Option AF) = some F from h)) (
  And.intro (fun F h => Option.some.inj (show some pf266 = some F from h) ▸ ok266) (
  And.intro (fun F h => Option.some.inj (show some pf267 = some F from h) ▸ ok267) (
  And.intro (fun F h => Option.some.inj (show some pf21 = some F from h) ▸ ok21) (
  And.intro (fun F h => Option.some.inj (show some pf25 = some F from h) ▸ ok25) (
  And.intro (fun F h => noneF (show (none : Option AF) = some F from h)) (
  And.intro (fun F h => noneF (show (none : Option AF) = some F from h)) (
  And.intro (fun F h => Option.some.inj (show some pf145 = some F from h) ▸ ok145) (
  And.intro (fun F h => Option.some.inj (show some pf30 = some F from h) ▸ ok30) (
  And.intro (fun F h => Option.some.inj (show some pf237 = some F from h) ▸ ok237) (
  And.intro (fun F h => Option.some.inj (show some pf122 = some F from h) ▸ ok122) (
  And.intro (fun F h => Option.some.inj (show some pf123 = some F from h) ▸ ok123) (
  And.intro (fun F h => Option.some.inj (show some pf238 = some F from h) ▸ ok238) (
  And.intro (fun F h => Option.some.inj (show some pf239 = some F from h) ▸ ok239) (
  And.intro (fun F h => Option.some.inj (show some pf183 = some F from h) ▸ ok183) (
  And.intro (fun F h => Option.some.inj (show some pf111 = some F from h) ▸ ok111) (
  And.intro (fun F h => Option.some.inj (show some pf112 = some F from h) ▸ ok112) (
  And.intro (fun F h => Option.some.inj (show some pf113 = some F from h) ▸ ok113) (
  And.intro (fun F h => Option.some.inj (show some pf178 = some F from h) ▸ ok178) (
  And.intro (fun F h => Option.some.inj (show some pf159 = some F from h) ▸ ok159) (
  And.intro (fun F h => Option.some.inj (show some pf77 = some F from h) ▸ ok77) (
  And.intro (fun F h => Option.some.inj (show some pf78 = some F from h) ▸ ok78) (
  And.intro (fun F h => Option.some.inj (show some pf197 = some F from h) ▸ ok197) (
  And.intro (fun F h => Option.some.inj (show some pf36 = some F from h) ▸ ok36) (
  And.intro (fun F h => Option.some.inj (show some pf37 = some F from h) ▸ ok37) (
  And.intro (fun F h => Option.some.inj (show some pf39 = some F from h) ▸ ok39) (
  And.intro (fun F h => noneF (show (none : Option AF) = some F from h)) (
  And.intro (fun F h => noneF (show (none : Option AF) = some F from h)) (
  And.intro (fun F h => Option.some.inj (show some pf144 = some F from h) ▸ ok144) (
  And.intro (fun F h => Option.some.inj (show some pf110 = some F from h) ▸ ok110) (
  And.intro (fun F h => Option.some.inj (show some pf47 = some F from h) ▸ ok47) (
  And.intro (fun F h => noneF (show (none : Option AF) = some F from h)) (
  And.intro (fun F h => noneF (show (none : Option AF) = some F from h)) (
  And.intro (fun F h => Option.some.inj (show some pf42 = some F from h) ▸ ok42) (
  And.intro (fun F h => Option.some.inj (show some pf43 = some F from h) ▸ ok43) (
  And.intro (fun F h => Option.some.inj (show some pf45 = some F from h) ▸ ok45) (
  And.intro (fun F h => Option.some.inj (show some pf136 = some F from h) ▸ ok136) (
  And.intro (fun F h => noneF (show (none : Option AF) = some F from h)) (
  And.intro (fun F h => noneF (show (none : Option AF) = some F from h)) (
  And.intro (fun F h => Option.some.inj (show some pf46 = some F from h) ▸ ok46) (
  And.intro (fun F h => noneF (show (none : Option AF) = some F from h)) (
  And.intro (fun F h => noneF (show (none : Option AF) = some F from h)) (
  And.intro (fun F h => noneF (show (none : Option AF) = some F from h)) (trivial))))))))))))))))))))))))))))))))))))))))))))))))))))))))))))))))))))))))))))))))))))))))))))))))))))))))))))))))))))))))))))))))))))))))))
theorem o48_ok : OracOk Tryz.prog X { fn := fnOf fns, orac := orc48 48 } := orc48_ok (f0 := 135) (fun f h => by have := fm_inv h; simpa [fms] using this) Tryz.func135 (by kernel_rfl) (by kernel_rfl) (by kernel_rfl) (by kernel_rfl)
theorem orac_ok : OracOk Tryz.prog X prog := orcQ_ok (orcB_ok o48_ok (f0 := 124) (fun f h => by have := fm_inv h; simpa [fms] using this) Tryz.func124 (by kernel_rfl) (by kernel_rfl) (by kernel_rfl) (by kernel_rfl)) (f0 := 65) (fun f h => by have := fm_inv h; simpa [fms] using this) words_enter
theorem orsB_ok : OracSOk Tryz.prog X prog := Go.AM.orsB_ok Tryz.lays169 Tryz.extraB (fun f h => by have := fm_inv h; have e : f = 44 := (by simpa [fms] using this); exact e) (by kernel_rfl) (by kernel_rfl) Tryz.func44 (by kernel_rfl) rfl
def tl : List Nat := [2, 3, 4, 5, 9, 22, 23, 24, 26, 27, 29, 45, 46, 47, 49, 51, 52, 54, 55, 56, 57, 59, 62, 64, 66, 68, 89, 113, 212, 214, 216]
theorem at_ : LawAt Tryz.prog X prog tl := ⟨tab_ok tys_ok, by kernel_rfl, prog_ok fns_ok.all rfl, orac_ok, orsB_ok, by
    intro t ht
    exact (show ∀ t ∈ tl, okTy X.T tl t = true by decide) t (by simpa using ht)⟩
set_option maxRecDepth 100000 in
theorem has : HasE prog := { f42 := by kernel_rfl, f46 := by kernel_rfl, f36 := by kernel_rfl, f43 := by kernel_rfl, f47 := by kernel_rfl, f11 := by kernel_rfl, f15 := by kernel_rfl, f21 := by kernel_rfl, f25 := by kernel_rfl, f30 := by kernel_rfl, f34 := by kernel_rfl, f37 := by kernel_rfl, f39 := by kernel_rfl, f45 := by kernel_rfl, f16 := by kernel_rfl, f29 := by kernel_rfl, f35 := by kernel_rfl, f197 := by kernel_rfl, f243 := by kernel_rfl, f245 := by kernel_rfl, f247 := by kernel_rfl, f258 := by kernel_rfl, f260 := by kernel_rfl, f261 := by kernel_rfl, f266 := by kernel_rfl, f267 := by kernel_rfl, f145 := by kernel_rfl, f126 := by kernel_rfl, f71 := by kernel_rfl, f72 := by kernel_rfl, f76 := by kernel_rfl, f77 := by kernel_rfl, f78 := by kernel_rfl, f102 := by kernel_rfl, f103 := by kernel_rfl, f104 := by kernel_rfl, f109 := by kernel_rfl, f110 := by kernel_rfl, f136 := by kernel_rfl, f154 := by kernel_rfl, f158 := by kernel_rfl, f159 := by kernel_rfl, f178 := by kernel_rfl, f183 := by kernel_rfl, f162 := by kernel_rfl, f163 := by kernel_rfl, f169 := by kernel_rfl, f79 := by kernel_rfl, f80 := by kernel_rfl, f82 := by kernel_rfl, f86 := by kernel_rfl, f87 := by kernel_rfl, f111 := by kernel_rfl, f112 := by kernel_rfl, f113 := by kernel_rfl, f122 := by kernel_rfl, f123 := by kernel_rfl, f144 := by kernel_rfl, f203 := by kernel_rfl, f204 := by kernel_rfl, f207 := by kernel_rfl, f213 := by kernel_rfl, f214 := by kernel_rfl, f216 := by kernel_rfl, f219 := by kernel_rfl, f220 := by kernel_rfl, f221 := by kernel_rfl, f224 := by kernel_rfl, f225 := by kernel_rfl, f227 := by kernel_rfl, f228 := by kernel_rfl, f229 := by kernel_rfl, f230 := by kernel_rfl, f231 := by kernel_rfl, f232 := by kernel_rfl, f233 := by kernel_rfl, f234 := by kernel_rfl, f235 := by kernel_rfl, f236 := by kernel_rfl, f237 := by kernel_rfl, f238 := by kernel_rfl, f239 := by kernel_rfl, f264 := by kernel_rfl, f268 := by kernel_rfl, f269 := by kernel_rfl, f270 := by kernel_rfl, f271 := by kernel_rfl, f272 := by kernel_rfl, f273 := by kernel_rfl, f274 := by kernel_rfl, f275 := by kernel_rfl, f276 := by kernel_rfl, f251 := by kernel_rfl, f252 := by kernel_rfl, f253 := by kernel_rfl, f254 := by kernel_rfl, f255 := by kernel_rfl, f256 := by kernel_rfl, f282 := by kernel_rfl, f48 := rfl, o48 := orcQ_48, f257 := rfl, o257 := orcQ_257, f146 := rfl, f105 := rfl, o146 := orcQ_146, o105 := orcQ_105, s105 := orsB_105 }
theorem own : ownKnob Tryz.prog.godebug = none := by kernel_rfl
theorem laidOut : laidOutB Tryz.prog = true := by kernel_rfl
theorem wfR_of {x : Rou} (hx : WRou x) : WfR0 x := ⟨hx.status.1, hx.key, fun y hy => ⟨((hx.frames.2 y hy).mode).1, Nat.le_trans (hx.frames.2 y hy).locals.1 (by decide), fun z hz => ((hx.frames.2 y hy).locals.2 z hz).value⟩, fun y hy => (hx.defers.2 y hy).arg, fun y hy => ⟨(hx.panics.2 y hy).tag, (hx.panics.2 y hy).value, (hx.panics.2 y hy).flags⟩, Nat.le_trans hx.frames.1 (by decide), Nat.le_trans hx.defers.1 (by decide), Nat.le_trans hx.panics.1 (by decide)⟩
theorem wfS_of {s : Sta} (hs : WSta s) : WfS0 s := ⟨hs.outcome.1, fun x hx => wfR_of (hs.routines.2 x hx), Nat.le_trans hs.routines.1 (by decide)⟩
theorem typed (avs : List AV) (h : ArgsOk X.T [26, 29, 9, 2] avs) : Pus prog 278 avs (.b true) := by
  match avs, h with
  | [a, b, c, d], ⟨h1, h2, h3, h4, _⟩ =>
    obtain ⟨m, rfl, hm⟩ := ArgOk.isImg tyImg h1
    obtain ⟨s, rfl, hs⟩ := ArgOk.isSta tySta h2
    obtain ⟨n, rfl, _⟩ := ArgOk.str (i := _) rfl rfl h3
    obtain ⟨k, rfl, _⟩ := ArgOk.int (i := _) rfl rfl h4
    exact law278 has rfl (Nat.le_trans hm.funcs.1 (by decide)) (wfS_of hs) n k

set_option maxRecDepth 100000 in
theorem lifted (os : Os) (started : os.Started) (H : Type) (enc : TypeId × Value → H) :
    ReturnsInHanded {} Tryz.checked os 4 .any (Rows.queryEachSpec.pre6 enc Tryz.prog Tryz.f4 Rows.queryEachRow.domain false) (Rows.queryEachSpec.post enc Tryz.prog Tryz.f4 false true false false) := by
  refine returnsInHanded_of_change (C := Tryz.checked) own started (by kernel_rfl) Tryz.func4
    (ChangeSpec.witness6 (enc := enc) (C := Tryz.checked) false ⟨#[], #[.agg #[.slice none 0 0, .slice none 0 0, .slice none 0 0], .agg #[.int .u8 0, .int .i64 0, .int .i64 0, .slice none 0 0], .string ⟨#[]⟩, .int .i64 0], []⟩ 8 (by kernel_rfl) (by kernel_rfl) (by kernel_rfl) (by kernel_rfl)) ?_
  intro W base args ds gs before hval0 hW hcnd _
  have hval : ∀ (j : Nat) t v, Tryz.f4.params[j]? = some t → args[j]? = some v → Value.okWide Tryz.prog W .any base t v := hval0
  have hW' := hW
  obtain ⟨p, q, hA0, hV, rfl, hfz, hnd⟩ := hW
  have hA : DataW.TrodAll enc Tryz.prog W 0 (fun _ => true) true Tryz.f4.params.toList args.toList ds p := hA0
  rw [Tryz.params4] at hA hval
  obtain ⟨rfl, rfl⟩ := trodVars_none hV
  obtain ⟨avs, hR, hok⟩ := args_read at_.T at_.types (ts := [26, 29, 9, 2]) (by decide) (fun j t v h1 h2 => hval j t v (by simpa using h1) (by simpa using h2)) hA
  have hlt := args_lt hA
  have hlen := trod_len hA
  refine (law_calls at_ (f := 4) (c := 278) rfl (ok278.enters _ _) hR (typed avs hok)).mono fun e W' ⟨he, bel⟩ => ?_
  subst he
  have hB := args_below laidOut bel (by kernel_rfl) hA hlt
  obtain ⟨d0, d1, d2, d3, rfl⟩ := ds4 hlen
  exact ⟨_, rfl, _, _, _, [], _, [], hW', trodAll_mk1 (shut_bool Tryz.underlying4 _), hB, rfl, bel.frame _, fun h => by cases h⟩

theorem over : Rows.queryEachRow.holds Tryz.pinned (OpenSpec.ofChange Rows.queryEachSpec) :=
  OpenClaim.holds_of_wide 4 Tryz.f4 rfl rfl rfl rfl rfl rfl rfl ⟨rfl, rfl, rfl, rfl, rfl⟩ rfl rfl rfl rfl rfl (by kernel_rfl) Tryz.func4 (by kernel_rfl)
    (of_decide_eq_true (by kernel_rfl)) (by unfold Func.isWrapper; rw [if_neg (of_decide_eq_false (by kernel_rfl))]; exact ⟨rfl, rfl⟩)
    (fun os started H enc _ => lifted os started H enc)

/-- The statement. -/
theorem proved : Rows.QueryEachSaid := over
#print axioms proved
end Go.Proofs.YtbcdfamilcmjnaaGreat.QueryEachProof
