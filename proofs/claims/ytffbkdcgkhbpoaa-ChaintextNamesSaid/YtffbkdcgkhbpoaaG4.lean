/- Parts of the proof: C30b, V38b, V38c, V39, V39b, C38, C38b, C38c, C38d, C38e, C38f, C38g, C39, C39b, C39c, V39c, C39d, C39e, C39f, Rh, Ri, Rj, Rk, Rl, Rm, U39g, H44. -/
import Derived.Test.YtffbkdcgkhbpoaaG2
import Derived.Test.YtffbkdcgkhbpoaaG3
import Derived.LoopNIn
import Derived.Test.YtffbkdcgkhbpoaaG1
import Derived.Maps.RangeRun
set_option linter.all false
namespace Go.AM
open Go
def cutp (p s:Bytes):Bytes × Bool:=if s.take p.length=p then (s.drop p.length,true) else (s,false)
def EscK (s:Bytes) (c:Int) (r:Bytes) (ok:Bool):Prop:=match esc s with | some (x,y)=>c=(x.toNat:Int)∧r=y∧ok=true | none=>ok=false
theorem EscK.yes {s:Bytes} {x:UInt8} {y:Bytes} {c:Int} (h:esc s=some (x,y)) (hc:c=(x.toNat:Int)):EscK s c y true:=by
 unfold EscK;rw [h];exact ⟨hc,rfl,rfl⟩
theorem EscK.no {s:Bytes} {c:Int} {y:Bytes} (h:esc s=none):EscK s c y false:=by
 unfold EscK;rw [h]
section
variable {prog:Prog} (H:Has03 prog)
include H
theorem c46 (s p:Bytes):Pus prog 46 [.s s,.s p] (.b (decide (s.take p.length=p))):=by
 obtain ⟨x,rfl,h⟩:=p46 H.f46 (s0:=s) (prefix1:=p) (K:=fun x=>x=decide (s.take p.length=p)) (by
  unfold T46_0
  refine ⟨fun h=>⟨by omega,by omega,rfl⟩,fun h=>?_⟩
  refine (decide_eq_false fun h1=>?_).symm
  have:=congrArg List.length h1
  simp only [List.length_take] at this
  omega)
 exact h
theorem c42 (s p:Bytes):Pus prog 42 [.s s,.s p] (.tup [.s (cutp p s).1,.b (cutp p s).2]):=by
 obtain ⟨x,y,⟨rfl,rfl⟩,h⟩:=p42 H.f42 (s0:=s) (prefix1:=p) (K:=fun x y=>x=(cutp p s).1∧y=(cutp p s).2) (by
  unfold T42_0 cutp
  refine ⟨_,c46 H s p,fun h=>?_,fun h=>?_⟩
  ·have h1:¬ s.take p.length=p:=by simpa using h
   rw [if_neg h1];exact ⟨rfl,rfl⟩
  ·have h1:s.take p.length=p:=by simpa using h
   have h2:=congrArg List.length h1
   simp only [List.length_take] at h2
   rw [if_pos h1];exact ⟨by omega,by omega,rfl,rfl⟩)
 exact h
theorem c36 (s p:Bytes):Pus prog 36 [.s s,.s p] (.tup [.s (cutp p s).1,.b (cutp p s).2]):=by
 obtain ⟨x,y,⟨rfl,rfl⟩,h⟩:=p36 H.f36 (s0:=s) (prefix1:=p) (K:=fun x y=>x=(cutp p s).1∧y=(cutp p s).2) (by
  unfold T36_0
  exact ⟨_,_,c42 H s p,rfl,rfl⟩)
 exact h
theorem c47 (s:Bytes) (c:UInt8):Pus prog 47 [.s s,.i .u8 (c.toNat:Int)] (.i .i64 (Lib.indexByte s c)):=by
 obtain ⟨x,rfl,h⟩:=p47 H.f47 (s0:=s) (c1:=(c.toNat:Int)) (K:=fun x=>x=Lib.indexByte s c) (by
  unfold T47_0
  exact ⟨_,Pus.orac H.f48 (H.o48 s c) rfl,rfl⟩)
 exact h
theorem c43 (s:Bytes) (c:UInt8):Pus prog 43 [.s s,.i .u8 (c.toNat:Int)] (.i .i64 (Lib.indexByte s c)):=by
 obtain ⟨x,rfl,h⟩:=p43 H.f43 (s0:=s) (c1:=(c.toNat:Int)) (K:=fun x=>x=Lib.indexByte s c) (by
  unfold T43_0
  exact ⟨_,c47 H s c,rfl⟩)
 exact h
theorem c37 {b most:Nat} (hb:2≤b) (hb':b≤16) (hm:16≤most) (hm':most<18446744073709551616) {s:Bytes} (hs:s.length≤10000000):Pus prog 37 [.s s,.i .u64 (b:Int),.i .u64 (most:Int)] (.tup [.i .u64 ((rd b most s).1:Int),.i .i64 (rd b most s).2]):=by
 obtain ⟨x,y,⟨rfl,rfl⟩,h⟩:=p37 H.f37 (s0:=s) (base1:=(b:Int)) (most2:=(most:Int)) (K:=fun x y=>x=((rd b most s).1:Int)∧y=(rd b most s).2) (by
  unfold T37_0 T37_1 T37_2
  intro P hP
  have key :∀m i:Nat,i+m=s.length→okd b (s.take i)=true→(2≤i→s.head?≠some 48)→∀(n:Nat) (far:Bool),(far=false→n=vals b (s.take i)∧n≤most)→(far=true→most<vals b (s.take i))→P (n:Int) far (i:Int):=by
   intro m
   induction m with
   | zero=>
    intro i hi ho h48 n far h0 h1
    simp only [Nat.add_zero] at hi
    subst hi
    rw [List.take_length] at ho h0 h1
    apply hP
    unfold T37_3 T37_5
    refine ⟨fun h=>absurd h (by omega),fun _=>⟨fun h=>?_,fun h=>?_⟩⟩
    ·subst h;exact ⟨rfl,rfl⟩
    ·have hbad:badn b s=false:=by
      unfold badn
      rw [decide_eq_false h,ho]
      simp only [Bool.false_or,Bool.not_true]
      by_cases h2:1<s.length
      ·rw [decide_eq_false (h48 h2),Bool.and_false]
      ·rw [decide_eq_false h2,Bool.false_and]
     refine ⟨fun hf=>?_,fun hf=>?_⟩
     ·unfold rd
      rw [if_neg (by rw [hbad];decide),if_pos (h1 hf)]
      exact ⟨rfl,rfl⟩
     ·obtain ⟨h2,h3⟩:=h0 hf
      unfold rd
      rw [if_neg (by rw [hbad];decide),if_neg (by omega),h2]
      exact ⟨rfl,rfl⟩
   | succ m ih=>
    intro i hi ho h48 n far h0 h1
    have hil:i<s.length:=by omega
    have hd:=dv_lt hb' s[i]
    have hv:=vals_take (b:=b) hil
    have hk:=okd_take (b:=b) hil
    have bad12:badn b s=true→(0:Int)=((rd b most s).1:Int)∧(12:Int)=(rd b most s).2:=by
     intro h
     unfold rd
     rw [if_pos h]
     exact ⟨rfl,rfl⟩
    apply hP
    unfold T37_3 T37_4
    refine ⟨fun _=>⟨by omega,by rw [toNat_cast];exact hb',by omega,s[i],by rw [toNat_cast,List.getElem?_eq_getElem hil],dv b s[i],c43 H _ _,fun h=>?_,fun h=>?_⟩,fun h=>absurd h (by omega)⟩
    ·refine bad12 ?_
     unfold badn
     rw [okd_of hil h]
     simp
    ·have hd0:0≤dv b s[i]:=by omega
     rw [ho,decide_eq_true hd0,Bool.and_true] at hk
     generalize hdd:(dv b s[i]).toNat=d at hv
     have hdi:dv b s[i]=(d:Int):=by omega
     have e1:IntKind.u64.wrap (dv b s[i])=(d:Int):=by rw [hdi];exact wr_u64_nat (by omega)
     have e2:IntKind.u64.wrap ((most:Int)-(d:Int))=((most-d:Nat):Int):=by rw [wr_u64 (by omega) (by omega)];omega
     have e3:(((most-d:Nat):Int)).tdiv (b:Int)=(((most-d) / b:Nat):Int):=by rw [Int.tdiv_eq_ediv_of_nonneg (by omega)];omega
     have hq:(most-d) / b≤most-d:=Nat.div_le_self _ _
     have e4:IntKind.u64.wrap (((most-d) / b:Nat):Int)=(((most-d) / b:Nat):Int):=wr_u64_nat (by omega)
     have hfi:=far_iff (n:=n) (show 0<b by omega) (show d≤most by omega)
     rw [wr_succ (by omega)]
     simp only [e1,e2,e3,e4]
     have go:(2≤i+1→s.head?≠some 48)→(far=true→P (n:Int) true ((i+1:Nat):Int))∧(far=false→(b:Int)≠0∧(¬((n:Int)>(((most-d) / b:Nat):Int))→P (IntKind.u64.wrap ((IntKind.u64.wrap ((n:Int)*(b:Int)))+(d:Int))) (decide ((n:Int)>(((most-d) / b:Nat):Int))) ((i+1:Nat):Int))∧(¬(¬((n:Int)>(((most-d) / b:Nat):Int)))→P (n:Int) (decide ((n:Int)>(((most-d) / b:Nat):Int))) ((i+1:Nat):Int))):=by
      intro h2
      refine ⟨fun hf=>?_,fun hf=>⟨by omega,fun h3=>?_,fun h3=>?_⟩⟩
      ·refine ih (i+1) (by omega) hk h2 n true (fun h=>by cases h) fun _=>?_
       rw [hv]
       have h4:=h1 hf
       have:vals b (s.take i)≤vals b (s.take i)*b:=Nat.le_mul_of_pos_right _ (by omega)
       omega
      ·obtain ⟨h4,h5⟩:=h0 hf
       have h6:n*b+d≤most:=by
        have:¬ (most-d) / b<n:=by omega
        rw [hfi] at this
        omega
       have hnb:(n:Int)*(b:Int)=((n*b:Nat):Int):=by rw [Int.natCast_mul]
       have e5:IntKind.u64.wrap ((n:Int)*(b:Int))=((n*b:Nat):Int):=by rw [hnb];exact wr_u64_nat (by omega)
       have e6:IntKind.u64.wrap (((n*b:Nat):Int)+(d:Int))=((n*b+d:Nat):Int):=by rw [wr_u64 (by omega) (by omega)];omega
       rw [e5,e6,decide_eq_false h3]
       refine ih (i+1) (by omega) hk h2 _ false (fun _=>⟨?_,h6⟩) fun h=>by cases h
       rw [hv,h4]
      ·have h3':(n:Int)>(((most-d) / b:Nat):Int):=by omega
       obtain ⟨h4,h5⟩:=h0 hf
       rw [decide_eq_true h3']
       refine ih (i+1) (by omega) hk h2 n true (fun h=>by cases h) fun _=>?_
       rw [hv,← h4]
       exact hfi.1 (Int.ofNat_lt.1 h3')
     have hd0:s.head?=s[0]?:=List.head?_eq_getElem?
     refine ⟨fun hi1=>?_,fun hi1=>?_⟩
     ·have h0s:s[0]?=some s[0]:=List.getElem?_eq_getElem (by omega)
      refine ⟨s[0],h0s,fun h2=>?_,fun h2=>?_⟩
      ·refine bad12 ?_
       have h3:s[0]=48:=u8_eq (by have e:(48:UInt8).toNat=48:=rfl;omega)
       unfold badn
       rw [decide_eq_true (show 1<s.length by omega),decide_eq_true (show s.head?=some 48 by rw [hd0,h0s,h3])]
       simp
      ·refine go fun _=>?_
       rw [hd0,h0s]
       intro h3
       injection h3 with h3
       exact h2 (by rw [h3];rfl)
     ·refine go fun h2=>?_
      have h3:i≠1:=by omega
      have h4:i≠0:=by omega
      exact h48 (by omega)
  exact key s.length 0 (by omega) rfl (by omega) 0 false (fun _=>⟨rfl,by omega⟩) fun h=>by cases h)
 exact h
theorem c21 (s:Bytes):Pus prog 21 [.s s] (.tup [.i .i64 (unnum s).1,.i .i64 (unnum s).2]):=by
 obtain ⟨x,y,⟨rfl,rfl⟩,h⟩:=p21 H.f21 (s0:=s) (K:=fun x y=>x=(unnum s).1∧y=(unnum s).2) (by
  unfold T21_0 T21_1
  refine ⟨fun h=>by unfold unnum;rw [if_pos (by omega)];exact ⟨rfl,rfl⟩,fun hs=>⟨_,_,c36 H s [45],?_⟩⟩
  unfold unnum
  rw [if_neg (by omega)]
  by_cases hm:s.take 1=[45]
  ·have ec:cutp [45] s=(s.drop 1,true):=by unfold cutp;rw [if_pos (by exact hm)];rfl
   rw [ec,if_pos hm]
   refine ⟨fun h=>by simp at h,fun _=>?_⟩
   have hl:=rd_le 10 9223372036854775808 (s.drop 1)
   refine ⟨_,_,c37 H (b:=10) (most:=9223372036854775808) (by omega) (by omega) (by omega) (by omega) (s:=s.drop 1) (by simp;omega),fun h=>⟨fun h0=>?_,fun h0=>?_⟩,fun h=>?_⟩
   ·have e:(rd 10 9223372036854775808 (s.drop 1)).1=0:=by omega
    rw [if_pos ⟨h,e⟩,e]
    exact ⟨rfl,rfl⟩
   ·rw [if_neg (fun hh=>h0 (by rw [hh.2];rfl))]
    refine ⟨?_,rfl⟩
    rw [IntKind.wrap_u64,IntKind.wrap_i64]
    simp only
    omega
   ·have e:=rd_err h
    rw [if_neg (fun hh=>h hh.1),e]
    exact ⟨rfl,rfl⟩
  ·have ec:cutp [45] s=(s,false):=by unfold cutp;rw [if_neg (by exact hm)]
   rw [ec,if_neg hm]
   refine ⟨fun _=>?_,fun h=>by simp at h⟩
   have hl:=rd_le 10 9223372036854775807 s
   exact ⟨_,_,c37 H (b:=10) (most:=9223372036854775807) (by omega) (by omega) (by omega) (by omega) (s:=s) (by omega),wr_i64 (by omega) (by omega),rfl⟩)
 exact h
theorem c45 (s:Bytes) :∃c r ok,EscK s c r ok∧Pus prog 45 [.s s] (.tup [.i .u8 c,.s r,.b ok]):=by
 refine p45 H.f45 (s0:=s) (K:=EscK s) ?_
 unfold T45_0 T45_1
 refine ⟨fun h=>by subst h;exact EscK.no rfl,fun h=>?_⟩
 cases s with
 | nil=>exact absurd rfl h
 | cons c r=>
  have lit :∀{n:Nat} (_:n<256),(UInt8.ofNat n).toNat=n:=by intro n hn;simp;omega
  unfold T45_2
  refine ⟨c,rfl,?_⟩
  have t4:T45_4 prog (EscK (c::r)) (c::r) (c.toNat:Int) (decide (c.toNat=34∨c.toNat=92)):=by
   unfold T45_4
   refine ⟨fun h1=>⟨c,rfl,by simp,?_⟩,fun h1=>?_⟩
   ·have h1:=of_decide_eq_true h1
    exact EscK.yes (show (if c.toNat=34∨c.toNat=92 then some (c,r) else _)=some (c,r) from if_pos h1) rfl
   ·have h1:=of_decide_eq_false h1
    have e0:esc (c::r)=if c.toNat=110 then some (10,r) else if c.toNat=120 then esx r else none:=by
     show (if c.toNat=34∨c.toNat=92 then some (c,r) else if c.toNat=110 then some (10,r) else if c.toNat=120 then esx r else none)=_
     rw [if_neg h1]
    refine ⟨fun h2=>⟨by simp,?_⟩,fun h2=>⟨fun h3=>?_,fun h3=>?_⟩⟩
    ·exact EscK.yes (by rw [e0,if_pos (by omega)];rfl) rfl
    ·have e:esc (c::r)=esx r:=by rw [e0,if_neg (by omega),if_pos (by omega)]
     refine ⟨fun h4=>?_,fun h4=>?_⟩
     ·refine EscK.no ?_
      rw [e]
      match r,h4 with
      | [],_=>rfl
      | [a],_=>rfl
      | a::b::r',h4=>simp at h4;omega
     ·match r,h4,e with
      | [],h4,_=>exact absurd (by simp) h4
      | [a],h4,_=>exact absurd (by simp) h4
      | a::b::r',_,e=>
       have la:=dv_lt (b:=16) (by omega) a
       have lb:=dv_lt (b:=16) (by omega) b
       have ca:Pus prog 43 [.s DIG,.i .u8 (a.toNat:Int)] (.i .i64 (dv 16 a)):=c43 H DIG a
       have cb:Pus prog 43 [.s DIG,.i .u8 (b.toNat:Int)] (.i .i64 (dv 16 b)):=c43 H DIG b
       refine ⟨a,rfl,_,ca,b,rfl,_,cb,by simp,?_⟩
       simp only [esx] at e
       by_cases hv:0≤dv 16 a∧0≤dv 16 b
       ·have hw:IntKind.u8.wrap (IntKind.i64.wrap ((IntKind.i64.wrap (16*dv 16 a))+dv 16 b))=16*dv 16 a+dv 16 b:=by
         rw [wr_i64 (z:=16*dv 16 a) (by omega) (by omega),wr_i64 (by omega) (by omega),wr_u8 (by omega) (by omega)]
        have en:=lit (n:=(16*dv 16 a+dv 16 b).toNat) (by omega)
        rw [hw]
        refine ⟨fun _=>⟨fun _=>⟨fun h5=>⟨fun h6=>?_,fun h6=>?_⟩,fun h5=>?_⟩,fun h5=>absurd hv.2 h5⟩,fun h5=>absurd hv.1 h5⟩
        ·rw [if_pos ⟨hv.1,hv.2,by omega,by omega⟩] at e
         exact EscK.yes e (by rw [en];omega)
        ·by_cases h7:126<16*dv 16 a+dv 16 b
         ·rw [if_pos ⟨hv.1,hv.2,by omega,by omega⟩] at e
          rw [decide_eq_true h7]
          exact EscK.yes e (by rw [en];omega)
         ·rw [if_neg (by omega)] at e
          rw [decide_eq_false h7]
          exact EscK.no e
        ·rw [if_neg (by omega)] at e
         exact EscK.no e
       ·rw [if_neg (by omega)] at e
        exact ⟨fun h5=>⟨fun h6=>absurd ⟨h5,h6⟩ hv,fun _=>EscK.no e⟩,fun _=>EscK.no e⟩
    ·exact EscK.no (by rw [e0,if_neg (by omega),if_neg (by omega)])
  unfold T45_3
  refine ⟨fun h1=>?_,fun h1=>?_⟩
  ·rw [show decide ((c.toNat:Int)=34)=decide (c.toNat=34∨c.toNat=92) from decide_eq_decide.2 (by omega)]
   exact t4
  ·rw [show decide ((c.toNat:Int)=92)=decide (c.toNat=34∨c.toNat=92) from decide_eq_decide.2 (by omega)]
   exact t4
theorem c39 {s:Bytes} (hs:s.length≤10000000):Pus prog 39 [.s s] (.tup [.s (nxtR s).1,.s (nxtR s).2.1,.b (nxtR s).2.2]):=by
 obtain ⟨x,y,z,⟨rfl,rfl,rfl⟩,h⟩:=p39 H.f39 (s0:=s) (K:=fun x y z=>x=(nxtR s).1∧y=(nxtR s).2.1∧z=(nxtR s).2.2) (by
  have no:nxt s=none→([]:Bytes)=(nxtR s).1∧([]:Bytes)=(nxtR s).2.1∧false=(nxtR s).2.2:=by
   intro h
   unfold nxtR
   rw [h]
   exact ⟨rfl,rfl,rfl⟩
  unfold T39_0 T39_1
  refine ⟨_,_,c36 H s [34],?_⟩
  cases s with
  | nil=>
   rw [show cutp [34] []=([],false) from rfl]
   exact ⟨fun _=>no rfl,fun h=>by simp at h⟩
  | cons q s=>
   by_cases hq:q.toNat=34
   ·have hq':q=34:=u8_eq hq
    subst hq'
    have ec:cutp [34] (34::s)=(s,true):=by unfold cutp;rw [if_pos (show List.take ([34]:Bytes).length (34::s)=[34] from rfl)];rfl
    rw [ec]
    refine ⟨fun h=>by simp at h,fun _ P hP=>?_⟩
    have hn:nxt (34::s)=nxtB (s.length+1) [] s:=by
     simp only [nxt]
     rw [if_pos hq]
    have key :∀n b r,r.length<n→b.length+r.length≤10000000→nxtB n b r=nxt (34::s)→P r b:=by
     intro n
     induction n with
     | zero=>intro b r h;exact absurd h (Nat.not_lt_zero _)
     | succ n ih=>
      intro b r hr hb hx
      apply hP
      unfold T39_2
      cases r with
      | nil=>exact ⟨fun h=>absurd rfl h,fun _=>no (by rw [← hx];rfl)⟩
      | cons c r=>
       simp only [nxtB] at hx
       refine ⟨fun _=>⟨c,rfl,by simp,fun h1=>?_,fun h1=>⟨fun h2=>?_,fun h2=>⟨fun h3=>?_,fun h3=>⟨fun h4=>?_,fun h4=>?_⟩⟩⟩⟩,fun h=>absurd (by simp) h⟩
       ·rw [if_pos (by omega)] at hx
        unfold nxtR
        rw [← hx]
        exact ⟨rfl,rfl,rfl⟩
       ·refine no ?_
        rw [← hx,if_neg (by omega),show one (c::r)=none by simp only [one];rw [if_pos (by omega)]]
       ·refine no ?_
        rw [← hx,if_neg (by omega),show one (c::r)=none by simp only [one];rw [if_pos (by omega)]]
       ·rw [if_neg (by omega),show one (c::r)=esc r by simp only [one];rw [if_neg (by omega),if_pos (by omega)]] at hx
        obtain ⟨a,r',ok,hk,hp⟩:=c45 H r
        refine ⟨a,r',ok,hp,fun h5=>?_,fun h5=>?_⟩
        ·unfold EscK at hk
         cases he:esc r with
         | none=>rw [he] at hx;exact no hx.symm
         | some p=>
          rw [he] at hk
          obtain ⟨_,_,hk⟩:=hk
          rw [hk] at h5
          exact absurd h5 (by decide)
        ·unfold EscK at hk
         cases he:esc r with
         | none=>
          rw [he] at hk
          simp only at hk
          rw [hk] at h5
          exact absurd h5 (by decide)
         | some p=>
          obtain ⟨u,v⟩:=p
          rw [he] at hk hx
          obtain ⟨h6,h7,h8⟩:=hk
          simp only at hx h6 h7
          subst h6;subst h7
          have hl:r'.length<(c::r).length:=one_len (c:=u) (by simp only [one];rw [if_neg (by omega),if_pos (by omega)];exact he)
          simp only [List.length_cons] at hl hb hr
          unfold T39_3
          refine ⟨u,rfl,⟨?_,?_⟩,ih _ _ (by omega) ?_ hx⟩
          ·simp only [List.length_cons,List.length_nil,maxBytes_eq];omega
          ·simp only [List.length_cons,List.length_nil,maxBytes_eq];omega
          ·simp only [List.length_append,List.length_cons,List.length_nil];omega
       ·rw [if_neg (by omega),show one (c::r)=some (c,r) by simp only [one];rw [if_neg (by omega),if_neg (by omega)]] at hx
        simp only [List.length_cons] at hb hr
        unfold T39_3
        refine ⟨c,rfl,⟨?_,?_⟩,ih _ _ (show r.length<n by omega) ?_ hx⟩
        ·simp only [List.length_cons,List.length_nil,maxBytes_eq];omega
        ·simp only [List.length_cons,List.length_nil,maxBytes_eq];omega
        ·simp only [List.drop_succ_cons,List.drop_zero,List.length_append,List.length_cons,List.length_nil];omega
    exact key (s.length+1) [] s (by omega) (by simp at hs ⊢;omega) hn.symm
   ·have ec:cutp [34] (q::s)=(q::s,false):=by
     unfold cutp
     rw [if_neg ?_]
     intro h
     injection h with h
     exact hq (by rw [h];rfl)
    rw [ec]
    refine ⟨fun _=>no ?_,fun h=>by simp at h⟩
    simp only [nxt]
    rw [if_neg hq])
 exact h
theorem c25 (s:Bytes):Pus prog 25 [.s s] (.tup [.s (unquo s).1,.i .i64 (unquo s).2]):=by
 obtain ⟨x,y,⟨rfl,rfl⟩,h⟩:=p25 H.f25 (s0:=s) (K:=fun x y=>x=(unquo s).1∧y=(unquo s).2) (by
  unfold T25_0 unquo
  refine ⟨fun h=>by rw [if_pos (by omega)];exact ⟨rfl,rfl⟩,fun hs=>⟨_,_,_,c39 H (by omega),?_⟩⟩
  rw [if_neg (by omega)]
  unfold nxtR
  cases nxt s with
  | none=>exact ⟨fun _=>⟨rfl,rfl⟩,fun h=>by simp at h⟩
  | some p=>
   obtain ⟨x,r⟩:=p
   refine ⟨fun h=>by simp at h,fun _=>⟨fun h=>?_,fun h=>?_⟩⟩
   ·cases r with
    | nil=>exact absurd rfl h
    | cons c r=>exact ⟨rfl,rfl⟩
   ·have h:r=[]:=Classical.not_not.1 h
    subst h
    refine ⟨fun h=>?_,fun h=>?_⟩
    ·simp only at h ⊢
     rw [if_pos (by omega)];exact ⟨rfl,rfl⟩
    ·simp only at h ⊢
     rw [if_neg (by omega)];exact ⟨rfl,rfl⟩)
 exact h
end
end Go.AM

namespace Go.AM
open Go
def isD (c:UInt8):Bool:=decide (48≤c.toNat)&&decide (c.toNat≤57)
def digN:Bytes→Nat
 | []=>0
 | c::s=>if isD c=true then 1+digN s else 0
def numN (s:Bytes):Nat:=if s.head?=some 45 then 1+digN (s.drop 1) else digN s
theorem digN_le :∀s:Bytes,digN s≤s.length
 | []=>Nat.le_refl _
 | c::s=>by
  have:=digN_le s
  rw [digN,List.length_cons]
  split<;>omega
theorem numN_le (s:Bytes):numN s≤s.length:=by
 unfold numN
 cases s with
 | nil=>simp [digN]
 | cons c s=>
  have h1:=digN_le s
  have h2:=digN_le (c::s)
  split
  ·simp only [List.drop_succ_cons,List.drop_zero,List.length_cons];omega
  ·exact h2
def qs:Bytes→Option Nat
 | []=>none
 | c::r=>if c=92 then (match r with | []=>none | _::r'=>(qs r').map (·+2)) else if c=34 then some 1 else (qs r).map (·+1)
def scNum (s:Bytes):Int × Bool × Bytes:=((unnum (s.take (numN s))).1,decide ((unnum (s.take (numN s))).2=0),s.drop (numN s))
def scQ (s:Bytes):Bytes × Bool × Bytes:=match qs (s.drop 1) with
 | none=>([],false,s)
 | some k=>((unquo (s.take (k+1))).1,decide ((unquo (s.take (k+1))).2=0),s.drop (k+1))
def scG (f:Bytes→Val × Bool × Bytes) (kind:Int) (stop:Bytes):Nat→List Val→Bytes→Val × Bool × Bytes
 | 0,acc,s=>(Val.mk kind 0 [] acc false,false,s)
 | k+1,acc,s=>if (f s).2.1=false then (Val.mk kind 0 [] acc false,false,(f s).2.2) else
   if (cutp stop (f s).2.2).2=true then (Val.mk kind 0 [] (acc++[(f s).1]) false,true,(cutp stop (f s).2.2).1) else
   if (cutp [44,32] (cutp stop (f s).2.2).1).2=false then (Val.mk kind 0 [] (acc++[(f s).1]) false,false,(cutp [44,32] (cutp stop (f s).2.2).1).1) else
   scG f kind stop k (acc++[(f s).1]) (cutp [44,32] (cutp stop (f s).2.2).1).1
def scL (f:Bytes→Val × Bool × Bytes) (kind:Int) (stop s:Bytes):Val × Bool × Bytes:=
 if (cutp stop s).2=true then (Val.mk kind 0 [] [] false,true,(cutp stop s).1) else scG f kind stop 17 [] (cutp stop s).1
def scV:Nat→Bytes→Val × Bool × Bytes
 | 0,s=>(vz,false,s)
 | d+1,s=>if s=[] then (vz,false,s) else
   if (cutp tTrue s).2=true then (Val.mk 1 1 [] [] false,true,(cutp tTrue s).1) else
   if (cutp tFalse s).2=true then (Val.mk 1 0 [] [] false,true,(cutp tFalse s).1) else
   if (cutp tNil s).2=true then (Val.mk 4 0 [] [] false,true,(cutp tNil s).1) else
   if (cutp tCutP s).2=true then (Val.mk 4 0 [] [] true,true,(cutp tCutP s).1) else
   if (cutp tCutS s).2=true then (Val.mk 7 0 [] [] true,true,(cutp tCutS s).1) else
   if (cutp [38] s).2=true then (Val.mk 4 0 [] [(scV d (cutp [38] s).1).1] false,(scV d (cutp [38] s).1).2) else
   if (cutp [123] s).2=true then scL (scV d) 5 [125] (cutp [123] s).1 else
   if (cutp [91] s).2=true then scL (scV d) 6 [93] (cutp [91] s).1 else
   if (cutp [60] s).2=true then scL (scV d) 7 [62] (cutp [60] s).1 else
   if s.head?=some 34 then (Val.mk 3 0 (scQ s).1 [] false,(scQ s).2) else
   (Val.mk 2 (scNum s).1 [] [] false,(scNum s).2)
theorem cutp_no {p s:Bytes} (h:(cutp p s).2=false):(cutp p s).1=s:=by
 unfold cutp at h ⊢
 split
 ·rename_i h1;rw [if_pos h1] at h;cases h
 ·rfl
theorem cutp_app (p s:Bytes):cutp p (p++s)=(s,true):=by
 unfold cutp
 rw [if_pos (by simp),List.drop_left]
theorem cutp_head {c d:UInt8} {p s:Bytes} (h:c≠d):cutp (c::p) (d::s)=(d::s,false):=by
 unfold cutp
 rw [if_neg]
 simp only [List.length_cons,List.take_succ_cons,List.cons.injEq]
 rintro ⟨rfl,_⟩
 exact h rfl
theorem cutp_cons (c:UInt8) (p s:Bytes):cutp (c::p) (c::s)=if (cutp p s).2=true then ((cutp p s).1,true) else (c::s,false):=by
 unfold cutp
 simp only [List.length_cons,List.take_succ_cons,List.cons.injEq,true_and,List.drop_succ_cons]
 split<;>simp_all
theorem unnum_rng (s:Bytes):-9223372036854775808≤(unnum s).1∧(unnum s).1<9223372036854775808:=by
 have h1:=rd_le 10 9223372036854775808 (s.drop 1)
 have h2:=rd_le 10 9223372036854775807 s
 unfold unnum
 split
 ·exact ⟨by decide,by decide⟩
 split
 ·split
  ·exact ⟨by decide,by decide⟩
  ·dsimp only
   omega
 ·dsimp only
  omega
theorem Wf.ite {c:Prop} [Decidable c] {a b:Val × Bool × Bytes} (ha:Wf a.1) (hb:Wf b.1):Wf (if c then a else b).1:=by
 split
 ·exact ha
 ·exact hb
theorem scG_wf {f:Bytes→Val × Bool × Bytes} {kind:Int} {stop:Bytes} (hk:0≤kind∧kind<256) (hf :∀s,Wf (f s).1) :∀(n:Nat) (acc:List Val) (s:Bytes),n≤17→acc.length+n=17→(∀x∈acc,Wf x)→Wf (scG f kind stop n acc s).1
 | 0,acc,s,_,hl,h=>by
  rw [scG]
  exact .mk hk (by decide) (by omega) h
 | n+1,acc,s,hn,hl,h=>by
  have h1 :∀x∈acc++[(f s).1],Wf x:=by
   intro x hx
   rcases List.mem_append.1 hx with hx | hx
   ·exact h x hx
   ·rw [List.mem_singleton.1 hx];exact hf s
  rw [scG]
  split
  ·exact .mk hk (by decide) (by omega) h
  ·split
   ·exact .mk hk (by decide) (by simp;omega) h1
   ·split
    ·exact .mk hk (by decide) (by simp;omega) h1
    ·exact scG_wf hk hf n _ _ (by omega) (by simp;omega) h1
theorem scL_wf {f:Bytes→Val × Bool × Bytes} {kind:Int} {stop s:Bytes} (hk:0≤kind∧kind<256) (hf :∀s,Wf (f s).1):Wf (scL f kind stop s).1:=by
 unfold scL
 split
 ·exact .mk hk (by decide) (by decide) (by simp)
 ·exact scG_wf hk hf 17 [] _ (by omega) rfl (by simp)
theorem scV_wf :∀(d:Nat) (s:Bytes),Wf (scV d s).1
 | 0,s=>Wf.zero
 | d+1,s=>by
  have w0 :∀(k n:Int) (c:Bool),0≤k∧k<256→-9223372036854775808≤n∧n<9223372036854775808→Wf (Val.mk k n [] [] c):=fun k n c h1 h2=>.mk h1 h2 (by decide) (by simp)
  rw [scV]
  exact .ite Wf.zero (.ite (w0 _ _ _ (by decide) (by decide)) (.ite (w0 _ _ _ (by decide) (by decide)) (.ite (w0 _ _ _ (by decide) (by decide)) (.ite (w0 _ _ _ (by decide) (by decide)) (.ite (w0 _ _ _ (by decide) (by decide))
   (.ite (.mk (by decide) (by decide) (by simp) (fun x hx=>by rw [List.mem_singleton.1 hx];exact scV_wf d _)) (.ite (scL_wf (by decide) (scV_wf d)) (.ite (scL_wf (by decide) (scV_wf d)) (.ite (scL_wf (by decide) (scV_wf d))
   (.ite (.mk (by decide) (by decide) (by simp) (by simp)) (.mk (by decide) (unnum_rng _) (by simp) (by simp))))))))))))
def Stop (r:Bytes):Prop:=∀c,r.head?=some c→c=44∨c=125∨c=93∨c=62
theorem Stop.notD {r:Bytes} (h:Stop r):digN r=0:=by
 cases r with
 | nil=>rfl
 | cons c r=>
  rw [digN,if_neg]
  rcases h c rfl with rfl | rfl | rfl | rfl<;>decide
theorem digN_all :∀(s r:Bytes),(∀c∈s,isD c=true)→digN r=0→digN (s++r)=s.length
 | [],r,_,h=>h
 | c::s,r,hs,h=>by
  rw [List.cons_append,digN,if_pos (hs c List.mem_cons_self),digN_all s r (fun c hc=>hs c (List.mem_cons_of_mem _ hc)) h,List.length_cons]
  omega
theorem hexd_isD :∀n:Fin 10,isD (hexd n.val)=true:=by decide
theorem ds_isD :∀(f n:Nat),∀c∈ds 10 f n,isD c=true
 | 0,n,c,h=>by simp [ds] at h
 | f+1,n,c,h=>by
  rw [ds] at h
  split at h
  ·rename_i hn
   rw [List.mem_singleton.1 h]
   exact hexd_isD ⟨n,hn⟩
  ·rcases List.mem_append.1 h with h | h
   ·exact ds_isD f _ c h
   ·rw [List.mem_singleton.1 h]
    exact hexd_isD ⟨n % 10,Nat.mod_lt _ (by decide)⟩
theorem isD_ne {c:UInt8} {l:List UInt8} (h:isD c=true) (hl:(l.all fun x=>!isD x)=true):c ∉ l:=by
 intro hc
 have:=List.all_eq_true.1 hl c hc
 rw [h] at this
 cases this
theorem num_head (n:Int) :∃c r,num n=c::r∧(c=45∨isD c=true):=by
 have hd :∀n,∃c r,digs 10 n=c::r∧isD c=true:=by
  intro n
  have h1:=digs_ne 10 n
  have h2:=ds_isD 64 n
  unfold digs at *
  cases h:ds 10 64 n with
  | nil=>exact absurd h h1
  | cons c r=>exact ⟨c,r,rfl,h2 c (by rw [h];exact List.mem_cons_self)⟩
 unfold num
 split
 ·exact ⟨45,_,rfl,.inl rfl⟩
 ·obtain ⟨c,r,h1,h2⟩:=hd n.toNat
  exact ⟨c,r,h1,.inr h2⟩
theorem numN_num {n:Int} {r:Bytes} (hr:digN r=0):numN (num n++r)=(num n).length:=by
 unfold num numN
 split
 ·rw [List.cons_append,List.head?_cons,if_pos rfl,List.drop_succ_cons,List.drop_zero,List.length_cons,Nat.add_comm]
  congr 1
  exact digN_all _ r (ds_isD 64 _) hr
 ·obtain ⟨c,t,h1,h2⟩:=num_head n
  rw [num,if_neg (by assumption)] at h1
  rw [if_neg]
  ·exact digN_all _ r (ds_isD 64 _) hr
  rw [h1,List.cons_append,List.head?_cons]
  intro e
  injection e with e
  subst e
  rcases h2 with h2 | h2
  ·have:=ds_isD 64 n.toNat 45 (by show (45:UInt8)∈digs 10 n.toNat;rw [h1];exact List.mem_cons_self)
   exact absurd this (by decide)
  ·exact absurd h2 (by decide)
theorem scNum_num {n:Int} {r:Bytes} (h1:-9223372036854775808≤n) (h2:n<9223372036854775808) (hr:digN r=0):scNum (num n++r)=(n,true,r):=by
 unfold scNum
 rw [numN_num hr,List.take_left,List.drop_left,unnum_num h1 h2]
 rfl
theorem qs_chrs :∀(s r:Bytes),qs (chrs s++34::r)=some ((chrs s).length+1)
 | [],r=>by
  show qs (34::r)=some 1
  rw [qs.eq_def]
  simp
 | c::s,r=>by
  have ih:=qs_chrs s r
  have e:chrs (c::s)=chr c++chrs s:=rfl
  have hx :∀k:Fin 16,hexd k.val≠92∧hexd k.val≠34:=by decide
  rw [e,List.append_assoc]
  unfold chr
  split
  ·rw [List.cons_append,List.cons_append,List.nil_append,qs.eq_def]
   simp only [if_true,ih,Option.map_some,List.length_append,List.length_cons,List.length_nil]
   congr 1
   omega
  ·rename_i h1
   split
   ·rw [List.cons_append,List.cons_append,List.nil_append,qs.eq_def]
    simp only [if_true,ih,Option.map_some,List.length_append,List.length_cons,List.length_nil]
    congr 1
    omega
   ·split
    ·have hc:=c.toNat_lt
     obtain ⟨a1,a2⟩:=hx ⟨c.toNat / 16,by omega⟩
     obtain ⟨b1,b2⟩:=hx ⟨c.toNat % 16,by omega⟩
     simp only at a1 a2 b1 b2
     rw [List.cons_append,List.cons_append,List.cons_append,List.cons_append,List.nil_append,qs.eq_def]
     simp only [if_true]
     rw [qs.eq_def]
     simp only [if_neg a1,if_neg a2]
     rw [qs.eq_def]
     simp only [if_neg b1,if_neg b2,ih,Option.map_some,List.length_append,List.length_cons,List.length_nil]
     congr 1
     omega
    ·have c1:c≠92:=by rintro rfl;exact h1 (.inr rfl)
     have c2:c≠34:=by rintro rfl;exact h1 (.inl rfl)
     rw [List.cons_append,List.nil_append,qs.eq_def]
     simp only [if_neg c1,if_neg c2,ih,Option.map_some,List.length_append,List.length_cons,List.length_nil]
     congr 1
     omega
theorem scQ_quo {s r:Bytes} (h:s.length≤400):scQ (quo s++r)=(s,true,r):=by
 have e:quo s++r=34::(chrs s++34::r):=by simp [quo]
 have e2:(quo s).length=(chrs s).length+1+1:=by simp [quo]
 unfold scQ
 rw [show (quo s++r).drop 1=chrs s++34::r by rw [e];rfl,qs_chrs]
 simp only
 rw [← e2,List.take_left,List.drop_left,unquo_quo h]
 rfl
end Go.AM

namespace Go.AM
open Go
theorem txt_head (v:Val) :∃c t,txt v=c::t∧(c∈([116,102,110,38,60,123,91,34,45]:Bytes)∨isD c=true):=by
  rw [txt_eq]
  have h1:=num_head v.int
  repeat' split
  all_goals first
    | (obtain ⟨c,t,h2,h3⟩:=h1
       refine ⟨c,t,h2,?_⟩
       rcases h3 with rfl | h3
       · exact .inl (by decide)
       · exact .inr h3)
    | exact ⟨_,_,rfl,.inl (by decide)⟩
theorem txt_head_ne {v:Val} {e:UInt8} (he:(e=46∨e=125∨e=93∨e=62∨e=44)) (p r:Bytes):(cutp (e::p) (txt v++r))=(txt v++r,false):=by
  obtain ⟨c,t,h1,h2⟩:=txt_head v
  rw [h1,List.cons_append]
  refine cutp_head ?_
  rintro rfl
  rcases h2 with h2 | h2
  · rcases he with rfl | rfl | rfl | rfl | rfl<;>exact absurd h2 (by decide)
  · rcases he with rfl | rfl | rfl | rfl | rfl<;>exact absurd h2 (by decide)
section
variable {f:Bytes→Val × Bool × Bytes} {kind:Int} {e:UInt8}
theorem scG_txts (he:e=125∨e=93∨e=62) :∀(l:List Val) (x:Val) (acc:List Val) (n:Nat) (r:Bytes),(∀y∈x::l,∀r,Stop r→f (txt y++r)=(y,true,r))→l.length<n→scG f kind [e] n acc (txts (x::l)++e::r)=(Val.mk kind 0 [] (acc++x::l) false,true,r)
  | l,x,acc,0,r,hf,hn=>absurd hn (Nat.not_lt_zero _)
  | [],x,acc,n+1,r,hf,hn=>by
    have hs:Stop (e::r):=by intro c hc;injection hc with hc;subst hc;rcases he with h | h | h<;>simp [h]
    have h1:=hf x List.mem_cons_self (e::r) hs
    have h2:cutp [e] (e::r)=(r,true):=cutp_app [e] r
    rw [txts_one,scG]
    simp only [h1,h2,Bool.true_eq_false,if_false,if_true]
  | y::l,x,acc,n+1,r,hf,hn=>by
    have e1:txts (x::y::l)++e::r=txt x++(44::32::(txts (y::l)++e::r)):=by simp [txts,txtl]
    have hs:Stop (44::32::(txts (y::l)++e::r)):=by intro c hc;injection hc with hc;subst hc;exact .inl rfl
    have h1:=hf x List.mem_cons_self _ hs
    have hne:e≠44:=by rcases he with rfl | rfl | rfl<;>decide
    have h2:cutp [e] (44::32::(txts (y::l)++e::r))=(44::32::(txts (y::l)++e::r),false):=cutp_head hne
    have h3:cutp [44,32] (44::32::(txts (y::l)++e::r))=(txts (y::l)++e::r,true):=cutp_app [44,32] _
    have ih:=scG_txts he l y (acc++[x]) n r (fun z hz=>hf z (List.mem_cons_of_mem _ hz)) (by simp only [List.length_cons] at hn;omega)
    rw [e1,scG]
    simp only [h1,h2,h3,Bool.true_eq_false,Bool.false_eq_true,if_false]
    rw [ih,List.append_assoc]
    rfl
theorem scL_txts (he:e=125∨e=93∨e=62) (l:List Val) (r:Bytes) (hf :∀y∈l,∀r,Stop r→f (txt y++r)=(y,true,r)) (hn:l.length≤16):scL f kind [e] (txts l++e::r)=(Val.mk kind 0 [] l false,true,r):=by
  unfold scL
  cases l with
  | nil=>
    have h2:cutp [e] (txts []++e::r)=(r,true):=cutp_app [e] r
    simp only [h2,if_true]
  | cons x l=>
    have h2:cutp [e] (txts (x::l)++e::r)=(txts (x::l)++e::r,false):=by
      rw [txts,List.append_assoc]
      exact txt_head_ne (by rcases he with h | h | h<;>simp [h]) _ _
    simp only [h2,Bool.false_eq_true,if_false]
    exact scG_txts he l x [] 17 r hf (by simp only [List.length_cons] at hn;omega)
end
theorem txts_head {l:List Val} {e:UInt8} {p r:Bytes}:(cutp (46::p) (txts l++62::r)).2=false:=by
  cases l with
  | nil=>rw [show txts []++62::r=62::r from rfl,cutp_head (by decide)]
  | cons x l=>rw [txts,List.append_assoc,txt_head_ne (.inl rfl)]
theorem len0 {α:Type} {l:List α} (h:l.length=0):l=[]:=List.length_eq_zero_iff.1 h
theorem scV_txt :∀(d:Nat) (v:Val),okv d v=true→Wf v→∀r,Stop r→scV d (txt v++r)=(v,true,r)
  | 0,v,h,_,r,hr=>by cases h
  | d+1,v,h,hw,r,hr=>by
    have h1:=okv_head h
    have h2:=okv_sub h
    have ih :∀y∈v.list,∀r,Stop r→scV d (txt y++r)=(y,true,r):=fun y hy=>scV_txt d y (h2 y hy) (hw.e y hy)
    have hn:=hw.n
    have hne :∀x:Bytes,¬(txt v++x=[]):=fun x e=>txt_ne v (List.append_eq_nil_iff.1 e).1
    clear h h2 hw
    cases v with
    | mk k n s l c=>
    unfold Val.okh Okh at h1
    simp only [Val.kind_mk,Val.int_mk,Val.text_mk,Val.list_mk,Val.cut_mk] at h1 ih hn
    have ht:=hne r
    rw [scV,if_neg ht]
    clear ht hne
    have nohead :∀{a b:UInt8} {p t:Bytes},a≠b→(cutp (a::p) (b::t)).2=false:=fun h=>by rw [cutp_head h]
    rcases h1 with ⟨rfl,a1,a2,a3,a4⟩ | ⟨rfl,a1,a2,a3⟩ | ⟨rfl,a1,a2,rfl,a4⟩ | ⟨rfl,rfl,a1,a2,a3⟩ | ⟨rfl,rfl,a1,a2,a3⟩ | ⟨rfl,rfl,a1,a2,a3,a4⟩ | ⟨rfl,rfl,a1,a2,a3⟩
    · have:=len0 a1;have:=len0 a3;subst l;subst s
      have:c=false:=by cases c;rfl;cases a2
      subst c
      rcases a4 with rfl | rfl
      · rw [show txt (Val.mk 1 0 [] [] false)=tFalse from rfl,show tFalse++r=102::([97,108,115,101]++r) from rfl,tTrue,if_neg (by rw [nohead (by decide)];decide)]
        have:=cutp_app tFalse r
        rw [show tFalse++r=102::([97,108,115,101]++r) from rfl] at this
        rw [if_pos (by rw [this]),this]
      · rw [show txt (Val.mk 1 1 [] [] false)=tTrue from rfl,if_pos (by rw [cutp_app]),cutp_app]
    · have:=len0 a1;have:=len0 a3;subst l;subst s
      have:c=false:=by cases c;rfl;cases a2
      subst c
      rw [show txt (Val.mk 2 n [] [] false)=num n from rfl]
      have hd:=scNum_num (r:=r) hn.1 hn.2 hr.notD
      obtain ⟨x,t,h3,h4⟩:=num_head n
      rw [h3] at hd ⊢
      rw [List.cons_append] at hd ⊢
      have hx :∀y:UInt8,y∈([116,102,110,38,60,123,91,34]:Bytes)→y≠x:=by
        rintro y hy rfl
        rcases h4 with rfl | h4
        · exact absurd hy (by decide)
        · exact isD_ne h4 (by decide) hy
      rw [tTrue,if_neg (by rw [nohead (hx _ (by decide))];decide),tFalse,if_neg (by rw [nohead (hx _ (by decide))];decide),tNil,if_neg (by rw [nohead (hx _ (by decide))];decide),tCutP,if_neg (by rw [nohead (hx _ (by decide))];decide),tCutS,if_neg (by rw [nohead (hx _ (by decide))];decide),
        if_neg (by rw [nohead (hx _ (by decide))];decide),if_neg (by rw [nohead (hx _ (by decide))];decide),if_neg (by rw [nohead (hx _ (by decide))];decide),if_neg (by rw [nohead (hx _ (by decide))];decide),
        if_neg (by rw [List.head?_cons];intro e;injection e with e;exact hx 34 (by decide) e.symm),hd]
    · have:=len0 a1;subst l
      have:c=false:=by cases c;rfl;cases a2
      subst c
      rw [show txt (Val.mk 3 0 s [] false)=quo s from rfl]
      have hd:=scQ_quo (s:=s) (r:=r) (by omega)
      rw [show quo s++r=34::(chrs s++[34]++r) from rfl] at hd ⊢
      rw [tTrue,if_neg (by rw [nohead (by decide)];decide),tFalse,if_neg (by rw [nohead (by decide)];decide),tNil,if_neg (by rw [nohead (by decide)];decide),tCutP,if_neg (by rw [nohead (by decide)];decide),tCutS,if_neg (by rw [nohead (by decide)];decide),
        if_neg (by rw [nohead (by decide)];decide),if_neg (by rw [nohead (by decide)];decide),if_neg (by rw [nohead (by decide)];decide),if_neg (by rw [nohead (by decide)];decide),List.head?_cons,if_pos rfl,hd]
    · have:=len0 a1;subst s
      cases c with
      | true=>
        have:=len0 (a3.resolve_left (by decide));subst l
        have e:=cutp_app tCutP r
        rw [show txt (Val.mk 4 0 [] [] true)=tCutP from rfl]
        rw [show tCutP++r=38::([46,46,46]++r) from rfl] at e ⊢
        rw [tTrue,if_neg (by rw [nohead (by decide)];decide),tFalse,if_neg (by rw [nohead (by decide)];decide),tNil,if_neg (by rw [nohead (by decide)];decide),if_pos (by rw [e]),e]
      | false=>
        match l,a2 with
        | [],_=>
          have e:=cutp_app tNil r
          rw [show txt (Val.mk 4 0 [] [] false)=tNil from rfl]
          rw [show tNil++r=110::([105,108]++r) from rfl] at e ⊢
          rw [tTrue,if_neg (by rw [nohead (by decide)];decide),tFalse,if_neg (by rw [nohead (by decide)];decide),if_pos (by rw [e]),e]
        | [w],_=>
          rw [show txt (Val.mk 4 0 [] [w] false)=38::txts [w] from rfl,txts_one,List.cons_append]
          have e:cutp [38] (38::(txt w++r))=(txt w++r,true):=cutp_app [38] _
          have e2:(cutp tCutP (38::(txt w++r))).2=false:=by rw [tCutP,cutp_cons,txt_head_ne (.inl rfl)];rfl
          rw [tTrue,if_neg (by rw [nohead (by decide)];decide),tFalse,if_neg (by rw [nohead (by decide)];decide),tNil,if_neg (by rw [nohead (by decide)];decide),if_neg (by rw [e2];decide),tCutS,if_neg (by rw [nohead (by decide)];decide),if_pos (by rw [e]),e]
          simp only
          rw [ih w List.mem_cons_self r hr]
    · have:=len0 a1;subst s
      have:c=false:=by cases c;rfl;cases a3
      subst c
      rw [show txt (Val.mk 5 0 [] l false)=123::(txts l++[125]) from rfl]
      have e0:123::(txts l++[125])++r=123::(txts l++125::r):=by simp
      have e:cutp [123] (123::(txts l++125::r))=(txts l++125::r,true):=cutp_app [123] _
      rw [e0,tTrue,if_neg (by rw [nohead (by decide)];decide),tFalse,if_neg (by rw [nohead (by decide)];decide),tNil,if_neg (by rw [nohead (by decide)];decide),tCutP,if_neg (by rw [nohead (by decide)];decide),tCutS,if_neg (by rw [nohead (by decide)];decide),if_neg (by rw [nohead (by decide)];decide),if_pos (by rw [e]),e]
      exact scL_txts (.inl rfl) l r ih (by omega)
    · have:=len0 a1;subst s
      have:c=false:=by cases c;rfl;cases a4
      subst c
      rw [show txt (Val.mk 6 0 [] l false)=91::(txts l++[93]) from rfl]
      have e0:91::(txts l++[93])++r=91::(txts l++93::r):=by simp
      have e:cutp [91] (91::(txts l++93::r))=(txts l++93::r,true):=cutp_app [91] _
      rw [e0,tTrue,if_neg (by rw [nohead (by decide)];decide),tFalse,if_neg (by rw [nohead (by decide)];decide),tNil,if_neg (by rw [nohead (by decide)];decide),tCutP,if_neg (by rw [nohead (by decide)];decide),tCutS,if_neg (by rw [nohead (by decide)];decide),if_neg (by rw [nohead (by decide)];decide),if_neg (by rw [nohead (by decide)];decide),if_pos (by rw [e]),e]
      exact scL_txts (.inr (.inl rfl)) l r ih (by omega)
    · have:=len0 a1;subst s
      cases c with
      | true=>
        have:=len0 (a3.resolve_left (by decide));subst l
        have e:=cutp_app tCutS r
        rw [show txt (Val.mk 7 0 [] [] true)=tCutS from rfl]
        rw [show tCutS++r=60::([46,46,46,62]++r) from rfl] at e ⊢
        rw [tTrue,if_neg (by rw [nohead (by decide)];decide),tFalse,if_neg (by rw [nohead (by decide)];decide),tNil,if_neg (by rw [nohead (by decide)];decide),tCutP,if_neg (by rw [nohead (by decide)];decide),if_pos (by rw [e]),e]
      | false=>
        rw [show txt (Val.mk 7 0 [] l false)=60::(txts l++[62]) from rfl]
        have e0:60::(txts l++[62])++r=60::(txts l++62::r):=by simp
        have e:cutp [60] (60::(txts l++62::r))=(txts l++62::r,true):=cutp_app [60] _
        have e2:(cutp tCutS (60::(txts l++62::r))).2=false:=by
          have:=txts_head (l:=l) (e:=0) (p:=[46,46,62]) (r:=r)
          rw [tCutS,cutp_cons,if_neg (by rw [this];decide)]
        rw [e0,tTrue,if_neg (by rw [nohead (by decide)];decide),tFalse,if_neg (by rw [nohead (by decide)];decide),tNil,if_neg (by rw [nohead (by decide)];decide),tCutP,if_neg (by rw [nohead (by decide)];decide),if_neg (by rw [e2];decide),if_neg (by rw [nohead (by decide)];decide),if_neg (by rw [nohead (by decide)];decide),if_neg (by rw [nohead (by decide)];decide),if_pos (by rw [e]),e]
        exact scL_txts (.inr (.inr rfl)) l r ih (by omega)
def rvs (s:Bytes):Val × Int:=if 1400000<s.length then (vz,4) else
  if (scV 130 s).2.1=true∧(scV 130 s).2.2=[]∧fine (scV 130 s).1=true∧txt (scV 130 s).1=s then ((scV 130 s).1,0) else (vz,12)
theorem fine_ok {v:Val} (h:fine v=true):okv 130 v=true∧v.nodes≤5000:=by
  simpa [fine] using h
theorem scV_fine {v:Val} (h:fine v=true) (hw:Wf v):scV 130 (txt v)=(v,true,[]):=by
  have:=scV_txt 130 v (fine_ok h).1 hw [] (by intro c hc;cases hc)
  rwa [List.append_nil] at this
theorem rvs_txt {v:Val} (h:fine v=true) (hw:Wf v):rvs (txt v)=(v,0):=by
  have h1:=fine_len h
  unfold rvs
  rw [if_neg (by omega),scV_fine h hw,if_pos ⟨rfl,rfl,h,rfl⟩]
theorem rvs_inv {s:Bytes} (h:(rvs s).2=0):fine (rvs s).1=true∧txt (rvs s).1=s∧Wf (rvs s).1:=by
  unfold rvs at h ⊢
  split
  · rename_i h1;rw [if_pos h1] at h;cases h
  · rename_i h1
    rw [if_neg h1] at h
    split
    · rename_i h2;exact ⟨h2.2.2.1,h2.2.2.2,scV_wf _ _⟩
    · rename_i h2;rw [if_neg h2] at h;cases h
noncomputable def sameV (v w:Val):Bool:=@decide (v=w) (Classical.propDecidable _)
theorem sameV_true {v w:Val}:sameV v w=true↔v=w:=by unfold sameV;simp
theorem sameV_false {v w:Val}:sameV v w=false↔v≠w:=by
  rw [← Bool.not_eq_true,sameV_true]
end Go.AM

namespace Go.AM
open Go
theorem bv_split {x m c:BitVec 64} (h:x &&& ~~~m=c):x=c ||| (x &&& m):=by
 subst h
 apply BitVec.eq_of_getLsbD_eq
 intro i hi
 simp only [BitVec.getLsbD_or,BitVec.getLsbD_and,BitVec.getLsbD_not,hi,decide_true,Bool.true_and]
 cases x.getLsbD i<;>cases m.getLsbD i<;>rfl
theorem bv_two (x:BitVec 64) (i:Nat):x &&& BitVec.twoPow 64 i=BitVec.twoPow 64 i∨x &&& BitVec.twoPow 64 i=0#64:=by
 rw [BitVec.and_twoPow]
 split
 ·exact .inl rfl
 ·exact .inr rfl
theorem wrap_toNat (x:BitVec 64):IntKind.u64.wrap (x.toNat:Int)=(x.toNat:Int):=wr_u64_nat x.isLt
theorem ofInt_toNat {f:Int} (h:0≤f∧f<18446744073709551616):f=((BitVec.ofInt 64 f).toNat:Int):=by
 rw [BitVec.toNat_ofInt];omega
theorem flag2 {f:Int} (h:0≤f∧f<18446744073709551616):bAndNot .u64 f 4=2↔f=2∨f=6:=by
 constructor
 ·intro h1
  have h1:IntKind.u64.wrap ((BitVec.ofInt 64 f &&& ~~~(BitVec.ofInt 64 4)).toNat:Int)=2:=h1
  rw [wrap_toNat] at h1
  have h2:BitVec.ofInt 64 f &&& ~~~(BitVec.ofInt 64 4)=2#64:=BitVec.eq_of_toNat_eq (by rw [show (2#64).toNat=2 from rfl];omega)
  have h3:=bv_split h2
  rw [show BitVec.ofInt 64 4=BitVec.twoPow 64 2 from by decide] at h3
  rcases bv_two (BitVec.ofInt 64 f) 2 with h4 | h4<;>rw [h4] at h3<;>have h5:=ofInt_toNat h<;>rw [h3] at h5
  ·exact .inr h5
  ·exact .inl h5
 ·rintro (rfl | rfl)<;>decide
theorem flag0 {f:Int} (h:0≤f∧f<18446744073709551616):bAndNot .u64 f 5=0↔f=0∨f=1∨f=4∨f=5:=by
 constructor
 ·intro h1
  have h1:IntKind.u64.wrap ((BitVec.ofInt 64 f &&& ~~~(BitVec.ofInt 64 5)).toNat:Int)=0:=h1
  rw [wrap_toNat] at h1
  have h2:BitVec.ofInt 64 f &&& ~~~(BitVec.ofInt 64 5)=0#64:=BitVec.eq_of_toNat_eq (by rw [show (0#64).toNat=0 from rfl];omega)
  have h3:=bv_split h2
  have e:BitVec.ofInt 64 f &&& BitVec.ofInt 64 5=(BitVec.ofInt 64 f &&& BitVec.twoPow 64 2) ||| (BitVec.ofInt 64 f &&& BitVec.twoPow 64 0):=by
   rw [show BitVec.ofInt 64 5=BitVec.twoPow 64 2 ||| BitVec.twoPow 64 0 from by decide]
   apply BitVec.eq_of_getLsbD_eq
   intro i hi
   simp only [BitVec.getLsbD_or,BitVec.getLsbD_and]
   cases (BitVec.ofInt 64 f).getLsbD i<;>rfl
  rw [e] at h3
  have h5:=ofInt_toNat h
  rcases bv_two (BitVec.ofInt 64 f) 2 with h4 | h4<;>rcases bv_two (BitVec.ofInt 64 f) 0 with h6 | h6<;>rw [h4,h6] at h3<;>rw [h3] at h5
  ·exact .inr (.inr (.inr h5))
  ·exact .inr (.inr (.inl h5))
  ·exact .inr (.inl h5)
  ·exact .inl h5
 ·rintro (rfl | rfl | rfl | rfl)<;>decide
def tExit:Bytes:=[101,120,105,116]
def tPan:Bytes:=[112,97,110,105,99,32]
def tRec:Bytes:=[32,114,101,99,111,118,101,114,101,100]
def tAb:Bytes:=[32,97,98,111,114,116,101,100]
def tF1:Bytes:=[102,97,117,108,116,32,49,58,32,100,105,118,105,115,105,111,110,32,98,121,32,122,101,114,111]
def tF2:Bytes:=[102,97,117,108,116,32,50,58,32,110,105,108,32,112,111,105,110,116,101,114]
def tF3:Bytes:=[102,97,117,108,116,32,51,58,32,111,117,116,32,111,102,32,114,97,110,103,101]
def faultT (n:Int):Bytes:=if n=1 then tF1 else if n=2 then tF2 else if n=3 then tF3 else []
def kindT (t:Int):Int:=if t=1 then 2 else if t=2 then 1 else if t=3 then 3 else if t=4 then 2 else 0
structure WfP (p:Pan):Prop where
 t:0≤p.tag∧p.tag<18446744073709551616
 v:Wf p.value
 f:0≤p.flags∧p.flags<18446744073709551616
def isZ (v:Val):Bool:=decide (v.kind=0)&&decide (v.int=0)&&decide (v.text=[])&&decide (v.list.length=0)&&!v.cut
theorem isZ_true {v:Val}:isZ v=true↔v=vz:=by
 unfold isZ
 simp only [Bool.and_eq_true,decide_eq_true_eq,Bool.not_eq_true',and_assoc,List.length_eq_zero_iff]
 cases v with
 | mk k n s l c=>simp
def okP (p:Pan):Bool:=decide (p.tag≤4)&&decide (p.value.kind=kindT p.tag)&&(if p.tag=0 then isZ p.value&&decide (p.flags=2∨p.flags=6)
 else decide (p.flags=0∨p.flags=1∨p.flags=4∨p.flags=5)&&decide (p.tag=4→1≤p.value.int∧p.value.int≤3)&&fine p.value)
def chkP (p:Pan):Int:=if okP p=true then 0 else 8
def baseP (p:Pan):Bytes:=if p.tag=0 then tExit else if p.tag=4 then faultT p.value.int else tPan++txt p.value
def sufP (f:Int):Bytes:=(if f % 2=1 then tRec else [])++(if 4≤f then tAb else [])
def shown (p:Pan):Bytes:=baseP p++sufP p.flags
def lnP (p:Pan):Bytes × Int:=if okP p=true then (shown p,0) else ([],8)
def pz:Pan:=⟨0,vz,0⟩
def cuts (p s:Bytes):Bytes × Bool:=if p.length≤s.length∧s.drop (s.length-p.length)=p then (s.take (s.length-p.length),true) else (s,false)
theorem cuts_app (p s:Bytes):cuts p (s++p)=(s,true):=by
 unfold cuts
 rw [if_pos ⟨by simp,by simp⟩]
 simp
theorem cuts_yes {p s:Bytes} (h:(cuts p s).2=true):s=(cuts p s).1++p:=by
 unfold cuts at h ⊢
 split
 ·rename_i h1
  have:=List.take_append_drop (s.length-p.length) s
  rw [h1.2] at this
  exact this.symm
 ·rename_i h1;rw [if_neg h1] at h;cases h
theorem cuts_no {p s:Bytes} (h:(cuts p s).2=false):(cuts p s).1=s:=by
 unfold cuts at h ⊢
 split
 ·rename_i h1;rw [if_pos h1] at h;cases h
 ·rfl
theorem cuts_last {p s:Bytes} {c d:UInt8} (hs:s.getLast?=some c) (hp:p.getLast?=some d) (h:c≠d):cuts p s=(s,false):=by
 unfold cuts
 rw [if_neg]
 rintro ⟨h1,h2⟩
 have h3:s.getLast?=p.getLast?:=by
  rw [← List.take_append_drop (s.length-p.length) s,h2,List.getLast?_append,hp];rfl
 rw [hs,hp] at h3
 injection h3 with h3
 exact h h3
def coreP (s:Bytes):Option Pan:=if s=tExit then some ⟨0,vz,2⟩ else if s=tF1 then some ⟨4,Val.mk 2 1 [] [] false,0⟩ else if s=tF2 then some ⟨4,Val.mk 2 2 [] [] false,0⟩ else if s=tF3 then some ⟨4,Val.mk 2 3 [] [] false,0⟩ else
 if (cutp tPan s).2=false then none else
 if (rvs (cutp tPan s).1).2≠0 then none else
 let v:=(rvs (cutp tPan s).1).1
 if v.kind=2 then some ⟨1,v,0⟩ else if v.kind=1 then some ⟨2,v,0⟩ else if v.kind=3 then some ⟨3,v,0⟩ else none
def rlP (s:Bytes):Pan × Int:=if 2000<s.length then (pz,4) else
 let a:=cuts tAb s
 let r:=cuts tRec a.1
 match coreP r.1 with
 | none=>(pz,12)
 | some p=>let q:Pan:=⟨p.tag,p.value,p.flags+(if r.2=true then 1 else 0)+(if a.2=true then 4 else 0)⟩
  if okP q=true then (q,0) else (pz,12)
end Go.AM

namespace Go.AM
open Go
theorem cuts_long {p q b:Bytes} (h:p.length≤q.length):cuts p (b++q)=(b++(cuts p q).1,(cuts p q).2):=by
 have e:(b++q).length-p.length=b.length+(q.length-p.length):=by simp;omega
 unfold cuts
 rw [e,List.drop_append,List.take_append]
 rw [List.drop_of_length_le (by omega),List.take_of_length_le (by omega),List.nil_append,show b.length+(q.length-p.length)-b.length=q.length-p.length by omega]
 by_cases h1:q.drop (q.length-p.length)=p
 ·rw [if_pos ⟨by simp;omega,h1⟩,if_pos ⟨h,h1⟩]
 ·rw [if_neg fun h2=>h1 h2.2,if_neg fun h2=>h1 h2.2]
theorem vNum_eq {v:Val} (h:fine v=true) (hk:v.kind=2):v=Val.mk 2 v.int [] [] false:=by
 have h1:=okv_head (fine_ok h).1
 cases v with
 | mk k n s l c=>
  simp only [Val.okh,Okh,Val.kind_mk,Val.int_mk,Val.text_mk,Val.list_mk,Val.cut_mk] at h1 hk ⊢
  subst hk
  have hl:=len0 (l:=l) (by omega)
  have hs:=len0 (l:=s) (by omega)
  subst hl;subst hs
  cases c with
  | false=>rfl
  | true=>simp at h1
theorem num_last (n:Int) :∃b c,num n=b++[c]∧c≠100:=by
 have key :∀m:Nat,∃b c,digs 10 m=b++[c]∧c≠100:=by
  intro m
  obtain ⟨b,c,h⟩ :∃b c,digs 10 m=b++[c]:=by
   have h:=digs_ne 10 m
   exact ⟨_,_,(List.dropLast_concat_getLast h).symm⟩
  refine ⟨b,c,h,fun hc=>?_⟩
  have:=ds_isD 64 m c (by rw [show ds 10 64 m=digs 10 m from rfl,h];simp)
  rw [hc] at this
  exact absurd this (by decide)
 unfold num
 split
 ·obtain ⟨b,c,h,hc⟩:=key (-n).toNat
  exact ⟨45::b,c,by rw [h];rfl,hc⟩
 ·exact key _
theorem base_last {p:Pan} (h:okP p=true) :∃b c,baseP p=b++[c]∧c≠100:=by
 unfold okP at h
 simp only [Bool.and_eq_true,decide_eq_true_eq] at h
 obtain ⟨⟨h1,h2⟩,h3⟩:=h
 unfold baseP
 by_cases t0:p.tag=0
 ·rw [if_pos t0];exact ⟨[101,120,105],116,rfl,by decide⟩
 rw [if_neg t0] at h3 ⊢
 simp only [Bool.and_eq_true,decide_eq_true_eq] at h3
 obtain ⟨⟨h4,h5⟩,h6⟩:=h3
 by_cases t4:p.tag=4
 ·rw [if_pos t4]
  have:=h5 t4
  rcases (show p.value.int=1∨p.value.int=2∨p.value.int=3 by omega) with h | h | h<;>rw [h]
  ·exact ⟨tF1.dropLast,111,rfl,by decide⟩
  ·exact ⟨tF2.dropLast,114,rfl,by decide⟩
  ·exact ⟨tF3.dropLast,101,rfl,by decide⟩
 rw [if_neg t4]
 have hk:p.value.kind=2∨p.value.kind=1∨p.value.kind=3:=by
  rw [h2];unfold kindT
  by_cases a1:p.tag=1
  ·rw [if_pos a1];exact .inl rfl
  rw [if_neg a1]
  by_cases a2:p.tag=2
  ·rw [if_pos a2];exact .inr (.inl rfl)
  rw [if_neg a2]
  by_cases a3:p.tag=3
  ·rw [if_pos a3];exact .inr (.inr rfl)
  rw [if_neg a3,if_neg t4]
  have h0:=okv_head (fine_ok h6).1
  unfold Val.okh Okh at h0
  rw [h2] at h0
  unfold kindT at h0
  rw [if_neg a1,if_neg a2,if_neg a3,if_neg t4] at h0
  omega
 have add :∀{x:Bytes},(∃b c,x=b++[c]∧c≠(100:UInt8))→∃b c,tPan++x=b++[c]∧c≠(100:UInt8):=fun ⟨b,c,h,hc⟩=>⟨tPan++b,c,by rw [h];simp,hc⟩
 apply add
 rw [txt_eq]
 rcases hk with h | h | h<;>rw [h]
 ·exact num_last _
 ·rw [if_pos rfl]
  split
  ·exact ⟨[116,114,117],101,rfl,by decide⟩
  ·exact ⟨[102,97,108,115],101,rfl,by decide⟩
 ·exact ⟨34::chrs p.value.text,34,rfl,by decide⟩
theorem okP_flags {p:Pan} (h:okP p=true):(p.tag=0∧p.value=vz∧(p.flags=2∨p.flags=6))∨(p.tag≠0∧fine p.value=true∧(p.flags=0∨p.flags=1∨p.flags=4∨p.flags=5)):=by
 unfold okP at h
 simp only [Bool.and_eq_true,decide_eq_true_eq] at h
 obtain ⟨⟨h1,h2⟩,h3⟩:=h
 by_cases t0:p.tag=0
 ·rw [if_pos t0] at h3
  simp only [Bool.and_eq_true,decide_eq_true_eq] at h3
  exact .inl ⟨t0,isZ_true.1 h3.1,h3.2⟩
 ·rw [if_neg t0] at h3
  simp only [Bool.and_eq_true,decide_eq_true_eq] at h3
  exact .inr ⟨t0,h3.2,h3.1.1⟩
theorem cut_shown {p:Pan} (h:okP p=true):(cuts tAb (shown p)).2=decide (4≤p.flags)∧cuts tRec (cuts tAb (shown p)).1=(baseP p,decide (p.flags % 2=1)):=by
 obtain ⟨b,c,hb,hc⟩:=base_last h
 have a1:cuts tAb (baseP p)=(baseP p,false):=cuts_last (c:=c) (d:=100) (by rw [hb];simp) rfl hc
 have a2:cuts tRec (baseP p)=(baseP p,false):=cuts_last (c:=c) (d:=100) (by rw [hb];simp) rfl hc
 have a3:cuts tAb (baseP p++tRec)=(baseP p++tRec,false):=by rw [cuts_long (by decide)];rfl
 have hf:p.flags=0∨p.flags=1∨p.flags=2∨p.flags=4∨p.flags=5∨p.flags=6:=by rcases okP_flags h with ⟨_,_,h⟩ | ⟨_,_,h⟩<;>omega
 unfold shown sufP
 rcases hf with h | h | h | h | h | h<;>rw [h]
 ·rw [show baseP p++((if (0:Int) % 2=1 then tRec else [])++(if (4:Int)≤0 then tAb else []))=baseP p by simp,a1];exact ⟨rfl,a2⟩
 ·rw [show baseP p++((if (1:Int) % 2=1 then tRec else [])++(if (4:Int)≤1 then tAb else []))=baseP p++tRec by simp,a3];exact ⟨rfl,cuts_app _ _⟩
 ·rw [show baseP p++((if (2:Int) % 2=1 then tRec else [])++(if (4:Int)≤2 then tAb else []))=baseP p by simp,a1];exact ⟨rfl,a2⟩
 ·rw [show baseP p++((if (4:Int) % 2=1 then tRec else [])++(if (4:Int)≤4 then tAb else []))=baseP p++tAb by simp,cuts_app];exact ⟨rfl,a2⟩
 ·rw [show baseP p++((if (5:Int) % 2=1 then tRec else [])++(if (4:Int)≤5 then tAb else []))=(baseP p++tRec)++tAb by simp,cuts_app];exact ⟨rfl,cuts_app _ _⟩
 ·rw [show baseP p++((if (6:Int) % 2=1 then tRec else [])++(if (4:Int)≤6 then tAb else []))=baseP p++tAb by simp,cuts_app];exact ⟨rfl,a2⟩
theorem core_base {p:Pan} (h:okP p=true) (hw:Wf p.value):coreP (baseP p)=some ⟨p.tag,p.value,if p.tag=0 then 2 else 0⟩:=by
 have h0:=okP_flags h
 unfold okP at h
 simp only [Bool.and_eq_true,decide_eq_true_eq] at h
 obtain ⟨⟨h1,h2⟩,h3⟩:=h
 obtain ⟨t,v,f⟩:=p
 simp only at h0 h1 h2 h3 hw ⊢
 unfold baseP
 rcases h0 with ⟨rfl,rfl,_⟩ | ⟨t0,hf,_⟩
 ·rfl
 rw [if_neg t0] at h3
 simp only [Bool.and_eq_true,decide_eq_true_eq] at h3
 obtain ⟨⟨h4,h5⟩,h6⟩:=h3
 simp only
 rw [if_neg t0]
 by_cases t4:t=4
 ·subst t4
  have hv:=vNum_eq hf h2
  have:=h5 rfl
  rw [if_pos rfl]
  rcases (show v.int=1∨v.int=2∨v.int=3 by omega) with h | h | h<;>rw [h] at hv<;>rw [hv]<;>rfl
 rw [if_neg t4,if_neg t0]
 have ne :∀{x:Bytes} {c:UInt8} {r:Bytes},x=c::r→c≠112→tPan++txt v≠x:=fun hx hc e=>by
  rw [hx] at e
  injection e with e
  exact hc e.symm
 unfold coreP
 rw [if_neg (ne (x:=tExit) (c:=101) rfl (by decide)),if_neg (ne (x:=tF1) (c:=102) rfl (by decide)),if_neg (ne (x:=tF2) (c:=102) rfl (by decide)),if_neg (ne (x:=tF3) (c:=102) rfl (by decide)),cutp_app,if_neg (show ¬(true=false) by decide),rvs_txt hf hw,if_neg (show ¬((0:Int)≠0) by decide)]
 simp only
 unfold kindT at h2
 by_cases a1:t=1
 ·subst a1
  rw [if_pos rfl] at h2
  rw [if_pos h2]
 rw [if_neg a1] at h2
 by_cases a2:t=2
 ·subst a2
  rw [if_pos rfl] at h2
  rw [if_neg (by omega),if_pos h2]
 rw [if_neg a2] at h2
 by_cases a3:t=3
 ·subst a3
  rw [if_pos rfl] at h2
  rw [if_neg (by omega),if_neg (by omega),if_pos h2]
 rw [if_neg a3,if_neg t4] at h2
 have h7:=okv_head (fine_ok hf).1
 unfold Val.okh Okh at h7
 omega
theorem txt_small {v:Val} (h:fine v=true) (hk:v.kind=1∨v.kind=2∨v.kind=3):(txt v).length≤300:=by
 have h7:=okv_head (fine_ok h).1
 unfold Val.okh Okh at h7
 have h8:=num_len v.int
 have h9:=quo_len v.text
 rw [txt_eq]
 rcases hk with h | h | h<;>rw [h]
 ·rw [if_pos rfl];split<;>decide
 ·show (num v.int).length≤300;omega
 ·show (quo v.text).length≤300;omega
theorem okP_kind {p:Pan} (h:okP p=true) (h0:p.tag≠0):p.value.kind=1∨p.value.kind=2∨p.value.kind=3:=by
 have hf:fine p.value=true:=by rcases okP_flags h with h | h;exact absurd h.1 h0;exact h.2.1
 unfold okP at h
 simp only [Bool.and_eq_true,decide_eq_true_eq] at h
 have h2:=h.1.2
 have h7:=okv_head (fine_ok hf).1
 unfold Val.okh Okh at h7
 unfold kindT at h2
 repeat' split at h2
 all_goals omega
theorem shown_len {p:Pan} (h:okP p=true):(shown p).length≤400:=by
 have hs:(sufP p.flags).length≤18:=by unfold sufP;split<;>split<;>decide
 have hb:(baseP p).length≤310:=by
  unfold baseP
  by_cases t0:p.tag=0
  ·rw [if_pos t0];decide
  rw [if_neg t0]
  split
  ·unfold faultT;repeat' split
   all_goals decide
  ·have hf:fine p.value=true:=by rcases okP_flags h with h | h;exact absurd h.1 t0;exact h.2.1
   have:=txt_small hf (okP_kind h t0)
   rw [List.length_append,show tPan.length=6 from rfl];omega
 unfold shown
 rw [List.length_append];omega
theorem rlP_shown {p:Pan} (h:okP p=true) (hw:Wf p.value):rlP (shown p)=(p,0):=by
 have h1:=shown_len h
 obtain ⟨h2,h3⟩:=cut_shown h
 have h4:=core_base h hw
 unfold rlP
 rw [if_neg (by omega)]
 simp only [h2,h3]
 rw [h4]
 simp only
 have e:(if p.tag=0 then (2:Int) else 0)+(if decide (p.flags % 2=1)=true then 1 else 0)+(if decide (4≤p.flags)=true then 4 else 0)=p.flags:=by
  simp only [decide_eq_true_eq]
  rcases okP_flags h with ⟨a,_,b⟩ | ⟨a,_,b⟩
  ·rw [if_pos a];rcases b with b | b<;>rw [b]<;>decide
  ·rw [if_neg a];rcases b with b | b | b | b<;>rw [b]<;>decide
 rw [e,if_pos (show okP ⟨p.tag,p.value,p.flags⟩=true from h)]
theorem core_wf {s:Bytes} {p:Pan} (h:coreP s=some p):Wf p.value∧(p.flags=0∨p.flags=2)∧0≤p.tag∧p.tag≤4∧baseP p=s:=by
 have wn :∀n:Int,n=1∨n=2∨n=3→Wf (Val.mk 2 n [] [] false):=fun n hn=>.mk (by decide) (by omega) (by decide) (by simp)
 unfold coreP at h
 by_cases h1:s=tExit
 ·rw [if_pos h1] at h;cases h;exact ⟨Wf.zero,.inr rfl,by decide,by decide,h1.symm⟩
 rw [if_neg h1] at h
 by_cases h2:s=tF1
 ·rw [if_pos h2] at h;cases h;exact ⟨wn 1 (by decide),.inl rfl,by decide,by decide,h2.symm⟩
 rw [if_neg h2] at h
 by_cases h3:s=tF2
 ·rw [if_pos h3] at h;cases h;exact ⟨wn 2 (by decide),.inl rfl,by decide,by decide,h3.symm⟩
 rw [if_neg h3] at h
 by_cases h4:s=tF3
 ·rw [if_pos h4] at h;cases h;exact ⟨wn 3 (by decide),.inl rfl,by decide,by decide,h4.symm⟩
 rw [if_neg h4] at h
 by_cases h5:(cutp tPan s).2=false
 ·rw [if_pos h5] at h;cases h
 rw [if_neg h5] at h
 by_cases h6:(rvs (cutp tPan s).1).2≠0
 ·rw [if_pos h6] at h;cases h
 rw [if_neg h6] at h
 have h5:(cutp tPan s).2=true:=by simpa using h5
 obtain ⟨g1,g2,g3⟩:=rvs_inv (Decidable.not_not.1 h6)
 have es:tPan++txt (rvs (cutp tPan s).1).1=s:=by
  rw [g2]
  unfold cutp at h5 ⊢
  split at h5
  ·rename_i h7
   have:=List.take_append_drop tPan.length s
   rw [h7] at this
   rw [if_pos h7]
   exact this
  ·cases h5
 simp only at h
 split at h
 ·cases h;exact ⟨g3,.inl rfl,by simp only;decide,by simp only;decide,es⟩
 split at h
 ·cases h;exact ⟨g3,.inl rfl,by simp only;decide,by simp only;decide,es⟩
 split at h
 ·cases h;exact ⟨g3,.inl rfl,by simp only;decide,by simp only;decide,es⟩
 ·cases h
end Go.AM

namespace Go.AM
open Go
structure Has38 (prog:Prog):Prop extends Has03 prog,HasB prog where
 f72:prog.fn 72=some pf72
 f74:prog.fn 74=some pf74
 f76:prog.fn 76=some pf76
 f78:prog.fn 78=some pf78
 f104:prog.fn 104=some pf104
 f107:prog.fn 107=some pf107
 f109:prog.fn 109=some pf109
 f128:prog.fn 128=some pf128
 f129:prog.fn 129=some pf129
 f130:prog.fn 130=some pf130
 f131:prog.fn 131=some pf131
section
variable {prog:Prog} (H:Has38 prog)
include H
end
end Go.AM

namespace Go.AM
open Go
theorem bAnd1 (n:Int):bAnd .i64 n 1=n % 2:=by
 unfold bAnd
 have h1:(BitVec.ofInt IntKind.i64.bits n &&& BitVec.ofInt IntKind.i64.bits 1).toNat=(n % 2).toNat:=by
  show (BitVec.ofInt 64 n &&& BitVec.ofInt 64 1).toNat=_
  rw [BitVec.toNat_and]
  have h2:(BitVec.ofInt 64 1).toNat=2 ^ 1-1:=by decide
  rw [h2,Nat.and_two_pow_sub_one_eq_mod,BitVec.toNat_ofInt]
  omega
 rw [h1,wr_i64 (by omega) (by omega)]
 omega
theorem cut_cases (v:Val):(v.cut=true∧v.cut.toNat=1)∨(v.cut=false∧v.cut.toNat=0):=by cases v.cut<;>simp
theorem okv_succ (d:Nat) (v:Val):okv (d+1) v=(decide v.okh&&v.list.all (okv d)):=rfl
theorem okv_no {d:Nat} {v:Val} (h:¬v.okh):okv (d+1) v=false:=by rw [okv_succ,decide_eq_false h];rfl
theorem okv_yes {d:Nat} {v:Val} (h:v.okh):okv (d+1) v=v.list.all (okv d):=by rw [okv_succ,decide_eq_true h];rfl
section
variable {prog:Prog} (H:Has38 prog)
include H
end
end Go.AM

namespace Go.AM
open Go
section
variable {prog:Prog} (H:Has38 prog)
include H
set_option maxHeartbeats 1000000 in
theorem c109 :∀(d:Nat) {v:Val},Wf v→d≤1000→Pus prog 109 [v.av,.i .i64 (d:Int)] (.tup [.i .i64 (cntR d v).1,.b (cntR d v).2])
 | 0,v,hw,hd=>by
  obtain ⟨x,y,⟨rfl,rfl⟩,h⟩:=p109 H.f109 (v0:=v) (nest1:=((0:Nat):Int)) (K:=fun x y=>x=(cntR 0 v).1∧y=(cntR 0 v).2) (by
   unfold T109_0 T109_1 T109_2 T109_3 T109_4
   have:cntR 0 v=(0,false):=by unfold cntR;rw [if_neg (by rintro ⟨h,_⟩;cases h)]
   rw [this]
   repeat' first | exact ⟨rfl,rfl⟩ | refine ⟨fun _=>?_,fun _=>?_⟩ | (intro h)
   all_goals exact absurd rfl ‹¬((0:Nat):Int)=0›)
  exact h
 | d+1,v,hw,hd=>by
  have ih:=@c109 d
  obtain ⟨x,y,⟨rfl,rfl⟩,h⟩:=p109 H.f109 (v0:=v) (nest1:=((d+1:Nat):Int)) (K:=fun x y=>x=(cntR (d+1) v).1∧y=(cntR (d+1) v).2) (by
   have hm:IntKind.i64.wrap (((d+1:Nat):Int)-1)=(d:Int):=by rw [wr_i64 (by omega) (by omega)];omega
   have ht:v.text=[]↔v.text.length=0:=List.length_eq_zero_iff.symm
   have ht':[]=v.text↔v.text.length=0:=by rw [← ht];exact eq_comm
   have cno:¬(okv (d+1) v=true∧v.nodes≤5000)→cntR (d+1) v=(0,false):=fun h=>by unfold cntR;rw [if_neg h]
   have no:¬v.okh→(0:Int)=(cntR (d+1) v).1∧false=(cntR (d+1) v).2:=fun h=>by
    rw [cno (by rw [okv_no h];rintro ⟨h,_⟩;cases h)];exact ⟨rfl,rfl⟩
   have hl:=hw.l
   have hn:=nodes_eq v
   have lp:v.okh→∀P:Int→Int→Prop,(∀(sum10:Int) (t103:Int),T109_5 prog (fun x y=>x=(cntR (d+1) v).1∧y=(cntR (d+1) v).2) P ((d+1:Nat):Int) sum10 v.list (v.list.length:Int) t103→P sum10 t103)→P 1 0:=by
    intro ho P hP
    have e:=okv_yes (d:=d) ho
    refine loop_inv (P:=fun s i=>P s i) (fun i=>((1+Val.nodesL (v.list.take i):Nat):Int)) v.list.length (fun i=>(v.list.take i).all (okv d)=true∧1+Val.nodesL (v.list.take i)≤5000) (by simp [Val.nodesL]) (fun hI=>?_) (fun i hi hI ihP=>?_)
    ·apply hP
     unfold T109_5 T109_6
     refine ⟨fun h=>absurd h (by omega),fun _=>?_⟩
     rw [List.take_length] at hI ⊢
     unfold cntR
     rw [if_pos ⟨by rw [e];exact hI.1,by omega⟩,hn]
     exact ⟨rfl,rfl⟩
    ·apply hP
     unfold T109_5
     have hnt:=nodesL_take hi
     have hle:=nodesL_le (l:=v.list) (i+1)
     refine ⟨fun _=>⟨by omega,_,get_at hi,_,_,by rw [hm];exact ih (hw.e _ (List.getElem_mem hi)) (by omega),?_⟩,fun h=>absurd (show (i:Int)<v.list.length by omega) h⟩
     by_cases hc:okv d v.list[i]=true∧v.list[i].nodes≤5000
     ·rw [show cntR d v.list[i]=((v.list[i].nodes:Int),true) by unfold cntR;rw [if_pos hc]]
      refine ⟨fun h=>(by cases h),fun _=>⟨fun h=>?_,fun h=>?_⟩⟩
      ·rw [wr_i64 (by omega) (by omega)] at h
       rw [cno (by omega)]
       exact ⟨rfl,rfl⟩
      ·rw [wr_i64 (by omega) (by omega)] at h ⊢
       rw [wr_i64 (by omega) (by omega)]
       have:=ihP ⟨by rw [List.take_succ_eq_append_getElem hi,List.all_append,hI.1];simpa using hc.1,by omega⟩
       rw [hnt] at this
       rw [show ((1+Val.nodesL (v.list.take i):Nat):Int)+(v.list[i].nodes:Int)=((1+(Val.nodesL (v.list.take i)+v.list[i].nodes):Nat):Int) by omega]
       exact this
     ·rw [show cntR d v.list[i]=(0,false) by unfold cntR;rw [if_neg hc]]
      refine ⟨fun _=>?_,fun h=>(by cases h)⟩
      rw [cno (fun h=>hc ⟨okv_sub h.1 _ (List.getElem_mem hi),by have:=nodes_mem (List.getElem_mem hi);omega⟩)]
      exact ⟨rfl,rfl⟩
   unfold T109_0 T109_1 T109_2 T109_3 T109_4
   simp only [Val.int_mk,Val.text_mk,Val.cut_mk,Val.kind_mk,Val.list_mk,bAnd1,ht',ne_eq,not_true_eq_false,false_imp_iff,true_imp_iff,true_and,not_false_eq_true]
   rcases cut_cases v with ⟨hc,hcn⟩ | ⟨hc,hcn⟩
   all_goals simp only [hc,reduceCtorEq,false_imp_iff,true_imp_iff,not_true_eq_false,not_false_eq_true,true_and,and_true]
   all_goals repeat' first | refine ⟨fun _=>?_,fun _=>?_⟩ | (intro h)
   all_goals first
    | exact no (by unfold Val.okh Okh;omega)
    | exact lp (by unfold Val.okh Okh;omega) _ ‹_›
    | (exfalso;omega))
  exact h
theorem c76 {v:Val} (hw:Wf v):Pus prog 76 [v.av] (.i .i64 (chkR v)):=by
 obtain ⟨x,rfl,h⟩:=p76 H.f76 (v0:=v) (K:=fun x=>x=chkR v) (by
  unfold T76_0 chkR
  refine ⟨_,_,c109 H 130 hw (by decide),?_⟩
  unfold cntR fine
  by_cases h:okv 130 v=true∧v.nodes≤5000
  ·rw [if_pos h,if_pos (by simpa using h)]
   exact ⟨fun h=>(by cases h),fun _=>rfl⟩
  ·rw [if_neg h,if_neg (by simpa using h)]
   exact ⟨fun _=>rfl,fun h=>(by cases h)⟩)
 exact h
end
end Go.AM

namespace Go.AM
open Go
theorem txts_app (l m:List Val):txts (l++m)=txts l++(if l.length=0 then txts m else txtl m):=by
 cases l with
 | nil=>simp [txts]
 | cons a l=>simp [txts,txtl_app]
theorem txts_take_len (l:List Val) (i:Nat):(txts (l.take i)).length≤(txts l).length:=by
 have:=txts_app (l.take i) (l.drop i)
 rw [List.take_append_drop] at this
 rw [this,List.length_append]
 omega
theorem quoR_ok {s:Bytes} (h:s.length≤400):quoR s=(quo s,0):=by
 unfold quoR
 rw [if_neg (by omega)]
section
variable {prog:Prog} (H:Has38 prog)
include H
theorem show_loop {K:Int→Bytes→Prop} {l:List Val} {e0 e1:UInt8} {b:Bytes} (hl:l.length≤16) (hx :∀x∈l,∀b:Bytes,b.length+(txt x).length≤100000000→PuX prog 104 (Bl b) [x.av] (fun r=>r=.i .i64 0) (Bl (b++txt x)))
  (hb:b.length+(txts l).length+2≤100000000) (hK:K 0 (b++[e0]++txts l++[e1])) :∀P0:Int→Bytes→Prop,(∀(t22:Int) (mP:Bytes),T104_9 prog K P0 [e0,e1] l (l.length:Int) t22 mP→P0 t22 mP)→P0 0 (b++[e0]):=by
 intro P hP
 have:=loop_up (P:=fun m i=>P i m) (fun i=>b++[e0]++txts (l.take i)) l.length ?_ fun i hi ihP=>?_
 ·simpa [txts] using this
 ·apply hP
  unfold T104_9 T104_11 T104_4
  rw [List.take_length]
  refine ⟨fun h=>absurd h (by omega),fun _=>⟨by simp,_,_,c126 H.toHasB (s:=[e1]) ?_,hK⟩⟩
  rw [maxBytes_eq];simp only [List.length_append,List.length_cons,List.length_nil];omega
 ·apply hP
  have h1:=txts_take_len l (i+1)
  rw [txts_take hi] at h1 ihP
  simp only [List.length_append] at h1
  unfold T104_9 T104_10
  refine ⟨fun _=>⟨by omega,_,get_at hi,fun h2=>?_,fun h2=>?_⟩,fun h=>absurd (show (i:Int)<l.length by omega) h⟩
  ·rw [if_pos (by omega)] at h1 ihP
   refine ⟨_,_,c126 H.toHasB (s:=[44,32]) ?_,_,_,hx _ (List.getElem_mem hi) _ ?_,fun h=>absurd rfl h,fun _=>?_⟩
   ·rw [maxBytes_eq];simp only [List.length_append,List.length_cons,List.length_nil];omega
   ·simp only [List.length_append,List.length_cons,List.length_nil] at h1 ⊢;omega
   ·rw [wr_succ (by omega)]
    simpa using ihP
  ·rw [if_neg (by omega)] at h1 ihP
   refine ⟨_,_,hx _ (List.getElem_mem hi) _ ?_,fun h=>absurd rfl h,fun _=>?_⟩
   ·simp only [List.length_append,List.length_cons,List.length_nil] at h1 ⊢;omega
   ·rw [wr_succ (by omega)]
    simpa using ihP
set_option maxHeartbeats 1000000 in
theorem c104 :∀(d:Nat) {v:Val},okv d v=true→Wf v→∀b:Bytes,b.length+(txt v).length≤100000000→PuX prog 104 (Bl b) [v.av] (fun r=>r=.i .i64 0) (Bl (b++txt v))
 | 0,v,h,_,_,_=>by cases h
 | d+1,v,h,hw,b,hlen=>by
  have h1:=okv_head h
  have h2:=okv_sub h
  have ih :∀x∈v.list,∀b:Bytes,b.length+(txt x).length≤100000000→PuX prog 104 (Bl b) [x.av] (fun r=>r=.i .i64 0) (Bl (b++txt x)):=fun x hx b hb=>c104 d (h2 _ hx) (hw.e _ hx) b hb
  refine (p104 H.f104 (v1:=v) (mP:=b) (K:=fun r b'=>r=0∧b'=b++txt v) ?_).to fun r b' hk=>?_
  ·have hB :∀{s:Bytes} {a:Int},(txt v)=s→∃r':Int,∃b'':Bytes,PuX prog 126 (Bl b) [.s s] (fun r=>r=.tup [.i .i64 r',.ni]) (Bl b'')∧T104_4 prog (fun r b'=>r=0∧b'=b++txt v) b'':=by
    intro s a hs
    refine ⟨_,_,c126 H.toHasB (s:=s) ?_ (hs ▸ txt_ne v),?_⟩
    ·rw [← hs,maxBytes_eq];omega
    ·unfold T104_4;rw [hs];exact ⟨rfl,rfl⟩
   have hk:1≤v.kind∧v.kind≤7:=by unfold Val.okh Okh at h1;omega
   have hn:=hw.n
   rw [txt_eq] at hlen
   have ht:=txt_eq v
   unfold T104_0 T104_1
   refine ⟨by omega,?_⟩
   have hkk:v.kind=1∨v.kind=2∨v.kind=3∨v.kind=4∨v.kind=5∨v.kind=6∨v.kind=7:=by omega
   rcases hkk with k | k | k | k | k | k | k
   all_goals rw [k]
   all_goals simp only [k,if_true,reduceCtorEq,if_false,Int.reduceEq] at ht hlen
   ·refine ⟨[],rfl,?_⟩
    unfold T104_2 T104_3 T104_5
    rw [k]
    refine ⟨fun _=>⟨fun h=>hB (a:=0) ?_,fun h=>⟨fun _=>hB (a:=0) ?_,fun h=>by simp at h⟩⟩,fun h=>absurd rfl h⟩
    ·rw [ht,if_pos (by simpa using h)];rfl
    ·rw [ht,if_neg (by simpa using h)];rfl
   ·refine ⟨[],rfl,?_⟩
    unfold T104_2 T104_3 T104_5 T104_6
    rw [k]
    refine ⟨fun h=>absurd h (by decide),fun _=>⟨fun h=>(by cases h),fun _=>⟨fun h=>(by simp at h),fun _=>⟨fun _=>⟨_,c15 H.toHas03 hn.1 hn.2,hB (a:=0) ht⟩,fun h=>by simp at h⟩⟩⟩⟩
   ·refine ⟨[],rfl,?_⟩
    unfold T104_2 T104_3 T104_5 T104_6 T104_7
    rw [k]
    refine ⟨fun h=>absurd h (by decide),fun _=>⟨fun h=>(by cases h),fun _=>⟨fun h=>(by simp at h),fun _=>⟨fun h=>(by simp at h),fun _=>⟨fun _=>⟨_,_,c11 H.toHas03 v.text,?_⟩,fun h=>by simp at h⟩⟩⟩⟩⟩
    rw [quoR_ok (by unfold Val.okh Okh at h1;omega)]
    refine ⟨_,_,c126 H.toHasB (s:=quo v.text) ?_,rfl,?_⟩
    ·rw [maxBytes_eq];omega
    ·rw [ht]
   ·refine ⟨[],rfl,?_⟩
    unfold T104_2 T104_3 T104_5 T104_6 T104_7 T104_8
    rw [k]
    refine ⟨fun h=>absurd h (by decide),fun _=>⟨fun h=>(by cases h),fun _=>⟨fun h=>(by simp at h),fun _=>⟨fun h=>(by simp at h),fun _=>⟨fun h=>(by simp at h),fun _=>⟨fun _=>⟨fun hc=>hB (a:=0) ?_,fun hc=>⟨fun _=>⟨fun hl=>hB (a:=0) ?_,fun hl=>⟨fun _=>?_,fun h=>absurd rfl h⟩⟩,fun h=>absurd rfl h⟩⟩,fun h=>absurd rfl h⟩⟩⟩⟩⟩⟩
    ·rw [ht,if_pos hc];rfl
    ·rw [ht,if_neg (by rw [hc];decide),if_pos (by omega)];rfl
    ·rw [if_neg (by rw [hc];decide),if_neg (by omega)] at ht hlen
     have hl1:v.list.length=1:=by unfold Val.okh Okh at h1;omega
     obtain ⟨w,hw1⟩:=List.length_eq_one_iff.1 hl1
     rw [hw1,txts_one] at hlen ht
     simp only [List.length_cons] at hlen
     refine ⟨_,_,c126 H.toHasB (s:=[38]) ?_,w,by rw [hw1];rfl,_,_,ih w (by rw [hw1];exact List.mem_cons_self) _ ?_,rfl,?_⟩
     ·rw [maxBytes_eq];simp only [List.length_cons,List.length_nil];omega
     ·simp only [List.length_append,List.length_cons,List.length_nil];omega
     ·rw [ht];simp
   ·have hc:v.cut=false:=by
     have:v.cut.toNat=0:=by unfold Val.okh Okh at h1;omega
     cases hc:v.cut
     ·rfl
     ·rw [hc] at this;cases this
    refine ⟨[123,125],rfl,?_⟩
    unfold T104_2 T104_3 T104_5 T104_6 T104_7 T104_8
    rw [k]
    refine ⟨fun h=>absurd h (by decide),fun _=>⟨fun h=>(by cases h),fun _=>⟨fun h=>(by simp at h),fun _=>⟨fun h=>(by simp at h),fun _=>⟨fun h=>(by simp at h),fun _=>⟨fun h=>absurd h (by decide),fun _=>⟨fun h=>(by cases h),fun _=>⟨fun h=>absurd h (by decide),fun _=>⟨fun h=>absurd h (by decide),fun _=>⟨fun h=>(by rw [hc] at h;cases h),fun _=>⟨by decide,_,_,c126 H.toHasB (s:=[123]) ?_,?_⟩⟩⟩⟩⟩⟩⟩⟩⟩⟩⟩
    ·rw [maxBytes_eq];simp only [List.length_cons,List.length_nil,List.length_append] at hlen ⊢;omega
    ·simp only [List.length_cons,List.length_nil,List.length_append] at hlen
     exact show_loop H (by unfold Val.okh Okh at h1;omega) ih (by omega) ⟨rfl,by rw [ht];simp⟩
   ·have hc:v.cut=false:=by
     have:v.cut.toNat=0:=by unfold Val.okh Okh at h1;omega
     cases hc:v.cut
     ·rfl
     ·rw [hc] at this;cases this
    refine ⟨[91,93],rfl,?_⟩
    unfold T104_2 T104_3 T104_5 T104_6 T104_7 T104_8
    rw [k]
    refine ⟨fun h=>absurd h (by decide),fun _=>⟨fun h=>(by cases h),fun _=>⟨fun h=>(by simp at h),fun _=>⟨fun h=>(by simp at h),fun _=>⟨fun h=>(by simp at h),fun _=>⟨fun h=>absurd h (by decide),fun _=>⟨fun h=>(by cases h),fun _=>⟨fun h=>absurd h (by decide),fun _=>⟨fun h=>absurd h (by decide),fun _=>⟨fun h=>(by rw [hc] at h;cases h),fun _=>⟨by decide,_,_,c126 H.toHasB (s:=[91]) ?_,?_⟩⟩⟩⟩⟩⟩⟩⟩⟩⟩⟩
    ·rw [maxBytes_eq];simp only [List.length_cons,List.length_nil,List.length_append] at hlen ⊢;omega
    ·simp only [List.length_cons,List.length_nil,List.length_append] at hlen
     exact show_loop H (by unfold Val.okh Okh at h1;omega) ih (by omega) ⟨rfl,by rw [ht];simp⟩
   ·refine ⟨[60,62],rfl,?_⟩
    unfold T104_2 T104_3 T104_5 T104_6 T104_7 T104_8
    rw [k]
    refine ⟨fun h=>absurd h (by decide),fun _=>⟨fun h=>(by cases h),fun _=>⟨fun h=>(by simp at h),fun _=>⟨fun h=>(by simp at h),fun _=>⟨fun h=>(by simp at h),fun _=>⟨fun h=>absurd h (by decide),fun _=>⟨fun h=>(by cases h),fun _=>⟨fun h=>absurd h (by decide),fun _=>⟨fun h=>absurd h (by decide),fun _=>⟨fun hc=>hB (a:=0) ?_,fun hc=>⟨by decide,_,_,c126 H.toHasB (s:=[60]) ?_,?_⟩⟩⟩⟩⟩⟩⟩⟩⟩⟩⟩
    ·rw [ht,if_pos hc];rfl
    ·rw [if_neg (by rw [hc];decide)] at hlen
     rw [maxBytes_eq];simp only [List.length_cons,List.length_nil,List.length_append] at hlen ⊢;omega
    ·rw [if_neg (by rw [hc];decide)] at hlen ht
     simp only [List.length_cons,List.length_nil,List.length_append] at hlen
     exact show_loop H (by unfold Val.okh Okh at h1;omega) ih (by omega) ⟨rfl,by rw [ht];simp⟩
  ·obtain ⟨x0,h1,rfl,rfl⟩:=hk
   exact ⟨h1,rfl⟩
theorem c72 {v:Val} (hw:Wf v):Pus prog 72 [v.av] (.tup [.s (if fine v=true then txt v else []),.i .i64 (chkR v)]):=by
 obtain ⟨x,y,⟨rfl,rfl⟩,h⟩:=p72 H.f72 (v0:=v) (K:=fun x y=>x=(if fine v=true then txt v else [])∧y=chkR v) (by
  unfold T72_0
  refine ⟨_,c76 H hw,fun h=>?_,fun h=>?_⟩
  ·unfold chkR at h ⊢
   by_cases hf:fine v=true
   ·rw [if_pos hf] at h;exact absurd rfl h
   ·rw [if_neg hf,if_neg hf];exact ⟨rfl,rfl⟩
  ·unfold chkR at h ⊢
   by_cases hf:fine v=true
   ·rw [if_pos hf,if_pos hf]
    have:=fine_len hf
    refine ⟨_,_,c104 H 130 (fine_ok hf).1 hw [] (by simp only [List.length_nil];omega),fun h=>absurd rfl h,fun _=>⟨_,c105 H.toHasB (by rw [List.nil_append,maxBytes_eq];omega),rfl,rfl⟩⟩
   ·rw [if_neg hf] at h;exact absurd (by decide) h)
 exact h
end
end Go.AM

namespace Go.AM
open Go
theorem digN_lt :∀{s:Bytes} {i:Nat},i<digN s→∃c,s[i]?=some c∧isD c=true
 | [],i,h=>absurd h (Nat.not_lt_zero _)
 | c::s,0,h=>by
  rw [digN] at h
  split at h
  ·rename_i hc;exact ⟨c,rfl,hc⟩
  ·exact absurd h (Nat.not_lt_zero _)
 | c::s,i+1,h=>by
  rw [digN] at h
  split at h
  ·exact digN_lt (s:=s) (i:=i) (by omega)
  ·exact absurd h (Nat.not_lt_zero _)
theorem digN_stop :∀{s:Bytes} {c:UInt8},s[digN s]?=some c→isD c=false
 | [],c,h=>by cases h
 | x::s,c,h=>by
  rw [digN] at h
  split at h
  ·rw [Nat.add_comm,List.getElem?_cons_succ] at h
   exact digN_stop h
  ·rename_i hx
   rw [List.getElem?_cons_zero] at h
   injection h with h
   subst h
   simpa using hx
theorem numN_lt {s:Bytes} {i:Nat} (h:i<numN s) :∃c,s[i]?=some c∧(isD c=true∨(i=0∧c=45)):=by
 unfold numN at h
 split at h
 ·rename_i h1
  cases s with
  | nil=>cases h1
  | cons x s=>
   injection h1 with h1
   subst h1
   cases i with
   | zero=>exact ⟨45,rfl,.inr ⟨rfl,rfl⟩⟩
   | succ i=>
    obtain ⟨c,h2,h3⟩:=digN_lt (s:=s) (i:=i) (by simp only [List.drop_succ_cons,List.drop_zero] at h;omega)
    exact ⟨c,h2,.inl h3⟩
 ·obtain ⟨c,h2,h3⟩:=digN_lt h
  exact ⟨c,h2,.inl h3⟩
theorem numN_stop {s:Bytes} {c:UInt8} (h:s[numN s]?=some c):isD c=false∧(numN s=0→c≠45):=by
 unfold numN at *
 split at h
 ·rename_i h1
  rw [if_pos h1]
  cases s with
  | nil=>cases h1
  | cons x s=>
   simp only [List.drop_succ_cons,List.drop_zero] at h ⊢
   rw [Nat.add_comm,List.getElem?_cons_succ] at h
   exact ⟨digN_stop h,fun h=>absurd h (by omega)⟩
 ·rename_i h1
  rw [if_neg h1]
  refine ⟨digN_stop h,fun h2=>?_⟩
  rw [h2] at h
  rintro rfl
  exact h1 (by rw [List.head?_eq_getElem?];exact h)
theorem isD_iff {c:UInt8}:isD c=true↔48≤c.toNat∧c.toNat≤57:=by unfold isD;simp
theorem isD_not {c:UInt8}:isD c=false↔¬(48≤c.toNat∧c.toNat≤57):=by rw [← isD_iff];simp
theorem qs_nil:qs []=none:=rfl
theorem qs_esc0:qs [92]=none:=rfl
theorem qs_esc (x:UInt8) (r:Bytes):qs (92::x::r)=(qs r).map (·+2):=rfl
theorem qs_end (r:Bytes):qs (34::r)=some 1:=by rw [qs.eq_def];rfl
theorem qs_go {c:UInt8} (h1:¬c=92) (h2:¬c=34) (r:Bytes):qs (c::r)=(qs r).map (·+1):=by
 rw [qs.eq_def]
 simp only [if_neg h1,if_neg h2]
theorem u8_45 {c:UInt8}:c=45↔c.toNat=45:=⟨fun h=>by rw [h];rfl,fun h=>u8_eq h⟩
section
variable {prog:Prog} (H:Has38 prog)
include H
theorem c128 (p s:Bytes):PuX prog 128 (Bx [.s s]) [.s p] (fun r=>r=.b (cutp p s).2) (Bx [.s (cutp p s).1]):=by
 refine (p128 H.f128 (what1:=p) (mP:=⟨s⟩) (K:=fun r b=>r=(cutp p s).2∧b=⟨(cutp p s).1⟩) ?_).to (b:=⟨(cutp p s).1⟩) fun r b' hk=>?_
 ·unfold T128_0
  exact ⟨_,_,c36 H.toHas03 s p,rfl,rfl⟩
 ·obtain ⟨x0,h1,rfl,rfl⟩:=hk
  exact ⟨h1,rfl⟩
theorem c131 {s:Bytes} (hs:s.length≤1000000000):PuX prog 131 (Bx [.s s]) [] (fun r=>r=.tup [.i .i64 (scNum s).1,.b (scNum s).2.1]) (Bx [.s (scNum s).2.2]):=by
 refine (p131 H.f131 (mP:=⟨s⟩) (K:=fun x y b=>x=(scNum s).1∧y=(scNum s).2.1∧b=⟨(scNum s).2.2⟩) ?_).to (b:=⟨(scNum s).2.2⟩) fun r b' hk=>?_
 ·unfold T131_0 T131_1
  intro P hP
  have hle:=numN_le s
  refine loop_up0 (P:=fun i=>P i ⟨s⟩) (numN s) ?_ fun i hi ih=>?_
  ·apply hP
   unfold T131_2
   have fin:0≤((numN s:Nat):Int)∧((numN s:Nat):Int).toNat≤s.length∧∃r:Int,∃r':Int,Pus prog 21 [.s (s.take ((numN s:Nat):Int).toNat)] (.tup [.i .i64 r,.i .i64 r'])∧0≤((numN s:Nat):Int)∧((numN s:Nat):Int).toNat≤s.length∧r=(scNum s).1∧(decide (r'=0))=(scNum s).2.1∧Sc.mk (s.drop ((numN s:Nat):Int).toNat)=⟨(scNum s).2.2⟩:=by
    rw [toNat_cast]
    exact ⟨by omega,hle,_,_,c21 H.toHas03 _,by omega,hle,rfl,rfl,rfl⟩
   refine ⟨fun h=>?_,fun _=>fin⟩
   have hlt:numN s<s.length:=by simp only at h;omega
   obtain ⟨h1,h2⟩:=numN_stop (List.getElem?_eq_getElem hlt)
   have h1:=isD_not.1 h1
   have h2:numN s=0→¬(s[numN s].toNat=45):=fun h=>fun h'=>h2 h (u8_45.2 h')
   refine ⟨by omega,s[numN s],get_at hlt,fun h3=>⟨by omega,s[numN s],get_at hlt,fun h4=>absurd ⟨by omega,by omega⟩ h1,fun h4=>⟨fun h5=>⟨by omega,s[numN s],get_at hlt,fun h6=>absurd (show s[numN s].toNat=45 by omega) (h2 (by omega)),fun _=>fin⟩,fun _=>fin⟩⟩,
    fun h3=>⟨fun h5=>⟨by omega,s[numN s],get_at hlt,fun h6=>absurd (show s[numN s].toNat=45 by omega) (h2 (by omega)),fun _=>fin⟩,fun _=>fin⟩⟩
  ·apply hP
   obtain ⟨c,hc,hd⟩:=numN_lt hi
   have hc':s[((i:Nat):Int).toNat]?=some c:=hc
   rw [isD_iff,u8_45] at hd
   have ih':P (IntKind.i64.wrap ((i:Int)+1)) ⟨s⟩:=by rw [wr_succ (by omega)];exact ih
   unfold T131_2
   refine ⟨fun _=>⟨by omega,c,hc',fun h3=>⟨by omega,c,hc',fun _=>ih',fun h4=>⟨fun h5=>⟨by omega,c,hc',fun _=>ih',fun h6=>absurd h6 (by omega)⟩,fun h5=>absurd h5 (by omega)⟩⟩,
    fun h3=>⟨fun h5=>⟨by omega,c,hc',fun _=>ih',fun h6=>absurd h6 (by omega)⟩,fun h5=>absurd h5 (by omega)⟩⟩,fun h=>absurd (show (i:Int)<s.length by omega) h⟩
 ·obtain ⟨x0,x1,h1,rfl,rfl,rfl⟩:=hk
  exact ⟨h1,rfl⟩
theorem c130 {s:Bytes} (hs:s.length≤1000000000):PuX prog 130 (Bx [.s s]) [] (fun r=>r=.tup [.s (scQ s).1,.b (scQ s).2.1]) (Bx [.s (scQ s).2.2]):=by
 refine (p130 H.f130 (mP:=⟨s⟩) (K:=fun x y b=>x=(scQ s).1∧y=(scQ s).2.1∧b=⟨(scQ s).2.2⟩) ?_).to (b:=⟨(scQ s).2.2⟩) fun r b' hk=>?_
 ·unfold T130_0 T130_1
  intro P hP
  have go :∀m i:Nat,s.length≤i+m→i≤s.length+1→1≤i→qs (s.drop 1)=(qs (s.drop i)).map (·+(i-1))→P (i:Int) ⟨s⟩:=by
   intro m
   induction m using Nat.strongRecOn with
   | _ m ih=>
   intro i hm hi h1 hq
   apply hP
   unfold T130_2
   refine ⟨fun h=>?_,fun h=>?_⟩
   ·have:s.drop i=[]:=List.drop_eq_nil_of_le (by simp only at h;omega)
    rw [this,qs_nil,Option.map_none] at hq
    unfold scQ
    rw [hq]
    exact ⟨rfl,rfl,rfl⟩
   ·have hlt:i<s.length:=by simp only at h;omega
    have hd:s.drop i=s[i]::s.drop (i+1):=List.drop_eq_getElem_cons hlt
    refine ⟨by omega,s[i],get_at hlt,fun h2=>?_,fun h2=>⟨by omega,s[i],get_at hlt,fun h3=>?_,fun h3=>?_⟩⟩
    ·rw [wr_i64 (by omega) (by omega),show (i:Int)+2=((i+2:Nat):Int) by omega]
     have hc:s[i]=92:=u8_eq (by show s[i].toNat=92;omega)
     rw [hd,hc] at hq
     by_cases hl:i+1<s.length
     ·have hd2:s.drop (i+1)=s[i+1]::s.drop (i+2):=List.drop_eq_getElem_cons hl
      refine ih (m-2) (by omega) (i+2) (by omega) (by omega) (by omega) ?_
      rw [hd2,qs_esc,Option.map_map] at hq
      rw [hq]
      congr 1
      funext x
      simp only [Function.comp]
      omega
     ·have hd2:s.drop (i+1)=[]:=List.drop_eq_nil_of_le (by omega)
      refine ih (m-1) (by omega) (i+2) (by omega) (by omega) (by omega) ?_
      rw [hd2,qs_esc0] at hq
      rw [hq,List.drop_eq_nil_of_le (show s.length≤i+2 by omega),qs_nil]
      rfl
    ·rw [wr_succ (by omega)]
     have hc:¬s[i]=92:=fun e=>h2 (by rw [e];rfl)
     have hc':¬s[i]=34:=fun e=>h3 (by rw [e];rfl)
     rw [hd,qs_go hc hc',Option.map_map] at hq
     refine ih (m-1) (by omega) (i+1) (by omega) (by omega) (by omega) ?_
     rw [hq]
     congr 1
     funext x
     simp only [Function.comp]
     omega
    ·rw [wr_succ (by omega),toNat_cast]
     have hc:s[i]=34:=u8_eq (by show s[i].toNat=34;simp only [ne_eq,Decidable.not_not] at h3;omega)
     rw [hd,hc,qs_end,Option.map_some] at hq
     have e:1+(i-1)+1=i+1:=by omega
     refine ⟨by omega,by show i+1≤s.length;omega,_,_,c25 H.toHas03 _,by omega,by show i+1≤s.length;omega,?_⟩
     unfold scQ
     rw [hq]
     simp [e]
  exact go s.length 1 (by omega) (by omega) (by omega) (by simp)
 ·obtain ⟨x0,x1,h1,rfl,rfl,rfl⟩:=hk
  exact ⟨h1,rfl⟩
end
end Go.AM

namespace Go.AM
open Go
theorem scNum_len (s:Bytes):(scNum s).2.2.length≤s.length:=by unfold scNum;simp
theorem scQ_len (s:Bytes):(scQ s).2.2.length≤s.length:=by
 unfold scQ
 split<;>simp
theorem cutp_len (p s:Bytes):(cutp p s).1.length≤s.length:=by
 unfold cutp
 split<;>simp
section
variable {f:Bytes→Val × Bool × Bytes}
theorem scG_len {kind:Int} {stop:Bytes} (hf :∀s,(f s).2.2.length≤s.length) :∀(n:Nat) (acc:List Val) (s:Bytes),(scG f kind stop n acc s).2.2.length≤s.length
 | 0,acc,s=>Nat.le_refl _
 | n+1,acc,s=>by
  have h1:=hf s
  have h2:=cutp_len stop (f s).2.2
  have h3:=cutp_len [44,32] (cutp stop (f s).2.2).1
  rw [scG]
  split
  ·exact h1
  ·split
   ·exact Nat.le_trans h2 h1
   ·split
    ·exact Nat.le_trans h3 (Nat.le_trans h2 h1)
    ·exact Nat.le_trans (scG_len hf n _ _) (Nat.le_trans h3 (Nat.le_trans h2 h1))
theorem scL_len {kind:Int} {stop s:Bytes} (hf :∀s,(f s).2.2.length≤s.length):(scL f kind stop s).2.2.length≤s.length:=by
 unfold scL
 split
 ·exact cutp_len _ _
 ·exact Nat.le_trans (scG_len hf 17 [] _) (cutp_len _ _)
theorem len_ite {c:Prop} [Decidable c] {a b:Val × Bool × Bytes} {n:Nat} (ha:a.2.2.length≤n) (hb:b.2.2.length≤n):(if c then a else b).2.2.length≤n:=by
 split
 ·exact ha
 ·exact hb
theorem scV_len :∀(d:Nat) (s:Bytes),(scV d s).2.2.length≤s.length
 | 0,s=>Nat.le_refl _
 | d+1,s=>by
  have ih:=scV_len d
  rw [scV]
  exact len_ite (Nat.le_refl _) (len_ite (cutp_len _ _) (len_ite (cutp_len _ _) (len_ite (cutp_len _ _) (len_ite (cutp_len _ _) (len_ite (cutp_len _ _) (len_ite (Nat.le_trans (ih _) (cutp_len _ _)) (len_ite (Nat.le_trans (scL_len ih) (cutp_len _ _))
   (len_ite (Nat.le_trans (scL_len ih) (cutp_len _ _)) (len_ite (Nat.le_trans (scL_len ih) (cutp_len _ _)) (len_ite (scQ_len _) (scNum_len _)))))))))))
end
section
variable {prog:Prog} (H:Has38 prog)
include H
abbrev ScR (r:Val × Bool × Bytes):AV→Prop:=fun x=>∃o:Own,x=.tup [.ag [.i .u8 r.1.kind,.i .i64 r.1.int,.s r.1.text,.sl o (List.map Val.row r.1.list),.b r.1.cut],.b r.2.1]
theorem c129 {f:Bytes→Val × Bool × Bytes} {d:Nat} (hf :∀s,(f s).2.2.length≤s.length) (hc :∀s:Bytes,s.length≤1000000000→PuX prog 107 (Bx [.s s]) [.i .i64 (d:Int)] (ScR (f s)) (Bx [.s (f s).2.2])) {kind:Int} {stop s:Bytes} (hs:s.length≤1000000000) :
  PuX prog 129 (Bx [.s s]) [.i .u8 kind,.s stop,.i .i64 (d:Int)] (ScR (scL f kind stop s)) (Bx [.s (scL f kind stop s).2.2]):=by
 refine (p129 H.f129 (kind1:=kind) (end2:=stop) (nest3:=(d:Int)) (mP:=⟨s⟩) (K:=fun x y b=>x=(scL f kind stop s).1∧y=(scL f kind stop s).2.1∧b=⟨(scL f kind stop s).2.2⟩) ?_).to (b:=⟨(scL f kind stop s).2.2⟩) fun r b' hk=>?_
 ·unfold T129_0
  refine ⟨_,⟨(cutp stop s).1⟩,c128 H stop s,fun h=>?_,fun h P hP=>?_⟩
  ·unfold scL
   rw [if_pos h]
   exact ⟨rfl,rfl,rfl⟩
  ·have e:scL f kind stop s=scG f kind stop 17 [] (cutp stop s).1:=by unfold scL;rw [if_neg (by rw [h];decide)]
   have hl:=cutp_len stop s
   generalize (cutp stop s).1=t at hl e ⊢
   have go :∀(n:Nat) (acc:List Val) (u:Bytes),acc.length+n=17→u.length≤t.length→scG f kind stop 17 [] t=scG f kind stop n acc u→P (Val.mk 0 0 [] [] false) (Val.mk kind 0 [] acc false) ⟨u⟩:=by
    intro n
    induction n with
    | zero=>
     intro acc u ha hu hq
     apply hP
     rw [e,hq]
     unfold T129_1 T129_2
     refine ⟨fun h=>absurd h (by simp only [Val.list_mk];omega),fun _=>⟨rfl,rfl,rfl⟩⟩
    | succ n ih=>
     intro acc u ha hu hq
     apply hP
     rw [e,hq,scG]
     have h1:=hf u
     have h2:=cutp_len stop (f u).2.2
     have h3:=cutp_len [44,32] (cutp stop (f u).2.2).1
     unfold T129_1
     refine ⟨fun _=>⟨(f u).1,(f u).2.1,⟨(f u).2.2⟩,hc u (by omega),fun g1=>?_,fun g1=>⟨⟨?_,?_⟩,_,⟨(cutp stop (f u).2.2).1⟩,c128 H stop (f u).2.2,fun g2=>?_,fun g2=>⟨_,⟨(cutp [44,32] (cutp stop (f u).2.2).1).1⟩,c128 H [44,32] (cutp stop (f u).2.2).1,fun g3=>?_,fun g3=>?_⟩⟩⟩,fun h=>absurd (show (acc.length:Int)≤16 by omega) h⟩
     ·rw [if_pos (by simpa using g1)]
      exact ⟨rfl,rfl,rfl⟩
     ·simp only [Val.list_mk,List.length_cons,List.length_nil,maxBytes_eq];omega
     ·simp only [Val.list_mk,List.length_cons,List.length_nil,maxBytes_eq];omega
     ·rw [if_neg (by simpa using g1),if_pos g2]
      exact ⟨rfl,rfl,rfl⟩
     ·rw [if_neg (by simpa using g1),if_neg (by rw [g2];decide),if_pos (by simpa using g3)]
      exact ⟨rfl,rfl,rfl⟩
     ·refine ih (acc++[(f u).1]) _ (by simp;omega) (by omega) ?_
      rw [hq,scG,if_neg (by simpa using g1),if_neg (by rw [g2];decide),if_neg (by simpa using g3)]
   exact go 17 [] t rfl (Nat.le_refl _) rfl
 ·obtain ⟨x0,x1,h1,rfl,rfl,rfl⟩:=hk
  exact ⟨h1,rfl⟩
theorem c107 :∀(d:Nat) {s:Bytes},s.length≤1000000000→d≤1000→PuX prog 107 (Bx [.s s]) [.i .i64 (d:Int)] (ScR (scV d s)) (Bx [.s (scV d s).2.2])
 | 0,s,hs,hd=>by
  refine (p107 H.f107 (nest1:=((0:Nat):Int)) (mP:=⟨s⟩) (K:=fun x y b=>x=(scV 0 s).1∧y=(scV 0 s).2.1∧b=⟨(scV 0 s).2.2⟩) ?_).to (b:=⟨(scV 0 s).2.2⟩) fun r b' hk=>?_
  ·unfold T107_0 T107_1
   exact ⟨fun _=>⟨rfl,rfl,rfl⟩,fun h=>absurd rfl h⟩
  ·obtain ⟨x0,x1,h1,rfl,rfl,rfl⟩:=hk
   exact ⟨h1,rfl⟩
 | d+1,s,hs,hd=>by
  have ih:=fun s hs=>@c107 d s hs (by omega)
  have hm:IntKind.i64.wrap (((d+1:Nat):Int)-1)=(d:Int):=by rw [wr_i64 (by omega) (by omega)];omega
  refine (p107 H.f107 (nest1:=((d+1:Nat):Int)) (mP:=⟨s⟩) (K:=fun x y b=>x=(scV (d+1) s).1∧y=(scV (d+1) s).2.1∧b=⟨(scV (d+1) s).2.2⟩) ?_).to (b:=⟨(scV (d+1) s).2.2⟩) fun r b' hk=>?_
  ·have e:=scV.eq_2 s d
   unfold T107_0 T107_1
   refine ⟨fun h=>absurd h (by omega),fun _=>⟨fun h=>?_,fun h0=>?_⟩⟩
   ·rw [e,if_pos h];exact ⟨rfl,rfl,rfl⟩
   rw [if_neg h0] at e
   unfold T107_2
   refine ⟨_,⟨(cutp tTrue s).1⟩,c128 H tTrue s,?_⟩
   unfold T107_3
   refine ⟨fun h=>?_,fun h=>?_⟩
   ·rw [e,if_pos h];exact ⟨rfl,rfl,rfl⟩
   rw [if_neg (by rw [h];decide)] at e
   rw [cutp_no h]
   refine ⟨_,⟨(cutp tFalse s).1⟩,c128 H tFalse s,?_⟩
   clear h
   unfold T107_4
   refine ⟨fun h=>?_,fun h=>?_⟩
   ·rw [e,if_pos h];exact ⟨rfl,rfl,rfl⟩
   rw [if_neg (by rw [h];decide)] at e
   rw [cutp_no h]
   refine ⟨_,⟨(cutp tNil s).1⟩,c128 H tNil s,?_⟩
   clear h
   unfold T107_5
   refine ⟨fun h=>?_,fun h=>?_⟩
   ·rw [e,if_pos h];exact ⟨rfl,rfl,rfl⟩
   rw [if_neg (by rw [h];decide)] at e
   rw [cutp_no h]
   refine ⟨_,⟨(cutp tCutP s).1⟩,c128 H tCutP s,?_⟩
   clear h
   unfold T107_6
   refine ⟨fun h=>?_,fun h=>?_⟩
   ·rw [e,if_pos h];exact ⟨rfl,rfl,rfl⟩
   rw [if_neg (by rw [h];decide)] at e
   rw [cutp_no h]
   refine ⟨_,⟨(cutp tCutS s).1⟩,c128 H tCutS s,?_⟩
   clear h
   unfold T107_7
   refine ⟨fun h=>?_,fun h=>?_⟩
   ·rw [e,if_pos h];exact ⟨rfl,rfl,rfl⟩
   rw [if_neg (by rw [h];decide)] at e
   rw [cutp_no h]
   refine ⟨_,⟨(cutp [38] s).1⟩,c128 H [38] s,?_⟩
   clear h
   unfold T107_8
   rw [hm]
   have l1:=cutp_len [38] s
   refine ⟨fun h=>⟨_,_,⟨_⟩,ih _ (Nat.le_trans l1 hs),?_⟩,fun h=>?_⟩
   ·rw [e,if_pos h];exact ⟨rfl,rfl,rfl⟩
   rw [if_neg (by rw [h];decide)] at e
   rw [cutp_no h]
   have l1:=cutp_len [123] s
   refine ⟨_,⟨(cutp [123] s).1⟩,c128 H [123] s,fun h=>⟨_,_,⟨_⟩,c129 H (scV_len d) ih (Nat.le_trans l1 hs),?_⟩,fun h=>?_⟩
   ·rw [e,if_pos h];exact ⟨rfl,rfl,rfl⟩
   rw [if_neg (by rw [h];decide)] at e
   rw [cutp_no h]
   have l1:=cutp_len [91] s
   refine ⟨_,⟨(cutp [91] s).1⟩,c128 H [91] s,fun h=>⟨_,_,⟨_⟩,c129 H (scV_len d) ih (Nat.le_trans l1 hs),?_⟩,fun h=>?_⟩
   ·rw [e,if_pos h];exact ⟨rfl,rfl,rfl⟩
   rw [if_neg (by rw [h];decide)] at e
   rw [cutp_no h]
   have l1:=cutp_len [60] s
   refine ⟨_,⟨(cutp [60] s).1⟩,c128 H [60] s,fun h=>⟨_,_,⟨_⟩,c129 H (scV_len d) ih (Nat.le_trans l1 hs),?_⟩,fun h=>?_⟩
   ·rw [e,if_pos h];exact ⟨rfl,rfl,rfl⟩
   rw [if_neg (by rw [h];decide)] at e
   rw [cutp_no h]
   cases s with
   | nil=>exact absurd rfl h0
   | cons c s=>
    refine ⟨c,rfl,fun h=>⟨_,_,⟨_⟩,c130 H hs,?_⟩,fun h=>⟨_,_,⟨_⟩,c131 H hs,?_⟩⟩
    ·have hc:c=34:=u8_eq (by show c.toNat=34;omega)
     subst hc
     rw [e,List.head?_cons,if_pos rfl];exact ⟨rfl,rfl,rfl⟩
    ·rw [e,if_neg (by rw [List.head?_cons];intro he;injection he with he;exact h (by rw [he];rfl))];exact ⟨rfl,rfl,rfl⟩
  ·obtain ⟨x0,x1,h1,rfl,rfl,rfl⟩:=hk
   exact ⟨h1,rfl⟩
omit H in
theorem chk_fine {v:Val}:chkR v=0↔fine v=true:=by
 unfold chkR
 by_cases h:fine v=true
 ·rw [if_pos h];simp [h]
 ·rw [if_neg h];simp [h]
theorem c74 {s:Bytes} (hs:s.length≤1000000000):Pus prog 74 [.s s] (.tup [(rvs s).1.av,.i .i64 (rvs s).2]):=by
 obtain ⟨x,y,⟨rfl,rfl⟩,h⟩:=p74 H.f74 (s0:=s) (K:=fun x y=>x=(rvs s).1∧y=(rvs s).2) (by
  unfold T74_0 rvs
  refine ⟨fun h=>?_,fun h=>⟨_,_,⟨_⟩,c107 H 130 hs (by decide),fun h1=>?_,fun h1=>⟨fun h2=>?_,fun h2=>⟨_,_,c72 H (scV_wf _ _),fun h3=>?_,fun h3=>⟨fun h4=>?_,fun h4=>?_⟩⟩⟩⟩⟩
  ·rw [if_pos (by omega)];exact ⟨rfl,rfl⟩
  ·rw [if_neg (by omega),if_neg (by rintro ⟨h,_⟩;rw [h] at h1;cases h1)];exact ⟨rfl,rfl⟩
  ·rw [if_neg (by omega),if_neg (by rintro ⟨_,h,_⟩;exact h2 h)];exact ⟨rfl,rfl⟩
  ·rw [if_neg (by omega),if_neg (by rintro ⟨_,_,h,_⟩;exact h3 (chk_fine.2 h))];exact ⟨rfl,rfl⟩
  ·rw [if_neg (by omega),if_neg];· exact ⟨rfl,rfl⟩
   rintro ⟨_,_,h5,h6⟩
   rw [if_pos h5] at h4
   exact h4 h6
  ·have h5:=chk_fine.1 (Decidable.not_not.1 h3)
   rw [if_pos h5] at h4
   rw [if_neg (by omega),if_pos ⟨by simpa using h1,Decidable.not_not.1 h2,h5,Decidable.not_not.1 h4⟩]
   exact ⟨rfl,rfl⟩)
 exact h
end
end Go.AM

namespace Go.AM
open Go
section
variable {prog:Prog} (H:Has38 prog)
include H
theorem c78 {a:Val} (hw:Wf a) :∀b:Val,Pus prog 78 [a.av,b.av] (.b (sameV a b)):=by
 induction hw with
 | @mk k n s l c hk hn hl _ ih=>
  intro b
  obtain ⟨x,rfl,h⟩:=p78 H.f78 (a0:=Val.mk k n s l c) (b1:=b) (K:=fun x=>x=sameV (Val.mk k n s l c) b) (by
   have no :∀{p:Prop},(Val.mk k n s l c=b→p)→¬p→false=sameV (Val.mk k n s l c) b:=fun h1 h2=>(sameV_false.2 fun h=>h2 (h1 h)).symm
   unfold T78_0
   refine ⟨fun h=>no (fun e=>by rw [← e]) h,fun h1=>⟨fun h=>no (fun e=>by rw [← e]) h,fun h2=>⟨fun h=>no (fun e=>by rw [← e]) h,fun h3=>⟨fun h=>no (fun e=>by rw [← e]) h,fun h4=>⟨fun h=>no (fun e=>by rw [← e]) h,fun h5 P hP=>?_⟩⟩⟩⟩⟩
   have h1:=Decidable.not_not.1 h1
   have h2:=Decidable.not_not.1 h2
   have h3:=Decidable.not_not.1 h3
   have h4:=Decidable.not_not.1 h4
   have h5:l.length=b.list.length:=by have:=Decidable.not_not.1 h5;simp only [Val.list_mk] at this;omega
   refine loop_inv (P:=fun _ i=>P i (Val.mk k n s l c) b) (fun _=>()) l.length (fun i=>l.take i=b.list.take i) (by simp) (fun hI=>?_) (fun i hi hI ihP=>?_)
   ·apply hP
    unfold T78_1 T78_2
    refine ⟨fun h=>absurd h (by simp only [Val.list_mk];omega),fun _=>(sameV_true.2 ?_).symm⟩
    rw [List.take_length,h5,List.take_length] at hI
    rw [b.eta,← h1,← h2,← h3,← h4,hI]
    rfl
   ·apply hP
    have hi2:i<b.list.length:=by omega
    unfold T78_1
    refine ⟨fun _=>⟨by omega,l[i],get_at (l:=l) hi,by omega,b.list[i],get_at hi2,_,ih _ (List.getElem_mem hi) _,fun h6=>?_,fun h6=>?_⟩,fun h=>absurd (show (i:Int)<l.length by omega) h⟩
    ·refine no (p:=l[i]=b.list[i]) (fun e=>?_) (sameV_false.1 (by simpa using h6))
     subst e
     rfl
    ·rw [wr_i64 (by omega) (by omega)]
     refine ihP ?_
     have h7:l[i]=b.list[i]:=sameV_true.1 (by simpa using h6)
     rw [List.take_succ_eq_append_getElem hi,List.take_succ_eq_append_getElem hi2,hI,h7])
  exact h
end
end Go.AM

namespace Go.AM
open Go
structure HasO (prog:Prog):Prop extends Has38 prog where
 f154:prog.fn 154=some pf154
 f158:prog.fn 158=some pf158
 f178:prog.fn 178=some pf178
 f180:prog.fn 180=some pf180
 f183:prog.fn 183=some pf183
 f186:prog.fn 186=some pf186
 f190:prog.fn 190=some pf190
 f191:prog.fn 191=some pf191
def faults4:List Bytes:=[[],tF1,tF2,tF3]
def kinds5:List UInt8:=[0,2,1,3,2]
theorem kinds5_at {t:Int} (h:0≤t) (h4:¬t>4) :∃c:UInt8,kinds5[t.toNat]?=some c∧((c.toNat:Nat):Int)=kindT t:=by
 rcases (show t=0∨t=1∨t=2∨t=3∨t=4 by omega) with rfl | rfl | rfl | rfl | rfl
 ·exact ⟨0,rfl,rfl⟩
 ·exact ⟨2,rfl,rfl⟩
 ·exact ⟨1,rfl,rfl⟩
 ·exact ⟨3,rfl,rfl⟩
 ·exact ⟨2,rfl,rfl⟩
theorem faults4_at {n:Int} (h:1≤n) (h3:n≤3):faults4[n.toNat]?=some (faultT n):=by
 rcases (show n=1∨n=2∨n=3 by omega) with rfl | rfl | rfl<;>rfl
theorem okP_no4 {p:Pan} (h:p.tag>4):okP p=false:=by unfold okP;rw [decide_eq_false (by omega)];rfl
theorem okP_nok {p:Pan} (h:p.value.kind≠kindT p.tag):okP p=false:=by unfold okP;rw [decide_eq_false h];simp
theorem okP_0 {p:Pan} (h:p.tag=0) (hk:p.value.kind=kindT p.tag):okP p=(isZ p.value&&decide (p.flags=2∨p.flags=6)):=by
 unfold okP;rw [decide_eq_true hk,decide_eq_true (by omega),if_pos h];rfl
theorem okP_n0 {p:Pan} (h4:¬p.tag>4) (h:p.tag≠0) (hk:p.value.kind=kindT p.tag):okP p=(decide (p.flags=0∨p.flags=1∨p.flags=4∨p.flags=5)&&decide (p.tag=4→1≤p.value.int∧p.value.int≤3)&&fine p.value):=by
 unfold okP;rw [decide_eq_true hk,decide_eq_true (by omega),if_neg h];rfl
theorem chkP_no {p:Pan} (h:okP p=false):chkP p=8:=by unfold chkP;rw [h];rfl
theorem chkP_yes {p:Pan} (h:okP p=true):chkP p=0:=by unfold chkP;rw [h];rfl
theorem chkP_iff {p:Pan}:chkP p=0↔okP p=true:=by unfold chkP;split<;>simp_all
section
variable {prog:Prog} (H:HasO prog)
include H
theorem c178:Pus prog 178 [] (.ag (faults4.map AV.s)):=by
 obtain ⟨x,rfl,h⟩:=p178 H.f178 (K:=fun x=>x=faults4) rfl
 exact h
theorem c183:Pus prog 183 [] (.ag (kinds5.map c8)):=by
 obtain ⟨x,rfl,h⟩:=p183 H.f183 (K:=fun x=>x=kinds5) rfl
 exact h
theorem c191 {s p:Bytes} (hs:s.length≤1000000000):Pus prog 191 [.s s,.s p] (.b (cuts p s).2):=by
 obtain ⟨x,rfl,h⟩:=p191 H.f191 (s0:=s) (suffix1:=p) (K:=fun x=>x=(cuts p s).2) (by
  unfold T191_0 cuts
  refine ⟨fun h=>?_,fun h=>?_⟩
  ·rw [wr_i64 (by omega) (by omega),show ((s.length:Int)-(p.length:Int)).toNat=s.length-p.length by omega]
   refine ⟨by omega,by omega,?_⟩
   by_cases h1:s.drop (s.length-p.length)=p
   ·rw [decide_eq_true h1,if_pos ⟨by omega,h1⟩]
   ·rw [decide_eq_false h1,if_neg fun h2=>h1 h2.2]
  ·rw [if_neg fun h2=>h (by omega)])
 exact h
theorem c186 {s p:Bytes} (hs:s.length≤1000000000):Pus prog 186 [.s s,.s p] (.b (cuts p s).2):=by
 obtain ⟨x,rfl,h⟩:=p186 H.f186 (s0:=s) (suffix1:=p) (K:=fun x=>x=(cuts p s).2) (by
  unfold T186_0
  exact ⟨_,c191 H hs,rfl⟩)
 exact h
theorem c190 {s p:Bytes} (hs:s.length≤1000000000):Pus prog 190 [.s s,.s p] (.tup [.s (cuts p s).1,.b (cuts p s).2]):=by
 obtain ⟨x,y,⟨rfl,rfl⟩,h⟩:=p190 H.f190 (s0:=s) (suffix1:=p) (K:=fun x y=>x=(cuts p s).1∧y=(cuts p s).2) (by
  unfold T190_0
  refine ⟨_,c191 H hs,fun h=>?_,fun h=>?_⟩
  ·have h:(cuts p s).2=false:=by simpa using h
   exact ⟨(cuts_no h).symm,h.symm⟩
  ·have h:(cuts p s).2=true:=by simpa using h
   have hl:p.length≤s.length:=by have:=congrArg List.length (cuts_yes h);rw [List.length_append] at this;omega
   rw [wr_i64 (by omega) (by omega),show ((s.length:Int)-(p.length:Int)).toNat=s.length-p.length by omega]
   refine ⟨by omega,by omega,?_,h.symm⟩
   unfold cuts at h ⊢
   split
   ·rfl
   ·rename_i h1;rw [if_neg h1] at h;cases h)
 exact h
theorem c180 {s p:Bytes} (hs:s.length≤1000000000):Pus prog 180 [.s s,.s p] (.tup [.s (cuts p s).1,.b (cuts p s).2]):=by
 obtain ⟨x,y,⟨rfl,rfl⟩,h⟩:=p180 H.f180 (s0:=s) (suffix1:=p) (K:=fun x y=>x=(cuts p s).1∧y=(cuts p s).2) (by
  unfold T180_0
  exact ⟨_,_,c190 H hs,rfl,rfl⟩)
 exact h
theorem c158 {p:Pan} (hp:WfP p):Pus prog 158 [p.av] (.i .i64 (chkP p)):=by
 obtain ⟨x,rfl,h⟩:=p158 H.f158 (p0:=p) (K:=fun x=>x=chkP p) (by
  unfold T158_0 T158_1
  refine ⟨fun h=>(chkP_no (okP_no4 h)).symm,fun h4=>?_⟩
  obtain ⟨c,g1,g2⟩:=kinds5_at hp.t.1 h4
  refine ⟨_,c183 H,rfl,hp.t.1,c,g1,fun h=>(chkP_no (okP_nok (by rw [← g2];exact h))).symm,fun h=>?_⟩
  have hk:p.value.kind=kindT p.tag:=by rw [← g2];exact Decidable.not_not.1 h
  unfold T158_2
  refine ⟨fun h0=>?_,fun h0=>?_⟩
  ·have e:=okP_0 h0 hk
   have hk0:p.value.kind=0:=by rw [hk,h0];rfl
   have no:isZ p.value=false→8=chkP p:=fun h=>(chkP_no (by rw [e,h];rfl)).symm
   have nz :∀{q:Prop},(p.value=vz→q)→¬q→isZ p.value=false:=fun a b=>by rw [← Bool.not_eq_true,isZ_true];exact fun h=>b (a h)
   refine ⟨fun h=>no (nz (fun e=>by rw [e];rfl) h),fun h1=>⟨fun h=>no (nz (fun e=>by rw [e];rfl) h),fun h2=>⟨fun h=>no (nz (q:=¬((p.value.list.length:Int)>0)) (fun e=>by rw [e];decide) (fun h'=>h' h)),fun h3=>⟨fun h=>no (nz (q:=p.value.cut=false) (fun e=>by rw [e];rfl) (by rw [h];decide)),fun h4=>?_⟩⟩⟩⟩
   have hz:isZ p.value=true:=by
    unfold isZ
    rw [decide_eq_true hk0,decide_eq_true (Decidable.not_not.1 h1),decide_eq_true (Decidable.not_not.1 h2),decide_eq_true (by omega),h4];rfl
   have fl:=flag2 hp.f
   rw [hz,Bool.true_and] at e
   refine ⟨fun h=>(chkP_no (by rw [e];exact decide_eq_false fun h'=>h (fl.2 h'))).symm,fun h=>(chkP_yes (by rw [e];exact decide_eq_true (fl.1 (Decidable.not_not.1 h)))).symm⟩
  ·have e:=okP_n0 h4 h0 hk
   have fl:=flag0 hp.f
   unfold T158_3
   refine ⟨fun h=>(chkP_no (by rw [e,decide_eq_false (fun h'=>h (fl.2 h'))];rfl)).symm,fun h=>?_⟩
   rw [decide_eq_true (fl.1 (Decidable.not_not.1 h)),Bool.true_and] at e
   have last:(p.tag=4→1≤p.value.int∧p.value.int≤3)→T158_4 prog (fun x=>x=chkP p) p:=fun hh=>by
    unfold T158_4
    refine ⟨_,c76 H.toHas38 hp.v,?_⟩
    rw [decide_eq_true hh,Bool.true_and] at e
    unfold chkR chkP
    rw [e]
   refine ⟨fun h5=>⟨fun h=>(chkP_no (by rw [e,decide_eq_false (fun h'=>by have:=h' h5;omega)];rfl)).symm,fun h6=>⟨fun h=>(chkP_no (by rw [e,decide_eq_false (fun h'=>by have:=h' h5;omega)];rfl)).symm,fun h7=>last fun _=>by omega⟩⟩,fun h5=>last fun h'=>absurd h' h5⟩)
 exact h
omit H in
theorem and1 {f:Int} (h:f=0∨f=1∨f=2∨f=4∨f=5∨f=6):(bAnd .u64 f 1≠0↔f % 2=1)∧(bAnd .u64 f 4≠0↔4≤f)∧(f.tmod 2=1↔f % 2=1):=by
 rcases h with rfl | rfl | rfl | rfl | rfl | rfl<;>decide
omit H in
theorem okP_f6 {p:Pan} (h:okP p=true):p.flags=0∨p.flags=1∨p.flags=2∨p.flags=4∨p.flags=5∨p.flags=6:=by rcases okP_flags h with ⟨_,_,h⟩ | ⟨_,_,h⟩<;>omega
omit H in
theorem okP_4 {p:Pan} (h:okP p=true) (h4:p.tag=4):1≤p.value.int∧p.value.int≤3:=by
 unfold okP at h
 simp only [Bool.and_eq_true,decide_eq_true_eq] at h
 have h3:=h.2
 rw [if_neg (by omega)] at h3
 simp only [Bool.and_eq_true,decide_eq_true_eq] at h3
 exact h3.1.2 h4
omit H in
theorem shown_steps {p:Pan} {b:Bytes} (hb:b=baseP p):shown p=(b++(if p.flags % 2=1 then tRec else []))++(if 4≤p.flags then tAb else []):=by
 rw [hb,shown,sufP,List.append_assoc]
theorem c154 {p:Pan} (hp:WfP p):Pus prog 154 [p.av] (.tup [.s (lnP p).1,.i .i64 (lnP p).2]):=by
 obtain ⟨x,y,⟨rfl,rfl⟩,h⟩:=p154 H.f154 (p0:=p) (K:=fun x y=>x=(lnP p).1∧y=(lnP p).2) (by
  unfold T154_0
  refine ⟨_,c158 H hp,fun h=>?_,fun h=>?_⟩
  ·have h1:okP p≠true:=fun h'=>h (chkP_iff.2 h')
   unfold lnP chkP;rw [if_neg h1,if_neg h1];exact ⟨rfl,rfl⟩
  ·have ho:=chkP_iff.1 (Decidable.not_not.1 h)
   have hl:=shown_len ho
   obtain ⟨a1,a2,a3⟩:=and1 (okP_f6 ho)
   unfold lnP;rw [if_pos ho]
   have t1 :∀b,b=baseP p→T154_1 prog (fun x y=>x=(shown p,(0:Int)).1∧y=(shown p,(0:Int)).2) b p:=fun b hb=>by
    have e:=shown_steps hb
    have hl:b.length≤400:=by rw [e,List.length_append,List.length_append] at hl;omega
    unfold T154_1 T154_2 T154_3
    simp only [List.length_append,List.length_cons,List.length_nil,maxStr_eq]
    refine ⟨fun h1=>⟨by omega,fun h2=>⟨by omega,?_,trivial⟩,fun h2=>⟨?_,trivial⟩⟩,fun h1=>⟨fun h2=>⟨by omega,?_,trivial⟩,fun h2=>⟨?_,trivial⟩⟩⟩
    ·rw [e,if_pos (a1.1 h1),if_pos (a2.1 h2)];rfl
    ·rw [e,if_pos (a1.1 h1),if_neg fun h=>h2 (a2.2 h),List.append_nil];rfl
    ·rw [e,if_neg fun h=>h1 (a1.2 h),if_pos (a2.1 h2),List.append_nil];rfl
    ·rw [e,if_neg fun h=>h1 (a1.2 h),if_neg fun h=>h2 (a2.2 h),List.append_nil,List.append_nil]
   refine ⟨fun h0=>t1 _ (by unfold baseP;rw [if_pos h0];rfl),fun h0=>⟨fun h4=>?_,fun h4=>?_⟩⟩
   ·obtain ⟨g1,g2⟩:=okP_4 ho h4
    exact ⟨_,c178 H,rfl,by omega,_,faults4_at g1 g2,t1 _ (by unfold baseP;rw [if_neg h0,if_pos h4])⟩
   ·have hf:fine p.value=true:=by rcases okP_flags ho with h | h;exact absurd h.1 h0;exact h.2.1
    have:=fine_len hf
    refine ⟨_,_,c72 H.toHas38 hp.v,fun h=>absurd (chk_fine.2 hf) h,fun _=>?_⟩
    rw [if_pos hf]
    refine ⟨?_,t1 _ (by unfold baseP;rw [if_neg h0,if_neg h4];rfl)⟩
    simp only [List.length_cons,List.length_nil,maxStr_eq];omega)
 exact h
end
end Go.AM

namespace Go.AM
open Go
structure HasP (prog:Prog):Prop extends HasO prog where
 f156:prog.fn 156=some pf156
 f160:prog.fn 160=some pf160
 f181:prog.fn 181=some pf181
theorem cuts_len (p s:Bytes):(cuts p s).1.length≤s.length:=by
 unfold cuts
 split
 ·simp only [List.length_take];omega
 ·exact Nat.le_refl _
noncomputable def sameP (p q:Pan):Bool:=decide (p.tag=q.tag)&&decide (p.flags=q.flags)&&sameV p.value q.value
theorem sameP_true {p q:Pan}:sameP p q=true↔p=q:=by
 obtain ⟨a,b,c⟩:=p
 obtain ⟨d,e,f⟩:=q
 unfold sameP
 simp only [Bool.and_eq_true,decide_eq_true_eq,sameV_true,Pan.mk.injEq]
 constructor
 ·rintro ⟨⟨h1,h2⟩,h3⟩;exact ⟨h1,h3,h2⟩
 ·rintro ⟨h1,h2,h3⟩;exact ⟨⟨h1,h3⟩,h2⟩
theorem sameP_rfl (p:Pan):sameP p p=true:=sameP_true.2 rfl
def rdC (s:Bytes):Pan × Bool:=match coreP s with | some p=>(p,true) | none=>(pz,false)
def addF (p:Pan) (r a:Bool):Pan:=⟨p.tag,p.value,p.flags+(if r=true then 1 else 0)+(if a=true then 4 else 0)⟩
theorem rlP_or (s:Bytes) (h:¬2000<s.length):(rlP s).2=0∨rlP s=(pz,12):=by
 unfold rlP
 rw [if_neg h]
 simp only
 split
 ·exact .inr rfl
 ·rename_i p _
  by_cases ho:okP ⟨p.tag,p.value,p.flags+(if (cuts tRec (cuts tAb s).1).2=true then 1 else 0)+(if (cuts tAb s).2=true then 4 else 0)⟩=true
  ·rw [if_pos ho];exact .inl rfl
  ·rw [if_neg ho];exact .inr rfl
section
variable {prog:Prog} (H:HasP prog)
include H
theorem c160 {p q:Pan} (hp:Wf p.value):Pus prog 160 [p.av,q.av] (.b (sameP p q)):=by
 obtain ⟨x,rfl,h⟩:=p160 H.f160 (a0:=p) (b1:=q) (K:=fun x=>x=sameP p q) (by
  unfold T160_0
  refine ⟨fun h1=>⟨fun h2=>⟨_,c78 H.toHas38 hp _,?_⟩,fun h2=>?_⟩,fun h1=>?_⟩
  ·unfold sameP;rw [decide_eq_true h1,decide_eq_true h2];rfl
  ·unfold sameP;rw [decide_eq_false h2,Bool.and_false];rfl
  ·unfold sameP;rw [decide_eq_false h1];rfl)
 exact h
theorem c181 {s:Bytes} (hs:s.length≤1000000000):Pus prog 181 [.s s] (.tup [(rdC s).1.av,.b (rdC s).2]):=by
 obtain ⟨x,y,⟨rfl,rfl⟩,h⟩:=p181 H.f181 (s0:=s) (K:=fun x y=>x=(rdC s).1∧y=(rdC s).2) (by
  unfold T181_0 T181_1
  have yes :∀{p:Pan},coreP s=some p→p=(rdC s).1∧true=(rdC s).2:=fun h=>by unfold rdC;rw [h];exact ⟨rfl,rfl⟩
  have no:coreP s=none→pz=(rdC s).1∧false=(rdC s).2:=fun h=>by unfold rdC;rw [h];exact ⟨rfl,rfl⟩
  refine ⟨fun h=>yes (by unfold coreP;rw [if_pos (show s=tExit from h)]),fun h0=>?_⟩
  have h0:s≠tExit:=h0
  unfold T181_2
  refine ⟨_,c178 H.toHasO,fun P hP=>?_⟩
  have step :∀(i:Nat) (f:Bytes),faults4[i]?=some f→i<4→(0<i→f=s→(Pan.mk 4 (Val.mk 2 (i:Int) [] [] false) 0)=(rdC s).1∧true=(rdC s).2)→((0<i→f≠s)→P ((i+1:Nat):Int) pz)→P (i:Int) pz:=fun i f hf hi h1 h2=>by
   apply hP
   unfold T181_3
   refine ⟨fun _=>⟨rfl,by omega,f,by rw [toNat_cast];exact hf,fun h3=>?_,fun h3=>?_⟩,fun h=>absurd (show (i:Int)<4 by omega) h⟩
   ·unfold T181_4
    rw [wr_i64 (by omega) (by omega)]
    exact ⟨fun h4=>h1 (by omega) (of_decide_eq_true h4),fun h4=>h2 fun _=>of_decide_eq_false h4⟩
   ·unfold T181_4
    rw [wr_i64 (by omega) (by omega)]
    exact ⟨fun h4=>(by cases h4),fun _=>h2 fun h=>by omega⟩
  refine step 0 [] rfl (by decide) (fun h=>absurd h (by decide)) fun _=>step 1 tF1 rfl (by decide) (fun _ e=>yes (by unfold coreP;rw [if_neg h0,if_pos e.symm];rfl)) fun n1=>step 2 tF2 rfl (by decide) (fun _ e=>yes (by unfold coreP;rw [if_neg h0,if_neg fun e'=>n1 (by decide) e'.symm,if_pos e.symm];rfl)) fun n2=>step 3 tF3 rfl (by decide) (fun _ e=>yes (by unfold coreP;rw [if_neg h0,if_neg fun e'=>n1 (by decide) e'.symm,if_neg fun e'=>n2 (by decide) e'.symm,if_pos e.symm];rfl)) fun n3=>?_
  apply hP
  unfold T181_3 T181_5
  refine ⟨fun h=>absurd h (by decide),fun _=>⟨_,_,c36 H.toHas03 s tPan,fun h1=>?_,fun h1=>?_⟩⟩
  all_goals
   have e1:coreP s=if (cutp tPan s).2=false then none else
    if (rvs (cutp tPan s).1).2≠0 then none else
    let v:=(rvs (cutp tPan s).1).1
    if v.kind=2 then some ⟨1,v,0⟩ else if v.kind=1 then some ⟨2,v,0⟩ else if v.kind=3 then some ⟨3,v,0⟩ else none:=by
    conv=>lhs;unfold coreP
    rw [if_neg h0,if_neg fun e'=>n1 (by decide) e'.symm,if_neg fun e'=>n2 (by decide) e'.symm,if_neg fun e'=>n3 (by decide) e'.symm]
  ·exact no (by rw [e1,if_pos (by simpa using h1)])
  ·rw [if_neg (by simpa using h1)] at e1
   have hl:(cutp tPan s).1.length≤1000000000:=by unfold cutp;split<;>simp<;>omega
   refine ⟨_,_,c74 H.toHas38 hl,_,c183 H.toHasO,fun Q hQ=>?_⟩
   by_cases he:(rvs (cutp tPan s).1).2=0
   ·rw [if_neg (by rw [he];decide)] at e1
    obtain ⟨g1,_,_⟩:=rvs_inv he
    generalize (rvs (cutp tPan s).1).1=v at e1 g1 hQ ⊢
    have h7:=okv_head (fine_ok g1).1
    unfold Val.okh Okh at h7
    simp only at e1
    have st :∀(i:Nat) (c:UInt8),kinds5[i]?=some c→i<5→((c.toNat:Int)=v.kind→(Pan.mk (i:Int) v 0)=(rdC s).1∧true=(rdC s).2)→(¬(c.toNat:Int)=v.kind→Q ((i+1:Nat):Int) pz v)→Q (i:Int) pz v:=fun i c hc hi h1 h2=>by
     apply hQ
     unfold T181_6
     refine ⟨fun _=>⟨rfl,by omega,c,by rw [toNat_cast];exact hc,fun h3=>?_,fun h3=>absurd he h3⟩,fun h=>absurd (show (i:Int)<5 by omega) h⟩
     unfold T181_7
     rw [wr_i64 (by omega) (by omega),wr_u64 (by omega) (by omega)]
     exact ⟨fun h4=>h1 (of_decide_eq_true h4),fun h4=>h2 (of_decide_eq_false h4)⟩
    refine st 0 0 rfl (by decide) (fun h=>absurd h (show ¬((0:Int)=v.kind) by omega)) fun _=>st 1 2 rfl (by decide) (fun h=>yes (by rw [e1,if_pos (show v.kind=2 from h.symm)];rfl)) fun n2=>st 2 1 rfl (by decide) (fun h=>yes (by rw [e1,if_neg fun h'=>n2 h'.symm,if_pos (show v.kind=1 from h.symm)];rfl)) fun n1=>st 3 3 rfl (by decide) (fun h=>yes (by rw [e1,if_neg fun h'=>n2 h'.symm,if_neg fun h'=>n1 h'.symm,if_pos (show v.kind=3 from h.symm)];rfl)) fun n3=>st 4 2 rfl (by decide) (fun h=>absurd h n2) fun _=>?_
    apply hQ
    unfold T181_6 T181_8
    exact ⟨fun h=>absurd h (by decide),fun _=>no (by rw [e1,if_neg fun h'=>n2 h'.symm,if_neg fun h'=>n1 h'.symm,if_neg fun h'=>n3 h'.symm])⟩
   ·rw [if_pos he] at e1
    have st :∀(i:Nat) (c:UInt8),kinds5[i]?=some c→i<5→Q ((i+1:Nat):Int) pz (rvs (cutp tPan s).1).1→Q (i:Int) pz (rvs (cutp tPan s).1).1:=fun i c hc hi h2=>by
     apply hQ
     unfold T181_6
     refine ⟨fun _=>⟨rfl,by omega,c,by rw [toNat_cast];exact hc,fun h3=>absurd h3 he,fun h3=>?_⟩,fun h=>absurd (show (i:Int)<5 by omega) h⟩
     unfold T181_7
     rw [wr_i64 (by omega) (by omega)]
     exact ⟨fun h4=>(by cases h4),fun _=>h2⟩
    refine st 0 0 rfl (by decide) (st 1 2 rfl (by decide) (st 2 1 rfl (by decide) (st 3 3 rfl (by decide) (st 4 2 rfl (by decide) ?_))))
    apply hQ
    unfold T181_6 T181_8
    exact ⟨fun h=>absurd h (by decide),fun _=>no e1⟩)
 exact h
omit H in
theorem or_flags {f:Int} (h:f=0∨f=2):bOr .u64 f 1=f+1∧bOr .u64 f 4=f+4∧bOr .u64 (f+1) 4=f+1+4∧IntKind.u64.wrap (f+1)=f+1∧IntKind.u64.wrap (f+4)=f+4∧IntKind.u64.wrap (f+1+4)=f+1+4:=by
 rcases h with rfl | rfl<;>decide
theorem c156 {s:Bytes} (hs:s.length≤1000000000):Pus prog 156 [.s s] (.tup [(rlP s).1.av,.i .i64 (rlP s).2]):=by
 obtain ⟨x,y,⟨rfl,rfl⟩,h⟩:=p156 H.f156 (s0:=s) (K:=fun x y=>x=(rlP s).1∧y=(rlP s).2) (by
  unfold T156_0
  refine ⟨fun h=>?_,fun h=>?_⟩
  ·unfold rlP;rw [if_pos (by omega)];exact ⟨rfl,rfl⟩
  have hl:¬2000<s.length:=by omega
  have l1:(cuts tAb s).1.length≤1000000000:=Nat.le_trans (cuts_len _ _) hs
  have l2:(cuts tRec (cuts tAb s).1).1.length≤1000000000:=Nat.le_trans (cuts_len _ _) l1
  have e:rlP s=(match coreP (cuts tRec (cuts tAb s).1).1 with
   | none=>(pz,12)
   | some p=>if okP (addF p (cuts tRec (cuts tAb s).1).2 (cuts tAb s).2)=true then (addF p (cuts tRec (cuts tAb s).1).2 (cuts tAb s).2,0) else (pz,12)):=by
   conv=>lhs;unfold rlP
   rw [if_neg hl]
   rfl
  refine ⟨_,_,c180 H.toHasO (p:=tAb) hs,_,_,c180 H.toHasO (p:=tRec) l1,_,_,c181 H l2,?_⟩
  generalize cuts tAb s=a at e l1 l2 ⊢
  generalize cuts tRec a.1=r at e l2 ⊢
  cases hc:coreP r.1 with
  | none=>
   rw [hc] at e
   have e2:rdC r.1=(pz,false):=by unfold rdC;rw [hc]
   rw [e,e2]
   unfold T156_1 T156_2
   exact ⟨fun _=>⟨fun _=>⟨fun _=>⟨rfl,rfl⟩,fun h=>(by cases h)⟩,fun _=>⟨fun _=>⟨rfl,rfl⟩,fun h=>(by cases h)⟩⟩,fun _=>⟨fun _=>⟨fun _=>⟨rfl,rfl⟩,fun h=>(by cases h)⟩,fun _=>⟨fun _=>⟨rfl,rfl⟩,fun h=>(by cases h)⟩⟩⟩
  | some p=>
   rw [hc] at e
   have e2:rdC r.1=(p,true):=by unfold rdC;rw [hc]
   rw [e,e2]
   obtain ⟨w1,w2,w3,w4,_⟩:=core_wf hc
   obtain ⟨o1,o2,o3,_⟩:=or_flags w2
   have fin :∀q:Pan,q=addF p r.2 a.2→T156_2 prog (fun x y=>x=(if okP (addF p r.2 a.2)=true then (addF p r.2 a.2,(0:Int)) else (pz,12)).1∧y=(if okP (addF p r.2 a.2)=true then (addF p r.2 a.2,(0:Int)) else (pz,12)).2) true pz q:=fun q hq=>by
    subst hq
    have hw:WfP (addF p r.2 a.2):=⟨⟨w3,by simp only [addF];omega⟩,w1,by simp only [addF];constructor<;>(split<;>split<;>omega)⟩
    unfold T156_2
    refine ⟨fun h=>(by cases h),fun _=>⟨_,c158 H.toHasO hw,fun h1=>?_,fun h1=>?_⟩⟩
    ·rw [if_neg fun h'=>h1 (chkP_iff.2 h')];exact ⟨rfl,rfl⟩
    ·rw [if_pos (chkP_iff.1 (Decidable.not_not.1 h1))];exact ⟨rfl,rfl⟩
   unfold T156_1
   simp only
   refine ⟨fun h1=>⟨fun h2=>fin _ ?_,fun h2=>fin _ ?_⟩,fun h1=>⟨fun h2=>fin _ ?_,fun h2=>fin _ ?_⟩⟩<;>unfold addF<;>rw [h1,h2]
   ·rw [o1,o3];rfl
   ·rw [o1];simp
   ·rw [o2];simp
   ·simp)
 exact h
end
end Go.AM

namespace Go.AM
open Go
structure HasQ (prog:Prog):Prop extends HasP prog where
 f161:prog.fn 161=some pf161
 f164:prog.fn 164=some pf164
 f165:prog.fn 165=some pf165
 f169:prog.fn 169=some pf169
 f171:prog.fn 171=some pf171
 f172:prog.fn 172=some pf172
 f174:prog.fn 174=some pf174
 f176:prog.fn 176=some pf176
 f184:prog.fn 184=some pf184
 f185:prog.fn 185=some pf185
def chainR (l:List Pan):Int:=if 410<l.length then 4 else if l.all okP=true then 0 else 8
def fl0 (p:Pan):Bool:=decide (p.flags=0)
def causeR (l:List Pan):Int × Int:=if chainR l=0 then (if l.findIdx fl0<l.length then ((l.findIdx fl0:Int),0) else (0,6)) else (0,chainR l)
def txtC (l:List Pan):Bytes:=l.flatMap fun p=>shown p++[10]
def textR (l:List Pan):Bytes × Int:=if chainR l=0 then (txtC l,0) else ([],chainR l)
theorem chain_all {l:List Pan} (h:¬410<l.length) (ho :∀p∈l,okP p=true):chainR l=0:=by
 unfold chainR;rw [if_neg h,if_pos (List.all_eq_true.2 ho)]
theorem chain_not {l:List Pan} (h:¬410<l.length) {p:Pan} (hp:p∈l) (ho:okP p≠true):chainR l=8:=by
 unfold chainR;rw [if_neg h,if_neg fun h'=>ho (List.all_eq_true.1 h' p hp)]
theorem chain_ok {l:List Pan} (h:chainR l=0):l.length≤410∧∀p∈l,okP p=true:=by
 unfold chainR at h
 split at h
 ·cases h
 ·split at h
  ·rename_i h1 h2;exact ⟨by omega,List.all_eq_true.1 h2⟩
  ·cases h
theorem txtC_take {l:List Pan} {i:Nat} (h:i<l.length):txtC (l.take (i+1))=txtC (l.take i)++(shown l[i]++[10]):=by
 unfold txtC
 rw [List.take_succ_eq_append_getElem h,List.flatMap_append]
 simp
theorem txtC_len {l:List Pan} (ho :∀p∈l,okP p=true):(txtC l).length≤401*l.length:=by
 induction l with
 | nil=>exact Nat.le_refl _
 | cons p l ih=>
  have h1:=shown_len (ho p List.mem_cons_self)
  have h2:=ih fun q hq=>ho q (List.mem_cons_of_mem _ hq)
  unfold txtC at h2 ⊢
  simp only [List.flatMap_cons,List.length_append,List.length_cons,List.length_nil]
  omega
section
variable {prog:Prog} (H:HasQ prog)
include H
theorem c185 {l:List Pan} (hw :∀p∈l,WfP p):Pus prog 185 [.sl .ext (l.map Pan.row)] (.i .i64 (chainR l)):=by
 obtain ⟨x,rfl,h⟩:=p185 H.f185 (l0:=l) (K:=fun x=>x=chainR l) (by
  unfold T185_0
  refine ⟨fun h=>by unfold chainR;rw [if_pos (by omega)],fun h P hP=>?_⟩
  refine loop_inv0 l.length (fun i=>∀p∈l.take i,okP p=true) (by simp) (fun hI=>hP _ ?_) fun i hi hI next=>hP _ ?_
  ·unfold T185_1 T185_2
   rw [List.take_length] at hI
   exact ⟨fun h=>absurd h (by omega),fun _=>(chain_all (by omega) hI).symm⟩
  ·unfold T185_1
   refine ⟨fun _=>⟨by omega,_,get_at hi,_,c158 H.toHasO (hw _ (List.getElem_mem hi)),fun h1=>?_,fun h1=>?_⟩,fun h=>absurd (show (i:Int)<l.length by omega) h⟩
   ·have hn:okP l[i]≠true:=fun h'=>h1 (chkP_iff.2 h')
    rw [chain_not (by omega) (List.getElem_mem hi) hn,chkP_no (by simpa using hn)]
   ·rw [wr_i64 (by omega) (by omega)]
    refine next fun p hp=>?_
    rw [List.take_succ_eq_append_getElem hi] at hp
    rcases List.mem_append.1 hp with hp | hp
    ·exact hI p hp
    ·rw [List.mem_singleton.1 hp];exact chkP_iff.1 (Decidable.not_not.1 h1))
 exact h
omit H in
theorem idx_at {l:List Pan} {i:Nat} (hi:i<l.length) (h :∀j (hj:j<i),fl0 (l[j]'(by omega))=false) (h1:fl0 l[i]=true):l.findIdx fl0=i:=by
 rw [List.findIdx_eq hi]
 exact ⟨h1,h⟩
omit H in
theorem idx_none {l:List Pan} (h :∀j (hj:j<l.length),fl0 l[j]=false):¬l.findIdx fl0<l.length:=by
 intro h1
 have:=List.findIdx_getElem (w:=h1)
 rw [h _ h1] at this
 cases this
theorem c165 {l:List Pan} (hw :∀p∈l,WfP p):Pus prog 165 [.sl .ext (l.map Pan.row)] (.tup [.i .i64 (causeR l).1,.i .i64 (causeR l).2]):=by
 obtain ⟨x,y,⟨rfl,rfl⟩,h⟩:=p165 H.f165 (l0:=l) (K:=fun x y=>x=(causeR l).1∧y=(causeR l).2) (by
  unfold T165_0
  refine ⟨_,c185 H hw,fun h=>?_,fun h P hP=>?_⟩
  ·unfold causeR;rw [if_neg h];exact ⟨rfl,rfl⟩
  have h:=Decidable.not_not.1 h
  have hl:=(chain_ok h).1
  refine loop_inv0 l.length (fun i=>∀j (hj:j<l.length),j<i→fl0 l[j]=false) (fun j _ hj=>by omega) (fun hI=>hP _ ?_) fun i hi hI next=>hP _ ?_
  ·unfold T165_1 T165_2 causeR
   rw [if_pos h,if_neg (idx_none fun j hj=>hI j hj hj)]
   exact ⟨fun h=>absurd h (by omega),fun _=>⟨rfl,rfl⟩⟩
  ·unfold T165_1
   refine ⟨fun _=>⟨by omega,_,get_at hi,fun h1=>?_,fun h1=>?_⟩,fun h=>absurd (show (i:Int)<l.length by omega) h⟩
   ·have e:=idx_at hi (fun j hj=>hI j _ hj) (decide_eq_true h1)
    unfold causeR
    rw [if_pos h,e,if_pos hi];exact ⟨rfl,rfl⟩
   ·rw [wr_i64 (by omega) (by omega)]
    refine next fun j hj hji=>?_
    rcases Nat.lt_or_ge j i with h2 | h2
    ·exact hI j hj h2
    ·have:j=i:=by omega
     subst this;exact decide_eq_false h1)
 exact h
theorem c164 {l:List Pan} (hw :∀p∈l,WfP p):Pus prog 164 [.sl .ext (l.map Pan.row)] (.tup [.s (textR l).1,.i .i64 (textR l).2]):=by
 obtain ⟨x,y,⟨rfl,rfl⟩,h⟩:=p164 H.f164 (l0:=l) (K:=fun x y=>x=(textR l).1∧y=(textR l).2) (by
  unfold T164_0
  refine ⟨_,c185 H hw,fun h=>?_,fun h P hP=>?_⟩
  ·unfold textR;rw [if_neg h];exact ⟨rfl,rfl⟩
  have h:=Decidable.not_not.1 h
  obtain ⟨hl,ho⟩:=chain_ok h
  have hb :∀i,(txtC (l.take i)).length≤1000000:=fun i=>by
   have h1:=txtC_len (l:=l.take i) fun p hp=>ho p (List.mem_of_mem_take hp)
   have h2:(l.take i).length≤l.length:=by simp only [List.length_take];omega
   omega
  refine loop_inv (P:=fun b i=>P i b) (fun i=>txtC (l.take i)) l.length (fun _=>True) trivial (fun _=>hP _ _ ?_) fun i hi _ next=>hP _ _ ?_
  ·unfold T164_1 T164_2
   rw [List.take_length]
   have hb2:=hb l.length
   rw [List.take_length] at hb2
   refine ⟨fun h=>absurd h (by omega),fun _=>⟨_,c105 H.toHasB (by rw [maxBytes_eq];omega),?_⟩⟩
   unfold textR;rw [if_pos h];exact ⟨rfl,rfl⟩
  ·have hoi:=ho _ (List.getElem_mem hi)
   have hs:=shown_len hoi
   have hbi:=hb i
   have hln:lnP l[i]=(shown l[i],0):=by unfold lnP;rw [if_pos hoi]
   have k:=c154 H.toHasO (hw _ (List.getElem_mem hi))
   rw [hln] at k
   unfold T164_1
   refine ⟨fun _=>⟨by omega,_,get_at hi,_,_,k,fun h1=>absurd rfl h1,fun _=>⟨?_,_,_,c126 H.toHasB ?_ (by simp),?_⟩⟩,fun h=>absurd (show (i:Int)<l.length by omega) h⟩
   ·simp only [List.length_cons,List.length_nil,maxStr_eq];omega
   ·simp only [List.length_append,List.length_cons,List.length_nil,maxBytes_eq];omega
   ·rw [wr_i64 (by omega) (by omega),← txtC_take hi]
    exact next trivial)
 exact h
theorem c171 {p:Pan} (hp:WfP p) {s:Bytes} (hs:s.length≤1000000000) (ho:okP p=true) (e:shown p=s):Pus prog 171 [p.av,.s s] (.b true):=by
 obtain ⟨x,rfl,h⟩:=p171 H.f171 (p0:=p) (want1:=s) (K:=fun x=>x=true) (by
  unfold T171_0
  have k1:=c154 H.toHasO hp
  rw [show lnP p=(s,0) by unfold lnP;rw [if_pos ho,e]] at k1
  have k2:=c156 H.toHasP hs
  rw [show rlP s=(p,0) by rw [← e];exact rlP_shown ho hp.v] at k2
  refine ⟨_,_,k1,_,_,k2,fun _=>⟨fun _=>⟨fun _=>⟨_,c160 H.toHasP hp.v,sameP_rfl p⟩,fun h=>absurd rfl h⟩,fun h=>absurd rfl h⟩,fun h=>absurd rfl h⟩)
 exact h
theorem c176 {s:Bytes} (hs:s.length≤1000000000) (e:rlP s=(pz,12)):Pus prog 176 [.s s] (.b true):=by
 obtain ⟨x,rfl,h⟩:=p176 H.f176 (s0:=s) (K:=fun x=>x=true) (by
  unfold T176_0
  have k2:=c156 H.toHasP hs
  rw [e] at k2
  exact ⟨_,_,k2,fun _=>⟨_,c160 H.toHasP (p:=pz) (q:=pz) Wf.zero,sameP_rfl pz⟩,fun h=>absurd rfl h⟩)
 exact h
theorem c172 (n:Int):Pus prog 172 [.i .i64 n] (Val.mk 2 n [] [] false).av:=by
 obtain ⟨x,rfl,h⟩:=p172 H.f172 (n0:=n) (K:=fun x=>x=Val.mk 2 n [] [] false) rfl
 exact h
theorem c174 (s:Bytes):Pus prog 174 [.s s] (Val.mk 3 0 s [] false).av:=by
 obtain ⟨x,rfl,h⟩:=p174 H.f174 (s0:=s) (K:=fun x=>x=Val.mk 3 0 s [] false) rfl
 exact h
end
def pG0:Pan:=⟨3,Val.mk 3 0 [97,32,98] [] false,1⟩
def pG1:Pan:=⟨4,Val.mk 2 1 [] [] false,4⟩
def pG2:Pan:=⟨0,vz,2⟩
def pG3:Pan:=⟨1,Val.mk 2 (-1) [] [] false,0⟩
theorem wG0:WfP pG0:=⟨by decide,.mk (by decide) (by decide) (by decide) (by simp),by decide⟩
theorem wG1:WfP pG1:=⟨by decide,.mk (by decide) (by decide) (by decide) (by simp),by decide⟩
theorem wG2:WfP pG2:=⟨by decide,Wf.zero,by decide⟩
theorem wG3:WfP pG3:=⟨by decide,.mk (by decide) (by decide) (by decide) (by simp),by decide⟩
theorem wGs :∀p∈[pG0,pG1,pG2],WfP p:=by
 intro p hp
 simp only [List.mem_cons,List.not_mem_nil,or_false] at hp
 rcases hp with rfl | rfl | rfl
 ·exact wG0
 ·exact wG1
 ·exact wG2
theorem wGs4 :∀p∈[pG0,pG1,pG2,pG3],WfP p:=by
 intro p hp
 simp only [List.mem_cons,List.not_mem_nil,or_false] at hp
 rcases hp with rfl | rfl | rfl | rfl
 ·exact wG0
 ·exact wG1
 ·exact wG2
 ·exact wG3
theorem okGs:okP pG0=true∧okP pG1=true∧okP pG2=true:=by decide +kernel
theorem causeG:causeR [pG0,pG1,pG2]=(0,6):=by decide +kernel
theorem causeG4:causeR [pG0,pG1,pG2,pG3]=(3,0):=by decide +kernel
def tG:Bytes:=[112,97,110,105,99,32,34,97,32,98,34,32,114,101,99,111,118,101,114,101,100,10,102,97,117,108,116,32,49,58,32,100,105,118,105,115,105,111,110,32,98,121,32,122,101,114,111,32,97,98,111,114,116,101,100,10,101,120,105,116,10]
theorem textG:textR [pG0,pG1,pG2]=(tG,0):=by decide +kernel
theorem badG1:rlP [112,97,110,105,99,32,110,105,108]=(pz,12):=by
 rcases rlP_or [112,97,110,105,99,32,110,105,108] (by decide) with h | h
 ·exact absurd h (by decide +kernel)
 ·exact h
theorem badG2:rlP [101,120,105,116,32,114,101,99,111,118,101,114,101,100]=(pz,12):=by
 rcases rlP_or [101,120,105,116,32,114,101,99,111,118,101,114,101,100] (by decide) with h | h
 ·exact absurd h (by decide +kernel)
 ·exact h
section
variable {prog:Prog} (H:HasQ prog)
include H
theorem c184:PuN prog 184 [] (fun r=>r=.sl .full ([pG0,pG1,pG2].map Pan.row)):=by
 refine (p184 H.f184 (K:=fun l=>l=[pG0,pG1,pG2]) (by
  unfold T184_0
  exact ⟨_,c174 H _,_,c172 H _,rfl⟩)).to fun r ⟨v,h1,h2⟩=>?_
 rw [h1,h2]
theorem c161:Pus prog 161 [] (.b true):=by
 obtain ⟨x,rfl,h⟩:=p161 H.f161 (K:=fun x=>x=true) (by
  unfold T161_0 T161_1
  have k1:=c165 H wGs
  rw [causeG] at k1
  have k2:=c165 H wGs4
  rw [causeG4] at k2
  have k3:=c164 H wGs
  rw [textG] at k3
  obtain ⟨o0,o1,o2⟩:=okGs
  refine ⟨_,c184 H,_,_,k1,?_⟩
  unfold T161_2
  refine ⟨_,c184 H,_,c172 H _,⟨by decide,by decide⟩,_,_,k2,_,c184 H,_,_,k3,_,c184 H,_,rfl,_,c171 H wG0 (by decide) o0 (by decide +kernel),fun _=>⟨_,c184 H,_,rfl,_,c171 H wG1 (by decide) o1 (by decide +kernel),fun _=>⟨_,c184 H,_,rfl,_,c171 H wG2 (by decide) o2 (by decide +kernel),fun _=>⟨fun _=>⟨fun _=>⟨fun _=>⟨_,c176 H (by decide) badG1,fun _=>⟨_,c176 H (by decide) badG2,fun _=>⟨fun _=>decide_eq_true rfl,fun h=>absurd rfl h⟩,fun h=>(by cases h)⟩,fun h=>(by cases h)⟩,fun h=>absurd rfl h⟩,fun h=>absurd rfl h⟩,fun h=>absurd rfl h⟩,fun h=>(by cases h)⟩,fun h=>(by cases h)⟩,fun h=>(by cases h)⟩)
 exact h
end
end Go.AM

namespace Go.AM
open Go
def spl:Bytes→List Bytes × Bytes
 | []=>([],[])
 | c::r=>if c=10 then ([]::(spl r).1,(spl r).2) else match (spl r).1 with
  | []=>([],c::(spl r).2)
  | x::l=>((c::x)::l,(spl r).2)
def unl10 (l:List Bytes):Bytes:=l.flatMap fun x=>x++[10]
theorem unl10_app (l m:List Bytes):unl10 (l++m)=unl10 l++unl10 m:=by unfold unl10;rw [List.flatMap_append]
theorem unl10_cons (x:Bytes) (l:List Bytes):unl10 (x::l)=x++10::unl10 l:=by unfold unl10;simp
theorem spl_join :∀s:Bytes,s=unl10 (spl s).1++(spl s).2
 | []=>rfl
 | c::r=>by
  have ih:=spl_join r
  unfold spl
  split
  ·rename_i h
   subst h
   simp only [unl10_cons,List.nil_append,List.cons_append]
   rw [← ih]
  ·split
   ·rename_i h
    rw [h] at ih
    simp only [unl10,List.flatMap_nil,List.nil_append] at ih ⊢
    rw [← ih]
   ·rename_i x l h
    rw [h,unl10_cons] at ih
    simp only [unl10_cons,List.cons_append]
    rw [← ih]
theorem spl_nl :∀s:Bytes,(∀x∈(spl s).1,(10:UInt8) ∉ x)∧(10:UInt8) ∉ (spl s).2
 | []=>⟨fun x h=>(by simp [spl] at h),by simp [spl]⟩
 | c::r=>by
  have ih:=spl_nl r
  unfold spl
  split
  ·refine ⟨fun x h=>?_,ih.2⟩
   simp only [List.mem_cons] at h
   rcases h with rfl | h
   ·simp
   ·exact ih.1 x h
  ·rename_i hc
   have hc':(10:UInt8)≠c:=fun h=>hc h.symm
   split
   ·exact ⟨fun x h=>by simp at h,by simp only [List.mem_cons,not_or];exact ⟨hc',ih.2⟩⟩
   ·rename_i x l h
    rw [h] at ih
    refine ⟨fun y hy=>?_,ih.2⟩
    simp only [List.mem_cons] at hy
    rcases hy with rfl | hy
    ·simp only [List.mem_cons,not_or]
     exact ⟨hc',ih.1 x (by simp)⟩
    ·exact ih.1 y (by simp [hy])
theorem spl_end :∀e:Bytes,(10:UInt8) ∉ e→spl e=([],e)
 | [],_=>rfl
 | c::r,h=>by
  simp only [List.mem_cons,not_or] at h
  unfold spl
  rw [if_neg (fun e=>h.1 e.symm),spl_end r h.2]
theorem spl_line :∀(x r:Bytes),(10:UInt8) ∉ x→spl (x++10::r)=(x::(spl r).1,(spl r).2)
 | [],r,_=>by rw [List.nil_append,spl,if_pos rfl]
 | c::x,r,h=>by
  simp only [List.mem_cons,not_or] at h
  rw [List.cons_append,spl,if_neg (fun e=>h.1 e.symm),spl_line x r h.2]
theorem spl_unl :∀(l:List Bytes) (e:Bytes),(∀x∈l,(10:UInt8) ∉ x)→(10:UInt8) ∉ e→spl (unl10 l++e)=(l,e)
 | [],e,_,he=>by simpa [unl10] using spl_end e he
 | x::l,e,h,he=>by
  rw [unl10_cons,List.append_assoc,List.cons_append,spl_line x _ (h x (by simp)),spl_unl l e (fun y hy=>h y (by simp [hy])) he]
theorem spl_count (s:Bytes):(spl s).1.length=s.count 10:=by
 have h:=spl_join s
 have h1:=spl_nl s
 rw [congrArg (List.count (10:UInt8)) h,List.count_append,List.count_eq_zero.2 h1.2,Nat.add_zero]
 generalize (spl s).1=l at h1
 clear h
 replace h1:=h1.1
 induction l with
 | nil=>rfl
 | cons x l ih=>
  rw [unl10_cons,List.count_append,List.count_eq_zero.2 (h1 x (by simp)),List.count_cons_self,List.length_cons,ih fun y hy=>h1 y (by simp [hy])]
  omega
theorem unl10_last {l:List Bytes} (h:l≠[]) :∃b,unl10 l=b++[10]:=by
 obtain ⟨m,x,rfl⟩ :∃m x,l=m++[x]:=⟨l.dropLast,l.getLast h,(List.dropLast_concat_getLast h).symm⟩
 exact ⟨unl10 m++x,by rw [unl10_app];simp [unl10]⟩
theorem spl_rest {s:Bytes}:(spl s).2=[]↔s=[]∨(cuts [10] s).2=true:=by
 constructor
 ·intro h
  have h1:=spl_join s
  rw [h,List.append_nil] at h1
  by_cases h2:(spl s).1=[]
  ·rw [h2] at h1;exact .inl h1
  ·obtain ⟨b,hb⟩:=unl10_last h2
   rw [h1,hb]
   exact .inr (by rw [cuts_app])
 ·rintro (rfl | h)
  ·rfl
  ·have h1:=cuts_yes h
   generalize (cuts [10] s).1=b at h1
   subst h1
   have h2 :∀b:Bytes,(spl (b++[10])).2=[]:=by
    intro b
    induction b with
    | nil=>rfl
    | cons c b ih=>
     rw [List.cons_append,spl]
     split
     ·exact ih
     ·split
      ·rename_i h
       have:=spl_join (b++[10])
       rw [h,ih] at this
       simp [unl10] at this
      ·exact ih
   exact h2 b
def rtR (s:Bytes):List Pan × Int:=if 120000<s.length then ([],4) else if (spl s).2≠[]∨410<(spl s).1.length then ([],12) else
 if (spl s).1.all (fun x=>decide ((rlP x).2=0))=true then ((spl s).1.map fun x=>(rlP x).1,0) else ([],12)
theorem hexd_nl :∀k:Fin 16,(10:UInt8)≠hexd k:=by decide
theorem hexd_nl' (n:Nat):(10:UInt8)≠hexd n:=by
 by_cases h:n<16
 ·exact hexd_nl ⟨n,h⟩
 ·unfold hexd
  rw [List.getD_eq_getElem?_getD,List.getElem?_eq_none (by simp;omega)]
  decide
theorem ds_nl (b:Nat) :∀f n,(10:UInt8) ∉ ds b f n
 | 0,_=>by simp [ds]
 | f+1,n=>by
  unfold ds
  split
  ·simp only [List.mem_singleton];exact hexd_nl' n
  ·simp only [List.mem_append,List.mem_singleton,not_or]
   exact ⟨ds_nl b f (n / b),hexd_nl' _⟩
theorem num_nl (n:Int):(10:UInt8) ∉ num n:=by
 unfold num
 split
 ·simp only [List.mem_cons,not_or]
  exact ⟨by decide,ds_nl _ _ _⟩
 ·exact ds_nl _ _ _
theorem chr_nl (c:UInt8):(10:UInt8) ∉ chr c:=by
 unfold chr
 split
 ·rename_i h
  simp only [List.mem_cons,List.not_mem_nil,or_false,not_or]
  exact ⟨by decide,fun e=>by subst e;revert h;decide⟩
 ·split
  ·decide
  ·rename_i h
   split
   ·simp only [List.mem_cons,List.not_mem_nil,or_false,not_or]
    exact ⟨by decide,by decide,hexd_nl' _,hexd_nl' _⟩
   ·simp only [List.mem_singleton]
    exact fun e=>h (by rw [← e];rfl)
theorem quo_nl (s:Bytes):(10:UInt8) ∉ quo s:=by
 unfold quo chrs
 simp only [List.mem_cons,List.mem_append,List.mem_flatMap,List.not_mem_nil,or_false,not_or,not_exists,not_and]
 exact ⟨by decide,fun c _=>chr_nl c,by decide⟩
mutual
theorem txt_nl :∀v:Val,(10:UInt8) ∉ txt v
 | .mk k n s l c=>by
  have h:=txts_nl l
  rw [txt]
  split
  ·split<;>decide
  ·split
   ·exact num_nl n
   ·split
    ·exact quo_nl s
    ·split
     ·simp only [List.mem_cons,List.mem_append,List.not_mem_nil,or_false,not_or];exact ⟨by decide,h,by decide⟩
     ·split
      ·simp only [List.mem_cons,List.mem_append,List.not_mem_nil,or_false,not_or];exact ⟨by decide,h,by decide⟩
      ·split
       ·split
        ·decide
        ·simp only [List.mem_cons,List.mem_append,List.not_mem_nil,or_false,not_or];exact ⟨by decide,h,by decide⟩
       ·split
        ·decide
        ·split
         ·decide
         ·simp only [List.mem_cons,not_or];exact ⟨by decide,h⟩
theorem txts_nl :∀l:List Val,(10:UInt8) ∉ txts l
 | []=>by simp [txts]
 | v::l=>by rw [txts];simp only [List.mem_append,not_or];exact ⟨txt_nl v,txtl_nl l⟩
theorem txtl_nl :∀l:List Val,(10:UInt8) ∉ txtl l
 | []=>by simp [txtl]
 | v::l=>by rw [txtl];simp only [List.mem_cons,List.mem_append,not_or];exact ⟨by decide,by decide,txt_nl v,txtl_nl l⟩
end
theorem shown_nl (p:Pan):(10:UInt8) ∉ shown p:=by
 unfold shown baseP sufP
 simp only [List.mem_append,not_or]
 refine ⟨?_,?_,?_⟩
 ·split
  ·decide
  ·split
   ·unfold faultT
    split
    ·decide
    ·split
     ·decide
     ·split<;>decide
   ·simp only [List.mem_append,not_or]
    exact ⟨by decide,txt_nl _⟩
 ·split<;>decide
 ·split<;>decide
theorem txtC_unl (l:List Pan):txtC l=unl10 (l.map shown):=by unfold txtC unl10;rw [List.flatMap_map]
theorem spl_txtC (l:List Pan):spl (txtC l)=(l.map shown,[]):=by
 rw [txtC_unl,← List.append_nil (unl10 _)]
 exact spl_unl _ _ (fun x h=>by rw [List.mem_map] at h;obtain ⟨p,_,rfl⟩:=h;exact shown_nl p) (by simp)
end Go.AM

namespace Go.AM
open Go
section
variable {prog:Prog} (H:HasQ prog)
include H
end
end Go.AM

namespace Go.AM
open Go
section
variable {prog:Prog} (H:HasQ prog)
include H
end
end Go.AM

namespace Go.AM
open Go
theorem spl_len (a:Bytes) :∀x∈(spl a).1,x.length≤a.length:=by
 intro x hx
 have h:=congrArg List.length (spl_join a)
 rw [List.length_append] at h
 have :∀l:List Bytes,x∈l→x.length≤(unl10 l).length:=by
  intro l
  induction l with
  | nil=>intro h;cases h
  | cons y l ih=>
   intro h
   rw [unl10_cons,List.length_append,List.length_cons]
   rcases List.mem_cons.1 h with rfl | h
   ·omega
   ·have:=ih h;omega
 have:=this _ hx
 omega
structure HasR (prog:Prog):Prop extends HasQ prog where
 f167:prog.fn 167=none
 o167 :∀s:Bytes,s.length≤1000000000→prog.orac 167 [.s s]=some (.tup [.sl .ext ((rtR s).1.map Pan.row),.i .i64 (rtR s).2])
section
variable {prog:Prog}
variable (H:HasR prog)
include H
theorem c167 {s:Bytes} (hs:s.length≤1000000000):Pus prog 167 [.s s] (.tup [.sl .ext ((rtR s).1.map Pan.row),.i .i64 (rtR s).2]):=Pus.orac H.f167 (H.o167 s hs) rfl
end
end Go.AM

namespace Go.AM
open Go
def r167_0:List AI:=[oO 2 (.alloc [.sl .full []]),oO 3 (.alloc [.i .i64 0])]
def r167_1:List AI:=[oM 8 0,oO 9 (.len true (.t 8)),oB 10 .gtr (.t 9) (.c (.i .i64 120000))]
def r167_2:List AI:=[⟨none,.store 1 (.t 2) (.c (.sl .full [])),none⟩,⟨none,.store 1 (.t 3) (.c (.i .i64 4)),none⟩]
def r167_3:List AI:=[oM 11 0,oB 12 .neq (.t 11) (.c (.s [])),oM 13 12,oG 14 (.mv (.t 0)) 13 true,oG 15 (.call false 186 [(.t 14),(.c (.s [10]))]) 13 true,oG 16 (.un .not (.t 15)) 13 true,
 oO 17 (.pick (.t 13) (.t 16) (.c (.b false))),oM 18 17,oG 19 (.mv (.t 0)) 18 false,oG 20 (.call false 187 [(.t 19),(.c (.s [10]))]) 18 false,oG 21 (.bin .gtr (.t 20) (.c (.i .i64 410))) 18 false,oO 22 (.pick (.t 18) (.c (.b true)) (.t 21))]
def r167_4:List AI:=[⟨none,.store 1 (.t 2) (.c (.sl .full [])),none⟩,⟨none,.store 1 (.t 3) (.c (.i .i64 12)),none⟩]
def r167_5:List AI:=[oO 4 (.alloc [.sl .full []])]
def r167_7:List AI:=[oM 5 25]
def r167_8:List AI:=[oM 27 5,oO 28 (.call false 189 [(.t 27),(.c (.s [10]))]),oO 29 (.call false 156 [(.t 28)]),oM 26 29,oE 30 0 26,oE 31 1 26,
 oO 6 (.alloc [.i .u64 0,.i .u8 0,.i .i64 0,.s [],.sl .full [],.b false,.i .u64 0]),oS 7 6 30,oM 7 31]
def r167_9:List AI:=[oM 32 7,oB 33 .neq (.t 32) (.c (.i .i64 0))]
def r167_10:List AI:=[⟨none,.store 1 (.t 2) (.c (.sl .full [])),none⟩,⟨none,.store 1 (.t 3) (.c (.i .i64 12)),none⟩]
def r167_11:List AI:=[oL 34 4,oO 35 (.load 7 true (.t 6)),oO 36 (.bslice [.i .u64 0,.i .u8 0,.i .i64 0,.s [],.sl .full [],.b false,.i .u64 0] 1 [(0,(.t 35))]),oO 37 (.app 7 80 (.t 34) (.t 36)),oS 1 4 37]
def r188_0:List AI:=[oO 1 (.box 1 (.t 0)),oC 2 (.nf)]
def r188_1:List AI:=[oO 3 (.mkfn 195 [(.t 1)]),oM 2 3]
def b188:AC:=.seq (.reg 0 r188_0) (.seq (.reg 1 r188_1) .ret)
def r195_0:List AI:=[oL 5 1,oO 6 (.len true (.t 5)),oB 7 .gtr (.t 6) (.c (.i .i64 0))]
def r195_1:List AI:=[oC 3 (.s [])]
def r195_2:List AI:=[oL 8 1,oO 9 (.call false 43 [(.t 8),(.c (.i .u8 10))]),oM 4 9]
def r195_3:List AI:=[oM 10 4,oB 11 .geq (.t 10) (.c (.i .i64 0))]
def r195_4:List AI:=[oL 12 1,oM 13 4,oB 14 .add (.t 13) (.c (.i .i64 1)),oO 15 (.slS (.t 12) none (some (.t 14))),oL 16 1,oM 17 4,oB 18 .add (.t 17) (.c (.i .i64 1)),oO 19 (.slS (.t 16) (some (.t 18)) none),oM 3 15,oS 1 1 19]
def r195_5:List AI:=[oL 20 1,oM 3 20,⟨none,.store 1 (.t 1) (.c (.s [])),none⟩]
abbrev a195_0:AC:=.seq (.reg 0 r195_0) (.cond (.t 7) .skip (.exit 0))
abbrev a195_2:AC:=.seq (.reg 2 r195_2) (.seq (.reg 3 r195_3) (.cond (.t 11) (.reg 4 r195_4) (.reg 5 r195_5)))
abbrev a167_8:AC:=.block 1 (.seq (.reg 8 r167_8) (.seq (.seq (.reg 9 r167_9) (.cond (.t 33) (.seq (.reg 10 r167_10) .ret) .skip)) (.reg 11 r167_11)))
structure B4 (v2 v3 v4:Nat) (st:St) (x2 x3:AV) (acc:List Pan):Prop where
  b2:lk st.bx (0,0)=some (v2,[x2])
  b3:lk st.bx (0,1)=some (v3,[x3])
  b4 :∃o,lk st.bx (0,20480)=some (v4,[.sl o (acc.map Pan.row)])∧App st.ow o acc.length
section
variable {prog:Prog} {σ:Sl} {st:St}
theorem w195_0 {vs:Nat} {rest:Bytes} (h1:σ 1=.p (1,0) vs 0) (hb:lk st.bx (1,0)=some (vs,[.s rest])) :
    W prog 1 a195_0 σ st fun e σ' st'=>σ' 0=σ 0∧σ' 1=σ 1∧st'.bx=st.bx∧st'.ow=st.ow∧(rest=[]→e=.exit 0)∧(rest≠[]→e=.normal):=by
  refine W.seq (W.reg0 rfl fun _ _=>s_loadP h1 hb rfl rfl (s_lenS rfl (s_bin rfl rfl gtr_ (s_nil ?_))))
  refine c_split rfl (fun h=>W.skip ⟨rfl,rfl,rfl,rfl,fun e=>?_,fun _=>rfl⟩) fun h=>W.exit ⟨rfl,rfl,rfl,rfl,fun _=>rfl,fun e=>?_⟩
  · subst e;exact absurd h (by decide)
  · exact absurd (List.length_eq_zero_iff.1 (by omega)) e
theorem w195_1:W prog 1 (.reg 1 r195_1) σ st fun e σ' st'=>e=.normal∧σ' 0=σ 0∧σ' 1=σ 1∧st'.bx=st.bx∧st'.ow=st.ow:=
  W.reg0 rfl fun _ _=>s_mv rfl (s_nil ⟨rfl,rfl,rfl,rfl,rfl⟩)
theorem ib_first {c:UInt8} :∀{x r:Bytes},c ∉ x→Lib.indexByte (x++c::r) c=(x.length:Int)
  | [],r,_=>by rw [List.nil_append,Lib.indexByte,if_pos (by simp)];rfl
  | a::x,r,h=>by
    simp only [List.mem_cons,not_or] at h
    rw [List.cons_append,Lib.indexByte,ib_first (r:=r) h.2,if_neg (by simpa using fun e=>h.1 e.symm),if_neg (by simp)]
    simp
theorem w195_2 (H:HasP prog) {vs:Nat} {x r:Bytes} (hx:(10:UInt8) ∉ x) (hl:(x++10::r).length≤1000000000) (h1:σ 1=.p (1,0) vs 0) (hb:lk st.bx (1,0)=some (vs,[.s (x++10::r)])) :
    W prog 1 a195_2 σ st fun e σ' st'=>e=.normal∧σ' 0=σ 0∧σ' 1=σ 1∧σ' 3=.s (x++[10])∧st'.bx=st_ st.bx (1,0) (vs,[.s r])∧st'.ow=st.ow:=by
  have c:=c43 H.toHas03 (x++10::r) 10
  rw [ib_first hx] at c
  simp only [List.length_append,List.length_cons] at hl
  have e1:(x++10::r).take ((IntKind.i64.wrap ((x.length:Int)+1))).toNat=x++[10]:=by
    rw [wr_i64 (by omega) (by omega),show ((x.length:Int)+1).toNat=x.length+1 by omega,show x++10::r=(x++[10])++r by simp,List.take_left' (by simp)]
  have e2:(x++10::r).drop ((IntKind.i64.wrap ((x.length:Int)+1))).toNat=r:=by
    rw [wr_i64 (by omega) (by omega),show ((x.length:Int)+1).toNat=x.length+1 by omega,show x++10::r=(x++[10])++r by simp,List.drop_left' (by simp)]
  have b0:0≤IntKind.i64.wrap ((x.length:Int)+1):=by rw [wr_i64 (by omega) (by omega)];omega
  have b1:(IntKind.i64.wrap ((x.length:Int)+1)).toNat≤(x++10::r).length:=by rw [wr_i64 (by omega) (by omega)];simp
  refine W.seq (W.reg0 rfl fun _ _=>s_loadP h1 hb rfl rfl (s_call (sc rfl rfl (sc rfl rfl sn)) c (s_mv rfl (s_nil ?_))))
  refine W.seq (W.reg0 rfl fun _ _=>s_mv rfl (s_bin rfl rfl geq_ (s_nil ?_)))
  refine c_split rfl (fun _=>?_) fun h=>absurd (show (x.length:Int)≥0 by omega) h
  refine W.reg0 rfl fun _ _=>s_loadP h1 hb rfl rfl (s_mv rfl (s_bin rfl rfl add_ (s_slS_hi rfl rfl b0 b1 (s_loadP h1 hb rfl rfl (s_mv rfl (s_bin rfl rfl add_ (s_slS_lo rfl rfl b0 b1 (s_mv rfl (s_storeP h1 hb rfl rfl rfl (s_nil ?_))))))))))
  refine ⟨rfl,rfl,rfl,?_,?_,rfl⟩
  · show AV.s ((x++10::r).take _)=_
    rw [e1]
  · show st_ st.bx (1,0) (vs,[AV.s ((x++10::r).drop _)])=_
    rw [e2]
structure HasR0 (prog:Prog):Prop extends HasP prog where
  f189:prog.fn 189=some pf189
  f196:prog.fn 196=some pf196
theorem c196 (H:HasR0 prog) {s p:Bytes} (hs:s.length≤1000000000):Pus prog 196 [.s s,.s p] (.s (cuts p s).1):=by
  obtain ⟨x,rfl,h⟩:=p196 H.f196 (s0:=s) (suffix1:=p) (K:=fun x=>x=(cuts p s).1) (by
    unfold T196_0
    refine ⟨_,c191 H.toHasO hs,fun h=>?_,fun h=>?_⟩
    · have h2:p.length≤s.length:=by
        unfold cuts at h
        split at h
        · rename_i h2;exact h2.1
        · cases h
      rw [wr_i64 (by omega) (by omega)]
      refine ⟨by omega,by omega,?_⟩
      unfold cuts at h ⊢
      split at h
      · rename_i h3
        rw [if_pos h3]
        show s.take _=s.take _
        congr 1
        omega
      · cases h
    · unfold cuts at h ⊢
      split at h
      · cases h
      · rename_i h3
        rw [if_neg h3])
  exact h
theorem c189 (H:HasR0 prog) {s p:Bytes} (hs:s.length≤1000000000):Pus prog 189 [.s s,.s p] (.s (cuts p s).1):=by
  obtain ⟨x,rfl,h⟩:=p189 H.f189 (s0:=s) (suffix1:=p) (K:=fun x=>x=(cuts p s).1) (by
    unfold T189_0
    exact ⟨_,c196 H hs,rfl⟩)
  exact h
theorem w167_7:W prog 0 (.reg 7 r167_7) σ st fun e σ' st'=>e=.normal∧σ'=up σ 5 (σ 25)∧st'.bx=st.bx∧st'.ow=st.ow:=
  W.reg0 rfl fun _ _=>s_mv rfl (s_nil ⟨rfl,rfl,rfl,rfl⟩)
theorem w167_8 (H:HasR0 prog) {v2 v3 v4 vs:Nat} {x rest:Bytes} {x2 x3:AV} {acc:List Pan} (hl:x.length≤900000000) (ha:acc.length≤1000000) (h5:σ 5=.s (x++[10])) (h2:σ 2=.p (0,0) v2 0) (h3:σ 3=.p (0,1) v3 0) (h4:σ 4=.p (0,20480) v4 0)
    (hB:B4 v2 v3 v4 st x2 x3 acc) (hb:lk st.bx (1,0)=some (vs,[.s rest])) :
    W prog 0 a167_8 σ st fun e _ st'=>((rlP x).2=0→e=.normal∧B4 v2 v3 v4 st' x2 x3 (acc++[(rlP x).1]))∧((rlP x).2≠0→e=.ret∧B4 v2 v3 v4 st' (.sl .full []) (.i .i64 12) acc)∧lk st'.bx (1,0)=some (vs,[.s rest]):=by
  obtain ⟨b2,b3,o,b4,b5⟩:=hB
  have c1:=c189 H (s:=x++[10]) (p:=[10]) (by simp;omega)
  rw [cuts_app] at c1
  have c2:=c156 H.toHasP (s:=x) (by omega)
  refine W.block (W.seq (W.reg (s_mv rfl (s_call (sc h5 rfl (sc rfl rfl sn)) c1 (s_call (sc rfl rfl sn) c2 (s_mv rfl (s_ext rfl rfl (s_ext rfl rfl (s_alloc (s_storeP rfl lk_here rfl rfl rfl (s_mv rfl (s_nil ?_)))))))))))) 
  refine W.seq (W.seq (W.reg0 rfl fun _ _=>s_mv rfl (s_bin rfl rfl neq_ (s_nil ?_))))
  refine c_split rfl (fun h=>?_) fun h=>W.skip ?_
  · have e2:lk (st_ (st_ st.bx (0,8*4096+6) (st.nx+6,[.i .u64 0,.i .u8 0,.i .i64 0,.s [],.sl .full [],.b false,.i .u64 0])) (0,8*4096+6) (st.nx+6,(rlP x).1.row)) (0,0)=_:=lk_other rfl (lk_other rfl b2)
    refine W.seq (W.reg0 rfl fun _ _=>s_storeP h2 (lk_other rfl (lk_other rfl b2)) rfl rfl rfl (s_storeP h3 (lk_other rfl (lk_other rfl (lk_other rfl b3))) rfl rfl rfl (s_nil (W.ret ?_))))
    refine ⟨fun h'=>absurd h' h,fun _=>⟨rfl,lk_other rfl lk_here,lk_here,o,lk_other rfl (lk_other rfl (lk_other rfl (lk_other rfl b4))),b5⟩,?_⟩
    have hk :∀s:Nat,((0,s):Key)≠(1,0):=fun s e=>by injection e with e _;cases e
    exact (lk_ne (hk _)).trans ((lk_ne (hk _)).trans ((lk_ne (hk _)).trans ((lk_ne (hk _)).trans hb)))
  · have h:=Decidable.not_not.1 h
    refine W.reg0 rfl fun _ _=>s_loadP h4 (lk_other rfl (lk_other rfl b4)) rfl rfl (s_loadP rfl lk_here rfl rfl (s_bslM (f:=Pan.row) (l:=[(rlP x).1]) rfl rfl (g_cons rfl rfl rfl g_nil) (by simp only [List.map_cons,List.map_nil,Pan.row_eq];rfl) (s_app Pan.row_len rfl rfl rfl b5 ⟨?_,?_⟩ rfl fun o' ow' ha' hw ho=>s_storeP h4 (lk_other rfl (lk_other rfl b4)) rfl rfl rfl (s_nil ?_))))
    · simp only [List.length_cons,List.length_nil,maxBytes];omega
    · simp only [List.length_cons,List.length_nil,maxBytes];omega
    · refine ⟨fun _=>⟨rfl,lk_other rfl (lk_other rfl (lk_other rfl b2)),lk_other rfl (lk_other rfl (lk_other rfl b3)),o',lk_here,ha'⟩,fun h'=>absurd h h',?_⟩
      have hk :∀s:Nat,((0,s):Key)≠(1,0):=fun s e=>by injection e with e _;cases e
      exact (lk_ne (hk _)).trans ((lk_ne (hk _)).trans ((lk_ne (hk _)).trans hb))
def ends10 (s:Bytes):Bool:=(cuts [10] s).2
def badT (s:Bytes):Bool:=(decide (s≠[])&&!ends10 s)||decide (410<s.count 10)
theorem w167_0:W prog 0 (.reg 0 r167_0) σ st fun e σ' st'=>e=.normal∧σ' 0=σ 0∧σ' 2=.p (0,0) st.nx 0∧σ' 3=.p (0,1) (st.nx+1) 0∧lk st'.bx (0,0)=some (st.nx,[.sl .full []])∧lk st'.bx (0,1)=some (st.nx+1,[.i .i64 0])∧st'.ow=st.ow:=
  W.reg (s_alloc (s_alloc (s_nil ⟨rfl,rfl,rfl,rfl,lk_other rfl lk_here,lk_here,rfl⟩)))
theorem w167_1 {v2 v3:Nat} {s:Bytes} {x2 x3:AV} (h0:σ 0=.s s) (h2:σ 2=.p (0,0) v2 0) (h3:σ 3=.p (0,1) v3 0) (b2:lk st.bx (0,0)=some (v2,[x2])) (b3:lk st.bx (0,1)=some (v3,[x3])) :
    W prog 0 (.seq (.reg 1 r167_1) (.cond (.t 10) (.seq (.reg 2 r167_2) .ret) .skip)) σ st fun e σ' st'=>σ' 0=σ 0∧σ' 2=σ 2∧σ' 3=σ 3∧st'.ow=st.ow∧(120000<s.length→e=.ret∧lk st'.bx (0,0)=some (v2,[.sl .full []])∧lk st'.bx (0,1)=some (v3,[.i .i64 4]))∧(¬120000<s.length→e=.normal∧st'.bx=st.bx):=by
  refine W.seq (W.reg0 rfl fun _ _=>s_mv h0 (s_lenS rfl (s_bin rfl rfl gtr_ (s_nil ?_))))
  refine c_split rfl (fun h=>?_) fun h=>W.skip ⟨rfl,rfl,rfl,rfl,fun h'=>absurd (show (s.length:Int)>120000 by omega) h,fun _=>⟨rfl,rfl⟩⟩
  refine W.seq (W.reg0 rfl fun _ _=>s_storeP h2 b2 rfl rfl rfl (s_storeP h3 (lk_other rfl b3) rfl rfl rfl (s_nil (W.ret ?_))))
  exact ⟨rfl,rfl,rfl,rfl,fun _=>⟨rfl,lk_other rfl lk_here,lk_here⟩,fun h'=>absurd (show 120000<s.length by omega) h'⟩
theorem w167_3 (H:HasP prog) (c187 :∀s:Bytes,s.length≤1000000000→Pus prog 187 [.s s,.s [10]] (.i .i64 (s.count 10:Int))) {v2 v3:Nat} {s:Bytes} {x2 x3:AV} (hs:s.length≤1000000000) (h0:σ 0=.s s) (h2:σ 2=.p (0,0) v2 0) (h3:σ 3=.p (0,1) v3 0) (b2:lk st.bx (0,0)=some (v2,[x2])) (b3:lk st.bx (0,1)=some (v3,[x3])) :
    W prog 0 (.seq (.reg 3 r167_3) (.cond (.t 22) (.seq (.reg 4 r167_4) .ret) .skip)) σ st fun e σ' st'=>σ' 0=σ 0∧σ' 2=σ 2∧σ' 3=σ 3∧st'.ow=st.ow∧(badT s=true→e=.ret∧lk st'.bx (0,0)=some (v2,[.sl .full []])∧lk st'.bx (0,1)=some (v3,[.i .i64 12]))∧(badT s=false→e=.normal∧st'.bx=st.bx):=by
  have c186':=c186 H.toHasO (s:=s) (p:=[10]) hs
  have hc:=c187 s hs
  have yes :∀{σ':Sl} {st':St},σ' 0=σ 0→σ' 2=σ 2→σ' 3=σ 3→st'.bx=st.bx→st'.ow=st.ow→badT s=true→W prog 0 (.seq (.reg 4 r167_4) .ret) σ' st' fun e σ' st'=>σ' 0=σ 0∧σ' 2=σ 2∧σ' 3=σ 3∧st'.ow=st.ow∧(badT s=true→e=.ret∧lk st'.bx (0,0)=some (v2,[.sl .full []])∧lk st'.bx (0,1)=some (v3,[.i .i64 12]))∧(badT s=false→e=.normal∧st'.bx=st.bx):=by
    intro σ' st' e0 e2 e3 eb eo hb
    refine W.seq (W.reg0 rfl fun _ _=>s_storeP (e2.trans h2) (eb ▸ b2) rfl rfl rfl (s_storeP (e3.trans h3) (lk_other rfl (eb ▸ b3)) rfl rfl rfl (s_nil (W.ret ?_))))
    exact ⟨e0,e2,e3,eo,fun _=>⟨rfl,lk_other rfl lk_here,lk_here⟩,fun h'=>by rw [hb] at h';cases h'⟩
  -- the count
  have cnt:badT s=decide (410<s.count 10)→∀{b:Nat} {σ':Sl} {st':St},σ' 18=.b false→σ' 0=σ 0→σ' 2=σ 2→σ' 3=σ 3→st'.bx=st.bx→st'.ow=st.ow→WO prog 0 3 b 8 [oG 19 (.mv (.t 0)) 18 false,oG 20 (.call false 187 [(.t 19),(.c (.s [10]))]) 18 false,oG 21 (.bin .gtr (.t 20) (.c (.i .i64 410))) 18 false,oO 22 (.pick (.t 18) (.c (.b true)) (.t 21))] σ' st' (fun σ' st'=>W prog 0 (.cond (.t 22) (.seq (.reg 4 r167_4) .ret) .skip) σ' st' fun e σ' st'=>σ' 0=σ 0∧σ' 2=σ 2∧σ' 3=σ 3∧st'.ow=st.ow∧(badT s=true→e=.ret∧lk st'.bx (0,0)=some (v2,[.sl .full []])∧lk st'.bx (0,1)=some (v3,[.i .i64 12]))∧(badT s=false→e=.normal∧st'.bx=st.bx)):=by
    intro hbad b σ' st' e18 e0 e2 e3 eb eo
    refine s_gy e18 (s_mv (e0.trans h0) (s_gy e18 (s_call (sc rfl rfl (sc rfl rfl sn)) hc (s_gy e18 (s_bin rfl rfl gtr_ (s_pickF e18 rfl (s_nil ?_)))))))
    refine c_split rfl (fun h=>yes e0 e2 e3 eb eo (by rw [hbad];exact decide_eq_true (by omega))) fun h=>W.skip ⟨e0,e2,e3,eo,fun h'=>?_,fun _=>⟨rfl,eb⟩⟩
    rw [hbad] at h'
    exact absurd (show (s.count 10:Int)>410 by have:=of_decide_eq_true h';omega) h
  refine W.seq (W.reg0 rfl fun _ _=>s_mv h0 (s_bin rfl rfl sne_ (s_mv rfl ?_)))
  refine s_em (g:=13) rfl (fun hne=>?_) fun hne=>?_
  · refine s_gy rfl (s_mv h0 (s_gy rfl (s_call (sc rfl rfl (sc rfl rfl sn)) c186' (s_gy rfl (s_not rfl (s_pickT rfl rfl (s_mv rfl ?_)))))))
    refine s_emb (g:=18) rfl (fun hb=>?_) fun hb=>?_
    · refine s_gn (b:=true) rfl rfl (s_gn (b:=true) rfl rfl (s_gn (b:=true) rfl rfl (s_pickT rfl rfl (s_nil ?_))))
      refine c_tt rfl (yes rfl rfl rfl rfl rfl ?_)
      unfold badT ends10
      rw [hb,decide_eq_true hne];rfl
    · refine cnt ?_ rfl rfl rfl rfl rfl rfl
      unfold badT ends10
      rw [hb]
      simp
  · refine s_gn (b:=false) rfl rfl (s_gn (b:=false) rfl rfl (s_gn (b:=false) rfl rfl (s_pickF rfl rfl (s_mv rfl ?_))))
    refine cnt ?_ rfl rfl rfl rfl rfl rfl
    unfold badT
    rw [decide_eq_false hne];rfl
theorem w167_5:W prog 0 (.reg 5 r167_5) σ st fun e σ' st'=>e=.normal∧σ' 0=σ 0∧σ' 2=σ 2∧σ' 3=σ 3∧σ' 4=.p (0,20480) st.nx 0∧st'.bx=st_ st.bx (0,20480) (st.nx,[.sl .full []])∧st'.ow=st.ow:=
  W.reg (s_alloc (s_nil ⟨rfl,rfl,rfl,rfl,rfl,rfl,rfl⟩))
theorem w188 {s:Bytes} (h0:σ 0=.s s):W prog 1 b188 σ st fun e σ' st'=>e=.ret∧σ' 2=.fn 195 [.p (1,0) st.nx 0]∧st'.bx=st_ st.bx (1,0) (st.nx,[.s s])∧st'.ow=st.ow:=by
  refine W.seq (W.reg0 rfl fun _ _=>s_box h0 rfl (s_mv rfl (s_nil ?_)))
  exact W.seq (W.reg0 rfl fun _ _=>s_mkfn (sec rfl sen) (s_mv rfl (s_nil (W.ret ⟨rfl,rfl,rfl,rfl⟩))))
end
end Go.AM

namespace Go.AM
open Go Go.RowKit
section
variable {P:Program} {ops:Array Oper} {Q:Exit→Act→World→Prop} {i n:Nat} {r:List Nat} {a:Act} {w w':World} {o:Oper}
theorem in_val {v:Value} (ho:ops[i]?=some o) (hg:o.guard=none) (hr:(execOp a.eval o).run P w=.ok (.value v) w') (hk:wpOpsIn Fence.wide n P ops Q r (a.put o.dst v) w'):wpOpsIn Fence.wide n P ops Q (i::r) a w:=by
 simp only [wpOpsIn,ho]
 rw [if_pos (by simp [Region.wanted,hg])]
 refine ⟨fun _ _=>trivial,?_⟩
 show o.uponIn Fence.wide n P a _ Q ((o.semAt none a.eval).run P w)
 rw [Oper.semAt_none,hr]
 exact hk
theorem in_skip (ho:ops[i]?=some o) (hg:o.guard=none) (hr:(execOp a.eval o).run P w=.ok .skip w') (hk:wpOpsIn Fence.wide n P ops Q r (a.put o.dst undef) w'):wpOpsIn Fence.wide n P ops Q (i::r) a w:=by
 simp only [wpOpsIn,ho]
 rw [if_pos (by simp [Region.wanted,hg])]
 refine ⟨fun _ _=>trivial,?_⟩
 show o.uponIn Fence.wide n P a _ Q ((o.semAt none a.eval).run P w)
 rw [Oper.semAt_none,hr]
 exact hk
theorem in_call {f:FuncId} {args:Array Value} {R:Value→World→Prop} (ho:ops[i]?=some o) (hg:o.guard=none) (hr:(execOp a.eval o).run P w=.ok (.enter f args) w') (hc:Calls P f args w' fun e w=>match e with | .returned v=>R v w | _=>False) (hk :∀v w'',R v w''→wpOpsIn Fence.wide n P ops Q r (a.put o.dst v) w''):wpOpsIn Fence.wide n P ops Q (i::r) a w:=by
 simp only [wpOpsIn,ho]
 rw [if_pos (by simp [Region.wanted,hg])]
 refine ⟨fun _ _=>trivial,?_⟩
 show o.uponIn Fence.wide n P a _ Q ((o.semAt none a.eval).run P w)
 rw [Oper.semAt_none,hr]
 refine ⟨fun h=>(by cases h),(callsIn_wide.2 hc).mono fun e w'' he=>?_⟩
 cases e with
 | returned v=>exact hk v w'' he
 | panicked c=>exact he.elim
 | outgrown=>exact he.elim
theorem in_round {l:Nat} {f:FuncId} {tmps:Array Value} {asg bd:Code} {R:Value→World→Prop} (ho:ops[i]?=some o) (hg:o.guard=none) (hr:(execOp a.eval o).run P w=.ok (.round l f tmps asg bd) w') (hc:RoundIn Fence.wide (n-1) P l f tmps asg bd w' fun e w=>match e with | .returned v=>R v w | _=>False) (hk :∀v w'',R v w''→wpOpsIn Fence.wide n P ops Q r (a.put o.dst v) w''):wpOpsIn Fence.wide n P ops Q (i::r) a w:=by
 simp only [wpOpsIn,ho]
 rw [if_pos (by simp [Region.wanted,hg])]
 refine ⟨fun _ _=>trivial,?_⟩
 show o.uponIn Fence.wide n P a _ Q ((o.semAt none a.eval).run P w)
 rw [Oper.semAt_none,hr]
 refine ⟨fun h=>(by cases h),hc.mono fun e w'' he=>?_⟩
 cases e with
 | returned v=>exact hk v w'' he
 | panicked c=>exact he.elim
 | outgrown=>exact he.elim
theorem run_move {x:Operand} (h:o.op=.move x):(execOp a.eval o).run P w=.ok (.value (a.eval x)) w:=by simp only [execOp,h,Sem.run_pure]
theorem run_load {t:TypeId} {x:Operand} {v:Value} (h:o.op=.load t x) (hr:(Instr.loadAt t (a.eval x)).run P w=.ok v w):(execOp a.eval o).run P w=.ok (.value v) w:=by simp only [execOp,h,Sem.run_bind,hr,Sem.run_pure,Result.andThen_ok]
theorem run_store {t:TypeId} {x y:Operand} (h:o.op=.store t x y) (hr:(Instr.storeAt t (a.eval x) (a.eval y)).run P w=.ok () w'):(execOp a.eval o).run P w=.ok .skip w':=by simp only [execOp,h,Sem.run_bind,hr,Sem.run_pure,Result.andThen_ok]
theorem run_not {t:TypeId} {x:Operand} {b:Bool} (h:o.op=.unOp .not t x) (hx:a.eval x=.bool b):(execOp a.eval o).run P w=.ok (.value (.bool (!b))) w:=by simp [execOp,h,hx,Op.unary,Sem.run_pure]
theorem run_yieldop {x y:Operand} {ts:Array TypeId} {l:Nat} {v:Value} {nx:Next} (h:o.op=.call { callee:=.value x,args:=#[y],argTypes:=ts }) (hx:a.eval x=.func (.yield l) #[] #[]) (hy:a.eval y=v) (hr:(Instr.yield l #[v]).run P w=.ok nx w'):(execOp a.eval o).run P w=.ok nx w':=by
 subst hy
 simp only [execOp,h,resolve,hx]
 simpa [go_sem] using hr
theorem run_callop {g:FuncId} {y:Operand} {ts:Array TypeId} {v:Value} (h:o.op=.call { callee:=.value (.func g),args:=#[y],argTypes:=ts }) (hy:a.eval y=v) (hr:(callFunc g #[v]).run P w=.ok (.enter g #[v]) w):(execOp a.eval o).run P w=.ok (.enter g #[v]) w:=by
 subst hy
 simp only [execOp,h,resolve]
 simpa [go_sem] using hr
end
end Go.AM

namespace Go.AM
open Go Go.RowKit
theorem Gh.LeR.trans {A B C:Gh} (h:A.LeR B) (k:B.LeR C):A.LeR C:=
 ⟨fun _ _ _ x=>k.H _ _ _ (h.H _ _ _ x),fun _ _ _ x=>k.ρ _ _ _ (h.ρ _ _ _ x),fun _ _ _ x=>k.ω _ _ _ (h.ω _ _ _ x),k.fm.trans h.fm,fun _ _ x=>k.M _ _ (h.M _ _ x)⟩
structure RtAt (P:Program) (X:Cx) where
 (fR fL fY:Nat)
 (nR nL nY:Func)
 (A0 A1 A3 A5 A7 A8 Y0 Y1 Y2 cL:Code)
 (p1 p2 q1 q2 q3 z1 z2 z3 z4:Oper)
 (t1 t2 t3:TypeId)
 (tp tz:Array TypeId)
 (i1 i2:TI)
 eR:P.funcs[fR]?=some nR
 bR:nR.body=some (.seq A0 (.seq A1 (.seq A3 (.seq A5 (.seq (.seq (.region 6 #[p1,p2] false) (.block 0 (.rangeFunc (.tmp 24) #[25] A7 A8))) (.seq (.region 12 #[q1,q2,q3] false) .ret))))))
 tR:nR.ntmps=39
 rR:cRess X nR.results.toList=some [.cell 2 1 false,.cell 3 1 false]
 mR:(nR.name== "runtime.NumGoroutine")=false
 eL:P.funcs[fL]?=some nL
 bL:nL.body=some cL
 tL:nL.ntmps=4
 rL:cRess X nL.results.toList=some [.tmp 2]
 mL:(nL.name== "runtime.NumGoroutine")=false
 eY:P.funcs[fY]?=some nY
 bY:nY.body=some (.block 0 (.loop (.seq Y0 (.block 1 (.seq Y1 (.seq Y2 (.seq (.region 6 #[z1,z2,z3,z4] false) (.cond (.tmp 24) .ret .skip))))))))
 tY:nY.ntmps=25
 rY:cRess X nY.results.toList=some []
 mY:(nY.name== "runtime.NumGoroutine")=false
 a0:cCode X 39 A0=some (.reg 0 r167_0)
 a1:cCode X 39 A1=some (.seq (.reg 1 r167_1) (.cond (.t 10) (.seq (.reg 2 r167_2) .ret) .skip))
 a3:cCode X 39 A3=some (.seq (.reg 3 r167_3) (.cond (.t 22) (.seq (.reg 4 r167_4) .ret) .skip))
 a5:cCode X 39 A5=some (.reg 5 r167_5)
 a7:cCode X 39 A7=some (.reg 7 r167_7)
 a8:cCode X 39 A8=some a167_8
 w7:plainR X 39 A7=true
 w8:plainR X 39 A8=true
 y0:cCode X 25 Y0=some a195_0
 y1:cCode X 25 Y1=some (.reg 1 r195_1)
 y2:cCode X 25 Y2=some a195_2
 l0:cCode X 4 cL=some b188
 p1o:p1.op=.move (.tmp 0)
 p1d:p1.dst=some 23
 p1g:p1.guard=none
 p2o:p2.op=.call { callee:=.value (.func fL),args:=#[.tmp 23],argTypes:=tp }
 p2d:p2.dst=some 24
 p2g:p2.guard=none
 q1o:q1.op=.load t1 (.tmp 4)
 q1d:q1.dst=some 38
 q1g:q1.guard=none
 q2o:q2.op=.store t1 (.tmp 2) (.tmp 38)
 q2d:q2.dst=none
 q2g:q2.guard=none
 q3o:q3.op=.store t2 (.tmp 3) (.const (.int .i64 0))
 q3d:q3.dst=none
 q3g:q3.guard=none
 u1:X.T t1=some i1
 s1:i1.size=1
 g1:i1.kind.agg=false
 u2:X.T t2=some i2
 s2:i2.size=1
 z1o:z1.op=.move (.tmp 0)
 z1d:z1.dst=some 21
 z1g:z1.guard=none
 z2o:z2.op=.move (.tmp 3)
 z2d:z2.dst=some 22
 z2g:z2.guard=none
 z3o:z3.op=.call { callee:=.value (.tmp 21),args:=#[.tmp 22],argTypes:=tz }
 z3d:z3.dst=some 23
 z3g:z3.guard=none
 z4o:z4.op=.unOp .not t3 (.tmp 23)
 z4d:z4.dst=some 24
 z4g:z4.guard=none
 fm :∀f,X.fm f=some 195→f=fY
section
variable {P:Program} {X:Cx} {prog:Prog}
theorem W.wpn (hT:TTok P X.T) (hm:P.follows .mixedOrders=true) (hC :∀n,CallOk P X.fm (acall prog n)) {nt d n:Nat} {c:Code} {ac:AC} (hc:cCode X nt c=some ac) {σ:Sl} {st:St} {Q0:AE→Sl→St→Prop} (h:W prog d ac σ st Q0) {G:Gh} {w0 w:World} {a:Act} (hfm:X.fm=G.fm) (hA:RelA G nt σ a) (hR:Rel G w0 st w)
  {Q:Exit→Act→World→Prop} (hQ :∀e σ' st',Q0 e σ' st'→∀a' w' G',RelA G' nt σ' a'→Run G G' w0 st st' w' d→Q (toExit e) a' w'):c.wpIn Fence.wide n P Q a w:=by
 obtain ⟨m,e,σ',st',h1,h2⟩:=h
 exact wpIn_wide.2 (code_ok hT (hC m) hm m d _ c (Nat.lt_succ_self _) hc h1 hfm hA hR (hQ e σ' st' h2))
theorem W.inr (hT:TTok P X.T) (hC :∀n,CallOk P X.fm (acall prog n)) {nt d:Nat} {c:Code} {ac:AC} (hc:cCode X nt c=some ac) (hp:plainR X nt c=true) {σ:Sl} {st:St} {Q0:AE→Sl→St→Prop} (h:W prog d ac σ st Q0) {G:Gh} {w0 w:World} {a:Act} (hfm:X.fm=G.fm) (hA:RelA G nt σ a) (hR:Rel G w0 st w)
  {Q:Exit→Act→World→Prop} (hQ :∀e σ' st',Q0 e σ' st'→∀a' w' G',RelA G' nt σ' a'→Run G G' w0 st st' w' d→Q (toExit e) a' w') (r n:Nat):c.wpIn (wideR r) n P Q a w:=by
 obtain ⟨m,e,σ',st',h1,h2⟩:=h
 exact code_in_round hT (hC m) m d c hp hc h1 hfm hA hR (hQ e σ' st' h2) r n
theorem B4.of_eq {v2 v3 v4:Nat} {st st':St} {x2 x3:AV} {acc:List Pan} (h:B4 v2 v3 v4 st x2 x3 acc) (hb:st'.bx=st.bx) (ho:st'.ow=st.ow):B4 v2 v3 v4 st' x2 x3 acc:=by
 obtain ⟨b2,b3,o,b4,b5⟩:=h
 exact ⟨by rw [hb];exact b2,by rw [hb];exact b3,o,by rw [hb];exact b4,by rw [ho];exact b5⟩
theorem B4.other {v2 v3 v4:Nat} {st st':St} {x2 x3:AV} {acc:List Pan} {k:Key} {y:Nat × List AV} (h:B4 v2 v3 v4 st x2 x3 acc) (hk:k.1=1) (hb:st'.bx=st_ st.bx k y) (ho:st'.ow=st.ow):B4 v2 v3 v4 st' x2 x3 acc:=by
 obtain ⟨b2,b3,o,b4,b5⟩:=h
 have hn :∀s:Nat,k≠((0,s):Key):=fun s e=>by rw [e] at hk;cases hk
 exact ⟨by rw [hb,lk_ne (hn _)];exact b2,by rw [hb,lk_ne (hn _)];exact b3,o,by rw [hb,lk_ne (hn _)];exact b4,by rw [ho];exact b5⟩
structure Bt (Gs Ge:Gh) (w0:World) (D l:Nat) (v2 v3 v4 vs:Nat) (rec:Loop) (x2 x3:AV) (acc:List Pan) (rest:Bytes) (G:Gh) (st:St) (w:World):Prop where
 le:Ge.LeR G
 newH :∀g o v,G.H g o=some v→Gs.H g o=some v∨w0.heap.size≤g
 old :∀b x,Gs.M b=some x→G.M b=some x
 rel:Rel G w0 st w
 mD:G.M D=some (.ob (.deferred (some [])))
 ml:G.M l=some (.ob (.loop rec))
 b4:B4 v2 v3 v4 st x2 x3 acc
 bs:lk st.bx (1,0)=some (vs,[.s rest])
variable {Gs Ge:Gh} {w0:World} {D l v2 v3 v4 vs:Nat} {rec:Loop} {x2 x3:AV} {acc:List Pan} {rest:Bytes} {G:Gh} {st:St} {w:World}
theorem Bt.run {G':Gh} {st':St} {w':World} {d:Nat} {x2' x3':AV} {acc':List Pan} {rest':Bytes} (h:Bt Gs Ge w0 D l v2 v3 v4 vs rec x2 x3 acc rest G st w) (hr:Run G G' w0 st st' w' d) (hb:B4 v2 v3 v4 st' x2' x3' acc') (hs:lk st'.bx (1,0)=some (vs,[.s rest'])):Bt Gs Ge w0 D l v2 v3 v4 vs rec x2' x3' acc' rest' G' st' w':=
 ⟨h.le.trans hr.le.toR,fun g o v hv=>by
  rcases hr.newH g o v hv with h' | h'
  ·exact h.newH g o v h'
  ·exact .inr h',fun b x hx=>hr.le.M b x (h.old b x hx),hr.rel,hr.le.M _ _ h.mD,hr.le.M _ _ h.ml,hb,hs⟩
theorem Bt.at (h:Bt Gs Ge w0 D l v2 v3 v4 vs rec x2 x3 acc rest G st w):w.heap[l]?=some (.loop rec):=(h.rel.mp _ _ h.ml).1
theorem Bt.turn (h:Bt Gs Ge w0 D l v2 v3 v4 vs rec x2 x3 acc rest G st w) (rec':Loop) (hne:D≠l) (h0:Gs.M l=none) (hge:w0.heap.size≤l):G.LeR (G.setM l (.ob (.loop rec')))∧Bt Gs Ge w0 D l v2 v3 v4 vs rec' x2 x3 acc rest (G.setM l (.ob (.loop rec'))) st (w.putObj l (.loop rec')):=by
 have hn :∀x,G.M l≠some (.mp x):=fun x e=>by rw [h.ml] at e;cases e
 have hle:=Gh.setM_le (G:=G) (x:=.ob (.loop rec')) hn
 refine ⟨hle,h.le.trans hle,h.newH,fun b x hx=>?_,h.rel.putOb h.at rfl rfl hge hn,?_,Gh.setM_at _ _,h.b4,h.bs⟩
 ·rw [Gh.setM_ne _ (by rintro rfl;rw [h0] at hx;cases hx)]
  exact h.old b x hx
 ·rw [Gh.setM_ne _ hne]
  exact h.mD
end
end Go.AM

namespace Go.AM
open Go Go.RowKit
abbrev okL (x:Bytes):Prop:=(rlP x).2=0
section
variable {P:Program} {X:Cx} {prog:Prog}
abbrev RtAt.lp (A:RtAt P X) (fn:Nat) (T0:Array Value) (D:Nat) (s:LoopState) (p:Option Code):Loop:={ state:=s,pending:=p,fn:=fn,tmps:=T0,params:=#[25],assign:=A.A7,body:=A.A8,defers:=D }
variable (A:RtAt P X) (H:HasR0 prog) (hT:TTok P X.T) (hm:P.follows .mixedOrders=true) (hC :∀n,CallOk P X.fm (acall prog n))
include hT hm hC H
theorem rt_round {Gs Ge:Gh} {w0:World} {D l v2 v3 v4 vs fn:Nat} {T0:Array Value} {σe:Sl} {x2 x3:AV} {acc:List Pan} {x rest:Bytes} {G:Gh} {st:St} {w:World} {v:Value}
  (hne:D≠l) (hl0:Gs.M l=none) (hge:w0.heap.size≤l) (hfe:X.fm=Ge.fm) (hE:RelA Ge 39 σe ⟨T0,[]⟩) (h2:σe 2=.p (0,0) v2 0) (h3:σe 3=.p (0,1) v3 0) (h4:σe 4=.p (0,20480) v4 0)
  (hx:x.length≤900000000) (ha:acc.length≤1000000) (hB:Bt Gs Ge w0 D l v2 v3 v4 vs (A.lp fn T0 D .ready none) x2 x3 acc rest G st w) (hv:R G (.s (x++[10])) v) :
  RoundIn Fence.wide (0-1) P l fn (T0.setIfInBounds 25 v) A.A7 A.A8 w fun e w'=>match e with
   | .returned u=>∃G' st',G.LeR G'∧((u=.bool true∧okL x∧Bt Gs Ge w0 D l v2 v3 v4 vs (A.lp fn T0 D .ready none) x2 x3 (acc++[(rlP x).1]) rest G' st' w')∨(u=.bool false∧¬okL x∧Bt Gs Ge w0 D l v2 v3 v4 vs (A.lp fn T0 D .done (some .ret)) (.sl .full []) (.i .i64 12) acc rest G' st' w'))
   | _=>False:=by
 have hR0:RelA G 39 (updO σe (some 25) (.s (x++[10]))) ⟨T0.setIfInBounds 25 v,[]⟩:=(hE.monoR hB.le).put (d:=some 25) (fun t h=>by cases h;decide) hv
 have hfm:X.fm=G.fm:=hfe.trans hB.le.fm.symm
 refine roundIn_of_wpIn (F:=Fence.wide) trivial (W.inr hT hC A.a7 A.w7 w167_7 hfm hR0 hB.rel (fun e σ1 st1 hq a1 w1 G1 hA1 hrun1=>?_) l _)
 obtain ⟨rfl,hσ,hbx,how⟩:=hq
 have hB1:=hB.run hrun1 (hB.b4.of_eq hbx how) (by rw [hbx];exact hB.bs)
 refine ⟨_,run_beginRound hB1.at rfl,?_⟩
 obtain ⟨hle2,hB2⟩:=hB1.turn (A.lp fn T0 D .busy none) hne hl0 hge
 have e5:σ1 5=.s (x++[10]):=by rw [hσ];rfl
 have e2:σ1 2=.p (0,0) v2 0:=by rw [hσ];exact h2
 have e3:σ1 3=.p (0,1) v3 0:=by rw [hσ];exact h3
 have e4:σ1 4=.p (0,20480) v4 0:=by rw [hσ];exact h4
 refine W.inr hT hC A.a8 A.w8 (w167_8 H hx ha e5 e2 e3 e4 hB2.b4 hB2.bs) ((hfm.trans hrun1.le.fm.symm).trans hle2.fm.symm) (hA1.monoR hle2) hB2.rel (fun e σ3 st3 hq a3 w3 G3 hA3 hrun3=>?_) l _
 obtain ⟨hok,hno,hs⟩:=hq
 have hLe:G.LeR G3:=(hrun1.le.toR.trans hle2).trans hrun3.le.toR
 by_cases hx0:okL x
 ·obtain ⟨rfl,hb4⟩:=hok hx0
  have hB3:=hB2.run hrun3 hb4 hs
  obtain ⟨hle4,hB4⟩:=hB3.turn (A.lp fn T0 D .ready none) hne hl0 hge
  exact ⟨_,_,run_endRound none hB3.at,_,_,hLe.trans hle4,.inl ⟨rfl,hx0,hB4⟩⟩
 ·obtain ⟨rfl,hb4⟩:=hno hx0
  have hB3:=hB2.run hrun3 hb4 hs
  obtain ⟨hle4,hB4⟩:=hB3.turn (A.lp fn T0 D .done (some .ret)) hne hl0 hge
  exact ⟨_,_,run_endRound (some .ret) hB3.at,_,_,hLe.trans hle4,.inr ⟨rfl,hx0,hB4⟩⟩
theorem rt_lines {Gs Ge:Gh} {w0:World} {D l v2 v3 v4 vs fn:Nat} {T0:Array Value} {σe:Sl} {x2 x3:AV} {Y:World→Prop}
  (hne:D≠l) (hl0:Gs.M l=none) (hge:w0.heap.size≤l) (hfe:X.fm=Ge.fm) (hE:RelA Ge 39 σe ⟨T0,[]⟩) (h2:σe 2=.p (0,0) v2 0) (h3:σe 3=.p (0,1) v3 0) (h4:σe 4=.p (0,20480) v4 0) :
  ∀(ls:List Bytes) (acc:List Pan) {G:Gh} {st:St} {w:World} {a:Act} {σ:Sl},(∀x∈ls,(10:UInt8) ∉ x∧x.length≤900000000)→(unl10 ls).length≤1000000000→acc.length+ls.length≤1000000→
   Bt Gs Ge w0 D l v2 v3 v4 vs (A.lp fn T0 D .ready none) x2 x3 acc (unl10 ls) G st w→RelA G 25 σ a→σ 0=.yl l→σ 1=.p (1,0) vs 0→
   (∀G st w,Bt Gs Ge w0 D l v2 v3 v4 vs (A.lp fn T0 D .ready none) x2 x3 (acc++ls.map fun x=>(rlP x).1) [] G st w→(∀x∈ls,okL x)→Y w)→
   (∀G st w acc rest,Bt Gs Ge w0 D l v2 v3 v4 vs (A.lp fn T0 D .done (some .ret)) (.sl .full []) (.i .i64 12) acc rest G st w→(∃x∈ls,¬okL x)→Y w)→
   Code.roundsIn Fence.wide 0 P (.seq A.Y0 (.block 1 (.seq A.Y1 (.seq A.Y2 (.seq (.region 6 #[A.z1,A.z2,A.z3,A.z4] false) (.cond (.tmp 24) .ret .skip)))))) (Exit.inBlock 0 (bodyPost P A.nY fun e w'=>match e with | .returned _=>Y w' | _=>False)) (ls.length+1) a w
 | [],acc,G,st,w,a,σ,_,_,_,hB,hA,e0,e1,hdone,_=>by
  rw [roundsIn_succ]
  refine wpIn_seq (W.wpn hT hm hC A.y0 (w195_0 e1 hB.bs) (hfe.trans hB.le.fm.symm) hA hB.rel fun e σ' st' hq a' w' G' hA' hrun=>?_)
  obtain ⟨_,_,eb,eo,hq1,_⟩:=hq
  obtain rfl:=hq1 rfl
  simp only [toExit,Exit.then,Exit.inBlock,if_true]
  obtain ⟨u,h5,_⟩:=results_ok hT hA' hrun.rel (fn:=A.nY) (xs:=[]) A.rY (by decide) (r:=.tup []) rfl
  refine ⟨hA'.1,u,h5,hdone G' st' w' ?_ (by simp)⟩
  have:=hB.run hrun (hB.b4.of_eq eb eo) (by rw [eb];exact hB.bs)
  simpa [unl10] using this
 | x::ls,acc,G,st,w,a,σ,hls,hlen,hac,hB,hA,e0,e1,hdone,hstop=>by
  rw [roundsIn_succ]
  have hx:=hls x (by simp)
  rw [unl10_cons] at hB hlen
  have hlen2:(unl10 ls).length≤1000000000:=by simp only [List.length_append,List.length_cons] at hlen;omega
  rw [List.length_cons] at hac
  refine wpIn_seq (W.wpn hT hm hC A.y0 (w195_0 e1 hB.bs) (hfe.trans hB.le.fm.symm) hA hB.rel fun e σ1 st1 hq a1 w1 G1 hA1 hrun1=>?_)
  obtain ⟨f0,f1,eb,eo,_,hq2⟩:=hq
  obtain rfl:=hq2 (by simp)
  have hB1:=hB.run hrun1 (hB.b4.of_eq eb eo) (by rw [eb];exact hB.bs)
  refine wpIn_block (wpIn_seq (W.wpn hT hm hC A.y1 w195_1 (hfe.trans hB1.le.fm.symm) hA1 hB1.rel fun e σ2 st2 hq a2 w2 G2 hA2 hrun2=>?_))
  obtain ⟨rfl,g0,g1,eb,eo⟩:=hq
  have hB2:=hB1.run hrun2 (hB1.b4.of_eq eb eo) (by rw [eb];exact hB1.bs)
  refine wpIn_seq (W.wpn hT hm hC A.y2 (w195_2 H.toHasP hx.1 hlen (g1.trans (f1.trans e1)) hB2.bs) (hfe.trans hB2.le.fm.symm) hA2 hB2.rel fun e σ3 st3 hq a3 w3 G3 hA3 hrun3=>?_)
  obtain ⟨rfl,k0,k1,k3,eb,eo⟩:=hq
  have hB3:=hB2.run hrun3 (hB2.b4.other rfl eb eo) (by rw [eb];exact lk_here)
  have j0:σ3 0=.yl l:=k0.trans (g0.trans (f0.trans e0))
  have j1:σ3 1=.p (1,0) vs 0:=k1.trans (g1.trans (f1.trans e1))
  refine wpIn_seq (wpIn_region ?_)
  show wpOpsIn Fence.wide 0 P #[A.z1,A.z2,A.z3,A.z4] _ [0,1,2,3] a3 w3
  have s0:=cOpd_ok hA3 (x:=.tmp 0) (y:=.t 0) rfl
  refine in_val (o:=A.z1) rfl A.z1g (run_move A.z1o) ?_
  have hA4:=hA3.put (d:=A.z1.dst) (fun t ht=>by rw [A.z1d] at ht;cases ht;decide) s0
  have s3:=cOpd_ok hA4 (x:=.tmp 3) (y:=.t 3) rfl
  refine in_val (o:=A.z2) rfl A.z2g (run_move A.z2o) ?_
  have hA5:=hA4.put (d:=A.z2.dst) (fun t ht=>by rw [A.z2d] at ht;cases ht;decide) s3
  have s21:=cOpd_ok hA5 (x:=.tmp 21) (y:=.t 21) rfl
  have s22:=cOpd_ok hA5 (x:=.tmp 22) (y:=.t 22) rfl
  have v21:(updO (updO σ3 A.z1.dst ((Opd.t 0).ev σ3)) A.z2.dst ((Opd.t 3).ev (updO σ3 A.z1.dst ((Opd.t 0).ev σ3)))) 21=.yl l:=by
   rw [A.z1d,A.z2d];exact j0
  have v22:(updO (updO σ3 A.z1.dst ((Opd.t 0).ev σ3)) A.z2.dst ((Opd.t 3).ev (updO σ3 A.z1.dst ((Opd.t 0).ev σ3)))) 22=.s (x++[10]):=by
   rw [A.z1d,A.z2d];exact k3
  have w0':(updO (updO σ3 A.z1.dst ((Opd.t 0).ev σ3)) A.z2.dst ((Opd.t 3).ev (updO σ3 A.z1.dst ((Opd.t 0).ev σ3)))) 0=.yl l:=by
   rw [A.z1d,A.z2d];exact j0
  have w1':(updO (updO σ3 A.z1.dst ((Opd.t 0).ev σ3)) A.z2.dst ((Opd.t 3).ev (updO σ3 A.z1.dst ((Opd.t 0).ev σ3)))) 1=.p (1,0) vs 0:=by
   rw [A.z1d,A.z2d];exact j1
  generalize (updO (updO σ3 A.z1.dst ((Opd.t 0).ev σ3)) A.z2.dst ((Opd.t 3).ev (updO σ3 A.z1.dst ((Opd.t 0).ev σ3))))=σ5 at *
  unfold Same at s21 s22
  simp only [Opd.ev] at s21 s22
  rw [v21] at s21
  rw [v22] at s22
  generalize ((a3.put A.z1.dst (a3.eval (.tmp 0))).put A.z2.dst ((a3.put A.z1.dst (a3.eval (.tmp 0))).eval (.tmp 3)))=a5 at *
  have hrnd:=rt_round A H hT hm hC hne hl0 hge hfe hE h2 h3 h4 hx.2 (by omega) hB3 s22
  have hyl:(Instr.yield l #[a5.eval (.tmp 22)]).run P w3=.ok (.round l fn (T0.setIfInBounds 25 (a5.eval (.tmp 22))) A.A7 A.A8) w3:=by
   have:=run_yield (P:=P) (args:=#[a5.eval (.tmp 22)]) hB3.at rfl
   simpa using this
  refine in_round (R:=fun u w6=>∃G' st',G3.LeR G'∧((u=.bool true∧okL x∧Bt Gs Ge w0 D l v2 v3 v4 vs (A.lp fn T0 D .ready none) x2 x3 (acc++[(rlP x).1]) (unl10 ls) G' st' w6)∨(u=.bool false∧¬okL x∧Bt Gs Ge w0 D l v2 v3 v4 vs (A.lp fn T0 D .done (some .ret)) (.sl .full []) (.i .i64 12) acc (unl10 ls) G' st' w6))) (o:=A.z3) rfl A.z3g (run_yieldop A.z3o s21.yl_inv rfl hyl) hrnd fun u w6 hu=>?_
  obtain ⟨G6,st6,hle6,hu⟩:=hu
  have hRu :∃b,u=.bool b∧R G6 (.b b) u:=by
   rcases hu with ⟨rfl,_⟩ | ⟨rfl,_⟩
   ·exact ⟨true,rfl,.fz _ _ (.b _)⟩
   ·exact ⟨false,rfl,.fz _ _ (.b _)⟩
  obtain ⟨b,rfl,hRb⟩:=hRu
  have hA6:=(hA5.monoR hle6).put (d:=A.z3.dst) (fun t ht=>by rw [A.z3d] at ht;cases ht;decide) hRb
  have s23:=cOpd_ok hA6 (x:=.tmp 23) (y:=.t 23) rfl
  have v23:updO σ5 A.z3.dst (.b b) 23=.b b:=by rw [A.z3d];rfl
  have v0:updO σ5 A.z3.dst (.b b) 0=.yl l:=by rw [A.z3d];exact w0'
  have v1:updO σ5 A.z3.dst (.b b) 1=.p (1,0) vs 0:=by rw [A.z3d];exact w1'
  generalize updO σ5 A.z3.dst (.b b)=σ6 at *
  unfold Same at s23
  simp only [Opd.ev] at s23
  rw [v23] at s23
  refine in_val (o:=A.z4) rfl A.z4g (run_not A.z4o s23.bool_inv) ?_
  have hA7:=hA6.put (d:=A.z4.dst) (v:=.b (!b)) (x:=.bool (!b)) (fun t ht=>by rw [A.z4d] at ht;cases ht;decide) (.fz _ _ (.b _))
  generalize ((a5.put A.z3.dst (.bool b)).put A.z4.dst (.bool (!b)))=a7 at *
  have v24:updO σ6 A.z4.dst (.b (!b)) 24=.b (!b):=by rw [A.z4d];rfl
  have u0:updO σ6 A.z4.dst (.b (!b)) 0=.yl l:=by rw [A.z4d];exact v0
  have u1:updO σ6 A.z4.dst (.b (!b)) 1=.p (1,0) vs 0:=by rw [A.z4d];exact v1
  have s24:=cOpd_ok hA7 (x:=.tmp 24) (y:=.t 24) rfl
  generalize updO σ6 A.z4.dst (.b (!b))=σ7 at *
  unfold Same at s24
  simp only [Opd.ev] at s24
  rw [v24] at s24
  show (Code.cond (.tmp 24) .ret .skip).wpIn Fence.wide 0 P _ a7 w6
  rcases hu with ⟨hb,hok,hB6⟩ | ⟨hb,hok,hB6⟩
  ·injection hb with hb
   subst hb
   refine wpIn_cond_false s24.bool_inv (wpIn_skip ?_)
   refine rt_lines hne hl0 hge hfe hE h2 h3 h4 ls (acc++[(rlP x).1]) (fun y hy=>hls y (by simp [hy])) hlen2 (by simp;omega) hB6 hA7 u0 u1 (fun G st w hb hall=>?_) fun G st w acc rest hb hex=>?_
   ·refine hdone G st w ?_ fun y hy=>?_
    ·simpa using hb
    ·rcases List.mem_cons.1 hy with rfl | hy
     ·exact hok
     ·exact hall y hy
   ·obtain ⟨y,hy,hy2⟩:=hex
    exact hstop G st w acc rest hb ⟨y,by simp [hy],hy2⟩
  ·injection hb with hb
   subst hb
   refine wpIn_cond_true s24.bool_inv (wpIn_ret ?_)
   obtain ⟨u,h5,_⟩:=results_ok hT hA7 hB6.rel (fn:=A.nY) (xs:=[]) A.rY (by decide) (r:=.tup []) rfl
   exact ⟨hA7.1,u,h5,hstop G6 st6 w6 acc _ hB6 ⟨x,by simp,hok⟩⟩
end
end Go.AM

namespace Go.AM
open Go Go.RowKit
def RtFin (Gs:Gh) (w0:World) (s:Bytes) (v:Value) (w':World):Prop:=∃G' st' r,r.strip=some (.tup [.sl .ext ((rtR s).1.map Pan.row),.i .i64 (rtR s).2])∧R G' r v∧HLe Gs.H G'.H∧G'.fm=Gs.fm∧(∀g o v,G'.H g o=some v→Gs.H g o=some v∨w0.heap.size≤g)∧Rel G' w0 st' w'∧(∀b x,Gs.M b=some x→G'.M b=some x)
theorem badT_no {s:Bytes} (h:badT s=false):(spl s).2=[]∧(spl s).1.length≤410:=by
 unfold badT at h
 simp only [Bool.or_eq_false_iff,Bool.and_eq_false_iff,decide_eq_false_iff_not,Bool.not_eq_false'] at h
 refine ⟨spl_rest.2 ?_,by rw [spl_count];omega⟩
 rcases h.1 with h1 | h1
 ·exact .inl (Decidable.not_not.1 h1)
 ·exact .inr h1
theorem badT_yes {s:Bytes} (h:badT s=true) (hs:¬120000<s.length):rtR s=([],12):=by
 unfold badT at h
 simp only [Bool.or_eq_true,Bool.and_eq_true,decide_eq_true_eq,Bool.not_eq_true'] at h
 unfold rtR
 rw [if_neg hs,if_pos]
 rcases h with ⟨h1,h2⟩ | h
 ·refine .inl fun e=>?_
  rcases spl_rest.1 e with e | e
  ·exact h1 e
  ·unfold ends10 at h2;rw [h2] at e;cases e
 ·exact .inr (by rw [spl_count];exact h)
theorem rtR_all {s:Bytes} (h:badT s=false) (hs:¬120000<s.length) (hall :∀x∈(spl s).1,okL x):rtR s=((spl s).1.map fun x=>(rlP x).1,0):=by
 obtain ⟨h1,h2⟩:=badT_no h
 unfold rtR
 rw [if_neg hs,if_neg (by rintro (h | h);exact h h1;omega),if_pos (List.all_eq_true.2 fun x hx=>decide_eq_true (hall x hx))]
theorem rtR_not {s:Bytes} (h:badT s=false) (hs:¬120000<s.length) (hex :∃x∈(spl s).1,¬okL x):rtR s=([],12):=by
 obtain ⟨h1,h2⟩:=badT_no h
 unfold rtR
 rw [if_neg hs,if_neg (by rintro (h | h);exact h h1;omega),if_neg]
 intro ha
 obtain ⟨x,hx,hn⟩:=hex
 exact hn (of_decide_eq_true (List.all_eq_true.1 ha x hx))
section
variable {P:Program} {X:Cx} {prog:Prog} (A:RtAt P X)
theorem rt_res (hT:TTok P X.T) {G:Gh} {w0 w:World} {st:St} {σ:Sl} {T:Array Value} {v2 v3:Nat} {x2 x3:AV} (hA:RelA G 39 σ ⟨T,[]⟩) (hR:Rel G w0 st w) (h2:σ 2=.p (0,0) v2 0) (h3:σ 3=.p (0,1) v3 0) (b2:lk st.bx (0,0)=some (v2,[x2])) (b3:lk st.bx (0,1)=some (v3,[x3])) :
  ∃v,(results A.nR T).run P w=.ok v w∧R G (.tup [x2,x3]) v:=by
 refine results_ok hT hA hR (fn:=A.nR) A.rR (by decide) ?_
 have e2:ares1 σ st (.cell 2 1 false)=some x2:=ares_cell h2 b2 rfl rfl
 have e3:ares1 σ st (.cell 3 1 false)=some x3:=ares_cell h3 b3 rfl rfl
 simp only [ares,aresL,e2,e3,Option.map_some]
variable (H:HasR0 prog) (hT:TTok P X.T) (hm:P.follows .mixedOrders=true) (hC :∀n,CallOk P X.fm (acall prog n)) (c187 :∀s:Bytes,s.length≤1000000000→Pus prog 187 [.s s,.s [10]] (.i .i64 (s.count 10:Int)))
include hT hm hC H
theorem rt_Lines {G:Gh} {w0 w:World} {st:St} {s:Bytes} {v:Value} (hfm:X.fm=G.fm) (hR:Rel G w0 st w) (hv:R G (.s s) v):Calls P A.fL #[v] w fun e w'=>match e with
  | .returned u=>∃G' st',R G' (.fn 195 [.p (1,0) st.nx 0]) u∧Run G G' w0 st st' w' 1∧st'.bx=st_ st.bx (1,0) (st.nx,[.s s])∧st'.ow=st.ow
  | _=>False:=by
 refine calls_of_wp A.eL A.bL ?_
 rw [A.tL]
 have hE:RelA G 4 (sl0 [.s s]) { tmps:=([v]:List Value).toArray++Array.replicate (4-([v]:List Value).toArray.size) undef,defers:=[] }:=RelA.enter ⟨rfl,fun j a u h1 h2=>by
  cases j with
  | zero=>simp at h1 h2;subst h1;subst h2;exact hv
  | succ j=>simp at h1⟩ (by simp)
 refine (wpIn_wide (n:=0)).1 (W.wpn (prog:=prog) (d:=1) hT hm hC A.l0 (w188 (s:=s) rfl) hfm hE hR fun e σ' st' hq a' w' G' hA' hrun=>?_)
 obtain ⟨rfl,h2,hbx,how⟩:=hq
 obtain ⟨u,h3,h4⟩:=results_ok hT hA' hrun.rel (fn:=A.nL) A.rL (by decide) (r:=.fn 195 [.p (1,0) st.nx 0]) (by simp only [ares,ares1,h2])
 exact ⟨hA'.1,u,h3,G',st',h4,hrun,hbx,how⟩
include c187
theorem rt_calls {Gs:Gh} {w0:World} {s:Bytes} {vals:List Value} (hL :∃c,X.fm A.fL=some c) (hY:X.fm A.fY=some 195) (hs:s.length≤1000000000) (hfm:X.fm=Gs.fm) (hR:Rel Gs w0 st0 w0) (hV:Rs Gs [.s s] vals):Calls P A.fR vals.toArray w0 fun e w'=>match e with | .returned v=>RtFin Gs w0 s v w' | _=>False:=by
 refine (callsIn_wide (n:=0)).1 (callsIn_of_wp_marks (F:=Fence.wide) (n:=0) A.eR A.bR trivial ?_)
 rw [A.tR]
 have hA0:=RelA.enter (nt:=39) hV (by simp)
 -- an end ahead of the loop
 have early :∀{x2 x3:AV} {v2 v3:Nat} {σ:Sl} {G:Gh} {st:St} {a:Act} {w:World},(.tup [x2,x3]:AV).strip=some (.tup [.sl .ext ((rtR s).1.map Pan.row),.i .i64 (rtR s).2])→RelA G 39 σ a→Run Gs G w0 st0 st w 0→σ 2=.p (0,0) v2 0→σ 3=.p (0,1) v3 0→lk st.bx (0,0)=some (v2,[x2])→lk st.bx (0,1)=some (v3,[x3])→
   bodyPostM Fence.wide 0 P A.nR (fun e w'=>match e with | .returned v=>RtFin Gs w0 s v w' | _=>False) .ret a w:=by
  intro x2 x3 v2 v3 σ G st a w hst hA hrun h2 h3 b2 b3
  obtain ⟨v,e1,e2⟩:=rt_res A hT (T:=a.tmps) ⟨rfl,hA.2⟩ hrun.rel h2 h3 b2 b3
  show LeavesInM Fence.wide 0 P A.nR a.tmps _ a.defers .returning w
  rw [hA.1]
  exact ⟨v,e1,G,st,_,hst,e2,hrun.le.H,hrun.le.fm,hrun.newH,hrun.rel,hrun.le.M⟩
 refine wpIn_seq (W.wpn hT hm hC A.a0 w167_0 hfm hA0 hR fun e σ1 st1 hq a1 w1 G1 hA1 hrun1=>?_)
 obtain ⟨rfl,f0,f2,f3,fb2,fb3,fo⟩:=hq
 have g0:σ1 0=.s s:=f0
 refine wpIn_seq (W.wpn hT hm hC A.a1 (w167_1 g0 f2 f3 fb2 fb3) (hfm.trans hrun1.le.fm.symm) hA1 hrun1.rel fun e σ2 st2 hq a2 w2 G2 hA2 hrun2=>?_)
 obtain ⟨e0,e2,e3,eo,hbig,hsm⟩:=hq
 have run2:=hrun1.trans hrun2
 by_cases hlen:120000<s.length
 ·obtain ⟨rfl,b2,b3⟩:=hbig hlen
  refine early ?_ hA2 run2 (e2.trans f2) (e3.trans f3) b2 b3
  unfold rtR
  rw [if_pos hlen]
  rfl
 obtain ⟨rfl,eb⟩:=hsm hlen
 refine wpIn_seq (W.wpn hT hm hC A.a3 (w167_3 H.toHasP c187 hs (e0.trans g0) (e2.trans f2) (e3.trans f3) (eb ▸ fb2) (eb ▸ fb3)) (hfm.trans run2.le.fm.symm) hA2 hrun2.rel fun e σ3 st3 hq a3 w3 G3 hA3 hrun3=>?_)
 obtain ⟨d0,d2,d3,dO,hyes,hno⟩:=hq
 have run3:=run2.trans hrun3
 cases hbad:badT s with
 | true=>
  obtain ⟨rfl,b2,b3⟩:=hyes hbad
  refine early ?_ hA3 run3 (d2.trans (e2.trans f2)) (d3.trans (e3.trans f3)) b2 b3
  rw [badT_yes hbad hlen]
  rfl
 | false=>
 obtain ⟨rfl,db⟩:=hno hbad
 refine wpIn_seq (W.wpn hT hm hC A.a5 w167_5 (hfm.trans run3.le.fm.symm) hA3 hrun3.rel fun e σ4 st4 hq a4 w4 G4 hA4 hrun4=>?_)
 obtain ⟨rfl,c0,c2,c3,c4,cb,co⟩:=hq
 have run4:=run3.trans hrun4
 have m0:σ4 0=.s s:=c0.trans (d0.trans (e0.trans g0))
 have m2:σ4 2=.p (0,0) st0.nx 0:=c2.trans (d2.trans (e2.trans f2))
 have m3:σ4 3=.p (0,1) (st0.nx+1) 0:=c3.trans (d3.trans (e3.trans f3))
 have hB4:B4 st0.nx (st0.nx+1) st3.nx st4 (.sl .full []) (.i .i64 0) []:=by
  refine ⟨?_,?_,.full,?_,trivial⟩
  ·rw [cb];exact lk_other rfl (by rw [db,eb];exact fb2)
  ·rw [cb];exact lk_other rfl (by rw [db,eb];exact fb3)
  ·rw [cb];exact lk_here
 -- strings.Lines
 refine wpIn_seq (wpIn_seq (wpIn_region ?_))
 show wpOpsIn Fence.wide 0 P #[A.p1,A.p2] _ [0,1] a4 w4
 have q0:=cOpd_ok hA4 (x:=.tmp 0) (y:=.t 0) rfl
 refine in_val (o:=A.p1) rfl A.p1g (run_move A.p1o) ?_
 have hA5:=hA4.put (d:=A.p1.dst) (fun t ht=>by rw [A.p1d] at ht;cases ht;decide) q0
 have v23:updO σ4 A.p1.dst ((Opd.t 0).ev σ4) 23=.s s:=by rw [A.p1d];exact m0
 have k2:updO σ4 A.p1.dst ((Opd.t 0).ev σ4) 2=.p (0,0) st0.nx 0:=by rw [A.p1d];exact m2
 have k3:updO σ4 A.p1.dst ((Opd.t 0).ev σ4) 3=.p (0,1) (st0.nx+1) 0:=by rw [A.p1d];exact m3
 have k4:updO σ4 A.p1.dst ((Opd.t 0).ev σ4) 4=.p (0,20480) st3.nx 0:=by rw [A.p1d];exact c4
 have q23:=cOpd_ok hA5 (x:=.tmp 23) (y:=.t 23) rfl
 generalize updO σ4 A.p1.dst ((Opd.t 0).ev σ4)=σ5 at *
 generalize a4.put A.p1.dst (a4.eval (.tmp 0))=a5 at *
 unfold Same at q23
 simp only [Opd.ev] at q23
 rw [v23] at q23
 refine in_call (o:=A.p2) rfl A.p2g (run_callop A.p2o rfl (callFunc_enter A.eL A.mL A.bL _)) (rt_Lines A H hT hm hC (hfm.trans run4.le.fm.symm) hrun4.rel q23) fun u w6 hu=>?_
 obtain ⟨G6,st6,hRu,hrun6,nb,no⟩:=hu
 have hA6:=(hA5.mono hrun6.le).put (d:=A.p2.dst) (fun t ht=>by rw [A.p2d] at ht;cases ht;decide) hRu
 have v24:updO σ5 A.p2.dst (.fn 195 [.p (1,0) st4.nx 0]) 24=.fn 195 [.p (1,0) st4.nx 0]:=by rw [A.p2d];rfl
 have n2:updO σ5 A.p2.dst (.fn 195 [.p (1,0) st4.nx 0]) 2=.p (0,0) st0.nx 0:=by rw [A.p2d];exact k2
 have n3:updO σ5 A.p2.dst (.fn 195 [.p (1,0) st4.nx 0]) 3=.p (0,1) (st0.nx+1) 0:=by rw [A.p2d];exact k3
 have n4:updO σ5 A.p2.dst (.fn 195 [.p (1,0) st4.nx 0]) 4=.p (0,20480) st3.nx 0:=by rw [A.p2d];exact k4
 have q24:=cOpd_ok hA6 (x:=.tmp 24) (y:=.t 24) rfl
 generalize updO σ5 A.p2.dst (.fn 195 [.p (1,0) st4.nx 0])=σ6 at *
 generalize a5.put A.p2.dst u=a6 at *
 unfold Same at q24
 simp only [Opd.ev] at q24
 rw [v24] at q24
 have hB6:B4 st0.nx (st0.nx+1) st3.nx st6 (.sl .full []) (.i .i64 0) []:=hB4.other rfl nb no
 have hs6:lk st6.bx (1,0)=some (st4.nx,[.s s]):=by rw [nb];exact lk_here
 have run6:Gs.Le G6∧(∀g o v,G6.H g o=some v→Gs.H g o=some v∨w0.heap.size≤g):=⟨run4.le.trans hrun6.le,fun g o v hv=>by
  rcases hrun6.newH g o v hv with h' | h'
  ·exact run4.newH g o v h'
  ·exact .inr h'⟩
 show (Code.block 0 (.rangeFunc (.tmp 24) #[25] A.A7 A.A8)).wpIn Fence.wide 0 P _ a6 w6
 obtain ⟨f,us,hf,hval,hus⟩:=q24.fn_inv
 have hfm6:X.fm=G6.fm:=hfm.trans run6.1.fm.symm
 obtain rfl:=A.fm f (by rw [hfm6];exact hf)
 refine wpIn_block (wpIn_rangeFunc ?_)
 intro fn _
 obtain ⟨hn1,hR7⟩:=hrun6.rel.newOb (o:=.deferred (some [])) rfl
 obtain ⟨hn2,hR8⟩:=hR7.newOb (o:=.loop (A.lp fn a6.tmps w6.heap.size .ready none)) rfl
 rw [World.size_alloc] at hn2 hR8
 have hne:w6.heap.size≠w6.heap.size+1:=by omega
 have hgD:Gs.M w6.heap.size=none:=by
  cases h:Gs.M w6.heap.size with
  | none=>rfl
  | some x=>have:=run6.1.M _ _ h;rw [hn1] at this;cases this
 have hgl:Gs.M (w6.heap.size+1)=none:=by
  cases h:Gs.M (w6.heap.size+1) with
  | none=>rfl
  | some x=>have:=run6.1.M _ _ h;rw [Gh.setM_ne _ (by omega),this] at hn2;cases hn2
 have hsz:=hrun6.rel.bel.size
 have hE:RelA G6 39 σ6 ⟨a6.tmps,[]⟩:=⟨rfl,hA6.2⟩
 obtain ⟨hp1,hp2⟩:=badT_no hbad
 have hsp:s=unl10 (spl s).1:=by
  have:=spl_join s
  rw [hp1,List.append_nil] at this
  exact this
 have le7:=Gh.setM_leM (x:=.ob (.deferred (some []))) hn1
 have le8:=Gh.setM_leM (x:=.ob (.loop (A.lp fn a6.tmps w6.heap.size .ready none))) hn2
 have hB8:Bt Gs G6 w0 w6.heap.size (w6.heap.size+1) st0.nx (st0.nx+1) st3.nx st4.nx (A.lp fn a6.tmps w6.heap.size .ready none) (.sl .full []) (.i .i64 0) [] (unl10 (spl s).1) ((G6.setM w6.heap.size (.ob (.deferred (some [])))).setM (w6.heap.size+1) (.ob (.loop (A.lp fn a6.tmps w6.heap.size .ready none)))) st6 ((w6.alloc (.deferred (some []))).alloc (.loop (A.lp fn a6.tmps w6.heap.size .ready none))):=
  ⟨(le7.trans le8).toR,run6.2,fun b x hx=>(le7.trans le8).M b x (run6.1.M b x hx),hR8,by rw [Gh.setM_ne _ hne,Gh.setM_at],Gh.setM_at _ _,hB6,by rw [← hsp];exact hs6⟩
 generalize hW:(w6.alloc (.deferred (some []))).alloc (.loop (A.lp fn a6.tmps w6.heap.size .ready none))=W1 at *
 generalize (G6.setM w6.heap.size (.ob (.deferred (some [])))).setM (w6.heap.size+1) (.ob (.loop (A.lp fn a6.tmps w6.heap.size .ready none)))=G8 at *
 -- the end
 have close :∀{lp:Loop} {x2 x3:AV} {acc:List Pan} {rest:Bytes} {σ:Sl} {T:Array Value} {G:Gh} {st:St} {w:World},(.tup [x2,x3]:AV).strip=some (.tup [.sl .ext ((rtR s).1.map Pan.row),.i .i64 (rtR s).2])→Bt Gs G6 w0 w6.heap.size (w6.heap.size+1) st0.nx (st0.nx+1) st3.nx st4.nx lp x2 x3 acc rest G st w→RelA G 39 σ ⟨T,[]⟩→σ 2=.p (0,0) st0.nx 0→σ 3=.p (0,1) (st0.nx+1) 0→
   LeavesInM Fence.wide 0 P A.nR T (fun e w'=>match e with | .returned v=>RtFin Gs w0 s v w' | _=>False) [{ target:=.collected w6.heap.size,args:=#[] }] .returning w:=by
  intro lp x2 x3 acc rest σ T G st w hst hB hA h2 h3
  have hD:=hB.rel.mp _ _ hB.mD
  have hn :∀x,G.M w6.heap.size≠some (.mp x):=fun x e=>by rw [hB.mD] at e;cases e
  have hrel:=hB.rel.putOb (o':=.deferred none) hD.1 rfl rfl hsz hn
  have hle:=Gh.setM_le (G:=G) (x:=.ob (.deferred none)) hn
  refine ⟨by simp,.inl ⟨w6.heap.size,_,rfl,run_takeDeferred hD.1,?_⟩⟩
  obtain ⟨v,e1,e2⟩:=rt_res A hT (hA.monoR hle) hrel h2 h3 hB.b4.b2 hB.b4.b3
  exact ⟨v,e1,_,st,_,hst,e2,fun g o v hv=>hB.le.H _ _ _ (run6.1.H _ _ _ hv),hB.le.fm.trans run6.1.fm,hB.newH,hrel,fun b x hx=>by
   rw [Gh.setM_ne _ (by rintro rfl;rw [hgD] at hx;cases hx)]
   exact hB.old b x hx⟩
 refine ⟨w6.heap.size+1,[{ target:=.collected w6.heap.size,args:=#[] }],W1,{ target:=.fn (.func A.fY) us.toArray,args:=#[.func (.yield (w6.heap.size+1)) #[] #[]] },W1,A.fY,#[.func (.yield (w6.heap.size+1)) #[] #[]]++us.toArray,W1,?_,?_,fun _ _=>trivial,?_,fun h=>(by cases h),?_⟩
 ·rw [← hW];exact run_enterLoop_outer _ _ _ _ _
 ·simp only [resolve,hval]
  simp [go_sem]
 ·simp [invoke,go_sem,callFunc_enter A.eY A.mY A.bY]
 ·have hAY:RelA G8 25 (sl0 [.yl (w6.heap.size+1),.p (1,0) st4.nx 0]) { tmps:=(.func (.yield (w6.heap.size+1)) #[] #[]::us).toArray++Array.replicate (25-(Value.func (.yield (w6.heap.size+1)) #[] #[]::us).toArray.size) undef,defers:=[] }:=by
   refine RelA.enter ⟨by have:=hus.1;simp at this ⊢;omega,fun j a u h1 h2=>?_⟩ (by simp)
   cases j with
   | zero=>simp at h1 h2;subst h1;subst h2;exact .yl _
   | succ j=>exact (hus.2 j a u (by simpa using h1) (by simpa using h2)).monoR hB8.le
  have eargs:(#[.func (.yield (w6.heap.size+1)) #[] #[]]++us.toArray:Array Value)=(.func (.yield (w6.heap.size+1)) #[] #[]::us).toArray:=by simp
  refine (callsIn_of_wp (F:=Fence.wide) (n:=0) (R:=fun e w'=>match e with
   | .returned _=>(∃G st,Bt Gs G6 w0 w6.heap.size (w6.heap.size+1) st0.nx (st0.nx+1) st3.nx st4.nx (A.lp fn a6.tmps w6.heap.size .ready none) (.sl .full []) (.i .i64 0) ((spl s).1.map fun x=>(rlP x).1) [] G st w'∧∀x∈(spl s).1,okL x)∨(∃G st acc rest,Bt Gs G6 w0 w6.heap.size (w6.heap.size+1) st0.nx (st0.nx+1) st3.nx st4.nx (A.lp fn a6.tmps w6.heap.size .done (some .ret)) (.sl .full []) (.i .i64 12) acc rest G st w'∧∃x∈(spl s).1,¬okL x)
   | _=>False) A.eY A.bY trivial ?_).mono fun e w9 he=>?_
  ·rw [eargs,A.tY]
   refine wpIn_block (wpIn_loop_rounds _ (rt_lines A H hT hm hC hne hgl (by omega) hfm6 hE n2 n3 n4 (spl s).1 [] (fun x hx=>⟨(spl_nl s).1 x hx,?_⟩) ?_ ?_ hB8 hAY rfl rfl (fun G st w hB hall=>.inl ⟨G,st,by simpa using hB,hall⟩) fun G st w acc rest hB hex=>.inr ⟨G,st,acc,rest,hB,hex⟩))
   ·have:=spl_len s x hx;omega
   ·rw [← hsp];exact hs
   ·simp;omega
  ·cases e with
   | panicked c=>exact he.elim
   | outgrown=>exact he.elim
   | returned v=>
    rcases he with ⟨G9,st9,hB9,hall⟩ | ⟨G9,st9,acc,rest,hB9,hex⟩
    ·obtain ⟨hle,hB10⟩:=hB9.turn (A.lp fn a6.tmps w6.heap.size .exhausted none) hne hgl (by omega)
     refine ⟨none,_,run_endLoop hB9.at (by simp),?_⟩
     show (Code.seq (.region 12 #[A.q1,A.q2,A.q3] false) .ret).wpIn Fence.wide 0 P _ { a6 with defers:=[{ target:=.collected w6.heap.size,args:=#[] }]++a6.defers } _
     rw [hA6.1]
     generalize w9.putObj (w6.heap.size+1) _=w10 at *
     generalize G9.setM (w6.heap.size+1) _=G10 at *
     have hE10:=hE.monoR hB10.le
     obtain ⟨b2,b3,o,b4,b5⟩:=hB10.b4
     refine wpIn_seq (wpIn_region ?_)
     show wpOpsIn Fence.wide 0 P #[A.q1,A.q2,A.q3] _ [0,1,2] _ _
     have r4:=cOpd_ok hE10 (x:=.tmp 4) (y:=.t 4) rfl
     unfold Same at r4
     simp only [Opd.ev] at r4
     rw [n4] at r4
     obtain ⟨u1,hr1,hR1⟩:=aload_ok (P:=P) hB10.rel (hT A.t1 A.i1 A.u1) (fun _=>A.s1) (r:=.sl o (((spl s).1.map fun x=>(rlP x).1).map Pan.row)) (by
      rw [A.s1,A.g1]
      simp only [aload,b4]
      rfl) r4
     refine in_val (o:=A.q1) rfl A.q1g (run_load A.q1o hr1) ?_
     have hA11:=hE10.put (d:=A.q1.dst) (fun t ht=>by rw [A.q1d] at ht;cases ht;decide) hR1
     have v38:updO σ6 A.q1.dst (.sl o (((spl s).1.map fun x=>(rlP x).1).map Pan.row)) 38=.sl o (((spl s).1.map fun x=>(rlP x).1).map Pan.row):=by rw [A.q1d];rfl
     have v2:updO σ6 A.q1.dst (.sl o (((spl s).1.map fun x=>(rlP x).1).map Pan.row)) 2=.p (0,0) st0.nx 0:=by rw [A.q1d];exact n2
     have v3:updO σ6 A.q1.dst (.sl o (((spl s).1.map fun x=>(rlP x).1).map Pan.row)) 3=.p (0,1) (st0.nx+1) 0:=by rw [A.q1d];exact n3
     have r38:=cOpd_ok hA11 (x:=.tmp 38) (y:=.t 38) rfl
     have r2:=cOpd_ok hA11 (x:=.tmp 2) (y:=.t 2) rfl
     have r3:=cOpd_ok hA11 (x:=.tmp 3) (y:=.t 3) rfl
     have hput:({ a6 with defers:=[{ target:=.collected w6.heap.size,args:=#[] }]++[] }:Act).put A.q1.dst u1={ (⟨a6.tmps,[]⟩:Act).put A.q1.dst u1 with defers:=[{ target:=.collected w6.heap.size,args:=#[] }] }:=by rw [A.q1d];rfl
     rw [hput]
     have hd0:((⟨a6.tmps,[]⟩:Act).put A.q1.dst u1).defers=[]:=hA11.1
     generalize (⟨a6.tmps,[]⟩:Act).put A.q1.dst u1=a11 at *
     generalize updO σ6 A.q1.dst (.sl o (((spl s).1.map fun x=>(rlP x).1).map Pan.row))=σ11 at *
     unfold Same at r38 r2 r3
     simp only [Opd.ev] at r38 r2 r3
     rw [v38] at r38
     rw [v2] at r2
     rw [v3] at r3
     obtain ⟨w11,hr2,hst2⟩:=astore_ok (P:=P) hB10.rel (hT A.t1 A.i1 A.u1) (st':={ st9 with bx:=st_ st9.bx (0,0) (st0.nx,[.sl o (((spl s).1.map fun x=>(rlP x).1).map Pan.row)]) }) (by
      rw [A.s1]
      simp only [astore,b2]
      rfl) r2 r38 (d:=0) (site:=0) (ver:=st9.nx)
     refine in_skip (o:=A.q2) rfl A.q2g (run_store A.q2o hr2) ?_
     rw [A.q2d]
     have hrun11:=Run.step (Run.refl (d:=0) hB10.rel) hst2 (Nat.le_refl _)
     obtain ⟨w12,hr3,hst3⟩:=astore_ok (P:=P) hst2.rel (hT A.t2 A.i2 A.u2) (st':={ st9 with bx:=st_ (st_ st9.bx (0,0) (st0.nx,[.sl o (((spl s).1.map fun x=>(rlP x).1).map Pan.row)])) (0,1) (st0.nx+1,[.i .i64 0]) }) (by
      rw [A.s2]
      simp only [astore,lk_other (d:=0) (s:=0) (s':=1) rfl b3]
      rfl) r3 (.fz _ _ (.i .i64 0)) (d:=0) (site:=0) (ver:=st9.nx)
     refine in_skip (o:=A.q3) rfl A.q3g (run_store A.q3o hr3) ?_
     rw [A.q3d]
     have hrun12:=Run.step hrun11 hst3 (Nat.le_refl _)
     have hB12:=hB10.run (x2':=.sl o (((spl s).1.map fun x=>(rlP x).1).map Pan.row)) (x3':=.i .i64 0) (acc':=(spl s).1.map fun x=>(rlP x).1) (rest':=[]) hrun12 ⟨lk_other rfl lk_here,lk_here,o,lk_other rfl (lk_other rfl b4),b5⟩ (by
      have hk :∀z:Nat,((0,z):Key)≠(1,0):=fun z e=>by injection e with e _;cases e
      exact (lk_ne (hk _)).trans ((lk_ne (hk _)).trans hB10.bs))
     refine wpIn_ret ?_
     show LeavesInM Fence.wide 0 P A.nR a11.tmps _ [{ target:=.collected w6.heap.size,args:=#[] }] .returning w12
     refine close ?_ hB12 ⟨rfl,hA11.2⟩ v2 v3
     rw [rtR_all hbad hlen hall]
     rfl
    ·obtain ⟨hle,hB10⟩:=hB9.turn (A.lp fn a6.tmps w6.heap.size .exhausted (some .ret)) hne hgl (by omega)
     refine ⟨some .ret,_,run_endLoop hB9.at (by simp),wpIn_ret ?_⟩
     show LeavesInM Fence.wide 0 P A.nR a6.tmps _ ([{ target:=.collected w6.heap.size,args:=#[] }]++a6.defers) .returning _
     rw [hA6.1]
     refine close ?_ hB10 (hE.monoR hB10.le) n2 n3
     rw [rtR_not hbad hlen hex]
     rfl
end
end Go.AM

namespace Go.AM
open Go Go.RowKit
def bodyR (f:Func):Code:=f.body.getD .skip
def sqA:Code→Code | .seq a _=>a | c=>c
def sqB:Code→Code | .seq _ b=>b | c=>c
def sqU:Code→Code | .block _ c=>c | .loop c=>c | c=>c
def rfA:Code→Code | .rangeFunc _ _ a _=>a | c=>c
def rfB:Code→Code | .rangeFunc _ _ _ b=>b | c=>c
def rgO (c:Code) (i:Nat):Oper:=match c with | .region _ o _=>o.getD i default | _=>default
theorem lift0 {P:Program} {X:Cx} {G:Gh} {w0 w:World} {st:St} {d:Nat} {f:FuncId} {s:Bytes} {vals:List Value} (hR:Rel G w0 st w) (hen:(callFunc f vals.toArray).run P w=.ok (.enter f vals.toArray) w)
  (h:Calls P f vals.toArray w fun e w'=>match e with | .returned v=>RtFin ⟨G.H,fun _ _=>none,fun _ _=>none,G.fm,G.M⟩ w s v w' | _=>False) :
  Goes P f vals.toArray w fun v w'=>∃G',R G' (.tup [.sl .ext ((rtR s).1.map Pan.row),.i .i64 (rtR s).2]) v∧Run G G' w0 st st w' d:=by
 refine .inl ⟨hen,h.mono fun e w' he=>?_⟩
 cases e with
 | panicked c=>exact he.elim
 | outgrown=>exact he.elim
 | returned v=>
  obtain ⟨G',st',r,h1,h2,h3,h4,h5,h6,h7⟩:=he
  have hs:=(Step.grow (d:=d) (site:=0) (ver:=0) hR h6.bel.bel h3 (fun g o v hg=>by
   rcases h5 g o v hg with h' | h'
   ·exact .inl h'
   ·exact .inr ⟨h',h6.ext g o v hg⟩)).setM h7 h6.mp
  exact ⟨⟨G'.H,G.ρ,G.ω,G.fm,G'.M⟩,strip_ok (G:=G') (fun _ _ _ h=>h) (fun _ _ h=>h) h2 h1 G.fm,⟨hs.le,hs.rel,hs.nx,fun _ _ _=>⟨rfl,rfl⟩,fun _ _ _ _ _ _ h=>h,fun g o v hg=>by
   rcases h5 g o v hg with h' | h'
   ·exact .inl h'
   ·exact .inr (Nat.le_trans hR.bel.size h')⟩⟩
theorem rel0 {G:Gh} {w0 w:World} {st:St} (hR:Rel G w0 st w):Rel ⟨G.H,fun _ _=>none,fun _ _=>none,G.fm,G.M⟩ w st0 w:=by
 refine ⟨hR.bel.here,hR.ext,?_,?_,?_,?_,fun _ _ _=>⟨rfl,rfl⟩,fun k ver cs g _ h1=>?_,fun k ver n _ h1=>?_,hR.mp⟩
 rotate_left 4
 ·simp [st0,lk] at h1
 ·simp [st0,lk] at h1
 ·intro k ver cs g h1;simp [st0,lk] at h1
 ·intro k k' ver ver' cs cs' g h1;simp [st0,lk] at h1
 ·intro k ver n h1;simp [st0,lk] at h1
 ·intro k k' ver ver' n n' g cap size cap' size' h1;simp [st0,lk] at h1
def orcC:Nat→List AV→Option AV:=fun c args=>if c=187 then (match args with | [.s s,.s [b]]=>some (.i .i64 (s.count b:Int)) | _=>none) else orcB c args
def orcR:Nat→List AV→Option AV:=fun c args=>if c=167 then (match args with | [.s s]=>if s.length≤1000000000 then some (.tup [.sl .ext ((rtR s).1.map Pan.row),.i .i64 (rtR s).2]) else none | _=>none) else orcC c args
theorem orcC_187 (s:Bytes) (b:UInt8):orcC 187 [.s s,.s [b]]=some (.i .i64 (s.count b:Int)):=rfl
theorem orcC_48 (s:List UInt8) (c:UInt8):orcC 48 [.s s,.i .u8 (c.toNat:Int)]=some (.i .i64 (Lib.indexByte s c)):=by
 unfold orcC
 rw [if_neg (by decide)]
 exact orcB_48 s c
theorem orcC_146 (k:Key) (v:Nat):orcC 146 [.p k v 0]=some (.p k v 0):=rfl
theorem orcC_105 (args:List AV):orcC 105 args=none:=by
 unfold orcC
 rw [if_neg (by decide)]
 exact orcB_105 args
theorem orcR_167 (s:Bytes) (h:s.length≤1000000000):orcR 167 [.s s]=some (.tup [.sl .ext ((rtR s).1.map Pan.row),.i .i64 (rtR s).2]):=by
 unfold orcR
 rw [if_pos rfl]
 simp only
 rw [if_pos h]
theorem orcR_48 (s:List UInt8) (c:UInt8):orcR 48 [.s s,.i .u8 (c.toNat:Int)]=some (.i .i64 (Lib.indexByte s c)):=by
 unfold orcR
 rw [if_neg (by decide)]
 exact orcC_48 s c
theorem orcR_146 (k:Key) (v:Nat):orcR 146 [.p k v 0]=some (.p k v 0):=rfl
theorem orcR_105 (args:List AV):orcR 105 args=none:=by
 unfold orcR
 rw [if_neg (by decide)]
 exact orcC_105 args
variable {P:Program} {X:Cx} {fn:Nat→Option AF} {orc:Nat→List AV→St→Option (AV × St)}
theorem orcC_ok (hB:OracOk P X ⟨fn,orcB,orc⟩) {f0:Nat} (hf :∀f,X.fm f=some 187→f=f0) (hen :∀args w,(callFunc f0 args).run P w=.ok (.enter f0 args) w)
  (hc :∀(s:ByteArray) (c:UInt8) (w:World),Calls P f0 #[.string s,.string ⟨#[c]⟩] w fun e w'=>e=.returned (.int .i64 (Lib.countByte s.data.toList c))∧w'=w):OracOk P X ⟨fn,orcC,orc⟩:=by
 intro f c hfc hn args r hr G w0 st w vals d hG hR hV
 simp only [orcC] at hr
 split at hr
 case isFalse=>exact hB f c hfc hn args r hr G w0 st w vals d hG hR hV
 rename_i h187
 subst h187
 obtain rfl:=hf f hfc
 split at hr
 case h_2=>cases hr
 rename_i s b
 cases hr
 have hlen:=hV.1
 match vals,hlen with
 | [u1,u2],_=>
  have e1:=(hV.2 0 _ u1 rfl rfl).str_inv
  have e2:=(hV.2 1 _ u2 rfl rfl).str_inv
  subst e1;subst e2
  refine .inl ⟨hen _ _,(hc ⟨s.toArray⟩ b w).mono fun e w' he=>?_⟩
  obtain ⟨rfl,rfl⟩:=he
  exact ⟨G,.fz _ _ (.i _ _),.refl hR⟩
theorem orcR_ok (hC0:OracOk P X ⟨fn,orcC,orc⟩) (hS:OracSOk P X ⟨fn,orcC,orc⟩) (hT:TTok P X.T) (hm:P.follows .mixedOrders=true) (hF:ProgOk P X fn) (H:HasR0 ⟨fn,orcC,orc⟩) (hf187:fn 187=none) (A:RtAt P X) (hR167 :∀f,X.fm f=some 167→f=A.fR) (hL :∃c,X.fm A.fL=some c) (hY:X.fm A.fY=some 195):OracOk P X ⟨fn,orcR,orc⟩:=by
 intro f c hfc hn args r hr G w0 st w vals d hG hR hV
 simp only [orcR] at hr
 split at hr
 case isFalse=>exact hC0 f c hfc hn args r hr G w0 st w vals d hG hR hV
 rename_i h167
 subst h167
 obtain rfl:=hR167 f hfc
 split at hr
 case h_2=>cases hr
 rename_i s
 split at hr
 case isFalse=>cases hr
 rename_i hs
 cases hr
 refine lift0 (X:=X) hR (callFunc_enter A.eR A.mR A.bR _) ?_
 refine rt_calls A (prog:=⟨fn,orcC,orc⟩) H hT hm (calls_ok hT hm hF hC0 hS) (fun s hs=>Pus.orac hf187 (orcC_187 s 10) rfl) hL hY hs hG.symm (rel0 hR) ⟨hV.1,fun j a u h1 h2=>?_⟩
 have:=hV.2 j a u h1 h2
 cases j with
 | zero=>
  simp at h1
  subst h1
  rw [this.str_inv]
  exact .fz _ _ (.s _)
 | succ j=>simp at h1
end Go.AM

namespace Go.AM
open Go
set_option maxRecDepth 4000
set_option maxHeartbeats 1000000
attribute [local irreducible] WO fillCells fillRows
def r175_0:List AI:=[oY 1 7 0,oC 2 (.b false)]
def r175_1:List AI:=[oK 10 7 1,oQ 11 154 [10],oM 9 11,oE 12 0 9,oE 13 1 9,oM 3 12,oM 4 13]
def r175_2:List AI:=[oO 15 (.build [z7,z8,z6,zs,zl,zb,z7] [(6,1,(.c (.i .u64 2)))]),oK 16 7 1,oO 17 (.bslice [z7,z8,z6,zs,zl,zb,z7] 2 [(0,(.t 15)),(1,(.t 16))]),oQ 18 164 [17],oM 14 18,oE 19 0 14,oE 20 1 14,oM 5 19,oM 6 20]
def r175_3:List AI:=[oK 22 7 1,oO 23 (.bslice [z7,z8,z6,zs,zl,zb,z7] 1 [(0,(.t 22))]),oQ 24 165 [23],oM 21 24,oE 25 0 21,oE 26 1 21,oM 7 25,oM 8 26]
def r175_4:List AI:=[oK 27 7 1,oQ 28 158 [27],oV 29 .eql 28 8,oM 30 29,gT 30 (oM 31 4),gT 30 (oV 32 .eql 31 8),oA 33 30 32,oM 34 33,gT 34 (oM 35 3),gT 34 (oB 36 .eql (.t 35) (.c (.s []))),oA 37 34 36,oM 38 37,gT 38 (oM 39 6),gT 38 (oV 40 .eql 39 8),oA 41 38 40,oM 42 41,gT 42 (oM 43 8),gT 42 (oV 44 .eql 43 8),oA 45 42 44,oM 2 45]
abbrev b175:AC:=(sR 0 r175_0 (sR 1 r175_1 (sR 2 r175_2 (sR 3 r175_3 (sR 4 r175_4 .ret)))))
def pf175:AF:={ nt:=46,res:=[.tmp 2],body:=b175 }
def T175_0 (prog:Prog)(K:Bool→Prop)(p0:Pan):Prop:=
  ∃c k,Pus prog 154 [p0.av] (.tup [.s c,.i .i64 k])∧∃p e,Pus prog 164 [.sl .ext (List.map Pan.row [(Pan.mk 0 (Val.mk 0 0 [] ([]:List Val) false) 2),p0])] (.tup [.s p,.i .i64 e])∧∃q o,Pus prog 165 [.sl .ext (List.map Pan.row [p0])] (.tup [.i .i64 q,.i .i64 o])∧∃j,Pus prog 158 [p0.av] (.i .i64 j)∧(j=8→(k=8→(c=([]:BS)→(e=8→K (decide (o=8)))∧(¬(e=8)→K false))∧(¬(c=([]:BS))→K false))∧(¬(k=8)→K false))∧(¬(j=8)→K false)
section
variable {prog:Prog}{d:Nat}{Q:AE→Sl→St→Prop}{K:Bool→Prop}(hQ:H1 AV.b 2 Q K){σ:Sl}{st:St}
include hQ
variable {p0:Pan}
variable (H0:σ 0=p0.av)
include H0 in
theorem w175_0 (h:T175_0 prog K p0):W prog d (sR 0 r175_0 (sR 1 r175_1 (sR 2 r175_2 (sR 3 r175_3 (sR 4 r175_4 .ret))))) σ st Q:=
 q_ J (s_box H0 J (m_ (e_ (q_ J (l_ J lk_here J J (x2 h fun _ _ o=>ca_ (sc1 J J) o.1 (m_ (x_ J J (x_ J J (m_ (m_ (e_ (q_ J (s_build (f_cons J J f_nil) (l_ J lk_here J J (s_bslM (f:=Pan.row) (l:=[(Pan.mk 0 (Val.mk 0 0 [] ([]:List Val) false) 2),p0]) J J (g_cons J J J (g_cons J J J g_nil)) (by simp only [List.map_cons,List.map_nil,Pan.row_eq];rfl) (x2 o.2 fun _ _ p=>ca_ (sc1 J J) p.1 (m_ (x_ J J (x_ J J (m_ (m_ (e_ (q_ J (l_ J lk_here J J (s_bslM (f:=Pan.row) (l:=[p0]) J J (g_cons J J J g_nil) (by simp only [List.map_cons,List.map_nil,Pan.row_eq];rfl) (x2 p.2 fun _ _ q=>ca_ (sc1 J J) q.1 (m_ (x_ J J (x_ J J (m_ (m_ (e_ (q_ J (l_ J lk_here J J (q.2.elim fun _ c=>ca_ (sc1 J J) c.1 (b_ J J eql_ (s_mvB J (em_ (g:=30) J (fun e=>gy_ J (s_mvI J (gy_ J (b_ J J eql_ (z_ 2 J (em_ (g:=34) J (fun i=>gy_ J (s_mvS J (gy_ J (b_ J J seq_ (z_ 2 J (em_ (g:=38) J (fun j=>gy_ J (s_mvI J (gy_ J (b_ J J eql_ (z_ 2 J (em_ (g:=42) J (fun k=>gy_ J (s_mvI J (gy_ J (b_ J J eql_ (z_ 2 J (er_ (hQ J ((((c.2.1 e).1 i).1 j).1 k)))))))) (fun k=>z_ 4 J (er_ (hQ J ((((c.2.1 e).1 i).1 j).2 k)))))))))) (fun j=>z_ 8 J (er_ (hQ J (((c.2.1 e).1 i).2 j)))))))))) (fun i=>z_ 12 J (er_ (hQ J ((c.2.1 e).2 i)))))))))) (fun e=>z_ 16 J (er_ (hQ J (c.2.2 e)))))))))))))))))))))))))))))))))))))))))))
end
theorem p175 {prog:Prog}(hf:prog.fn 175=some pf175){p0:Pan}{K:Bool→Prop}(h:T175_0 prog K p0) :∃res0:Bool,K res0∧Pus prog 175 [p0.av] (.b res0):=
 P1 hf J (w175_0 (h1 J fun _=>J) J h)
end Go.AM

namespace Go.AM
open Go Go.RowKit Go.BigFrame Go.ChangeMaps
section
variable {P:Program}
end
def OpsAre (ops:Array Oper) (l:List (Option Nat × Op)):Prop:=ops.toList.map (fun o=>(o.dst,o.op))=l∧∀o∈ops.toList,o.guard=none
theorem OpsAre.at {ops:Array Oper} {l:List (Option Nat × Op)} (h:OpsAre ops l) {i:Nat} {d:Option Nat} {p:Op} (hi:l[i]?=some (d,p)) :∃o,ops[i]?=some o∧o.dst=d∧o.op=p∧o.guard=none:=by
 rw [← h.1,List.getElem?_map,Option.map_eq_some_iff] at hi
 obtain ⟨o,h1,h2⟩:=hi
 injection h2 with h2 h3
 exact ⟨o,by simpa using h1,h2,h3,h.2 o (List.mem_of_getElem? h1)⟩
theorem OpsAre.size {ops:Array Oper} {l:List (Option Nat × Op)} (h:OpsAre ops l):ops.size=l.length:=by
 rw [← h.1];simp
def tv (a:Act) (t:Nat):Value:=a.tmps.getD t undef
theorem tv_put (a:Act) (d:Nat) (v:Value) (t:Nat) (h:d<a.tmps.size):tv (a.put (some d) v) t=if t=d then v else tv a t:=by
 unfold tv Act.put
 simp only [Array.getD_eq_getD_getElem?,Array.getElem?_setIfInBounds]
 by_cases e:t=d
 ·subst e;simp [h]
 ·rw [if_neg (fun e'=>e e'.symm),if_neg e]
section
variable {P:Program} {ops:Array Oper} {l:List (Option Nat × Op)} {Q:Exit→Act→World→Prop} {i:Nat} {rest:List Nat} {a:Act} {w w':World}
theorem st_val (h:OpsAre ops l) {d:Nat} {p:Op} (hi:l[i]?=some (some d,p)) {v:Value} (hr :∀o:Oper,o.op=p→(execOp a.eval o).run P w=.ok (.value v) w') (hk:wpOps P ops Q rest (a.put (some d) v) w'):wpOps P ops Q (i::rest) a w:=by
 obtain ⟨o,h1,h2,h3,h4⟩:=h.at hi
 rw [wpOps_cons]
 exact step_val (G:=⟨fun _ _=>none,fun _ _=>none,fun _ _=>none,fun _=>none,fun _=>none⟩) (nt:=0) h1 h4 (hr o h3) (by rw [h2];exact hk)
theorem st_unit (h:OpsAre ops l) {p:Op} (hi:l[i]?=some (none,p)) (hr :∀o:Oper,o.op=p→(execOp a.eval o).run P w=.ok .skip w') (hk:wpOps P ops Q rest a w'):wpOps P ops Q (i::rest) a w:=by
 obtain ⟨o,h1,h2,h3,h4⟩:=h.at hi
 rw [wpOps_cons]
 unfold wpOp
 rw [h1]
 simp only
 rw [if_pos (by simp [Region.wanted,h4])]
 refine .inl ?_
 unfold Oper.wp
 rw [hr o h3,Oper.upon_skip,h2]
 exact hk
end
section
variable {P:Program}
end
section
variable {P:Program} {X:Cx}
end
end Go.AM
