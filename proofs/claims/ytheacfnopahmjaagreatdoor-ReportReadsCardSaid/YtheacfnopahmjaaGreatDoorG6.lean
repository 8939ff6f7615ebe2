/- Parts of the proof: C30b, V38b, V38c, V39, V39b, C38, C38b, C38c, C38d, C38e, C38f, C38g, C39, C39b, C39c, V38f, C38h, C38i, C38j, C38k, C38l. -/
import Derived.Test.YtheacfnopahmjaaGreatDoorG2
import Derived.Test.YtheacfnopahmjaaGreatDoorG5
import Derived.Test.YtheacfnopahmjaaGreatDoorG1
import Derived.Test.YtheacfnopahmjaaGreatDoorG3
import Derived.Test.YtheacfnopahmjaaGreatDoorG4
set_option linter.all false
namespace Go.AM
open Go
def Zn(p s:Zc):Zc × Bool:=if s.take p.length=p then (s.drop p.length,true)else (s,false)
theorem DC(c:UInt8):∀(l:Zc) (i:Nat),(∀j,j<i->l[j]?≠some c)->(l[i]?=some c->Lib.indexByte l c=i)/\(l.length<=i->Lib.indexByte l c = -1)
 |[],i,_=>⟨fun h=>(by simp at h),fun _=>rfl⟩
 |x::l,i,h=>by
  unfold Lib.indexByte
  cases i with
  |zero=>
   refine⟨fun h1=>?_,fun h1=>absurd h1<|by simp⟩;simp at h1;rw[kC<|by simp[h1]];rfl
  |succ i=>
   have hx:x≠c:=by have:=h 0 (by omega);simpa using this
   have ih:=DC c l i fun j hj=>by have:=h (j+1) (by omega);simpa using this
   rw[kA<|by simpa using hx];refine⟨fun h1=>?_,fun h1=>?_⟩
   ·have h2:=ih.1 (by simpa using h1);rw[h2];rw[kA<|by simp];rfl
   ·have h2:=ih.2 (by simpa using h1);rw[h2];rfl
def Qv(s:Zc)(c:Int)(r:Zc)(ok:Bool):Prop:=match Bz s with|some (x,y)=>c=(x.toNat:Int)/\r=y/\ok=true|none=>ok=false
theorem Qv.yes{s:Zc}{x:UInt8}{y:Zc}{c:Int}(h:Bz s=some (x,y))(hc:c=(x.toNat:Int)):Qv s c y true:=by unfold Qv;rw[h];exact⟨hc,rfl,rfl⟩
theorem Qv.no{s:Zc}{c:Int}{y:Zc}(h:Bz s=none):Qv s c y false:=by unfold Qv;rw[h]
section
variable{PG:Zb}(H:Has03 PG)
include H
theorem c46(s p:Zc):Ze PG 46 [.s s,.s p] (.b<|decide<|s.take p.length=p):=by
 obtain ⟨x,rfl,h⟩:=p46 H.f46 (s0:=s) (am:=p) (K:=fun x=>x=decide (s.take p.length=p)) (by
  unfold DD;refine⟨fun h=>⟨by omega,by omega,rfl⟩,fun h=>?_⟩;refine(kI fun h1=>?_).symm;have:=jC List.length h1;simp only[kW]at this;omega)
 exact h
theorem c42(s p:Zc):Ze PG 42 [.s s,.s p] (.tup [.s (Zn p s).1,.b (Zn p s).2]):=by
 obtain ⟨x,y,⟨rfl,rfl⟩,h⟩:=p42 H.f42 (s0:=s) (am:=p) (K:=fun x y=>x=(Zn p s).1/\y=(Zn p s).2) (by
  unfold DE Zn;refine⟨_,c46 H s p,fun h=>?_,fun h=>?_⟩
  ·have h1:¬ s.take p.length=p:=by simpa using h
   rw[kA h1];exact⟨rfl,rfl⟩
  ·have h1:s.take p.length=p:=by simpa using h
   have h2:=jC List.length h1;simp only[kW]at h2;rw [kC h1];exact ⟨by omega,by omega,rfl,rfl⟩)
 exact h
theorem Au(s p:Zc):Ze PG 36 [.s s,.s p] (.tup [.s (Zn p s).1,.b (Zn p s).2]):=by
 obtain ⟨x,y,⟨rfl,rfl⟩,h⟩:=p36 H.f36 (s0:=s) (am:=p) (K:=fun x y=>x=(Zn p s).1/\y=(Zn p s).2) (by
  unfold DF;exact ⟨_,_,c42 H s p,rfl,rfl⟩)
 exact h
theorem c47(s:Zc)(c:UInt8):Ze PG 47 [.s s,.i .u8 (c.toNat:Int)] (.i .i64<|Lib.indexByte s c):=by
 obtain ⟨x,rfl,h⟩:=p47 H.f47 (s0:=s) (c1:=(c.toNat:Int)) (K:=fun x=>x=Lib.indexByte s c) (by
  unfold DG;exact ⟨_,Ze.orac H.f48 (H.o48 s c) rfl,rfl⟩)
 exact h
theorem c43(s:Zc)(c:UInt8):Ze PG 43 [.s s,.i .u8 (c.toNat:Int)] (.i .i64<|Lib.indexByte s c):=by
 obtain ⟨x,rfl,h⟩:=p43 H.f43 (s0:=s) (c1:=(c.toNat:Int)) (K:=fun x=>x=Lib.indexByte s c) (by
  unfold DH;exact ⟨_,c47 H s c,rfl⟩)
 exact h
theorem c44{b:Nat}(hb:b<=16)(c:UInt8):Ze PG 44 [.i .u8 (c.toNat:Int),.i .i64 (b:Int)] (.i .i64<|dv b c):=by
 obtain ⟨x,rfl,h⟩:=p44 H.f44 (c0:=(c.toNat:Int)) (ah:=(b:Int)) (K:=fun x=>x=dv b c) (by
  unfold DI;intro P hP
  have key :∀m i:Nat,i+m=b->(∀j,j<i->(Dq.take b)[j]?≠some c)->P (i:Int):=by
   intro m
   induction m with
   |zero=>
    intro i hi hj;apply hP;unfold rV DJ;refine⟨fun h=>absurd h<|by omega,fun _=>?_⟩;exact((DC c _ i hj).2 (by simp;omega)).symm
   |succ m ih=>
    intro i hi hj;apply hP;unfold rV;refine⟨fun _=>⟨by omega,Kn i,by rw[Kb,Co<|by omega],fun h=>?_,fun h=>?_⟩,fun h=>absurd h<|by omega⟩
    ·have hc:Kn i=c:=Uq (by omega);refine((DC c _ i hj).1 ?_).symm;rw[List.getElem?_take_of_lt<|by omega,Co<|by omega,hc]
    ·rw[Qu<|by omega];refine ih (i+1) (by omega) fun j fV=>?_
     rcases jF j i with h1|h1
     ·exact hj j h1
     ·have:j=i:=by omega
      subst this;rw[List.getElem?_take_of_lt<|by omega,Co<|by omega];intro h2;injection h2 with h2;exact h (by rw[h2])
  exact key b 0 (by omega) (by simp))
 exact h
theorem c37{b most:Nat}(hb:2<=b)(dC:b<=16)(hm:16<=most)(nH:most<18446744073709551616){s:Zc}(hs:s.length<=10000000):Ze PG 37 [.s s,.i .u64 (b:Int),.i .u64 (most:Int)] (.tup [.i .u64 ((rd b most s).1:Int),.i .i64 (rd b most s).2]):=by
 obtain ⟨x,y,⟨rfl,rfl⟩,h⟩:=p37 H.f37 (s0:=s) (ah:=(b:Int)) (bj:=(most:Int)) (K:=fun x y=>x=((rd b most s).1:Int)/\y=(rd b most s).2) (by
  unfold DK DL DM;intro P hP
  have key :∀m i:Nat,i+m=s.length->Dl b (s.take i)=true->(2<=i->s.head?≠some 48)->∀(n:Nat) (lP:Bool),(lP=false->n=Yv b (s.take i)/\n<=most)->(lP=true->most<Yv b (s.take i))->P (n:Int) lP (i:Int):=by
   intro m
   induction m with
   |zero=>
    intro i hi ho iK n lP h0 h1;simp only[zV]at hi;subst hi;rw[kQ]at ho h0 h1;apply hP;unfold rW DN;refine⟨fun h=>absurd h<|by omega,fun _=>⟨fun h=>?_,fun h=>?_⟩⟩
    ·subst h;exact⟨rfl,rfl⟩
    ·have cE:Dh b s=false:=by
      unfold Dh;rw[kI h,ho];simp only[Bool.false_or,Bool.not_true];by_cases h2:1<s.length
      ·rw[kI<|iK h2,Bool.and_false]
      ·rw[kI h2,xE]
     refine⟨fun hf=>?_,fun hf=>?_⟩
     ·unfold rd;rw[kA (by rw[cE];decide),kC<|h1 hf];exact⟨rfl,rfl⟩
     ·obtain⟨h2,h3⟩:=h0 hf;unfold rd;rw[kA (by rw[cE];decide),kA<|by omega,h2];exact⟨rfl,rfl⟩
   |succ m ih=>
    intro i hi ho iK n lP h0 h1;have bR:i<s.length:=by omega
    have hd:=Po dC s[i];have hv:=Im (b:=b) bR;have hk:=UQ (b:=b) bR
    have dN:Dh b s=true->(0:Int)=((rd b most s).1:Int)/\(12:Int)=(rd b most s).2:=by
     intro h;unfold rd;rw[kC h];exact⟨rfl,rfl⟩
    apply hP;unfold rW Su;refine⟨fun _=>⟨by omega,by rw[Kb];exact dC,by omega,s[i],by rw[Kb,kH bR],dv b s[i],c43 H _ _,fun h=>?_,fun h=>?_⟩,fun h=>absurd h<|by omega⟩
    ·refine dN ?_;unfold Dh;rw[UR bR h];simp
    ·have lQ:0<=dv b s[i]:=by omega
     rw[ho,kJ lQ,Bool.and_true]at hk;generalize hdd:(dv b s[i]).toNat=d at hv;have DO:dv b s[i]=(d:Int):=by omega
     have e1:IntKind.u64.wrap (dv b s[i])=(d:Int):=by rw[DO];exact Sf (by omega)
     have e2:IntKind.u64.wrap ((most:Int)-(d:Int))=((most-d:Nat):Int):=by rw[Mh (by omega)<|by omega];omega
     have e3:(((most-d:Nat):Int)).tdiv (b:Int)=(((most-d) / b:Nat):Int):=by rw[yN<|by omega];omega
     have hq:(most-d) / b<=most-d:=Nat.div_le_self _ _;have e4:IntKind.u64.wrap (((most-d) / b:Nat):Int)=(((most-d) / b:Nat):Int):=Sf (by omega);have dV:=US (n:=n) (show 0<b by omega) (show d<=most by omega);rw[Qu<|by omega];simp only[e1,e2,e3,e4]
     have go:(2<=i+1->s.head?≠some 48)->(lP=true->P (n:Int) true ((i+1:Nat):Int))/\(lP=false->(b:Int)≠0/\(¬((n:Int)>(((most-d) / b:Nat):Int))->P (IntKind.u64.wrap<|(IntKind.u64.wrap<|(n:Int)*(b:Int))+(d:Int)) (decide<|(n:Int)>(((most-d) / b:Nat):Int)) ((i+1:Nat):Int))/\(¬(¬((n:Int)>(((most-d) / b:Nat):Int)))->P (n:Int) (decide<|(n:Int)>(((most-d) / b:Nat):Int)) ((i+1:Nat):Int))):=by
      intro h2;refine⟨fun hf=>?_,fun hf=>⟨by omega,fun h3=>?_,fun h3=>?_⟩⟩
      ·refine ih (i+1) (by omega) hk h2 n true (fun h=>by cases h) fun _=>?_
       rw[hv];have h4:=h1 hf;have:Yv b (s.take i)<=Yv b (s.take i)*b:=Nat.le_mul_of_pos_right _ (by omega);omega
      ·obtain⟨h4,h5⟩:=h0 hf
       have h6:n*b+d<=most:=by
        have:¬ (most-d) / b<n:=by omega
        rw[dV]at this;omega
       have DP:(n:Int)*(b:Int)=((n*b:Nat):Int):=by rw[Int.natCast_mul]
       have e5:IntKind.u64.wrap ((n:Int)*(b:Int))=((n*b:Nat):Int):=by rw[DP];exact Sf (by omega)
       have e6:IntKind.u64.wrap (((n*b:Nat):Int)+(d:Int))=((n*b+d:Nat):Int):=by rw[Mh (by omega)<|by omega];omega
       rw[e5,e6,kI h3];refine ih (i+1) (by omega) hk h2 _ false (fun _=>⟨?_,h6⟩) fun h=>by cases h
       rw[hv,h4]
      ·have UT:(n:Int)>(((most-d) / b:Nat):Int):=by omega
       obtain⟨h4,h5⟩:=h0 hf;rw[kJ UT];refine ih (i+1) (by omega) hk h2 n true (fun h=>by cases h) fun _=>?_
       rw[hv,<- h4];exact dV.1 (Int.ofNat_lt.1 UT)
     have lQ:s.head?=s[0]?:=yY;refine⟨fun hi1=>?_,fun hi1=>?_⟩
     ·have lR:s[0]?=some s[0]:=kH (by omega);refine⟨s[0],lR,fun h2=>?_,fun h2=>?_⟩
      ·refine dN ?_;have h3:s[0]=48:=Uq (by have e:(48:UInt8).toNat=48:=rfl;omega);unfold Dh;rw[kJ<|show 1<s.length by omega,kJ<|show s.head?=some 48 by rw[lQ,lR,h3]];simp
      ·refine go fun _=>?_
       rw[lQ,lR];intro h3;injection h3 with h3;exact h2 (by rw[h3];rfl)
     ·refine go fun h2=>?_
      have h3:i≠1:=by omega
      have h4:i≠0:=by omega
      exact iK (by omega)
  exact key s.length 0 (by omega) rfl (by omega) 0 false (fun _=>⟨rfl,by omega⟩) fun h=>by cases h)
 exact h
theorem c38{b most:Nat}(hb:2<=b)(dC:b<=16)(hm:16<=most)(nH:most<18446744073709551616){s:Zc}(hs:s.length<=10000000):Ze PG 38 [.s s,.i .u64 (b:Int),.i .u64 (most:Int)] (.tup [.i .u64 ((rd b most s).1:Int),.i .i64 (rd b most s).2]):=by
 obtain ⟨x,y,⟨rfl,rfl⟩,h⟩:=p38 H.f38 (s0:=s) (ah:=(b:Int)) (bj:=(most:Int)) (K:=fun x y=>x=((rd b most s).1:Int)/\y=(rd b most s).2) (by
  have wb:IntKind.i64.wrap (b:Int)=(b:Int):=Yq (by omega) (by omega)
  have dN:Dh b s=true->(0:Int)=((rd b most s).1:Int)/\(12:Int)=(rd b most s).2:=by
   intro h;unfold rd;rw[kC h];exact⟨rfl,rfl⟩
  have lQ:s.head?=s[0]?:=yY
  have loop:s≠[]->(1<s.length->s.head?≠some 48)->∀P0:Int->Prop,(∀(i8:Int),Ae PG (fun x y=>x=((rd b most s).1:Int)/\y=(rd b most s).2) P0 s (b:Int) (most:Int) i8->P0 i8)->P0 0:=by
   intro aQ iK P hP
   have key :∀m i:Nat,i+m=s.length->Dl b (s.take i)=true->P (i:Int):=by
    intro m
    induction m with
    |zero=>
     intro i hi ho;simp only[zV]at hi;subst hi;rw[kQ]at ho
     have cE:Dh b s=false:=by
      unfold Dh;rw[kI aQ,ho];simp only[Bool.false_or,Bool.not_true];by_cases h2:1<s.length
      ·rw[kI<|iK h2,Bool.and_false]
      ·rw[kI h2,xE]
     apply hP;unfold Ae DQ;refine⟨fun h=>absurd h<|by omega,fun _ P1 cY=>?_⟩
     have bW :∀(j:Nat) (hj:j<s.length),0<=dv b s[j]:=by
      intro j hj;unfold Dl at ho;rw[jU]at ho;simpa using ho s[j] (kL hj)
     have DR :∀m i:Nat,i+m=s.length->Yv b (s.take i)<=most->P1 (Yv b (s.take i):Int) (i:Int):=by
      intro m
      induction m with
      |zero=>
       intro i hi hv;simp only[zV]at hi;subst hi;apply cY;unfold rX DS;refine⟨fun h=>absurd h<|by omega,fun _=>?_⟩;rw[kQ]at hv⊢;unfold rd;rw[kA (by rw[cE];decide),kA<|by omega];exact⟨rfl,rfl⟩
      |succ m ih=>
       intro i hi hv;have bR:i<s.length:=by omega
       have hd:=Po dC s[i];have me:=bW i bR;have rY:=Im (b:=b) bR;generalize hdd:(dv b s[i]).toNat=d at rY;have DO:dv b s[i]=(d:Int):=by omega
       have e1:IntKind.u64.wrap (dv b s[i])=(d:Int):=by rw[DO];exact Sf (by omega)
       have e2:IntKind.u64.wrap ((most:Int)-(d:Int))=((most-d:Nat):Int):=by rw[Mh (by omega)<|by omega];omega
       have e3:(((most-d:Nat):Int)).tdiv (b:Int)=(((most-d) / b:Nat):Int):=by rw[yN<|by omega];omega
       have hq:(most-d) / b<=most-d:=Nat.div_le_self _ _;have e4:IntKind.u64.wrap (((most-d) / b:Nat):Int)=(((most-d) / b:Nat):Int):=Sf (by omega);have dV:=US (n:=Yv b (s.take i)) (show 0<b by omega) (show d<=most by omega);apply cY;unfold rX;rw[wb,Qu<|by omega];refine⟨fun _=>⟨by omega,s[i],by rw[Kb,kH bR],dv b s[i],c44 H dC _,by omega,fun h=>?_,fun h=>?_⟩,fun h=>absurd h<|by omega⟩
       ·simp only[e1,e2,e3,e4]at h;have h1:=dV.1 (Int.ofNat_lt.1 h)
        have h2:most<Yv b s:=by
         have mono :∀k,i+1+k<=s.length->most<Yv b (s.take<|i+1+k):=by
          intro k
          induction k with
          |zero=>intro _;rw[zV,rY];exact h1
          |succ k ihk=>
           intro hk;have:=ihk (by omega);rw[show i+1+(k+1)=(i+1+k)+1 by omega,Im<|by omega];have h3:Yv b (s.take<|i+1+k)<=Yv b (s.take<|i+1+k)*b:=Nat.le_mul_of_pos_right _ (by omega);omega
         have:=mono (s.length-(i+1)) (by omega)
         rwa [show i+1+(s.length-(i+1))=s.length by omega,kQ]at this
        unfold rd;rw[kA (by rw[cE];decide),kC h2];exact⟨rfl,rfl⟩
       ·simp only[e1,e2,e3,e4]at h;have h1:¬ (most-d) / b<Yv b (s.take i):=fun h2=>h (Int.ofNat_lt.2 h2)
        rw[dV]at h1;generalize hnn:Yv b (s.take i)=n at *;have DP:(n:Int)*(b:Int)=((n*b:Nat):Int):=by rw[Int.natCast_mul]
        have e5:IntKind.u64.wrap ((n:Int)*(b:Int))=((n*b:Nat):Int):=by rw[DP];exact Sf (by omega)
        have e6:IntKind.u64.wrap (((n*b:Nat):Int)+(d:Int))=((n*b+d:Nat):Int):=by rw[Mh (by omega)<|by omega];omega
        rw[e1,e5,e6];have:=ih (i+1) (by omega) (by rw[rY];omega)
        rwa [rY]at this
     exact DR s.length 0 (by omega) (zO _)
    |succ m ih=>
     intro i hi ho;have bR:i<s.length:=by omega
     have hd:=Po dC s[i];have hk:=UQ (b:=b) bR;apply hP;unfold Ae;rw[wb,Qu<|by omega];refine⟨fun _=>⟨by omega,s[i],by rw[Kb,kH bR],dv b s[i],c44 H dC _,fun h=>?_,fun h=>?_⟩,fun h=>absurd h<|by omega⟩
     ·refine dN ?_;unfold Dh;rw[UR bR h];simp
     ·refine ih (i+1) (by omega) ?_;rw[hk,ho,kJ<|by omega,Bool.and_true]
   exact key s.length 0 (by omega) rfl
  unfold DT DU;refine⟨fun h=>dN ?_,fun h=>?_⟩
  ·have:s=[]:=yM.1 (by omega);subst this;rfl
  ·have aI:0<s.length:=by omega
   have aQ:s≠[]:=fun h=>by subst h;simp at aI
   have lR:s[0]?=some s[0]:=kH aI;refine⟨s[0],lR,fun h2=>⟨fun h3=>dN ?_,fun h3=>loop aQ fun h4=>absurd h4<|by omega⟩,fun h2=>loop aQ fun h4=>?_⟩
   ·have h4:s[0]=48:=Uq (by have e:(48:UInt8).toNat=48:=rfl;omega);unfold Dh;rw[kJ<|show 1<s.length by omega,kJ<|show s.head?=some 48 by rw[lQ,lR,h4]];simp
   ·rw[lQ,lR];intro h5;injection h5 with h5;exact h2 (by rw [h5];rfl))
 exact h
theorem c21(s:Zc):Ze PG 21 [.s s] (.tup [.i .i64 (Xd s).1,.i .i64 (Xd s).2]):=by
 obtain ⟨x,y,⟨rfl,rfl⟩,h⟩:=p21 H.f21 (s0:=s) (K:=fun x y=>x=(Xd s).1/\y=(Xd s).2) (by
  unfold DV nI;refine⟨fun h=>by unfold Xd;rw[kC<|by omega];exact⟨rfl,rfl⟩,fun hs=>⟨_,_,Au H s [45],?_⟩⟩;unfold Xd;rw[kA<|by omega];by_cases hm:s.take 1=[45]
  ·have ec:Zn [45] s=(s.drop 1,true):=by unfold Zn;rw[kC<|by exact hm];rfl
   rw[ec,kC hm];refine⟨fun h=>by simp at h,fun _=>?_⟩;have hl:=Aq 10 9223372036854775808 (s.drop 1);refine⟨_,_,c37 H (b:=10) (most:=9223372036854775808) (by omega) (by omega) (by omega) (by omega) (s:=s.drop 1) (by simp;omega),fun h=>⟨fun h0=>?_,fun h0=>?_⟩,fun h=>?_⟩
   ·have e:(rd 10 9223372036854775808<|s.drop 1).1=0:=by omega
    rw[kC ⟨h,e⟩,e];exact⟨rfl,rfl⟩
   ·rw[kA<|fun hh=>h0 (by rw[hh.2];rfl)];refine⟨?_,rfl⟩;rw[yO,xG];simp only;omega
   ·have e:=DW h;rw[kA<|fun hh=>h hh.1,e];exact⟨rfl,rfl⟩
  ·have ec:Zn [45] s=(s,false):=by unfold Zn;rw[kA<|by exact hm]
   rw[ec,kA hm];refine⟨fun _=>?_,fun h=>by simp at h⟩;have hl:=Aq 10 9223372036854775807 s;exact ⟨_,_,c37 H (b:=10) (most:=9223372036854775807) (by omega) (by omega) (by omega) (by omega) (s:=s)<|by omega,Yq (by omega)<|by omega,rfl⟩)
 exact h
theorem c22(s:Zc):Ze PG 22 [.s s] (.tup [.i .i64 (Xd s).1,.i .i64 (Xd s).2]):=by
 obtain ⟨x,y,⟨rfl,rfl⟩,h⟩:=p22 H.f22 (s0:=s) (K:=fun x y=>x=(Xd s).1/\y=(Xd s).2) (by
  have plain:¬ 2000<s.length->¬ s.take 1=[45]->∃nJ:Int,∃iL:Int,Ze PG 38 [.s s,.i .u64 10,.i .u64 9223372036854775807] (.tup [.i .u64 nJ,.i .i64 iL])/\(iL≠0->0=(Xd s).1/\iL=(Xd s).2)/\(¬(iL≠0)->IntKind.i64.wrap nJ=(Xd s).1/\0=(Xd s).2):=by
   intro hs hm;have hl:=Aq 10 9223372036854775807 s;refine⟨_,_,c38 H (b:=10) (most:=9223372036854775807) (by omega) (by omega) (by omega) (by omega) (s:=s)<|by omega,fun h=>?_,fun h=>?_⟩
   ·have e:=DW h;unfold Xd;rw[kA hs,kA hm,e];exact⟨rfl,rfl⟩
   ·have e:(rd 10 9223372036854775807 s).2=0:=by omega
    unfold Xd;rw[kA hs,kA hm,e];exact⟨Yq (by omega)<|by omega,rfl⟩
  unfold DX;refine⟨fun h=>by unfold Xd;rw[kC<|by omega];exact⟨rfl,rfl⟩,fun hs=>⟨fun aI=>?_,fun aI=>plain (by omega) fun h=>?_⟩⟩
  ·have h0:0<s.length:=by omega
   have ht:s.take 1=[s[0]]:=by
    match s,h0 with
    |c::r,_=>rfl
   refine⟨s[0],kH h0,fun hm=>?_,fun hm=>plain (by omega) fun h=>?_⟩
   ·have nH:s.take 1=[45]:=by rw[ht,Uq (show s[0].toNat=(45:UInt8).toNat by have e:(45:UInt8).toNat=45:=rfl;omega)]
    have hl:=Aq 10 9223372036854775808 (s.drop 1);refine⟨fun h=>?_,fun h=>⟨by omega,_,_,c38 H (b:=10) (most:=9223372036854775808) (by omega) (by omega) (by omega) (by omega) (s:=s.drop 1) (by simp;omega),fun h1=>?_,fun h1=>?_⟩⟩
    ·rw[h]
     decide
    ·have e:=DW h1;unfold Xd;rw[kA<|by omega,kC nH,kA<|fun hh=>h1 hh.1,e];exact⟨rfl,rfl⟩
    ·have e:(rd 10 9223372036854775808<|s.drop 1).2=0:=by omega
     have hn:(rd 10 9223372036854775808<|s.drop 1).1≠0:=by
      intro h2;have h3:=Xya (by omega) e h2;have h4:=zJ 1 s;rw[nH,h3]at h4;exact h h4.symm
     unfold Xd;rw[kA<|by omega,kC nH,kA<|fun hh=>hn hh.2,e];refine⟨?_,rfl⟩;simp only;rw[xG,xG,xG,yO];omega
   ·rw[ht]at h;injection h with h;exact hm (by rw[h];rfl)
  ·have:=jC List.length h;simp only[kW,kB,kD]at this;omega)
 exact h
theorem c45(s:Zc):∃c r ok,Qv s c r ok/\Ze PG 45 [.s s] (.tup [.i .u8 c,.s r,.b ok]):=by
 refine p45 H.f45 (s0:=s) (K:=Qv s) ?_;unfold DY DZ;refine⟨fun h=>by subst h;exact Qv.no rfl,fun h=>?_⟩
 cases s with
 |nil=>exact absurd rfl h
 |cons c r=>
  have lit :∀{n:Nat}(_:n<256),(UInt8.ofNat n).toNat=n:=by intro n hn;simp;omega
  unfold D0;refine⟨c,rfl,?_⟩
  have t4:nK PG (Qv<|c::r) (c::r) (c.toNat:Int) (decide<|c.toNat=34\/c.toNat=92):=by
   unfold nK;refine⟨fun h1=>⟨c,rfl,by simp,?_⟩,fun h1=>?_⟩
   ·have h1:=zR h1;exact Qv.yes (show(if c.toNat=34\/c.toNat=92 then some (c,r)else _)=some (c,r)from kC h1) rfl
   ·have h1:=zP h1
    have e0:Bz (c::r)=if c.toNat=110 then some (10,r)else if c.toNat=120 then Cf r else none:=by
     show(if c.toNat=34\/c.toNat=92 then some (c,r)else if c.toNat=110 then some (10,r)else if c.toNat=120 then Cf r else none)=_;rw[kA h1]
    refine⟨fun h2=>⟨by simp,?_⟩,fun h2=>⟨fun h3=>?_,fun h3=>?_⟩⟩
    ·exact Qv.yes (by rw[e0,kC<|by omega];rfl) rfl
    ·have e:Bz (c::r)=Cf r:=by rw[e0,kA<|by omega,kC<|by omega]
     refine⟨fun h4=>?_,fun h4=>?_⟩
     ·refine Qv.no ?_;rw[e]
      match r,h4 with
      |[],_=>rfl
      |[a],_=>rfl
      |a::b::r',h4=>simp at h4;omega
     ·match r,h4,e with
      |[],h4,_=>exact absurd (by simp) h4
      |[a],h4,_=>exact absurd (by simp) h4
      |a::b::r',_,e=>
       have la:=Po (b:=16) (by omega) a;have lb:=Po (b:=16) (by omega) b;have ca:Ze PG 43 [.s Dq,.i .u8 (a.toNat:Int)] (.i .i64<|dv 16 a):=c43 H Dq a;have cb:Ze PG 43 [.s Dq,.i .u8 (b.toNat:Int)] (.i .i64<|dv 16 b):=c43 H Dq b;refine⟨a,rfl,_,ca,b,rfl,_,cb,by simp,?_⟩;simp only[Cf]at e;by_cases hv:0<=dv 16 a/\0<=dv 16 b
       ·have hw:IntKind.u8.wrap (IntKind.i64.wrap<|(IntKind.i64.wrap<|16*dv 16 a)+dv 16 b)=16*dv 16 a+dv 16 b:=by
         rw[Yq (z:=16*dv 16 a) (by omega)<|by omega,Yq (by omega)<|by omega,Rp (by omega)<|by omega]
        have en:=lit (n:=(16*dv 16 a+dv 16 b).toNat) (by omega);rw[hw];refine⟨fun _=>⟨fun _=>⟨fun h5=>⟨fun h6=>?_,fun h6=>?_⟩,fun h5=>?_⟩,fun h5=>absurd hv.2 h5⟩,fun h5=>absurd hv.1 h5⟩
        ·rw[kC ⟨hv.1,hv.2,by omega,by omega⟩]at e;exact Qv.yes e (by rw[en];omega)
        ·by_cases h7:126<16*dv 16 a+dv 16 b
         ·rw[kC ⟨hv.1,hv.2,by omega,by omega⟩]at e;rw[kJ h7];exact Qv.yes e (by rw[en];omega)
         ·rw[kA<|by omega]at e;rw[kI h7];exact Qv.no e
        ·rw[kA<|by omega]at e;exact Qv.no e
       ·rw[kA<|by omega]at e;exact⟨fun h5=>⟨fun h6=>absurd ⟨h5,h6⟩ hv,fun _=>Qv.no e⟩,fun _=>Qv.no e⟩
    ·exact Qv.no (by rw[e0,kA<|by omega,kA<|by omega])
  unfold D1;refine⟨fun h1=>?_,fun h1=>?_⟩
  ·rw[show decide ((c.toNat:Int)=34)=decide (c.toNat=34\/c.toNat=92)from decide_eq_decide.2<|by omega];exact t4
  ·rw[show decide ((c.toNat:Int)=92)=decide (c.toNat=34\/c.toNat=92)from decide_eq_decide.2<|by omega];exact t4
theorem c39{s:Zc}(hs:s.length<=10000000):Ze PG 39 [.s s] (.tup [.s (Qi s).1,.s (Qi s).2.1,.b (Qi s).2.2]):=by
 obtain ⟨x,y,z,⟨rfl,rfl,rfl⟩,h⟩:=p39 H.f39 (s0:=s) (K:=fun x y z=>x=(Qi s).1/\y=(Qi s).2.1/\z=(Qi s).2.2) (by
  have no:Hy s=none->([]:Zc)=(Qi s).1/\([]:Zc)=(Qi s).2.1/\false=(Qi s).2.2:=by
   intro h;unfold Qi;rw[h];exact⟨rfl,rfl,rfl⟩
  unfold D2 D3;refine⟨_,_,Au H s [34],?_⟩
  cases s with
  |nil=>
   rw[show Zn [34] []=([],false)from rfl];exact⟨fun _=>no rfl,fun h=>by simp at h⟩
  |cons q s=>
   by_cases hq:q.toNat=34
   ·have hq':q=34:=Uq hq;subst hq';have ec:Zn [34] (34::s)=(s,true):=by unfold Zn;rw[kC<|show List.take ([34]:Zc).length (34::s)=[34]from rfl];rfl
    rw[ec];refine⟨fun h=>by simp at h,fun _ P hP=>?_⟩
    have hn:Hy (34::s)=Nt (s.length+1) [] s:=by
     simp only[Hy];rw[kC hq]
    have key :∀n b r,r.length<n->b.length+r.length<=10000000->Nt n b r=Hy (34::s)->P r b:=by
     intro n
     induction n with
     |zero=>intro b r h;exact absurd h (zZ _)
     |succ n ih=>
      intro b r hr hb hx;apply hP;unfold D4
      cases r with
      |nil=>exact⟨fun h=>absurd rfl h,fun _=>no (by rw[<- hx];rfl)⟩
      |cons c r=>
       simp only[Nt]at hx;refine⟨fun _=>⟨c,rfl,by simp,fun h1=>?_,fun h1=>⟨fun h2=>?_,fun h2=>⟨fun h3=>?_,fun h3=>⟨fun h4=>?_,fun h4=>?_⟩⟩⟩⟩,fun h=>absurd (by simp) h⟩
       ·rw[kC<|by omega]at hx;unfold Qi;rw[<- hx];exact⟨rfl,rfl,rfl⟩
       ·refine no ?_;rw[<- hx,kA<|by omega,show one (c::r)=none by simp only[one];rw[kC<|by omega]]
       ·refine no ?_;rw[<- hx,kA<|by omega,show one (c::r)=none by simp only[one];rw[kC<|by omega]]
       ·rw[kA<|by omega,show one (c::r)=Bz r by simp only[one];rw[kA<|by omega,kC<|by omega]]at hx;obtain⟨a,r',ok,hk,hp⟩:=c45 H r;refine⟨a,r',ok,hp,fun h5=>?_,fun h5=>?_⟩
        ·unfold Qv at hk
         cases he:Bz r with
         |none=>rw[he]at hx;exact no hx.symm
         |some p=>
          rw[he]at hk;obtain⟨_,_,hk⟩:=hk;rw[hk]at h5;exact absurd h5 (by decide)
        ·unfold Qv at hk
         cases he:Bz r with
         |none=>
          rw[he]at hk;simp only at hk;rw[hk]at h5;exact absurd h5 (by decide)
         |some p=>
          obtain⟨u,v⟩:=p;rw[he]at hk hx;obtain⟨h6,h7,h8⟩:=hk;simp only at hx h6 h7;subst h6;subst h7;have hl:r'.length<(c::r).length:=D5 (c:=u) (by simp only[one];rw[kA<|by omega,kC<|by omega];exact he);simp only[kB]at hl hb hr;unfold nL;refine⟨u,rfl,⟨?_,?_⟩,ih _ _ (by omega) ?_ hx⟩
          ·simp only[kB,kD,Xk];omega
          ·simp only[kB,kD,Xk];omega
          ·simp only[kF,kB,kD];omega
       ·rw[kA<|by omega,show one (c::r)=some (c,r)by simp only[one];rw[kA<|by omega,kA<|by omega]]at hx;simp only[kB]at hb hr;unfold nL;refine⟨c,rfl,⟨?_,?_⟩,ih _ _ (show r.length<n by omega) ?_ hx⟩
        ·simp only[kB,kD,Xk];omega
        ·simp only[kB,kD,Xk];omega
        ·simp only[yG,zU,kF,kB,kD];omega
    exact key (s.length+1) [] s (by omega) (by simp at hs⊢;omega) hn.symm
   ·have ec:Zn [34] (q::s)=(q::s,false):=by
     unfold Zn;rw[kA ?_];intro h;injection h with h;exact hq (by rw[h];rfl)
    rw[ec];refine⟨fun _=>no ?_,fun h=>by simp at h⟩;simp only[Hy];rw [kA hq])
 exact h
theorem c40{s:Zc}(hs:s.length<=10000000):Ze PG 40 [.s s] (.tup [.s (Qi s).1,.s (Qi s).2.1,.b (Qi s).2.2]):=by
 obtain ⟨x,y,z,⟨rfl,rfl,rfl⟩,h⟩:=p40 H.f40 (s0:=s) (K:=fun x y z=>x=(Qi s).1/\y=(Qi s).2.1/\z=(Qi s).2.2) (by
  have no:Hy s=none->([]:Zc)=(Qi s).1/\([]:Zc)=(Qi s).2.1/\false=(Qi s).2.2:=by
   intro h;unfold Qi;rw[h];exact⟨rfl,rfl,rfl⟩
  unfold D6 D7
  cases s with
  |nil=>exact⟨fun _=>no rfl,fun h=>absurd rfl h⟩
  |cons q s=>
   refine⟨fun h=>absurd h (by simp;omega),fun _=>⟨q,rfl,fun hq=>no ?_,fun hq=>?_⟩⟩
   ·simp only[Hy];rw[kA<|by omega]
   ·have hn:Hy (q::s)=Nt (s.length+1) [] s:=by
     simp only[Hy];rw[kC<|by omega]
    unfold D8 D9 D_;refine⟨by simp,fun P hP=>?_⟩
    have key :∀n b r,r.length<n->b.length+r.length<=10000000->Nt n b r=Hy (q::s)->P r b:=by
     intro n
     induction n with
     |zero=>intro b r h;exact absurd h (zZ _)
     |succ n ih=>
      intro b r hr hb hx;apply hP;unfold EA
      cases r with
      |nil=>
       refine⟨fun h=>absurd h<|by simp,fun _=>?_⟩;unfold nM;exact⟨fun _=>no (by rw[<- hx];rfl),fun h=>absurd rfl h⟩
      |cons c r=>
       simp only[Nt]at hx;refine⟨fun _=>⟨c,rfl,fun h1=>?_,fun h1=>?_⟩,fun h=>absurd (show((c::r).length:Int)>0 by simp) h⟩
       ·rw[kA<|by omega]at hx;intro P1 cY;have nN :∀a:UInt8,(c::r).take (Ws a).length=Ws a↔one (c::r)=some (a,(c::r).drop (Ws a).length):=fun a=>Xzf
        have lit :∀{i:Nat}(_:i<256),IntKind.u8.wrap (i:Int)=((UInt8.ofNat i).toNat:Int):=by
         intro i hi;rw[Rp (by omega)<|by omega];simp;omega
        -- a step that finds nothing
        have skip :∀i:Nat,i<256->one (c::r)≠some (UInt8.ofNat i,(c::r).drop (Ws<|UInt8.ofNat i).length)->P1 (c::r) b false ((i+1:Nat):Int)->P1 (c::r) b false (i:Int):=by
         intro i hi aQ fA;apply cY;unfold Fj Av;rw[lit hi,Qu<|by omega];refine⟨fun _=>⟨fun _=>⟨_,c41 H _,fun h2=>⟨by omega,by omega,fun h3=>?_,fun h3=>fA⟩,fun h2=>fA⟩,fun h=>by simp at h⟩,fun h=>absurd (show(i:Int)<256 by omega) h⟩;exact absurd ((nN _).1 h3) aQ
        cases ho:one (c::r)with
        |none=>
         rw[ho]at hx;refine UU (P:=fun i=>P1 (c::r) b false i) 256 ?_ fun i hi fA=>skip i hi (by rw[ho];intro h;cases h) fA
         apply cY;unfold Fj nO;exact⟨fun h=>absurd h<|by decide,fun _=>⟨fun _=>no hx.symm,fun h=>by simp at h⟩⟩
        |some p=>
         obtain⟨a,r'⟩:=p;rw[ho]at hx;simp only at hx;have hl:=D5 ho;simp only[kB]at hl hb hr;have ha:=a.toNat_lt;have j7:P r' (b++[a]):=ih _ _ (by omega) (by simp only[kF,kB,kD];omega) hx;have hinv:=rZ ho;have iD:(c::r).drop (Ws a).length=r':=by rw[hinv];simp
         have lS :∀i:Int,P1 r' (b++[a]) true i:=by
          intro i;apply cY;unfold Fj nO;exact⟨fun _=>⟨fun h=>by simp at h,fun _=>⟨fun h=>by simp at h,fun _=>j7⟩⟩,fun _=>⟨fun h=>by simp at h,fun _=>j7⟩⟩
         have fD:P1 (c::r) b false (a.toNat:Int):=by
          apply cY;unfold Fj Av;have e1:IntKind.u8.wrap (a.toNat:Int)=(a.toNat:Int):=Rp (by omega) (by omega);have hlen:=jC List.length hinv;simp only[kF,kB]at hlen;rw[e1];refine⟨fun _=>⟨fun _=>⟨_,c41 H a,fun h2=>⟨by omega,by rw[Kb,kB];omega,fun h3=>⟨a,rfl,?_,by omega,by rw[Kb,kB];omega,?_⟩,fun h3=>?_⟩,fun h2=>?_⟩,fun h=>by simp at h⟩,fun h=>absurd (show(a.toNat:Int)<256 by omega) h⟩
          ·simp only[kB,kD,Wj];omega
          ·rw[Kb,iD];exact lS _
          ·exact absurd ((nN a).2<|by rw[ho,iD]) h3
          ·simp only[kB]at h2;omega
         have below :∀m i:Nat,i+m=a.toNat->P1 (c::r) b false (i:Int):=by
          intro m
          induction m with
          |zero=>intro i hi;simp only[zV]at hi;rw[hi];exact fD
          |succ m ihm=>
           intro i hi;refine skip i (by omega) ?_ (ihm (i+1)<|by omega);rw[ho];intro h;injection h with h;injection h with h;have:=jC UInt8.toNat h;simp at this;omega
         exact below a.toNat 0 (by omega)
       ·unfold nM;rw[kC<|by omega]at hx;refine⟨fun h=>absurd h (by simp;omega),fun _=>⟨by simp,?_⟩⟩;unfold Qi;rw[<- hx];exact⟨rfl,rfl,rfl⟩
    exact key (s.length+1) [] s (by omega) (by simp at hs ⊢;omega) hn.symm)
 exact h
theorem c25(s:Zc):Ze PG 25 [.s s] (.tup [.s (Da s).1,.i .i64 (Da s).2]):=by
 obtain ⟨x,y,⟨rfl,rfl⟩,h⟩:=p25 H.f25 (s0:=s) (K:=fun x y=>x=(Da s).1/\y=(Da s).2) (by
  unfold EB Da;refine⟨fun h=>by rw[kC<|by omega];exact⟨rfl,rfl⟩,fun hs=>⟨_,_,_,c39 H<|by omega,?_⟩⟩;rw[kA<|by omega];unfold Qi
  cases Hy s with
  |none=>exact⟨fun _=>⟨rfl,rfl⟩,fun h=>by simp at h⟩
  |some p=>
   obtain⟨x,r⟩:=p;refine⟨fun h=>by simp at h,fun _=>⟨fun h=>?_,fun h=>?_⟩⟩
   ·cases r with
    |nil=>exact absurd rfl h
    |cons c r=>exact⟨rfl,rfl⟩
   ·have h:r=[]:=Classical.not_not.1 h;subst h;refine⟨fun h=>?_,fun h=>?_⟩
    ·simp only at h⊢;rw[kC<|by omega];exact⟨rfl,rfl⟩
    ·simp only at h⊢;rw [kA<|by omega];exact ⟨rfl,rfl⟩)
 exact h
theorem c26(s:Zc):Ze PG 26 [.s s] (.tup [.s (Da s).1,.i .i64 (Da s).2]):=by
 obtain ⟨x,y,⟨rfl,rfl⟩,h⟩:=p26 H.f26 (s0:=s) (K:=fun x y=>x=(Da s).1/\y=(Da s).2) (by
  unfold EC Da;refine⟨fun h=>by rw[kC<|by omega];exact⟨rfl,rfl⟩,fun hs=>⟨_,_,_,c40 H<|by omega,?_⟩⟩;rw[kA<|by omega];unfold Qi
  cases Hy s with
  |none=>exact⟨fun _=>⟨rfl,rfl⟩,fun h=>by simp at h⟩
  |some p=>
   obtain⟨x,r⟩:=p;refine⟨fun h=>by simp at h,fun _=>⟨fun h=>?_,fun h=>?_⟩⟩
   ·cases r with
    |nil=>exact absurd rfl h
    |cons c r=>exact⟨rfl,rfl⟩
   ·have h:r=[]:=Classical.not_not.1 h;subst h;refine⟨fun h=>?_,fun h=>?_⟩
    ·simp only at h⊢;rw[kC<|by omega];exact⟨rfl,rfl⟩
    ·simp only at h⊢;rw [kA<|by omega];exact ⟨rfl,rfl⟩)
 exact h
theorem c29{a b:List Zc}(ha:a.length<=1000000000):Ze PG 29 [.sl .ext<|a.map Zv,.sl .ext<|b.map Zv] (.b<|decide<|a=b):=by
 obtain ⟨x,rfl,h⟩:=p29 H.f29 (a0:=a) (b1:=b) (K:=fun x=>x=decide (a=b)) (by
  unfold ED;refine⟨fun h=>(kI fun e=>h<|by rw[e]).symm,fun hl P hP=>?_⟩;have hlen:a.length=b.length:=by omega
  have key :∀m i:Nat,i+m=a.length->(∀j,j<i->a[j]?=b[j]?)->P (i:Int):=by
   intro m
   induction m with
   |zero=>
    intro i hi hj;apply hP;unfold r3 EE;refine⟨fun h=>absurd h<|by omega,fun _=>(kJ ?_).symm⟩;apply List.ext_getElem?;intro j;rcases jF j i with h|h
    ·exact hj j h
    ·rw[kT<|by omega,kT<|by omega]
   |succ m ih=>
    intro i hi hj;have h1:i<a.length:=by omega
    have h2:i<b.length:=by omega
    apply hP;unfold r3;refine⟨fun _=>⟨by omega,a[i],by rw[Kb,kH h1],by omega,b[i],by rw[Kb,kH h2],fun h=>?_,fun h=>?_⟩,fun h=>absurd h<|by omega⟩
    ·refine(kI fun e=>h ?_).symm;subst e;rfl
    ·rw[Qu<|by omega];refine ih (i+1) (by omega) fun j fV=>?_
     rcases jF j i with h3|h3
     ·exact hj j h3
     ·have:j=i:=by omega
      subst this;rw[kH h1,kH h2,Classical.not_not.1 h]
  exact key a.length 0 (by omega) (by simp))
 exact h
end
end Go.AM

namespace Go.AM
open Go
def Gk(c:UInt8):Bool:=decide (48<=c.toNat)&&decide (c.toNat<=57)
def Uo:Zc->Nat
 |[]=>0
 |c::s=>if Gk c=true then 1+Uo s else 0
def Wq(s:Zc):Nat:=if s.head?=some 45 then 1+Uo (s.drop 1)else Uo s
theorem RG:∀s:Zc,Uo s<=s.length
 |[]=>kU _
 |c::s=>by
  have:=RG s;rw[Uo,kB];split<;>omega
theorem sA(s:Zc):Wq s<=s.length:=by
 unfold Wq
 cases s with
 |nil=>simp[Uo]
 |cons c s=>
  have h1:=RG s;have h2:=RG (c::s);split
  ·simp only[yG,zU,kB];omega
  ·exact h2
def qs:Zc->Option Nat
 |[]=>none
 |c::r=>if c=92 then (match r with|[]=>none|_::r'=>(qs r').map (·+2))else if c=34 then some 1 else (qs r).map (·+1)
theorem GF:∀(n:Nat) (s:Zc) (k:Nat),s.length<=n->qs s=some k->1<=k/\k<=s.length
 |n,[],k,_,h=>by rw[qs]at h;cases h
 |n+1,c::r,k,hn,h=>by
  rw[qs.eq_def]at h;simp only at h;simp only[kB]at hn⊢;split at h
  ·cases r with
   |nil=>cases h
   |cons c' r'=>
    simp only[kN]at h;obtain⟨m,h1,rfl⟩:=h;simp only[kB]at hn⊢;have:=GF n r' m (by omega) h1;omega
  ·split at h
   ·cases h;omega
   ·simp only[kN]at h;obtain⟨m,h1,rfl⟩:=h;have:=GF n r m (by omega) h1;omega
def Qq(s:Zc):Int × Bool × Zc:=((Xd<|s.take<|Wq s).1,decide<|(Xd<|s.take<|Wq s).2=0,s.drop<|Wq s)
def Hg(s:Zc):Zc × Bool × Zc:=match qs (s.drop 1)with
 |none=>([],false,s)
 |some k=>((Da<|s.take<|k+1).1,decide<|(Da<|s.take<|k+1).2=0,s.drop<|k+1)
def Uw(f:Zc->Za × Bool × Zc)(kind:Int)(stop:Zc):Nat->List Za->Zc->Za × Bool × Zc
 |0,acc,s=>(Za.mk kind 0 [] acc false,false,s)
 |k+1,acc,s=>if (f s).2.1=false then (Za.mk kind 0 [] acc false,false,(f s).2.2)else
   if (Zn stop (f s).2.2).2=true then (Za.mk kind 0 [] (acc++[(f s).1]) false,true,(Zn stop (f s).2.2).1)else
   if (Zn [44,32] (Zn stop (f s).2.2).1).2=false then (Za.mk kind 0 [] (acc++[(f s).1]) false,false,(Zn [44,32] (Zn stop (f s).2.2).1).1)else
   Uw f kind stop k (acc++[(f s).1]) (Zn [44,32] (Zn stop (f s).2.2).1).1
def Qg(f:Zc->Za × Bool × Zc)(kind:Int)(stop s:Zc):Za × Bool × Zc:=
 if (Zn stop s).2=true then (Za.mk kind 0 [] [] false,true,(Zn stop s).1)else Uw f kind stop 17 [] (Zn stop s).1
def Jn:Nat->Zc->Za × Bool × Zc
 |0,s=>(vz,false,s)
 |d+1,s=>if s=[]then (vz,false,s)else
   if (Zn Ug s).2=true then (Za.mk 1 1 [] [] false,true,(Zn Ug s).1)else
   if (Zn Qm s).2=true then (Za.mk 1 0 [] [] false,true,(Zn Qm s).1)else
   if (Zn Ub s).2=true then (Za.mk 4 0 [] [] false,true,(Zn Ub s).1)else
   if (Zn Um s).2=true then (Za.mk 4 0 [] [] true,true,(Zn Um s).1)else
   if (Zn Ur s).2=true then (Za.mk 7 0 [] [] true,true,(Zn Ur s).1)else
   if (Zn [38] s).2=true then (Za.mk 4 0 [] [(Jn d (Zn [38] s).1).1] false,(Jn d (Zn [38] s).1).2)else
   if (Zn [123] s).2=true then Qg (Jn d) 5 [125] (Zn [123] s).1 else
   if (Zn [91] s).2=true then Qg (Jn d) 6 [93] (Zn [91] s).1 else
   if (Zn [60] s).2=true then Qg (Jn d) 7 [62] (Zn [60] s).1 else
   if s.head?=some 34 then (Za.mk 3 0 (Hg s).1 [] false,(Hg s).2)else
   (Za.mk 2 (Qq s).1 [] [] false,(Qq s).2)
theorem Ni{p s:Zc}(h:(Zn p s).2=false):(Zn p s).1=s:=by
 unfold Zn at h⊢;split
 ·rename_i h1;rw[kC h1]at h;cases h
 ·rfl
theorem Js(p s:Zc):Zn p (p++s)=(s,true):=by unfold Zn;rw[kC<|by simp,yP]
theorem Pn{c d:UInt8}{p s:Zc}(h:c≠d):Zn (c::p) (d::s)=(d::s,false):=by unfold Zn;rw[kA];simp only[kB,yU,List.cons.injEq];rintro⟨rfl,_⟩;exact h rfl
theorem zq(c:UInt8)(p s:Zc):Zn (c::p) (c::s)=if (Zn p s).2=true then ((Zn p s).1,true)else (c::s,false):=by unfold Zn;simp only[kB,yU,List.cons.injEq,true_and,yG];split<;>simp_all
theorem sD{c:UInt8}{p:Zc}:Zn (c::p) []=([],false):=by unfold Zn;rw[kA<|by simp]
theorem OM(s:Zc):-9223372036854775808<=(Xd s).1/\(Xd s).1<9223372036854775808:=by
 have h1:=Aq 10 9223372036854775808 (s.drop 1);have h2:=Aq 10 9223372036854775807 s;unfold Xd;split
 ·exact⟨by decide,by decide⟩
 split
 ·split
  ·exact⟨by decide,by decide⟩
  ·dsimp only;omega
 ·dsimp only;omega
theorem Wf.ite{c:Prop}[Decidable c]{a b:Za × Bool × Zc}(ha:Wf a.1)(hb:Wf b.1):Wf (if c then a else b).1:=by
 split
 ·exact ha
 ·exact hb
theorem Ygg{f:Zc->Za × Bool × Zc}{kind:Int}{stop:Zc}(hk:0<=kind/\kind<256)(hf :∀s,Wf (f s).1):∀(n:Nat) (acc:List Za) (s:Zc),n<=17->acc.length+n=17->(∀x∈acc,Wf x)->Wf (Uw f kind stop n acc s).1
 |0,acc,s,_,hl,h=>by
  rw[Uw];exact .mk hk (by decide) (by omega) h
 |n+1,acc,s,hn,hl,h=>by
  have h1 :∀x∈acc++[(f s).1],Wf x:=by
   intro x hx;rcases kZ.1 hx with hx|hx
   ·exact h x hx
   ·rw[jO.1 hx];exact hf s
  rw[Uw];split
  ·exact .mk hk (by decide) (by omega) h
  ·split
   ·exact .mk hk (by decide) (by simp;omega) h1
   ·split
    ·exact .mk hk (by decide) (by simp;omega) h1
    ·exact Ygg hk hf n _ _ (by omega) (by simp;omega) h1
theorem RH{f:Zc->Za × Bool × Zc}{kind:Int}{stop s:Zc}(hk:0<=kind/\kind<256)(hf :∀s,Wf (f s).1):Wf (Qg f kind stop s).1:=by
 unfold Qg;split
 ·exact .mk hk (by decide) (by decide) (by simp)
 ·exact Ygg hk hf 17 [] _ (by omega) rfl (by simp)
theorem Rq:∀(d:Nat) (s:Zc),Wf (Jn d s).1
 |0,s=>Wf.zero
 |d+1,s=>by
  have w0 :∀(k n:Int) (c:Bool),0<=k/\k<256->-9223372036854775808<=n/\n<9223372036854775808->Wf (Za.mk k n [] [] c):=fun k n c h1 h2=>.mk h1 h2 (by decide) (by simp)
  rw[Jn]
  exact .ite Wf.zero (.ite (w0 _ _ _ (by decide) (by decide)) (.ite (w0 _ _ _ (by decide) (by decide)) (.ite (w0 _ _ _ (by decide) (by decide)) (.ite (w0 _ _ _ (by decide) (by decide)) (.ite (w0 _ _ _ (by decide) (by decide))
   (.ite (.mk (by decide) (by decide) (by simp) (fun x hx=>by rw [jO.1 hx];exact Rq d _)) (.ite (RH (by decide) (Rq d)) (.ite (RH (by decide) (Rq d)) (.ite (RH (by decide) (Rq d))
   (.ite (.mk (by decide) (by decide) (by simp)<|by simp)<|.mk (by decide) (OM _) (by simp)<|by simp))))))))))
def Stop(r:Zc):Prop:=∀c,r.head?=some c->c=44\/c=125\/c=93\/c=62
theorem Stop.notD{r:Zc}(h:Stop r):Uo r=0:=by
 cases r with
 |nil=>rfl
 |cons c r=>
  rw[Uo,kA];rcases h c rfl with rfl|rfl|rfl|rfl<;>decide
theorem RI:∀(s r:Zc),(∀c∈s,Gk c=true)->Uo r=0->Uo (s++r)=s.length
 |[],r,_,h=>h
 |c::s,r,hs,h=>by
  rw[kY,Uo,kC<|hs c jI,RI s r (fun c hc=>hs c<|jJ _ hc) h,kB];omega
theorem Ybx:∀n:Fin 10,Gk (Kn n.val)=true:=by decide
theorem Pz:∀(f n:Nat),∀c∈ds 10 f n,Gk c=true
 |0,n,c,h=>by simp[ds]at h
 |f+1,n,c,h=>by
  rw[ds]at h;split at h
  ·rename_i hn;rw[jO.1 h];exact Ybx ⟨n,hn⟩
  ·rcases kZ.1 h with h|h
   ·exact Pz f _ c h
   ·rw[jO.1 h];exact Ybx ⟨n % 10,Nat.mod_lt _<|by decide⟩
theorem Xq3{c:UInt8}{l:BS}(h:Gk c=true)(hl:(l.all fun x=>!Gk x)=true):c ∉ l:=by intro hc;have:=jU.1 hl c hc;rw[h]at this;cases this
theorem RJ(n:Int):∃c r,Yn n=c::r/\(c=45\/Gk c=true):=by
 have hd :∀n,∃c r,Jj 10 n=c::r/\Gk c=true:=by
  intro n;have h1:=RF 10 n;have h2:=Pz 64 n;unfold Jj at *
  cases h:ds 10 64 n with
  |nil=>exact absurd h h1
  |cons c r=>exact⟨c,r,rfl,h2 c (by rw[h];exact jI)⟩
 unfold Yn;split
 ·exact⟨45,_,rfl,.inl rfl⟩
 ·obtain⟨c,r,h1,h2⟩:=hd n.toNat;exact⟨c,r,h1,.inr h2⟩
theorem Wam{n:Int}{r:Zc}(hr:Uo r=0):Wq (Yn n++r)=(Yn n).length:=by
 unfold Yn Wq;split
 ·rw[kY,yZ,kC rfl,yG,zU,kB,Nat.add_comm]
  congr 1
  exact RI _ r (Pz 64 _) hr
 ·obtain⟨c,t,h1,h2⟩:=RJ n;rw[Yn,kA<|by assumption]at h1;rw[kA]
  ·exact RI _ r (Pz 64 _) hr
  rw[h1,kY,yZ];intro e;injection e with e;subst e;rcases h2 with h2|h2
  ·have:=Pz 64 n.toNat 45 (by show(45:UInt8)∈Jj 10 n.toNat;rw[h1];exact jI);exact absurd this (by decide)
  ·exact absurd h2 (by decide)
theorem Yc4{n:Int}{r:Zc}(h1:-9223372036854775808<=n)(h2:n<9223372036854775808)(hr:Uo r=0):Qq (Yn n++r)=(n,true,r):=by unfold Qq;rw[Wam hr,List.take_left,yP,Tz h1 h2];rfl
theorem Ycs:∀(s r:Zc),qs (Kd s++34::r)=some ((Kd s).length+1)
 |[],r=>by
  show qs (34::r)=some 1;rw[qs.eq_def];simp
 |c::s,r=>by
  have ih:=Ycs s r;have e:Kd (c::s)=Ws c++Kd s:=rfl;have hx :∀k:Fin 16,Kn k.val≠92/\Kn k.val≠34:=by decide
  rw[e,jD];unfold Ws;split
  ·rw[kY,kY,jV,qs.eq_def];simp only[jS,ih,kK,kF,kB,kD]
   congr 1
   omega
  ·rename_i h1;split
   ·rw[kY,kY,jV,qs.eq_def];simp only[jS,ih,kK,kF,kB,kD]
    congr 1
    omega
   ·split
    ·have hc:=c.toNat_lt;obtain⟨a1,a2⟩:=hx ⟨c.toNat / 16,by omega⟩;obtain⟨b1,b2⟩:=hx ⟨c.toNat % 16,by omega⟩;simp only at a1 a2 b1 b2;rw[kY,kY,kY,kY,jV,qs.eq_def];simp only[jS];rw[qs.eq_def];simp only[kA a1,kA a2];rw[qs.eq_def];simp only[kA b1,kA b2,ih,kK,kF,kB,kD]
     congr 1
     omega
    ·have c1:c≠92:=by rintro rfl;exact h1 (.inr rfl)
     have c2:c≠34:=by rintro rfl;exact h1 (.inl rfl)
     rw[kY,jV,qs.eq_def];simp only[kA c1,kA c2,ih,kK,kF,kB,kD]
     congr 1
     omega
theorem Xyv{s r:Zc}(h:s.length<=400):Hg (quo s++r)=(s,true,r):=by
 have e:quo s++r=34::(Kd s++34::r):=by simp[quo]
 have e2:(quo s).length=(Kd s).length+1+1:=by simp[quo]
 unfold Hg;rw[show(quo s++r).drop 1=Kd s++34::r by rw[e];rfl,Ycs];simp only;rw[<- e2,List.take_left,yP,Xn4 h];rfl
end Go.AM

namespace Go.AM
open Go
theorem W3(v:Za):∃c t,Ys v=c::t/\(c∈([116,102,110,38,60,123,91,34,45]:Zc)\/Gk c=true):=by
  rw[Sw];have h1:=RJ v.int
  repeat' split
  all_goals first
    | (obtain ⟨c,t,h2,h3⟩:=h1
       refine⟨c,t,h2,?_⟩;rcases h3 with rfl|h3
       . exact .inl (by decide)
       . exact .inr h3)
    |exact⟨_,_,rfl,.inl<|by decide⟩
theorem RL{v:Za}{e:UInt8}(he:(e=46\/e=125\/e=93\/e=62\/e=44))(p r:Zc):(Zn (e::p)<|Ys v++r)=(Ys v++r,false):=by
  obtain⟨c,t,h1,h2⟩:=W3 v;rw[h1,kY];refine Pn ?_;rintro rfl;rcases h2 with h2|h2
  . rcases he with rfl|rfl|rfl|rfl|rfl<;>exact absurd h2 (by decide)
  . rcases he with rfl|rfl|rfl|rfl|rfl<;>exact absurd h2 (by decide)
section
variable{f:Zc->Za × Bool × Zc}{kind:Int}{e:UInt8}
theorem Yhq(he:e=125\/e=93\/e=62):∀(l:List Za) (x:Za) (acc:List Za) (n:Nat) (r:Zc),(∀y∈x::l,∀r,Stop r->f (Ys y++r)=(y,true,r))->l.length<n->Uw f kind [e] n acc (Yz (x::l)++e::r)=(Za.mk kind 0 [] (acc++x::l) false,true,r)
  |l,x,acc,0,r,hf,hn=>absurd hn (zZ _)
  |[],x,acc,n+1,r,hf,hn=>by
    have hs:Stop (e::r):=by intro c hc;injection hc with hc;subst hc;rcases he with h|h|h<;>simp[h]
    have h1:=hf x jI (e::r) hs;have h2:Zn [e] (e::r)=(r,true):=Js [e] r;rw[nW,Uw];simp only[h1,h2,zB,jT,jS]
  |y::l,x,acc,n+1,r,hf,hn=>by
    have e1:Yz (x::y::l)++e::r=Ys x++(44::32::(Yz (y::l)++e::r)):=by simp[Yz,Ua]
    have hs:Stop (44::32::(Yz (y::l)++e::r)):=by intro c hc;injection hc with hc;subst hc;exact .inl rfl
    have h1:=hf x jI _ hs;have aQ:e≠44:=by rcases he with rfl|rfl|rfl<;>decide
    have h2:Zn [e] (44::32::(Yz (y::l)++e::r))=(44::32::(Yz (y::l)++e::r),false):=Pn aQ;have h3:Zn [44,32] (44::32::(Yz (y::l)++e::r))=(Yz (y::l)++e::r,true):=Js [44,32] _;have ih:=Yhq he l y (acc++[x]) n r (fun z hz=>hf z<|jJ _ hz) (by simp only[kB]at hn;omega);rw[e1,Uw];simp only[h1,h2,h3,zB,jL,jT];rw[ih,jD];rfl
theorem RM(he:e=125\/e=93\/e=62)(l:List Za)(r:Zc)(hf :∀y∈l,∀r,Stop r->f (Ys y++r)=(y,true,r))(hn:l.length<=16):Qg f kind [e] (Yz l++e::r)=(Za.mk kind 0 [] l false,true,r):=by
  unfold Qg
  cases l with
  |nil=>
    have h2:Zn [e] (Yz []++e::r)=(r,true):=Js [e] r;simp only[h2,jS]
  |cons x l=>
    have h2:Zn [e] (Yz (x::l)++e::r)=(Yz (x::l)++e::r,false):=by
      rw[Yz,jD];exact RL (by rcases he with h|h|h<;>simp[h]) _ _
    simp only[h2,jL,jT];exact Yhq he l x [] 17 r hf (by simp only[kB]at hn;omega)
end
theorem Yxm{l:List Za}{e:UInt8}{p r:Zc}:(Zn (46::p)<|Yz l++62::r).2=false:=by
  cases l with
  |nil=>rw[show Yz []++62::r=62::r from rfl,Pn<|by decide]
  |cons x l=>rw[Yz,jD,RL<|.inl rfl]
theorem Ge{α:Type}{l:List α}(h:l.length=0):l=[]:=yM.1 h
theorem Ymo:∀(d:Nat) (v:Za),Vz d v=true->Wf v->∀r,Stop r->Jn d (Ys v++r)=(v,true,r)
  |0,v,h,_,r,hr=>by cases h
  |d+1,v,h,hw,r,hr=>by
    have h1:=Bn h;have h2:=Fb h;have ih :∀y∈v.list,∀r,Stop r->Jn d (Ys y++r)=(y,true,r):=fun y hy=>Ymo d y (h2 y hy) (hw.e y hy)
    have hn:=hw.n;have aQ :∀x:Zc,¬(Ys v++x=[]):=fun x e=>VA v (List.append_eq_nil_iff.1 e).1
    clear h h2 hw
    cases v with
    |mk k n s l c=>
    unfold Za.okh Jr at h1;simp only[Za.kind_mk,Za.int_mk,Za.text_mk,Za.list_mk,Za.cut_mk]at h1 ih hn;have ht:=aQ r;rw[Jn,kA ht];clear ht aQ;have aB :∀{a b:UInt8}{p t:Zc},a≠b->(Zn (a::p)<|b::t).2=false:=fun h=>by rw[Pn h]
    rcases h1 with⟨rfl,a1,a2,a3,a4⟩|⟨rfl,a1,a2,a3⟩|⟨rfl,a1,a2,rfl,a4⟩|⟨rfl,rfl,a1,a2,a3⟩|⟨rfl,rfl,a1,a2,a3⟩|⟨rfl,rfl,a1,a2,a3,a4⟩|⟨rfl,rfl,a1,a2,a3⟩
    . have:=Ge a1;have:=Ge a3;subst l;subst s;have:c=false:=by cases c;rfl;cases a2
      subst c;rcases a4 with rfl|rfl
      . rw[show Ys (Za.mk 1 0 [] [] false)=Qm from rfl,show Qm++r=102::([97,108,115,101]++r)from rfl,Ug,kA (by rw[aB<|by decide];decide)];have:=Js Qm r;rw[show Qm++r=102::([97,108,115,101]++r)from rfl]at this;rw[kC<|by rw[this],this]
      . rw[show Ys (Za.mk 1 1 [] [] false)=Ug from rfl,kC<|by rw[Js],Js]
    . have:=Ge a1;have:=Ge a3;subst l;subst s;have:c=false:=by cases c;rfl;cases a2
      subst c;rw[show Ys (Za.mk 2 n [] [] false)=Yn n from rfl];have hd:=Yc4 (r:=r) hn.1 hn.2 hr.notD;obtain⟨x,t,h3,h4⟩:=RJ n;rw[h3]at hd⊢;rw[kY]at hd⊢
      have hx :∀y:UInt8,y∈([116,102,110,38,60,123,91,34]:Zc)->y≠x:=by
        rintro y hy rfl;rcases h4 with rfl|h4
        . exact absurd hy (by decide)
        . exact Xq3 h4 (by decide) hy
      rw [Ug,kA (by rw [aB (hx _ (by decide))];decide),Qm,kA (by rw [aB (hx _ (by decide))];decide),Ub,kA (by rw [aB (hx _ (by decide))];decide),Um,kA (by rw [aB (hx _ (by decide))];decide),Ur,kA (by rw [aB (hx _ (by decide))];decide),
        kA (by rw[aB<|hx _<|by decide];decide),kA (by rw[aB<|hx _<|by decide];decide),kA (by rw[aB<|hx _<|by decide];decide),kA (by rw[aB<|hx _<|by decide];decide),
        kA (by rw [yZ];intro e;injection e with e;exact hx 34 (by decide) e.symm),hd]
    . have:=Ge a1;subst l;have:c=false:=by cases c;rfl;cases a2
      subst c;rw[show Ys (Za.mk 3 0 s [] false)=quo s from rfl];have hd:=Xyv (s:=s) (r:=r) (by omega);rw[show quo s++r=34::(Kd s++[34]++r)from rfl]at hd⊢
      rw [Ug,kA (by rw [aB (by decide)];decide),Qm,kA (by rw [aB (by decide)];decide),Ub,kA (by rw [aB (by decide)];decide),Um,kA (by rw [aB (by decide)];decide),Ur,kA (by rw [aB (by decide)];decide),
        kA (by rw [aB<|by decide];decide),kA (by rw [aB<|by decide];decide),kA (by rw [aB<|by decide];decide),kA (by rw [aB<|by decide];decide),yZ,kC rfl,hd]
    . have:=Ge a1;subst s
      cases c with
      |true=>
        have:=Ge (a3.resolve_left<|by decide);subst l;have e:=Js Um r;rw[show Ys (Za.mk 4 0 [] [] true)=Um from rfl];rw[show Um++r=38::([46,46,46]++r)from rfl]at e⊢;rw[Ug,kA (by rw[aB<|by decide];decide),Qm,kA (by rw[aB<|by decide];decide),Ub,kA (by rw[aB<|by decide];decide),kC<|by rw[e],e]
      |false=>
        match l,a2 with
        |[],_=>
          have e:=Js Ub r;rw[show Ys (Za.mk 4 0 [] [] false)=Ub from rfl];rw[show Ub++r=110::([105,108]++r)from rfl]at e⊢;rw[Ug,kA (by rw[aB<|by decide];decide),Qm,kA (by rw[aB<|by decide];decide),kC<|by rw[e],e]
        |[w],_=>
          rw[show Ys (Za.mk 4 0 [] [w] false)=38::Yz [w]from rfl,nW,kY];have e:Zn [38] (38::(Ys w++r))=(Ys w++r,true):=Js [38] _;have e2:(Zn Um<|38::(Ys w++r)).2=false:=by rw[Um,zq,RL<|.inl rfl];rfl
          rw[Ug,kA (by rw[aB<|by decide];decide),Qm,kA (by rw[aB<|by decide];decide),Ub,kA (by rw[aB<|by decide];decide),kA (by rw[e2];decide),Ur,kA (by rw[aB<|by decide];decide),kC<|by rw[e],e];simp only;rw[ih w jI r hr]
    . have:=Ge a1;subst s;have:c=false:=by cases c;rfl;cases a3
      subst c;rw[show Ys (Za.mk 5 0 [] l false)=123::(Yz l++[125])from rfl];have e0:123::(Yz l++[125])++r=123::(Yz l++125::r):=by simp
      have e:Zn [123] (123::(Yz l++125::r))=(Yz l++125::r,true):=Js [123] _;rw[e0,Ug,kA (by rw[aB<|by decide];decide),Qm,kA (by rw[aB<|by decide];decide),Ub,kA (by rw[aB<|by decide];decide),Um,kA (by rw[aB<|by decide];decide),Ur,kA (by rw[aB<|by decide];decide),kA (by rw[aB<|by decide];decide),kC<|by rw[e],e];exact RM (.inl rfl) l r ih (by omega)
    . have:=Ge a1;subst s;have:c=false:=by cases c;rfl;cases a4
      subst c;rw[show Ys (Za.mk 6 0 [] l false)=91::(Yz l++[93])from rfl];have e0:91::(Yz l++[93])++r=91::(Yz l++93::r):=by simp
      have e:Zn [91] (91::(Yz l++93::r))=(Yz l++93::r,true):=Js [91] _;rw[e0,Ug,kA (by rw[aB<|by decide];decide),Qm,kA (by rw[aB<|by decide];decide),Ub,kA (by rw[aB<|by decide];decide),Um,kA (by rw[aB<|by decide];decide),Ur,kA (by rw[aB<|by decide];decide),kA (by rw[aB<|by decide];decide),kA (by rw[aB<|by decide];decide),kC<|by rw[e],e];exact RM (.inr<|.inl rfl) l r ih (by omega)
    . have:=Ge a1;subst s
      cases c with
      |true=>
        have:=Ge (a3.resolve_left<|by decide);subst l;have e:=Js Ur r;rw[show Ys (Za.mk 7 0 [] [] true)=Ur from rfl];rw[show Ur++r=60::([46,46,46,62]++r)from rfl]at e⊢;rw[Ug,kA (by rw[aB<|by decide];decide),Qm,kA (by rw[aB<|by decide];decide),Ub,kA (by rw[aB<|by decide];decide),Um,kA (by rw[aB<|by decide];decide),kC<|by rw[e],e]
      |false=>
        rw[show Ys (Za.mk 7 0 [] l false)=60::(Yz l++[62])from rfl];have e0:60::(Yz l++[62])++r=60::(Yz l++62::r):=by simp
        have e:Zn [60] (60::(Yz l++62::r))=(Yz l++62::r,true):=Js [60] _
        have e2:(Zn Ur<|60::(Yz l++62::r)).2=false:=by
          have:=Yxm (l:=l) (e:=0) (p:=[46,46,62]) (r:=r);rw[Ur,zq,kA (by rw[this];decide)]
        rw[e0,Ug,kA (by rw[aB<|by decide];decide),Qm,kA (by rw[aB<|by decide];decide),Ub,kA (by rw[aB<|by decide];decide),Um,kA (by rw[aB<|by decide];decide),kA (by rw[e2];decide),kA (by rw[aB<|by decide];decide),kA (by rw[aB<|by decide];decide),kA (by rw[aB<|by decide];decide),kC<|by rw[e],e];exact RM (.inr<|.inr rfl) l r ih (by omega)
def Wv(s:Zc):Za × Int:=if 1400000<s.length then (vz,4)else
  if (Jn 130 s).2.1=true/\(Jn 130 s).2.2=[]/\Vl (Jn 130 s).1=true/\Ys (Jn 130 s).1=s then ((Jn 130 s).1,0)else (vz,12)
theorem Dz{v:Za}(h:Vl v=true):Vz 130 v=true/\v.nodes<=5000:=by
  simpa[Vl]using h
theorem Yzn{v:Za}(h:Vl v=true)(hw:Wf v):Jn 130 (Ys v)=(v,true,[]):=by
  have:=Ymo 130 v (Dz h).1 hw [] (by intro c hc;cases hc)
  rwa [zA]at this
theorem oD{v:Za}(h:Vl v=true)(hw:Wf v):Wv (Ys v)=(v,0):=by
  have h1:=Mp h;unfold Wv;rw[kA<|by omega,Yzn h hw,kC ⟨rfl,rfl,h,rfl⟩]
theorem Ob{s:Zc}(h:(Wv s).2=0):Vl (Wv s).1=true/\Ys (Wv s).1=s/\Wf (Wv s).1:=by
  unfold Wv at h⊢;split
  . rename_i h1;rw[kC h1]at h;cases h
  . rename_i h1;rw[kA h1]at h;split
    . rename_i h2;exact⟨h2.2.2.1,h2.2.2.2,Rq _ _⟩
    . rename_i h2;rw[kA h2]at h;cases h
theorem tJ(s:Zc):Wf (Wv s).1:=by
  unfold Wv;split
  . exact Wf.zero
  . split
    . exact Rq _ _
    . exact Wf.zero
noncomputable def Ta (v w:Za):Bool:=@decide (v=w) (Classical.propDecidable _)
theorem Tv{v w:Za}:Ta v w=true↔v=w:=by unfold Ta;simp
theorem Fd{v w:Za}:Ta v w=false↔v≠w:=by
  rw[<- zL,Tv]
end Go.AM

namespace Go.AM
open Go
theorem Yos{x m c:BitVec 64}(h:x &&& ~~~m=c):x=c ||| (x &&& m):=by subst h;apply BitVec.eq_of_getLsbD_eq;intro i hi;simp only[BitVec.getLsbD_or,BitVec.getLsbD_and,BitVec.getLsbD_not,hi,decide_true,jZ];cases x.getLsbD i<;>cases m.getLsbD i<;>rfl
theorem RN(x:BitVec 64)(i:Nat):x &&& BitVec.twoPow 64 i=BitVec.twoPow 64 i\/x &&& BitVec.twoPow 64 i=0#64:=by
 rw[BitVec.and_twoPow];split
 ·exact .inl rfl
 ·exact .inr rfl
theorem Ymh(x:BitVec 64):IntKind.u64.wrap (x.toNat:Int)=(x.toNat:Int):=Sf x.isLt
theorem Ydx{f:Int}(h:0<=f/\f<18446744073709551616):f=((BitVec.ofInt 64 f).toNat:Int):=by rw[BitVec.toNat_ofInt];omega
theorem Xwx{f:Int}(h:0<=f/\f<18446744073709551616):Ap .u64 f 4=2↔f=2\/f=6:=by
 constructor
 ·intro h1;have h1:IntKind.u64.wrap ((BitVec.ofInt 64 f &&& ~~~(BitVec.ofInt 64 4)).toNat:Int)=2:=h1;rw[Ymh]at h1;have h2:BitVec.ofInt 64 f &&& ~~~(BitVec.ofInt 64 4)=2#64:=BitVec.eq_of_toNat_eq (by rw[show(2#64).toNat=2 from rfl];omega);have h3:=Yos h2;rw[show BitVec.ofInt 64 4=BitVec.twoPow 64 2 from by decide]at h3;rcases RN (BitVec.ofInt 64 f) 2 with h4|h4<;>rw[h4]at h3<;>have h5:=Ydx h<;>rw[h3]at h5
  ·exact .inr h5
  ·exact .inl h5
 ·rintro(rfl|rfl)<;>decide
theorem Xcn{f:Int}(h:0<=f/\f<18446744073709551616):Ap .u64 f 5=0↔f=0\/f=1\/f=4\/f=5:=by
 constructor
 ·intro h1;have h1:IntKind.u64.wrap ((BitVec.ofInt 64 f &&& ~~~(BitVec.ofInt 64 5)).toNat:Int)=0:=h1;rw[Ymh]at h1;have h2:BitVec.ofInt 64 f &&& ~~~(BitVec.ofInt 64 5)=0#64:=BitVec.eq_of_toNat_eq (by rw[show(0#64).toNat=0 from rfl];omega);have h3:=Yos h2
  have e:BitVec.ofInt 64 f &&& BitVec.ofInt 64 5=(BitVec.ofInt 64 f &&& BitVec.twoPow 64 2) ||| (BitVec.ofInt 64 f &&& BitVec.twoPow 64 0):=by
   rw[show BitVec.ofInt 64 5=BitVec.twoPow 64 2 ||| BitVec.twoPow 64 0 from by decide];apply BitVec.eq_of_getLsbD_eq;intro i hi;simp only[BitVec.getLsbD_or,BitVec.getLsbD_and];cases (BitVec.ofInt 64 f).getLsbD i<;>rfl
  rw[e]at h3;have h5:=Ydx h;rcases RN (BitVec.ofInt 64 f) 2 with h4|h4<;>rcases RN (BitVec.ofInt 64 f) 0 with h6|h6<;>rw[h4,h6]at h3<;>rw[h3]at h5
  ·exact .inr (.inr<|.inr h5)
  ·exact .inr (.inr<|.inl h5)
  ·exact .inr (.inl h5)
  ·exact .inl h5
 ·rintro(rfl|rfl|rfl|rfl)<;>decide
def Nk:Zc:=[101,120,105,116]
def Kc:Zc:=[112,97,110,105,99,32]
def Jx:Zc:=[32,114,101,99,111,118,101,114,101,100]
def Vx:Zc:=[32,97,98,111,114,116,101,100]
def KB:Zc:=[102,97,117,108,116,32]
def Cd:Zc:=[102,97,117,108,116,32,49,58,32,100,105,118,105,115,105,111,110,32,98,121,32,122,101,114,111]
def Pg:Zc:=[102,97,117,108,116,32,50,58,32,110,105,108,32,112,111,105,110,116,101,114]
def Lg:Zc:=[102,97,117,108,116,32,51,58,32,111,117,116,32,111,102,32,114,97,110,103,101]
def ou(n:Int):Zc:=if n=1 then Cd else if n=2 then Pg else if n=3 then Lg else []
def Mj(t:Int):Int:=if t=1 then 2 else if t=2 then 1 else if t=3 then 3 else if t=4 then 2 else 0
structure Hu(p:Zh):Prop where
 t:0<=p.tag/\p.tag<18446744073709551616
 v:Wf p.value
 f:0<=p.flags/\p.flags<18446744073709551616
def Dd(v:Za):Bool:=decide (v.kind=0)&&decide (v.int=0)&&decide (v.text=[])&&decide (v.list.length=0)&&!v.cut
theorem Cz{v:Za}:Dd v=true↔v=vz:=by
 unfold Dd;simp only[kR,jA,Bool.not_eq_true',and_assoc,yM]
 cases v with
 |mk k n s l c=>simp
def Xz(p:Zh):Bool:=decide (p.tag<=4)&&decide (p.value.kind=Mj p.tag)&&(if p.tag=0 then Dd p.value&&decide (p.flags=2\/p.flags=6)
 else decide (p.flags=0\/p.flags=1\/p.flags=4\/p.flags=5)&&decide (p.tag=4->1<=p.value.int/\p.value.int<=3)&&Vl p.value)
def Hd(p:Zh):Int:=if Xz p=true then 0 else 8
def Vs(p:Zh):Zc:=if p.tag=0 then Nk else if p.tag=4 then ou p.value.int else Kc++Ys p.value
def Cm(f:Int):Zc:=(if f % 2=1 then Jx else [])++(if 4<=f then Vx else [])
def Vf(p:Zh):Zc:=Vs p++Cm p.flags
def Te(p:Zh):Zc × Int:=if Xz p=true then (Vf p,0)else ([],8)
def pz:Zh:=⟨0,vz,0⟩
def Xg(p s:Zc):Zc × Bool:=if p.length<=s.length/\s.drop (s.length-p.length)=p then (s.take<|s.length-p.length,true)else (s,false)
theorem qx(p s:Zc):Xg p (s++p)=(s,true):=by unfold Xg;rw[kC ⟨by simp,by simp⟩];simp
theorem JW{p s:Zc}(h:(Xg p s).2=true):s=(Xg p s).1++p:=by
 unfold Xg at h⊢;split
 ·rename_i h1;have:=zJ (s.length-p.length) s;rw[h1.2]at this;exact this.symm
 ·rename_i h1;rw[kA h1]at h;cases h
theorem JV{p s:Zc}(h:(Xg p s).2=false):(Xg p s).1=s:=by
 unfold Xg at h⊢;split
 ·rename_i h1;rw[kC h1]at h;cases h
 ·rfl
theorem Ysp{p s:Zc}{c d:UInt8}(hs:s.getLast?=some c)(hp:p.getLast?=some d)(h:c≠d):Xg p s=(s,false):=by
 unfold Xg;rw[kA];rintro⟨h1,h2⟩
 have h3:s.getLast?=p.getLast?:=by
  rw[<- zJ (s.length-p.length) s,h2,List.getLast?_append,hp];rfl
 rw[hs,hp]at h3;injection h3 with h3;exact h h3
def Hc(s:Zc):Option Zh:=if s=Nk then some ⟨0,vz,2⟩else if s=Cd then some ⟨4,Za.mk 2 1 [] [] false,0⟩else if s=Pg then some ⟨4,Za.mk 2 2 [] [] false,0⟩else if s=Lg then some ⟨4,Za.mk 2 3 [] [] false,0⟩else
 if (Zn Kc s).2=false then none else
 if (Wv (Zn Kc s).1).2≠0 then none else
 let v:=(Wv (Zn Kc s).1).1
 if v.kind=2 then some ⟨1,v,0⟩else if v.kind=1 then some ⟨2,v,0⟩else if v.kind=3 then some ⟨3,v,0⟩else none
def Jt(s:Zc):Zh × Int:=if 2000<s.length then (pz,4)else
 let a:=Xg Vx s
 let r:=Xg Jx a.1
 match Hc r.1 with
 |none=>(pz,12)
 |some p=>let q:Zh:=⟨p.tag,p.value,p.flags+(if r.2=true then 1 else 0)+(if a.2=true then 4 else 0)⟩
  if Xz q=true then (q,0)else (pz,12)
end Go.AM

namespace Go.AM
open Go
theorem Xj8{p q b:Zc}(h:p.length<=q.length):Xg p (b++q)=(b++(Xg p q).1,(Xg p q).2):=by
 have e:(b++q).length-p.length=b.length+(q.length-p.length):=by simp;omega
 unfold Xg;rw[e,List.drop_append,List.take_append];rw[List.drop_of_length_le<|by omega,zF<|by omega,jV,show b.length+(q.length-p.length)-b.length=q.length-p.length by omega];by_cases h1:q.drop (q.length-p.length)=p
 ·rw[kC ⟨by simp;omega,h1⟩,kC ⟨h,h1⟩]
 ·rw[kA fun h2=>h1 h2.2,kA fun h2=>h1 h2.2]
theorem W2{v:Za}(h:Vl v=true)(hk:v.kind=2):v=Za.mk 2 v.int [] [] false:=by
 have h1:=Bn (Dz h).1
 cases v with
 |mk k n s l c=>
  simp only[Za.okh,Jr,Za.kind_mk,Za.int_mk,Za.text_mk,Za.list_mk,Za.cut_mk]at h1 hk⊢;subst hk;have hl:=Ge (l:=l) (by omega);have hs:=Ge (l:=s) (by omega);subst hl;subst hs
  cases c with
  |false=>rfl
  |true=>simp at h1
theorem Xeu(n:Int):∃b c,Yn n=b++[c]/\c≠100:=by
 have key :∀m:Nat,∃b c,Jj 10 m=b++[c]/\c≠100:=by
  intro m
  obtain⟨b,c,h⟩ :∃b c,Jj 10 m=b++[c]:=by
   have h:=RF 10 m;exact⟨_,_,(List.dropLast_concat_getLast h).symm⟩
  refine⟨b,c,h,fun hc=>?_⟩;have:=Pz 64 m c (by rw[show ds 10 64 m=Jj 10 m from rfl,h];simp);rw[hc]at this;exact absurd this (by decide)
 unfold Yn;split
 ·obtain⟨b,c,h,hc⟩:=key (-n).toNat;exact⟨45::b,c,by rw[h];rfl,hc⟩
 ·exact key _
theorem Yxj{p:Zh}(h:Xz p=true):∃b c,Vs p=b++[c]/\c≠100:=by
 unfold Xz at h;simp only[kR,jA]at h;obtain⟨⟨h1,h2⟩,h3⟩:=h;unfold Vs;by_cases t0:p.tag=0
 ·rw[kC t0];exact⟨[101,120,105],116,rfl,by decide⟩
 rw[kA t0]at h3⊢;simp only[kR,jA]at h3;obtain⟨⟨h4,h5⟩,h6⟩:=h3;by_cases t4:p.tag=4
 ·rw[kC t4];have:=h5 t4;rcases(show p.value.int=1\/p.value.int=2\/p.value.int=3 by omega)with h|h|h<;>rw[h]
  ·exact⟨Cd.dropLast,111,rfl,by decide⟩
  ·exact⟨Pg.dropLast,114,rfl,by decide⟩
  ·exact⟨Lg.dropLast,101,rfl,by decide⟩
 rw[kA t4]
 have hk:p.value.kind=2\/p.value.kind=1\/p.value.kind=3:=by
  rw[h2];unfold Mj;by_cases a1:p.tag=1
  ·rw[kC a1];exact .inl rfl
  rw[kA a1];by_cases a2:p.tag=2
  ·rw[kC a2];exact .inr (.inl rfl)
  rw[kA a2];by_cases a3:p.tag=3
  ·rw[kC a3];exact .inr (.inr rfl)
  rw[kA a3,kA t4];have h0:=Bn (Dz h6).1;unfold Za.okh Jr at h0;rw[h2]at h0;unfold Mj at h0;rw[kA a1,kA a2,kA a3,kA t4]at h0;omega
 have add :∀{x:Zc},(∃b c,x=b++[c]/\c≠(100:UInt8))->∃b c,Kc++x=b++[c]/\c≠(100:UInt8):=fun⟨b,c,h,hc⟩=>⟨Kc++b,c,by rw[h];simp,hc⟩
 apply add;rw[Sw];rcases hk with h|h|h<;>rw[h]
 ·exact Xeu _
 ·rw[kC rfl];split
  ·exact⟨[116,114,117],101,rfl,by decide⟩
  ·exact⟨[102,97,108,115],101,rfl,by decide⟩
 ·exact⟨34::Kd p.value.text,34,rfl,by decide⟩
theorem Re{p:Zh}(h:Xz p=true):(p.tag=0/\p.value=vz/\(p.flags=2\/p.flags=6))\/(p.tag≠0/\Vl p.value=true/\(p.flags=0\/p.flags=1\/p.flags=4\/p.flags=5)):=by
 unfold Xz at h;simp only[kR,jA]at h;obtain⟨⟨h1,h2⟩,h3⟩:=h;by_cases t0:p.tag=0
 ·rw[kC t0]at h3;simp only[kR,jA]at h3;exact .inl ⟨t0,Cz.1 h3.1,h3.2⟩
 ·rw[kA t0]at h3;simp only[kR,jA]at h3;exact .inr ⟨t0,h3.2,h3.1.1⟩
theorem W5{p:Zh}(h:Xz p=true):(Xg Vx<|Vf p).2=decide (4<=p.flags)/\Xg Jx (Xg Vx<|Vf p).1=(Vs p,decide<|p.flags % 2=1):=by
 obtain⟨b,c,hb,hc⟩:=Yxj h;have a1:Xg Vx (Vs p)=(Vs p,false):=Ysp (c:=c) (d:=100) (by rw[hb];simp) rfl hc;have a2:Xg Jx (Vs p)=(Vs p,false):=Ysp (c:=c) (d:=100) (by rw[hb];simp) rfl hc;have a3:Xg Vx (Vs p++Jx)=(Vs p++Jx,false):=by rw[Xj8<|by decide];rfl
 have hf:p.flags=0\/p.flags=1\/p.flags=2\/p.flags=4\/p.flags=5\/p.flags=6:=by rcases Re h with⟨_,_,h⟩|⟨_,_,h⟩<;>omega
 unfold Vf Cm;rcases hf with h|h|h|h|h|h<;>rw[h]
 ·rw[show Vs p++((if (0:Int) % 2=1 then Jx else [])++(if (4:Int)<=0 then Vx else []))=Vs p by simp,a1];exact⟨rfl,a2⟩
 ·rw[show Vs p++((if (1:Int) % 2=1 then Jx else [])++(if (4:Int)<=1 then Vx else []))=Vs p++Jx by simp,a3];exact⟨rfl,qx _ _⟩
 ·rw[show Vs p++((if (2:Int) % 2=1 then Jx else [])++(if (4:Int)<=2 then Vx else []))=Vs p by simp,a1];exact⟨rfl,a2⟩
 ·rw[show Vs p++((if (4:Int) % 2=1 then Jx else [])++(if (4:Int)<=4 then Vx else []))=Vs p++Vx by simp,qx];exact⟨rfl,a2⟩
 ·rw[show Vs p++((if (5:Int) % 2=1 then Jx else [])++(if (4:Int)<=5 then Vx else []))=(Vs p++Jx)++Vx by simp,qx];exact⟨rfl,qx _ _⟩
 ·rw[show Vs p++((if (6:Int) % 2=1 then Jx else [])++(if (4:Int)<=6 then Vx else []))=Vs p++Vx by simp,qx];exact⟨rfl,a2⟩
theorem Xm2{p:Zh}(h:Xz p=true)(hw:Wf p.value):Hc (Vs p)=some ⟨p.tag,p.value,if p.tag=0 then 2 else 0⟩:=by
 have h0:=Re h;unfold Xz at h;simp only[kR,jA]at h;obtain⟨⟨h1,h2⟩,h3⟩:=h;obtain⟨t,v,f⟩:=p;simp only at h0 h1 h2 h3 hw⊢;unfold Vs;rcases h0 with⟨rfl,rfl,_⟩|⟨t0,hf,_⟩
 ·rfl
 rw[kA t0]at h3;simp only[kR,jA]at h3;obtain⟨⟨h4,h5⟩,h6⟩:=h3;simp only;rw[kA t0];by_cases t4:t=4
 ·subst t4;have hv:=W2 hf h2;have:=h5 rfl;rw[kC rfl];rcases(show v.int=1\/v.int=2\/v.int=3 by omega)with h|h|h<;>rw[h]at hv<;>rw[hv]<;>rfl
 rw[kA t4,kA t0]
 have ne :∀{x:Zc}{c:UInt8}{r:Zc},x=c::r->c≠112->Kc++Ys v≠x:=fun hx hc e=>by
  rw[hx]at e;injection e with e;exact hc e.symm
 unfold Hc;rw[kA<|ne (x:=Nk) (c:=101) rfl<|by decide,kA<|ne (x:=Cd) (c:=102) rfl<|by decide,kA<|ne (x:=Pg) (c:=102) rfl<|by decide,kA<|ne (x:=Lg) (c:=102) rfl<|by decide,Js,kA<|show ¬(true=false)by decide,oD hf hw,kA<|show ¬((0:Int)≠0)by decide];simp only;unfold Mj at h2;by_cases a1:t=1
 ·subst a1;rw[kC rfl]at h2;rw[kC h2]
 rw[kA a1]at h2;by_cases a2:t=2
 ·subst a2;rw[kC rfl]at h2;rw[kA<|by omega,kC h2]
 rw[kA a2]at h2;by_cases a3:t=3
 ·subst a3;rw[kC rfl]at h2;rw[kA<|by omega,kA<|by omega,kC h2]
 rw[kA a3,kA t4]at h2;have h7:=Bn (Dz hf).1;unfold Za.okh Jr at h7;omega
theorem Xta{v:Za}(h:Vl v=true)(hk:v.kind=1\/v.kind=2\/v.kind=3):(Ys v).length<=300:=by
 have h7:=Bn (Dz h).1;unfold Za.okh Jr at h7;have h8:=Jv v.int;have h9:=Hj v.text;rw[Sw];rcases hk with h|h|h<;>rw[h]
 ·rw[kC rfl];split<;>decide
 ·show(Yn v.int).length<=300;omega
 ·show(quo v.text).length<=300;omega
theorem W0{p:Zh}(h:Xz p=true)(h0:p.tag≠0):p.value.kind=1\/p.value.kind=2\/p.value.kind=3:=by
 have hf:Vl p.value=true:=by rcases Re h with h|h;exact absurd h.1 h0;exact h.2.1
 unfold Xz at h;simp only[kR,jA]at h;have h2:=h.1.2;have h7:=Bn (Dz hf).1;unfold Za.okh Jr at h7;unfold Mj at h2
 repeat' split at h2
 all_goals omega
theorem ov{p:Zh}(h:Xz p=true):(Vf p).length<=400:=by
 have hs:(Cm p.flags).length<=18:=by unfold Cm;split<;>split<;>decide
 have hb:(Vs p).length<=310:=by
  unfold Vs;by_cases t0:p.tag=0
  ·rw[kC t0];decide
  rw[kA t0];split
  ·unfold ou;repeat' split
   all_goals decide
  ·have hf:Vl p.value=true:=by rcases Re h with h|h;exact absurd h.1 t0;exact h.2.1
   have:=Xta hf (W0 h t0);rw[kF,show Kc.length=6 from rfl];omega
 unfold Vf;rw[kF];omega
theorem KD{p:Zh}(h:Xz p=true)(hw:Wf p.value):Jt (Vf p)=(p,0):=by
 have h1:=ov h;obtain⟨h2,h3⟩:=W5 h;have h4:=Xm2 h hw;unfold Jt;rw[kA<|by omega];simp only[h2,h3];rw[h4];simp only
 have e:(if p.tag=0 then (2:Int)else 0)+(if decide (p.flags % 2=1)=true then 1 else 0)+(if decide (4<=p.flags)=true then 4 else 0)=p.flags:=by
  simp only[jA];rcases Re h with⟨a,_,b⟩|⟨a,_,b⟩
  ·rw[kC a];rcases b with b|b<;>rw[b]<;>decide
  ·rw[kA a];rcases b with b|b|b|b<;>rw[b]<;>decide
 rw[e,kC<|show Xz ⟨p.tag,p.value,p.flags⟩=true from h]
theorem W7{s:Zc}{p:Zh}(h:Hc s=some p):Wf p.value/\(p.flags=0\/p.flags=2)/\0<=p.tag/\p.tag<=4/\Vs p=s:=by
 have wn :∀n:Int,n=1\/n=2\/n=3->Wf (Za.mk 2 n [] [] false):=fun n hn=>.mk (by decide) (by omega) (by decide) (by simp)
 unfold Hc at h;by_cases h1:s=Nk
 ·rw[kC h1]at h;cases h;exact⟨Wf.zero,.inr rfl,by decide,by decide,h1.symm⟩
 rw[kA h1]at h;by_cases h2:s=Cd
 ·rw[kC h2]at h;cases h;exact⟨wn 1<|by decide,.inl rfl,by decide,by decide,h2.symm⟩
 rw[kA h2]at h;by_cases h3:s=Pg
 ·rw[kC h3]at h;cases h;exact⟨wn 2<|by decide,.inl rfl,by decide,by decide,h3.symm⟩
 rw[kA h3]at h;by_cases h4:s=Lg
 ·rw[kC h4]at h;cases h;exact⟨wn 3<|by decide,.inl rfl,by decide,by decide,h4.symm⟩
 rw[kA h4]at h;by_cases h5:(Zn Kc s).2=false
 ·rw[kC h5]at h;cases h
 rw[kA h5]at h;by_cases h6:(Wv (Zn Kc s).1).2≠0
 ·rw[kC h6]at h;cases h
 rw[kA h6]at h;have h5:(Zn Kc s).2=true:=by simpa using h5
 obtain⟨g1,g2,g3⟩:=Ob (kP.1 h6)
 have es:Kc++Ys (Wv (Zn Kc s).1).1=s:=by
  rw[g2];unfold Zn at h5⊢;split at h5
  ·rename_i h7;have:=zJ Kc.length s;rw[h7]at this;rw[kC h7];exact this
  ·cases h5
 simp only at h;split at h
 ·cases h;exact⟨g3,.inl rfl,by simp only;decide,by simp only;decide,es⟩
 split at h
 ·cases h;exact⟨g3,.inl rfl,by simp only;decide,by simp only;decide,es⟩
 split at h
 ·cases h;exact⟨g3,.inl rfl,by simp only;decide,by simp only;decide,es⟩
 ·cases h
theorem Xzr{f:Int}(hf:f=0\/f=2)(r a:Bool):Cm (f+(if r=true then 1 else 0)+(if a=true then 4 else 0))=(if r=true then Jx else [])++(if a=true then Vx else []):=by rcases hf with rfl|rfl<;>cases r<;>cases a<;>rfl
theorem KC{s:Zc}(h:(Jt s).2=0):Xz (Jt s).1=true/\Hu (Jt s).1/\Vf (Jt s).1=s/\s.length<=2000:=by
 unfold Jt at h⊢;by_cases hl:2000<s.length
 ·rw[kC hl]at h;cases h
 rw[kA hl]at h⊢;simp only at h⊢;have gY:=@JW Vx s;have iI:=@JV Vx s;generalize Xg Vx s=a at h gY iI⊢;have RO:=@JW Jx a.1;have RP:=@JV Jx a.1;generalize Xg Jx a.1=r at h RO RP⊢
 cases hc:Hc r.1 with
 |none=>rw[hc]at h;cases h
 |some p=>
  rw[hc]at h;simp only at h⊢;obtain⟨g1,g2,g3,g3',g4⟩:=W7 hc;by_cases ho:Xz ⟨p.tag,p.value,p.flags+(if r.2=true then 1 else 0)+(if a.2=true then 4 else 0)⟩=true
  ·rw[kC ho];refine⟨ho,⟨⟨g3,by simp only;omega⟩,g1,?_⟩,?_,by omega⟩
   ·simp only;constructor<;>(split<;>split<;>omega)
   ·have e:Vs ⟨p.tag,p.value,p.flags+(if r.2=true then 1 else 0)+(if a.2=true then 4 else 0)⟩=r.1:=g4;unfold Vf;rw[e];simp only;rw[Xzr g2]
    cases hr:r.2 with
    |true=>
     cases ha:a.2 with
     |true=>rw[gY ha,RO hr];simp
     |false=>rw[<- iI ha,RO hr];simp
    |false=>
     cases ha:a.2 with
     |true=>rw[gY ha,<- RP hr];simp
     |false=>rw[<- iI ha,<- RP hr];simp
  ·rw[kA ho]at h;cases h
end Go.AM

namespace Go.AM
open Go
structure Has38(PG:Zb):Prop extends Has03 PG,HasB PG where
 f72:PG.fn 72=some r4
 f74:PG.fn 74=some nP
 f75:PG.fn 75=some nQ
 f76:PG.fn 76=some r5
 f77:PG.fn 77=some r6
 f78:PG.fn 78=some r7
 f103:PG.fn 103=some r8
 f104:PG.fn 104=some Eh
 f106:PG.fn 106=some r9
 f107:PG.fn 107=some Ek
 f108:PG.fn 108=some nR
 f109:PG.fn 109=some r_
 f110:PG.fn 110=some sa
 f127:PG.fn 127=some sb
 f128:PG.fn 128=some Ah
 f129:PG.fn 129=some Fs
 f130:PG.fn 130=some Eo
 f131:PG.fn 131=some Fa
 f132:PG.fn 132=some sd
 f133:PG.fn 133=some nS
 f134:PG.fn 134=some se
 f135:PG.fn 135=some sf
 f136:PG.fn 136=some sg
section
variable{PG:Zb}(H:Has38 PG)
include H
theorem EF(v:Za):Ze PG 136 [v.av] (.b<|decide<|v.list.length=0/\v.cut=false):=by
 obtain ⟨x,rfl,h⟩:=Xvo H.f136 (v0:=v) (K:=fun x=>x=decide (v.list.length=0/\v.cut=false)) (by
  unfold EG;refine⟨fun h=>?_,fun h=>?_⟩
  ·cases v.cut
   ·exact(kJ ⟨by omega,rfl⟩).symm
   ·exact(kI (by rintro⟨_,h⟩;cases h)).symm
  ·exact (kI (by rintro ⟨h1,_⟩;omega)).symm)
 exact h
omit H in
theorem Xjp{l:List Za}{i n:Nat}(hi:i<l.length)(hn:Jk (l.take i) n<=5000):Jk (l.take<|i+1) n=Jk (l.take i) n+rN l[i]:=by
 have key :∀(l:List Za) (v:Za) (n:Nat),Jk l n<=5000->Jk (l++[v]) n=Jk l n+rN v:=by
  intro l
  induction l with
  |nil=>intro v n h;rw[Jk]at h;simp[Jk,h]
  |cons w l ih=>
   intro v n h;rw[Jk]at h;by_cases hn:n<=5000
   ·rw[kC hn]at h;simp only[kY,Jk,kC hn];exact ih v _ h
   ·rw[kA hn]at h;exact absurd h hn
 rw[kM hi,key _ _ _ hn]
omit H in
theorem Xy5{l:List Za}{i n:Nat}(h:5000<Jk (l.take i) n):Jk l n=Jk (l.take i) n:=by
 have key :∀(l m:List Za) (n:Nat),5000<Jk l n->Jk (l++m) n=Jk l n:=by
  intro l
  induction l with
  |nil=>
   intro m n h;rw[Jk]at h
   cases m with
   |nil=>rfl
   |cons w m=>simp only[jV,Jk];rw[kA<|by omega]
  |cons w l ih=>
   intro m n h;rw[Jk]at h;simp only[kY,Jk];split
   ·rename_i hn;rw[kC hn]at h;exact ih m _ h
   ·rfl
 have:=key (l.take i) (l.drop i) n h
 rwa [zJ]at this
theorem UW:∀(d:Nat){v:Za},Sm d v->d<=1000->Ze PG 103 [v.av] (.i .i64 (rN v:Int))
 |0,v,hs,hd=>hs.elim
 |d+1,v,hs,hd=>by
  have ih:=@UW d
  obtain ⟨x,rfl,h⟩:=Xcq H.f103 (v0:=v) (K:=fun x=>x=(rN v:Int)) (by
   unfold EH;intro P hP;have e:=UX v;refine nU (P:=fun n i=>P n i v) (fun i=>(Jk (v.list.take i) 1:Int)) v.list.length (fun _=>True) trivial (fun _=>?_) (fun i hi _ bQ=>?_)
   ·apply hP;unfold sh Oy;refine⟨fun h=>absurd h<|by omega,fun _=>?_⟩;rw[kQ,e]
   ·apply hP;unfold sh Oy;refine⟨fun _=>⟨fun h=>⟨by omega,_,Xi hi,_,ih (hs.2 _<|kL hi)<|by omega,?_⟩,fun h=>?_⟩,fun h=>absurd (show(i:Int)<v.list.length by omega) h⟩
    ·have h1:=UY (hs.2 _<|kL hi);have h2:=hs.1;have h3:=Xjp (l:=v.list) (n:=1) hi (by omega);have:=bQ trivial;rw[h3]at this;rw[Yq (by omega)<|by omega,Qu<|by omega];simpa using this
    ·rw [e,Xy5 (i:=i)<|by omega])
  exact h
end
end Go.AM

namespace Go.AM
open Go
theorem Xhm(n:Int):Ho .i64 n 1=n % 2:=by
 unfold Ho
 have h1:(BitVec.ofInt IntKind.i64.bits n &&& BitVec.ofInt IntKind.i64.bits 1).toNat=(n % 2).toNat:=by
  show(BitVec.ofInt 64 n &&& BitVec.ofInt 64 1).toNat=_;rw[BitVec.toNat_and];have h2:(BitVec.ofInt 64 1).toNat=2 ^ 1-1:=by decide
  rw[h2,Nat.and_two_pow_sub_one_eq_mod,BitVec.toNat_ofInt];omega
 rw[h1,Yq (by omega)<|by omega];omega
theorem UZ(v:Za):(v.cut=true/\v.cut.toNat=1)\/(v.cut=false/\v.cut.toNat=0):=by cases v.cut<;>simp
theorem EI(d:Nat)(v:Za):Vz (d+1) v=(decide v.okh&&v.list.all (Vz d)):=rfl
theorem U0{d:Nat}{v:Za}(h:¬v.okh):Vz (d+1) v=false:=by rw[EI,kI h];rfl
theorem U1{d:Nat}{v:Za}(h:v.okh):Vz (d+1) v=v.list.all (Vz d):=by rw[EI,kJ h];rfl
theorem Xkl{d:Nat}{v:Za}(h:v.list.length=0)(p:Prop)[Decidable p](hp:p↔v.okh):decide p=Vz (d+1) v:=by rw[EI,decide_eq_decide.2 hp,show v.list.all (Vz d)=true by rw[Ge h];rfl,Bool.and_true]
section
variable{PG:Zb}(H:Has38 PG)
include H
set_option maxHeartbeats 1000000 in
theorem U2:∀(d:Nat){v:Za},Wf v->d<=1000->Ze PG 110 [v.av,.i .i64 (d:Int)] (.b<|Vz d v)
 |0,v,hw,hd=>by
  obtain ⟨x,rfl,h⟩:=U3 H.f110 (v0:=v) (ar:=((0:Nat):Int)) (K:=fun x=>x=Vz 0 v) (by
   unfold si sj;exact ⟨fun _=>rfl,fun h=>absurd rfl h⟩)
  exact h
 |d+1,v,hw,hd=>by
  have ih:=@U2 d
  obtain ⟨x,rfl,h⟩:=U3 H.f110 (v0:=v) (ar:=((d+1:Nat):Int)) (K:=fun x=>x=Vz (d+1) v) (by
   have hm:IntKind.i64.wrap (((d+1:Nat):Int)-1)=(d:Int):=by rw[Yq (by omega)<|by omega];omega
   have ht:v.text=[]↔v.text.length=0:=yM.symm;have no:¬v.okh->false=Vz (d+1) v:=fun h=>(U0 h).symm
   have hl:=hw.l
   have lp:v.okh->∀P:Int->Za->Prop,(∀(i6:Int) (m0:Za),Nw PG (fun x=>x=Vz (d+1) v) P ((d+1:Nat):Int) i6 m0->P i6 m0)->P 0 v:=by
    intro ho P hP;have e:=U1 (d:=d) ho;refine nU (P:=fun _ i=>P i v) (fun _=>()) v.list.length (fun i=>(v.list.take i).all (Vz d)=true) (by simp) (fun hI=>?_) (fun i hi hI bQ=>?_)
    ·apply hP;unfold Nw EJ;refine⟨fun h=>absurd h<|by omega,fun _=>?_⟩;rw[kQ]at hI;rw[e,hI]
    ·apply hP;unfold Nw;refine⟨fun _=>⟨by omega,_,Xi hi,_,by rw[hm];exact ih (hw.e _<|kL hi)<|by omega,fun h3=>?_,fun h3=>?_⟩,fun h=>absurd (show(i:Int)<v.list.length by omega) h⟩
     ·rw[e];refine(List.all_eq_false.2 ⟨_,kL hi,?_⟩).symm;simpa using h3
     ·rw[Yq (by omega)<|by omega];refine bQ ?_;rw[kM hi,List.all_append,hI];simpa using h3
   have leaf:v.list.length=0->∀(p:Prop) [Decidable p],(p↔v.okh)->decide p=Vz (d+1) v:=fun h p _ hp=>Xkl h p hp
   have nV:v.list.length=0->v.okh->true=Vz (d+1) v:=fun h hp=>by rw[<- leaf h True (by simpa using hp)];simp
   unfold si sj EK EL EM EN sk sm;simp only[ht,ne_eq];refine⟨fun h=>absurd h<|by omega,fun _=>?_⟩;rcases UZ v with⟨hc,EO⟩|⟨hc,EO⟩
   all_goals
    refine⟨fun _=>⟨_,EF H v,?_,?_⟩,fun _=>⟨fun _=>⟨_,EF H v,?_,?_⟩,fun _=>⟨fun _=>⟨_,EF H v,?_,?_⟩,?_⟩⟩⟩
   all_goals simp only[hc,jA,zS,reduceCtorEq,false_imp_iff,true_imp_iff,and_true,true_and,and_false]
   all_goals repeat' first|refine⟨fun _=>?_,fun _=>?_⟩|(intro h)
   all_goals first
    |exact no (by unfold Za.okh Jr;omega)
    |exact nV (by omega) (by unfold Za.okh Jr;omega)
    |exact leaf (by omega) _ (by unfold Za.okh Jr;omega)
    |exact lp (by unfold Za.okh Jr;omega) _ ‹_›
    | (exfalso;omega))
  exact h
end
end Go.AM

namespace Go.AM
open Go
section
variable{PG:Zb}(H:Has38 PG)
include H
set_option maxHeartbeats 1000000 in
theorem U4:∀(d:Nat){v:Za},Wf v->d<=1000->Ze PG 109 [v.av,.i .i64 (d:Int)] (.tup [.i .i64 (Up d v).1,.b (Up d v).2])
 |0,v,hw,hd=>by
  obtain ⟨x,y,⟨rfl,rfl⟩,h⟩:=U5 H.f109 (v0:=v) (bg:=((0:Nat):Int)) (K:=fun x y=>x=(Up 0 v).1/\y=(Up 0 v).2) (by
   unfold so sq sr Nh ss;have:Up 0 v=(0,false):=by unfold Up;rw[kA (by rintro⟨h,_⟩;cases h)]
   rw[this]
   repeat' first|exact⟨rfl,rfl⟩|refine⟨fun _=>?_,fun _=>?_⟩|(intro h)
   all_goals exact absurd rfl ‹¬((0:Nat):Int)=0›)
  exact h
 |d+1,v,hw,hd=>by
  have ih:=@U4 d
  obtain ⟨x,y,⟨rfl,rfl⟩,h⟩:=U5 H.f109 (v0:=v) (bg:=((d+1:Nat):Int)) (K:=fun x y=>x=(Up (d+1) v).1/\y=(Up (d+1) v).2) (by
   have hm:IntKind.i64.wrap (((d+1:Nat):Int)-1)=(d:Int):=by rw[Yq (by omega)<|by omega];omega
   have ht:v.text=[]↔v.text.length=0:=yM.symm;have lz:[]=v.text↔v.text.length=0:=by rw[<- ht];exact eq_comm
   have EP:¬(Vz (d+1) v=true/\v.nodes<=5000)->Up (d+1) v=(0,false):=fun h=>by unfold Up;rw[kA h]
   have no:¬v.okh->(0:Int)=(Up (d+1) v).1/\false=(Up (d+1) v).2:=fun h=>by
    rw[EP (by rw[U0 h];rintro⟨h,_⟩;cases h)];exact⟨rfl,rfl⟩
   have hl:=hw.l;have hn:=ER v
   have lp:v.okh->∀P:Int->Int->Prop,(∀(dn:Int) (t103:Int),Fy PG (fun x y=>x=(Up (d+1) v).1/\y=(Up (d+1) v).2) P ((d+1:Nat):Int) dn v.list (v.list.length:Int) t103->P dn t103)->P 1 0:=by
    intro ho P hP;have e:=U1 (d:=d) ho;refine nU (P:=fun s i=>P s i) (fun i=>((1+Za.nodesL (v.list.take i):Nat):Int)) v.list.length (fun i=>(v.list.take i).all (Vz d)=true/\1+Za.nodesL (v.list.take i)<=5000) (by simp[Za.nodesL]) (fun hI=>?_) (fun i hi hI bQ=>?_)
    ·apply hP;unfold Fy ES;refine⟨fun h=>absurd h<|by omega,fun _=>?_⟩;rw[kQ]at hI⊢;unfold Up;rw[kC ⟨by rw[e];exact hI.1,by omega⟩,hn];exact⟨rfl,rfl⟩
    ·apply hP;unfold Fy;have hnt:=U6 hi;have hle:=U7 (l:=v.list) (i+1);refine⟨fun _=>⟨by omega,_,Xi hi,_,_,by rw[hm];exact ih (hw.e _<|kL hi)<|by omega,?_⟩,fun h=>absurd (show(i:Int)<v.list.length by omega) h⟩;by_cases hc:Vz d v.list[i]=true/\v.list[i].nodes<=5000
     ·rw[show Up d v.list[i]=((v.list[i].nodes:Int),true)by unfold Up;rw[kC hc]];refine⟨fun h=>(by cases h),fun _=>⟨fun h=>?_,fun h=>?_⟩⟩
      ·rw[Yq (by omega)<|by omega]at h;rw[EP<|by omega];exact⟨rfl,rfl⟩
      ·rw[Yq (by omega)<|by omega]at h⊢;rw[Yq (by omega)<|by omega];have:=bQ ⟨by rw[kM hi,List.all_append,hI.1];simpa using hc.1,by omega⟩;rw[hnt]at this;rw[show((1+Za.nodesL (v.list.take i):Nat):Int)+(v.list[i].nodes:Int)=((1+(Za.nodesL (v.list.take i)+v.list[i].nodes):Nat):Int)by omega];exact this
     ·rw[show Up d v.list[i]=(0,false)by unfold Up;rw[kA hc]];refine⟨fun _=>?_,fun h=>(by cases h)⟩;rw[EP<|fun h=>hc ⟨Fb h.1 _<|kL hi,by have:=Xhq (kL hi);omega⟩];exact⟨rfl,rfl⟩
   unfold so sq sr Nh ss;simp only[Za.int_mk,Za.text_mk,Za.cut_mk,Za.kind_mk,Za.list_mk,Xhm,lz,ne_eq,not_true_eq_false,false_imp_iff,true_imp_iff,true_and,not_false_eq_true];rcases UZ v with⟨hc,EO⟩|⟨hc,EO⟩
   all_goals simp only[hc,reduceCtorEq,false_imp_iff,true_imp_iff,not_true_eq_false,not_false_eq_true,true_and,and_true]
   all_goals repeat' first|refine⟨fun _=>?_,fun _=>?_⟩|(intro h)
   all_goals first
    |exact no (by unfold Za.okh Jr;omega)
    |exact lp (by unfold Za.okh Jr;omega) _ ‹_›
    | (exfalso;omega))
  exact h
theorem c76{v:Za}(hw:Wf v):Ze PG 76 [v.av] (.i .i64<|De v):=by
 obtain ⟨x,rfl,h⟩:=p76 H.f76 (v0:=v) (K:=fun x=>x=De v) (by
  unfold ET De;refine⟨_,_,U4 H 130 hw<|by decide,?_⟩;unfold Up Vl;by_cases h:Vz 130 v=true/\v.nodes<=5000
  ·rw[kC h,kC<|by simpa using h];exact⟨fun h=>(by cases h),fun _=>rfl⟩
  ·rw[kA h,kA<|by simpa using h];exact ⟨fun _=>rfl,fun h=>(by cases h)⟩)
 exact h
theorem El{v:Za}(hw:Wf v):Ze PG 77 [v.av] (.i .i64<|De v):=by
 obtain ⟨x,rfl,h⟩:=p77 H.f77 (v0:=v) (K:=fun x=>x=De v) (by
  unfold EU De Vl;refine⟨_,U2 H 130 hw<|by decide,fun h=>?_,fun h=>⟨_,UW H 130 (U8<|by simpa using h)<|by decide,fun h1=>?_,fun h1=>?_⟩⟩
  ·rw[show Vz 130 v=false by simpa using h];rfl
  ·have h2:=EV v;rw[show Vz 130 v=true by simpa using h,kI<|by omega];rfl
  ·have h2:=EV v;rw [show Vz 130 v=true by simpa using h,kJ<|by omega];rfl)
 exact h
end
end Go.AM

namespace Go.AM
open Go
theorem Xai(l m:List Za):Yz (l++m)=Yz l++(if l.length=0 then Yz m else Ua m):=by
 cases l with
 |nil=>simp[Yz]
 |cons a l=>simp[Yz,EW]
theorem EX(l:List Za)(i:Nat):(Yz<|l.take i).length<=(Yz l).length:=by have:=Xai (l.take i) (l.drop i);rw[zJ]at this;rw[this,kF];omega
theorem EY{s:Zc}(h:s.length<=400):Sj s=(quo s,0):=by unfold Sj;rw[kA<|by omega]
section
variable{PG:Zb}(H:Has38 PG)
include H
theorem EZ{l:List Za}(hl:l.length<=16)(h :∀x∈l,Ze PG 106 [x.av]<|.s<|Ys x)(hs:(Yz l).length<=10000000):Ze PG 127 [.sl .ext<|l.map Za.row] (.s<|Yz l):=by
 obtain ⟨x,rfl,h⟩:=Xlb H.f127 (l0:=l) (K:=fun x=>x=Yz l) (by
  unfold E0;intro P hP;refine Uz (P:=fun s i=>P s i) (fun i=>Yz<|l.take i) l.length ?_ fun i hi bQ=>?_
  ·apply hP;unfold su E1;rw[kQ];exact⟨fun h=>absurd h<|by omega,fun _=>rfl⟩
  ·apply hP;have h1:=EX l (i+1);rw[E2 hi]at h1 bQ;simp only[kF]at h1;unfold su sv;refine⟨fun _=>⟨fun h2=>?_,fun h2=>?_⟩,fun h=>absurd (show(i:Int)<l.length by omega) h⟩
   ·rw[kC<|by omega]at h1 bQ;refine⟨by rw[Wj];omega,by omega,_,Xi hi,_,h _<|kL hi,?_,?_⟩
    ·rw[kF,Wj];omega
    ·rw[Qu<|by omega];exact bQ
   ·rw[kA<|by omega]at h1 bQ;refine⟨by omega,_,Xi hi,_,h _<|kL hi,?_,?_⟩
    ·rw[Wj];simp only[kD]at h1;omega
    ·rw [Qu<|by omega];simpa using bQ)
 exact h
theorem Il:∀(d:Nat){v:Za},Vz d v=true->Wf v->(Ys v).length<=10000000->Ze PG 106 [v.av] (.s<|Ys v)
 |0,v,h,_,_=>by cases h
 |d+1,v,h,hw,hlen=>by
  have h1:=Bn h;have h2:=Fb h
  have ih :∀x∈v.list,(Yz v.list).length<=10000000->Ze PG 106 [x.av] (.s<|Ys x):=by
   intro x hx hl;obtain⟨i,hi,rfl⟩:=xH hx;refine Il d (h2 _ hx) (hw.e _ hx) ?_;have h3:=EX v.list (i+1);rw[E2 hi]at h3;simp only[kF]at h3;omega
  obtain ⟨x,rfl,h⟩:=Waa H.f106 (v0:=v) (K:=fun x=>x=Ys v) (by
   unfold E3 E4;rw[Sw]at hlen⊢;refine⟨fun k1=>⟨fun h=>?_,fun h=>?_⟩,fun k1=>⟨fun k2=>⟨_,c16 H.toHas03 hw.n.1 hw.n.2,?_⟩,fun k2=>⟨fun k3=>⟨_,Ai H.toHas03 ?_,?_⟩,fun k3=>⟨fun k5=>?_,fun k5=>⟨fun k6=>?_,fun k6=>⟨fun k7=>⟨fun hc=>?_,fun hc=>?_⟩,fun k7=>⟨fun hc=>?_,fun hc=>⟨fun hl=>?_,fun hl=>?_⟩⟩⟩⟩⟩⟩⟩⟩
   ·rw[kC k1,kC h];rfl
   ·rw[kC k1,kA h];rfl
   ·rw[kA k1,kC k2]
   ·unfold Za.okh Jr at h1;omega
   ·rw[kA k1,kA k2,kC k3]
   ·rw[kA k1,kA k2,kA k3,kC k5]at hlen⊢;simp only[kB,kF,kD]at hlen;refine⟨_,EZ H (by unfold Za.okh Jr at h1;omega) (fun x hx=>ih x hx<|by omega)<|by omega,?_,?_,?_⟩
    ·rw[Wj];simp only[kB,kD];omega
    ·rw[Wj];simp only[kB,kD,kF];omega
    ·simp
   ·rw[kA k1,kA k2,kA k3,kA k5,kC k6]at hlen⊢;simp only[kB,kF,kD]at hlen;refine⟨_,EZ H (by unfold Za.okh Jr at h1;omega) (fun x hx=>ih x hx<|by omega)<|by omega,?_,?_,?_⟩
    ·rw[Wj];simp only[kB,kD];omega
    ·rw[Wj];simp only[kB,kD,kF];omega
    ·simp
   ·rw[kA k1,kA k2,kA k3,kA k5,kA k6,kC k7,kC hc];rfl
   ·rw[kA k1,kA k2,kA k3,kA k5,kA k6,kC k7,kA (by rw[hc];decide)]at hlen⊢;simp only[kB,kF,kD]at hlen;refine⟨_,EZ H (by unfold Za.okh Jr at h1;omega) (fun x hx=>ih x hx<|by omega)<|by omega,?_,?_,?_⟩
    ·rw[Wj];simp only[kB,kD];omega
    ·rw[Wj];simp only[kB,kD,kF];omega
    ·simp
   ·rw[kA k1,kA k2,kA k3,kA k5,kA k6,kA k7,kC hc];rfl
   ·rw[kA k1,kA k2,kA k3,kA k5,kA k6,kA k7,kA (by rw[hc];decide),kC<|by omega];rfl
   ·rw[kA k1,kA k2,kA k3,kA k5,kA k6,kA k7,kA (by rw[hc];decide),kA<|by omega]at hlen⊢;have m7:v.list.length=1:=by unfold Za.okh Jr at h1;omega
    obtain⟨w,gC⟩:=List.length_eq_one_iff.1 m7;rw[gC,nW]at hlen⊢;simp only[kB]at hlen;refine⟨w,rfl,_,ih w (by rw[gC];exact jI) (by rw[gC,nW];omega),?_,rfl⟩;rw [Wj];simp only [kB,kD];omega)
  exact h
theorem E5{K:Int->Zc->Prop}{l:List Za}{e0 e1:UInt8}{b:Zc}(hl:l.length<=16)(hx :∀x∈l,∀b:Zc,b.length+(Ys x).length<=100000000->Xc PG 104 (Bl b) [x.av] (fun r=>r=.i .i64 0) (Bl<|b++Ys x))
  (hb:b.length+(Yz l).length+2<=100000000) (hK:K 0 (b++[e0]++Yz l++[e1])):∀P0:Int->Zc->Prop,(∀(t22:Int) (mP:Zc),Fw PG K P0 [e0,e1] l (l.length:Int) t22 mP->P0 t22 mP)->P0 0 (b++[e0]):=by
 intro P hP;have:=Uz (P:=fun m i=>P i m) (fun i=>b++[e0]++Yz (l.take i)) l.length ?_ fun i hi bQ=>?_
 ·simpa[Yz]using this
 ·apply hP;unfold Fw E6 Mf;rw[kQ];refine⟨fun h=>absurd h<|by omega,fun _=>⟨by simp,_,_,Rc H.toHasB (s:=[e1]) ?_,hK⟩⟩;rw[Xk];simp only[kF,kB,kD];omega
 ·apply hP;have h1:=EX l (i+1);rw[E2 hi]at h1 bQ;simp only[kF]at h1;unfold Fw sw;refine⟨fun _=>⟨by omega,_,Xi hi,fun h2=>?_,fun h2=>?_⟩,fun h=>absurd (show(i:Int)<l.length by omega) h⟩
  ·rw[kC<|by omega]at h1 bQ;refine⟨_,_,Rc H.toHasB (s:=[44,32]) ?_,_,_,hx _ (kL hi) _ ?_,fun h=>absurd rfl h,fun _=>?_⟩
   ·rw[Xk];simp only[kF,kB,kD];omega
   ·simp only[kF,kB,kD]at h1⊢;omega
   ·rw[Qu<|by omega];simpa using bQ
  ·rw[kA<|by omega]at h1 bQ;refine⟨_,_,hx _ (kL hi) _ ?_,fun h=>absurd rfl h,fun _=>?_⟩
   ·simp only[kF,kB,kD]at h1⊢;omega
   ·rw[Qu<|by omega];simpa using bQ
set_option maxHeartbeats 1000000 in
theorem U9:∀(d:Nat){v:Za},Vz d v=true->Wf v->∀b:Zc,b.length+(Ys v).length<=100000000->Xc PG 104 (Bl b) [v.av] (fun r=>r=.i .i64 0) (Bl<|b++Ys v)
 |0,v,h,_,_,_=>by cases h
 |d+1,v,h,hw,b,hlen=>by
  have h1:=Bn h;have h2:=Fb h;have ih :∀x∈v.list,∀b:Zc,b.length+(Ys x).length<=100000000->Xc PG 104 (Bl b) [x.av] (fun r=>r=.i .i64 0) (Bl<|b++Ys x):=fun x hx b hb=>U9 d (h2 _ hx) (hw.e _ hx) b hb
  refine(Xah H.f104 (v1:=v) (mP:=b) (K:=fun r b'=>r=0/\b'=b++Ys v) ?_).to fun r b' hk=>?_
  ·have hB :∀{s:Zc}{a:Int},(Ys v)=s->∃r':Int,∃U_:Zc,Xc PG 126 (Bl b) [.s s] (fun r=>r=.tup [.i .i64 r',.ni]) (Bl U_)/\Mf PG (fun r b'=>r=0/\b'=b++Ys v) U_:=by
    intro s a hs;refine⟨_,_,Rc H.toHasB (s:=s) ?_<|hs ▸ VA v,?_⟩
    ·rw[<- hs,Xk];omega
    ·unfold Mf;rw[hs];exact⟨rfl,rfl⟩
   have hk:1<=v.kind/\v.kind<=7:=by unfold Za.okh Jr at h1;omega
   have hn:=hw.n;rw[Sw]at hlen;have ht:=Sw v;unfold E7 E8;refine⟨by omega,?_⟩;have bL:v.kind=1\/v.kind=2\/v.kind=3\/v.kind=4\/v.kind=5\/v.kind=6\/v.kind=7:=by omega
   rcases bL with k|k|k|k|k|k|k
   all_goals rw[k]
   all_goals simp only[k,jS,reduceCtorEq,jT,Int.reduceEq]at ht hlen
   ·refine⟨[],rfl,?_⟩;unfold Rn Ns Sh;rw[k];refine⟨fun _=>⟨fun h=>hB (a:=0) ?_,fun h=>⟨fun _=>hB (a:=0) ?_,fun h=>by simp at h⟩⟩,fun h=>absurd rfl h⟩
    ·rw[ht,kC<|by simpa using h];rfl
    ·rw[ht,kA<|by simpa using h];rfl
   ·refine⟨[],rfl,?_⟩;unfold Rn Ns Sh Sx;rw[k];refine⟨fun h=>absurd h<|by decide,fun _=>⟨fun h=>(by cases h),fun _=>⟨fun h=>(by simp at h),fun _=>⟨fun _=>⟨_,c15 H.toHas03 hn.1 hn.2,hB (a:=0) ht⟩,fun h=>by simp at h⟩⟩⟩⟩
   ·refine⟨[],rfl,?_⟩;unfold Rn Ns Sh Sx Ce;rw[k];refine⟨fun h=>absurd h<|by decide,fun _=>⟨fun h=>(by cases h),fun _=>⟨fun h=>(by simp at h),fun _=>⟨fun h=>(by simp at h),fun _=>⟨fun _=>⟨_,_,c11 H.toHas03 v.text,?_⟩,fun h=>by simp at h⟩⟩⟩⟩⟩;rw[EY (by unfold Za.okh Jr at h1;omega)];refine⟨_,_,Rc H.toHasB (s:=quo v.text) ?_,rfl,?_⟩
    ·rw[Xk];omega
    ·rw[ht]
   ·refine⟨[],rfl,?_⟩;unfold Rn Ns Sh Sx Ce Pl;rw[k];refine⟨fun h=>absurd h<|by decide,fun _=>⟨fun h=>(by cases h),fun _=>⟨fun h=>(by simp at h),fun _=>⟨fun h=>(by simp at h),fun _=>⟨fun h=>(by simp at h),fun _=>⟨fun _=>⟨fun hc=>hB (a:=0) ?_,fun hc=>⟨fun _=>⟨fun hl=>hB (a:=0) ?_,fun hl=>⟨fun _=>?_,fun h=>absurd rfl h⟩⟩,fun h=>absurd rfl h⟩⟩,fun h=>absurd rfl h⟩⟩⟩⟩⟩⟩
    ·rw[ht,kC hc];rfl
    ·rw[ht,kA (by rw[hc];decide),kC<|by omega];rfl
    ·rw[kA (by rw[hc];decide),kA<|by omega]at ht hlen;have m7:v.list.length=1:=by unfold Za.okh Jr at h1;omega
     obtain⟨w,gC⟩:=List.length_eq_one_iff.1 m7;rw[gC,nW]at hlen ht;simp only[kB]at hlen;refine⟨_,_,Rc H.toHasB (s:=[38]) ?_,w,by rw[gC];rfl,_,_,ih w (by rw[gC];exact jI) _ ?_,rfl,?_⟩
     ·rw[Xk];simp only[kB,kD];omega
     ·simp only[kF,kB,kD];omega
     ·rw[ht];simp
   ·have hc:v.cut=false:=by
     have:v.cut.toNat=0:=by unfold Za.okh Jr at h1;omega
     cases hc:v.cut
     ·rfl
     ·rw[hc]at this;cases this
    refine⟨[123,125],rfl,?_⟩;unfold Rn Ns Sh Sx Ce Pl;rw[k];refine⟨fun h=>absurd h<|by decide,fun _=>⟨fun h=>(by cases h),fun _=>⟨fun h=>(by simp at h),fun _=>⟨fun h=>(by simp at h),fun _=>⟨fun h=>(by simp at h),fun _=>⟨fun h=>absurd h<|by decide,fun _=>⟨fun h=>(by cases h),fun _=>⟨fun h=>absurd h<|by decide,fun _=>⟨fun h=>absurd h<|by decide,fun _=>⟨fun h=>(by rw[hc]at h;cases h),fun _=>⟨by decide,_,_,Rc H.toHasB (s:=[123]) ?_,?_⟩⟩⟩⟩⟩⟩⟩⟩⟩⟩⟩
    ·rw[Xk];simp only[kB,kD,kF]at hlen⊢;omega
    ·simp only[kB,kD,kF]at hlen;exact E5 H (by unfold Za.okh Jr at h1;omega) ih (by omega) ⟨rfl,by rw[ht];simp⟩
   ·have hc:v.cut=false:=by
     have:v.cut.toNat=0:=by unfold Za.okh Jr at h1;omega
     cases hc:v.cut
     ·rfl
     ·rw[hc]at this;cases this
    refine⟨[91,93],rfl,?_⟩;unfold Rn Ns Sh Sx Ce Pl;rw[k];refine⟨fun h=>absurd h<|by decide,fun _=>⟨fun h=>(by cases h),fun _=>⟨fun h=>(by simp at h),fun _=>⟨fun h=>(by simp at h),fun _=>⟨fun h=>(by simp at h),fun _=>⟨fun h=>absurd h<|by decide,fun _=>⟨fun h=>(by cases h),fun _=>⟨fun h=>absurd h<|by decide,fun _=>⟨fun h=>absurd h<|by decide,fun _=>⟨fun h=>(by rw[hc]at h;cases h),fun _=>⟨by decide,_,_,Rc H.toHasB (s:=[91]) ?_,?_⟩⟩⟩⟩⟩⟩⟩⟩⟩⟩⟩
    ·rw[Xk];simp only[kB,kD,kF]at hlen⊢;omega
    ·simp only[kB,kD,kF]at hlen;exact E5 H (by unfold Za.okh Jr at h1;omega) ih (by omega) ⟨rfl,by rw[ht];simp⟩
   ·refine⟨[60,62],rfl,?_⟩;unfold Rn Ns Sh Sx Ce Pl;rw[k];refine⟨fun h=>absurd h<|by decide,fun _=>⟨fun h=>(by cases h),fun _=>⟨fun h=>(by simp at h),fun _=>⟨fun h=>(by simp at h),fun _=>⟨fun h=>(by simp at h),fun _=>⟨fun h=>absurd h<|by decide,fun _=>⟨fun h=>(by cases h),fun _=>⟨fun h=>absurd h<|by decide,fun _=>⟨fun h=>absurd h<|by decide,fun _=>⟨fun hc=>hB (a:=0) ?_,fun hc=>⟨by decide,_,_,Rc H.toHasB (s:=[60]) ?_,?_⟩⟩⟩⟩⟩⟩⟩⟩⟩⟩⟩
    ·rw[ht,kC hc];rfl
    ·rw[kA (by rw[hc];decide)]at hlen;rw[Xk];simp only[kB,kD,kF]at hlen⊢;omega
    ·rw[kA (by rw[hc];decide)]at hlen ht;simp only[kB,kD,kF]at hlen;exact E5 H (by unfold Za.okh Jr at h1;omega) ih (by omega) ⟨rfl,by rw[ht];simp⟩
  ·obtain⟨x0,h1,rfl,rfl⟩:=hk;exact⟨h1,rfl⟩
theorem c72{v:Za}(hw:Wf v):Ze PG 72 [v.av] (.tup [.s<|if Vl v=true then Ys v else [],.i .i64<|De v]):=by
 obtain ⟨x,y,⟨rfl,rfl⟩,h⟩:=p72 H.f72 (v0:=v) (K:=fun x y=>x=(if Vl v=true then Ys v else [])/\y=De v) (by
  unfold E9;refine⟨_,c76 H hw,fun h=>?_,fun h=>?_⟩
  ·unfold De at h⊢;by_cases hf:Vl v=true
   ·rw[kC hf]at h;exact absurd rfl h
   ·rw[kA hf,kA hf];exact⟨rfl,rfl⟩
  ·unfold De at h⊢;by_cases hf:Vl v=true
   ·rw[kC hf,kC hf];have:=Mp hf;refine⟨_,_,U9 H 130 (Dz hf).1 hw [] (by simp only[kD];omega),fun h=>absurd rfl h,fun _=>⟨_,UN H.toHasB (by rw[jV,Xk];omega),rfl,rfl⟩⟩
   ·rw [kA hf] at h;exact absurd (by decide) h)
 exact h
end
end Go.AM

namespace Go.AM
open Go
theorem E_:∀{s:Zc}{i:Nat},i<Uo s->∃c,s[i]?=some c/\Gk c=true
 |[],i,h=>absurd h (zZ _)
 |c::s,0,h=>by
  rw[Uo]at h;split at h
  ·rename_i hc;exact⟨c,rfl,hc⟩
  ·exact absurd h (zZ _)
 |c::s,i+1,h=>by
  rw[Uo]at h;split at h
  ·exact E_ (s:=s) (i:=i) (by omega)
  ·exact absurd h (zZ _)
theorem FA:∀{s:Zc}{c:UInt8},s[Uo s]?=some c->Gk c=false
 |[],c,h=>by cases h
 |x::s,c,h=>by
  rw[Uo]at h;split at h
  ·rw[Nat.add_comm,zN]at h;exact FA h
  ·rename_i hx;rw[yT]at h;injection h with h;subst h;simpa using hx
theorem VB{s:Zc}{i:Nat}(h:i<Wq s):∃c,s[i]?=some c/\(Gk c=true\/(i=0/\c=45)):=by
 unfold Wq at h;split at h
 ·rename_i h1
  cases s with
  |nil=>cases h1
  |cons x s=>
   injection h1 with h1;subst h1
   cases i with
   |zero=>exact⟨45,rfl,.inr ⟨rfl,rfl⟩⟩
   |succ i=>
    obtain⟨c,h2,h3⟩:=E_ (s:=s) (i:=i) (by simp only[yG,zU]at h;omega);exact⟨c,h2,.inl h3⟩
 ·obtain⟨c,h2,h3⟩:=E_ h;exact⟨c,h2,.inl h3⟩
theorem VC{s:Zc}{c:UInt8}(h:s[Wq s]?=some c):Gk c=false/\(Wq s=0->c≠45):=by
 unfold Wq at *;split at h
 ·rename_i h1;rw[kC h1]
  cases s with
  |nil=>cases h1
  |cons x s=>
   simp only[yG,zU]at h⊢;rw[Nat.add_comm,zN]at h;exact⟨FA h,fun h=>absurd h<|by omega⟩
 ·rename_i h1;rw[kA h1];refine⟨FA h,fun h2=>?_⟩;rw[h2]at h;rintro rfl;exact h1 (by rw[yY];exact h)
theorem FB{c:UInt8}:Gk c=true↔48<=c.toNat/\c.toNat<=57:=by unfold Gk;simp
theorem VD{c:UInt8}:Gk c=false↔¬(48<=c.toNat/\c.toNat<=57):=by rw[<- FB];simp
theorem sx:qs []=none:=rfl
theorem VE:qs [92]=none:=rfl
theorem VF(x:UInt8)(r:Zc):qs (92::x::r)=(qs r).map (·+2):=rfl
theorem VG(r:Zc):qs (34::r)=some 1:=by rw[qs.eq_def];rfl
theorem VH{c:UInt8}(h1:¬c=92)(h2:¬c=34)(r:Zc):qs (c::r)=(qs r).map (·+1):=by rw[qs.eq_def];simp only[kA h1,kA h2]
theorem VI{c:UInt8}:c=45↔c.toNat=45:=⟨fun h=>by rw[h];rfl,fun h=>Uq h⟩
section
variable{PG:Zb}(H:Has38 PG)
include H
theorem Gw(p s:Zc):Xc PG 128 (Bx [.s s]) [.s p] (fun r=>r=.b (Zn p s).2) (Bx [.s (Zn p s).1]):=by
 refine(Wdd H.f128 (co:=p) (mP:=⟨s⟩) (K:=fun r b=>r=(Zn p s).2/\b=⟨(Zn p s).1⟩) ?_).to (b:=⟨(Zn p s).1⟩) fun r b' hk=>?_
 ·unfold FC;exact⟨_,_,Au H.toHas03 s p,rfl,rfl⟩
 ·obtain⟨x0,h1,rfl,rfl⟩:=hk;exact⟨h1,rfl⟩
theorem sy(s p:Zc):Ze PG 132 [.s s,.s p] (.b (Zn p s).2):=by
 obtain ⟨x,rfl,h⟩:=Xsx H.f132 (s0:=s) (ck:=p) (K:=fun x=>x=(Zn p s).2) (by
  unfold FD Zn;refine⟨fun h=>⟨by omega,by omega,?_⟩,fun h=>?_⟩
  ·rw[Kb];by_cases h1:s.take p.length=p
   ·rw[kC h1];simp[h1]
   ·rw[kA h1];simp[h1]
  ·rw[kA];intro h1;have:=jC List.length h1;simp only[kW]at this;omega)
 exact h
theorem VJ{s:Zc}(hs:s.length<=1000000000):Xc PG 131 (Bx [.s s]) [] (fun r=>r=.tup [.i .i64 (Qq s).1,.b (Qq s).2.1]) (Bx [.s (Qq s).2.2]):=by
 refine(Xey H.f131 (mP:=⟨s⟩) (K:=fun x y b=>x=(Qq s).1/\y=(Qq s).2.1/\b=⟨(Qq s).2.2⟩) ?_).to (b:=⟨(Qq s).2.2⟩) fun r b' hk=>?_
 ·unfold FE FF;intro P hP;have hle:=sA s;refine UU (P:=fun i=>P i ⟨s⟩) (Wq s) ?_ fun i hi ih=>?_
  ·apply hP;unfold sB
   have fin:0<=((Wq s:Nat):Int)/\((Wq s:Nat):Int).toNat<=s.length/\∃r:Int,∃r':Int,Ze PG 21 [.s<|s.take ((Wq s:Nat):Int).toNat] (.tup [.i .i64 r,.i .i64 r'])/\0<=((Wq s:Nat):Int)/\((Wq s:Nat):Int).toNat<=s.length/\r=(Qq s).1/\(decide<|r'=0)=(Qq s).2.1/\Sc.mk (s.drop ((Wq s:Nat):Int).toNat)=⟨(Qq s).2.2⟩:=by
    rw[Kb];exact⟨by omega,hle,_,_,c21 H.toHas03 _,by omega,hle,rfl,rfl,rfl⟩
   refine⟨fun h=>?_,fun _=>fin⟩;have aK:Wq s<s.length:=by simp only at h;omega
   obtain⟨h1,h2⟩:=VC (kH aK);have h1:=VD.1 h1;have h2:Wq s=0->¬(s[Wq s].toNat=45):=fun h=>fun h'=>h2 h (VI.2 h')
   refine ⟨by omega,s[Wq s],Xi aK,fun h3=>⟨by omega,s[Wq s],Xi aK,fun h4=>absurd ⟨by omega,by omega⟩ h1,fun h4=>⟨fun h5=>⟨by omega,s[Wq s],Xi aK,fun h6=>absurd (show s[Wq s].toNat=45 by omega) (h2 (by omega)),fun _=>fin⟩,fun _=>fin⟩⟩,
    fun h3=>⟨fun h5=>⟨by omega,s[Wq s],Xi aK,fun h6=>absurd (show s[Wq s].toNat=45 by omega)<|h2<|by omega,fun _=>fin⟩,fun _=>fin⟩⟩
  ·apply hP;obtain⟨c,hc,hd⟩:=VB hi;have cM:s[((i:Nat):Int).toNat]?=some c:=hc;rw[FB,VI]at hd;have FG:P (IntKind.i64.wrap<|(i:Int)+1) ⟨s⟩:=by rw[Qu<|by omega];exact ih
   unfold sB
   refine ⟨fun _=>⟨by omega,c,cM,fun h3=>⟨by omega,c,cM,fun _=>FG,fun h4=>⟨fun h5=>⟨by omega,c,cM,fun _=>FG,fun h6=>absurd h6 (by omega)⟩,fun h5=>absurd h5 (by omega)⟩⟩,
    fun h3=>⟨fun h5=>⟨by omega,c,cM,fun _=>FG,fun h6=>absurd h6<|by omega⟩,fun h5=>absurd h5<|by omega⟩⟩,fun h=>absurd (show (i:Int)<s.length by omega) h⟩
 ·obtain⟨x0,x1,h1,rfl,rfl,rfl⟩:=hk;exact⟨h1,rfl⟩
theorem VK{s:Zc}(hs:s.length<=1000000000):Ze PG 135 [.s s] (.i .i64 (Wq s:Int)):=by
 obtain ⟨x,rfl,h⟩:=Xbm H.f135 (s0:=s) (K:=fun x=>x=(Wq s:Int)) (by
  have hle:=sA s
  have key :∀k:Nat,k<=Wq s->(Wq s=0\/k≠0\/s.head?≠some 45)->nX PG (fun x=>x=(Wq s:Int)) s (k:Int):=by
   intro k hk FH;unfold nX;intro P hP
   have go :∀m i:Nat,i+m=Wq s->(Wq s=0\/i≠0\/s.head?≠some 45)->P (i:Int):=by
    intro m
    induction m with
    |zero=>
     intro i hi _;simp only[zV]at hi;subst hi;apply hP;unfold sC nY;refine⟨fun h=>?_,fun _=>rfl⟩;have aK:Wq s<s.length:=by omega
     obtain⟨h1,h2⟩:=VC (kH aK);have h1:=VD.1 h1;exact⟨by omega,s[Wq s],Xi aK,fun h3=>⟨by omega,s[Wq s],Xi aK,fun h4=>absurd ⟨by omega,by omega⟩ h1,fun _=>rfl⟩,fun _=>rfl⟩
    |succ m ih=>
     intro i hi h0;apply hP;obtain⟨c,hc,hd⟩:=VB (s:=s) (i:=i) (by omega);have cM:s[((i:Nat):Int).toNat]?=some c:=hc
     have hd:Gk c=true:=by
      rcases hd with hd|⟨rfl,rfl⟩
      ·exact hd
      ·rcases h0 with h0|h0|h0
       ·omega
       ·exact absurd rfl h0
       ·rw[yY]at h0;exact absurd hc h0
     rw[FB]at hd;unfold sC;refine⟨fun _=>⟨by omega,c,cM,fun h3=>⟨by omega,c,cM,fun _=>?_,fun h4=>absurd h4<|by omega⟩,fun h3=>absurd h3<|by omega⟩,fun h=>absurd (show(i:Int)<s.length by omega) h⟩;rw[Qu<|by omega];exact ih (i+1) (by omega) (.inr<|.inl<|by omega)
   exact go (Wq s-k) k (by omega) FH
  unfold FI
  have e:(Zn [45] s).2=true↔s.head?=some 45:=by
   cases s with
   |nil=>rw[sD];simp
   |cons c s=>
    by_cases hc:c=45
    ·subst hc;have:=Js [45] s;rw[show [45]++s=45::s from rfl]at this;rw[this];simp
    ·rw[Pn<|fun h=>hc h.symm];simp[hc]
  refine⟨_,sy H s [45],fun h=>key 1 ?_<|.inr<|.inl<|by decide,fun h=>key 0 (zO _)<|.inr<|.inr ?_⟩
  ·unfold Wq;rw[kC<|e.1 h];omega
  ·intro h';rw[e.2 h']at h;cases h)
 exact h
theorem Yzj{s:Zc}(hs:s.length<=1000000000):Xc PG 130 (Bx [.s s]) [] (fun r=>r=.tup [.s (Hg s).1,.b (Hg s).2.1]) (Bx [.s (Hg s).2.2]):=by
 refine(Xsi H.f130 (mP:=⟨s⟩) (K:=fun x y b=>x=(Hg s).1/\y=(Hg s).2.1/\b=⟨(Hg s).2.2⟩) ?_).to (b:=⟨(Hg s).2.2⟩) fun r b' hk=>?_
 ·unfold FJ FK;intro P hP
  have go :∀m i:Nat,s.length<=i+m->i<=s.length+1->1<=i->qs (s.drop 1)=(qs<|s.drop i).map (·+(i-1))->P (i:Int) ⟨s⟩:=by
   intro m
   induction m using Nat.strongRecOn with
   |_ m ih=>
   intro i hm hi h1 hq;apply hP;unfold FL;refine⟨fun h=>?_,fun h=>?_⟩
   ·have:s.drop i=[]:=yF (by simp only at h;omega);rw[this,sx,Option.map_none]at hq;unfold Hg;rw[hq];exact⟨rfl,rfl,rfl⟩
   ·have aK:i<s.length:=by simp only at h;omega
    have hd:s.drop i=s[i]::s.drop (i+1):=zE aK;refine⟨by omega,s[i],Xi aK,fun h2=>?_,fun h2=>⟨by omega,s[i],Xi aK,fun h3=>?_,fun h3=>?_⟩⟩
    ·rw[Yq (by omega)<|by omega,show(i:Int)+2=((i+2:Nat):Int)by omega];have hc:s[i]=92:=Uq (by show s[i].toNat=92;omega);rw[hd,hc]at hq;by_cases hl:i+1<s.length
     ·have cK:s.drop (i+1)=s[i+1]::s.drop (i+2):=zE hl;refine ih (m-2) (by omega) (i+2) (by omega) (by omega) (by omega) ?_;rw[cK,VF,Option.map_map]at hq;rw[hq]
      congr 1
      funext x
      simp only[Function.comp];omega
     ·have cK:s.drop (i+1)=[]:=yF (by omega);refine ih (m-1) (by omega) (i+2) (by omega) (by omega) (by omega) ?_;rw[cK,VE]at hq;rw[hq,yF<|show s.length<=i+2 by omega,sx];rfl
    ·rw[Qu<|by omega];have hc:¬s[i]=92:=fun e=>h2 (by rw[e];rfl)
     have cM:¬s[i]=34:=fun e=>h3 (by rw[e];rfl)
     rw[hd,VH hc cM,Option.map_map]at hq;refine ih (m-1) (by omega) (i+1) (by omega) (by omega) (by omega) ?_;rw[hq]
     congr 1
     funext x
     simp only[Function.comp];omega
    ·rw[Qu<|by omega,Kb];have hc:s[i]=34:=Uq (by show s[i].toNat=34;simp only[ne_eq,kP]at h3;omega);rw[hd,hc,VG,kK]at hq;have e:1+(i-1)+1=i+1:=by omega
     refine⟨by omega,by show i+1<=s.length;omega,_,_,c25 H.toHas03 _,by omega,by show i+1<=s.length;omega,?_⟩;unfold Hg;rw[hq];simp[e]
  exact go s.length 1 (by omega) (by omega) (by omega) (by simp)
 ·obtain⟨x0,x1,h1,rfl,rfl,rfl⟩:=hk;exact⟨h1,rfl⟩
theorem Xzk{s:Zc}(hs:s.length<=1000000000):Ze PG 134 [.s s] (.i .i64<|match qs (s.drop 1)with|none=>0|some k=>((k+1:Nat):Int)):=by
 obtain ⟨x,rfl,h⟩:=Ywb H.f134 (s0:=s) (K:=fun x=>x=(match qs (s.drop 1) with | none=>0 | some k=>((k+1:Nat):Int))) (by
  unfold FN;intro P hP
  have go :∀m i:Nat,s.length<=i+m->i<=s.length+1->1<=i->qs (s.drop 1)=(qs<|s.drop i).map (·+(i-1))->P (i:Int):=by
   intro m
   induction m using Nat.strongRecOn with
   |_ m ih=>
   intro i hm hi h1 hq;apply hP;unfold FO sE FP;refine⟨fun h=>?_,fun h=>?_⟩
   ·have aK:i<s.length:=by omega
    have hd:s.drop i=s[i]::s.drop (i+1):=zE aK;refine⟨by omega,s[i],Xi aK,fun h2=>?_,fun h2=>⟨by omega,s[i],Xi aK,fun h3=>?_,fun h3=>?_⟩⟩
    ·rw[Qu<|by omega,Qu<|by omega];have hc:s[i]=92:=Uq (by show s[i].toNat=92;omega);rw[hd,hc]at hq;by_cases hl:i+1<s.length
     ·have cK:s.drop (i+1)=s[i+1]::s.drop (i+2):=zE hl;refine ih (m-2) (by omega) (i+2) (by omega) (by omega) (by omega) ?_;rw[cK,VF,Option.map_map]at hq;rw[hq]
      congr 1
      funext x
      simp only[Function.comp];omega
     ·have cK:s.drop (i+1)=[]:=yF (by omega);refine ih (m-1) (by omega) (i+2) (by omega) (by omega) (by omega) ?_;rw[cK,VE]at hq;rw[hq,yF<|show s.length<=i+2 by omega,sx];rfl
    ·rw[Qu<|by omega];have hc:s[i]=34:=Uq (by show s[i].toNat=34;omega);rw[hd,hc,VG,kK]at hq;rw[hq];simp only;omega
    ·rw[Qu<|by omega];have hc:¬s[i]=92:=fun e=>h2 (by rw[e];rfl)
     have cM:¬s[i]=34:=fun e=>h3 (by rw[e];rfl)
     rw[hd,VH hc cM,Option.map_map]at hq;refine ih (m-1) (by omega) (i+1) (by omega) (by omega) (by omega) ?_;rw[hq]
     congr 1
     funext x
     simp only[Function.comp];omega
   ·have:s.drop i=[]:=yF (by omega);rw[this,sx,Option.map_none]at hq;rw[hq]
  exact go s.length 1 (by omega) (by omega) (by omega) (by simp))
 exact h
end
end Go.AM

namespace Go.AM
open Go
theorem VL(s:Zc):(Qq s).2.2.length<=s.length:=by unfold Qq;simp
theorem Wcn(s:Zc):(Hg s).2.2.length<=s.length:=by unfold Hg;split<;>simp
theorem Kf(p s:Zc):(Zn p s).1.length<=s.length:=by unfold Zn;split<;>simp
section
variable{f:Zc->Za × Bool × Zc}
theorem VM{kind:Int}{stop:Zc}(hf :∀s,(f s).2.2.length<=s.length):∀(n:Nat) (acc:List Za) (s:Zc),(Uw f kind stop n acc s).2.2.length<=s.length
 |0,acc,s=>kU _
 |n+1,acc,s=>by
  have h1:=hf s;have h2:=Kf stop (f s).2.2;have h3:=Kf [44,32] (Zn stop (f s).2.2).1;rw[Uw];split
  ·exact h1
  ·split
   ·exact kX h2 h1
   ·split
    ·exact kX h3 (kX h2 h1)
    ·exact kX (VM hf n _ _) (kX h3<|kX h2 h1)
theorem FQ{kind:Int}{stop s:Zc}(hf :∀s,(f s).2.2.length<=s.length):(Qg f kind stop s).2.2.length<=s.length:=by
 unfold Qg;split
 ·exact Kf _ _
 ·exact kX (VM hf 17 [] _) (Kf _ _)
theorem Mw{c:Prop}[Decidable c]{a b:Za × Bool × Zc}{n:Nat}(ha:a.2.2.length<=n)(hb:b.2.2.length<=n):(if c then a else b).2.2.length<=n:=by
 split
 ·exact ha
 ·exact hb
theorem Ct:∀(d:Nat) (s:Zc),(Jn d s).2.2.length<=s.length
 |0,s=>kU _
 |d+1,s=>by
  have ih:=Ct d;rw[Jn]
  exact Mw (kU _) (Mw (Kf _ _) (Mw (Kf _ _) (Mw (Kf _ _) (Mw (Kf _ _) (Mw (Kf _ _) (Mw (kX (ih _) (Kf _ _)) (Mw (kX (FQ ih) (Kf _ _))
   (Mw (kX (FQ ih)<|Kf _ _)<|Mw (kX (FQ ih)<|Kf _ _)<|Mw (Wcn _)<|VL _))))))))
end
section
variable{PG:Zb}(H:Has38 PG)
include H
abbrev ScR(r:Za × Bool × Zc):AV->Prop:=fun x=>∃o:Zr,x=.tup [.ag [.i .u8 r.1.kind,.i .i64 r.1.int,.s r.1.text,.sl o<|List.map Za.row r.1.list,.b r.1.cut],.b r.2.1]
theorem FT{f:Zc->Za × Bool × Zc}{d:Nat}(hf :∀s,(f s).2.2.length<=s.length)(hc :∀s:Zc,s.length<=1000000000->Xc PG 107 (Bx [.s s]) [.i .i64 (d:Int)] (ScR<|f s) (Bx [.s (f s).2.2])){kind:Int}{stop s:Zc}(hs:s.length<=1000000000):
  Xc PG 129 (Bx [.s s]) [.i .u8 kind,.s stop,.i .i64 (d:Int)] (ScR<|Qg f kind stop s) (Bx [.s (Qg f kind stop s).2.2]):=by
 refine(Wbo H.f129 (dj:=kind) (ct:=stop) (fj:=(d:Int)) (mP:=⟨s⟩) (K:=fun x y b=>x=(Qg f kind stop s).1/\y=(Qg f kind stop s).2.1/\b=⟨(Qg f kind stop s).2.2⟩) ?_).to (b:=⟨(Qg f kind stop s).2.2⟩) fun r b' hk=>?_
 ·unfold FU;refine⟨_,⟨(Zn stop s).1⟩,Gw H stop s,fun h=>?_,fun h P hP=>?_⟩
  ·unfold Qg;rw[kC h];exact⟨rfl,rfl,rfl⟩
  ·have e:Qg f kind stop s=Uw f kind stop 17 [] (Zn stop s).1:=by unfold Qg;rw[kA (by rw[h];decide)]
   have hl:=Kf stop s;generalize (Zn stop s).1=t at hl e⊢
   have go :∀(n:Nat) (acc:List Za) (u:Zc),acc.length+n=17->u.length<=t.length->Uw f kind stop 17 [] t=Uw f kind stop n acc u->P (Za.mk 0 0 [] [] false) (Za.mk kind 0 [] acc false) ⟨u⟩:=by
    intro n
    induction n with
    |zero=>
     intro acc u ha hu hq;apply hP;rw[e,hq];unfold sF FV;refine⟨fun h=>absurd h (by simp only[Za.list_mk];omega),fun _=>⟨rfl,rfl,rfl⟩⟩
    |succ n ih=>
     intro acc u ha hu hq;apply hP;rw[e,hq,Uw];have h1:=hf u;have h2:=Kf stop (f u).2.2;have h3:=Kf [44,32] (Zn stop (f u).2.2).1;unfold sF;refine⟨fun _=>⟨(f u).1,(f u).2.1,⟨(f u).2.2⟩,hc u<|by omega,fun g1=>?_,fun g1=>⟨⟨?_,?_⟩,_,⟨(Zn stop (f u).2.2).1⟩,Gw H stop (f u).2.2,fun g2=>?_,fun g2=>⟨_,⟨(Zn [44,32] (Zn stop (f u).2.2).1).1⟩,Gw H [44,32] (Zn stop (f u).2.2).1,fun g3=>?_,fun g3=>?_⟩⟩⟩,fun h=>absurd (show(acc.length:Int)<=16 by omega) h⟩
     ·rw[kC<|by simpa using g1];exact⟨rfl,rfl,rfl⟩
     ·simp only[Za.list_mk,kB,kD,Xk];omega
     ·simp only[Za.list_mk,kB,kD,Xk];omega
     ·rw[kA<|by simpa using g1,kC g2];exact⟨rfl,rfl,rfl⟩
     ·rw[kA<|by simpa using g1,kA (by rw[g2];decide),kC<|by simpa using g3];exact⟨rfl,rfl,rfl⟩
     ·refine ih (acc++[(f u).1]) _ (by simp;omega) (by omega) ?_;rw[hq,Uw,kA<|by simpa using g1,kA (by rw[g2];decide),kA<|by simpa using g3]
   exact go 17 [] t rfl (kU _) rfl
 ·obtain⟨x0,x1,h1,rfl,rfl,rfl⟩:=hk;exact⟨h1,rfl⟩
theorem VN:∀(d:Nat){s:Zc},s.length<=1000000000->d<=1000->Xc PG 107 (Bx [.s s]) [.i .i64 (d:Int)] (ScR<|Jn d s) (Bx [.s (Jn d s).2.2])
 |0,s,hs,hd=>by
  refine(VO H.f107 (bg:=((0:Nat):Int)) (mP:=⟨s⟩) (K:=fun x y b=>x=(Jn 0 s).1/\y=(Jn 0 s).2.1/\b=⟨(Jn 0 s).2.2⟩) ?_).to (b:=⟨(Jn 0 s).2.2⟩) fun r b' hk=>?_
  ·unfold sG sH;exact⟨fun _=>⟨rfl,rfl,rfl⟩,fun h=>absurd rfl h⟩
  ·obtain⟨x0,x1,h1,rfl,rfl,rfl⟩:=hk;exact⟨h1,rfl⟩
 |d+1,s,hs,hd=>by
  have ih:=fun s hs=>@VN d s hs (by omega)
  have hm:IntKind.i64.wrap (((d+1:Nat):Int)-1)=(d:Int):=by rw[Yq (by omega)<|by omega];omega
  refine(VO H.f107 (bg:=((d+1:Nat):Int)) (mP:=⟨s⟩) (K:=fun x y b=>x=(Jn (d+1) s).1/\y=(Jn (d+1) s).2.1/\b=⟨(Jn (d+1) s).2.2⟩) ?_).to (b:=⟨(Jn (d+1) s).2.2⟩) fun r b' hk=>?_
  ·have e:=Jn.eq_2 s d;unfold sG sH;refine⟨fun h=>absurd h<|by omega,fun _=>⟨fun h=>?_,fun h0=>?_⟩⟩
   ·rw[e,kC h];exact⟨rfl,rfl,rfl⟩
   rw[kA h0]at e;unfold FW;refine⟨_,⟨(Zn Ug s).1⟩,Gw H Ug s,?_⟩;unfold FX;refine⟨fun h=>?_,fun h=>?_⟩
   ·rw[e,kC h];exact⟨rfl,rfl,rfl⟩
   rw[kA (by rw[h];decide)]at e;rw[Ni h];refine⟨_,⟨(Zn Qm s).1⟩,Gw H Qm s,?_⟩;clear h;unfold FY;refine⟨fun h=>?_,fun h=>?_⟩
   ·rw[e,kC h];exact⟨rfl,rfl,rfl⟩
   rw[kA (by rw[h];decide)]at e;rw[Ni h];refine⟨_,⟨(Zn Ub s).1⟩,Gw H Ub s,?_⟩;clear h;unfold FZ;refine⟨fun h=>?_,fun h=>?_⟩
   ·rw[e,kC h];exact⟨rfl,rfl,rfl⟩
   rw[kA (by rw[h];decide)]at e;rw[Ni h];refine⟨_,⟨(Zn Um s).1⟩,Gw H Um s,?_⟩;clear h;unfold F1;refine⟨fun h=>?_,fun h=>?_⟩
   ·rw[e,kC h];exact⟨rfl,rfl,rfl⟩
   rw[kA (by rw[h];decide)]at e;rw[Ni h];refine⟨_,⟨(Zn Ur s).1⟩,Gw H Ur s,?_⟩;clear h;unfold F2;refine⟨fun h=>?_,fun h=>?_⟩
   ·rw[e,kC h];exact⟨rfl,rfl,rfl⟩
   rw[kA (by rw[h];decide)]at e;rw[Ni h];refine⟨_,⟨(Zn [38] s).1⟩,Gw H [38] s,?_⟩;clear h;unfold F3;rw[hm];have l1:=Kf [38] s;refine⟨fun h=>⟨_,_,⟨_⟩,ih _<|kX l1 hs,?_⟩,fun h=>?_⟩
   ·rw[e,kC h];exact⟨rfl,rfl,rfl⟩
   rw[kA (by rw[h];decide)]at e;rw[Ni h];have l1:=Kf [123] s;refine⟨_,⟨(Zn [123] s).1⟩,Gw H [123] s,fun h=>⟨_,_,⟨_⟩,FT H (Ct d) ih<|kX l1 hs,?_⟩,fun h=>?_⟩
   ·rw[e,kC h];exact⟨rfl,rfl,rfl⟩
   rw[kA (by rw[h];decide)]at e;rw[Ni h];have l1:=Kf [91] s;refine⟨_,⟨(Zn [91] s).1⟩,Gw H [91] s,fun h=>⟨_,_,⟨_⟩,FT H (Ct d) ih<|kX l1 hs,?_⟩,fun h=>?_⟩
   ·rw[e,kC h];exact⟨rfl,rfl,rfl⟩
   rw[kA (by rw[h];decide)]at e;rw[Ni h];have l1:=Kf [60] s;refine⟨_,⟨(Zn [60] s).1⟩,Gw H [60] s,fun h=>⟨_,_,⟨_⟩,FT H (Ct d) ih<|kX l1 hs,?_⟩,fun h=>?_⟩
   ·rw[e,kC h];exact⟨rfl,rfl,rfl⟩
   rw[kA (by rw[h];decide)]at e;rw[Ni h]
   cases s with
   |nil=>exact absurd rfl h0
   |cons c s=>
    refine⟨c,rfl,fun h=>⟨_,_,⟨_⟩,Yzj H hs,?_⟩,fun h=>⟨_,_,⟨_⟩,VJ H hs,?_⟩⟩
    ·have hc:c=34:=Uq (by show c.toNat=34;omega);subst hc;rw[e,yZ,kC rfl];exact⟨rfl,rfl,rfl⟩
    ·rw[e,kA (by rw[yZ];intro he;injection he with he;exact h (by rw[he];rfl))];exact⟨rfl,rfl,rfl⟩
  ·obtain⟨x0,x1,h1,rfl,rfl,rfl⟩:=hk;exact⟨h1,rfl⟩
omit H in
theorem Hb{v:Za}:De v=0↔Vl v=true:=by
 unfold De;by_cases h:Vl v=true
 ·rw[kC h];simp[h]
 ·rw[kA h];simp[h]
theorem c74{s:Zc}(hs:s.length<=1000000000):Ze PG 74 [.s s] (.tup [(Wv s).1.av,.i .i64 (Wv s).2]):=by
 obtain ⟨x,y,⟨rfl,rfl⟩,h⟩:=p74 H.f74 (s0:=s) (K:=fun x y=>x=(Wv s).1/\y=(Wv s).2) (by
  unfold F4 Wv;refine⟨fun h=>?_,fun h=>⟨_,_,⟨_⟩,VN H 130 hs<|by decide,fun h1=>?_,fun h1=>⟨fun h2=>?_,fun h2=>⟨_,_,c72 H<|Rq _ _,fun h3=>?_,fun h3=>⟨fun h4=>?_,fun h4=>?_⟩⟩⟩⟩⟩
  ·rw[kC<|by omega];exact⟨rfl,rfl⟩
  ·rw[kA<|by omega,kA (by rintro⟨h,_⟩;rw[h]at h1;cases h1)];exact⟨rfl,rfl⟩
  ·rw[kA<|by omega,kA (by rintro⟨_,h,_⟩;exact h2 h)];exact⟨rfl,rfl⟩
  ·rw[kA<|by omega,kA (by rintro⟨_,_,h,_⟩;exact h3<|Hb.2 h)];exact⟨rfl,rfl⟩
  ·rw[kA<|by omega,kA];· exact⟨rfl,rfl⟩
   rintro⟨_,_,h5,h6⟩;rw[kC h5]at h4;exact h4 h6
  ·have h5:=Hb.1 (kP.1 h3);rw[kC h5]at h4;rw[kA<|by omega,kC ⟨by simpa using h1,kP.1 h2,h5,kP.1 h4⟩];exact ⟨rfl,rfl⟩)
 exact h
end
end Go.AM

namespace Go.AM
open Go
theorem Cn(e c:UInt8)(t:Zc):Zn [e] (c::t)=if c=e then (t,true)else (c::t,false):=by
 by_cases h:c=e
 ·subst h;rw[kC rfl];exact Js [c] t
 ·rw[kA h];exact Pn fun h'=>h h'.symm
def Ue(q:Za × Bool × Zc)(v:Za)(r:Zc)(ok:Bool):Prop:=ok=q.2.1/\(ok=true->v=q.1/\r=q.2.2)
theorem Ue.no{q:Za × Bool × Zc}{v:Za}{r:Zc}(h:q.2.1=false):Ue q v r false:=⟨h.symm,fun h=>by cases h⟩
theorem Ue.yes{q:Za × Bool × Zc}{v:Za}{r:Zc}(h:q=(v,true,r)):Ue q v r true:=by subst h;exact⟨rfl,fun _=>⟨rfl,rfl⟩⟩
section
variable{PG:Zb}(H:Has38 PG)
include H
theorem F5{f:Zc->Za × Bool × Zc}{d:Nat}(hd:d<=1000)(hf :∀s,(f s).2.2.length<=s.length)(hc :∀s:Zc,s.length<=1000000000->∃v r ok,Ue (f s) v r ok/\Ze PG 108 [.s s,.i .i64 (d:Int)] (.tup [v.av,.s r,.b ok])){kind:Int}{e:UInt8}{s:Zc}(hs:s.length<=1000000000):
  ∃v r ok,Ue (Qg f kind [e] s) v r ok/\Ze PG 133 [.s s,.i .u8 kind,.i .u8 (e.toNat:Int),.i .i64 ((d+1:Nat):Int)] (.tup [v.av,.s r,.b ok]):=by
 refine Xtj H.f133 (s0:=s) (dj:=kind) (ct:=(e.toNat:Int)) (dk:=((d+1:Nat):Int)) (K:=Ue (Qg f kind [e] s)) ?_;have hm:IntKind.i64.wrap (((d+1:Nat):Int)-1)=(d:Int):=by rw[Yq (by omega)<|by omega];omega
 have lp:(Zn [e] s).2=false->∀P0:Zc->Za->Za->Prop,(∀(s0:Zc) (m0:Za) (ak:Za),Ev PG (Ue<|Qg f kind [e] s) P0 s0 (e.toNat:Int) ((d+1:Nat):Int) m0 ak->P0 s0 m0 ak)->P0 s (Za.mk 0 0 [] [] false) (Za.mk kind 0 [] [] false):=by
  intro iM P hP;have e1:Qg f kind [e] s=Uw f kind [e] 17 [] s:=by unfold Qg;rw[kA (by rw[iM];decide),Ni iM]
  have go :∀(n:Nat) (acc:List Za) (u:Zc),acc.length+n=17->u.length<=s.length->Uw f kind [e] 17 [] s=Uw f kind [e] n acc u->P u (Za.mk 0 0 [] [] false) (Za.mk kind 0 [] acc false):=by
   intro n
   induction n with
   |zero=>
    intro acc u ha hu hq;apply hP;rw[e1,hq];unfold Ev sI;refine⟨fun h=>absurd h (by simp only[Za.list_mk];omega),fun _=>Ue.no rfl⟩
   |succ n ih=>
    intro acc u ha hu hq;apply hP;rw[e1,hq];obtain⟨v,r,ok,⟨dA,cN⟩,lL⟩:=hc u (by omega);have h1:=hf u;unfold Ev sI;rw[hm];refine⟨fun _=>⟨v,r,ok,lL,fun g1=>?_,fun g1=>?_⟩,fun h=>absurd (show(acc.length:Int)<=16 by omega) h⟩
    ·refine Ue.no ?_;rw[Uw,kC (by rw[<- dA];simpa using g1)]
    have g1:ok=true:=by simpa using g1
    obtain⟨rfl,rfl⟩:=cN g1;rw[g1]at dA;have e2:=Uw.eq_2 f kind [e] acc u n;rw[kA (by rw[<- dA];decide)]at e2;refine⟨fun g2=>?_,fun g2=>⟨⟨?_,?_⟩,?_⟩⟩
    ·have h2:(f u).2.2=[]:=Ge (by omega);rw[h2,sD,kA<|by simp,sD,kC rfl]at e2;refine Ue.no ?_;rw[show n+1=n.succ from rfl,e2]
    ·simp only[Za.list_mk,kB,kD,Xk];omega
    ·simp only[Za.list_mk,kB,kD,Xk];omega
    ·cases hr:(f u).2.2 with
     |nil=>rw[hr]at g2;exact absurd rfl g2
     |cons c t=>
      rw[hr]at e2 h1;rw[Cn]at e2;refine⟨c,rfl,fun g3=>⟨by simp,?_⟩,fun g3=>?_⟩
      ·have fE:c=e:=Uq (by omega);rw[kC fE,kC rfl]at e2;exact Ue.yes e2
      ·have fE:¬c=e:=fun h=>g3 (by rw[h])
       rw[kA fE,kA<|by simp]at e2;refine⟨_,sy H _ [44,32],fun g4=>?_,fun g4=>?_⟩
       ·rw[kC<|by simpa using g4]at e2;refine Ue.no ?_;rw[show n+1=n.succ from rfl,e2]
       ·have g4:(Zn [44,32]<|c::t).2=true:=by simpa using g4
        rw[kA (by rw[g4];decide)]at e2
        have h4:(Zn [44,32]<|c::t).1=(c::t).drop 2/\2<=(c::t).length:=by
         unfold Zn at g4⊢;split at g4
         ·rename_i h5;rw[kC h5];have:=jC List.length h5;simp only[kW,kB,kD]at this;exact⟨rfl,by simp only[kB];omega⟩
         ·cases g4
        refine⟨h4.2,?_⟩;rw[h4.1]at e2;refine ih (acc++[(f u).1]) _ (by simp;omega) (by simp only[List.length_drop,kB]at h1⊢;omega) ?_;rw[hq,show n+1=n.succ from rfl,e2]
  exact go 17 [] s rfl (kU _) rfl
 unfold F6 F7 F8;refine⟨fun h=>?_,fun h=>?_⟩
 ·cases s with
  |nil=>exact absurd h (by decide)
  |cons c t=>
   have e3:=Cn e c t;refine⟨c,rfl,fun g=>⟨by simp,?_⟩,fun g=>?_⟩
   ·have fE:c=e:=Uq (by omega);rw[kC fE]at e3;refine Ue.yes ?_;unfold Qg;rw[e3,kC rfl];rfl
   ·have fE:¬c=e:=fun h=>g (by rw[h])
    rw[kA fE]at e3;exact lp (by rw[e3])
 ·have h0:s=[]:=Ge (by omega);exact lp (by rw[h0,sD])
theorem VP:∀(d:Nat){s:Zc},s.length<=1000000000->d<=1000->∃v r ok,Ue (Jn d s) v r ok/\Ze PG 108 [.s s,.i .i64 (d:Int)] (.tup [v.av,.s r,.b ok])
 |0,s,hs,hd=>by
  refine VQ H.f108 (s0:=s) (ar:=((0:Nat):Int)) (K:=Ue (Jn 0 s)) ?_;unfold sJ sK;exact⟨fun _=>Ue.no rfl,fun h=>absurd rfl h⟩
 |d+1,s,hs,hd=>by
  have ih:=fun s hs=>@VP d s hs (by omega)
  have hm:IntKind.i64.wrap (((d+1:Nat):Int)-1)=(d:Int):=by rw[Yq (by omega)<|by omega];omega
  refine VQ H.f108 (s0:=s) (ar:=((d+1:Nat):Int)) (K:=Ue (Jn (d+1) s)) ?_;have e:=Jn.eq_2 s d;unfold sJ sK;refine⟨fun h=>absurd h<|by omega,fun _=>⟨fun h=>?_,fun h0=>?_⟩⟩
  ·have h0:s=[]:=Ge (by omega);refine Ue.no ?_;rw[show d+1=d.succ from rfl,e,kC h0]
  have h0:¬s=[]:=fun h=>h0 (by rw[h];rfl)
  rw[kA h0]at e;unfold F9 F_ GA;intro P hP
  have word :∀(i:Nat) (w:Zc) (v:Za),[Ug,Qm,Ub,Um,Ur][i]?=some w->[Za.mk 1 1 [] [] false,Za.mk 1 0 [] [] false,Za.mk 4 0 [] [] false,Za.mk 4 0 [] [] true,Za.mk 7 0 [] [] true][i]?=some v->i<5->
    ((Zn w s).2=true->Jn (d+1) s=(v,true,(Zn w s).1))->((Zn w s).2=false->P ((i+1:Nat):Int) (Za.mk 0 0 [] [] false))->P (i:Int) (Za.mk 0 0 [] [] false):=by
   intro i w v hw hv hi h1 h2;apply hP;unfold sL;refine⟨fun _=>⟨by omega,w,hw,_,sy H s w,fun g=>⟨by omega,v,hv,by omega,w,hw,by omega,?_,?_⟩,fun g=>?_⟩,fun h=>absurd (show(i:Int)<5 by omega) h⟩
   ·rw[Kb];unfold Zn at g;split at g
    ·rename_i h5;have:=jC List.length h5;simp only[kW]at this;omega
    ·cases g
   ·refine Ue.yes ?_;rw[h1 g];unfold Zn at g⊢;split at g
    ·rename_i h5;rw[kC h5,Kb]
    ·cases g
   ·rw[Qu<|by omega];exact h2 g
  refine word 0 Ug _ rfl rfl (by decide) (fun h=>by rw[show d+1=d.succ from rfl,e,kC h]) fun h=>?_
  rw[kA (by rw[h];decide)]at e;refine word 1 Qm _ rfl rfl (by decide) (fun h=>by rw[show d+1=d.succ from rfl,e,kC h]) fun h=>?_
  rw[kA (by rw[h];decide)]at e;refine word 2 Ub _ rfl rfl (by decide) (fun h=>by rw[show d+1=d.succ from rfl,e,kC h]) fun h=>?_
  rw[kA (by rw[h];decide)]at e;refine word 3 Um _ rfl rfl (by decide) (fun h=>by rw[show d+1=d.succ from rfl,e,kC h]) fun h=>?_
  rw[kA (by rw[h];decide)]at e;refine word 4 Ur _ rfl rfl (by decide) (fun h=>by rw[show d+1=d.succ from rfl,e,kC h]) fun h=>?_
  rw[kA (by rw[h];decide)]at e;apply hP;unfold sL;refine⟨fun h=>absurd h<|by decide,fun _=>?_⟩
  cases s with
  |nil=>exact absurd rfl h0
  |cons c s=>
   have ch :∀x:UInt8,(c.toNat:Int)=(x.toNat:Int)↔c=x:=fun x=>⟨fun h=>Uq<|by omega,fun h=>by rw[h]⟩
   have dB:s.length<=1000000000:=by simp only[kB]at hs;omega
   unfold GB GC GD;refine⟨c,rfl,fun h=>⟨by simp,?_⟩,fun h=>⟨fun h1=>⟨by simp,?_⟩,fun h1=>⟨fun h2=>⟨by simp,?_⟩,fun h2=>⟨fun h3=>⟨by simp,?_⟩,fun h3=>⟨fun h4=>?_,fun h4=>?_⟩⟩⟩⟩⟩
   ·have fE:c=38:=(ch 38).1 (by simpa using h);rw[Cn,kC fE,kC rfl]at e;obtain⟨v,r,ok,⟨dA,cN⟩,lL⟩:=ih s dB;rw[hm];refine⟨v,r,ok,lL,?_⟩;rw[show d+1=d.succ from rfl,e];refine⟨dA,fun h=>?_⟩;obtain⟨rfl,rfl⟩:=cN h;exact⟨rfl,rfl⟩
   all_goals
    have fE:¬c=38:=fun g=>by rw[g]at h;revert h;decide
    rw[Cn,kA fE,kA<|by simp,Cn]at e
   ·rw[kC<|(ch 123).1 h1,kC rfl]at e;rw[show d+1=d.succ from rfl,e];obtain⟨v,r,ok,h5,h6⟩:=F5 H (by omega) (Ct d) ih (kind:=5) (e:=125) dB;exact⟨v,r,ok,h6,h5⟩
   all_goals rw[kA<|fun g=>h1<|(ch 123).2 g,kA<|by simp,Cn]at e
   ·rw[kC<|(ch 91).1 h2,kC rfl]at e;rw[show d+1=d.succ from rfl,e];obtain⟨v,r,ok,h5,h6⟩:=F5 H (by omega) (Ct d) ih (kind:=6) (e:=93) dB;exact⟨v,r,ok,h6,h5⟩
   all_goals rw[kA<|fun g=>h2<|(ch 91).2 g,kA<|by simp,Cn]at e
   ·rw[kC<|(ch 60).1 h3,kC rfl]at e;rw[show d+1=d.succ from rfl,e];obtain⟨v,r,ok,h5,h6⟩:=F5 H (by omega) (Ct d) ih (kind:=7) (e:=62) dB;exact⟨v,r,ok,h6,h5⟩
   all_goals rw[kA<|fun g=>h3<|(ch 60).2 g,kA<|by simp,yZ]at e
   ·rw[kC<|by rw[(ch 34).1 h4]]at e;rw[show d+1=d.succ from rfl,e]
    have hq :∀k,qs ((c::s).drop 1)=some k->k+1<=(c::s).length:=by
     intro k hk;have:=GF _ _ k (kU _) hk;simp only[yG,zU,kB]at this⊢;omega
    refine⟨_,Xzk H hs,?_⟩;unfold Hg
    cases hk:qs ((c::s).drop 1)with
    |none=>
     refine⟨by decide,by simp,_,_,c26 H.toHas03 _,by decide,by simp,?_⟩;have:decide ((Da<|((c::s)).take 0).2=0)=false:=by rw[List.take_zero];decide
     rw[show((0:Int)).toNat=0 from rfl,this];exact Ue.no rfl
    |some k=>
     have:=hq k hk;refine⟨by show(0:Int)<=((k+1:Nat):Int);omega,this,_,_,c26 H.toHas03 _,by show(0:Int)<=((k+1:Nat):Int);omega,this,?_⟩;exact⟨rfl,fun _=>⟨rfl,rfl⟩⟩
   ·rw[kA (by intro g;injection g with g;exact h4<|(ch 34).2 g)]at e;rw[show d+1=d.succ from rfl,e];have:=sA (c::s);refine⟨_,VK H hs,by omega,this,_,_,c22 H.toHas03 _,by omega,this,?_⟩;exact⟨rfl,fun _=>⟨rfl,rfl⟩⟩
theorem c75{s:Zc}(hs:s.length<=1000000000):Ze PG 75 [.s s] (.tup [(Wv s).1.av,.i .i64 (Wv s).2]):=by
 obtain ⟨x,y,⟨rfl,rfl⟩,h⟩:=p75 H.f75 (s0:=s) (K:=fun x y=>x=(Wv s).1/\y=(Wv s).2) (by
  unfold GG Wv;obtain⟨v,r,ok,⟨dA,cN⟩,lL⟩:=VP H 130 hs (by decide);refine⟨fun h=>?_,fun h=>⟨v,r,ok,lL,fun h1=>?_,fun h1=>?_⟩⟩
  ·rw[kC<|by omega];exact⟨rfl,rfl⟩
  ·rw[kA<|by omega,kA (by rintro⟨h,_⟩;rw[dA,h]at h1;cases h1)];exact⟨rfl,rfl⟩
  ·have h1:ok=true:=by simpa using h1
   obtain⟨rfl,rfl⟩:=cN h1;rw[h1]at dA;refine⟨fun h2=>?_,fun h2=>⟨_,El H<|Rq _ _,fun h3=>?_,fun h3=>?_⟩⟩
   ·rw[kA<|by omega,kA (by rintro⟨_,h,_⟩;exact h2 h)];exact⟨rfl,rfl⟩
   ·rw[kA<|by omega,kA (by rintro⟨_,_,h,_⟩;exact h3<|Hb.2 h)];exact⟨rfl,rfl⟩
   ·have h5:=Hb.1 (kP.1 h3);have h6:=Mp h5;refine⟨_,Il H 130 (Dz h5).1 (Rq _ _)<|by omega,fun h4=>?_,fun h4=>?_⟩
    ·rw[kA<|by omega,kA];· exact⟨rfl,rfl⟩
     rintro⟨_,_,_,h7⟩;exact h4 h7
    ·rw[kA<|by omega,kC ⟨dA.symm,kP.1 h2,h5,kP.1 h4⟩];exact ⟨rfl,rfl⟩)
 exact h
theorem c78{a:Za}(hw:Wf a):∀b:Za,Ze PG 78 [a.av,b.av] (.b<|Ta a b):=by
 induction hw with
 |@mk k n s l c hk hn hl _ ih=>
  intro b
  obtain ⟨x,rfl,h⟩:=p78 H.f78 (a0:=Za.mk k n s l c) (b1:=b) (K:=fun x=>x=Ta (Za.mk k n s l c) b) (by
   have no :∀{p:Prop},(Za.mk k n s l c=b->p)->¬p->false=Ta (Za.mk k n s l c) b:=fun h1 h2=>(Fd.2 fun h=>h2<|h1 h).symm
   unfold GH;refine⟨fun h=>no (fun e=>by rw[<- e]) h,fun h1=>⟨fun h=>no (fun e=>by rw[<- e]) h,fun h2=>⟨fun h=>no (fun e=>by rw[<- e]) h,fun h3=>⟨fun h=>no (fun e=>by rw[<- e]) h,fun h4=>⟨fun h=>no (fun e=>by rw[<- e]) h,fun h5 P hP=>?_⟩⟩⟩⟩⟩;have h1:=kP.1 h1;have h2:=kP.1 h2;have h3:=kP.1 h3;have h4:=kP.1 h4;have h5:l.length=b.list.length:=by have:=kP.1 h5;simp only[Za.list_mk]at this;omega
   refine nU (P:=fun _ i=>P i (Za.mk k n s l c) b) (fun _=>()) l.length (fun i=>l.take i=b.list.take i) (by simp) (fun hI=>?_) (fun i hi hI bQ=>?_)
   ·apply hP;unfold sM GI;refine⟨fun h=>absurd h (by simp only[Za.list_mk];omega),fun _=>(Tv.2 ?_).symm⟩;rw[kQ,h5,kQ]at hI;rw[b.eta,<- h1,<- h2,<- h3,<- h4,hI];rfl
   ·apply hP;have bK:i<b.list.length:=by omega
    unfold sM;refine⟨fun _=>⟨by omega,l[i],Xi (l:=l) hi,by omega,b.list[i],Xi bK,_,ih _ (kL hi) _,fun h6=>?_,fun h6=>?_⟩,fun h=>absurd (show(i:Int)<l.length by omega) h⟩
    ·refine no (p:=l[i]=b.list[i]) (fun e=>?_) (Fd.1<|by simpa using h6);subst e;rfl
    ·rw[Yq (by omega)<|by omega];refine bQ ?_;have h7:l[i]=b.list[i]:=Tv.1 (by simpa using h6);rw [kM hi,kM bK,hI,h7])
  exact h
end
end Go.AM

namespace Go.AM
open Go
structure HasO(PG:Zb):Prop extends Has38 PG where
 f154:PG.fn 154=some tQ
 f158:PG.fn 158=some tR
 f159:PG.fn 159=some tS
 f178:PG.fn 178=some Om
 f179:PG.fn 179=some tT
 f180:PG.fn 180=some tU
 f182:PG.fn 182=some tV
 f183:PG.fn 183=some ot
 f190:PG.fn 190=some tW
 f191:PG.fn 191=some tX
def tY:List Zc:=[[],Cd,Pg,Lg]
def Ii:BS:=[0,2,1,3,2]
theorem WE{t:Int}(h:0<=t)(h4:¬t>4):∃c:UInt8,Ii[t.toNat]?=some c/\((c.toNat:Nat):Int)=Mj t:=by
 rcases(show t=0\/t=1\/t=2\/t=3\/t=4 by omega)with rfl|rfl|rfl|rfl|rfl
 ·exact⟨0,rfl,rfl⟩
 ·exact⟨2,rfl,rfl⟩
 ·exact⟨1,rfl,rfl⟩
 ·exact⟨3,rfl,rfl⟩
 ·exact⟨2,rfl,rfl⟩
theorem WH{n:Int}(h:1<=n)(h3:n<=3):tY[n.toNat]?=some (ou n):=by rcases(show n=1\/n=2\/n=3 by omega)with rfl|rfl|rfl<;>rfl
theorem WI{p:Zh}(h:p.tag>4):Xz p=false:=by unfold Xz;rw[kI<|by omega];rfl
theorem WJ{p:Zh}(h:p.value.kind≠Mj p.tag):Xz p=false:=by unfold Xz;rw[kI h];simp
theorem WK{p:Zh}(h:p.tag=0)(hk:p.value.kind=Mj p.tag):Xz p=(Dd p.value&&decide (p.flags=2\/p.flags=6)):=by unfold Xz;rw[kJ hk,kJ<|by omega,kC h];rfl
theorem WL{p:Zh}(h4:¬p.tag>4)(h:p.tag≠0)(hk:p.value.kind=Mj p.tag):Xz p=(decide (p.flags=0\/p.flags=1\/p.flags=4\/p.flags=5)&&decide (p.tag=4->1<=p.value.int/\p.value.int<=3)&&Vl p.value):=by unfold Xz;rw[kJ hk,kJ<|by omega,kA h];rfl
theorem Mz{p:Zh}(h:Xz p=false):Hd p=8:=by unfold Hd;rw[h];rfl
theorem WM{p:Zh}(h:Xz p=true):Hd p=0:=by unfold Hd;rw[h];rfl
theorem Tt{p:Zh}:Hd p=0↔Xz p=true:=by unfold Hd;split<;>simp_all
section
variable{PG:Zb}(H:HasO PG)
include H
theorem WN:Ze PG 178 [] (.ag<|tY.map AV.s):=by obtain⟨x,rfl,h⟩:=Xm4 H.f178 (K:=fun x=>x=tY) rfl;exact h
theorem WQ:Ze PG 183 [] (.ag<|Ii.map c8):=by obtain⟨x,rfl,h⟩:=Yzo H.f183 (K:=fun x=>x=Ii) rfl;exact h
theorem Xvs{s p:Zc}(hs:s.length<=1000000000):Ze PG 191 [.s s,.s p] (.b (Xg p s).2):=by
 obtain ⟨x,rfl,h⟩:=Xy8 H.f191 (s0:=s) (bv:=p) (K:=fun x=>x=(Xg p s).2) (by
  unfold JT Xg;refine⟨fun h=>?_,fun h=>?_⟩
  ·rw[Yq (by omega)<|by omega,show((s.length:Int)-(p.length:Int)).toNat=s.length-p.length by omega];refine⟨by omega,by omega,?_⟩;by_cases h1:s.drop (s.length-p.length)=p
   ·rw[kJ h1,kC ⟨by omega,h1⟩]
   ·rw[kI h1,kA fun h2=>h1 h2.2]
  ·rw [kA fun h2=>h<|by omega])
 exact h
theorem Xlc{s p:Zc}(hs:s.length<=1000000000):Ze PG 190 [.s s,.s p] (.tup [.s (Xg p s).1,.b (Xg p s).2]):=by
 obtain ⟨x,y,⟨rfl,rfl⟩,h⟩:=Xqg H.f190 (s0:=s) (bv:=p) (K:=fun x y=>x=(Xg p s).1/\y=(Xg p s).2) (by
  unfold JU;refine⟨_,Xvs H hs,fun h=>?_,fun h=>?_⟩
  ·have h:(Xg p s).2=false:=by simpa using h
   exact⟨(JV h).symm,h.symm⟩
  ·have h:(Xg p s).2=true:=by simpa using h
   have hl:p.length<=s.length:=by have:=jC List.length (JW h);rw[kF]at this;omega
   rw[Yq (by omega)<|by omega,show((s.length:Int)-(p.length:Int)).toNat=s.length-p.length by omega];refine⟨by omega,by omega,?_,h.symm⟩;unfold Xg at h⊢;split
   ·rfl
   ·rename_i h1;rw [kA h1] at h;cases h)
 exact h
theorem WR{s p:Zc}(hs:s.length<=1000000000):Ze PG 180 [.s s,.s p] (.tup [.s (Xg p s).1,.b (Xg p s).2]):=by
 obtain ⟨x,y,⟨rfl,rfl⟩,h⟩:=Wdo H.f180 (s0:=s) (bv:=p) (K:=fun x y=>x=(Xg p s).1/\y=(Xg p s).2) (by
  unfold JX;exact ⟨_,_,Xlc H hs,rfl,rfl⟩)
 exact h
theorem WS{s p:Zc}(hs:s.length<=1000000000):Ze PG 182 [.s s,.s p] (.tup [.s (Xg p s).1,.b (Xg p s).2]):=by
 obtain ⟨x,y,⟨rfl,rfl⟩,h⟩:=Xnc H.f182 (s0:=s) (gf:=p) (K:=fun x y=>x=(Xg p s).1/\y=(Xg p s).2) (by
  unfold JY JZ;refine⟨fun h=>?_,fun h=>?_⟩
  ·unfold Xg;rw[kA fun h2=>by omega];exact⟨rfl,rfl⟩
  ·rw[Yq (by omega)<|by omega,show((s.length:Int)-(p.length:Int)).toNat=s.length-p.length by omega];refine⟨by omega,by omega,fun h1=>?_,fun h1=>⟨by omega,by omega,?_⟩⟩
   ·unfold Xg;rw[kA fun h2=>h1 h2.2];exact⟨rfl,rfl⟩
   ·unfold Xg;rw [kC ⟨by omega,kP.1 h1⟩];exact ⟨rfl,rfl⟩)
 exact h
theorem J0{p:Zh}(hp:Hu p):Ze PG 158 [p.av] (.i .i64<|Hd p):=by
 obtain ⟨x,rfl,h⟩:=Xpa H.f158 (p0:=p) (K:=fun x=>x=Hd p) (by
  unfold J1 J2;refine⟨fun h=>(Mz<|WI h).symm,fun h4=>?_⟩;obtain⟨c,g1,g2⟩:=WE hp.t.1 h4;refine⟨_,WQ H,rfl,hp.t.1,c,g1,fun h=>(Mz<|WJ (by rw[<- g2];exact h)).symm,fun h=>?_⟩;have hk:p.value.kind=Mj p.tag:=by rw[<- g2];exact kP.1 h
  unfold J3;refine⟨fun h0=>?_,fun h0=>?_⟩
  ·have e:=WK h0 hk;have FH:p.value.kind=0:=by rw[hk,h0];rfl
   have no:Dd p.value=false->8=Hd p:=fun h=>(Mz (by rw[e,h];rfl)).symm
   have nz :∀{q:Prop},(p.value=vz->q)->¬q->Dd p.value=false:=fun a b=>by rw[<- zL,Cz];exact fun h=>b (a h)
   refine⟨fun h=>no<|nz (fun e=>by rw[e];rfl) h,fun h1=>⟨fun h=>no<|nz (fun e=>by rw[e];rfl) h,fun h2=>⟨fun h=>no<|nz (q:=¬((p.value.list.length:Int)>0)) (fun e=>by rw[e];decide)<|fun h'=>h' h,fun h3=>⟨fun h=>no<|nz (q:=p.value.cut=false) (fun e=>by rw[e];rfl) (by rw[h];decide),fun h4=>?_⟩⟩⟩⟩
   have hz:Dd p.value=true:=by
    unfold Dd;rw[kJ FH,kJ<|kP.1 h1,kJ<|kP.1 h2,kJ<|by omega,h4];rfl
   have fl:=Xwx hp.f;rw[hz,jZ]at e;refine⟨fun h=>(Mz (by rw[e];exact kI fun h'=>h<|fl.2 h')).symm,fun h=>(WM (by rw[e];exact kJ<|fl.1<|kP.1 h)).symm⟩
  ·have e:=WL h4 h0 hk;have fl:=Xcn hp.f;unfold J4;refine⟨fun h=>(Mz (by rw[e,kI<|fun h'=>h<|fl.2 h'];rfl)).symm,fun h=>?_⟩;rw[kJ<|fl.1<|kP.1 h,jZ]at e
   have last:(p.tag=4->1<=p.value.int/\p.value.int<=3)->Ow PG (fun x=>x=Hd p) p:=fun hh=>by
    unfold Ow;refine⟨_,c76 H.toHas38 hp.v,?_⟩;rw[kJ hh,jZ]at e;unfold De Hd;rw[e]
   refine ⟨fun h5=>⟨fun h=>(Mz (by rw [e,kI (fun h'=>by have:=h' h5;omega)];rfl)).symm,fun h6=>⟨fun h=>(Mz (by rw [e,kI (fun h'=>by have:=h' h5;omega)];rfl)).symm,fun h7=>last fun _=>by omega⟩⟩,fun h5=>last fun h'=>absurd h' h5⟩)
 exact h
theorem WT{p:Zh}(hp:Hu p):Ze PG 159 [p.av] (.i .i64<|Hd p):=by
 obtain ⟨x,rfl,h⟩:=Xul H.f159 (p0:=p) (K:=fun x=>x=Hd p) (by
  unfold J5 J6;refine⟨_,El H.toHas38 hp.v,?_⟩
  have ef:decide (De p.value=0)=Vl p.value:=by
   cases h:Vl p.value with
   |true=>exact kJ (Hb.2 h)
   |false=>exact kI fun h'=>by rw[Hb.1 h']at h;cases h
  rw[ef];unfold J7 J8;refine⟨fun h=>(Mz<|WI h).symm,fun h4=>?_⟩;obtain⟨c,g1,g2⟩:=WE hp.t.1 h4;refine⟨hp.t.1,c,g1,fun h=>(Mz<|WJ (by rw[<- g2];exact h)).symm,fun h=>?_⟩;have hk:p.value.kind=Mj p.tag:=by rw[<- g2];exact kP.1 h
  have t6 :∀b:Bool,Xz p=b->Cj PG (fun x=>x=Hd p) b:=fun b hb=>by
   unfold Cj
   cases b with
   |true=>exact⟨fun h=>(by cases h),fun _=>(WM hb).symm⟩
   |false=>exact⟨fun _=>(Mz hb).symm,fun h=>(by cases h)⟩
  have t5 :∀b:Bool,(Xz p=(b&&decide (p.tag=4->1<=p.value.int/\p.value.int<=3)))->Mr PG (fun x=>x=Hd p) b p:=fun b hb=>by
   unfold Mr;refine⟨fun h=>⟨fun h1=>⟨fun h2=>t6 _ ?_,fun h2=>t6 _ ?_⟩,fun h1=>t6 _ (by rw[hb,h1];rfl)⟩,fun h=>t6 _ ?_⟩
   ·rw[hb,h1,jZ];exact decide_eq_decide.2 ⟨fun h3=>(h3 h).2,fun h3 _=>⟨h2,h3⟩⟩
   ·rw[hb,kI<|fun h3=>h2 (h3 h).1,Bool.and_false]
   ·rw[hb,kJ fun h3=>absurd h3 h,Bool.and_true]
  unfold J9;refine⟨fun h0=>?_,fun h0=>?_⟩
  ·have e:=WK h0 hk;have e5:decide (p.tag=4->1<=p.value.int/\p.value.int<=3)=true:=kJ fun h=>by omega
   refine⟨_,c78 H.toHas38 hp.v vz,fun h=>?_,fun h=>t5 _ ?_⟩
   ·have hz:Dd p.value=true:=Cz.2 (Tv.1 h);rw[hz,jZ]at e;refine⟨fun h1=>t5 _ ?_,fun h1=>t5 _ ?_⟩
    ·rw[e,e5,kJ<|.inl h1];rfl
    ·rw[e,e5,Bool.and_true];exact decide_eq_decide.2 ⟨fun h=>h.resolve_left h1,.inr⟩
   ·have hz:Dd p.value=false:=by rw[<- zL,Cz];exact Fd.1 h
    rw[e,hz];rfl
  ·have e:=WL h4 h0 hk;refine⟨fun hf=>?_,fun hf=>t5 _ (by rw[e,hf];simp)⟩;rw[hf,Bool.and_true]at e;refine⟨fun h1=>t5 _ ?_,fun h1=>⟨fun h2=>t5 _ ?_,fun h2=>⟨fun h3=>t5 _ ?_,fun h3=>t5 _ ?_⟩⟩⟩
   ·rw[e,kJ<|.inl h1]
   ·rw[e,kJ<|.inr<|.inl h2]
   ·rw[e,kJ<|.inr<|.inr<|.inl h3]
   ·rw [e];congr 1;exact decide_eq_decide.2 ⟨fun h=>by omega,fun h=>by omega⟩)
 exact h
omit H in
theorem WU{f:Int}(h:f=0\/f=1\/f=2\/f=4\/f=5\/f=6):(Ho .u64 f 1≠0↔f % 2=1)/\(Ho .u64 f 4≠0↔4<=f)/\(f.tmod 2=1↔f % 2=1):=by rcases h with rfl|rfl|rfl|rfl|rfl|rfl<;>decide
omit H in
theorem WV{p:Zh}(h:Xz p=true):p.flags=0\/p.flags=1\/p.flags=2\/p.flags=4\/p.flags=5\/p.flags=6:=by rcases Re h with⟨_,_,h⟩|⟨_,_,h⟩<;>omega
omit H in
theorem tZ{p:Zh}(h:Xz p=true)(h4:p.tag=4):1<=p.value.int/\p.value.int<=3:=by unfold Xz at h;simp only[kR,jA]at h;have h3:=h.2;rw[kA<|by omega]at h3;simp only[kR,jA]at h3;exact h3.1.2 h4
omit H in
theorem WW{p:Zh}{b:Zc}(hb:b=Vs p):Vf p=(b++(if p.flags % 2=1 then Jx else []))++(if 4<=p.flags then Vx else []):=by rw[hb,Vf,Cm,jD]
theorem WX{p:Zh}(hp:Hu p)(ho:Xz p=true):Ze PG 179 [p.av] (.s<|Vf p):=by
 obtain ⟨x,rfl,h⟩:=Xnj H.f179 (p0:=p) (K:=fun x=>x=Vf p) (by
  have hl:=ov ho;obtain⟨a1,a2,a3⟩:=WU (WV ho)
  have t1 :∀b,b=Vs p->Lz PG (fun x=>x=Vf p) b p:=fun b hb=>by
   have e:=WW hb;have hl:b.length<=400:=by rw[e,kF,kF]at hl;omega
   unfold Lz t_ ua;simp only[kF,kB,kD,Wj];refine⟨fun h1=>⟨by omega,fun h2=>⟨by omega,?_⟩,fun h2=>?_⟩,fun h1=>⟨fun h2=>⟨by omega,?_⟩,fun h2=>?_⟩⟩
   ·rw[e,kC<|a3.1 h1,kC h2];rfl
   ·rw[e,kC<|a3.1 h1,kA<|by omega,zA];rfl
   ·rw[e,kA fun h=>h1<|a3.2 h,kC h2,zA];rfl
   ·rw[e,kA fun h=>h1<|a3.2 h,kA<|by omega,zA,zA]
  unfold J_;refine⟨fun h4=>?_,fun h4=>⟨fun h0=>?_,fun h0=>?_⟩⟩
  ·obtain⟨g1,g2⟩:=tZ ho h4;exact⟨by omega,_,WH g1 g2,t1 _ (by unfold Vs;rw[kA<|by omega,kC h4])⟩
  ·have hf:Vl p.value=true:=by rcases Re ho with h|h;exact absurd h.1 h0;exact h.2.1
   have:=Mp hf;refine⟨_,Il H.toHas38 130 (Dz hf).1 hp.v<|by omega,?_,t1 _ (by unfold Vs;rw[kA h0,kA h4];rfl)⟩;simp only[kB,kD,Wj];omega
  ·exact t1 _ (by unfold Vs;rw [kC<|kP.1 h0];rfl))
 exact h
theorem Xei{p:Zh}(hp:Hu p):Ze PG 154 [p.av] (.tup [.s (Te p).1,.i .i64 (Te p).2]):=by
 obtain ⟨x,y,⟨rfl,rfl⟩,h⟩:=Xqd H.f154 (p0:=p) (K:=fun x y=>x=(Te p).1/\y=(Te p).2) (by
  unfold KA;refine⟨_,J0 H hp,fun h=>?_,fun h=>?_⟩
  ·have h1:Xz p≠true:=fun h'=>h (Tt.2 h')
   unfold Te Hd;rw[kA h1,kA h1];exact⟨rfl,rfl⟩
  ·have ho:=Tt.1 (kP.1 h);have hl:=ov ho;obtain⟨a1,a2,a3⟩:=WU (WV ho);unfold Te;rw[kC ho]
   have t1 :∀b,b=Vs p->Ei PG (fun x y=>x=(Vf p,(0:Int)).1/\y=(Vf p,(0:Int)).2) b p:=fun b hb=>by
    have e:=WW hb;have hl:b.length<=400:=by rw[e,kF,kF]at hl;omega
    unfold Ei ub uc;simp only[kF,kB,kD,Wj];refine⟨fun h1=>⟨by omega,fun h2=>⟨by omega,?_,trivial⟩,fun h2=>⟨?_,trivial⟩⟩,fun h1=>⟨fun h2=>⟨by omega,?_,trivial⟩,fun h2=>⟨?_,trivial⟩⟩⟩
    ·rw[e,kC<|a1.1 h1,kC<|a2.1 h2];rfl
    ·rw[e,kC<|a1.1 h1,kA fun h=>h2<|a2.2 h,zA];rfl
    ·rw[e,kA fun h=>h1<|a1.2 h,kC<|a2.1 h2,zA];rfl
    ·rw[e,kA fun h=>h1<|a1.2 h,kA fun h=>h2<|a2.2 h,zA,zA]
   refine⟨fun h0=>t1 _ (by unfold Vs;rw[kC h0];rfl),fun h0=>⟨fun h4=>?_,fun h4=>?_⟩⟩
   ·obtain⟨g1,g2⟩:=tZ ho h4;exact⟨_,WN H,rfl,by omega,_,WH g1 g2,t1 _ (by unfold Vs;rw[kA h0,kC h4])⟩
   ·have hf:Vl p.value=true:=by rcases Re ho with h|h;exact absurd h.1 h0;exact h.2.1
    have:=Mp hf;refine⟨_,_,c72 H.toHas38 hp.v,fun h=>absurd (Hb.2 hf) h,fun _=>?_⟩;rw[kC hf];refine⟨?_,t1 _ (by unfold Vs;rw[kA h0,kA h4];rfl)⟩;simp only [kB,kD,Wj];omega)
 exact h
end
end Go.AM

namespace Go.AM
open Go
structure HasP(PG:Zb):Prop extends HasO PG where
 f156:PG.fn 156=some Od
 f157:PG.fn 157=some oy
 f160:PG.fn 160=some ud
 f181:PG.fn 181=some oz
theorem ue(p s:Zc):(Xg p s).1.length<=s.length:=by
 unfold Xg;split
 ·simp only[kW];omega
 ·exact kU _
noncomputable def Lh (p q:Zh):Bool:=decide (p.tag=q.tag)&&decide (p.flags=q.flags)&&Ta p.value q.value
theorem WY{p q:Zh}:Lh p q=true↔p=q:=by
 obtain⟨a,b,c⟩:=p;obtain⟨d,e,f⟩:=q;unfold Lh;simp only[kR,jA,Tv,Zh.mk.injEq];constructor
 ·rintro⟨⟨h1,h2⟩,h3⟩;exact⟨h1,h3,h2⟩
 ·rintro⟨h1,h2,h3⟩;exact⟨⟨h1,h3⟩,h2⟩
def Gt(s:Zc):Zh × Bool:=match Hc s with|some p=>(p,true)|none=>(pz,false)
def Bq(s:Zc):Option Zh:=if s=Nk then some ⟨0,vz,2⟩else
 if 6<s.length/\s.take 6=KB then some ⟨4,Za.mk 2 (((s[6]?.getD 0).toNat:Int)-48) [] [] false,0⟩else
 if 6<s.length/\s.take 6=Kc then (if (Wv<|s.drop 6).2≠0 then none else some ⟨(([9,2,1,3,9,9,9,9]:List Int)[(Wv<|s.drop 6).1.kind.toNat]?).getD 0,(Wv<|s.drop 6).1,0⟩)else none
def Qd(p:Zh)(r a:Bool):Zh:=⟨p.tag,p.value,p.flags+(if r=true then 1 else 0)+(if a=true then 4 else 0)⟩
def Hv(s:Zc)(r a:Bool)(rest:Zc):Zh × Int:=match Bq rest with
 |none=>(pz,12)
 |some p=>if Xz (Qd p r a)=true/\Vf (Qd p r a)=s then (Qd p r a,0)else (pz,12)
theorem Wa1{p:Zh}(h:Xz p=true)(hw:Wf p.value):Bq (Vs p)=some ⟨p.tag,p.value,if p.tag=0 then 2 else 0⟩:=by
 have h0:=Re h;have WZ:=fun h4=>tZ h h4
 have bL:=fun hk=>W0 h hk
 unfold Xz at h;simp only[kR,jA]at h;obtain⟨⟨h1,h2⟩,h3⟩:=h;obtain⟨t,v,f⟩:=p;simp only at h0 h1 h2 h3 hw WZ bL⊢;unfold Vs;rcases h0 with⟨rfl,rfl,_⟩|⟨t0,hf,_⟩
 ·rfl
 simp only;rw[kA t0];by_cases t4:t=4
 ·subst t4;have hv:=W2 hf h2;have:=WZ rfl;rw[kC rfl];rcases(show v.int=1\/v.int=2\/v.int=3 by omega)with h|h|h<;>rw[h]at hv<;>rw[hv]<;>rfl
 rw[kA t4,kA t0];have ne:Kc++Ys v≠Nk:=fun e=>by injection e with e;exact absurd e (by decide)
 obtain⟨c,r,hc,_⟩:=W3 v;have e6:(Kc++Ys v).take 6=Kc:=rfl;have d6:(Kc++Ys v).drop 6=Ys v:=rfl;have l6:6<(Kc++Ys v).length:=by rw[hc];simp[Kc]
 unfold Bq;rw[kA ne,kA (by rw[e6];exact fun h=>absurd h.2<|by decide),kC ⟨l6,e6⟩,d6,oD hf hw,kA<|show ¬((0:Int)≠0)by decide];simp only;have hk:=bL t0;unfold Mj at h2;rcases(show t=1\/t=2\/t=3\/(t≠1/\t≠2/\t≠3)by omega)with rfl|rfl|rfl|⟨a1,a2,a3⟩
 ·rw[kC rfl]at h2;rw[h2];rfl
 ·rw[kA<|by decide,kC rfl]at h2;rw[h2];rfl
 ·rw[kA<|by decide,kA<|by decide,kC rfl]at h2;rw[h2];rfl
 ·rw[kA a1,kA a2,kA a3,kA t4]at h2;omega
theorem W4{s:Zc}{p:Zh}(h:Bq s=some p):Wf p.value/\(p.flags=0\/p.flags=2)/\0<=p.tag/\p.tag<100:=by
 unfold Bq at h;split at h
 ·cases h;exact⟨Wf.zero,.inr rfl,by decide,by decide⟩
 split at h
 ·cases h;have:=(s[6]?.getD 0).toNat_lt;exact⟨.mk (by decide) (by omega) (by decide)<|by simp,.inl rfl,by simp only;decide,by simp only;decide⟩
 split at h
 ·split at h
  ·cases h
  ·rename_i h6;cases h;refine⟨tJ _,.inl rfl,?_,?_⟩<;>simp only
   all_goals
    obtain⟨g1,_,_⟩:=Ob (kP.1 h6);have h7:=Bn (Dz g1).1;unfold Za.okh Jr at h7;generalize (Wv<|s.drop 6).1.kind=k at h7;rcases(show k=1\/k=2\/k=3\/k=4\/k=5\/k=6\/k=7 by omega)with rfl|rfl|rfl|rfl|rfl|rfl|rfl<;>decide
 ·cases h
theorem Xqi(s:Zc)(h:¬2000<s.length):(Jt s).2=0\/Jt s=(pz,12):=by
 unfold Jt;rw[kA h];simp only;split
 ·exact .inr rfl
 ·rename_i p _;by_cases ho:Xz ⟨p.tag,p.value,p.flags+(if (Xg Jx (Xg Vx s).1).2=true then 1 else 0)+(if (Xg Vx s).2=true then 4 else 0)⟩=true
  ·rw[kC ho];exact .inl rfl
  ·rw[kA ho];exact .inr rfl
theorem Xbu{s:Zc}(h:¬2000<s.length):Hv s (Xg Jx (Xg Vx s).1).2 (Xg Vx s).2 (Xg Jx (Xg Vx s).1).1=Jt s:=by
 rcases Xqi s h with h0|h0
 ·obtain⟨g1,g2,g3,_⟩:=KC h0;have e:Jt s=((Jt s).1,0):=Prod.ext rfl h0;rw[e];generalize (Jt s).1=q at g1 g2 g3;obtain⟨c1,c2⟩:=W5 g1;rw[<- g3,c1,c2];unfold Hv;rw[Wa1 g1 g2.v]
  have eq:Qd ⟨q.tag,q.value,if q.tag=0 then 2 else 0⟩ (decide<|q.flags % 2=1) (decide<|4<=q.flags)=q:=by
   obtain⟨t,v,f⟩:=q;unfold Qd;simp only[Zh.mk.injEq,true_and,jA];rcases Re g1 with⟨a,_,b⟩|⟨a,_,b⟩<;>simp only at a b
   ·rw[kC a];rcases b with b|b<;>rw[b]<;>decide
   ·rw[kA a];rcases b with b|b|b|b<;>rw[b]<;>decide
  simp only[eq];rw[kC ⟨g1,trivial⟩]
 ·rw[h0];unfold Hv
  cases hc:Bq (Xg Jx (Xg Vx s).1).1 with
  |none=>rfl
  |some p=>
   simp only;rw[kA];rintro⟨h1,h2⟩;have h3:=KD h1 (W4 hc).1;rw[h2,h0]at h3;exact absurd (jC Prod.snd h3) (show ¬((12:Int)=0)by decide)
section
variable{PG:Zb}(H:HasP PG)
include H
theorem Xtv{p q:Zh}(hp:Wf p.value):Ze PG 160 [p.av,q.av] (.b<|Lh p q):=by
 obtain ⟨x,rfl,h⟩:=Wbf H.f160 (a0:=p) (b1:=q) (K:=fun x=>x=Lh p q) (by
  unfold KE;refine⟨fun h1=>⟨fun h2=>⟨_,c78 H.toHas38 hp _,?_⟩,fun h2=>?_⟩,fun h1=>?_⟩
  ·unfold Lh;rw[kJ h1,kJ h2];rfl
  ·unfold Lh;rw[kI h2,Bool.and_false];rfl
  ·unfold Lh;rw [kI h1];rfl)
 exact h
theorem Xsr{s:Zc}(hs:s.length<=1000000000):Ze PG 181 [.s s] (.tup [(Gt s).1.av,.b (Gt s).2]):=by
 obtain ⟨x,y,⟨rfl,rfl⟩,h⟩:=Xu5 H.f181 (s0:=s) (K:=fun x y=>x=(Gt s).1/\y=(Gt s).2) (by
  unfold KF KG;have yes :∀{p:Zh},Hc s=some p->p=(Gt s).1/\true=(Gt s).2:=fun h=>by unfold Gt;rw[h];exact⟨rfl,rfl⟩
  have no:Hc s=none->pz=(Gt s).1/\false=(Gt s).2:=fun h=>by unfold Gt;rw[h];exact⟨rfl,rfl⟩
  refine⟨fun h=>yes (by unfold Hc;rw[kC<|show s=Nk from h]),fun h0=>?_⟩;have h0:s≠Nk:=h0;unfold KH;refine⟨_,WN H.toHasO,fun P hP=>?_⟩
  have step :∀(i:Nat) (f:Zc),tY[i]?=some f->i<4->(0<i->f=s->(Zh.mk 4 (Za.mk 2 (i:Int) [] [] false) 0)=(Gt s).1/\true=(Gt s).2)->((0<i->f≠s)->P ((i+1:Nat):Int) pz)->P (i:Int) pz:=fun i f hf hi h1 h2=>by
   apply hP;unfold uf;refine⟨fun _=>⟨rfl,by omega,f,by rw[Kb];exact hf,fun h3=>?_,fun h3=>?_⟩,fun h=>absurd (show(i:Int)<4 by omega) h⟩
   ·unfold o5;rw[Yq (by omega)<|by omega];exact⟨fun h4=>h1 (by omega)<|zR h4,fun h4=>h2 fun _=>zP h4⟩
   ·unfold o5;rw[Yq (by omega)<|by omega];exact⟨fun h4=>(by cases h4),fun _=>h2 fun h=>by omega⟩
  refine step 0 [] rfl (by decide) (fun h=>absurd h<|by decide) fun _=>step 1 Cd rfl (by decide) (fun _ e=>yes (by unfold Hc;rw[kA h0,kC e.symm];rfl)) fun n1=>step 2 Pg rfl (by decide) (fun _ e=>yes (by unfold Hc;rw[kA h0,kA fun e'=>n1 (by decide) e'.symm,kC e.symm];rfl)) fun n2=>step 3 Lg rfl (by decide) (fun _ e=>yes (by unfold Hc;rw[kA h0,kA fun e'=>n1 (by decide) e'.symm,kA fun e'=>n2 (by decide) e'.symm,kC e.symm];rfl)) fun n3=>?_
  apply hP;unfold uf KI;refine⟨fun h=>absurd h<|by decide,fun _=>⟨_,_,Au H.toHas03 s Kc,fun h1=>?_,fun h1=>?_⟩⟩
  all_goals
   have e1:Hc s=if (Zn Kc s).2=false then none else
    if (Wv (Zn Kc s).1).2≠0 then none else
    let v:=(Wv (Zn Kc s).1).1
    if v.kind=2 then some ⟨1,v,0⟩else if v.kind=1 then some ⟨2,v,0⟩else if v.kind=3 then some ⟨3,v,0⟩else none:=by
    conv=>lhs;unfold Hc
    rw[kA h0,kA fun e'=>n1 (by decide) e'.symm,kA fun e'=>n2 (by decide) e'.symm,kA fun e'=>n3 (by decide) e'.symm]
  ·exact no (by rw[e1,kC<|by simpa using h1])
  ·rw[kA<|by simpa using h1]at e1;have hl:(Zn Kc s).1.length<=1000000000:=by unfold Zn;split<;>simp<;>omega
   refine⟨_,_,c74 H.toHas38 hl,_,WQ H.toHasO,fun Q hQ=>?_⟩;by_cases he:(Wv (Zn Kc s).1).2=0
   ·rw[kA (by rw[he];decide)]at e1;obtain⟨g1,_,_⟩:=Ob he;generalize (Wv (Zn Kc s).1).1=v at e1 g1 hQ⊢;have h7:=Bn (Dz g1).1;unfold Za.okh Jr at h7;simp only at e1
    have st :∀(i:Nat) (c:UInt8),Ii[i]?=some c->i<5->((c.toNat:Int)=v.kind->(Zh.mk (i:Int) v 0)=(Gt s).1/\true=(Gt s).2)->(¬(c.toNat:Int)=v.kind->Q ((i+1:Nat):Int) pz v)->Q (i:Int) pz v:=fun i c hc hi h1 h2=>by
     apply hQ;unfold Ly;refine⟨fun _=>⟨rfl,by omega,c,by rw[Kb];exact hc,fun h3=>?_,fun h3=>absurd he h3⟩,fun h=>absurd (show(i:Int)<5 by omega) h⟩;unfold o6;rw[Yq (by omega)<|by omega,Mh (by omega)<|by omega];exact⟨fun h4=>h1<|zR h4,fun h4=>h2<|zP h4⟩
    refine st 0 0 rfl (by decide) (fun h=>absurd h<|show ¬((0:Int)=v.kind)by omega) fun _=>st 1 2 rfl (by decide) (fun h=>yes (by rw[e1,kC<|show v.kind=2 from h.symm];rfl)) fun n2=>st 2 1 rfl (by decide) (fun h=>yes (by rw[e1,kA fun h'=>n2 h'.symm,kC<|show v.kind=1 from h.symm];rfl)) fun n1=>st 3 3 rfl (by decide) (fun h=>yes (by rw[e1,kA fun h'=>n2 h'.symm,kA fun h'=>n1 h'.symm,kC<|show v.kind=3 from h.symm];rfl)) fun n3=>st 4 2 rfl (by decide) (fun h=>absurd h n2) fun _=>?_
    apply hQ;unfold Ly ug;exact⟨fun h=>absurd h<|by decide,fun _=>no<|by rw[e1,kA fun h'=>n2 h'.symm,kA fun h'=>n1 h'.symm,kA fun h'=>n3 h'.symm]⟩
   ·rw[kC he]at e1
    have st :∀(i:Nat) (c:UInt8),Ii[i]?=some c->i<5->Q ((i+1:Nat):Int) pz (Wv (Zn Kc s).1).1->Q (i:Int) pz (Wv (Zn Kc s).1).1:=fun i c hc hi h2=>by
     apply hQ;unfold Ly;refine⟨fun _=>⟨rfl,by omega,c,by rw[Kb];exact hc,fun h3=>absurd h3 he,fun h3=>?_⟩,fun h=>absurd (show(i:Int)<5 by omega) h⟩;unfold o6;rw[Yq (by omega)<|by omega];exact⟨fun h4=>(by cases h4),fun _=>h2⟩
    refine st 0 0 rfl (by decide) (st 1 2 rfl (by decide)<|st 2 1 rfl (by decide)<|st 3 3 rfl (by decide)<|st 4 2 rfl (by decide) ?_);apply hQ;unfold Ly ug;exact ⟨fun h=>absurd h<|by decide,fun _=>no e1⟩)
 exact h
omit H in
theorem W6{f:Int}(h:f=0\/f=2):It .u64 f 1=f+1/\It .u64 f 4=f+4/\It .u64 (f+1) 4=f+1+4/\IntKind.u64.wrap (f+1)=f+1/\IntKind.u64.wrap (f+4)=f+4/\IntKind.u64.wrap (f+1+4)=f+1+4:=by rcases h with rfl|rfl<;>decide
theorem Xxt{s:Zc}(hs:s.length<=1000000000):Ze PG 156 [.s s] (.tup [(Jt s).1.av,.i .i64 (Jt s).2]):=by
 obtain ⟨x,y,⟨rfl,rfl⟩,h⟩:=Yxt H.f156 (s0:=s) (K:=fun x y=>x=(Jt s).1/\y=(Jt s).2) (by
  unfold KJ;refine⟨fun h=>?_,fun h=>?_⟩
  ·unfold Jt;rw[kC<|by omega];exact⟨rfl,rfl⟩
  have hl:¬2000<s.length:=by omega
  have l1:(Xg Vx s).1.length<=1000000000:=kX (ue _ _) hs;have l2:(Xg Jx (Xg Vx s).1).1.length<=1000000000:=kX (ue _ _) l1
  have e:Jt s=(match Hc (Xg Jx (Xg Vx s).1).1 with
   |none=>(pz,12)
   | some p=>if Xz (Qd p (Xg Jx (Xg Vx s).1).2 (Xg Vx s).2)=true then (Qd p (Xg Jx (Xg Vx s).1).2 (Xg Vx s).2,0) else (pz,12)):=by
   conv=>lhs;unfold Jt
   rw[kA hl];rfl
  refine⟨_,_,WR H.toHasO (p:=Vx) hs,_,_,WR H.toHasO (p:=Jx) l1,_,_,Xsr H l2,?_⟩;generalize Xg Vx s=a at e l1 l2⊢;generalize Xg Jx a.1=r at e l2⊢
  cases hc:Hc r.1 with
  |none=>
   rw[hc]at e;have e2:Gt r.1=(pz,false):=by unfold Gt;rw[hc]
   rw[e,e2];unfold o7 Aw;exact⟨fun _=>⟨fun _=>⟨fun _=>⟨rfl,rfl⟩,fun h=>(by cases h)⟩,fun _=>⟨fun _=>⟨rfl,rfl⟩,fun h=>(by cases h)⟩⟩,fun _=>⟨fun _=>⟨fun _=>⟨rfl,rfl⟩,fun h=>(by cases h)⟩,fun _=>⟨fun _=>⟨rfl,rfl⟩,fun h=>(by cases h)⟩⟩⟩
  |some p=>
   rw[hc]at e;have e2:Gt r.1=(p,true):=by unfold Gt;rw[hc]
   rw[e,e2];obtain⟨w1,w2,w3,w4,_⟩:=W7 hc;obtain⟨o1,o2,o3,_⟩:=W6 w2
   have fin :∀q:Zh,q=Qd p r.2 a.2->Aw PG (fun x y=>x=(if Xz (Qd p r.2 a.2)=true then (Qd p r.2 a.2,(0:Int))else (pz,12)).1/\y=(if Xz (Qd p r.2 a.2)=true then (Qd p r.2 a.2,(0:Int))else (pz,12)).2) true pz q:=fun q hq=>by
    subst hq;have hw:Hu (Qd p r.2 a.2):=⟨⟨w3,by simp only[Qd];omega⟩,w1,by simp only[Qd];constructor<;>(split<;>split<;>omega)⟩;unfold Aw;refine⟨fun h=>(by cases h),fun _=>⟨_,J0 H.toHasO hw,fun h1=>?_,fun h1=>?_⟩⟩
    ·rw[kA fun h'=>h1<|Tt.2 h'];exact⟨rfl,rfl⟩
    ·rw[kC<|Tt.1<|kP.1 h1];exact⟨rfl,rfl⟩
   unfold o7;simp only;refine⟨fun h1=>⟨fun h2=>fin _ ?_,fun h2=>fin _ ?_⟩,fun h1=>⟨fun h2=>fin _ ?_,fun h2=>fin _ ?_⟩⟩<;>unfold Qd<;>rw[h1,h2]
   ·rw[o1,o3];rfl
   ·rw[o1];simp
   ·rw[o2];simp
   ·simp)
 exact h
theorem Xrc{s:Zc}(hs:s.length<=1000000000):Ze PG 157 [.s s] (.tup [(Jt s).1.av,.i .i64 (Jt s).2]):=by
 obtain ⟨x,y,⟨rfl,rfl⟩,h⟩:=Xiy H.f157 (s0:=s) (K:=fun x y=>x=(Jt s).1/\y=(Jt s).2) (by
  unfold KL KM;refine⟨fun h=>?_,fun h=>?_⟩
  ·unfold Jt;rw[kC<|by omega];exact⟨rfl,rfl⟩
  have hl:¬2000<s.length:=by omega
  have l1:(Xg Vx s).1.length<=1000000000:=kX (ue _ _) hs;have l2:(Xg Jx (Xg Vx s).1).1.length<=1000000000:=kX (ue _ _) l1;have e:=Xbu hl;unfold KN KO KP;refine⟨_,_,WS H.toHasO (p:=Vx) hs,_,_,WS H.toHasO (p:=Jx) l1,?_⟩;rw[<- e];clear e;generalize Xg Vx s=a at l1 l2⊢;generalize Xg Jx a.1=r at l2⊢;have no:Bq r.1=none->pz=(Hv s r.2 a.2 r.1).1/\(12:Int)=(Hv s r.2 a.2 r.1).2:=fun h=>by unfold Hv;rw[h];exact⟨rfl,rfl⟩
  have t6 :∀p:Zh,Bq r.1=some p->Lu PG (fun x y=>x=(Hv s r.2 a.2 r.1).1/\y=(Hv s r.2 a.2 r.1).2) s a.2 r.2 pz p:=fun p hp=>by
   obtain⟨w1,w2,w3,w4⟩:=W4 hp;obtain⟨_,_,_,o1,o2,o3⟩:=W6 w2
   have fin :∀q:Zh,q=Qd p r.2 a.2->o8 PG (fun x y=>x=(Hv s r.2 a.2 r.1).1/\y=(Hv s r.2 a.2 r.1).2) s pz q:=fun q hq=>by
    subst hq;have hw:Hu (Qd p r.2 a.2):=⟨⟨w3,by simp only[Qd];omega⟩,w1,by simp only[Qd];constructor<;>(split<;>split<;>omega)⟩;have er:Hv s r.2 a.2 r.1=if Xz (Qd p r.2 a.2)=true/\Vf (Qd p r.2 a.2)=s then (Qd p r.2 a.2,0)else (pz,12):=by unfold Hv;rw[hp]
    unfold o8;refine⟨_,WT H.toHasO hw,fun h1=>?_,fun h1=>?_⟩
    ·rw[er,kA fun h'=>h1<|Tt.2 h'.1];exact⟨rfl,rfl⟩
    have h1:=Tt.1 (kP.1 h1);refine⟨_,WX H.toHasO hw h1,fun h2=>?_,fun h2=>?_⟩
    ·rw[er,kA fun h'=>h2 h'.2];exact⟨rfl,rfl⟩
    ·rw[er,kC ⟨h1,kP.1 h2⟩];exact⟨rfl,rfl⟩
   unfold Lu uh;simp only;refine⟨fun h1=>⟨fun h2=>fin _ ?_,fun h2=>fin _ ?_⟩,fun h1=>⟨fun h2=>fin _ ?_,fun h2=>fin _ ?_⟩⟩<;>unfold Qd<;>rw[h1,h2]
   ·rw[o1,o3];rfl
   ·rw[o1];simp
   ·rw[o2];simp
   ·simp
  unfold KQ;refine⟨fun h0=>t6 _ (by unfold Bq;rw[kC<|show r.1=Nk from h0]),fun h0=>?_⟩;have h0:r.1≠Nk:=h0
  have t10 :∀b:Bool,b=decide (6<r.1.length/\r.1.take 6=Kc)->¬(6<r.1.length/\r.1.take 6=KB)->o_ PG (fun x y=>x=(Hv s r.2 a.2 r.1).1/\y=(Hv s r.2 a.2 r.1).2) s r.1 a.2 r.2 b pz pz:=fun b hb hn=>by
   unfold o_;refine⟨fun h1=>?_,fun h1=>no (by unfold Bq;rw[kA h0,kA hn,kA<|zP<|hb ▸ h1])⟩;have hy:=zR (hb ▸ h1)
   have e:Bq r.1=if (Wv<|r.1.drop 6).2≠0 then none else some ⟨(([9,2,1,3,9,9,9,9]:List Int)[(Wv<|r.1.drop 6).1.kind.toNat]?).getD 0,(Wv<|r.1.drop 6).1,0⟩:=by
    unfold Bq;rw[kA h0,kA hn,kC hy]
   refine⟨by omega,_,_,c75 H.toHas38 (by simp;omega),fun h2=>no<|by rw[e,kC h2],fun h2=>?_⟩;rw[kA h2]at e;obtain⟨g1,_,g3⟩:=Ob (kP.1 h2);have h7:=Bn (Dz g1).1;unfold Za.okh Jr at h7
   have hk :∃c:Int,([9,2,1,3,9,9,9,9]:List Int)[(Wv<|r.1.drop 6).1.kind.toNat]?=some c:=by
    generalize (Wv<|r.1.drop 6).1.kind=k at h7;rcases(show k=1\/k=2\/k=3\/k=4\/k=5\/k=6\/k=7 by omega)with rfl|rfl|rfl|rfl|rfl|rfl|rfl<;>exact⟨_,rfl⟩
   obtain⟨c,hc⟩:=hk;rw[hc]at e;exact⟨g3.k.1,c,hc,t6 _ e⟩
  have t9 :∀b:Bool,b=decide (6<r.1.length/\r.1.take 6=KB)->pa PG (fun x y=>x=(Hv s r.2 a.2 r.1).1/\y=(Hv s r.2 a.2 r.1).2) s r.1 a.2 r.2 b pz pz:=fun b hb=>by
   unfold pa;refine⟨fun h1=>?_,fun h1=>⟨fun h2=>⟨by omega,t10 _ (decide_eq_decide.2 ⟨fun h=>⟨by omega,h⟩,fun h=>h.2⟩)<|zP<|hb ▸ h1⟩,fun h2=>t10 _ (kI fun h=>h2<|by omega).symm<|zP<|hb ▸ h1⟩⟩;have hy:=zR (hb ▸ h1);have g6:r.1[6]?=some r.1[6]:=kH hy.1;have:=(r.1[6]).toNat_lt;refine⟨_,g6,?_⟩;rw[Yq (by omega)<|by omega];exact t6 _ (by unfold Bq;rw[kA h0,kC hy,g6];rfl)
  exact ⟨fun h1=>⟨by omega,t9 _<|decide_eq_decide.2 ⟨fun h=>⟨by omega,h⟩,fun h=>h.2⟩⟩,fun h1=>t9 _ (kI fun h=>h1<|by omega).symm⟩)
 exact h
end
end Go.AM

namespace Go.AM
open Go
structure HasQ(PG:Zb):Prop extends HasP PG where
 f163:PG.fn 163=some ui
 f169:PG.fn 169=some W8
 f170:PG.fn 170=some uj
def Hw(l:List Zh):Int:=if 410<l.length then 4 else if l.all Xz=true then 0 else 8
def Xpf(l:List Zh):Bool:=(decide (20<l.length)&&decide (l.length<=410))||decide (420<l.length)||l.any (fun p=>KR p.value)
theorem Xe3{l:List Zh}(h:¬410<l.length)(ho :∀p∈l,Xz p=true):Hw l=0:=by unfold Hw;rw[kA h,kC<|jU.2 ho]
theorem Xh2{l:List Zh}(h:¬410<l.length){p:Zh}(hp:p∈l)(ho:Xz p≠true):Hw l=8:=by unfold Hw;rw[kA h,kA fun h'=>ho<|jU.1 h' p hp]
theorem W9{l:List Zh}(h:Hw l=0):l.length<=410/\∀p∈l,Xz p=true:=by
 unfold Hw at h;split at h
 ·cases h
 ·split at h
  ·rename_i h1 h2;exact⟨by omega,jU.1 h2⟩
  ·cases h
section
variable{PG:Zb}(H:HasQ PG)
include H
theorem Wcu{l:List Zh}(hw :∀p∈l,Hu p):Ze PG 163 [.sl .ext<|l.map Zh.row] (.i .i64<|Hw l):=by
 obtain ⟨x,rfl,h⟩:=Xip H.f163 (l0:=l) (K:=fun x=>x=Hw l) (by
  unfold KS;refine⟨fun h=>by unfold Hw;rw[kC<|by omega],fun h P hP=>?_⟩;refine Ds l.length (fun i=>∀p∈l.take i,Xz p=true) (by simp) (fun hI=>hP _ ?_) fun i hi hI next=>hP _ ?_
  ·unfold uk KT;rw[kQ]at hI;exact⟨fun h=>absurd h<|by omega,fun _=>(Xe3 (by omega) hI).symm⟩
  ·unfold uk;refine⟨fun _=>⟨by omega,_,Xi hi,_,WT H.toHasO<|hw _<|kL hi,fun h1=>?_,fun h1=>?_⟩,fun h=>absurd (show(i:Int)<l.length by omega) h⟩
   ·have hn:Xz l[i]≠true:=fun h'=>h1 (Tt.2 h')
    rw[Xh2 (by omega) (kL hi) hn,Mz<|by simpa using hn]
   ·rw[Yq (by omega)<|by omega];refine next fun p hp=>?_
    rw[kM hi]at hp;rcases kZ.1 hp with hp|hp
    ·exact hI p hp
    ·rw [jO.1 hp];exact Tt.1 (kP.1 h1))
 exact h
end
section
variable{PG:Zb}(H:HasQ PG)
include H
end
end Go.AM

namespace Go.AM
open Go
def n_(s:Xt):Bool:=decide (40<s.name.length)
def Mu(f:Zz):Bool:=decide (40<f.name.length)||decide (30<f.slots.length)||decide (300<f.code.length)||f.slots.any n_
def Ss(m:Zd):Bool:=(m.funcs.take 41).any Mu||decide (40<m.funcs.length)
def Yxe(x:Zf):Bool:=(x.locals.take 21).any (fun l=>KR l.value)||decide (20<x.locals.length)
structure We(m:Zd):Prop where
 n:m.funcs.length<=40
 f :∀f∈m.funcs,f.name.length<=40/\f.slots.length<=30/\f.code.length<=300/\∀s∈f.slots,s.name.length<=40
theorem We.of{m:Zd}(h:Ss m=false):We m:=by
 simp only[Ss,xC,zS]at h;have hn:m.funcs.length<=40:=by omega
 refine⟨hn,fun f hf=>?_⟩;have h1:=h.1;rw[zF<|by omega,xB]at h1;have h2:=h1 f hf;simp only[Mu,zL,xC,zS,xB]at h2;refine⟨by omega,by omega,by omega,fun s hs=>?_⟩;simpa[n_]using h2.2 s hs
structure Ul(x:Zf):Prop where
 m:0<=x.mode
 n:x.locals.length<=9223372036854775807
 v :∀l∈x.locals,Wf l.value
def Ky(n:Int):Int->List Zx->Bool
 |_,[]=>true
 |last,l::r=>decide (last<l.slot)&&decide (l.slot<n)&&Vl l.value&&Ky n l.slot r
def Tm(f:Zz)(x:Zf):Bool:=decide (f.slots.length<=16)&&decide (f.name.length<=16)&&decide (0<=x.pos)&&decide (x.pos<f.code.length)&&f.slots.all (fun s=>decide<|s.name.length<=16)&&Ky f.slots.length (-1) x.locals
def Jm(m:Zd)(x:Zf):Bool:=decide (0<=x.func)&&decide (x.mode<=3)&&(match m.funcs[x.func.toNat]? with|none=>false|some f=>Tm f x)
def Gg(m:Zd)(x:Zf):Int:=if Jm m x=true then 0 else 8
def Tn:List Zc:=[[99,97,108,108],[100,101,102,101,114],[112,97,110,105,99],[101,120,105,116]]
def Hr(n:Int):Zc:=(Tn[n.toNat]?).getD []
def Uv(f:Zz)(k:Int)(x:Zf):Zc:=[35]++Yn k++[32]++Yn x.func++[32]++quo f.name++[32,97,116,32]++Yn x.pos++[32]++Hr x.mode
def Nb(f:Zz)(n:Int):Zc:=((f.slots[n.toNat]?).getD Xt.zero).name
def Gs(f:Zz)(l:Zx):Zc:=[32,32]++Yn l.slot++[32]++quo (Nb f l.slot)++[32,61,32]++Ys l.value
def Ks(m:Zd)(k:Int)(x:Zf):List Zc:=match m.funcs[x.func.toNat]? with
 |none=>[]
 |some f=>Uv f k x::x.locals.map (Gs f)
def Uy(m:Zd)(k:Int)(x:Zf):List Zc × Int:=if k<0\/170<=k then ([],2)else if Jm m x=true then (Ks m k x,0)else ([],8)
theorem Bk{m:Zd}{x:Zf}:Jm m x=true↔0<=x.func/\x.mode<=3/\∃f,m.funcs[x.func.toNat]?=some f/\Tm f x=true:=by
 unfold Jm
 cases h:m.funcs[x.func.toNat]? with
 |none=>simp
 |some f=>simp[and_assoc]
theorem Ty{f:Zz}{x:Zf}:Tm f x=true↔f.slots.length<=16/\f.name.length<=16/\0<=x.pos/\x.pos<f.code.length/\(∀s∈f.slots,s.name.length<=16)/\Ky f.slots.length (-1) x.locals=true:=by simp[Tm,and_assoc]
theorem Lx{n:Int}:∀{l:List Zx}{last:Int},Ky n last l=true->∀x∈l,last<x.slot/\x.slot<n/\Vl x.value=true
 |[],_,_,x,hx=>by cases hx
 |y::r,last,h,x,hx=>by
  simp only[Ky,kR,jA]at h;obtain⟨⟨⟨h1,h2⟩,h3⟩,h4⟩:=h;rcases jH.1 hx with rfl|hx
  ·exact⟨h1,h2,h3⟩
  ·have:=Lx h4 x hx;exact⟨by omega,this.2⟩
theorem tm{n:Int}:∀{l:List Zx}{last:Int},Ky n last l=true->l=[]\/(l.length:Int)<n-last
 |[],_,_=>.inl rfl
 |y::r,last,h=>by
  simp only[Ky,kR,jA]at h;obtain⟨⟨⟨h1,h2⟩,h3⟩,h4⟩:=h;rcases tm h4 with rfl|h5
  ·right;simp only[kB,kD];omega
  ·right;simp only[kB];omega
theorem Yr0{n last:Int}:∀(l:List Zx) (i:Nat),Ky n last l=true->Ky n last (l.take i)=true
 |[],i,h=>by rw[List.take_nil];rfl
 |y::r,0,h=>rfl
 |y::r,i+1,h=>by
  simp only[Ky,yU,kR]at h⊢;exact⟨h.1,Yr0 r i h.2⟩
def Nu(last:Int):List Zx->Int
 |[]=>last
 |l::r=>Nu l.slot r
theorem HA:∀(l:List Zx) (last:Int) (x:Zx),Nu last (l++[x])=x.slot
 |[],_,_=>rfl
 |y::r,last,x=>HA r y.slot x
theorem VX{n:Int}:∀(l:List Zx) (last:Int) (x:Zx),Ky n last (l++[x])=(Ky n last l&&decide (Nu last l<x.slot)&&decide (x.slot<n)&&Vl x.value)
 |[],last,x=>by simp[Ky,Nu];rfl
 |y::r,last,x=>by
  simp only[kY,Ky,Nu,VX r y.slot x];simp only[Bool.and_assoc];rfl
theorem VY{n last:Int}{l:List Zx}{i:Nat}(h:Ky n last (l.take i)=false):Ky n last l=false:=by rw[<- zL]at h⊢;exact fun h'=>h (Yr0 l i h')
def Yk(n:Int)(s:Zc):Int × Bool × Zc:=((Qq s).1,(Qq s).2.1&&decide (0<=(Qq s).1)&&decide ((Qq s).1<n),(Qq s).2.2)
def Gf(v:Zc):List Zc->Int
 |[]=>-1
 |x::r=>if v=x then 0 else if Gf v r = -1 then -1 else 1+Gf v r
def Ru(s:Zc):Int:=Gf s Tn
def Kr(m:Zd)(n:Int):Zc:=((m.funcs[n.toNat]?).getD Zz.zero).name
def Gu(m:Zd)(n:Int):Int:=(((m.funcs[n.toNat]?).getD Zz.zero).code.length:Nat)
def Td(k f p:Int)(s:Zc):Int × Zf × Bool:=(k,⟨f,p,max 0<|Ru s,[]⟩,decide<|0<=Ru s)
def Hn(m:Zd)(k f:Int)(s:Zc):Int × Zf × Bool:=
 if (Yk (Gu m f) s).2.1=false then (0,⟨f,(Yk (Gu m f) s).1,0,[]⟩,false)else
 if (Zn [32] (Yk (Gu m f) s).2.2).2=false then (0,⟨f,(Yk (Gu m f) s).1,0,[]⟩,false)else Td k f (Yk (Gu m f) s).1 (Zn [32] (Yk (Gu m f) s).2.2).1
def Hh(m:Zd)(k:Int)(s:Zc):Int × Zf × Bool:=
 if (Yk m.funcs.length s).2.1=false then (0,⟨(Yk m.funcs.length s).1,0,0,[]⟩,false)else
 if (Zn ([32]++quo (Kr m (Yk m.funcs.length s).1)++[32,97,116,32]) (Yk m.funcs.length s).2.2).2=false then (0,⟨(Yk m.funcs.length s).1,0,0,[]⟩,false)else
 Hn m k (Yk m.funcs.length s).1 (Zn ([32]++quo (Kr m (Yk m.funcs.length s).1)++[32,97,116,32]) (Yk m.funcs.length s).2.2).1
def Hx(m:Zd)(s:Zc):Int × Zf × Bool:=
 if (Yk 170 s).2.1=false then (0,⟨0,0,0,[]⟩,false)else if (Zn [32] (Yk 170 s).2.2).2=false then (0,⟨0,0,0,[]⟩,false)else Hh m (Yk 170 s).1 (Zn [32] (Yk 170 s).2.2).1
def Ww(m:Zd)(s:Zc):Int × Zf × Bool:=if (Zn [35] s).2=false then (0,⟨0,0,0,[]⟩,false)else Hx m (Zn [35] s).1
def Ht(m:Zd)(s:Zc):Int × Zf × Bool:=if (Ww m s).2.2=true then Ww m s else (0,⟨0,0,0,[]⟩,false)
def Jf(f:Zz)(s:Zc):Option Zx:=
 if (Zn [32,32] s).2=false then none else
 if (Yk f.slots.length (Zn [32,32] s).1).2.1=false then none else
 if (Zn ([32]++quo (Nb f (Yk f.slots.length (Zn [32,32] s).1).1)++[32,61,32]) (Yk f.slots.length (Zn [32,32] s).1).2.2).2=false then none else
 if (Wv (Zn ([32]++quo (Nb f (Yk f.slots.length (Zn [32,32] s).1).1)++[32,61,32]) (Yk f.slots.length (Zn [32,32] s).1).2.2).1).2=0 then
  some ⟨(Yk f.slots.length (Zn [32,32] s).1).1,(Wv (Zn ([32]++quo (Nb f (Yk f.slots.length (Zn [32,32] s).1).1)++[32,61,32]) (Yk f.slots.length (Zn [32,32] s).1).2.2).1).1⟩else none
def Qs(f:Zz):List Zc->Option (List Zx)
 |[]=>some []
 |s::r=>match Jf f s with
  |none=>none
  |some y=>match Qs f r with|none=>none|some ys=>some (y::ys)
abbrev fz:Zf:=⟨0,0,0,[]⟩
def Jy(m:Zd)(l:List Zc):Int × Zf × Int:=
 if 17<l.length\/Dj 1400060 l=true then (0,fz,4)else
 match l with
 |[]=>(0,fz,12)
 |s::r=>if (Ww m s).2.2=false then (0,fz,12)else
  match m.funcs[(Ww m s).2.1.func.toNat]? with
  |none=>(0,fz,12)
  |some f=>match Qs f r with
   |none=>(0,fz,12)
   |some ys=>if Uy m (Ww m s).1 { (Ww m s).2.1 with locals:=ys }=(l,0)then ((Ww m s).1,{ (Ww m s).2.1 with locals:=ys },0)else (0,fz,12)
theorem Fi(n:Int)(s:Zc):(Yk n s).2.1=true->0<=(Yk n s).1/\(Yk n s).1<n:=by intro h;simp only[Yk,kR,jA]at h⊢;omega
theorem K3(v:Zc):∀l:List Zc,-1<=Gf v l/\Gf v l<l.length
 |[]=>⟨Int.le_refl _,by show(-1:Int)<0;decide⟩
 |x::r=>by
  have:=K3 v r;rw[Gf,kB]
  repeat' split
  all_goals omega
theorem Xep(s:Zc):-1<=Ru s/\Ru s<4:=K3 s Tn
theorem JH(m:Zd)(s:Zc):0<=(Ww m s).2.1.mode:=by
 have h0 :∀a:Int,0<=max 0 a:=fun a=>by omega
 unfold Ww Hx Hh Hn Td
 repeat' split
 all_goals first|exact h0 _|exact Int.le_refl 0
theorem WA(m:Zd)(s:Zc):(Ww m s).2.1.locals=[]:=by
 unfold Ww Hx Hh Hn Td
 repeat' split
 all_goals rfl
theorem V_{m:Zd}{s:Zc}(h:(Ww m s).2.2=true):0<=(Ww m s).2.1.func/\(Ww m s).2.1.func<m.funcs.length/\0<=(Ww m s).1/\(Ww m s).1<170:=by
 unfold Ww at h⊢;split at h
 ·cases h
 rename_i h1;rw[kA h1];clear h1;generalize (Zn [35] s).1=t at h⊢;unfold Hx at h⊢;split at h
 ·cases h
 rename_i h1;rw[kA h1];split at h
 ·cases h
 rename_i h2;rw[kA h2];have k1:=Fi 170 t (by simpa using h1);clear h1 h2;generalize (Yk 170 t).1=k at h k1⊢;generalize (Zn [32] (Yk 170 t).2.2).1=u at h⊢;unfold Hh at h⊢;split at h
 ·cases h
 rename_i h1;rw[kA h1];split at h
 ·cases h
 rename_i h2;rw[kA h2];have k2:=Fi m.funcs.length u (by simpa using h1);clear h1 h2;generalize (Zn ([32]++quo (Kr m (Yk m.funcs.length u).1)++[32,97,116,32]) (Yk m.funcs.length u).2.2).1=w at h⊢;generalize (Yk m.funcs.length u).1=f at h k2⊢;unfold Hn at h⊢;split at h
 ·cases h
 rename_i h1;rw[kA h1];split at h
 ·cases h
 rename_i h2;rw[kA h2];exact⟨k2.1,k2.2,k1.1,k1.2⟩
end Go.AM

namespace Go.AM
open Go
structure HasF(PG:Zb):Prop extends Has38 PG where
 f79:PG.fn 79=some sN
 f82:PG.fn 82=some sO
 f86:PG.fn 86=some sP
 f87:PG.fn 87=some sQ
 f88:PG.fn 88=some sS
 f111:PG.fn 111=some sT
 f112:PG.fn 112=some sU
 f113:PG.fn 113=some Iy
 f114:PG.fn 114=some sV
 f115:PG.fn 115=some sW
 f116:PG.fn 116=some sX
 f119:PG.fn 119=some sY
 f122:PG.fn 122=some sZ
 f123:PG.fn 123=some s4
 f124:PG.fn 124=some s6
 f137:PG.fn 137=some s7
 f138:PG.fn 138=some s9
 f139:PG.fn 139=some s_
 f141:PG.fn 141=some ta
 f144:PG.fn 144=some tb
def Jl{α:Type}(p:α->Bool):List α->Int
 |[]=>-1
 |x::r=>if p x=true then 0 else if Jl p r = -1 then -1 else 1+Jl p r
theorem Tk{α:Type}(p:α->Bool):∀l:List α,-1<=Jl p l/\(0<=Jl p l↔l.any p=true)
 |[]=>by simp[Jl]
 |x::r=>by
  have:=Tk p r;rw[Jl,List.any_cons];cases p x
  ·simp only[jL,jT,Bool.false_or];split
   ·exact⟨by omega,fun h=>absurd h<|by decide,fun h=>absurd (this.2.2 h)<|by omega⟩
   ·exact⟨by omega,fun _=>this.2.1<|by omega,fun h=>by have:=this.2.2 h;omega⟩
  ·simp
theorem Ck{α:Type}{P:Int->Prop}{Q:Int->Prop}(p:α->Bool)(l:List α)(h1:Q (-1)->P (l.length:Int))(h2 :∀(i:Nat) (hi:i<l.length),p l[i]=true->Q (i:Int)->P (i:Int))(h3 :∀(i:Nat) (hi:i<l.length),p l[i]=false->P ((i+1:Nat):Int)->P (i:Int))(hQ:Q (Jl p l)):P 0:=by
 have key :∀m i:Nat,i+m=l.length->Q (if Jl p (l.drop i) = -1 then -1 else i+Jl p (l.drop i))->P (i:Int):=by
  intro m
  induction m with
  |zero=>
   intro i hi hq;have:l.drop i=[]:=yF (by omega);rw[this]at hq;simp only[zV]at hi;subst hi;exact h1 (by simpa[Jl]using hq)
  |succ m ih=>
   intro i hi hq;have bR:i<l.length:=by omega
   rw[zE bR,Jl]at hq;have hb:=(Tk p<|l.drop<|i+1).1
   cases hp:p l[i]with
   |true=>
    refine h2 i bR hp ?_;rw[hp]at hq;simpa using hq
   |false=>
    refine h3 i bR hp (ih (i+1) (by omega) ?_);rw[hp]at hq;simp only[jL,jT]at hq;by_cases hn:Jl p (l.drop<|i+1) = -1
    ·rw[kC hn]at hq⊢;simpa using hq
    ·rw[kA hn]at hq⊢;rw[kA<|by omega]at hq;rw[show((i+1:Nat):Int)+Jl p (l.drop<|i+1)=(i:Int)+(1+Jl p (l.drop<|i+1))by omega];exact hq
 refine key l.length 0 (by omega) ?_;rw[zU];split
 ·rename_i h;rw[h]at hQ;exact hQ
 ·simpa using hQ
theorem VR(v:Zc):∀l:List Zc,Gf v l=Jl (fun x=>decide<|v=x) l
 |[]=>rfl
 |x::r=>by rw[Gf,Jl,VR v r];simp
theorem VS{n:Int}(h0:0<=n)(h1:n<=3):Tn[n.toNat]?=some (Hr n):=by
 have:n=0\/n=1\/n=2\/n=3:=by omega
 rcases this with rfl|rfl|rfl|rfl<;>rfl
theorem tc{n:Int}(h0:0<=n)(h1:n<=3):(Hr n).length<=5:=by
 have:n=0\/n=1\/n=2\/n=3:=by omega
 rcases this with rfl|rfl|rfl|rfl<;>decide
section
variable{PG:Zb}(H:HasF PG)
include H
theorem td{n:Int}(h1:-9223372036854775808<=n)(h2:n<9223372036854775808):Ze PG 111 [.i .i64 n] (.s<|Yn n):=by
 obtain ⟨x,rfl,h⟩:=Xz3 H.f111 (n0:=n) (K:=fun x=>x=Yn n) (by
  unfold GJ;exact ⟨_,c15 H.toHas03 h1 h2,rfl⟩)
 exact h
theorem te{n:Int}(h1:-9223372036854775808<=n)(h2:n<9223372036854775808):Ze PG 137 [.i .i64 n] (.s<|Yn n):=by
 obtain ⟨x,rfl,h⟩:=Xyq H.f137 (n0:=n) (K:=fun x=>x=Yn n) (by
  unfold GK;exact ⟨_,c16 H.toHas03 h1 h2,rfl⟩)
 exact h
theorem tf{s:Zc}(hs:s.length<=400):Ze PG 112 [.s s] (.s<|quo s):=by
 obtain ⟨x,rfl,h⟩:=Xzi H.f112 (s0:=s) (K:=fun x=>x=quo s) (by
  unfold GL;refine⟨_,_,c11 H.toHas03 s,?_⟩;rw [EY hs])
 exact h
theorem VT:Ze PG 113 [] (.ag<|Tn.map AV.s):=by obtain⟨x,rfl,h⟩:=Xxp H.f113 (K:=fun x=>x=Tn) (by unfold GM;rfl);exact h
theorem VU{n:Int}(h0:0<=n)(h1:n<=3):Ze PG 138 [.i .u64 n] (.s<|Hr n):=by
 obtain ⟨x,rfl,h⟩:=Xni H.f138 (m0:=n) (K:=fun x=>x=Hr n) (by
  unfold GN;exact ⟨h0,_,VS h0 h1,rfl⟩)
 exact h
theorem Wca(s:Zc):Ym PG 116 [.s s] (fun r=>r=.b (decide<|1400060<s.length)):=by
 refine(Xjb H.f116 (s0:=s) (K:=fun x=>x=decide (1400060<s.length)) ?_).to ?_
 ·unfold GO;exact decide_eq_decide.2 (by omega)
 ·rintro r ⟨x,rfl,rfl⟩;rfl
theorem Wab(s:Xt):Ym PG 123 [s.av] (fun r=>r=.b (decide<|16<s.name.length)):=by
 refine(Wa2 H.f123 (s0:=s) (K:=fun x=>x=decide (16<s.name.length)) ?_).to ?_
 ·unfold GP;exact decide_eq_decide.2 (by omega)
 ·rintro r ⟨x,rfl,rfl⟩;rfl
theorem Xub{l:List Zc}{f:Nat × List AV}{p:Zc->Bool}(hl:l.length<=9223372036854775807)(hf :∀x∈l,Ym PG f.1 ([.s x]++f.2)<|fun r=>r=.b (p x))(o:Zr):Ym PG 139 [.sl o<|l.map Zv,.fn f.1 f.2] (fun r=>r=.i .i64 (Jl p l)):=by
 refine(Xay H.f139 (s0:=l) (f1:=f) (K:=fun x=>x=Jl p l) ?_ o).to ?_
 ·unfold GQ;intro P hP;refine Ck (Q:=fun x=>x=Jl p l) p l (fun h=>hP _ ?_) (fun i hi hp hq=>hP _ ?_) (fun i hi hp ih=>hP _ ?_) rfl
  ·unfold nZ GR;exact⟨fun h'=>absurd h'<|by omega,fun _=>h⟩
  ·unfold nZ;refine⟨fun _=>⟨by omega,_,Xi hi,_,hf _<|kL hi,fun _=>hq,fun h'=>?_⟩,fun h'=>absurd h'<|by omega⟩;rw[hp]at h';cases h'
  ·unfold nZ;refine⟨fun _=>⟨by omega,_,Xi hi,_,hf _<|kL hi,fun h'=>?_,fun _=>?_⟩,fun h'=>absurd h'<|by omega⟩
   ·rw[hp]at h';cases h'
   ·rw[Yq (by omega)<|by omega];exact ih
 ·rintro r ⟨x,rfl,rfl⟩;rfl
theorem Wcs{l:List Xt}{f:Nat × List AV}{p:Xt->Bool}(hl:l.length<=9223372036854775807)(hf :∀x∈l,Ym PG f.1 ([x.av]++f.2)<|fun r=>r=.b (p x))(o:Zr):Ym PG 144 [.sl o<|l.map Xt.row,.fn f.1 f.2] (fun r=>r=.i .i64 (Jl p l)):=by
 refine(Wck H.f144 (s0:=l) (f1:=f) (K:=fun x=>x=Jl p l) ?_ o).to ?_
 ·unfold GS;intro P hP;refine Ck (Q:=fun x=>x=Jl p l) p l (fun h=>hP _ ?_) (fun i hi hp hq=>hP _ ?_) (fun i hi hp ih=>hP _ ?_) rfl
  ·unfold n5 GU;exact⟨fun h'=>absurd h'<|by omega,fun _=>h⟩
  ·unfold n5;refine⟨fun _=>⟨by omega,_,Xi hi,_,hf _<|kL hi,fun _=>hq,fun h'=>?_⟩,fun h'=>absurd h'<|by omega⟩;rw[hp]at h';cases h'
  ·unfold n5;refine⟨fun _=>⟨by omega,_,Xi hi,_,hf _<|kL hi,fun h'=>?_,fun _=>?_⟩,fun h'=>absurd h'<|by omega⟩
   ·rw[hp]at h';cases h'
   ·rw[Yq (by omega)<|by omega];exact ih
 ·rintro r ⟨x,rfl,rfl⟩;rfl
theorem Xia{l:List Zc}{f:Nat × List AV}{p:Zc->Bool}(hl:l.length<=9223372036854775807)(hf :∀x∈l,Ym PG f.1 ([.s x]++f.2)<|fun r=>r=.b (p x))(o:Zr):Ym PG 115 [.sl o<|l.map Zv,.fn f.1 f.2] (fun r=>r=.b (l.any p)):=by
 refine(Xbt H.f115 (s0:=l) (f1:=f) (K:=fun x=>x=l.any p) ?_ o).to ?_
 ·unfold GV;refine⟨_,fun o=>Xub H hl hf o,?_⟩;have:=(Tk p l).2;cases h:l.any p
  ·exact kI (by rw[h]at this;intro h';exact absurd (this.1 h')<|by decide)
  ·exact kJ (this.2 h)
 ·rintro r ⟨x,rfl,rfl⟩;rfl
theorem Xh7{l:List Xt}{f:Nat × List AV}{p:Xt->Bool}(hl:l.length<=9223372036854775807)(hf :∀x∈l,Ym PG f.1 ([x.av]++f.2)<|fun r=>r=.b (p x))(o:Zr):Ym PG 122 [.sl o<|l.map Xt.row,.fn f.1 f.2] (fun r=>r=.b (l.any p)):=by
 refine(Xn8 H.f122 (s0:=l) (f1:=f) (K:=fun x=>x=l.any p) ?_ o).to ?_
 ·unfold GW;refine⟨_,fun o=>Wcs H hl hf o,?_⟩;have:=(Tk p l).2;cases h:l.any p
  ·exact kI (by rw[h]at this;intro h';exact absurd (this.1 h')<|by decide)
  ·exact kJ (this.2 h)
 ·rintro r ⟨x,rfl,rfl⟩;rfl
theorem VV{l:List Zc}(hl:l.length<=1000000)(v:Zc):Ze PG 141 [.sl .ext<|l.map Zv,.s v] (.i .i64<|Gf v l):=by
 obtain ⟨x,rfl,h⟩:=Xhn H.f141 (s0:=l) (v1:=v) (K:=fun x=>x=Gf v l) (by
  unfold GX;intro P hP;refine Ck (Q:=fun x=>x=Gf v l) (fun x=>decide<|v=x) l (fun h=>hP _ ?_) (fun i hi hp hq=>hP _ ?_) (fun i hi hp ih=>hP _ ?_) (VR v l).symm
  ·unfold n6 GY;exact⟨fun h'=>absurd h'<|by omega,fun _=>h⟩
  ·unfold n6;exact⟨fun _=>⟨by omega,_,Xi hi,fun _=>hq,fun h'=>absurd (by simpa using hp) h'⟩,fun h'=>absurd h'<|by omega⟩
  ·unfold n6;refine⟨fun _=>⟨by omega,_,Xi hi,fun h'=>absurd h'<|by simpa using hp,fun _=>?_⟩,fun h'=>absurd h'<|by omega⟩;rw [Yq (by omega)<|by omega];exact ih)
 exact h
theorem Xg0{a b:List Zc}(ha:a.length<=9223372036854775807):Ze PG 119 [.sl .ext<|a.map Zv,.sl .ext<|b.map Zv] (.b<|decide<|a=b):=by
 obtain ⟨x,rfl,h⟩:=Xi8 H.f119 (s10:=a) (s21:=b) (K:=fun x=>x=decide (a=b)) (by
  unfold GZ;refine⟨fun h=>(kI fun e=>h<|by rw[e]).symm,fun h P hP=>?_⟩;have h5:a.length=b.length:=by omega
  refine Ds (P:=P) a.length (fun i=>a.take i=b.take i) (by simp) (fun hI=>hP _ ?_) (fun i hi hI bQ=>hP _ ?_)
  ·unfold tg G4;refine⟨fun h=>absurd h<|by omega,fun _=>?_⟩;rw[kQ,h5,kQ]at hI;exact(kJ hI).symm
  ·have bK:i<b.length:=by omega
   unfold tg;refine⟨fun _=>⟨by omega,_,Xi hi,by omega,_,Xi bK,fun h6=>?_,fun h6=>?_⟩,fun h=>absurd h<|by omega⟩
   ·refine(kI fun e=>h6 ?_).symm;subst e;rfl
   ·rw[Yq (by omega)<|by omega];refine bQ ?_;rw [kM hi,kM bK,hI,kP.1 h6])
 exact h
end
end Go.AM

namespace Go.AM
open Go
theorem Ch{m:Zd}{x:Zf}(h:Jm m x≠true):(8:Int)=Gg m x:=by unfold Gg;rw[kA h]
theorem Et{m:Zd}{x:Zf}(h:Jm m x=true):(0:Int)=Gg m x:=by unfold Gg;rw[kC h]
theorem Tu{m:Zd}{n:Int}(h0:0<=n)(h1:n<m.funcs.length):∃f,m.funcs[n.toNat]?=some f/\f∈m.funcs:=by
 have h:n.toNat<m.funcs.length:=by omega
 exact⟨m.funcs[n.toNat],kH h,kL h⟩
theorem VW{n:Int}{l:List Zx}{i:Nat}(hi:i<l.length):Ky n (-1) (l.take<|i+1)=(Ky n (-1) (l.take i)&&decide (Nu (-1) (l.take i)<l[i].slot)&&decide (l[i].slot<n)&&Vl l[i].value):=by rw[kM hi,VX]
section
variable{PG:Zb}(H:HasF PG)
include H
theorem c86{m:Zd}{x:Zf}(hm:We m)(hx:Ul x):Ze PG 86 [m.av,x.av] (.i .i64<|Gg m x):=by
 obtain ⟨y,rfl,h⟩:=p86 H.f86 (m0:=m) (x1:=x) (K:=fun y=>y=Gg m x) (by
  unfold G5 G6;have no:¬(0<=x.func/\x.mode<=3/\∃f,m.funcs[x.func.toNat]?=some f/\Tm f x=true)->(8:Int)=Gg m x:=fun h=>Ch fun h'=>h (Bk.1 h')
  refine⟨fun h=>no<|by omega,fun h0=>⟨fun h=>no ?_,fun h1=>⟨fun h=>no<|by omega,fun h2=>?_⟩⟩⟩
  ·rintro⟨_,_,f,hf,_⟩;rw[kT<|by omega]at hf;cases hf
  obtain⟨f,hf,a_⟩:=Tu (m:=m) (n:=x.func) (by omega) (by omega);obtain⟨q1,q2,q3,q4⟩:=hm.f f a_
  have no:Tm f x≠true->(8:Int)=Gg m x:=fun h=>no (by
   rintro⟨_,_,g,hg,h'⟩;rw[hf]at hg;cases hg;exact h h')
  have no:¬(f.slots.length<=16/\f.name.length<=16/\0<=x.pos/\x.pos<f.code.length/\(∀s∈f.slots,s.name.length<=16)/\Ky f.slots.length (-1) x.locals=true)->(8:Int)=Gg m x:=fun h=>no fun h'=>h (Ty.1 h')
  unfold G7 G8;refine⟨by omega,f,hf,fun h=>no<|by omega,fun k1=>⟨fun h=>no<|by omega,fun k2=>⟨fun h=>no<|by omega,fun k3=>⟨fun h=>no<|by omega,fun k4=>⟨_,fun o=>Xh7 H (l:=f.slots) (f:=(123,[])) (p:=fun s=>decide<|16<s.name.length) (by omega) (fun s _=>Wab H s) o,fun h=>no ?_,fun h=>?_⟩⟩⟩⟩⟩
  ·rintro⟨_,_,_,_,h',_⟩;rw[List.any_eq_true]at h;obtain⟨s,hs,h3⟩:=h;have:=h' s hs;simp only[jA]at h3;omega
  have hs :∀s∈f.slots,s.name.length<=16:=by
   intro s hs;rw[xB]at h;simpa using h s hs
  have no:Ky f.slots.length (-1) x.locals≠true->(8:Int)=Gg m x:=fun h=>no (by rintro⟨_,_,_,_,_,h'⟩;exact h h')
  unfold G9;intro P hP;have hn:=hx.n
  have go :∀k i:Nat,i+k=x.locals.length->Ky f.slots.length (-1) (x.locals.take i)=true->P (Nu (-1)<|x.locals.take i) (i:Int) f:=by
   intro k
   induction k with
   |zero=>
    intro i hi ha;apply hP;unfold th G_;refine⟨fun h=>absurd h<|by omega,fun _=>Et ?_⟩;rw[zF<|by omega]at ha;exact Bk.2 ⟨by omega,by omega,f,hf,Ty.2 ⟨by omega,by omega,by omega,by omega,hs,ha⟩⟩
   |succ k ih=>
    intro i hi ha;have bR:i<x.locals.length:=by omega
    have e:=VW (n:=f.slots.length) bR;have no:Ky f.slots.length (-1) (x.locals.take<|i+1)=false->(8:Int)=Gg m x:=fun h=>no (by rw[VY h];decide)
    rw[ha,jZ]at e;apply hP;unfold th;refine⟨fun _=>⟨by omega,_,Xi bR,fun h=>no ?_,fun h3=>⟨fun h=>no ?_,fun h4=>⟨_,c76 H.toHas38<|hx.v _<|kL bR,fun h=>no ?_,fun h5=>?_⟩⟩⟩,fun h=>absurd (show(i:Int)<x.locals.length by omega) h⟩
    ·rw[e,kI<|by omega];rfl
    ·rw[e,kI (p:=x.locals[i].slot<_)<|by omega];simp
    ·rw[e,show Vl x.locals[i].value=false by rw[<- zL];exact fun h'=>h<|Hb.2 h'];simp
    ·rw[Yq (by omega)<|by omega];have h6:=Hb.1 (kP.1 h5);have:=ih (i+1) (by omega) (by rw[e,h6,kJ<|by omega,kJ<|by omega];rfl);rw[kM bR,HA]at this;exact this
  exact go x.locals.length 0 (by omega) rfl)
 exact h
theorem c87{m:Zd}{x:Zf}(hm:We m)(hx:Ul x):Ze PG 87 [m.av,x.av] (.i .i64<|Gg m x):=by
 obtain ⟨y,rfl,h⟩:=p87 H.f87 (m0:=m) (x1:=x) (K:=fun y=>y=Gg m x) (by
  unfold HB HC;have no:¬(0<=x.func/\x.mode<=3/\∃f,m.funcs[x.func.toNat]?=some f/\Tm f x=true)->(8:Int)=Gg m x:=fun h=>Ch fun h'=>h (Bk.1 h')
  refine⟨fun h=>no<|by omega,fun h0=>⟨fun h=>no ?_,fun h1=>⟨fun h=>no<|by omega,fun h2=>?_⟩⟩⟩
  ·rintro⟨_,_,f,hf,_⟩;rw[kT<|by omega]at hf;cases hf
  obtain⟨f,hf,a_⟩:=Tu (m:=m) (n:=x.func) (by omega) (by omega);obtain⟨q1,q2,q3,q4⟩:=hm.f f a_
  have no:Tm f x≠true->(8:Int)=Gg m x:=fun h=>no (by
   rintro⟨_,_,g,hg,h'⟩;rw[hf]at hg;cases hg;exact h h')
  have no:¬(f.slots.length<=16/\f.name.length<=16/\0<=x.pos/\x.pos<f.code.length/\(∀s∈f.slots,s.name.length<=16)/\Ky f.slots.length (-1) x.locals=true)->(8:Int)=Gg m x:=fun h=>no fun h'=>h (Ty.1 h')
  unfold HE HG;refine⟨by omega,f,hf,fun h=>no<|by omega,fun k1=>⟨fun h=>no<|by omega,fun k2=>⟨fun h=>no<|by omega,fun k3=>⟨fun h=>no<|by omega,fun k4=>?_⟩⟩⟩⟩;unfold HH;intro P0 n7;refine Ds (P:=fun i=>P0 i x f) f.slots.length (fun i=>∀s∈f.slots.take i,s.name.length<=16) (by simp) (fun hs=>n7 _ _ _ ?_) fun i hi hI bQ=>n7 _ _ _ ?_
  ·rw[kQ]at hs;have no:Ky f.slots.length (-1) x.locals≠true->(8:Int)=Gg m x:=fun h=>no (by rintro⟨_,_,_,_,_,h'⟩;exact h h')
   unfold tj;refine⟨fun h=>absurd h<|by omega,fun _=>?_⟩;unfold HI;intro P hP;have hn:=hx.n
   have go :∀k i:Nat,i+k=x.locals.length->Ky f.slots.length (-1) (x.locals.take i)=true->P (i:Int) x f:=by
    intro k
    induction k with
    |zero=>
     intro i hi ha;apply hP;unfold tk HJ;refine⟨fun h=>absurd h<|by omega,fun _=>Et ?_⟩;rw[zF<|by omega]at ha;exact Bk.2 ⟨by omega,by omega,f,hf,Ty.2 ⟨by omega,by omega,by omega,by omega,hs,ha⟩⟩
    |succ k ih=>
     intro i hi ha;have bR:i<x.locals.length:=by omega
     have e:=VW (n:=f.slots.length) bR;have no:Ky f.slots.length (-1) (x.locals.take<|i+1)=false->(8:Int)=Gg m x:=fun h=>no (by rw[VY h];decide)
     rw[ha,jZ]at e
     have last:0<i->∃y:Zx,x.locals[i-1]?=some y/\Nu (-1) (x.locals.take i)=y.slot:=by
      intro h0;have h1:i-1<x.locals.length:=by omega
      refine⟨x.locals[i-1],kH h1,?_⟩;have:=kM h1;rw[show i-1+1=i by omega]at this;rw[this,HA]
     have fin:(Nu (-1) (x.locals.take i)<x.locals[i].slot)->x.locals[i].slot<f.slots.length->∃r:Int,Ze PG 77 [x.locals[i].value.av] (.i .i64 r)/\(r≠0->(8:Int)=Gg m x)/\(¬(r≠0)->P (IntKind.i64.wrap<|(i:Int)+1) x f):=by
      intro h3 h4;refine⟨_,El H.toHas38<|hx.v _<|kL bR,fun h=>no ?_,fun h5=>?_⟩
      ·rw[e,show Vl x.locals[i].value=false by rw[<- zL];exact fun h'=>h<|Hb.2 h'];simp
      ·rw[Yq (by omega)<|by omega];have h6:=Hb.1 (kP.1 h5);exact ih (i+1) (by omega) (by rw[e,h6,kJ h3,kJ h4];rfl)
     have low:0<i->0<=Nu (-1) (x.locals.take i):=by
      intro h0;obtain⟨y,h1,h2⟩:=last h0;rw[h2]
      have h3:=Lx ha y (by
       rw[List.mem_take_iff_getElem];obtain⟨h4,h5⟩:=jQ.1 h1;exact ⟨i-1,by omega,h5⟩)
      omega
     apply hP;unfold tk;refine⟨fun _=>⟨by omega,_,Xi bR,fun h=>no ?_,fun h3=>⟨fun h=>no ?_,fun h4=>⟨fun h5=>?_,fun h5=>fin ?_<|by omega⟩⟩⟩,fun h=>absurd (show(i:Int)<x.locals.length by omega) h⟩
     ·rw[e,kI ?_];· rfl
      by_cases h0:0<i
      ·have:=low h0;omega
      ·have:i=0:=by omega
       subst this;show ¬((-1:Int)<_);omega
     ·rw[e,kI (p:=x.locals[i].slot<_)<|by omega];simp
     ·obtain⟨y,h6,h7⟩:=last (by omega);have hw:IntKind.i64.wrap ((i:Int)-1)=((i-1:Nat):Int):=by rw[Yq (by omega)<|by omega];omega
      rw[hw];refine⟨by omega,y,by rw[Kb];exact h6,fun h=>no ?_,fun h=>fin (by omega)<|by omega⟩;rw[e,kI<|by omega];rfl
     ·have:i=0:=by omega
      subst this;show(-1:Int)<_;omega
   exact go x.locals.length 0 (by omega) rfl
  ·unfold tj;refine⟨fun _=>⟨by omega,_,Xi hi,fun h=>no ?_,fun h=>?_⟩,fun h=>absurd (show(i:Int)<f.slots.length by omega) h⟩
   ·rintro⟨_,_,_,_,h',_⟩;have:=h' _ (kL hi);omega
   ·rw[Yq (by omega)<|by omega];refine bQ fun s hs=>?_
    rw[kM hi]at hs;rcases kZ.1 hs with hs|hs
    ·exact hI s hs
    ·rw [jO.1 hs];omega)
 exact h
end
end Go.AM

namespace Go.AM
open Go
theorem Oe{f:Zz}{n:Int}(h0:0<=n)(h1:n<f.slots.length):∃s,f.slots[n.toNat]?=some s/\s∈f.slots/\Nb f n=s.name:=by
 have h:n.toNat<f.slots.length:=by omega
 refine⟨f.slots[n.toNat],kH h,kL h,?_⟩;unfold Nb;rw[kH h];rfl
theorem Cc{α Y:Type}(g:α->Y){l:List α}{i:Nat}(h:i<l.length):(l.take<|i+1).map g=(l.take i).map g++[g l[i]]:=by rw[kM h,yA];rfl
theorem Bo{m:Zd}{x:Zf}{f:Zz}(h:m.funcs[x.func.toNat]?=some f)(k:Int):Ks m k x=Uv f k x::x.locals.map (Gs f):=by unfold Ks;rw[h]
theorem VZ{m:Zd}{k:Int}{x:Zf}(h:k<0\/170<=k):Uy m k x=([],2):=by unfold Uy;rw[kC h]
theorem Xig{m:Zd}{k:Int}{x:Zf}(h:¬(k<0\/170<=k))(h1:Jm m x≠true):Uy m k x=([],8):=by unfold Uy;rw[kA h,kA h1]
theorem HK{m:Zd}{k:Int}{x:Zf}(h:¬(k<0\/170<=k))(h1:Jm m x=true):Uy m k x=(Ks m k x,0):=by unfold Uy;rw[kA h,kC h1]
noncomputable def Pf (a b:Zf):Bool:=@decide (a=b) (Classical.propDecidable _)
theorem V1{v w:Zf}:Pf v w=true↔v=w:=by unfold Pf;simp
theorem V2{v w:Zf}:Pf v w=false↔v≠w:=by rw[<- zL,V1]
noncomputable def Cp (a b:List Zx):Bool:=@decide (a=b) (Classical.propDecidable _)
theorem V3{v w:List Zx}:Cp v w=true↔v=w:=by unfold Cp;simp
theorem Wba{v w:List Zx}:Cp v w=false↔v≠w:=by rw[<- zL,V3]
section
variable{PG:Zb}(H:HasF PG)
include H
theorem c82{m:Zd}{k:Int}{x:Zf}(hm:We m)(hx:Ul x):Ze PG 82 [m.av,.i .i64 k,x.av] (.tup [.sl .ext<|(Uy m k x).1.map Zv,.i .i64 (Uy m k x).2]):=by
 obtain ⟨y,z,⟨rfl,rfl⟩,h⟩:=p82 H.f82 (m0:=m) (k1:=k) (x2:=x) (K:=fun y z=>y=(Uy m k x).1/\z=(Uy m k x).2) (by
  unfold HN HO;refine⟨fun h=>by rw[VZ<|.inl h];exact⟨rfl,rfl⟩,fun h0=>⟨fun h=>by rw[VZ<|.inr h];exact⟨rfl,rfl⟩,fun h1=>?_⟩⟩;unfold HP;refine⟨_,c86 H hm hx,fun h=>?_,fun h=>?_⟩
  ·by_cases hb:Jm m x=true
   ·rw[<- Et hb]at h;exact absurd rfl h
   ·rw[Xig (by omega) hb,<- Ch hb];exact⟨rfl,rfl⟩
  have hb:Jm m x=true:=by
   by_cases hb:Jm m x=true
   ·exact hb
   ·rw[<- Ch hb]at h;exact absurd (by decide) h
  rw[HK (by omega) hb];obtain⟨f0,f1,f,hf,hF⟩:=Bk.1 hb;obtain⟨g1,g2,g3,g4,g5,g6⟩:=Ty.1 hF;have a_:=jP hf;obtain⟨q1,q2,q3,q4⟩:=hm.f f a_;have hn:=hm.n
  have eI:x.func<m.funcs.length:=by
   have:=(jQ.1 hf).1;omega
  have l1:=Jv k;have l2:=Jv x.func;have l3:=Jv x.pos;have l4:=Hj f.name;have l5:=tc hx.m f1;rw[Bo hf];unfold HQ;refine⟨f0,f,hf,?_⟩;unfold HR;refine⟨_,td H (by omega)<|by omega,?_,?_,_,td H (by omega)<|by omega,?_,?_,_,tf H<|by omega,?_,?_,_,td H (by omega)<|by omega,?_,?_,_,VT H,rfl,hx.m,_,VS hx.m f1,?_,fun P hP=>?_⟩
  all_goals try (rw[Wj];simp only[kF,kB,kD];omega)
  have len:=tm g6
  have hn2:x.locals.length<=16:=by
   rcases len with h|h
   ·rw[h];exact zO _
   ·omega
  refine Uz (P:=fun o i=>P o i f) (fun i=>Uv f k x::(x.locals.take i).map (Gs f)) x.locals.length (hP _ _ _ ?_) fun i hi ih=>hP _ _ _ ?_
  ·unfold tn HS;rw[kQ];exact⟨fun h=>absurd h<|by omega,fun _=>⟨rfl,rfl⟩⟩
  ·obtain⟨a1,a2,a3⟩:=Lx g6 _ (kL hi);obtain⟨s,b1,b2,b3⟩:=Oe (f:=f) (n:=x.locals[i].slot) (by omega) (by omega);have c1:=Jv x.locals[i].slot;have c2:=Hj s.name;have c3:=q4 s b2;have c4:=Mp a3;unfold tn;refine⟨fun _=>⟨by omega,_,Xi hi,_,_,c72 H.toHas38<|hx.v _<|kL hi,fun h=>absurd (Hb.2 a3) h,fun _=>?_⟩,fun h=>absurd (show(i:Int)<x.locals.length by omega) h⟩;rw[kC a3];refine⟨_,td H (by omega)<|by omega,?_,?_,by omega,s,b1,_,tf H<|by omega,?_,?_,?_,⟨?_,?_⟩,?_⟩
   all_goals try (rw[Wj];simp only[kF,kB,kD];omega)
   all_goals try (rw[Xk];simp only[kF,kB,kD,jK,kW];omega)
   rw[Yq (by omega)<|by omega];rw[Cc (Gs f) hi]at ih;unfold Gs at ih⊢;rw[b3]at ih;exact ih)
 exact h
theorem V4{m:Zd}{k:Int}{x:Zf}(hm:We m)(hx:Ul x)(hk:0<=k/\k<170)(hb:Jm m x=true):Ze PG 114 [m.av,.i .i64 k,x.av] (.sl .ext<|(Ks m k x).map Zv):=by
 obtain ⟨y,rfl,h⟩:=Yw9 H.f114 (m0:=m) (k1:=k) (x2:=x) (K:=fun y=>y=Ks m k x) (by
  obtain⟨f0,f1,f,hf,hF⟩:=Bk.1 hb;obtain⟨g1,g2,g3,g4,g5,g6⟩:=Ty.1 hF;have a_:=jP hf;obtain⟨q1,q2,q3,q4⟩:=hm.f f a_;have hn:=hm.n
  have eI:x.func<m.funcs.length:=by
   have:=(jQ.1 hf).1;omega
  have l1:=Jv k;have l2:=Jv x.func;have l3:=Jv x.pos;have l4:=Hj f.name;have l5:=tc hx.m f1;rw[Bo hf];unfold HT HU;refine⟨f0,f,hf,?_⟩;unfold HV;refine⟨_,te H (by omega)<|by omega,?_,?_,_,te H (by omega)<|by omega,?_,?_,_,Ai H.toHas03<|by omega,?_,?_,_,te H (by omega)<|by omega,?_,?_,_,VU H hx.m f1,?_,fun P hP=>?_⟩
  all_goals try (rw[Wj];simp only[kF,kB,kD];omega)
  have len:=tm g6
  have hn2:x.locals.length<=16:=by
   rcases len with h|h
   ·rw[h];exact zO _
   ·omega
  refine Uz (P:=fun o i=>P o i x f) (fun i=>Uv f k x::(x.locals.take i).map (Gs f)) x.locals.length (hP _ _ _ _ ?_) fun i hi ih=>hP _ _ _ _ ?_
  ·unfold tp HW;rw[kQ];exact⟨fun h=>absurd h<|by omega,fun _=>rfl⟩
  ·obtain⟨a1,a2,a3⟩:=Lx g6 _ (kL hi);obtain⟨s,b1,b2,b3⟩:=Oe (f:=f) (n:=x.locals[i].slot) (by omega) (by omega);have c1:=Jv x.locals[i].slot;have c2:=Hj s.name;have c3:=q4 s b2;have c4:=Mp a3;unfold tp;refine⟨fun _=>⟨by omega,_,Xi hi,_,te H (by omega)<|by omega,?_,?_,by omega,s,b1,_,Ai H.toHas03<|by omega,?_,?_,_,Il H.toHas38 130 (Dz a3).1 (hx.v _<|kL hi)<|by omega,?_,⟨?_,?_⟩,?_⟩,fun h=>absurd (show(i:Int)<x.locals.length by omega) h⟩
   all_goals try (rw[Wj];simp only[kF,kB,kD];omega)
   all_goals try (rw[Xk];simp only[kF,kB,kD,jK,kW];omega)
   rw[Yq (by omega)<|by omega];rw[Cc (Gs f) hi]at ih;unfold Gs at ih⊢;rw[b3]at ih;exact ih)
 exact h
theorem Yx2{a b:List Zx}(ha:a.length<=9223372036854775807)(hw :∀l∈a,Wf l.value):Ze PG 124 [.sl .ext<|a.map Zx.row,.sl .ext<|b.map Zx.row] (.b<|Cp a b):=by
 obtain ⟨x,rfl,h⟩:=Xow H.f124 (a0:=a) (b1:=b) (K:=fun x=>x=Cp a b) (by
  have no :∀{p:Prop},(a=b->p)->¬p->false=Cp a b:=fun h1 h2=>(Wba.2 fun h=>h2<|h1 h).symm
  unfold HX;refine⟨fun h=>no (fun e=>by rw[e]) h,fun h P hP=>?_⟩;have h5:a.length=b.length:=by omega
  refine Ds (P:=P) a.length (fun i=>a.take i=b.take i) (by simp) (fun hI=>hP _ ?_) (fun i hi hI bQ=>hP _ ?_)
  ·unfold tq HY;refine⟨fun h=>absurd h<|by omega,fun _=>?_⟩;rw[kQ,h5,kQ]at hI;exact(V3.2 hI).symm
  ·have bK:i<b.length:=by omega
   unfold tq;refine⟨fun _=>⟨by omega,_,Xi hi,by omega,_,Xi bK,fun h6=>no (p:=a[i].slot=b[i].slot) (fun e=>by subst e;rfl) h6,fun h6=>⟨by omega,_,Xi hi,by omega,_,Xi bK,_,c78 H.toHas38 (hw _<|kL hi) _,fun h7=>no (p:=a[i].value=b[i].value) (fun e=>by subst e;rfl)<|Fd.1<|by simpa using h7,fun h7=>?_⟩⟩,fun h=>absurd (show(i:Int)<a.length by omega) h⟩;rw[Yq (by omega)<|by omega];refine bQ ?_;have e1:a[i].slot=b[i].slot:=kP.1 h6;have e2:a[i].value=b[i].value:=Tv.1 (by simpa using h7)
   have e:a[i]=b[i]:=by
    cases ha:a[i];cases hb:b[i];rw[ha,hb]at e1 e2;simp only at e1 e2;rw[e1,e2]
   rw [kM hi,kM bK,hI,e])
 exact h
theorem c88{a b:Zf}(ha:Ul a):Ze PG 88 [a.av,b.av] (.b<|Pf a b):=by
 obtain ⟨x,rfl,h⟩:=p88 H.f88 (a0:=a) (b1:=b) (K:=fun x=>x=Pf a b) (by
  have no :∀{p:Prop},(a=b->p)->¬p->false=Pf a b:=fun h1 h2=>(V2.2 fun h=>h2<|h1 h).symm
  unfold HZ;refine⟨fun h1=>⟨fun h2=>⟨fun h3=>⟨_,Yx2 H ha.n ha.v,?_⟩,fun h=>no (fun e=>by rw[e]) h⟩,fun h=>no (fun e=>by rw[e]) h⟩,fun h=>no (fun e=>by rw[e]) h⟩;cases a;cases b;simp only at h1 h2 h3⊢;subst h1;subst h2;subst h3;unfold Cp Pf;simp)
 exact h
theorem c79{m:Zd}(hn:m.funcs.length<=9223372036854775807):Ze PG 79 [m.av] (.b<|Ss m):=by
 obtain ⟨x,rfl,h⟩:=p79 H.f79 (m0:=m) (K:=fun x=>x=Ss m) (by
  unfold H_;intro P hP
  have fin:(m.funcs.take 41).any Mu=false->Ih PG (fun x=>x=Ss m) m:=by
   intro h;unfold Ih Ss;rw[h,Bool.false_or];exact decide_eq_decide.2 (by omega)
  refine Ds (P:=fun i=>P i m) (min m.funcs.length 41) (fun i=>(m.funcs.take i).any Mu=false) (by simp) (fun hI=>hP _ _ ?_) fun i hi hI bQ=>hP _ _ ?_
  ·unfold tr;refine⟨fun h=>⟨fun h'=>absurd h'<|by omega,fun _=>fin ?_⟩,fun h=>fin ?_⟩
   ·rwa [show min m.funcs.length 41=41 by omega]at hI
   ·rw[show min m.funcs.length 41=m.funcs.length by omega,kQ]at hI;rw[xB]at hI⊢;exact fun x hx=>hI x (zW hx)
  ·have bR:i<m.funcs.length:=by omega
   have yes:Mu m.funcs[i]=true->true=Ss m:=by
    intro h;unfold Ss;rw[List.any_eq_true.2 ⟨m.funcs[i],by rw[List.mem_take_iff_getElem];exact⟨i,by omega,rfl⟩,h⟩];rfl
   have go:Mu m.funcs[i]=false->P (IntKind.i64.wrap<|(i:Int)+1) m:=by
    intro h;rw[Yq (by omega)<|by omega];exact bQ (by rw[kM bR,List.any_append,hI];simpa using h)
   unfold tr;refine⟨fun _=>⟨fun _=>?_,fun h=>absurd (show(i:Int)<=40 by omega) h⟩,fun h=>absurd (show(i:Int)<m.funcs.length by omega) h⟩;unfold IA;refine⟨by omega,_,Xi bR,fun h=>yes (by unfold Mu;simp;omega),fun h1=>⟨fun h=>yes (by unfold Mu;simp;omega),fun h2=>⟨fun h=>yes (by unfold Mu;simp;omega),fun h3=>?_⟩⟩⟩;unfold IB;intro P1 cY;refine Ds (P:=fun i=>P1 i m _) m.funcs[i].slots.length (fun j=>(m.funcs[i].slots.take j).any n_=false) (by simp) (fun hJ=>cY _ _ _ ?_) fun j hj hJ ihJ=>cY _ _ _ ?_
   ·unfold tu IC;refine⟨fun h=>absurd h<|by omega,fun _=>go ?_⟩;rw[kQ]at hJ;unfold Mu;rw[hJ,kI<|by omega,kI<|by omega,kI<|by omega];rfl
   ·unfold tu;refine⟨fun _=>⟨by omega,_,Xi hj,fun h=>yes ?_,fun h=>?_⟩,fun h=>absurd (show(j:Int)<m.funcs[i].slots.length by omega) h⟩
    ·unfold Mu;rw[List.any_eq_true.2 ⟨_,kL hj,by unfold n_;exact kJ<|by omega⟩,Bool.or_true]
    ·rw[Yq (by omega)<|by omega];refine ihJ ?_;rw[kM hj,List.any_append,hJ];simp[n_];omega)
 exact h
end
end Go.AM

namespace Go.AM
open Go
structure HasG(PG:Zb):Prop extends HasF PG where
 f84:PG.fn 84=some oa
 f85:PG.fn 85=some Ij
 f117:PG.fn 117=some Al
 f118:PG.fn 118=some oc
 f120:PG.fn 120=some Ef
 f121:PG.fn 121=some od
 f140:PG.fn 140=some Fg
 f142:PG.fn 142=some tv
 f143:PG.fn 143=some oe
theorem ID{m:Zd}{n:Int}{f:Zz}(h:m.funcs[n.toNat]?=some f):Kr m n=f.name:=by unfold Kr;rw[h];rfl
theorem V5{m:Zd}{n:Int}{f:Zz}(h:m.funcs[n.toNat]?=some f):Gu m n=(f.code.length:Int):=by unfold Gu;rw[h];rfl
theorem Xu4(a:Int):(if 0<a then a else 0)=max 0 a:=by
 by_cases h:0<a
 ·rw[kC h];omega
 ·rw[kA h];omega
theorem Fl(n:Int)(s:Zc):(Yk n s).2.2.length<=s.length:=VL s
section
variable{PG:Zb}(H:HasG PG)
include H
theorem tx{n:Int}{s:Zc}(hs:s.length<=1000000000):Xc PG 140 (Bx [.s s]) [.i .i64 n] (fun r=>r=.tup [.i .i64 (Yk n s).1,.b (Yk n s).2.1]) (Bx [.s (Yk n s).2.2]):=by
 refine(Xtz H.f140 (n1:=n) (mP:=⟨s⟩) (K:=fun x y b=>x=(Yk n s).1/\y=(Yk n s).2.1/\b=⟨(Yk n s).2.2⟩) ?_).to (b:=⟨(Yk n s).2.2⟩) fun r b' hk=>?_
 ·unfold IE;refine⟨_,_,⟨_⟩,VJ H.toHas38 hs,fun h=>⟨fun h1=>⟨rfl,?_,rfl⟩,fun h1=>⟨rfl,?_,rfl⟩⟩,fun h=>⟨rfl,?_,rfl⟩⟩
  ·unfold Yk;simp only[h,kJ<|show 0<=(Qq s).1 by omega,jZ]
  ·unfold Yk;simp only[h,kI<|show ¬0<=(Qq s).1 by omega,jZ,xE]
  ·unfold Yk;simp only[h,xE]
 ·obtain⟨x0,x1,h1,rfl,rfl,rfl⟩:=hk;exact⟨h1,rfl⟩
abbrev FrA(r:Int × Zf × Bool):AV:=.tup [.i .i64 r.1,r.2.1.avo .full,.b r.2.2]
theorem Xng{m:Zd}(hm:We m){s:Zc}(hs:s.length<=1000000000):Ym PG 117 [m.av,.s s] (fun r=>r=FrA (Ww m s)):=by
 refine(Yye H.f117 (m0:=m) (dq:=s) (K:=fun x y z=>x=(Ww m s).1/\y=(Ww m s).2.1/\z=(Ww m s).2.2) ?_).to ?_
 ·have hn:=hm.n;unfold IF IG IH II;refine⟨_,⟨(Zn [35] s).1⟩,Gw H.toHas38 [35] s,fun h=>?_,fun h=>?_⟩
  ·unfold Ww;rw[kC<|by simpa using h];exact⟨rfl,rfl,rfl⟩
  have e:Ww m s=Hx m (Zn [35] s).1:=by unfold Ww;rw[kA<|by simpa using h]
  rw[e];have hl:(Zn [35] s).1.length<=1000000000:=kX (Kf _ _) hs;clear e h hs;generalize (Zn [35] s).1=t at hl⊢;unfold IJ IK tA;refine⟨_,_,⟨(Yk 170 t).2.2⟩,tx H hl,fun h=>⟨fun _=>?_,fun h'=>(by cases h')⟩,fun h=>⟨_,⟨(Zn [32] (Yk 170 t).2.2).1⟩,Gw H.toHas38 [32] _,fun h2=>?_,fun h2=>?_⟩⟩
  ·unfold Hx;rw[kC<|by simpa using h];exact⟨rfl,rfl,rfl⟩
  ·unfold Hx;rw[kA<|by simpa using h,kC<|by simpa using h2];exact⟨rfl,rfl,rfl⟩
  have e:Hx m t=Hh m (Yk 170 t).1 (Zn [32] (Yk 170 t).2.2).1:=by unfold Hx;rw[kA<|by simpa using h,kA<|by simpa using h2]
  rw[e];have hl:(Zn [32] (Yk 170 t).2.2).1.length<=1000000000:=kX (Kf _ _) (kX (Fl _ _) hl);clear e h h2;generalize (Zn [32] (Yk 170 t).2.2).1=u at hl⊢;generalize (Yk 170 t).1=k;unfold IL IM tB;refine⟨_,_,⟨(Yk m.funcs.length u).2.2⟩,tx H hl,fun h=>⟨fun _=>?_,fun h'=>(by cases h')⟩,fun h=>?_⟩
  ·unfold Hh;rw[kC<|by simpa using h];exact⟨rfl,rfl,rfl⟩
  have h:(Yk m.funcs.length u).2.1=true:=by simpa using h
  have hr:=Fi _ _ h;obtain⟨f,hf,a_⟩:=Tu hr.1 hr.2;obtain⟨q1,q2,q3,q4⟩:=hm.f f a_;have q5:=Hj f.name;refine⟨hr.1,f,hf,_,tf H.toHasF<|by omega,?_,?_,_,⟨(Zn ([32]++quo f.name++[32,97,116,32]) (Yk m.funcs.length u).2.2).1⟩,Gw H.toHas38 _ _,fun h2=>?_,fun h2=>?_⟩
  ·rw[Wj];simp only[kF,kB,kD];omega
  ·rw[Wj];simp only[kF,kB,kD];omega
  ·unfold Hh;rw[kA (by rw[h];decide),ID hf,kC<|by simpa using h2];exact⟨rfl,rfl,rfl⟩
  have e:Hh m k u=Hn m k (Yk m.funcs.length u).1 (Zn ([32]++quo f.name++[32,97,116,32]) (Yk m.funcs.length u).2.2).1:=by
   unfold Hh;rw[kA (by rw[h];decide),ID hf,kA<|by simpa using h2]
  rw[e];have hl:(Zn ([32]++quo f.name++[32,97,116,32]) (Yk m.funcs.length u).2.2).1.length<=1000000000:=kX (Kf _ _) (kX (Fl _ _) hl);clear e h h2 q5;generalize (Zn ([32]++quo f.name++[32,97,116,32]) (Yk m.funcs.length u).2.2).1=v at hl⊢;generalize (Yk m.funcs.length u).1=fi at hr hf⊢;have hc:=V5 hf;unfold IN tD;refine⟨hr.1,f,hf,_,_,⟨(Yk (Gu m fi) v).2.2⟩,by rw[hc];exact tx H hl,fun h=>⟨fun _=>?_,fun h'=>(by cases h')⟩,fun h=>⟨_,⟨(Zn [32] (Yk (Gu m fi) v).2.2).1⟩,Gw H.toHas38 [32] _,fun h2=>?_,fun h2=>?_⟩⟩
  ·unfold Hn;rw[kC (by rw[hc];simpa using h),hc];exact⟨rfl,rfl,rfl⟩
  ·unfold Hn;rw[kA (by rw[hc];simpa using h),kC<|by simpa using h2,hc];exact⟨rfl,rfl,rfl⟩
  have e:Hn m k fi v=Td k fi (Yk (Gu m fi) v).1 (Zn [32] (Yk (Gu m fi) v).2.2).1:=by
   unfold Hn;rw[kA (by rw[hc];simpa using h),kA<|by simpa using h2]
  rw[e];unfold IP Td;have hb:=Xep (Zn [32] (Yk (Gu m fi) v).2.2).1;refine⟨_,VT H.toHasF,rfl,rfl,_,VV H.toHasF (l:=Tn) (by decide) _,rfl,?_,rfl⟩;rw[Xu4,<- hc]
  congr 1
  exact Mh (show 0<=max 0 (Ru (Zn [32] (Yk (Gu m fi) v).2.2).1)by omega) (show max 0 (Ru (Zn [32] (Yk (Gu m fi) v).2.2).1)<_ by omega)
 ·rintro r ⟨x,y,z,rfl,rfl,rfl,rfl⟩;rfl
theorem Xbd{f:Zz}(hf:f.slots.length<=30/\∀s∈f.slots,s.name.length<=40){s:Zc}(hs:s.length<=1000000000):∃y ok,(ok=(Jf f s).isSome/\(ok=true->Jf f s=some y))/\Ze PG 118 [f.av,.s s] (.tup [y.av,.b ok]):=by
 refine Xdr H.f118 (f0:=f) (dq:=s) (K:=fun y ok=>ok=(Jf f s).isSome/\(ok=true->Jf f s=some y)) ?_;unfold IQ;have no:Jf f s=none->∀y:Zx,false=(Jf f s).isSome/\(false=true->Jf f s=some y):=fun h y=>by rw[h];exact⟨rfl,fun h=>by cases h⟩
 refine⟨_,⟨(Zn [32,32] s).1⟩,Gw H.toHas38 [32,32] s,fun h=>no ?_ _,fun h=>?_⟩
 ·unfold Jf;rw[kC<|by simpa using h]
 have hl:(Zn [32,32] s).1.length<=1000000000:=kX (Kf _ _) hs;refine⟨_,_,⟨(Yk f.slots.length (Zn [32,32] s).1).2.2⟩,tx H hl,fun h2=>no ?_ _,fun h2=>?_⟩
 ·unfold Jf;rw[kA<|by simpa using h,kC<|by simpa using h2]
 have dY:(Yk f.slots.length (Zn [32,32] s).1).2.1=true:=by simpa using h2
 have hr:=Fi _ _ dY;obtain⟨sl,k1,k2,k3⟩:=Oe hr.1 hr.2;have q4:=hf.2 sl k2;have q5:=Hj sl.name;refine⟨hr.1,sl,k1,_,tf H.toHasF<|by omega,?_,?_,_,⟨(Zn ([32]++quo sl.name++[32,61,32]) (Yk f.slots.length (Zn [32,32] s).1).2.2).1⟩,Gw H.toHas38 _ _,fun h3=>no ?_ _,fun h3=>?_⟩
 ·rw[Wj];simp only[kF,kB,kD];omega
 ·rw[Wj];simp only[kF,kB,kD];omega
 ·unfold Jf;rw[kA<|by simpa using h,kA<|by simpa using h2,k3,kC<|by simpa using h3]
 unfold IS;refine⟨_,_,c74 H.toHas38<|kX (Kf _ _)<|kX (Fl _ _) hl,?_⟩;unfold Jf;rw[kA<|by simpa using h,kA<|by simpa using h2,k3,kA<|by simpa using h3];split
 ·rename_i h4;exact⟨by rw[kJ h4];rfl,fun _=>rfl⟩
 ·rename_i h4;exact⟨by rw[kI h4];rfl,fun h5=>by simp only[jA]at h5;exact absurd h5 h4⟩
theorem Oj(s p:Zc):Ze PG 142 [.s s,.s p] (.tup [.s<|if (Zn p s).2=true then (Zn p s).1 else [],.b (Zn p s).2]):=by
 obtain ⟨x,y,⟨rfl,rfl⟩,h⟩:=Xja H.f142 (s0:=s) (ck:=p) (K:=fun x y=>x=(if (Zn p s).2=true then (Zn p s).1 else [])/\y=(Zn p s).2) (by
  unfold IT;refine⟨_,sy H.toHas38 s p,fun h=>?_,fun h=>?_⟩
  ·rw[kA<|by simpa using h];exact⟨rfl,by simpa using h.symm⟩
  ·have h:(Zn p s).2=true:=by simpa using h
   rw[kC h,h];unfold Zn at h⊢;split at h
   ·rename_i h5;rw[kC h5,Kb];have:=jC List.length h5;simp only[kW]at this;exact⟨by omega,by omega,rfl,rfl⟩
   ·cases h)
 exact h
theorem tE{n:Int}{s:Zc}(hs:s.length<=1000000000):Ze PG 143 [.s s,.i .i64 n] (.tup [.i .i64 (Yk (n+1) s).1,.s (Yk (n+1) s).2.2,.b (Yk (n+1) s).2.1]):=by
 obtain ⟨x,y,z,⟨rfl,rfl,rfl⟩,h⟩:=Xmx H.f143 (s0:=s) (iq:=n) (K:=fun x y z=>x=(Yk (n+1) s).1/\y=(Yk (n+1) s).2.2/\z=(Yk (n+1) s).2.1) (by
  have hle:=sA s;unfold IU;refine⟨_,VK H.toHas38 hs,by omega,hle,_,_,c22 H.toHas03 _,by omega,hle,?_⟩;have e1:(Yk (n+1) s).1=(Xd<|s.take<|Wq s).1:=rfl;have e2:(Yk (n+1) s).2.1=(decide ((Xd<|s.take<|Wq s).2=0)&&decide (0<=(Xd<|s.take<|Wq s).1)&&decide ((Xd<|s.take<|Wq s).1<n+1)):=rfl;refine⟨fun h=>⟨fun h1=>⟨rfl,rfl,?_⟩,fun h1=>⟨rfl,rfl,?_⟩⟩,fun h=>⟨rfl,rfl,?_⟩⟩
  ·have dD:0<=(Xd<|s.take<|Wq s).1:=h1;have h':(Xd<|s.take<|Wq s).2=0:=h;rw[e2,kJ h',kJ dD,jZ,jZ];refine decide_eq_decide.2 ?_;show(Xd<|s.take<|Wq s).1<=n↔(Xd<|s.take<|Wq s).1<n+1;omega
  ·have dD:¬0<=(Xd<|s.take<|Wq s).1:=h1;rw[e2,kI dD,Bool.and_false,xE]
  ·have h':¬(Xd<|s.take<|Wq s).2=0:=h;rw [e2,kI h',xE,xE])
 exact h
end
end Go.AM

namespace Go.AM
open Go
theorem Yz4{p s:Zc}(h:(Zn p s).2=true):s=p++(Zn p s).1:=by
 unfold Zn at h⊢;split
 ·rename_i h1;show s=p++s.drop p.length;rw[<- jC (·++s.drop p.length) h1];exact(zJ _ _).symm
 ·rename_i h1;rw[kA h1]at h;cases h
theorem Xfe{m:Zd}{s:Zc}(h:(Ww m s).2.2=false):Ht m s=(0,⟨0,0,0,[]⟩,false):=by unfold Ht;rw[kA (by rw[h];decide)]
theorem IV{v:Zc}:∀{l:List Zc},(∀x∈l,v≠x)->Gf v l = -1
 |[],_=>rfl
 |x::r,h=>by
  rw[Gf,kA<|h x jI,kC<|IV fun y hy=>h y<|jJ _ hy]
theorem Xf6{s:Zc}(h :∀i:Nat,i<4->s≠Hr i):Ru s = -1:=by
 have h0:=h 0 (by decide);have h1:=h 1 (by decide);have h2:=h 2 (by decide);have h3:=h 3 (by decide);refine IV fun x hx=>?_
 simp only[Tn,jH,yV,or_false]at hx;rcases hx with rfl|rfl|rfl|rfl
 ·exact h0
 ·exact h1
 ·exact h2
 ·exact h3
theorem Xx6:∀i:Fin 4,Ru (Hr i.val)=i.val:=by decide
section
variable{PG:Zb}(H:HasG PG)
include H
theorem Xlv{m:Zd}(hm:We m){s:Zc}(hs:s.length<=1000000000):Ym PG 120 [m.av,.s s] (fun r=>r=FrA (Ht m s)):=by
 refine(Xjo H.f120 (m0:=m) (s1:=s) (K:=fun x y z=>x=(Ht m s).1/\y=(Ht m s).2.1/\z=(Ht m s).2.2) ?_).to ?_
 ·have hn:=hm.n;have no:(Ww m s).2.2=false->(0:Int)=(Ht m s).1/\(Zf.mk 0 0 0 [])=(Ht m s).2.1/\false=(Ht m s).2.2:=fun h=>by rw[Xfe h];exact⟨rfl,rfl,rfl⟩
  unfold IW IX IY IZ;refine⟨_,_,Oj H s [35],fun h=>no ?_,fun h=>?_⟩
  ·unfold Ww;rw[kC<|by simpa using h]
  have h:(Zn [35] s).2=true:=by simpa using h
  have e:Ww m s=Hx m (Zn [35] s).1:=by unfold Ww;rw[kA (by rw[h];decide)]
  rw[kC h];rw[e]at no;have hl:(Zn [35] s).1.length<=1000000000:=kX (Kf _ _) hs;clear h;have fin :∀t,Ww m s=t->t.2.2=true->Ht m s=t:=fun t h1 h2=>by unfold Ht;rw[h1,kC h2]
  rw[e]at fin;clear e hs;generalize Ht m s=R at no fin⊢;generalize (Zn [35] s).1=t at hl no fin⊢;unfold I0 I1 I2;have k1:=tE H (n:=169) hl;rw[show(169:Int)+1=170 from rfl]at k1
  have iA:(if (Zn [32] (Yk 170 t).2.2).2=true then (Zn [32] (Yk 170 t).2.2).1 else []).length<=1000000000:=by
   split
   ·exact kX (Kf _ _) (kX (Fl _ _) hl)
   ·exact zO _
  have hw:IntKind.i64.wrap ((m.funcs.length:Int)-1)=(m.funcs.length:Int)-1:=Yq (by omega) (by omega);have k2:=tE H (n:=(m.funcs.length:Int)-1) iA;rw[show(m.funcs.length:Int)-1+1=m.funcs.length by omega]at k2;refine⟨_,_,_,k1,_,_,Oj H _ [32],_,_,_,by rw[hw];exact k2,?_⟩;unfold I3 og;refine⟨fun h=>⟨fun _=>no ?_,fun h'=>(by cases h')⟩,fun h=>⟨fun h2=>⟨fun _=>no ?_,fun h'=>(by cases h')⟩,fun h2=>⟨fun h3=>no ?_,fun h3=>?_⟩⟩⟩
  ·unfold Hx;rw[kC<|by simpa using h]
  ·unfold Hx;rw[kA<|by simpa using h,kC<|by simpa using h2]
  ·have dY:(Zn [32] (Yk 170 t).2.2).2=true:=by simpa using h2
   unfold Hx;rw[kA<|by simpa using h,kA (by rw[dY];decide)];rw[kC dY]at h3;unfold Hh;rw[kC<|by simpa using h3]
  have dY:(Zn [32] (Yk 170 t).2.2).2=true:=by simpa using h2
  have e:Hx m t=Hh m (Yk 170 t).1 (Zn [32] (Yk 170 t).2.2).1:=by
   unfold Hx;rw[kA<|by simpa using h,kA (by rw[dY];decide)]
  rw[kC dY]at h3 iA⊢;rw[e]at no fin;clear e h h2 dY k1 k2;generalize (Zn [32] (Yk 170 t).2.2).1=u at iA no fin h3⊢;generalize (Yk 170 t).1=k at no fin⊢;have h3:(Yk m.funcs.length u).2.1=true:=by simpa using h3
  have hr:=Fi _ _ h3;obtain⟨f,hf,a_⟩:=Tu hr.1 hr.2;obtain⟨q1,q2,q3,q4⟩:=hm.f f a_;have q5:=Hj f.name;have hc:=V5 hf;have oh:=ID hf
  have tF:(if (Zn ([32]++quo f.name++[32,97,116,32]) (Yk m.funcs.length u).2.2).2=true then (Zn ([32]++quo f.name++[32,97,116,32]) (Yk m.funcs.length u).2.2).1 else []).length<=1000000000:=by
   split
   ·exact kX (Kf _ _) (kX (Fl _ _) iA)
   ·exact zO _
  have hw2:IntKind.i64.wrap ((f.code.length:Int)-1)=(f.code.length:Int)-1:=Yq (by omega) (by omega);have k3:=tE H (n:=(f.code.length:Int)-1) tF;rw[show(f.code.length:Int)-1+1=f.code.length by omega]at k3;unfold I4;refine⟨hr.1,f,hf,_,Ai H.toHas03<|by omega,?_,?_,_,_,Oj H _ _,hr.1,f,hf,_,_,_,by rw[hw2];exact k3,?_⟩
  ·rw[Wj];simp only[kF,kB,kD];omega
  ·rw[Wj];simp only[kF,kB,kD];omega
  unfold tH;refine⟨fun h=>⟨fun _=>no ?_,fun h'=>(by cases h')⟩,fun h=>⟨fun h2=>no ?_,fun h2=>?_⟩⟩
  ·unfold Hh;rw[kA (by rw[h3];decide),oh,kC<|by simpa using h]
  ·have h':(Zn ([32]++quo f.name++[32,97,116,32]) (Yk m.funcs.length u).2.2).2=true:=by simpa using h
   unfold Hh;rw[kA (by rw[h3];decide),oh,kA (by rw[h'];decide)];rw[kC h']at h2;unfold Hn;rw[kC (by rw[hc];simpa using h2)]
  have h':(Zn ([32]++quo f.name++[32,97,116,32]) (Yk m.funcs.length u).2.2).2=true:=by simpa using h
  have e:Hh m k u=Hn m k (Yk m.funcs.length u).1 (Zn ([32]++quo f.name++[32,97,116,32]) (Yk m.funcs.length u).2.2).1:=by
   unfold Hh;rw[kA (by rw[h3];decide),oh,kA (by rw[h'];decide)]
  rw[kC h']at h2⊢;rw[e]at no fin;clear e h h' h3 k3 tF;generalize (Zn ([32]++quo f.name++[32,97,116,32]) (Yk m.funcs.length u).2.2).1=v at no fin h2⊢;generalize (Yk m.funcs.length u).1=fi at hr hf hc oh no fin⊢;have h2:(Yk f.code.length v).2.1=true:=by simpa using h2
  have eH:¬(Yk (Gu m fi) v).2.1=false:=by rw[hc,h2];decide
  generalize iH:(Yk (f.code.length:Int) v).2.2=w;unfold I5;intro P hP
  have look:(∀i:Nat,i<4->w≠[32]++Hr i)->(Hn m k fi v).2.2=false:=by
   intro dE;unfold Hn;rw[kA eH,hc,iH];split
   ·rfl
   ·rename_i h5;unfold Td;rw[Xf6<|fun i hi e=>dE i hi ?_]
    ·rfl
    ·rw[<- e];exact Yz4 (by simpa using h5)
  have found :∀i:Nat,i<4->w=[32]++Hr i->Hn m k fi v=(k,⟨fi,(Yk f.code.length v).1,i,[]⟩,true):=by
   intro i hi hwi;have h6:Zn [32] w=(Hr i,true):=by rw[hwi];exact Js [32] _
   have h7:=Xx6 ⟨i,hi⟩;unfold Hn;rw[kA eH,hc,iH,h6,kA<|by simp];unfold Td;simp only at h7⊢;rw[h7];have h8:decide ((0:Int)<=(i:Int))=true:=kJ (by omega);rw[h8,show max (0:Int) (i:Int)=i by omega]
  have go :∀n i:Nat,i+n=4->(∀j:Nat,j<i->w≠[32]++Hr j)->P (i:Int) (Zf.mk 0 0 0 []) (Zf.mk 0 0 0 []):=by
   intro n
   induction n with
   |zero=>
    intro i hi dE;apply hP;unfold tI I6;exact⟨fun h=>absurd h<|by omega,fun _=>no<|look fun j hj=>dE j<|by omega⟩
   |succ n ih=>
    intro i hi dE;apply hP;have h5:=tc (n:=(i:Int)) (by omega) (by omega);unfold tI;refine⟨fun _=>⟨_,VU H.toHasF (by omega)<|by omega,?_,fun h=>?_,fun h=>?_⟩,fun h=>absurd (show(i:Int)<4 by omega) h⟩
    ·rw[Wj];simp only[kB,kD];omega
    ·rw[fin _ (found i (by omega) h) rfl];exact⟨rfl,rfl,rfl⟩
    ·rw[Mh (by omega)<|by omega,show(i:Int)+1=((i+1:Nat):Int)by omega]
     exact ih (i+1) (by omega) fun j hj=>by
      rcases jF j i with h6|h6
      ·exact dE j h6
      ·have:j=i:=by omega
       subst this;exact h
  exact go 4 0 rfl (fun j hj=>absurd hj<|zZ _)
 ·rintro r ⟨x,y,z,rfl,rfl,rfl,rfl⟩;rfl
theorem Xyi{f:Zz}(hf:f.slots.length<=30/\∀s∈f.slots,s.name.length<=40){s:Zc}(hs:s.length<=1000000000):∃y ok,(ok=(Jf f s).isSome/\(ok=true->Jf f s=some y))/\Ze PG 121 [f.av,.s s] (.tup [y.av,.b ok]):=by
 refine Xaf H.f121 (f0:=f) (s1:=s) (K:=fun y ok=>ok=(Jf f s).isSome/\(ok=true->Jf f s=some y)) ?_;have no:Jf f s=none->∀y:Zx,false=(Jf f s).isSome/\(false=true->Jf f s=some y):=fun h y=>by rw[h];exact⟨rfl,fun h=>by cases h⟩
 unfold I7 I8
 have hl:(if (Zn [32,32] s).2=true then (Zn [32,32] s).1 else []).length<=1000000000:=by
  split
  ·exact kX (Kf _ _) hs
  ·exact zO _
 have hw:IntKind.i64.wrap ((f.slots.length:Int)-1)=(f.slots.length:Int)-1:=Yq (by omega) (by omega);have k1:=tE H (n:=(f.slots.length:Int)-1) hl;rw[show(f.slots.length:Int)-1+1=f.slots.length by omega]at k1;refine⟨_,_,Oj H s [32,32],_,_,_,by rw[hw];exact k1,fun h=>no ?_ _,fun h=>⟨fun h2=>no ?_ _,fun h2=>?_⟩⟩
 ·unfold Jf;rw[kC<|by simpa using h]
 ·have h':(Zn [32,32] s).2=true:=by simpa using h
  unfold Jf;rw[kA<|by simpa using h];rw[kC h']at h2;rw[kC<|by simpa using h2]
 have h':(Zn [32,32] s).2=true:=by simpa using h
 rw[kC h']at h2 hl⊢;have dY:(Yk f.slots.length (Zn [32,32] s).1).2.1=true:=by simpa using h2
 have hr:=Fi _ _ dY;obtain⟨sl,k1,k2,k3⟩:=Oe hr.1 hr.2;have q4:=hf.2 sl k2;have q5:=Hj sl.name;unfold I9
 have tF:(if (Zn ([32]++quo sl.name++[32,61,32]) (Yk f.slots.length (Zn [32,32] s).1).2.2).2=true then (Zn ([32]++quo sl.name++[32,61,32]) (Yk f.slots.length (Zn [32,32] s).1).2.2).1 else []).length<=1000000000:=by
  split
  ·exact kX (Kf _ _) (kX (Fl _ _) hl)
  ·exact zO _
 refine⟨hr.1,sl,k1,_,Ai H.toHas03<|by omega,?_,?_,_,_,Oj H _ _,_,_,c75 H.toHas38 tF,fun h3=>?_,fun h3=>no ?_ _⟩
 ·rw[Wj];simp only[kF,kB,kD];omega
 ·rw[Wj];simp only[kF,kB,kD];omega
 ·unfold Jf;rw[kA<|by simpa using h,kA (by rw[dY];decide),k3,kA (by rw[h3];decide),kC h3];split
  ·rename_i h4;exact⟨by rw[kJ h4];rfl,fun _=>rfl⟩
  ·rename_i h4;exact⟨by rw[kI h4];rfl,fun h5=>by simp only[jA]at h5;exact absurd h5 h4⟩
 ·unfold Jf;rw[kA<|by simpa using h,kA (by rw[dY];decide),k3,kC h3]
end
end Go.AM
