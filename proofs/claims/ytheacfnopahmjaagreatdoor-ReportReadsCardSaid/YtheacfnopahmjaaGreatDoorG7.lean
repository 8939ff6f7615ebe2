/- Parts of the proof: C38m, V40, C40, C40b, C40c, C40d, V40r, V39c, V40s, V40t, V40u, C40e, C39d, C39e, C40f, C40g, C40h, C40i, C40j, C40k, C40l, C39f, C40n, C40o, V40v, C40p. -/
import Derived.Test.YtheacfnopahmjaaGreatDoorG6
import Derived.Test.YtheacfnopahmjaaGreatDoorG4
import Derived.Test.YtheacfnopahmjaaGreatDoorG5
import Derived.Lib.SplitLaws
import Derived.Lib.IndexBytes
import Derived.Lib.IndexMore
set_option linter.all false
namespace Go.AM
open Go
theorem Xxq{n:Nat}{l:List Zc}(h:Dj n l=false):∀s∈l,s.length<=n:=I_.1 h
theorem V6(f:Zz):∀(l:List Zc) (s:Zc),Qs f (l++[s])=(match Qs f l with|none=>none|some ys=>match Jf f s with|none=>none|some y=>some<|ys++[y])
 |[],s=>by
  simp only[jV,Qs]
  try (cases Jf f s<;>rfl)
 |x::r,s=>by
  simp only[kY,Qs,V6 f r s]
  cases Jf f x with
  |none=>rfl
  |some y=>
   cases Qs f r with
   |none=>rfl
   |some ys=>cases Jf f s<;>rfl
theorem V7{f:Zz}{l:List Zc}{i:Nat}(hi:i<l.length):Qs f (l.take<|i+1)=(match Qs f (l.take i)with|none=>none|some ys=>match Jf f l[i]with|none=>none|some y=>some<|ys++[y]):=by rw[kM hi,V6]
theorem JA{f:Zz}:∀{l:List Zc}{i:Nat},Qs f (l.take i)=none->Qs f l=none
 |[],i,h=>by rw[List.take_nil]at h;exact h
 |x::r,0,h=>by cases h
 |x::r,i+1,h=>by
  simp only[yU,Qs]at h⊢
  cases hx:Jf f x with
  |none=>rfl
  |some y=>
   rw[hx]at h;simp only at h⊢
   cases hr:Qs f (r.take i)with
   |none=>rw[JA hr]
   |some ys=>rw[hr]at h;cases h
theorem Xrz{f:Zz}{s:Zc}{y:Zx}(h:Jf f s=some y):Wf y.value:=by
 unfold Jf at h
 repeat' split at h
 all_goals first|(cases h;done)|(cases h;exact tJ _)
theorem Ad{f:Zz}:∀{l:List Zc}{ys:List Zx},Qs f l=some ys->ys.length=l.length/\∀y∈ys,Wf y.value
 |[],ys,h=>by cases h;exact⟨rfl,by simp⟩
 |s::r,ys,h=>by
  rw[Qs]at h
  cases hx:Jf f s with
  |none=>rw[hx]at h;cases h
  |some y=>
   rw[hx]at h;simp only at h
   cases hr:Qs f r with
   |none=>rw[hr]at h;cases h
   |some zs=>
    rw[hr]at h;cases h;obtain⟨h1,h2⟩:=Ad hr;exact⟨by simp[h1],fun y hy=>by rcases jH.1 hy with rfl|hy;exact Xrz hx;exact h2 y hy⟩
def Np(m:Zd)(l:List Zc)(k:Int)(x:Zf)(f:Zz):Int × Zf × Int:=match Qs f (l.drop 1)with
 |none=>(0,fz,12)
 |some ys=>if Uy m k { x with locals:=ys }=(l,0)then (k,{ x with locals:=ys },0)else (0,fz,12)
theorem oi{m:Zd}{l:List Zc}(h:17<l.length\/Dj 1400060 l=true):Jy m l=(0,fz,4):=by unfold Jy;rw[kC h]
theorem JB{m:Zd}:Jy m []=(0,fz,12):=by unfold Jy;rw[kA<|by decide]
theorem V8{m:Zd}{l:List Zc}{s:Zc}(h:¬(17<l.length\/Dj 1400060 l=true))(hs:l[0]?=some s)(hf:(Ww m s).2.2=false):Jy m l=(0,fz,12):=by
 cases l with
 |nil=>cases hs
 |cons t r=>
  injection hs with hs;subst hs;unfold Jy;rw[kA h];simp only;rw[kC hf]
theorem V9{m:Zd}{l:List Zc}{s:Zc}{f:Zz}(h:¬(17<l.length\/Dj 1400060 l=true))(hs:l[0]?=some s)(hf:(Ww m s).2.2=true)(hm:m.funcs[(Ww m s).2.1.func.toNat]?=some f):Jy m l=Np m l (Ww m s).1 (Ww m s).2.1 f:=by
 cases l with
 |nil=>cases hs
 |cons t r=>
  injection hs with hs;subst hs;unfold Jy Np;rw[kA h];simp only;rw[kA (by rw[hf];decide),hm];rfl
theorem Xjt{l:List Zc}:l.any (fun s=>decide<|1400060<s.length)=Dj 1400060 l:=rfl
section
variable{PG:Zb}(H:HasG PG)
include H
theorem c84{m:Zd}(hm:We m){l:List Zc}(hl:l.length<=9223372036854775807):Ze PG 84 [m.av,.sl .ext<|l.map Zv] (.tup [.i .i64 (Jy m l).1,(Jy m l).2.1.av,.i .i64 (Jy m l).2.2]):=by
 obtain ⟨x,y,z,⟨rfl,rfl,rfl⟩,h⟩:=p84 H.f84 (m0:=m) (l1:=l) (K:=fun x y z=>x=(Jy m l).1/\y=(Jy m l).2.1/\z=(Jy m l).2.2) (by
  unfold JC JD tL;refine⟨fun h=>⟨fun _=>?_,fun h'=>(by cases h')⟩,fun h=>⟨_,fun o=>Xia H.toHasF (l:=l) (f:=(116,[])) (p:=fun s=>decide<|1400060<s.length) hl (fun s _=>Wca H.toHasF s) o,fun h2=>?_,fun h2=>?_⟩⟩
  ·rw[oi<|.inl<|by omega];exact⟨rfl,rfl,rfl⟩
  ·rw[oi<|.inr h2];exact⟨rfl,rfl,rfl⟩
  have aV:¬(17<l.length\/Dj 1400060 l=true):=by
   rintro(h3|h3)
   ·omega
   ·rw[Xjt,h3]at h2;cases h2
  have hlen:=Xxq (n:=1400060) (l:=l) h2;unfold JE;refine⟨fun h3=>?_,fun h3=>?_⟩
  ·have:l=[]:=Ge (by omega);subst this;rw[JB];exact⟨rfl,rfl,rfl⟩
  have h0:0<l.length:=by omega
  have hs:l[0]?=some l[0]:=kH h0;have oj:=hlen _ (kL h0);unfold JF JG;refine⟨_,hs,_,_,_,Xng H hm<|by omega,fun h4=>?_,fun h4=>?_⟩
  ·rw[V8 aV hs<|by simpa using h4];exact⟨rfl,rfl,rfl⟩
  have h4:(Ww m l[0]).2.2=true:=by simpa using h4
  obtain⟨g1,g2,g3,g4⟩:=V_ h4;obtain⟨f,hf,a_⟩:=Tu g1 g2;obtain⟨q1,q2,q3,q4⟩:=hm.f f a_;rw[V9 aV hs h4 hf];have g5:=JH m l[0];have g6:=WA m l[0];generalize (Ww m l[0]).1=k at g3 g4⊢;generalize (Ww m l[0]).2.1=x at g1 g2 g5 g6 hf⊢;unfold JI;refine⟨by omega,fun P hP=>?_⟩
  have go :∀n i:Nat,i+n=(l.drop 1).length->∀ys,Qs f ((l.drop 1).take i)=some ys->P (i:Int) m fz { x with locals:=ys }:=by
   intro n
   induction n with
   |zero=>
    intro i hi ys cL;apply hP;rw[zF<|by omega]at cL;obtain⟨a1,a2⟩:=Ad cL;have hx:Ul { x with locals:=ys }:=⟨g5,by rw[a1];simp;omega,a2⟩;have e:Np m l k x f=if Uy m k { x with locals:=ys }=(l,0)then (k,{ x with locals:=ys },0)else (0,fz,12):=by unfold Np;rw[cL]
    unfold tM JJ;refine⟨fun h=>absurd h<|by omega,fun _=>⟨_,_,c82 H.toHasF hm hx,fun h5=>?_,fun h5=>?_⟩⟩
    ·unfold om;rw[e,kA<|fun h6=>h5<|by rw[h6]];exact⟨fun _=>⟨rfl,rfl,rfl⟩,fun h'=>(by cases h')⟩
    ·have hb:(Uy m k { x with locals:=ys }).1.length<=9223372036854775807:=by
      unfold Uy;split
      ·exact zO _
      ·split
       ·rw[Bo (x:={ x with locals:=ys }) (f:=f) hf];simp[a1];omega
       ·exact zO _
     refine⟨_,Xg0 H.toHasF hb,?_⟩;unfold om JK;refine⟨fun h6=>?_,fun h6=>?_⟩
     ·rw[e,kA (fun h7=>by rw[h7]at h6;simp at h6)];exact⟨rfl,rfl,rfl⟩
     ·have h6:(Uy m k { x with locals:=ys }).1=l:=by simpa using h6
      rw[e,kC (by rw[<- h6];exact Prod.ext rfl<|kP.1 h5)];exact⟨rfl,rfl,rfl⟩
   |succ n ih=>
    intro i hi ys cL;have hd:(l.drop 1).length=l.length-1:=by simp
    have bR:i<(l.drop 1).length:=by omega
    apply hP;have dB:=hlen _ (List.mem_of_mem_drop<|kL bR);obtain⟨y,ok,⟨b1,b2⟩,b3⟩:=Xbd H (f:=f) ⟨q2,q4⟩ (s:=(l.drop 1)[i]) (by omega);obtain⟨a1,a2⟩:=Ad cL;have WB:ys.length<=20:=by rw[a1];simp;omega
    have e:=V7 (f:=f) bR;rw[cL]at e;unfold tM;refine⟨fun _=>⟨by omega,_,Xi bR,g1,f,hf,y,ok,b3,fun h5=>?_,fun h5=>⟨⟨?_,?_⟩,?_⟩⟩,fun h=>absurd (show(i:Int)<((l.drop 1).length:Int)by omega) h⟩
    ·have:Jf f (l.drop 1)[i]=none:=by
      rw[<- Option.not_isSome_iff_eq_none,<- b1];simpa using h5
     rw[this]at e;have:Np m l k x f=(0,fz,12):=by unfold Np;rw[JA e]
     rw[this];exact⟨rfl,rfl,rfl⟩
    ·simp only[kB,kD,Xk];omega
    ·simp only[kB,kD,Xk];omega
    ·rw[Yq (by omega)<|by omega];rw[b2<|by simpa using h5]at e;exact ih (i+1) (by omega) _ e
  have:=go (l.drop 1).length 0 (by omega) [] rfl;rw[<- g6]at this;exact this)
 exact h
theorem c85{m:Zd}(hm:We m){l:List Zc}(hl:l.length<=9223372036854775807):Ze PG 85 [m.av,.sl .ext<|l.map Zv] (.tup [.i .i64 (Jy m l).1,(Jy m l).2.1.av,.i .i64 (Jy m l).2.2]):=by
 obtain ⟨x,y,z,⟨rfl,rfl,rfl⟩,h⟩:=p85 H.f85 (m0:=m) (l1:=l) (K:=fun x y z=>x=(Jy m l).1/\y=(Jy m l).2.1/\z=(Jy m l).2.2) (by
  unfold JL JM;refine⟨fun h=>?_,fun h=>?_⟩
  ·rw[oi<|.inl<|by omega];exact⟨rfl,rfl,rfl⟩
  unfold JN;intro P0 n7;refine Ds (P:=fun i=>P0 i m fz) l.length (fun i=>∀s∈l.take i,s.length<=1400060) (by simp) (fun hlen=>n7 _ _ _ ?_) fun i hi hI bQ=>n7 _ _ _ ?_
  ·rw[kQ]at hlen;unfold tO;refine⟨fun h=>absurd h<|by omega,fun _=>?_⟩
   have aV:¬(17<l.length\/Dj 1400060 l=true):=by
    rintro(h3|h3)
    ·omega
    ·rw[I_.2 hlen]at h3;cases h3
   unfold JO;refine⟨fun h3=>?_,fun h3=>?_⟩
   ·have:l=[]:=Ge (by omega);subst this;rw[JB];exact⟨rfl,rfl,rfl⟩
   have h0:0<l.length:=by omega
   have hs:l[0]?=some l[0]:=kH h0;have oj:=hlen _ (kL h0);unfold JP JQ;refine⟨_,hs,_,_,_,Xlv H hm<|by omega,fun h4=>?_,fun h4=>?_⟩
   ·have h4:(Ww m l[0]).2.2=false:=by
     unfold Ht at h4;split at h4
     ·rename_i h5;rw[h5]at h4;cases h4
     ·rename_i h5;simpa using h5
    rw[V8 aV hs h4];exact⟨rfl,rfl,rfl⟩
   have h4:(Ww m l[0]).2.2=true:=by
    unfold Ht at h4;split at h4
    ·assumption
    ·cases h4
   have e0:Ht m l[0]=Ww m l[0]:=by unfold Ht;rw[kC h4]
   rw[e0];obtain⟨g1,g2,g3,g4⟩:=V_ h4;obtain⟨f,hf,a_⟩:=Tu g1 g2;obtain⟨q1,q2,q3,q4⟩:=hm.f f a_;rw[V9 aV hs h4 hf];have g5:=JH m l[0];have g6:=WA m l[0];clear e0 h4;generalize (Ww m l[0]).1=k at g3 g4⊢;generalize (Ww m l[0]).2.1=x at g1 g2 g5 g6 hf⊢;intro P hP
   have go :∀n i:Nat,i+n=(l.drop 1).length->∀ys,Qs f ((l.drop 1).take i)=some ys->P ((i+1:Nat):Int) m fz { x with locals:=ys }:=by
    intro n
    induction n with
    |zero=>
     intro i hi ys cL;apply hP;rw[zF<|by omega]at cL;obtain⟨a1,a2⟩:=Ad cL;have hx:Ul { x with locals:=ys }:=⟨g5,by rw[a1];simp;omega,a2⟩;have e:Np m l k x f=if Uy m k { x with locals:=ys }=(l,0)then (k,{ x with locals:=ys },0)else (0,fz,12):=by unfold Np;rw[cL]
     have hd:(l.drop 1).length=l.length-1:=by simp
     unfold tP JR;refine⟨fun h=>absurd h<|by omega,fun _=>⟨_,c87 H.toHasF hm hx,fun h5=>?_,fun h5=>?_⟩⟩
     ·unfold Ot;have hb:Jm m { x with locals:=ys }≠true:=fun hb=>by rw[<- Et hb]at h5;exact h5 rfl
      rw [e,kA (fun h6=>by
       unfold Uy at h6;rw[kA<|by omega,kA hb]at h6;cases h6)]
      exact⟨fun _=>⟨rfl,rfl,rfl⟩,fun h'=>(by cases h')⟩
     ·have hb:Jm m { x with locals:=ys }=true:=by
       by_cases hb:Jm m { x with locals:=ys }=true
       ·exact hb
       ·rw[<- Ch hb]at h5;exact absurd (by decide) h5
      have e2:Uy m k { x with locals:=ys }=(Ks m k { x with locals:=ys },0):=HK (by omega) hb
      have oo:(Ks m k { x with locals:=ys }).length<=1000000000:=by
       rw[Bo (x:={ x with locals:=ys }) (f:=f) hf];simp[a1];omega
      refine⟨_,V4 H.toHasF hm hx ⟨g3,g4⟩ hb,_,c29 H.toHas03 oo,?_⟩;unfold Ot JS;refine⟨fun h6=>?_,fun h6=>?_⟩
      ·rw[e,e2,kA (fun h7=>by injection h7 with h7;rw[h7]at h6;simp at h6)];exact⟨rfl,rfl,rfl⟩
      ·have h6:Ks m k { x with locals:=ys }=l:=by simpa using h6
       rw[e,e2,kC<|by rw[h6]];exact⟨rfl,rfl,rfl⟩
    |succ n ih=>
     intro i hi ys cL;have hd:(l.drop 1).length=l.length-1:=by simp
     have bR:i<(l.drop 1).length:=by omega
     have oq:i+1<l.length:=by omega
     have hg:(l.drop 1)[i]=l[i+1]:=by simp[Nat.add_comm]
     apply hP;have dB:=hlen _ (kL oq);obtain⟨y,ok,⟨b1,b2⟩,b3⟩:=Xyi H (f:=f) ⟨q2,q4⟩ (s:=l[i+1]) (by omega);obtain⟨a1,a2⟩:=Ad cL;have WB:ys.length<=20:=by rw[a1];simp;omega
     have e:=V7 (f:=f) bR;rw[cL,hg]at e;unfold tP;refine⟨fun _=>⟨g1,f,hf,by omega,_,Xi oq,y,ok,b3,fun h5=>?_,fun h5=>⟨⟨?_,?_⟩,?_⟩⟩,fun h=>absurd (show((i+1:Nat):Int)<(l.length:Int)by omega) h⟩
     ·have:Jf f l[i+1]=none:=by
       rw[<- Option.not_isSome_iff_eq_none,<- b1];simpa using h5
      rw[this]at e;have:Np m l k x f=(0,fz,12):=by unfold Np;rw[JA e]
      rw[this];exact⟨rfl,rfl,rfl⟩
     ·simp only[kB,kD,Xk];omega
     ·simp only[kB,kD,Xk];omega
     ·rw[Yq (by omega)<|by omega];rw[b2<|by simpa using h5]at e;exact ih (i+1) (by omega) _ e
   have:=go (l.drop 1).length 0 (by omega) [] rfl;rw[<- g6]at this;exact this
  ·unfold tO;refine⟨fun _=>⟨by omega,_,Xi hi,fun h2=>?_,fun h2=>?_⟩,fun h=>absurd (show(i:Int)<(l.length:Int)by omega) h⟩
   ·rw[oi<|.inr<|Yy9 hi<|by omega];exact⟨rfl,rfl,rfl⟩
   ·rw[Yq (by omega)<|by omega];refine bQ fun s hs=>?_
    rw[kM hi]at hs;rcases kZ.1 hs with hs|hs
    ·exact hI s hs
    ·rw [jO.1 hs];omega)
 exact h
omit H in
theorem WD(m:Zd)(l:List Zc):Ul (Jy m l).2.1:=by
 have hz:Ul fz:=⟨by decide,by decide,by simp⟩;by_cases h:17<l.length\/Dj 1400060 l=true
 ·rw[oi h];exact hz
 cases l with
 |nil=>rw[JB];exact hz
 |cons s r=>
  unfold Jy;rw[kA h];simp only;by_cases hf:(Ww m s).2.2=false
  ·rw[kC hf];exact hz
  rw[kA hf]
  cases hg:m.funcs[(Ww m s).2.1.func.toNat]? with
  |none=>exact hz
  |some f=>
   simp only
   cases cL:Qs f r with
   |none=>exact hz
   |some ys=>
    simp only;split
    ·obtain⟨a1,a2⟩:=Ad cL;refine⟨JH m s,?_,a2⟩;simp only[a1];simp only[kB]at h;omega
    ·exact hz
end
end Go.AM

namespace Go.AM
open Go
def Hf:List Zc:=[[],[110,111,114,109,97,108],[112,97,110,105,99],[100,101,97,100,108,111,99,107],[115,116,97,99,107],[104,101,97,112],[114,111,117,116,105,110,101,115],[115,116,101,112,115],[115,99,114,105,112,116]]
def Pr(n:Int):Zc × Int:=if n<1\/8<n then ([],2)else ((Hf[n.toNat]?).getD [],0)
def Ga(s:Zc):Int × Int:=if Gf s Hf<1 then (0,12)else (Gf s Hf,0)
def Tp(m:Zd)(n:Int):Bool:=match m.funcs[n.toNat]? with
 |none=>false
 |some f=>decide (f.name.length<=16)
def Jg(m:Zd)(Vm:Int)(d:Zq):Bool:=decide (0<=d.frame)&&decide (d.frame<Vm)&&decide (0<=d.func)&&Tp m d.func&&(if d.hasArg=true then decide (d.arg.kind=1\/d.arg.kind=2\/d.arg.kind=4)&&Vl d.arg else Dd d.arg)
def Kh(m:Zd)(x:Zi):Bool:=if x.status=3 then decide (x.frames.length=0)&&decide (x.defers.length=0)&&decide (x.panics.length=0)&&decide (x.key=0)
 else decide (x.status=2\/(x.status=1/\x.key=0))&&decide (1<=x.frames.length/\x.frames.length<=170)&&decide (x.defers.length<=410)&&decide (Hw x.panics=0)&&x.frames.all (Jm m)&&x.defers.all (Jg m x.frames.length)
def Un(m:Zd)(s:Zo):Bool:=decide (1<=s.outcome/\s.outcome<=8)&&decide (0<=s.steps/\s.steps<=5000)&&decide (s.routines.length<=16)&&decide (-1<=s.failing/\s.failing<s.routines.length)&&s.routines.all (Kh m)
structure Kz(x:Zi):Prop where
 st:0<=x.status
 k:-9223372036854775808<=x.key/\x.key<9223372036854775808
 f :∀y∈x.frames,Ul y
 d :∀y∈x.defers,Wf y.arg
 p :∀y∈x.panics,Hu y
 fl:x.frames.length<=1000000000000000000
 dl:x.defers.length<=1000000000000000000
 pl:x.panics.length<=1000000000000000000
structure N6(x:Zi):Prop where
 st:0<=x.status
 k:-9223372036854775808<=x.key/\x.key<9223372036854775808
 f :∀y∈x.frames,Ul y
 d :∀y∈x.defers,Wf y.arg
 p :∀y∈x.panics,Hu y
 fl:x.frames.length<=9223372036854775807
 dl:x.defers.length<=9223372036854775807
 pl:x.panics.length<=9223372036854775807
structure vF(s:Zo):Prop where
 o:0<=s.outcome
 r :∀x∈s.routines,N6 x
 n:s.routines.length<=9223372036854775807
structure Gx(s:Zo):Prop where
 o:0<=s.outcome
 r :∀x∈s.routines,Kz x
 n:s.routines.length<=9223372036854775807
def Wt(m:Zd)(d:Zq):Zc:=[100,101,102,101,114,32]++Yn d.frame++[32]++Yn d.func++[32]++quo (Kr m d.func)++(if d.hasArg=true then [32,119,105,116,104,32]++Ys d.arg else [])
def Wm(m:Zd):Nat->List Zf->List Zc
 |_,[]=>[]
 |i,x::r=>Ks m i x++Wm m (i+1) r
def Gn(m:Zd)(x:Zi):List Zc:=Wm m 0 x.frames++x.defers.map (Wt m)++x.panics.map Vf
def Ud(x:Zi):Zc:=if x.status=1 then [114,101,97,100,121]else if x.status=3 then [100,111,110,101]else [98,108,111,99,107,101,100,32]++Yn x.key
def Ke(g:Int)(x:Zi):Zc:=[103,111,114,111,117,116,105,110,101,32]++Yn g++[58,32]++Ud x
def Xa(s:Zc):Zc:=[32,32]++s
def Jp(m:Zd)(g:Int)(x:Zi):List Zc:=Ke g x::(Gn m x).map Xa
def Nv(m:Zd)(g:Int)(x:Zi):List Zc × Int:=if g<0\/16<=g then ([],2)else if Kh m x=true then (Jp m g x,0)else ([],8)
def Ut(s:Zo):Zc:=[111,117,116,99,111,109,101,32]++(Pr s.outcome).1++[44,32,102,97,105,108,105,110,103,32]++Yn s.failing++[44,32,115,116,101,112,115,32]++Yn s.steps++[10]
def Ui(l:List Zc):Zc:=l.flatMap fun s=>s++[10]
def Ko(m:Zd):Nat->List Zi->Zc
 |_,[]=>[]
 |i,x::r=>Ui (Jp m i x)++Ko m (i+1) r
def Hq(m:Zd)(s:Zo):Zc:=Ut s++Ko m 0 s.routines
def Mg(m:Zd)(s:Zo):Zc × Int:=if Un m s=true then (if 300000<(Hq m s).length then ([],4)else (Hq m s,0))else ([],8)
def RT(x:Zi):Bool:=decide (12<x.frames.length)||decide (12<x.defers.length)||decide (20<x.panics.length)||Xpf x.panics||x.frames.any Yxe||x.defers.any (fun d=>KR d.arg)
def Yjb(s:Zo):Bool:=(s.routines.take 21).any RT||decide (20<s.routines.length)
theorem Kz.of{x:Zi}(h:N6 x)(hg:RT x=false):Kz x:=by unfold RT at hg;simp only[xC,zS]at hg;obtain⟨⟨⟨⟨⟨h1,h2⟩,h3⟩,_⟩,_⟩,_⟩:=hg;exact⟨h.st,h.k,h.f,h.d,h.p,by omega,by omega,by omega⟩
theorem Gx.of{s:Zo}(h:vF s)(hg:Yjb s=false):Gx s:=by unfold Yjb at hg;simp only[xC,zS]at hg;obtain⟨h1,h2⟩:=hg;rw[zF<|by omega,xB]at h1;exact⟨h.o,fun x hx=>Kz.of (h.r x hx)<|by simpa using h1 x hx,h.n⟩
end Go.AM

namespace Go.AM
open Go
structure HasT(PG:Zb):Prop extends HasQ PG,HasF PG where
 f205:PG.fn 205=some uo
 f207:PG.fn 207=some uq
 f211:PG.fn 211=some ur
 f212:PG.fn 212=some uu
 f213:PG.fn 213=some uv
 f214:PG.fn 214=some uw
 f215:PG.fn 215=some pe
 f216:PG.fn 216=some ux
 f217:PG.fn 217=some KW
 f218:PG.fn 218=some uy
 f219:PG.fn 219=some uz
 f220:PG.fn 220=some uA
 f221:PG.fn 221=some uB
 f222:PG.fn 222=some uC
 f223:PG.fn 223=some uD
 f224:PG.fn 224=some uE
 f225:PG.fn 225=some uF
 f226:PG.fn 226=some uG
 f227:PG.fn 227=some uH
 f228:PG.fn 228=some uI
 f229:PG.fn 229=some uJ
 f230:PG.fn 230=some uK
 f231:PG.fn 231=some uL
 f232:PG.fn 232=some uM
 f233:PG.fn 233=some uN
 f234:PG.fn 234=some uO
 f235:PG.fn 235=some uP
 f236:PG.fn 236=some uQ
 f237:PG.fn 237=some uR
 f238:PG.fn 238=some uS
 f239:PG.fn 239=some uT
theorem KX{n:Int}(h0:1<=n)(h1:n<=8):∃w,Hf[n.toNat]?=some w/\Pr n=(w,0)/\w.length<=8:=by
 obtain⟨k,rfl⟩:=Int.eq_ofNat_of_zero_le (by omega:0<=n);have h1:k<=8:=by omega
 have h0:1<=k:=by omega
 match k,h0,h1 with
 |1,_,_|2,_,_|3,_,_|4,_,_|5,_,_|6,_,_|7,_,_|8,_,_=>exact⟨_,rfl,rfl,by decide⟩
theorem XB{v:Zc}:∀{l:List Zc}{i:Nat}(hi:i<l.length),l[i]=v->(∀j (hj:j<i),l[j]'(by omega)≠v)->Gf v l=i
 |[],i,hi,_,_=>absurd hi (zZ _)
 |x::r,0,_,h,_=>by rw[Gf,kC<|show v=x from h.symm];rfl
 |x::r,i+1,hi,h,k=>by
  have ih:=XB (l:=r) (i:=i) (by simpa using hi) (by simpa using h) fun j hj=>by simpa using k (j+1) (by omega)
  rw[Gf,kA<|fun e=>k 0 (by omega)<|by simpa using e.symm,ih,kA<|by omega];omega
theorem Xs6{s:Zc}{i:Nat}(h1:1<=i)(hi:i<9)(h:Hf[i]'hi=s)(k :∀j (hj:j<i),1<=j->Hf[j]'(show j<9 by omega)≠s):Ga s=((i:Int),0):=by
 have hs:s≠[]:=by
  subst h
  match i,h1,hi with
  |1,_,_|2,_,_|3,_,_|4,_,_|5,_,_|6,_,_|7,_,_|8,_,_=>exact List.cons_ne_nil _ _
 have e:Gf s Hf=(i:Int):=XB (l:=Hf) hi h fun j hj=>by
  rcases zX j with rfl|h0
  ·exact fun e=>hs e.symm
  ·exact k j hj h0
 unfold Ga;rw[e,kA<|by omega]
theorem Xw0{s:Zc}(k :∀j (hj:j<9),1<=j->Hf[j]'hj≠s):Ga s=(0,12):=by
 unfold Ga;by_cases h:s=[]
 ·subst h;rw[kC<|by decide]
 ·rw[IV,kC<|by decide];intro x hx e;obtain⟨j,hj,rfl⟩:=xH hx;rcases zX j with rfl|h0
  ·exact h e
  ·exact k j hj h0 e.symm
section
variable{PG:Zb}(H:HasT PG)
include H
theorem XC:Ze PG 215 [] (.ag<|Hf.map AV.s):=by obtain⟨x,rfl,h⟩:=Xza H.f215 (K:=fun x=>x=Hf) (by unfold KY;rfl);exact h
theorem XD:Ze PG 223 [] (.sl .ext<|Hf.map Zv):=by obtain⟨x,rfl,h⟩:=Xjj H.f223 (K:=fun x=>x=Hf) (by unfold KZ;rfl);exact h
theorem Is{n:Int}(h1:-9223372036854775808<=n)(h2:n<9223372036854775808):Ze PG 216 [.i .i64 n] (.s<|Yn n):=by
 obtain ⟨x,rfl,h⟩:=Xih H.f216 (n0:=n) (K:=fun x=>x=Yn n) (by
  unfold K0;exact ⟨_,c15 H.toHas03 h1 h2,rfl⟩)
 exact h
theorem pf{n:Int}(h1:-9223372036854775808<=n)(h2:n<9223372036854775808):Ze PG 226 [.i .i64 n] (.s<|Yn n):=by
 obtain ⟨x,rfl,h⟩:=Xnw H.f226 (n0:=n) (K:=fun x=>x=Yn n) (by
  unfold K1;exact ⟨_,c16 H.toHas03 h1 h2,rfl⟩)
 exact h
theorem Xks(s:Zc):Ze PG 211 [.s s] (.tup [.i .u8 (Ga s).1,.i .i64 (Ga s).2]):=by
 obtain ⟨x,y,⟨rfl,rfl⟩,h⟩:=Xxl H.f211 (s0:=s) (K:=fun x y=>x=(Ga s).1/\y=(Ga s).2) (by
  unfold K2;refine⟨_,XC H,rfl,rfl,_,VV H.toHasF (by decide) s,fun h=>?_,fun h=>?_⟩
  ·unfold Ga;rw[kC h];exact⟨rfl,rfl⟩
  ·have:=K3 s Hf;have e:(Hf.length:Int)=9:=rfl;unfold Ga;rw[kA h];exact ⟨Rp (by omega)<|by omega,rfl⟩)
 exact h
theorem Xxe(s:Zc):Ze PG 212 [.s s] (.tup [.i .u8 (Ga s).1,.i .i64 (Ga s).2]):=by
 obtain ⟨x,y,⟨rfl,rfl⟩,h⟩:=Xeg H.f212 (s0:=s) (K:=fun x y=>x=(Ga s).1/\y=(Ga s).2) (by
  unfold K4;intro P hP
  have go :∀k i:Nat,i+k=9->1<=i->(∀j (hj:j<i) (h9:j<9),1<=j->Hf[j]'h9≠s)->P (i:Int):=by
   intro k
   induction k with
   |zero=>
    intro i hi h1 ha;apply hP;unfold uU K5;refine⟨fun h=>absurd h<|by omega,fun _=>?_⟩;rw[Xw0 fun j hj h1=>ha j (by omega) hj h1];exact⟨rfl,rfl⟩
   |succ k ih=>
    intro i hi h1 ha;apply hP;unfold uU;have h9:i<Hf.length:=show i<9 by omega
    refine⟨fun _=>⟨_,XD H,by omega,_,Xi h9,fun h=>?_,fun h=>?_⟩,fun h=>absurd (show(i:Int)<=8 by omega) h⟩
    ·rw[Xs6 h1 (by omega) h fun j hj h0=>ha j hj (by omega) h0];exact⟨Rp (by omega)<|by omega,rfl⟩
    ·rw[Yq (by omega)<|by omega];refine ih (i+1) (by omega) (by omega) fun j hj h9 h1=>?_
     rcases jF j i with h2|h2
     ·exact ha j h2 h9 h1
     ·have:j=i:=by omega
      subst this;exact h
  exact go 8 1 rfl (kU _) fun j hj _ h1=>absurd h1 (by omega))
 exact h
theorem Xoq{l:List Zi}{f:Nat × List AV}{p:Zi->Bool}(hl:l.length<=9223372036854775807)(hf :∀x∈l,Ym PG f.1 ([x.av]++f.2)<|fun r=>r=.b (p x))(o:Zr):Ym PG 236 [.sl o<|l.map Zi.row,.fn f.1 f.2] (fun r=>r=.i .i64 (Jl p l)):=by
 refine(Xli H.f236 (s0:=l) (f1:=f) (K:=fun x=>x=Jl p l) ?_ o).to ?_
 ·unfold K6;intro P hP;refine Ck (Q:=fun x=>x=Jl p l) p l (fun h=>hP _ ?_) (fun i hi hp hq=>hP _ ?_) (fun i hi hp ih=>hP _ ?_) rfl
  ·unfold pg K7;exact⟨fun h'=>absurd h'<|by omega,fun _=>h⟩
  ·unfold pg;refine⟨fun _=>⟨by omega,_,Xi hi,_,hf _<|kL hi,fun _=>hq,fun h'=>?_⟩,fun h'=>absurd h'<|by omega⟩;rw[hp]at h';cases h'
  ·unfold pg;refine⟨fun _=>⟨by omega,_,Xi hi,_,hf _<|kL hi,fun h'=>?_,fun _=>?_⟩,fun h'=>absurd h'<|by omega⟩
   ·rw[hp]at h';cases h'
   ·rw[Yq (by omega)<|by omega];exact ih
 ·rintro r ⟨x,rfl,rfl⟩;rfl
theorem Xsh{l:List Zi}{f:Nat × List AV}{p:Zi->Bool}(hl:l.length<=9223372036854775807)(hf :∀x∈l,Ym PG f.1 ([x.av]++f.2)<|fun r=>r=.b (p x))(o:Zr):Ym PG 224 [.sl o<|l.map Zi.row,.fn f.1 f.2] (fun r=>r=.b (l.any p)):=by
 refine(Yw2 H.f224 (s0:=l) (f1:=f) (K:=fun x=>x=l.any p) ?_ o).to ?_
 ·unfold K8;refine⟨_,fun o=>Xoq H hl hf o,?_⟩;have:=(Tk p l).2;cases h:l.any p
  ·exact kI (by rw[h]at this;intro h';exact absurd (this.1 h')<|by decide)
  ·exact kJ (this.2 h)
 ·rintro r ⟨x,rfl,rfl⟩;rfl
theorem Xg9{l:List Zf}{f:Nat × List AV}{p:Zf->Bool}(hl:l.length<=9223372036854775807)(hf :∀x∈l,Ym PG f.1 ([x.av]++f.2)<|fun r=>r=.b (p x))(o:Zr):Ym PG 237 [.sl o<|l.map Zf.row,.fn f.1 f.2] (fun r=>r=.i .i64 (Jl p l)):=by
 refine(Xwq H.f237 (s0:=l) (f1:=f) (K:=fun x=>x=Jl p l) ?_ o).to ?_
 ·unfold K9;intro P hP;refine Ck (Q:=fun x=>x=Jl p l) p l (fun h=>hP _ ?_) (fun i hi hp hq=>hP _ ?_) (fun i hi hp ih=>hP _ ?_) rfl
  ·unfold ph K_;exact⟨fun h'=>absurd h'<|by omega,fun _=>h⟩
  ·unfold ph;refine⟨fun _=>⟨by omega,_,Xi hi,_,hf _<|kL hi,fun _=>hq,fun h'=>?_⟩,fun h'=>absurd h'<|by omega⟩;rw[hp]at h';cases h'
  ·unfold ph;refine⟨fun _=>⟨by omega,_,Xi hi,_,hf _<|kL hi,fun h'=>?_,fun _=>?_⟩,fun h'=>absurd h'<|by omega⟩
   ·rw[hp]at h';cases h'
   ·rw[Yq (by omega)<|by omega];exact ih
 ·rintro r ⟨x,rfl,rfl⟩;rfl
theorem Wa4{l:List Zf}{f:Nat × List AV}{p:Zf->Bool}(hl:l.length<=9223372036854775807)(hf :∀x∈l,Ym PG f.1 ([x.av]++f.2)<|fun r=>r=.b (p x))(o:Zr):Ym PG 227 [.sl o<|l.map Zf.row,.fn f.1 f.2] (fun r=>r=.b (l.any p)):=by
 refine(Xmn H.f227 (s0:=l) (f1:=f) (K:=fun x=>x=l.any p) ?_ o).to ?_
 ·unfold LA;refine⟨_,fun o=>Xg9 H hl hf o,?_⟩;have:=(Tk p l).2;cases h:l.any p
  ·exact kI (by rw[h]at this;intro h';exact absurd (this.1 h')<|by decide)
  ·exact kJ (this.2 h)
 ·rintro r ⟨x,rfl,rfl⟩;rfl
theorem Xg5{l:List Zq}{f:Nat × List AV}{p:Zq->Bool}(hl:l.length<=9223372036854775807)(hf :∀x∈l,Ym PG f.1 ([x.av]++f.2)<|fun r=>r=.b (p x))(o:Zr):Ym PG 238 [.sl o<|l.map Zq.row,.fn f.1 f.2] (fun r=>r=.i .i64 (Jl p l)):=by
 refine(Xuu H.f238 (s0:=l) (f1:=f) (K:=fun x=>x=Jl p l) ?_ o).to ?_
 ·unfold LC;intro P hP;refine Ck (Q:=fun x=>x=Jl p l) p l (fun h=>hP _ ?_) (fun i hi hp hq=>hP _ ?_) (fun i hi hp ih=>hP _ ?_) rfl
  ·unfold Az LD;exact⟨fun h'=>absurd h'<|by omega,fun _=>h⟩
  ·unfold Az;refine⟨fun _=>⟨by omega,_,Xi hi,_,hf _<|kL hi,fun _=>hq,fun h'=>?_⟩,fun h'=>absurd h'<|by omega⟩;rw[hp]at h';cases h'
  ·unfold Az;refine⟨fun _=>⟨by omega,_,Xi hi,_,hf _<|kL hi,fun h'=>?_,fun _=>?_⟩,fun h'=>absurd h'<|by omega⟩
   ·rw[hp]at h';cases h'
   ·rw[Yq (by omega)<|by omega];exact ih
 ·rintro r ⟨x,rfl,rfl⟩;rfl
theorem Xr7{l:List Zq}{f:Nat × List AV}{p:Zq->Bool}(hl:l.length<=9223372036854775807)(hf :∀x∈l,Ym PG f.1 ([x.av]++f.2)<|fun r=>r=.b (p x))(o:Zr):Ym PG 229 [.sl o<|l.map Zq.row,.fn f.1 f.2] (fun r=>r=.b (l.any p)):=by
 refine(Xua H.f229 (s0:=l) (f1:=f) (K:=fun x=>x=l.any p) ?_ o).to ?_
 ·unfold LF;refine⟨_,fun o=>Xg5 H hl hf o,?_⟩;have:=(Tk p l).2;cases h:l.any p
  ·exact kI (by rw[h]at this;intro h';exact absurd (this.1 h')<|by decide)
  ·exact kJ (this.2 h)
 ·rintro r ⟨x,rfl,rfl⟩;rfl
theorem Xlt{l:List Zh}{f:Nat × List AV}{p:Zh->Bool}(hl:l.length<=9223372036854775807)(hf :∀x∈l,Ym PG f.1 ([x.av]++f.2)<|fun r=>r=.b (p x))(o:Zr):Ym PG 239 [.sl o<|l.map Zh.row,.fn f.1 f.2] (fun r=>r=.i .i64 (Jl p l)):=by
 refine(Xkb H.f239 (s0:=l) (f1:=f) (K:=fun x=>x=Jl p l) ?_ o).to ?_
 ·unfold LG;intro P hP;refine Ck (Q:=fun x=>x=Jl p l) p l (fun h=>hP _ ?_) (fun i hi hp hq=>hP _ ?_) (fun i hi hp ih=>hP _ ?_) rfl
  ·unfold pj LH;exact⟨fun h'=>absurd h'<|by omega,fun _=>h⟩
  ·unfold pj;refine⟨fun _=>⟨by omega,_,Xi hi,_,hf _<|kL hi,fun _=>hq,fun h'=>?_⟩,fun h'=>absurd h'<|by omega⟩;rw[hp]at h';cases h'
  ·unfold pj;refine⟨fun _=>⟨by omega,_,Xi hi,_,hf _<|kL hi,fun h'=>?_,fun _=>?_⟩,fun h'=>absurd h'<|by omega⟩
   ·rw[hp]at h';cases h'
   ·rw[Yq (by omega)<|by omega];exact ih
 ·rintro r ⟨x,rfl,rfl⟩;rfl
theorem Xfj{l:List Zh}{f:Nat × List AV}{p:Zh->Bool}(hl:l.length<=9223372036854775807)(hf :∀x∈l,Ym PG f.1 ([x.av]++f.2)<|fun r=>r=.b (p x))(o:Zr):Ym PG 232 [.sl o<|l.map Zh.row,.fn f.1 f.2] (fun r=>r=.b (l.any p)):=by
 refine(Xsj H.f232 (s0:=l) (f1:=f) (K:=fun x=>x=l.any p) ?_ o).to ?_
 ·unfold LI;refine⟨_,fun o=>Xlt H hl hf o,?_⟩;have:=(Tk p l).2;cases h:l.any p
  ·exact kI (by rw[h]at this;intro h';exact absurd (this.1 h')<|by decide)
  ·exact kJ (this.2 h)
 ·rintro r ⟨x,rfl,rfl⟩;rfl
theorem Wby{m:Zd}{Vm:Int}{d:Zq}(hm:We m)(hd:Wf d.arg):Ze PG 231 [m.av,.i .i64 Vm,d.av] (.b<|Jg m Vm d):=by
 obtain ⟨x,rfl,h⟩:=Xzx H.f231 (m0:=m) (ei:=Vm) (d2:=d) (K:=fun x=>x=Jg m Vm d) (by
  unfold LJ LK;refine⟨fun h=>?_,fun h0=>⟨fun h=>?_,fun h1=>⟨fun h=>?_,fun h2=>⟨fun h=>?_,fun h3=>?_⟩⟩⟩⟩
  ·unfold Jg;rw[kI<|by omega];rfl
  ·unfold Jg;rw[kI (p:=d.frame<Vm)<|by omega];simp
  ·unfold Jg;rw[kI (p:=0<=d.func)<|by omega];simp
  ·unfold Jg Tp;rw[kT<|by omega];simp
  obtain⟨f,hf,a_⟩:=Tu (m:=m) (n:=d.func) (by omega) (by omega);refine⟨by omega,f,hf,fun h=>?_,fun h4=>?_⟩
  ·unfold Jg Tp;rw[hf];simp only;rw[kI (p:=f.name.length<=16)<|by omega];simp
  have e:Jg m Vm d=(if d.hasArg=true then decide (d.arg.kind=1\/d.arg.kind=2\/d.arg.kind=4)&&Vl d.arg else Dd d.arg):=by
   unfold Jg Tp;rw[hf];simp only;rw[kJ<|by omega,kJ<|by omega,kJ<|by omega,kJ<|by omega];rfl
  rw[e];unfold LL;refine⟨fun h=>?_,fun h=>?_⟩
  ·have ha:d.hasArg=false:=by simpa using h
   rw[ha];simp only[jL,jT];unfold Dd;refine⟨fun k0=>⟨fun k1=>⟨fun k2=>⟨fun k3=>?_,fun k3=>?_⟩,fun k2=>?_⟩,fun k1=>?_⟩,fun k0=>?_⟩
   ·rw[kJ k0,kJ k1,kJ k2,kJ<|by omega];rfl
   ·rw[kI (p:=d.arg.list.length=0)<|by omega];simp
   ·rw[kI k2];simp
   ·rw[kI k1];simp
   ·rw[kI k0];rfl
  ·have ha:d.hasArg=true:=by simpa using h
   rw[ha,kC rfl]
   have fin :∀b:Bool,b=decide (d.arg.kind=1\/d.arg.kind=2\/d.arg.kind=4)->Ax PG (fun x=>x=(decide (d.arg.kind=1\/d.arg.kind=2\/d.arg.kind=4)&&Vl d.arg)) b d:=fun b hb=>by
    unfold Ax;rw[<- hb];refine⟨fun h=>⟨_,c76 H.toHas38 hd,?_⟩,fun h=>by rw[h];rfl⟩;rw[h,jZ];cases hq:Vl d.arg
    ·exact kI fun h'=>absurd (Hb.1 h') (by rw[hq];decide)
    ·exact kJ (Hb.2 hq)
   unfold LM;refine ⟨fun k=>fin _ ?_,fun k=>⟨fun k'=>fin _ ?_,fun k'=>fin _ ?_⟩⟩<;>exact decide_eq_decide.2 (by omega))
 exact h
theorem Xe1{m:Zd}{Vm:Int}{d:Zq}(hm:We m)(hd:Wf d.arg):Ze PG 235 [m.av,.i .i64 Vm,d.av] (.b<|Jg m Vm d):=by
 obtain ⟨x,rfl,h⟩:=Xef H.f235 (m0:=m) (gq:=Vm) (d2:=d) (K:=fun x=>x=Jg m Vm d) (by
  unfold LN LO;refine⟨fun h=>?_,fun h0=>⟨fun h=>?_,fun h1=>⟨fun h=>?_,fun h2=>⟨fun h=>?_,fun h3=>?_⟩⟩⟩⟩
  ·unfold Jg;rw[kI<|by omega];rfl
  ·unfold Jg;rw[kI (p:=d.frame<Vm)<|by omega];simp
  ·unfold Jg;rw[kI (p:=0<=d.func)<|by omega];simp
  ·unfold Jg Tp;rw[kT<|by omega];simp
  obtain⟨f,hf,a_⟩:=Tu (m:=m) (n:=d.func) (by omega) (by omega);refine⟨by omega,f,hf,fun h=>?_,fun h4=>?_⟩
  ·unfold Jg Tp;rw[hf];simp only;rw[kI (p:=f.name.length<=16)<|by omega];simp
  have e:Jg m Vm d=(if d.hasArg=true then decide (d.arg.kind=1\/d.arg.kind=2\/d.arg.kind=4)&&Vl d.arg else Dd d.arg):=by
   unfold Jg Tp;rw[hf];simp only;rw[kJ<|by omega,kJ<|by omega,kJ<|by omega,kJ<|by omega];rfl
  rw[e]
  have fin :∀(p:Prop) [Decidable p],p->(decide p&&Vl d.arg)=decide (De d.arg=0):=fun p _ hp=>by
   rw[kJ hp,jZ];cases hq:Vl d.arg
   ·exact(kI fun h'=>absurd (Hb.1 h') (by rw[hq];decide)).symm
   ·exact(kJ<|Hb.2 hq).symm
  unfold LP;refine⟨fun h=>?_,fun h=>?_⟩
  ·have ha:d.hasArg=false:=by simpa using h
   rw[ha];refine⟨_,c78 H.toHas38 hd vz,?_⟩;simp only[jL,jT];cases hq:Dd d.arg
   ·exact Fd.2 fun h'=>absurd (Cz.2 h') (by rw[hq];decide)
   ·exact Tv.2 (Cz.1 hq)
  ·have ha:d.hasArg=true:=by simpa using h
   rw[ha,kC rfl];refine⟨fun k=>⟨_,El H.toHas38 hd,(fin _<|by omega).symm⟩,fun k=>⟨fun k'=>⟨_,El H.toHas38 hd,(fin _<|by omega).symm⟩,fun k'=>⟨fun k''=>⟨_,El H.toHas38 hd,(fin _<|by omega).symm⟩,fun k''=>?_⟩⟩⟩;rw [kI<|by omega];rfl)
 exact h
theorem Yvx{m:Zd}(hm:We m){x:Zf}(hx:Ul x):Ym PG 228 ([x.av]++[.fp m.row]) (fun r=>r=.b (!Jm m x)):=by
 refine(Xbz H.f228 (y0:=x) (t1:=m) (K:=fun y=>y=!Jm m x) ?_).to ?_
 ·unfold LQ;refine⟨_,c86 H.toHasF hm hx,?_⟩;cases hb:Jm m x
  ·rw[<- Ch (by rw[hb];decide)];rfl
  ·rw[<- Et hb];rfl
 ·rintro r ⟨x,rfl,rfl⟩;rfl
theorem Xl2{m:Zd}(hm:We m){Vm:Int}{d:Zq}(hd:Wf d.arg):Ym PG 230 ([d.av]++[.fp m.row,.fp [.i .i64 Vm]]) (fun r=>r=.b (!Jg m Vm d)):=by
 refine(Xmc H.f230 (y0:=d) (t1:=m) (t2:=Vm) (K:=fun y=>y=!Jg m Vm d) ?_).to ?_
 ·unfold LR;exact⟨_,Wby H hm hd,rfl⟩
 ·rintro r ⟨x,rfl,rfl⟩;rfl
theorem Xxk{p:Zh}(hp:Hu p):Ym PG 233 ([p.av]++[]) (fun r=>r=.b (!Xz p)):=by
 refine(Xuj H.f233 (y0:=p) (K:=fun y=>y=!Xz p) ?_).to ?_
 ·unfold LS;refine⟨_,J0 H.toHasO hp,?_⟩;unfold Hd;cases hb:Xz p<;>rfl
 ·rintro r ⟨x,rfl,rfl⟩;rfl
end
end Go.AM

namespace Go.AM
open Go
theorem Xn2{l:List Zh}:decide (Hw l=0)=(decide (l.length<=410)&&l.all Xz):=by
 unfold Hw;by_cases h:410<l.length
 ·rw[kC h,kI (p:=l.length<=410)<|by omega];rfl
 ·rw[kA h,kJ (p:=l.length<=410)<|by omega];cases l.all Xz<;>rfl
theorem Ll{α:Type}(p:α->Bool)(l:List α):(!(l.any fun x=>!p x))=l.all p:=by rw[List.not_any_eq_all_not];simp
def Bi(m:Zd)(x:Zi):Bool:=decide (1<=x.frames.length/\x.frames.length<=170)&&decide (x.defers.length<=410)&&decide (Hw x.panics=0)&&x.frames.all (Jm m)&&x.defers.all (Jg m x.frames.length)
theorem uV{m:Zd}{x:Zi}(h:x.status=3):Kh m x=(decide (x.frames.length=0)&&decide (x.defers.length=0)&&decide (x.panics.length=0)&&decide (x.key=0)):=by unfold Kh;rw[kC h]
theorem LU{m:Zd}{x:Zi}(h:x.status=2\/(x.status=1/\x.key=0)):Kh m x=Bi m x:=by unfold Kh Bi;rw[kA<|by omega,kJ h];simp
theorem Fp{m:Zd}{x:Zi}(h3:x.status≠3)(h:¬(x.status=2\/(x.status=1/\x.key=0))):Kh m x=false:=by unfold Kh;rw[kA h3,kI h];rfl
theorem uW{m:Zd}{x:Zi}(h:¬(1<=x.frames.length/\x.frames.length<=170)):Bi m x=false:=by unfold Bi;rw[kI h];rfl
theorem XE{m:Zd}{x:Zi}(h:410<x.defers.length):Bi m x=false:=by unfold Bi;rw[kI (p:=x.defers.length<=410)<|by omega];simp
theorem XF{m:Zd}{x:Zi}(h:Hw x.panics≠0):Bi m x=false:=by unfold Bi;rw[kI h];simp
theorem Xhz{m:Zd}{x:Zi}(hf:1<=x.frames.length/\x.frames.length<=170)(hd:x.defers.length<=410)(hp:Hw x.panics=0):Bi m x=(x.frames.all (Jm m)&&x.defers.all (Jg m x.frames.length)):=by unfold Bi;rw[kJ hf,kJ hd,kJ hp];rfl
section
variable{PG:Zb}(H:HasT PG)
include H
theorem XG{m:Zd}{x:Zi}(hm:We m)(hx:Kz x):Ze PG 219 [m.av,x.av] (.b<|Kh m x):=by
 obtain ⟨y,rfl,h⟩:=Xs8 H.f219 (m0:=m) (x1:=x) (K:=fun y=>y=Kh m x) (by
  unfold LV LW;have eI:=hx.fl;have mm:=hx.dl;have ly:=hx.pl
  have t3:(x.status=2\/(x.status=1/\x.key=0))->pk PG (fun y=>y=Kh m x) m.types m.texts m.funcs x.status x.key x.frames x.defers x.panics (x.defers.length:Int) (x.panics.length:Int) (x.frames.length:Int):=fun hs=>by
   rw[LU hs];unfold pk;refine⟨fun h=>(uW<|by omega).symm,fun h1=>⟨fun h=>(uW<|by omega).symm,fun h2=>⟨fun h=>(XE<|by omega).symm,fun h3=>⟨fun h=>(XF ?_).symm,fun h4=>?_⟩⟩⟩⟩
   ·unfold Hw;rw[kC<|by omega];decide
   have e:Bi m x=(x.frames.all (Jm m)&&(x.defers.all (Jg m x.frames.length)&&x.panics.all Xz)):=by
    unfold Bi;rw[kJ<|by omega,kJ<|by omega,Xn2,kJ<|by omega];simp only[jZ];cases x.panics.all Xz<;>simp
   rw[e];unfold LX;refine⟨_,fun o=>Wa4 H (l:=x.frames) (f:=(228,[.fp m.row])) (p:=fun y=>!Jm m y) (by omega) (fun y hy=>Yvx H hm<|hx.f y hy) o,fun h=>?_,fun h=>?_⟩
   ·rw[Ll]at h;rw[h,jZ];refine⟨_,fun o=>Xr7 H (l:=x.defers) (f:=(230,[.fp m.row,.fp [.i .i64 (x.frames.length:Int)]])) (p:=fun y=>!Jg m x.frames.length y) (by omega) (fun y hy=>Xl2 H hm<|hx.d y hy) o,fun h=>?_,fun h=>?_⟩
    ·rw[Ll]at h;rw[h,jZ];refine⟨_,fun o=>Xfj H (l:=x.panics) (f:=(233,[])) (p:=fun y=>!Xz y) (by omega) (fun y hy=>Xxk H<|hx.p y hy) o,?_⟩;rw[Ll]
    ·rw[Ll]at h;rw[h];rfl
   ·rw[Ll]at h;rw[h];rfl
  refine⟨fun h3=>?_,fun h3=>⟨fun h1=>?_,fun h1=>⟨fun h2=>t3<|.inl h2,fun h2=>?_⟩⟩⟩
  ·rw[uV h3];rw[Yq (z:=(x.frames.length:Int)+(x.defers.length:Int)) (by omega)<|by omega,Yq (by omega)<|by omega];refine⟨fun k=>?_,fun k=>?_⟩
   ·rw[kJ (p:=x.frames.length=0)<|by omega,kJ (p:=x.defers.length=0)<|by omega,kJ (p:=x.panics.length=0)<|by omega];rfl
   ·by_cases k1:x.frames.length=0
    ·by_cases k2:x.defers.length=0
     ·rw[kI (p:=x.panics.length=0)<|by omega];simp
     ·rw[kI k2];simp
    ·rw[kI k1];simp
  ·unfold LY;refine⟨fun hk=>(Fp h3 ?_).symm,fun hk=>t3<|.inr ⟨h1,by omega⟩⟩;omega
  ·unfold LZ;exact (Fp h3<|by omega).symm)
 exact h
theorem Xsp{m:Zd}{x:Zi}(hm:We m)(hx:Kz x):Ze PG 221 [m.av,x.av] (.b<|Kh m x):=by
 obtain ⟨y,rfl,h⟩:=Xun H.f221 (m0:=m) (x1:=x) (K:=fun y=>y=Kh m x) (by
  unfold L0 L1;have eI:=hx.fl;have mm:=hx.dl;have ly:=hx.pl
  have t3:(x.status=2\/(x.status=1/\x.key=0))->pn PG (fun y=>y=Kh m x) m x:=fun hs=>by
   rw[LU hs];unfold pn;refine⟨fun h=>(uW<|by omega).symm,fun h1=>⟨fun h=>(uW<|by omega).symm,fun h2=>⟨fun h=>(XE<|by omega).symm,fun h3=>⟨_,Wcu H.toHasQ hx.p,fun h=>(XF h).symm,fun h4=>?_⟩⟩⟩⟩;rw[Xhz (by omega) (by omega)<|kP.1 h4];unfold L2;intro P hP;refine Ds (P:=fun i=>P i m x) x.frames.length (fun i=>∀y∈x.frames.take i,Jm m y=true) (by simp) (fun hI=>hP _ _ _ ?_) fun i hi hI next=>hP _ _ _ ?_
   ·rw[kQ]at hI;rw[jU.2 hI,jZ];unfold uX L3;refine⟨fun h=>absurd h<|by omega,fun _ P hP=>?_⟩;refine Ds (P:=fun i=>P i m x) x.defers.length (fun i=>∀y∈x.defers.take i,Jg m x.frames.length y=true) (by simp) (fun hI=>hP _ _ _ ?_) fun i hi hI next=>hP _ _ _ ?_
    ·rw[kQ]at hI;unfold uY L4;exact⟨fun h=>absurd h<|by omega,fun _=>(jU.2 hI).symm⟩
    ·unfold uY;refine⟨fun _=>⟨by omega,_,Xi hi,_,Xe1 H hm<|hx.d _<|kL hi,fun h=>?_,fun h=>?_⟩,fun h=>absurd (show(i:Int)<x.defers.length by omega) h⟩
     ·refine(List.all_eq_false.2 ⟨_,kL hi,?_⟩).symm;simpa using h
     ·rw[Yq (by omega)<|by omega];refine next fun y hy=>?_
      rw[kM hi]at hy;rcases kZ.1 hy with hy|hy
      ·exact hI y hy
      ·rw[jO.1 hy];simpa using h
   ·unfold uX;refine⟨fun _=>⟨by omega,_,Xi hi,_,c87 H.toHasF hm<|hx.f _<|kL hi,fun h=>?_,fun h=>?_⟩,fun h=>absurd (show(i:Int)<x.frames.length by omega) h⟩
    ·rw[List.all_eq_false.2 ⟨_,kL hi,?_⟩];rfl;intro hb;exact h (Et hb).symm
    ·rw[Yq (by omega)<|by omega];refine next fun y hy=>?_
     rw[kM hi]at hy;rcases kZ.1 hy with hy|hy
     ·exact hI y hy
     ·rw[jO.1 hy];by_cases hb:Jm m x.frames[i]=true
      ·exact hb
      ·exact absurd (Ch hb).symm (by rw[kP.1 h];decide)
  refine⟨fun h3=>?_,fun h3=>?_⟩
  ·rw[uV h3];refine⟨fun k1=>⟨fun k2=>⟨fun k3=>?_,fun k3=>?_⟩,fun k2=>?_⟩,fun k1=>?_⟩
   ·rw[kJ (p:=x.frames.length=0)<|by omega,kJ (p:=x.defers.length=0)<|by omega,kJ (p:=x.panics.length=0)<|by omega];rfl
   ·rw[kI (p:=x.panics.length=0)<|by omega];simp
   ·rw[kI (p:=x.defers.length=0)<|by omega];simp
   ·rw[kI (p:=x.frames.length=0)<|by omega];simp
  ·unfold L5;refine ⟨fun h2=>⟨fun h1=>(Fp h3<|by omega).symm,fun h1=>⟨fun hk=>(Fp h3<|by omega).symm,fun hk=>t3<|.inr<|by omega⟩⟩,fun h2=>t3<|.inl<|by omega⟩)
 exact h
theorem Xso{m:Zd}(hm:We m){x:Zi}(hx:Kz x):Ym PG 225 ([x.av]++[.fp m.row]) (fun r=>r=.b (!Kh m x)):=by
 refine(Xp1 H.f225 (x0:=x) (t1:=m) (K:=fun y=>y=!Kh m x) ?_).to ?_
 ·unfold L6;exact⟨_,XG H hm hx,rfl⟩
 ·rintro r ⟨x,rfl,rfl⟩;rfl
def Nj(m:Zd)(s:Zo):Int:=if Un m s=true then 0 else 8
theorem Xrw{m:Zd}{s:Zo}(hm:We m)(hs:Gx s):Ze PG 213 [m.av,s.av] (.i .i64<|Nj m s):=by
 obtain ⟨y,rfl,h⟩:=Xed H.f213 (m0:=m) (s1:=s) (K:=fun y=>y=Nj m s) (by
  unfold L7 Nj Un;refine⟨fun h=>?_,fun h1=>⟨fun h=>?_,fun h2=>⟨fun h=>?_,fun h3=>⟨fun h=>?_,fun h4=>⟨fun h=>?_,fun h5=>⟨fun h=>?_,fun h6=>⟨fun h=>?_,fun h7=>?_⟩⟩⟩⟩⟩⟩⟩
  ·rw[kI<|by omega];rfl
  ·rw[kI<|by omega];rfl
  ·rw[kI (p:=0<=s.steps/\_)<|by omega];simp
  ·rw[kI (p:=0<=s.steps/\_)<|by omega];simp
  ·rw[kI (p:=s.routines.length<=16)<|by omega];simp
  ·rw[kI (p:=-1<=s.failing/\_)<|by omega];simp
  ·rw[kI (p:=-1<=s.failing/\_)<|by omega];simp
  rw[kJ<|by omega,kJ<|by omega,kJ<|by omega,kJ<|by omega];simp only[jZ];refine⟨_,fun o=>Xsh H (l:=s.routines) (f:=(225,[.fp m.row])) (p:=fun y=>!Kh m y) hs.n (fun y hy=>Xso H hm<|hs.r y hy) o,fun h=>?_,fun h=>?_⟩
  ·have:=Ll (Kh m) s.routines;rw[h]at this;rw[<- this];rfl
  ·have:=Ll (Kh m) s.routines;rw[h]at this;rw [<- this];rfl)
 exact h
theorem Xky{m:Zd}{s:Zo}(hm:We m)(hs:Gx s):Ze PG 214 [m.av,s.av] (.i .i64<|Nj m s):=by
 obtain ⟨y,rfl,h⟩:=Xlu H.f214 (m0:=m) (s1:=s) (K:=fun y=>y=Nj m s) (by
  unfold L8 Nj Un;refine⟨fun h=>?_,fun h1=>⟨fun h=>?_,fun h2=>⟨fun h=>?_,fun h3=>⟨fun h=>?_,fun h4=>⟨fun h=>?_,fun h5=>⟨fun h=>?_,fun h6=>⟨fun h=>?_,fun h7=>?_⟩⟩⟩⟩⟩⟩⟩
  ·rw[kI<|by omega];rfl
  ·rw[kI<|by omega];rfl
  ·rw[kI (p:=0<=s.steps/\_)<|by omega];simp
  ·rw[kI (p:=0<=s.steps/\_)<|by omega];simp
  ·rw[kI (p:=s.routines.length<=16)<|by omega];simp
  ·rw[kI (p:=-1<=s.failing/\_)<|by omega];simp
  ·rw[kI (p:=-1<=s.failing/\_)<|by omega];simp
  rw[kJ<|by omega,kJ<|by omega,kJ<|by omega,kJ<|by omega];simp only[jZ];unfold L9;intro P hP;refine Ds (P:=fun i=>P i m s) s.routines.length (fun i=>∀y∈s.routines.take i,Kh m y=true) (by simp) (fun hI=>hP _ _ _ ?_) fun i hi hI next=>hP _ _ _ ?_
  ·rw[kQ]at hI;unfold uZ L_;exact⟨fun h=>absurd h<|by omega,fun _=>by rw[kC<|jU.2 hI]⟩
  ·unfold uZ;refine⟨fun _=>⟨by omega,_,Xi hi,_,Xsp H hm<|hs.r _<|kL hi,fun h=>?_,fun h=>?_⟩,fun h=>absurd (show(i:Int)<s.routines.length by omega) h⟩
   ·rw[List.all_eq_false.2 ⟨_,kL hi,by simpa using h⟩];rfl
   ·rw[Yq (by omega)<|by omega];refine next fun y hy=>?_
    rw[kM hi]at hy;rcases kZ.1 hy with hy|hy
    ·exact hI y hy
    ·rw [jO.1 hy];simpa using h)
 exact h
end
end Go.AM

namespace Go.AM
open Go
theorem XH{m:Zd}{n:Int}{f:Zz}(h:m.funcs[n.toNat]?=some f):Kr m n=f.name:=by unfold Kr;rw[h];rfl
theorem XI(a b:Zc):(a++b).length=a.length+b.length:=kF
theorem u6{m:Zd}{k:Int}{x:Zf}(hm:We m)(hx:Ul x)(hb:Jm m x=true):(∀s∈Ks m k x,s.length<=1301000)/\(Ks m k x).length<=17:=by
 obtain⟨f0,f1,f,hf,hF⟩:=Bk.1 hb;obtain⟨g1,g2,g3,g4,g5,g6⟩:=Ty.1 hF;obtain⟨q1,q2,q3,q4⟩:=hm.f f (jP hf);have l1:=Jv k;have l2:=Jv x.func;have l3:=Jv x.pos;have l4:=Hj f.name;have l5:=tc hx.m f1;rw[Bo hf];refine⟨fun s hs=>?_,?_⟩
 ·rcases jH.1 hs with rfl|hs
  ·unfold Uv;simp only[kF,kB,kD];omega
  ·obtain⟨l,hl,rfl⟩:=yS.1 hs;obtain⟨a1,a2,a3⟩:=Lx g6 _ hl;obtain⟨s,b1,b2,b3⟩:=Oe (f:=f) (n:=l.slot) (by omega) (by omega);have c1:=Jv l.slot;have c2:=Hj s.name;have c3:=q4 s b2;have c4:=Mp a3;unfold Gs;rw[b3];simp only[kF,kB,kD];omega
 ·rw[kB,jK];rcases tm g6 with h|h
  ·rw[h];decide
  ·omega
theorem u7{m:Zd}(hm:We m):∀(l:List Zf) (i:Nat),(∀x∈l,Ul x)->(∀x∈l,Jm m x=true)->(∀s∈Wm m i l,s.length<=1301000)/\(Wm m i l).length<=17*l.length
 |[],i,_,_=>⟨fun s hs=>(by cases hs),kU _⟩
 |x::r,i,hw,hb=>by
  obtain⟨h1,h2⟩:=u6 (k:=i) hm (hw x jI) (hb x jI);obtain⟨h3,h4⟩:=u7 hm r (i+1) (fun y hy=>hw y<|jJ _ hy) fun y hy=>hb y (jJ _ hy)
  rw[Wm];refine⟨fun s hs=>?_,?_⟩
  ·rcases kZ.1 hs with hs|hs
   ·exact h1 s hs
   ·exact h3 s hs
  ·rw[kF,kB];omega
theorem MA(m:Zd):∀(l:List Zf) (i:Nat) (x:Zf),Wm m i (l++[x])=Wm m i l++Ks m ((i+l.length:Nat):Int) x
 |[],i,x=>by simp[Wm]
 |y::r,i,x=>by
  rw[kY,Wm,MA m r (i+1) x,Wm,jD,kB,show i+1+r.length=i+(r.length+1)by omega]
theorem po{m:Zd}{Vm:Int}{d:Zq}(h:Jg m Vm d=true):0<=d.frame/\d.frame<Vm/\0<=d.func/\(∃f,m.funcs[d.func.toNat]?=some f/\f.name.length<=16/\Kr m d.func=f.name)/\(d.hasArg=true->Vl d.arg=true/\(d.arg.kind=1\/d.arg.kind=2\/d.arg.kind=4))/\(d.hasArg=false->d.arg=vz):=by
 unfold Jg Tp at h
 cases hf:m.funcs[d.func.toNat]? with
 |none=>rw[hf]at h;simp at h
 |some f=>
  rw[hf]at h;simp only[kR,jA]at h;obtain⟨⟨⟨⟨h1,h2⟩,h3⟩,h4⟩,h5⟩:=h;refine⟨h1,h2,h3,⟨f,rfl,h4,XH hf⟩,fun ha=>?_,fun ha=>?_⟩
  ·rw[ha,kC rfl,kR,jA]at h5;exact⟨h5.2,h5.1⟩
  ·rw[ha]at h5;exact Cz.1 (by simpa using h5)
theorem Yxo{m:Zd}{Vm:Int}{d:Zq}(h:Jg m Vm d=true):(Wt m d).length<=1301000:=by
 obtain⟨h1,h2,h3,⟨f,hf,h4,h5⟩,h6,_⟩:=po h;have l1:=Jv d.frame;have l2:=Jv d.func;have l3:=Hj f.name;unfold Wt;rw[h5];simp only[kF,kB,kD];cases ha:d.hasArg
 ·simp only[jL,jT,kD];omega
 ·have:=Mp (h6 ha).1;simp only[jS,kF,kB,kD];omega
structure Gb(m:Zd)(x:Zi):Prop where
 f:x.frames.length<=170
 d:x.defers.length<=410
 p:x.panics.length<=410
 fb :∀y∈x.frames,Jm m y=true
 db :∀y∈x.defers,Jg m x.frames.length y=true
 pb :∀y∈x.panics,Xz y=true
 st:x.status=1\/x.status=2\/x.status=3
theorem Gb.of{m:Zd}{x:Zi}(h:Kh m x=true):Gb m x:=by
 by_cases h3:x.status=3
 ·rw[uV h3]at h;simp only[kR,jA,yM]at h;obtain⟨⟨⟨k1,k2⟩,k3⟩,k4⟩:=h;exact⟨by rw[k1];decide,by rw[k2];decide,by rw[k3];decide,by rw[k1];simp,by rw[k2];simp,by rw[k3];simp,.inr<|.inr h3⟩
 ·by_cases h2:x.status=2\/(x.status=1/\x.key=0)
  ·rw[LU h2]at h;unfold Bi at h;simp only[kR,jA,jU]at h;obtain⟨⟨⟨⟨k1,k2⟩,k3⟩,k4⟩,k5⟩:=h;exact⟨k1.2,k2,(W9 k3).1,k4,k5,(W9 k3).2,by omega⟩
  ·rw[Fp h3 h2]at h;cases h
theorem u_{m:Zd}{x:Zi}(hm:We m)(hx:Kz x)(h:Gb m x):(∀s∈Gn m x,s.length<=1301000)/\(Gn m x).length<=4000:=by
 obtain⟨h1,h2⟩:=u7 hm x.frames 0 hx.f h.fb;have a:=h.f;have b:=h.d;have c:=h.p;refine⟨fun s hs=>?_,?_⟩
 ·unfold Gn at hs;rcases kZ.1 hs with hs|hs
  ·rcases kZ.1 hs with hs|hs
   ·exact h1 s hs
   ·obtain⟨d,hd,rfl⟩:=yS.1 hs;exact Yxo (h.db d hd)
  ·obtain⟨p,hp,rfl⟩:=yS.1 hs;have:=ov (h.pb p hp);exact kX this (by decide)
 ·unfold Gn;simp only[kF,jK];omega
theorem XJ(x:Zi):(Ud x).length<=80:=by
 have:=Jv x.key;unfold Ud;split
 ·decide
 ·split
  ·decide
  ·simp only[kF,kB,kD];omega
theorem Xwp(g:Int)(x:Zi):(Ke g x).length<=200:=by have:=Jv g;have:=XJ x;unfold Ke;simp only[kF,kB,kD];omega
theorem MC{m:Zd}{g:Int}{x:Zi}(hm:We m)(hx:Kz x)(h:Gb m x):(∀s∈Jp m g x,s.length<=1301002)/\(Jp m g x).length<=4001:=by
 obtain⟨h1,h2⟩:=u_ hm hx h;unfold Jp;refine⟨fun s hs=>?_,?_⟩
 ·rcases jH.1 hs with rfl|hs
  ·exact kX (Xwp g x) (by decide)
  ·obtain⟨t,ht,rfl⟩:=yS.1 hs;have:=h1 t ht;unfold Xa;simp only[kF,kB,kD];omega
 ·rw[kB,jK];omega
theorem XK{B:Nat}:∀{l:List Zc},(∀s∈l,s.length<=B)->(Ui l).length<=(B+1)*l.length
 |[],_=>kU _
 |s::r,h=>by
  have h1:=h s jI;have h2:=XK fun t ht=>h t (jJ _ ht)
  unfold Ui at h2⊢;simp only[List.flatMap_cons,kF,kB,kD];rw[Nat.mul_succ];omega
theorem Xbc(a b:List Zc):Ui (a++b)=Ui a++Ui b:=by unfold Ui;rw[List.flatMap_append]
theorem XL{l:List Zc}{i:Nat}(h:i<l.length):Ui (l.take<|i+1)=Ui (l.take i)++(l[i]++[10]):=by rw[kM h,Xbc];simp[Ui]
theorem XM{m:Zd}{g:Int}{x:Zi}(hm:We m)(hx:Kz x)(h:Gb m x)(i:Nat):(Ui<|(Jp m g x).take i).length<=5300000000:=by
 obtain⟨h1,h2⟩:=MC (g:=g) hm hx h;have h3:=XK (l:=(Jp m g x).take i) (B:=1301002) fun s hs=>h1 s (zW hs)
 have h4:((Jp m g x).take i).length<=4001:=by rw[kW];omega
 have h5:1301003*((Jp m g x).take i).length<=1301003*4001:=Nat.mul_le_mul_left _ h4;exact kX h3 (kX h5<|by decide)
theorem XN(m:Zd):∀(l:List Zi) (i:Nat) (x:Zi),Ko m i (l++[x])=Ko m i l++Ui (Jp m ((i+l.length:Nat):Int) x)
 |[],i,x=>by simp[Ko]
 |y::r,i,x=>by
  rw[kY,Ko,XN m r (i+1) x,Ko,jD,kB,show i+1+r.length=i+(r.length+1)by omega]
theorem XO{m:Zd}(hm:We m):∀(l:List Zi) (i:Nat),(∀x∈l,Kz x)->(∀x∈l,Gb m x)->(Ko m i l).length<=5300000000*l.length
 |[],i,_,_=>kU _
 |x::r,i,hw,hb=>by
  have h1:=XM (g:=i) hm (hw x jI) (hb x jI) (Jp m i x).length;rw[kQ]at h1;have h2:=XO hm r (i+1) (fun y hy=>hw y<|jJ _ hy) fun y hy=>hb y (jJ _ hy)
  rw[Ko,kF,kB];omega
theorem XP{m:Zd}{g:Int}{x:Zi}(h:¬(g<0\/16<=g))(h1:Kh m x=true):Nv m g x=(Jp m g x,0):=by unfold Nv;rw[kA h,kC h1]
theorem Xgl{m:Zd}{g:Int}{x:Zi}(h:¬(g<0\/16<=g))(h1:Kh m x=false):Nv m g x=([],8):=by unfold Nv;rw[kA h,kA (by rw[h1];decide)]
theorem XQ{m:Zd}{g:Int}{x:Zi}(h:g<0\/16<=g):Nv m g x=([],2):=by unfold Nv;rw[kC h]
section
variable{PG:Zb}(H:HasT PG)
include H
theorem Yyh{b:BS}(hs:b.length<=Qt):Xc PG 217 (Bl b) [] (fun r=>r=.i .i64 (b.length:Int)) (Bl b):=by
 refine Xc.of H.f217 rfl Bl.out fun d st k v hk hB=>?_
 obtain⟨c0,o,hb,nk,ml,bO⟩:=hB;refine W.seq (W.reg0 rfl fun nx _=>Jb rfl<|Hs<|W.seq<|W.reg0 rfl fun iJ _=>?_);refine Jb (v:=.p k v 0) rfl (Vc rfl<|Rg rfl<|Pw (w:=.sl o (b.map Yx)) rfl hb rfl rfl<|MD (f:=Yx) rfl<|Jb rfl<|Hs<|W.ret ?_);refine⟨.inr rfl,_,rfl,rfl,⟨c0,o,hb,nk,ml,bO⟩,Fr.refl⟩
theorem Xar{m:Zd}{Vm:Int}{d:Zq}(hm:We m)(hd:Wf d.arg)(hn:Vm<=1000)(h:Jg m Vm d=true):Ze PG 234 [m.av,d.av] (.tup [.s<|Wt m d,.i .i64 0]):=by
 obtain ⟨x,y,⟨rfl,rfl⟩,h⟩:=Wbr H.f234 (m0:=m) (d1:=d) (K:=fun x y=>x=Wt m d/\y=0) (by
  obtain⟨h1,h2,h3,⟨f,hf,h4,h5⟩,h6,_⟩:=po h
  have eI:d.func<m.funcs.length:=by
   have:=(jQ.1 hf).1;omega
  have pq:=hm.n;have l1:=Jv d.frame;have l2:=Jv d.func;have l3:=Hj f.name;have hq:=c11 H.toHas03 f.name;rw[EY<|by omega]at hq;unfold ME;refine⟨h3,f,hf,_,_,hq,fun h=>absurd rfl h,fun _=>⟨_,Is H (by omega)<|by omega,?_,?_,_,Is H (by omega)<|by omega,?_,?_,?_,fun ha=>?_,fun ha=>?_⟩⟩
  all_goals try (rw[Wj];simp only[kF,kB,kD];omega)
  ·have dV:=(h6 ha).1;have l4:=Mp dV;have k:=c72 H.toHas38 hd;rw[kC dV,Hb.2 dV]at k;refine⟨_,_,k,fun h=>absurd rfl h,fun _=>⟨?_,?_,?_⟩⟩
   ·rw[Wj];simp only[kB,kD];omega
   ·rw[Wj];simp only[kF,kB,kD];omega
   ·unfold pr Wt;rw[h5,ha];exact⟨rfl,rfl⟩
  ·unfold pr Wt;rw[h5,ha];exact ⟨by simp,rfl⟩)
 exact h
theorem Yz9{m:Zd}{x:Zi}(hm:We m)(hx:Kz x)(h:Gb m x):Ze PG 220 [m.av,x.av] (.tup [.sl .ext<|(Gn m x).map Zv,.i .i64 0]):=by
 obtain ⟨y,z,⟨rfl,rfl⟩,h⟩:=Waz H.f220 (m0:=m) (x1:=x) (K:=fun y z=>y=Gn m x/\z=0) (by
  obtain⟨_,hl⟩:=u_ hm hx h;have a:=h.f;have b:=h.d;have c:=h.p
  have b1 :∀i,i<=x.frames.length->(Wm m 0<|x.frames.take i).length<=17*170:=fun i hi=>by
   have h1:=(u7 hm (x.frames.take i) 0 (fun y hy=>hx.f y<|zW hy) fun y hy=>h.fb y<|zW hy).2;rw[kW]at h1;omega
  have b0:(Wm m 0 x.frames).length<=17*170:=by have:=b1 x.frames.length (kU _);rwa [kQ]at this
  unfold MF MG MH;intro P hP;refine Uz (P:=fun o i=>P o i m x) (fun i=>Wm m 0<|x.frames.take i) x.frames.length (hP _ _ _ _ ?_) fun i hi ih=>hP _ _ _ _ ?_
  ·rw[kQ];unfold va MI;refine⟨fun h=>absurd h<|by omega,fun _ P hP=>?_⟩;have ho:Wm m 0 x.frames=Wm m 0 x.frames++(x.defers.take 0).map (Wt m):=by simp
   rw[ho];refine Uz (P:=fun o i=>P o i m x) (fun i=>Wm m 0 x.frames++(x.defers.take i).map (Wt m)) x.defers.length (hP _ _ _ _ ?_) fun i hi ih=>hP _ _ _ _ ?_
   ·rw[kQ];unfold vb MJ;refine⟨fun h=>absurd h<|by omega,fun _ P hP=>?_⟩;have ho:Wm m 0 x.frames++x.defers.map (Wt m)=Wm m 0 x.frames++x.defers.map (Wt m)++(x.panics.take 0).map Vf:=by simp
    rw[ho];refine Uz (P:=fun o i=>P o i) (fun i=>Wm m 0 x.frames++x.defers.map (Wt m)++(x.panics.take i).map Vf) x.panics.length (hP _ _ ?_) fun i hi ih=>hP _ _ ?_
    ·rw[kQ];unfold vd MK;exact⟨fun h=>absurd h<|by omega,fun _=>⟨rfl,rfl⟩⟩
    ·have aV:=h.pb _ (kL hi);have k:=Xei H.toHasO (hx.p _<|kL hi);rw[show Te x.panics[i]=(Vf x.panics[i],0)by unfold Te;rw[kC aV]]at k;unfold vd;refine⟨fun _=>⟨by omega,_,Xi hi,_,_,k,fun h=>absurd rfl h,fun _=>⟨⟨?_,?_⟩,?_⟩⟩,fun h=>absurd (show(i:Int)<x.panics.length by omega) h⟩
     ·rw[Xk];simp only[kF,kB,kD,jK,kW];omega
     ·rw[Xk];simp only[kF,kB,kD,jK,kW];omega
     ·rw[Yq (by omega)<|by omega];rw[Cc Vf hi,<- jD]at ih;exact ih
   ·have aV:=h.db _ (kL hi);have k:=Xar H hm (hx.d _<|kL hi) (by omega) aV;unfold vb;refine⟨fun _=>⟨by omega,_,Xi hi,_,_,k,fun h=>absurd rfl h,fun _=>⟨⟨?_,?_⟩,?_⟩⟩,fun h=>absurd (show(i:Int)<x.defers.length by omega) h⟩
    ·rw[Xk];simp only[kF,kB,kD,jK,kW];omega
    ·rw[Xk];simp only[kF,kB,kD,jK,kW];omega
    ·rw[Yq (by omega)<|by omega];rw[Cc (Wt m) hi,<- jD]at ih;exact ih
  ·have hb:=h.fb _ (kL hi);have hw:=hx.f _ (kL hi);have k:=c82 H.toHasF (k:=(i:Int)) hm hw;rw[HK (by omega) hb]at k;have q1:=b1 i (by omega);have q2:=(u6 (k:=(i:Int)) hm hw hb).2;unfold va;refine⟨fun _=>⟨by omega,_,Xi hi,_,_,k,fun h=>absurd rfl h,fun _=>⟨⟨?_,?_⟩,?_⟩⟩,fun h=>absurd (show(i:Int)<x.frames.length by omega) h⟩
   ·dsimp only;rw[Xk];omega
   ·dsimp only;rw[Xk];omega
   ·rw[Yq (by omega)<|by omega];rw[kM hi,MA,kW,show 0+min i x.frames.length=i by omega]at ih;exact ih)
 exact h
theorem Xqq{m:Zd}{g:Int}{x:Zi}(hm:We m)(hx:Kz x):Ze PG 207 [m.av,.i .i64 g,x.av] (.tup [.sl .ext<|(Nv m g x).1.map Zv,.i .i64 (Nv m g x).2]):=by
 obtain ⟨y,z,⟨rfl,rfl⟩,h⟩:=Xb4 H.f207 (m0:=m) (g1:=g) (x2:=x) (K:=fun y z=>y=(Nv m g x).1/\z=(Nv m g x).2) (by
  unfold ML;refine⟨fun h=>by rw[XQ<|.inl h];exact⟨rfl,rfl⟩,fun h0=>⟨fun h=>by rw[XQ<|.inr h];exact⟨rfl,rfl⟩,fun h1=>?_⟩⟩;unfold MM;refine⟨_,XG H hm hx,fun h=>?_,fun h=>?_⟩
  ·rw[Xgl (by omega)<|by simpa using h];exact⟨rfl,rfl⟩
  have hg:Kh m x=true:=by simpa using h
  rw[XP (by omega) hg];have h2:=Gb.of hg;obtain⟨p1,p2⟩:=u_ hm hx h2;have l1:=Jv g;have l2:=Jv x.key;have l3:=XJ x
  have e3 :∃c,([[],([114,101,97,100,121]:Zc),(([98,108,111,99,107,101,100,32]:Zc)++Yn x.key),([100,111,110,101]:Zc)]:List Zc)[x.status.toNat]?=some c/\c=Ud x:=by
   unfold Ud;rcases h2.st with h|h|h<;>rw[h]<;>exact⟨_,rfl,rfl⟩
  obtain⟨c,e3,rfl⟩:=e3;refine⟨_,_,Yz9 H hm hx h2,fun h=>absurd rfl h,fun _=>⟨_,Is H (by omega)<|by omega,?_,?_,_,c15 H.toHas03 hx.k.1 hx.k.2,?_,hx.st,_,e3,?_,fun P hP=>?_⟩⟩
  all_goals try (rw[Wj];simp only[kF,kB,kD];omega)
  refine Uz (P:=fun o i=>P o i) (fun i=>Ke g x::((Gn m x).take i).map Xa) (Gn m x).length (hP _ _ ?_) fun i hi ih=>hP _ _ ?_
  ·rw[kQ];unfold ve MN;exact⟨fun h=>absurd h<|by omega,fun _=>⟨rfl,rfl⟩⟩
  ·have:=p1 _ (kL hi);unfold ve;refine⟨fun _=>⟨by omega,_,Xi hi,?_,⟨?_,?_⟩,?_⟩,fun h=>absurd (show(i:Int)<(Gn m x).length by omega) h⟩
   ·rw[Wj];simp only[kB,kD];omega
   ·rw[Xk];simp only[kF,kB,kD,jK,kW];omega
   ·rw[Xk];simp only[kF,kB,kD,jK,kW];omega
   ·rw[Yq (by omega)<|by omega];rw[Cc Xa hi]at ih;exact ih)
 exact h
end
end Go.AM

namespace Go.AM
open Go
theorem Xyj(m:Zd)(d:Zq):Xa (Wt m d)=[32,32,100,101,102,101,114,32]++Yn d.frame++[32]++Yn d.func++[32]++quo (Kr m d.func)++(if d.hasArg=true then [32,119,105,116,104,32]++Ys d.arg else []):=rfl
theorem Lp{m:Zd}{s:Zo}(h:Un m s=true):(1<=s.outcome/\s.outcome<=8)/\(0<=s.steps/\s.steps<=5000)/\s.routines.length<=16/\(-1<=s.failing/\s.failing<s.routines.length)/\∀x∈s.routines,Kh m x=true:=by unfold Un at h;simp only[kR,jA,jU]at h;obtain⟨⟨⟨⟨h1,h2⟩,h3⟩,h4⟩,h5⟩:=h;exact⟨h1,h2,h3,h4,h5⟩
theorem War{s:Zo}(h:1<=s.outcome/\s.outcome<=8):(Ut s).length<=200:=by obtain⟨w,hw,e,hl⟩:=KX h.1 h.2;have l1:=Jv s.failing;have l2:=Jv s.steps;unfold Ut;rw[e];simp only[kF,kB,kD];omega
theorem XR{m:Zd}{s:Zo}(hm:We m)(hs:Gx s)(h:Un m s=true)(i:Nat):(Ut s++Ko m 0 (s.routines.take i)).length<=84800000200:=by
 obtain⟨h1,h2,h3,h4,h5⟩:=Lp h;have a:=War h1;have b:=XO hm (s.routines.take i) 0 (fun x hx=>hs.r x<|zW hx) fun x hx=>Gb.of (h5 x<|zW hx)
 have c:(s.routines.take i).length<=16:=by rw[kW];omega
 rw[kF];omega
theorem XS{m:Zd}{s:Zo}(hm:We m)(hs:Gx s)(h:Un m s=true){i:Nat}(hi:i<s.routines.length)(j:Nat):(Ut s++Ko m 0 (s.routines.take i)++Ui ((Jp m i s.routines[i]).take j)).length<=90100000200:=by obtain⟨h1,h2,h3,h4,h5⟩:=Lp h;have a:=XR hm hs h i;have b:=XM (g:=(i:Int)) hm (hs.r _<|kL hi) (Gb.of<|h5 _<|kL hi) j;rw[kF];omega
theorem XT{m:Zd}{l:List Zi}{i:Nat}(hi:i<l.length):Ko m 0 (l.take<|i+1)=Ko m 0 (l.take i)++Ui (Jp m i l[i]):=by rw[kM hi,XN,kW,show 0+min i l.length=i by omega]
section
variable{PG:Zb}(H:HasT PG)
include H
theorem Xcc{m:Zd}{g:Int}{x:Zi}(hm:We m)(hx:Kz x)(hg:0<=g/\g<16)(h:Gb m x):Ze PG 222 [m.av,.i .i64 g,x.av] (.sl .ext<|(Jp m g x).map Zv):=by
 obtain ⟨y,rfl,h⟩:=Xth H.f222 (m0:=m) (g1:=g) (x2:=x) (K:=fun y=>y=Jp m g x) (by
  obtain⟨p1,p2⟩:=u_ hm hx h;have l1:=Jv g;have l2:=Jv x.key;have a:=h.f;have b:=h.d;have c:=h.p
  have b1 :∀i,i<=x.frames.length->(Wm m 0<|x.frames.take i).length<=17*170:=fun i hi=>by
   have h1:=(u7 hm (x.frames.take i) 0 (fun y hy=>hx.f y<|zW hy) fun y hy=>h.fb y<|zW hy).2;rw[kW]at h1;omega
  have b0:(Wm m 0 x.frames).length<=17*170:=by have:=b1 x.frames.length (kU _);rwa [kQ]at this
  have t3:Ew PG (fun y=>y=Jp m g x) (Ke g x) m x:=by
   unfold Ew MP;intro P hP;refine Uz (P:=fun o i=>P o i m x) (fun i=>Ke g x::(Wm m 0<|x.frames.take i).map Xa) x.frames.length (hP _ _ _ _ ?_) fun i hi ih=>hP _ _ _ _ ?_
   ·rw[kQ];unfold vf MQ;refine⟨fun h=>absurd h<|by omega,fun _ P hP=>?_⟩;have ho:Ke g x::(Wm m 0 x.frames).map Xa=Ke g x::(Wm m 0 x.frames++(x.defers.take 0).map (Wt m)).map Xa:=by simp
    rw[ho];refine Uz (P:=fun o i=>P o i m x) (fun i=>Ke g x::(Wm m 0 x.frames++(x.defers.take i).map (Wt m)).map Xa) x.defers.length (hP _ _ _ _ ?_) fun i hi ih=>hP _ _ _ _ ?_
    ·rw[kQ];unfold vg MR;refine⟨fun h=>absurd h<|by omega,fun _ P hP=>?_⟩;have ho:Ke g x::(Wm m 0 x.frames++x.defers.map (Wt m)).map Xa=Ke g x::(Wm m 0 x.frames++x.defers.map (Wt m)++(x.panics.take 0).map Vf).map Xa:=by simp
     rw[ho];refine Uz (P:=fun o i=>P o i x) (fun i=>Ke g x::(Wm m 0 x.frames++x.defers.map (Wt m)++(x.panics.take i).map Vf).map Xa) x.panics.length (hP _ _ _ ?_) fun i hi ih=>hP _ _ _ ?_
     ·rw[kQ];unfold vh MS;exact⟨fun h=>absurd h<|by omega,fun _=>rfl⟩
     ·have aV:=h.pb _ (kL hi);have dB:=ov aV;unfold vh;refine⟨fun _=>⟨by omega,_,Xi hi,_,WX H.toHasO (hx.p _<|kL hi) aV,?_,⟨?_,?_⟩,?_⟩,fun h=>absurd (show(i:Int)<x.panics.length by omega) h⟩
      ·rw[Wj];simp only[kB,kD];omega
      ·rw[Xk];simp only[kF,kB,kD,jK,kW];omega
      ·rw[Xk];simp only[kF,kB,kD,jK,kW];omega
      ·rw[Yq (by omega)<|by omega];rw[Cc Vf hi,<- jD,yA]at ih;exact ih
    ·have aV:=h.db _ (kL hi);obtain⟨h1,h2,h3,⟨f,hf,h4,h5⟩,h6,_⟩:=po aV
     have eI:x.defers[i].func<m.funcs.length:=by
      have:=(jQ.1 hf).1;omega
     have pq:=hm.n;have l1:=Jv x.defers[i].frame;have l2:=Jv x.defers[i].func;have l3:=Hj f.name;rw[Cc (Wt m) hi,<- jD,yA,jB,Xyj]at ih;rw[h5]at ih;unfold vg;refine⟨fun _=>⟨by omega,_,Xi hi,_,pf H (by omega)<|by omega,?_,?_,_,pf H (by omega)<|by omega,?_,?_,h3,f,hf,_,Ai H.toHas03<|by omega,?_,fun ha=>?_,fun ha=>?_⟩,fun h=>absurd (show(i:Int)<x.defers.length by omega) h⟩
     all_goals try (rw[Wj];simp only[kF,kB,kD];omega)
     ·have dV:=(h6 ha).1;have l4:=Mp dV;refine⟨_,Il H.toHas38 130 (Dz dV).1 (hx.d _<|kL hi)<|by omega,?_,?_,?_⟩
      ·rw[Wj];simp only[kB,kD];omega
      ·rw[Wj];simp only[kF,kB,kD];omega
      ·rw[ha,kC rfl]at ih;unfold pt;refine⟨⟨?_,?_⟩,?_⟩
       ·rw[Xk];simp only[kF,kB,kD,jK,kW];omega
       ·rw[Xk];simp only[kF,kB,kD,jK,kW];omega
       ·rw[Yq (by omega)<|by omega];exact ih
     ·rw[ha,kA<|by decide,zA]at ih;unfold pt;refine⟨⟨?_,?_⟩,?_⟩
      ·rw[Xk];simp only[kF,kB,kD,jK,kW];omega
      ·rw[Xk];simp only[kF,kB,kD,jK,kW];omega
      ·rw[Yq (by omega)<|by omega];exact ih
   ·have hb:=h.fb _ (kL hi);have hw:=hx.f _ (kL hi);have q1:=b1 i (by omega);obtain⟨q3,q2⟩:=u6 (k:=(i:Int)) hm hw hb;rw[kM hi,MA,kW,show 0+min i x.frames.length=i by omega,yA,<- kY]at ih;unfold vf;refine⟨fun _=>⟨by omega,_,Xi hi,_,V4 H.toHasF hm hw (by omega) hb,fun P1 cY=>?_⟩,fun h=>absurd (show(i:Int)<x.frames.length by omega) h⟩;have ho:Ke g x::(Wm m 0<|x.frames.take i).map Xa=Ke g x::(Wm m 0<|x.frames.take i).map Xa++((Ks m i x.frames[i]).take 0).map Xa:=by simp
    rw[ho];refine Uz (P:=fun o j=>P1 o j m x) (fun j=>Ke g x::(Wm m 0<|x.frames.take i).map Xa++((Ks m i x.frames[i]).take j).map Xa) (Ks m i x.frames[i]).length (cY _ _ _ _ ?_) fun j hj j8=>cY _ _ _ _ ?_
    ·rw[kQ];unfold vj MT;refine⟨fun h=>absurd h<|by omega,fun _=>?_⟩;rw[Yq (by omega)<|by omega];exact ih
    ·have:=q3 _ (kL hj);unfold vj;refine⟨fun _=>⟨by omega,_,Xi hj,?_,⟨?_,?_⟩,?_⟩,fun h=>absurd (show(j:Int)<(Ks m i x.frames[i]).length by omega) h⟩
     ·rw[Wj];simp only[kB,kD];omega
     ·rw[Xk];simp only[kF,kB,kD,jK,kW];omega
     ·rw[Xk];simp only[kF,kB,kD,jK,kW];omega
     ·rw[Yq (by omega)<|by omega];rw[Cc Xa hj,<- jD]at j8;exact j8
  unfold MU MV;refine⟨_,pf H (by omega)<|by omega,?_,?_,?_⟩
  ·rw[Wj];simp only[kB,kD];omega
  ·rw[Wj];simp only[kF,kB,kD];omega
  unfold Ke Ud at t3;unfold MW;refine⟨fun h1=>⟨?_,?_⟩,fun h1=>⟨fun h3=>⟨?_,?_⟩,fun h3=>⟨_,c16 H.toHas03 hx.k.1 hx.k.2,?_,?_,?_⟩⟩⟩
  all_goals try (rw[Wj];simp only[kF,kB,kD];omega)
  ·rw[kC h1]at t3;exact t3
  ·rw[kA h1,kC h3]at t3;exact t3
  ·rw [kA h1,kA h3] at t3;exact t3)
 exact h
theorem Xuo{m:Zd}{s:Zo}(hm:We m)(hs:Gx s):Ze PG 205 [m.av,s.av] (.tup [.s (Mg m s).1,.i .i64 (Mg m s).2]):=by
 obtain ⟨x,y,⟨rfl,rfl⟩,h⟩:=Xt5 H.f205 (m0:=m) (s1:=s) (K:=fun x y=>x=(Mg m s).1/\y=(Mg m s).2) (by
  unfold MX MY;refine⟨_,Xrw H hm hs,fun h=>?_,fun h=>?_⟩
  ·unfold Nj Mg at *;by_cases hf:Un m s=true
   ·rw[kC hf]at h;exact absurd rfl h
   ·rw[kA hf,kA hf];exact⟨rfl,rfl⟩
  have hf:Un m s=true:=by
   unfold Nj at h;by_cases hf:Un m s=true
   ·exact hf
   ·rw[kA hf]at h;exact absurd (by decide) h
  obtain⟨h1,h2,h3,h4,h5⟩:=Lp hf;obtain⟨w,hw,e,hl⟩:=KX h1.1 h1.2;have l1:=Jv s.failing;have l2:=Jv s.steps;unfold MZ M0;refine⟨_,XC H,rfl,by omega,w,hw,?_,?_,_,Is H (by omega)<|by omega,?_,?_,_,Is H (by omega)<|by omega,?_,?_,_,_,Rc H.toHasB ?_<|by simp,fun P hP=>?_⟩
  all_goals try (rw[Wj];simp only[kF,kB,kD];omega)
  ·rw[Xk];simp only[kF,kB,kD];omega
  have e0:([]:Zc)++([111,117,116,99,111,109,101,32]++w++[44,32,102,97,105,108,105,110,103,32]++Yn s.failing++[44,32,115,116,101,112,115,32]++Yn s.steps++[10])=Ut s++Ko m 0 (s.routines.take 0):=by
   unfold Ut;rw[e];simp[Ko]
  rw[e0];refine Uz (P:=fun b i=>P i m b) (fun i=>Ut s++Ko m 0 (s.routines.take i)) s.routines.length (hP _ _ _ ?_) fun i hi ih=>hP _ _ _ ?_
  ·have hb:=XR hm hs hf s.routines.length;rw[kQ]at hb⊢;have er:Ut s++Ko m 0 s.routines=Hq m s:=rfl;rw[er]at hb⊢;unfold vk M1 Mg;rw[kC hf];refine⟨fun h=>absurd h<|by omega,fun _=>⟨_,_,Yyh H (by rw[Xk];omega),fun h=>?_,fun h=>⟨_,UN H.toHasB (by rw[Xk];omega),?_⟩⟩⟩
   ·rw[kC<|by omega];exact⟨rfl,rfl⟩
   ·rw[kA<|by omega];exact⟨rfl,rfl⟩
  ·have hw:=hs.r _ (kL hi);have hg:=h5 _ (kL hi);have k:=Xqq H (g:=(i:Int)) hm hw;rw[XP (by omega) hg]at k;unfold vk;refine⟨fun _=>⟨by omega,_,Xi hi,_,_,k,fun h=>absurd rfl h,fun _ P1 cY=>?_⟩,fun h=>absurd (show(i:Int)<s.routines.length by omega) h⟩;have ho:Ut s++Ko m 0 (s.routines.take i)=Ut s++Ko m 0 (s.routines.take i)++Ui ((Jp m i s.routines[i]).take 0):=by simp[Ui]
   rw[ho];obtain⟨q1,q2⟩:=MC (g:=(i:Int)) hm hw (Gb.of hg);refine Uz (P:=fun b j=>P1 j m b) (fun j=>Ut s++Ko m 0 (s.routines.take i)++Ui ((Jp m i s.routines[i]).take j)) (Jp m i s.routines[i]).length (cY _ _ _ ?_) fun j hj j8=>cY _ _ _ ?_
   ·rw[kQ];unfold vm M2;refine⟨fun h=>absurd h (by dsimp only;omega),fun _=>?_⟩;rw[Yq (by omega)<|by omega];rw[XT hi,<- jD]at ih;exact ih
   ·have r1:=q1 _ (kL hj);have r2:=XS hm hs hf hi j;unfold vm;refine⟨fun _=>⟨by omega,_,Xi hj,?_,_,_,Rc H.toHasB ?_<|by simp,?_⟩,fun h=>absurd (show(j:Int)<(Jp m i s.routines[i]).length by omega) h⟩
    ·rw[Wj];simp only[kB,kD];omega
    ·rw[Xk,XI _ [10]];simp only[kB,kD];omega
    ·rw[Yq (by omega)<|by omega];rw[XL hj,<- jD]at j8;exact j8)
 exact h
theorem Xhe{m:Zd}{s:Zo}(hm:We m)(hs:Gx s)(hf:Un m s=true):Ze PG 218 [m.av,s.av] (.s<|Hq m s):=by
 obtain ⟨x,rfl,h⟩:=Xgf H.f218 (m0:=m) (s1:=s) (K:=fun x=>x=Hq m s) (by
  obtain⟨h1,h2,h3,h4,h5⟩:=Lp hf;obtain⟨w,hw,e,hl⟩:=KX h1.1 h1.2;have l1:=Jv s.failing;have l2:=Jv s.steps;unfold M3;refine⟨_,XD H,by omega,w,hw,?_,?_,_,pf H (by omega)<|by omega,?_,?_,_,pf H (by omega)<|by omega,?_,?_,fun P hP=>?_⟩
  all_goals try (rw[Wj];simp only[kF,kB,kD];omega)
  have e0:([111,117,116,99,111,109,101,32]++w++[44,32,102,97,105,108,105,110,103,32]++Yn s.failing++[44,32,115,116,101,112,115,32]++Yn s.steps++[10]:Zc)=Ut s++Ko m 0 (s.routines.take 0):=by
   unfold Ut;rw[e];simp[Ko]
  rw[e0];refine Uz (P:=fun b i=>P b i m s) (fun i=>Ut s++Ko m 0 (s.routines.take i)) s.routines.length (hP _ _ _ _ ?_) fun i hi ih=>hP _ _ _ _ ?_
  ·rw[kQ];unfold vn M4;exact⟨fun h=>absurd h<|by omega,fun _=>rfl⟩
  ·have hw:=hs.r _ (kL hi);have hg:=h5 _ (kL hi);unfold vn;refine⟨fun _=>⟨by omega,_,Xi hi,_,Xcc H (g:=(i:Int)) hm hw (by omega)<|Gb.of hg,fun P1 cY=>?_⟩,fun h=>absurd (show(i:Int)<s.routines.length by omega) h⟩;have ho:Ut s++Ko m 0 (s.routines.take i)=Ut s++Ko m 0 (s.routines.take i)++Ui ((Jp m i s.routines[i]).take 0):=by simp[Ui]
   rw[ho];obtain⟨q1,q2⟩:=MC (g:=(i:Int)) hm hw (Gb.of hg);refine Uz (P:=fun b j=>P1 b j m s) (fun j=>Ut s++Ko m 0 (s.routines.take i)++Ui ((Jp m i s.routines[i]).take j)) (Jp m i s.routines[i]).length (cY _ _ _ _ ?_) fun j hj j8=>cY _ _ _ _ ?_
   ·rw[kQ];unfold vo M5;refine⟨fun h=>absurd h<|by omega,fun _=>?_⟩;rw[Yq (by omega)<|by omega];rw[XT hi,<- jD]at ih;exact ih
   ·have r1:=q1 _ (kL hj);have r2:=XS hm hs hf hi j;unfold vo;refine⟨fun _=>⟨by omega,_,Xi hj,?_,?_,?_⟩,fun h=>absurd (show(j:Int)<(Jp m i s.routines[i]).length by omega) h⟩
    ·rw[Wj];simp only[kB,kD];omega
    ·rw[Wj,XI _ [10]];simp only[kB,kD];omega
    ·rw[Yq (by omega)<|by omega];rw[XL hj,<- jD]at j8;exact j8)
 exact h
end
end Go.AM

namespace Go.AM
open Go
theorem Yg3(c:UInt8)(s:Zc):Zn [c] (c::s)=(s,true):=Js [c] s
theorem zu(r:Zc):Uo (32::r)=0:=rfl
theorem Xto{n:Int}(h0:0<=n)(h3:n<=3):Ru (Hr n)=n:=by rcases(show n=0\/n=1\/n=2\/n=3 by omega)with rfl|rfl|rfl|rfl<;>decide
theorem zw{n k:Int}{r:Zc}(h0:0<=k)(h1:k<n)(h2:k<1000000000)(hr:Uo r=0):Yk n (Yn k++r)=(k,true,r):=by unfold Yk;rw[Yc4 (by omega) (by omega) hr,kJ h0,kJ h1];rfl
theorem Wcr{m:Zd}{f:Zz}{k:Int}{x:Zf}(hm:We m)(hf:m.funcs[x.func.toNat]?=some f)(hk:0<=k/\k<170)(hx:0<=x.func)(hp:0<=x.pos)(hc:x.pos<f.code.length)(RU:0<=x.mode/\x.mode<=3):
  Ww m (Uv f k x)=(k,⟨x.func,x.pos,x.mode,[]⟩,true):=by
 have hlen:x.func<m.funcs.length:=by
  have:=(jQ.1 hf).1;omega
 have hn:=hm.n;obtain⟨q1,q2,q3,q4⟩:=hm.f f (jP hf);have e:Uv f k x=[35]++(Yn k++32::(Yn x.func++32::(quo f.name++32::97::116::32::(Yn x.pos++32::Hr x.mode)))):=by unfold Uv;simp
 have en:Kr m x.func=f.name:=XH hf;have ec:Gu m x.func=(f.code.length:Int):=by unfold Gu;rw[hf];rfl
 rw[e];unfold Ww;rw[Js];simp only[zB,jT];unfold Hx;rw[zw hk.1 hk.2 (by omega)<|zu _];simp only[zB,jT];rw[Yg3];simp only[zB,jT];unfold Hh;rw[zw hx hlen (by omega)<|zu _];simp only[zB,jT];rw[en,show(32::(quo f.name++32::97::116::32::(Yn x.pos++32::Hr x.mode)):Zc)=([32]++quo f.name++[32,97,116,32])++(Yn x.pos++32::Hr x.mode)from by simp,Js];simp only[zB,jT];unfold Hn;rw[ec,zw hp hc (by omega)<|zu _];simp only[zB,jT];rw[Yg3];simp only[zB,jT];unfold Td;rw[Xto RU.1 RU.2,kJ RU.1,show max 0 x.mode=x.mode by omega]
theorem Xsf{f:Zz}{l:Zx}(hf:f.slots.length<=1000)(h0:0<=l.slot)(h1:l.slot<f.slots.length)(hv:Vl l.value=true)(hw:Wf l.value):Jf f (Gs f l)=some l:=by
 have e:Gs f l=[32,32]++(Yn l.slot++32::(quo (Nb f l.slot)++32::61::32::Ys l.value)):=by unfold Gs;simp
 have e2:(32::(quo (Nb f l.slot)++32::61::32::Ys l.value):Zc)=([32]++quo (Nb f l.slot)++[32,61,32])++Ys l.value:=by simp
 rw[e];unfold Jf;rw[Js];simp only[zB,jT];rw[zw h0 h1 (by omega)<|zu _];simp only[zB,jT];rw[e2,Js];simp only[zB,jT];rw[oD hv hw,kC rfl]
theorem Yul{f:Zz}(hf:f.slots.length<=1000):∀(l:List Zx),(∀y∈l,0<=y.slot/\y.slot<f.slots.length/\Vl y.value=true/\Wf y.value)->Qs f (l.map<|Gs f)=some l
 |[],_=>rfl
 |y::l,h=>by
  obtain⟨a,b,c,d⟩:=h y (by simp);rw[jB,Qs,Xsf hf a b c d];simp only;rw[Yul hf l fun z hz=>h z<|by simp[hz]]
theorem Ypq{m:Zd}{k:Int}{x:Zf}(hm:We m)(hx:Ul x)(hk:0<=k/\k<170)(hb:Jm m x=true):Jy m (Ks m k x)=(k,x,0):=by
 obtain⟨f0,f1,f,hf,hF⟩:=Bk.1 hb;obtain⟨g1,g2,g3,g4,g5,g6⟩:=Ty.1 hF;obtain⟨l1,l2⟩:=u6 (k:=k) hm hx hb
 have hl:¬(17<(Ks m k x).length\/Dj 1400060 (Ks m k x)=true):=by
  rintro(h|h)
  ·omega
  ·rw[I_.2 fun s hs=>kX (l1 s hs)<|by decide]at h;cases h
 have e:=Bo hf k;have hp:=Wcr (k:=k) hm hf hk f0 g3 g4 ⟨hx.m,f1⟩
 have hr:=Yul (f:=f) (by omega) x.locals fun y hy=>by
  obtain⟨a,b,c⟩:=Lx g6 _ hy;exact⟨by omega,b,c,hx.v y hy⟩
 rw[e]at hl⊢;unfold Jy;rw[kA hl];simp only;rw[hp];simp only[zB,jT];rw[hf];simp only;rw[hr];simp only;have ex:({ func:=x.func,pos:=x.pos,mode:=x.mode,locals:=x.locals }:Zf)=x:=by cases x;rfl
 rw[ex,kC];unfold Uy;rw[kA<|by omega,kC hb,e]
end Go.AM

namespace Go.AM
open Go
def Xr:Zc->List Zc × Zc
 |[]=>([],[])
 |c::r=>if c=10 then ([]::(Xr r).1,(Xr r).2)else match (Xr r).1 with
  |[]=>([],c::(Xr r).2)
  |x::l=>((c::x)::l,(Xr r).2)
def Hz(l:List Zc):Zc:=l.flatMap fun x=>x++[10]
theorem Xal(l m:List Zc):Hz (l++m)=Hz l++Hz m:=by unfold Hz;rw[List.flatMap_append]
theorem Pq(x:Zc)(l:List Zc):Hz (x::l)=x++10::Hz l:=by unfold Hz;simp
theorem pc:∀s:Zc,s=Hz (Xr s).1++(Xr s).2
 |[]=>rfl
 |c::r=>by
  have ih:=pc r;unfold Xr;split
  ·rename_i h;subst h;simp only[Pq,jV,kY];rw[<- ih]
  ·split
   ·rename_i h;rw[h]at ih;simp only[Hz,List.flatMap_nil,jV]at ih⊢;rw[<- ih]
   ·rename_i x l h;rw[h,Pq]at ih;simp only[Pq,kY];rw[<- ih]
theorem RQ:∀s:Zc,(∀x∈(Xr s).1,(10:UInt8) ∉ x)/\(10:UInt8) ∉ (Xr s).2
 |[]=>⟨fun x h=>(by simp[Xr]at h),by simp[Xr]⟩
 |c::r=>by
  have ih:=RQ r;unfold Xr;split
  ·refine⟨fun x h=>?_,ih.2⟩;simp only[jH]at h;rcases h with rfl|h
   ·simp
   ·exact ih.1 x h
  ·rename_i hc;have cM:(10:UInt8)≠c:=fun h=>hc h.symm
   split
   ·exact⟨fun x h=>by simp at h,by simp only[jH,not_or];exact⟨cM,ih.2⟩⟩
   ·rename_i x l h;rw[h]at ih;refine⟨fun y hy=>?_,ih.2⟩;simp only[jH]at hy;rcases hy with rfl|hy
    ·simp only[jH,not_or];exact⟨cM,ih.1 x<|by simp⟩
    ·exact ih.1 y (by simp[hy])
theorem Yd2:∀e:Zc,(10:UInt8) ∉ e->Xr e=([],e)
 |[],_=>rfl
 |c::r,h=>by
  simp only[jH,not_or]at h;unfold Xr;rw[kA<|fun e=>h.1 e.symm,Yd2 r h.2]
theorem Ylg:∀(x r:Zc),(10:UInt8) ∉ x->Xr (x++10::r)=(x::(Xr r).1,(Xr r).2)
 |[],r,_=>by rw[jV,Xr,kC rfl]
 |c::x,r,h=>by
  simp only[jH,not_or]at h;rw[kY,Xr,kA<|fun e=>h.1 e.symm,Ylg x r h.2]
theorem Ycv:∀(l:List Zc) (e:Zc),(∀x∈l,(10:UInt8) ∉ x)->(10:UInt8) ∉ e->Xr (Hz l++e)=(l,e)
 |[],e,_,he=>by simpa[Hz]using Yd2 e he
 |x::l,e,h,he=>by
  rw[Pq,jD,kY,Ylg x _<|h x<|by simp,Ycv l e (fun y hy=>h y<|by simp[hy]) he]
theorem Xa4(s:Zc):(Xr s).1.length=s.count 10:=by
 have h:=pc s;have h1:=RQ s;rw[jC (List.count (10:UInt8)) h,List.count_append,List.count_eq_zero.2 h1.2,zV];generalize (Xr s).1=l at h1;clear h;replace h1:=h1.1
 induction l with
 |nil=>rfl
 |cons x l ih=>
  rw[Pq,List.count_append,List.count_eq_zero.2<|h1 x<|by simp,List.count_cons_self,kB,ih fun y hy=>h1 y<|by simp[hy]];omega
theorem Xnh:∀k:Fin 16,(10:UInt8)≠Kn k:=by decide
theorem zr(n:Nat):(10:UInt8)≠Kn n:=by
 by_cases h:n<16
 ·exact Xnh ⟨n,h⟩
 ·unfold Kn;rw[zG,kT (by simp;omega)]
  decide
theorem RS(b:Nat):∀f n,(10:UInt8) ∉ ds b f n
 |0,_=>by simp[ds]
 |f+1,n=>by
  unfold ds;split
  ·simp only[jO];exact zr n
  ·simp only[kZ,jO,not_or];exact⟨RS b f<|n / b,zr _⟩
theorem Mk(n:Int):(10:UInt8) ∉ Yn n:=by
 unfold Yn;split
 ·simp only[jH,not_or];exact⟨by decide,RS _ _ _⟩
 ·exact RS _ _ _
theorem Xxn(c:UInt8):(10:UInt8) ∉ Ws c:=by
 unfold Ws;split
 ·rename_i h;simp only[jH,yV,or_false,not_or];exact⟨by decide,fun e=>by subst e;revert h;decide⟩
 ·split
  ·decide
  ·rename_i h;split
   ·simp only[jH,yV,or_false,not_or];exact⟨by decide,by decide,zr _,zr _⟩
   ·simp only[jO];exact fun e=>h (by rw[<- e];rfl)
theorem zt(s:Zc):(10:UInt8) ∉ quo s:=by unfold quo Kd;simp only[jH,kZ,List.mem_flatMap,yV,or_false,not_or,not_exists,not_and];exact⟨by decide,fun c _=>Xxn c,by decide⟩
mutual
theorem qy:∀v:Za,(10:UInt8) ∉ Ys v
 |.mk k n s l c=>by
  have h:=Xd2 l;rw[Ys];split
  ·split<;>decide
  ·split
   ·exact Mk n
   ·split
    ·exact zt s
    ·split
     ·simp only[jH,kZ,yV,or_false,not_or];exact⟨by decide,h,by decide⟩
     ·split
      ·simp only[jH,kZ,yV,or_false,not_or];exact⟨by decide,h,by decide⟩
      ·split
       ·split
        ·decide
        ·simp only[jH,kZ,yV,or_false,not_or];exact⟨by decide,h,by decide⟩
       ·split
        ·decide
        ·split
         ·decide
         ·simp only[jH,not_or];exact⟨by decide,h⟩
theorem Xd2:∀l:List Za,(10:UInt8) ∉ Yz l
 |[]=>by simp[Yz]
 |v::l=>by rw[Yz];simp only[kZ,not_or];exact⟨qy v,Yfm l⟩
theorem Yfm:∀l:List Za,(10:UInt8) ∉ Ua l
 |[]=>by simp[Ua]
 |v::l=>by rw[Ua];simp only[jH,kZ,not_or];exact⟨by decide,by decide,qy v,Yfm l⟩
end
theorem Xx8(p:Zh):(10:UInt8) ∉ Vf p:=by
 unfold Vf Vs Cm;simp only[kZ,not_or];refine⟨?_,?_,?_⟩
 ·split
  ·decide
  ·split
   ·unfold ou;split
    ·decide
    ·split
     ·decide
     ·split<;>decide
   ·simp only[kZ,not_or];exact⟨by decide,qy _⟩
 ·split<;>decide
 ·split<;>decide
end Go.AM

namespace Go.AM
open Go
def Gy:Zc:=[111,117,116,99,111,109,101,32]
def Hm:Zc:=[44,32,102,97,105,108,105,110,103,32]
def Bu:Zc:=[44,32,115,116,101,112,115,32]
def Bd:Zc:=[103,111,114,111,117,116,105,110,101,32]
def Mb:Zc:=[58,32]
def Bp:Zc:=[98,108,111,99,107,101,100,32]
def Ng:Zc:=[114,101,97,100,121]
def Sv:Zc:=[100,111,110,101]
def Rl:Zc:=[32,32,35]
def t4:Zc:=[32,32,32,32]
def Sb:Zc:=[32,32,100,101,102,101,114,32]
def t2:Zc:=[32,32]
def Gd:Zc:=[32,119,105,116,104,32]
def NO(w f st:Zc)(ab:Bool):Zo × Bool:=(⟨(Ga w).1,(Xd f).1,(Xd st).1,[]⟩,ab&&decide ((Xd f).2=0)&&decide ((Xd st).2=0)&&decide ((Ga w).2=0))
def NN(w r:Zc)(a:Bool):Zo × Bool:=NO w (Lib.cut r Bu).1 (Lib.cut r Bu).2.1 (a&&(Lib.cut r Bu).2.2)
def Dv(s:Zc):Zo × Bool:=NN (Lib.cut (Zn Gy s).1 Hm).1 (Lib.cut (Zn Gy s).1 Hm).2.1 (Lib.cut (Zn Gy s).1 Hm).2.2
abbrev rz:Zi:=⟨0,0,[],[],[]⟩
def pw(st:Zc):Zi × Bool:=if (Zn Bp st).2=true then (⟨2,(Xd (Zn Bp st).1).1,[],[],[]⟩,decide<|(Xd (Zn Bp st).1).2=0)else if st=Ng then (⟨1,0,[],[],[]⟩,true)else (⟨3,0,[],[],[]⟩,decide<|st=Sv)
def Qh(s:Zc):Zi × Bool:=if (Lib.cut s Mb).2.2=false then (rz,false)else pw (Lib.cut s Mb).2.1
def Cv(a b:Int)(r:Zc):Option Zq:=if r=[]then some ⟨a,b,false,vz⟩else if (Wv (Zn Gd r).1).2=0 then some ⟨a,b,true,(Wv (Zn Gd r).1).1⟩else none
def Mn(m:Zd)(a b c:Zc):Option Zq:=if (Xd a).2≠0\/(Xd b).2≠0\/(Xd b).1<0\/(m.funcs.length:Int)<=(Xd b).1 then none else
 if (Zn (quo<|Kr m (Xd b).1) c).2=false then none else Cv (Xd a).1 (Xd b).1 (Zn (quo<|Kr m (Xd b).1) c).1
def Hi(m:Zd)(s:Zc):Option Zq:=match Lib.splitN s [32] 4 with
 |[_,a,b,c]=>Mn m a b c
 |_=>none
def Vh:List Zc->List Zc × List Zc
 |[]=>([],[])
 |x::r=>if (Zn t4 x).2=true then (x.drop 2::(Vh r).1,(Vh r).2)else ([],x::r)
def Ux(m:Zd):Nat->List Zc->Option (List Zf × List Zc)
 |0,_=>none
 |_+1,[]=>some ([],[])
 |n+1,x::r=>if (Zn Rl x).2=true then
   if (Jy m<|x.drop 2::(Vh r).1).2.2=0 then (Ux m n (Vh r).2).map fun z=>((Jy m<|x.drop 2::(Vh r).1).2.1::z.1,z.2)else none
  else some ([],x::r)
def Gr(m:Zd):List Zc->Option (List Zq × List Zc)
 |[]=>some ([],[])
 |x::r=>if (Zn Sb x).2=true then (Hi m<|x.drop 2).bind fun d=>(Gr m r).map fun z=>(d::z.1,z.2)else some ([],x::r)
def Gq:List Zc->Option (List Zh × List Zc)
 |[]=>some ([],[])
 |x::r=>if (Zn t2 x).2=true then (if (Jt<|x.drop 2).2=0 then (Gq r).map fun z=>((Jt<|x.drop 2).1::z.1,z.2)else none)else some ([],x::r)
def Uk(m:Zd)(l:List Zc):Option (List Zf × List Zq × List Zh × List Zc):=
 (Ux m (l.length+1) l).bind fun a=>(Gr m a.2).bind fun b=>(Gq b.2).map fun c=>(a.1,b.1,c.1,c.2)
def Dy(m:Zd):Nat->List Zc->Option (List Zi × List Zc)
 |0,_=>none
 |_+1,[]=>some ([],[])
 |n+1,x::r=>if (Zn Bd x).2=true then
   if (Qh x).2=true then (Uk m r).bind fun a=>(Dy m n a.2.2.2).map fun z=>(⟨(Qh x).1.status,(Qh x).1.key,a.1,a.2.1,a.2.2.1⟩::z.1,z.2)else none
  else some ([],x::r)
abbrev sz:Zo:=⟨0,0,0,[]⟩
def Md(m:Zd):List Zc->Option Zo
 |[]=>none
 |x::r=>if (Zn Gy x).2=true then (if (Dv x).2=true then (Dy m (r.length+1) r).map fun z=>⟨(Dv x).1.outcome,(Dv x).1.failing,(Dv x).1.steps,z.1⟩else none)else none
def Uc(m:Zd)(s:Zc):Zo × Int:=if 300000<s.length then (sz,4)else match Md m (Lib.split s [10])with
 |none=>(sz,12)
 |some x=>if Mg m x=(s,0)then (x,0)else (sz,12)
theorem Yv4{c:UInt8}{t a b:Zc}(h:c ∉ a):Lib.index (a++((c::t)++b)) (c::t)=(a.length:Int):=by
 refine Lib.index_first (by simp) ?_ fun j hj=>?_
 ·unfold Lib.occAt;rw[yP];simp
 ·unfold Lib.occAt;rw[List.drop_append_of_le_length<|by omega]
  cases e:a.drop j with
  |nil=>exact absurd (List.drop_eq_nil_iff.1 e) (by omega)
  |cons d r=>
   rw[kY,List.isPrefixOf_cons₂];have hd:d∈a:=List.mem_of_mem_drop (i:=j) (by rw[e];simp);have:(c==d)=false:=by rw[beq_eq_false_iff_ne];rintro rfl;exact h hd
   rw[this];rfl
theorem qz{c:UInt8}{t a b:Zc}(h:c ∉ a):Lib.cut (a++((c::t)++b)) (c::t)=(a,b,true):=by unfold Lib.cut;rw[Yv4 h,kC<|by omega];have e:((a.length:Nat):Int).toNat=a.length:=rfl;rw[e,List.take_left,<- kF,<- jD,yP]
theorem zx{c:UInt8}{a b:Zc}(h:c ∉ a)(k:Nat):Lib.splitK [c] 0 (k+1) (a++c::b)=a::Lib.splitK [c] 0 k b:=by
 have e:=Yv4 (t:=[]) (b:=b) h;rw[List.singleton_append]at e;rw[Lib.splitK,e,kA (by simp only[beq_iff_eq];omega)];have e2:((a.length:Nat):Int).toNat=a.length:=rfl;rw[e2,zV,List.take_left]
 congr 2
 rw[show a++c::b=(a++[c])++b by simp,show a.length+[c].length=(a++[c]).length by simp,yP]
theorem O3(s:Zc):Lib.split s [10]=(Xr s).1++[(Xr s).2]:=by
 unfold Lib.split;rw[Lib.count_one];have h1:=RQ s;have h2:=pc s;generalize (Xr s).2=e at *;generalize (Xr s).1=l at *;subst h2;obtain⟨h1,h3⟩:=h1
 induction l with
 |nil=>
  simp only[Hz,List.flatMap_nil,jV];rw[List.count_eq_zero.2 h3];rfl
 |cons x l ih=>
  have hx:=h1 x (by simp);rw[Pq,jD,kY,List.count_append,List.count_eq_zero.2 hx,List.count_cons_self,yI,zx hx,ih fun y hy=>h1 y<|by simp[hy]];rfl
end Go.AM

namespace Go.AM
open Go
theorem Sn(n:Int){c:UInt8}(h:Gk c=false)(h2:c≠45):c ∉ Yn n:=by
 have hd :∀k,c ∉ Jj 10 k:=fun k hc=>by
  have:=Pz _ _ c hc;rw[h]at this;cases this
 unfold Yn;split
 ·simp only[jH,not_or];exact⟨h2,hd _⟩
 ·exact hd _
theorem Yqz{a b:Zc}(h:(44:UInt8) ∉ a):Lib.cut (a++(Hm++b)) Hm=(a,b,true):=qz (t:=[32,102,97,105,108,105,110,103,32]) h
theorem Yly{a b:Zc}(h:(44:UInt8) ∉ a):Lib.cut (a++(Bu++b)) Bu=(a,b,true):=qz (t:=[32,115,116,101,112,115,32]) h
theorem Yqs{a b:Zc}(h:(58:UInt8) ∉ a):Lib.cut (a++(Mb++b)) Mb=(a,b,true):=qz (t:=[32]) h
def Bt(s:Zo):Zc:=Gy++((Pr s.outcome).1++(Hm++(Yn s.failing++(Bu++Yn s.steps))))
theorem Xov(s:Zo):Ut s=Bt s++[10]:=by unfold Ut Bt Gy Hm Bu;simp
theorem RV{n:Int}(h1:1<=n)(h8:n<=8):(44:UInt8) ∉ (Pr n).1/\(10:UInt8) ∉ (Pr n).1/\Ga (Pr n).1=(n,0):=by rcases(show n=1\/n=2\/n=3\/n=4\/n=5\/n=6\/n=7\/n=8 by omega)with rfl|rfl|rfl|rfl|rfl|rfl|rfl|rfl<;>exact⟨by decide,by decide,by decide⟩
theorem Xac{s:Zo}(h1:1<=s.outcome/\s.outcome<=8)(h2:-1000000<=s.failing/\s.failing<=1000000)(h3:0<=s.steps/\s.steps<=5000):Dv (Bt s)=(⟨s.outcome,s.failing,s.steps,[]⟩,true):=by obtain⟨w1,w2,w3⟩:=RV h1.1 h1.2;unfold Dv Bt;rw[Js];simp only;rw[Yqz w1];unfold NN;rw[Yly<|Sn s.failing (c:=44) rfl<|by decide];unfold NO;rw[w3,Tz (by omega)<|by omega,Tz (by omega)<|by omega];rfl
theorem RW(g:Int)(x:Zi):Ke g x=Bd++(Yn g++(Mb++Ud x)):=by unfold Ke Bd Mb;simp
theorem Xd0{g:Int}{x:Zi}(hs:x.status=1\/x.status=2\/x.status=3)(h1:x.status≠2->x.key=0)(hk:-9223372036854775808<=x.key/\x.key<9223372036854775808):Qh (Ke g x)=(⟨x.status,x.key,[],[],[]⟩,true):=by
 unfold Qh
 rw [RW,<- jD,Yqs (by
  simp only[kZ,not_or];exact ⟨by decide,Sn g rfl<|by decide⟩)]
 simp only[zB,jT];unfold pw;rcases hs with h|h|h
 ·rw[show Ud x=Ng from by unfold Ud;rw[kC h];rfl,h,h1<|by omega];rfl
 ·rw[show Ud x=Bp++Yn x.key from by unfold Ud;rw[kA<|by omega,kA<|by omega];rfl,h,Js];simp only[jS];rw[Tz hk.1 hk.2];rfl
 ·rw[show Ud x=Sv from by unfold Ud;rw[kA<|by omega,kC h];rfl,h,h1<|by omega];rfl
theorem Yw1{m:Zd}{Vm:Int}{d:Zq}(hm:We m)(hw:Wf d.arg)(hn:Vm<=1000000)(h:Jg m Vm d=true):Hi m (Wt m d)=some d:=by
 obtain⟨a1,a2,a3,⟨f,a4,a5,a6⟩,a7,a8⟩:=po h
 have hlen:d.func<m.funcs.length:=by
  have:=(jQ.1 a4).1;omega
 have pq:=hm.n;have e:Wt m d=[100,101,102,101,114]++32::(Yn d.frame++32::(Yn d.func++32::(quo (Kr m d.func)++(if d.hasArg=true then Gd++Ys d.arg else [])))):=by unfold Wt Gd;simp
 have e2:Lib.splitN (Wt m d) [32] 4=[[100,101,102,101,114],Yn d.frame,Yn d.func,quo (Kr m d.func)++(if d.hasArg=true then Gd++Ys d.arg else [])]:=by
  unfold Lib.splitN;have hl:3<=(Wt m d).length:=by rw[e];simp only[kF,kB,kD];omega
  rw[show min 4 ((Wt m d).length+1)-1=3 from by omega,e];rw[zx<|by decide,zx<|Sn _ rfl<|by decide,zx<|Sn _ rfl<|by decide];rfl
 unfold Hi;rw[e2];simp only;unfold Mn;rw[Tz (by omega)<|by omega,Tz (by omega)<|by omega];simp only;rw[kA<|by omega,Js];simp only[zB,jT];unfold Cv
 cases ha:d.hasArg with
 |false=>
  have:=a8 ha;simp only[jL,jT,jS];rw[<- this,<- ha]
 |true=>
  simp only[jS];rw[kA (by unfold Gd;simp),Js];simp only;rw[oD (a7 ha).1 hw,kC rfl,<- ha]
def Qw(p:Zc)(l:List Zc):Prop:=∀x r,l=x::r->(Zn p x).2=false
theorem La{p x:Zc}{r:List Zc}(h:(Zn p x).2=false):Qw p (x::r):=fun y s e=>by injection e with e1 e2;rw[<- e1];exact h
theorem Nn{p:Zc}{a b:List Zc}(ha:Qw p a)(hb:Qw p b):Qw p (a++b):=by
 cases a with
 |nil=>exact hb
 |cons x r=>exact La (ha x r rfl)
theorem Ymz{ls rest:List Zc}(h:Qw t4 rest):Vh ((ls.map Xa).map Xa++rest)=(ls.map Xa,rest):=by
 induction ls with
 |nil=>
  cases rest with
  |nil=>rfl
  |cons x r=>
   show Vh (x::r)=_;rw[Vh,kA (by rw[h x r rfl];decide)];rfl
 |cons x l ih=>
  rw[jB,jB,kY,Vh,show Xa (Xa x)=t4++x from rfl,Js,kC rfl,ih];rfl
theorem Yzw(f:Zz)(l:Zx):∃y,Gs f l=Xa y:=⟨Yn l.slot++[32]++quo (Nb f l.slot)++[32,61,32]++Ys l.value,by unfold Gs Xa;simp⟩
theorem Yi3(f:Zz)(l:List Zx):∃ys:List Zc,l.map (Gs f)=ys.map Xa:=by
 induction l with
 |nil=>exact⟨[],rfl⟩
 |cons x l ih=>
  obtain⟨ys,h⟩:=ih;obtain⟨y,hy⟩:=Yzw f x;exact⟨y::ys,by rw[jB,jB,h,hy]⟩
theorem RX(m:Zd):∀(l:List Zf) (i:Nat),Qw t4 ((Wm m i l).map Xa)
 |[],_=>fun x r e=>by cases e
 |x::l,i=>by
  show Qw t4 ((Ks m i x++Wm m (i+1) l).map Xa);rw[yA];refine Nn ?_ (RX m l<|i+1);unfold Ks;split
  ·exact fun x r e=>by cases e
  ·exact La (by unfold Uv;rfl)
theorem Ym5{m:Zd}(hm:We m){rest:List Zc}(h1:Qw Rl rest)(h2:Qw t4 rest):∀(l:List Zf) (i n:Nat),(∀x∈l,Ul x)->(∀x∈l,Jm m x=true)->i+l.length<=170->l.length<n->Ux m n ((Wm m i l).map Xa++rest)=some (l,rest)
 |[],_,n+1,_,_,_,_=>by
  cases rest with
  |nil=>rfl
  |cons x r=>
   show Ux m (n+1) (x::r)=_;rw[Ux,kA (by rw[h1 x r rfl];decide)]
 |x::l,i,n+1,hw,hb,hi,hn=>by
  obtain⟨f0,f1,f,hf,hF⟩:=Bk.1 (hb x<|by simp);obtain⟨ys,cL⟩:=Yi3 f x.locals;rw[kB]at hi hn;have ih:=Ym5 hm h1 h2 l (i+1) n (fun y hy=>hw y<|by simp[hy]) (fun y hy=>hb y<|by simp[hy]) (by omega) (by omega)
  have e:(Wm m i<|x::l).map Xa++rest=Xa (Uv f i x)::((ys.map Xa).map Xa++((Wm m (i+1) l).map Xa++rest)):=by
   show(Ks m i x++Wm m (i+1) l).map Xa++rest=_;rw[Bo hf,cL,yA,jB];simp
  have hr:=Ypq (k:=(i:Int)) hm (hw x<|by simp) (by omega) (hb x<|by simp);rw[Bo hf,cL]at hr;have ep:(Zn Rl<|Xa<|Uv f i x).2=true:=by unfold Uv;rfl
  have ed:(Xa<|Uv f i x).drop 2=Uv f i x:=rfl;rw[e,Ux,kC ep,Ymz<|Nn (RX m l<|i+1) h2];simp only;rw[ed,hr];simp only[jS];rw[ih];rfl
theorem Ync{m:Zd}{Vm:Int}(hm:We m)(hn:Vm<=1000000){rest:List Zc}(h1:Qw Sb rest):∀l:List Zq,(∀d∈l,Wf d.arg)->(∀d∈l,Jg m Vm d=true)->Gr m ((l.map<|Wt m).map Xa++rest)=some (l,rest)
 |[],_,_=>by
  cases rest with
  |nil=>rfl
  |cons x r=>
   show Gr m (x::r)=_;rw[Gr,kA (by rw[h1 x r rfl];decide)]
 |d::l,hw,hb=>by
  have ih:=Ync hm hn h1 l (fun y hy=>hw y<|by simp[hy]) (fun y hy=>hb y<|by simp[hy]);rw[jB,jB,kY,Gr,kC (by unfold Wt;rfl),show(Xa<|Wt m d).drop 2=Wt m d from rfl,Yw1 hm (hw d<|by simp) hn<|hb d<|by simp,ih];rfl
theorem Yfd{rest:List Zc}(h1:Qw t2 rest):∀l:List Zh,(∀p∈l,Hu p)->(∀p∈l,Xz p=true)->Gq ((l.map Vf).map Xa++rest)=some (l,rest)
 |[],_,_=>by
  cases rest with
  |nil=>rfl
  |cons x r=>
   show Gq (x::r)=_;rw[Gq,kA (by rw[h1 x r rfl];decide)]
 |p::l,hw,hb=>by
  have ih:=Yfd h1 l (fun y hy=>hw y<|by simp[hy]) (fun y hy=>hb y<|by simp[hy]);rw[jB,jB,kY,Gq,kC<|by rfl,show(Xa<|Vf p).drop 2=Vf p from rfl,KD (hb p<|by simp) (hw p<|by simp).v,kC rfl,ih];rfl
theorem Yu9(p:Zh)(h:Xz p=true):∃c r,Vf p=c::r/\(c=101\/c=102\/c=112):=by
 have h4:=@tZ p h;unfold Vf Vs;split
 ·exact⟨101,_,rfl,.inl rfl⟩
 ·split
  ·rename_i h;obtain⟨a,b⟩:=h4 h;unfold ou;rcases(show p.value.int=1\/p.value.int=2\/p.value.int=3 by omega)with e|e|e<;>rw[e]<;>exact⟨102,_,rfl,.inr<|.inl rfl⟩
  ·exact⟨112,_,rfl,.inr<|.inr rfl⟩
theorem Ys9{q:Zc}{e c:UInt8}{r:Zc}(h:e≠c):(Zn (32::32::e::q)<|Xa<|c::r).2=false:=by show(Zn (32::32::e::q)<|32::32::c::r).2=false;rw[zq,zq,Pn h];rfl
theorem qA{q:Zc}{e:UInt8}(he:e≠101/\e≠102/\e≠112){l:List Zh}(h :∀p∈l,Xz p=true):Qw (32::32::e::q) ((l.map Vf).map Xa):=by
 cases l with
 |nil=>exact fun x r e=>by cases e
 |cons p l=>
  obtain⟨c,r,h1,h2⟩:=Yu9 p (h p<|by simp);rw[jB,jB,h1];refine La (Ys9 ?_);rcases h2 with rfl|rfl|rfl
  ·exact he.1
  ·exact he.2.1
  ·exact he.2.2
theorem RY(m:Zd){q:Zc}{e:UInt8}(he:e≠100)(l:List Zq):Qw (32::32::e::q) ((l.map<|Wt m).map Xa):=by
 cases l with
 |nil=>exact fun x r e=>by cases e
 |cons d l=>
  rw[jB,jB];exact La (by unfold Wt;exact Ys9 he)
theorem Xlx{m:Zd}{x:Zi}(hm:We m)(hx:Kz x)(h:Gb m x){rest:List Zc}(h1:Qw t2 rest):Uk m ((Gn m x).map Xa++rest)=some (x.frames,x.defers,x.panics,rest):=by
 have hf:=h.f
 have n2 :∀{q:Zc},Qw (32::32::q) rest:=fun {q} y r e=>by
  have:=h1 y r e;unfold Zn at this⊢;split at this
  ·cases this
  ·rename_i h2;rw[kA];intro h3;refine h2 ?_;have:=jC (List.take 2) h3;rw[List.take_take]at this;simpa[t2]using this
 have e:(Gn m x).map Xa++rest=(Wm m 0 x.frames).map Xa++((x.defers.map<|Wt m).map Xa++((x.panics.map Vf).map Xa++rest)):=by unfold Gn;simp
 have p1:=@qA;have a1:Qw Sb ((x.panics.map Vf).map Xa++rest):=Nn (qA (by decide) h.pb) n2;have a2:Qw Rl ((x.defers.map<|Wt m).map Xa++((x.panics.map Vf).map Xa++rest)):=Nn (RY m (by decide) _) (Nn (qA (by decide) h.pb) n2);have a3:Qw t4 ((x.defers.map<|Wt m).map Xa++((x.panics.map Vf).map Xa++rest)):=Nn (RY m (by decide) _) (Nn (qA (by decide) h.pb) n2)
 have hl:x.frames.length<((Wm m 0 x.frames).map Xa++((x.defers.map<|Wt m).map Xa++((x.panics.map Vf).map Xa++rest))).length+1:=by
  have :∀(l:List Zf) (i:Nat),(∀y∈l,Jm m y=true)->l.length<=(Wm m i l).length:=by
   intro l
   induction l with
   |nil=>intro i _;exact kU _
   |cons y l ih=>
    intro i hb;obtain⟨f0,f1,f,hf,hF⟩:=Bk.1 (hb y<|by simp);have:=ih (i+1) fun z hz=>hb z (by simp[hz])
    show _<=(Ks m i y++Wm m (i+1) l).length;rw[Bo hf,kF,kB,kB];omega
  have:=this x.frames 0 h.fb;rw[kF,jK];omega
 rw[e];unfold Uk;rw[Ym5 hm a2 a3 x.frames 0 _ hx.f h.fb (by omega) hl];simp only[yD];rw[Ync hm (Vm:=x.frames.length) (by omega) a1 x.defers hx.d h.db];simp only[yD];rw[Yfd h1 x.panics hx.p h.pb];rfl
def Qr(m:Zd):Nat->List Zi->List Zc
 |_,[]=>[]
 |i,x::r=>Jp m i x++Qr m (i+1) r
theorem Xht(m:Zd)(l:List Zi)(i:Nat):Qw t2 (Qr m i l++[[]]):=by
 cases l with
 |nil=>exact La rfl
 |cons x l=>exact La (by unfold Ke;rfl)
theorem Yge{m:Zd}{x:Zi}(h:Kh m x=true):x.status≠2->x.key=0:=by
 intro h2;by_cases h3:x.status=3
 ·rw[uV h3]at h;simp only[kR,jA]at h;exact h.2
 ·by_cases h1:x.status=1/\x.key=0
  ·exact h1.2
  ·rw[Fp h3 (by rintro(h|h);exact h2 h;exact h1 h)]at h;cases h
theorem Ylp{m:Zd}(hm:We m):∀(l:List Zi) (i n:Nat),(∀x∈l,Kz x)->(∀x∈l,Kh m x=true)->l.length<n->Dy m n (Qr m i l++[[]])=some (l,[[]])
 |[],_,n+1,_,_,_=>rfl
 |x::l,i,n+1,hw,hb,hn=>by
  rw[kB]at hn;have ih:=Ylp hm l (i+1) n (fun y hy=>hw y<|by simp[hy]) (fun y hy=>hb y<|by simp[hy]) (by omega);have hx:=hw x (by simp);have hg:=hb x (by simp);have h0:=Gb.of hg
  have e:Qr m i (x::l)++[[]]=Ke i x::((Gn m x).map Xa++(Qr m (i+1) l++[[]])):=by
   show(Ke i x::(Gn m x).map Xa)++Qr m (i+1) l++[[]]=_;simp
  rw[e,Dy,kC (by unfold Ke;rfl),Xd0 h0.st (Yge hg) hx.k];simp only[jS];rw[Xlx hm hx h0<|Xht m l<|i+1];simp only[yD];rw[ih];rfl
theorem Xxi{f:Zz}{k:Int}{x:Zf}(h:0<=x.mode/\x.mode<=3):(10:UInt8) ∉ Uv f k x:=by
 have:(10:UInt8) ∉ Hr x.mode:=by rcases(show x.mode=0\/x.mode=1\/x.mode=2\/x.mode=3 by omega)with e|e|e|e<;>rw[e]<;>decide
 unfold Uv;simp only[kZ,not_or];exact⟨⟨⟨⟨⟨⟨⟨⟨⟨by decide,Mk _⟩,by decide⟩,Mk _⟩,by decide⟩,zt _⟩,by decide⟩,Mk _⟩,by decide⟩,this⟩
theorem Yz0(f:Zz)(l:Zx):(10:UInt8) ∉ Gs f l:=by unfold Gs;simp only[kZ,not_or];exact⟨⟨⟨⟨⟨by decide,Mk _⟩,by decide⟩,zt _⟩,by decide⟩,qy _⟩
theorem Yfb{m:Zd}:∀(l:List Zf) (i:Nat),(∀x∈l,Ul x)->(∀x∈l,Jm m x=true)->∀s∈Wm m i l,(10:UInt8) ∉ s
 |[],_,_,_,s,hs=>by cases hs
 |x::l,i,hw,hb,s,hs=>by
  obtain⟨f0,f1,f,hf,hF⟩:=Bk.1 (hb x<|by simp);have hs:s∈Ks m i x++Wm m (i+1) l:=hs;rw[Bo hf]at hs;rcases kZ.1 hs with hs|hs
  ·rcases jH.1 hs with rfl|hs
   ·exact Xxi ⟨(hw x<|by simp).m,f1⟩
   ·obtain⟨y,_,rfl⟩:=yS.1 hs;exact Yz0 f y
  ·exact Yfb l (i+1) (fun y hy=>hw y<|by simp[hy]) (fun y hy=>hb y<|by simp[hy]) s hs
theorem Xlz(m:Zd)(d:Zq):(10:UInt8) ∉ Wt m d:=by
 unfold Wt;simp only[kZ,not_or];refine⟨⟨⟨⟨⟨⟨by decide,Mk _⟩,by decide⟩,Mk _⟩,by decide⟩,zt _⟩,?_⟩;split
 ·simp only[kZ,not_or];exact⟨by decide,qy _⟩
 ·simp
theorem Wcc(g:Int)(x:Zi):(10:UInt8) ∉ Ke g x:=by
 unfold Ke Ud;simp only[kZ,not_or];refine⟨⟨⟨by decide,Mk _⟩,by decide⟩,?_⟩;split
 ·decide
 ·split
  ·decide
  ·simp only[kZ,not_or];exact⟨by decide,Mk _⟩
theorem Xme{m:Zd}{x:Zi}(g:Int)(hx:Kz x)(h:Gb m x):∀s∈Jp m g x,(10:UInt8) ∉ s:=by
 intro s hs;rcases jH.1 hs with rfl|hs
 ·exact Wcc g x
 ·obtain⟨y,hy,rfl⟩:=yS.1 hs
  have:(10:UInt8) ∉ y:=by
   unfold Gn at hy;rcases kZ.1 hy with hy|hy
   ·rcases kZ.1 hy with hy|hy
    ·exact Yfb _ _ hx.f h.fb _ hy
    ·obtain⟨d,_,rfl⟩:=yS.1 hy;exact Xlz m d
   ·obtain⟨p,_,rfl⟩:=yS.1 hy;exact Xx8 p
  show(10:UInt8) ∉ 32::32::y;simp only[jH,not_or];exact⟨by decide,by decide,this⟩
theorem Yc2{m:Zd}:∀(l:List Zi) (i:Nat),(∀x∈l,Kz x)->(∀x∈l,Kh m x=true)->∀s∈Qr m i l,(10:UInt8) ∉ s
 |[],_,_,_,s,hs=>by cases hs
 |x::l,i,hw,hb,s,hs=>by
  rcases kZ.1 hs with hs|hs
  ·exact Xme i (hw x<|by simp) (Gb.of<|hb x<|by simp) s hs
  ·exact Yc2 l (i+1) (fun y hy=>hw y<|by simp[hy]) (fun y hy=>hb y<|by simp[hy]) s hs
theorem Ymk(m:Zd):∀(l:List Zi) (i:Nat),Ko m i l=Hz (Qr m i l)
 |[],_=>rfl
 |x::l,i=>by
  show Ui (Jp m i x)++Ko m (i+1) l=Hz (Jp m i x++Qr m (i+1) l);rw[Ymk m l<|i+1,Xal];rfl
theorem Yim{m:Zd}{s:Zo}(hs:Gx s)(hf:Un m s=true):Xr (Hq m s)=(Bt s::Qr m 0 s.routines,[]):=by
 obtain⟨h1,h2,h3,h4,h5⟩:=Lp hf
 have e:Hq m s=Hz (Bt s::Qr m 0 s.routines)++[]:=by
  unfold Hq;rw[Xov,Ymk,Pq];simp
 rw[e];refine Ycv _ _ (fun x hx=>?_) (by simp);rcases jH.1 hx with rfl|hx
 ·unfold Bt;simp only[kZ,not_or];exact⟨by decide,(RV h1.1 h1.2).2.1,by decide,Mk _,by decide,Mk _⟩
 ·exact Yc2 _ _ hs.r h5 x hx
theorem Yyx{m:Zd}{s:Zo}(hm:We m)(hs:Gx s)(hf:Un m s=true):Md m (Lib.split (Hq m s) [10])=some s:=by
 obtain⟨h1,h2,h3,h4,h5⟩:=Lp hf;rw[O3,Yim hs hf];show Md m (Bt s::(Qr m 0 s.routines++[[]]))=_
 have hl :∀(l:List Zi) (i:Nat),l.length<=(Qr m i l).length:=by
  intro l
  induction l with
  |nil=>intro i;exact kU _
  |cons x l ih=>
   intro i;have:=ih (i+1);show _<=(Jp m i x++Qr m (i+1) l).length;rw[kF,show(Jp m i x).length=((Gn m x).map Xa).length+1 from rfl,kB];omega
 have:=hl s.routines 0;rw[Md,kC (by unfold Bt;rw[Js]),Xac h1 (by omega) h2,kC rfl,Ylp hm s.routines 0 _ hs.r h5 (by rw[kF];omega)];rfl
theorem Xvf{m:Zd}{s:Zo}(hm:We m)(hs:Gx s)(hf:Un m s=true)(hl:(Hq m s).length<=300000):Uc m (Hq m s)=(s,0):=by unfold Uc;rw[kA<|by omega,Yyx hm hs hf];simp only;rw[kC];unfold Mg;rw[kC hf,kA<|by omega]
end Go.AM

namespace Go.AM
open Go
def Wu(q:Nat)(c:UInt8):Nat:=
 if q=0 then (if c=34 then 1 else if c=92 then 3 else 0)
 else if q=1 then (if c=34 then 4 else if c=92 then 2 else 1)
 else if q=2 then 1
 else if q=4 then (if c=34 then 1 else if c=92 then 3 else if c=32 then 3 else 0)
 else 3
def qa(q:Nat):Zc->Nat
 |[]=>q
 |c::s=>qa (Wu q c) s
theorem Rx(q:Nat):∀a b:Zc,qa q (a++b)=qa (qa q a) b:=by
 intro a
 induction a generalizing q with
 |nil=>intro b;rfl
 |cons c a ih=>intro b;exact ih _ b
theorem Yji:∀s:Zc,qa 3 s=3
 |[]=>rfl
 |c::s=>by
  show qa (Wu 3 c) s=3;rw[show Wu 3 c=3 from rfl];exact Yji s
def Gc(q:Nat):Prop:=q=0\/q=4
theorem Yjs:∀s:Zc,(34:UInt8) ∉ s->(92:UInt8) ∉ s->qa 0 s=0
 |[],_,_=>rfl
 |c::s,h1,h2=>by
  simp only[jH,not_or]at h1 h2;show qa (Wu 0 c) s=0;rw[show Wu 0 c=0 by unfold Wu;simp[Ne.symm h1.1,Ne.symm h2.1]];exact Yjs s h1.2 h2.2
theorem Wbh(c:UInt8):qa 1 (Ws c)=1:=by
 unfold Ws;split
 ·rfl
 ·split
  ·rfl
  ·split
   ·rename_i h1 h2 h3;have hx :∀n,n<16->Wu 1 (Kn n)=1:=by decide
    have:=c.toNat_lt;show Wu (Wu 1<|Kn<|c.toNat / 16) (Kn<|c.toNat % 16)=1;rw[hx _<|by omega,hx _<|by omega]
   ·rename_i h1 h2 h3;show Wu 1 c=1;unfold Wu;have n1:c≠34:=fun e=>h1 (.inl (by rw[e];rfl))
    have n2:c≠92:=fun e=>h1 (.inr (by rw[e];rfl))
    simp[n1,n2]
theorem Xr1(s:Zc):qa 1 (Kd s)=1:=by
 induction s with
 |nil=>rfl
 |cons c s ih=>
  show qa 1 (Ws c++Kd s)=1;rw[Rx,Wbh,ih]
theorem Yqb(s:Zc):qa 0 (quo s)=4:=by show qa 1 (Kd s++[34])=4;rw[Rx,Xr1];rfl
theorem zy{q:Nat}(h:Gc q){c:UInt8}(hc:c=125\/c=93\/c=62\/c=44):Wu q c=0:=by rcases h with rfl|rfl<;>rcases hc with rfl|rfl|rfl|rfl<;>rfl
theorem Xgp(n:Int):qa 0 (Yn n)=0:=Yjs _ (Sn n (by decide)<|by decide) (Sn n (by decide)<|by decide)
mutual
theorem z1:∀v:Za,Gc (qa 0<|Ys v)
 |.mk k n s l c=>by
  rw[Ys];split
  ·split<;>exact .inl (by decide)
  ·split
   ·exact .inl (Xgp n)
   ·split
    ·exact .inr (Yqb s)
    ·split
     ·refine .inl ?_;show qa 0 (Yz l++[125])=0;rw[Rx];exact zy (AA l) (.inl rfl)
     ·split
      ·refine .inl ?_;show qa 0 (Yz l++[93])=0;rw[Rx];exact zy (AA l) (.inr<|.inl rfl)
      ·split
       ·split
        ·exact .inl (by decide)
        ·refine .inl ?_;show qa 0 (Yz l++[62])=0;rw[Rx];exact zy (AA l) (.inr<|.inr<|.inl rfl)
       ·split
        ·exact .inl (by decide)
        ·split
         ·exact .inl (by decide)
         ·show Gc (qa 0<|Yz l);exact AA l
theorem AA:∀l:List Za,Gc (qa 0<|Yz l)
 |[]=>.inl rfl
 |v::l=>by
  rw[Yz,Rx];exact Yr8 l _ (z1 v)
theorem Yr8:∀(l:List Za) (q:Nat),Gc q->Gc (qa q<|Ua l)
 |[],q,h=>h
 |v::l,q,h=>by
  rw[Ua];show Gc (qa (Wu (Wu q 44) 32)<|Ys v++Ua l);rw[zy h<|.inr<|.inr<|.inr rfl,Rx];exact Yr8 l _ (z1 v)
end
def Tc(a b:Nat):Prop:=(Gc a/\b=1)\/(a=1/\Gc b)\/a=3\/b=3
theorem Tc.step{a b:Nat}(h:Tc a b)(c:UInt8):Tc (Wu a c) (Wu b c):=by
 have s3:Wu 3 c=3:=rfl
 have key :∀q,Gc q->(c=34->Wu q c=1/\Wu 1 c=4)/\(c≠34->(Wu q c=3\/(Wu q c=0/\Wu 1 c=1))):=by
  intro q hq;refine⟨fun e=>by subst e;rcases hq with rfl|rfl<;>exact⟨rfl,rfl⟩,fun hE=>?_⟩;by_cases qB:c=92
  ·subst qB;rcases hq with rfl|rfl<;>exact .inl rfl
  ·rcases hq with rfl|rfl
   ·exact .inr ⟨by unfold Wu;simp[hE,qB],by unfold Wu;simp[hE,qB]⟩
   ·by_cases h32:c=32
    ·subst h32;exact .inl rfl
    ·exact .inr ⟨by unfold Wu;simp[hE,qB,h32],by unfold Wu;simp[hE,qB]⟩
 rcases h with⟨h,rfl⟩|⟨rfl,h⟩|rfl|rfl
 ·by_cases hE:c=34
  ·obtain⟨e1,e2⟩:=(key _ h).1 hE;rw[e1,e2];exact .inr (.inl ⟨rfl,.inr rfl⟩)
  ·rcases(key _ h).2 hE with e|⟨e1,e2⟩
   ·rw[e];exact .inr (.inr<|.inl rfl)
   ·rw[e1,e2];exact .inl ⟨.inl rfl,rfl⟩
 ·by_cases hE:c=34
  ·obtain⟨e1,e2⟩:=(key _ h).1 hE;rw[e1,e2];exact .inl ⟨.inr rfl,rfl⟩
  ·rcases(key _ h).2 hE with e|⟨e1,e2⟩
   ·rw[e];exact .inr (.inr<|.inr rfl)
   ·rw[e1,e2];exact .inr (.inl ⟨rfl,.inl rfl⟩)
 ·rw[s3];exact .inr (.inr<|.inl rfl)
 ·rw[s3];exact .inr (.inr<|.inr rfl)
theorem Tc.run{a b:Nat}(h:Tc a b):∀s:Zc,Tc (qa a s) (qa b s):=by
 intro s
 induction s generalizing a b with
 |nil=>exact h
 |cons c s ih=>exact ih (h.step c)
theorem Xby{s:Zc}(h0:Gc (qa 0 s))(h1:Gc (qa 1 s)):False:=by have:=Tc.run (a:=0) (b:=1) (.inl ⟨.inl rfl,rfl⟩) s;unfold Tc at this;unfold Gc at *;omega
def By:Zc:=34::Gd
theorem Xs1(q:Nat)(h:q<=4)(c:UInt8):Wu q c<=4:=by
 unfold Wu
 repeat' split
 all_goals omega
theorem Xjk(q:Nat)(h:q<=4):∀s:Zc,qa q s<=4:=by
 intro s
 induction s generalizing q with
 |nil=>exact h
 |cons c s ih=>exact ih _ (Xs1 q h c)
theorem Xx2:∀q,q<=4->Wu (Wu (Wu (Wu (Wu (Wu (Wu q 34) 32) 119) 105) 116) 104) 32=1\/Wu (Wu (Wu (Wu (Wu (Wu (Wu q 34) 32) 119) 105) 116) 104) 32=3:=by decide
theorem Xr0{p t:Zc}(hT:Gc (qa 0<|p++t))(ht:(Zn By t).2=true):(Wv<|t.drop 7).2≠0:=by
 intro hr;obtain⟨_,e,_⟩:=Ob hr;have h0:Gc (qa 0<|t.drop 7):=by rw[<- e];exact z1 _
 have lz:t=By++t.drop 7:=by
  unfold Zn at ht;split at ht
  ·rename_i h;have h7:t.take 7=By:=h;rw[<- h7,zJ]
  ·cases ht
 rw[lz,Rx]at hT;have hle:=Xjk 0 (by omega) p;generalize qa 0 p=q at hT hle;have run :∀q,qa q (By++t.drop 7)=qa (Wu (Wu (Wu (Wu (Wu (Wu (Wu q 34) 32) 119) 105) 116) 104) 32) (t.drop 7):=fun q=>rfl
 rw[run]at hT
 have h1:Gc (qa 1<|t.drop 7):=by
  rcases Xx2 q hle with e|e
  ·rw[e]at hT;exact hT
  ·rw[e,Yji]at hT;unfold Gc at hT;omega
 exact Xby h0 h1
def Df:Zc->Zq->Zq
 |[],x=>x
 |c::t,x=>Df t (if (Zn By<|c::t).2=true then (if (Wv<|(c::t).drop 7).2=0 then ⟨x.frame,x.func,true,(Wv<|(c::t).drop 7).1⟩else x)else x)
theorem AB:∀(t:Zc) (p:Zc) (x:Zq),Gc (qa 0<|p++t)->Df t x=x
 |[],_,_,_=>rfl
 |c::t,p,x,h=>by
  unfold Df;have h2:Gc (qa 0<|(p++[c])++t):=by simpa using h
  by_cases hc:(Zn By<|c::t).2=true
  ·rw[kC hc,kA<|Xr0 h hc];exact AB t (p++[c]) x h2
  ·rw[kA hc];exact AB t (p++[c]) x h2
theorem AD:∀(a b:Zc) (x:Zq),∃y:Zq,y.frame=x.frame/\y.func=x.func/\Df (a++b) x=Df b y
 |[],b,x=>⟨x,rfl,rfl,rfl⟩
 |c::a,b,x=>by
  rw[kY,show Df (c::(a++b)) x=Df (a++b) (if (Zn By<|c::(a++b)).2=true then (if (Wv<|(c::(a++b)).drop 7).2=0 then ⟨x.frame,x.func,true,(Wv<|(c::(a++b)).drop 7).1⟩else x)else x)from rfl];split
  ·split
   ·obtain⟨y,h1,h2,h3⟩:=AD a b ⟨x.frame,x.func,true,(Wv<|(c::(a++b)).drop 7).1⟩;exact⟨y,h1,h2,h3⟩
   ·exact AD a b x
  ·exact AD a b x
def Na(s:Zc):Int:=if (Xd s).2≠0 then 0 else if (Xd s).1>1000000 then 0 else if (Xd s).1 < -1000000 then 0 else (Xd s).1
theorem AG{n:Int}(h:-1000000<=n/\n<=1000000):Na (Yn n)=n:=by unfold Na;rw[Tz (by omega)<|by omega];rw[kA<|fun h=>h rfl,kA (by simp only;omega),kA (by simp only;omega)]
def Ld(s:Zc):Zq:=Df (Lib.cut (Lib.cut s [32]).2.1 [32]).2.1 ⟨Na (Lib.cut s [32]).1,Na (Lib.cut (Lib.cut s [32]).2.1 [32]).1,false,vz⟩
theorem Ytg(n:Int):(32:UInt8) ∉ Yn n:=Sn n (by decide) (by decide)
theorem Xtq{m:Zd}{Vm:Int}{d:Zq}(hm:We m)(hw:Wf d.arg)(hn:Vm<=1000000)(h:Jg m Vm d=true):Ld ((Wt m d).drop 6)=d:=by
 obtain⟨h1,h2,h3,⟨f,hf,hnl,oh⟩,h4,h5⟩:=po h
 have aK:d.func.toNat<m.funcs.length:=by
  rcases jF d.func.toNat m.funcs.length with h|h
  ·exact h
  ·rw[kT h]at hf;cases hf
 have pq:=hm.n
 have e:(Wt m d).drop 6=Yn d.frame++([32]++(Yn d.func++([32]++(quo (Kr m d.func)++(if d.hasArg=true then Gd++Ys d.arg else []))))):=by
  unfold Wt Gd;simp
 have c1:=qz (c:=32) (t:=[]) (a:=Yn d.frame) (b:=Yn d.func++([32]++(quo (Kr m d.func)++(if d.hasArg=true then Gd++Ys d.arg else [])))) (Ytg _);have c2:=qz (c:=32) (t:=[]) (a:=Yn d.func) (b:=quo (Kr m d.func)++(if d.hasArg=true then Gd++Ys d.arg else [])) (Ytg _);unfold Ld;rw[e,c1];simp only;rw[c2];simp only;rw[AG<|by omega,AG<|by omega]
 cases hb:d.hasArg with
 |false=>
  simp only[jL,jT,zA];rw[AB _ [] _ (by rw[jV];exact .inr<|Yqb _)];have:=h5 hb;cases d;simp only at hb this;rw[hb,this]
 |true=>
  simp only[jS];obtain⟨qC,_⟩:=h4 hb
  have e2:quo (Kr m d.func)++(Gd++Ys d.arg)=(34::Kd (Kr m d.func))++(34::(Gd++Ys d.arg)):=by
   unfold quo;simp
  rw[e2];obtain⟨y,y1,y2,y3⟩:=AD (34::Kd (Kr m d.func)) (34::(Gd++Ys d.arg)) ⟨d.frame,d.func,false,vz⟩;rw[y3];unfold Df
  have hc:(Zn By<|34::(Gd++Ys d.arg)).2=true:=by
   show(Zn By<|By++Ys d.arg).2=true;rw[Js]
  have hd:(34::(Gd++Ys d.arg)).drop 7=Ys d.arg:=rfl;rw[kC hc,hd,oD qC hw,kC rfl];rw[AB (Gd++Ys d.arg) [] _ (by rw[jV,Rx,show qa 0 Gd=0 from rfl];exact z1 _)];simp only at y1 y2⊢;rw[y1,y2,<- hb]
end Go.AM

namespace Go.AM
open Go
structure HasD(PG:Zb):Prop extends HasT PG,HasG PG where
 f306:PG.fn 306=some vq
 f316:PG.fn 316=some vr
 f322:PG.fn 322=some vt
 f260:PG.fn 260=some pv
 f266:PG.fn 266=some Of
 f317:PG.fn 317=some vu
 f307:PG.fn 307=some En
 f308:PG.fn 308=some Er
 f318:PG.fn 318=some Ol
 f304:PG.fn 304=none
 o304 :∀s:Zc,s.length<=1000000000->PG.orac 304 [.s s,.s [10]]=some (.sl .ext<|(Lib.split s [10]).map Zv)
 f323:PG.fn 323=none
 o323 :∀s:Zc,s.length<=1000000000->PG.orac 323 [.s s,.s [32],.i .i64 4]=some (.sl .ext<|(Lib.splitN s [32] 4).map Zv)
 f197:PG.fn 197=none
 o197 :∀s p:Zc,s.length<=1000000000->PG.orac 197 [.s s,.s p]=some (.i .i64<|Lib.index s p)
section
variable{PG:Zb}(H:HasD PG)
include H
theorem Wd5{s:Zc}(hs:s.length<=1000000000)(p:Zc):Ze PG 197 [.s s,.s p] (.i .i64<|Lib.index s p):=Ze.orac H.f197 (H.o197 s p hs) rfl
theorem Xf1{s:Zc}(hs:s.length<=1000000000):Ze PG 304 [.s s,.s [10]] (.sl .ext<|(Lib.split s [10]).map Zv):=Ze.orac H.f304 (H.o304 s hs) rfl
theorem Xg6{s:Zc}(hs:s.length<=1000000000):Ze PG 323 [.s s,.s [32],.i .i64 4] (.sl .ext<|(Lib.splitN s [32] 4).map Zv):=Ze.orac H.f323 (H.o323 s hs) rfl
theorem Xtd(s p:Zc):Ze PG 306 [.s s,.s p] (.b (Zn p s).2):=by
 obtain ⟨x,rfl,h⟩:=Xh9 H.f306 (s0:=s) (am:=p) (K:=fun x=>x=(Zn p s).2) (by
  unfold M6;refine⟨_,c46 H.toHas03 s p,?_⟩;unfold Zn;split<;>rename_i h<;>simp [h])
 exact h
theorem Xw2(s p:Zc)(hp:p.length<=1000000000):Ze PG 322 [.s s,.s p] (.s (Zn p s).1):=by
 obtain ⟨x,rfl,h⟩:=Xsv H.f322 (s0:=s) (am:=p) (K:=fun x=>x=(Zn p s).1) (by
  unfold M7;refine⟨_,c46 H.toHas03 s p,fun h=>?_,fun h=>?_⟩
  ·have h:s.take p.length=p:=by simpa using h
   refine⟨by omega,?_,?_⟩
   ·have:=jC List.length h;simp only[kW]at this;omega
   ·unfold Zn;rw[kC h];rfl
  ·have h:¬ s.take p.length=p:=by simpa using h
   unfold Zn;rw [kA h])
 exact h
theorem XU(s p:Zc)(hp:p.length<=1000000000):Ze PG 316 [.s s,.s p] (.s (Zn p s).1):=by
 obtain ⟨x,rfl,h⟩:=Xt3 H.f316 (s0:=s) (am:=p) (K:=fun x=>x=(Zn p s).1) (by
  unfold M8;exact ⟨_,Xw2 H s p hp,rfl⟩)
 exact h
theorem Xds{s p:Zc}(hs:s.length<=1000000000)(hp:p.length<=1000):Ze PG 266 [.s s,.s p] (.tup [.s (Lib.cut s p).1,.s (Lib.cut s p).2.1,.b (Lib.cut s p).2.2]):=by
 obtain ⟨x,y,z,⟨rfl,rfl,rfl⟩,h⟩:=Xgv H.f266 (s0:=s) (gd:=p) (K:=fun x y z=>x=(Lib.cut s p).1/\y=(Lib.cut s p).2.1/\z=(Lib.cut s p).2.2) (by
  unfold M9;refine⟨_,Wd5 H hs p,fun h=>?_,fun h=>?_⟩
  ·have h1:=Lib.index_le s p;have h2:=Lib.index_room s p (by omega);rw[Yq (by omega)<|by omega];unfold Lib.cut;rw[kC<|by omega];refine⟨by omega,by omega,by omega,by omega,rfl,?_,rfl⟩
   congr 1
   omega
  ·unfold Lib.cut;rw[kA<|by omega];exact ⟨rfl,rfl,rfl⟩)
 exact h
theorem M_{s p:Zc}(hs:s.length<=1000000000)(hp:p.length<=1000):Ze PG 260 [.s s,.s p] (.tup [.s (Lib.cut s p).1,.s (Lib.cut s p).2.1,.b (Lib.cut s p).2.2]):=by
 obtain ⟨x,y,z,⟨rfl,rfl,rfl⟩,h⟩:=Xbg H.f260 (s0:=s) (gd:=p) (K:=fun x y z=>x=(Lib.cut s p).1/\y=(Lib.cut s p).2.1/\z=(Lib.cut s p).2.2) (by
  unfold NA;exact ⟨_,_,_,Xds H hs hp,rfl,rfl,rfl⟩)
 exact h
theorem vw(s:Zc):Ze PG 317 [.s s] (.tup [.i .i64 (Xd s).1,.b<|decide<|(Xd s).2=0]):=by
 obtain ⟨x,y,⟨rfl,rfl⟩,h⟩:=Xcx H.f317 (s0:=s) (K:=fun x y=>x=(Xd s).1/\y=decide ((Xd s).2=0)) (by
  unfold NB;exact ⟨_,_,c21 H.toHas03 s,rfl,rfl⟩)
 exact h
theorem Xeh{s:Zc}(hs:s.length<=1000000):Ym PG 307 [.s s] (fun r=>r=.tup [(Dv s).1.avo .full,.b (Dv s).2]):=by
 refine(Xrm H.f307 (s0:=s) (K:=fun x y=>x=(Dv s).1/\y=(Dv s).2) ?_).to ?_
 ·unfold NC ND NF;have l0:(Zn Gy s).1.length<=1000000:=by unfold Zn;split<;>simp<;>omega
  have lc :∀(x p:Zc),x.length<=1000000->(Lib.cut x p).1.length<=1000000/\(Lib.cut x p).2.1.length<=1000000:=by
   intro x p hx;unfold Lib.cut;split<;>simp<;>omega
  have l1:=lc _ Hm l0;refine⟨_,XU H s Gy<|by decide,_,_,_,M_ H (p:=Hm) (by omega)<|by decide,?_⟩;unfold NG;refine⟨_,_,_,M_ H (p:=Bu) (by omega)<|by decide,?_⟩;unfold NH;refine⟨_,_,Xks H.toHasT _,?_⟩;unfold NI NJ NK;refine⟨_,_,vw H _,?_⟩;unfold NL;refine⟨_,_,vw H _,?_⟩;unfold NM Dv NN NO;simp only;generalize Lib.cut (Zn Gy s).1 Hm=a;generalize Lib.cut a.2.1 Bu=b;cases a.2.2<;>cases b.2.2<;>by_cases e1:(Xd b.1).2=0<;>by_cases e2:(Xd b.2.1).2=0<;>simp[e1,e2]
 ·rintro r ⟨x,y,rfl,rfl,rfl⟩;rfl
theorem Yyy{s:Zc}(hs:s.length<=1000000):Ym PG 308 [.s s] (fun r=>r=.tup [.ag [.i .u8 (Qh s).1.status,.i .i64 (Qh s).1.key,.sl .full [],.sl .full [],.sl .full []],.b (Qh s).2]):=by
 have hz:(Qh s).1.frames=[]/\(Qh s).1.defers=[]/\(Qh s).1.panics=[]:=by
  unfold Qh pw
  repeat' split
  all_goals exact⟨rfl,rfl,rfl⟩
 refine(Xy7 H.f308 (s0:=s) (K:=fun x y=>x=(Qh s).1/\y=(Qh s).2) ?_).to ?_
 ·unfold NP;refine⟨_,_,_,M_ H (p:=Mb) (by omega)<|by decide,_,_,Au H.toHas03 _ Bp,fun h=>?_,fun h=>⟨fun h2=>⟨_,_,c21 H.toHas03 _,?_⟩,fun h2=>⟨fun h3=>?_,fun h3=>?_⟩⟩⟩
  ·have h:(Lib.cut s Mb).2.2=false:=by simpa using h
   unfold Qh;rw[kC h];exact⟨rfl,rfl⟩
  all_goals
   have h:¬ (Lib.cut s Mb).2.2=false:=by simpa using h
   unfold Qh;rw[kA h];unfold pw
  ·rw[kC h2];exact⟨rfl,rfl⟩
  ·rw[kA (by rw[h2];exact jR),kC<|show _=Ng from h3];exact⟨rfl,rfl⟩
  ·rw[kA (by rw[h2];exact jR),kA<|show ¬ _=Ng from h3];exact⟨rfl,rfl⟩
 ·rintro r ⟨x,y,rfl,rfl,rfl⟩;rw[hz.1,hz.2.1,hz.2.2];rfl
end
end Go.AM

namespace Go.AM
open Go
section
variable{PG:Zb}(H:HasQ PG)
include H
end
end Go.AM

namespace Go.AM
open Go
section
variable{PG:Zb}(H:HasQ PG)
include H
end
end Go.AM

namespace Go.AM
open Go
theorem NQ(p:Zc)(v:Nat):∀(k:Nat) (s:Zc),(Lib.splitK p v k s).length<=k+1
 |0,_=>kU _
 |k+1,s=>by
  unfold Lib.splitK;split
  ·simp
  ·have:=NQ p v k (s.drop<|(Lib.index s p).toNat+p.length);simp only[kB];omega
theorem NR(p:Zc):∀(k:Nat) (s x:Zc),x∈Lib.splitK p 0 k s->x.length<=s.length
 |0,s,x,h=>by
  simp only[Lib.splitK,jO]at h;rw[h];exact kU _
 |k+1,s,x,h=>by
  unfold Lib.splitK at h;split at h
  ·rw[jO.1 h];exact kU _
  ·rcases jH.1 h with rfl|h
   ·simp;omega
   ·have:=NR p k _ x h;simp at this;omega
noncomputable def Ed (a b:Zi):Bool:=@decide (a=b) (Classical.propDecidable _)
theorem NS{v w:Zi}:Ed v w=true↔v=w:=by unfold Ed;simp
theorem XV{v w:Zi}:Ed v w=false↔v≠w:=by rw[<- zL,NS]
noncomputable def Ex (a b:Zo):Bool:=@decide (a=b) (Classical.propDecidable _)
theorem NT{v w:Zo}:Ex v w=true↔v=w:=by unfold Ex;simp
theorem Xbo{v w:Zo}:Ex v w=false↔v≠w:=by rw[<- zL,NT]
noncomputable def At (a b:List Zh):Bool:=@decide (a=b) (Classical.propDecidable _)
theorem vA{v w:List Zh}:At v w=true↔v=w:=by unfold At;simp
theorem Xmb{v w:List Zh}:At v w=false↔v≠w:=by rw[<- zL,vA]
section
variable{PG:Zb}
theorem Xj5(H:HasD PG){m:Zd}(hm:We m){s:Zc}(hs:s.length<=1000000):∃d b,Ze PG 318 [m.av,.s s] (.tup [Zq.av d,.b b])/\(b=true->Hi m s=some d)/\(b=false->Hi m s=none):=by
 obtain ⟨x,y,⟨h1,h2⟩,h⟩:=Wco H.f318 (m0:=m) (s1:=s) (K:=fun x y=>(y=true->Hi m s=some x)/\(y=false->Hi m s=none)) (by
  have no :∀{d:Zq},Hi m s=none->(Eq false true->Hi m s=some d)/\(Eq false false->Hi m s=none):=fun h=>⟨fun h=>(by cases h),fun _=>h⟩
  unfold NU NV NW;refine⟨_,Xg6 H<|by omega,?_⟩;have hl:(Lib.splitN s [32] 4).length<=4:=kX (NQ _ _ _ _) (by omega);have vB :∀x∈Lib.splitN s [32] 4,x.length<=1000000:=fun x hx=>kX (NR _ _ _ _ hx) hs
  unfold NX;generalize hw:Lib.splitN s [32] 4=w at hl vB;refine⟨fun h=>no ?_,fun h=>?_⟩
  ·unfold Hi;rw[hw]
   match w,h with
   |[],_=>rfl
   |[_],_=>rfl
   |[_,_],_=>rfl
   |[_,_,_],_=>rfl
   |_::_::_::_::r,h=>exact absurd h (by simp only[kB];omega)
  match w,hl,h,hw,vB with
  |[],_,h,_,_=>exact absurd (by simp only[kB,kD];omega) h
  |[_],_,h,_,_=>exact absurd (by simp only[kB,kD];omega) h
  |[_,_],_,h,_,_=>exact absurd (by simp only[kB,kD];omega) h
  |[_,_,_],_,h,_,_=>exact absurd (by simp only[kB,kD];omega) h
  |_::_::_::_::_::r,hl,_,_,_=>simp only[kB]at hl;omega
  |[z,a,b,c],_,_,hw,vB=>
  have e:Hi m s=Mn m a b c:=by unfold Hi;rw[hw]
  have hc:c.length<=1000000:=vB c (by simp);rw[e]at no⊢;unfold NY NZ;refine⟨a,rfl,_,_,vw H a,?_⟩;unfold N0;refine⟨b,rfl,_,_,vw H b,?_⟩;unfold N1;refine⟨fun h=>no ?_,fun h1=>⟨fun h=>no ?_,fun h2=>⟨fun h=>no ?_,fun h3=>⟨fun h=>no ?_,fun h4=>?_⟩⟩⟩⟩
  ·unfold Mn;rw[kC<|.inl<|by simpa using h]
  ·unfold Mn;rw[kC<|.inr<|.inl<|by simpa using h]
  ·unfold Mn;rw[kC<|.inr<|.inr<|.inl h]
  ·unfold Mn;rw[kC<|.inr<|.inr<|.inr h]
  have h1:(Xd a).2=0:=by simpa using h1
  have h2:(Xd b).2=0:=by simpa using h2
  simp only at h3 h4;have hn:(Xd b).1.toNat<m.funcs.length:=by omega
  have px:¬ ((Xd a).2≠0\/(Xd b).2≠0\/(Xd b).1<0\/(m.funcs.length:Int)<=(Xd b).1):=by omega
  have hq:Sj (m.funcs[(Xd b).1.toNat]).name=(quo<|Kr m (Xd b).1,0):=by
   have:=(hm.f _<|kL hn).1;unfold Sj Kr;rw[kA<|by omega,kH hn,xF]
  unfold N2;refine⟨by simp only;omega,_,kH hn,_,_,c11 H.toHas03 _,c,rfl,_,_,Au H.toHas03 _ _,?_⟩;rw[hq];refine⟨fun h=>absurd rfl h,fun _=>⟨fun h=>no ?_,fun h=>?_⟩⟩
  ·unfold Mn;rw[kA px,kC<|by simpa using h]
  have iM:¬ (Zn (quo<|Kr m (Xd b).1) c).2=false:=by simpa using h
  have e2:Mn m a b c=Cv (Xd a).1 (Xd b).1 (Zn (quo<|Kr m (Xd b).1) c).1:=by unfold Mn;rw[kA px,kA iM]
  rw[e2]at no⊢;have hr:(Zn (quo<|Kr m (Xd b).1) c).1.length<=1000000:=by unfold Zn;split<;>simp<;>omega
  generalize (Zn (quo<|Kr m (Xd b).1) c).1=r at no hr;unfold N3;refine⟨fun h=>?_,fun h=>⟨_,XU H r Gd<|by decide,_,_,c74 H.toHas38 ?_,?_,?_⟩⟩
  ·unfold Cv;rw[kC h];exact⟨fun _=>rfl,fun h=>by cases h⟩
  ·unfold Zn;split<;>simp<;>omega
  ·intro h3;have h3:=zR h3;unfold Cv;rw[kA h,kC h3]
  ·intro h3;have h3:=zP h3;unfold Cv;rw [kA h,kA h3])
 exact⟨x,y,h,h1,h2⟩
theorem Xlw(H:HasQ PG){a b:List Zh}(hl:a.length<=9223372036854775807)(hw :∀p∈a,Wf p.value):Ze PG 170 [.sl .ext<|a.map Zh.row,.sl .ext<|b.map Zh.row] (.b<|At a b):=by
 obtain ⟨x,rfl,h⟩:=Xt1 H.f170 (a0:=a) (b1:=b) (K:=fun x=>x=At a b) (by
  have no :∀{p:Prop},(a=b->p)->¬p->false=At a b:=fun h1 h2=>(Xmb.2 fun h=>h2<|h1 h).symm
  unfold N4;refine⟨fun h=>no (fun e=>by rw[e]) h,fun h P hP=>?_⟩;have h5:a.length=b.length:=by omega
  refine Ds (P:=P) a.length (fun i=>a.take i=b.take i) (by simp) (fun hI=>hP _ ?_) (fun i hi hI bQ=>hP _ ?_)
  ·unfold vC N5;refine⟨fun h=>absurd h<|by omega,fun _=>?_⟩;rw[kQ,h5,kQ]at hI;exact(vA.2 hI).symm
  ·have bK:i<b.length:=by omega
   unfold vC;refine⟨fun _=>⟨by omega,_,Xi hi,by omega,_,Xi bK,_,Xtv H.toHasP<|hw _<|kL hi,fun h7=>no (p:=a[i]=b[i]) (fun e=>by subst e;rfl) (fun e=>by rw[WY.2 e]at h7;cases h7),fun h7=>?_⟩,fun h=>absurd (show(i:Int)<a.length by omega) h⟩;rw[Yq (by omega)<|by omega];refine bQ ?_;have e:a[i]=b[i]:=WY.1 (by simpa using h7);rw [kM hi,kM bK,hI,e])
 exact h
theorem Xyu(H:HasT PG)(hf:PG.fn 314=some Ay){a b:Zi}(ha:N6 a):Ze PG 314 [a.av,b.av] (.b<|Ed a b):=by
 obtain ⟨x,rfl,h⟩:=Xcv hf (a0:=a) (b1:=b) (K:=fun x=>x=Ed a b) (by
  have no :∀{p:Prop},(a=b->p)->¬p->false=Ed a b:=fun h1 h2=>(XV.2 fun h=>h2<|h1 h).symm
  have eI:=ha.fl;have mm:=ha.dl;unfold N7 N8;refine⟨fun h=>no (fun e=>by rw[e]) h,fun e1=>⟨fun h=>no (fun e=>by rw[e]) h,fun e2=>⟨fun h=>no (fun e=>by rw[e]) h,fun e3=>⟨fun h=>no (fun e=>by rw[e]) h,fun e4=>⟨_,Xlw H.toHasQ ha.pl fun p hp=>(ha.p p hp).v,fun h=>no (p:=a.panics=b.panics) (fun e=>by rw[e]) (fun e=>by rw[vA.2 e]at h;cases h),fun e5=>?_⟩⟩⟩⟩⟩;have e5:a.panics=b.panics:=vA.1 (by simpa using e5);unfold N9;intro P hP;refine Ds (P:=P) a.frames.length (fun i=>a.frames.take i=b.frames.take i) (by simp) (fun hI=>hP _ ?_) (fun i hi hI bQ=>hP _ ?_)
  ·unfold vD N_;refine⟨fun h=>absurd h<|by omega,fun _ P hP=>?_⟩;have e3':a.frames.length=b.frames.length:=by omega
   rw[kQ,e3',kQ]at hI;refine Ds (P:=P) a.defers.length (fun i=>a.defers.take i=b.defers.take i) (by simp) (fun hJ=>hP _ ?_) (fun i hi hJ bQ=>hP _ ?_)
   ·unfold vE OA;refine⟨fun h=>absurd h<|by omega,fun _=>?_⟩;have OB:a.defers.length=b.defers.length:=by omega
    rw[kQ,OB,kQ]at hJ;refine(NS.2 ?_).symm;have e1:=kP.1 e1;have e2:=kP.1 e2;cases a;cases b;simp only at e1 e2 e5 hI hJ;rw[e1,e2,e5,hI,hJ]
   ·have bK:i<b.defers.length:=by omega
    unfold vE;refine⟨fun _=>⟨by omega,_,Xi hi,by omega,_,Xi bK,fun h=>no (p:=a.defers[i].frame=b.defers[i].frame) (fun e=>by subst e;rfl) h,fun h1=>⟨fun h=>no (p:=a.defers[i].func=b.defers[i].func) (fun e=>by subst e;rfl) h,fun h2=>⟨fun h=>no (p:=a.defers[i].hasArg=b.defers[i].hasArg) (fun e=>by subst e;rfl) h,fun h3=>⟨_,c78 H.toHas38 (ha.d _<|kL hi) _,fun h=>no (p:=a.defers[i].arg=b.defers[i].arg) (fun e=>by subst e;rfl)<|Fd.1<|by simpa using h,fun h4=>?_⟩⟩⟩⟩,fun h=>absurd (show(i:Int)<a.defers.length by omega) h⟩;rw[Yq (by omega)<|by omega];refine bQ ?_
    have e:a.defers[i]=b.defers[i]:=by
     have h1:=kP.1 h1;have h2:=kP.1 h2;have h3:=kP.1 h3;have h4:=Tv.1 (show Ta _ _=true by simpa using h4);revert h1 h2 h3 h4;generalize a.defers[i]=x;generalize b.defers[i]=y;intro h1 h2 h3 h4;cases x;cases y;simp only at h1 h2 h3 h4;rw[h1,h2,h3,h4]
    rw[kM hi,kM bK,hJ,e]
  ·have bK:i<b.frames.length:=by omega
   unfold vD;refine⟨fun _=>⟨by omega,_,Xi hi,by omega,_,Xi bK,_,c88 H.toHasF<|ha.f _<|kL hi,fun h=>no (p:=a.frames[i]=b.frames[i]) (fun e=>by subst e;rfl)<|V2.1<|by simpa using h,fun h=>?_⟩,fun h=>absurd (show(i:Int)<a.frames.length by omega) h⟩;rw[Yq (by omega)<|by omega];refine bQ ?_;have e:a.frames[i]=b.frames[i]:=V1.1 (by simpa using h);rw [kM hi,kM bK,hI,e])
 exact h
theorem Xbh(H:HasT PG)(hf:PG.fn 314=some Ay)(pA:PG.fn 302=some pB){a b:Zo}(ha:vF a):Ze PG 302 [a.av,b.av] (.b<|Ex a b):=by
 obtain ⟨x,rfl,h⟩:=Yza pA (a0:=a) (b1:=b) (K:=fun x=>x=Ex a b) (by
  have no :∀{p:Prop},(a=b->p)->¬p->false=Ex a b:=fun h1 h2=>(Xbo.2 fun h=>h2<|h1 h).symm
  have hl:=ha.n;unfold OC;refine⟨fun h=>no (fun e=>by rw[e]) h,fun e1=>⟨fun h=>no (fun e=>by rw[e]) h,fun e2=>⟨fun h=>no (fun e=>by rw[e]) h,fun e3=>⟨fun h=>no (fun e=>by rw[e]) h,fun e4=>?_⟩⟩⟩⟩;unfold OD;intro P hP;refine Ds (P:=fun i=>P i a b) a.routines.length (fun i=>a.routines.take i=b.routines.take i) (by simp) (fun hI=>hP _ _ _ ?_) (fun i hi hI bQ=>hP _ _ _ ?_)
  ·unfold vG OE;refine⟨fun h=>absurd h<|by omega,fun _=>?_⟩;have OB:a.routines.length=b.routines.length:=by omega
   rw[kQ,OB,kQ]at hI;refine(NT.2 ?_).symm;have e1:=kP.1 e1;have e2:=kP.1 e2;have e3:=kP.1 e3;cases a;cases b;simp only at e1 e2 e3 hI;rw[e1,e2,e3,hI]
  ·have bK:i<b.routines.length:=by omega
   unfold vG;refine⟨fun _=>⟨by omega,_,Xi hi,by omega,_,Xi bK,_,Xyu H hf<|ha.r _<|kL hi,fun h=>no (p:=a.routines[i]=b.routines[i]) (fun e=>by subst e;rfl)<|XV.1<|by simpa using h,fun h=>?_⟩,fun h=>absurd (show(i:Int)<a.routines.length by omega) h⟩;rw[Yq (by omega)<|by omega];refine bQ ?_;have e:a.routines[i]=b.routines[i]:=NS.1 (by simpa using h);rw [kM hi,kM bK,hI,e])
 exact h
end
end Go.AM

namespace Go.AM
open Go
attribute [local irreducible] WO Ve Vd
set_option maxRecDepth 4000
def Ku(p:Zc):List Zc->Zc × Bool × List Zc
 |[]=>([],false,[])
 |x::r=>if (Zn p x).2=true then (x,true,r)else ([],false,x::r)
def Rm(PG:Zb):Prop:=∀(p:Zc) (d:Nat) (st:St) (k:Zt) (v:Nat) (l:List Zc),k.1<d->lk st.bx k=some (v,[.sl .ext<|l.map Zv])->
 ∃aA,Fn PG d 305 [.s p,.p k v 0] st (.tup [.s (Ku p l).1,.b (Ku p l).2.1]) aA/\aA.ow=st.ow/\lk aA.bx k=some (v,[.sl .ext<|(Ku p l).2.2.map Zv])/\∀k':Zt,k'.1<d->k'≠k->lk aA.bx k'=lk st.bx k'
theorem Pd{bx:Wn}{d:Nat}{k:Zt}(hk:k.1<d):lk (bx.filter fun x=>x.1.1<d) k=lk bx k:=Ie hk
theorem XW{PG:Zb}(H:HasD PG)(hf:PG.fn 305=some pC):Rm PG:=by
 intro p d st k v l hk hb;have main:=Fn.of' (PG:=PG) (d:=d) (args:=[.s p,.p k v 0]) (st:=st) (K:=fun r aA=>r=.tup [.s (Ku p l).1,.b (Ku p l).2.1]/\aA.ow=st.ow/\lk aA.bx k=some (v,[.sl .ext<|(Ku p l).2.2.map Zv])/\∀k':Zt,k'.1<d->k'≠k->lk aA.bx k'=lk st.bx k') hf (jE rfl) ?_
 ·obtain⟨r,aA,h1,rfl,h2⟩:=main;exact⟨aA,h1,h2⟩
 -- nothing left of that kind: the result is ("",false)
 have no :∀{U:Sl}{nx:Nat},Ku p l=([],false,l)->W PG d (.seq (.reg 2 XX) .ret) U ⟨nx,st.bx,st.ow⟩ (Zk PG d XY (Ca d pC.res fun r aA=>r=.tup [.s (Ku p l).1,.b (Ku p l).2.1]/\aA.ow=st.ow/\lk aA.bx k=some (v,[.sl .ext<|(Ku p l).2.2.map Zv])/\∀k':Zt,k'.1<d->k'≠k->lk aA.bx k'=lk st.bx k')):=by
  intro U nx hn;rw[hn];refine q_ rfl (m_<|m_<|e_<|Sq ⟨_,rfl,rfl,rfl,?_,fun k' h1 h2=>?_⟩)
  ·exact(Pd hk).trans hb
  ·exact Pd h1
 show W PG d XZ (Wg [.s p,.p k v 0]) st _;refine q_ rfl (m_<|m_<|e_<|Zl<|q_ rfl<|l_ rfl hb rfl rfl ?_)
 cases l with
 |nil=>
  refine Xq (l:=([]:List Zc)) (f:=Zv) rfl (To (a:=.i .i64 0) (b:=.i .i64 0) (v:=.b true) rfl rfl rfl<|m_ ?_);refine Dc (b:=true) rfl rfl (Dc (b:=true) rfl rfl<|Dc (b:=true) rfl rfl<|Dc (b:=true) rfl rfl<|Dc (b:=true) rfl rfl<|Dc (b:=true) rfl rfl ?_);exact Gz rfl rfl (e_<|Xh rfl<|no rfl)
 |cons x r=>
  have aQ:decide (((x::r).length:Int)=0)=false:=by simp;omega
  refine Xq (l:=x::r) (f:=Zv) rfl (To (a:=.i .i64 ((x::r).length:Int)) (b:=.i .i64 0) (v:=.b false) rfl rfl (by rw[UF,aQ])<|m_ ?_);refine Zg rfl (l_ rfl hb rfl rfl<|Zg rfl<|Xy (l:=x::r) (f:=Zv) rfl rfl (by decide) rfl rfl rfl<|Zg rfl<|Xx rfl rfl rfl<|Zg rfl<|m_ ?_);refine Zg rfl (Yh (sc rfl rfl<|sc rfl rfl sn) (Xtd H x p)<|Zg rfl<|Wa rfl<|Vt rfl rfl<|e_ ?_);by_cases hc:(Zn p x).2=true
  ·have hn:Ku p (x::r)=(x,true,r):=by simp only[Ku,kC hc]
   rw[hn];refine Qp (show AV.b (!(Zn p x).2)=_ by rw[hc];rfl) (Ya ?_);refine q_ rfl (l_ rfl hb rfl rfl<|Xy (l:=x::r) (f:=Zv) rfl rfl (by decide) rfl rfl rfl<|Xx rfl rfl rfl<|m_<|e_ ?_);refine q_ rfl (l_ rfl hb rfl rfl<|X0 (l:=x::r) (f:=Zv) Bs rfl rfl (by decide) (by simp)<|Zy rfl hb rfl rfl rfl<|e_ ?_);refine q_ rfl (m_<|m_<|m_<|e_<|Sq ⟨_,rfl,rfl,rfl,?_,fun k' h1 h2=>?_⟩)
   ·exact(Pd hk).trans Zj
   ·exact(Pd h1).trans (Dm<|fun e=>h2 e.symm)
  ·have hn:Ku p (x::r)=([],false,x::r):=by simp only[Ku,kA hc]
   have hc:(Zn p x).2=false:=by simpa using hc
   exact Xh (show AV.b (!(Zn p x).2)=_ by rw[hc];rfl) (no hn)
end Go.AM

namespace Go.AM
open Go
attribute [local irreducible] WO Ve Vd
set_option maxRecDepth 4000
set_option maxHeartbeats 1000000
def Kt(d:Nat)(kl kx:Zt)(bx:Wn)(ow:Wl)(bx':Wn)(ow':Wl):Prop:=
 (∀k':Zt,k'.1<d->k'≠kl->k'≠kx->lk bx' k'=lk bx k')/\(∀k':Zt,k'.1<d->lk ow' k'=lk ow k')
theorem Kt.app{S:List Nat}{d n site:Nat}{kl kx:Zt}{bx bx':Wn}{ow OF cH:Wl}{o:Zr}(h:Kt d kl kx bx ow bx' OF)(ha:Xn S d OF o n)(hw :∀k',some k'≠Qn o->k'≠(d,site)->lk cH k'=lk OF k'):Kt d kl kx bx ow bx' cH:=by
 refine⟨h.1,fun k' h1=>(hw k' ?_ ?_).trans<|h.2 k' h1⟩
 ·intro e
  cases o with
  |ext=>cases e
  |full=>cases e
  |id k v=>
   injection e with e;subst e;have:=(ha.2 _ _ rfl).1;omega
 ·rintro rfl;exact zH _ h1
theorem Kt.here{d:Nat}{kl kx:Zt}{bx bx':Wn}{ow ow':Wl}{s:Nat}{a:Nat × List AV}(h:Kt d kl kx bx ow bx' ow'):Kt d kl kx bx ow (Xm bx' (d,s) a) ow':=
 ⟨fun k' h1 h2 h3=>(Dm (by rintro rfl;exact zH _ h1)).trans<|h.1 k' h1 h2 h3,h.2⟩
theorem Kt.setX{d:Nat}{kl kx:Zt}{bx bx':Wn}{ow ow':Wl}{a:Nat × List AV}(h:Kt d kl kx bx ow bx' ow'):Kt d kl kx bx ow (Xm bx' kx a) ow':=
 ⟨fun k' h1 h2 h3=>(Dm<|fun e=>h3 e.symm).trans<|h.1 k' h1 h2 h3,h.2⟩
theorem Kt.next{d:Nat}{kl kx:Zt}{bx bx' dF:Wn}{ow ow':Wl}(h:Kt d kl kx bx ow bx' ow')(c :∀k':Zt,k'.1<d+1->k'≠kl->lk dF k'=lk bx' k'):Kt d kl kx bx ow dF ow':=
 ⟨fun k' h1 h2 h3=>(c k' (kV h1) h2).trans<|h.1 k' h1 h2 h3,h.2⟩
section
variable{PG:Zb}{d id base i:Nat}{U:Sl}{st:St}{K:Sl->St->Prop}{r:List AI}{t:Option Nat}{x y:Zw}
theorem Si{args:List Zw}{p:Zc}{k:Zt}{v:Nat}{l:List Zc}(hL:Rm PG)(hx:x.ev U=.fn 305 [.p k v 0])(hs:Vy U args=[.s p])(hk:k.1<d+1)(hb:lk st.bx k=some (v,[.sl .ext<|l.map Zv]))
  (h :∀(dG:Nat) (bx':Wn),lk bx' k=some (v,[.sl .ext<|(Ku p l).2.2.map Zv])->(∀k':Zt,k'.1<d+1->k'≠k->lk bx' k'=lk st.bx k')->WO PG d id base (i+1) r (Yb U t<|.tup [.s (Ku p l).1,.b (Ku p l).2.1]) ⟨dG,bx',st.ow⟩ K):WO PG d id base i (⟨t,.callv x args,none⟩::r) U st K:=by refine Gi ?_;obtain⟨⟨dG,bx',ow'⟩,h1,h2,h3,h4⟩:=hL p (d+1) st k v l hk hb;simp only at h2 h3 h4;subst h2;show nv (x.ev U) (Vy U args) (fun g l=>WF PG (d+1) g l st _);rw[hx,hs];exact⟨_,_,h1,h dG bx' h3 h4⟩
end
abbrev xc(s k:Int)(o1 o2 o3:Zr)(fs:List Zf)(ds:List Zq)(ps:List Zh):List AV:=[.i .u8 s,.i .i64 k,.sl o1<|fs.map Zf.row,.sl o2<|ds.map Zq.row,.sl o3<|ps.map Zh.row]
structure MB(d:Nat)(kl:Zt)(vl:Nat)(kx:Zt)(vx v0:Nat)(m:Zd)(s k:Int)(bx0:Wn)(ow0:Wl)(bx:Wn)(ow:Wl)(l:List Zc)(o1 o2 o3:Zr)(fs:List Zf)(ds:List Zq)(ps:List Zh):Prop where
 b0:lk bx (d,0)=some (v0,[.sl .ext<|List.map Vv.row m.types,.sl .ext<|List.map Zv m.texts,.sl .ext<|List.map Zz.row m.funcs])
 bl:lk bx kl=some (vl,[.sl .ext<|l.map Zv])
 bX:lk bx kx=some (vx,xc s k o1 o2 o3 fs ds ps)
 fr:Kt d kl kx bx0 ow0 bx ow
section
variable{PG:Zb}{d:Nat}{kl:Zt}{vl:Nat}{kx:Zt}{vx v0:Nat}{m:Zd}{s k:Int}{bx0:Wn}{ow0:Wl}{bx:Wn}{ow:Wl}{l:List Zc}{o1 o2 o3:Zr}{fs:List Zf}{ds:List Zq}{ps:List Zh}
theorem MB.next{bx':Wn}{l':List Zc}(h:MB d kl vl kx vx v0 m s k bx0 ow0 bx ow l o1 o2 o3 fs ds ps)(hn:kl≠kx)(hl:kl.1<d)(hx:kx.1<d)(h1:lk bx' kl=some (vl,[.sl .ext<|l'.map Zv]))(h2 :∀k':Zt,k'.1<d+1->k'≠kl->lk bx' k'=lk bx k'):MB d kl vl kx vx v0 m s k bx0 ow0 bx' ow l' o1 o2 o3 fs ds ps:=
 ⟨(h2 (d,0) (kG d) (by rintro rfl;exact zH _ hl)).trans h.b0,h1,(h2 kx (by omega)<|fun e=>hn e.symm).trans h.bX,h.fr.next h2⟩
theorem MB.here{site:Nat}{a:Nat × List AV}(h:MB d kl vl kx vx v0 m s k bx0 ow0 bx ow l o1 o2 o3 fs ds ps)(hl:kl.1<d)(hx:kx.1<d)(hs:Nat.beq site 0=false):MB d kl vl kx vx v0 m s k bx0 ow0 (Xm bx (d,site) a) ow l o1 o2 o3 fs ds ps:=
 ⟨Zm hs h.b0,(Dm (by rintro rfl;exact zH _ hl)).trans h.bl,(Dm (by rintro rfl;exact zH _ hx)).trans h.bX,h.fr.here⟩
theorem MB.setX{X1 X2 X3:Zr}{X4:List Zf}{X5:List Zq}{X6:List Zh}(h:MB d kl vl kx vx v0 m s k bx0 ow0 bx ow l o1 o2 o3 fs ds ps)(hn:kl≠kx)(hx:kx.1<d):MB d kl vl kx vx v0 m s k bx0 ow0 (Xm bx kx (vx,xc s k X1 X2 X3 X4 X5 X6)) ow l X1 X2 X3 X4 X5 X6:=
 ⟨(Dm (by rintro rfl;exact zH _ hx)).trans h.b0,(Dm<|fun e=>hn e.symm).trans h.bl,Zj,h.fr.setX⟩
theorem MB.app{S:List Nat}{n site:Nat}{cH:Wl}{o:Zr}(h:MB d kl vl kx vx v0 m s k bx0 ow0 bx ow l o1 o2 o3 fs ds ps)(ha:Xn S d ow o n)(hw :∀k',some k'≠Qn o->k'≠(d,site)->lk cH k'=lk ow k'):MB d kl vl kx vx v0 m s k bx0 ow0 bx cH l o1 o2 o3 fs ds ps:=
 ⟨h.b0,h.bl,h.bX,h.fr.app ha hw⟩
end
abbrev S9:List Nat:=[24580]
abbrev SF:List Nat:=[40967]
abbrev SD:List Nat:=[65543]
abbrev SP:List Nat:=[94215]
theorem Iw{p x:Zc}{r:List Zc}(h:(Zn p x).2=true):Ku p (x::r)=(x,true,r):=by simp only[Ku,kC h]
theorem Tl{p:Zc}{l:List Zc}(h :∀x r,l=x::r->(Zn p x).2=false):Ku p l=([],false,l):=by
 cases l with
 |nil=>rfl
 |cons x r=>simp only[Ku,kA (show ¬ (Zn p x).2=true by rw[h x r rfl];exact jR)]
theorem So{p x:Zc}(h:(Zn p x).2=true):p.length<=x.length:=by
 unfold Zn at h;split at h
 ·rename_i e;have:=jC List.length e;simp only[kW]at this;omega
 ·cases h
section
variable{PG:Zb}{d:Nat}{kl:Zt}{vl:Nat}{kx:Zt}{vx v0:Nat}{m:Zd}{s k:Int}{bx0:Wn}{ow0:Wl}
theorem Wc4(hL:Rm PG)(hn:kl≠kx)(hl:kl.1<d)(hx:kx.1<d){Q:Q0}{fs:List Zf}{o1:Zr}:∀(r acc:List Zc) (U:Sl) (nx:Nat) (bx:Wn) (ow:Wl) (o9:Zr),acc.length+r.length<=1000000->
  U 1=.p kx vx 0->U 2=.fn 305 [.p kl vl 0]->U 3=.p (d,0) v0 0->U 9=.sl o9 (acc.map Zv)->MB d kl vl kx vx v0 m s k bx0 ow0 bx ow r o1 .full .full fs [] []->Xn SF d ow o1 fs.length->Xn S9 d ow o9 acc.length->
  (∀(U:Sl) (nx:Nat) (bx:Wn) (ow:Wl) (o9:Zr),U 1=.p kx vx 0->U 2=.fn 305 [.p kl vl 0]->U 3=.p (d,0) v0 0->U 9=.sl o9 ((acc++(Vh r).1).map Zv)->MB d kl vl kx vx v0 m s k bx0 ow0 bx ow (Vh r).2 o1 .full .full fs [] []->Xn SF d ow o1 fs.length->Q .normal U ⟨nx,bx,ow⟩)->
  W PG d (.loop X7) U ⟨nx,bx,ow⟩ (Zs 2 Q):=by
 intro r
 induction r with
 |nil=>
  intro acc U nx bx ow o9 hlen h1 h2 h3 h9 hB hF hA hK;refine W.loop (Yg<|q_ rfl<|m_<|Si (p:=t4) (l:=[]) hL h2 rfl (by omega) hB.bl fun dG bx' bI bY=>?_);rw[Tl (p:=t4) (l:=[])<|fun _ _ e=>by cases e]at bI⊢;refine m_ (x_ rfl rfl<|x_ rfl rfl<|m_<|m_<|e_ ?_);refine Zl (q_ rfl<|m_<|Wa (a:=false) rfl<|e_<|Xh rfl<|Vg ?_);refine hK _ _ _ _ o9 h1 h2 h3 ?_ (hB.next hn hl hx bI bY) hF;show U 9=_;rw[h9];simp[Vh]
 |cons x r ih=>
  intro acc U nx bx ow o9 hlen h1 h2 h3 h9 hB hF hA hK;refine W.loop (Yg<|q_ rfl<|m_<|Si (p:=t4) (l:=x::r) hL h2 rfl (by omega) hB.bl fun dG bx' bI bY=>?_);by_cases hc:(Zn t4 x).2=true
  ·rw[Iw hc]at bI⊢;have h4:=So hc;have h4:4<=x.length:=h4;have hB:=hB.next hn hl hx bI bY
   simp only[kB]at hlen;refine m_ (x_ rfl rfl<|x_ rfl rfl<|m_<|m_<|e_ ?_);refine Zl (q_ rfl<|m_<|Wa (a:=true) rfl<|e_<|Qp rfl<|Ya ?_);refine W.reg0 rfl fun iJ hnx=>?_
   refine Yf h9 (Ki (l:=x) rfl<|Jo (l:=x) (n:=2) rfl rfl (by decide) (by simp;omega) ?_);refine Wr (f:=Zv) (l:=[x.drop 2]) rfl rfl (Yl rfl rfl rfl Wi) rfl ?_;refine Jq (f:=Zv) (l:=acc) (m:=[x.drop 2]) Bs rfl rfl rfl hA.1 ⟨?_,?_⟩ rfl fun o' ow' a1 a2 a3=>?_
   ·simp only[kB,kD,Xk];omega
   ·simp only[kB,kD,Xk];omega
   refine m_ (e_ ?_);refine ih (acc++[x.drop 2]) _ _ _ _ o' (by simp only[kF,kB,kD];omega) h1 h2 h3 rfl (hB.app hA a2) (hF.keep hA a2 rfl rfl) (hA.new a1 a3 rfl) ?_;intro U nx bx ow o9 g1 g2 g3 g9 gB gF;refine hK U nx bx ow o9 g1 g2 g3 ?_ ?_ gF
   ·rw[g9];simp[Vh,hc]
   ·have:(Vh<|x::r).2=(Vh r).2:=by simp[Vh,hc]
    rw[this];exact gB
  ·have hc:(Zn t4 x).2=false:=by simpa using hc
   rw[Tl (p:=t4) (l:=x::r) (fun _ _ e=>by injection e with e1 e2;rw[<- e1];exact hc)]at bI⊢;refine m_ (x_ rfl rfl<|x_ rfl rfl<|m_<|m_<|e_ ?_);refine Zl (q_ rfl<|m_<|Wa (a:=false) rfl<|e_<|Xh rfl<|Vg ?_);have e1:Vh (x::r)=([],x::r):=by simp[Vh,hc]
   rw[e1]at hK;refine hK _ _ _ _ o9 h1 h2 h3 ?_ (hB.next hn hl hx bI bY) hF;show U 9=_;rw[h9];simp
theorem Eu:∀r:List Zc,(Vh r).1.length<=r.length/\(Vh r).2.length<=r.length/\∀x∈(Vh r).2,x∈r
 |[]=>⟨kU _,kU _,fun x h=>h⟩
 |x::r=>by
  have ih:=Eu r;unfold Vh;split
  ·exact⟨by simpa using ih.1,Nat.le_succ_of_le ih.2.1,fun y h=>jJ _<|ih.2.2 y h⟩
  ·exact⟨zO _,kU _,fun y h=>h⟩
theorem OG{k:Zt}{x:AV}(h:Nat.blt k.2 Wo=true):Ra k x=true:=by unfold Ra;rw[h];rfl
theorem Xm3(H:HasD PG)(hL:Rm PG)(hm:We m)(hn:kl≠kx)(hl:kl.1<d)(hx:kx.1<d)(gJ:Nat.blt kx.2 Wo=true){Q:Q0}:∀(n:Nat) (l:List Zc) (fs:List Zf) (U:Sl) (nx:Nat) (bx:Wn) (ow:Wl) (o1:Zr),l.length<n->fs.length+l.length<=500000->
  U 1=.p kx vx 0->U 2=.fn 305 [.p kl vl 0]->U 3=.p (d,0) v0 0->MB d kl vl kx vx v0 m s k bx0 ow0 bx ow l o1 .full .full fs [] []->Xn SF d ow o1 fs.length->
  (∀(U:Sl) (nx:Nat) (bx:Wn) (ow:Wl),Ux m n l=none->U 6=.b false->Kt d kl kx bx0 ow0 bx ow->Q .ret U ⟨nx,bx,ow⟩)->
  (∀(U:Sl) (nx:Nat) (bx:Wn) (ow:Wl) (o1:Zr) (z:List Zf × List Zc),Ux m n l=some z->U 1=.p kx vx 0->U 2=.fn 305 [.p kl vl 0]->U 3=.p (d,0) v0 0->MB d kl vl kx vx v0 m s k bx0 ow0 bx ow z.2 o1 .full .full (fs++z.1) [] []->Q .normal U ⟨nx,bx,ow⟩)->
  W PG d (.loop X8) U ⟨nx,bx,ow⟩ (Zs 0 Q):=by
 intro n
 induction n with
 |zero=>intro l fs U nx bx ow o1 h;omega
 |succ n ih=>
 intro l fs U nx bx ow o1 hlen aM h1 h2 h3 hB hA hF hK;refine W.loop (Yg<|q_ rfl<|m_<|Si (p:=Rl) (l:=l) hL h2 rfl (by omega) hB.bl fun dG bx' bI bY=>?_);by_cases dE :∀x r,l=x::r->(Zn Rl x).2=false
 ·rw[Tl dE]at bI⊢;have hB:=hB.next hn hl hx bI bY
  refine m_ (x_ rfl rfl<|x_ rfl rfl<|m_<|m_<|e_ ?_);refine Zl (q_ rfl<|m_<|Wa (a:=false) rfl<|e_<|Xh rfl<|Vg ?_);refine hK _ _ _ _ o1 ([],l) ?_ h1 h2 h3 ?_
  ·cases l with
   |nil=>rfl
   |cons x r=>simp only[Ux,kA (show ¬ (Zn Rl x).2=true by rw[dE x r rfl];exact jR)]
  ·simpa using hB
 cases l with
 |nil=>exact absurd (fun _ _ e=>by cases e) dE
 |cons x r=>
 have hc:(Zn Rl x).2=true:=by
  by_cases h:(Zn Rl x).2=true
  ·exact h
  ·exact absurd (fun y s e=>by injection e with e1 e2;rw[<- e1];simpa using h) dE
 rw[Iw hc]at bI⊢;have h4:3<=x.length:=So hc;have hB:=hB.next hn hl hx bI bY
 simp only[kB]at hlen aM;have hs:=Eu r;refine m_ (x_ rfl rfl<|x_ rfl rfl<|m_<|m_<|e_ ?_);refine Zl (q_ rfl<|m_<|Wa (a:=true) rfl<|e_<|Qp rfl<|Ya ?_);refine q_ rfl (Ki (l:=x) rfl<|Jo (l:=x) (n:=2) rfl rfl (by decide) (by simp;omega)<|Wr (f:=Zv) (l:=[x.drop 2]) rfl rfl (Yl rfl rfl rfl Wi) rfl<|m_<|e_ ?_);refine Zl (Yg<|Wc4 (v0:=v0) (m:=m) (s:=s) (k:=k) (bx0:=bx0) (ow0:=ow0) (fs:=fs) (o1:=o1) hL hn hl hx r [x.drop 2] _ _ _ _ .full (by simp only[kB,kD];omega) h1 h2 h3 rfl hB hA Xn.full ?_);intro U nx bx ow o9 h1 h2 h3 h9 hB hA;show W PG d X9 U _ _;generalize vH:([x.drop 2]++(Vh r).1)=ls at h9;have OH:x.drop 2::(Vh r).1=ls:=vH;have hll:ls.length<=1000000:=by rw[<- vH];simp only[kF,kB,kD];omega
 have aW:=c84 H.toHasG hm (l:=ls) (by omega)
 have lT:Ux m (n+1) (x::r)=if (Jy m ls).2.2=0 then (Ux m n (Vh r).2).map fun z=>((Jy m ls).2.1::z.1,z.2)else none:=by
  conv=>lhs;unfold Ux
  rw[kC hc,OH]
 rw[lT]at hF hK;generalize hrf:Jy m ls=R at aW hF hK;obtain⟨ra,F,re⟩:=R;simp only at aW hF hK;refine Zl (W.reg ?_);change WO PG d 7 nx 0 OI U ⟨nx+OI.length,Xm bx (d,28679) (nx+7,[.i .i64 0,.i .i64 0,.i .u64 0,.sl .full []]),ow⟩ _;have hB:=hB.here (site:=28679) (a:=(nx+7,[.i .i64 0,.i .i64 0,.i .u64 0,.sl .full []])) hl hx rfl;refine l_ (w:=m.av) h3 hB.b0 rfl rfl (Yf (f:=Zv) (l:=ls) (o:=o9) h9<|Yh (sc rfl rfl<|sc rfl rfl sn) aW ?_);refine m_ (x_ rfl rfl<|x_ rfl rfl<|x_ rfl rfl<|Xl<|m_<|Zy (w:=F.av) (cs':=F.row) rfl Zj rfl rfl rfl<|m_<|e_ ?_);have hB:=hB.here (site:=28679) (a:=(nx+7,F.row)) hl hx rfl;refine Zl (q_ rfl<|m_<|b_ (a:=.i .i64 re) (b:=.i .i64 0) rfl rfl Vr<|e_<|Yi rfl (fun he=>?_)<|fun he=>Ya ?_)
 ·refine q_ rfl (m_<|e_<|Sq ?_);exact hF _ _ _ _ (by rw[kA he]) rfl hB.fr
 have he:=kP.1 he;rw[kC he]at hF hK;refine W.reg0 rfl fun iJ pD=>?_
 refine m_ (m_<|Vc h1<|f_ rfl<|l_ (w:=.sl o1 (fs.map Zf.row)) rfl hB.bX rfl rfl ?_);refine l_ (w:=F.av) (k:=(d,28679)) (v:=nx+7) (cs:=F.row) (o:=0) rfl Zj rfl rfl ?_;refine Wr (f:=Zf.row) (l:=[F]) rfl rfl (Yl (v:=F.av) (cs:=F.row) rfl rfl rfl Wi) rfl ?_;refine Jq (f:=Zf.row) (l:=fs) (m:=[F]) Zf.row_len rfl rfl rfl hA.1 ⟨?_,?_⟩ rfl fun o' ow' a1 a2 a3=>?_
 ·simp only[kB,kD,Xk];omega
 ·simp only[kB,kD,Xk];omega
 have hB:=hB.app hA a2;refine Vc (k:=kx) (v:=vx) (o:=0) h1 (f_ rfl<|Zy (k:=kx) (v:=vx) (cs':=xc s k o' .full .full (fs++[F]) [] []) rfl hB.bX rfl rfl rfl (e_ ?_)<|OG gJ);refine ih (Vh r).2 (fs++[F]) _ _ _ _ o' (by omega) (by simp only[kF,kB,kD];omega) h1 h2 h3 (hB.setX hn hx) (hA.new a1 a3 rfl) ?_ ?_
 ·intro U nx bx ow e g6 gF;exact hF U nx bx ow (by rw[e];rfl) g6 gF
 ·intro U nx bx ow o1 z e g1 g2 g3 gB;refine hK U nx bx ow o1 (F::z.1,z.2) (by rw[e];rfl) g1 g2 g3 ?_;simpa using gB
theorem Xwr(H:HasD PG)(hL:Rm PG)(hm:We m)(hn:kl≠kx)(hl:kl.1<d)(hx:kx.1<d)(gJ:Nat.blt kx.2 Wo=true){Q:Q0}{o1:Zr}{fs:List Zf}:∀(l:List Zc) (ds:List Zq) (U:Sl) (nx:Nat) (bx:Wn) (ow:Wl) (o2:Zr),ds.length+l.length<=500000->(∀y∈l,y.length<=1000000)->
  U 1=.p kx vx 0->U 2=.fn 305 [.p kl vl 0]->U 3=.p (d,0) v0 0->MB d kl vl kx vx v0 m s k bx0 ow0 bx ow l o1 o2 .full fs ds []->Xn SD d ow o2 ds.length->
  (∀(U:Sl) (nx:Nat) (bx:Wn) (ow:Wl),Gr m l=none->U 6=.b false->Kt d kl kx bx0 ow0 bx ow->Q .ret U ⟨nx,bx,ow⟩)->
  (∀(U:Sl) (nx:Nat) (bx:Wn) (ow:Wl) (o2:Zr) (z:List Zq × List Zc),Gr m l=some z->U 1=.p kx vx 0->U 2=.fn 305 [.p kl vl 0]->MB d kl vl kx vx v0 m s k bx0 ow0 bx ow z.2 o1 o2 .full fs (ds++z.1) []->Q .normal U ⟨nx,bx,ow⟩)->
  W PG d (.loop X_) U ⟨nx,bx,ow⟩ (Zs 4 Q):=by
 intro l
 induction l with
 |nil=>
  intro ds U nx bx ow o2 aM eT h1 h2 h3 hB hA hF hK;refine W.loop (Yg<|q_ rfl<|m_<|Si (p:=Sb) (l:=[]) hL h2 rfl (by omega) hB.bl fun dG bx' bI bY=>?_);rw[Tl (p:=Sb) (l:=[])<|fun _ _ e=>by cases e]at bI⊢;have hB:=hB.next hn hl hx bI bY
  refine m_ (x_ rfl rfl<|x_ rfl rfl<|m_<|m_<|e_ ?_);refine Zl (q_ rfl<|m_<|Wa (a:=false) rfl<|e_<|Xh rfl<|Vg ?_);exact hK _ _ _ _ o2 ([],[]) rfl h1 h2 (by simpa using hB)
 |cons x r ih=>
  intro ds U nx bx ow o2 aM eT h1 h2 h3 hB hA hF hK;refine W.loop (Yg<|q_ rfl<|m_<|Si (p:=Sb) (l:=x::r) hL h2 rfl (by omega) hB.bl fun dG bx' bI bY=>?_);by_cases hc:(Zn Sb x).2=true
  ·rw[Iw hc]at bI⊢;have h4:8<=x.length:=So hc;have OJ:=eT x jI;have hB:=hB.next hn hl hx bI bY
   simp only[kB]at aM;refine m_ (x_ rfl rfl<|x_ rfl rfl<|m_<|m_<|e_ ?_);refine Zl (q_ rfl<|m_<|Wa (a:=true) rfl<|e_<|Qp rfl<|Ya ?_);obtain⟨D,b,aW,bI,bY⟩:=Xj5 H hm (s:=x.drop 2) (by simp;omega)
   have lT:Gr m (x::r)=(Hi m<|x.drop 2).bind fun d=>(Gr m r).map fun z=>(d::z.1,z.2):=by
    conv=>lhs;unfold Gr
    rw[kC hc]
   rw[lT]at hF hK;refine Zl (W.reg ?_);change WO PG d 13 _ 0 YA _ ⟨_,Xm bx' (d,53255) (_,[.i .i64 0,.i .i64 0,.b false,.i .u8 0,.i .i64 0,.s [],.sl .full [],.b false]),ow⟩ _;have vI:=fun a=>hB.here (site:=53255) (a:=a) hl hx rfl
   refine l_ (w:=m.av) h3 (vI _).b0 rfl rfl (Ki (l:=x) rfl<|Jo (l:=x) (n:=2) rfl rfl (by decide) (by simp;omega)<|Yh (sc rfl rfl<|sc rfl rfl sn) aW ?_);refine m_ (x_ rfl rfl<|x_ rfl rfl<|Xl<|Zy (w:=D.av) (cs':=D.row) rfl Zj rfl rfl rfl<|m_<|e_ ?_);have lU:=fun a b=>(vI a).here (site:=53255) (a:=b) hl hx rfl
   refine Zl (q_ rfl<|m_<|Wa (a:=b) rfl<|e_<|Xw rfl (fun he=>?_)<|fun he=>Ya ?_)
   ·have he:b=false:=by simpa using he
    refine q_ rfl (m_<|e_<|Sq ?_);exact hF _ _ _ _ (by rw[bY he];rfl) rfl (lU _ _).fr
   have he:b=true:=by simpa using he
   rw[bI he]at hF hK;refine W.reg0 rfl fun iJ pD=>?_
   refine m_ (m_<|Vc h1<|f_ rfl<|l_ (w:=.sl o2 (ds.map Zq.row)) rfl (lU _ _).bX rfl rfl ?_);refine l_ (w:=D.av) (k:=(d,53255)) (cs:=D.row) (o:=0) rfl Zj rfl rfl ?_;refine Wr (f:=Zq.row) (l:=[D]) rfl rfl (Yl (v:=D.av) (cs:=D.row) rfl rfl rfl Wi) rfl ?_;refine Jq (f:=Zq.row) (l:=ds) (m:=[D]) Zq.row_len rfl rfl rfl hA.1 ⟨?_,?_⟩ rfl fun o' ow' a1 a2 a3=>?_
   ·simp only[kB,kD,Xk];omega
   ·simp only[kB,kD,Xk];omega
   have hB:=fun a b=>(lU a b).app hA a2
   refine Vc (k:=kx) (v:=vx) (o:=0) h1 (f_ rfl<|Zy (k:=kx) (v:=vx) (cs':=xc s k o1 o' .full fs (ds++[D]) []) rfl (hB _ _).bX rfl rfl rfl (e_ ?_)<|OG gJ);refine ih (ds++[D]) _ _ _ _ o' (by simp only[kF,kB,kD];omega) (fun y h=>eT y<|jJ _ h) h1 h2 h3 ((hB _ _).setX hn hx) (hA.new a1 a3 rfl) ?_ ?_
   ·intro U nx bx ow e g6 gF;exact hF U nx bx ow (by rw[e];rfl) g6 gF
   ·intro U nx bx ow o1 z e g1 g2 gB;refine hK U nx bx ow o1 (D::z.1,z.2) (by rw[e];rfl) g1 g2 ?_;simpa using gB
  ·have hc:(Zn Sb x).2=false:=by simpa using hc
   rw[Tl (p:=Sb) (l:=x::r) (fun _ _ e=>by injection e with e1 e2;rw[<- e1];exact hc)]at bI⊢;have hB:=hB.next hn hl hx bI bY
   refine m_ (x_ rfl rfl<|x_ rfl rfl<|m_<|m_<|e_ ?_);refine Zl (q_ rfl<|m_<|Wa (a:=false) rfl<|e_<|Xh rfl<|Vg ?_);refine hK _ _ _ _ o2 ([],x::r) ?_ h1 h2 (by simpa using hB);unfold Gr;rw[kA (by rw[hc];exact jR)]
theorem Xjz(H:HasD PG)(hL:Rm PG)(hn:kl≠kx)(hl:kl.1<d)(hx:kx.1<d)(gJ:Nat.blt kx.2 Wo=true){Q:Q0}{o1 o2:Zr}{fs:List Zf}{ds:List Zq}:∀(l:List Zc) (ps:List Zh) (U:Sl) (nx:Nat) (bx:Wn) (ow:Wl) (o3:Zr),ps.length+l.length<=500000->(∀y∈l,y.length<=1000000)->
  U 1=.p kx vx 0->U 2=.fn 305 [.p kl vl 0]->MB d kl vl kx vx v0 m s k bx0 ow0 bx ow l o1 o2 o3 fs ds ps->Xn SP d ow o3 ps.length->
  (∀(U:Sl) (nx:Nat) (bx:Wn) (ow:Wl),Gq l=none->U 6=.b false->Kt d kl kx bx0 ow0 bx ow->Q .ret U ⟨nx,bx,ow⟩)->
  (∀(U:Sl) (nx:Nat) (bx:Wn) (ow:Wl) (o3:Zr) (z:List Zh × List Zc),Gq l=some z->U 6=.b true->MB d kl vl kx vx v0 m s k bx0 ow0 bx ow z.2 o1 o2 o3 fs ds (ps++z.1)->Q .ret U ⟨nx,bx,ow⟩)->
  W PG d (.loop YB) U ⟨nx,bx,ow⟩ (Zs 6 Q):=by
 intro l
 induction l with
 |nil=>
  intro ps U nx bx ow o3 aM eT h1 h2 hB hA hF hK;refine W.loop (Yg<|q_ rfl<|m_<|Si (p:=t2) (l:=[]) hL h2 rfl (by omega) hB.bl fun dG bx' bI bY=>?_);rw[Tl (p:=t2) (l:=[])<|fun _ _ e=>by cases e]at bI⊢;have hB:=hB.next hn hl hx bI bY
  refine m_ (x_ rfl rfl<|x_ rfl rfl<|m_<|m_<|e_ ?_);refine Zl (q_ rfl<|m_<|Wa (a:=false) rfl<|e_<|Xh rfl<|q_ rfl<|m_<|e_<|Sq ?_);exact hK _ _ _ _ o3 ([],[]) rfl rfl (by simpa using hB)
 |cons x r ih=>
  intro ps U nx bx ow o3 aM eT h1 h2 hB hA hF hK;refine W.loop (Yg<|q_ rfl<|m_<|Si (p:=t2) (l:=x::r) hL h2 rfl (by omega) hB.bl fun dG bx' bI bY=>?_);by_cases hc:(Zn t2 x).2=true
  ·rw[Iw hc]at bI⊢;have h4:2<=x.length:=So hc;have OJ:=eT x jI;have hB:=hB.next hn hl hx bI bY
   simp only[kB]at aM;refine m_ (x_ rfl rfl<|x_ rfl rfl<|m_<|m_<|e_ ?_);refine Zl (q_ rfl<|m_<|Wa (a:=true) rfl<|e_<|Qp rfl<|Ya ?_);have aW:=Xxt H.toHasP (s:=x.drop 2) (by simp;omega)
   have lT:Gq (x::r)=if (Jt<|x.drop 2).2=0 then (Gq r).map fun z=>((Jt<|x.drop 2).1::z.1,z.2)else none:=by
    conv=>lhs;unfold Gq
    rw[kC hc]
   rw[lT]at hF hK;generalize Jt (x.drop 2)=R at aW hF hK;obtain⟨P,re⟩:=R;simp only at aW hF hK;refine Zl (W.reg ?_);change WO PG d 20 _ 0 YC _ ⟨_,Xm bx' (d,81926) (_,[.i .u64 0,.i .u8 0,.i .i64 0,.s [],.sl .full [],.b false,.i .u64 0]),ow⟩ _;have vI:=fun a=>hB.here (site:=81926) (a:=a) hl hx rfl
   refine Ki (l:=x) rfl (Jo (l:=x) (n:=2) rfl rfl (by decide) (by simp;omega)<|Yh (sc rfl rfl sn) aW ?_);refine m_ (x_ rfl rfl<|x_ rfl rfl<|Xl<|Zy (w:=P.av) (cs':=P.row) rfl Zj rfl rfl rfl<|m_<|e_ ?_);have lU:=fun a b=>(vI a).here (site:=81926) (a:=b) hl hx rfl
   refine Zl (q_ rfl<|m_<|b_ (a:=.i .i64 re) (b:=.i .i64 0) rfl rfl Vr<|e_<|Yi rfl (fun he=>?_)<|fun he=>Ya ?_)
   ·refine q_ rfl (m_<|e_<|Sq ?_);exact hF _ _ _ _ (by rw[kA he]) rfl (lU _ _).fr
   have he:=kP.1 he;rw[kC he]at hF hK;refine W.reg0 rfl fun iJ pD=>?_
   refine m_ (m_<|Vc h1<|f_ rfl<|l_ (w:=.sl o3 (ps.map Zh.row)) rfl (lU _ _).bX rfl rfl ?_);refine l_ (w:=P.av) (k:=(d,81926)) (cs:=P.row) (o:=0) rfl Zj rfl rfl ?_;refine Wr (f:=Zh.row) (l:=[P]) rfl rfl (Yl (v:=P.av) (cs:=P.row) rfl rfl rfl Wi) rfl ?_;refine Jq (f:=Zh.row) (l:=ps) (m:=[P]) Zh.row_len rfl rfl rfl hA.1 ⟨?_,?_⟩ rfl fun o' ow' a1 a2 a3=>?_
   ·simp only[kB,kD,Xk];omega
   ·simp only[kB,kD,Xk];omega
   have hB:=fun a b=>(lU a b).app hA a2
   refine Vc (k:=kx) (v:=vx) (o:=0) h1 (f_ rfl<|Zy (k:=kx) (v:=vx) (cs':=xc s k o1 o2 o' fs ds (ps++[P])) rfl (hB _ _).bX rfl rfl rfl (e_ ?_)<|OG gJ);refine ih (ps++[P]) _ _ _ _ o' (by simp only[kF,kB,kD];omega) (fun y h=>eT y<|jJ _ h) h1 h2 ((hB _ _).setX hn hx) (hA.new a1 a3 rfl) ?_ ?_
   ·intro U nx bx ow e g6 gF;exact hF U nx bx ow (by rw[e];rfl) g6 gF
   ·intro U nx bx ow o1 z e g6 gB;refine hK U nx bx ow o1 (P::z.1,z.2) (by rw[e];rfl) g6 ?_;simpa using gB
  ·have hc:(Zn t2 x).2=false:=by simpa using hc
   rw[Tl (p:=t2) (l:=x::r) (fun _ _ e=>by injection e with e1 e2;rw[<- e1];exact hc)]at bI⊢;have hB:=hB.next hn hl hx bI bY
   refine m_ (x_ rfl rfl<|x_ rfl rfl<|m_<|m_<|e_ ?_);refine Zl (q_ rfl<|m_<|Wa (a:=false) rfl<|e_<|Xh rfl<|q_ rfl<|m_<|e_<|Sq ?_);refine hK _ _ _ _ o3 ([],x::r) ?_ rfl (by simpa using hB);unfold Gq;rw[kA (by rw[hc];exact jR)]
end
end Go.AM

namespace Go.AM
open Go
attribute [local irreducible] WO Ve Vd
set_option maxRecDepth 4000
set_option maxHeartbeats 1000000
theorem OK{m:Zd}:∀(n:Nat) (l:List Zc) (z:List Zf × List Zc),Ux m n l=some z->z.2.length<=l.length/\∀x∈z.2,x∈l
 |0,_,_,h=>by simp[Ux]at h
 |n+1,[],z,h=>by
  simp only[Ux,Option.some.injEq]at h;subst h;exact⟨kU _,fun x h=>h⟩
 |n+1,x::r,z,h=>by
  unfold Ux at h;split at h
  ·split at h
   ·obtain⟨y,h1,h2⟩:=kN.1 h;have ih:=OK n _ _ h1;have hs:=Eu r;subst h2;exact⟨by simp only[kB];omega,fun q hq=>jJ _<|hs.2.2 q<|ih.2 q hq⟩
   ·cases h
  ·simp only[Option.some.injEq]at h;subst h;exact⟨kU _,fun x h=>h⟩
theorem OL{m:Zd}:∀(l:List Zc) (z:List Zq × List Zc),Gr m l=some z->z.2.length<=l.length/\∀x∈z.2,x∈l
 |[],z,h=>by
  simp only[Gr,Option.some.injEq]at h;subst h;exact⟨kU _,fun x h=>h⟩
 |x::r,z,h=>by
  unfold Gr at h;split at h
  ·obtain⟨d,_,h⟩:=jX.1 h;obtain⟨y,h1,h2⟩:=kN.1 h;have ih:=OL r _ h1;subst h2;exact⟨by simp only[kB];omega,fun q hq=>jJ _<|ih.2 q hq⟩
  ·simp only[Option.some.injEq]at h;subst h;exact⟨kU _,fun x h=>h⟩
theorem YD:∀(l:List Zc) (z:List Zh × List Zc),Gq l=some z->z.2.length<=l.length/\∀x∈z.2,x∈l
 |[],z,h=>by
  simp only[Gq,Option.some.injEq]at h;subst h;exact⟨kU _,fun x h=>h⟩
 |x::r,z,h=>by
  unfold Gq at h;split at h
  ·split at h
   ·obtain⟨y,h1,h2⟩:=kN.1 h;have ih:=YD r _ h1;subst h2;exact⟨by simp only[kB];omega,fun q hq=>jJ _<|ih.2 q hq⟩
   ·cases h
  ·simp only[Option.some.injEq]at h;subst h;exact⟨kU _,fun x h=>h⟩
theorem YE{m:Zd}{l:List Zc}{z:List Zf × List Zq × List Zh × List Zc}(h:Uk m l=some z):z.2.2.2.length<=l.length/\∀x∈z.2.2.2,x∈l:=by obtain⟨a,h1,h⟩:=jX.1 h;obtain⟨b,h2,h⟩:=jX.1 h;obtain⟨c,h3,h⟩:=kN.1 h;subst h;have s1:=OK _ _ _ h1;have s2:=OL _ _ h2;have s3:=YD _ _ h3;exact⟨by simp only;omega,fun x hx=>s1.2 x<|s2.2 x<|s3.2 x hx⟩
theorem Kt.out{d:Nat}{kl kx:Zt}{bx bx':Wn}{ow ow':Wl}(h:Kt d kl kx bx ow bx' ow'):Kt d kl kx bx ow (bx'.filter fun x=>x.1.1<d) ow':=
 ⟨fun k' h1 h2 h3=>(Pd h1).trans<|h.1 k' h1 h2 h3,h.2⟩
def PuM(PG:Zb)(m:Zd):Prop:=∀(d:Nat) (st:St) (kl:Zt) (vl:Nat) (kx:Zt) (vx:Nat) (s k:Int) (l:List Zc),kl≠kx->kl.1<d->kx.1<d->Nat.blt kx.2 Wo=true->
 lk st.bx kl=some (vl,[.sl .ext<|l.map Zv])->lk st.bx kx=some (vx,xc s k .full .full .full [] [] [])->l.length<=400000->(∀y∈l,y.length<=1000000)->
 ∃aA b,Fn PG d 309 [m.av,.p kx vx 0,.fn 305 [.p kl vl 0]] st (.b b) aA/\Kt d kl kx st.bx st.ow aA.bx aA.ow/\(Uk m l=none->b=false)/\
  ∀z,Uk m l=some z->b=true/\lk aA.bx kl=some (vl,[.sl .ext<|z.2.2.2.map Zv])/\∃o1 o2 o3,lk aA.bx kx=some (vx,xc s k o1 o2 o3 z.1 z.2.1 z.2.2.1)
theorem Ywd{PG:Zb}(H:HasD PG)(hL:Rm PG)(hf:PG.fn 309=some pE){m:Zd}(hm:We m):PuM PG m:=by
 intro d st kl vl kx vx s k l hn hl hx gJ oo iZ hlen eT
 have main:=Fn.of' (PG:=PG) (d:=d) (args:=[m.av,.p kx vx 0,.fn 305 [.p kl vl 0]]) (st:=st) (K:=fun r aA=>∃b,r=.b b/\Kt d kl kx st.bx st.ow aA.bx aA.ow/\(Uk m l=none->b=false)/\
  ∀z,Uk m l=some z->b=true/\lk aA.bx kl=some (vl,[.sl .ext<|z.2.2.2.map Zv])/\∃o1 o2 o3,lk aA.bx kx=some (vx,xc s k o1 o2 o3 z.1 z.2.1 z.2.2.1)) hf (jE rfl) ?_
 ·obtain⟨r,aA,h1,b,rfl,h2⟩:=main;exact⟨aA,b,h1,h2⟩
 have no :∀(U:Sl) (nx:Nat) (bx:Wn) (ow:Wl),Uk m l=none->U 6=.b false->Kt d kl kx st.bx st.ow bx ow->Ca d pE.res (fun r aA=>∃b,r=.b b/\Kt d kl kx st.bx st.ow aA.bx aA.ow/\(Uk m l=none->b=false)/\
  ∀z,Uk m l=some z->b=true/\lk aA.bx kl=some (vl,[.sl .ext<|z.2.2.2.map Zv])/\∃o1 o2 o3,lk aA.bx kx=some (vx,xc s k o1 o2 o3 z.1 z.2.1 z.2.2.1)) .ret U ⟨nx,bx,ow⟩:=by
  intro U nx bx ow h1 h2 h3;exact⟨.b false,jC some h2,false,rfl,h3.out,fun _=>rfl,fun z hz=>by rw[h1]at hz;cases hz⟩
 show W PG d YF (Wg [m.av,.p kx vx 0,.fn 305 [.p kl vl 0]]) st _;refine q_ rfl (Jw (v:=m.av) rfl rfl<|m_<|e_ ?_)
 have hB:MB d kl vl kx vx st.nx m s k st.bx st.ow (Xm st.bx (d,0) (st.nx,m.av.cells)) st.ow l .full .full .full [] [] []:=
  ⟨Zj,(Dm (by rintro rfl;exact zH _ hl)).trans oo,(Dm (by rintro rfl;exact zH _ hx)).trans iZ,Kt.here ⟨fun _ _ _ _=>rfl,fun _ _=>rfl⟩⟩
 refine Zl (Yg<|Xm3 H hL hm hn hl hx gJ (l.length+1) l [] _ _ _ _ .full (kG _) (by simp only[kD];omega) rfl rfl rfl hB Xn.full ?_ ?_)
 ·intro U nx bx ow e g6 gF;exact no U nx bx ow (by unfold Uk;rw[e];rfl) g6 gF
 intro U nx bx ow o1 z e g1 g2 g3 hB;have s1:=OK _ _ _ e;show W PG d YG U _ _;refine Zl (Yg<|Xwr H hL hm hn hl hx gJ z.2 [] _ _ _ _ .full (by simp only[kD];omega) (fun y hy=>eT y<|s1.2 y hy) g1 g2 g3 hB Xn.full ?_ ?_)
 ·intro U nx bx ow e2 g6 gF;exact no U nx bx ow (by unfold Uk;rw[e];simp only[yD,e2];rfl) g6 gF
 intro U nx bx ow o2 y e2 g1 g2 hB;have s2:=OL _ _ e2;show W PG d YH U _ _;refine Yg (Xjz H hL hn hl hx gJ y.2 [] _ _ _ _ .full (by simp only[kD];omega) (fun u hu=>eT u<|s1.2 u<|s2.2 u hu) g1 g2 hB Xn.full ?_ ?_)
 ·intro U nx bx ow e3 g6 gF;exact no U nx bx ow (by unfold Uk;rw[e];simp only[yD,e2,e3];rfl) g6 gF
 intro U nx bx ow o3 u e3 g6 hB;have e4:Uk m l=some (z.1,y.1,u.1,u.2):=by unfold Uk;rw[e];simp only[yD,e2,e3];rfl
 refine⟨.b true,jC some g6,true,rfl,hB.fr.out,fun h=>(by rw[e4]at h;cases h),fun w hw=>?_⟩;rw[e4]at hw;injection hw with hw;subst hw;exact⟨rfl,(Pd hl).trans hB.bl,o1,o2,o3,by simpa using(Pd hx).trans hB.bX⟩
end Go.AM

namespace Go.AM
open Go
attribute [local irreducible] WO Ve Vd
set_option maxRecDepth 4000
set_option maxHeartbeats 1000000
theorem YI{m:Zd}:∀(n:Nat) (l:List Zc) (z:List Zf × List Zc),Ux m n l=some z->z.1.length+z.2.length<=l.length/\∀x∈z.1,Ul x
 |0,_,_,h=>by simp[Ux]at h
 |n+1,[],z,h=>by
  simp only[Ux,Option.some.injEq]at h;subst h;exact⟨kU _,fun x h=>by cases h⟩
 |n+1,x::r,z,h=>by
  unfold Ux at h;split at h
  ·split at h
   ·obtain⟨y,h1,h2⟩:=kN.1 h;have ih:=YI n _ _ h1;have hs:=Eu r;subst h2;refine⟨by simp only[kB];omega,fun q hq=>?_⟩;rcases jH.1 hq with rfl|hq
    ·exact WD _ _
    ·exact ih.2 q hq
   ·cases h
  ·simp only[Option.some.injEq]at h;subst h;exact⟨by simp,fun x h=>by cases h⟩
theorem Xjw{m:Zd}{s:Zc}{d:Zq}(h:Hi m s=some d):Wf d.arg:=by
 unfold Hi at h;split at h
 ·unfold Mn at h;split at h
  ·cases h
  split at h
  ·cases h
  unfold Cv at h;split at h
  ·injection h with h;subst h;exact Wf.zero
  split at h
  ·injection h with h;subst h;exact tJ _
  ·cases h
 ·cases h
theorem YJ{m:Zd}:∀(l:List Zc) (z:List Zq × List Zc),Gr m l=some z->z.1.length+z.2.length<=l.length/\∀x∈z.1,Wf x.arg
 |[],z,h=>by
  simp only[Gr,Option.some.injEq]at h;subst h;exact⟨kU _,fun x h=>by cases h⟩
 |x::r,z,h=>by
  unfold Gr at h;split at h
  ·obtain⟨d,hd,h⟩:=jX.1 h;obtain⟨y,h1,h2⟩:=kN.1 h;have ih:=YJ r _ h1;subst h2;refine⟨by simp only[kB];omega,fun q hq=>?_⟩;rcases jH.1 hq with rfl|hq
   ·exact Xjw hd
   ·exact ih.2 q hq
  ·simp only[Option.some.injEq]at h;subst h;exact⟨by simp,fun x h=>by cases h⟩
theorem YK:∀(l:List Zc) (z:List Zh × List Zc),Gq l=some z->z.1.length+z.2.length<=l.length/\∀x∈z.1,Hu x
 |[],z,h=>by
  simp only[Gq,Option.some.injEq]at h;subst h;exact⟨kU _,fun x h=>by cases h⟩
 |x::r,z,h=>by
  unfold Gq at h;split at h
  ·split at h
   ·rename_i he;obtain⟨y,h1,h2⟩:=kN.1 h;have ih:=YK r _ h1;subst h2;refine⟨by simp only[kB];omega,fun q hq=>?_⟩;rcases jH.1 hq with rfl|hq
    ·exact(KC he).2.1
    ·exact ih.2 q hq
   ·cases h
  ·simp only[Option.some.injEq]at h;subst h;exact⟨by simp,fun x h=>by cases h⟩
theorem Xe6{m:Zd}{l:List Zc}{z:List Zf × List Zq × List Zh × List Zc}(h:Uk m l=some z):(z.1.length<=l.length/\∀x∈z.1,Ul x)/\(z.2.1.length<=l.length/\∀x∈z.2.1,Wf x.arg)/\z.2.2.1.length<=l.length/\∀x∈z.2.2.1,Hu x:=by obtain⟨a,h1,h⟩:=jX.1 h;obtain⟨b,h2,h⟩:=jX.1 h;obtain⟨c,h3,h⟩:=kN.1 h;subst h;have s1:=YI _ _ _ h1;have s2:=YJ _ _ h2;have s3:=YK _ _ h3;exact⟨⟨by simp only;omega,s1.2⟩,⟨by simp only;omega,s2.2⟩,by simp only;omega,s3.2⟩
theorem Xgq{s:Zc}:0<=(Qh s).1.status/\-9223372036854775808<=(Qh s).1.key/\(Qh s).1.key<9223372036854775808:=by
 unfold Qh pw
 repeat' split
 ·exact⟨by decide,by decide,by decide⟩
 ·exact⟨by show(0:Int)<=2;decide,OM _⟩
 ·exact⟨by decide,by decide,by decide⟩
 ·exact⟨by show(0:Int)<=3;decide,by show(-9223372036854775808:Int)<=0;decide,by show(0:Int)<9223372036854775808;decide⟩
theorem ON{m:Zd}:∀(n:Nat) (l:List Zc) (z:List Zi × List Zc),l.length<=1000000->Dy m n l=some z->z.1.length+z.2.length<=l.length/\∀x∈z.1,Kz x
 |0,_,_,_,h=>by simp[Dy]at h
 |n+1,[],z,_,h=>by
  simp only[Dy,Option.some.injEq]at h;subst h;exact⟨kU _,fun x h=>by cases h⟩
 |n+1,x::r,z,hl,h=>by
  simp only[kB]at hl;unfold Dy at h;split at h
  ·split at h
   ·obtain⟨a,ha,h⟩:=jX.1 h;obtain⟨y,h1,h2⟩:=kN.1 h;have w:=Xe6 ha;have s:=YE ha;have ih:=ON n _ _ (by omega) h1;subst h2;refine⟨by simp only[kB];omega,fun q hq=>?_⟩;rcases jH.1 hq with rfl|hq
    ·have hk:=Xgq (s:=x);exact⟨hk.1,hk.2,w.1.2,w.2.1.2,w.2.2.2,by simp only;omega,by simp only;omega,by simp only;omega⟩
    ·exact ih.2 q hq
   ·cases h
  ·simp only[Option.some.injEq]at h;subst h;exact⟨by simp,fun x h=>by cases h⟩
theorem vJ(s:Zc):0<=(Ga s).1:=by
 unfold Ga;split
 ·decide
 ·rename_i h;simp only;omega
theorem YL{m:Zd}{l:List Zc}{x:Zo}(hl:l.length<=1000000)(h:Md m l=some x):Gx x:=by
 cases l with
 |nil=>cases h
 |cons a r=>
  simp only[kB]at hl;simp only[Md]at h;split at h
  ·split at h
   ·obtain⟨z,h1,h2⟩:=kN.1 h;have w:=ON _ _ _ (by omega) h1;subst h2;exact⟨vJ _,w.2,by simp only;omega⟩
   ·cases h
  ·cases h
section
variable{PG:Zb}{d id base i:Nat}{U:Sl}{st:St}{K:Sl->St->Prop}{r:List AI}{t:Option Nat}
theorem Xz2{args:List Zw}{m:Zd}{kl kx:Zt}{vl vx:Nat}{s k:Int}{l:List Zc}(hM:PuM PG m)(hs:Vy U args=[m.av,.p kx vx 0,.fn 305 [.p kl vl 0]])(hn:kl≠kx)(hl:kl.1<d+1)(hx:kx.1<d+1)(gJ:Nat.blt kx.2 Wo=true)
  (oo:lk st.bx kl=some (vl,[.sl .ext<|l.map Zv])) (iZ:lk st.bx kx=some (vx,xc s k .full .full .full [] [] [])) (hlen:l.length<=400000) (eT :∀y∈l,y.length<=1000000)
  (h :∀(dG:Nat) (bx':Wn) (ow':Wl) (b:Bool),Kt (d+1) kl kx st.bx st.ow bx' ow'->(Uk m l=none->b=false)->(∀z,Uk m l=some z->b=true/\lk bx' kl=some (vl,[.sl .ext (z.2.2.2.map Zv)])/\∃o1 o2 o3,lk bx' kx=some (vx,xc s k o1 o2 o3 z.1 z.2.1 z.2.2.1))->
   WO PG d id base (i+1) r (Yb U t<|.b b) ⟨dG,bx',ow'⟩ K):WO PG d id base i (⟨t,.call true 309 args,none⟩::r) U st K:=by refine Gi ?_;obtain⟨⟨dG,bx',ow'⟩,b,h1,h2,h3,h4⟩:=hM (d+1) st kl vl kx vx s k l hn hl hx gJ oo iZ hlen eT;rw[Lw,hs];exact⟨_,_,h1,h dG bx' ow' b h2 h3 h4⟩
theorem Yo.call2{o:Zr}{n:Nat}{kl kx:Zt}{bx dF:Wn}{ow cH:Wl}(h:Yo d ow o n)(c:Kt (d+1) kl kx bx ow dF cH):Yo d cH o n:=by
 refine⟨?_,h.2⟩
 cases o with
 |ext=>exact h.1
 |full=>exact h.1
 |id k v=>
  obtain⟨e1,e2⟩:=h.2;obtain⟨a1,a2⟩:=h.1;exact⟨(c.2 k<|by omega).trans a1,a2⟩
end
abbrev Uu:List AV:=[.i .u8 0,.i .i64 0,.i .i64 0,.sl .full []]
abbrev Bb(a b c:Int)(o:Zr)(rs:List Zi):List AV:=[.i .u8 a,.i .i64 b,.i .i64 c,.sl o<|rs.map Zi.row]
structure RB(d v0 v4 v6 v10:Nat)(m:Zd)(a b c:Int)(bx:Wn)(l:List Zc)(o:Zr)(rs:List Zi):Prop where
 b0:lk bx (d,0)=some (v0,[.sl .ext<|List.map Vv.row m.types,.sl .ext<|List.map Zv m.texts,.sl .ext<|List.map Zz.row m.funcs])
 b4:lk bx (d,1)=some (v4,Uu)
 bl:lk bx (d,12290)=some (v6,[.sl .ext<|l.map Zv])
 bo:lk bx (d,24581)=some (v10,Bb a b c o rs)
section
variable{PG:Zb}{d v0 v4 v6 v10:Nat}{m:Zd}{a b c:Int}{bx:Wn}{l:List Zc}{o:Zr}{rs:List Zi}
theorem Dt{d s s':Nat}(h:Nat.beq s s'=false):((d,s):Zt)≠(d,s'):=by intro e;injection e with _ e;rw[e,Nat.beq_refl]at h;cases h
theorem RB.next{bx':Wn}{l':List Zc}(h:RB d v0 v4 v6 v10 m a b c bx l o rs)(h1:lk bx' (d,12290)=some (v6,[.sl .ext<|l'.map Zv]))(h2 :∀k':Zt,k'.1<d+1->k'≠(d,12290)->lk bx' k'=lk bx k'):RB d v0 v4 v6 v10 m a b c bx' l' o rs:=
 ⟨(h2 _ (kG d)<|Dt rfl).trans h.b0,(h2 _ (kG d)<|Dt rfl).trans h.b4,h1,(h2 _ (kG d)<|Dt rfl).trans h.bo⟩
theorem RB.here{a':Nat × List AV}(h:RB d v0 v4 v6 v10 m a b c bx l o rs):RB d v0 v4 v6 v10 m a b c (Xm bx (d,45061) a') l o rs:=
 ⟨Zm rfl h.b0,Zm rfl h.b4,Zm rfl h.bl,Zm rfl h.bo⟩
theorem RB.call{bx':Wn}{ow ow':Wl}(h:RB d v0 v4 v6 v10 m a b c bx l o rs)(f:Fr (d+1) (d+1,0) bx ow bx' ow'):RB d v0 v4 v6 v10 m a b c bx' l o rs:=
 ⟨(f.1 _ (kG d) Kv).trans h.b0,(f.1 _ (kG d) Kv).trans h.b4,(f.1 _ (kG d) Kv).trans h.bl,(f.1 _ (kG d) Kv).trans h.bo⟩
theorem RB.mem{bx':Wn}{ow ow':Wl}{l':List Zc}(h:RB d v0 v4 v6 v10 m a b c bx l o rs)(f:Kt (d+1) (d,12290) (d,45061) bx ow bx' ow')(h1:lk bx' (d,12290)=some (v6,[.sl .ext<|l'.map Zv])):RB d v0 v4 v6 v10 m a b c bx' l' o rs:=
 ⟨(f.1 _ (kG d) (Dt rfl)<|Dt rfl).trans h.b0,(f.1 _ (kG d) (Dt rfl)<|Dt rfl).trans h.b4,h1,(f.1 _ (kG d) (Dt rfl)<|Dt rfl).trans h.bo⟩
theorem RB.out{o':Zr}{dZ:List Zi}(h:RB d v0 v4 v6 v10 m a b c bx l o rs):RB d v0 v4 v6 v10 m a b c (Xm bx (d,24581) (v10,Bb a b c o' dZ)) l o' dZ:=
 ⟨Zm rfl h.b0,Zm rfl h.b4,Zm rfl h.bl,Zj⟩
theorem Lc{id tz:Nat}{e:Int}{U:Sl}{nx:Nat}{ow:Wl}{cs:List AV}{Q:Q0}(h4:U 4=.p (d,1) v4 0)(hz:Nat.beq 4 tz=false)(hb:lk bx (d,1)=some (v4,cs))(hc:cs.length=4)
  (hQ :∀(U:Sl) (nx:Nat) (bx:Wn),U 4=.p (d,1) v4 0->U 5=.i .i64 e->lk bx (d,1)=some (v4,Uu)->Q .ret U ⟨nx,bx,ow⟩) :
  W PG d (.seq (.reg id [oO tz<|.build Uu [],oS 4 4 tz,oC 5<|.i .i64 e]) .ret) U ⟨nx,bx,ow⟩ Q:=by
 refine q_ rfl (Xb Yu ?_)
 have e4:(Yb U (some tz)<|.ag Uu) 4=.p (d,1) v4 0:=by
  show cond (Nat.beq 4 tz) _ _=_;rw[hz];exact h4
 have ez:(Yb U (some tz)<|.ag Uu) tz=.ag Uu:=by
  show cond (Nat.beq tz tz) _ _=_;rw[Nat.beq_refl];rfl
 match cs,hc with
 |[c1,c2,c3,c5],_=>
  refine Zy (cs':=Uu) e4 hb ez rfl rfl (m_<|e_<|Sq<|hQ _ _ _ ?_ rfl Zj);exact e4
theorem Yyn(H:HasD PG)(hL:Rm PG)(hM:PuM PG m){s:Zc}{Q:Q0}:∀(n:Nat) (l:List Zc) (rs:List Zi) (U:Sl) (nx:Nat) (bx:Wn) (ow:Wl) (o:Zr),l.length<n->rs.length+l.length<=400000->(∀y∈l,y.length<=1000000)->
  U 1=.s s->U 2=.p (d,0) v0 0->U 4=.p (d,1) v4 0->U 7=.fn 305 [.p (d,12290) v6 0]->U 10=.p (d,24581) v10 0->RB d v0 v4 v6 v10 m a b c bx l o rs->Yo d ow o rs.length->
  (∀(U:Sl) (nx:Nat) (bx:Wn) (ow:Wl),Dy m n l=none->U 4=.p (d,1) v4 0->U 5=.i .i64 12->lk bx (d,1)=some (v4,Uu)->Q .ret U ⟨nx,bx,ow⟩)->
  (∀(U:Sl) (nx:Nat) (bx:Wn) (ow:Wl) (o:Zr) (z:List Zi × List Zc),Dy m n l=some z->U 1=.s s->U 2=.p (d,0) v0 0->U 4=.p (d,1) v4 0->U 10=.p (d,24581) v10 0->RB d v0 v4 v6 v10 m a b c bx z.2 o (rs++z.1)->Q .normal U ⟨nx,bx,ow⟩)->
  W PG d (.loop YM) U ⟨nx,bx,ow⟩ (Zs 0 Q):=by
 intro n
 induction n with
 |zero=>intro l rs U nx bx ow o h;omega
 |succ n ih=>
 intro l rs U nx bx ow o hlen aM eT h1 h2 h4 h7 cX hB hA hF hK;refine W.loop (Yg<|q_ rfl<|m_<|Si (p:=Bd) (l:=l) hL h7 rfl (kG d) hB.bl fun dG bx' bI bY=>?_);by_cases dE :∀x r,l=x::r->(Zn Bd x).2=false
 ·rw[Tl dE]at bI⊢;have hB:=hB.next bI bY
  refine m_ (x_ rfl rfl<|x_ rfl rfl<|m_<|m_<|e_ ?_);refine Zl (q_ rfl<|m_<|Wa (a:=false) rfl<|e_<|Xh rfl<|Vg ?_);refine hK _ _ _ _ o ([],l) ?_ h1 h2 h4 cX ?_
  ·cases l with
   |nil=>rfl
   |cons x r=>simp only[Dy,kA (show ¬ (Zn Bd x).2=true by rw[dE x r rfl];exact jR)]
  ·simpa using hB
 cases l with
 |nil=>exact absurd (fun _ _ e=>by cases e) dE
 |cons x r=>
 have hc:(Zn Bd x).2=true:=by
  by_cases h:(Zn Bd x).2=true
  ·exact h
  ·exact absurd (fun y s e=>by injection e with e1 e2;rw[<- e1];simpa using h) dE
 rw[Iw hc]at bI⊢;have hB:=hB.next bI bY
 simp only[kB]at hlen aM;have OJ:=eT x jI;have YN :∀y∈r,y.length<=1000000:=fun y hy=>eT y (jJ _ hy)
 refine m_ (x_ rfl rfl<|x_ rfl rfl<|m_<|m_<|e_ ?_);refine Zl (q_ rfl<|@fun dO _=>m_<|Wa (a:=true) rfl<|e_<|Qp rfl<|Ya ?_)
 have lT:Dy m (n+1) (x::r)=if (Qh x).2=true then (Uk m r).bind fun a=>(Dy m n a.2.2.2).map fun z=>(⟨(Qh x).1.status,(Qh x).1.key,a.1,a.2.1,a.2.2.1⟩::z.1,z.2)else none:=by
  conv=>lhs;unfold Dy
  rw[kC hc]
 rw[lT]at hF hK;have aW:=Yyy H (s:=x) OJ;generalize Qh x=R at aW hF hK;obtain⟨X,ok⟩:=R;simp only at aW hF hK;refine Zl (W.reg ?_);change WO PG d 11 dO 0 YO _ ⟨_,Xm bx' (d,45061) (dO+5,[.i .u8 0,.i .i64 0,.sl .full [],.sl .full [],.sl .full []]),ow⟩ _;refine m_ (Gm rfl aW fun aA dH=>?_);have hB:=(hB.here (a':=(dO+5,[.i .u8 0,.i .i64 0,.sl .full [],.sl .full [],.sl .full []]))).call dH;have hA:=hA.call dH;have iZ:=(dH.1 (d,45061) (kG d) Kv).trans Zj;clear dH bI bY;obtain⟨dG,bx',ow'⟩:=aA;simp only at hB hA iZ;refine m_ (x_ rfl rfl<|x_ rfl rfl<|Xl<|Zy (w:=.ag (xc X.status X.key .full .full .full [] [] [])) (cs':=xc X.status X.key .full .full .full [] [] []) rfl iZ rfl rfl rfl<|m_<|e_ ?_);have hB:=hB.here (a':=(dO+5,xc X.status X.key .full .full .full [] [] []));refine Zl (q_ rfl<|m_<|Wa (a:=ok) rfl<|m_ ?_)
 cases ok with
 |false=>
  refine Dc (b:=true) rfl rfl (Dc (b:=true) rfl rfl<|Dc (b:=true) rfl rfl<|Dc (b:=true) rfl rfl<|Gz rfl rfl<|e_<|Xh rfl ?_);refine Lc (tz:=61) h4 rfl hB.b4 rfl fun U nx bx g4 g5 gb=>?_
  exact hF U nx bx _ rfl g4 g5 gb
 |true=>
  rw[kC rfl]at hF hK;refine Zg rfl (l_ (w:=m.av) h2 hB.b0 rfl rfl<|Zg rfl<|Jb h7<|Zg rfl<|Xz2 (l:=r) hM rfl (Dt rfl) (kG d) (kG d) rfl hB.bl Zj (by omega) YN fun iJ dF cH bb pA hm1 hm2=>?_);refine Zg rfl (Wa (a:=bb) rfl<|Vt rfl rfl<|e_ ?_)
  cases mn:Uk m r with
  |none=>
   have mF:=hm1 mn;subst mF;have g4:lk dF (d,1)=some (v4,Uu):=(pA.1 _ (kG d) (Dt rfl)<|Dt rfl).trans hB.b4;refine Xh rfl ?_;refine Lc (tz:=61) h4 rfl g4 rfl fun U nx bx g4 g5 gb=>?_
   exact hF U nx bx _ (by rw[mn];rfl) g4 g5 gb
  |some z=>
   obtain⟨mF,bI,o1,o2,o3,OO⟩:=hm2 z mn;subst mF;have eG:=YE mn;have hB:=hB.mem pA bI;have hA:=hA.call2 pA;refine Qp rfl (Ya ?_);refine W.reg0 rfl fun UM aAl=>?_
   refine f_ cX (l_ (w:=.sl o (rs.map Zi.row)) rfl hB.bo rfl rfl<|l_ (w:=.ag (xc X.status X.key o1 o2 o3 z.1 z.2.1 z.2.2.1)) (k:=(d,45061)) rfl OO rfl rfl ?_);refine Wr (f:=Zi.row) (l:=[⟨X.status,X.key,z.1,z.2.1,z.2.2.1⟩]) rfl rfl (Yl (v:=.ag (xc X.status X.key o1 o2 o3 z.1 z.2.1 z.2.2.1)) (cs:=Zi.row ⟨X.status,X.key,z.1,z.2.1,z.2.2.1⟩) rfl rfl rfl Wi) rfl ?_;refine Jq (f:=Zi.row) (l:=rs) (m:=[⟨X.status,X.key,z.1,z.2.1,z.2.2.1⟩]) Zi.row_len rfl rfl rfl hA.1 ⟨?_,?_⟩ rfl fun o' ow' a1 a2 a3=>?_
   ·simp only[kB,kD,Xk];omega
   ·simp only[kB,kD,Xk];omega
   refine f_ cX (Zy (k:=(d,24581)) (v:=v10) (cs':=Bb a b c o' (rs++[⟨X.status,X.key,z.1,z.2.1,z.2.2.1⟩])) rfl hB.bo rfl rfl rfl<|e_ ?_);refine ih z.2.2.2 (rs++[⟨X.status,X.key,z.1,z.2.1,z.2.2.1⟩]) _ _ _ _ o' (by omega) (by simp only[kF,kB,kD];omega) (fun y hy=>YN y<|eG.2 y hy) h1 h2 h4 h7 cX hB.out (Yo.mk a1<|Qy.app hA.2 rfl a3) ?_ ?_
   ·intro U nx bx ow e g4 g5 gb;exact hF U nx bx ow (by rw[mn];simp only[yD,e];rfl) g4 g5 gb
   ·intro U nx bx ow o4 y e g1 g2 g4 g10 gB;refine hK U nx bx ow o4 (⟨X.status,X.key,z.1,z.2.1,z.2.2.1⟩::y.1,y.2) (by rw[mn];simp only[yD,e];rfl) g1 g2 g4 g10 ?_;simpa using gB
end
end Go.AM

namespace Go.AM
open Go
attribute [local irreducible] WO Ve Vd
set_option maxRecDepth 4000
set_option maxHeartbeats 1000000
theorem YP{s x:Zc}(h:x∈Lib.split s [10]):x.length<=s.length:=NR _ _ _ _ h
theorem Xdu(s:Zc):Lib.count s [10]<=s.length:=by have:=Lib.countB_le ⟨#[10]⟩ (by decide) s.length ⟨s.toArray⟩ (kU _);exact this
theorem vK(s:Zc):(Lib.split s [10]).length<=s.length+1:=by have h1:=NQ [10] 0 (Lib.count s [10]) s;have h2:=Xdu s;unfold Lib.split;omega
section
variable{PG:Zb}{m:Zd}{s:Zc}
def ReK(m:Zd)(s:Zc)(v:AV):Prop:=v=.tup [(Uc m s).1.av,.i .i64 (Uc m s).2]
def ReQ(m:Zd)(s:Zc):Q0:=Ca 0 Lr.res fun r _=>∃v,r.strip=some v/\ReK m s v
theorem Ej{U:Sl}{nx v4:Nat}{bx:Wn}{ow:Wl}{e:Int}(hr:Uc m s=(sz,e))(h4:U 4=.p (0,1) v4 0)(h5:U 5=.i .i64 e)(hb:lk bx (0,1)=some (v4,Uu)):ReQ m s .ret U ⟨nx,bx,ow⟩:=by
 refine⟨.tup [.ag Uu,.i .i64 e],?_,_,rfl,?_⟩
 ·simp only[Lr,Xj,Wz,Jc (st:=⟨nx,bx,ow⟩) (cs:=Uu) (n:=4) h4 hb rfl,h5,Km,kK]
 ·unfold ReK;rw[hr];rfl
theorem Xrf{U:Sl}{nx v4:Nat}{bx:Wn}{ow:Wl}{o:Zr}{x:Zo}(hr:Uc m s=(x,0))(h4:U 4=.p (0,1) v4 0)(h5:U 5=.i .i64 0)(hb:lk bx (0,1)=some (v4,Bb x.outcome x.failing x.steps o x.routines)):ReQ m s .ret U ⟨nx,bx,ow⟩:=by
 refine⟨.tup [.ag<|Bb x.outcome x.failing x.steps o x.routines,.i .i64 0],?_,_,rfl,?_⟩
 ·simp only[Lr,Xj,Wz,Jc (st:=⟨nx,bx,ow⟩) (cs:=Bb x.outcome x.failing x.steps o x.routines) (n:=4) h4 hb rfl,h5,Km,kK]
 ·unfold ReK;rw[hr]
theorem Wdp(H:HasD PG)(hm:We m){U:Sl}{nx v0 v4 v6 v10:Nat}{bx:Wn}{ow:Wl}{o:Zr}{a b c:Int}{rs:List Zi}{l:List Zc}(hw:Gx ⟨a,b,c,rs⟩)(hr:Uc m s=if Mg m ⟨a,b,c,rs⟩=(s,0)then (⟨a,b,c,rs⟩,0)else (sz,12))
  (h1:U 1=.s s) (h2:U 2=.p (0,0) v0 0) (h4:U 4=.p (0,1) v4 0) (cX:U 10=.p (0,24581) v10 0) (hB:RB 0 v0 v4 v6 v10 m a b c bx l o rs):W PG 0 YQ U ⟨nx,bx,ow⟩ (ReQ m s):=by
 have aW:=Xuo H.toHasT hm hw;generalize hR:Mg m ⟨a,b,c,rs⟩=R at aW hr;obtain⟨back,e⟩:=R;simp only at aW hr;refine Zl (q_ rfl<|l_ (w:=m.av) h2 hB.b0 rfl rfl<|l_ (w:=.ag (Bb a b c o rs)) cX hB.bo rfl rfl<|Yh (sc rfl rfl<|sc (v:=.ag (Bb a b c o rs)) rfl rfl sn) aW<|m_<|x_ rfl rfl<|x_ rfl rfl<|m_<|m_<|e_ ?_);refine q_ rfl (m_<|b_ (a:=.i .i64 e) (b:=.i .i64 0) rfl rfl Vr<|m_<|Xe (g:=76) (p:=e≠0) rfl (fun he=>?_)<|fun he=>?_)
 ·refine Dc (b:=true) rfl rfl (Dc (b:=true) rfl rfl<|Dc (b:=true) rfl rfl<|Gz rfl rfl<|e_<|Xh rfl ?_);refine Lc (tz:=81) h4 rfl hB.b4 rfl fun U nx bx g4 g5 gb=>?_
  refine Ej (m:=m) (s:=s) ?_ g4 g5 gb;rw[hr,kA];intro h;injection h with _ h;exact he h
 ·have he:=kP.1 he;subst he;refine Zg rfl (Ki (l:=back) rfl<|Zg rfl<|Ki (l:=s) h1<|Zg rfl<|b_ (a:=.s back) (b:=.s s) rfl rfl Rt<|Vt rfl rfl<|e_<|Yi rfl (fun hs=>?_)<|fun hs=>Ya ?_)
  ·refine Lc (tz:=81) h4 rfl hB.b4 rfl fun U nx bx g4 g5 gb=>?_
   refine Ej (m:=m) (s:=s) ?_ g4 g5 gb;rw[hr,kA];intro h;injection h with h _;exact hs h
  ·have hs:=kP.1 hs;refine q_ rfl (l_ (w:=.ag (Bb a b c o rs)) cX hB.bo rfl rfl<|Zy (w:=.ag (Bb a b c o rs)) (cs':=Bb a b c o rs) h4 hB.b4 rfl rfl rfl<|m_<|e_<|Sq ?_);refine Xrf (m:=m) (s:=s) (o:=o) (x:=⟨a,b,c,rs⟩) ?_ h4 rfl Zj;rw[hr,kC<|by rw[hs]]
theorem Xzj(H:HasD PG)(hL:Rm PG)(hM:PuM PG m)(hf:PG.fn 299=some Lr)(hm:We m)(hs:s.length<=1000000000):Ze PG 299 [m.av,.s s] (.tup [(Uc m s).1.av,.i .i64 (Uc m s).2]):=by
 have main:W PG 0 YR (Wg [m.av,.s s]) Zp (ReQ m s):=?_
 ·obtain⟨v,h1,h2⟩:=Ze.of (PG:=PG) (f:=299) (args:=[m.av,.s s]) (K:=ReK m s) hf rfl main;rw[<- show v=_ from h2];exact h1
 refine Zl (W.reg ?_);change WO PG 0 0 0 0 YS _ ⟨_,Xm [] (0,1) (1,Uu),[]⟩ _;refine Jw (v:=m.av) rfl rfl (Xl<|m_<|e_ ?_);have b0:lk (Xm (Xm [] (0,1) (1,Uu)) (0,0) (0,m.av.cells)) (0,0)=some (0,m.av.cells):=Zj;have b4:lk (Xm (Xm [] (0,1) (1,Uu)) (0,0) (0,m.av.cells)) (0,1)=some (1,Uu):=Zm rfl Zj;revert b0 b4;show _->_->W PG 0 YT _ ⟨_,Xm (Xm [] (0,1) (1,Uu)) (0,0) (0,m.av.cells),[]⟩ _;generalize Xm (Xm [] (0,1) (1,Uu)) (0,0) (0,m.av.cells)=bx;intro b0 b4;refine Zl (q_ rfl<|Ki (l:=s) rfl<|Qb (l:=s) rfl<|b_ (a:=.i .i64 (s.length:Int)) (b:=.i .i64 300000) rfl rfl Jd<|e_<|Yi rfl (fun h=>?_)<|fun h=>Ya ?_)
 ·refine Lc (v4:=1) (tz:=20) rfl rfl b4 rfl fun U nx bx g4 g5 gb=>?_
  refine Ej (m:=m) (s:=s) ?_ g4 g5 gb;unfold Uc;rw[kC<|by omega]
 have cZ:Uc m s=match Md m (Lib.split s [10])with
  |none=>(sz,12)
  |some x=>if Mg m x=(s,0)then (x,0)else (sz,12):=by unfold Uc;rw[kA<|by omega];try (cases Md m (Lib.split s [10])<;>rfl)
 have vH:s.length<=300000:=by omega
 refine Zl (W.reg ?_);rename_i dO _;change WO PG 0 3 dO 0 YU _ ⟨_,Xm bx (0,12290) (dO+2,[.sl .full []]),[]⟩ _;have dB:=vK s;have mB :∀x∈Lib.split s [10],x.length<=300000:=fun x hx=>kX (YP hx) vH
 refine Ki (l:=s) rfl (Yh (sc rfl rfl<|sc rfl rfl sn) (Xf1 H hs)<|Xl ?_);generalize Lib.split s [10]=L at cZ dB mB;refine Zy (w:=.sl .ext (L.map Zv)) (cs':=[.sl .ext<|L.map Zv]) rfl Zj rfl rfl rfl (e_ ?_);have bl:lk (Xm (Xm bx (0,12290) (dO+2,[.sl .full []])) (0,12290) (dO+2,[.sl .ext<|L.map Zv])) (0,12290)=some (dO+2,[.sl .ext<|L.map Zv]):=Zj;have b0:lk (Xm (Xm bx (0,12290) (dO+2,[.sl .full []])) (0,12290) (dO+2,[.sl .ext<|L.map Zv])) (0,0)=some (0,m.av.cells):=Zm rfl (Zm rfl b0);have b4:lk (Xm (Xm bx (0,12290) (dO+2,[.sl .full []])) (0,12290) (dO+2,[.sl .ext<|L.map Zv])) (0,1)=some (1,Uu):=Zm rfl (Zm rfl b4);revert b0 b4 bl;show _->_->_->W PG 0 YV _ ⟨_,Xm (Xm bx (0,12290) (dO+2,[.sl .full []])) (0,12290) (dO+2,[.sl .ext<|L.map Zv]),[]⟩ _;generalize Xm (Xm bx (0,12290) (dO+2,[.sl .full []])) (0,12290) (dO+2,[.sl .ext<|L.map Zv])=bx;intro bl b0 b4;refine q_ rfl (OP (vs:=[.p (0,12290) (dO+2) 0]) rfl<|m_<|e_ ?_);refine q_ rfl (m_<|Si (p:=Gy) (k:=(0,12290)) (l:=L) hL rfl rfl xA bl fun dG bx' bI bY=>?_);have b0:=(bY (0,0) xA<|Dt rfl).trans b0;have b4:=(bY (0,1) xA<|Dt rfl).trans b4;generalize hN:Ku Gy L=N at bI;obtain⟨first,ok,rest⟩:=N;simp only at bI
 have eI:first.length<=300000:=by
  cases L with
  |nil=>rw[show Ku Gy []=([],false,[])from rfl]at hN;injection hN with hN;rw[<- hN];exact zO _
  |cons x r=>
   simp only[Ku]at hN;split at hN<;>injection hN with hN<;>rw[<- hN]
   ·exact mB x jI
   ·exact zO _
 refine m_ (x_ rfl rfl<|x_ rfl rfl<|m_<|m_<|e_ ?_);have hX:(Dv first).1.routines=[]:=rfl;have aW:=Xeh H (s:=first) (by omega);generalize hO:Dv first=O at aW hX
 obtain⟨⟨a,b,c,rs0⟩,is⟩:=O;simp only at hX aW;subst hX;refine Zl (W.reg ?_);change WO PG 0 6 dG 0 YW _ ⟨_,Xm bx' (0,24581) (dG+5,Uu),_⟩ _;refine m_ (Gm rfl aW fun aA dH=>?_);have b0:=(dH.1 (0,0) xA Kv).trans (Zm rfl b0);have b4:=(dH.1 (0,1) xA Kv).trans (Zm rfl b4);have bl:=(dH.1 (0,12290) xA Kv).trans (Zm rfl bI);have bo:=(dH.1 (0,24581) xA Kv).trans Zj;clear dH bI bY;obtain⟨iJ,dF,cH⟩:=aA;simp only at b0 b4 bl bo;refine m_ (x_ rfl rfl<|x_ rfl rfl<|Xl<|Zy (w:=.ag (Bb a b c .full [])) (cs':=Bb a b c .full []) rfl bo rfl rfl rfl<|m_<|e_ ?_);have hB:RB 0 0 1 (dO+2) (dG+5) m a b c (Xm dF (0,24581) (dG+5,Bb a b c .full [])) rest .full []:=⟨Zm rfl b0,Zm rfl b4,Zm rfl bl,Zj⟩;refine Zl (q_ rfl<|m_<|Wa (a:=ok) rfl<|m_ ?_)
 cases ok with
 |false=>
  refine Dc (b:=true) rfl rfl (Dc (b:=true) rfl rfl<|Gz rfl rfl<|e_<|Xh rfl ?_);refine Lc (v4:=1) (tz:=40) rfl rfl hB.b4 rfl fun U nx bx g4 g5 gb=>?_
  refine Ej (m:=m) (s:=s) ?_ g4 g5 gb;rw[cZ]
  cases L with
  |nil=>rfl
  |cons x r=>
   simp only[Ku]at hN;split at hN
   ·injection hN with _ hN;injection hN with hN _;cases hN
   ·rename_i h;simp only[Md,kA h]
 |true=>
  obtain⟨x,r,rfl,hc,rfl,rfl⟩ :∃x r,L=x::r/\(Zn Gy x).2=true/\first=x/\rest=r:=by
   cases L with
   |nil=>rw[show Ku Gy []=([],false,[])from rfl]at hN;injection hN with _ hN;injection hN with hN _;cases hN
   |cons x r=>
    simp only[Ku]at hN;split at hN
    ·rename_i h;injection hN with h1 hN;injection hN with _ h2;exact⟨x,r,rfl,h,h1.symm,h2.symm⟩
    ·injection hN with _ hN;injection hN with hN _;cases hN
  refine Zg rfl (m_<|Zg rfl<|Wa (a:=is) rfl<|Vt rfl rfl<|e_ ?_);simp only[kB]at dB;simp only[Md,kC hc,hO]at cZ
  cases is with
  |false=>
   refine Xh rfl ?_;refine Lc (v4:=1) (tz:=40) rfl rfl hB.b4 rfl fun U nx bx g4 g5 gb=>?_
   refine Ej (m:=m) (s:=s) ?_ g4 g5 gb;rw[cZ];rfl
  |true=>
   refine Qp rfl (Ya ?_);refine Zl (Yg<|Yyn (s:=s) H hL hM (rest.length+1) rest [] _ _ _ _ .full (kG _) (by simp only[kD];omega) (fun y hy=>kX (mB y<|jJ _ hy)<|by decide) rfl rfl rfl rfl rfl hB ⟨trivial,trivial⟩ ?_ ?_)
   ·intro U nx bx ow e g4 g5 gb;refine Ej (m:=m) (s:=s) ?_ g4 g5 gb;rw[cZ,kC rfl,e];rfl
   ·intro U nx bx ow o z e g1 g2 g4 g10 gB;have w:=ON _ _ _ (by omega) e
    have vL:Gx ⟨a,b,c,z.1⟩:=by
     refine⟨?_,w.2,by simp only;omega⟩;have:a=(Dv first).1.outcome:=by rw[hO]
     rw[this];exact vJ _
    refine Wdp H hm (rs:=z.1) vL ?_ g1 g2 g4 g10 (by simpa using gB);rw[cZ,kC rfl,e];rfl
end
end Go.AM

namespace Go.AM
open Go
set_option maxRecDepth 100000
structure HasD1(PG:Zb):Prop extends HasD PG where
 f299:PG.fn 299=some Lr
 f305:PG.fn 305=some pC
 f309:PG.fn 309=some pE
 f302:PG.fn 302=some pB
 f314:PG.fn 314=some Ay
section
variable{PG:Zb}(H:HasD1 PG)
include H
theorem Xz9{m:Zd}(hm:We m){s:Zc}(hs:s.length<=1000000000):Ze PG 299 [m.av,.s s] (.tup [(Uc m s).1.av,.i .i64 (Uc m s).2]):=
 Xzj H.toHasD (XW H.toHasD H.f305) (Ywd H.toHasD (XW H.toHasD H.f305) H.f309 hm) H.f299 hm hs
end
end Go.AM

namespace Go.AM
open Go
theorem W_(c:UInt8):∀a:Zc,Xr (a++[c])=if c=10 then ((Xr a).1++[(Xr a).2],[])else ((Xr a).1,(Xr a).2++[c])
 |[]=>by
  simp only[jV,Xr]
 |x::a=>by
  have ih:=W_ c a;rw[kY]
  conv=>lhs;unfold Xr
  rw[ih]
  conv=>rhs;unfold Xr
  by_cases hc:c=10
  ·rw[kC hc];by_cases hx:x=10
   ·simp only[kC hx,kC hc,kY]
   ·simp only[kA hx,kC hc]
    cases h:(Xr a).1 with
    |nil=>rfl
    |cons y l=>rfl
  ·rw[kA hc];by_cases hx:x=10
   ·simp only[kC hx,kA hc]
   ·simp only[kA hx,kA hc]
    cases h:(Xr a).1 with
    |nil=>rfl
    |cons y l=>rfl
theorem Xhu(a:Zc):a.drop (a.length-(Xr a).2.length)=(Xr a).2:=by have h:=pc a;generalize (Xr a).1=l at h;generalize (Xr a).2=e at h;subst h;rw[kF,Nat.add_sub_cancel,yP]
theorem XA(a:Zc):(Xr a).2.length<=a.length/\(Xr a).1.length<=a.length:=by
 constructor
 ·have h:=jC List.length (pc a);rw[kF]at h;omega
 ·rw[Xa4];exact List.count_le_length
structure HasR(PG:Zb):Prop extends HasQ PG where
 f177:PG.fn 177=some Lf
section
variable{PG:Zb}
theorem Xsk(hf:PG.fn 177=some Lf){s:Zc}(hs:s.length<=1000000000):Ze PG 177 [.s s] (.tup [.sl .ext<|(Xr s).1.map Zv,.b<|decide<|(Xr s).2=[]]):=by
 obtain ⟨x,y,⟨rfl,rfl⟩,h⟩:=Xik hf (s0:=s) (K:=fun x y=>x=(Xr s).1/\y=decide ((Xr s).2=[])) (by
  unfold KU;intro P hP;refine Uz (P:=fun(a:List Zc × Int) i=>P a.1 a.2 i) (fun i=>((Xr<|s.take i).1,((i-(Xr<|s.take i).2.length:Nat):Int))) s.length ?_ fun i hi next=>?_
  ·refine hP _ _ _ ?_;unfold um KV;rw[kQ];refine⟨fun h=>absurd h<|by omega,fun _=>⟨rfl,?_⟩⟩;have:=(XA s).1;rw[decide_eq_decide];constructor
   ·intro h;exact yM.1 (by omega)
   ·intro h;rw[h];simp
  ·refine hP _ _ _ ?_;have h1:=XA (s.take i);have ht:(s.take i).length=i:=by rw[kW];omega
   rw[ht]at h1;have e:Xr (s.take<|i+1)=_:=(jC Xr<|kM hi).trans (W_ s[i]<|s.take i);simp only[e]at next
   unfold um;refine⟨fun _=>⟨by omega,s[i],by rw[Kb];exact kH hi,fun cX=>?_,fun cX=>?_⟩,fun h=>absurd (show(i:Int)<s.length by omega) h⟩
   ·have cX:s[i]=10:=by
     apply UInt8.toNat_inj.1;exact Int.ofNat_inj.1 cX
    rw[kC cX]at next
    simp only[kD,Nat.sub_zero]at next
    have e2:(s.drop (((i-(Xr<|s.take i).2.length:Nat):Int)).toNat).take ((i:Int).toNat-(((i-(Xr<|s.take i).2.length:Nat):Int)).toNat)=(Xr<|s.take i).2:=by
     have:=Xhu (s.take i);rw[ht,List.drop_take]at this;rw[Kb,Kb];exact this
    unfold pd;rw[e2,Yq (by omega)<|by omega];refine⟨by omega,by omega,by omega,⟨?_,?_⟩,next⟩<;>simp only[kB,kD,Qt]<;>omega
   ·have cX:¬s[i]=10:=fun h=>cX (by rw[h];rfl)
    rw[kA cX]at next
    unfold pd;rw[Yq (by omega)<|by omega]
    have e3:(i+1-((Xr<|s.take i).2++[s[i]]).length:Nat)=i-(Xr<|s.take i).2.length:=by
     rw[kF,kB,kD];omega
    simp only[e3]at next
    exact next)
 exact h
variable(H:HasR PG)
include H
end
end Go.AM

namespace Go.AM
open Go
structure HasD2(PG:Zb):Prop extends HasD1 PG where
 f177:PG.fn 177=some Lf
section
variable{PG:Zb}(H:HasD1 PG)
include H
end
end Go.AM

namespace Go.AM
open Go
structure HasD3(PG:Zb):Prop extends HasD1 PG where
 f177:PG.fn 177=some Lf
 f310:PG.fn 310=some vM
 f319:PG.fn 319=some pF
 f320:PG.fn 320=some vO
 f311:PG.fn 311=some Fv
 f312:PG.fn 312=some Aj
 f313:PG.fn 313=some pG
 f300:PG.fn 300=some vP
 f301:PG.fn 301=some pH
theorem OQ{s p:Zc}{i:Nat}:Lib.occAt s p i=true↔(s.drop i).take p.length=p:=by unfold Lib.occAt;rw[List.isPrefixOf_iff_prefix,List.prefix_iff_eq_take];exact⟨fun h=>h.symm,fun h=>h.symm⟩
def Ry(s:Zc):Zo:=⟨(Ga (Lib.cut s Hm).1).1,Na (Lib.cut (Lib.cut s Hm).2.1 Bu).1,Na (Lib.cut (Lib.cut s Hm).2.1 Bu).2.1,[]⟩
def Py(w:Zc):Zi:=if w=Ng then ⟨1,0,[],[],[]⟩else if w=Sv then ⟨3,0,[],[],[]⟩else if (Zn Bp w).2=true then ⟨2,(Xd<|w.drop 8).1,[],[],[]⟩else rz
def Kp(s:Zc):Zi:=Py (Lib.cut s Mb).2.1
def vQ(s:Zc):Bool:=if 6000<s.length then (if s.length<=300000 then true else decide (300100<s.length))else decide (300100<s.length)
theorem OR(s p:Zc):(Lib.cut s p).1.length<=s.length/\(Lib.cut s p).2.1.length<=s.length:=by unfold Lib.cut;split<;>simp<;>omega
section
variable{PG:Zb}(H:HasD3 PG)
include H
theorem Nx(s p:Zc):Ze PG 310 [.s s,.s p] (.b (Zn p s).2):=by
 obtain ⟨x,rfl,h⟩:=Wcj H.f310 (s0:=s) (ck:=p) (K:=fun x=>x=(Zn p s).2) (by
  unfold OS;have e:(Zn p s).2=decide (s.take p.length=p):=by unfold Zn;split<;>rename_i h<;>simp[h]
  rw[e];refine⟨fun h=>⟨by omega,by omega,rfl⟩,fun h=>(kI fun e=>?_).symm⟩;have:=jC List.length e;simp only[kW]at this;omega)
 exact h
theorem pI{s p:Zc}(hs:s.length<=1000000000)(hp:1<=p.length/\p.length<=1000):Ze PG 319 [.s s,.s p] (.tup [.s (Lib.cut s p).1,.s (Lib.cut s p).2.1,.b (Lib.cut s p).2.2]):=by
 obtain ⟨x,y,z,⟨rfl,rfl,rfl⟩,h⟩:=Xr2 H.f319 (s0:=s) (co:=p) (K:=fun x y z=>x=(Lib.cut s p).1/\y=(Lib.cut s p).2.1/\z=(Lib.cut s p).2.2) (by
  unfold OT;intro P hP
  have go :∀n i:Nat,i+n=s.length+1->(∀j,j<i->Lib.occAt s p j=false)->P (i:Int):=by
   intro n
   induction n with
   |zero=>
    intro i hi dE;refine hP _ ?_;unfold vR vS;refine⟨fun h=>absurd h (by rw[Yq (by omega)<|by omega];omega),fun _=>?_⟩;have:Lib.index s p = -1:=Lib.index_none fun j hj=>dE j (by omega)
    unfold Lib.cut;rw[kA<|by omega];exact⟨rfl,rfl,rfl⟩
   |succ n ih=>
    intro i hi dE;refine hP _ ?_;unfold vR vS;rw[Yq (by omega)<|by omega];refine⟨fun h=>⟨by omega,by omega,by omega,fun he=>?_,fun he=>?_⟩,fun h=>?_⟩
    ·have he:(s.drop i).take p.length=p:=by
      have e1:(((i:Nat):Int)).toNat=i:=rfl;have e2:(((i:Nat):Int)+(p.length:Int)).toNat-i=p.length:=by omega
      rw[e1,e2]at he;exact he
     have hx:=Lib.index_first (s:=s) (sub:=p) (i:=i) (by omega) (OQ.2 he) dE;refine⟨by omega,by omega,by omega,by omega,?_⟩;unfold Lib.cut;rw[hx,kC<|by omega];refine⟨rfl,?_,rfl⟩
     congr 1
    ·rw[Yq (by omega)<|by omega]
     have:=ih (i+1) (by omega) fun j hj=>by
      rcases jF j i with h|h
      ·exact dE j h
      ·obtain rfl:j=i:=by omega
       rw[<- zL,OQ];intro e;refine he ?_;have e1:(((j:Nat):Int)).toNat=j:=rfl;have e2:(((j:Nat):Int)+(p.length:Int)).toNat-j=p.length:=by omega
       rw[e1,e2];exact e
     rwa [show((i+1:Nat):Int)=(i:Int)+1 by omega]at this
    ·have:Lib.index s p = -1:=Lib.index_none fun j hj=>by
      rcases jF j i with h'|h'
      ·exact dE j h'
      ·rw[<- zL,OQ];intro e;have:=jC List.length e;simp only[kW,List.length_drop]at this;omega
     unfold Lib.cut;rw[kA<|by omega];exact⟨rfl,rfl,rfl⟩
  exact go (s.length+1) 0 (by omega) fun j hj=>by omega)
 exact h
theorem vT(s:Zc):Ze PG 320 [.s s] (.i .i64<|Na s):=by
 obtain ⟨x,rfl,h⟩:=Yym H.f320 (s0:=s) (K:=fun x=>x=Na s) (by
  unfold OU Na;refine⟨_,_,c22 H.toHas03 s,fun h=>(kC h).symm,fun h=>⟨fun h2=>?_,fun h2=>⟨fun h3=>?_,fun h3=>?_⟩⟩⟩
  ·rw[kA h,kC h2]
  ·rw[kA h,kA h2,kC h3]
  ·rw [kA h,kA h2,kA h3])
 exact h
theorem Xe4{s:Zc}(hs:s.length<=1000000):Ym PG 311 [.s s] (fun r=>r=(Ry s).avo .full):=by
 refine(Xjv H.f311 (s0:=s) (K:=fun x=>x=Ry s) ?_).to ?_
 ·unfold OV;have l1:=OR s Hm;exact⟨_,_,_,pI H (p:=Hm) (by omega)<|by decide,_,_,_,pI H (p:=Bu) (by omega)<|by decide,_,_,Xxe H.toHasT _,_,vT H _,_,vT H _,rfl⟩
 ·rintro r ⟨x,rfl,rfl⟩;rfl
theorem Xg2{s:Zc}(hs:s.length<=1000000):Ym PG 312 [.s s] (fun r=>r=.ag [.i .u8 (Kp s).status,.i .i64 (Kp s).key,.sl .full [],.sl .full [],.sl .full []]):=by
 have hz:(Kp s).frames=[]/\(Kp s).defers=[]/\(Kp s).panics=[]:=by
  unfold Kp Py
  repeat' split
  all_goals exact⟨rfl,rfl,rfl⟩
 refine(Xob H.f312 (s0:=s) (K:=fun x=>x=Kp s) ?_).to ?_
 ·unfold OW Kp Py;refine⟨_,_,_,pI H (p:=Mb) (by omega)<|by decide,fun h=>(kC h).symm,fun h=>⟨fun h2=>?_,fun h2=>⟨_,Nx H _ Bp,fun h3=>?_,fun h3=>?_⟩⟩⟩
  ·rw[kA<|show ¬ _=Ng from h,kC<|show _=Sv from h2]
  ·refine⟨?_,_,_,c22 H.toHas03 _,?_⟩
   ·unfold Zn at h3;split at h3
    ·rename_i e;have:=jC List.length e;simp only[kW]at this;have h8:Bp.length=8:=rfl;omega
    ·cases h3
   ·rw[kA<|show ¬ _=Ng from h,kA<|show ¬ _=Sv from h2,kC h3]
  ·rw[kA<|show ¬ _=Ng from h,kA<|show ¬ _=Sv from h2,kA (by rw[h3];exact jR)]
 ·rintro r ⟨x,rfl,rfl⟩;rw[hz.1,hz.2.1,hz.2.2];rfl
theorem Yzb{s:Zc}(hs:s.length<=1000000):Ze PG 313 [.s s] ((Ld s).av):=by
 obtain ⟨x,rfl,h⟩:=Xlp H.f313 (s0:=s) (K:=fun x=>x=Ld s) (by
  have l1:=OR s [32];have l2:=OR (Lib.cut s [32]).2.1 [32];unfold OX;refine⟨_,_,_,pI H (p:=[32]) (by omega)<|by decide,_,_,_,pI H (p:=[32]) (by omega)<|by decide,_,vT H _,_,vT H _,fun P hP=>?_⟩;unfold Ld at hP;generalize Na (Lib.cut s [32]).1=a at hP⊢;generalize Na (Lib.cut (Lib.cut s [32]).2.1 [32]).1=b at hP⊢;generalize (Lib.cut (Lib.cut s [32]).2.1 [32]).2.1=rest at hP l2⊢;generalize hR:Df rest ⟨a,b,false,vz⟩=R at hP
  have go :∀(t p:Zc) (x:Zq) (z:Zq),rest=p++t->Df t x=R->P (p.length:Int) z x:=by
   intro t
   induction t with
   |nil=>
    intro p x z he hd;refine hP _ _ _ ?_;rw[zA]at he;unfold vU OY;refine⟨fun h=>absurd h (by rw[he];omega),fun _=>?_⟩;exact hd
   |cons c t ih=>
    intro p x z he hd;have hlen:rest.length=p.length+(t.length+1):=by rw[he];simp
    have iD:rest.drop p.length=c::t:=by rw[he,yP]
    have next :∀x',Df t x'=R->Fh PG (fun x=>x=R) P rest (p.length:Int) z x':=by
     intro x' dX;unfold Fh;rw[Yq (by omega)<|by omega];have:=ih (p++[c]) x' z (by rw[he];simp) dX
     rwa [show((p++[c]).length:Int)=(p.length:Int)+1 by simp]at this
    refine hP _ _ _ ?_;unfold vU;rw[show((p.length:Int)).toNat=p.length from rfl,iD];unfold Df at hd;refine⟨fun _=>⟨by omega,by omega,_,Nx H _ By,fun h=>?_,fun h=>next _ ?_⟩,fun h=>absurd (show(p.length:Int)<rest.length by omega) h⟩
    ·have h7:7<=(c::t).length:=by
      unfold Zn at h;split at h
      ·rename_i e;have:=jC List.length e;simp only[kW]at this;have h8:By.length=7:=rfl;omega
      ·cases h
     simp only[kB]at h7;rw[Yq (by omega)<|by omega]
     have hd7:rest.drop (((p.length:Int))+7).toNat=(c::t).drop 7:=by
      rw[show(((p.length:Int))+7).toNat=p.length+7 by omega,<- List.drop_drop,iD]
     rw[hd7];refine⟨by omega,by omega,_,_,c75 H.toHas38 (by simp;omega),fun h0=>next _ ?_,fun h0=>next _ ?_⟩
     ·rw[kC h,kC h0]at hd;exact hd
     ·rw[kC h,kA h0]at hd;exact hd
    ·rw[kA (by rw[h];exact jR)]at hd;exact hd
  exact go rest [] _ _ rfl hR)
 exact h
theorem Wau(s:Zc):Ze PG 300 [.s s] (.b<|vQ s):=by
 obtain ⟨x,rfl,h⟩:=Xsz H.f300 (s0:=s) (K:=fun x=>x=vQ s) (by
  unfold OZ vQ;refine⟨fun h=>⟨fun h2=>?_,fun h2=>?_⟩,fun h=>?_⟩
  ·rw[kC<|by omega,kC<|by omega]
  ·rw[kC<|by omega,kA<|by omega];by_cases h3:300100<s.length
   ·rw[kJ h3];exact kJ (by omega)
   ·rw[kI h3];exact kI (by omega)
  ·rw[kA<|by omega];by_cases h3:300100<s.length
   ·rw[kJ h3];exact kJ (by omega)
   ·rw [kI h3];exact kI (by omega))
 exact h
end
end Go.AM

namespace Go.AM
open Go
def Mq:Zc:=[35]
def tDf:Zc:=[100,101,102,101,114,32]
def Bm(rs:List Zi)(x:Zi):List Zi:=if x.status≠0 then rs++[x]else rs
def Qa(m:Zd):Nat->List Zc->List Zi->Zi->Option (List Zi)
 |0,_,_,_=>none
 |_+1,[],rs,x=>some (Bm rs x)
 |n+1,y::r,rs,x=>
  if (Zn Bd y).2=true then Qa m n r (Bm rs x) (Kp<|y.drop 10)
  else if (Zn t2 y).2=false then none
  else if (Zn Mq<|y.drop 2).2=true then
   (if (Jy m<|y.drop 2::(Vh r).1).2.2=0 then Qa m n (Vh r).2 rs ⟨x.status,x.key,x.frames++[(Jy m<|y.drop 2::(Vh r).1).2.1],x.defers,x.panics⟩else none)
  else if (Zn tDf<|y.drop 2).2=true then Qa m n r rs ⟨x.status,x.key,x.frames,x.defers++[Ld<|(y.drop 2).drop 6],x.panics⟩
  else if (Jt<|y.drop 2).2=0 then Qa m n r rs ⟨x.status,x.key,x.frames,x.defers,x.panics++[(Jt<|y.drop 2).1]⟩else none
def vV(m:Zd)(s:Zc)(e:Zo):Option (List Zi)->Zo × Int
 |none=>(sz,12)
 |some rs=>if Un m ⟨e.outcome,e.failing,e.steps,rs⟩=true/\Hq m ⟨e.outcome,e.failing,e.steps,rs⟩=s then (⟨e.outcome,e.failing,e.steps,rs⟩,0)else (sz,12)
def Aa(m:Zd)(s:Zc):List Zc->Zo × Int
 |[]=>(sz,12)
 |a::r=>if (Zn Gy a).2=false then (sz,12)else vV m s (Ry<|a.drop 8) (Qa m (r.length+1) r [] rz)
def Qf(m:Zd)(s:Zc):Zo × Int:=if 300000<s.length then (sz,4)else if (Xr s).2≠[]then (sz,12)else Aa m s (Xr s).1
structure Ov(x:Zi)(n:Nat):Prop where
 st:0<=x.status
 k:-9223372036854775808<=x.key/\x.key<9223372036854775808
 f :∀y∈x.frames,Ul y
 d :∀y∈x.defers,Wf y.arg
 p :∀y∈x.panics,Hu y
 fl:x.frames.length+n<=1000000
 dl:x.defers.length+n<=1000000
 pl:x.panics.length+n<=1000000
theorem Ov.to{x:Zi}{n:Nat}(h:Ov x n):Kz x:=⟨h.st,h.k,h.f,h.d,h.p,by have:=h.fl;omega,by have:=h.dl;omega,by have:=h.pl;omega⟩
theorem Yst:∀(t:Zc) (x:Zq),Wf x.arg->Wf (Df t x).arg
 |[],x,h=>h
 |c::t,x,h=>by
  unfold Df;refine Yst t _ ?_;split
  ·split
   ·exact tJ _
   ·exact h
  ·exact h
theorem Wc6(s:Zc):Wf (Ld s).arg:=Yst _ _ Wf.zero
theorem Xte{s:Zc}{n:Nat}(hn:n<=1000000):Ov (Kp s) n:=by
 have z :∀x:Zi,0<=x.status->(-9223372036854775808<=x.key/\x.key<9223372036854775808)->x.frames=[]->x.defers=[]->x.panics=[]->Ov x n:=fun x h1 h2 h3 h4 h5=>
  ⟨h1,h2,by rw[h3];simp,by rw[h4];simp,by rw[h5];simp,by rw[h3];simpa using hn,by rw[h4];simpa using hn,by rw[h5];simpa using hn⟩
 unfold Kp Py;split
 ·exact z _ (by decide) (by decide) rfl rfl rfl
 split
 ·exact z _ (by decide) (by decide) rfl rfl rfl
 split
 ·exact z _ (show(0:Int)<=2 by decide) (OM _) rfl rfl rfl
 ·exact z _ (by decide) (by decide) rfl rfl rfl
theorem Yid{rs:List Zi}{x:Zi}(h :∀y∈rs,Kz y)(hx:Kz x):(∀y∈Bm rs x,Kz y)/\(Bm rs x).length<=rs.length+1:=by
 unfold Bm;split
 ·refine⟨fun y hy=>?_,by simp⟩;rcases kZ.1 hy with hy|hy
  ·exact h y hy
  ·rw[jO.1 hy];exact hx
 ·exact⟨h,by omega⟩
theorem Af{m:Zd}:∀(n:Nat) (t:List Zc) (rs:List Zi) (x:Zi) (dZ:List Zi),Ov x t.length->(∀y∈rs,Kz y)->rs.length+t.length<=1000000->Qa m n t rs x=some dZ->(∀y∈dZ,Kz y)/\dZ.length<=1000001
 |0,_,_,_,_,_,_,_,h=>by cases h
 |n+1,[],rs,x,dZ,hx,hr,hl,h=>by
  simp only[Qa,Option.some.injEq]at h;subst h;have:=Yid hr hx.to;simp only[kD]at hl;exact⟨this.1,by omega⟩
 |n+1,y::r,rs,x,dZ,hx,hr,hl,h=>by
  simp only[kB]at hl;have eI:=hx.fl;have mm:=hx.dl;have ly:=hx.pl;simp only[kB]at eI mm ly;have hs:=Eu r;unfold Qa at h;split at h
  ·have:=Yid hr hx.to;exact Af n r _ _ dZ (Xte<|by omega) this.1 (by omega) h
  split at h
  ·cases h
  split at h
  ·split at h
   ·refine Af n _ _ _ dZ ?_ hr (by omega) h;refine⟨hx.st,hx.k,fun q hq=>?_,hx.d,hx.p,?_,?_,?_⟩
    ·rcases kZ.1 hq with hq|hq
     ·exact hx.f q hq
     ·rw[jO.1 hq];exact WD _ _
    ·simp only[kF,kB,kD];omega
    ·simp only;omega
    ·simp only;omega
   ·cases h
  split at h
  ·refine Af n _ _ _ dZ ?_ hr (by omega) h;refine⟨hx.st,hx.k,hx.f,fun q hq=>?_,hx.p,?_,?_,?_⟩
   ·rcases kZ.1 hq with hq|hq
    ·exact hx.d q hq
    ·rw[jO.1 hq];exact Wc6 _
   ·simp only;omega
   ·simp only[kF,kB,kD];omega
   ·simp only;omega
  split at h
  ·rename_i he;refine Af n _ _ _ dZ ?_ hr (by omega) h;refine⟨hx.st,hx.k,hx.f,hx.d,fun q hq=>?_,?_,?_,?_⟩
   ·rcases kZ.1 hq with hq|hq
    ·exact hx.p q hq
    ·rw[jO.1 hq];exact(KC he).2.1
   ·simp only;omega
   ·simp only;omega
   ·simp only[kF,kB,kD];omega
  ·cases h
theorem RZ(s:Zc):(Zn t2<|Xa s).2=true/\(Zn Bd<|Xa s).2=false/\(Xa s).drop 2=s:=⟨by unfold Xa t2;exact jC Prod.snd<|Js [32,32] s,rfl,rfl⟩
theorem Ye9{m:Zd}(hm:We m){rest:List Zc}(h2:Qw t4 rest){rs:List Zi}{N:Nat}:∀(l:List Zf) (i n:Nat) (x:Zi),(∀y∈l,Ul y)->(∀y∈l,Jm m y=true)->i+l.length<=170->
  Qa m (n+l.length) ((Wm m i l).map Xa++rest) rs x=Qa m n rest rs ⟨x.status,x.key,x.frames++l,x.defers,x.panics⟩
 |[],_,n,x,_,_,_=>by simp[Wm]
 |y::l,i,n,x,hw,hb,hi=>by
  obtain⟨f0,f1,f,hf,hF⟩:=Bk.1 (hb y<|by simp);obtain⟨ys,cL⟩:=Yi3 f y.locals;rw[kB]at hi;have ih:=Ye9 hm h2 (rs:=rs) (N:=N) l (i+1) n ⟨x.status,x.key,x.frames++[y],x.defers,x.panics⟩ (fun z hz=>hw z<|by simp[hz]) (fun z hz=>hb z<|by simp[hz]) (by omega)
  have e:(Wm m i<|y::l).map Xa++rest=Xa (Uv f i y)::((ys.map Xa).map Xa++((Wm m (i+1) l).map Xa++rest)):=by
   show(Ks m i y++Wm m (i+1) l).map Xa++rest=_;rw[Bo hf,cL,yA,jB];simp
  have hr:=Ypq (k:=(i:Int)) hm (hw y<|by simp) (by omega) (hb y<|by simp);rw[Bo hf,cL]at hr;have ep:(Zn Mq<|Uv f i y).2=true:=by unfold Uv;rfl
  obtain⟨g1,g2,g3⟩:=RZ (Uv f i y);rw[e,kB,<- Nat.add_assoc,Qa,kA (by rw[g2];exact jR),kA (by rw[g1];exact fun h=>by cases h),g3,kC ep,Ymz<|Nn (RX m l<|i+1) h2];simp only;rw[hr];simp only[jS];rw[ih];simp
theorem Ysk{m:Zd}{Vm:Int}(hm:We m)(hn:Vm<=1000000){rest:List Zc}{rs:List Zi}:∀(l:List Zq) (n:Nat) (x:Zi),(∀d∈l,Wf d.arg)->(∀d∈l,Jg m Vm d=true)->
  Qa m (n+l.length) ((l.map<|Wt m).map Xa++rest) rs x=Qa m n rest rs ⟨x.status,x.key,x.frames,x.defers++l,x.panics⟩
 |[],n,x,_,_=>by simp
 |d::l,n,x,hw,hb=>by
  have ih:=Ysk hm hn (rest:=rest) (rs:=rs) l n ⟨x.status,x.key,x.frames,x.defers++[d],x.panics⟩ (fun z hz=>hw z<|by simp[hz]) (fun z hz=>hb z<|by simp[hz]);obtain⟨g1,g2,g3⟩:=RZ (Wt m d);have hd:=Xtq hm (hw d<|by simp) hn (hb d<|by simp);have e1:(Zn Mq<|Wt m d).2=false:=by unfold Wt;rfl
  have e2:(Zn tDf<|Wt m d).2=true:=by unfold Wt;rfl
  rw[jB,jB,kY,kB,<- Nat.add_assoc,Qa,kA (by rw[g2];exact jR),kA (by rw[g1];exact fun h=>by cases h),g3,kA (by rw[e1];exact jR),kC e2,hd,ih];simp
theorem Yru{m:Zd}{rest:List Zc}{rs:List Zi}:∀(l:List Zh) (n:Nat) (x:Zi),(∀p∈l,Hu p)->(∀p∈l,Xz p=true)->
  Qa m (n+l.length) ((l.map Vf).map Xa++rest) rs x=Qa m n rest rs ⟨x.status,x.key,x.frames,x.defers,x.panics++l⟩
 |[],n,x,_,_=>by simp
 |p::l,n,x,hw,hb=>by
  have ih:=Yru (m:=m) (rest:=rest) (rs:=rs) l n ⟨x.status,x.key,x.frames,x.defers,x.panics++[p]⟩ (fun z hz=>hw z<|by simp[hz]) (fun z hz=>hb z<|by simp[hz]);obtain⟨g1,g2,g3⟩:=RZ (Vf p);have hd:=KD (hb p<|by simp) (hw p<|by simp).v;obtain⟨c,r,hc,qN⟩:=Yu9 p (hb p<|by simp);have e1:(Zn Mq<|Vf p).2=false:=by rw[hc];rcases qN with rfl|rfl|rfl<;>rfl
  have e2:(Zn tDf<|Vf p).2=false:=by rw[hc];rcases qN with rfl|rfl|rfl<;>rfl
  rw[jB,jB,kY,kB,<- Nat.add_assoc,Qa,kA (by rw[g2];exact jR),kA (by rw[g1];exact fun h=>by cases h),g3,kA (by rw[e1];exact jR),kA (by rw[e2];exact jR),hd];simp only[jS];rw[ih];simp
theorem Xgi{g:Int}{x:Zi}(hs:x.status=1\/x.status=2\/x.status=3)(h1:x.status≠2->x.key=0)(hk:-9223372036854775808<=x.key/\x.key<9223372036854775808):Kp ((Ke g x).drop 10)=⟨x.status,x.key,[],[],[]⟩:=by
 have e:(Ke g x).drop 10=Yn g++(Mb++Ud x):=by rw[RW];rfl
 unfold Kp;rw[e,Yqs<|Sn g (by decide)<|by decide];simp only;rcases hs with h|h|h
 ·have h0:=h1 (by omega);have bU:Ud x=Ng:=by unfold Ud;rw[kC h];rfl
  rw[bU,h,h0];rfl
 ·have bU:Ud x=Bp++Yn x.key:=by unfold Ud;rw[kA<|by omega,kA<|by omega];rfl
  have n1:(Bp++Yn x.key:Zc)≠Ng:=by intro e;injection e with e _;cases e
  have n2:(Bp++Yn x.key:Zc)≠Sv:=by intro e;injection e with e _;cases e
  rw[bU];unfold Py;rw[kA n1,kA n2,kC<|by exact jC Prod.snd<|Js Bp<|Yn x.key];rw[show(Bp++Yn x.key:Zc).drop 8=Yn x.key from rfl,Tz hk.1 hk.2,h]
 ·have h0:=h1 (by omega);have bU:Ud x=Sv:=by unfold Ud;rw[kA<|by omega,kC h];rfl
  rw[bU,h,h0];rfl
theorem Xj0(m:Zd)(l:List Zi)(i:Nat):Qw t4 (Qr m i l):=by
 cases l with
 |nil=>exact fun x r e=>by cases e
 |cons x l=>exact La (by unfold Ke;rfl)
theorem Yl2{m:Zd}(hm:We m):∀(l:List Zi) (i n:Nat) (rs:List Zi) (x:Zi),(∀y∈l,Kz y)->(∀y∈l,Kh m y=true)->(Qr m i l).length<n->Qa m n (Qr m i l) rs x=some (Bm rs x++l)
 |[],i,n,rs,x,_,_,hn=>by
  match n,hn with
  |n+1,_=>show some (Bm rs x)=_;rw[zA]
 |y::l,i,n,rs,x,hw,hb,hn=>by
  have hy:=hw y (by simp);have hg:=hb y (by simp);have h0:=Gb.of hg
  have e:Qr m i (y::l)=Ke i y::((Wm m 0 y.frames).map Xa++((y.defers.map<|Wt m).map Xa++((y.panics.map Vf).map Xa++Qr m (i+1) l))):=by
   show Jp m i y++Qr m (i+1) l=_;unfold Jp Gn;simp
  have hlen:(Wm m 0 y.frames).length>=y.frames.length:=by
   have :∀(fr:List Zf) (i:Nat),(∀z∈fr,Jm m z=true)->fr.length<=(Wm m i fr).length:=by
    intro fr
    induction fr with
    |nil=>intro i _;exact kU _
    |cons z fr ih=>
     intro i hz;obtain⟨_,_,f,hf,_⟩:=Bk.1 (hz z<|by simp);have:=ih (i+1) fun q hq=>hz q (by simp[hq])
     show _<=(Ks m i z++Wm m (i+1) fr).length;rw[Bo hf,kF,kB,kB];omega
   exact this _ _ h0.fb
  rw[e]at hn⊢;simp only[kB,kF,jK]at hn
  match n,hn with
  |n+1,hn=>
   have g1:(Zn Bd<|Ke i y).2=true:=by rw[RW];exact jC Prod.snd (Js Bd _)
   rw[Qa,kC g1,Xgi h0.st (Yge hg) hy.k];have aAb:((Qr m (i+1) l).length+1+y.panics.length+y.defers.length+y.frames.length)<=n:=by omega
   obtain⟨q,hq⟩ :∃q,n=q+y.panics.length+y.defers.length+y.frames.length:=⟨n-(y.panics.length+y.defers.length+y.frames.length),by omega⟩
   have hr4:Qw t4 ((y.defers.map<|Wt m).map Xa++((y.panics.map Vf).map Xa++Qr m (i+1) l)):=
    Nn (RY m (q:=[32]) (e:=32) (by decide) _) (Nn (qA (q:=[32]) (e:=32) (by decide) h0.pb)<|Xj0 m l<|i+1)
   have aAc:=h0.f;rw[hq,Ye9 hm hr4 (N:=0) y.frames 0 _ _ hy.f h0.fb<|by omega,Ysk hm (Vm:=y.frames.length) (by omega) y.defers _ _ hy.d h0.db,Yru y.panics _ _ hy.p h0.pb];rw[Yl2 hm l (i+1) q _ _ (fun z hz=>hw z<|by simp[hz]) (fun z hz=>hb z<|by simp[hz])<|by omega];have bU:y.status≠0:=by have:=h0.st;omega
   simp only[jV]
   conv=>lhs;rw[Bm]
   rw[kC bU,jD];rfl
theorem Xi1{s:Zo}(h1:1<=s.outcome/\s.outcome<=8)(h2:-1000000<=s.failing/\s.failing<=1000000)(h3:0<=s.steps/\s.steps<=5000):Ry ((Bt s).drop 8)=⟨s.outcome,s.failing,s.steps,[]⟩:=by have e:(Bt s).drop 8=(Pr s.outcome).1++(Hm++(Yn s.failing++(Bu++Yn s.steps))):=rfl;obtain⟨w1,_,w3⟩:=RV h1.1 h1.2;unfold Ry;rw[e,Yqz w1];simp only;rw[Yly<|Sn s.failing (by decide)<|by decide,w3,AG h2,AG<|by omega]
theorem Yxk{m:Zd}{s:Zo}(hm:We m)(hs:Gx s)(hf:Un m s=true)(hl:(Hq m s).length<=300000):Qf m (Hq m s)=(s,0):=by
 obtain⟨h1,h2,h3,h4,h5⟩:=Lp hf;unfold Qf;rw[kA<|by omega,Yim hs hf];rw[kA<|fun h=>h rfl];simp only[Aa];rw[kA (show ¬ (Zn Gy<|Bt s).2=false by unfold Bt;rw[Js];exact fun h=>by cases h)];rw[Xi1 h1 (by omega)<|by omega,Yl2 hm s.routines 0 _ [] rz hs.r h5<|kG _];simp only[vV];have e:(⟨s.outcome,s.failing,s.steps,Bm [] rz++s.routines⟩:Zo)=s:=by cases s;rfl
 simp only[e];rw[kC ⟨hf,trivial⟩]
theorem Xhj{m:Zd}(hm:We m)(s:Zc):Uc m s=Qf m s:=by
 by_cases hl:300000<s.length
 ·unfold Uc Qf;rw[kC hl,kC hl]
 have dB:=vK s
 have yes :∀x:Zo,Gx x->Un m x=true->Hq m x=s->Uc m s=(x,0)/\Qf m s=(x,0):=by
  intro x hx hf he;rw[<- he];exact⟨Xvf hm hx hf (by rw[he];omega),Yxk hm hx hf (by rw[he];omega)⟩
 by_cases hx :∃x:Zo,Gx x/\Un m x=true/\Hq m x=s
 ·obtain⟨x,h1,h2,h3⟩:=hx;obtain⟨e1,e2⟩:=yes x h1 h2 h3;rw[e1,e2]
 have e1:Uc m s=(sz,12):=by
  unfold Uc;rw[kA hl]
  cases bU:Md m (Lib.split s [10])with
  |none=>rfl
  |some x=>
   simp only;rw[kA];intro h;have hw:=YL (by omega) bU;refine hx ⟨x,hw,?_⟩;unfold Mg at h;split at h
   ·rename_i hf;split at h
    ·injection h with _ h;cases h
    ·injection h with h _;exact⟨hf,h⟩
   ·injection h with _ h;cases h
 have e2:Qf m s=(sz,12):=by
  unfold Qf;rw[kA hl];split
  ·rfl
  have hlen:(Xr s).1.length<=s.length+1:=by
   have:=O3 s;rw[this]at dB;simp only[kF,kB,kD]at dB;omega
  generalize (Xr s).1=L at hlen
  cases L with
  |nil=>rfl
  |cons a r=>
   simp only[Aa];split
   ·rfl
   simp only[kB]at hlen
   cases hr:Qa m (r.length+1) r [] rz with
   |none=>rfl
   |some rs=>
    simp only[vV];rw[kA];rintro⟨h1,h2⟩;have hw:=Af (r.length+1) r [] rz rs ⟨by decide,by decide,by simp,by simp,by simp,by simp;omega,by simp;omega,by simp;omega⟩ (by simp) (by simp;omega) hr;exact hx ⟨_,⟨vJ _,hw.1,by have:=hw.2;simp only;omega⟩,h1,h2⟩
 rw[e1,e2]
end Go.AM

namespace Go.AM
open Go
section
variable{PG:Zb}(H:HasD3 PG)
include H
theorem Yvu{s:Zc}(hs:s.length<=1000000):Ym PG 312 [.s s] (fun r=>r=.ag [.i .u8 (Kp s).status,.i .i64 (Kp s).key,.sl .full<|List.map Zf.row (Kp s).frames,.sl .full<|List.map Zq.row (Kp s).defers,.sl .full<|List.map Zh.row (Kp s).panics]):=by
 have hz:(Kp s).frames=[]/\(Kp s).defers=[]/\(Kp s).panics=[]:=by
  unfold Kp Py
  repeat' split
  all_goals exact⟨rfl,rfl,rfl⟩
 rw[hz.1,hz.2.1,hz.2.2];exact Xg2 H hs
theorem Xaa{m:Zd}(hm:We m){s:Zc}(hs:s.length<=1000000000):Ze PG 301 [m.av,.s s] (.tup [(Qf m s).1.av,.i .i64 (Qf m s).2]):=by
 obtain ⟨x,y,⟨rfl,rfl⟩,h⟩:=Wan H.f301 (m0:=m) (s1:=s) (K:=fun x y=>x=(Qf m s).1/\y=(Qf m s).2) (by
  have bad :∀{e:Int},Qf m s=(sz,e)->(Zo.mk 0 0 0 ([]:List Zi))=(Qf m s).1/\e=(Qf m s).2:=fun h=>by rw[h];exact⟨rfl,rfl⟩
  unfold O0 O1;refine⟨fun h=>bad (by unfold Qf;rw[kC<|by omega]),fun h=>?_⟩;have hl:s.length<=300000:=by omega
  have cZ:Qf m s=if (Xr s).2≠[]then (sz,12)else Aa m s (Xr s).1:=by unfold Qf;rw[kA<|by omega]
  unfold O2;refine⟨_,_,Xsk H.f177 hs,?_⟩;have dB:=vK s;have YX:=O3 s;have a_ :∀y∈(Xr s).1,y.length<=300000:=fun y hy=>kX (YP (by rw[YX];exact List.mem_append_left _ hy)) hl
  rw[YX]at dB;simp only[kF,kB,kD]at dB;unfold O4;refine⟨fun h=>bad<|by rw[cZ,kC<|by simpa using h],fun h=>?_⟩;rw[kA<|by simpa using h]at cZ;generalize (Xr s).1=L at cZ a_ dB
  cases L with
  |nil=>exact⟨fun _=>bad cZ,fun h=>absurd rfl h⟩
  |cons a r=>
  refine⟨fun h=>absurd h (by simp only[kB];omega),fun _=>⟨a,rfl,_,Nx H a Gy,fun h=>bad ?_,fun h=>?_⟩⟩
  ·rw[cZ];simp only[Aa];rw[kC<|by simpa using h]
  have hc:(Zn Gy a).2=true:=by simpa using h
  have h8:8<=a.length:=So hc;simp only[Aa]at cZ;rw[kA (by rw[hc];exact fun h=>by cases h)]at cZ;have O5:=a_ a jI;unfold O6;refine⟨a,rfl,h8,Ry<|a.drop 8,Xe4 H (by simp;omega),?_⟩;have O7:(Ry<|a.drop 8).routines=[]:=rfl;have O8:0<=(Ry<|a.drop 8).outcome:=vJ _;generalize Ry (a.drop 8)=e0 at cZ O7 O8;obtain⟨eo,ef,es,er⟩:=e0;simp only at O7 O8;subst O7;unfold O9 O_ PA;intro P hP;simp only[kB]at dB;have hrl:r.length<=300001:=by omega
  generalize hR:Qa m (r.length+1) r [] rz=R at cZ;have gK:R=none->Qf m s=(sz,12):=fun h=>by rw[cZ,h];rfl
  have j9 :∀(rs:List Zi) (z:Zo),R=some rs->Oz PG (fun x y=>x=(Qf m s).1/\y=(Qf m s).2) s m z ⟨eo,ef,es,rs⟩:=by
   intro rs z eA;have hw:=Af (r.length+1) r [] rz rs ⟨by decide,by decide,by simp,by simp,by simp,by simp;omega,by simp;omega,by simp;omega⟩ (by simp) (by simp;omega) (hR.trans eA);have vL:Gx ⟨eo,ef,es,rs⟩:=⟨O8,hw.1,by have:=hw.2;simp only;omega⟩;rw[eA]at cZ;simp only[vV]at cZ;unfold Oz;refine⟨_,Xky H.toHasT hm vL,fun h=>bad ?_,fun h=>?_⟩
   ·rw[cZ,kA];rintro⟨h1,_⟩;unfold Nj at h;rw[kC h1]at h;exact h rfl
   have hf:Un m ⟨eo,ef,es,rs⟩=true:=by
    unfold Nj at h;by_cases hf:Un m ⟨eo,ef,es,rs⟩=true
    ·exact hf
    ·rw[kA hf]at h;exact absurd (by decide) h
   refine⟨_,Xhe H.toHasT hm vL hf,fun h=>bad ?_,fun h=>?_⟩
   ·rw[cZ,kA];rintro⟨_,h2⟩;exact h h2
   ·rw[cZ,kC ⟨hf,kP.1 h⟩];exact⟨rfl,rfl⟩
  have go :∀(n:Nat) (t pre:List Zc) (rs:List Zi) (x:Zi) (z:Zo),pre++t=a::r->t.length<n->rs.length+t.length<=500000->x.frames.length+t.length<=500000->x.defers.length+t.length<=500000->x.panics.length+t.length<=500000->Qa m n t rs x=R->P (pre.length:Int) m z ⟨eo,ef,es,rs⟩ x:=by
   intro n
   induction n with
   |zero=>intro t pre rs x z _ h;omega
   |succ n ih=>
   intro t pre rs x z pJ hn b1 b2 b3 b4 hx;have hlen:(a::r).length=pre.length+t.length:=by rw[<- pJ,kF]
   refine hP _ _ _ _ _ ?_
   cases t with
   |nil=>
    simp only[kD]at hlen b1;unfold vW PB;refine⟨fun h=>absurd h (by rw[hlen];omega),fun _=>⟨fun h=>⟨⟨?_,?_⟩,j9 _ _ ?_⟩,fun h=>j9 _ _ ?_⟩⟩
    ·simp only[kB,kD,Xk];omega
    ·simp only[kB,kD,Xk];omega
    ·rw[<- hx];simp only[Qa,Bm,kC h]
    ·rw[<- hx];simp only[Qa,Bm,kA h]
   |cons y t=>
    simp only[kB]at hlen hn b1 b2 b3 b4
    have aT:(a::r)[((pre.length:Int)).toNat]?=some y:=by
     rw[<- pJ,show((pre.length:Int)).toNat=pre.length from rfl,yE<|kU _,Nat.sub_self];rfl
    have hym :∀z∈t,z∈a::r:=fun z hz=>by rw[<- pJ];exact List.mem_append_right _ (jJ _ hz)
    have WB:=a_ y (by rw[<- pJ];exact List.mem_append_right _ jI);have pK:(pre++[y])++t=a::r:=by rw[<- pJ];simp
    have BB:((pre++[y]).length:Int)=(pre.length:Int)+1:=by simp
    unfold Qa at hx;unfold vW;refine⟨fun _=>?_,fun h=>absurd (show(pre.length:Int)<((a::r).length:Int)by rw[kB];omega) h⟩;unfold PC;refine⟨by omega,y,aT,_,Nx H y Bd,fun hg=>?_,fun hg=>?_⟩
    ·rw[kC hg]at hx;have cX:10<=y.length:=So hg
     have t10 :∀dZ,dZ.length<=rs.length+1->Qa m n t dZ (Kp<|y.drop 10)=R->pL PG (fun x y=>x=(Qf m s).1/\y=(Qf m s).2) P s (a::r) (pre.length:Int) m z ⟨eo,ef,es,dZ⟩ x:=by
      intro dZ aAm dX;unfold pL;refine⟨by omega,y,aT,cX,Kp<|y.drop 10,Yvu H (by simp;omega),?_⟩;rw[Yq (by omega)<|by omega,<- BB]
      have hz:(Kp<|y.drop 10).frames=[]/\(Kp<|y.drop 10).defers=[]/\(Kp<|y.drop 10).panics=[]:=by
       unfold Kp Py
       repeat' split
       all_goals exact⟨rfl,rfl,rfl⟩
      exact ih t (pre++[y]) dZ _ z pK (by omega) (by omega) (by rw[hz.1];simp;omega) (by rw[hz.2.1];simp;omega) (by rw[hz.2.2];simp;omega) dX
     refine⟨fun h=>⟨⟨?_,?_⟩,t10 _ (by simp) ?_⟩,fun h=>t10 _ (by omega) ?_⟩
     ·simp only[kB,kD,Xk];omega
     ·simp only[kB,kD,Xk];omega
     ·rw[Bm,kC h]at hx;exact hx
     ·rw[Bm,kA h]at hx;exact hx
    rw[kA (by rw[hg];exact jR)]at hx;unfold PE;refine⟨by omega,y,aT,_,Nx H y t2,fun h2=>bad<|gK ?_,fun h2=>?_⟩
    ·rw[kC<|by simpa using h2]at hx;exact hx.symm
    have h2:(Zn t2 y).2=true:=by simpa using h2
    rw[kA (by rw[h2];exact fun h=>by cases h)]at hx;have hy2:2<=y.length:=So h2;unfold PH;refine⟨by omega,y,aT,hy2,?_⟩;have mm:(y.drop 2).length<=300000:=by simp;omega
    generalize y.drop 2=hd at hx mm⊢;unfold PI;intro P1 cY;rw[Yq (by omega)<|by omega,<- BB]
    -- what follows the part
    have f16 :∀(acc q t':List Zc),q++t'=a::r->t'.length<=t.length->((Zn Mq hd).2=true->acc=(Vh t).1/\t'=(Vh t).2)->((Zn Mq hd).2=false->acc=[]/\t'=t)->Ec PG (fun x y=>x=(Qf m s).1/\y=(Qf m s).2) P s (a::r) (q.length:Int) (hd::acc) m z ⟨eo,ef,es,rs⟩ x:=by
     intro acc q t' hq htl ht hf;unfold Ec;refine⟨hd,rfl,_,Nx H hd Mq,fun hs=>?_,fun hs=>?_⟩
     ·obtain⟨rfl,rfl⟩:=ht hs;have eG:=Eu t;rw[kC hs]at hx;have hc:=c85 H.toHasG hm (l:=hd::(Vh t).1) (by simp only[kB];omega);generalize hrf:Jy m (hd::(Vh t).1)=F at hc hx;obtain⟨f1,f2,f3⟩:=F;simp only at hc hx;refine⟨f1,f2,f3,hc,fun h=>bad<|gK ?_,fun h=>⟨⟨?_,?_⟩,ih (Vh t).2 q rs _ z hq (by omega) (by omega) ?_ (by simp only;omega) (by simp only;omega) ?_⟩⟩
      ·rw[kA h]at hx;exact hx.symm
      ·simp only[kB,kD,Xk];omega
      ·simp only[kB,kD,Xk];omega
      ·simp only[kF,kB,kD];omega
      ·rw[kC<|kP.1 h]at hx;exact hx
     ·obtain⟨rfl,rfl⟩:=hf hs;rw[kA (by rw[hs];exact jR)]at hx;refine⟨hd,rfl,_,Nx H hd tDf,fun vX=>?_,fun vX=>?_⟩
      ·rw[kC vX]at hx;refine⟨hd,rfl,So vX,_,Yzb H (by simp;omega),⟨?_,?_⟩,ih t' q rs _ z hq (by omega) (by omega) (by simp only;omega) ?_ (by simp only;omega) hx⟩
       ·simp only[kB,kD,Xk];omega
       ·simp only[kB,kD,Xk];omega
       ·simp only[kF,kB,kD];omega
      ·rw[kA (by rw[vX];exact jR)]at hx;refine⟨hd,rfl,_,_,Xrc H.toHasP<|by omega,fun h=>bad<|gK ?_,fun h=>⟨⟨?_,?_⟩,ih t' q rs _ z hq (by omega) (by omega) (by simp only;omega) (by simp only;omega) ?_ ?_⟩⟩
       ·rw[kA h]at hx;exact hx.symm
       ·simp only[kB,kD,Xk];omega
       ·simp only[kB,kD,Xk];omega
       ·simp only[kF,kB,kD];omega
       ·rw[kC<|kP.1 h]at hx;exact hx
    have more :∀(t' q acc:List Zc),q++t'=a::r->acc.length+t'.length<=t.length->((Zn Mq hd).2=true->(Vh t).1=acc++(Vh t').1/\(Vh t).2=(Vh t').2)->((Zn Mq hd).2=false->acc=[]/\t'=t)->P1 (q.length:Int) (hd::acc) m z ⟨eo,ef,es,rs⟩ x:=by
     intro t'
     induction t' with
     |nil=>
      intro q acc hq O5 ht hf;refine cY _ _ _ _ _ _ ?_;have PJ:(a::r).length=q.length:=by rw[<- hq];simp
      have YY:=f16 acc q [] hq (zO _) (fun h=>by obtain⟨e1,e2⟩:=ht h;exact⟨by rw[e1];simp[Vh],by rw[e2];rfl⟩) hf;unfold vZ;exact⟨hd,rfl,_,Nx H hd Mq,fun _=>⟨fun h=>absurd h (by rw[PJ];omega),fun _=>YY⟩,fun _=>YY⟩
     |cons u t' ihm=>
      intro q acc hq O5 ht hf;refine cY _ _ _ _ _ _ ?_;have PJ:(a::r).length=q.length+(t'.length+1):=by rw[<- hq];simp
      have YZ:(a::r)[((q.length:Int)).toNat]?=some u:=by
       rw[<- hq,show((q.length:Int)).toNat=q.length from rfl,yE<|kU _,Nat.sub_self];rfl
      have gW:(q++[u])++t'=a::r:=by rw[<- hq];simp
      have hqp:((q++[u]).length:Int)=(q.length:Int)+1:=by simp
      simp only[kB]at O5 PJ;unfold vZ;refine⟨hd,rfl,_,Nx H hd Mq,fun hs=>⟨fun _=>⟨by omega,u,YZ,_,Nx H u t4,fun h4=>?_,fun h4=>?_⟩,fun h=>absurd (show(q.length:Int)<((a::r).length:Int)by rw[kB];omega) h⟩,fun hs=>?_⟩
      ·have hu4:4<=u.length:=So h4;unfold PK;refine⟨by omega,u,YZ,by omega,⟨?_,?_⟩,?_⟩
       ·simp only[kB,kD,Xk];omega
       ·simp only[kB,kD,Xk];omega
       ·rw[Yq (by omega)<|by omega,<- hqp];obtain⟨e1,e2⟩:=ht hs;have em:Vh (u::t')=(u.drop 2::(Vh t').1,(Vh t').2):=by simp[Vh,h4]
        rw[em]at e1 e2;exact ihm (q++[u]) (acc++[u.drop 2]) gW (by simp only[kF,kB,kD];omega) (fun _=>⟨by rw[e1];simp,e2⟩) (fun h=>by rw[hs]at h;cases h)
      ·refine f16 acc q (u::t') hq (by simp only[kB];omega) (fun h=>?_) hf;obtain⟨e1,e2⟩:=ht h;have em:Vh (u::t')=([],u::t'):=by simp[Vh,h4]
       rw[em]at e1 e2;exact⟨by rw[e1];simp,e2.symm⟩
      ·exact f16 acc q (u::t') hq (by simp only[kB];omega) (fun h=>by rw[hs]at h;cases h) hf
    exact more t (pre++[y]) [] pK (by simp) (fun _=>⟨rfl,rfl⟩) (fun _=>⟨rfl,rfl⟩)
  exact go (r.length+1) r [a] [] rz _ rfl (kG _) (by simp;omega) (by simp;omega) (by simp;omega) (by simp;omega) hR)
 exact h
theorem Xfz(hf:PG.fn 288=some v7){m:Zd}(pq:m.funcs.length<=9223372036854775807)(s:Zc):Ze PG 288 [m.av,.s s] (.b true):=by
 obtain ⟨x,rfl,h⟩:=Wdi hf (m0:=m) (s1:=s) (K:=fun x=>x=true) (by
  unfold PL;refine⟨_,c79 H.toHasF pq,fun _=>rfl,fun hg=>⟨_,Wau H s,fun _=>rfl,fun cO=>?_⟩⟩;have hm:=We.of hg
  have hs:s.length<=1000000000:=by
   unfold vQ at cO;split at cO
   ·split at cO
    ·cases cO
    ·have:=zP cO;omega
   ·have:=zP cO;omega
  have c1:=Xz9 H.toHasD1 hm hs;have c2:=Xaa H hm hs;rw[<- Xhj hm s]at c2
  have hw:vF (Uc m s).1:=by
   have hz:vF sz:=⟨by decide,by simp,by simp⟩;unfold Uc;split
   ·exact hz
   ·cases bU:Md m (Lib.split s [10])with
    |none=>exact hz
    |some x=>
     simp only;split
     ·have dB:=vK s;have w:=YL (by omega) bU
      exact ⟨w.o,fun y hy=>by
       have w:=w.r y hy;have:=w.fl;have:=w.dl;have:=w.pl;exact ⟨w.st,w.k,w.f,w.d,w.p,by omega,by omega,by omega⟩,w.n⟩
     ·exact hz
  unfold PM;exact ⟨_,_,c1,_,_,c2,_,Xbh H.toHasT H.f314 H.f302 hw,fun _=>kJ rfl,fun h=>by rw [NT.2 rfl] at h;cases h⟩)
 exact h
end
end Go.AM
