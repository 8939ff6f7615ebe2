/- Parts of the proof: V38f, C38h, C38i, C38j, C38k, C38l, C38m, V40, C40, C40b, C40c, C40d, V40r, V39c, V40s, V40t, C40e, C39d, C39e, C40f, C40g, C40h, C40i, C40j, C40k, C40l. -/
import Derived.Test.YtheacfnopahmjaaGreatDoorG5
import Derived.Test.YtheacfnopahmjaaGreatDoorG2
import Derived.Test.YtheacfnopahmjaaGreatDoorG3
import Derived.Test.YtheacfnopahmjaaGreatDoorG4
import Derived.Lib.SplitLaws
import Derived.Lib.IndexBytes
import Derived.Lib.IndexMore
set_option linter.all false
namespace Go.AM
open Go
def Zxx (s:Xh):Bool:=decide (40<s.name.length)
def Yd0 (f:Ye):Bool:=decide (40<f.name.length)||decide (30<f.slots.length)||decide (300<f.code.length)||f.slots.any Zxx
def Zxp (m:Zh):Bool:=(m.funcs.take 41).any Yd0||decide (40<m.funcs.length)
def Xj3 (x:Zg):Bool:=(x.locals.take 21).any (fun l=>Zkh l.value)||decide (20<x.locals.length)
structure Ww (m:Zh):Prop where
 n:m.funcs.length<=40
 f :∀f∈m.funcs,f.name.length<=40/\f.slots.length<=30/\f.code.length<=300/\∀s∈f.slots,s.name.length<=40
theorem Ww.of {m:Zh} (h:Zxp m=false):Ww m:=by
 simp only [Zxp,xH,yD] at h
 have hn:m.funcs.length<=40:=by omega
 refine ⟨hn,fun f hf=>?_⟩
 have h1:=h.1
 rw [zL (by omega),xG] at h1
 have h2:=h1 f hf
 simp only [Yd0,zV,xH,yD,xG] at h2
 refine ⟨by omega,by omega,by omega,fun s hs=>?_⟩
 simpa [Zxx] using h2.2 s hs
structure Gg (x:Zg):Prop where
 m:0<=x.mode
 n:x.locals.length<=9223372036854775807
 v :∀l∈x.locals,Wf l.value
def Ku (n:Int):Int->List Zy->Bool
 | _,[]=>true
 | last,l::r=>decide (last<l.slot)&&decide (l.slot<n)&&Vh l.value&&Ku n l.slot r
def Ps (f:Ye) (x:Zg):Bool:=decide (f.slots.length<=16)&&decide (f.name.length<=16)&&decide (0<=x.pos)&&decide (x.pos<f.code.length)&&f.slots.all (fun s=>decide (s.name.length<=16))&&Ku f.slots.length (-1) x.locals
def Jz (m:Zh) (x:Zg):Bool:=decide (0<=x.func)&&decide (x.mode<=3)&&(match m.funcs[x.func.toNat]? with | none=>false | some f=>Ps f x)
def Bt (m:Zh) (x:Zg):Int:=if Jz m x=true then 0 else 8
def Tz:List Zc:=[[99,97,108,108],[100,101,102,101,114],[112,97,110,105,99],[101,120,105,116]]
def Su (n:Int):Zc:=(Tz[n.toNat]?).getD []
def Gq (f:Ye) (k:Int) (x:Zg):Zc:=[35]++Xe k++[32]++Xe x.func++[32]++quo f.name++[32,97,116,32]++Xe x.pos++[32]++Su x.mode
def Mw (f:Ye) (n:Int):Zc:=((f.slots[n.toNat]?).getD Xh.zero).name
def Gz (f:Ye) (l:Zy):Zc:=[32,32]++Xe l.slot++[32]++quo (Mw f l.slot)++[32,61,32]++Xg l.value
def Ga (m:Zh) (k:Int) (x:Zg):List Zc:=match m.funcs[x.func.toNat]? with
 | none=>[]
 | some f=>Gq f k x::x.locals.map (Gz f)
def Uv (m:Zh) (k:Int) (x:Zg):List Zc × Int:=if k<0\/170<=k then ([],2) else if Jz m x=true then (Ga m k x,0) else ([],8)
theorem Si {m:Zh} {x:Zg}:Jz m x=true↔0<=x.func/\x.mode<=3/\∃f,m.funcs[x.func.toNat]?=some f/\Ps f x=true:=by
 unfold Jz
 cases h:m.funcs[x.func.toNat]? with
 | none=>simp
 | some f=>simp [and_assoc]
theorem Iy {f:Ye} {x:Zg}:Ps f x=true↔f.slots.length<=16/\f.name.length<=16/\0<=x.pos/\x.pos<f.code.length/\(∀s∈f.slots,s.name.length<=16)/\Ku f.slots.length (-1) x.locals=true:=by
 simp [Ps,and_assoc]
theorem Zbu {n:Int} :∀{l:List Zy} {last:Int},Ku n last l=true->∀x∈l,last<x.slot/\x.slot<n/\Vh x.value=true
 | [],_,_,x,hx=>by cases hx
 | y::r,last,h,x,hx=>by
  simp only [Ku,kL,kV] at h
  obtain ⟨⟨⟨h1,h2⟩,h3⟩,h4⟩:=h
  rcases jF.1 hx with rfl | hx
  ·exact ⟨h1,h2,h3⟩
  ·have:=Zbu h4 x hx
   exact ⟨by omega,this.2⟩
theorem Zm5 {n:Int} :∀{l:List Zy} {last:Int},Ku n last l=true->l=[]\/(l.length:Int)<n-last
 | [],_,_=>.inl rfl
 | y::r,last,h=>by
  simp only [Ku,kL,kV] at h
  obtain ⟨⟨⟨h1,h2⟩,h3⟩,h4⟩:=h
  rcases Zm5 h4 with rfl | h5
  ·right;simp only [kB,kG];omega
  ·right;simp only [kB];omega
theorem Yaa {n last:Int} :∀(l:List Zy) (i:Nat),Ku n last l=true->Ku n last (l.take i)=true
 | [],i,h=>by rw [List.take_nil];rfl
 | y::r,0,h=>rfl
 | y::r,i+1,h=>by
  simp only [Ku,yZ,kL] at h ⊢
  exact ⟨h.1,Yaa r i h.2⟩
def Cy (last:Int):List Zy->Int
 | []=>last
 | l::r=>Cy l.slot r
theorem Zz5 :∀(l:List Zy) (last:Int) (x:Zy),Cy last (l++[x])=x.slot
 | [],_,_=>rfl
 | y::r,last,x=>Zz5 r y.slot x
theorem Yb5 {n:Int} :∀(l:List Zy) (last:Int) (x:Zy),Ku n last (l++[x])=(Ku n last l&&decide (Cy last l<x.slot)&&decide (x.slot<n)&&Vh x.value)
 | [],last,x=>by simp [Ku,Cy];rfl
 | y::r,last,x=>by
  simp only [kZ,Ku,Cy,Yb5 r y.slot x]
  simp only [Bool.and_assoc]
  rfl
theorem Yiv {n last:Int} {l:List Zy} {i:Nat} (h:Ku n last (l.take i)=false):Ku n last l=false:=by
 rw [<- zV] at h ⊢
 exact fun h'=>h (Yaa l i h')
def Yv (n:Int) (s:Zc):Int × Bool × Zc:=((Km s).1,(Km s).2.1&&decide (0<=(Km s).1)&&decide ((Km s).1<n),(Km s).2.2)
def Dg (v:Zc):List Zc->Int
 | []=>-1
 | x::r=>if v=x then 0 else if Dg v r = -1 then -1 else 1+Dg v r
def Pd (s:Zc):Int:=Dg s Tz
def Qs (m:Zh) (n:Int):Zc:=((m.funcs[n.toNat]?).getD Ye.zero).name
def Uw (m:Zh) (n:Int):Int:=(((m.funcs[n.toNat]?).getD Ye.zero).code.length:Nat)
def Lb (k f p:Int) (s:Zc):Int × Zg × Bool:=(k,⟨f,p,max 0 (Pd s),[]⟩,decide (0<=Pd s))
def Mo (m:Zh) (k f:Int) (s:Zc):Int × Zg × Bool:=
 if (Yv (Uw m f) s).2.1=false then (0,⟨f,(Yv (Uw m f) s).1,0,[]⟩,false) else
 if (Zn [32] (Yv (Uw m f) s).2.2).2=false then (0,⟨f,(Yv (Uw m f) s).1,0,[]⟩,false) else Lb k f (Yv (Uw m f) s).1 (Zn [32] (Yv (Uw m f) s).2.2).1
def Mn (m:Zh) (k:Int) (s:Zc):Int × Zg × Bool:=
 if (Yv m.funcs.length s).2.1=false then (0,⟨(Yv m.funcs.length s).1,0,0,[]⟩,false) else
 if (Zn ([32]++quo (Qs m (Yv m.funcs.length s).1)++[32,97,116,32]) (Yv m.funcs.length s).2.2).2=false then (0,⟨(Yv m.funcs.length s).1,0,0,[]⟩,false) else
 Mo m k (Yv m.funcs.length s).1 (Zn ([32]++quo (Qs m (Yv m.funcs.length s).1)++[32,97,116,32]) (Yv m.funcs.length s).2.2).1
def Bv (m:Zh) (s:Zc):Int × Zg × Bool:=
 if (Yv 170 s).2.1=false then (0,⟨0,0,0,[]⟩,false) else if (Zn [32] (Yv 170 s).2.2).2=false then (0,⟨0,0,0,[]⟩,false) else Mn m (Yv 170 s).1 (Zn [32] (Yv 170 s).2.2).1
def Vm (m:Zh) (s:Zc):Int × Zg × Bool:=if (Zn [35] s).2=false then (0,⟨0,0,0,[]⟩,false) else Bv m (Zn [35] s).1
def Ki (f:Ye) (s:Zc):Option Zy:=
 if (Zn [32,32] s).2=false then none else
 if (Yv f.slots.length (Zn [32,32] s).1).2.1=false then none else
 if (Zn ([32]++quo (Mw f (Yv f.slots.length (Zn [32,32] s).1).1)++[32,61,32]) (Yv f.slots.length (Zn [32,32] s).1).2.2).2=false then none else
 if (Ji (Zn ([32]++quo (Mw f (Yv f.slots.length (Zn [32,32] s).1).1)++[32,61,32]) (Yv f.slots.length (Zn [32,32] s).1).2.2).1).2=0 then
  some ⟨(Yv f.slots.length (Zn [32,32] s).1).1,(Ji (Zn ([32]++quo (Mw f (Yv f.slots.length (Zn [32,32] s).1).1)++[32,61,32]) (Yv f.slots.length (Zn [32,32] s).1).2.2).1).1⟩ else none
def Qk (f:Ye):List Zc->Option (List Zy)
 | []=>some []
 | s::r=>match Ki f s with
  | none=>none
  | some y=>match Qk f r with | none=>none | some ys=>some (y::ys)
abbrev fz:Zg:=⟨0,0,0,[]⟩
def Kq (m:Zh) (l:List Zc):Int × Zg × Int:=
 if 17<l.length\/Dn 1400060 l=true then (0,fz,4) else
 match l with
 | []=>(0,fz,12)
 | s::r=>if (Vm m s).2.2=false then (0,fz,12) else
  match m.funcs[(Vm m s).2.1.func.toNat]? with
  | none=>(0,fz,12)
  | some f=>match Qk f r with
   | none=>(0,fz,12)
   | some ys=>if Uv m (Vm m s).1 { (Vm m s).2.1 with locals:=ys }=(l,0) then ((Vm m s).1,{ (Vm m s).2.1 with locals:=ys },0) else (0,fz,12)
theorem Zfb (n:Int) (s:Zc):(Yv n s).2.1=true->0<=(Yv n s).1/\(Yv n s).1<n:=by
 intro h
 simp only [Yv,kL,kV] at h ⊢
 omega
theorem Zhl (v:Zc) :∀l:List Zc,-1<=Dg v l/\Dg v l<l.length
 | []=>⟨Int.le_refl _,by show (-1:Int)<0;decide⟩
 | x::r=>by
  have:=Zhl v r
  rw [Dg,kB]
  repeat' split
  all_goals omega
theorem Xf0 (s:Zc):-1<=Pd s/\Pd s<4:=Zhl s Tz
theorem Yci (m:Zh) (s:Zc):0<=(Vm m s).2.1.mode:=by
 have h0 :∀a:Int,0<=max 0 a:=fun a=>by omega
 unfold Vm Bv Mn Mo Lb
 repeat' split
 all_goals first | exact h0 _ | exact Int.le_refl 0
theorem Yyc (m:Zh) (s:Zc):(Vm m s).2.1.locals=[]:=by
 unfold Vm Bv Mn Mo Lb
 repeat' split
 all_goals rfl
theorem Xi9 {m:Zh} {s:Zc} (h:(Vm m s).2.2=true):0<=(Vm m s).2.1.func/\(Vm m s).2.1.func<m.funcs.length/\0<=(Vm m s).1/\(Vm m s).1<170:=by
 unfold Vm at h ⊢
 split at h
 ·cases h
 rename_i h1
 rw [kA h1]
 clear h1
 generalize (Zn [35] s).1=t at h ⊢
 unfold Bv at h ⊢
 split at h
 ·cases h
 rename_i h1
 rw [kA h1]
 split at h
 ·cases h
 rename_i h2
 rw [kA h2]
 have k1:=Zfb 170 t (by simpa using h1)
 clear h1 h2
 generalize (Yv 170 t).1=k at h k1 ⊢
 generalize (Zn [32] (Yv 170 t).2.2).1=u at h ⊢
 unfold Mn at h ⊢
 split at h
 ·cases h
 rename_i h1
 rw [kA h1]
 split at h
 ·cases h
 rename_i h2
 rw [kA h2]
 have k2:=Zfb m.funcs.length u (by simpa using h1)
 clear h1 h2
 generalize (Zn ([32]++quo (Qs m (Yv m.funcs.length u).1)++[32,97,116,32]) (Yv m.funcs.length u).2.2).1=w at h ⊢
 generalize (Yv m.funcs.length u).1=f at h k2 ⊢
 unfold Mo at h ⊢
 split at h
 ·cases h
 rename_i h1
 rw [kA h1]
 split at h
 ·cases h
 rename_i h2
 rw [kA h2]
 exact ⟨k2.1,k2.2,k1.1,k1.2⟩
end Go.AM

namespace Go.AM
open Go
structure HasF (PG:Zb):Prop extends Has38 PG where
 f82:PG.fn 82=some Zbw
 f86:PG.fn 86=some Zbc
 f88:PG.fn 88=some Zbr
 f111:PG.fn 111=some Zew
 f112:PG.fn 112=some Zds
 f113:PG.fn 113=some Ef
 f115:PG.fn 115=some Zar
 f116:PG.fn 116=some Zcz
 f119:PG.fn 119=some Zgm
 f122:PG.fn 122=some Zfi
 f123:PG.fn 123=some Zev
 f124:PG.fn 124=some Zay
 f138:PG.fn 138=some Zp4
 f139:PG.fn 139=some Zdi
 f141:PG.fn 141=some Zg2
 f144:PG.fn 144=some Zet
def Vn {α:Type} (p:α->Bool):List α->Int
 | []=>-1
 | x::r=>if p x=true then 0 else if Vn p r = -1 then -1 else 1+Vn p r
theorem Rw {α:Type} (p:α->Bool) :∀l:List α,-1<=Vn p l/\(0<=Vn p l↔l.any p=true)
 | []=>by simp [Vn]
 | x::r=>by
  have:=Rw p r
  rw [Vn,List.any_cons]
  cases p x
  ·simp only [jK,jS,Bool.false_or]
   split
   ·exact ⟨by omega,fun h=>absurd h (by decide),fun h=>absurd (this.2.2 h) (by omega)⟩
   ·exact ⟨by omega,fun _=>this.2.1 (by omega),fun h=>by have:=this.2.2 h;omega⟩
  ·simp
theorem Tf {α:Type} {P:Int->Prop} {Q:Int->Prop} (p:α->Bool) (l:List α) (h1:Q (-1)->P (l.length:Int)) (h2 :∀(i:Nat) (hi:i<l.length),p l[i]=true->Q (i:Int)->P (i:Int)) (h3 :∀(i:Nat) (hi:i<l.length),p l[i]=false->P ((i+1:Nat):Int)->P (i:Int)) (hQ:Q (Vn p l)):P 0:=by
 have key :∀m i:Nat,i+m=l.length->Q (if Vn p (l.drop i) = -1 then -1 else i+Vn p (l.drop i))->P (i:Int):=by
  intro m
  induction m with
  | zero=>
   intro i hi hq
   have:l.drop i=[]:=xF (by omega)
   rw [this] at hq
   simp only [yJ] at hi
   subst hi
   exact h1 (by simpa [Vn] using hq)
  | succ m ih=>
   intro i hi hq
   have hil:i<l.length:=by omega
   rw [zS hil,Vn] at hq
   have hb:=(Rw p (l.drop (i+1))).1
   cases hp:p l[i] with
   | true=>
    refine h2 i hil hp ?_
    rw [hp] at hq
    simpa using hq
   | false=>
    refine h3 i hil hp (ih (i+1) (by omega) ?_)
    rw [hp] at hq
    simp only [jK,jS] at hq
    by_cases hn:Vn p (l.drop (i+1)) = -1
    ·rw [kD hn] at hq ⊢
     simpa using hq
    ·rw [kA hn] at hq ⊢
     rw [kA (by omega)] at hq
     rw [show ((i+1:Nat):Int)+Vn p (l.drop (i+1))=(i:Int)+(1+Vn p (l.drop (i+1))) by omega]
     exact hq
 refine key l.length 0 (by omega) ?_
 rw [zT]
 split
 ·rename_i h;rw [h] at hQ;exact hQ
 ·simpa using hQ
theorem Yf0 (v:Zc) :∀l:List Zc,Dg v l=Vn (fun x=>decide (v=x)) l
 | []=>rfl
 | x::r=>by rw [Dg,Vn,Yf0 v r];simp
theorem Yj7 {n:Int} (h0:0<=n) (h1:n<=3):Tz[n.toNat]?=some (Su n):=by
 have:n=0\/n=1\/n=2\/n=3:=by omega
 rcases this with rfl | rfl | rfl | rfl<;>rfl
theorem Zu8 {n:Int} (h0:0<=n) (h1:n<=3):(Su n).length<=5:=by
 have:n=0\/n=1\/n=2\/n=3:=by omega
 rcases this with rfl | rfl | rfl | rfl<;>decide
section
variable {PG:Zb} (H:HasF PG)
include H
theorem Zdh {n:Int} (h1:-9223372036854775808<=n) (h2:n<9223372036854775808):Ze PG 111 [.i .i64 n] (.s (Xe n)):=by
 obtain ⟨x,rfl,h⟩:=Yfj H.f111 (n0:=n) (K:=fun x=>x=Xe n) (by
  unfold Zi6
  exact ⟨_,c15 H.toHas03 h1 h2,rfl⟩)
 exact h
theorem Zb0 {s:Zc} (hs:s.length<=400):Ze PG 112 [.s s] (.s (quo s)):=by
 obtain ⟨x,rfl,h⟩:=Yp9 H.f112 (s0:=s) (K:=fun x=>x=quo s) (by
  unfold Zm8
  refine ⟨_,_,c11 H.toHas03 s,?_⟩
  rw [Zko hs])
 exact h
theorem Zvb:Ze PG 113 [] (.ag (Tz.map AV.s)):=by
 obtain ⟨x,rfl,h⟩:=Yia H.f113 (K:=fun x=>x=Tz) (by unfold Zgy;rfl)
 exact h
theorem Yxr (s:Zc):Ym PG 116 [.s s] (fun r=>r=.b (decide (1400060<s.length))):=by
 refine (Xfp H.f116 (s0:=s) (K:=fun x=>x=decide (1400060<s.length)) ?_).to ?_
 ·unfold Zp8
  exact decide_eq_decide.2 (by omega)
 ·rintro r ⟨x,rfl,rfl⟩;rfl
theorem Yox (s:Xh):Ym PG 123 [s.av] (fun r=>r=.b (decide (16<s.name.length))):=by
 refine (Yqc H.f123 (s0:=s) (K:=fun x=>x=decide (16<s.name.length)) ?_).to ?_
 ·unfold Zo1
  exact decide_eq_decide.2 (by omega)
 ·rintro r ⟨x,rfl,rfl⟩;rfl
theorem Yh1 {l:List Zc} {f:Nat × List AV} {p:Zc->Bool} (hl:l.length<=9223372036854775807) (hf :∀x∈l,Ym PG f.1 ([.s x]++f.2) (fun r=>r=.b (p x))) (o:Zm):Ym PG 139 [.sl o (l.map Zt),.fn f.1 f.2] (fun r=>r=.i .i64 (Vn p l)):=by
 refine (Xj9 H.f139 (s0:=l) (f1:=f) (K:=fun x=>x=Vn p l) ?_ o).to ?_
 ·unfold Zio
  intro P hP
  refine Tf (Q:=fun x=>x=Vn p l) p l (fun h=>hP _ ?_) (fun i hi hp hq=>hP _ ?_) (fun i hi hp ih=>hP _ ?_) rfl
  ·unfold Iz Zgr
   exact ⟨fun h'=>absurd h' (by omega),fun _=>h⟩
  ·unfold Iz
   refine ⟨fun _=>⟨by omega,_,Wj hi,_,hf _ (kP hi),fun _=>hq,fun h'=>?_⟩,fun h'=>absurd h' (by omega)⟩
   rw [hp] at h';cases h'
  ·unfold Iz
   refine ⟨fun _=>⟨by omega,_,Wj hi,_,hf _ (kP hi),fun h'=>?_,fun _=>?_⟩,fun h'=>absurd h' (by omega)⟩
   ·rw [hp] at h';cases h'
   ·rw [Ws (by omega) (by omega)];exact ih
 ·rintro r ⟨x,rfl,rfl⟩;rfl
theorem Xbh {l:List Xh} {f:Nat × List AV} {p:Xh->Bool} (hl:l.length<=9223372036854775807) (hf :∀x∈l,Ym PG f.1 ([x.av]++f.2) (fun r=>r=.b (p x))) (o:Zm):Ym PG 144 [.sl o (l.map Xh.row),.fn f.1 f.2] (fun r=>r=.i .i64 (Vn p l)):=by
 refine (Xfs H.f144 (s0:=l) (f1:=f) (K:=fun x=>x=Vn p l) ?_ o).to ?_
 ·unfold Zjh
  intro P hP
  refine Tf (Q:=fun x=>x=Vn p l) p l (fun h=>hP _ ?_) (fun i hi hp hq=>hP _ ?_) (fun i hi hp ih=>hP _ ?_) rfl
  ·unfold Ek Zhq
   exact ⟨fun h'=>absurd h' (by omega),fun _=>h⟩
  ·unfold Ek
   refine ⟨fun _=>⟨by omega,_,Wj hi,_,hf _ (kP hi),fun _=>hq,fun h'=>?_⟩,fun h'=>absurd h' (by omega)⟩
   rw [hp] at h';cases h'
  ·unfold Ek
   refine ⟨fun _=>⟨by omega,_,Wj hi,_,hf _ (kP hi),fun h'=>?_,fun _=>?_⟩,fun h'=>absurd h' (by omega)⟩
   ·rw [hp] at h';cases h'
   ·rw [Ws (by omega) (by omega)];exact ih
 ·rintro r ⟨x,rfl,rfl⟩;rfl
theorem Ylv {l:List Zc} {f:Nat × List AV} {p:Zc->Bool} (hl:l.length<=9223372036854775807) (hf :∀x∈l,Ym PG f.1 ([.s x]++f.2) (fun r=>r=.b (p x))) (o:Zm):Ym PG 115 [.sl o (l.map Zt),.fn f.1 f.2] (fun r=>r=.b (l.any p)):=by
 refine (Yyd H.f115 (s0:=l) (f1:=f) (K:=fun x=>x=l.any p) ?_ o).to ?_
 ·unfold Zhk
  refine ⟨_,fun o=>Yh1 H hl hf o,?_⟩
  have:=(Rw p l).2
  cases h:l.any p
  ·exact kM (by rw [h] at this;intro h';exact absurd (this.1 h') (by decide))
  ·exact kN (this.2 h)
 ·rintro r ⟨x,rfl,rfl⟩;rfl
theorem Yl6 {l:List Xh} {f:Nat × List AV} {p:Xh->Bool} (hl:l.length<=9223372036854775807) (hf :∀x∈l,Ym PG f.1 ([x.av]++f.2) (fun r=>r=.b (p x))) (o:Zm):Ym PG 122 [.sl o (l.map Xh.row),.fn f.1 f.2] (fun r=>r=.b (l.any p)):=by
 refine (Xez H.f122 (s0:=l) (f1:=f) (K:=fun x=>x=l.any p) ?_ o).to ?_
 ·unfold Zjk
  refine ⟨_,fun o=>Xbh H hl hf o,?_⟩
  have:=(Rw p l).2
  cases h:l.any p
  ·exact kM (by rw [h] at this;intro h';exact absurd (this.1 h') (by decide))
  ·exact kN (this.2 h)
 ·rintro r ⟨x,rfl,rfl⟩;rfl
theorem Zzm {l:List Zc} (hl:l.length<=1000000) (v:Zc):Ze PG 141 [.sl .ext (l.map Zt),.s v] (.i .i64 (Dg v l)):=by
 obtain ⟨x,rfl,h⟩:=Yip H.f141 (s0:=l) (v1:=v) (K:=fun x=>x=Dg v l) (by
  unfold Zig
  intro P hP
  refine Tf (Q:=fun x=>x=Dg v l) (fun x=>decide (v=x)) l (fun h=>hP _ ?_) (fun i hi hp hq=>hP _ ?_) (fun i hi hp ih=>hP _ ?_) (Yf0 v l).symm
  ·unfold Ir Zif
   exact ⟨fun h'=>absurd h' (by omega),fun _=>h⟩
  ·unfold Ir
   exact ⟨fun _=>⟨by omega,_,Wj hi,fun _=>hq,fun h'=>absurd (by simpa using hp) h'⟩,fun h'=>absurd h' (by omega)⟩
  ·unfold Ir
   refine ⟨fun _=>⟨by omega,_,Wj hi,fun h'=>absurd h' (by simpa using hp),fun _=>?_⟩,fun h'=>absurd h' (by omega)⟩
   rw [Ws (by omega) (by omega)];exact ih)
 exact h
theorem Yxn {a b:List Zc} (ha:a.length<=9223372036854775807):Ze PG 119 [.sl .ext (a.map Zt),.sl .ext (b.map Zt)] (.b (decide (a=b))):=by
 obtain ⟨x,rfl,h⟩:=Xi2 H.f119 (s10:=a) (s21:=b) (K:=fun x=>x=decide (a=b)) (by
  unfold Zoq
  refine ⟨fun h=>(kM fun e=>h (by rw [e])).symm,fun h P hP=>?_⟩
  have h5:a.length=b.length:=by omega
  refine Fk (P:=P) a.length (fun i=>a.take i=b.take i) (by simp) (fun hI=>hP _ ?_) (fun i hi hI ihP=>hP _ ?_)
  ·unfold Zf0 Znt
   refine ⟨fun h=>absurd h (by omega),fun _=>?_⟩
   rw [jG,h5,jG] at hI
   exact (kN hI).symm
  ·have hi2:i<b.length:=by omega
   unfold Zf0
   refine ⟨fun _=>⟨by omega,_,Wj hi,by omega,_,Wj hi2,fun h6=>?_,fun h6=>?_⟩,fun h=>absurd h (by omega)⟩
   ·refine (kM fun e=>h6 ?_).symm
    subst e;rfl
   ·rw [Ws (by omega) (by omega)]
    refine ihP ?_
    rw [kK hi,kK hi2,hI,kW.1 h6])
 exact h
end
end Go.AM

namespace Go.AM
open Go
theorem Zdo {m:Zh} {x:Zg} (h:Jz m x≠true):(8:Int)=Bt m x:=by unfold Bt;rw [kA h]
theorem Zp3 {m:Zh} {x:Zg} (h:Jz m x=true):(0:Int)=Bt m x:=by unfold Bt;rw [kD h]
theorem Zgd {m:Zh} {n:Int} (h0:0<=n) (h1:n<m.funcs.length) :∃f,m.funcs[n.toNat]?=some f/\f∈m.funcs:=by
 have h:n.toNat<m.funcs.length:=by omega
 exact ⟨m.funcs[n.toNat],kH h,kP h⟩
theorem Yk6 {n:Int} {l:List Zy} {i:Nat} (hi:i<l.length):Ku n (-1) (l.take (i+1))=(Ku n (-1) (l.take i)&&decide (Cy (-1) (l.take i)<l[i].slot)&&decide (l[i].slot<n)&&Vh l[i].value):=by
 rw [kK hi,Yb5]
section
variable {PG:Zb} (H:HasF PG)
include H
theorem c86 {m:Zh} {x:Zg} (hm:Ww m) (hx:Gg x):Ze PG 86 [m.av,x.av] (.i .i64 (Bt m x)):=by
 obtain ⟨y,rfl,h⟩:=p86 H.f86 (m0:=m) (x1:=x) (K:=fun y=>y=Bt m x) (by
  unfold Zkp Zjs
  have no:¬(0<=x.func/\x.mode<=3/\∃f,m.funcs[x.func.toNat]?=some f/\Ps f x=true)->(8:Int)=Bt m x:=fun h=>Zdo fun h'=>h (Si.1 h')
  refine ⟨fun h=>no (by omega),fun h0=>⟨fun h=>no ?_,fun h1=>⟨fun h=>no (by omega),fun h2=>?_⟩⟩⟩
  ·rintro ⟨_,_,f,hf,_⟩
   rw [kR (by omega)] at hf
   cases hf
  obtain ⟨f,hf,hmem⟩:=Zgd (m:=m) (n:=x.func) (by omega) (by omega)
  obtain ⟨q1,q2,q3,q4⟩:=hm.f f hmem
  have no:Ps f x≠true->(8:Int)=Bt m x:=fun h=>no (by
   rintro ⟨_,_,g,hg,h'⟩
   rw [hf] at hg
   cases hg
   exact h h')
  have no:¬(f.slots.length<=16/\f.name.length<=16/\0<=x.pos/\x.pos<f.code.length/\(∀s∈f.slots,s.name.length<=16)/\Ku f.slots.length (-1) x.locals=true)->(8:Int)=Bt m x:=fun h=>no fun h'=>h (Iy.1 h')
  unfold Zm6 Zoh
  refine ⟨by omega,f,hf,fun h=>no (by omega),fun k1=>⟨fun h=>no (by omega),fun k2=>⟨fun h=>no (by omega),fun k3=>⟨fun h=>no (by omega),fun k4=>⟨_,fun o=>Yl6 H (l:=f.slots) (f:=(123,[])) (p:=fun s=>decide (16<s.name.length)) (by omega) (fun s _=>Yox H s) o,fun h=>no ?_,fun h=>?_⟩⟩⟩⟩⟩
  ·rintro ⟨_,_,_,_,h',_⟩
   rw [List.any_eq_true] at h
   obtain ⟨s,hs,h3⟩:=h
   have:=h' s hs
   simp only [kV] at h3
   omega
  have hs :∀s∈f.slots,s.name.length<=16:=by
   intro s hs
   rw [xG] at h
   simpa using h s hs
  have no:Ku f.slots.length (-1) x.locals≠true->(8:Int)=Bt m x:=fun h=>no (by rintro ⟨_,_,_,_,_,h'⟩;exact h h')
  unfold Ziu
  intro P hP
  have hn:=hx.n
  have go :∀k i:Nat,i+k=x.locals.length->Ku f.slots.length (-1) (x.locals.take i)=true->P (Cy (-1) (x.locals.take i)) (i:Int) f:=by
   intro k
   induction k with
   | zero=>
    intro i hi ha
    apply hP
    unfold Zg6 Zlt
    refine ⟨fun h=>absurd h (by omega),fun _=>Zp3 ?_⟩
    rw [zL (by omega)] at ha
    exact Si.2 ⟨by omega,by omega,f,hf,Iy.2 ⟨by omega,by omega,by omega,by omega,hs,ha⟩⟩
   | succ k ih=>
    intro i hi ha
    have hil:i<x.locals.length:=by omega
    have e:=Yk6 (n:=f.slots.length) hil
    have no:Ku f.slots.length (-1) (x.locals.take (i+1))=false->(8:Int)=Bt m x:=fun h=>no (by rw [Yiv h];decide)
    rw [ha,zN] at e
    apply hP
    unfold Zg6
    refine ⟨fun _=>⟨by omega,_,Wj hil,fun h=>no ?_,fun h3=>⟨fun h=>no ?_,fun h4=>⟨_,c76 H.toHas38 (hx.v _ (kP hil)),fun h=>no ?_,fun h5=>?_⟩⟩⟩,fun h=>absurd (show (i:Int)<x.locals.length by omega) h⟩
    ·rw [e,kM (by omega)];rfl
    ·rw [e,kM (p:=x.locals[i].slot<_) (by omega)];simp
    ·rw [e,show Vh x.locals[i].value=false by rw [<- zV];exact fun h'=>h (Nv.2 h')];simp
    ·rw [Ws (by omega) (by omega)]
     have h6:=Nv.1 (kW.1 h5)
     have:=ih (i+1) (by omega) (by rw [e,h6,kN (by omega),kN (by omega)];rfl)
     rw [kK hil,Zz5] at this
     exact this
  exact go x.locals.length 0 (by omega) rfl)
 exact h
end
end Go.AM

namespace Go.AM
open Go
theorem Zpn {f:Ye} {n:Int} (h0:0<=n) (h1:n<f.slots.length) :∃s,f.slots[n.toNat]?=some s/\s∈f.slots/\Mw f n=s.name:=by
 have h:n.toNat<f.slots.length:=by omega
 refine ⟨f.slots[n.toNat],kH h,kP h,?_⟩
 unfold Mw
 rw [kH h]
 rfl
theorem Zaq {α β:Type} (g:α->β) {l:List α} {i:Nat} (h:i<l.length):(l.take (i+1)).map g=(l.take i).map g++[g l[i]]:=by
 rw [kK h,yR]
 rfl
theorem Rt {m:Zh} {x:Zg} {f:Ye} (h:m.funcs[x.func.toNat]?=some f) (k:Int):Ga m k x=Gq f k x::x.locals.map (Gz f):=by
 unfold Ga
 rw [h]
theorem Zr4 {m:Zh} {k:Int} {x:Zg} (h:k<0\/170<=k):Uv m k x=([],2):=by unfold Uv;rw [kD h]
theorem Yti {m:Zh} {k:Int} {x:Zg} (h:¬(k<0\/170<=k)) (h1:Jz m x≠true):Uv m k x=([],8):=by unfold Uv;rw [kA h,kA h1]
theorem Yd6 {m:Zh} {k:Int} {x:Zg} (h:¬(k<0\/170<=k)) (h1:Jz m x=true):Uv m k x=(Ga m k x,0):=by unfold Uv;rw [kA h,kD h1]
noncomputable def Ts (a b:Zg):Bool:=@decide (a=b) (Classical.propDecidable _)
theorem Ycl {v w:Zg}:Ts v w=true↔v=w:=by unfold Ts;simp
theorem Zyx {v w:Zg}:Ts v w=false↔v≠w:=by rw [<- zV,Ycl]
noncomputable def Cs (a b:List Zy):Bool:=@decide (a=b) (Classical.propDecidable _)
theorem Zs5 {v w:List Zy}:Cs v w=true↔v=w:=by unfold Cs;simp
theorem Xgl {v w:List Zy}:Cs v w=false↔v≠w:=by rw [<- zV,Zs5]
section
variable {PG:Zb} (H:HasF PG)
include H
theorem c82 {m:Zh} {k:Int} {x:Zg} (hm:Ww m) (hx:Gg x):Ze PG 82 [m.av,.i .i64 k,x.av] (.tup [.sl .ext ((Uv m k x).1.map Zt),.i .i64 (Uv m k x).2]):=by
 obtain ⟨y,z,⟨rfl,rfl⟩,h⟩:=p82 H.f82 (m0:=m) (k1:=k) (x2:=x) (K:=fun y z=>y=(Uv m k x).1/\z=(Uv m k x).2) (by
  unfold Zmq Zob
  refine ⟨fun h=>by rw [Zr4 (.inl h)];exact ⟨rfl,rfl⟩,fun h0=>⟨fun h=>by rw [Zr4 (.inr h)];exact ⟨rfl,rfl⟩,fun h1=>?_⟩⟩
  unfold Zir
  refine ⟨_,c86 H hm hx,fun h=>?_,fun h=>?_⟩
  ·by_cases hb:Jz m x=true
   ·rw [<- Zp3 hb] at h;exact absurd rfl h
   ·rw [Yti (by omega) hb,<- Zdo hb];exact ⟨rfl,rfl⟩
  have hb:Jz m x=true:=by
   by_cases hb:Jz m x=true
   ·exact hb
   ·rw [<- Zdo hb] at h;exact absurd (by decide) h
  rw [Yd6 (by omega) hb]
  obtain ⟨f0,f1,f,hf,hF⟩:=Si.1 hb
  obtain ⟨g1,g2,g3,g4,g5,g6⟩:=Iy.1 hF
  have hmem:=jM hf
  obtain ⟨q1,q2,q3,q4⟩:=hm.f f hmem
  have hn:=hm.n
  have hfl:x.func<m.funcs.length:=by
   have:=(jT.1 hf).1
   omega
  have l1:=Kx k
  have l2:=Kx x.func
  have l3:=Kx x.pos
  have l4:=Bm f.name
  have l5:=Zu8 hx.m f1
  rw [Rt hf]
  unfold Zpw
  refine ⟨f0,f,hf,?_⟩
  unfold Zp5
  refine ⟨_,Zdh H (by omega) (by omega),?_,?_,_,Zdh H (by omega) (by omega),?_,?_,_,Zb0 H (by omega),?_,?_,_,Zdh H (by omega) (by omega),?_,?_,_,Zvb H,rfl,hx.m,_,Yj7 hx.m f1,?_,fun P hP=>?_⟩
  all_goals try (rw [Gi];simp only [kF,kB,kG];omega)
  have len:=Zm5 g6
  have hn2:x.locals.length<=16:=by
   rcases len with h | h
   ·rw [h];exact yN _
   ·omega
  refine Ml (P:=fun o i=>P o i f) (fun i=>Gq f k x::(x.locals.take i).map (Gz f)) x.locals.length (hP _ _ _ ?_) fun i hi ih=>hP _ _ _ ?_
  ·unfold Zdk Zkq
   rw [jG]
   exact ⟨fun h=>absurd h (by omega),fun _=>⟨rfl,rfl⟩⟩
  ·obtain ⟨a1,a2,a3⟩:=Zbu g6 _ (kP hi)
   obtain ⟨s,b1,b2,b3⟩:=Zpn (f:=f) (n:=x.locals[i].slot) (by omega) (by omega)
   have c1:=Kx x.locals[i].slot
   have c2:=Bm s.name
   have c3:=q4 s b2
   have c4:=Cq a3
   unfold Zdk
   refine ⟨fun _=>⟨by omega,_,Wj hi,_,_,c72 H.toHas38 (hx.v _ (kP hi)),fun h=>absurd (Nv.2 a3) h,fun _=>?_⟩,fun h=>absurd (show (i:Int)<x.locals.length by omega) h⟩
   rw [kD a3]
   refine ⟨_,Zdh H (by omega) (by omega),?_,?_,by omega,s,b1,_,Zb0 H (by omega),?_,?_,?_,⟨?_,?_⟩,?_⟩
   all_goals try (rw [Gi];simp only [kF,kB,kG];omega)
   all_goals try (rw [Wq];simp only [kF,kB,kG,zC,jI];omega)
   rw [Ws (by omega) (by omega)]
   rw [Zaq (Gz f) hi] at ih
   unfold Gz at ih ⊢
   rw [b3] at ih
   exact ih)
 exact h
theorem Xif {a b:List Zy} (ha:a.length<=9223372036854775807) (hw :∀l∈a,Wf l.value):Ze PG 124 [.sl .ext (a.map Zy.row),.sl .ext (b.map Zy.row)] (.b (Cs a b)):=by
 obtain ⟨x,rfl,h⟩:=Xiq H.f124 (a0:=a) (b1:=b) (K:=fun x=>x=Cs a b) (by
  have no :∀{p:Prop},(a=b->p)->¬p->false=Cs a b:=fun h1 h2=>(Xgl.2 fun h=>h2 (h1 h)).symm
  unfold Zl8
  refine ⟨fun h=>no (fun e=>by rw [e]) h,fun h P hP=>?_⟩
  have h5:a.length=b.length:=by omega
  refine Fk (P:=P) a.length (fun i=>a.take i=b.take i) (by simp) (fun hI=>hP _ ?_) (fun i hi hI ihP=>hP _ ?_)
  ·unfold Zfk Zl6
   refine ⟨fun h=>absurd h (by omega),fun _=>?_⟩
   rw [jG,h5,jG] at hI
   exact (Zs5.2 hI).symm
  ·have hi2:i<b.length:=by omega
   unfold Zfk
   refine ⟨fun _=>⟨by omega,_,Wj hi,by omega,_,Wj hi2,fun h6=>no (p:=a[i].slot=b[i].slot) (fun e=>by subst e;rfl) h6,fun h6=>⟨by omega,_,Wj hi,by omega,_,Wj hi2,_,c78 H.toHas38 (hw _ (kP hi)) _,fun h7=>no (p:=a[i].value=b[i].value) (fun e=>by subst e;rfl) (Zey.1 (by simpa using h7)),fun h7=>?_⟩⟩,fun h=>absurd (show (i:Int)<a.length by omega) h⟩
   rw [Ws (by omega) (by omega)]
   refine ihP ?_
   have e1:a[i].slot=b[i].slot:=kW.1 h6
   have e2:a[i].value=b[i].value:=Fo.1 (by simpa using h7)
   have e:a[i]=b[i]:=by
    cases ha:a[i];cases hb:b[i]
    rw [ha,hb] at e1 e2
    simp only at e1 e2
    rw [e1,e2]
   rw [kK hi,kK hi2,hI,e])
 exact h
theorem c88 {a b:Zg} (ha:Gg a):Ze PG 88 [a.av,b.av] (.b (Ts a b)):=by
 obtain ⟨x,rfl,h⟩:=p88 H.f88 (a0:=a) (b1:=b) (K:=fun x=>x=Ts a b) (by
  have no :∀{p:Prop},(a=b->p)->¬p->false=Ts a b:=fun h1 h2=>(Zyx.2 fun h=>h2 (h1 h)).symm
  unfold Zl4
  refine ⟨fun h1=>⟨fun h2=>⟨fun h3=>⟨_,Xif H ha.n ha.v,?_⟩,fun h=>no (fun e=>by rw [e]) h⟩,fun h=>no (fun e=>by rw [e]) h⟩,fun h=>no (fun e=>by rw [e]) h⟩
  cases a;cases b
  simp only at h1 h2 h3 ⊢
  subst h1;subst h2;subst h3
  unfold Cs Ts
  simp)
 exact h
end
end Go.AM

namespace Go.AM
open Go
structure HasG (PG:Zb):Prop extends HasF PG where
 f84:PG.fn 84=some Et
 f117:PG.fn 117=some Fx
 f118:PG.fn 118=some Ol
 f140:PG.fn 140=some Ll
 f143:PG.fn 143=some Zlj
theorem Yae {m:Zh} {n:Int} {f:Ye} (h:m.funcs[n.toNat]?=some f):Qs m n=f.name:=by unfold Qs;rw [h];rfl
theorem Xia {m:Zh} {n:Int} {f:Ye} (h:m.funcs[n.toNat]?=some f):Uw m n=(f.code.length:Int):=by unfold Uw;rw [h];rfl
theorem Yma (a:Int):(if 0<a then a else 0)=max 0 a:=by
 by_cases h:0<a
 ·rw [kD h];omega
 ·rw [kA h];omega
theorem Zkz (n:Int) (s:Zc):(Yv n s).2.2.length<=s.length:=Zyu s
section
variable {PG:Zb} (H:HasG PG)
include H
theorem Zak {n:Int} {s:Zc} (hs:s.length<=1000000000):Yt PG 140 (Bx [.s s]) [.i .i64 n] (fun r=>r=.tup [.i .i64 (Yv n s).1,.b (Yv n s).2.1]) (Bx [.s (Yv n s).2.2]):=by
 refine (Ypi H.f140 (n1:=n) (mP:=⟨s⟩) (K:=fun x y b=>x=(Yv n s).1/\y=(Yv n s).2.1/\b=⟨(Yv n s).2.2⟩) ?_).to (b:=⟨(Yv n s).2.2⟩) fun r b' hk=>?_
 ·unfold Zms
  refine ⟨_,_,⟨_⟩,Zug H.toHas38 hs,fun h=>⟨fun h1=>⟨rfl,?_,rfl⟩,fun h1=>⟨rfl,?_,rfl⟩⟩,fun h=>⟨rfl,?_,rfl⟩⟩
  ·unfold Yv;simp only [h,kN (show 0<=(Km s).1 by omega),zN]
  ·unfold Yv;simp only [h,kM (show ¬0<=(Km s).1 by omega),zN,Bool.false_and]
  ·unfold Yv;simp only [h,Bool.false_and]
 ·obtain ⟨x0,x1,h1,rfl,rfl,rfl⟩:=hk
  exact ⟨h1,rfl⟩
abbrev FrA (r:Int × Zg × Bool):AV:=.tup [.i .i64 r.1,r.2.1.avo .full,.b r.2.2]
theorem Yn9 {m:Zh} (hm:Ww m) {s:Zc} (hs:s.length<=1000000000):Ym PG 117 [m.av,.s s] (fun r=>r=FrA (Vm m s)):=by
 refine (Xgk H.f117 (m0:=m) (cm:=s) (K:=fun x y z=>x=(Vm m s).1/\y=(Vm m s).2.1/\z=(Vm m s).2.2) ?_).to ?_
 ·have hn:=hm.n
  unfold Zgz Zql Zh8 Zk1
  refine ⟨_,⟨(Zn [35] s).1⟩,Ue H.toHas38 [35] s,fun h=>?_,fun h=>?_⟩
  ·unfold Vm
   rw [kD (by simpa using h)]
   exact ⟨rfl,rfl,rfl⟩
  have e:Vm m s=Bv m (Zn [35] s).1:=by unfold Vm;rw [kA (by simpa using h)]
  rw [e]
  have hl:(Zn [35] s).1.length<=1000000000:=jA (Kd _ _) hs
  clear e h hs
  generalize (Zn [35] s).1=t at hl ⊢
  unfold Zqq Zk5 Zdq
  refine ⟨_,_,⟨(Yv 170 t).2.2⟩,Zak H hl,fun h=>⟨fun _=>?_,fun h'=>(by cases h')⟩,fun h=>⟨_,⟨(Zn [32] (Yv 170 t).2.2).1⟩,Ue H.toHas38 [32] _,fun h2=>?_,fun h2=>?_⟩⟩
  ·unfold Bv
   rw [kD (by simpa using h)]
   exact ⟨rfl,rfl,rfl⟩
  ·unfold Bv
   rw [kA (by simpa using h),kD (by simpa using h2)]
   exact ⟨rfl,rfl,rfl⟩
  have e:Bv m t=Mn m (Yv 170 t).1 (Zn [32] (Yv 170 t).2.2).1:=by unfold Bv;rw [kA (by simpa using h),kA (by simpa using h2)]
  rw [e]
  have hl:(Zn [32] (Yv 170 t).2.2).1.length<=1000000000:=jA (Kd _ _) (jA (Zkz _ _) hl)
  clear e h h2
  generalize (Zn [32] (Yv 170 t).2.2).1=u at hl ⊢
  generalize (Yv 170 t).1=k
  unfold Zlk Zke Zfm
  refine ⟨_,_,⟨(Yv m.funcs.length u).2.2⟩,Zak H hl,fun h=>⟨fun _=>?_,fun h'=>(by cases h')⟩,fun h=>?_⟩
  ·unfold Mn
   rw [kD (by simpa using h)]
   exact ⟨rfl,rfl,rfl⟩
  have h:(Yv m.funcs.length u).2.1=true:=by simpa using h
  have hr:=Zfb _ _ h
  obtain ⟨f,hf,hmem⟩:=Zgd hr.1 hr.2
  obtain ⟨q1,q2,q3,q4⟩:=hm.f f hmem
  have q5:=Bm f.name
  refine ⟨hr.1,f,hf,_,Zb0 H.toHasF (by omega),?_,?_,_,⟨(Zn ([32]++quo f.name++[32,97,116,32]) (Yv m.funcs.length u).2.2).1⟩,Ue H.toHas38 _ _,fun h2=>?_,fun h2=>?_⟩
  ·rw [Gi];simp only [kF,kB,kG];omega
  ·rw [Gi];simp only [kF,kB,kG];omega
  ·unfold Mn
   rw [kA (by rw [h];decide),Yae hf,kD (by simpa using h2)]
   exact ⟨rfl,rfl,rfl⟩
  have e:Mn m k u=Mo m k (Yv m.funcs.length u).1 (Zn ([32]++quo f.name++[32,97,116,32]) (Yv m.funcs.length u).2.2).1:=by
   unfold Mn
   rw [kA (by rw [h];decide),Yae hf,kA (by simpa using h2)]
  rw [e]
  have hl:(Zn ([32]++quo f.name++[32,97,116,32]) (Yv m.funcs.length u).2.2).1.length<=1000000000:=jA (Kd _ _) (jA (Zkz _ _) hl)
  clear e h h2 q5
  generalize (Zn ([32]++quo f.name++[32,97,116,32]) (Yv m.funcs.length u).2.2).1=v at hl ⊢
  generalize (Yv m.funcs.length u).1=fi at hr hf ⊢
  have hc:=Xia hf
  unfold Zha Zcg
  refine ⟨hr.1,f,hf,_,_,⟨(Yv (Uw m fi) v).2.2⟩,by rw [hc];exact Zak H hl,fun h=>⟨fun _=>?_,fun h'=>(by cases h')⟩,fun h=>⟨_,⟨(Zn [32] (Yv (Uw m fi) v).2.2).1⟩,Ue H.toHas38 [32] _,fun h2=>?_,fun h2=>?_⟩⟩
  ·unfold Mo
   rw [kD (by rw [hc];simpa using h),hc]
   exact ⟨rfl,rfl,rfl⟩
  ·unfold Mo
   rw [kA (by rw [hc];simpa using h),kD (by simpa using h2),hc]
   exact ⟨rfl,rfl,rfl⟩
  have e:Mo m k fi v=Lb k fi (Yv (Uw m fi) v).1 (Zn [32] (Yv (Uw m fi) v).2.2).1:=by
   unfold Mo
   rw [kA (by rw [hc];simpa using h),kA (by simpa using h2)]
  rw [e]
  unfold Znv Lb
  have hb:=Xf0 (Zn [32] (Yv (Uw m fi) v).2.2).1
  refine ⟨_,Zvb H.toHasF,rfl,rfl,_,Zzm H.toHasF (l:=Tz) (by decide) _,rfl,?_,rfl⟩
  rw [Yma,<- hc]
  congr 1
  exact Ah (show 0<=max 0 (Pd (Zn [32] (Yv (Uw m fi) v).2.2).1) by omega) (show max 0 (Pd (Zn [32] (Yv (Uw m fi) v).2.2).1)<_ by omega)
 ·rintro r ⟨x,y,z,rfl,rfl,rfl,rfl⟩
  rfl
theorem Yk3 {f:Ye} (hf:f.slots.length<=30/\∀s∈f.slots,s.name.length<=40) {s:Zc} (hs:s.length<=1000000000) :∃y ok,(ok=(Ki f s).isSome/\(ok=true->Ki f s=some y))/\Ze PG 118 [f.av,.s s] (.tup [y.av,.b ok]):=by
 refine Yvq H.f118 (f0:=f) (cm:=s) (K:=fun y ok=>ok=(Ki f s).isSome/\(ok=true->Ki f s=some y)) ?_
 unfold Zog
 have no:Ki f s=none->∀y:Zy,false=(Ki f s).isSome/\(false=true->Ki f s=some y):=fun h y=>by rw [h];exact ⟨rfl,fun h=>by cases h⟩
 refine ⟨_,⟨(Zn [32,32] s).1⟩,Ue H.toHas38 [32,32] s,fun h=>no ?_ _,fun h=>?_⟩
 ·unfold Ki;rw [kD (by simpa using h)]
 have hl:(Zn [32,32] s).1.length<=1000000000:=jA (Kd _ _) hs
 refine ⟨_,_,⟨(Yv f.slots.length (Zn [32,32] s).1).2.2⟩,Zak H hl,fun h2=>no ?_ _,fun h2=>?_⟩
 ·unfold Ki;rw [kA (by simpa using h),kD (by simpa using h2)]
 have h2':(Yv f.slots.length (Zn [32,32] s).1).2.1=true:=by simpa using h2
 have hr:=Zfb _ _ h2'
 obtain ⟨sl,k1,k2,k3⟩:=Zpn hr.1 hr.2
 have q4:=hf.2 sl k2
 have q5:=Bm sl.name
 refine ⟨hr.1,sl,k1,_,Zb0 H.toHasF (by omega),?_,?_,_,⟨(Zn ([32]++quo sl.name++[32,61,32]) (Yv f.slots.length (Zn [32,32] s).1).2.2).1⟩,Ue H.toHas38 _ _,fun h3=>no ?_ _,fun h3=>?_⟩
 ·rw [Gi];simp only [kF,kB,kG];omega
 ·rw [Gi];simp only [kF,kB,kG];omega
 ·unfold Ki;rw [kA (by simpa using h),kA (by simpa using h2),k3,kD (by simpa using h3)]
 unfold Zne
 refine ⟨_,_,c74 H.toHas38 (jA (Kd _ _) (jA (Zkz _ _) hl)),?_⟩
 unfold Ki
 rw [kA (by simpa using h),kA (by simpa using h2),k3,kA (by simpa using h3)]
 split
 ·rename_i h4;exact ⟨by rw [kN h4];rfl,fun _=>rfl⟩
 ·rename_i h4;exact ⟨by rw [kM h4];rfl,fun h5=>by simp only [kV] at h5;exact absurd h5 h4⟩
end
end Go.AM

namespace Go.AM
open Go
section
variable {PG:Zb} (H:HasG PG)
include H
end
end Go.AM

namespace Go.AM
open Go
theorem Xdn {n:Nat} {l:List Zc} (h:Dn n l=false) :∀s∈l,s.length<=n:=Ztd.1 h
theorem Zzn (f:Ye) :∀(l:List Zc) (s:Zc),Qk f (l++[s])=(match Qk f l with | none=>none | some ys=>match Ki f s with | none=>none | some y=>some (ys++[y]))
 | [],s=>by
  simp only [zA,Qk]
  try (cases Ki f s<;>rfl)
 | x::r,s=>by
  simp only [kZ,Qk,Zzn f r s]
  cases Ki f x with
  | none=>rfl
  | some y=>
   cases Qk f r with
   | none=>rfl
   | some ys=>cases Ki f s<;>rfl
theorem Ykc {f:Ye} {l:List Zc} {i:Nat} (hi:i<l.length):Qk f (l.take (i+1))=(match Qk f (l.take i) with | none=>none | some ys=>match Ki f l[i] with | none=>none | some y=>some (ys++[y])):=by
 rw [kK hi,Zzn]
theorem Zur {f:Ye} :∀{l:List Zc} {i:Nat},Qk f (l.take i)=none->Qk f l=none
 | [],i,h=>by rw [List.take_nil] at h;exact h
 | x::r,0,h=>by cases h
 | x::r,i+1,h=>by
  simp only [yZ,Qk] at h ⊢
  cases hx:Ki f x with
  | none=>rfl
  | some y=>
   rw [hx] at h
   simp only at h ⊢
   cases hr:Qk f (r.take i) with
   | none=>rw [Zur hr]
   | some ys=>rw [hr] at h;cases h
theorem Xec {f:Ye} {s:Zc} {y:Zy} (h:Ki f s=some y):Wf y.value:=by
 unfold Ki at h
 repeat' split at h
 all_goals first | (cases h;done) | (cases h;exact Ybx _)
theorem Zas {f:Ye} :∀{l:List Zc} {ys:List Zy},Qk f l=some ys->ys.length=l.length/\∀y∈ys,Wf y.value
 | [],ys,h=>by cases h;exact ⟨rfl,by simp⟩
 | s::r,ys,h=>by
  rw [Qk] at h
  cases hx:Ki f s with
  | none=>rw [hx] at h;cases h
  | some y=>
   rw [hx] at h
   simp only at h
   cases hr:Qk f r with
   | none=>rw [hr] at h;cases h
   | some zs=>
    rw [hr] at h
    cases h
    obtain ⟨h1,h2⟩:=Zas hr
    exact ⟨by simp [h1],fun y hy=>by rcases jF.1 hy with rfl | hy;exact Xec hx;exact h2 y hy⟩
def Ea (m:Zh) (l:List Zc) (k:Int) (x:Zg) (f:Ye):Int × Zg × Int:=match Qk f (l.drop 1) with
 | none=>(0,fz,12)
 | some ys=>if Uv m k { x with locals:=ys }=(l,0) then (k,{ x with locals:=ys },0) else (0,fz,12)
theorem Zqf {m:Zh} {l:List Zc} (h:17<l.length\/Dn 1400060 l=true):Kq m l=(0,fz,4):=by unfold Kq;rw [kD h]
theorem Yap {m:Zh}:Kq m []=(0,fz,12):=by unfold Kq;rw [kA (by decide)]
theorem Ywx {m:Zh} {l:List Zc} {s:Zc} (h:¬(17<l.length\/Dn 1400060 l=true)) (hs:l[0]?=some s) (hf:(Vm m s).2.2=false):Kq m l=(0,fz,12):=by
 cases l with
 | nil=>cases hs
 | cons t r=>
  injection hs with hs
  subst hs
  unfold Kq
  rw [kA h]
  simp only
  rw [kD hf]
theorem Ys7 {m:Zh} {l:List Zc} {s:Zc} {f:Ye} (h:¬(17<l.length\/Dn 1400060 l=true)) (hs:l[0]?=some s) (hf:(Vm m s).2.2=true) (hm:m.funcs[(Vm m s).2.1.func.toNat]?=some f):Kq m l=Ea m l (Vm m s).1 (Vm m s).2.1 f:=by
 cases l with
 | nil=>cases hs
 | cons t r=>
  injection hs with hs
  subst hs
  unfold Kq Ea
  rw [kA h]
  simp only
  rw [kA (by rw [hf];decide),hm]
  rfl
theorem Yji {l:List Zc}:l.any (fun s=>decide (1400060<s.length))=Dn 1400060 l:=rfl
section
variable {PG:Zb} (H:HasG PG)
include H
theorem c84 {m:Zh} (hm:Ww m) {l:List Zc} (hl:l.length<=9223372036854775807):Ze PG 84 [m.av,.sl .ext (l.map Zt)] (.tup [.i .i64 (Kq m l).1,(Kq m l).2.1.av,.i .i64 (Kq m l).2.2]):=by
 obtain ⟨x,y,z,⟨rfl,rfl,rfl⟩,h⟩:=p84 H.f84 (m0:=m) (l1:=l) (K:=fun x y z=>x=(Kq m l).1/\y=(Kq m l).2.1/\z=(Kq m l).2.2) (by
  unfold Zo4 Zno Zap
  refine ⟨fun h=>⟨fun _=>?_,fun h'=>(by cases h')⟩,fun h=>⟨_,fun o=>Ylv H.toHasF (l:=l) (f:=(116,[])) (p:=fun s=>decide (1400060<s.length)) hl (fun s _=>Yxr H.toHasF s) o,fun h2=>?_,fun h2=>?_⟩⟩
  ·rw [Zqf (.inl (by omega))];exact ⟨rfl,rfl,rfl⟩
  ·rw [Zqf (.inr h2)];exact ⟨rfl,rfl,rfl⟩
  have hok:¬(17<l.length\/Dn 1400060 l=true):=by
   rintro (h3 | h3)
   ·omega
   ·rw [Yji,h3] at h2;cases h2
  have hlen:=Xdn (n:=1400060) (l:=l) h2
  unfold Zm1
  refine ⟨fun h3=>?_,fun h3=>?_⟩
  ·have:l=[]:=Hl (by omega)
   subst this
   rw [Yap];exact ⟨rfl,rfl,rfl⟩
  have h0:0<l.length:=by omega
  have hs:l[0]?=some l[0]:=kH h0
  have hs0:=hlen _ (kP h0)
  unfold Ziw Zj8
  refine ⟨_,hs,_,_,_,Yn9 H hm (by omega),fun h4=>?_,fun h4=>?_⟩
  ·rw [Ywx hok hs (by simpa using h4)];exact ⟨rfl,rfl,rfl⟩
  have h4:(Vm m l[0]).2.2=true:=by simpa using h4
  obtain ⟨g1,g2,g3,g4⟩:=Xi9 h4
  obtain ⟨f,hf,hmem⟩:=Zgd g1 g2
  obtain ⟨q1,q2,q3,q4⟩:=hm.f f hmem
  rw [Ys7 hok hs h4 hf]
  have g5:=Yci m l[0]
  have g6:=Yyc m l[0]
  generalize (Vm m l[0]).1=k at g3 g4 ⊢
  generalize (Vm m l[0]).2.1=x at g1 g2 g5 g6 hf ⊢
  unfold Zpv
  refine ⟨by omega,fun P hP=>?_⟩
  have go :∀n i:Nat,i+n=(l.drop 1).length->∀ys,Qk f ((l.drop 1).take i)=some ys->P (i:Int) m fz { x with locals:=ys }:=by
   intro n
   induction n with
   | zero=>
    intro i hi ys hys
    apply hP
    rw [zL (by omega)] at hys
    obtain ⟨a1,a2⟩:=Zas hys
    have hx:Gg { x with locals:=ys }:=⟨g5,by rw [a1];simp;omega,a2⟩
    have e:Ea m l k x f=if Uv m k { x with locals:=ys }=(l,0) then (k,{ x with locals:=ys },0) else (0,fz,12):=by unfold Ea;rw [hys]
    unfold Zcp Zgt
    refine ⟨fun h=>absurd h (by omega),fun _=>⟨_,_,c82 H.toHasF hm hx,fun h5=>?_,fun h5=>?_⟩⟩
    ·unfold Af
     rw [e,kA (fun h6=>h5 (by rw [h6]))]
     exact ⟨fun _=>⟨rfl,rfl,rfl⟩,fun h'=>(by cases h')⟩
    ·have hb:(Uv m k { x with locals:=ys }).1.length<=9223372036854775807:=by
      unfold Uv
      split
      ·exact yN _
      ·split
       ·rw [Rt (x:={ x with locals:=ys }) (f:=f) hf];simp [a1];omega
       ·exact yN _
     refine ⟨_,Yxn H.toHasF hb,?_⟩
     unfold Af Ziz
     refine ⟨fun h6=>?_,fun h6=>?_⟩
     ·rw [e,kA (fun h7=>by rw [h7] at h6;simp at h6)];exact ⟨rfl,rfl,rfl⟩
     ·have h6:(Uv m k { x with locals:=ys }).1=l:=by simpa using h6
      rw [e,kD (by rw [<- h6];exact Prod.ext rfl (kW.1 h5))];exact ⟨rfl,rfl,rfl⟩
   | succ n ih=>
    intro i hi ys hys
    have hd:(l.drop 1).length=l.length-1:=by simp
    have hil:i<(l.drop 1).length:=by omega
    apply hP
    have hsl:=hlen _ (List.mem_of_mem_drop (kP hil))
    obtain ⟨y,ok,⟨b1,b2⟩,b3⟩:=Yk3 H (f:=f) ⟨q2,q4⟩ (s:=(l.drop 1)[i]) (by omega)
    obtain ⟨a1,a2⟩:=Zas hys
    have hyl:ys.length<=20:=by rw [a1];simp;omega
    have e:=Ykc (f:=f) hil
    rw [hys] at e
    unfold Zcp
    refine ⟨fun _=>⟨by omega,_,Wj hil,g1,f,hf,y,ok,b3,fun h5=>?_,fun h5=>⟨⟨?_,?_⟩,?_⟩⟩,fun h=>absurd (show (i:Int)<((l.drop 1).length:Int) by omega) h⟩
    ·have:Ki f (l.drop 1)[i]=none:=by
      rw [<- Option.not_isSome_iff_eq_none,<- b1]
      simpa using h5
     rw [this] at e
     have:Ea m l k x f=(0,fz,12):=by unfold Ea;rw [Zur e]
     rw [this];exact ⟨rfl,rfl,rfl⟩
    ·simp only [kB,kG,Wq];omega
    ·simp only [kB,kG,Wq];omega
    ·rw [Ws (by omega) (by omega)]
     rw [b2 (by simpa using h5)] at e
     exact ih (i+1) (by omega) _ e
  have:=go (l.drop 1).length 0 (by omega) [] rfl
  rw [<- g6] at this
  exact this)
 exact h
omit H in
theorem Xc7 (m:Zh) (l:List Zc):Gg (Kq m l).2.1:=by
 have hz:Gg fz:=⟨by decide,by decide,by simp⟩
 by_cases h:17<l.length\/Dn 1400060 l=true
 ·rw [Zqf h];exact hz
 cases l with
 | nil=>rw [Yap];exact hz
 | cons s r=>
  unfold Kq
  rw [kA h]
  simp only
  by_cases hf:(Vm m s).2.2=false
  ·rw [kD hf];exact hz
  rw [kA hf]
  cases hg:m.funcs[(Vm m s).2.1.func.toNat]? with
  | none=>exact hz
  | some f=>
   simp only
   cases hys:Qk f r with
   | none=>exact hz
   | some ys=>
    simp only
    split
    ·obtain ⟨a1,a2⟩:=Zas hys
     refine ⟨Yci m s,?_,a2⟩
     simp only [a1]
     simp only [kB] at h
     omega
    ·exact hz
end
end Go.AM

namespace Go.AM
open Go
def Ru:List Zc:=[[],[110,111,114,109,97,108],[112,97,110,105,99],[100,101,97,100,108,111,99,107],[115,116,97,99,107],[104,101,97,112],[114,111,117,116,105,110,101,115],[115,116,101,112,115],[115,99,114,105,112,116]]
def Dp (n:Int):Zc × Int:=if n<1\/8<n then ([],2) else ((Ru[n.toNat]?).getD [],0)
def Bb (s:Zc):Int × Int:=if Dg s Ru<1 then (0,12) else (Dg s Ru,0)
def Ev (m:Zh) (n:Int):Bool:=match m.funcs[n.toNat]? with
 | none=>false
 | some f=>decide (f.name.length<=16)
def Ks (m:Zh) (Vz:Int) (d:Zi):Bool:=decide (0<=d.frame)&&decide (d.frame<Vz)&&decide (0<=d.func)&&Ev m d.func&&(if d.hasArg=true then decide (d.arg.kind=1\/d.arg.kind=2\/d.arg.kind=4)&&Vh d.arg else Bo d.arg)
def Jt (m:Zh) (x:Zl):Bool:=if x.status=3 then decide (x.frames.length=0)&&decide (x.defers.length=0)&&decide (x.panics.length=0)&&decide (x.key=0)
 else decide (x.status=2\/(x.status=1/\x.key=0))&&decide (1<=x.frames.length/\x.frames.length<=170)&&decide (x.defers.length<=410)&&decide (Rr x.panics=0)&&x.frames.all (Jz m)&&x.defers.all (Ks m x.frames.length)
def Kb (m:Zh) (s:Zw):Bool:=decide (1<=s.outcome/\s.outcome<=8)&&decide (0<=s.steps/\s.steps<=5000)&&decide (s.routines.length<=16)&&decide (-1<=s.failing/\s.failing<s.routines.length)&&s.routines.all (Jt m)
structure Qq (x:Zl):Prop where
 st:0<=x.status
 k:-9223372036854775808<=x.key/\x.key<9223372036854775808
 f :∀y∈x.frames,Gg y
 d :∀y∈x.defers,Wf y.arg
 p :∀y∈x.panics,Mx y
 fl:x.frames.length<=1000000000000000000
 dl:x.defers.length<=1000000000000000000
 pl:x.panics.length<=1000000000000000000
structure Zq7 (x:Zl):Prop where
 st:0<=x.status
 k:-9223372036854775808<=x.key/\x.key<9223372036854775808
 f :∀y∈x.frames,Gg y
 d :∀y∈x.defers,Wf y.arg
 p :∀y∈x.panics,Mx y
 fl:x.frames.length<=9223372036854775807
 dl:x.defers.length<=9223372036854775807
 pl:x.panics.length<=9223372036854775807
structure Zd3 (s:Zw):Prop where
 o:0<=s.outcome
 r :∀x∈s.routines,Zq7 x
 n:s.routines.length<=9223372036854775807
structure Gw (s:Zw):Prop where
 o:0<=s.outcome
 r :∀x∈s.routines,Qq x
 n:s.routines.length<=9223372036854775807
def Vu (m:Zh) (d:Zi):Zc:=[100,101,102,101,114,32]++Xe d.frame++[32]++Xe d.func++[32]++quo (Qs m d.func)++(if d.hasArg=true then [32,119,105,116,104,32]++Xg d.arg else [])
def Vq (m:Zh):Nat->List Zg->List Zc
 | _,[]=>[]
 | i,x::r=>Ga m i x++Vq m (i+1) r
def Ut (m:Zh) (x:Zl):List Zc:=Vq m 0 x.frames++x.defers.map (Vu m)++x.panics.map Vt
def Hv (x:Zl):Zc:=if x.status=1 then [114,101,97,100,121] else if x.status=3 then [100,111,110,101] else [98,108,111,99,107,101,100,32]++Xe x.key
def Hy (g:Int) (x:Zl):Zc:=[103,111,114,111,117,116,105,110,101,32]++Xe g++[58,32]++Hv x
def Wm (s:Zc):Zc:=[32,32]++s
def Kl (m:Zh) (g:Int) (x:Zl):List Zc:=Hy g x::(Ut m x).map Wm
def Gf (m:Zh) (g:Int) (x:Zl):List Zc × Int:=if g<0\/16<=g then ([],2) else if Jt m x=true then (Kl m g x,0) else ([],8)
def Ha (s:Zw):Zc:=[111,117,116,99,111,109,101,32]++(Dp s.outcome).1++[44,32,102,97,105,108,105,110,103,32]++Xe s.failing++[44,32,115,116,101,112,115,32]++Xe s.steps++[10]
def Up (l:List Zc):Zc:=l.flatMap fun s=>s++[10]
def Kz (m:Zh):Nat->List Zl->Zc
 | _,[]=>[]
 | i,x::r=>Up (Kl m i x)++Kz m (i+1) r
def Mi (m:Zh) (s:Zw):Zc:=Ha s++Kz m 0 s.routines
def Qy (m:Zh) (s:Zw):Zc × Int:=if Kb m s=true then (if 300000<(Mi m s).length then ([],4) else (Mi m s,0)) else ([],8)
def Zhg (x:Zl):Bool:=decide (12<x.frames.length)||decide (12<x.defers.length)||decide (20<x.panics.length)||Ytv x.panics||x.frames.any Xj3||x.defers.any (fun d=>Zkh d.arg)
def Ybg (s:Zw):Bool:=(s.routines.take 21).any Zhg||decide (20<s.routines.length)
theorem Qq.of {x:Zl} (h:Zq7 x) (hg:Zhg x=false):Qq x:=by
 unfold Zhg at hg
 simp only [xH,yD] at hg
 obtain ⟨⟨⟨⟨⟨h1,h2⟩,h3⟩,_⟩,_⟩,_⟩:=hg
 exact ⟨h.st,h.k,h.f,h.d,h.p,by omega,by omega,by omega⟩
theorem Gw.of {s:Zw} (h:Zd3 s) (hg:Ybg s=false):Gw s:=by
 unfold Ybg at hg
 simp only [xH,yD] at hg
 obtain ⟨h1,h2⟩:=hg
 rw [zL (by omega),xG] at h1
 exact ⟨h.o,fun x hx=>Qq.of (h.r x hx) (by simpa using h1 x hx),h.n⟩
end Go.AM

namespace Go.AM
open Go
structure HasT (PG:Zb):Prop extends HasQ PG,HasF PG where
 f205:PG.fn 205=some Zaj
 f207:PG.fn 207=some Zek
 f209:PG.fn 209=some Zb2
 f211:PG.fn 211=some Zcm
 f213:PG.fn 213=some Zfc
 f215:PG.fn 215=some Eo
 f216:PG.fn 216=some Zc3
 f217:PG.fn 217=some Zmo
 f218:PG.fn 218=some Zl2
 f219:PG.fn 219=some Zdw
 f220:PG.fn 220=some Zg9
 f221:PG.fn 221=some Zpl
 f224:PG.fn 224=some Zcc
 f225:PG.fn 225=some Zfq
 f227:PG.fn 227=some Zfw
 f228:PG.fn 228=some Zdg
 f229:PG.fn 229=some Zd4
 f230:PG.fn 230=some Zc7
 f231:PG.fn 231=some Zdb
 f232:PG.fn 232=some Zfy
 f233:PG.fn 233=some Zax
 f234:PG.fn 234=some Zbn
 f236:PG.fn 236=some Zae
 f237:PG.fn 237=some Zat
 f238:PG.fn 238=some Zer
 f239:PG.fn 239=some Zgn
theorem Zjj {n:Int} (h0:1<=n) (h1:n<=8) :∃w,Ru[n.toNat]?=some w/\Dp n=(w,0)/\w.length<=8:=by
 obtain ⟨k,rfl⟩:=Int.eq_ofNat_of_zero_le (by omega:0<=n)
 have h1:k<=8:=by omega
 have h0:1<=k:=by omega
 match k,h0,h1 with
 | 1,_,_ | 2,_,_ | 3,_,_ | 4,_,_ | 5,_,_ | 6,_,_ | 7,_,_ | 8,_,_=>exact ⟨_,rfl,rfl,by decide⟩
theorem Yel {n:Int} (h:n<1\/8<n):Dp n=([],2):=by unfold Dp;rw [kD h]
section
variable {PG:Zb} (H:HasT PG)
include H
theorem Zjw:Ze PG 215 [] (.ag (Ru.map AV.s)):=by
 obtain ⟨x,rfl,h⟩:=Xfl H.f215 (K:=fun x=>x=Ru) (by unfold Zid;rfl)
 exact h
theorem Ez {n:Int} (h1:-9223372036854775808<=n) (h2:n<9223372036854775808):Ze PG 216 [.i .i64 n] (.s (Xe n)):=by
 obtain ⟨x,rfl,h⟩:=Ymt H.f216 (n0:=n) (K:=fun x=>x=Xe n) (by
  unfold Zpz
  exact ⟨_,c15 H.toHas03 h1 h2,rfl⟩)
 exact h
theorem Mc (n:Int):Ze PG 209 [.i .u8 n] (.tup [.s (Dp n).1,.i .i64 (Dp n).2]):=by
 obtain ⟨x,y,⟨rfl,rfl⟩,h⟩:=Yu4 H.f209 (n0:=n) (K:=fun x y=>x=(Dp n).1/\y=(Dp n).2) (by
  unfold Zlv
  refine ⟨fun h=>by rw [Yel (.inl h)];exact ⟨rfl,rfl⟩,fun h1=>⟨fun h=>by rw [Yel (.inr h)];exact ⟨rfl,rfl⟩,fun h2=>?_⟩⟩
  obtain ⟨w,hw,e,_⟩:=Zjj (n:=n) (by omega) (by omega)
  unfold Zli
  refine ⟨_,Zjw H,rfl,by omega,w,hw,?_⟩
  rw [e];exact ⟨rfl,rfl⟩)
 exact h
theorem Dy (s:Zc):Ze PG 211 [.s s] (.tup [.i .u8 (Bb s).1,.i .i64 (Bb s).2]):=by
 obtain ⟨x,y,⟨rfl,rfl⟩,h⟩:=Ys3 H.f211 (s0:=s) (K:=fun x y=>x=(Bb s).1/\y=(Bb s).2) (by
  unfold Zqk
  refine ⟨_,Zjw H,rfl,rfl,_,Zzm H.toHasF (by decide) s,fun h=>?_,fun h=>?_⟩
  ·unfold Bb;rw [kD h];exact ⟨rfl,rfl⟩
  ·have:=Zhl s Ru
   have e:(Ru.length:Int)=9:=rfl
   unfold Bb;rw [kA h]
   exact ⟨Zh0 (by omega) (by omega),rfl⟩)
 exact h
theorem Yv8 {l:List Zl} {f:Nat × List AV} {p:Zl->Bool} (hl:l.length<=9223372036854775807) (hf :∀x∈l,Ym PG f.1 ([x.av]++f.2) (fun r=>r=.b (p x))) (o:Zm):Ym PG 236 [.sl o (l.map Zl.row),.fn f.1 f.2] (fun r=>r=.i .i64 (Vn p l)):=by
 refine (Yjf H.f236 (s0:=l) (f1:=f) (K:=fun x=>x=Vn p l) ?_ o).to ?_
 ·unfold Zn3
  intro P hP
  refine Tf (Q:=fun x=>x=Vn p l) p l (fun h=>hP _ ?_) (fun i hi hp hq=>hP _ ?_) (fun i hi hp ih=>hP _ ?_) rfl
  ·unfold Al Znq
   exact ⟨fun h'=>absurd h' (by omega),fun _=>h⟩
  ·unfold Al
   refine ⟨fun _=>⟨by omega,_,Wj hi,_,hf _ (kP hi),fun _=>hq,fun h'=>?_⟩,fun h'=>absurd h' (by omega)⟩
   rw [hp] at h';cases h'
  ·unfold Al
   refine ⟨fun _=>⟨by omega,_,Wj hi,_,hf _ (kP hi),fun h'=>?_,fun _=>?_⟩,fun h'=>absurd h' (by omega)⟩
   ·rw [hp] at h';cases h'
   ·rw [Ws (by omega) (by omega)];exact ih
 ·rintro r ⟨x,rfl,rfl⟩;rfl
theorem Xdk {l:List Zl} {f:Nat × List AV} {p:Zl->Bool} (hl:l.length<=9223372036854775807) (hf :∀x∈l,Ym PG f.1 ([x.av]++f.2) (fun r=>r=.b (p x))) (o:Zm):Ym PG 224 [.sl o (l.map Zl.row),.fn f.1 f.2] (fun r=>r=.b (l.any p)):=by
 refine (Yne H.f224 (s0:=l) (f1:=f) (K:=fun x=>x=l.any p) ?_ o).to ?_
 ·unfold Zpe
  refine ⟨_,fun o=>Yv8 H hl hf o,?_⟩
  have:=(Rw p l).2
  cases h:l.any p
  ·exact kM (by rw [h] at this;intro h';exact absurd (this.1 h') (by decide))
  ·exact kN (this.2 h)
 ·rintro r ⟨x,rfl,rfl⟩;rfl
theorem Yii {l:List Zg} {f:Nat × List AV} {p:Zg->Bool} (hl:l.length<=9223372036854775807) (hf :∀x∈l,Ym PG f.1 ([x.av]++f.2) (fun r=>r=.b (p x))) (o:Zm):Ym PG 237 [.sl o (l.map Zg.row),.fn f.1 f.2] (fun r=>r=.i .i64 (Vn p l)):=by
 refine (Xd0 H.f237 (s0:=l) (f1:=f) (K:=fun x=>x=Vn p l) ?_ o).to ?_
 ·unfold Zjz
  intro P hP
  refine Tf (Q:=fun x=>x=Vn p l) p l (fun h=>hP _ ?_) (fun i hi hp hq=>hP _ ?_) (fun i hi hp ih=>hP _ ?_) rfl
  ·unfold Ee Zmf
   exact ⟨fun h'=>absurd h' (by omega),fun _=>h⟩
  ·unfold Ee
   refine ⟨fun _=>⟨by omega,_,Wj hi,_,hf _ (kP hi),fun _=>hq,fun h'=>?_⟩,fun h'=>absurd h' (by omega)⟩
   rw [hp] at h';cases h'
  ·unfold Ee
   refine ⟨fun _=>⟨by omega,_,Wj hi,_,hf _ (kP hi),fun h'=>?_,fun _=>?_⟩,fun h'=>absurd h' (by omega)⟩
   ·rw [hp] at h';cases h'
   ·rw [Ws (by omega) (by omega)];exact ih
 ·rintro r ⟨x,rfl,rfl⟩;rfl
theorem Yy8 {l:List Zg} {f:Nat × List AV} {p:Zg->Bool} (hl:l.length<=9223372036854775807) (hf :∀x∈l,Ym PG f.1 ([x.av]++f.2) (fun r=>r=.b (p x))) (o:Zm):Ym PG 227 [.sl o (l.map Zg.row),.fn f.1 f.2] (fun r=>r=.b (l.any p)):=by
 refine (Xai H.f227 (s0:=l) (f1:=f) (K:=fun x=>x=l.any p) ?_ o).to ?_
 ·unfold Zo0
  refine ⟨_,fun o=>Yii H hl hf o,?_⟩
  have:=(Rw p l).2
  cases h:l.any p
  ·exact kM (by rw [h] at this;intro h';exact absurd (this.1 h') (by decide))
  ·exact kN (this.2 h)
 ·rintro r ⟨x,rfl,rfl⟩;rfl
theorem Xhl {l:List Zi} {f:Nat × List AV} {p:Zi->Bool} (hl:l.length<=9223372036854775807) (hf :∀x∈l,Ym PG f.1 ([x.av]++f.2) (fun r=>r=.b (p x))) (o:Zm):Ym PG 238 [.sl o (l.map Zi.row),.fn f.1 f.2] (fun r=>r=.i .i64 (Vn p l)):=by
 refine (Xa2 H.f238 (s0:=l) (f1:=f) (K:=fun x=>x=Vn p l) ?_ o).to ?_
 ·unfold Zkt
  intro P hP
  refine Tf (Q:=fun x=>x=Vn p l) p l (fun h=>hP _ ?_) (fun i hi hp hq=>hP _ ?_) (fun i hi hp ih=>hP _ ?_) rfl
  ·unfold Iv Zmy
   exact ⟨fun h'=>absurd h' (by omega),fun _=>h⟩
  ·unfold Iv
   refine ⟨fun _=>⟨by omega,_,Wj hi,_,hf _ (kP hi),fun _=>hq,fun h'=>?_⟩,fun h'=>absurd h' (by omega)⟩
   rw [hp] at h';cases h'
  ·unfold Iv
   refine ⟨fun _=>⟨by omega,_,Wj hi,_,hf _ (kP hi),fun h'=>?_,fun _=>?_⟩,fun h'=>absurd h' (by omega)⟩
   ·rw [hp] at h';cases h'
   ·rw [Ws (by omega) (by omega)];exact ih
 ·rintro r ⟨x,rfl,rfl⟩;rfl
theorem Yvh {l:List Zi} {f:Nat × List AV} {p:Zi->Bool} (hl:l.length<=9223372036854775807) (hf :∀x∈l,Ym PG f.1 ([x.av]++f.2) (fun r=>r=.b (p x))) (o:Zm):Ym PG 229 [.sl o (l.map Zi.row),.fn f.1 f.2] (fun r=>r=.b (l.any p)):=by
 refine (Ylm H.f229 (s0:=l) (f1:=f) (K:=fun x=>x=l.any p) ?_ o).to ?_
 ·unfold Zot
  refine ⟨_,fun o=>Xhl H hl hf o,?_⟩
  have:=(Rw p l).2
  cases h:l.any p
  ·exact kM (by rw [h] at this;intro h';exact absurd (this.1 h') (by decide))
  ·exact kN (this.2 h)
 ·rintro r ⟨x,rfl,rfl⟩;rfl
theorem Ywi {l:List Zf} {f:Nat × List AV} {p:Zf->Bool} (hl:l.length<=9223372036854775807) (hf :∀x∈l,Ym PG f.1 ([x.av]++f.2) (fun r=>r=.b (p x))) (o:Zm):Ym PG 239 [.sl o (l.map Zf.row),.fn f.1 f.2] (fun r=>r=.i .i64 (Vn p l)):=by
 refine (Ygm H.f239 (s0:=l) (f1:=f) (K:=fun x=>x=Vn p l) ?_ o).to ?_
 ·unfold Zjf
  intro P hP
  refine Tf (Q:=fun x=>x=Vn p l) p l (fun h=>hP _ ?_) (fun i hi hp hq=>hP _ ?_) (fun i hi hp ih=>hP _ ?_) rfl
  ·unfold Ex Zjd
   exact ⟨fun h'=>absurd h' (by omega),fun _=>h⟩
  ·unfold Ex
   refine ⟨fun _=>⟨by omega,_,Wj hi,_,hf _ (kP hi),fun _=>hq,fun h'=>?_⟩,fun h'=>absurd h' (by omega)⟩
   rw [hp] at h';cases h'
  ·unfold Ex
   refine ⟨fun _=>⟨by omega,_,Wj hi,_,hf _ (kP hi),fun h'=>?_,fun _=>?_⟩,fun h'=>absurd h' (by omega)⟩
   ·rw [hp] at h';cases h'
   ·rw [Ws (by omega) (by omega)];exact ih
 ·rintro r ⟨x,rfl,rfl⟩;rfl
theorem Yju {l:List Zf} {f:Nat × List AV} {p:Zf->Bool} (hl:l.length<=9223372036854775807) (hf :∀x∈l,Ym PG f.1 ([x.av]++f.2) (fun r=>r=.b (p x))) (o:Zm):Ym PG 232 [.sl o (l.map Zf.row),.fn f.1 f.2] (fun r=>r=.b (l.any p)):=by
 refine (Yj5 H.f232 (s0:=l) (f1:=f) (K:=fun x=>x=l.any p) ?_ o).to ?_
 ·unfold Zor
  refine ⟨_,fun o=>Ywi H hl hf o,?_⟩
  have:=(Rw p l).2
  cases h:l.any p
  ·exact kM (by rw [h] at this;intro h';exact absurd (this.1 h') (by decide))
  ·exact kN (this.2 h)
 ·rintro r ⟨x,rfl,rfl⟩;rfl
theorem Yoi {m:Zh} {Vz:Int} {d:Zi} (hm:Ww m) (hd:Wf d.arg):Ze PG 231 [m.av,.i .i64 Vz,d.av] (.b (Ks m Vz d)):=by
 obtain ⟨x,rfl,h⟩:=Ymu H.f231 (m0:=m) (ct:=Vz) (d2:=d) (K:=fun x=>x=Ks m Vz d) (by
  unfold Zi2 Znm
  refine ⟨fun h=>?_,fun h0=>⟨fun h=>?_,fun h1=>⟨fun h=>?_,fun h2=>⟨fun h=>?_,fun h3=>?_⟩⟩⟩⟩
  ·unfold Ks;rw [kM (by omega)];rfl
  ·unfold Ks;rw [kM (p:=d.frame<Vz) (by omega)];simp
  ·unfold Ks;rw [kM (p:=0<=d.func) (by omega)];simp
  ·unfold Ks Ev;rw [kR (by omega)];simp
  obtain ⟨f,hf,hmem⟩:=Zgd (m:=m) (n:=d.func) (by omega) (by omega)
  refine ⟨by omega,f,hf,fun h=>?_,fun h4=>?_⟩
  ·unfold Ks Ev;rw [hf];simp only;rw [kM (p:=f.name.length<=16) (by omega)];simp
  have e:Ks m Vz d=(if d.hasArg=true then decide (d.arg.kind=1\/d.arg.kind=2\/d.arg.kind=4)&&Vh d.arg else Bo d.arg):=by
   unfold Ks Ev;rw [hf];simp only
   rw [kN (by omega),kN (by omega),kN (by omega),kN (by omega)];rfl
  rw [e]
  unfold Zmt
  refine ⟨fun h=>?_,fun h=>?_⟩
  ·have ha:d.hasArg=false:=by simpa using h
   rw [ha]
   simp only [jK,jS]
   unfold Bo
   refine ⟨fun k0=>⟨fun k1=>⟨fun k2=>⟨fun k3=>?_,fun k3=>?_⟩,fun k2=>?_⟩,fun k1=>?_⟩,fun k0=>?_⟩
   ·rw [kN k0,kN k1,kN k2,kN (by omega)];rfl
   ·rw [kM (p:=d.arg.list.length=0) (by omega)];simp
   ·rw [kM k2];simp
   ·rw [kM k1];simp
   ·rw [kM k0];rfl
  ·have ha:d.hasArg=true:=by simpa using h
   rw [ha,kD rfl]
   have fin :∀b:Bool,b=decide (d.arg.kind=1\/d.arg.kind=2\/d.arg.kind=4)->Fp PG (fun x=>x=(decide (d.arg.kind=1\/d.arg.kind=2\/d.arg.kind=4)&&Vh d.arg)) b d:=fun b hb=>by
    unfold Fp
    rw [<- hb]
    refine ⟨fun h=>⟨_,c76 H.toHas38 hd,?_⟩,fun h=>by rw [h];rfl⟩
    rw [h,zN]
    cases hq:Vh d.arg
    ·exact kM fun h'=>absurd (Nv.1 h') (by rw [hq];decide)
    ·exact kN (Nv.2 hq)
   unfold Zlh
   refine ⟨fun k=>fin _ ?_,fun k=>⟨fun k'=>fin _ ?_,fun k'=>fin _ ?_⟩⟩<;>exact decide_eq_decide.2 (by omega))
 exact h
theorem Ywr {m:Zh} (hm:Ww m) {x:Zg} (hx:Gg x):Ym PG 228 ([x.av]++[.fp m.row]) (fun r=>r=.b (!Jz m x)):=by
 refine (Xfv H.f228 (y0:=x) (t1:=m) (K:=fun y=>y=!Jz m x) ?_).to ?_
 ·unfold Zje
  refine ⟨_,c86 H.toHasF hm hx,?_⟩
  cases hb:Jz m x
  ·rw [<- Zdo (by rw [hb];decide)];rfl
  ·rw [<- Zp3 hb];rfl
 ·rintro r ⟨x,rfl,rfl⟩;rfl
theorem Ysm {m:Zh} (hm:Ww m) {Vz:Int} {d:Zi} (hd:Wf d.arg):Ym PG 230 ([d.av]++[.fp m.row,.fp [.i .i64 Vz]]) (fun r=>r=.b (!Ks m Vz d)):=by
 refine (Xay H.f230 (y0:=d) (t1:=m) (t2:=Vz) (K:=fun y=>y=!Ks m Vz d) ?_).to ?_
 ·unfold Zq1
  exact ⟨_,Yoi H hm hd,rfl⟩
 ·rintro r ⟨x,rfl,rfl⟩;rfl
theorem Yt6 {p:Zf} (hp:Mx p):Ym PG 233 ([p.av]++[]) (fun r=>r=.b (!Xx p)):=by
 refine (Xh0 H.f233 (y0:=p) (K:=fun y=>y=!Xx p) ?_).to ?_
 ·unfold Zgu
  refine ⟨_,Zls H.toHasO hp,?_⟩
  unfold Hx
  cases hb:Xx p<;>rfl
 ·rintro r ⟨x,rfl,rfl⟩;rfl
end
end Go.AM

namespace Go.AM
open Go
theorem Ygx {l:List Zf}:decide (Rr l=0)=(decide (l.length<=410)&&l.all Xx):=by
 unfold Rr
 by_cases h:410<l.length
 ·rw [kD h,kM (p:=l.length<=410) (by omega)];rfl
 ·rw [kA h,kN (p:=l.length<=410) (by omega)]
  cases l.all Xx<;>rfl
theorem Cw {α:Type} (p:α->Bool) (l:List α):(!(l.any fun x=>!p x))=l.all p:=by
 rw [List.not_any_eq_all_not]
 simp
def Bn (m:Zh) (x:Zl):Bool:=decide (1<=x.frames.length/\x.frames.length<=170)&&decide (x.defers.length<=410)&&decide (Rr x.panics=0)&&x.frames.all (Jz m)&&x.defers.all (Ks m x.frames.length)
theorem Zin {m:Zh} {x:Zl} (h:x.status=3):Jt m x=(decide (x.frames.length=0)&&decide (x.defers.length=0)&&decide (x.panics.length=0)&&decide (x.key=0)):=by unfold Jt;rw [kD h]
theorem Zwl {m:Zh} {x:Zl} (h:x.status=2\/(x.status=1/\x.key=0)):Jt m x=Bn m x:=by
 unfold Jt Bn
 rw [kA (by omega),kN h]
 simp
theorem Zed {m:Zh} {x:Zl} (h3:x.status≠3) (h:¬(x.status=2\/(x.status=1/\x.key=0))):Jt m x=false:=by
 unfold Jt
 rw [kA h3,kM h]
 rfl
theorem Zze {m:Zh} {x:Zl} (h:¬(1<=x.frames.length/\x.frames.length<=170)):Bn m x=false:=by unfold Bn;rw [kM h];rfl
theorem Ypx {m:Zh} {x:Zl} (h:410<x.defers.length):Bn m x=false:=by unfold Bn;rw [kM (p:=x.defers.length<=410) (by omega)];simp
theorem Yqz {m:Zh} {x:Zl} (h:Rr x.panics≠0):Bn m x=false:=by unfold Bn;rw [kM h];simp
section
variable {PG:Zb} (H:HasT PG)
include H
theorem Zw5 {m:Zh} {x:Zl} (hm:Ww m) (hx:Qq x):Ze PG 219 [m.av,x.av] (.b (Jt m x)):=by
 obtain ⟨y,rfl,h⟩:=Yoc H.f219 (m0:=m) (x1:=x) (K:=fun y=>y=Jt m x) (by
  unfold Zp6 Zh3
  have hfl:=hx.fl
  have hdl:=hx.dl
  have hpl:=hx.pl
  have t3:(x.status=2\/(x.status=1/\x.key=0))->Ai PG (fun y=>y=Jt m x) m.types m.texts m.funcs x.status x.key x.frames x.defers x.panics (x.defers.length:Int) (x.panics.length:Int) (x.frames.length:Int):=fun hs=>by
   rw [Zwl hs]
   unfold Ai
   refine ⟨fun h=>(Zze (by omega)).symm,fun h1=>⟨fun h=>(Zze (by omega)).symm,fun h2=>⟨fun h=>(Ypx (by omega)).symm,fun h3=>⟨fun h=>(Yqz ?_).symm,fun h4=>?_⟩⟩⟩⟩
   ·unfold Rr;rw [kD (by omega)];decide
   have e:Bn m x=(x.frames.all (Jz m)&&(x.defers.all (Ks m x.frames.length)&&x.panics.all Xx)):=by
    unfold Bn
    rw [kN (by omega),kN (by omega),Ygx,kN (by omega)]
    simp only [zN]
    cases x.panics.all Xx<;>simp
   rw [e]
   unfold Zk6
   refine ⟨_,fun o=>Yy8 H (l:=x.frames) (f:=(228,[.fp m.row])) (p:=fun y=>!Jz m y) (by omega) (fun y hy=>Ywr H hm (hx.f y hy)) o,fun h=>?_,fun h=>?_⟩
   ·rw [Cw] at h
    rw [h,zN]
    refine ⟨_,fun o=>Yvh H (l:=x.defers) (f:=(230,[.fp m.row,.fp [.i .i64 (x.frames.length:Int)]])) (p:=fun y=>!Ks m x.frames.length y) (by omega) (fun y hy=>Ysm H hm (hx.d y hy)) o,fun h=>?_,fun h=>?_⟩
    ·rw [Cw] at h
     rw [h,zN]
     refine ⟨_,fun o=>Yju H (l:=x.panics) (f:=(233,[])) (p:=fun y=>!Xx y) (by omega) (fun y hy=>Yt6 H (hx.p y hy)) o,?_⟩
     rw [Cw]
    ·rw [Cw] at h
     rw [h];rfl
   ·rw [Cw] at h
    rw [h];rfl
  refine ⟨fun h3=>?_,fun h3=>⟨fun h1=>?_,fun h1=>⟨fun h2=>t3 (.inl h2),fun h2=>?_⟩⟩⟩
  ·rw [Zin h3]
   rw [Ws (z:=(x.frames.length:Int)+(x.defers.length:Int)) (by omega) (by omega),Ws (by omega) (by omega)]
   refine ⟨fun k=>?_,fun k=>?_⟩
   ·rw [kN (p:=x.frames.length=0) (by omega),kN (p:=x.defers.length=0) (by omega),kN (p:=x.panics.length=0) (by omega)];rfl
   ·by_cases k1:x.frames.length=0
    ·by_cases k2:x.defers.length=0
     ·rw [kM (p:=x.panics.length=0) (by omega)];simp
     ·rw [kM k2];simp
    ·rw [kM k1];simp
  ·unfold Zoa
   refine ⟨fun hk=>(Zed h3 ?_).symm,fun hk=>t3 (.inr ⟨h1,by omega⟩)⟩
   omega
  ·unfold Zja
   exact (Zed h3 (by omega)).symm)
 exact h
theorem Yrm {m:Zh} (hm:Ww m) {x:Zl} (hx:Qq x):Ym PG 225 ([x.av]++[.fp m.row]) (fun r=>r=.b (!Jt m x)):=by
 refine (Xfg H.f225 (x0:=x) (t1:=m) (K:=fun y=>y=!Jt m x) ?_).to ?_
 ·unfold Zk7
  exact ⟨_,Zw5 H hm hx,rfl⟩
 ·rintro r ⟨x,rfl,rfl⟩;rfl
def Ci (m:Zh) (s:Zw):Int:=if Kb m s=true then 0 else 8
theorem Zpa {m:Zh} {s:Zw} (hm:Ww m) (hs:Gw s):Ze PG 213 [m.av,s.av] (.i .i64 (Ci m s)):=by
 obtain ⟨y,rfl,h⟩:=Ysl H.f213 (m0:=m) (s1:=s) (K:=fun y=>y=Ci m s) (by
  unfold Zph Ci Kb
  refine ⟨fun h=>?_,fun h1=>⟨fun h=>?_,fun h2=>⟨fun h=>?_,fun h3=>⟨fun h=>?_,fun h4=>⟨fun h=>?_,fun h5=>⟨fun h=>?_,fun h6=>⟨fun h=>?_,fun h7=>?_⟩⟩⟩⟩⟩⟩⟩
  ·rw [kM (by omega)];rfl
  ·rw [kM (by omega)];rfl
  ·rw [kM (p:=0<=s.steps/\_) (by omega)];simp
  ·rw [kM (p:=0<=s.steps/\_) (by omega)];simp
  ·rw [kM (p:=s.routines.length<=16) (by omega)];simp
  ·rw [kM (p:=-1<=s.failing/\_) (by omega)];simp
  ·rw [kM (p:=-1<=s.failing/\_) (by omega)];simp
  rw [kN (by omega),kN (by omega),kN (by omega),kN (by omega)]
  simp only [zN]
  refine ⟨_,fun o=>Xdk H (l:=s.routines) (f:=(225,[.fp m.row])) (p:=fun y=>!Jt m y) hs.n (fun y hy=>Yrm H hm (hs.r y hy)) o,fun h=>?_,fun h=>?_⟩
  ·have:=Cw (Jt m) s.routines
   rw [h] at this
   rw [<- this];rfl
  ·have:=Cw (Jt m) s.routines
   rw [h] at this
   rw [<- this];rfl)
 exact h
end
end Go.AM

namespace Go.AM
open Go
theorem Zxe {m:Zh} {n:Int} {f:Ye} (h:m.funcs[n.toNat]?=some f):Qs m n=f.name:=by unfold Qs;rw [h];rfl
theorem Yh6 (a b:Zc):(a++b).length=a.length+b.length:=kF
theorem Zo3 {m:Zh} {k:Int} {x:Zg} (hm:Ww m) (hx:Gg x) (hb:Jz m x=true):(∀s∈Ga m k x,s.length<=1301000)/\(Ga m k x).length<=17:=by
 obtain ⟨f0,f1,f,hf,hF⟩:=Si.1 hb
 obtain ⟨g1,g2,g3,g4,g5,g6⟩:=Iy.1 hF
 obtain ⟨q1,q2,q3,q4⟩:=hm.f f (jM hf)
 have l1:=Kx k
 have l2:=Kx x.func
 have l3:=Kx x.pos
 have l4:=Bm f.name
 have l5:=Zu8 hx.m f1
 rw [Rt hf]
 refine ⟨fun s hs=>?_,?_⟩
 ·rcases jF.1 hs with rfl | hs
  ·unfold Gq
   simp only [kF,kB,kG]
   omega
  ·obtain ⟨l,hl,rfl⟩:=yK.1 hs
   obtain ⟨a1,a2,a3⟩:=Zbu g6 _ hl
   obtain ⟨s,b1,b2,b3⟩:=Zpn (f:=f) (n:=l.slot) (by omega) (by omega)
   have c1:=Kx l.slot
   have c2:=Bm s.name
   have c3:=q4 s b2
   have c4:=Cq a3
   unfold Gz
   rw [b3]
   simp only [kF,kB,kG]
   omega
 ·rw [kB,zC]
  rcases Zm5 g6 with h | h
  ·rw [h];decide
  ·omega
theorem Zgs {m:Zh} (hm:Ww m) :∀(l:List Zg) (i:Nat),(∀x∈l,Gg x)->(∀x∈l,Jz m x=true)->(∀s∈Vq m i l,s.length<=1301000)/\(Vq m i l).length<=17*l.length
 | [],i,_,_=>⟨fun s hs=>(by cases hs),kU _⟩
 | x::r,i,hw,hb=>by
  obtain ⟨h1,h2⟩:=Zo3 (k:=i) hm (hw x jN) (hb x jN)
  obtain ⟨h3,h4⟩:=Zgs hm r (i+1) (fun y hy=>hw y (jL _ hy)) fun y hy=>hb y (jL _ hy)
  rw [Vq]
  refine ⟨fun s hs=>?_,?_⟩
  ·rcases jB.1 hs with hs | hs
   ·exact h1 s hs
   ·exact h3 s hs
  ·rw [kF,kB];omega
theorem Yag (m:Zh) :∀(l:List Zg) (i:Nat) (x:Zg),Vq m i (l++[x])=Vq m i l++Ga m ((i+l.length:Nat):Int) x
 | [],i,x=>by simp [Vq]
 | y::r,i,x=>by
  rw [kZ,Vq,Yag m r (i+1) x,Vq,jC,kB,show i+1+r.length=i+(r.length+1) by omega]
theorem Zil {m:Zh} {Vz:Int} {d:Zi} (h:Ks m Vz d=true):0<=d.frame/\d.frame<Vz/\0<=d.func/\(∃f,m.funcs[d.func.toNat]?=some f/\f.name.length<=16/\Qs m d.func=f.name)/\(d.hasArg=true->Vh d.arg=true/\(d.arg.kind=1\/d.arg.kind=2\/d.arg.kind=4))/\(d.hasArg=false->d.arg=vz):=by
 unfold Ks Ev at h
 cases hf:m.funcs[d.func.toNat]? with
 | none=>rw [hf] at h;simp at h
 | some f=>
  rw [hf] at h
  simp only [kL,kV] at h
  obtain ⟨⟨⟨⟨h1,h2⟩,h3⟩,h4⟩,h5⟩:=h
  refine ⟨h1,h2,h3,⟨f,rfl,h4,Zxe hf⟩,fun ha=>?_,fun ha=>?_⟩
  ·rw [ha,kD rfl,kL,kV] at h5
   exact ⟨h5.2,h5.1⟩
  ·rw [ha] at h5
   exact Zpt.1 (by simpa using h5)
theorem Yh7 {m:Zh} {Vz:Int} {d:Zi} (h:Ks m Vz d=true):(Vu m d).length<=1301000:=by
 obtain ⟨h1,h2,h3,⟨f,hf,h4,h5⟩,h6,_⟩:=Zil h
 have l1:=Kx d.frame
 have l2:=Kx d.func
 have l3:=Bm f.name
 unfold Vu
 rw [h5]
 simp only [kF,kB,kG]
 cases ha:d.hasArg
 ·simp only [jK,jS,kG];omega
 ·have:=Cq (h6 ha).1
  simp only [jO,kF,kB,kG];omega
structure Gr (m:Zh) (x:Zl):Prop where
 f:x.frames.length<=170
 d:x.defers.length<=410
 p:x.panics.length<=410
 fb :∀y∈x.frames,Jz m y=true
 db :∀y∈x.defers,Ks m x.frames.length y=true
 pb :∀y∈x.panics,Xx y=true
 st:x.status=1\/x.status=2\/x.status=3
theorem Gr.of {m:Zh} {x:Zl} (h:Jt m x=true):Gr m x:=by
 by_cases h3:x.status=3
 ·rw [Zin h3] at h
  simp only [kL,kV,yM] at h
  obtain ⟨⟨⟨k1,k2⟩,k3⟩,k4⟩:=h
  exact ⟨by rw [k1];decide,by rw [k2];decide,by rw [k3];decide,by rw [k1];simp,by rw [k2];simp,by rw [k3];simp,.inr (.inr h3)⟩
 ·by_cases h2:x.status=2\/(x.status=1/\x.key=0)
  ·rw [Zwl h2] at h
   unfold Bn at h
   simp only [kL,kV,zB] at h
   obtain ⟨⟨⟨⟨k1,k2⟩,k3⟩,k4⟩,k5⟩:=h
   exact ⟨k1.2,k2,(Ycm k3).1,k4,k5,(Ycm k3).2,by omega⟩
  ·rw [Zed h3 h2] at h;cases h
theorem Zqp {m:Zh} {x:Zl} (hm:Ww m) (hx:Qq x) (h:Gr m x):(∀s∈Ut m x,s.length<=1301000)/\(Ut m x).length<=4000:=by
 obtain ⟨h1,h2⟩:=Zgs hm x.frames 0 hx.f h.fb
 have a:=h.f
 have b:=h.d
 have c:=h.p
 refine ⟨fun s hs=>?_,?_⟩
 ·unfold Ut at hs
  rcases jB.1 hs with hs | hs
  ·rcases jB.1 hs with hs | hs
   ·exact h1 s hs
   ·obtain ⟨d,hd,rfl⟩:=yK.1 hs
    exact Yh7 (h.db d hd)
  ·obtain ⟨p,hp,rfl⟩:=yK.1 hs
   have:=Zoz (h.pb p hp)
   exact jA this (by decide)
 ·unfold Ut
  simp only [kF,zC]
  omega
theorem Zwa (x:Zl):(Hv x).length<=80:=by
 have:=Kx x.key
 unfold Hv
 split
 ·decide
 ·split
  ·decide
  ·simp only [kF,kB,kG];omega
theorem Ykh (g:Int) (x:Zl):(Hy g x).length<=200:=by
 have:=Kx g
 have:=Zwa x
 unfold Hy
 simp only [kF,kB,kG];omega
theorem Zxz {m:Zh} {g:Int} {x:Zl} (hm:Ww m) (hx:Qq x) (h:Gr m x):(∀s∈Kl m g x,s.length<=1301002)/\(Kl m g x).length<=4001:=by
 obtain ⟨h1,h2⟩:=Zqp hm hx h
 unfold Kl
 refine ⟨fun s hs=>?_,?_⟩
 ·rcases jF.1 hs with rfl | hs
  ·exact jA (Ykh g x) (by decide)
  ·obtain ⟨t,ht,rfl⟩:=yK.1 hs
   have:=h1 t ht
   unfold Wm
   simp only [kF,kB,kG];omega
 ·rw [kB,zC];omega
theorem Zw7 {B:Nat} :∀{l:List Zc},(∀s∈l,s.length<=B)->(Up l).length<=(B+1)*l.length
 | [],_=>kU _
 | s::r,h=>by
  have h1:=h s jN
  have h2:=Zw7 fun t ht=>h t (jL _ ht)
  unfold Up at h2 ⊢
  simp only [List.flatMap_cons,kF,kB,kG]
  rw [Nat.mul_succ]
  omega
theorem Yq4 (a b:List Zc):Up (a++b)=Up a++Up b:=by unfold Up;rw [List.flatMap_append]
theorem Xhq {l:List Zc} {i:Nat} (h:i<l.length):Up (l.take (i+1))=Up (l.take i)++(l[i]++[10]):=by
 rw [kK h,Yq4]
 simp [Up]
theorem Zyk {m:Zh} {g:Int} {x:Zl} (hm:Ww m) (hx:Qq x) (h:Gr m x) (i:Nat):(Up ((Kl m g x).take i)).length<=5300000000:=by
 obtain ⟨h1,h2⟩:=Zxz (g:=g) hm hx h
 have h3:=Zw7 (l:=(Kl m g x).take i) (B:=1301002) fun s hs=>h1 s (yC hs)
 have h4:((Kl m g x).take i).length<=4001:=by rw [jI];omega
 have h5:1301003*((Kl m g x).take i).length<=1301003*4001:=Nat.mul_le_mul_left _ h4
 exact jA h3 (jA h5 (by decide))
theorem Ybz (m:Zh) :∀(l:List Zl) (i:Nat) (x:Zl),Kz m i (l++[x])=Kz m i l++Up (Kl m ((i+l.length:Nat):Int) x)
 | [],i,x=>by simp [Kz]
 | y::r,i,x=>by
  rw [kZ,Kz,Ybz m r (i+1) x,Kz,jC,kB,show i+1+r.length=i+(r.length+1) by omega]
theorem Ydw {m:Zh} (hm:Ww m) :∀(l:List Zl) (i:Nat),(∀x∈l,Qq x)->(∀x∈l,Gr m x)->(Kz m i l).length<=5300000000*l.length
 | [],i,_,_=>kU _
 | x::r,i,hw,hb=>by
  have h1:=Zyk (g:=i) hm (hw x jN) (hb x jN) (Kl m i x).length
  rw [jG] at h1
  have h2:=Ydw hm r (i+1) (fun y hy=>hw y (jL _ hy)) fun y hy=>hb y (jL _ hy)
  rw [Kz,kF,kB]
  omega
theorem Zws {m:Zh} {g:Int} {x:Zl} (h:¬(g<0\/16<=g)) (h1:Jt m x=true):Gf m g x=(Kl m g x,0):=by unfold Gf;rw [kA h,kD h1]
theorem Yxy {m:Zh} {g:Int} {x:Zl} (h:¬(g<0\/16<=g)) (h1:Jt m x=false):Gf m g x=([],8):=by unfold Gf;rw [kA h,kA (by rw [h1];decide)]
theorem Zw2 {m:Zh} {g:Int} {x:Zl} (h:g<0\/16<=g):Gf m g x=([],2):=by unfold Gf;rw [kD h]
section
variable {PG:Zb} (H:HasT PG)
include H
theorem Yhi {b:List UInt8} (hs:b.length<=Qc):Yt PG 217 (Bl b) [] (fun r=>r=.i .i64 (b.length:Int)) (Bl b):=by
 refine Yt.of H.f217 rfl Bl.out fun d st k v hk hB=>?_
 obtain ⟨c0,o,hb,hc0,hap,hbig⟩:=hB
 refine W.seq (W.reg0 rfl fun nx _=>Vg rfl (Gj (W.seq (W.reg0 rfl fun nx2 _=>?_))))
 refine Vg (v:=.p k v 0) rfl (Wg rfl (Nq rfl (Tb (w:=.sl o (b.map Yu)) rfl hb rfl rfl (Zpx (f:=Yu) rfl (Vg rfl (Gj (W.ret ?_)))))))
 refine ⟨.inr rfl,_,rfl,rfl,⟨c0,o,hb,hc0,hap,hbig⟩,Fr.refl⟩
theorem Ywt {m:Zh} {Vz:Int} {d:Zi} (hm:Ww m) (hd:Wf d.arg) (hn:Vz<=1000) (h:Ks m Vz d=true):Ze PG 234 [m.av,d.av] (.tup [.s (Vu m d),.i .i64 0]):=by
 obtain ⟨x,y,⟨rfl,rfl⟩,h⟩:=Xh1 H.f234 (m0:=m) (d1:=d) (K:=fun x y=>x=Vu m d/\y=0) (by
  obtain ⟨h1,h2,h3,⟨f,hf,h4,h5⟩,h6,_⟩:=Zil h
  have hfl:d.func<m.funcs.length:=by
   have:=(jT.1 hf).1
   omega
  have hmn:=hm.n
  have l1:=Kx d.frame
  have l2:=Kx d.func
  have l3:=Bm f.name
  have hq:=c11 H.toHas03 f.name
  rw [Zko (by omega)] at hq
  unfold Zjv
  refine ⟨h3,f,hf,_,_,hq,fun h=>absurd rfl h,fun _=>⟨_,Ez H (by omega) (by omega),?_,?_,_,Ez H (by omega) (by omega),?_,?_,?_,fun ha=>?_,fun ha=>?_⟩⟩
  all_goals try (rw [Gi];simp only [kF,kB,kG];omega)
  ·have hfi:=(h6 ha).1
   have l4:=Cq hfi
   have k:=c72 H.toHas38 hd
   rw [kD hfi,Nv.2 hfi] at k
   refine ⟨_,_,k,fun h=>absurd rfl h,fun _=>⟨?_,?_,?_⟩⟩
   ·rw [Gi];simp only [kB,kG];omega
   ·rw [Gi];simp only [kF,kB,kG];omega
   ·unfold Oi Vu
    rw [h5,ha]
    exact ⟨rfl,rfl⟩
  ·unfold Oi Vu
   rw [h5,ha]
   exact ⟨by simp,rfl⟩)
 exact h
theorem Xf1 {m:Zh} {x:Zl} (hm:Ww m) (hx:Qq x) (h:Gr m x):Ze PG 220 [m.av,x.av] (.tup [.sl .ext ((Ut m x).map Zt),.i .i64 0]):=by
 obtain ⟨y,z,⟨rfl,rfl⟩,h⟩:=Yn5 H.f220 (m0:=m) (x1:=x) (K:=fun y z=>y=Ut m x/\z=0) (by
  obtain ⟨_,hl⟩:=Zqp hm hx h
  have a:=h.f
  have b:=h.d
  have c:=h.p
  have b1 :∀i,i<=x.frames.length->(Vq m 0 (x.frames.take i)).length<=17*170:=fun i hi=>by
   have h1:=(Zgs hm (x.frames.take i) 0 (fun y hy=>hx.f y (yC hy)) fun y hy=>h.fb y (yC hy)).2
   rw [jI] at h1
   omega
  have b0:(Vq m 0 x.frames).length<=17*170:=by have:=b1 x.frames.length (kU _);rwa [jG] at this
  unfold Zho Zn6 Zh9
  intro P hP
  refine Ml (P:=fun o i=>P o i m x) (fun i=>Vq m 0 (x.frames.take i)) x.frames.length (hP _ _ _ _ ?_) fun i hi ih=>hP _ _ _ _ ?_
  ·rw [jG]
   unfold Zaz Zl5
   refine ⟨fun h=>absurd h (by omega),fun _ P hP=>?_⟩
   have ho:Vq m 0 x.frames=Vq m 0 x.frames++(x.defers.take 0).map (Vu m):=by simp
   rw [ho]
   refine Ml (P:=fun o i=>P o i m x) (fun i=>Vq m 0 x.frames++(x.defers.take i).map (Vu m)) x.defers.length (hP _ _ _ _ ?_) fun i hi ih=>hP _ _ _ _ ?_
   ·rw [jG]
    unfold Zab Zm0
    refine ⟨fun h=>absurd h (by omega),fun _ P hP=>?_⟩
    have ho:Vq m 0 x.frames++x.defers.map (Vu m)=Vq m 0 x.frames++x.defers.map (Vu m)++(x.panics.take 0).map Vt:=by simp
    rw [ho]
    refine Ml (P:=fun o i=>P o i) (fun i=>Vq m 0 x.frames++x.defers.map (Vu m)++(x.panics.take i).map Vt) x.panics.length (hP _ _ ?_) fun i hi ih=>hP _ _ ?_
    ·rw [jG]
     unfold Zfo Zqb
     exact ⟨fun h=>absurd h (by omega),fun _=>⟨rfl,rfl⟩⟩
    ·have hok:=h.pb _ (kP hi)
     have k:=Xgz H.toHasO (hx.p _ (kP hi))
     rw [show So x.panics[i]=(Vt x.panics[i],0) by unfold So;rw [kD hok]] at k
     unfold Zfo
     refine ⟨fun _=>⟨by omega,_,Wj hi,_,_,k,fun h=>absurd rfl h,fun _=>⟨⟨?_,?_⟩,?_⟩⟩,fun h=>absurd (show (i:Int)<x.panics.length by omega) h⟩
     ·rw [Wq];simp only [kF,kB,kG,zC,jI];omega
     ·rw [Wq];simp only [kF,kB,kG,zC,jI];omega
     ·rw [Ws (by omega) (by omega)]
      rw [Zaq Vt hi,<- jC] at ih
      exact ih
   ·have hok:=h.db _ (kP hi)
    have k:=Ywt H hm (hx.d _ (kP hi)) (by omega) hok
    unfold Zab
    refine ⟨fun _=>⟨by omega,_,Wj hi,_,_,k,fun h=>absurd rfl h,fun _=>⟨⟨?_,?_⟩,?_⟩⟩,fun h=>absurd (show (i:Int)<x.defers.length by omega) h⟩
    ·rw [Wq];simp only [kF,kB,kG,zC,jI];omega
    ·rw [Wq];simp only [kF,kB,kG,zC,jI];omega
    ·rw [Ws (by omega) (by omega)]
     rw [Zaq (Vu m) hi,<- jC] at ih
     exact ih
  ·have hb:=h.fb _ (kP hi)
   have hw:=hx.f _ (kP hi)
   have k:=c82 H.toHasF (k:=(i:Int)) hm hw
   rw [Yd6 (by omega) hb] at k
   have q1:=b1 i (by omega)
   have q2:=(Zo3 (k:=(i:Int)) hm hw hb).2
   unfold Zaz
   refine ⟨fun _=>⟨by omega,_,Wj hi,_,_,k,fun h=>absurd rfl h,fun _=>⟨⟨?_,?_⟩,?_⟩⟩,fun h=>absurd (show (i:Int)<x.frames.length by omega) h⟩
   ·dsimp only;rw [Wq];omega
   ·dsimp only;rw [Wq];omega
   ·rw [Ws (by omega) (by omega)]
    rw [kK hi,Yag,jI,show 0+min i x.frames.length=i by omega] at ih
    exact ih)
 exact h
theorem Fg {m:Zh} {g:Int} {x:Zl} (hm:Ww m) (hx:Qq x):Ze PG 207 [m.av,.i .i64 g,x.av] (.tup [.sl .ext ((Gf m g x).1.map Zt),.i .i64 (Gf m g x).2]):=by
 obtain ⟨y,z,⟨rfl,rfl⟩,h⟩:=Yz5 H.f207 (m0:=m) (g1:=g) (x2:=x) (K:=fun y z=>y=(Gf m g x).1/\z=(Gf m g x).2) (by
  unfold Znc
  refine ⟨fun h=>by rw [Zw2 (.inl h)];exact ⟨rfl,rfl⟩,fun h0=>⟨fun h=>by rw [Zw2 (.inr h)];exact ⟨rfl,rfl⟩,fun h1=>?_⟩⟩
  unfold Zma
  refine ⟨_,Zw5 H hm hx,fun h=>?_,fun h=>?_⟩
  ·rw [Yxy (by omega) (by simpa using h)];exact ⟨rfl,rfl⟩
  have hg:Jt m x=true:=by simpa using h
  rw [Zws (by omega) hg]
  have h2:=Gr.of hg
  obtain ⟨p1,p2⟩:=Zqp hm hx h2
  have l1:=Kx g
  have l2:=Kx x.key
  have l3:=Zwa x
  have e3 :∃c,([[],([114,101,97,100,121]:Zc),(([98,108,111,99,107,101,100,32]:Zc)++Xe x.key),([100,111,110,101]:Zc)]:List Zc)[x.status.toNat]?=some c/\c=Hv x:=by
   unfold Hv
   rcases h2.st with h | h | h<;>rw [h]<;>exact ⟨_,rfl,rfl⟩
  obtain ⟨c,e3,rfl⟩:=e3
  refine ⟨_,_,Xf1 H hm hx h2,fun h=>absurd rfl h,fun _=>⟨_,Ez H (by omega) (by omega),?_,?_,_,c15 H.toHas03 hx.k.1 hx.k.2,?_,hx.st,_,e3,?_,fun P hP=>?_⟩⟩
  all_goals try (rw [Gi];simp only [kF,kB,kG];omega)
  refine Ml (P:=fun o i=>P o i) (fun i=>Hy g x::((Ut m x).take i).map Wm) (Ut m x).length (hP _ _ ?_) fun i hi ih=>hP _ _ ?_
  ·rw [jG]
   unfold Zga Zon
   exact ⟨fun h=>absurd h (by omega),fun _=>⟨rfl,rfl⟩⟩
  ·have:=p1 _ (kP hi)
   unfold Zga
   refine ⟨fun _=>⟨by omega,_,Wj hi,?_,⟨?_,?_⟩,?_⟩,fun h=>absurd (show (i:Int)<(Ut m x).length by omega) h⟩
   ·rw [Gi];simp only [kB,kG];omega
   ·rw [Wq];simp only [kF,kB,kG,zC,jI];omega
   ·rw [Wq];simp only [kF,kB,kG,zC,jI];omega
   ·rw [Ws (by omega) (by omega)]
    rw [Zaq Wm hi] at ih
    exact ih)
 exact h
end
end Go.AM

namespace Go.AM
open Go
theorem Om {m:Zh} {s:Zw} (h:Kb m s=true):(1<=s.outcome/\s.outcome<=8)/\(0<=s.steps/\s.steps<=5000)/\s.routines.length<=16/\(-1<=s.failing/\s.failing<s.routines.length)/\∀x∈s.routines,Jt m x=true:=by
 unfold Kb at h
 simp only [kL,kV,zB] at h
 obtain ⟨⟨⟨⟨h1,h2⟩,h3⟩,h4⟩,h5⟩:=h
 exact ⟨h1,h2,h3,h4,h5⟩
theorem Xel {s:Zw} (h:1<=s.outcome/\s.outcome<=8):(Ha s).length<=200:=by
 obtain ⟨w,hw,e,hl⟩:=Zjj h.1 h.2
 have l1:=Kx s.failing
 have l2:=Kx s.steps
 unfold Ha
 rw [e]
 simp only [kF,kB,kG]
 omega
theorem Yco {m:Zh} {s:Zw} (hm:Ww m) (hs:Gw s) (h:Kb m s=true) (i:Nat):(Ha s++Kz m 0 (s.routines.take i)).length<=84800000200:=by
 obtain ⟨h1,h2,h3,h4,h5⟩:=Om h
 have a:=Xel h1
 have b:=Ydw hm (s.routines.take i) 0 (fun x hx=>hs.r x (yC hx)) fun x hx=>Gr.of (h5 x (yC hx))
 have c:(s.routines.take i).length<=16:=by rw [jI];omega
 rw [kF]
 omega
theorem Ysw {m:Zh} {s:Zw} (hm:Ww m) (hs:Gw s) (h:Kb m s=true) {i:Nat} (hi:i<s.routines.length) (j:Nat):(Ha s++Kz m 0 (s.routines.take i)++Up ((Kl m i s.routines[i]).take j)).length<=90100000200:=by
 obtain ⟨h1,h2,h3,h4,h5⟩:=Om h
 have a:=Yco hm hs h i
 have b:=Zyk (g:=(i:Int)) hm (hs.r _ (kP hi)) (Gr.of (h5 _ (kP hi))) j
 rw [kF]
 omega
theorem Yv7 {m:Zh} {l:List Zl} {i:Nat} (hi:i<l.length):Kz m 0 (l.take (i+1))=Kz m 0 (l.take i)++Up (Kl m i l[i]):=by
 rw [kK hi,Ybz,jI,show 0+min i l.length=i by omega]
section
variable {PG:Zb} (H:HasT PG)
include H
theorem Zd2 {m:Zh} {s:Zw} (hm:Ww m) (hs:Gw s):Ze PG 205 [m.av,s.av] (.tup [.s (Qy m s).1,.i .i64 (Qy m s).2]):=by
 obtain ⟨x,y,⟨rfl,rfl⟩,h⟩:=Xau H.f205 (m0:=m) (s1:=s) (K:=fun x y=>x=(Qy m s).1/\y=(Qy m s).2) (by
  unfold Zhm Zkr
  refine ⟨_,Zpa H hm hs,fun h=>?_,fun h=>?_⟩
  ·unfold Ci Qy at *
   by_cases hf:Kb m s=true
   ·rw [kD hf] at h;exact absurd rfl h
   ·rw [kA hf,kA hf];exact ⟨rfl,rfl⟩
  have hf:Kb m s=true:=by
   unfold Ci at h
   by_cases hf:Kb m s=true
   ·exact hf
   ·rw [kA hf] at h;exact absurd (by decide) h
  obtain ⟨h1,h2,h3,h4,h5⟩:=Om hf
  obtain ⟨w,hw,e,hl⟩:=Zjj h1.1 h1.2
  have l1:=Kx s.failing
  have l2:=Kx s.steps
  unfold Zhb Zny
  refine ⟨_,Zjw H,rfl,by omega,w,hw,?_,?_,_,Ez H (by omega) (by omega),?_,?_,_,Ez H (by omega) (by omega),?_,?_,_,_,Bz H.toHasB ?_ (by simp),fun P hP=>?_⟩
  all_goals try (rw [Gi];simp only [kF,kB,kG];omega)
  ·rw [Wq];simp only [kF,kB,kG];omega
  have e0:([]:Zc)++([111,117,116,99,111,109,101,32]++w++[44,32,102,97,105,108,105,110,103,32]++Xe s.failing++[44,32,115,116,101,112,115,32]++Xe s.steps++[10])=Ha s++Kz m 0 (s.routines.take 0):=by
   unfold Ha;rw [e];simp [Kz]
  rw [e0]
  refine Ml (P:=fun b i=>P i m b) (fun i=>Ha s++Kz m 0 (s.routines.take i)) s.routines.length (hP _ _ _ ?_) fun i hi ih=>hP _ _ _ ?_
  ·have hb:=Yco hm hs hf s.routines.length
   rw [jG] at hb ⊢
   have er:Ha s++Kz m 0 s.routines=Mi m s:=rfl
   rw [er] at hb ⊢
   unfold Ze3 Zoj Qy
   rw [kD hf]
   refine ⟨fun h=>absurd h (by omega),fun _=>⟨_,_,Yhi H (by rw [Wq];omega),fun h=>?_,fun h=>⟨_,Zzk H.toHasB (by rw [Wq];omega),?_⟩⟩⟩
   ·rw [kD (by omega)];exact ⟨rfl,rfl⟩
   ·rw [kA (by omega)];exact ⟨rfl,rfl⟩
  ·have hw:=hs.r _ (kP hi)
   have hg:=h5 _ (kP hi)
   have k:=Fg H (g:=(i:Int)) hm hw
   rw [Zws (by omega) hg] at k
   unfold Ze3
   refine ⟨fun _=>⟨by omega,_,Wj hi,_,_,k,fun h=>absurd rfl h,fun _ P1 hP1=>?_⟩,fun h=>absurd (show (i:Int)<s.routines.length by omega) h⟩
   have ho:Ha s++Kz m 0 (s.routines.take i)=Ha s++Kz m 0 (s.routines.take i)++Up ((Kl m i s.routines[i]).take 0):=by simp [Up]
   rw [ho]
   obtain ⟨q1,q2⟩:=Zxz (g:=(i:Int)) hm hw (Gr.of hg)
   refine Ml (P:=fun b j=>P1 j m b) (fun j=>Ha s++Kz m 0 (s.routines.take i)++Up ((Kl m i s.routines[i]).take j)) (Kl m i s.routines[i]).length (hP1 _ _ _ ?_) fun j hj ihj=>hP1 _ _ _ ?_
   ·rw [jG]
    unfold Zfv Zhu
    refine ⟨fun h=>absurd h (by dsimp only;omega),fun _=>?_⟩
    rw [Ws (by omega) (by omega)]
    rw [Yv7 hi,<- jC] at ih
    exact ih
   ·have r1:=q1 _ (kP hj)
    have r2:=Ysw hm hs hf hi j
    unfold Zfv
    refine ⟨fun _=>⟨by omega,_,Wj hj,?_,_,_,Bz H.toHasB ?_ (by simp),?_⟩,fun h=>absurd (show (j:Int)<(Kl m i s.routines[i]).length by omega) h⟩
    ·rw [Gi];simp only [kB,kG];omega
    ·rw [Wq,Yh6 _ [10]];simp only [kB,kG];omega
    ·rw [Ws (by omega) (by omega)]
     rw [Xhq hj,<- jC] at ihj
     exact ihj)
 exact h
end
end Go.AM

namespace Go.AM
open Go
theorem Ydo (c:UInt8) (s:Zc):Zn [c] (c::s)=(s,true):=Jx [c] s
theorem Zfa (r:Zc):Qp (32::r)=0:=rfl
theorem Yfz {n:Int} (h0:0<=n) (h3:n<=3):Pd (Su n)=n:=by
 rcases (show n=0\/n=1\/n=2\/n=3 by omega) with rfl | rfl | rfl | rfl<;>decide
theorem Zc1 {n k:Int} {r:Zc} (h0:0<=k) (h1:k<n) (h2:k<1000000000) (hr:Qp r=0):Yv n (Xe k++r)=(k,true,r):=by
 unfold Yv
 rw [Zwh (by omega) (by omega) hr,kN h0,kN h1];rfl
theorem Xgu {m:Zh} {f:Ye} {k:Int} {x:Zg} (hm:Ww m) (hf:m.funcs[x.func.toNat]?=some f) (hk:0<=k/\k<170) (hx:0<=x.func) (hp:0<=x.pos) (hc:x.pos<f.code.length) (hmo:0<=x.mode/\x.mode<=3) :
  Vm m (Gq f k x)=(k,⟨x.func,x.pos,x.mode,[]⟩,true):=by
 have hlen:x.func<m.funcs.length:=by
  have:=(jT.1 hf).1
  omega
 have hn:=hm.n
 obtain ⟨q1,q2,q3,q4⟩:=hm.f f (jM hf)
 have e:Gq f k x=[35]++(Xe k++32::(Xe x.func++32::(quo f.name++32::97::116::32::(Xe x.pos++32::Su x.mode)))):=by unfold Gq;simp
 have en:Qs m x.func=f.name:=Zxe hf
 have ec:Uw m x.func=(f.code.length:Int):=by unfold Uw;rw [hf];rfl
 rw [e]
 unfold Vm
 rw [Jx]
 simp only [jW,jS]
 unfold Bv
 rw [Zc1 hk.1 hk.2 (by omega) (Zfa _)]
 simp only [jW,jS]
 rw [Ydo]
 simp only [jW,jS]
 unfold Mn
 rw [Zc1 hx hlen (by omega) (Zfa _)]
 simp only [jW,jS]
 rw [en,show (32::(quo f.name++32::97::116::32::(Xe x.pos++32::Su x.mode)):Zc)=([32]++quo f.name++[32,97,116,32])++(Xe x.pos++32::Su x.mode) from by simp,Jx]
 simp only [jW,jS]
 unfold Mo
 rw [ec,Zc1 hp hc (by omega) (Zfa _)]
 simp only [jW,jS]
 rw [Ydo]
 simp only [jW,jS]
 unfold Lb
 rw [Yfz hmo.1 hmo.2,kN hmo.1,show max 0 x.mode=x.mode by omega]
theorem Yky {f:Ye} {l:Zy} (hf:f.slots.length<=1000) (h0:0<=l.slot) (h1:l.slot<f.slots.length) (hv:Vh l.value=true) (hw:Wf l.value):Ki f (Gz f l)=some l:=by
 have e:Gz f l=[32,32]++(Xe l.slot++32::(quo (Mw f l.slot)++32::61::32::Xg l.value)):=by unfold Gz;simp
 have e2:(32::(quo (Mw f l.slot)++32::61::32::Xg l.value):Zc)=([32]++quo (Mw f l.slot)++[32,61,32])++Xg l.value:=by simp
 rw [e]
 unfold Ki
 rw [Jx]
 simp only [jW,jS]
 rw [Zc1 h0 h1 (by omega) (Zfa _)]
 simp only [jW,jS]
 rw [e2,Jx]
 simp only [jW,jS]
 rw [Zi3 hv hw,kD rfl]
theorem Zux {f:Ye} (hf:f.slots.length<=1000) :∀(l:List Zy),(∀y∈l,0<=y.slot/\y.slot<f.slots.length/\Vh y.value=true/\Wf y.value)->Qk f (l.map (Gz f))=some l
 | [],_=>rfl
 | y::l,h=>by
  obtain ⟨a,b,c,d⟩:=h y (by simp)
  rw [kT,Qk,Yky hf a b c d]
  simp only
  rw [Zux hf l fun z hz=>h z (by simp [hz])]
theorem Yov {m:Zh} {k:Int} {x:Zg} (hm:Ww m) (hx:Gg x) (hk:0<=k/\k<170) (hb:Jz m x=true):Kq m (Ga m k x)=(k,x,0):=by
 obtain ⟨f0,f1,f,hf,hF⟩:=Si.1 hb
 obtain ⟨g1,g2,g3,g4,g5,g6⟩:=Iy.1 hF
 obtain ⟨l1,l2⟩:=Zo3 (k:=k) hm hx hb
 have hl:¬(17<(Ga m k x).length\/Dn 1400060 (Ga m k x)=true):=by
  rintro (h | h)
  ·omega
  ·rw [Ztd.2 fun s hs=>jA (l1 s hs) (by decide)] at h;cases h
 have e:=Rt hf k
 have hp:=Xgu (k:=k) hm hf hk f0 g3 g4 ⟨hx.m,f1⟩
 have hr:=Zux (f:=f) (by omega) x.locals fun y hy=>by
  obtain ⟨a,b,c⟩:=Zbu g6 _ hy
  exact ⟨by omega,b,c,hx.v y hy⟩
 rw [e] at hl ⊢
 unfold Kq
 rw [kA hl]
 simp only
 rw [hp]
 simp only [jW,jS]
 rw [hf]
 simp only
 rw [hr]
 simp only
 have ex:({ func:=x.func,pos:=x.pos,mode:=x.mode,locals:=x.locals }:Zg)=x:=by cases x;rfl
 rw [ex,kD]
 unfold Uv
 rw [kA (by omega),kD hb,e]
end Go.AM

namespace Go.AM
open Go
def Ju:Zc->List Zc × Zc
 | []=>([],[])
 | c::r=>if c=10 then ([]::(Ju r).1,(Ju r).2) else match (Ju r).1 with
  | []=>([],c::(Ju r).2)
  | x::l=>((c::x)::l,(Ju r).2)
def Gx (l:List Zc):Zc:=l.flatMap fun x=>x++[10]
theorem Xc2 (l m:List Zc):Gx (l++m)=Gx l++Gx m:=by unfold Gx;rw [List.flatMap_append]
theorem Lq (x:Zc) (l:List Zc):Gx (x::l)=x++10::Gx l:=by unfold Gx;simp
theorem Zw1 :∀s:Zc,s=Gx (Ju s).1++(Ju s).2
 | []=>rfl
 | c::r=>by
  have ih:=Zw1 r
  unfold Ju
  split
  ·rename_i h
   subst h
   simp only [Lq,zA,kZ]
   rw [<- ih]
  ·split
   ·rename_i h
    rw [h] at ih
    simp only [Gx,List.flatMap_nil,zA] at ih ⊢
    rw [<- ih]
   ·rename_i x l h
    rw [h,Lq] at ih
    simp only [Lq,kZ]
    rw [<- ih]
theorem Ydg :∀s:Zc,(∀x∈(Ju s).1,(10:UInt8) ∉ x)/\(10:UInt8) ∉ (Ju s).2
 | []=>⟨fun x h=>(by simp [Ju] at h),by simp [Ju]⟩
 | c::r=>by
  have ih:=Ydg r
  unfold Ju
  split
  ·refine ⟨fun x h=>?_,ih.2⟩
   simp only [jF] at h
   rcases h with rfl | h
   ·simp
   ·exact ih.1 x h
  ·rename_i hc
   have hc':(10:UInt8)≠c:=fun h=>hc h.symm
   split
   ·exact ⟨fun x h=>by simp at h,by simp only [jF,not_or];exact ⟨hc',ih.2⟩⟩
   ·rename_i x l h
    rw [h] at ih
    refine ⟨fun y hy=>?_,ih.2⟩
    simp only [jF] at hy
    rcases hy with rfl | hy
    ·simp only [jF,not_or]
     exact ⟨hc',ih.1 x (by simp)⟩
    ·exact ih.1 y (by simp [hy])
theorem Yc5 :∀e:Zc,(10:UInt8) ∉ e->Ju e=([],e)
 | [],_=>rfl
 | c::r,h=>by
  simp only [jF,not_or] at h
  unfold Ju
  rw [kA (fun e=>h.1 e.symm),Yc5 r h.2]
theorem Zzg :∀(x r:Zc),(10:UInt8) ∉ x->Ju (x++10::r)=(x::(Ju r).1,(Ju r).2)
 | [],r,_=>by rw [zA,Ju,kD rfl]
 | c::x,r,h=>by
  simp only [jF,not_or] at h
  rw [kZ,Ju,kA (fun e=>h.1 e.symm),Zzg x r h.2]
theorem Zru :∀(l:List Zc) (e:Zc),(∀x∈l,(10:UInt8) ∉ x)->(10:UInt8) ∉ e->Ju (Gx l++e)=(l,e)
 | [],e,_,he=>by simpa [Gx] using Yc5 e he
 | x::l,e,h,he=>by
  rw [Lq,jC,kZ,Zzg x _ (h x (by simp)),Zru l e (fun y hy=>h y (by simp [hy])) he]
theorem Yq2 :∀k:Fin 16,(10:UInt8)≠Kv k:=by decide
theorem Zfx (n:Nat):(10:UInt8)≠Kv n:=by
 by_cases h:n<16
 ·exact Yq2 ⟨n,h⟩
 ·unfold Kv
  rw [zD,kR (by simp;omega)]
  decide
theorem Zi4 (b:Nat) :∀f n,(10:UInt8) ∉ ds b f n
 | 0,_=>by simp [ds]
 | f+1,n=>by
  unfold ds
  split
  ·simp only [jV];exact Zfx n
  ·simp only [jB,jV,not_or]
   exact ⟨Zi4 b f (n / b),Zfx _⟩
theorem Bj (n:Int):(10:UInt8) ∉ Xe n:=by
 unfold Xe
 split
 ·simp only [jF,not_or]
  exact ⟨by decide,Zi4 _ _ _⟩
 ·exact Zi4 _ _ _
theorem Yku (c:UInt8):(10:UInt8) ∉ Jf c:=by
 unfold Jf
 split
 ·rename_i h
  simp only [jF,yW,or_false,not_or]
  exact ⟨by decide,fun e=>by subst e;revert h;decide⟩
 ·split
  ·decide
  ·rename_i h
   split
   ·simp only [jF,yW,or_false,not_or]
    exact ⟨by decide,by decide,Zfx _,Zfx _⟩
   ·simp only [jV]
    exact fun e=>h (by rw [<- e];rfl)
theorem Zag (s:Zc):(10:UInt8) ∉ quo s:=by
 unfold quo Jw
 simp only [jF,jB,List.mem_flatMap,yW,or_false,not_or,not_exists,not_and]
 exact ⟨by decide,fun c _=>Yku c,by decide⟩
mutual
theorem En :∀v:Za,(10:UInt8) ∉ Xg v
 | .mk k n s l c=>by
  have h:=Xfe l
  rw [Xg]
  split
  ·split<;>decide
  ·split
   ·exact Bj n
   ·split
    ·exact Zag s
    ·split
     ·simp only [jF,jB,yW,or_false,not_or];exact ⟨by decide,h,by decide⟩
     ·split
      ·simp only [jF,jB,yW,or_false,not_or];exact ⟨by decide,h,by decide⟩
      ·split
       ·split
        ·decide
        ·simp only [jF,jB,yW,or_false,not_or];exact ⟨by decide,h,by decide⟩
       ·split
        ·decide
        ·split
         ·decide
         ·simp only [jF,not_or];exact ⟨by decide,h⟩
theorem Xfe :∀l:List Za,(10:UInt8) ∉ Xb l
 | []=>by simp [Xb]
 | v::l=>by rw [Xb];simp only [jB,not_or];exact ⟨En v,Ya7 l⟩
theorem Ya7 :∀l:List Za,(10:UInt8) ∉ Ub l
 | []=>by simp [Ub]
 | v::l=>by rw [Ub];simp only [jF,jB,not_or];exact ⟨by decide,by decide,En v,Ya7 l⟩
end
theorem Yyh (p:Zf):(10:UInt8) ∉ Vt p:=by
 unfold Vt Vj Tu
 simp only [jB,not_or]
 refine ⟨?_,?_,?_⟩
 ·split
  ·decide
  ·split
   ·unfold Oh
    split
    ·decide
    ·split
     ·decide
     ·split<;>decide
   ·simp only [jB,not_or]
    exact ⟨by decide,En _⟩
 ·split<;>decide
 ·split<;>decide
end Go.AM

namespace Go.AM
open Go
def Hg:Zc:=[111,117,116,99,111,109,101,32]
def Mv:Zc:=[44,32,102,97,105,108,105,110,103,32]
def Nl:Zc:=[44,32,115,116,101,112,115,32]
def Rx:Zc:=[103,111,114,111,117,116,105,110,101,32]
def Ra:Zc:=[58,32]
def Av:Zc:=[98,108,111,99,107,101,100,32]
def Zge:Zc:=[114,101,97,100,121]
def Zwb:Zc:=[100,111,110,101]
def Nb:Zc:=[32,32,35]
def t4:Zc:=[32,32,32,32]
def Nm:Zc:=[32,32,100,101,102,101,114,32]
def t2:Zc:=[32,32]
def Te:Zc:=[32,119,105,116,104,32]
def Zix (w f st:Zc) (ab:Bool):Zw × Bool:=(⟨(Bb w).1,(Wb f).1,(Wb st).1,[]⟩,ab&&decide ((Wb f).2=0)&&decide ((Wb st).2=0)&&decide ((Bb w).2=0))
def Zow (w r:Zc) (a:Bool):Zw × Bool:=Zix w (Lib.cut r Nl).1 (Lib.cut r Nl).2.1 (a&&(Lib.cut r Nl).2.2)
def Hi (s:Zc):Zw × Bool:=Zow (Lib.cut (Zn Hg s).1 Mv).1 (Lib.cut (Zn Hg s).1 Mv).2.1 (Lib.cut (Zn Hg s).1 Mv).2.2
abbrev rz:Zl:=⟨0,0,[],[],[]⟩
def An (st:Zc):Zl × Bool:=if (Zn Av st).2=true then (⟨2,(Wb (Zn Av st).1).1,[],[],[]⟩,decide ((Wb (Zn Av st).1).2=0)) else if st=Zge then (⟨1,0,[],[],[]⟩,true) else (⟨3,0,[],[],[]⟩,decide (st=Zwb))
def Kh (s:Zc):Zl × Bool:=if (Lib.cut s Ra).2.2=false then (rz,false) else An (Lib.cut s Ra).2.1
def Ch (a b:Int) (r:Zc):Option Zi:=if r=[] then some ⟨a,b,false,vz⟩ else if (Ji (Zn Te r).1).2=0 then some ⟨a,b,true,(Ji (Zn Te r).1).1⟩ else none
def Dw (m:Zh) (a b c:Zc):Option Zi:=if (Wb a).2≠0\/(Wb b).2≠0\/(Wb b).1<0\/(m.funcs.length:Int)<=(Wb b).1 then none else
 if (Zn (quo (Qs m (Wb b).1)) c).2=false then none else Ch (Wb a).1 (Wb b).1 (Zn (quo (Qs m (Wb b).1)) c).1
def Gl (m:Zh) (s:Zc):Option Zi:=match Lib.splitN s [32] 4 with
 | [_,a,b,c]=>Dw m a b c
 | _=>none
def Jv:List Zc->List Zc × List Zc
 | []=>([],[])
 | x::r=>if (Zn t4 x).2=true then (x.drop 2::(Jv r).1,(Jv r).2) else ([],x::r)
def Qm (m:Zh):Nat->List Zc->Option (List Zg × List Zc)
 | 0,_=>none
 | _+1,[]=>some ([],[])
 | n+1,x::r=>if (Zn Nb x).2=true then
   if (Kq m (x.drop 2::(Jv r).1)).2.2=0 then (Qm m n (Jv r).2).map fun z=>((Kq m (x.drop 2::(Jv r).1)).2.1::z.1,z.2) else none
  else some ([],x::r)
def Un (m:Zh):List Zc->Option (List Zi × List Zc)
 | []=>some ([],[])
 | x::r=>if (Zn Nm x).2=true then (Gl m (x.drop 2)).bind fun d=>(Un m r).map fun z=>(d::z.1,z.2) else some ([],x::r)
def Ug:List Zc->Option (List Zf × List Zc)
 | []=>some ([],[])
 | x::r=>if (Zn t2 x).2=true then (if (Qz (x.drop 2)).2=0 then (Ug r).map fun z=>((Qz (x.drop 2)).1::z.1,z.2) else none) else some ([],x::r)
def Qd (m:Zh) (l:List Zc):Option (List Zg × List Zi × List Zf × List Zc):=
 (Qm m (l.length+1) l).bind fun a=>(Un m a.2).bind fun b=>(Ug b.2).map fun c=>(a.1,b.1,c.1,c.2)
def Hf (m:Zh):Nat->List Zc->Option (List Zl × List Zc)
 | 0,_=>none
 | _+1,[]=>some ([],[])
 | n+1,x::r=>if (Zn Rx x).2=true then
   if (Kh x).2=true then (Qd m r).bind fun a=>(Hf m n a.2.2.2).map fun z=>(⟨(Kh x).1.status,(Kh x).1.key,a.1,a.2.1,a.2.2.1⟩::z.1,z.2) else none
  else some ([],x::r)
abbrev sz:Zw:=⟨0,0,0,[]⟩
def Rn (m:Zh):List Zc->Option Zw
 | []=>none
 | x::r=>if (Zn Hg x).2=true then (if (Hi x).2=true then (Hf m (r.length+1) r).map fun z=>⟨(Hi x).1.outcome,(Hi x).1.failing,(Hi x).1.steps,z.1⟩ else none) else none
def Qf (m:Zh) (s:Zc):Zw × Int:=if 300000<s.length then (sz,4) else match Rn m (Lib.split s [10]) with
 | none=>(sz,12)
 | some x=>if Qy m x=(s,0) then (x,0) else (sz,12)
theorem Zww {c:UInt8} {t a b:Zc} (h:c ∉ a):Lib.index (a++((c::t)++b)) (c::t)=(a.length:Int):=by
 refine Lib.index_first (by simp) ?_ fun j hj=>?_
 ·unfold Lib.occAt
  rw [yU]
  simp
 ·unfold Lib.occAt
  rw [List.drop_append_of_le_length (by omega)]
  cases e:a.drop j with
  | nil=>exact absurd (List.drop_eq_nil_iff.1 e) (by omega)
  | cons d r=>
   rw [kZ,List.isPrefixOf_cons₂]
   have hd:d∈a:=List.mem_of_mem_drop (i:=j) (by rw [e];simp)
   have:(c==d)=false:=by rw [beq_eq_false_iff_ne];rintro rfl;exact h hd
   rw [this];rfl
theorem Zi8 {c:UInt8} {t a b:Zc} (h:c ∉ a):Lib.cut (a++((c::t)++b)) (c::t)=(a,b,true):=by
 unfold Lib.cut
 rw [Zww h,kD (by omega)]
 have e:((a.length:Nat):Int).toNat=a.length:=rfl
 rw [e,List.take_left,<- kF,<- jC,yU]
theorem Zfn {c:UInt8} {a b:Zc} (h:c ∉ a) (k:Nat):Lib.splitK [c] 0 (k+1) (a++c::b)=a::Lib.splitK [c] 0 k b:=by
 have e:=Zww (t:=[]) (b:=b) h
 rw [List.singleton_append] at e
 rw [Lib.splitK,e,kA (by simp only [beq_iff_eq];omega)]
 have e2:((a.length:Nat):Int).toNat=a.length:=rfl
 rw [e2,yJ,List.take_left]
 congr 2
 rw [show a++c::b=(a++[c])++b by simp,show a.length+[c].length=(a++[c]).length by simp,yU]
theorem Xah (s:Zc):Lib.split s [10]=(Ju s).1++[(Ju s).2]:=by
 unfold Lib.split
 rw [Lib.count_one]
 have h1:=Ydg s
 have h2:=Zw1 s
 generalize (Ju s).2=e at *
 generalize (Ju s).1=l at *
 subst h2
 obtain ⟨h1,h3⟩:=h1
 induction l with
 | nil=>
  simp only [Gx,List.flatMap_nil,zA]
  rw [List.count_eq_zero.2 h3];rfl
 | cons x l ih=>
  have hx:=h1 x (by simp)
  rw [Lq,jC,kZ,List.count_append,List.count_eq_zero.2 hx,List.count_cons_self,zZ,Zfn hx,ih fun y hy=>h1 y (by simp [hy])]
  rfl
end Go.AM

namespace Go.AM
open Go
theorem Zbg (n:Int) {c:UInt8} (h:Uu c=false) (h2:c≠45):c ∉ Xe n:=by
 have hd :∀k,c ∉ Jd 10 k:=fun k hc=>by
  have:=Ct _ _ c hc
  rw [h] at this;cases this
 unfold Xe
 split
 ·simp only [jF,not_or]
  exact ⟨h2,hd _⟩
 ·exact hd _
theorem Xaj {a b:Zc} (h:(44:UInt8) ∉ a):Lib.cut (a++(Mv++b)) Mv=(a,b,true):=Zi8 (t:=[32,102,97,105,108,105,110,103,32]) h
theorem Xcs {a b:Zc} (h:(44:UInt8) ∉ a):Lib.cut (a++(Nl++b)) Nl=(a,b,true):=Zi8 (t:=[32,115,116,101,112,115,32]) h
theorem Yh8 {a b:Zc} (h:(58:UInt8) ∉ a):Lib.cut (a++(Ra++b)) Ra=(a,b,true):=Zi8 (t:=[32]) h
def Nr (s:Zw):Zc:=Hg++((Dp s.outcome).1++(Mv++(Xe s.failing++(Nl++Xe s.steps))))
theorem Yk7 (s:Zw):Ha s=Nr s++[10]:=by unfold Ha Nr Hg Mv Nl;simp
theorem Yek {n:Int} (h1:1<=n) (h8:n<=8):(44:UInt8) ∉ (Dp n).1/\(10:UInt8) ∉ (Dp n).1/\Bb (Dp n).1=(n,0):=by
 rcases (show n=1\/n=2\/n=3\/n=4\/n=5\/n=6\/n=7\/n=8 by omega) with rfl | rfl | rfl | rfl | rfl | rfl | rfl | rfl<;>exact ⟨by decide,by decide,by decide⟩
theorem Yv9 {s:Zw} (h1:1<=s.outcome/\s.outcome<=8) (h2:-1000000<=s.failing/\s.failing<=1000000) (h3:0<=s.steps/\s.steps<=5000):Hi (Nr s)=(⟨s.outcome,s.failing,s.steps,[]⟩,true):=by
 obtain ⟨w1,w2,w3⟩:=Yek h1.1 h1.2
 unfold Hi Nr
 rw [Jx]
 simp only
 rw [Xaj w1]
 unfold Zow
 rw [Xcs (Zbg s.failing (c:=44) rfl (by decide))]
 unfold Zix
 rw [w3,Pi (by omega) (by omega),Pi (by omega) (by omega)]
 rfl
theorem Yhp (g:Int) (x:Zl):Hy g x=Rx++(Xe g++(Ra++Hv x)):=by unfold Hy Rx Ra;simp
theorem Yqi {g:Int} {x:Zl} (hs:x.status=1\/x.status=2\/x.status=3) (h1:x.status≠2->x.key=0) (hk:-9223372036854775808<=x.key/\x.key<9223372036854775808):Kh (Hy g x)=(⟨x.status,x.key,[],[],[]⟩,true):=by
 unfold Kh
 rw [Yhp,<- jC,Yh8 (by
  simp only [jB,not_or]
  exact ⟨by decide,Zbg g rfl (by decide)⟩)]
 simp only [jW,jS]
 unfold An
 rcases hs with h | h | h
 ·rw [show Hv x=Zge from by unfold Hv;rw [kD h];rfl,h,h1 (by omega)];rfl
 ·rw [show Hv x=Av++Xe x.key from by unfold Hv;rw [kA (by omega),kA (by omega)];rfl,h,Jx]
  simp only [jO]
  rw [Pi hk.1 hk.2];rfl
 ·rw [show Hv x=Zwb from by unfold Hv;rw [kA (by omega),kD h];rfl,h,h1 (by omega)];rfl
theorem Xfm {m:Zh} {Vz:Int} {d:Zi} (hm:Ww m) (hw:Wf d.arg) (hn:Vz<=1000000) (h:Ks m Vz d=true):Gl m (Vu m d)=some d:=by
 obtain ⟨a1,a2,a3,⟨f,a4,a5,a6⟩,a7,a8⟩:=Zil h
 have hlen:d.func<m.funcs.length:=by
  have:=(jT.1 a4).1
  omega
 have hmn:=hm.n
 have e:Vu m d=[100,101,102,101,114]++32::(Xe d.frame++32::(Xe d.func++32::(quo (Qs m d.func)++(if d.hasArg=true then Te++Xg d.arg else [])))):=by unfold Vu Te;simp
 have e2:Lib.splitN (Vu m d) [32] 4=[[100,101,102,101,114],Xe d.frame,Xe d.func,quo (Qs m d.func)++(if d.hasArg=true then Te++Xg d.arg else [])]:=by
  unfold Lib.splitN
  have hl:3<=(Vu m d).length:=by rw [e];simp only [kF,kB,kG];omega
  rw [show min 4 ((Vu m d).length+1)-1=3 from by omega,e]
  rw [Zfn (by decide),Zfn (Zbg _ rfl (by decide)),Zfn (Zbg _ rfl (by decide))]
  rfl
 unfold Gl
 rw [e2]
 simp only
 unfold Dw
 rw [Pi (by omega) (by omega),Pi (by omega) (by omega)]
 simp only
 rw [kA (by omega),Jx]
 simp only [jW,jS]
 unfold Ch
 cases ha:d.hasArg with
 | false=>
  have:=a8 ha
  simp only [jK,jS,jO]
  rw [<- this,<- ha]
 | true=>
  simp only [jO]
  rw [kA (by unfold Te;simp),Jx]
  simp only
  rw [Zi3 (a7 ha).1 hw,kD rfl,<- ha]
def Uc (p:Zc) (l:List Zc):Prop:=∀x r,l=x::r->(Zn p x).2=false
theorem Lm {p x:Zc} {r:List Zc} (h:(Zn p x).2=false):Uc p (x::r):=fun y s e=>by injection e with e1 e2;rw [<- e1];exact h
theorem Sy {p:Zc} {a b:List Zc} (ha:Uc p a) (hb:Uc p b):Uc p (a++b):=by
 cases a with
 | nil=>exact hb
 | cons x r=>exact Lm (ha x r rfl)
theorem Yt8 {ls rest:List Zc} (h:Uc t4 rest):Jv ((ls.map Wm).map Wm++rest)=(ls.map Wm,rest):=by
 induction ls with
 | nil=>
  cases rest with
  | nil=>rfl
  | cons x r=>
   show Jv (x::r)=_
   rw [Jv,kA (by rw [h x r rfl];decide)];rfl
 | cons x l ih=>
  rw [kT,kT,kZ,Jv,show Wm (Wm x)=t4++x from rfl,Jx,kD rfl,ih]
  rfl
theorem Xdo (f:Ye) (l:Zy) :∃y,Gz f l=Wm y:=⟨Xe l.slot++[32]++quo (Mw f l.slot)++[32,61,32]++Xg l.value,by unfold Gz Wm;simp⟩
theorem Ysr (f:Ye) (l:List Zy) :∃ys:List Zc,l.map (Gz f)=ys.map Wm:=by
 induction l with
 | nil=>exact ⟨[],rfl⟩
 | cons x l ih=>
  obtain ⟨ys,h⟩:=ih
  obtain ⟨y,hy⟩:=Xdo f x
  exact ⟨y::ys,by rw [kT,kT,h,hy]⟩
theorem Ztv (m:Zh) :∀(l:List Zg) (i:Nat),Uc t4 ((Vq m i l).map Wm)
 | [],_=>fun x r e=>by cases e
 | x::l,i=>by
  show Uc t4 ((Ga m i x++Vq m (i+1) l).map Wm)
  rw [yR]
  refine Sy ?_ (Ztv m l (i+1))
  unfold Ga
  split
  ·exact fun x r e=>by cases e
  ·exact Lm (by unfold Gq;rfl)
theorem Ya8 {m:Zh} (hm:Ww m) {rest:List Zc} (h1:Uc Nb rest) (h2:Uc t4 rest) :∀(l:List Zg) (i n:Nat),(∀x∈l,Gg x)->(∀x∈l,Jz m x=true)->i+l.length<=170->l.length<n->Qm m n ((Vq m i l).map Wm++rest)=some (l,rest)
 | [],_,n+1,_,_,_,_=>by
  cases rest with
  | nil=>rfl
  | cons x r=>
   show Qm m (n+1) (x::r)=_
   rw [Qm,kA (by rw [h1 x r rfl];decide)]
 | x::l,i,n+1,hw,hb,hi,hn=>by
  obtain ⟨f0,f1,f,hf,hF⟩:=Si.1 (hb x (by simp))
  obtain ⟨ys,hys⟩:=Ysr f x.locals
  rw [kB] at hi hn
  have ih:=Ya8 hm h1 h2 l (i+1) n (fun y hy=>hw y (by simp [hy])) (fun y hy=>hb y (by simp [hy])) (by omega) (by omega)
  have e:(Vq m i (x::l)).map Wm++rest=Wm (Gq f i x)::((ys.map Wm).map Wm++((Vq m (i+1) l).map Wm++rest)):=by
   show (Ga m i x++Vq m (i+1) l).map Wm++rest=_
   rw [Rt hf,hys,yR,kT];simp
  have hr:=Yov (k:=(i:Int)) hm (hw x (by simp)) (by omega) (hb x (by simp))
  rw [Rt hf,hys] at hr
  have ep:(Zn Nb (Wm (Gq f i x))).2=true:=by unfold Gq;rfl
  have ed:(Wm (Gq f i x)).drop 2=Gq f i x:=rfl
  rw [e,Qm,kD ep,Yt8 (Sy (Ztv m l (i+1)) h2)]
  simp only
  rw [ed,hr]
  simp only [jO]
  rw [ih]
  rfl
theorem Zrw {m:Zh} {Vz:Int} (hm:Ww m) (hn:Vz<=1000000) {rest:List Zc} (h1:Uc Nm rest) :∀l:List Zi,(∀d∈l,Wf d.arg)->(∀d∈l,Ks m Vz d=true)->Un m ((l.map (Vu m)).map Wm++rest)=some (l,rest)
 | [],_,_=>by
  cases rest with
  | nil=>rfl
  | cons x r=>
   show Un m (x::r)=_
   rw [Un,kA (by rw [h1 x r rfl];decide)]
 | d::l,hw,hb=>by
  have ih:=Zrw hm hn h1 l (fun y hy=>hw y (by simp [hy])) (fun y hy=>hb y (by simp [hy]))
  rw [kT,kT,kZ,Un,kD (by unfold Vu;rfl),show (Wm (Vu m d)).drop 2=Vu m d from rfl,Xfm hm (hw d (by simp)) hn (hb d (by simp)),ih]
  rfl
theorem Ydi {rest:List Zc} (h1:Uc t2 rest) :∀l:List Zf,(∀p∈l,Mx p)->(∀p∈l,Xx p=true)->Ug ((l.map Vt).map Wm++rest)=some (l,rest)
 | [],_,_=>by
  cases rest with
  | nil=>rfl
  | cons x r=>
   show Ug (x::r)=_
   rw [Ug,kA (by rw [h1 x r rfl];decide)]
 | p::l,hw,hb=>by
  have ih:=Ydi h1 l (fun y hy=>hw y (by simp [hy])) (fun y hy=>hb y (by simp [hy]))
  rw [kT,kT,kZ,Ug,kD (by rfl),show (Wm (Vt p)).drop 2=Vt p from rfl,Xg5 (hb p (by simp)) (hw p (by simp)).v,kD rfl,ih]
  rfl
theorem Xdp (p:Zf) (h:Xx p=true) :∃c r,Vt p=c::r/\(c=101\/c=102\/c=112):=by
 have h4:=@Zxv p h
 unfold Vt Vj
 split
 ·exact ⟨101,_,rfl,.inl rfl⟩
 ·split
  ·rename_i h
   obtain ⟨a,b⟩:=h4 h
   unfold Oh
   rcases (show p.value.int=1\/p.value.int=2\/p.value.int=3 by omega) with e | e | e<;>rw [e]<;>exact ⟨102,_,rfl,.inr (.inl rfl)⟩
  ·exact ⟨112,_,rfl,.inr (.inr rfl)⟩
theorem Zrc {q:Zc} {e c:UInt8} {r:Zc} (h:e≠c):(Zn (32::32::e::q) (Wm (c::r))).2=false:=by
 show (Zn (32::32::e::q) (32::32::c::r)).2=false
 rw [Zav,Zav,Ih h];rfl
theorem Zec {q:Zc} {e:UInt8} (he:e≠101/\e≠102/\e≠112) {l:List Zf} (h :∀p∈l,Xx p=true):Uc (32::32::e::q) ((l.map Vt).map Wm):=by
 cases l with
 | nil=>exact fun x r e=>by cases e
 | cons p l=>
  obtain ⟨c,r,h1,h2⟩:=Xdp p (h p (by simp))
  rw [kT,kT,h1]
  refine Lm (Zrc ?_)
  rcases h2 with rfl | rfl | rfl
  ·exact he.1
  ·exact he.2.1
  ·exact he.2.2
theorem Zy0 (m:Zh) {q:Zc} {e:UInt8} (he:e≠100) (l:List Zi):Uc (32::32::e::q) ((l.map (Vu m)).map Wm):=by
 cases l with
 | nil=>exact fun x r e=>by cases e
 | cons d l=>
  rw [kT,kT]
  exact Lm (by unfold Vu;exact Zrc he)
theorem Ymf {m:Zh} {x:Zl} (hm:Ww m) (hx:Qq x) (h:Gr m x) {rest:List Zc} (h1:Uc t2 rest):Qd m ((Ut m x).map Wm++rest)=some (x.frames,x.defers,x.panics,rest):=by
 have hf:=h.f
 have n2 :∀{q:Zc},Uc (32::32::q) rest:=fun {q} y r e=>by
  have:=h1 y r e
  unfold Zn at this ⊢
  split at this
  ·cases this
  ·rename_i h2
   rw [kA]
   intro h3
   refine h2 ?_
   have:=jD (List.take 2) h3
   rw [List.take_take] at this
   simpa [t2] using this
 have e:(Ut m x).map Wm++rest=(Vq m 0 x.frames).map Wm++((x.defers.map (Vu m)).map Wm++((x.panics.map Vt).map Wm++rest)):=by unfold Ut;simp
 have p1:=@Zec
 have a1:Uc Nm ((x.panics.map Vt).map Wm++rest):=Sy (Zec (by decide) h.pb) n2
 have a2:Uc Nb ((x.defers.map (Vu m)).map Wm++((x.panics.map Vt).map Wm++rest)):=Sy (Zy0 m (by decide) _) (Sy (Zec (by decide) h.pb) n2)
 have a3:Uc t4 ((x.defers.map (Vu m)).map Wm++((x.panics.map Vt).map Wm++rest)):=Sy (Zy0 m (by decide) _) (Sy (Zec (by decide) h.pb) n2)
 have hl:x.frames.length<((Vq m 0 x.frames).map Wm++((x.defers.map (Vu m)).map Wm++((x.panics.map Vt).map Wm++rest))).length+1:=by
  have :∀(l:List Zg) (i:Nat),(∀y∈l,Jz m y=true)->l.length<=(Vq m i l).length:=by
   intro l
   induction l with
   | nil=>intro i _;exact kU _
   | cons y l ih=>
    intro i hb
    obtain ⟨f0,f1,f,hf,hF⟩:=Si.1 (hb y (by simp))
    have:=ih (i+1) fun z hz=>hb z (by simp [hz])
    show _<=(Ga m i y++Vq m (i+1) l).length
    rw [Rt hf,kF,kB,kB]
    omega
  have:=this x.frames 0 h.fb
  rw [kF,zC]
  omega
 rw [e]
 unfold Qd
 rw [Ya8 hm a2 a3 x.frames 0 _ hx.f h.fb (by omega) hl]
 simp only [zW]
 rw [Zrw hm (Vz:=x.frames.length) (by omega) a1 x.defers hx.d h.db]
 simp only [zW]
 rw [Ydi h1 x.panics hx.p h.pb]
 rfl
def Hq (m:Zh):Nat->List Zl->List Zc
 | _,[]=>[]
 | i,x::r=>Kl m i x++Hq m (i+1) r
theorem Yik (m:Zh) (l:List Zl) (i:Nat):Uc t2 (Hq m i l++[[]]):=by
 cases l with
 | nil=>exact Lm rfl
 | cons x l=>exact Lm (by unfold Hy;rfl)
theorem Yw9 {m:Zh} {x:Zl} (h:Jt m x=true):x.status≠2->x.key=0:=by
 intro h2
 by_cases h3:x.status=3
 ·rw [Zin h3] at h
  simp only [kL,kV] at h
  exact h.2
 ·by_cases h1:x.status=1/\x.key=0
  ·exact h1.2
  ·rw [Zed h3 (by rintro (h | h);exact h2 h;exact h1 h)] at h;cases h
theorem Ybb {m:Zh} (hm:Ww m) :∀(l:List Zl) (i n:Nat),(∀x∈l,Qq x)->(∀x∈l,Jt m x=true)->l.length<n->Hf m n (Hq m i l++[[]])=some (l,[[]])
 | [],_,n+1,_,_,_=>rfl
 | x::l,i,n+1,hw,hb,hn=>by
  rw [kB] at hn
  have ih:=Ybb hm l (i+1) n (fun y hy=>hw y (by simp [hy])) (fun y hy=>hb y (by simp [hy])) (by omega)
  have hx:=hw x (by simp)
  have hg:=hb x (by simp)
  have h0:=Gr.of hg
  have e:Hq m i (x::l)++[[]]=Hy i x::((Ut m x).map Wm++(Hq m (i+1) l++[[]])):=by
   show (Hy i x::(Ut m x).map Wm)++Hq m (i+1) l++[[]]=_
   simp
  rw [e,Hf,kD (by unfold Hy;rfl),Yqi h0.st (Yw9 hg) hx.k]
  simp only [jO]
  rw [Ymf hm hx h0 (Yik m l (i+1))]
  simp only [zW]
  rw [ih]
  rfl
theorem Yxc {f:Ye} {k:Int} {x:Zg} (h:0<=x.mode/\x.mode<=3):(10:UInt8) ∉ Gq f k x:=by
 have:(10:UInt8) ∉ Su x.mode:=by rcases (show x.mode=0\/x.mode=1\/x.mode=2\/x.mode=3 by omega) with e | e | e | e<;>rw [e]<;>decide
 unfold Gq
 simp only [jB,not_or]
 exact ⟨⟨⟨⟨⟨⟨⟨⟨⟨by decide,Bj _⟩,by decide⟩,Bj _⟩,by decide⟩,Zag _⟩,by decide⟩,Bj _⟩,by decide⟩,this⟩
theorem Xds (f:Ye) (l:Zy):(10:UInt8) ∉ Gz f l:=by
 unfold Gz
 simp only [jB,not_or]
 exact ⟨⟨⟨⟨⟨by decide,Bj _⟩,by decide⟩,Zag _⟩,by decide⟩,En _⟩
theorem Zut {m:Zh} :∀(l:List Zg) (i:Nat),(∀x∈l,Gg x)->(∀x∈l,Jz m x=true)->∀s∈Vq m i l,(10:UInt8) ∉ s
 | [],_,_,_,s,hs=>by cases hs
 | x::l,i,hw,hb,s,hs=>by
  obtain ⟨f0,f1,f,hf,hF⟩:=Si.1 (hb x (by simp))
  have hs:s∈Ga m i x++Vq m (i+1) l:=hs
  rw [Rt hf] at hs
  rcases jB.1 hs with hs | hs
  ·rcases jF.1 hs with rfl | hs
   ·exact Yxc ⟨(hw x (by simp)).m,f1⟩
   ·obtain ⟨y,_,rfl⟩:=yK.1 hs
    exact Xds f y
  ·exact Zut l (i+1) (fun y hy=>hw y (by simp [hy])) (fun y hy=>hb y (by simp [hy])) s hs
theorem Yjs (m:Zh) (d:Zi):(10:UInt8) ∉ Vu m d:=by
 unfold Vu
 simp only [jB,not_or]
 refine ⟨⟨⟨⟨⟨⟨by decide,Bj _⟩,by decide⟩,Bj _⟩,by decide⟩,Zag _⟩,?_⟩
 split
 ·simp only [jB,not_or];exact ⟨by decide,En _⟩
 ·simp
theorem Yym (g:Int) (x:Zl):(10:UInt8) ∉ Hy g x:=by
 unfold Hy Hv
 simp only [jB,not_or]
 refine ⟨⟨⟨by decide,Bj _⟩,by decide⟩,?_⟩
 split
 ·decide
 ·split
  ·decide
  ·simp only [jB,not_or];exact ⟨by decide,Bj _⟩
theorem Yvl {m:Zh} {x:Zl} (g:Int) (hx:Qq x) (h:Gr m x) :∀s∈Kl m g x,(10:UInt8) ∉ s:=by
 intro s hs
 rcases jF.1 hs with rfl | hs
 ·exact Yym g x
 ·obtain ⟨y,hy,rfl⟩:=yK.1 hs
  have:(10:UInt8) ∉ y:=by
   unfold Ut at hy
   rcases jB.1 hy with hy | hy
   ·rcases jB.1 hy with hy | hy
    ·exact Zut _ _ hx.f h.fb _ hy
    ·obtain ⟨d,_,rfl⟩:=yK.1 hy
     exact Yjs m d
   ·obtain ⟨p,_,rfl⟩:=yK.1 hy
    exact Yyh p
  show (10:UInt8) ∉ 32::32::y
  simp only [jF,not_or]
  exact ⟨by decide,by decide,this⟩
theorem Ydl {m:Zh} :∀(l:List Zl) (i:Nat),(∀x∈l,Qq x)->(∀x∈l,Jt m x=true)->∀s∈Hq m i l,(10:UInt8) ∉ s
 | [],_,_,_,s,hs=>by cases hs
 | x::l,i,hw,hb,s,hs=>by
  rcases jB.1 hs with hs | hs
  ·exact Yvl i (hw x (by simp)) (Gr.of (hb x (by simp))) s hs
  ·exact Ydl l (i+1) (fun y hy=>hw y (by simp [hy])) (fun y hy=>hb y (by simp [hy])) s hs
theorem Zzo (m:Zh) :∀(l:List Zl) (i:Nat),Kz m i l=Gx (Hq m i l)
 | [],_=>rfl
 | x::l,i=>by
  show Up (Kl m i x)++Kz m (i+1) l=Gx (Kl m i x++Hq m (i+1) l)
  rw [Zzo m l (i+1),Xc2];rfl
theorem Xb9 {m:Zh} {s:Zw} (hs:Gw s) (hf:Kb m s=true):Ju (Mi m s)=(Nr s::Hq m 0 s.routines,[]):=by
 obtain ⟨h1,h2,h3,h4,h5⟩:=Om hf
 have e:Mi m s=Gx (Nr s::Hq m 0 s.routines)++[]:=by
  unfold Mi
  rw [Yk7,Zzo,Lq];simp
 rw [e]
 refine Zru _ _ (fun x hx=>?_) (by simp)
 rcases jF.1 hx with rfl | hx
 ·unfold Nr
  simp only [jB,not_or]
  exact ⟨by decide,(Yek h1.1 h1.2).2.1,by decide,Bj _,by decide,Bj _⟩
 ·exact Ydl _ _ hs.r h5 x hx
theorem Yog {m:Zh} {s:Zw} (hm:Ww m) (hs:Gw s) (hf:Kb m s=true):Rn m (Lib.split (Mi m s) [10])=some s:=by
 obtain ⟨h1,h2,h3,h4,h5⟩:=Om hf
 rw [Xah,Xb9 hs hf]
 show Rn m (Nr s::(Hq m 0 s.routines++[[]]))=_
 have hl :∀(l:List Zl) (i:Nat),l.length<=(Hq m i l).length:=by
  intro l
  induction l with
  | nil=>intro i;exact kU _
  | cons x l ih=>
   intro i
   have:=ih (i+1)
   show _<=(Kl m i x++Hq m (i+1) l).length
   rw [kF,show (Kl m i x).length=((Ut m x).map Wm).length+1 from rfl,kB]
   omega
 have:=hl s.routines 0
 rw [Rn,kD (by unfold Nr;rw [Jx]),Yv9 h1 (by omega) h2,kD rfl,Ybb hm s.routines 0 _ hs.r h5 (by rw [kF];omega)]
 rfl
theorem Yxs {m:Zh} {s:Zw} (hm:Ww m) (hs:Gw s) (hf:Kb m s=true) (hl:(Mi m s).length<=300000):Qf m (Mi m s)=(s,0):=by
 unfold Qf
 rw [kA (by omega),Yog hm hs hf]
 simp only
 rw [kD]
 unfold Qy
 rw [kD hf,kA (by omega)]
end Go.AM

namespace Go.AM
open Go
structure HasD (PG:Zb):Prop extends HasT PG,HasG PG where
 f306:PG.fn 306=some Ze2
 f316:PG.fn 316=some Zdc
 f322:PG.fn 322=some Zg5
 f260:PG.fn 260=some Ot
 f266:PG.fn 266=some Es
 f317:PG.fn 317=some Zd9
 f307:PG.fn 307=some Fl
 f308:PG.fn 308=some Fa
 f318:PG.fn 318=some Iu
 f304:PG.fn 304=none
 o304 :∀s:Zc,s.length<=1000000000->PG.orac 304 [.s s,.s [10]]=some (.sl .ext ((Lib.split s [10]).map Zt))
 f323:PG.fn 323=none
 o323 :∀s:Zc,s.length<=1000000000->PG.orac 323 [.s s,.s [32],.i .i64 4]=some (.sl .ext ((Lib.splitN s [32] 4).map Zt))
 f197:PG.fn 197=none
 o197 :∀s p:Zc,s.length<=1000000000->PG.orac 197 [.s s,.s p]=some (.i .i64 (Lib.index s p))
section
variable {PG:Zb} (H:HasD PG)
include H
theorem Xad {s:Zc} (hs:s.length<=1000000000) (p:Zc):Ze PG 197 [.s s,.s p] (.i .i64 (Lib.index s p)):=Ze.orac H.f197 (H.o197 s p hs) rfl
theorem Yz1 {s:Zc} (hs:s.length<=1000000000):Ze PG 304 [.s s,.s [10]] (.sl .ext ((Lib.split s [10]).map Zt)):=Ze.orac H.f304 (H.o304 s hs) rfl
theorem Yfs {s:Zc} (hs:s.length<=1000000000):Ze PG 323 [.s s,.s [32],.i .i64 4] (.sl .ext ((Lib.splitN s [32] 4).map Zt)):=Ze.orac H.f323 (H.o323 s hs) rfl
theorem Yv5 (s p:Zc):Ze PG 306 [.s s,.s p] (.b (Zn p s).2):=by
 obtain ⟨x,rfl,h⟩:=Yg8 H.f306 (s0:=s) (ah:=p) (K:=fun x=>x=(Zn p s).2) (by
  unfold Zmz
  refine ⟨_,c46 H.toHas03 s p,?_⟩
  unfold Zn
  split<;>rename_i h<;>simp [h])
 exact h
theorem Yie (s p:Zc) (hp:p.length<=1000000000):Ze PG 322 [.s s,.s p] (.s (Zn p s).1):=by
 obtain ⟨x,rfl,h⟩:=Yxf H.f322 (s0:=s) (ah:=p) (K:=fun x=>x=(Zn p s).1) (by
  unfold Zmn
  refine ⟨_,c46 H.toHas03 s p,fun h=>?_,fun h=>?_⟩
  ·have h:s.take p.length=p:=by simpa using h
   refine ⟨by omega,?_,?_⟩
   ·have:=jD List.length h
    simp only [jI] at this
    omega
   ·unfold Zn;rw [kD h];rfl
  ·have h:¬ s.take p.length=p:=by simpa using h
   unfold Zn;rw [kA h])
 exact h
theorem Zvf (s p:Zc) (hp:p.length<=1000000000):Ze PG 316 [.s s,.s p] (.s (Zn p s).1):=by
 obtain ⟨x,rfl,h⟩:=Yuw H.f316 (s0:=s) (ah:=p) (K:=fun x=>x=(Zn p s).1) (by
  unfold Zn0
  exact ⟨_,Yie H s p hp,rfl⟩)
 exact h
theorem Yrl {s p:Zc} (hs:s.length<=1000000000) (hp:p.length<=1000):Ze PG 266 [.s s,.s p] (.tup [.s (Lib.cut s p).1,.s (Lib.cut s p).2.1,.b (Lib.cut s p).2.2]):=by
 obtain ⟨x,y,z,⟨rfl,rfl,rfl⟩,h⟩:=Yrn H.f266 (s0:=s) (dq:=p) (K:=fun x y z=>x=(Lib.cut s p).1/\y=(Lib.cut s p).2.1/\z=(Lib.cut s p).2.2) (by
  unfold Zj5
  refine ⟨_,Xad H hs p,fun h=>?_,fun h=>?_⟩
  ·have h1:=Lib.index_le s p
   have h2:=Lib.index_room s p (by omega)
   rw [Ws (by omega) (by omega)]
   unfold Lib.cut
   rw [kD (by omega)]
   refine ⟨by omega,by omega,by omega,by omega,rfl,?_,rfl⟩
   congr 1
   omega
  ·unfold Lib.cut
   rw [kA (by omega)]
   exact ⟨rfl,rfl,rfl⟩)
 exact h
theorem Zq5 {s p:Zc} (hs:s.length<=1000000000) (hp:p.length<=1000):Ze PG 260 [.s s,.s p] (.tup [.s (Lib.cut s p).1,.s (Lib.cut s p).2.1,.b (Lib.cut s p).2.2]):=by
 obtain ⟨x,y,z,⟨rfl,rfl,rfl⟩,h⟩:=Xeo H.f260 (s0:=s) (dq:=p) (K:=fun x y z=>x=(Lib.cut s p).1/\y=(Lib.cut s p).2.1/\z=(Lib.cut s p).2.2) (by
  unfold Zq3
  exact ⟨_,_,_,Yrl H hs hp,rfl,rfl,rfl⟩)
 exact h
theorem Zc8 (s:Zc):Ze PG 317 [.s s] (.tup [.i .i64 (Wb s).1,.b (decide ((Wb s).2=0))]):=by
 obtain ⟨x,y,⟨rfl,rfl⟩,h⟩:=Yls H.f317 (s0:=s) (K:=fun x y=>x=(Wb s).1/\y=decide ((Wb s).2=0)) (by
  unfold Zjn
  exact ⟨_,_,c21 H.toHas03 s,rfl,rfl⟩)
 exact h
theorem Xew {s:Zc} (hs:s.length<=1000000):Ym PG 307 [.s s] (fun r=>r=.tup [(Hi s).1.avo .full,.b (Hi s).2]):=by
 refine (Yza H.f307 (s0:=s) (K:=fun x y=>x=(Hi s).1/\y=(Hi s).2) ?_).to ?_
 ·unfold Zhv Zjb Zp0
  have l0:(Zn Hg s).1.length<=1000000:=by unfold Zn;split<;>simp<;>omega
  have lc :∀(x p:Zc),x.length<=1000000->(Lib.cut x p).1.length<=1000000/\(Lib.cut x p).2.1.length<=1000000:=by
   intro x p hx
   unfold Lib.cut
   split<;>simp<;>omega
  have l1:=lc _ Mv l0
  refine ⟨_,Zvf H s Hg (by decide),_,_,_,Zq5 H (p:=Mv) (by omega) (by decide),?_⟩
  unfold Zmr
  refine ⟨_,_,_,Zq5 H (p:=Nl) (by omega) (by decide),?_⟩
  unfold Zn8
  refine ⟨_,_,Dy H.toHasT _,?_⟩
  unfold Zl3 Zj0 Zoc
  refine ⟨_,_,Zc8 H _,?_⟩
  unfold Zo9
  refine ⟨_,_,Zc8 H _,?_⟩
  unfold Zn9 Hi Zow Zix
  simp only
  generalize Lib.cut (Zn Hg s).1 Mv=a
  generalize Lib.cut a.2.1 Nl=b
  cases a.2.2<;>cases b.2.2<;>by_cases e1:(Wb b.1).2=0<;>by_cases e2:(Wb b.2.1).2=0<;>simp [e1,e2]
 ·rintro r ⟨x,y,rfl,rfl,rfl⟩
  rfl
theorem Yzw {s:Zc} (hs:s.length<=1000000):Ym PG 308 [.s s] (fun r=>r=.tup [.ag [.i .u8 (Kh s).1.status,.i .i64 (Kh s).1.key,.sl .full [],.sl .full [],.sl .full []],.b (Kh s).2]):=by
 have hz:(Kh s).1.frames=[]/\(Kh s).1.defers=[]/\(Kh s).1.panics=[]:=by
  unfold Kh An
  repeat' split
  all_goals exact ⟨rfl,rfl,rfl⟩
 refine (Ypq H.f308 (s0:=s) (K:=fun x y=>x=(Kh s).1/\y=(Kh s).2) ?_).to ?_
 ·unfold Zq4
  refine ⟨_,_,_,Zq5 H (p:=Ra) (by omega) (by decide),_,_,Pz H.toHas03 _ Av,fun h=>?_,fun h=>⟨fun h2=>⟨_,_,c21 H.toHas03 _,?_⟩,fun h2=>⟨fun h3=>?_,fun h3=>?_⟩⟩⟩
  ·have h:(Lib.cut s Ra).2.2=false:=by simpa using h
   unfold Kh;rw [kD h];exact ⟨rfl,rfl⟩
  all_goals
   have h:¬ (Lib.cut s Ra).2.2=false:=by simpa using h
   unfold Kh;rw [kA h];unfold An
  ·rw [kD h2];exact ⟨rfl,rfl⟩
  ·rw [kA (by rw [h2];exact yH),kD (show _=Zge from h3)];exact ⟨rfl,rfl⟩
  ·rw [kA (by rw [h2];exact yH),kA (show ¬ _=Zge from h3)];exact ⟨rfl,rfl⟩
 ·rintro r ⟨x,y,rfl,rfl,rfl⟩
  rw [hz.1,hz.2.1,hz.2.2]
  rfl
end
end Go.AM

namespace Go.AM
open Go
section
variable {PG:Zb} (H:HasQ PG)
include H
end
end Go.AM

namespace Go.AM
open Go
section
variable {PG:Zb} (H:HasQ PG)
include H
end
end Go.AM

namespace Go.AM
open Go
theorem Zhy (p:Zc) (v:Nat) :∀(k:Nat) (s:Zc),(Lib.splitK p v k s).length<=k+1
 | 0,_=>kU _
 | k+1,s=>by
  unfold Lib.splitK
  split
  ·simp
  ·have:=Zhy p v k (s.drop ((Lib.index s p).toNat+p.length))
   simp only [kB];omega
theorem Zky (p:Zc) :∀(k:Nat) (s x:Zc),x∈Lib.splitK p 0 k s->x.length<=s.length
 | 0,s,x,h=>by
  simp only [Lib.splitK,jV] at h
  rw [h];exact kU _
 | k+1,s,x,h=>by
  unfold Lib.splitK at h
  split at h
  ·rw [jV.1 h];exact kU _
  ·rcases jF.1 h with rfl | h
   ·simp;omega
   ·have:=Zky p k _ x h
    simp at this
    omega
noncomputable def Lw (a b:Zl):Bool:=@decide (a=b) (Classical.propDecidable _)
theorem Zlo {v w:Zl}:Lw v w=true↔v=w:=by unfold Lw;simp
theorem Ycp {v w:Zl}:Lw v w=false↔v≠w:=by rw [<- zV,Zlo]
noncomputable def Ld (a b:Zw):Bool:=@decide (a=b) (Classical.propDecidable _)
theorem Zeb {v w:Zw}:Ld v w=true↔v=w:=by unfold Ld;simp
theorem Xb6 {v w:Zw}:Ld v w=false↔v≠w:=by rw [<- zV,Zeb]
noncomputable def Lc (a b:List Zf):Bool:=@decide (a=b) (Classical.propDecidable _)
theorem Zf8 {v w:List Zf}:Lc v w=true↔v=w:=by unfold Lc;simp
theorem Ym7 {v w:List Zf}:Lc v w=false↔v≠w:=by rw [<- zV,Zf8]
section
variable {PG:Zb}
theorem Xbw (H:HasD PG) {m:Zh} (hm:Ww m) {s:Zc} (hs:s.length<=1000000) :∃d b,Ze PG 318 [m.av,.s s] (.tup [Zi.av d,.b b])/\(b=true->Gl m s=some d)/\(b=false->Gl m s=none):=by
 obtain ⟨x,y,⟨h1,h2⟩,h⟩:=Ynk H.f318 (m0:=m) (s1:=s) (K:=fun x y=>(y=true->Gl m s=some x)/\(y=false->Gl m s=none)) (by
  have no :∀{d:Zi},Gl m s=none->(Eq false true->Gl m s=some d)/\(Eq false false->Gl m s=none):=fun h=>⟨fun h=>(by cases h),fun _=>h⟩
  unfold Zjg Zjx Zl1
  refine ⟨_,Yfs H (by omega),?_⟩
  have hl:(Lib.splitN s [32] 4).length<=4:=jA (Zhy _ _ _ _) (by omega)
  have hmm :∀x∈Lib.splitN s [32] 4,x.length<=1000000:=fun x hx=>jA (Zky _ _ _ _ hx) hs
  unfold Zle
  generalize hw:Lib.splitN s [32] 4=w at hl hmm
  refine ⟨fun h=>no ?_,fun h=>?_⟩
  ·unfold Gl;rw [hw]
   match w,h with
   | [],_=>rfl
   | [_],_=>rfl
   | [_,_],_=>rfl
   | [_,_,_],_=>rfl
   | _::_::_::_::r,h=>exact absurd h (by simp only [kB];omega)
  match w,hl,h,hw,hmm with
  | [],_,h,_,_=>exact absurd (by simp only [kB,kG];omega) h
  | [_],_,h,_,_=>exact absurd (by simp only [kB,kG];omega) h
  | [_,_],_,h,_,_=>exact absurd (by simp only [kB,kG];omega) h
  | [_,_,_],_,h,_,_=>exact absurd (by simp only [kB,kG];omega) h
  | _::_::_::_::_::r,hl,_,_,_=>simp only [kB] at hl;omega
  | [z,a,b,c],_,_,hw,hmm=>
  have e:Gl m s=Dw m a b c:=by unfold Gl;rw [hw]
  have hc:c.length<=1000000:=hmm c (by simp)
  rw [e] at no ⊢
  unfold Zkv Zmd
  refine ⟨a,rfl,_,_,Zc8 H a,?_⟩
  unfold Zni
  refine ⟨b,rfl,_,_,Zc8 H b,?_⟩
  unfold Zlb
  refine ⟨fun h=>no ?_,fun h1=>⟨fun h=>no ?_,fun h2=>⟨fun h=>no ?_,fun h3=>⟨fun h=>no ?_,fun h4=>?_⟩⟩⟩⟩
  ·unfold Dw;rw [kD (.inl (by simpa using h))]
  ·unfold Dw;rw [kD (.inr (.inl (by simpa using h)))]
  ·unfold Dw;rw [kD (.inr (.inr (.inl h)))]
  ·unfold Dw;rw [kD (.inr (.inr (.inr h)))]
  have h1:(Wb a).2=0:=by simpa using h1
  have h2:(Wb b).2=0:=by simpa using h2
  simp only at h3 h4
  have hn:(Wb b).1.toNat<m.funcs.length:=by omega
  have hcnd:¬ ((Wb a).2≠0\/(Wb b).2≠0\/(Wb b).1<0\/(m.funcs.length:Int)<=(Wb b).1):=by omega
  have hq:Nz (m.funcs[(Wb b).1.toNat]).name=(quo (Qs m (Wb b).1),0):=by
   have:=(hm.f _ (kP hn)).1
   unfold Nz Qs
   rw [kA (by omega),kH hn,yV]
  unfold Zij
  refine ⟨by simp only;omega,_,kH hn,_,_,c11 H.toHas03 _,c,rfl,_,_,Pz H.toHas03 _ _,?_⟩
  rw [hq]
  refine ⟨fun h=>absurd rfl h,fun _=>⟨fun h=>no ?_,fun h=>?_⟩⟩
  ·unfold Dw;rw [kA hcnd,kD (by simpa using h)]
  have hcut:¬ (Zn (quo (Qs m (Wb b).1)) c).2=false:=by simpa using h
  have e2:Dw m a b c=Ch (Wb a).1 (Wb b).1 (Zn (quo (Qs m (Wb b).1)) c).1:=by unfold Dw;rw [kA hcnd,kA hcut]
  rw [e2] at no ⊢
  have hr:(Zn (quo (Qs m (Wb b).1)) c).1.length<=1000000:=by unfold Zn;split<;>simp<;>omega
  generalize (Zn (quo (Qs m (Wb b).1)) c).1=r at no hr
  unfold Znz
  refine ⟨fun h=>?_,fun h=>⟨_,Zvf H r Te (by decide),_,_,c74 H.toHas38 ?_,?_,?_⟩⟩
  ·unfold Ch;rw [kD h];exact ⟨fun _=>rfl,fun h=>by cases h⟩
  ·unfold Zn;split<;>simp<;>omega
  ·intro h3
   have h3:=zX h3
   unfold Ch;rw [kA h,kD h3]
  ·intro h3
   have h3:=yQ h3
   unfold Ch;rw [kA h,kA h3])
 exact ⟨x,y,h,h1,h2⟩
theorem Yr1 (H:HasQ PG) {a b:List Zf} (hl:a.length<=9223372036854775807) (hw :∀p∈a,Wf p.value):Ze PG 170 [.sl .ext (a.map Zf.row),.sl .ext (b.map Zf.row)] (.b (Lc a b)):=by
 obtain ⟨x,rfl,h⟩:=Yx8 H.f170 (a0:=a) (b1:=b) (K:=fun x=>x=Lc a b) (by
  have no :∀{p:Prop},(a=b->p)->¬p->false=Lc a b:=fun h1 h2=>(Ym7.2 fun h=>h2 (h1 h)).symm
  unfold Zld
  refine ⟨fun h=>no (fun e=>by rw [e]) h,fun h P hP=>?_⟩
  have h5:a.length=b.length:=by omega
  refine Fk (P:=P) a.length (fun i=>a.take i=b.take i) (by simp) (fun hI=>hP _ ?_) (fun i hi hI ihP=>hP _ ?_)
  ·unfold Zf6 Zii
   refine ⟨fun h=>absurd h (by omega),fun _=>?_⟩
   rw [jG,h5,jG] at hI
   exact (Zf8.2 hI).symm
  ·have hi2:i<b.length:=by omega
   unfold Zf6
   refine ⟨fun _=>⟨by omega,_,Wj hi,by omega,_,Wj hi2,_,Yzg H.toHasP (hw _ (kP hi)),fun h7=>no (p:=a[i]=b[i]) (fun e=>by subst e;rfl) (fun e=>by rw [Ya6.2 e] at h7;cases h7),fun h7=>?_⟩,fun h=>absurd (show (i:Int)<a.length by omega) h⟩
   rw [Ws (by omega) (by omega)]
   refine ihP ?_
   have e:a[i]=b[i]:=Ya6.1 (by simpa using h7)
   rw [kK hi,kK hi2,hI,e])
 exact h
theorem Ypf (H:HasT PG) (hf:PG.fn 314=some Pn) {a b:Zl} (ha:Zq7 a):Ze PG 314 [a.av,b.av] (.b (Lw a b)):=by
 obtain ⟨x,rfl,h⟩:=Xd6 hf (a0:=a) (b1:=b) (K:=fun x=>x=Lw a b) (by
  have no :∀{p:Prop},(a=b->p)->¬p->false=Lw a b:=fun h1 h2=>(Ycp.2 fun h=>h2 (h1 h)).symm
  have hfl:=ha.fl;have hdl:=ha.dl
  unfold Zqe Znj
  refine ⟨fun h=>no (fun e=>by rw [e]) h,fun e1=>⟨fun h=>no (fun e=>by rw [e]) h,fun e2=>⟨fun h=>no (fun e=>by rw [e]) h,fun e3=>⟨fun h=>no (fun e=>by rw [e]) h,fun e4=>⟨_,Yr1 H.toHasQ ha.pl fun p hp=>(ha.p p hp).v,fun h=>no (p:=a.panics=b.panics) (fun e=>by rw [e]) (fun e=>by rw [Zf8.2 e] at h;cases h),fun e5=>?_⟩⟩⟩⟩⟩
  have e5:a.panics=b.panics:=Zf8.1 (by simpa using e5)
  unfold Zk4
  intro P hP
  refine Fk (P:=P) a.frames.length (fun i=>a.frames.take i=b.frames.take i) (by simp) (fun hI=>hP _ ?_) (fun i hi hI ihP=>hP _ ?_)
  ·unfold Zc2 Zmm
   refine ⟨fun h=>absurd h (by omega),fun _ P hP=>?_⟩
   have e3':a.frames.length=b.frames.length:=by omega
   rw [jG,e3',jG] at hI
   refine Fk (P:=P) a.defers.length (fun i=>a.defers.take i=b.defers.take i) (by simp) (fun hJ=>hP _ ?_) (fun i hi hJ ihP=>hP _ ?_)
   ·unfold Zfr Zkw
    refine ⟨fun h=>absurd h (by omega),fun _=>?_⟩
    have e4':a.defers.length=b.defers.length:=by omega
    rw [jG,e4',jG] at hJ
    refine (Zlo.2 ?_).symm
    have e1:=kW.1 e1
    have e2:=kW.1 e2
    cases a;cases b
    simp only at e1 e2 e5 hI hJ
    rw [e1,e2,e5,hI,hJ]
   ·have hi2:i<b.defers.length:=by omega
    unfold Zfr
    refine ⟨fun _=>⟨by omega,_,Wj hi,by omega,_,Wj hi2,fun h=>no (p:=a.defers[i].frame=b.defers[i].frame) (fun e=>by subst e;rfl) h,fun h1=>⟨fun h=>no (p:=a.defers[i].func=b.defers[i].func) (fun e=>by subst e;rfl) h,fun h2=>⟨fun h=>no (p:=a.defers[i].hasArg=b.defers[i].hasArg) (fun e=>by subst e;rfl) h,fun h3=>⟨_,c78 H.toHas38 (ha.d _ (kP hi)) _,fun h=>no (p:=a.defers[i].arg=b.defers[i].arg) (fun e=>by subst e;rfl) (Zey.1 (by simpa using h)),fun h4=>?_⟩⟩⟩⟩,fun h=>absurd (show (i:Int)<a.defers.length by omega) h⟩
    rw [Ws (by omega) (by omega)]
    refine ihP ?_
    have e:a.defers[i]=b.defers[i]:=by
     have h1:=kW.1 h1
     have h2:=kW.1 h2
     have h3:=kW.1 h3
     have h4:=Fo.1 (show Sv _ _=true by simpa using h4)
     revert h1 h2 h3 h4
     generalize a.defers[i]=x
     generalize b.defers[i]=y
     intro h1 h2 h3 h4
     cases x;cases y
     simp only at h1 h2 h3 h4
     rw [h1,h2,h3,h4]
    rw [kK hi,kK hi2,hJ,e]
  ·have hi2:i<b.frames.length:=by omega
   unfold Zc2
   refine ⟨fun _=>⟨by omega,_,Wj hi,by omega,_,Wj hi2,_,c88 H.toHasF (ha.f _ (kP hi)),fun h=>no (p:=a.frames[i]=b.frames[i]) (fun e=>by subst e;rfl) (Zyx.1 (by simpa using h)),fun h=>?_⟩,fun h=>absurd (show (i:Int)<a.frames.length by omega) h⟩
   rw [Ws (by omega) (by omega)]
   refine ihP ?_
   have e:a.frames[i]=b.frames[i]:=Ycl.1 (by simpa using h)
   rw [kK hi,kK hi2,hI,e])
 exact h
theorem Zxk (H:HasT PG) (hf:PG.fn 314=some Pn) (hf2:PG.fn 302=some Oo) {a b:Zw} (ha:Zd3 a):Ze PG 302 [a.av,b.av] (.b (Ld a b)):=by
 obtain ⟨x,rfl,h⟩:=Xg3 hf2 (a0:=a) (b1:=b) (K:=fun x=>x=Ld a b) (by
  have no :∀{p:Prop},(a=b->p)->¬p->false=Ld a b:=fun h1 h2=>(Xb6.2 fun h=>h2 (h1 h)).symm
  have hl:=ha.n
  unfold Zmp
  refine ⟨fun h=>no (fun e=>by rw [e]) h,fun e1=>⟨fun h=>no (fun e=>by rw [e]) h,fun e2=>⟨fun h=>no (fun e=>by rw [e]) h,fun e3=>⟨fun h=>no (fun e=>by rw [e]) h,fun e4=>?_⟩⟩⟩⟩
  unfold Zis
  intro P hP
  refine Fk (P:=fun i=>P i a b) a.routines.length (fun i=>a.routines.take i=b.routines.take i) (by simp) (fun hI=>hP _ _ _ ?_) (fun i hi hI ihP=>hP _ _ _ ?_)
  ·unfold Zgk Zkj
   refine ⟨fun h=>absurd h (by omega),fun _=>?_⟩
   have e4':a.routines.length=b.routines.length:=by omega
   rw [jG,e4',jG] at hI
   refine (Zeb.2 ?_).symm
   have e1:=kW.1 e1
   have e2:=kW.1 e2
   have e3:=kW.1 e3
   cases a;cases b
   simp only at e1 e2 e3 hI
   rw [e1,e2,e3,hI]
  ·have hi2:i<b.routines.length:=by omega
   unfold Zgk
   refine ⟨fun _=>⟨by omega,_,Wj hi,by omega,_,Wj hi2,_,Ypf H hf (ha.r _ (kP hi)),fun h=>no (p:=a.routines[i]=b.routines[i]) (fun e=>by subst e;rfl) (Ycp.1 (by simpa using h)),fun h=>?_⟩,fun h=>absurd (show (i:Int)<a.routines.length by omega) h⟩
   rw [Ws (by omega) (by omega)]
   refine ihP ?_
   have e:a.routines[i]=b.routines[i]:=Zlo.1 (by simpa using h)
   rw [kK hi,kK hi2,hI,e])
 exact h
end
end Go.AM

namespace Go.AM
open Go
attribute [local irreducible] WO Xq We
set_option maxRecDepth 4000
def Jo (p:Zc):List Zc->Zc × Bool × List Zc
 | []=>([],false,[])
 | x::r=>if (Zn p x).2=true then (x,true,r) else ([],false,x::r)
def Ni (PG:Zb):Prop:=∀(p:Zc) (d:Nat) (st:St) (k:Zo) (v:Nat) (l:List Zc),k.1<d->lk st.bx k=some (v,[.sl .ext (l.map Zt)])->
 ∃st',Fn PG d 305 [.s p,.p k v 0] st (.tup [.s (Jo p l).1,.b (Jo p l).2.1]) st'/\st'.ow=st.ow/\lk st'.bx k=some (v,[.sl .ext ((Jo p l).2.2.map Zt)])/\∀k':Zo,k'.1<d->k'≠k->lk st'.bx k'=lk st.bx k'
theorem Pa {bx:Xu} {d:Nat} {k:Zo} (hk:k.1<d):lk (bx.filter fun x=>x.1.1<d) k=lk bx k:=Ad hk
theorem Zwt {PG:Zb} (H:HasD PG) (hf:PG.fn 305=some Za3):Ni PG:=by
 intro p d st k v l hk hb
 have main:=Fn.of' (PG:=PG) (d:=d) (args:=[.s p,.p k v 0]) (st:=st) (K:=fun r st'=>r=.tup [.s (Jo p l).1,.b (Jo p l).2.1]/\st'.ow=st.ow/\lk st'.bx k=some (v,[.sl .ext ((Jo p l).2.2.map Zt)])/\∀k':Zo,k'.1<d->k'≠k->lk st'.bx k'=lk st.bx k') hf (kX rfl) ?_
 ·obtain ⟨r,st',h1,rfl,h2⟩:=main
  exact ⟨st',h1,h2⟩
 -- nothing left of that kind: the result is ("",false)
 have no :∀{σ:Sl} {nx:Nat},Jo p l=([],false,l)->W PG d (.seq (.reg 2 Yen) .ret) σ ⟨nx,st.bx,st.ow⟩ (Zv PG d Yam (Sb d Za3.res fun r st'=>r=.tup [.s (Jo p l).1,.b (Jo p l).2.1]/\st'.ow=st.ow/\lk st'.bx k=some (v,[.sl .ext ((Jo p l).2.2.map Zt)])/\∀k':Zo,k'.1<d->k'≠k->lk st'.bx k'=lk st.bx k')):=by
  intro σ nx hn
  rw [hn]
  refine q_ rfl (m_ (m_ (e_ (Rc ⟨_,rfl,rfl,rfl,?_,fun k' h1 h2=>?_⟩))))
  ·exact (Pa hk).trans hb
  ·exact Pa h1
 show W PG d Yey (Wc [.s p,.p k v 0]) st _
 refine q_ rfl (m_ (m_ (e_ (Zp (q_ rfl (l_ rfl hb rfl rfl ?_))))))
 cases l with
 | nil=>
  refine Wk (l:=([]:List Zc)) (f:=Zt) rfl (Sk (a:=.i .i64 0) (b:=.i .i64 0) (v:=.b true) rfl rfl rfl (m_ ?_))
  refine Gp (b:=true) rfl rfl (Gp (b:=true) rfl rfl (Gp (b:=true) rfl rfl (Gp (b:=true) rfl rfl (Gp (b:=true) rfl rfl (Gp (b:=true) rfl rfl ?_)))))
  exact Mt rfl rfl (e_ (Xj rfl (no rfl)))
 | cons x r=>
  have hne:decide (((x::r).length:Int)=0)=false:=by simp;omega
  refine Wk (l:=x::r) (f:=Zt) rfl (Sk (a:=.i .i64 ((x::r).length:Int)) (b:=.i .i64 0) (v:=.b false) rfl rfl (by rw [Yc9,hne]) (m_ ?_))
  refine Zd rfl (l_ rfl hb rfl rfl (Zd rfl (Vx (l:=x::r) (f:=Zt) rfl rfl (by decide) rfl rfl rfl (Zd rfl (Vd rfl rfl rfl (Zd rfl (m_ ?_)))))))
  refine Zd rfl (Ya (sc rfl rfl (sc rfl rfl sn)) (Yv5 H x p) (Zd rfl (Wo rfl (Jp rfl rfl (e_ ?_)))))
  by_cases hc:(Zn p x).2=true
  ·have hn:Jo p (x::r)=(x,true,r):=by simp only [Jo,kD hc]
   rw [hn]
   refine Di (show AV.b (!(Zn p x).2)=_ by rw [hc];rfl) (Yg ?_)
   refine q_ rfl (l_ rfl hb rfl rfl (Vx (l:=x::r) (f:=Zt) rfl rfl (by decide) rfl rfl rfl (Vd rfl rfl rfl (m_ (e_ ?_)))))
   refine q_ rfl (l_ rfl hb rfl rfl (Zx9 (l:=x::r) (f:=Zt) Td rfl rfl (by decide) (by simp) (Yc rfl hb rfl rfl rfl (e_ ?_))))
   refine q_ rfl (m_ (m_ (m_ (e_ (Rc ⟨_,rfl,rfl,rfl,?_,fun k' h1 h2=>?_⟩)))))
   ·exact (Pa hk).trans Zj
   ·exact (Pa h1).trans (Gu (fun e=>h2 e.symm))
  ·have hn:Jo p (x::r)=([],false,x::r):=by simp only [Jo,kA hc]
   have hc:(Zn p x).2=false:=by simpa using hc
   exact Xj (show AV.b (!(Zn p x).2)=_ by rw [hc];rfl) (no hn)
end Go.AM

namespace Go.AM
open Go
attribute [local irreducible] WO Xq We
set_option maxRecDepth 4000
set_option maxHeartbeats 1000000
def Jq (d:Nat) (kl kx:Zo) (bx:Xu) (ow:Xt) (bx':Xu) (ow':Xt):Prop:=
 (∀k':Zo,k'.1<d->k'≠kl->k'≠kx->lk bx' k'=lk bx k')/\(∀k':Zo,k'.1<d->lk ow' k'=lk ow k')
theorem Jq.app {S:List Nat} {d n site:Nat} {kl kx:Zo} {bx bx':Xu} {ow ow1 ow2:Xt} {o:Zm} (h:Jq d kl kx bx ow bx' ow1) (ha:Ql S d ow1 o n) (hw :∀k',some k'≠Kp o->k'≠(d,site)->lk ow2 k'=lk ow1 k'):Jq d kl kx bx ow bx' ow2:=by
 refine ⟨h.1,fun k' h1=>(hw k' ?_ ?_).trans (h.2 k' h1)⟩
 ·intro e
  cases o with
  | ext=>cases e
  | full=>cases e
  | id k v=>
   injection e with e
   subst e
   have:=(ha.2 _ _ rfl).1
   omega
 ·rintro rfl
  exact zG _ h1
theorem Jq.here {d:Nat} {kl kx:Zo} {bx bx':Xu} {ow ow':Xt} {s:Nat} {a:Nat × List AV} (h:Jq d kl kx bx ow bx' ow'):Jq d kl kx bx ow (Yx bx' (d,s) a) ow':=
 ⟨fun k' h1 h2 h3=>(Gu (by rintro rfl;exact zG _ h1)).trans (h.1 k' h1 h2 h3),h.2⟩
theorem Jq.setX {d:Nat} {kl kx:Zo} {bx bx':Xu} {ow ow':Xt} {a:Nat × List AV} (h:Jq d kl kx bx ow bx' ow'):Jq d kl kx bx ow (Yx bx' kx a) ow':=
 ⟨fun k' h1 h2 h3=>(Gu (fun e=>h3 e.symm)).trans (h.1 k' h1 h2 h3),h.2⟩
theorem Jq.next {d:Nat} {kl kx:Zo} {bx bx' bx2:Xu} {ow ow':Xt} (h:Jq d kl kx bx ow bx' ow') (c :∀k':Zo,k'.1<d+1->k'≠kl->lk bx2 k'=lk bx' k'):Jq d kl kx bx ow bx2 ow':=
 ⟨fun k' h1 h2 h3=>(c k' (kQ h1) h2).trans (h.1 k' h1 h2 h3),h.2⟩
section
variable {PG:Zb} {d id base i:Nat} {σ:Sl} {st:St} {K:Sl->St->Prop} {r:List AI} {t:Option Nat} {x y:Zq}
theorem Nd {args:List Zq} {p:Zc} {k:Zo} {v:Nat} {l:List Zc} (hL:Ni PG) (hx:x.ev σ=.fn 305 [.p k v 0]) (hs:Va σ args=[.s p]) (hk:k.1<d+1) (hb:lk st.bx k=some (v,[.sl .ext (l.map Zt)]))
  (h :∀(nx':Nat) (bx':Xu),lk bx' k=some (v,[.sl .ext ((Jo p l).2.2.map Zt)])->(∀k':Zo,k'.1<d+1->k'≠k->lk bx' k'=lk st.bx k')->WO PG d id base (i+1) r (Zu σ t (.tup [.s (Jo p l).1,.b (Jo p l).2.1])) ⟨nx',bx',st.ow⟩ K):WO PG d id base i (⟨t,.callv x args,none⟩::r) σ st K:=by
 refine Uo ?_
 obtain ⟨⟨nx',bx',ow'⟩,h1,h2,h3,h4⟩:=hL p (d+1) st k v l hk hb
 simp only at h2 h3 h4
 subst h2
 show Ed (x.ev σ) (Va σ args) (fun g l=>WF PG (d+1) g l st _)
 rw [hx,hs]
 exact ⟨_,_,h1,h nx' bx' h3 h4⟩
end
abbrev xc (s k:Int) (o1 o2 o3:Zm) (fs:List Zg) (ds:List Zi) (ps:List Zf):List AV:=[.i .u8 s,.i .i64 k,.sl o1 (fs.map Zg.row),.sl o2 (ds.map Zi.row),.sl o3 (ps.map Zf.row)]
structure MB (d:Nat) (kl:Zo) (vl:Nat) (kx:Zo) (vx v0:Nat) (m:Zh) (s k:Int) (bx0:Xu) (ow0:Xt) (bx:Xu) (ow:Xt) (l:List Zc) (o1 o2 o3:Zm) (fs:List Zg) (ds:List Zi) (ps:List Zf):Prop where
 b0:lk bx (d,0)=some (v0,[.sl .ext (List.map Wx.row m.types),.sl .ext (List.map Zt m.texts),.sl .ext (List.map Ye.row m.funcs)])
 bl:lk bx kl=some (vl,[.sl .ext (l.map Zt)])
 bX:lk bx kx=some (vx,xc s k o1 o2 o3 fs ds ps)
 fr:Jq d kl kx bx0 ow0 bx ow
section
variable {PG:Zb} {d:Nat} {kl:Zo} {vl:Nat} {kx:Zo} {vx v0:Nat} {m:Zh} {s k:Int} {bx0:Xu} {ow0:Xt} {bx:Xu} {ow:Xt} {l:List Zc} {o1 o2 o3:Zm} {fs:List Zg} {ds:List Zi} {ps:List Zf}
theorem MB.next {bx':Xu} {l':List Zc} (h:MB d kl vl kx vx v0 m s k bx0 ow0 bx ow l o1 o2 o3 fs ds ps) (hn:kl≠kx) (hl:kl.1<d) (hx:kx.1<d) (h1:lk bx' kl=some (vl,[.sl .ext (l'.map Zt)])) (h2 :∀k':Zo,k'.1<d+1->k'≠kl->lk bx' k'=lk bx k'):MB d kl vl kx vx v0 m s k bx0 ow0 bx' ow l' o1 o2 o3 fs ds ps:=
 ⟨(h2 (d,0) (kC d) (by rintro rfl;exact zG _ hl)).trans h.b0,h1,(h2 kx (by omega) (fun e=>hn e.symm)).trans h.bX,h.fr.next h2⟩
theorem MB.here {site:Nat} {a:Nat × List AV} (h:MB d kl vl kx vx v0 m s k bx0 ow0 bx ow l o1 o2 o3 fs ds ps) (hl:kl.1<d) (hx:kx.1<d) (hs:Nat.beq site 0=false):MB d kl vl kx vx v0 m s k bx0 ow0 (Yx bx (d,site) a) ow l o1 o2 o3 fs ds ps:=
 ⟨Zs hs h.b0,(Gu (by rintro rfl;exact zG _ hl)).trans h.bl,(Gu (by rintro rfl;exact zG _ hx)).trans h.bX,h.fr.here⟩
theorem MB.setX {o1' o2' o3':Zm} {fs':List Zg} {ds':List Zi} {ps':List Zf} (h:MB d kl vl kx vx v0 m s k bx0 ow0 bx ow l o1 o2 o3 fs ds ps) (hn:kl≠kx) (hx:kx.1<d):MB d kl vl kx vx v0 m s k bx0 ow0 (Yx bx kx (vx,xc s k o1' o2' o3' fs' ds' ps')) ow l o1' o2' o3' fs' ds' ps':=
 ⟨(Gu (by rintro rfl;exact zG _ hx)).trans h.b0,(Gu (fun e=>hn e.symm)).trans h.bl,Zj,h.fr.setX⟩
theorem MB.app {S:List Nat} {n site:Nat} {ow2:Xt} {o:Zm} (h:MB d kl vl kx vx v0 m s k bx0 ow0 bx ow l o1 o2 o3 fs ds ps) (ha:Ql S d ow o n) (hw :∀k',some k'≠Kp o->k'≠(d,site)->lk ow2 k'=lk ow k'):MB d kl vl kx vx v0 m s k bx0 ow0 bx ow2 l o1 o2 o3 fs ds ps:=
 ⟨h.b0,h.bl,h.bX,h.fr.app ha hw⟩
end
abbrev S9:List Nat:=[24580]
abbrev SF:List Nat:=[40967]
abbrev SD:List Nat:=[65543]
abbrev SP:List Nat:=[94215]
theorem Ag {p x:Zc} {r:List Zc} (h:(Zn p x).2=true):Jo p (x::r)=(x,true,r):=by simp only [Jo,kD h]
theorem Sq {p:Zc} {l:List Zc} (h :∀x r,l=x::r->(Zn p x).2=false):Jo p l=([],false,l):=by
 cases l with
 | nil=>rfl
 | cons x r=>simp only [Jo,kA (show ¬ (Zn p x).2=true by rw [h x r rfl];exact yH)]
theorem Zeh {p x:Zc} (h:(Zn p x).2=true):p.length<=x.length:=by
 unfold Zn at h
 split at h
 ·rename_i e
  have:=jD List.length e
  simp only [jI] at this
  omega
 ·cases h
section
variable {PG:Zb} {d:Nat} {kl:Zo} {vl:Nat} {kx:Zo} {vx v0:Nat} {m:Zh} {s k:Int} {bx0:Xu} {ow0:Xt}
theorem Ynr (hL:Ni PG) (hn:kl≠kx) (hl:kl.1<d) (hx:kx.1<d) {Q:AE->Sl->St->Prop} {fs:List Zg} {o1:Zm} :∀(r acc:List Zc) (σ:Sl) (nx:Nat) (bx:Xu) (ow:Xt) (o9:Zm),acc.length+r.length<=1000000->
  σ 1=.p kx vx 0->σ 2=.fn 305 [.p kl vl 0]->σ 3=.p (d,0) v0 0->σ 9=.sl o9 (acc.map Zt)->MB d kl vl kx vx v0 m s k bx0 ow0 bx ow r o1 .full .full fs [] []->Ql SF d ow o1 fs.length->Ql S9 d ow o9 acc.length->
  (∀(σ:Sl) (nx:Nat) (bx:Xu) (ow:Xt) (o9:Zm),σ 1=.p kx vx 0->σ 2=.fn 305 [.p kl vl 0]->σ 3=.p (d,0) v0 0->σ 9=.sl o9 ((acc++(Jv r).1).map Zt)->MB d kl vl kx vx v0 m s k bx0 ow0 bx ow (Jv r).2 o1 .full .full fs [] []->Ql SF d ow o1 fs.length->Q .normal σ ⟨nx,bx,ow⟩)->
  W PG d (.loop Zvm) σ ⟨nx,bx,ow⟩ (Yd 2 Q):=by
 intro r
 induction r with
 | nil=>
  intro acc σ nx bx ow o9 hlen h1 h2 h3 h9 hB hF hA hK
  refine W.loop (Yn (q_ rfl (m_ (Nd (p:=t4) (l:=[]) hL h2 rfl (by omega) hB.bl fun nx' bx' hb1 hb2=>?_))))
  rw [Sq (p:=t4) (l:=[]) (fun _ _ e=>by cases e)] at hb1 ⊢
  refine m_ (x_ rfl rfl (x_ rfl rfl (m_ (m_ (e_ ?_)))))
  refine Zp (q_ rfl (m_ (Wo (a:=false) rfl (e_ (Xj rfl (Jm ?_))))))
  refine hK _ _ _ _ o9 h1 h2 h3 ?_ (hB.next hn hl hx hb1 hb2) hF
  show σ 9=_
  rw [h9];simp [Jv]
 | cons x r ih=>
  intro acc σ nx bx ow o9 hlen h1 h2 h3 h9 hB hF hA hK
  refine W.loop (Yn (q_ rfl (m_ (Nd (p:=t4) (l:=x::r) hL h2 rfl (by omega) hB.bl fun nx' bx' hb1 hb2=>?_))))
  by_cases hc:(Zn t4 x).2=true
  ·rw [Ag hc] at hb1 ⊢
   have h4:=Zeh hc
   have h4:4<=x.length:=h4
   have hB:=hB.next hn hl hx hb1 hb2
   simp only [kB] at hlen
   refine m_ (x_ rfl rfl (x_ rfl rfl (m_ (m_ (e_ ?_)))))
   refine Zp (q_ rfl (m_ (Wo (a:=true) rfl (e_ (Di rfl (Yg ?_))))))
   refine W.reg0 rfl fun nx2 hnx=>?_
   refine Yf h9 (Hw (l:=x) rfl (Ho (l:=x) (n:=2) rfl rfl (by decide) (by simp;omega) ?_))
   refine Xv (f:=Zt) (l:=[x.drop 2]) rfl rfl (Yo rfl rfl rfl Xp) rfl ?_
   refine Qt (f:=Zt) (l:=acc) (m:=[x.drop 2]) Td rfl rfl rfl hA.1 ⟨?_,?_⟩ rfl fun o' ow' a1 a2 a3=>?_
   ·simp only [kB,kG,Wq];omega
   ·simp only [kB,kG,Wq];omega
   refine m_ (e_ ?_)
   refine ih (acc++[x.drop 2]) _ _ _ _ o' (by simp only [kF,kB,kG];omega) h1 h2 h3 rfl (hB.app hA a2) (hF.keep hA a2 rfl rfl) (hA.new a1 a3 rfl) ?_
   intro σ nx bx ow o9 g1 g2 g3 g9 gB gF
   refine hK σ nx bx ow o9 g1 g2 g3 ?_ ?_ gF
   ·rw [g9];simp [Jv,hc]
   ·have:(Jv (x::r)).2=(Jv r).2:=by simp [Jv,hc]
    rw [this];exact gB
  ·have hc:(Zn t4 x).2=false:=by simpa using hc
   rw [Sq (p:=t4) (l:=x::r) (fun _ _ e=>by injection e with e1 e2;rw [<- e1];exact hc)] at hb1 ⊢
   refine m_ (x_ rfl rfl (x_ rfl rfl (m_ (m_ (e_ ?_)))))
   refine Zp (q_ rfl (m_ (Wo (a:=false) rfl (e_ (Xj rfl (Jm ?_))))))
   have e1:Jv (x::r)=([],x::r):=by simp [Jv,hc]
   rw [e1] at hK
   refine hK _ _ _ _ o9 h1 h2 h3 ?_ (hB.next hn hl hx hb1 hb2) hF
   show σ 9=_
   rw [h9];simp
theorem Zgh :∀r:List Zc,(Jv r).1.length<=r.length/\(Jv r).2.length<=r.length/\∀x∈(Jv r).2,x∈r
 | []=>⟨kU _,kU _,fun x h=>h⟩
 | x::r=>by
  have ih:=Zgh r
  unfold Jv
  split
  ·exact ⟨by simpa using ih.1,Nat.le_succ_of_le ih.2.1,fun y h=>jL _ (ih.2.2 y h)⟩
  ·exact ⟨yN _,kU _,fun y h=>h⟩
theorem Zln {k:Zo} {x:AV} (h:Nat.blt k.2 Xs=true):Mp k x=true:=by unfold Mp;rw [h];rfl
theorem Ytl (H:HasD PG) (hL:Ni PG) (hm:Ww m) (hn:kl≠kx) (hl:kl.1<d) (hx:kx.1<d) (hkx:Nat.blt kx.2 Xs=true) {Q:AE->Sl->St->Prop} :∀(n:Nat) (l:List Zc) (fs:List Zg) (σ:Sl) (nx:Nat) (bx:Xu) (ow:Xt) (o1:Zm),l.length<n->fs.length+l.length<=500000->
  σ 1=.p kx vx 0->σ 2=.fn 305 [.p kl vl 0]->σ 3=.p (d,0) v0 0->MB d kl vl kx vx v0 m s k bx0 ow0 bx ow l o1 .full .full fs [] []->Ql SF d ow o1 fs.length->
  (∀(σ:Sl) (nx:Nat) (bx:Xu) (ow:Xt),Qm m n l=none->σ 6=.b false->Jq d kl kx bx0 ow0 bx ow->Q .ret σ ⟨nx,bx,ow⟩)->
  (∀(σ:Sl) (nx:Nat) (bx:Xu) (ow:Xt) (o1:Zm) (z:List Zg × List Zc),Qm m n l=some z->σ 1=.p kx vx 0->σ 2=.fn 305 [.p kl vl 0]->σ 3=.p (d,0) v0 0->MB d kl vl kx vx v0 m s k bx0 ow0 bx ow z.2 o1 .full .full (fs++z.1) [] []->Q .normal σ ⟨nx,bx,ow⟩)->
  W PG d (.loop Yb7) σ ⟨nx,bx,ow⟩ (Yd 0 Q):=by
 intro n
 induction n with
 | zero=>intro l fs σ nx bx ow o1 h;omega
 | succ n ih=>
 intro l fs σ nx bx ow o1 hlen hsz h1 h2 h3 hB hA hF hK
 refine W.loop (Yn (q_ rfl (m_ (Nd (p:=Nb) (l:=l) hL h2 rfl (by omega) hB.bl fun nx' bx' hb1 hb2=>?_))))
 by_cases hno :∀x r,l=x::r->(Zn Nb x).2=false
 ·rw [Sq hno] at hb1 ⊢
  have hB:=hB.next hn hl hx hb1 hb2
  refine m_ (x_ rfl rfl (x_ rfl rfl (m_ (m_ (e_ ?_)))))
  refine Zp (q_ rfl (m_ (Wo (a:=false) rfl (e_ (Xj rfl (Jm ?_))))))
  refine hK _ _ _ _ o1 ([],l) ?_ h1 h2 h3 ?_
  ·cases l with
   | nil=>rfl
   | cons x r=>simp only [Qm,kA (show ¬ (Zn Nb x).2=true by rw [hno x r rfl];exact yH)]
  ·simpa using hB
 cases l with
 | nil=>exact absurd (fun _ _ e=>by cases e) hno
 | cons x r=>
 have hc:(Zn Nb x).2=true:=by
  by_cases h:(Zn Nb x).2=true
  ·exact h
  ·exact absurd (fun y s e=>by injection e with e1 e2;rw [<- e1];simpa using h) hno
 rw [Ag hc] at hb1 ⊢
 have h4:3<=x.length:=Zeh hc
 have hB:=hB.next hn hl hx hb1 hb2
 simp only [kB] at hlen hsz
 have hs:=Zgh r
 refine m_ (x_ rfl rfl (x_ rfl rfl (m_ (m_ (e_ ?_)))))
 refine Zp (q_ rfl (m_ (Wo (a:=true) rfl (e_ (Di rfl (Yg ?_))))))
 refine q_ rfl (Hw (l:=x) rfl (Ho (l:=x) (n:=2) rfl rfl (by decide) (by simp;omega) (Xv (f:=Zt) (l:=[x.drop 2]) rfl rfl (Yo rfl rfl rfl Xp) rfl (m_ (e_ ?_)))))
 refine Zp (Yn (Ynr (v0:=v0) (m:=m) (s:=s) (k:=k) (bx0:=bx0) (ow0:=ow0) (fs:=fs) (o1:=o1) hL hn hl hx r [x.drop 2] _ _ _ _ .full (by simp only [kB,kG];omega) h1 h2 h3 rfl hB hA Ql.full ?_))
 intro σ nx bx ow o9 h1 h2 h3 h9 hB hA
 show W PG d Zum σ _ _
 generalize hls:([x.drop 2]++(Jv r).1)=ls at h9
 have hls':x.drop 2::(Jv r).1=ls:=hls
 have hll:ls.length<=1000000:=by rw [<- hls];simp only [kF,kB,kG];omega
 have hcall:=c84 H.toHasG hm (l:=ls) (by omega)
 have hfr:Qm m (n+1) (x::r)=if (Kq m ls).2.2=0 then (Qm m n (Jv r).2).map fun z=>((Kq m ls).2.1::z.1,z.2) else none:=by
  conv=>lhs;unfold Qm
  rw [kD hc,hls']
 rw [hfr] at hF hK
 generalize hrf:Kq m ls=R at hcall hF hK
 obtain ⟨ra,F,re⟩:=R
 simp only at hcall hF hK
 refine Zp (W.reg ?_)
 change WO PG d 7 nx 0 Zqd σ ⟨nx+Zqd.length,Yx bx (d,28679) (nx+7,[.i .i64 0,.i .i64 0,.i .u64 0,.sl .full []]),ow⟩ _
 have hB:=hB.here (site:=28679) (a:=(nx+7,[.i .i64 0,.i .i64 0,.i .u64 0,.sl .full []])) hl hx rfl
 refine l_ (w:=m.av) h3 hB.b0 rfl rfl (Yf (f:=Zt) (l:=ls) (o:=o9) h9 (Ya (sc rfl rfl (sc rfl rfl sn)) hcall ?_))
 refine m_ (x_ rfl rfl (x_ rfl rfl (x_ rfl rfl (Xo (m_ (Yc (w:=F.av) (cs':=F.row) rfl Zj rfl rfl rfl (m_ (e_ ?_))))))))
 have hB:=hB.here (site:=28679) (a:=(nx+7,F.row)) hl hx rfl
 refine Zp (q_ rfl (m_ (b_ (a:=.i .i64 re) (b:=.i .i64 0) rfl rfl Jc (e_ (Yk rfl (fun he=>?_) (fun he=>Yg ?_))))))
 ·refine q_ rfl (m_ (e_ (Rc ?_)))
  exact hF _ _ _ _ (by rw [kA he]) rfl hB.fr
 have he:=kW.1 he
 rw [kD he] at hF hK
 refine W.reg0 rfl fun nx2 hnx2=>?_
 refine m_ (m_ (Wg h1 (f_ rfl (l_ (w:=.sl o1 (fs.map Zg.row)) rfl hB.bX rfl rfl ?_))))
 refine l_ (w:=F.av) (k:=(d,28679)) (v:=nx+7) (cs:=F.row) (o:=0) rfl Zj rfl rfl ?_
 refine Xv (f:=Zg.row) (l:=[F]) rfl rfl (Yo (v:=F.av) (cs:=F.row) rfl rfl rfl Xp) rfl ?_
 refine Qt (f:=Zg.row) (l:=fs) (m:=[F]) Zg.row_len rfl rfl rfl hA.1 ⟨?_,?_⟩ rfl fun o' ow' a1 a2 a3=>?_
 ·simp only [kB,kG,Wq];omega
 ·simp only [kB,kG,Wq];omega
 have hB:=hB.app hA a2
 refine Wg (k:=kx) (v:=vx) (o:=0) h1 (f_ rfl (Yc (k:=kx) (v:=vx) (cs':=xc s k o' .full .full (fs++[F]) [] []) rfl hB.bX rfl rfl rfl (e_ ?_) (Zln hkx)))
 refine ih (Jv r).2 (fs++[F]) _ _ _ _ o' (by omega) (by simp only [kF,kB,kG];omega) h1 h2 h3 (hB.setX hn hx) (hA.new a1 a3 rfl) ?_ ?_
 ·intro σ nx bx ow e g6 gF
  exact hF σ nx bx ow (by rw [e];rfl) g6 gF
 ·intro σ nx bx ow o1 z e g1 g2 g3 gB
  refine hK σ nx bx ow o1 (F::z.1,z.2) (by rw [e];rfl) g1 g2 g3 ?_
  simpa using gB
theorem Yxg (H:HasD PG) (hL:Ni PG) (hm:Ww m) (hn:kl≠kx) (hl:kl.1<d) (hx:kx.1<d) (hkx:Nat.blt kx.2 Xs=true) {Q:AE->Sl->St->Prop} {o1:Zm} {fs:List Zg} :∀(l:List Zc) (ds:List Zi) (σ:Sl) (nx:Nat) (bx:Xu) (ow:Xt) (o2:Zm),ds.length+l.length<=500000->(∀y∈l,y.length<=1000000)->
  σ 1=.p kx vx 0->σ 2=.fn 305 [.p kl vl 0]->σ 3=.p (d,0) v0 0->MB d kl vl kx vx v0 m s k bx0 ow0 bx ow l o1 o2 .full fs ds []->Ql SD d ow o2 ds.length->
  (∀(σ:Sl) (nx:Nat) (bx:Xu) (ow:Xt),Un m l=none->σ 6=.b false->Jq d kl kx bx0 ow0 bx ow->Q .ret σ ⟨nx,bx,ow⟩)->
  (∀(σ:Sl) (nx:Nat) (bx:Xu) (ow:Xt) (o2:Zm) (z:List Zi × List Zc),Un m l=some z->σ 1=.p kx vx 0->σ 2=.fn 305 [.p kl vl 0]->MB d kl vl kx vx v0 m s k bx0 ow0 bx ow z.2 o1 o2 .full fs (ds++z.1) []->Q .normal σ ⟨nx,bx,ow⟩)->
  W PG d (.loop Zyv) σ ⟨nx,bx,ow⟩ (Yd 4 Q):=by
 intro l
 induction l with
 | nil=>
  intro ds σ nx bx ow o2 hsz hmx h1 h2 h3 hB hA hF hK
  refine W.loop (Yn (q_ rfl (m_ (Nd (p:=Nm) (l:=[]) hL h2 rfl (by omega) hB.bl fun nx' bx' hb1 hb2=>?_))))
  rw [Sq (p:=Nm) (l:=[]) (fun _ _ e=>by cases e)] at hb1 ⊢
  have hB:=hB.next hn hl hx hb1 hb2
  refine m_ (x_ rfl rfl (x_ rfl rfl (m_ (m_ (e_ ?_)))))
  refine Zp (q_ rfl (m_ (Wo (a:=false) rfl (e_ (Xj rfl (Jm ?_))))))
  exact hK _ _ _ _ o2 ([],[]) rfl h1 h2 (by simpa using hB)
 | cons x r ih=>
  intro ds σ nx bx ow o2 hsz hmx h1 h2 h3 hB hA hF hK
  refine W.loop (Yn (q_ rfl (m_ (Nd (p:=Nm) (l:=x::r) hL h2 rfl (by omega) hB.bl fun nx' bx' hb1 hb2=>?_))))
  by_cases hc:(Zn Nm x).2=true
  ·rw [Ag hc] at hb1 ⊢
   have h4:8<=x.length:=Zeh hc
   have hxl:=hmx x jN
   have hB:=hB.next hn hl hx hb1 hb2
   simp only [kB] at hsz
   refine m_ (x_ rfl rfl (x_ rfl rfl (m_ (m_ (e_ ?_)))))
   refine Zp (q_ rfl (m_ (Wo (a:=true) rfl (e_ (Di rfl (Yg ?_))))))
   obtain ⟨D,b,hcall,hb1,hb2⟩:=Xbw H hm (s:=x.drop 2) (by simp;omega)
   have hfr:Un m (x::r)=(Gl m (x.drop 2)).bind fun d=>(Un m r).map fun z=>(d::z.1,z.2):=by
    conv=>lhs;unfold Un
    rw [kD hc]
   rw [hfr] at hF hK
   refine Zp (W.reg ?_)
   change WO PG d 13 _ 0 Zuz _ ⟨_,Yx bx' (d,53255) (_,[.i .i64 0,.i .i64 0,.b false,.i .u8 0,.i .i64 0,.s [],.sl .full [],.b false]),ow⟩ _
   have hB2:=fun a=>hB.here (site:=53255) (a:=a) hl hx rfl
   refine l_ (w:=m.av) h3 (hB2 _).b0 rfl rfl (Hw (l:=x) rfl (Ho (l:=x) (n:=2) rfl rfl (by decide) (by simp;omega) (Ya (sc rfl rfl (sc rfl rfl sn)) hcall ?_)))
   refine m_ (x_ rfl rfl (x_ rfl rfl (Xo (Yc (w:=D.av) (cs':=D.row) rfl Zj rfl rfl rfl (m_ (e_ ?_))))))
   have hB3:=fun a b=>(hB2 a).here (site:=53255) (a:=b) hl hx rfl
   refine Zp (q_ rfl (m_ (Wo (a:=b) rfl (e_ (Wp rfl (fun he=>?_) (fun he=>Yg ?_))))))
   ·have he:b=false:=by simpa using he
    refine q_ rfl (m_ (e_ (Rc ?_)))
    exact hF _ _ _ _ (by rw [hb2 he];rfl) rfl (hB3 _ _).fr
   have he:b=true:=by simpa using he
   rw [hb1 he] at hF hK
   refine W.reg0 rfl fun nx2 hnx2=>?_
   refine m_ (m_ (Wg h1 (f_ rfl (l_ (w:=.sl o2 (ds.map Zi.row)) rfl (hB3 _ _).bX rfl rfl ?_))))
   refine l_ (w:=D.av) (k:=(d,53255)) (cs:=D.row) (o:=0) rfl Zj rfl rfl ?_
   refine Xv (f:=Zi.row) (l:=[D]) rfl rfl (Yo (v:=D.av) (cs:=D.row) rfl rfl rfl Xp) rfl ?_
   refine Qt (f:=Zi.row) (l:=ds) (m:=[D]) Zi.row_len rfl rfl rfl hA.1 ⟨?_,?_⟩ rfl fun o' ow' a1 a2 a3=>?_
   ·simp only [kB,kG,Wq];omega
   ·simp only [kB,kG,Wq];omega
   have hB:=fun a b=>(hB3 a b).app hA a2
   refine Wg (k:=kx) (v:=vx) (o:=0) h1 (f_ rfl (Yc (k:=kx) (v:=vx) (cs':=xc s k o1 o' .full fs (ds++[D]) []) rfl (hB _ _).bX rfl rfl rfl (e_ ?_) (Zln hkx)))
   refine ih (ds++[D]) _ _ _ _ o' (by simp only [kF,kB,kG];omega) (fun y h=>hmx y (jL _ h)) h1 h2 h3 ((hB _ _).setX hn hx) (hA.new a1 a3 rfl) ?_ ?_
   ·intro σ nx bx ow e g6 gF
    exact hF σ nx bx ow (by rw [e];rfl) g6 gF
   ·intro σ nx bx ow o1 z e g1 g2 gB
    refine hK σ nx bx ow o1 (D::z.1,z.2) (by rw [e];rfl) g1 g2 ?_
    simpa using gB
  ·have hc:(Zn Nm x).2=false:=by simpa using hc
   rw [Sq (p:=Nm) (l:=x::r) (fun _ _ e=>by injection e with e1 e2;rw [<- e1];exact hc)] at hb1 ⊢
   have hB:=hB.next hn hl hx hb1 hb2
   refine m_ (x_ rfl rfl (x_ rfl rfl (m_ (m_ (e_ ?_)))))
   refine Zp (q_ rfl (m_ (Wo (a:=false) rfl (e_ (Xj rfl (Jm ?_))))))
   refine hK _ _ _ _ o2 ([],x::r) ?_ h1 h2 (by simpa using hB)
   unfold Un;rw [kA (by rw [hc];exact yH)]
theorem Yi0 (H:HasD PG) (hL:Ni PG) (hn:kl≠kx) (hl:kl.1<d) (hx:kx.1<d) (hkx:Nat.blt kx.2 Xs=true) {Q:AE->Sl->St->Prop} {o1 o2:Zm} {fs:List Zg} {ds:List Zi} :∀(l:List Zc) (ps:List Zf) (σ:Sl) (nx:Nat) (bx:Xu) (ow:Xt) (o3:Zm),ps.length+l.length<=500000->(∀y∈l,y.length<=1000000)->
  σ 1=.p kx vx 0->σ 2=.fn 305 [.p kl vl 0]->MB d kl vl kx vx v0 m s k bx0 ow0 bx ow l o1 o2 o3 fs ds ps->Ql SP d ow o3 ps.length->
  (∀(σ:Sl) (nx:Nat) (bx:Xu) (ow:Xt),Ug l=none->σ 6=.b false->Jq d kl kx bx0 ow0 bx ow->Q .ret σ ⟨nx,bx,ow⟩)->
  (∀(σ:Sl) (nx:Nat) (bx:Xu) (ow:Xt) (o3:Zm) (z:List Zf × List Zc),Ug l=some z->σ 6=.b true->MB d kl vl kx vx v0 m s k bx0 ow0 bx ow z.2 o1 o2 o3 fs ds (ps++z.1)->Q .ret σ ⟨nx,bx,ow⟩)->
  W PG d (.loop Ybw) σ ⟨nx,bx,ow⟩ (Yd 6 Q):=by
 intro l
 induction l with
 | nil=>
  intro ps σ nx bx ow o3 hsz hmx h1 h2 hB hA hF hK
  refine W.loop (Yn (q_ rfl (m_ (Nd (p:=t2) (l:=[]) hL h2 rfl (by omega) hB.bl fun nx' bx' hb1 hb2=>?_))))
  rw [Sq (p:=t2) (l:=[]) (fun _ _ e=>by cases e)] at hb1 ⊢
  have hB:=hB.next hn hl hx hb1 hb2
  refine m_ (x_ rfl rfl (x_ rfl rfl (m_ (m_ (e_ ?_)))))
  refine Zp (q_ rfl (m_ (Wo (a:=false) rfl (e_ (Xj rfl (q_ rfl (m_ (e_ (Rc ?_)))))))))
  exact hK _ _ _ _ o3 ([],[]) rfl rfl (by simpa using hB)
 | cons x r ih=>
  intro ps σ nx bx ow o3 hsz hmx h1 h2 hB hA hF hK
  refine W.loop (Yn (q_ rfl (m_ (Nd (p:=t2) (l:=x::r) hL h2 rfl (by omega) hB.bl fun nx' bx' hb1 hb2=>?_))))
  by_cases hc:(Zn t2 x).2=true
  ·rw [Ag hc] at hb1 ⊢
   have h4:2<=x.length:=Zeh hc
   have hxl:=hmx x jN
   have hB:=hB.next hn hl hx hb1 hb2
   simp only [kB] at hsz
   refine m_ (x_ rfl rfl (x_ rfl rfl (m_ (m_ (e_ ?_)))))
   refine Zp (q_ rfl (m_ (Wo (a:=true) rfl (e_ (Di rfl (Yg ?_))))))
   have hcall:=Xar H.toHasP (s:=x.drop 2) (by simp;omega)
   have hfr:Ug (x::r)=if (Qz (x.drop 2)).2=0 then (Ug r).map fun z=>((Qz (x.drop 2)).1::z.1,z.2) else none:=by
    conv=>lhs;unfold Ug
    rw [kD hc]
   rw [hfr] at hF hK
   generalize Qz (x.drop 2)=R at hcall hF hK
   obtain ⟨P,re⟩:=R
   simp only at hcall hF hK
   refine Zp (W.reg ?_)
   change WO PG d 20 _ 0 Zwz _ ⟨_,Yx bx' (d,81926) (_,[.i .u64 0,.i .u8 0,.i .i64 0,.s [],.sl .full [],.b false,.i .u64 0]),ow⟩ _
   have hB2:=fun a=>hB.here (site:=81926) (a:=a) hl hx rfl
   refine Hw (l:=x) rfl (Ho (l:=x) (n:=2) rfl rfl (by decide) (by simp;omega) (Ya (sc rfl rfl sn) hcall ?_))
   refine m_ (x_ rfl rfl (x_ rfl rfl (Xo (Yc (w:=P.av) (cs':=P.row) rfl Zj rfl rfl rfl (m_ (e_ ?_))))))
   have hB3:=fun a b=>(hB2 a).here (site:=81926) (a:=b) hl hx rfl
   refine Zp (q_ rfl (m_ (b_ (a:=.i .i64 re) (b:=.i .i64 0) rfl rfl Jc (e_ (Yk rfl (fun he=>?_) (fun he=>Yg ?_))))))
   ·refine q_ rfl (m_ (e_ (Rc ?_)))
    exact hF _ _ _ _ (by rw [kA he]) rfl (hB3 _ _).fr
   have he:=kW.1 he
   rw [kD he] at hF hK
   refine W.reg0 rfl fun nx2 hnx2=>?_
   refine m_ (m_ (Wg h1 (f_ rfl (l_ (w:=.sl o3 (ps.map Zf.row)) rfl (hB3 _ _).bX rfl rfl ?_))))
   refine l_ (w:=P.av) (k:=(d,81926)) (cs:=P.row) (o:=0) rfl Zj rfl rfl ?_
   refine Xv (f:=Zf.row) (l:=[P]) rfl rfl (Yo (v:=P.av) (cs:=P.row) rfl rfl rfl Xp) rfl ?_
   refine Qt (f:=Zf.row) (l:=ps) (m:=[P]) Zf.row_len rfl rfl rfl hA.1 ⟨?_,?_⟩ rfl fun o' ow' a1 a2 a3=>?_
   ·simp only [kB,kG,Wq];omega
   ·simp only [kB,kG,Wq];omega
   have hB:=fun a b=>(hB3 a b).app hA a2
   refine Wg (k:=kx) (v:=vx) (o:=0) h1 (f_ rfl (Yc (k:=kx) (v:=vx) (cs':=xc s k o1 o2 o' fs ds (ps++[P])) rfl (hB _ _).bX rfl rfl rfl (e_ ?_) (Zln hkx)))
   refine ih (ps++[P]) _ _ _ _ o' (by simp only [kF,kB,kG];omega) (fun y h=>hmx y (jL _ h)) h1 h2 ((hB _ _).setX hn hx) (hA.new a1 a3 rfl) ?_ ?_
   ·intro σ nx bx ow e g6 gF
    exact hF σ nx bx ow (by rw [e];rfl) g6 gF
   ·intro σ nx bx ow o1 z e g6 gB
    refine hK σ nx bx ow o1 (P::z.1,z.2) (by rw [e];rfl) g6 ?_
    simpa using gB
  ·have hc:(Zn t2 x).2=false:=by simpa using hc
   rw [Sq (p:=t2) (l:=x::r) (fun _ _ e=>by injection e with e1 e2;rw [<- e1];exact hc)] at hb1 ⊢
   have hB:=hB.next hn hl hx hb1 hb2
   refine m_ (x_ rfl rfl (x_ rfl rfl (m_ (m_ (e_ ?_)))))
   refine Zp (q_ rfl (m_ (Wo (a:=false) rfl (e_ (Xj rfl (q_ rfl (m_ (e_ (Rc ?_)))))))))
   refine hK _ _ _ _ o3 ([],x::r) ?_ rfl (by simpa using hB)
   unfold Ug;rw [kA (by rw [hc];exact yH)]
end
end Go.AM

namespace Go.AM
open Go
attribute [local irreducible] WO Xq We
set_option maxRecDepth 4000
set_option maxHeartbeats 1000000
theorem Zly {m:Zh} :∀(n:Nat) (l:List Zc) (z:List Zg × List Zc),Qm m n l=some z->z.2.length<=l.length/\∀x∈z.2,x∈l
 | 0,_,_,h=>by simp [Qm] at h
 | n+1,[],z,h=>by
  simp only [Qm,Option.some.injEq] at h
  subst h;exact ⟨kU _,fun x h=>h⟩
 | n+1,x::r,z,h=>by
  unfold Qm at h
  split at h
  ·split at h
   ·obtain ⟨y,h1,h2⟩:=kI.1 h
    have ih:=Zly n _ _ h1
    have hs:=Zgh r
    subst h2
    exact ⟨by simp only [kB];omega,fun q hq=>jL _ (hs.2.2 q (ih.2 q hq))⟩
   ·cases h
  ·simp only [Option.some.injEq] at h
   subst h;exact ⟨kU _,fun x h=>h⟩
theorem Zoy {m:Zh} :∀(l:List Zc) (z:List Zi × List Zc),Un m l=some z->z.2.length<=l.length/\∀x∈z.2,x∈l
 | [],z,h=>by
  simp only [Un,Option.some.injEq] at h
  subst h;exact ⟨kU _,fun x h=>h⟩
 | x::r,z,h=>by
  unfold Un at h
  split at h
  ·obtain ⟨d,_,h⟩:=jU.1 h
   obtain ⟨y,h1,h2⟩:=kI.1 h
   have ih:=Zoy r _ h1
   subst h2
   exact ⟨by simp only [kB];omega,fun q hq=>jL _ (ih.2 q hq)⟩
  ·simp only [Option.some.injEq] at h
   subst h;exact ⟨kU _,fun x h=>h⟩
theorem Zxh :∀(l:List Zc) (z:List Zf × List Zc),Ug l=some z->z.2.length<=l.length/\∀x∈z.2,x∈l
 | [],z,h=>by
  simp only [Ug,Option.some.injEq] at h
  subst h;exact ⟨kU _,fun x h=>h⟩
 | x::r,z,h=>by
  unfold Ug at h
  split at h
  ·split at h
   ·obtain ⟨y,h1,h2⟩:=kI.1 h
    have ih:=Zxh r _ h1
    subst h2
    exact ⟨by simp only [kB];omega,fun q hq=>jL _ (ih.2 q hq)⟩
   ·cases h
  ·simp only [Option.some.injEq] at h
   subst h;exact ⟨kU _,fun x h=>h⟩
theorem Yaw {m:Zh} {l:List Zc} {z:List Zg × List Zi × List Zf × List Zc} (h:Qd m l=some z):z.2.2.2.length<=l.length/\∀x∈z.2.2.2,x∈l:=by
 obtain ⟨a,h1,h⟩:=jU.1 h
 obtain ⟨b,h2,h⟩:=jU.1 h
 obtain ⟨c,h3,h⟩:=kI.1 h
 subst h
 have s1:=Zly _ _ _ h1
 have s2:=Zoy _ _ h2
 have s3:=Zxh _ _ h3
 exact ⟨by simp only;omega,fun x hx=>s1.2 x (s2.2 x (s3.2 x hx))⟩
theorem Jq.out {d:Nat} {kl kx:Zo} {bx bx':Xu} {ow ow':Xt} (h:Jq d kl kx bx ow bx' ow'):Jq d kl kx bx ow (bx'.filter fun x=>x.1.1<d) ow':=
 ⟨fun k' h1 h2 h3=>(Pa h1).trans (h.1 k' h1 h2 h3),h.2⟩
def PuM (PG:Zb) (m:Zh):Prop:=∀(d:Nat) (st:St) (kl:Zo) (vl:Nat) (kx:Zo) (vx:Nat) (s k:Int) (l:List Zc),kl≠kx->kl.1<d->kx.1<d->Nat.blt kx.2 Xs=true->
 lk st.bx kl=some (vl,[.sl .ext (l.map Zt)])->lk st.bx kx=some (vx,xc s k .full .full .full [] [] [])->l.length<=400000->(∀y∈l,y.length<=1000000)->
 ∃st' b,Fn PG d 309 [m.av,.p kx vx 0,.fn 305 [.p kl vl 0]] st (.b b) st'/\Jq d kl kx st.bx st.ow st'.bx st'.ow/\(Qd m l=none->b=false)/\
  ∀z,Qd m l=some z->b=true/\lk st'.bx kl=some (vl,[.sl .ext (z.2.2.2.map Zt)])/\∃o1 o2 o3,lk st'.bx kx=some (vx,xc s k o1 o2 o3 z.1 z.2.1 z.2.2.1)
theorem Ypj {PG:Zb} (H:HasD PG) (hL:Ni PG) (hf:PG.fn 309=some Ic) {m:Zh} (hm:Ww m):PuM PG m:=by
 intro d st kl vl kx vx s k l hn hl hx hkx hbl hbx hlen hmx
 have main:=Fn.of' (PG:=PG) (d:=d) (args:=[m.av,.p kx vx 0,.fn 305 [.p kl vl 0]]) (st:=st) (K:=fun r st'=>∃b,r=.b b/\Jq d kl kx st.bx st.ow st'.bx st'.ow/\(Qd m l=none->b=false)/\
  ∀z,Qd m l=some z->b=true/\lk st'.bx kl=some (vl,[.sl .ext (z.2.2.2.map Zt)])/\∃o1 o2 o3,lk st'.bx kx=some (vx,xc s k o1 o2 o3 z.1 z.2.1 z.2.2.1)) hf (kX rfl) ?_
 ·obtain ⟨r,st',h1,b,rfl,h2⟩:=main
  exact ⟨st',b,h1,h2⟩
 have no :∀(σ:Sl) (nx:Nat) (bx:Xu) (ow:Xt),Qd m l=none->σ 6=.b false->Jq d kl kx st.bx st.ow bx ow->Sb d Ic.res (fun r st'=>∃b,r=.b b/\Jq d kl kx st.bx st.ow st'.bx st'.ow/\(Qd m l=none->b=false)/\
  ∀z,Qd m l=some z->b=true/\lk st'.bx kl=some (vl,[.sl .ext (z.2.2.2.map Zt)])/\∃o1 o2 o3,lk st'.bx kx=some (vx,xc s k o1 o2 o3 z.1 z.2.1 z.2.2.1)) .ret σ ⟨nx,bx,ow⟩:=by
  intro σ nx bx ow h1 h2 h3
  exact ⟨.b false,jD some h2,false,rfl,h3.out,fun _=>rfl,fun z hz=>by rw [h1] at hz;cases hz⟩
 show W PG d Zy2 (Wc [m.av,.p kx vx 0,.fn 305 [.p kl vl 0]]) st _
 refine q_ rfl (Qa (v:=m.av) rfl rfl (m_ (e_ ?_)))
 have hB:MB d kl vl kx vx st.nx m s k st.bx st.ow (Yx st.bx (d,0) (st.nx,m.av.cells)) st.ow l .full .full .full [] [] []:=
  ⟨Zj,(Gu (by rintro rfl;exact zG _ hl)).trans hbl,(Gu (by rintro rfl;exact zG _ hx)).trans hbx,Jq.here ⟨fun _ _ _ _=>rfl,fun _ _=>rfl⟩⟩
 refine Zp (Yn (Ytl H hL hm hn hl hx hkx (l.length+1) l [] _ _ _ _ .full (kC _) (by simp only [kG];omega) rfl rfl rfl hB Ql.full ?_ ?_))
 ·intro σ nx bx ow e g6 gF
  exact no σ nx bx ow (by unfold Qd;rw [e];rfl) g6 gF
 intro σ nx bx ow o1 z e g1 g2 g3 hB
 have s1:=Zly _ _ _ e
 show W PG d Zw4 σ _ _
 refine Zp (Yn (Yxg H hL hm hn hl hx hkx z.2 [] _ _ _ _ .full (by simp only [kG];omega) (fun y hy=>hmx y (s1.2 y hy)) g1 g2 g3 hB Ql.full ?_ ?_))
 ·intro σ nx bx ow e2 g6 gF
  exact no σ nx bx ow (by unfold Qd;rw [e];simp only [zW,e2];rfl) g6 gF
 intro σ nx bx ow o2 y e2 g1 g2 hB
 have s2:=Zoy _ _ e2
 show W PG d Ydq σ _ _
 refine Yn (Yi0 H hL hn hl hx hkx y.2 [] _ _ _ _ .full (by simp only [kG];omega) (fun u hu=>hmx u (s1.2 u (s2.2 u hu))) g1 g2 hB Ql.full ?_ ?_)
 ·intro σ nx bx ow e3 g6 gF
  exact no σ nx bx ow (by unfold Qd;rw [e];simp only [zW,e2,e3];rfl) g6 gF
 intro σ nx bx ow o3 u e3 g6 hB
 have e4:Qd m l=some (z.1,y.1,u.1,u.2):=by unfold Qd;rw [e];simp only [zW,e2,e3];rfl
 refine ⟨.b true,jD some g6,true,rfl,hB.fr.out,fun h=>(by rw [e4] at h;cases h),fun w hw=>?_⟩
 rw [e4] at hw
 injection hw with hw
 subst hw
 exact ⟨rfl,(Pa hl).trans hB.bl,o1,o2,o3,by simpa using (Pa hx).trans hB.bX⟩
end Go.AM

namespace Go.AM
open Go
attribute [local irreducible] WO Xq We
set_option maxRecDepth 4000
set_option maxHeartbeats 1000000
theorem Ya2 {m:Zh} :∀(n:Nat) (l:List Zc) (z:List Zg × List Zc),Qm m n l=some z->z.1.length+z.2.length<=l.length/\∀x∈z.1,Gg x
 | 0,_,_,h=>by simp [Qm] at h
 | n+1,[],z,h=>by
  simp only [Qm,Option.some.injEq] at h
  subst h;exact ⟨kU _,fun x h=>by cases h⟩
 | n+1,x::r,z,h=>by
  unfold Qm at h
  split at h
  ·split at h
   ·obtain ⟨y,h1,h2⟩:=kI.1 h
    have ih:=Ya2 n _ _ h1
    have hs:=Zgh r
    subst h2
    refine ⟨by simp only [kB];omega,fun q hq=>?_⟩
    rcases jF.1 hq with rfl | hq
    ·exact Xc7 _ _
    ·exact ih.2 q hq
   ·cases h
  ·simp only [Option.some.injEq] at h
   subst h;exact ⟨by simp,fun x h=>by cases h⟩
theorem Yyi {m:Zh} {s:Zc} {d:Zi} (h:Gl m s=some d):Wf d.arg:=by
 unfold Gl at h
 split at h
 ·unfold Dw at h
  split at h
  ·cases h
  split at h
  ·cases h
  unfold Ch at h
  split at h
  ·injection h with h;subst h;exact Wf.zero
  split at h
  ·injection h with h;subst h;exact Ybx _
  ·cases h
 ·cases h
theorem Zvc {m:Zh} :∀(l:List Zc) (z:List Zi × List Zc),Un m l=some z->z.1.length+z.2.length<=l.length/\∀x∈z.1,Wf x.arg
 | [],z,h=>by
  simp only [Un,Option.some.injEq] at h
  subst h;exact ⟨kU _,fun x h=>by cases h⟩
 | x::r,z,h=>by
  unfold Un at h
  split at h
  ·obtain ⟨d,hd,h⟩:=jU.1 h
   obtain ⟨y,h1,h2⟩:=kI.1 h
   have ih:=Zvc r _ h1
   subst h2
   refine ⟨by simp only [kB];omega,fun q hq=>?_⟩
   rcases jF.1 hq with rfl | hq
   ·exact Yyi hd
   ·exact ih.2 q hq
  ·simp only [Option.some.injEq] at h
   subst h;exact ⟨by simp,fun x h=>by cases h⟩
theorem Ydk :∀(l:List Zc) (z:List Zf × List Zc),Ug l=some z->z.1.length+z.2.length<=l.length/\∀x∈z.1,Mx x
 | [],z,h=>by
  simp only [Ug,Option.some.injEq] at h
  subst h;exact ⟨kU _,fun x h=>by cases h⟩
 | x::r,z,h=>by
  unfold Ug at h
  split at h
  ·split at h
   ·rename_i he
    obtain ⟨y,h1,h2⟩:=kI.1 h
    have ih:=Ydk r _ h1
    subst h2
    refine ⟨by simp only [kB];omega,fun q hq=>?_⟩
    rcases jF.1 hq with rfl | hq
    ·exact (Ylr he).2.1
    ·exact ih.2 q hq
   ·cases h
  ·simp only [Option.some.injEq] at h
   subst h;exact ⟨by simp,fun x h=>by cases h⟩
theorem Yp3 {m:Zh} {l:List Zc} {z:List Zg × List Zi × List Zf × List Zc} (h:Qd m l=some z):(z.1.length<=l.length/\∀x∈z.1,Gg x)/\(z.2.1.length<=l.length/\∀x∈z.2.1,Wf x.arg)/\z.2.2.1.length<=l.length/\∀x∈z.2.2.1,Mx x:=by
 obtain ⟨a,h1,h⟩:=jU.1 h
 obtain ⟨b,h2,h⟩:=jU.1 h
 obtain ⟨c,h3,h⟩:=kI.1 h
 subst h
 have s1:=Ya2 _ _ _ h1
 have s2:=Zvc _ _ h2
 have s3:=Ydk _ _ h3
 exact ⟨⟨by simp only;omega,s1.2⟩,⟨by simp only;omega,s2.2⟩,by simp only;omega,s3.2⟩
theorem Yvt {s:Zc}:0<=(Kh s).1.status/\-9223372036854775808<=(Kh s).1.key/\(Kh s).1.key<9223372036854775808:=by
 unfold Kh An
 repeat' split
 ·exact ⟨by decide,by decide,by decide⟩
 ·exact ⟨by show (0:Int)<=2;decide,Zsb _⟩
 ·exact ⟨by decide,by decide,by decide⟩
 ·exact ⟨by show (0:Int)<=3;decide,by show (-9223372036854775808:Int)<=0;decide,by show (0:Int)<9223372036854775808;decide⟩
theorem Ztm {m:Zh} :∀(n:Nat) (l:List Zc) (z:List Zl × List Zc),l.length<=1000000->Hf m n l=some z->z.1.length+z.2.length<=l.length/\∀x∈z.1,Qq x
 | 0,_,_,_,h=>by simp [Hf] at h
 | n+1,[],z,_,h=>by
  simp only [Hf,Option.some.injEq] at h
  subst h;exact ⟨kU _,fun x h=>by cases h⟩
 | n+1,x::r,z,hl,h=>by
  simp only [kB] at hl
  unfold Hf at h
  split at h
  ·split at h
   ·obtain ⟨a,ha,h⟩:=jU.1 h
    obtain ⟨y,h1,h2⟩:=kI.1 h
    have w:=Yp3 ha
    have s:=Yaw ha
    have ih:=Ztm n _ _ (by omega) h1
    subst h2
    refine ⟨by simp only [kB];omega,fun q hq=>?_⟩
    rcases jF.1 hq with rfl | hq
    ·have hk:=Yvt (s:=x)
     exact ⟨hk.1,hk.2,w.1.2,w.2.1.2,w.2.2.2,by simp only;omega,by simp only;omega,by simp only;omega⟩
    ·exact ih.2 q hq
   ·cases h
  ·simp only [Option.some.injEq] at h
   subst h;exact ⟨by simp,fun x h=>by cases h⟩
theorem Xfd (s:Zc):0<=(Bb s).1:=by
 unfold Bb
 split
 ·decide
 ·rename_i h
  simp only;omega
section
variable {PG:Zb} {d id base i:Nat} {σ:Sl} {st:St} {K:Sl->St->Prop} {r:List AI} {t:Option Nat}
theorem Yfd {args:List Zq} {m:Zh} {kl kx:Zo} {vl vx:Nat} {s k:Int} {l:List Zc} (hM:PuM PG m) (hs:Va σ args=[m.av,.p kx vx 0,.fn 305 [.p kl vl 0]]) (hn:kl≠kx) (hl:kl.1<d+1) (hx:kx.1<d+1) (hkx:Nat.blt kx.2 Xs=true)
  (hbl:lk st.bx kl=some (vl,[.sl .ext (l.map Zt)])) (hbx:lk st.bx kx=some (vx,xc s k .full .full .full [] [] [])) (hlen:l.length<=400000) (hmx :∀y∈l,y.length<=1000000)
  (h :∀(nx':Nat) (bx':Xu) (ow':Xt) (b:Bool),Jq (d+1) kl kx st.bx st.ow bx' ow'->(Qd m l=none->b=false)->(∀z,Qd m l=some z->b=true/\lk bx' kl=some (vl,[.sl .ext (z.2.2.2.map Zt)])/\∃o1 o2 o3,lk bx' kx=some (vx,xc s k o1 o2 o3 z.1 z.2.1 z.2.2.1))->
   WO PG d id base (i+1) r (Zu σ t (.b b)) ⟨nx',bx',ow'⟩ K):WO PG d id base i (⟨t,.call true 309 args,none⟩::r) σ st K:=by
 refine Uo ?_
 obtain ⟨⟨nx',bx',ow'⟩,b,h1,h2,h3,h4⟩:=hM (d+1) st kl vl kx vx s k l hn hl hx hkx hbl hbx hlen hmx
 rw [Lz,hs]
 exact ⟨_,_,h1,h nx' bx' ow' b h2 h3 h4⟩
theorem Xd.call2 {o:Zm} {n:Nat} {kl kx:Zo} {bx bx2:Xu} {ow ow2:Xt} (h:Xd d ow o n) (c:Jq (d+1) kl kx bx ow bx2 ow2):Xd d ow2 o n:=by
 refine ⟨?_,h.2⟩
 cases o with
 | ext=>exact h.1
 | full=>exact h.1
 | id k v=>
  obtain ⟨e1,e2⟩:=h.2
  obtain ⟨a1,a2⟩:=h.1
  exact ⟨(c.2 k (by omega)).trans a1,a2⟩
end
abbrev Qo:List AV:=[.i .u8 0,.i .i64 0,.i .i64 0,.sl .full []]
abbrev He (a b c:Int) (o:Zm) (rs:List Zl):List AV:=[.i .u8 a,.i .i64 b,.i .i64 c,.sl o (rs.map Zl.row)]
structure RB (d v0 v4 v6 v10:Nat) (m:Zh) (a b c:Int) (bx:Xu) (l:List Zc) (o:Zm) (rs:List Zl):Prop where
 b0:lk bx (d,0)=some (v0,[.sl .ext (List.map Wx.row m.types),.sl .ext (List.map Zt m.texts),.sl .ext (List.map Ye.row m.funcs)])
 b4:lk bx (d,1)=some (v4,Qo)
 bl:lk bx (d,12290)=some (v6,[.sl .ext (l.map Zt)])
 bo:lk bx (d,24581)=some (v10,He a b c o rs)
section
variable {PG:Zb} {d v0 v4 v6 v10:Nat} {m:Zh} {a b c:Int} {bx:Xu} {l:List Zc} {o:Zm} {rs:List Zl}
theorem Hk {d s s':Nat} (h:Nat.beq s s'=false):((d,s):Zo)≠(d,s'):=by
 intro e
 injection e with _ e
 rw [e,Nat.beq_refl] at h
 cases h
theorem RB.next {bx':Xu} {l':List Zc} (h:RB d v0 v4 v6 v10 m a b c bx l o rs) (h1:lk bx' (d,12290)=some (v6,[.sl .ext (l'.map Zt)])) (h2 :∀k':Zo,k'.1<d+1->k'≠(d,12290)->lk bx' k'=lk bx k'):RB d v0 v4 v6 v10 m a b c bx' l' o rs:=
 ⟨(h2 _ (kC d) (Hk rfl)).trans h.b0,(h2 _ (kC d) (Hk rfl)).trans h.b4,h1,(h2 _ (kC d) (Hk rfl)).trans h.bo⟩
theorem RB.here {a':Nat × List AV} (h:RB d v0 v4 v6 v10 m a b c bx l o rs):RB d v0 v4 v6 v10 m a b c (Yx bx (d,45061) a') l o rs:=
 ⟨Zs rfl h.b0,Zs rfl h.b4,Zs rfl h.bl,Zs rfl h.bo⟩
theorem RB.call {bx':Xu} {ow ow':Xt} (h:RB d v0 v4 v6 v10 m a b c bx l o rs) (f:Fr (d+1) (d+1,0) bx ow bx' ow'):RB d v0 v4 v6 v10 m a b c bx' l o rs:=
 ⟨(f.1 _ (kC d) Ux).trans h.b0,(f.1 _ (kC d) Ux).trans h.b4,(f.1 _ (kC d) Ux).trans h.bl,(f.1 _ (kC d) Ux).trans h.bo⟩
theorem RB.mem {bx':Xu} {ow ow':Xt} {l':List Zc} (h:RB d v0 v4 v6 v10 m a b c bx l o rs) (f:Jq (d+1) (d,12290) (d,45061) bx ow bx' ow') (h1:lk bx' (d,12290)=some (v6,[.sl .ext (l'.map Zt)])):RB d v0 v4 v6 v10 m a b c bx' l' o rs:=
 ⟨(f.1 _ (kC d) (Hk rfl) (Hk rfl)).trans h.b0,(f.1 _ (kC d) (Hk rfl) (Hk rfl)).trans h.b4,h1,(f.1 _ (kC d) (Hk rfl) (Hk rfl)).trans h.bo⟩
theorem RB.out {o':Zm} {rs':List Zl} (h:RB d v0 v4 v6 v10 m a b c bx l o rs):RB d v0 v4 v6 v10 m a b c (Yx bx (d,24581) (v10,He a b c o' rs')) l o' rs':=
 ⟨Zs rfl h.b0,Zs rfl h.b4,Zs rfl h.bl,Zj⟩
theorem Cv {id tz:Nat} {e:Int} {σ:Sl} {nx:Nat} {ow:Xt} {cs:List AV} {Q:AE->Sl->St->Prop} (h4:σ 4=.p (d,1) v4 0) (hz:Nat.beq 4 tz=false) (hb:lk bx (d,1)=some (v4,cs)) (hc:cs.length=4)
  (hQ :∀(σ:Sl) (nx:Nat) (bx:Xu),σ 4=.p (d,1) v4 0->σ 5=.i .i64 e->lk bx (d,1)=some (v4,Qo)->Q .ret σ ⟨nx,bx,ow⟩) :
  W PG d (.seq (.reg id [oO tz (.build Qo []),oS 4 4 tz,oC 5 (.i .i64 e)]) .ret) σ ⟨nx,bx,ow⟩ Q:=by
 refine q_ rfl (Yi Yh ?_)
 have e4:(Zu σ (some tz) (.ag Qo)) 4=.p (d,1) v4 0:=by
  show cond (Nat.beq 4 tz) _ _=_
  rw [hz];exact h4
 have ez:(Zu σ (some tz) (.ag Qo)) tz=.ag Qo:=by
  show cond (Nat.beq tz tz) _ _=_
  rw [Nat.beq_refl];rfl
 match cs,hc with
 | [c1,c2,c3,c5],_=>
  refine Yc (cs':=Qo) e4 hb ez rfl rfl (m_ (e_ (Rc (hQ _ _ _ ?_ rfl Zj))))
  exact e4
theorem Xa0 (H:HasD PG) (hL:Ni PG) (hM:PuM PG m) {s:Zc} {Q:AE->Sl->St->Prop} :∀(n:Nat) (l:List Zc) (rs:List Zl) (σ:Sl) (nx:Nat) (bx:Xu) (ow:Xt) (o:Zm),l.length<n->rs.length+l.length<=400000->(∀y∈l,y.length<=1000000)->
  σ 1=.s s->σ 2=.p (d,0) v0 0->σ 4=.p (d,1) v4 0->σ 7=.fn 305 [.p (d,12290) v6 0]->σ 10=.p (d,24581) v10 0->RB d v0 v4 v6 v10 m a b c bx l o rs->Xd d ow o rs.length->
  (∀(σ:Sl) (nx:Nat) (bx:Xu) (ow:Xt),Hf m n l=none->σ 4=.p (d,1) v4 0->σ 5=.i .i64 12->lk bx (d,1)=some (v4,Qo)->Q .ret σ ⟨nx,bx,ow⟩)->
  (∀(σ:Sl) (nx:Nat) (bx:Xu) (ow:Xt) (o:Zm) (z:List Zl × List Zc),Hf m n l=some z->σ 1=.s s->σ 2=.p (d,0) v0 0->σ 4=.p (d,1) v4 0->σ 10=.p (d,24581) v10 0->RB d v0 v4 v6 v10 m a b c bx z.2 o (rs++z.1)->Q .normal σ ⟨nx,bx,ow⟩)->
  W PG d (.loop Ztw) σ ⟨nx,bx,ow⟩ (Yd 0 Q):=by
 intro n
 induction n with
 | zero=>intro l rs σ nx bx ow o h;omega
 | succ n ih=>
 intro l rs σ nx bx ow o hlen hsz hmx h1 h2 h4 h7 h10 hB hA hF hK
 refine W.loop (Yn (q_ rfl (m_ (Nd (p:=Rx) (l:=l) hL h7 rfl (kC d) hB.bl fun nx' bx' hb1 hb2=>?_))))
 by_cases hno :∀x r,l=x::r->(Zn Rx x).2=false
 ·rw [Sq hno] at hb1 ⊢
  have hB:=hB.next hb1 hb2
  refine m_ (x_ rfl rfl (x_ rfl rfl (m_ (m_ (e_ ?_)))))
  refine Zp (q_ rfl (m_ (Wo (a:=false) rfl (e_ (Xj rfl (Jm ?_))))))
  refine hK _ _ _ _ o ([],l) ?_ h1 h2 h4 h10 ?_
  ·cases l with
   | nil=>rfl
   | cons x r=>simp only [Hf,kA (show ¬ (Zn Rx x).2=true by rw [hno x r rfl];exact yH)]
  ·simpa using hB
 cases l with
 | nil=>exact absurd (fun _ _ e=>by cases e) hno
 | cons x r=>
 have hc:(Zn Rx x).2=true:=by
  by_cases h:(Zn Rx x).2=true
  ·exact h
  ·exact absurd (fun y s e=>by injection e with e1 e2;rw [<- e1];simpa using h) hno
 rw [Ag hc] at hb1 ⊢
 have hB:=hB.next hb1 hb2
 simp only [kB] at hlen hsz
 have hxl:=hmx x jN
 have hrm :∀y∈r,y.length<=1000000:=fun y hy=>hmx y (jL _ hy)
 refine m_ (x_ rfl rfl (x_ rfl rfl (m_ (m_ (e_ ?_)))))
 refine Zp (q_ rfl (@fun nx1 _=>m_ (Wo (a:=true) rfl (e_ (Di rfl (Yg ?_))))))
 have hfr:Hf m (n+1) (x::r)=if (Kh x).2=true then (Qd m r).bind fun a=>(Hf m n a.2.2.2).map fun z=>(⟨(Kh x).1.status,(Kh x).1.key,a.1,a.2.1,a.2.2.1⟩::z.1,z.2) else none:=by
  conv=>lhs;unfold Hf
  rw [kD hc]
 rw [hfr] at hF hK
 have hcall:=Yzw H (s:=x) hxl
 generalize Kh x=R at hcall hF hK
 obtain ⟨X,ok⟩:=R
 simp only at hcall hF hK
 refine Zp (W.reg ?_)
 change WO PG d 11 nx1 0 Zts _ ⟨_,Yx bx' (d,45061) (nx1+5,[.i .u8 0,.i .i64 0,.sl .full [],.sl .full [],.sl .full []]),ow⟩ _
 refine m_ (Gs rfl hcall fun st' hfr'=>?_)
 have hB:=(hB.here (a':=(nx1+5,[.i .u8 0,.i .i64 0,.sl .full [],.sl .full [],.sl .full []]))).call hfr'
 have hA:=hA.call hfr'
 have hbx:=(hfr'.1 (d,45061) (kC d) Ux).trans Zj
 clear hfr' hb1 hb2
 obtain ⟨nx',bx',ow'⟩:=st'
 simp only at hB hA hbx
 refine m_ (x_ rfl rfl (x_ rfl rfl (Xo (Yc (w:=.ag (xc X.status X.key .full .full .full [] [] [])) (cs':=xc X.status X.key .full .full .full [] [] []) rfl hbx rfl rfl rfl (m_ (e_ ?_))))))
 have hB:=hB.here (a':=(nx1+5,xc X.status X.key .full .full .full [] [] []))
 refine Zp (q_ rfl (m_ (Wo (a:=ok) rfl (m_ ?_))))
 cases ok with
 | false=>
  refine Gp (b:=true) rfl rfl (Gp (b:=true) rfl rfl (Gp (b:=true) rfl rfl (Gp (b:=true) rfl rfl (Mt rfl rfl (e_ (Xj rfl ?_))))))
  refine Cv (tz:=61) h4 rfl hB.b4 rfl fun σ nx bx g4 g5 gb=>?_
  exact hF σ nx bx _ rfl g4 g5 gb
 | true=>
  rw [kD rfl] at hF hK
  refine Zd rfl (l_ (w:=m.av) h2 hB.b0 rfl rfl (Zd rfl (Vg h7 (Zd rfl (Yfd (l:=r) hM rfl (Hk rfl) (kC d) (kC d) rfl hB.bl Zj (by omega) hrm fun nx2 bx2 ow2 bb hf2 hm1 hm2=>?_)))))
  refine Zd rfl (Wo (a:=bb) rfl (Jp rfl rfl (e_ ?_)))
  cases hmr:Qd m r with
  | none=>
   have hbb:=hm1 hmr
   subst hbb
   have g4:lk bx2 (d,1)=some (v4,Qo):=(hf2.1 _ (kC d) (Hk rfl) (Hk rfl)).trans hB.b4
   refine Xj rfl ?_
   refine Cv (tz:=61) h4 rfl g4 rfl fun σ nx bx g4 g5 gb=>?_
   exact hF σ nx bx _ (by rw [hmr];rfl) g4 g5 gb
  | some z=>
   obtain ⟨hbb,hb1,o1,o2,o3,hbx2⟩:=hm2 z hmr
   subst hbb
   have hsub:=Yaw hmr
   have hB:=hB.mem hf2 hb1
   have hA:=hA.call2 hf2
   refine Di rfl (Yg ?_)
   refine W.reg0 rfl fun nx3 hnx3=>?_
   refine f_ h10 (l_ (w:=.sl o (rs.map Zl.row)) rfl hB.bo rfl rfl (l_ (w:=.ag (xc X.status X.key o1 o2 o3 z.1 z.2.1 z.2.2.1)) (k:=(d,45061)) rfl hbx2 rfl rfl ?_))
   refine Xv (f:=Zl.row) (l:=[⟨X.status,X.key,z.1,z.2.1,z.2.2.1⟩]) rfl rfl (Yo (v:=.ag (xc X.status X.key o1 o2 o3 z.1 z.2.1 z.2.2.1)) (cs:=Zl.row ⟨X.status,X.key,z.1,z.2.1,z.2.2.1⟩) rfl rfl rfl Xp) rfl ?_
   refine Qt (f:=Zl.row) (l:=rs) (m:=[⟨X.status,X.key,z.1,z.2.1,z.2.2.1⟩]) Zl.row_len rfl rfl rfl hA.1 ⟨?_,?_⟩ rfl fun o' ow' a1 a2 a3=>?_
   ·simp only [kB,kG,Wq];omega
   ·simp only [kB,kG,Wq];omega
   refine f_ h10 (Yc (k:=(d,24581)) (v:=v10) (cs':=He a b c o' (rs++[⟨X.status,X.key,z.1,z.2.1,z.2.2.1⟩])) rfl hB.bo rfl rfl rfl (e_ ?_))
   refine ih z.2.2.2 (rs++[⟨X.status,X.key,z.1,z.2.1,z.2.2.1⟩]) _ _ _ _ o' (by omega) (by simp only [kF,kB,kG];omega) (fun y hy=>hrm y (hsub.2 y hy)) h1 h2 h4 h7 h10 hB.out (Xd.mk a1 (Gv.app hA.2 rfl a3)) ?_ ?_
   ·intro σ nx bx ow e g4 g5 gb
    exact hF σ nx bx ow (by rw [hmr];simp only [zW,e];rfl) g4 g5 gb
   ·intro σ nx bx ow o4 y e g1 g2 g4 g10 gB
    refine hK σ nx bx ow o4 (⟨X.status,X.key,z.1,z.2.1,z.2.2.1⟩::y.1,y.2) (by rw [hmr];simp only [zW,e];rfl) g1 g2 g4 g10 ?_
    simpa using gB
end
end Go.AM

namespace Go.AM
open Go
attribute [local irreducible] WO Xq We
set_option maxRecDepth 4000
set_option maxHeartbeats 1000000
theorem Yly {s x:Zc} (h:x∈Lib.split s [10]):x.length<=s.length:=Zky _ _ _ _ h
theorem Xes (s:Zc):Lib.count s [10]<=s.length:=by
 have:=Lib.countB_le ⟨#[10]⟩ (by decide) s.length ⟨s.toArray⟩ (kU _)
 exact this
theorem Yvm (s:Zc):(Lib.split s [10]).length<=s.length+1:=by
 have h1:=Zhy [10] 0 (Lib.count s [10]) s
 have h2:=Xes s
 unfold Lib.split
 omega
section
variable {PG:Zb} {m:Zh} {s:Zc}
def ReK (m:Zh) (s:Zc) (v:AV):Prop:=v=.tup [(Qf m s).1.av,.i .i64 (Qf m s).2]
def ReQ (m:Zh) (s:Zc):AE->Sl->St->Prop:=Sb 0 Tm.res fun r _=>∃v,r.strip=some v/\ReK m s v
theorem Lo {σ:Sl} {nx v4:Nat} {bx:Xu} {ow:Xt} {e:Int} (hr:Qf m s=(sz,e)) (h4:σ 4=.p (0,1) v4 0) (h5:σ 5=.i .i64 e) (hb:lk bx (0,1)=some (v4,Qo)):ReQ m s .ret σ ⟨nx,bx,ow⟩:=by
 refine ⟨.tup [.ag Qo,.i .i64 e],?_,_,rfl,?_⟩
 ·simp only [Tm,Xk,Vb,Jr (st:=⟨nx,bx,ow⟩) (cs:=Qo) (n:=4) h4 hb rfl,h5,Ky,kJ]
 ·unfold ReK;rw [hr];rfl
theorem Yuo {σ:Sl} {nx v4:Nat} {bx:Xu} {ow:Xt} {o:Zm} {x:Zw} (hr:Qf m s=(x,0)) (h4:σ 4=.p (0,1) v4 0) (h5:σ 5=.i .i64 0) (hb:lk bx (0,1)=some (v4,He x.outcome x.failing x.steps o x.routines)):ReQ m s .ret σ ⟨nx,bx,ow⟩:=by
 refine ⟨.tup [.ag (He x.outcome x.failing x.steps o x.routines),.i .i64 0],?_,_,rfl,?_⟩
 ·simp only [Tm,Xk,Vb,Jr (st:=⟨nx,bx,ow⟩) (cs:=He x.outcome x.failing x.steps o x.routines) (n:=4) h4 hb rfl,h5,Ky,kJ]
 ·unfold ReK;rw [hr]
theorem Yx9 (H:HasD PG) (hm:Ww m) {σ:Sl} {nx v0 v4 v6 v10:Nat} {bx:Xu} {ow:Xt} {o:Zm} {a b c:Int} {rs:List Zl} {l:List Zc} (hw:Gw ⟨a,b,c,rs⟩) (hr:Qf m s=if Qy m ⟨a,b,c,rs⟩=(s,0) then (⟨a,b,c,rs⟩,0) else (sz,12))
  (h1:σ 1=.s s) (h2:σ 2=.p (0,0) v0 0) (h4:σ 4=.p (0,1) v4 0) (h10:σ 10=.p (0,24581) v10 0) (hB:RB 0 v0 v4 v6 v10 m a b c bx l o rs):W PG 0 Zst σ ⟨nx,bx,ow⟩ (ReQ m s):=by
 have hcall:=Zd2 H.toHasT hm hw
 generalize hR:Qy m ⟨a,b,c,rs⟩=R at hcall hr
 obtain ⟨back,e⟩:=R
 simp only at hcall hr
 refine Zp (q_ rfl (l_ (w:=m.av) h2 hB.b0 rfl rfl (l_ (w:=.ag (He a b c o rs)) h10 hB.bo rfl rfl (Ya (sc rfl rfl (sc (v:=.ag (He a b c o rs)) rfl rfl sn)) hcall (m_ (x_ rfl rfl (x_ rfl rfl (m_ (m_ (e_ ?_))))))))))
 refine q_ rfl (m_ (b_ (a:=.i .i64 e) (b:=.i .i64 0) rfl rfl Jc (m_ (Xa (g:=76) (p:=e≠0) rfl (fun he=>?_) (fun he=>?_)))))
 ·refine Gp (b:=true) rfl rfl (Gp (b:=true) rfl rfl (Gp (b:=true) rfl rfl (Mt rfl rfl (e_ (Xj rfl ?_)))))
  refine Cv (tz:=81) h4 rfl hB.b4 rfl fun σ nx bx g4 g5 gb=>?_
  refine Lo (m:=m) (s:=s) ?_ g4 g5 gb
  rw [hr,kA]
  intro h;injection h with _ h;exact he h
 ·have he:=kW.1 he
  subst he
  refine Zd rfl (Hw (l:=back) rfl (Zd rfl (Hw (l:=s) h1 (Zd rfl (b_ (a:=.s back) (b:=.s s) rfl rfl Sm (Jp rfl rfl (e_ (Yk rfl (fun hs=>?_) (fun hs=>Yg ?_)))))))))
  ·refine Cv (tz:=81) h4 rfl hB.b4 rfl fun σ nx bx g4 g5 gb=>?_
   refine Lo (m:=m) (s:=s) ?_ g4 g5 gb
   rw [hr,kA]
   intro h;injection h with h _;exact hs h
  ·have hs:=kW.1 hs
   refine q_ rfl (l_ (w:=.ag (He a b c o rs)) h10 hB.bo rfl rfl (Yc (w:=.ag (He a b c o rs)) (cs':=He a b c o rs) h4 hB.b4 rfl rfl rfl (m_ (e_ (Rc ?_)))))
   refine Yuo (m:=m) (s:=s) (o:=o) (x:=⟨a,b,c,rs⟩) ?_ h4 rfl Zj
   rw [hr,kD (by rw [hs])]
theorem Yk2 (H:HasD PG) (hL:Ni PG) (hM:PuM PG m) (hf:PG.fn 299=some Tm) (hm:Ww m) (hs:s.length<=1000000000):Ze PG 299 [m.av,.s s] (.tup [(Qf m s).1.av,.i .i64 (Qf m s).2]):=by
 have main:W PG 0 Zsw (Wc [m.av,.s s]) Zk (ReQ m s):=?_
 ·obtain ⟨v,h1,h2⟩:=Ze.of (PG:=PG) (f:=299) (args:=[m.av,.s s]) (K:=ReK m s) hf rfl main
  rw [<- show v=_ from h2];exact h1
 refine Zp (W.reg ?_)
 change WO PG 0 0 0 0 Zsk _ ⟨_,Yx [] (0,1) (1,Qo),[]⟩ _
 refine Qa (v:=m.av) rfl rfl (Xo (m_ (e_ ?_)))
 have b0:lk (Yx (Yx [] (0,1) (1,Qo)) (0,0) (0,m.av.cells)) (0,0)=some (0,m.av.cells):=Zj
 have b4:lk (Yx (Yx [] (0,1) (1,Qo)) (0,0) (0,m.av.cells)) (0,1)=some (1,Qo):=Zs rfl Zj
 revert b0 b4
 show _->_->W PG 0 Zrp _ ⟨_,Yx (Yx [] (0,1) (1,Qo)) (0,0) (0,m.av.cells),[]⟩ _
 generalize Yx (Yx [] (0,1) (1,Qo)) (0,0) (0,m.av.cells)=bx
 intro b0 b4
 refine Zp (q_ rfl (Hw (l:=s) rfl (Rg (l:=s) rfl (b_ (a:=.i .i64 (s.length:Int)) (b:=.i .i64 300000) rfl rfl Qb (e_ (Yk rfl (fun h=>?_) (fun h=>Yg ?_)))))))
 ·refine Cv (v4:=1) (tz:=20) rfl rfl b4 rfl fun σ nx bx g4 g5 gb=>?_
  refine Lo (m:=m) (s:=s) ?_ g4 g5 gb
  unfold Qf;rw [kD (by omega)]
 have hrd:Qf m s=match Rn m (Lib.split s [10]) with
  | none=>(sz,12)
  | some x=>if Qy m x=(s,0) then (x,0) else (sz,12):=by unfold Qf;rw [kA (by omega)];try (cases Rn m (Lib.split s [10])<;>rfl)
 have hls:s.length<=300000:=by omega
 refine Zp (W.reg ?_)
 rename_i nx1 _
 change WO PG 0 3 nx1 0 Zz6 _ ⟨_,Yx bx (0,12290) (nx1+2,[.sl .full []]),[]⟩ _
 have hsl:=Yvm s
 have hsm :∀x∈Lib.split s [10],x.length<=300000:=fun x hx=>jA (Yly hx) hls
 refine Hw (l:=s) rfl (Ya (sc rfl rfl (sc rfl rfl sn)) (Yz1 H hs) (Xo ?_))
 generalize Lib.split s [10]=L at hrd hsl hsm
 refine Yc (w:=.sl .ext (L.map Zt)) (cs':=[.sl .ext (L.map Zt)]) rfl Zj rfl rfl rfl (e_ ?_)
 have bl:lk (Yx (Yx bx (0,12290) (nx1+2,[.sl .full []])) (0,12290) (nx1+2,[.sl .ext (L.map Zt)])) (0,12290)=some (nx1+2,[.sl .ext (L.map Zt)]):=Zj
 have b0:lk (Yx (Yx bx (0,12290) (nx1+2,[.sl .full []])) (0,12290) (nx1+2,[.sl .ext (L.map Zt)])) (0,0)=some (0,m.av.cells):=Zs rfl (Zs rfl b0)
 have b4:lk (Yx (Yx bx (0,12290) (nx1+2,[.sl .full []])) (0,12290) (nx1+2,[.sl .ext (L.map Zt)])) (0,1)=some (1,Qo):=Zs rfl (Zs rfl b4)
 revert b0 b4 bl
 show _->_->_->W PG 0 Zs4 _ ⟨_,Yx (Yx bx (0,12290) (nx1+2,[.sl .full []])) (0,12290) (nx1+2,[.sl .ext (L.map Zt)]),[]⟩ _
 generalize Yx (Yx bx (0,12290) (nx1+2,[.sl .full []])) (0,12290) (nx1+2,[.sl .ext (L.map Zt)])=bx
 intro bl b0 b4
 refine q_ rfl (Zq9 (vs:=[.p (0,12290) (nx1+2) 0]) rfl (m_ (e_ ?_)))
 refine q_ rfl (m_ (Nd (p:=Hg) (k:=(0,12290)) (l:=L) hL rfl rfl yS bl fun nx' bx' hb1 hb2=>?_))
 have b0:=(hb2 (0,0) yS (Hk rfl)).trans b0
 have b4:=(hb2 (0,1) yS (Hk rfl)).trans b4
 generalize hN:Jo Hg L=N at hb1
 obtain ⟨first,ok,rest⟩:=N
 simp only at hb1
 have hfl:first.length<=300000:=by
  cases L with
  | nil=>rw [show Jo Hg []=([],false,[]) from rfl] at hN;injection hN with hN;rw [<- hN];exact yN _
  | cons x r=>
   simp only [Jo] at hN
   split at hN<;>injection hN with hN<;>rw [<- hN]
   ·exact hsm x jN
   ·exact yN _
 refine m_ (x_ rfl rfl (x_ rfl rfl (m_ (m_ (e_ ?_)))))
 have hX:(Hi first).1.routines=[]:=rfl
 have hcall:=Xew H (s:=first) (by omega)
 generalize hO:Hi first=O at hcall hX
 obtain ⟨⟨a,b,c,rs0⟩,is⟩:=O
 simp only at hX hcall
 subst hX
 refine Zp (W.reg ?_)
 change WO PG 0 6 nx' 0 Zyg _ ⟨_,Yx bx' (0,24581) (nx'+5,Qo),_⟩ _
 refine m_ (Gs rfl hcall fun st' hfr'=>?_)
 have b0:=(hfr'.1 (0,0) yS Ux).trans (Zs rfl b0)
 have b4:=(hfr'.1 (0,1) yS Ux).trans (Zs rfl b4)
 have bl:=(hfr'.1 (0,12290) yS Ux).trans (Zs rfl hb1)
 have bo:=(hfr'.1 (0,24581) yS Ux).trans Zj
 clear hfr' hb1 hb2
 obtain ⟨nx2,bx2,ow2⟩:=st'
 simp only at b0 b4 bl bo
 refine m_ (x_ rfl rfl (x_ rfl rfl (Xo (Yc (w:=.ag (He a b c .full [])) (cs':=He a b c .full []) rfl bo rfl rfl rfl (m_ (e_ ?_))))))
 have hB:RB 0 0 1 (nx1+2) (nx'+5) m a b c (Yx bx2 (0,24581) (nx'+5,He a b c .full [])) rest .full []:=⟨Zs rfl b0,Zs rfl b4,Zs rfl bl,Zj⟩
 refine Zp (q_ rfl (m_ (Wo (a:=ok) rfl (m_ ?_))))
 cases ok with
 | false=>
  refine Gp (b:=true) rfl rfl (Gp (b:=true) rfl rfl (Mt rfl rfl (e_ (Xj rfl ?_))))
  refine Cv (v4:=1) (tz:=40) rfl rfl hB.b4 rfl fun σ nx bx g4 g5 gb=>?_
  refine Lo (m:=m) (s:=s) ?_ g4 g5 gb
  rw [hrd]
  cases L with
  | nil=>rfl
  | cons x r=>
   simp only [Jo] at hN
   split at hN
   ·injection hN with _ hN;injection hN with hN _;cases hN
   ·rename_i h;simp only [Rn,kA h]
 | true=>
  obtain ⟨x,r,rfl,hc,rfl,rfl⟩ :∃x r,L=x::r/\(Zn Hg x).2=true/\first=x/\rest=r:=by
   cases L with
   | nil=>rw [show Jo Hg []=([],false,[]) from rfl] at hN;injection hN with _ hN;injection hN with hN _;cases hN
   | cons x r=>
    simp only [Jo] at hN
    split at hN
    ·rename_i h;injection hN with h1 hN;injection hN with _ h2;exact ⟨x,r,rfl,h,h1.symm,h2.symm⟩
    ·injection hN with _ hN;injection hN with hN _;cases hN
  refine Zd rfl (m_ (Zd rfl (Wo (a:=is) rfl (Jp rfl rfl (e_ ?_)))))
  simp only [kB] at hsl
  simp only [Rn,kD hc,hO] at hrd
  cases is with
  | false=>
   refine Xj rfl ?_
   refine Cv (v4:=1) (tz:=40) rfl rfl hB.b4 rfl fun σ nx bx g4 g5 gb=>?_
   refine Lo (m:=m) (s:=s) ?_ g4 g5 gb
   rw [hrd];rfl
  | true=>
   refine Di rfl (Yg ?_)
   refine Zp (Yn (Xa0 (s:=s) H hL hM (rest.length+1) rest [] _ _ _ _ .full (kC _) (by simp only [kG];omega) (fun y hy=>jA (hsm y (jL _ hy)) (by decide)) rfl rfl rfl rfl rfl hB ⟨trivial,trivial⟩ ?_ ?_))
   ·intro σ nx bx ow e g4 g5 gb
    refine Lo (m:=m) (s:=s) ?_ g4 g5 gb
    rw [hrd,kD rfl,e];rfl
   ·intro σ nx bx ow o z e g1 g2 g4 g10 gB
    have w:=Ztm _ _ _ (by omega) e
    have hwf:Gw ⟨a,b,c,z.1⟩:=by
     refine ⟨?_,w.2,by simp only;omega⟩
     have:a=(Hi first).1.outcome:=by rw [hO]
     rw [this];exact Xfd _
    refine Yx9 H hm (rs:=z.1) hwf ?_ g1 g2 g4 g10 (by simpa using gB)
    rw [hrd,kD rfl,e];rfl
end
end Go.AM

namespace Go.AM
open Go
set_option maxRecDepth 100000
structure HasD1 (PG:Zb):Prop extends HasD PG where
 f299:PG.fn 299=some Tm
 f305:PG.fn 305=some Za3
 f309:PG.fn 309=some Ic
 f302:PG.fn 302=some Oo
 f314:PG.fn 314=some Pn
 f292:PG.fn 292=some Ok
 f303:PG.fn 303=some Ib
 f294:PG.fn 294=some Za1
 f296:PG.fn 296=some Og
 f297:PG.fn 297=some Er
 f293:PG.fn 293=some Ze1
 f290:PG.fn 290=some Zfz
def vN (n:Int):Za:=Za.mk 2 n [] [] false
def vY:Za:=Za.mk 1 1 [] [] false
def Kc:Zh:=Zh.mk [] [] [(Ye.mk [109,97,105,110] 0 0 [] (List.replicate 6 Ko.zero) [] []),(Ye.mk [102] 0 0 [(Xh.mk [120] 0)] (List.replicate 6 Ko.zero) [] [])]
def Oc:Zl:=Zl.mk 2 (-3) [(Zg.mk 0 1 0 [])] [(Zi.mk 0 1 true vY)] []
def Gk:Zw:=Zw.mk 2 0 17 [(Zl.mk 1 0 [(Zg.mk 0 4 0 [])] [] [(Zf.mk 1 (vN 5) 0)])]
def Xcc:Zc:=[111,117,116,99,111,109,101,32,112,97,110,105,99,44,32,102,97,105,108,105,110,103,32,48,44,32,115,116,101,112,115,32,49,55,10,103,111,114,111,117,116,105,110,101,32,48,58,32,114,101,97,100,121,10,32,32,35,48,32,48,32,34,109,97,105,110,34,32,97,116,32,52,32,99,97,108,108,10,32,32,112,97,110,105,99,32,53,10]
def Yvv:List Zc:=[[103,111,114,111,117,116,105,110,101,32,48,58,32,98,108,111,99,107,101,100,32,45,51],[32,32,35,48,32,48,32,34,109,97,105,110,34,32,97,116,32,49,32,99,97,108,108],[32,32,100,101,102,101,114,32,48,32,49,32,34,102,34,32,119,105,116,104,32,116,114,117,101]]
theorem Hm:Ww Kc:=Ww.of (by decide +kernel)
theorem Ygh {n:Int} (hn:-9223372036854775808<=n/\n<9223372036854775808):Wf (vN n):=.mk (by decide) hn (by decide) (by simp)
theorem Yzl:Wf vY:=.mk (by decide) (by decide) (by decide) (by simp)
theorem Ynb:Qq Oc:=by
 refine ⟨by decide,by decide,fun y hy=>?_,fun y hy=>?_,fun y hy=>(by cases hy),by decide,by decide,by decide⟩
 ·rw [jV.1 hy];exact ⟨by decide,by decide,by simp⟩
 ·rw [jV.1 hy];exact Yzl
theorem Yn0:Gw Gk:=by
 refine ⟨by decide,fun x hx=>?_,by decide⟩
 rw [jV.1 hx]
 refine ⟨by decide,by decide,fun y hy=>?_,by simp,fun y hy=>?_,by decide,by decide,by decide⟩
 ·rw [jV.1 hy];exact ⟨by decide,by decide,by simp⟩
 ·rw [jV.1 hy];exact ⟨by decide,Ygh (by decide),by decide⟩
theorem Yr4:Qy Kc Gk=(Xcc,0):=by decide +kernel
theorem Yjk:Gf Kc 0 Oc=(Yvv,0):=by decide +kernel
section
variable {PG:Zb} (H:HasD1 PG)
include H
theorem Zk3 {m:Zh} (hm:Ww m) {s:Zc} (hs:s.length<=1000000000):Ze PG 299 [m.av,.s s] (.tup [(Qf m s).1.av,.i .i64 (Qf m s).2]):=
 Yk2 H.toHasD (Zwt H.toHasD H.f305) (Ypj H.toHasD (Zwt H.toHasD H.f305) H.f309 hm) H.f299 hm hs
theorem Za9 (n:Int):Ze PG 292 [.i .i64 n] ((vN n).av):=by
 obtain ⟨x,rfl,h⟩:=Yhx H.f292 (n0:=n) (K:=fun x=>x=vN n) (by unfold Zhj;rfl)
 exact h
theorem Ysx:Ze PG 303 [] (vY.av):=by
 obtain ⟨x,rfl,h⟩:=Xh5 H.f303 (K:=fun x=>x=vY) (by unfold Zkb;rfl)
 exact h
theorem Ydy:Ze PG 294 [] (Oc.av):=by
 obtain ⟨x,rfl,h⟩:=Yhu H.f294 (K:=fun x=>x=Oc) (by unfold Zhp;exact ⟨_,Ysx H,rfl⟩)
 exact h
theorem Rd:Ze PG 296 [] (Gk.av):=by
 obtain ⟨x,rfl,h⟩:=Yzy H.f296 (K:=fun x=>x=Gk) (by unfold Zhh;exact ⟨_,Za9 H 5,rfl⟩)
 exact h
theorem Da:Ze PG 297 [] (Kc.av):=by
 obtain ⟨x,rfl,h⟩:=Xgw H.f297 (K:=fun x=>x=Kc) (by unfold Zpb;rw [Ss];rfl)
 exact h
theorem Zqu {s:Zw} {t:Zc} (hs:Gw s) (h:Qy Kc s=(t,0)):Ze PG 293 [s.av,.s t] (.b true):=by
 obtain ⟨x,rfl,h⟩:=Xbo H.f293 (s0:=s) (eu:=t) (K:=fun x=>x=true) (by
  have c:=Zd2 H.toHasT Hm hs
  rw [h] at c
  have hf:Kb Kc s=true:=by
   unfold Qy at h
   split at h
   ·assumption
   ·injection h with _ h;cases h
  have ht:Mi Kc s=t/\t.length<=300000:=by
   unfold Qy at h
   rw [kD hf] at h
   split at h
   ·injection h with _ h;cases h
   ·injection h with h _;exact ⟨h,by rw [<- h];omega⟩
  have r:Qf Kc t=(s,0):=by rw [<- ht.1];exact Yxs Hm hs hf (by rw [ht.1];exact ht.2)
  have c2:=Zk3 H Hm (s:=t) (by omega)
  rw [r] at c2
  have hs0:Zd3 s:=⟨hs.o,fun x hx=>by
   have w:=hs.r x hx
   have:=w.fl;have:=w.dl;have:=w.pl
   exact ⟨w.st,w.k,w.f,w.d,w.p,by omega,by omega,by omega⟩,hs.n⟩
  unfold Zj3
  exact ⟨_,Da H,_,_,c,_,Da H,_,_,c2,fun _=>⟨fun _=>⟨fun _=>⟨_,Zxk H.toHasT H.f314 H.f302 hs0,Zeb.2 rfl⟩,fun h=>absurd rfl h⟩,fun h=>absurd rfl h⟩,fun h=>absurd rfl h⟩)
 exact h
theorem Xi7:Ze PG 290 [] (.b true):=by
 obtain ⟨x,rfl,h⟩:=Xih H.f290 (K:=fun x=>x=true) (by
  have c:=Fg H.toHasT (g:=0) Hm Ynb
  rw [Yjk] at c
  unfold Zlx
  exact ⟨_,Da H,_,Ydy H,_,_,c,_,Rd H,_,Zqu H Yn0 Yr4,fun _=>⟨fun _=>⟨_,c29 H.toHas03 (by decide),kN rfl⟩,fun h=>absurd rfl h⟩,fun h=>(by cases h)⟩)
 exact h
end
end Go.AM
