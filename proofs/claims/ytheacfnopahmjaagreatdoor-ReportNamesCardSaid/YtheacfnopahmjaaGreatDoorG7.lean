/- The statement ReportNames: for every input the law returns true, and each argument reads afterwards as before. No conditions. -/
import Derived.Test.YtheacfnopahmjaaGreatDoorG6
import Derived.Test.YtheacfnopahmjaaGreatDoorG5
import Derived.Test.YtheacfnopahmjaaGreatDoorG2
import Derived.Test.YtheacfnopahmjaaGreatDoorTie
import Derived.Test.YtheacfnopahmjaaGreatDoorCards
import Derived.SevenTiedAt
set_option linter.all false
namespace Go.AM
open Go
set_option maxRecDepth 100000
structure HasD4 (PG:Zb):Prop extends HasD1 PG where
 f295:PG.fn 295=some Zc0
 f298:PG.fn 298=some Zdn
def Tc:Nat->Za->Bool
 | 0,_=>false
 | d+1,v=>decide (0<=v.kind/\v.kind<256)&&decide (-9223372036854775808<=v.int/\v.int<9223372036854775808)&&decide (v.list.length<=9223372036854775807)&&v.list.all (Tc d)
theorem Zei :∀{d:Nat} {v:Za},Tc d v=true->Wf v
 | 0,v,h=>by unfold Tc at h;cases h
 | d+1,v,h=>by
  unfold Tc at h
  simp only [kL,kV,zB] at h
  rw [Za.eta v]
  exact .mk h.1.1.1 h.1.1.2 h.1.2 fun x hx=>Zei (h.2 x hx)
def wrB (x:Zl):Bool:=decide (0<=x.status)&&decide (-9223372036854775808<=x.key/\x.key<9223372036854775808)&&(decide (x.frames.length<=1000)&&decide (x.defers.length<=1000)&&decide (x.panics.length<=1000))
 && x.frames.all (fun y=>decide (0<=y.mode)&&decide (y.locals.length<=1000)&&y.locals.all fun l=>Tc 3 l.value)&&x.defers.all (fun y=>Tc 3 y.arg)
 && x.panics.all fun y=>decide (0<=y.tag/\y.tag<18446744073709551616)&&Tc 3 y.value&&decide (0<=y.flags/\y.flags<18446744073709551616)
theorem Zq2 {x:Zl} (h:wrB x=true):Qq x:=by
 unfold wrB at h
 simp only [kL,kV,zB] at h
 obtain ⟨⟨⟨⟨⟨h1,h2⟩,⟨h3,h4⟩,h5⟩,h6⟩,h7⟩,h8⟩:=h
 exact ⟨h1,h2,fun y hy=>⟨(h6 y hy).1.1,by have:=(h6 y hy).1.2;omega,fun l hl=>Zei ((h6 y hy).2 l hl)⟩,fun y hy=>Zei (h7 y hy),fun y hy=>⟨(h8 y hy).1.1,Zei (h8 y hy).1.2,(h8 y hy).2⟩,by omega,by omega,by omega⟩
def My (s:Zw):Bool:=decide (0<=s.outcome)&&decide (s.routines.length<=1000)&&s.routines.all wrB
theorem Zlw {s:Zw} (h:My s=true):Gw s:=by
 unfold My at h
 simp only [kL,kV,zB] at h
 exact ⟨h.1.1,fun x hx=>Zq2 (h.2 x hx),by omega⟩
theorem Yqn {m:Zh} {s:Zc} (h:(Qf m s).2=12):Qf m s=(sz,12):=by
 unfold Qf at h ⊢
 split
 ·rename_i h1;rw [kD h1] at h;cases h
 ·rename_i h1
  rw [kA h1] at h
  split
  ·rfl
  ·rename_i h2
   rw [h2] at h
   split
   ·rename_i h3;simp only [h3,jO] at h;cases h
   ·rfl
theorem Zen {m:Zh} {s:Zw} (h:Kb m s=false):Qy m s=([],8)/\Ci m s=8:=by
 unfold Qy Ci
 rw [h]
 exact ⟨rfl,rfl⟩
theorem Ypz {m:Zh} {x:Zl} (h:Jt m x=false):Kb m ⟨2,0,17,[x]⟩=false/\Gf m 0 x=([],8):=by
 constructor
 ·unfold Kb
  simp [h]
 ·unfold Gf
  rw [kA (by decide),h]
  rfl
def Yd3:Zw:=⟨3,-1,5000,[⟨3,0,[],[],[]⟩,⟨1,0,[⟨1,5,2,[⟨0,vN 9⟩]⟩,⟨0,0,3,[]⟩],[⟨1,0,false,vz⟩,⟨0,1,true,Za.mk 4 0 [] [] true⟩,⟨0,0,true,vN (-1)⟩],[⟨0,vz,6⟩,⟨4,vN 2,1⟩]⟩,Oc]⟩
def Yso:Zc:=([111,117,116,99,111,109,101,32,100,101,97,100,108,111,99,107,44,32,102,97,105,108,105,110,103,32,45,49,44,32,115,116,101,112,115,32,53,48,48,48,10,103,111,114,111,117,116,105,110,101,32,48,58,32,100,111,110,101,10,103,111,114,111,117,116,105,110,101,32,49,58,32,114,101,97,100,121,10,32,32,35,48,32,49,32,34,102,34,32,97,116,32,53,32,112,97,110,105,99,10,32,32,32,32,48,32,34,120,34,32,61,32,57,10,32,32,35,49,32,48,32,34,109,97,105,110,34,32,97,116,32,48,32,101,120,105,116,10,32,32,100,101,102,101,114,32,49,32,48,32,34,109,97,105,110,34,10,32,32,100,101,102,101,114,32,48,32,49,32,34,102,34,32,119,105,116,104,32,38,46,46,46,10,32,32,100,101,102,101,114,32,48,32,48,32,34,109,97,105,110,34,32,119,105,116,104,32,45,49,10,32,32,101,120,105,116,32,97,98,111,114,116,101,100,10,32,32,102,97,117,108,116,32,50,58,32,110,105,108,32,112,111,105,110,116,101,114,32,114,101,99,111,118,101,114,101,100,10,103,111,114,111,117,116,105,110,101,32,50,58,32,98,108,111,99,107,101,100,32,45,51,10,32,32,35,48,32,48,32,34,109,97,105,110,34,32,97,116,32,49,32,99,97,108,108,10,32,32,100,101,102,101,114,32,48,32,49,32,34,102,34,32,119,105,116,104,32,116,114,117,101,10]:Zc)
theorem Yyp:Qy Kc Yd3=(Yso,0):=by decide +kernel
def Ycs:Zw:=⟨1,-1,0,[]⟩
theorem Yt4:Qy Kc Ycs=(([111,117,116,99,111,109,101,32,110,111,114,109,97,108,44,32,102,97,105,108,105,110,103,32,45,49,44,32,115,116,101,112,115,32,48,10]:Zc),0):=by decide +kernel
theorem Ysn:My ⟨0,0,17,Gk.routines⟩=true/\Kb Kc ⟨0,0,17,Gk.routines⟩=false:=by
 decide +kernel
theorem Ysh:My ⟨9,0,17,Gk.routines⟩=true/\Kb Kc ⟨9,0,17,Gk.routines⟩=false:=by
 decide +kernel
theorem Yrv:My ⟨2,1,17,Gk.routines⟩=true/\Kb Kc ⟨2,1,17,Gk.routines⟩=false:=by
 decide +kernel
theorem Xa6:My ⟨2,-2,17,Gk.routines⟩=true/\Kb Kc ⟨2,-2,17,Gk.routines⟩=false:=by
 decide +kernel
theorem Ysy:My ⟨2,0,5001,Gk.routines⟩=true/\Kb Kc ⟨2,0,5001,Gk.routines⟩=false:=by
 decide +kernel
theorem Yg5:My ⟨2,0,-1,Gk.routines⟩=true/\Kb Kc ⟨2,0,-1,Gk.routines⟩=false:=by
 decide +kernel
theorem Yzp:My ⟨2,0,17,Qu 17 Nj⟩=true/\Kb Kc ⟨2,0,17,Qu 17 Nj⟩=false:=by
 rw [Ss];decide +kernel
section
variable {PG:Zb} (H:HasD4 PG)
include H
theorem Ua {x:Zl} (hx:wrB x=true) (hn:Jt Kc x=false):Ze PG 295 [x.av] (.b true):=by
 obtain ⟨y,rfl,h⟩:=Ywv H.f295 (x0:=x) (K:=fun y=>y=true) (by
  have w:=Zq2 hx
  have ws:Gw ⟨2,0,17,[x]⟩:=⟨show (0:Int)<=2 by decide,fun y hy=>by rw [jV.1 hy];exact w,by simp⟩
  obtain ⟨n1,n2⟩:=Ypz hn
  have k1:=Zd2 H.toHasT Hm ws
  rw [(Zen n1).1] at k1
  have k2:=Fg H.toHasT (g:=0) Hm w
  rw [n2] at k2
  have k3:=Zpa H.toHasT Hm ws
  rw [(Zen n1).2] at k3
  unfold Zgq
  exact ⟨_,Rd H.toHasD1,_,Da H.toHasD1,_,_,k1,_,Da H.toHasD1,_,_,k2,_,Da H.toHasD1,_,k3,fun _=>⟨fun _=>kN rfl,fun h=>absurd rfl h⟩,fun h=>absurd rfl h⟩)
 exact h
theorem Uj {s:Zc} (hs:s.length<=1000000) (hn:(Qf Kc s).2=12):Ze PG 298 [.s s] (.b true):=by
 obtain ⟨y,rfl,h⟩:=Ylh H.f298 (s0:=s) (K:=fun y=>y=true) (by
  have k1:=Zk3 H.toHasD1 Hm (s:=s) (by omega)
  rw [Yqn hn] at k1
  have hz:Zd3 sz:=⟨by decide,by simp,by simp⟩
  unfold Zhf
  exact ⟨_,Da H.toHasD1,_,_,k1,fun _=>⟨_,Zxk H.toHasT H.f314 H.f302 (b:=sz) hz,Zeb.2 rfl⟩,fun h=>absurd rfl h⟩)
 exact h
theorem Yfa:Zb5 PG (fun x=>x=true) 2 2 12 12 3 0 [] [] [] true true true true:=by
 have e1:Gf Kc 16 Nj=([],2):=by decide +kernel
 have e2:Gf Kc (-1) Nj=([],2):=by decide +kernel
 have e3:Gf Kc 15 Nj=([([103,111,114,111,117,116,105,110,101,32,49,53,58,32,100,111,110,101]:Zc)],0):=by decide +kernel
 have hw:Qq Nj:=Zq2 (by decide +kernel)
 have k1:=Fg H.toHasT (g:=16) Hm hw
 have k2:=Fg H.toHasT (g:=-1) Hm hw
 have k3:=Fg H.toHasT (g:=15) Hm hw
 rw [e1] at k1
 rw [e2] at k2
 rw [e3] at k3
 have k4:=Zk3 H.toHasD1 Hm (s:=Qu 300001 0) (by rw [Zwx];decide)
 rw [show Qf Kc (Qu 300001 0)=(sz,4) by unfold Qf;rw [kD (by rw [Zwx];decide)]] at k4
 unfold Zb5
 refine ⟨_,Da H.toHasD1,_,_,k1,?_⟩
 unfold Znk
 refine ⟨_,Da H.toHasD1,_,_,k2,?_⟩
 unfold Znh
 refine ⟨_,Da H.toHasD1,_,_,k3,?_⟩
 unfold Zn7
 exact ⟨_,Da H.toHasD1,_,_,k4,⟨fun _=>⟨fun _=>⟨fun _=>⟨fun _=>⟨fun _=>⟨fun _=>⟨fun _=>⟨fun _=>⟨fun _=>⟨fun _=>⟨fun _=>⟨_,c29 H.toHas03 (by decide),fun _=>⟨fun _=>⟨Xi7 H.toHasD1,rfl⟩,fun h=>absurd rfl h⟩,fun h=>(by simp at h)⟩,fun h=>absurd rfl h⟩,fun h=>absurd rfl h⟩,fun h=>absurd rfl h⟩,fun h=>(by cases h)⟩,fun h=>(by cases h)⟩,fun h=>(by cases h)⟩,fun h=>(by cases h)⟩,fun h=>absurd rfl h⟩,fun h=>absurd rfl h⟩,fun h=>absurd rfl h⟩,fun h=>absurd rfl h⟩⟩
theorem Xa5:Zdu PG (fun x=>x=true) 2 2 12 12 3 0 [] [] [] true true true:=by
 unfold Zdu
 exact ⟨Uj H (s:=([]:Zc)) (by decide) (by decide +kernel),Uj H (s:=([111,117,116,99,111,109,101,32,112,97,110,105,99,44,32,102,97,105,108,105,110,103,32,48,44,32,115,116,101,112,115,32,49,55]:Zc)) (by decide) (by decide +kernel),Uj H (s:=([111,117,116,99,111,109,101,32,112,97,110,105,99,44,32,102,97,105,108,105,110,103,32,48,44,32,115,116,101,112,115,32,49,55,10]:Zc)) (by decide) (by decide +kernel),Uj H (s:=([111,117,116,99,111,109,101,32,112,97,110,105,99,44,32,102,97,105,108,105,110,103,32,48,44,32,115,116,101,112,115,32,49,55,10,103,111,114,111,117,116,105,110,101,32,48,58,32,114,101,97,100,121,10]:Zc)) (by decide) (by decide +kernel),Uj H (s:=([111,117,116,99,111,109,101,32,112,97,110,105,99,44,32,102,97,105,108,105,110,103,32,48,44,32,115,116,101,112,115,32,49,55,10,103,111,114,111,117,116,105,110,101,32,48,58,32,114,101,97,100,121,10,32,32,35,49,32,48,32,34,109,97,105,110,34,32,97,116,32,52,32,99,97,108,108,10]:Zc)) (by decide) (by decide +kernel),Uj H (s:=([111,117,116,99,111,109,101,32,112,97,110,105,99,44,32,102,97,105,108,105,110,103,32,48,44,32,115,116,101,112,115,32,49,55,10,103,111,114,111,117,116,105,110,101,32,48,58,32,114,101,97,100,121,10,32,32,35,48,32,48,32,34,102,34,32,97,116,32,52,32,99,97,108,108,10]:Zc)) (by decide) (by decide +kernel),Uj H (s:=([111,117,116,99,111,109,101,32,112,97,110,105,99,44,32,102,97,105,108,105,110,103,32,48,44,32,115,116,101,112,115,32,49,55,10,103,111,114,111,117,116,105,110,101,32,48,58,32,114,101,97,100,121,10,35,48,32,48,32,34,109,97,105,110,34,32,97,116,32,52,32,99,97,108,108,10]:Zc)) (by decide) (by decide +kernel),Uj H (s:=([111,117,116,99,111,109,101,32,112,97,110,105,99,44,32,102,97,105,108,105,110,103,32,48,44,32,115,116,101,112,115,32,49,55,10,103,111,114,111,117,116,105,110,101,32,48,58,32,114,101,97,100,121,10,32,32,35,48,32,48,32,34,109,97,105,110,34,32,97,116,32,52,32,99,97,108,108,10,32,32,112,97,110,105,99,32,53,10,32,32,35,49,32,48,32,34,109,97,105,110,34,32,97,116,32,52,32,99,97,108,108,10]:Zc)) (by decide) (by decide +kernel),Uj H (s:=([111,117,116,99,111,109,101,32,112,97,110,105,99,44,32,102,97,105,108,105,110,103,32,48,44,32,115,116,101,112,115,32,49,55,10,103,111,114,111,117,116,105,110,101,32,48,58,32,114,101,97,100,121,10,32,32,35,48,32,48,32,34,109,97,105,110,34,32,97,116,32,52,32,99,97,108,108,10,32,32,112,97,110,105,99,32,53,10,32,32,100,101,102,101,114,32,48,32,48,32,34,109,97,105,110,34,10]:Zc)) (by decide) (by decide +kernel),Uj H (s:=([111,117,116,99,111,109,101,32,112,97,110,105,99,44,32,102,97,105,108,105,110,103,32,48,44,32,115,116,101,112,115,32,49,55,10,103,111,114,111,117,116,105,110,101,32,48,58,32,114,101,97,100,121,10,32,32,35,48,32,48,32,34,109,97,105,110,34,32,97,116,32,52,32,99,97,108,108,10,32,32,100,101,102,101,114,32,48,32,48,32,34,109,97,105,110,34,32,119,105,116,104,10]:Zc)) (by decide) (by decide +kernel),Uj H (s:=([111,117,116,99,111,109,101,32,112,97,110,105,99,44,32,102,97,105,108,105,110,103,32,48,44,32,115,116,101,112,115,32,49,55,10,103,111,114,111,117,116,105,110,101,32,48,58,32,114,101,97,100,121,10,32,32,35,48,32,48,32,34,109,97,105,110,34,32,97,116,32,52,32,99,97,108,108,10,32,32,100,101,102,101,114,32,48,32,49,32,34,109,97,105,110,34,10]:Zc)) (by decide) (by decide +kernel),Uj H (s:=([111,117,116,99,111,109,101,32,112,97,110,105,99,44,32,102,97,105,108,105,110,103,32,48,44,32,115,116,101,112,115,32,49,55,10,103,111,114,111,117,116,105,110,101,32,48,58,32,114,101,97,100,121,10,32,32,35,48,32,48,32,34,109,97,105,110,34,32,97,116,32,52,32,99,97,108,108,10,103,111,114,111,117,116,105,110,101,32,50,58,32,100,111,110,101,10]:Zc)) (by decide) (by decide +kernel),Uj H (s:=([111,117,116,99,111,109,101,32,112,97,110,105,99,44,32,102,97,105,108,105,110,103,32,48,44,32,115,116,101,112,115,32,49,55,10,103,111,114,111,117,116,105,110,101,32,48,58,32,114,101,97,100,121,10,32,32,35,48,32,48,32,34,109,97,105,110,34,32,97,116,32,52,32,99,97,108,108,10,103,111,114,111,117,116,105,110,101,32,49,58,32,98,108,111,99,107,101,100,10]:Zc)) (by decide) (by decide +kernel),Uj H (s:=([103,111,114,111,117,116,105,110,101,32,48,58,32,100,111,110,101,10]:Zc)) (by decide) (by decide +kernel),Uj H (s:=([111,117,116,99,111,109,101,32,112,97,110,105,99,44,32,102,97,105,108,105,110,103,32,45,49,44,32,115,116,101,112,115,32,48,49,55,10]:Zc)) (by decide) (by decide +kernel),Uj H (s:=([111,117,116,99,111,109,101,32,112,97,110,105,99,44,32,102,97,105,108,105,110,103,32,45,49,44,32,115,116,101,112,115,32,49,55,32,10]:Zc)) (by decide) (by decide +kernel),Uj H (s:=([111,117,116,99,111,109,101,32,112,97,110,105,99,44,32,102,97,105,108,105,110,103,32,45,49,44,32,115,116,101,112,115,32,49,55,10,10]:Zc)) (by decide) (by decide +kernel),Uj H (s:=([111,117,116,99,111,109,101,32,112,97,110,105,99,44,32,102,97,105,108,105,110,103,32,45,49,44,32,115,116,101,112,115,32,49,55,10,32,32,35,48,32,48,32,34,109,97,105,110,34,32,97,116,32,52,32,99,97,108,108,10]:Zc)) (by decide) (by decide +kernel),Yfa H⟩
theorem Ta {P1:Bool->Int->Prop} {s:Zw} {i j:Int} (hs:My s=true/\Kb Kc s=false) (hj:IntKind.i64.wrap (i+1)=j) (h:P1 true j):Bq PG (fun x=>x=true) P1 2 2 12 12 3 0 [] [] [] true true true i s:=by
 have w:=Zlw hs.1
 have k1:=Zd2 H.toHasT Hm w
 rw [(Zen hs.2).1] at k1
 have k3:=Zpa H.toHasT Hm w
 rw [(Zen hs.2).2] at k3
 unfold Bq
 rw [hj]
 exact ⟨_,Da H.toHasD1,_,_,k1,fun _=>⟨_,Da H.toHasD1,_,k3,fun _=>h,fun h=>absurd rfl h⟩,fun h=>(by cases h)⟩
theorem Xc1:Zck PG (fun x=>x=true) 2 2 12 12 3 0 [] [] [] true true:=by
 unfold Zck Zh5
 intro P1 hP
 have s7:P1 true 7:=hP _ _ (by unfold Bu;exact ⟨fun h=>absurd h (by decide),fun _=>Xa5 H⟩)
 have s6:P1 true 6:=hP _ _ (by unfold Bu;exact ⟨fun _=>⟨_,Rd H.toHasD1,fun h=>absurd h (by decide),fun _=>⟨fun h=>absurd h (by decide),fun _=>⟨fun h=>absurd h (by decide),fun _=>⟨fun h=>absurd h (by decide),fun _=>⟨fun h=>absurd h (by decide),fun _=>⟨fun h=>absurd h (by decide),fun _=>⟨fun _=>Ta H Yzp (by decide) s7,fun h=>absurd rfl h⟩⟩⟩⟩⟩⟩⟩,fun h=>absurd (by decide) h⟩)
 have s5:P1 true 5:=hP _ _ (by unfold Bu;exact ⟨fun _=>⟨_,Rd H.toHasD1,fun h=>absurd h (by decide),fun _=>⟨fun h=>absurd h (by decide),fun _=>⟨fun h=>absurd h (by decide),fun _=>⟨fun h=>absurd h (by decide),fun _=>⟨fun h=>absurd h (by decide),fun _=>⟨fun _=>Ta H Yg5 (by decide) s6,fun h=>absurd rfl h⟩⟩⟩⟩⟩⟩,fun h=>absurd (by decide) h⟩)
 have s4:P1 true 4:=hP _ _ (by unfold Bu;exact ⟨fun _=>⟨_,Rd H.toHasD1,fun h=>absurd h (by decide),fun _=>⟨fun h=>absurd h (by decide),fun _=>⟨fun h=>absurd h (by decide),fun _=>⟨fun h=>absurd h (by decide),fun _=>⟨fun _=>Ta H Ysy (by decide) s5,fun h=>absurd rfl h⟩⟩⟩⟩⟩,fun h=>absurd (by decide) h⟩)
 have s3:P1 true 3:=hP _ _ (by unfold Bu;exact ⟨fun _=>⟨_,Rd H.toHasD1,fun h=>absurd h (by decide),fun _=>⟨fun h=>absurd h (by decide),fun _=>⟨fun h=>absurd h (by decide),fun _=>⟨fun _=>Ta H Xa6 (by decide) s4,fun h=>absurd rfl h⟩⟩⟩⟩,fun h=>absurd (by decide) h⟩)
 have s2:P1 true 2:=hP _ _ (by unfold Bu;exact ⟨fun _=>⟨_,Rd H.toHasD1,fun h=>absurd h (by decide),fun _=>⟨fun h=>absurd h (by decide),fun _=>⟨fun _=>Ta H Yrv (by decide) s3,fun h=>absurd rfl h⟩⟩⟩,fun h=>absurd (by decide) h⟩)
 have s1:P1 true 1:=hP _ _ (by unfold Bu;exact ⟨fun _=>⟨_,Rd H.toHasD1,fun h=>absurd h (by decide),fun _=>⟨fun _=>Ta H Ysh (by decide) s2,fun h=>absurd rfl h⟩⟩,fun h=>absurd (by decide) h⟩)
 have s0:P1 true 0:=hP _ _ (by unfold Bu;exact ⟨fun _=>⟨_,Rd H.toHasD1,fun _=>Ta H Ysn (by decide) s1,fun h=>absurd rfl h⟩,fun h=>absurd (by decide) h⟩)
 exact s0
theorem Yw3:Zf5 PG (fun x=>x=true) 2 2 12 12 3 0 [] [] [] [⟨0,0,0,[]⟩] true:=by
 unfold Zf5
 exact ⟨Ua H (x:=⟨0,0,[],[],[]⟩) (by decide +kernel) (by decide +kernel),Ua H (x:=⟨1,0,[],[],[]⟩) (by decide +kernel) (by decide +kernel),Ua H (x:=⟨2,1,[],[],[]⟩) (by decide +kernel) (by decide +kernel),Ua H (x:=⟨4,0,[⟨0,0,0,[]⟩],[],[]⟩) (by decide +kernel) (by decide +kernel),Ua H (x:=⟨1,1,[⟨0,0,0,[]⟩],[],[]⟩) (by decide +kernel) (by decide +kernel),Ua H (x:=⟨3,1,[],[],[]⟩) (by decide +kernel) (by decide +kernel),Ua H (x:=⟨3,0,[⟨0,0,0,[]⟩],[],[]⟩) (by decide +kernel) (by decide +kernel),Ua H (x:=⟨3,0,[],[⟨0,0,false,vz⟩],[]⟩) (by decide +kernel) (by decide +kernel),Ua H (x:=⟨3,0,[],[],[⟨0,vz,2⟩]⟩) (by decide +kernel) (by decide +kernel),Ua H (x:=⟨1,0,[⟨0,6,0,[]⟩],[],[]⟩) (by decide +kernel) (by decide +kernel),Ua H (x:=⟨1,0,Qu 171 Zg.zero,[],[]⟩) (by rw [Ss];decide +kernel) (by rw [Ss];decide +kernel),Ua H (x:=⟨1,0,[⟨0,0,0,[]⟩],[⟨1,0,false,vz⟩],[]⟩) (by decide +kernel) (by decide +kernel),Ua H (x:=⟨1,0,[⟨0,0,0,[]⟩],[⟨(-1),0,false,vz⟩],[]⟩) (by decide +kernel) (by decide +kernel),Ua H (x:=⟨1,0,[⟨0,0,0,[]⟩],[⟨0,2,false,vz⟩],[]⟩) (by decide +kernel) (by decide +kernel),_,Za9 H.toHasD1 0,Ua H (x:=⟨1,0,[⟨0,0,0,[]⟩],[⟨0,0,false,vN 0⟩],[]⟩) (by decide +kernel) (by decide +kernel),Ua H (x:=⟨1,0,[⟨0,0,0,[]⟩],[⟨0,0,true,vz⟩],[]⟩) (by decide +kernel) (by decide +kernel),Ua H (x:=⟨1,0,[⟨0,0,0,[]⟩],[⟨0,0,true,Za.mk 3 0 [] [] false⟩],[]⟩) (by decide +kernel) (by decide +kernel),Ua H (x:=⟨1,0,[⟨0,0,0,[]⟩],Qu 411 Zi.zero,[]⟩) (by rw [Ss];decide +kernel) (by rw [Ss];decide +kernel),Ua H (x:=⟨1,0,[⟨0,0,0,[]⟩],[],[⟨0,vz,0⟩]⟩) (by decide +kernel) (by decide +kernel),Xc1 H⟩
theorem Yhh:Zg1 PG (fun x=>x=true) 2 2 12 12 3 0 [] [] [] [⟨0,0,0,[]⟩]:=by
 unfold Zg1
 refine ⟨_,Za9 H.toHasD1 9,_,Za9 H.toHasD1 (-1),_,Za9 H.toHasD1 2,?_⟩
 unfold Zlq
 exact ⟨_,Ydy H.toHasD1,Zqu H.toHasD1 (s:=Yd3) (Zlw (by decide +kernel)) Yyp,Zqu H.toHasD1 (s:=Ycs) (Zlw (by decide +kernel)) Yt4,Yw3 H⟩
theorem Xgn:Zes PG (fun x=>x=true):=by
 unfold Zes
 refine ⟨_,_,Mc H.toHasT 0,?_⟩
 unfold Zps
 refine ⟨_,_,Mc H.toHasT 9,?_⟩
 unfold Zmv
 refine ⟨_,_,Dy H.toHasT [],?_⟩
 unfold Zpj
 refine ⟨_,_,Dy H.toHasT ([80,97,110,105,99]:Zc),?_⟩
 unfold Zm4 Ziq
 exact Yhh H
theorem Ym4:Zft PG (fun x=>x=true):=by
 unfold Zft Zom
 intro P0 hP
 have s8:P0 8:=hP _ (by unfold Bg;exact ⟨fun h=>absurd h (by decide),fun _=>Xgn H⟩)
 have s7:P0 7:=hP _ (by
  unfold Bg
  exact ⟨fun _=>⟨_,_,Mc H.toHasT 8,by decide,_,rfl,_,_,Dy H.toHasT ([115,99,114,105,112,116]:Zc),fun h=>absurd rfl h,fun _=>⟨by decide,_,rfl,fun h=>absurd rfl h,fun _=>⟨fun h=>absurd rfl h,fun _=>⟨fun h=>absurd rfl h,fun _=>s8⟩⟩⟩⟩,fun h=>absurd (by decide) h⟩)
 have s6:P0 6:=hP _ (by
  unfold Bg
  exact ⟨fun _=>⟨_,_,Mc H.toHasT 7,by decide,_,rfl,_,_,Dy H.toHasT ([115,116,101,112,115]:Zc),fun h=>absurd rfl h,fun _=>⟨by decide,_,rfl,fun h=>absurd rfl h,fun _=>⟨fun h=>absurd rfl h,fun _=>⟨fun h=>absurd rfl h,fun _=>s7⟩⟩⟩⟩,fun h=>absurd (by decide) h⟩)
 have s5:P0 5:=hP _ (by
  unfold Bg
  exact ⟨fun _=>⟨_,_,Mc H.toHasT 6,by decide,_,rfl,_,_,Dy H.toHasT ([114,111,117,116,105,110,101,115]:Zc),fun h=>absurd rfl h,fun _=>⟨by decide,_,rfl,fun h=>absurd rfl h,fun _=>⟨fun h=>absurd rfl h,fun _=>⟨fun h=>absurd rfl h,fun _=>s6⟩⟩⟩⟩,fun h=>absurd (by decide) h⟩)
 have s4:P0 4:=hP _ (by
  unfold Bg
  exact ⟨fun _=>⟨_,_,Mc H.toHasT 5,by decide,_,rfl,_,_,Dy H.toHasT ([104,101,97,112]:Zc),fun h=>absurd rfl h,fun _=>⟨by decide,_,rfl,fun h=>absurd rfl h,fun _=>⟨fun h=>absurd rfl h,fun _=>⟨fun h=>absurd rfl h,fun _=>s5⟩⟩⟩⟩,fun h=>absurd (by decide) h⟩)
 have s3:P0 3:=hP _ (by
  unfold Bg
  exact ⟨fun _=>⟨_,_,Mc H.toHasT 4,by decide,_,rfl,_,_,Dy H.toHasT ([115,116,97,99,107]:Zc),fun h=>absurd rfl h,fun _=>⟨by decide,_,rfl,fun h=>absurd rfl h,fun _=>⟨fun h=>absurd rfl h,fun _=>⟨fun h=>absurd rfl h,fun _=>s4⟩⟩⟩⟩,fun h=>absurd (by decide) h⟩)
 have s2:P0 2:=hP _ (by
  unfold Bg
  exact ⟨fun _=>⟨_,_,Mc H.toHasT 3,by decide,_,rfl,_,_,Dy H.toHasT ([100,101,97,100,108,111,99,107]:Zc),fun h=>absurd rfl h,fun _=>⟨by decide,_,rfl,fun h=>absurd rfl h,fun _=>⟨fun h=>absurd rfl h,fun _=>⟨fun h=>absurd rfl h,fun _=>s3⟩⟩⟩⟩,fun h=>absurd (by decide) h⟩)
 have s1:P0 1:=hP _ (by
  unfold Bg
  exact ⟨fun _=>⟨_,_,Mc H.toHasT 2,by decide,_,rfl,_,_,Dy H.toHasT ([112,97,110,105,99]:Zc),fun h=>absurd rfl h,fun _=>⟨by decide,_,rfl,fun h=>absurd rfl h,fun _=>⟨fun h=>absurd rfl h,fun _=>⟨fun h=>absurd rfl h,fun _=>s2⟩⟩⟩⟩,fun h=>absurd (by decide) h⟩)
 have s0:P0 0:=hP _ (by
  unfold Bg
  exact ⟨fun _=>⟨_,_,Mc H.toHasT 1,by decide,_,rfl,_,_,Dy H.toHasT ([110,111,114,109,97,108]:Zc),fun h=>absurd rfl h,fun _=>⟨by decide,_,rfl,fun h=>absurd rfl h,fun _=>⟨fun h=>absurd rfl h,fun _=>⟨fun h=>absurd rfl h,fun _=>s1⟩⟩⟩⟩,fun h=>absurd (by decide) h⟩)
 exact s0
theorem Xb4 (hf:PG.fn 287=some In):Ze PG 287 [] (.b true):=by
 obtain ⟨x,rfl,h⟩:=Yre hf (K:=fun x=>x=true) (by
  unfold Zj7
  exact Ym4 H)
 exact h
end
end Go.AM

/- The statement ReportNames: for every input the law returns true, and each argument reads afterwards as before. No conditions. -/
namespace Go.Proofs.YtheacfnopahmjaaGreatDoor.ReportNamesProof
open Go Go.AM Go.RowKit Go.ChangeShapes Go.WideShapes Go.ChangeAt

set_option maxRecDepth 100000
set_option maxRecDepth 100000 in
theorem Xei : Nx Tryz.prog X In (Yr Tryz.f4) := Nx.ofCR (ac := (.seq (xA Vi) (.seq (xA (xB Vi)) (.seq (xA (xB (xB Vi))) (.seq (xA (xB (xB (xB Vi)))) (.seq (xA (xB (xB (xB (xB Vi))))) (.seq (xA (xB (xB (xB (xB (xB Vi)))))) (.seq (xA (xB (xB (xB (xB (xB (xB Vi))))))) (.seq (xA (xB (xB (xB (xB (xB (xB (xB Vi)))))))) (.seq (xA (xB (xB (xB (xB (xB (xB (xB (xB Vi))))))))) (.seq (xA (xB (xB (xB (xB (xB (xB (xB (xB (xB Vi)))))))))) (.seq (xA (xB (xB (xB (xB (xB (xB (xB (xB (xB (xB Vi))))))))))) (.seq (xA (xB (xB (xB (xB (xB (xB (xB (xB (xB (xB (xB Vi)))))))))))) (.seq (xA (xB (xB (xB (xB (xB (xB (xB (xB (xB (xB (xB (xB Vi))))))))))))) (.seq (.seq (xA (xA (xB (xB (xB (xB (xB (xB (xB (xB (xB (xB (xB (xB (xB Vi))))))))))))))) (.block 2 (.loop (.seq (xA (xU (xU (xB (xA (xB (xB (xB (xB (xB (xB (xB (xB (xB (xB (xB (xB (xB Vi)))))))))))))))))) (.seq (.block 3 (.seq (xA (xU (xA (xB (xU (xU (xB (xA (xB (xB (xB (xB (xB (xB (xB (xB (xB (xB (xB (xB (xB Vi))))))))))))))))))))) (.seq (.seq (xA (xA (xB (xU (xA (xB (xU (xU (xB (xA (xB (xB (xB (xB (xB (xB (xB (xB (xB (xB (xB (xB (xB Vi))))))))))))))))))))))) (.block 4 (.seq (xA (xU (xB (xA (xB (xU (xA (xB (xU (xU (xB (xA (xB (xB (xB (xB (xB (xB (xB (xB (xB (xB (xB (xB (xB Vi))))))))))))))))))))))))) (.cond (.t 237) (xC (xB (xU (xB (xA (xB (xU (xA (xB (xU (xU (xB (xA (xB (xB (xB (xB (xB (xB (xB (xB (xB (xB (xB (xB (xB Vi)))))))))))))))))))))))))) (.seq (xA (xD (xB (xU (xB (xA (xB (xU (xA (xB (xU (xU (xB (xA (xB (xB (xB (xB (xB (xB (xB (xB (xB (xB (xB (xB (xB Vi))))))))))))))))))))))))))) (.cond (.t 240) (xC (xB (xD (xB (xU (xB (xA (xB (xU (xA (xB (xU (xU (xB (xA (xB (xB (xB (xB (xB (xB (xB (xB (xB (xB (xB (xB (xB Vi)))))))))))))))))))))))))))) (.seq (xA (xD (xB (xD (xB (xU (xB (xA (xB (xU (xA (xB (xU (xU (xB (xA (xB (xB (xB (xB (xB (xB (xB (xB (xB (xB (xB (xB (xB Vi))))))))))))))))))))))))))))) (.cond (.t 243) (xC (xB (xD (xB (xD (xB (xU (xB (xA (xB (xU (xA (xB (xU (xU (xB (xA (xB (xB (xB (xB (xB (xB (xB (xB (xB (xB (xB (xB (xB Vi)))))))))))))))))))))))))))))) (.seq (xA (xD (xB (xD (xB (xD (xB (xU (xB (xA (xB (xU (xA (xB (xU (xU (xB (xA (xB (xB (xB (xB (xB (xB (xB (xB (xB (xB (xB (xB (xB Vi))))))))))))))))))))))))))))))) (.cond (.t 246) (xC (xB (xD (xB (xD (xB (xD (xB (xU (xB (xA (xB (xU (xA (xB (xU (xU (xB (xA (xB (xB (xB (xB (xB (xB (xB (xB (xB (xB (xB (xB (xB Vi)))))))))))))))))))))))))))))))) (.seq (xA (xD (xB (xD (xB (xD (xB (xD (xB (xU (xB (xA (xB (xU (xA (xB (xU (xU (xB (xA (xB (xB (xB (xB (xB (xB (xB (xB (xB (xB (xB (xB (xB Vi))))))))))))))))))))))))))))))))) (.cond (.t 249) (xC (xB (xD (xB (xD (xB (xD (xB (xD (xB (xU (xB (xA (xB (xU (xA (xB (xU (xU (xB (xA (xB (xB (xB (xB (xB (xB (xB (xB (xB (xB (xB (xB (xB Vi)))))))))))))))))))))))))))))))))) (.seq (xA (xD (xB (xD (xB (xD (xB (xD (xB (xD (xB (xU (xB (xA (xB (xU (xA (xB (xU (xU (xB (xA (xB (xB (xB (xB (xB (xB (xB (xB (xB (xB (xB (xB (xB Vi))))))))))))))))))))))))))))))))))) (.cond (.t 252) (xC (xB (xD (xB (xD (xB (xD (xB (xD (xB (xD (xB (xU (xB (xA (xB (xU (xA (xB (xU (xU (xB (xA (xB (xB (xB (xB (xB (xB (xB (xB (xB (xB (xB (xB (xB Vi)))))))))))))))))))))))))))))))))))) (.seq (xA (xD (xB (xD (xB (xD (xB (xD (xB (xD (xB (xD (xB (xU (xB (xA (xB (xU (xA (xB (xU (xU (xB (xA (xB (xB (xB (xB (xB (xB (xB (xB (xB (xB (xB (xB (xB Vi))))))))))))))))))))))))))))))))))))) (.cond (.t 255) (.hand Lh) (xD (xB (xD (xB (xD (xB (xD (xB (xD (xB (xD (xB (xD (xB (xU (xB (xA (xB (xU (xA (xB (xU (xU (xB (xA (xB (xB (xB (xB (xB (xB (xB (xB (xB (xB (xB (xB (xB Vi)))))))))))))))))))))))))))))))))))))))))))))))))))))) (xB (xB (xU (xA (xB (xU (xU (xB (xA (xB (xB (xB (xB (xB (xB (xB (xB (xB (xB (xB (xB (xB Vi))))))))))))))))))))))))) (xB (xB (xU (xU (xB (xA (xB (xB (xB (xB (xB (xB (xB (xB (xB (xB (xB (xB (xB Vi)))))))))))))))))))))))) (xB (xB (xB (xB (xB (xB (xB (xB (xB (xB (xB (xB (xB (xB Vi))))))))))))))))))))))))))))) (by kernel_rfl) (.seq (x := qA (Yr Tryz.f4)) (y := qB (Yr Tryz.f4)) (by kernel_rfl) (.leaf (by kernel_rfl)) (.seq (x := qA (qB (Yr Tryz.f4))) (y := qB (qB (Yr Tryz.f4))) (by kernel_rfl) (.leaf (by kernel_rfl)) (.seq (x := qA (qB (qB (Yr Tryz.f4)))) (y := qB (qB (qB (Yr Tryz.f4)))) (by kernel_rfl) (.leaf (by kernel_rfl)) (.seq (x := qA (qB (qB (qB (Yr Tryz.f4))))) (y := qB (qB (qB (qB (Yr Tryz.f4))))) (by kernel_rfl) (.leaf (by kernel_rfl)) (.seq (x := qA (qB (qB (qB (qB (Yr Tryz.f4)))))) (y := qB (qB (qB (qB (qB (Yr Tryz.f4)))))) (by kernel_rfl) (.leaf (by kernel_rfl)) (.seq (x := qA (qB (qB (qB (qB (qB (Yr Tryz.f4))))))) (y := qB (qB (qB (qB (qB (qB (Yr Tryz.f4))))))) (by kernel_rfl) (.leaf (by kernel_rfl)) (.seq (x := qA (qB (qB (qB (qB (qB (qB (Yr Tryz.f4)))))))) (y := qB (qB (qB (qB (qB (qB (qB (Yr Tryz.f4)))))))) (by kernel_rfl) (.leaf (by kernel_rfl)) (.seq (x := qA (qB (qB (qB (qB (qB (qB (qB (Yr Tryz.f4))))))))) (y := qB (qB (qB (qB (qB (qB (qB (qB (Yr Tryz.f4))))))))) (by kernel_rfl) (.leaf (by kernel_rfl)) (.seq (x := qA (qB (qB (qB (qB (qB (qB (qB (qB (Yr Tryz.f4)))))))))) (y := qB (qB (qB (qB (qB (qB (qB (qB (qB (Yr Tryz.f4)))))))))) (by kernel_rfl) (.leaf (by kernel_rfl)) (.seq (x := qA (qB (qB (qB (qB (qB (qB (qB (qB (qB (Yr Tryz.f4))))))))))) (y := qB (qB (qB (qB (qB (qB (qB (qB (qB (qB (Yr Tryz.f4))))))))))) (by kernel_rfl) (.leaf (by kernel_rfl)) (.seq (x := qA (qB (qB (qB (qB (qB (qB (qB (qB (qB (qB (Yr Tryz.f4)))))))))))) (y := qB (qB (qB (qB (qB (qB (qB (qB (qB (qB (qB (Yr Tryz.f4)))))))))))) (by kernel_rfl) (.leaf (by kernel_rfl)) (.seq (x := qA (qB (qB (qB (qB (qB (qB (qB (qB (qB (qB (qB (Yr Tryz.f4))))))))))))) (y := qB (qB (qB (qB (qB (qB (qB (qB (qB (qB (qB (qB (Yr Tryz.f4))))))))))))) (by kernel_rfl) (.leaf (by kernel_rfl)) (.seq (x := qA (qB (qB (qB (qB (qB (qB (qB (qB (qB (qB (qB (qB (Yr Tryz.f4)))))))))))))) (y := qB (qB (qB (qB (qB (qB (qB (qB (qB (qB (qB (qB (qB (Yr Tryz.f4)))))))))))))) (by kernel_rfl) (.leaf (by kernel_rfl)) (.seq (x := qA (qB (qB (qB (qB (qB (qB (qB (qB (qB (qB (qB (qB (qB (Yr Tryz.f4))))))))))))))) (y := qB (qB (qB (qB (qB (qB (qB (qB (qB (qB (qB (qB (qB (qB (Yr Tryz.f4))))))))))))))) (by kernel_rfl) (.seq (x := qA (qA (qB (qB (qB (qB (qB (qB (qB (qB (qB (qB (qB (qB (qB (Yr Tryz.f4)))))))))))))))) (y := qB (qA (qB (qB (qB (qB (qB (qB (qB (qB (qB (qB (qB (qB (qB (Yr Tryz.f4)))))))))))))))) (by kernel_rfl) (.leaf (by kernel_rfl)) (.block (x := qU (qB (qA (qB (qB (qB (qB (qB (qB (qB (qB (qB (qB (qB (qB (qB (Yr Tryz.f4))))))))))))))))) (by kernel_rfl) (.loop (x := qU (qU (qB (qA (qB (qB (qB (qB (qB (qB (qB (qB (qB (qB (qB (qB (qB (Yr Tryz.f4)))))))))))))))))) (by kernel_rfl) (.seq (x := qA (qU (qU (qB (qA (qB (qB (qB (qB (qB (qB (qB (qB (qB (qB (qB (qB (qB (Yr Tryz.f4))))))))))))))))))) (y := qB (qU (qU (qB (qA (qB (qB (qB (qB (qB (qB (qB (qB (qB (qB (qB (qB (qB (Yr Tryz.f4))))))))))))))))))) (by kernel_rfl) (.leaf (by kernel_rfl)) (.seq (x := qA (qB (qU (qU (qB (qA (qB (qB (qB (qB (qB (qB (qB (qB (qB (qB (qB (qB (qB (Yr Tryz.f4)))))))))))))))))))) (y := qB (qB (qU (qU (qB (qA (qB (qB (qB (qB (qB (qB (qB (qB (qB (qB (qB (qB (qB (Yr Tryz.f4)))))))))))))))))))) (by kernel_rfl) (.block (x := qU (qA (qB (qU (qU (qB (qA (qB (qB (qB (qB (qB (qB (qB (qB (qB (qB (qB (qB (qB (Yr Tryz.f4))))))))))))))))))))) (by kernel_rfl) (.seq (x := qA (qU (qA (qB (qU (qU (qB (qA (qB (qB (qB (qB (qB (qB (qB (qB (qB (qB (qB (qB (qB (Yr Tryz.f4)))))))))))))))))))))) (y := qB (qU (qA (qB (qU (qU (qB (qA (qB (qB (qB (qB (qB (qB (qB (qB (qB (qB (qB (qB (qB (Yr Tryz.f4)))))))))))))))))))))) (by kernel_rfl) (.leaf (by kernel_rfl)) (.seq (x := qA (qB (qU (qA (qB (qU (qU (qB (qA (qB (qB (qB (qB (qB (qB (qB (qB (qB (qB (qB (qB (qB (Yr Tryz.f4))))))))))))))))))))))) (y := qB (qB (qU (qA (qB (qU (qU (qB (qA (qB (qB (qB (qB (qB (qB (qB (qB (qB (qB (qB (qB (qB (Yr Tryz.f4))))))))))))))))))))))) (by kernel_rfl) (.seq (x := qA (qA (qB (qU (qA (qB (qU (qU (qB (qA (qB (qB (qB (qB (qB (qB (qB (qB (qB (qB (qB (qB (qB (Yr Tryz.f4)))))))))))))))))))))))) (y := qB (qA (qB (qU (qA (qB (qU (qU (qB (qA (qB (qB (qB (qB (qB (qB (qB (qB (qB (qB (qB (qB (qB (Yr Tryz.f4)))))))))))))))))))))))) (by kernel_rfl) (.leaf (by kernel_rfl)) (.block (x := qU (qB (qA (qB (qU (qA (qB (qU (qU (qB (qA (qB (qB (qB (qB (qB (qB (qB (qB (qB (qB (qB (qB (qB (Yr Tryz.f4))))))))))))))))))))))))) (by kernel_rfl) (.seq (x := qA (qU (qB (qA (qB (qU (qA (qB (qU (qU (qB (qA (qB (qB (qB (qB (qB (qB (qB (qB (qB (qB (qB (qB (qB (Yr Tryz.f4)))))))))))))))))))))))))) (y := qB (qU (qB (qA (qB (qU (qA (qB (qU (qU (qB (qA (qB (qB (qB (qB (qB (qB (qB (qB (qB (qB (qB (qB (qB (Yr Tryz.f4)))))))))))))))))))))))))) (by kernel_rfl) (.leaf (by kernel_rfl)) (.cond (x := qC (qB (qU (qB (qA (qB (qU (qA (qB (qU (qU (qB (qA (qB (qB (qB (qB (qB (qB (qB (qB (qB (qB (qB (qB (qB (Yr Tryz.f4))))))))))))))))))))))))))) (y := qD (qB (qU (qB (qA (qB (qU (qA (qB (qU (qU (qB (qA (qB (qB (qB (qB (qB (qB (qB (qB (qB (qB (qB (qB (qB (Yr Tryz.f4))))))))))))))))))))))))))) (z := .tmp 237) (az := .t 237) (by kernel_rfl) (by kernel_rfl) (.leaf (by kernel_rfl)) (.seq (x := qA (qD (qB (qU (qB (qA (qB (qU (qA (qB (qU (qU (qB (qA (qB (qB (qB (qB (qB (qB (qB (qB (qB (qB (qB (qB (qB (Yr Tryz.f4)))))))))))))))))))))))))))) (y := qB (qD (qB (qU (qB (qA (qB (qU (qA (qB (qU (qU (qB (qA (qB (qB (qB (qB (qB (qB (qB (qB (qB (qB (qB (qB (qB (Yr Tryz.f4)))))))))))))))))))))))))))) (by kernel_rfl) (.leaf (by kernel_rfl)) (.cond (x := qC (qB (qD (qB (qU (qB (qA (qB (qU (qA (qB (qU (qU (qB (qA (qB (qB (qB (qB (qB (qB (qB (qB (qB (qB (qB (qB (qB (Yr Tryz.f4))))))))))))))))))))))))))))) (y := qD (qB (qD (qB (qU (qB (qA (qB (qU (qA (qB (qU (qU (qB (qA (qB (qB (qB (qB (qB (qB (qB (qB (qB (qB (qB (qB (qB (Yr Tryz.f4))))))))))))))))))))))))))))) (z := .tmp 240) (az := .t 240) (by kernel_rfl) (by kernel_rfl) (.leaf (by kernel_rfl)) (.seq (x := qA (qD (qB (qD (qB (qU (qB (qA (qB (qU (qA (qB (qU (qU (qB (qA (qB (qB (qB (qB (qB (qB (qB (qB (qB (qB (qB (qB (qB (Yr Tryz.f4)))))))))))))))))))))))))))))) (y := qB (qD (qB (qD (qB (qU (qB (qA (qB (qU (qA (qB (qU (qU (qB (qA (qB (qB (qB (qB (qB (qB (qB (qB (qB (qB (qB (qB (qB (Yr Tryz.f4)))))))))))))))))))))))))))))) (by kernel_rfl) (.leaf (by kernel_rfl)) (.cond (x := qC (qB (qD (qB (qD (qB (qU (qB (qA (qB (qU (qA (qB (qU (qU (qB (qA (qB (qB (qB (qB (qB (qB (qB (qB (qB (qB (qB (qB (qB (Yr Tryz.f4))))))))))))))))))))))))))))))) (y := qD (qB (qD (qB (qD (qB (qU (qB (qA (qB (qU (qA (qB (qU (qU (qB (qA (qB (qB (qB (qB (qB (qB (qB (qB (qB (qB (qB (qB (qB (Yr Tryz.f4))))))))))))))))))))))))))))))) (z := .tmp 243) (az := .t 243) (by kernel_rfl) (by kernel_rfl) (.leaf (by kernel_rfl)) (.seq (x := qA (qD (qB (qD (qB (qD (qB (qU (qB (qA (qB (qU (qA (qB (qU (qU (qB (qA (qB (qB (qB (qB (qB (qB (qB (qB (qB (qB (qB (qB (qB (Yr Tryz.f4)))))))))))))))))))))))))))))))) (y := qB (qD (qB (qD (qB (qD (qB (qU (qB (qA (qB (qU (qA (qB (qU (qU (qB (qA (qB (qB (qB (qB (qB (qB (qB (qB (qB (qB (qB (qB (qB (Yr Tryz.f4)))))))))))))))))))))))))))))))) (by kernel_rfl) (.leaf (by kernel_rfl)) (.cond (x := qC (qB (qD (qB (qD (qB (qD (qB (qU (qB (qA (qB (qU (qA (qB (qU (qU (qB (qA (qB (qB (qB (qB (qB (qB (qB (qB (qB (qB (qB (qB (qB (Yr Tryz.f4))))))))))))))))))))))))))))))))) (y := qD (qB (qD (qB (qD (qB (qD (qB (qU (qB (qA (qB (qU (qA (qB (qU (qU (qB (qA (qB (qB (qB (qB (qB (qB (qB (qB (qB (qB (qB (qB (qB (Yr Tryz.f4))))))))))))))))))))))))))))))))) (z := .tmp 246) (az := .t 246) (by kernel_rfl) (by kernel_rfl) (.leaf (by kernel_rfl)) (.seq (x := qA (qD (qB (qD (qB (qD (qB (qD (qB (qU (qB (qA (qB (qU (qA (qB (qU (qU (qB (qA (qB (qB (qB (qB (qB (qB (qB (qB (qB (qB (qB (qB (qB (Yr Tryz.f4)))))))))))))))))))))))))))))))))) (y := qB (qD (qB (qD (qB (qD (qB (qD (qB (qU (qB (qA (qB (qU (qA (qB (qU (qU (qB (qA (qB (qB (qB (qB (qB (qB (qB (qB (qB (qB (qB (qB (qB (Yr Tryz.f4)))))))))))))))))))))))))))))))))) (by kernel_rfl) (.leaf (by kernel_rfl)) (.cond (x := qC (qB (qD (qB (qD (qB (qD (qB (qD (qB (qU (qB (qA (qB (qU (qA (qB (qU (qU (qB (qA (qB (qB (qB (qB (qB (qB (qB (qB (qB (qB (qB (qB (qB (Yr Tryz.f4))))))))))))))))))))))))))))))))))) (y := qD (qB (qD (qB (qD (qB (qD (qB (qD (qB (qU (qB (qA (qB (qU (qA (qB (qU (qU (qB (qA (qB (qB (qB (qB (qB (qB (qB (qB (qB (qB (qB (qB (qB (Yr Tryz.f4))))))))))))))))))))))))))))))))))) (z := .tmp 249) (az := .t 249) (by kernel_rfl) (by kernel_rfl) (.leaf (by kernel_rfl)) (.seq (x := qA (qD (qB (qD (qB (qD (qB (qD (qB (qD (qB (qU (qB (qA (qB (qU (qA (qB (qU (qU (qB (qA (qB (qB (qB (qB (qB (qB (qB (qB (qB (qB (qB (qB (qB (Yr Tryz.f4)))))))))))))))))))))))))))))))))))) (y := qB (qD (qB (qD (qB (qD (qB (qD (qB (qD (qB (qU (qB (qA (qB (qU (qA (qB (qU (qU (qB (qA (qB (qB (qB (qB (qB (qB (qB (qB (qB (qB (qB (qB (qB (Yr Tryz.f4)))))))))))))))))))))))))))))))))))) (by kernel_rfl) (.leaf (by kernel_rfl)) (.cond (x := qC (qB (qD (qB (qD (qB (qD (qB (qD (qB (qD (qB (qU (qB (qA (qB (qU (qA (qB (qU (qU (qB (qA (qB (qB (qB (qB (qB (qB (qB (qB (qB (qB (qB (qB (qB (Yr Tryz.f4))))))))))))))))))))))))))))))))))))) (y := qD (qB (qD (qB (qD (qB (qD (qB (qD (qB (qD (qB (qU (qB (qA (qB (qU (qA (qB (qU (qU (qB (qA (qB (qB (qB (qB (qB (qB (qB (qB (qB (qB (qB (qB (qB (Yr Tryz.f4))))))))))))))))))))))))))))))))))))) (z := .tmp 252) (az := .t 252) (by kernel_rfl) (by kernel_rfl) (.leaf (by kernel_rfl)) (.seq (x := qA (qD (qB (qD (qB (qD (qB (qD (qB (qD (qB (qD (qB (qU (qB (qA (qB (qU (qA (qB (qU (qU (qB (qA (qB (qB (qB (qB (qB (qB (qB (qB (qB (qB (qB (qB (qB (Yr Tryz.f4)))))))))))))))))))))))))))))))))))))) (y := qB (qD (qB (qD (qB (qD (qB (qD (qB (qD (qB (qD (qB (qU (qB (qA (qB (qU (qA (qB (qU (qU (qB (qA (qB (qB (qB (qB (qB (qB (qB (qB (qB (qB (qB (qB (qB (Yr Tryz.f4)))))))))))))))))))))))))))))))))))))) (by kernel_rfl) (.leaf (by kernel_rfl)) (.cond (x := qC (qB (qD (qB (qD (qB (qD (qB (qD (qB (qD (qB (qD (qB (qU (qB (qA (qB (qU (qA (qB (qU (qU (qB (qA (qB (qB (qB (qB (qB (qB (qB (qB (qB (qB (qB (qB (qB (Yr Tryz.f4))))))))))))))))))))))))))))))))))))))) (y := qD (qB (qD (qB (qD (qB (qD (qB (qD (qB (qD (qB (qD (qB (qU (qB (qA (qB (qU (qA (qB (qU (qU (qB (qA (qB (qB (qB (qB (qB (qB (qB (qB (qB (qB (qB (qB (qB (Yr Tryz.f4))))))))))))))))))))))))))))))))))))))) (z := .tmp 255) (az := .t 255) (by kernel_rfl) (by kernel_rfl) (.handS (x := .region 37 (Ey (qA (qC (qB (qD (qB (qD (qB (qD (qB (qD (qB (qD (qB (qD (qB (qU (qB (qA (qB (qU (qA (qB (qU (qU (qB (qA (qB (qB (qB (qB (qB (qB (qB (qB (qB (qB (qB (qB (qB (Yr Tryz.f4))))))))))))))))))))))))))))))))))))))))) false) (y := .seq (.region 38 (Ey (qA (qB (qC (qB (qD (qB (qD (qB (qD (qB (qD (qB (qD (qB (qD (qB (qU (qB (qA (qB (qU (qA (qB (qU (qU (qB (qA (qB (qB (qB (qB (qB (qB (qB (qB (qB (qB (qB (qB (qB (Yr Tryz.f4)))))))))))))))))))))))))))))))))))))))))) false) (.block 5 (.loop (.seq (.seq (.region 39 (Ey (qA (qA (qU (qU (qB (qB (qC (qB (qD (qB (qD (qB (qD (qB (qD (qB (qD (qB (qD (qB (qU (qB (qA (qB (qU (qA (qB (qU (qU (qB (qA (qB (qB (qB (qB (qB (qB (qB (qB (qB (qB (qB (qB (qB (Yr Tryz.f4)))))))))))))))))))))))))))))))))))))))))))))) false) (.cond (.tmp 260) .skip (.exit 5))) (.seq (.block 6 (.region 41 (Ey (qU (qA (qB (qU (qU (qB (qB (qC (qB (qD (qB (qD (qB (qD (qB (qD (qB (qD (qB (qD (qB (qU (qB (qA (qB (qU (qA (qB (qU (qU (qB (qA (qB (qB (qB (qB (qB (qB (qB (qB (qB (qB (qB (qB (qB (Yr Tryz.f4))))))))))))))))))))))))))))))))))))))))))))))) false)) (.region 40 (Ey (qB (qB (qU (qU (qB (qB (qC (qB (qD (qB (qD (qB (qD (qB (qD (qB (qD (qB (qD (qB (qU (qB (qA (qB (qU (qA (qB (qU (qU (qB (qA (qB (qB (qB (qB (qB (qB (qB (qB (qB (qB (qB (qB (qB (Yr Tryz.f4)))))))))))))))))))))))))))))))))))))))))))))) false)))))) (by kernel_rfl) fun d => Ywn (tS := 27) (tE := 43) (tI := 3) (tB := 29) (tU := 5) (fsB := [(5, 0), (3, 1), (3, 2), (27, 3)]) (fsE := [(5, 0), (2, 1), (39, 2), (40, 3), (41, 4)]) (kX rfl) Tryz.underlying27 (Zxd : Wu Tryz.prog 27 _) rfl rfl (Zy7 : Wu Tryz.prog 43 _) rfl rfl (ty5 : Wu Tryz.prog 5 _) rfl (Zte : Wu Tryz.prog 29 _) rfl rfl rfl rfl (kX rfl) ⟨by kernel_rfl, Ip (by kernel_rfl)⟩ ⟨by kernel_rfl, Ip (by kernel_rfl)⟩ ⟨by kernel_rfl, Ip (by kernel_rfl)⟩ ⟨by kernel_rfl, Ip (by kernel_rfl)⟩ ⟨by kernel_rfl, Ip (by kernel_rfl)⟩) (.leaf (by kernel_rfl)))))))))))))))))) (.leaf (by kernel_rfl))))) (.leaf (by kernel_rfl))))))) (.leaf (by kernel_rfl))))))))))))))))
theorem Zyh : Yb Tryz.prog X 4 In := Yb.ofG Tryz.func4 (by kernel_rfl) (by kernel_rfl) Xei (by kernel_rfl) (by kernel_rfl) (by kernel_rfl)
def fns : List (Nat × AF) := [(42, Zbx), (46, Zcb), (36, Zgo), (43, Zef), (47, Zdr), (11, Ze6), (15, Zbo), (21, Zc6), (25, Zbd), (30, El), (34, Zbe), (37, Zdj), (39, Eh), (45, Ig), (29, Ze8), (145, Zku), (126, Zqi), (72, Zbv), (74, Za8), (76, Zg0), (78, Zcd), (104, Pm), (107, Pk), (109, Zal), (128, Ph), (129, Fs), (130, Lt), (131, Fq), (136, Zjq), (154, Zbb), (158, Zan), (178, Eg), (180, Zdm), (183, Za6), (190, Zea), (191, Ze4), (156, Aj), (160, Zad), (181, Za0), (169, Ydn), (170, Zdy), (82, Zbw), (86, Zbc), (88, Zbr), (111, Zew), (112, Zds), (113, Ef), (115, Zar), (116, Zcz), (119, Zgm), (122, Zfi), (123, Zev), (124, Zay), (138, Zp4), (139, Zdi), (141, Zg2), (144, Zet), (205, Zaj), (207, Zek), (209, Zb2), (211, Zcm), (213, Zfc), (215, Eo), (216, Zc3), (217, Zmo), (218, Zl2), (219, Zdw), (220, Zg9), (221, Zpl), (224, Zcc), (225, Zfq), (227, Zfw), (228, Zdg), (229, Zd4), (230, Zc7), (231, Zdb), (232, Zfy), (233, Zax), (234, Zbn), (236, Zae), (237, Zat), (238, Zer), (239, Zgn), (84, Et), (117, Fx), (118, Ol), (140, Ll), (143, Zlj), (306, Ze2), (316, Zdc), (322, Zg5), (260, Ot), (266, Es), (317, Zd9), (307, Fl), (308, Fa), (318, Iu), (299, Tm), (305, Za3), (309, Ic), (302, Oo), (314, Pn), (292, Ok), (303, Ib), (294, Za1), (296, Og), (297, Er), (293, Ze1), (290, Zfz), (295, Zc0), (298, Zdn), (287, In)]
def PG : Zb := ⟨Md fns, Hd, Ix⟩
set_option maxRecDepth 100000 in
theorem Ynl : On Tryz.prog X fns Ri :=
 fN J (fN J (fS J Zyh (fN J (fN J (fS J Yjd (fN J (fN J (fN J (fS J Xdb (fN J (fS J Yro (fS J Ys1 (fN J (fS J Yqq (fS J Xg7 (fS J Yxl (fS J Yxw (fS J Yjw (fS J Xgg (fS J Xhm (fS J Yzd (fS J Yrs (fS J Yv0 (fS J Xab (fN J (fN J (fS J Yrf (fN J (fS J Yt2 (fS J Xeg (fS J Yjr (fS J Ykr (fS J Yg3 (fN J (fS J Xc0 (fS J Yvw (fS J You (fS J Xak (fS J Yl4 (fS J Xgi (fS J Ysb (fS J Ymv (fS J Xdt (fN J (fS J Yla (fS J Yiz (fS J Xbm (fS J Xdm (fS J Ygp (fN J (fN J (fN J (fN J (fN J (fN J (fS J Xbs (fS J Ykg (fN J (fN J (fN J (fN J (fN J (fN J (fS J Yhy (fS J Yz0 (fS J Yrp (fS J Yqv (fS J Ynw (fS J Yi6 (fS J Xeb (fS J Xj5 (fS J Xcd (fS J Yrx (fS J Ynu (fS J Ysc (fS J Yob (fS J Yo4 (fS J Xil (fS J Xcr (fS J Xg4 (fS J Ywp (fN J (fS J Yp6 (fS J Xfh (fS J Yrg (fS J Xc4 (fS J Xe1 (fS J Yno (fS J Xfy (fS J Yu6 (fS J Yo3 (fN J (fN J (fN J (fN J (fN J (fN J (fN J (fN J (fN J (fN J (fN J (fN J (fN J (fN J (fS J Yhs (fS J Yte (fS J Xha (fN J (fN J (fN J (fN J (fS J Ygu (fS J Yjt (fS J Yl9 (fS J Xg6 (fS J Xhk (fS J Yxo (fS J Yg9 (fS J Xdx (fS J Yxu (fN J (fN J (fN J (fS J Xbi (fS J Yvk (fS J Xj4 (fS J Ykq (fS J Xet (fS J Xan (fS J Yx5 (fS J Xca (fS J Xed (fN J (fS J Yrc (fS J Yv4 (fS J Yg0 (fN J (fN J (fS J Yzu (fN J (fS J Xfi (fN J (fN J (fN J (fN J (fS J Yvc (fS J Ynp (fN J (fS J Xga (fS J Xf2 (fS J Ymp (fN J (fN J (fN J (fS J Ytr (fS J Yp2 (fS J Xa7 (fS J Yll (fS J Yq8 (fS J Xfk (fN J (fN J (fN J (fN J (fN J (fN J (fN J (fN J (fN J (fS J Yun (fN J (fS J Xh8 (fN J (fN J (fS J Xf4 (fS J Xcu (fS J Yjh (fS J Yod (fN J (fN J (fN J (fS J Ynt (fS J Yy4 (fS J Yw1 (fN J (fN J (fN J (fN J (trivial))))))))))))))))))))))))))))))))))))))))))))))))))))))))))))))))))))))))))))))))))))))))))))))))))))))))))))))))))))))))))))))))))))))))))))))))))))))))))))))))))))))))))))))))))))))))))))))
theorem Yfe : Ns Tryz.prog X { fn := Md fns, orac := Sp 48 } := Xf6 (f0 := 185) (fun f h => by have := Lf h; simpa [Ri] using this) Tryz.func185 (by kernel_rfl) (by kernel_rfl) (by kernel_rfl) (by kernel_rfl)
theorem Yus : Ns Tryz.prog X PG := Xh6 (Yt5 Yfe (f0 := 114) (fun f h => by have := Lf h; simpa [Ri] using this) Tryz.func114 (by kernel_rfl) (by kernel_rfl) (by kernel_rfl) (by kernel_rfl)) (f1 := 46) (f2 := 136) (f3 := 158) (g := 1000000000) rfl
  (fun f h => by have := Lf h; simpa [Ri] using this) (fun args w => Lu Tryz.func46 (by kernel_rfl) (code := Zi1 Tryz.f46) (by kernel_rfl) args) (fun s m w hs hm => Yut Tryz.lays146 (by kernel_rfl) s m w hs hm)
  (fun f h => by have := Lf h; simpa [Ri] using this) (fun args w => Lu Tryz.func136 (by kernel_rfl) (code := Zi1 Tryz.f136) (by kernel_rfl) args) (fun s m w hs hm => Ypa Tryz.lays147 (by kernel_rfl) s m w hs hm)
  (fun f h => by have := Lf h; simpa [Ri] using this) (fun args w => Lu Tryz.func158 (by kernel_rfl) (code := Zi1 Tryz.f158) (by kernel_rfl) args) (fun s q m w hs hm => Go.Proofs.Any.stringslite_Index Tryz.lays219 s q m w hs hm)
theorem orsB_ok : Zdt Tryz.prog X PG := Go.AM.orsB_ok Tryz.lays169 Tryz.extraB (fun f h => by have := Lf h; have e : f = 36 := (by simpa [Ri] using this); exact e) (by kernel_rfl) (by kernel_rfl) Tryz.func36 (by kernel_rfl) rfl
def tl : List Nat := []
theorem at_ : Zxm Tryz.prog X PG tl := ⟨Yka Yq7, by kernel_rfl, Ylw Ynl.all rfl, Yus, orsB_ok, by
    intro t ht
    exact (show ∀ t ∈ tl, Cl X.T tl t = true by decide) t (by simpa using ht)⟩
set_option maxRecDepth 100000 in
theorem has : HasD4 PG := { f42 := by kernel_rfl, f46 := by kernel_rfl, f36 := by kernel_rfl, f43 := by kernel_rfl, f47 := by kernel_rfl, f11 := by kernel_rfl, f15 := by kernel_rfl, f21 := by kernel_rfl, f25 := by kernel_rfl, f30 := by kernel_rfl, f34 := by kernel_rfl, f37 := by kernel_rfl, f39 := by kernel_rfl, f45 := by kernel_rfl, f29 := by kernel_rfl, f145 := by kernel_rfl, f126 := by kernel_rfl, f72 := by kernel_rfl, f74 := by kernel_rfl, f76 := by kernel_rfl, f78 := by kernel_rfl, f104 := by kernel_rfl, f107 := by kernel_rfl, f109 := by kernel_rfl, f128 := by kernel_rfl, f129 := by kernel_rfl, f130 := by kernel_rfl, f131 := by kernel_rfl, f136 := by kernel_rfl, f154 := by kernel_rfl, f158 := by kernel_rfl, f178 := by kernel_rfl, f180 := by kernel_rfl, f183 := by kernel_rfl, f190 := by kernel_rfl, f191 := by kernel_rfl, f156 := by kernel_rfl, f160 := by kernel_rfl, f181 := by kernel_rfl, f169 := by kernel_rfl, f170 := by kernel_rfl, f82 := by kernel_rfl, f86 := by kernel_rfl, f88 := by kernel_rfl, f111 := by kernel_rfl, f112 := by kernel_rfl, f113 := by kernel_rfl, f115 := by kernel_rfl, f116 := by kernel_rfl, f119 := by kernel_rfl, f122 := by kernel_rfl, f123 := by kernel_rfl, f124 := by kernel_rfl, f138 := by kernel_rfl, f139 := by kernel_rfl, f141 := by kernel_rfl, f144 := by kernel_rfl, f205 := by kernel_rfl, f207 := by kernel_rfl, f209 := by kernel_rfl, f211 := by kernel_rfl, f213 := by kernel_rfl, f215 := by kernel_rfl, f216 := by kernel_rfl, f217 := by kernel_rfl, f218 := by kernel_rfl, f219 := by kernel_rfl, f220 := by kernel_rfl, f221 := by kernel_rfl, f224 := by kernel_rfl, f225 := by kernel_rfl, f227 := by kernel_rfl, f228 := by kernel_rfl, f229 := by kernel_rfl, f230 := by kernel_rfl, f231 := by kernel_rfl, f232 := by kernel_rfl, f233 := by kernel_rfl, f234 := by kernel_rfl, f236 := by kernel_rfl, f237 := by kernel_rfl, f238 := by kernel_rfl, f239 := by kernel_rfl, f84 := by kernel_rfl, f117 := by kernel_rfl, f118 := by kernel_rfl, f140 := by kernel_rfl, f143 := by kernel_rfl, f306 := by kernel_rfl, f316 := by kernel_rfl, f322 := by kernel_rfl, f260 := by kernel_rfl, f266 := by kernel_rfl, f317 := by kernel_rfl, f307 := by kernel_rfl, f308 := by kernel_rfl, f318 := by kernel_rfl, f299 := by kernel_rfl, f305 := by kernel_rfl, f309 := by kernel_rfl, f302 := by kernel_rfl, f314 := by kernel_rfl, f292 := by kernel_rfl, f303 := by kernel_rfl, f294 := by kernel_rfl, f296 := by kernel_rfl, f297 := by kernel_rfl, f293 := by kernel_rfl, f290 := by kernel_rfl, f295 := by kernel_rfl, f298 := by kernel_rfl, f48 := rfl, o48 := Xao, f146 := rfl, f105 := rfl, o146 := Yho, o105 := Ysq, s105 := Ysz, f304 := rfl, o304 := Yyb, f323 := rfl, o323 := Ygk, f197 := rfl, o197 := Yu8 }
theorem own : ownKnob Tryz.prog.godebug = none := by kernel_rfl
theorem Yzj : laidOutB Tryz.prog = true := by kernel_rfl
theorem typed (avs : List AV) (h : Zka X.T [] avs) : Ze PG 287 avs (.b true) := by
  match avs, h with
  | [], _ => exact Xb4 has rfl

theorem glob {W : World} (h : W.ShapedOpen Tryz.prog) : Mz X.fm W := fun g hg => by
  obtain rfl : 1000000000 = g := Option.some.inj ((show X.fm 1000000000004 = some 1000000000 from rfl).symm.trans hg)
  obtain ⟨m, hm⟩ := cell_of_shapedOpen_int (P := Tryz.prog) (g := 0) (t := 3) (zero := #[.int .i64 0]) (k := .i64) h (zX (by kernel_rfl)) (by kernel_rfl) rfl (by kernel_rfl) (by kernel_rfl) (by kernel_rfl)
  exact ⟨Yge hm, m, hm⟩
set_option maxRecDepth 100000 in
theorem Yk4 (os : Os) (started : os.Started) (H : Type) (enc : TypeId × Value -> H) :
    ReturnsInHanded {} Tryz.checked os 4 .any (fun w args => (Rows.reportNamesSpec.pre enc Tryz.prog Tryz.f4 Rows.reportNamesRow.domain false w args /\ laidMetH Tryz.prog Rows.reportNamesRow.laid w) /\ sizedMet enc Tryz.prog Tryz.f4 (OpenSpec.ofChange Rows.reportNamesSpec) false w args) (Rows.reportNamesSpec.post enc Tryz.prog Tryz.f4 false true false false) := by
  refine Yj0 (C := Tryz.checked) (X := fun w _ => laidMetH Tryz.prog Rows.reportNamesRow.laid w) own started (by kernel_rfl) Tryz.func4
    (ChangeSpec.witness_shaped (enc := enc) (C := Tryz.checked) (os := os) (X := fun w _ => laidMetH Tryz.prog Rows.reportNamesRow.laid w) false (World.laidAll Tryz.prog os Rows.reportNamesRow.laid) #[] 8 (World.laidAll_os _ _ _)
      (World.shaped_of_ZipB (by kernel_rfl) (by kernel_rfl)) (by kernel_rfl) (by kernel_rfl) (by kernel_rfl)
      (by rw [MakeChecks.laidMetH_plain _ _ _ (by kernel_rfl)]; exact laidMet_laidAll _ (by kernel_rfl) (by kernel_rfl))) ?_
  intro W base args ds gs before hval0 hW hsh
  have hval : ∀ (j : Nat) t v, Tryz.f4.params[j]? = some t -> args[j]? = some v -> Value.okWide Tryz.prog W .any base t v := hval0
  have hW' := hW
  obtain ⟨p, q, hA0, hV, rfl, hfz, hnd⟩ := hW
  have hA : DataW.TrodAll enc Tryz.prog W 0 (fun _ => true) true Tryz.f4.params.toList args.toList ds p := hA0
  rw [Tryz.params4] at hA hval
  obtain ⟨rfl, rfl⟩ := trodVars_none hV
  obtain ⟨avs, hR, hok⟩ := Ydf at_.T at_.types (ts := []) (by decide) (fun j t v h1 h2 => hval j t v (by simpa using h1) (by simpa using h2)) hA
  have hlt := Yao hA
  have hlen := Zss hA
  refine (Yq0 at_ (f := 4) (c := 287) rfl (Zyh.enters _ _) hR (typed avs hok) (glob hsh)).mono fun e W' ⟨he, bel⟩ => ?_
  subst he
  have hB := Zs3 Yzj bel (by kernel_rfl) hA hlt
  obtain rfl := ds0 hlen
  exact ⟨_, rfl, _, _, _, [], _, [], hW', trodAll_mk1 (shut_bool Tryz.underlying4 _), hB, rfl, bel.frame _, fun h => by cases h⟩

theorem Ygw : Rows.ReportNamesSaid :=
  OpenClaim.holds_of_wide 4 Tryz.f4 rfl rfl rfl rfl rfl rfl rfl ⟨rfl, rfl, rfl, rfl, rfl⟩ rfl rfl rfl rfl rfl (by kernel_rfl) Tryz.func4 (by kernel_rfl)
    (zX (by kernel_rfl)) (by unfold Func.isWrapper; rw [kA (yQ (by kernel_rfl))]; exact ⟨rfl, rfl⟩)
    (fun os started H enc _ => Yk4 os started H enc)

/-- The statement: the card. -/
theorem proved : Rows.ReportNamesCardSaid :=
  Claim7.holds_tied_plain_at .later [] [.data, .pinned] true (true, "7754283d7d2aa53d68f672087f55f7cc4332f55f723f6abf0f59cd83e0be1448") false Ygw (fun _ h => by cases h) (by kernel_rfl) (fun _ h => by cases h) reportNames_row_tie rfl ⟨rfl, rfl⟩ (by kernel_rfl) rfl
    (fun f fn hf hfn => by
      obtain rfl : f = 4 := Option.some.inj ((show Tryz.prog.funcNamed Tryz.f4.name = some 4 by kernel_rfl).symm.trans hf) |>.symm
      obtain rfl : fn = Tryz.f4 := (Option.some.inj (Tryz.func4.symm.trans hfn)).symm
      exact ⟨by kernel_rfl, fun j t ht => by
        rw [Tryz.params4] at ht
        have hm : t ∈ [] := by simpa using Array.mem_of_getElem? ht
        have hall : ([].all fun u => !Tryz.prog.wantsStandIn u) = true := by kernel_rfl
        exact (show Tryz.prog.wantsStandIn t = false by simpa using zB.1 hall t hm)⟩)
    (by kernel_rfl)
#print axioms proved
end Go.Proofs.YtheacfnopahmjaaGreatDoor.ReportNamesProof
