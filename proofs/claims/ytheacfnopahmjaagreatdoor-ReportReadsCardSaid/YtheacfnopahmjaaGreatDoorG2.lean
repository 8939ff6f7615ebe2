/- Parts of the proof: R0, R1, R2, R3, V03, V03b, V03c, V38, R4, R5, Pq, R6, Rn, S3, Pt, U30a, U30b. -/
import Derived.Test.YtheacfnopahmjaaGreatDoorG1
import Derived.Carry
import Derived.DataReads
import Derived.Test.YtheacfnopahmjaaGreatDoorG0
import Derived.WalkKit
import Derived.ProofKit
import Derived.OpenShut
import Derived.Laws.Externs
import Derived.Lib.Bytealg
import Derived.Lib.Builder
import Derived.HandedShaped
import Derived.Shelf.Vars
import Derived.Lay
import Derived.LaidMore
import Derived.Stop.Joined
import Derived.Shelf.Strings.Split
import Derived.Shelf.Strings.Cut
import Derived.Lib.SplitLaws
set_option linter.all false
namespace Go.AM
open Go Go.RowKit
def HasC(T:Vn):Nat->TypeId->List AV->Prop
 |0,_,_=>False
 |f+1,t,aL=>match T t with
  |some i=>match i.kind with
   |.int k=>∃n,aL=[.i k n]/\k.min<=n/\n<=k.max
   |.bool=>∃b,aL=[.b b]
   |.str=>∃s,aL=[.s s]/\s.length<=maxLen
   |.sl e=>∃rows,aL=[.sl .ext rows]/\rows.length<=maxLen/\(∀r∈rows,HasC T f e r)/\∀j,T e=some j->∀r∈rows,r.length=j.size
   |.st fs=>∀x∈fs,∃j,T x.1=some j/\HasC T f x.1 ((aL.drop x.2).take j.size)
   |_=>False
  |none=>False
def pY(T:Vn):Nat->List (Nat × Nat)->Option Nat
 |off,[]=>some off
 |off,(t,o)::r=>match T t with
  |some i=>if o=off then pY T (off+i.size) r else none
  |none=>none
def Lk(T:Vn)(L:List Nat)(t:Nat):Bool:=
 match T t with
 |some i=>match i.kind with
  |.int _|.bool|.str=>i.size==1
  |.sl e=>L.contains e&&(match T e with|some j=>decide (0<j.size)|none=>false)
  |.st fs=>(fs.all fun x=>L.contains x.1)&&pY T 0 fs==some i.size
  |_=>false
 |none=>false
def H0(w:World):Hp:=fun g o=>match w.cell? ⟨g,o,none⟩with|some v=>if v.oneCell' then some v else none|none=>none
theorem Xst{w:World}{g o:Nat}{v:Value}(h:w.cell? ⟨g,o,none⟩=some v)(h1:v.oneCell'=true):H0 w g o=some v:=by simp only[H0,h,h1,jS]
theorem Xqs{w:World}{g o:Nat}{v:Value}(h:H0 w g o=some v):w.cell? ⟨g,o,none⟩=some v/\v.oneCell'=true:=by
 unfold H0 at h;split at h
 ·rename_i v' hv;split at h
  ·rename_i h1;cases h;exact⟨hv,h1⟩
  ·cases h
 ·cases h
def Dw(w:World)(aL:List AV)(cs:List Value):Prop:=aL.length=cs.length/\∀(j:Nat) a u,aL[j]?=some a->cs[j]?=some u->Fz (H0 w) a u/\a.one=true
theorem Dw.one{w:World}{a:AV}{u:Value}(h:Fz (H0 w) a u)(h1:a.one=true):Dw w [a] [u]:=by
 refine⟨rfl,fun j x y hx hy=>?_⟩
 cases j with
 |zero=>simp at hx hy;subst hx;subst hy;exact⟨h,h1⟩
 |succ j=>simp at hx
theorem Dw.append{w:World}{aL bs:List AV}{cs ds:List Value}(h:Dw w aL cs)(k:Dw w bs ds):Dw w (aL++bs) (cs++ds):=by
 refine⟨by simp[h.1,k.1],fun j x y hx hy=>?_⟩;rcases jF j aL.length with hj|hj
 ·rw[yQ hj]at hx;rw[yQ (by rw[<- h.1];exact hj)]at hy;exact h.2 j x y hx hy
 ·rw[yE hj]at hx;rw[yE (by rw[<- h.1];exact hj),<- h.1]at hy;exact k.2 _ x y hx hy
section
variable{H:Type}{enc:TypeId × Value->H}{P:Program}{T:Vn}{w:World}{base:Nat}{spare:Nat->Bool}{held:Bool}{L:List Nat}
theorem wC(hT:Kw P T){t:Nat}{i:TI}(h:T t=some i):P.cellsOf t=i.size:=by obtain⟨ti,z,h1,h2,_⟩:=(hT t i h).info;simp[Program.cellsOf,h1,h2]
theorem ZS(hT:Kw P T){f:Nat}{cs:List Value}
  (ih :∀t,L.contains t=true->∀cs x,DataW.trod enc P w base spare held f t cs=some x->∃aL,Dw w aL cs/\HasC T f t aL) :
  ∀(fs:List (Nat × Nat)) (fields:List Field) (off l8:Nat) xs,fields.map (fun g=>(g.type,g.offset))=fs->pY T off fs=some l8->l8=cs.length->(fs.all fun x=>L.contains x.1)=true->
   fields.mapM (fun g=>DataW.trod enc P w base spare held f g.type<|(cs.drop g.offset).take<|P.cellsOf g.type)=some xs->
   off<=l8/\∃aL,Dw w aL (cs.drop off)/\∀x∈fs,off<=x.2/\∃j,T x.1=some j/\HasC T f x.1 ((aL.drop<|x.2-off).take j.size)
 |[],fields,off,l8,xs,hf,hc,ht,_,_=>by
  cases hc;refine⟨kU _,[],⟨by simp[ht],by simp⟩,by simp⟩
 |(t,o)::fs,[],off,l8,xs,hf,hc,ht,_,_=>by cases hf
 |(t,o)::fs,g::fields,off,l8,xs,hf,hc,ht,hL,hm=>by
  simp only[jB,List.cons.injEq,Prod.mk.injEq]at hf;obtain⟨⟨rfl,rfl⟩,hf⟩:=hf;unfold pY at hc;split at hc
  case h_2=>cases hc
  rename_i i hi;split at hc
  case isFalse=>cases hc
  rename_i ho;simp only[List.all_cons,kR]at hL;rw[List.mapM_cons]at hm;simp only[Option.bind_eq_bind,jX,Option.pure_def,Option.some.injEq]at hm;obtain⟨x,h1,ys,h2,_⟩:=hm;obtain⟨hle,bs,bI,bY⟩:=ZS hT ih fs fields _ l8 ys hf hc ht hL.2 h2;rw[wC hT hi]at h1;obtain⟨aL,gY,iI⟩:=ih _ hL.1 _ _ h1;have aM:aL.length=i.size:=by rw[gY.1];simp;omega
  refine⟨by omega,aL++bs,?_,?_⟩
  ·have:=gY.append bI;rw[ho]at this
   have e:(cs.drop off).take i.size++cs.drop (off+i.size)=cs.drop off:=by
    rw[<- List.drop_drop,zJ]
   rwa [e]at this
  ·intro y hy;rcases jH.1 hy with rfl|hy
   ·refine⟨by simp[ho],i,hi,?_⟩;simp only[ho,Nat.sub_self,zU];rw[<- aM,List.take_left];exact iI
   ·obtain⟨h3,j,h4,h5⟩:=bY y hy;refine⟨by omega,j,h4,?_⟩;have e:y.2-off=aL.length+(y.2-(off+i.size)):=by omega
    rw[e,<- List.drop_drop,yP];exact h5
theorem Ea{a:Addr}{n:Nat}{cs:List Value}(h:w.cells? base a n=some cs):cs.length=n/\∀(i:Nat),i<n->w.cell? (a.add i)=cs[i]?:=by
 unfold World.cells? at h;split at h
 case isFalse=>cases h
 have hl:=mapM_some_length h;simp at hl;refine⟨hl,fun i hi=>?_⟩;exact mapM_some_get h i i (by simp[hi])
theorem Xhl{k:IntKind}{n:Int}(h:(Lit.int k n).wf=true):k.min<=n/\n<=k.max:=by simp only[Lit.wf,kR,jA]at h;exact h
theorem Xsb{f t:Nat}{cs:List Value}{x:DataW H × List MemPlace}{k:IntKind}(hk:P.underlying t=some (.int k))(h:DataW.trod enc P w base spare held (f+1) t cs=some x):∃n,cs=[.int k n]/\k.min<=n/\n<=k.max:=by
 unfold DataW.trod at h;rw[hk]at h;split at h
 all_goals rename_i heq
 all_goals first|(injection heq with heq;cases heq;done)|skip
 ·injection heq with heq;injection heq with heq;subst heq;split at h
  ·rename_i hc;obtain⟨rfl,hw⟩:=hc;exact⟨_,rfl,Xhl hw⟩
  ·cases h
 ·cases h
theorem Xjh{f t:Nat}{cs:List Value}{x:DataW H × List MemPlace}(hk:P.underlying t=some .bool)(h:DataW.trod enc P w base spare held (f+1) t cs=some x):∃b,cs=[.bool b]:=by
 unfold DataW.trod at h;rw[hk]at h;split at h
 all_goals rename_i heq
 all_goals first|(injection heq with heq;cases heq;done)|skip
 ·exact⟨_,rfl⟩
 ·cases h
theorem Xiw{f t:Nat}{cs:List Value}{x:DataW H × List MemPlace}(hk:P.underlying t=some .string)(h:DataW.trod enc P w base spare held (f+1) t cs=some x):∃s,cs=[.string s]/\s.size<=maxLen:=by
 unfold DataW.trod at h;rw[hk]at h;split at h
 all_goals rename_i heq
 all_goals first|(injection heq with heq;cases heq;done)|skip
 ·split at h
  ·exact⟨_,rfl,by assumption⟩
  ·cases h
 ·cases h
theorem Xfp{f t e:Nat}{cs:List Value}{x:DataW H × List MemPlace}(hk:P.underlying t=some (.slice e))(h:DataW.trod enc P w base spare held (f+1) t cs=some x):cs=[.slice none 0 0]\/
  ∃a len cap,cs=[.slice (some a) len cap]/\len<=cap/\cap<=maxLen/\∀i,i<len->∃cs' y,w.cells? base (a.add<|i*P.cellsOf e) (P.cellsOf e)=some cs'/\DataW.trod enc P w base spare held f e cs'=some y:=by
 unfold DataW.trod at h;rw[hk]at h;split at h
 all_goals rename_i heq
 all_goals first|(injection heq with heq;cases heq;done)|skip
 ·exact .inl rfl
 ·injection heq with heq;injection heq with heq;subst heq;refine .inr ⟨_,_,_,rfl,?_⟩;simp only at h;split at h
  case isFalse=>cases h
  rename_i hc;refine⟨hc.2.1,hc.2.2,fun i hi=>?_⟩;rw[jX]at h;obtain⟨elems,h1,_⟩:=h;have hl:=mapM_some_length h1;simp at hl;have:=mapM_some_get h1 i i (by simp[hi]);rw[kH<|by omega,jX]at this;obtain⟨cs',h2,h3⟩:=this;exact⟨cs',_,h2,h3⟩
 ·cases h
theorem Xn3{f t:Nat}{fs:Array Field}{cs:List Value}{x:DataW H × List MemPlace}(hk:P.underlying t=some (.struct fs))(h:DataW.trod enc P w base spare held (f+1) t cs=some x):cs.length=P.cellsOf t/\∃xs,fs.toList.mapM (fun g=>DataW.trod enc P w base spare held f g.type<|(cs.drop g.offset).take<|P.cellsOf g.type)=some xs:=by
 unfold DataW.trod at h;rw[hk]at h;split at h
 all_goals rename_i heq
 all_goals first|(injection heq with heq;cases heq;done)|skip
 ·injection heq with heq;injection heq with heq;subst heq;split at h
  case isFalse=>cases h
  rename_i hc;rw[kN]at h;obtain⟨xs,h1,_⟩:=h;exact⟨hc,xs,h1⟩
 ·simp_all
theorem PZ{a:Addr}{n:Nat}(h:(w.cell?<|a.add n).isSome=true):a.add n=⟨a.block,a.off+n,none⟩:=by
 unfold Addr.add at h⊢;split
 ·rename_i hn;rw[kC hn]at h;subst hn
  cases ha:a.spot with
  |none=>cases a;cases ha;rfl
  |some x=>
   simp only[World.cell?]at h;split at h
   ·simp[ha]at h
   ·cases h
 ·rfl
theorem Xpz(hT:Kw P T){f e:Nat}{j:TI}(hj:T e=some j)(hj0:0<j.size)(ih :∀cs x,DataW.trod enc P w base spare held f e cs=some x->∃aL,Dw w aL cs/\HasC T f e aL){a:Addr}{len cap:Nat}(h1:len<=cap)
  (h :∀i,i<len->∃cs' y,w.cells? base (a.add<|i*P.cellsOf e) (P.cellsOf e)=some cs'/\DataW.trod enc P w base spare held f e cs'=some y):∃rows,Fz (H0 w) (.sl .ext rows) (.slice (some a) len cap)/\rows.length=len/\(∀r∈rows,HasC T f e r)/\∀r∈rows,r.length=j.size:=by
 rw[wC hT hj]at h
 have hr :∀i,∃aL,i<len->∃cs',w.cells? base (a.add<|i*j.size) j.size=some cs'/\Dw w aL cs'/\HasC T f e aL:=by
  intro i;by_cases hi:i<len
  ·obtain⟨cs',y,h2,h3⟩:=h i hi;obtain⟨aL,h4,h5⟩:=ih cs' y h3;exact⟨aL,fun _=>⟨cs',h2,h4,h5⟩⟩
  ·exact⟨[],fun h=>absurd h hi⟩
 obtain⟨g,hg⟩:=Classical.axiomOfChoice hr
 have aZ :∀(i:Nat) row,((List.range len).map g)[i]?=some row->i<len/\row=g i:=by
  intro i row hi;rw[jY]at hi;by_cases hl:i<len
  ·rw[xI hl]at hi;simp at hi;exact⟨hl,hi.symm⟩
  ·rw[kT (by simp;omega)]at hi;cases hi
 have addr :∀i o,i<len->o<j.size->∃v,w.cell? ⟨a.block,a.off+i*j.size+o,none⟩=some v/\∀x,(g i)[o]?=some x->Fz (H0 w) x v/\x.one=true:=by
  intro i o hi ho;obtain⟨cs',h2,h3,h4⟩:=hg i hi;obtain⟨h5,h6⟩:=Ea h2;have h7:=h6 o ho;have h8:cs'[o]?=some cs'[o]:=kH (by omega);have hx:=h6 0 (by omega);rw[kH<|show 0<cs'.length by omega]at hx;have e0:(a.add<|i*j.size).add 0=a.add (i*j.size):=rfl;rw[e0]at hx;have e1:=PZ (w:=w) (a:=a) (n:=i*j.size) (by rw[hx];rfl);rw[e1]at h7;rw[h8]at h7;have e2:=PZ (w:=w) (a:=⟨a.block,a.off+i*j.size,none⟩) (n:=o) (by rw[h7];rfl);rw[e2]at h7;exact⟨_,h7,fun x hx=>h3.2 o x _ hx h8⟩
 refine⟨(List.range len).map g,?_,by simp,?_,?_⟩
 ·have key:=Fz.sl (H:=H0 w) ((List.range len).map g) (some a) cap j.size a.block a.off (fun i o=>(w.cell? ⟨a.block,a.off+i*j.size+o,none⟩).getD undef) ?_ (by simpa using h1) ?_ ?_ ?_
  ·simpa using key
  ·intro aQ
   have hl:0<len:=by
    rcases zX len with h|h
    ·subst h;exact absurd rfl aQ
    ·exact h
   obtain⟨cs',h2,h3,h4⟩:=hg 0 hl;obtain⟨h5,h6⟩:=Ea h2;have hx:=h6 0 (by omega);rw[kH<|show 0<cs'.length by omega]at hx;have e0:(a.add<|0*j.size).add 0=a.add (0*j.size):=rfl;rw[e0,Nat.zero_mul]at hx;have e1:=PZ (w:=w) (a:=a) (n:=0) (by rw[hx];rfl);have e2:a.add 0=a:=rfl;rw[e2]at e1;rw[e1]
  ·intro i row hi;obtain⟨hl,rfl⟩:=aZ i row hi;obtain⟨cs',h2,h3,h4⟩:=hg i hl;rw[h3.1,(Ea h2).1]
  ·intro i row o x hi hx;obtain⟨hl,rfl⟩:=aZ i row hi;obtain⟨cs',h2,h3,h4⟩:=hg i hl
   have ho:o<j.size:=by
    have:=(jQ.1 hx).1;rw[h3.1,(Ea h2).1]at this;exact this
   obtain⟨v,h5,h6⟩:=addr i o hl ho;rw[h5];exact Xst h5 (R.one (G:=⟨H0 w,fun _ _=>none,fun _ _=>none,fun _=>none,fun _=>none⟩) (.fz _ _ (h6 x hx).1) (h6 x hx).2)
  ·intro i row o x hi hx;obtain⟨hl,rfl⟩:=aZ i row hi;obtain⟨cs',h2,h3,h4⟩:=hg i hl
   have ho:o<j.size:=by
    have:=(jQ.1 hx).1;rw[h3.1,(Ea h2).1]at this;exact this
   obtain⟨v,h5,h6⟩:=addr i o hl ho;simp only[h5,xF];exact(h6 x hx).1
 ·intro r hr;obtain⟨i,hi,rfl⟩:=yS.1 hr;obtain⟨cs',h2,h3,h4⟩:=hg i (by simpa using hi);exact h4
 ·intro r hr;obtain⟨i,hi,rfl⟩:=yS.1 hr;obtain⟨cs',h2,h3,h4⟩:=hg i (by simpa using hi);rw[h3.1,(Ea h2).1]
theorem ZT(hT:Kw P T)(hL :∀t,L.contains t=true->Lk T L t=true):∀(f t:Nat),L.contains t=true->∀cs x,DataW.trod enc P w base spare held f t cs=some x->∃aL,Dw w aL cs/\HasC T f t aL
 |0,t,_,cs,x,h=>by cases h
 |f+1,t,ht,cs,x,h=>by
  have aV:=hL t ht;unfold Lk at aV;split at aV
  case h_2=>cases aV
  rename_i i hi;have hk:=(hT t i hi).kind;have ih:=ZT hT hL f
  have fin :∀{aL},Dw w aL cs->(match i.kind with
   |.int k=>∃n,aL=[.i k n]/\k.min<=n/\n<=k.max
   |.bool=>∃b,aL=[.b b]
   |.str=>∃s,aL=[.s s]/\s.length<=maxLen
   |.sl e=>∃rows,aL=[.sl .ext rows]/\rows.length<=maxLen/\(∀r∈rows,HasC T f e r)/\∀j,T e=some j->∀r∈rows,r.length=j.size
   |.st fs=>∀x∈fs,∃j,T x.1=some j/\HasC T f x.1 ((aL.drop x.2).take j.size)
   | _=>False)->∃aL,Dw w aL cs/\HasC T (f+1) t aL:=by
   intro aL h1 h2;refine⟨aL,h1,?_⟩;unfold HasC;rw[hi];exact h2
  revert hk aV fin;generalize bL:i.kind=kk
  cases kk with
  |int k=>
   intro aV hk fin;obtain⟨n,rfl,hn⟩:=Xsb hk h;exact fin (.one (.i k n) rfl) ⟨n,rfl,hn⟩
  |bool=>
   intro aV hk fin;obtain⟨b,rfl⟩:=Xjh hk h;exact fin (.one (.b b) rfl) ⟨b,rfl⟩
  |str=>
   intro aV hk fin;obtain⟨s,rfl,hs⟩:=Xiw hk h;refine fin (.one (a:=.s s.data.toList) ?_ rfl) ⟨_,rfl,by simpa using hs⟩;have e:s=⟨s.data.toList.toArray⟩:=by simp
   have:=Fz.s (H:=H0 w) s.data.toList
   rwa [<- e]at this
  |sl e=>
   intro aV hk fin;simp only[kR]at aV;obtain⟨hLe,hj⟩:=aV;split at hj
   case h_2=>cases hj
   rename_i j fV;rcases Xfp hk h with rfl|⟨a,len,cap,rfl,h1,h2,h3⟩
   ·refine fin (.one (a:=.sl .ext []) ?_ rfl) ⟨[],rfl,by simp,by simp,by simp⟩;exact Fz.sl [] none 0 0 0 0 (fun _ _=>undef) (by simp) (by simp) (by simp) (by simp) (by simp)
   ·obtain⟨rows,h4,h5,h6,h7⟩:=Xpz hT fV (zR hj) (ih e hLe) h1 h3;exact fin (.one h4 rfl) ⟨rows,rfl,by omega,h6,fun j' lC=>by rw[fV]at lC;cases lC;exact h7⟩
  |arr n e=>intro aV;cases aV
  |st fs=>
   intro aV hk fin;simp only[kR]at aV;obtain⟨fields,h1,h2,_⟩:=hk;obtain⟨h3,xs,h4⟩:=Xn3 h1 h;rw[wC hT hi]at h3;have hc:pY T 0 fs=some i.size:=by simpa using aV.2
   obtain⟨_,aL,h5,h6⟩:=ZS hT ih fs fields.toList 0 i.size xs h2 hc h3.symm aV.1 h4;rw[zU]at h5;refine fin h5 fun x hx=>?_
   obtain⟨_,j,h7,h8⟩:=h6 x hx;exact⟨j,h7,by simpa using h8⟩
  |other=>intro aV;cases aV
  |ptr e=>intro aV;cases aV
  |uptr=>intro aV;cases aV
  |mp=>intro aV;cases aV
end
end Go.AM

namespace Go.AM
open Go Go.RowKit Go.ChangeShapes Go.WideShapes
def Qz(T:Vn)(t:TypeId)(a:AV):Prop:=
 match T t with
 |some i=>match i.kind with
  |.st _=>∃f aL,a=.ag aL/\aL.length=i.size/\HasC T f t aL
  |_=>∃f,HasC T f t [a]
 |none=>False
def P4(T:Vn):List TypeId->List AV->Prop
 |[],[]=>True
 |t::ts,a::aL=>Qz T t a/\P4 T ts aL
 |_,_=>False
section
variable{H:Type}{enc:TypeId × Value->H}{P:Program}{X:Cx}{W:World}{L:List Nat}
def G0(X:Cx)(W:World):Gh:=⟨H0 W,fun _ _=>none,fun _ _=>none,X.fm,fun _=>none⟩
theorem Xu3(P5:Nf X.fm W):Yy (G0 X W) W Zp W where
 bel:=⟨.refl _ _,P5⟩
 ext:=fun g o v h=>Xqs h
 bx:=by intro k ver cs g h;cases h
 inj:=by intro k k' ver ver' cs cs' g h;cases h
 ow:=by intro k ver n h;cases h
 owinj:=by intro k k' ver ver' n n' g cap size cA bJ h;cases h
 fresh:=fun k ver _=>⟨rfl,rfl⟩
 bxT:=by intro k ver cs g hb h;cases h
 owT:=by intro k ver n hb h;cases h
 mp:=by intro b l h;cases h
theorem Xny(hT:Kw P X.T)(hL :∀t,L.contains t=true->Lk X.T L t=true){t:TypeId}(ht:L.contains t=true){v:Value}{d:DataW H}{ps:List MemPlace}{b:Nat}{r:Reach}{held:Bool}{sp:Nat->Bool}
  (dJ:Value.okWide P W r b t v) (hd:DataW.Trod enc P W 0 sp held t v d ps):∃a,R (G0 X W) a v/\Qz X.T t a:=by
 obtain⟨f,hf⟩:=hd;obtain⟨aL,h1,h2⟩:=ZT hT hL f t ht _ _ hf;have aV:=hL t ht;unfold Lk at aV;split at aV
 case h_2=>cases aV
 rename_i i hi;have hk:=(hT t i hi).kind
 have plain:(∀us,v≠.agg us)->(∀fs,i.kind≠.st fs)->aL.length=1->∃a,R (G0 X W) a v/\Qz X.T t a:=by
  intro hv bU hlen
  have hc:v.cells.toList=[v]:=by
   cases v with
   |agg us=>exact absurd rfl (hv us)
   |_=>rfl
  match aL,hlen with
  |[a],_=>
   rw[hc]at h1;refine⟨a,.fz _ _ (h1.2 0 a v rfl rfl).1,?_⟩;unfold Qz;rw[hi]
   have key :∀kk:TK,(∀fs,kk≠.st fs)->(match kk with|.st _=>∃f aL,a=.ag aL/\aL.length=i.size/\HasC X.T f t aL|_=>∃f,HasC X.T f t [a]):=by
    intro kk hk
    cases kk with
    |st fs=>exact absurd rfl (hk fs)
    |int k=>exact⟨f,h2⟩
    |bool=>exact⟨f,h2⟩
    |str=>exact⟨f,h2⟩
    |sl e=>exact⟨f,h2⟩
    |arr n e=>exact⟨f,h2⟩
    |other=>exact⟨f,h2⟩
    |ptr e=>exact⟨f,h2⟩
    |uptr=>exact⟨f,h2⟩
    |mp=>exact⟨f,h2⟩
   exact key i.kind bU
 have one :∀{aL:List AV},Dw W aL v.cells.toList->(∀us,v≠.agg us)->aL.length=1:=by
  intro aL h hv;rw[h.1]
  cases v with
  |agg us=>exact absurd rfl (hv us)
  |_=>rfl
 generalize bL:i.kind=kk at hk aV
 cases kk with
 |int k=>
  obtain⟨n,rfl⟩:=okWide_int hk dJ;exact plain (by intro us h;cases h) (by rw[bL];intro fs h;cases h) (one h1 (by intro us h;cases h))
 |bool=>
  obtain⟨n,rfl⟩:=okWide_bool hk dJ;exact plain (by intro us h;cases h) (by rw[bL];intro fs h;cases h) (one h1 (by intro us h;cases h))
 |str=>
  obtain⟨n,rfl⟩:=okWide_string hk dJ;exact plain (by intro us h;cases h) (by rw[bL];intro fs h;cases h) (one h1 (by intro us h;cases h))
 |sl e=>
  obtain⟨a,l,c,rfl⟩:=okWide_slice hk dJ;exact plain (by intro us h;cases h) (by rw[bL];intro fs h;cases h) (one h1 (by intro us h;cases h))
 |st fs=>
  obtain⟨fields,hu,_⟩:=hk;obtain⟨cs,rfl,cR⟩:=okWide_struct hu dJ;refine⟨.ag aL,?_,?_⟩
  ·have aM:aL.length=cs.toList.length:=h1.1;have e:Value.agg cs=.agg cs.toList.toArray:=by simp
   rw[e];exact .ag aL cs.toList aM fun j a u ha hu=>.fz _ _ (h1.2 j a u ha hu).1
  ·unfold Qz;rw[hi];simp only[bL];refine⟨f,aL,rfl,?_,h2⟩;rw[h1.1];simp only[Value.cells];rw[<- wC hT hi,<- cR];simp
 |arr n e=>simp at aV
 |other=>simp at aV
 |ptr e=>simp at aV
 |mp=>cases aV
 |uptr=>simp at aV
theorem ZU(hT:Kw P X.T)(hL :∀t,L.contains t=true->Lk X.T L t=true){b:Nat}{r:Reach}{held:Bool}{sp:Nat->Bool}:∀{ts:List TypeId}{vs:List Value}{ds:List (DataW H)}{ps:List MemPlace},(ts.all fun t=>L.contains t)=true->
  (∀(j:Nat) t v,ts[j]?=some t->vs[j]?=some v->Value.okWide P W r b t v)->DataW.TrodAll enc P W 0 sp held ts vs ds ps->∃aL,Rs (G0 X W) aL vs/\P4 X.T ts aL
 |[],vs,ds,ps,_,_,h=>by
  obtain⟨rfl,rfl,rfl⟩:=trodAll_nil h;exact⟨[],⟨rfl,by simp⟩,trivial⟩
 |t::ts,vs,ds,ps,ht,hv,h=>by
  obtain⟨v,P6,d,ds1,p,q,rfl,rfl,rfl,h1,h2⟩:=trodAll_cons h;simp only[List.all_cons,kR]at ht;obtain⟨a,h3,h4⟩:=Xny hT hL ht.1 (hv 0 t v rfl rfl) h1;obtain⟨aL,h5,h6⟩:=ZU hT hL ht.2 (fun j t v h1 h2=>hv (j+1) t v (by simpa using h1)<|by simpa using h2) h2;refine⟨a::aL,⟨by simp[h5.1],fun j x u hx hu=>?_⟩,h4,h6⟩
  cases j with
  |zero=>simp at hx hu;subst hx;subst hu;exact h3
  |succ j=>exact h5.2 j x u (by simpa using hx) (by simpa using hu)
theorem ZV(hl:laidOutB P=true){W':World}(hb:Below W.heap.size W W'):∀{ts:List TypeId}{vs:List Value}{ds:List (DataW H)}{ps:List MemPlace},(ts.all fun t=>P.readableRec t&&decide (t<P.types.size))=true->
  DataW.TrodAll enc P W 0 (fun _=>true) true ts vs ds ps->(∀x∈ps,x.block<W.heap.size)->DataW.TrodAll enc P W' 0 (fun b=>decide<|b<W.heap.size) true ts vs ds ps
 |[],vs,ds,ps,_,h,_=>by
  obtain⟨rfl,rfl,rfl⟩:=trodAll_nil h;exact trodAll_mk0
 |t::ts,vs,ds,ps,ht,h,iW=>by
  obtain⟨v,P6,d,ds1,p,q,rfl,rfl,rfl,h1,h2⟩:=trodAll_cons h;simp only[List.all_cons,kR,jA]at ht;exact trodAll_cons_mk (Below.trod hl ht.1.1 ht.1.2 h1 hb fun x hx=>iW x<|List.mem_append_left _ hx) (ZV hl hb ht.2 h2 fun x hx=>iW x<|List.mem_append_right _ hx)
theorem ZW:∀{ts:List TypeId}{vs:List Value}{ds:List (DataW H)}{ps:List MemPlace}{sp:Nat->Bool}{held:Bool},DataW.TrodAll enc P W 0 sp held ts vs ds ps->∀x∈ps,x.block<W.heap.size
 |[],vs,ds,ps,_,_,h=>by
  obtain⟨rfl,rfl,rfl⟩:=trodAll_nil h;simp
 |t::ts,vs,ds,ps,_,_,h=>by
  obtain⟨v,P6,d,ds1,p,q,rfl,rfl,rfl,h1,h2⟩:=trodAll_cons h;intro x hx;rcases kZ.1 hx with hx|hx
  ·obtain⟨m,hm⟩:=h1;exact DataW.trod_lt m _ _ _ hm x hx
  ·exact ZW h2 x hx
structure ZX(P:Program)(X:Cx)(PG:Zb)(L:List Nat):Prop where
 T:Kw P X.T
 mixed:P.follows .mixedOrders=true
 fns:B6 P X PG.fn
 orac:Ro P X PG
 oracS:q8 P X PG
 types :∀t,L.contains t=true->Lk X.T L t=true
theorem Xk9{PG:Zb}(h:ZX P X PG L){f c:Nat}(aJ:X.fm f=some c){args:Array Value}(hen:(callFunc f args).run P W=.ok (.enter f args) W){iO:List AV}(hR:Rs (G0 X W) iO args.toList)(P7:Ze PG c iO (.b true))(P5:Nf X.fm W:=by exact Nf.none<|by kernel_rfl):
  Calls P f args W fun e W'=>e=.returned (.bool true)/\Below W.heap.size W W':=by
 obtain⟨r,⟨aA,n,hr⟩,hs⟩:=P7
 have hrb:r=.b true:=by
  cases r with
  |b x=>simpa[AV.strip]using hs
  |bf f cs=>simp[AV.strip]at hs
  |sl o rows=>simp[AV.strip]at hs
  |ag cs=>simp only[AV.strip]at hs;split at hs<;>cases hs
  |tup cs=>simp only[AV.strip]at hs;split at hs<;>cases hs
  |p k v o=>simp[AV.strip]at hs
  |fn f cap=>simp[AV.strip]at hs
  |i k n=>simp[AV.strip]at hs
  |s l=>simp[AV.strip]at hs
  |fp cs=>simp[AV.strip]at hs
  |np=>simp[AV.strip]at hs
  |nf=>simp[AV.strip]at hs
  |ni=>simp[AV.strip]at hs
  |u=>simp[AV.strip]at hs
  |mp=>simp[AV.strip]at hs
  |yl=>simp[AV.strip]at hs
 subst hrb;have hg:=TQ h.T h.mixed h.fns h.orac h.oracS n 0 c iO Zp _ aA hr f aJ (G0 X W) W W args.toList rfl (Xu3 P5) hR;have ea:args.toList.toArray=args:=by simp
 rw[ea]at hg;rcases hg with⟨_,h2⟩|⟨v,w',h2,_⟩
 ·refine h2.mono fun e w' he=>?_
  cases e with
  |returned v=>
   obtain⟨G',h3,h4⟩:=he;exact⟨by rw[h3.bool_inv],h4.rel.bel.bel⟩
  |panicked c=>exact he.elim
  |outgrown=>exact he.elim
 ·rw[hen]at h2;cases h2
theorem Yc.of {f:Nat} {F:AF} {fn:Func} (h1:P.funcs[f]?=some fn) (h2:(fn.name== "runtime.NumGoroutine")=false) (h3:fn.body.bind (He { X with fz:=F.fz } F.nt)=some F.body) (h4:fn.ntmps=F.nt) (h5:Nq X fn.results.toList=some F.res) (h6:Nat.ble F.res.length 4=true):Yc P X f F:=by rw[jX]at h3;obtain⟨code,h7,h8⟩:=h3;exact⟨fn,code,h1,h2,h7,h4,q7.of h8,h5,jE h6⟩
theorem Yc.enters{f:Nat}{F:AF}(h:Yc P X f F)(args:Array Value)(w:World):(callFunc f args).run P w=.ok (.enter f args) w:=by obtain⟨fn,code,h1,h2,h3,_⟩:=h.ok;exact Ar h1 h2 h3 args
def PO(l:List (Nat × TI)):Vn:=fun t=>(l.find? fun x=>x.1==t).map (·.2)
theorem Xgn{l:List (Nat × TI)}(h :∀x∈l,Qe P x.1 x.2):Kw P (PO l):=by
 intro t i hi;unfold PO at hi;rw[kN]at hi;obtain⟨x,h1,rfl⟩:=hi;have h2:=List.find?_some h1;have h3:=List.mem_of_find?_eq_some h1;have:x.1=t:=by simpa using h2
 rw[<- this];exact h x h3
def Rb(l:List (Nat × AF)):Nat->Option AF:=fun c=>(l.find? fun x=>x.1==c).map (·.2)
def pM(l:List (Nat × Nat)):FM:=fun f=>(l.find? fun x=>x.1==f).map (·.2)
theorem Xgu{fm:List (Nat × Nat)}{fs:List (Nat × AF)}(h :∀x∈fm,∀F,Rb fs x.2=some F->Yc P X x.1 F)(hX:X.fm=pM fm):B6 P X (Rb fs):=by
 intro f c F hf hc;rw[hX]at hf;unfold pM at hf;rw[kN]at hf;obtain⟨x,h1,rfl⟩:=hf;have h2:=List.find?_some h1;have h3:=List.mem_of_find?_eq_some h1;have:x.1=f:=by simpa using h2
 rw[<- this];exact h x h3 F hc
theorem Xv8 {G:Gh} {w0 w:World} {st:St} {f:FuncId} {fn:Func} {d:Nat} (h1:P.funcs[f]?=some fn) (h2:(fn.name== "runtime.NumGoroutine")=false) (h3:fn.body.isNone=true) (h4:Extern.findNext fn=none) (h5:Extern.find fn=some Extern.BytealgIndexByte.indexByte)
  {s:BS}{c:UInt8}{Yv:List Value}(hR:Yy G w0 st w) (hV:Rs G [.s s,.i .u8 (c.toNat:Int)] Yv):Nd P f Yv.toArray w fun v w'=>∃G',R G' (.i .i64<|Lib.indexByte s c) v/\Ka G G' w0 st st w' d:=by
 have hlen:=hV.1
 match Yv,hlen with
 |[v1,v2],_=>
  have e1:=(hV.2 0 _ v1 rfl rfl).str_inv;have e2:=(hV.2 1 _ v2 rfl rfl).int_inv;subst e1;subst e2;refine .inr ⟨.int .i64<|Lib.indexByte s c,w,?_,G,.fz _ _<|.i _ _,.refl hR⟩;rw[run_callFunc_extern h1 h2 h3 h4 h5];have:=Lib.run_indexByteString (P:=P) ⟨s.toArray⟩ (c.toNat:Int) w;rw[this];simp[Result.andThen]
end
end Go.AM
namespace Go.AM
open Go
theorem Qe.of{P:Program}{t:TypeId}{i:TI}{ti:TypeInfo}(h1:P.info? t=some ti)(h2:(Nat.beq ti.size i.size&&Nat.beq ti.bytes i.bytes)=true)(h3:(ti.zero.bind fun z=>if z.cells.size=i.size then Bh z.cells.toList else none)=some i.zero)(h4:i.kind.ok P t):Qe P t i:=by
 simp only[kR]at h2;rw[jX]at h3;obtain⟨z,h5,h6⟩:=h3;split at h6
 ·rename_i h7;exact⟨⟨ti,z,h1,zQ h2.1,zQ h2.2,h5,h6,h7⟩,h4⟩
 ·cases h6
theorem TK.ok_st {P:Program} {t:TypeId} {fs:List (Nat × Nat)} (h:((P.underlying t).bind fun d=>match d with | .struct f=>if (!P.stoodInHeld t&&!P.eqGuardType P.depth t&&f.toList.all (fun f=>!(f.name== "_")))=true then some (f.toList.map fun f=>(f.type,f.offset)) else none | _=>none)=some fs):TK.ok P t (.st fs):=by
 rw[jX]at h;obtain⟨d,h1,h2⟩:=h
 cases d with
 |struct f=>
  simp only at h2;split at h2
  case isFalse=>cases h2
  rename_i h3;simp only[kR,Bool.not_eq_true',jU]at h3;simp only[Option.some.injEq]at h2;exact⟨f,h1,h2,h3.1.1,h3.1.2,h3.2⟩
 |_=>cases h2
end Go.AM

namespace Go.AM
open Go Go.RowKit Go.ChangeShapes
section
variable{T:Vn}{t:TypeId}{a:AV}{i:TI}
theorem Qz.plain(hi:T t=some i)(hk :∀fs,i.kind≠.st fs)(h:Qz T t a):∃f,HasC T f t [a]:=by
 unfold Qz at h;rw[hi]at h;obtain⟨kk,s1,s2,s3⟩:=i;simp only at hk
 cases kk with
 |st fs=>exact absurd rfl (hk fs)
 |int k=>simpa only using h
 |bool=>simpa only using h
 |str=>simpa only using h
 |sl e=>simpa only using h
 |arr n e=>simpa only using h
 |other=>simpa only using h
 |ptr e=>simpa only using h
 |uptr=>simpa only using h
 |mp=>simpa only using h
theorem HasC.int{f:Nat}{aL:List AV}{k:IntKind}(hi:T t=some i)(hk:i.kind=.int k)(h:HasC T f t aL):∃n,aL=[.i k n]/\k.min<=n/\n<=k.max:=by
 cases f with
 |zero=>exact h.elim
 |succ f=>
  unfold HasC at h;rw[hi]at h;simp only[hk]at h;exact h
theorem HasC.bool{f:Nat}{aL:List AV}(hi:T t=some i)(hk:i.kind=.bool)(h:HasC T f t aL):∃b,aL=[.b b]:=by
 cases f with
 |zero=>exact h.elim
 |succ f=>
  unfold HasC at h;rw[hi]at h;simp only[hk]at h;exact h
theorem HasC.str{f:Nat}{aL:List AV}(hi:T t=some i)(hk:i.kind=.str)(h:HasC T f t aL):∃s,aL=[.s s]/\s.length<=maxLen:=by
 cases f with
 |zero=>exact h.elim
 |succ f=>
  unfold HasC at h;rw[hi]at h;simp only[hk]at h;exact h
theorem HasC.sl{f e:Nat}{aL:List AV}(hi:T t=some i)(hk:i.kind=.sl e)(h:HasC T f t aL):∃g rows,f=g+1/\aL=[.sl .ext rows]/\rows.length<=maxLen/\(∀r∈rows,HasC T g e r)/\∀j,T e=some j->∀r∈rows,r.length=j.size:=by
 cases f with
 |zero=>exact h.elim
 |succ f=>
  unfold HasC at h;rw[hi]at h;simp only[hk]at h;obtain⟨rows,h1,h2,h3⟩:=h;exact⟨f,rows,rfl,h1,h2,h3⟩
theorem HasC.st{f:Nat}{aL:List AV}{fs:List (Nat × Nat)}(hi:T t=some i)(hk:i.kind=.st fs)(h:HasC T f t aL):∃g,f=g+1/\∀x∈fs,∃j,T x.1=some j/\HasC T g x.1 ((aL.drop x.2).take j.size):=by
 cases f with
 |zero=>exact h.elim
 |succ f=>
  unfold HasC at h;rw[hi]at h;simp only[hk]at h;exact⟨f,rfl,h⟩
theorem Qz.int{k:IntKind}(hi:T t=some i)(hk:i.kind=.int k)(h:Qz T t a):∃n,a=.i k n/\k.min<=n/\n<=k.max:=by obtain⟨f,h⟩:=h.plain hi (by rw[hk];intro fs h;cases h);obtain⟨n,h1,h2⟩:=h.int hi hk;injection h1 with h1;exact⟨n,h1,h2⟩
theorem Qz.bool(hi:T t=some i)(hk:i.kind=.bool)(h:Qz T t a):∃b,a=.b b:=by obtain⟨f,h⟩:=h.plain hi (by rw[hk];intro fs h;cases h);obtain⟨n,h1⟩:=h.bool hi hk;injection h1 with h1;exact⟨n,h1⟩
theorem Qz.str(hi:T t=some i)(hk:i.kind=.str)(h:Qz T t a):∃s,a=.s s/\s.length<=maxLen:=by obtain⟨f,h⟩:=h.plain hi (by rw[hk];intro fs h;cases h);obtain⟨n,h1,h2⟩:=h.str hi hk;injection h1 with h1;exact⟨n,h1,h2⟩
end
theorem Sg{n:Int}(h:IntKind.i64.min<=n/\n<=IntKind.i64.max):-9223372036854775808<=n/\n<9223372036854775808:=by have h1:IntKind.i64.min = -9223372036854775808:=rfl;have h2:IntKind.i64.max=9223372036854775807:=rfl;omega
theorem ZY{n:Int}(h:IntKind.u8.min<=n/\n<=IntKind.u8.max):0<=n/\n<256:=by have h1:IntKind.u8.min=0:=rfl;have h2:IntKind.u8.max=255:=rfl;omega
def Iu(P:Program)(X:Cx)(fs:List (Nat × AF)):List (Nat × Nat)->Prop
 |[]=>True
 |x::r=>(∀F,Rb fs x.2=some F->Yc P X x.1 F)/\Iu P X fs r
theorem Iu.all{P:Program}{X:Cx}{fs:List (Nat × AF)}:∀{l:List (Nat × Nat)},Iu P X fs l->∀x∈l,∀F,Rb fs x.2=some F->Yc P X x.1 F
 |[],_,_,hx=>by cases hx
 |y::l,h,x,hx=>by
  rcases jH.1 hx with rfl|hx
  ·exact h.1
  ·exact Iu.all h.2 x hx
theorem Fx{l:List (Nat × Nat)}{f c:Nat}(h:pM l f=some c):(f,c)∈l:=by
 unfold pM at h;rw[kN]at h;obtain⟨x,h1,rfl⟩:=h;have h2:=List.find?_some h1;have h3:=List.mem_of_find?_eq_some h1;have:x.1=f:=by simpa using h2
 rw[<- this];exact h3
def Ts(k:Nat):Nat->List AV->Option AV:=fun c args=>
 if c=k then match args with
  |[.s s,.i .u8 n]=>if 0<=n/\n<256 then some (.i .i64<|Lib.indexByte s n.toNat.toUInt8)else none
  |_=>none
 else none
theorem Xeo(k:Nat)(s:BS)(c:UInt8):Ts k k [.s s,.i .u8 (c.toNat:Int)]=some (.i .i64<|Lib.indexByte s c):=by have:=c.toNat_lt;unfold Ts;rw[kC rfl];simp only;rw[kC ⟨by omega,by omega⟩];simp
theorem Xwe {P:Program} {X:Cx} {fs:List (Nat × AF)} {k f0:Nat} {fn:Func} (hf :∀f,X.fm f=some k->f=f0) (h1:P.funcs[f0]?=some fn) (h2:(fn.name== "runtime.NumGoroutine")=false) (h3:fn.body.isNone=true) (h4:Extern.findNext fn=none) (h5:Extern.find fn=some Extern.BytealgIndexByte.indexByte):Ro P X { fn:=Rb fs,orac:=Ts k }:=by
 intro f c gO _ args r hr G w0 st w Yv d _ hR hV;simp only[Ts]at hr;split at hr
 case isFalse=>cases hr
 rename_i hc;subst hc;have:=hf f gO;subst this;split at hr
 case h_2=>cases hr
 rename_i s n;split at hr
 case isFalse=>cases hr
 rename_i hn;cases hr
 have e:n=((n.toNat.toUInt8).toNat:Int):=by
  have:(n.toNat.toUInt8).toNat=n.toNat:=by simp;omega
  omega
 have hV':Rs G [.s s,.i .u8 ((n.toNat.toUInt8).toNat:Int)] Yv:=by rw[<- e];exact hV
 exact Xv8 h1 h2 h3 h4 h5 hR hV'
section
variable{H:Type}{enc:TypeId × Value->H}{P:Program}{W:World}
theorem ZZ{held:Bool}{sp:Nat->Bool}:∀{ts:List TypeId}{vs:List Value}{ds:List (DataW H)}{ps:List MemPlace},DataW.TrodAll enc P W 0 sp held ts vs ds ps->ds.length=ts.length
 |[],vs,ds,ps,h=>by
  obtain⟨rfl,rfl,rfl⟩:=trodAll_nil h;rfl
 |t::ts,vs,ds,ps,h=>by
  obtain⟨v,P6,d,ds1,p,q,rfl,rfl,rfl,h1,h2⟩:=trodAll_cons h;simp[ZZ h2]
theorem ds2{α:Type}{ds:List α}(h:ds.length=2):∃a b,ds=[a,b]:=by match ds,h with|[a,b],_=>exact⟨a,b,rfl⟩
end
theorem Wdu{α:Type}{x:α}{p:Prop}(h:(none:Option α)=some x):p:=by cases h
end Go.AM

namespace Go.AM
open Go Go.RowKit Go.Shelf Go.Proofs
theorem TK.ok_other{P:Program}{t:TypeId}(h:(match P.underlying t with|none=>false|some (.struct _)=>false|some (.array _ _)=>false|some _=>true)=true):TK.ok P t .other:=by
 show∃d,P.underlying t=some d/\(match d with|.struct _|.array _ _=>False|_=>True);split at h
 ·cases h
 ·cases h
 ·cases h
 ·rename_i d h1 h2 h3;refine⟨d,h3,?_⟩;split
  ·exact absurd rfl (h1 _)
  ·exact absurd rfl (h2 _ _)
  ·trivial
def Rj:Nat->List AV->Option AV:=fun c args=>
 if c=146 then (match args with|[x]=>some x|_=>none)else Ts 48 c args
def pZ:Nat->List AV->St->Option (AV × St):=fun c args st=>if c=105 then Pm args st else none
theorem Xdw(s:BS)(c:UInt8):Rj 48 [.s s,.i .u8 (c.toNat:Int)]=some (.i .i64<|Lib.indexByte s c):=by unfold Rj;rw[kA<|by decide];exact Xeo 48 s c
theorem Xbs(args:List AV):Rj 105 args=none:=by unfold Rj Ts;rw[kA<|by decide,kA<|by decide]
theorem Xwh(args:List AV)(st:St):pZ 105 args st=Pm args st:=rfl
section
variable{P:Program}{X:Cx}
theorem Xhk {fs:List (Nat × AF)} (iK:Ro P X { fn:=Rb fs,orac:=Ts 48 }) {f0:Nat} {fn:Func} (hf :∀f,X.fm f=some 146->f=f0) (h1:P.funcs[f0]?=some fn) (h2:(fn.name== "runtime.NumGoroutine")=false) (h3:fn.body.isNone=true) (h4:Extern.findNext fn=none) (h5:Extern.find fn=some Extern.AbiNoEscape.same):Ro P X ⟨Rb fs,Rj,pZ⟩:=by
 intro f c gO p5 args r hr G w0 st w Yv d hG hR hV;simp only[Rj]at hr;split at hr
 ·rename_i hc;subst hc;have:=hf f gO;subst this;split at hr
  case h_2=>cases hr
  rename_i x;cases hr;have hlen:=hV.1
  match Yv,hlen with
  |[v1],_=>
   refine .inr ⟨v1,w,?_,G,hV.2 0 _ v1 rfl rfl,.refl hR⟩;rw[run_callFunc_extern h1 h2 h3 h4 h5];have:=Lib.run_noEscape (P:=P) w v1;rw[this];simp[Result.andThen]
 ·exact iK f c gO p5 args r hr G w0 st w Yv d hG hR hV
theorem orsB_ok {fs:List (Nat × AF)} {ρ:Ren} (L:Lays.n169 P ρ) (E:Builder.Extra P ρ) (hf :∀f,X.fm f=some 105->f=ρ.f 169) (hb:X.fm 1000000000000=some (ρ.t 72+1000000000)) (he:X.fm 1000000000001=some (ρ.t 5+1000000000)) {fn:Func} {code:Code} (h1:P.funcs[ρ.f 169]?=some fn) (h2:(fn.name== "runtime.NumGoroutine")=false) (h3:fn.body=some code):q8 P X ⟨Rb fs,Rj,pZ⟩:=by
 intro f c gO _ args st r aA hr G w0 w Yv d hG hR hV;simp only[pZ]at hr;split at hr
 case isFalse=>cases hr
 rename_i hc;subst hc;have:=hf f gO;subst this;have e1:Gj X.fm=ρ.t 72:=by unfold Gj;rw[hb];simp
 have e2:Mx X.fm=ρ.t 5:=by unfold Mx;rw[he];simp
 exact Xp4 L E e1.symm e2.symm (fun args w=>Ar h1 h2 h3 args) hr hG hR hV
end
end Go.AM

namespace Go.AM
open Go
abbrev Zc:=BS
abbrev Dq:Zc:=[48,49,50,51,52,53,54,55,56,57,97,98,99,100,101,102]
theorem Wj:Yj=1099511627776:=rfl
theorem Xk:Qt=70368744177664:=rfl
theorem Uz{α:Type}{P:α->Int->Prop}(A:Nat->α)(n:Nat)(h1:P (A n) (n:Int))(h2 :∀i:Nat,i<n->P (A<|i+1) ((i+1:Nat):Int)->P (A i) (i:Int)):P (A 0) 0:=by
 have key :∀m i:Nat,i+m=n->P (A i) (i:Int):=by
  intro m
  induction m with
  |zero=>intro i hi;simp only[zV]at hi;subst hi;exact h1
  |succ m ih=>intro i hi;exact h2 i (by omega) (ih (i+1)<|by omega)
 exact key n 0 (by omega)
theorem UU{P:Int->Prop}(n:Nat)(h1:P (n:Int))(h2 :∀i:Nat,i<n->P ((i+1:Nat):Int)->P (i:Int)):P 0:=
 Uz (P:=fun _ i=>P i) (fun _=>()) n h1 h2
theorem Qu{i:Nat}(h:i<4611686018427387904):IntKind.i64.wrap ((i:Int)+1)=((i+1:Nat):Int):=by rw[Yq (by omega)<|by omega];omega
theorem Kb(i:Nat):((i:Int)).toNat=i:=rfl
def Kn(n:Nat):UInt8:=Dq.getD n 0
theorem Co{n:Nat}(h:n<16):Dq[n]?=some (Kn n):=by unfold Kn;rw[zG,kH<|by simpa using h];rfl
theorem rR{n m:Nat}(h:n<16)(hm:m=n+1):(Dq.drop n).take (m-n)=[Kn n]:=by subst hm;rw[show n+1-n=1 by omega,zE<|by simpa using h];simp only[yU,List.take_zero];have:=Co h;rw[kH<|by simpa using h]at this;injection this with this;rw[this]
theorem UP:Dq.length=16:=rfl
def Ws(c:UInt8):Zc:=
 if c.toNat=34\/c.toNat=92 then [92,c]else if c.toNat=10 then [92,110]else if c.toNat<32\/126<c.toNat then [92,120,Kn<|c.toNat / 16,Kn<|c.toNat % 16]else [c]
def Kd(s:Zc):Zc:=s.flatMap Ws
def quo(s:Zc):Zc:=34::(Kd s++[34])
theorem rT(c:UInt8):1<=(Ws c).length/\(Ws c).length<=4:=by
 unfold Ws;split
 ·exact⟨by simp,by simp⟩
 ·split
  ·exact⟨by simp,by simp⟩
  ·split<;>exact⟨by simp,by simp⟩
theorem nE(s:Zc):(Kd s).length<=4*s.length:=by
 induction s with
 |nil=>exact kU _
 |cons c s ih=>
  have h:Kd (c::s)=Ws c++Kd s:=rfl;rw[h,kF,kB];have:=rT c;omega
theorem Hj(s:Zc):(quo s).length<=4*s.length+2:=by have:=nE s;simp only[quo,kB,kF,kD];omega
theorem UO{s:Zc}{i:Nat}(h:i<s.length):Kd (s.take<|i+1)=Kd (s.take i)++Ws s[i]:=by rw[kM h];simp only[Kd,List.flatMap_append,List.flatMap_cons,List.flatMap_nil,zA]
def ds(b:Nat):Nat->Nat->Zc
 |0,_=>[]
 |f+1,n=>if n<b then [Kn n]else ds b f (n / b)++[Kn<|n % b]
theorem Lj(b:Nat):∀f n,(ds b f n).length<=f
 |0,_=>kU _
 |f+1,n=>by
  have:=Lj b f (n / b);unfold ds;split
  ·simp
  ·simp;omega
def Jj(b n:Nat):Zc:=ds b 64 n
def Yn(n:Int):Zc:=if n<0 then 45::Jj 10 (-n).toNat else Jj 10 n.toNat
def Sj(s:Zc):Zc × Int:=if 400<s.length then ([],4)else (quo s,0)
def Dj(n:Nat)(l:List Zc):Bool:=l.any fun x=>decide (n<x.length)
theorem Yy9{n:Nat}{l:List Zc}{i:Nat}(hi:i<l.length)(h:n<l[i].length):Dj n l=true:=by unfold Dj;rw[List.any_eq_true];exact⟨l[i],kL hi,by simpa using h⟩
theorem I_{n:Nat}{l:List Zc}:Dj n l=false ↔∀x∈l,x.length<=n:=by unfold Dj;rw[xB];simp
def Vm(l:List Zc):Bool:=Dj 400 l||decide (64<l.length)
theorem Sf{n:Nat}(h:n<18446744073709551616):IntKind.u64.wrap (n:Int)=(n:Int):=Mh (by omega) (by omega)
end Go.AM

namespace Go.AM
open Go
def dv(b:Nat)(c:UInt8):Int:=Lib.indexByte (Dq.take b) c
theorem Po{b:Nat}(hb:b<=16)(c:UInt8):-1<=dv b c/\dv b c<b:=by
 have key :∀(l:Zc),-1<=Lib.indexByte l c/\(Lib.indexByte l c<l.length\/Lib.indexByte l c = -1):=by
  intro l
  induction l with
  |nil=>exact⟨Int.le_refl _,.inr rfl⟩
  |cons x l ih=>
   unfold Lib.indexByte;split
   ·simp
   ·split
    ·exact⟨Int.le_refl _,.inr rfl⟩
    ·simp only[kB];omega
 have:=key (Dq.take b);unfold dv;have hl:(Dq.take b).length=b:=by simp[hb]
 omega
theorem Xan:∀k:Fin 16,dv 16 (Kn k)=(k.val:Int):=by decide
theorem Yu8(c:UInt8):∀(l:Zc),0<=Lib.indexByte l c->l[(Lib.indexByte l c).toNat]?=some c
 |[],h=>absurd h (show ¬ (0:Int)<=-1 by decide)
 |x::l,h=>by
  have ih:=Yu8 c l;unfold Lib.indexByte at h⊢;split
  ·rename_i hx;have:x=c:=by simpa using hx
   subst this;rfl
  ·rename_i hx;rw[kA hx]at h;split
   ·rename_i h1;rw[kC h1]at h;exact absurd h (by decide)
   ·rename_i h1;rw[kA h1]at h;have h2:=Lib.indexByte_ge l c;have h3:Lib.indexByte l c≠-1:=by simpa using h1
    have h4:0<=Lib.indexByte l c:=by omega
    have h5:(Lib.indexByte l c+1).toNat=(Lib.indexByte l c).toNat+1:=by omega
    rw[h5,zN];exact ih h4
theorem Q9{b:Nat}(c:UInt8)(h:0<=dv b c):c=Kn (dv b c).toNat:=by
 have h1:=Yu8 c (Dq.take b) h
 have h2:Dq[(dv b c).toNat]?=some c:=by
  have:=(jQ.1 h1);obtain⟨h3,h4⟩:=this;rw[List.getElem_take]at h4;exact jQ.2 ⟨by rw[kW]at h3;exact yB h3<|Nat.min_le_right _ _,h4⟩
 unfold Kn;rw[zG,h2];rfl
def Yv(b:Nat)(s:Zc):Nat:=s.foldl (fun n c=>n*b+(dv b c).toNat) 0
def Dl(b:Nat)(s:Zc):Bool:=s.all fun c=>decide (0<=dv b c)
def Dh(b:Nat)(s:Zc):Bool:=decide (s=[])||!Dl b s||(decide (1<s.length)&&decide (s.head?=some 48))
def rd(b most:Nat)(s:Zc):Nat × Int:=if Dh b s=true then (0,12)else if most<Yv b s then (0,16)else (Yv b s,0)
theorem Im{b:Nat}{s:Zc}{i:Nat}(h:i<s.length):Yv b (s.take<|i+1)=Yv b (s.take i)*b+(dv b s[i]).toNat:=by unfold Yv;rw[kM h,List.foldl_append];rfl
theorem UQ{b:Nat}{s:Zc}{i:Nat}(h:i<s.length):Dl b (s.take<|i+1)=(Dl b (s.take i)&&decide (0<=dv b s[i])):=by unfold Dl;rw[kM h,List.all_append];simp
theorem UR{b:Nat}{s:Zc}{i:Nat}(h:i<s.length)(hd:dv b s[i]<0):Dl b s=false:=by unfold Dl;rw[List.all_eq_false];exact⟨s[i],kL h,by simpa using hd⟩
theorem US{b most n d:Nat}(hb:0<b)(hd:d<=most):(most-d) / b<n↔most<n*b+d:=by rw[Nat.div_lt_iff_lt_mul hb];omega
def Cf:Zc->Option (UInt8 × Zc)
 |a::b::r=>if 0<=dv 16 a/\0<=dv 16 b/\(16*dv 16 a+dv 16 b).toNat≠10/\((16*dv 16 a+dv 16 b).toNat<32\/126<(16*dv 16 a+dv 16 b).toNat)then some (UInt8.ofNat (16*dv 16 a+dv 16 b).toNat,r)else none
 |_=>none
def Bz:Zc->Option (UInt8 × Zc)
 |[]=>none
 |c::r=>if c.toNat=34\/c.toNat=92 then some (c,r)else if c.toNat=110 then some (10,r)else if c.toNat=120 then Cf r else none
def one:Zc->Option (UInt8 × Zc)
 |[]=>none
 |c::r=>if c.toNat=34\/c.toNat<32\/126<c.toNat then none else if c.toNat=92 then Bz r else some (c,r)
theorem Uq{a b:UInt8}(h:a.toNat=b.toNat):a=b:=UInt8.toNat_inj.1 h
theorem Ykf{k:Nat}(h:k<16):dv 16 (Kn k)=(k:Int):=Xan ⟨k,h⟩
theorem Xem(c:UInt8)(r:Zc)(h:(Ws c++r).head?≠some 34):one (Ws c++r)=some (c,r):=by
 have hc:=c.toNat_lt;unfold Ws at h⊢;split
 ·rename_i h1;simp[one,Bz,h1]
 ·split
  ·rename_i h1 h2;have:c=10:=Uq h2;subst this;rfl
  ·split
   ·rename_i h1 h2 h3;have e1:=Ykf (k:=c.toNat / 16) (by omega);have e2:=Ykf (k:=c.toNat % 16) (by omega);have e3:(16*((c.toNat / 16:Nat):Int)+((c.toNat % 16:Nat):Int)).toNat=c.toNat:=by omega
    simp only[kY,jV,one,Bz,Cf,e1,e2,e3];rw[kA<|by decide,kC<|by decide,kA<|by decide,kA<|by decide,kC<|by decide,kC ⟨by omega,by omega,h2,h3⟩];simp
   ·rename_i h1 h2 h3;simp only[kY,jV,one];rw[kA<|by omega,kA<|by omega]
theorem rZ{s:Zc}{c:UInt8}{r:Zc}(h:one s=some (c,r)):s=Ws c++r:=by
 cases s with
 |nil=>cases h
 |cons x s=>
  simp only[one]at h;split at h
  ·cases h
  rename_i h1;split at h
  ·rename_i h2;have hx:x=92:=Uq h2;subst hx
   cases s with
   |nil=>cases h
   |cons y s=>
    simp only[Bz]at h;split at h
    ·rename_i h3;cases h;unfold Ws;rw[kC h3];rfl
    ·split at h
     ·rename_i h3 h4;cases h;have hy:y=110:=Uq h4;subst hy;rfl
     ·split at h
      ·rename_i h3 h4 h5;have hy:y=120:=Uq h5;subst hy
       match s,h with
       |a::b::r',h=>
        simp only[Cf]at h;split at h
        ·rename_i h6;obtain⟨ha,hb,hv,hw⟩:=h6;cases h;have la:=Po (b:=16) (by omega) a;have lb:=Po (b:=16) (by omega) b;have aAa:(16*dv 16 a+dv 16 b).toNat<256:=by omega
         have en:(UInt8.ofNat (16*dv 16 a+dv 16 b).toNat).toNat=(16*dv 16 a+dv 16 b).toNat:=by
          simp;omega
         unfold Ws;rw[en,kA<|by omega,kA hv,kC hw];have e1:(16*dv 16 a+dv 16 b).toNat / 16=(dv 16 a).toNat:=by omega
         have e2:(16*dv 16 a+dv 16 b).toNat % 16=(dv 16 b).toNat:=by omega
         rw[e1,e2,<- Q9 a ha,<- Q9 b hb];rfl
        ·cases h
      ·cases h
  ·rename_i h2;cases h;unfold Ws;rw[kA<|by omega,kA<|by omega,kA<|by omega];rfl
theorem Xsd(c:UInt8):(Ws c).head?≠some 34:=by
 unfold Ws;split
 ·simp
 ·split
  ·simp
  ·split
   ·simp
   ·rename_i h _ _;simp;intro he;subst he;exact h (.inl rfl)
theorem Xl3(c:UInt8):Ws c≠[]:=by intro h;have:=(rT c).1;rw[h]at this;simp at this
theorem Ynv(c:UInt8)(r:Zc):(Ws c++r).head?≠some 34:=by
 cases hc:Ws c with
 |nil=>exact absurd hc (Xl3 c)
 |cons x l=>have:=Xsd c;rw[hc]at this;simpa using this
theorem Q_{s:Zc}{c:UInt8}{r:Zc}:one s=some (c,r)↔s=Ws c++r:=
 ⟨rZ,fun h=>by subst h;exact Xem c r<|Ynv c r⟩
def Nt:Nat->Zc->Zc->Option (Zc × Zc)
 |0,_,_=>none
 |n+1,out,s=>match s with
  |[]=>none
  |c::r=>if c.toNat=34 then some (out,r)else match one (c::r)with
   |none=>none
   |some (x,r')=>Nt n (out++[x]) r'
def Hy:Zc->Option (Zc × Zc)
 |[]=>none
 |c::r=>if c.toNat=34 then Nt (r.length+1) [] r else none
theorem D5{s:Zc}{c:UInt8}{r:Zc}(h:one s=some (c,r)):r.length<s.length:=by have h1:=rZ h;have h2:=(rT c).1;rw[h1,kF];omega
theorem Ygo:∀(n:Nat) (out s x r:Zc),s.length<n->(Nt n out s=some (x,r) ↔∃y,x=out++y/\s=Kd y++34::r)
 |0,_,_,_,_,h=>absurd h (zZ _)
 |n+1,out,[],x,r,h=>by
  refine⟨fun h=>(by cases h),fun⟨y,_,h2⟩=>?_⟩;have:=jC List.length h2;simp at this
 |n+1,out,c::s,x,r,h=>by
  unfold Nt;simp only;by_cases hc:c.toNat=34
  ·rw[kC hc];have cM:c=34:=Uq hc;subst cM;refine⟨fun h=>?_,fun⟨y,h1,h2⟩=>?_⟩
   ·cases h;exact⟨[],by simp,rfl⟩
   ·cases y with
    |nil=>
     have h2:(34:UInt8)::s=34::r:=h2;injection h2 with _ h2;rw[h1,h2,zA]
    |cons a y=>
     have h2:(34:UInt8)::s=Ws a++Kd y++34::r:=h2;rw[jD]at h2;have:=Ynv a (Kd y++34::r);rw[<- h2]at this;exact absurd rfl this
  ·rw[kA hc]
   cases ho:one (c::s)with
   |none=>
    refine⟨fun h=>(by cases h),fun⟨y,h1,h2⟩=>?_⟩
    cases y with
    |nil=>
     have h2:c::s=34::r:=h2;injection h2 with h2;subst h2;exact absurd rfl hc
    |cons a y=>
     have h2:c::s=Ws a++Kd y++34::r:=h2;rw[jD]at h2;have:=Q_.2 h2;rw[ho]at this;cases this
   |some p=>
    obtain⟨a,r'⟩:=p;simp only;have hl:=D5 ho;have ih:=Ygo n (out++[a]) r' x r (by simp at h hl;omega);rw[ih];have hs:=rZ ho;refine⟨fun⟨y,h1,h2⟩=>⟨a::y,by rw[h1];simp,?_⟩,fun⟨y,h1,h2⟩=>?_⟩
    ·rw[hs,h2];show _=Ws a++Kd y++34::r;rw[jD]
    ·cases y with
     |nil=>
      have h2:c::s=34::r:=h2;injection h2 with h2;subst h2;exact absurd rfl hc
     |cons b y=>
      have h2:c::s=Ws b++Kd y++34::r:=h2;rw[jD]at h2;have:=Q_.2 h2;rw[ho]at this;cases this;exact⟨y,by rw[h1];simp,rfl⟩
theorem Xpu{s x r:Zc}:Hy s=some (x,r)↔s=quo x++r:=by
 cases s with
 |nil=>
  refine⟨fun h=>(by cases h),fun h=>?_⟩;have:=jC List.length h;simp[quo]at this
 |cons c s=>
  simp only[Hy,quo];by_cases hc:c.toNat=34
  ·have cM:c=34:=Uq hc;subst cM;rw[kC hc,Ygo _ _ _ _ _<|kG _];refine⟨fun⟨y,h1,h2⟩=>?_,fun h=>⟨x,by simp,?_⟩⟩
   ·simp only[jV]at h1;subst h1;rw[h2];simp
   ·simp only[kY,jD,jV,List.cons.injEq,true_and]at h;exact h
  ·rw[kA hc];refine⟨fun h=>(by cases h),fun h=>?_⟩;injection h with h;subst h;exact absurd rfl hc
def Xd(s:Zc):Int × Int:=
 if 2000<s.length then (0,4)else
 if s.take 1=[45]then
  if (rd 10 9223372036854775808<|s.drop 1).2=0/\(rd 10 9223372036854775808<|s.drop 1).1=0 then (0,12)else (-((rd 10 9223372036854775808<|s.drop 1).1:Int),(rd 10 9223372036854775808<|s.drop 1).2)
 else (((rd 10 9223372036854775807 s).1:Int),(rd 10 9223372036854775807 s).2)
theorem Aq(b most:Nat)(s:Zc):(rd b most s).1<=most:=by
 unfold rd;split
 ·exact zO _
 ·split
  ·exact zO _
  ·simp only;omega
theorem DW{b most:Nat}{s:Zc}(h:(rd b most s).2≠0):(rd b most s).1=0:=by
 unfold rd at h⊢;split
 ·rfl
 ·rename_i h1;rw[kA h1]at h;split
  ·rfl
  ·rename_i h2;rw[kA h2]at h;exact absurd rfl h
theorem Yik{b:Nat}(hb:0<b){s:Zc}{i:Nat}:∀k,i+k<=s.length->Yv b (s.take i)<=Yv b (s.take<|i+k)
 |0,_=>kU _
 |k+1,h=>by
  have:=Yik hb (s:=s) (i:=i) k (by omega);rw[show i+(k+1)=(i+k)+1 by omega,Im<|by omega];have h3:Yv b (s.take<|i+k)<=Yv b (s.take<|i+k)*b:=Nat.le_mul_of_pos_right _ hb;omega
theorem Xya{b most:Nat}(hb:0<b){s:Zc}(h:(rd b most s).2=0)(h0:(rd b most s).1=0):s=[48]:=by
 unfold rd at h h0;split at h
 ·exact absurd h (by decide)
 rename_i cE;rw[kA cE]at h0;split at h
 ·exact absurd h (by decide)
 rename_i hm;rw[kA hm]at h0;simp only at h0;have cE:Dh b s=false:=by simpa using cE
 unfold Dh at cE;simp only[xC,zS,Bool.not_eq_false',Bool.and_eq_false_iff]at cE;obtain⟨⟨aQ,aV⟩,iK⟩:=cE;have aI:0<s.length:=List.length_pos_iff.2 aQ
 have hz:(dv b s[0]).toNat=0:=by
  have h1:=Yik hb (s:=s) (i:=0+1) (s.length-1) (by omega);rw[Im aI,show 0+1+(s.length-1)=s.length by omega,kQ]at h1;omega
 have hd:0<=dv b s[0]:=by
  unfold Dl at aV;rw[jU]at aV;simpa using aV s[0] (kL aI)
 have oj:s[0]=48:=by
  have:=Q9 s[0] hd;rw[hz]at this;exact this
 have hh:s.head?=some 48:=by rw[yY,kH aI,oj]
 have hl:s.length=1:=by
  rcases iK with h|h
  ·omega
  ·exact absurd hh h
 match s,hl with
 |[c],_=>simp at oj;rw[oj]
def Da(s:Zc):Zc × Int:=
 if 2000<s.length then ([],4)else
 match Hy s with
 |some (x,[])=>if 400<x.length then ([],4)else (x,0)
 |_=>([],12)
def Qi(s:Zc):Zc × Zc × Bool:=match Hy s with|some (x,r)=>(x,r,true)|none=>([],[],false)
theorem Xzf{s:Zc}{c:UInt8}:s.take (Ws c).length=Ws c↔one s=some (c,s.drop (Ws c).length):=by
 rw[Q_];refine⟨fun h=>?_,fun h=>?_⟩
 ·have:=zJ (Ws c).length s;rw[h]at this;exact this.symm
 ·rw[h];simp
end Go.AM

namespace Go.AM
open Go
theorem Xra:∀b:Fin 17,∀k:Fin 16,k.val<b.val->dv b.val (Kn k.val)=(k.val:Int):=by decide
theorem RA{b k:Nat}(hb:b<=16)(hk:k<b):dv b (Kn k)=(k:Int):=Xra ⟨b,by omega⟩ ⟨k,by omega⟩ hk
theorem Wbs{k:Nat}(hk:k<16)(h:Kn k=48):k=0:=by have h1:=RA (b:=16) (kU _) hk;rw[h]at h1;have h2:dv 16 48=0:=rfl;omega
theorem Xo5(b:Nat)(s:Zc)(c:UInt8):Yv b (s++[c])=Yv b s*b+(dv b c).toNat:=by unfold Yv;rw[List.foldl_append];rfl
theorem Xlj(b:Nat)(s:Zc)(c:UInt8):Dl b (s++[c])=(Dl b s&&decide (0<=dv b c)):=by unfold Dl;rw[List.all_append];simp
theorem RC{b:Nat}(hb:2<=b)(dC:b<=16):∀f n,n<b ^ f->0<f->Yv b (ds b f n)=n/\Dl b (ds b f n)=true/\ds b f n≠[]/\((ds b f n).head?=some 48->n=0)/\(n=0->ds b f n=[48])
 |0,_,_,h=>absurd h (zH _)
 |f+1,n,h,_=>by
  unfold ds;by_cases hn:n<b
  ·rw[kC hn];have hd:=RA dC hn;refine⟨?_,?_,by simp,fun h1=>?_,fun h1=>by subst h1;rfl⟩
   ·show 0*b+(dv b<|Kn n).toNat=n;omega
   ·show(decide (0<=dv b (Kn n))&&true)=true;rw[hd];simp
   ·simp at h1;exact Wbs (by omega) h1
  ·rw[kA hn]
   have h1:n / b<b ^ f:=by
    rw[Nat.div_lt_iff_lt_mul<|by omega];rw[Nat.pow_succ]at h;exact h
   have h2:0<f:=by
    rcases zX f with rfl|h
    ·simp at h1;have:=Nat.div_pos (show b<=n by omega) (by omega);omega
    ·exact h
   obtain⟨i1,i2,i3,i4,i5⟩:=RC hb dC f (n / b) h1 h2;have hr:n % b<b:=Nat.mod_lt _ (by omega);have hd:=RA dC hr;have hq:=Nat.div_pos (show b<=n by omega) (show 0<b by omega);refine⟨?_,?_,by simp,fun h3=>?_,fun h3=>absurd h3<|by omega⟩
   ·rw[Xo5,i1,hd];have:=Nat.div_add_mod n b;rw[yL]at this;omega
   ·rw[Xlj,i2,hd,jZ];exact kJ (Int.natCast_nonneg _)
   ·rw[List.head?_append]at h3
    cases hh:(ds b f<|n / b).head? with
    |none=>exact absurd (List.head?_eq_none_iff.1 hh) i3
    |some c=>
     rw[hh]at h3;simp at h3;subst h3;have:=i4 hh;omega
theorem Yc0{b n:Nat}(hb:2<=b)(hn:n<18446744073709551616):n<b ^ 64:=
 yB hn (Nat.pow_le_pow_left hb 64)
theorem Yo8{b most n:Nat}(hb:2<=b)(dC:b<=16)(hn:n<18446744073709551616)(hm:n<=most):rd b most (Jj b n)=(n,0):=by
 obtain⟨h1,h2,h3,h4,h5⟩:=RC hb dC 64 n (Yc0 hb hn) (by omega)
 have cE:Dh b (Jj b n)=false:=by
  unfold Dh Jj;rw[kI h3,h2];simp only[Bool.false_or,Bool.not_true];by_cases h6:(ds b 64 n).head?=some 48
  ·rw[h5<|h4 h6];rfl
  ·rw[kI h6,Bool.and_false]
 unfold rd;rw[kA (by rw[cE];decide)];unfold Jj;rw[h1,kA<|by omega]
theorem Tz{n:Int}(h1:-9223372036854775808<=n)(h2:n<9223372036854775808):Xd (Yn n)=(n,0):=by
 have hl:(Yn n).length<=65:=by
  unfold Yn;split
  ·have:=Lj 10 64 (-n).toNat;simp only[Jj,kB];omega
  ·have:=Lj 10 64 n.toNat;simp only[Jj];omega
 unfold Xd;rw[kA<|by omega];by_cases hn:n<0
 ·have e:Yn n=45::Jj 10 (-n).toNat:=by unfold Yn;rw[kC hn]
  have hr:=Yo8 (b:=10) (most:=9223372036854775808) (n:=(-n).toNat) (by omega) (by omega) (by omega) (by omega);rw[e,kC<|show List.take 1 (45::Jj 10 (-n).toNat)=[45]from rfl,yG,zU,hr,kA (by simp only;omega)];simp only[Prod.mk.injEq,and_true];omega
 ·have e:Yn n=Jj 10 n.toNat:=by unfold Yn;rw[kA hn]
  have hr:=Yo8 (b:=10) (most:=9223372036854775807) (n:=n.toNat) (by omega) (by omega) (by omega) (by omega)
  have h45:¬ (Jj 10 n.toNat).take 1=[45]:=by
   intro h;obtain⟨_,k2,k3,_⟩:=RC (b:=10) (by omega) (by omega) 64 n.toNat (Yc0 (by omega)<|by omega) (by omega);unfold Jj at h
   cases hd:ds 10 64 n.toNat with
   |nil=>exact k3 hd
   |cons c r=>
    rw[hd]at h k2;simp at h;subst h;unfold Dl at k2;simp only[List.all_cons,kR,jA]at k2;exact absurd k2.1 (by decide)
  rw[e,kA h45,hr];simp only[Prod.mk.injEq,and_true];omega
theorem Xn4{s:Zc}(hs:s.length<=400):Da (quo s)=(s,0):=by have hl:=Hj s;unfold Da;rw[kA<|by omega,Xpu.2<|show quo s=quo s++[]by simp];simp only;rw[kA<|by omega]
end Go.AM

namespace Go.AM
open Go
theorem nU{α:Type}{P:α->Int->Prop}(A:Nat->α)(n:Nat)(I:Nat->Prop)(h0:I 0)(h1:I n->P (A n) (n:Int))(h2 :∀i:Nat,i<n->I i->(I (i+1)->P (A<|i+1) ((i+1:Nat):Int))->P (A i) (i:Int)):P (A 0) 0:=by
 have key :∀m i:Nat,i+m=n->I i->P (A i) (i:Int):=by
  intro m
  induction m with
  |zero=>intro i hi h;simp only[zV]at hi;subst hi;exact h1 h
  |succ m ih=>intro i hi h;exact h2 i (by omega) h fun h'=>ih (i+1) (by omega) h'
 exact key n 0 (by omega) h0
theorem Ds{P:Int->Prop}(n:Nat)(I:Nat->Prop)(h0:I 0)(h1:I n->P (n:Int))(h2 :∀i:Nat,i<n->I i->(I (i+1)->P ((i+1:Nat):Int))->P (i:Int)):P 0:=
 nU (P:=fun _ i=>P i) (fun _=>()) n I h0 h1 h2
theorem Xi{α:Type}{l:List α}{i:Nat}(h:i<l.length):l[((i:Int)).toNat]?=some l[i]:=by rw[Kb,kH h]
abbrev vz:Za:=Za.mk 0 0 [] [] false
theorem Za.eta(v:Za):v=Za.mk v.kind v.int v.text v.list v.cut:=by cases v;rfl
@[simp] theorem Za.kind_mk (k n:Int) (s:Zc) (l:List Za) (c:Bool):(Za.mk k n s l c).kind=k:=rfl
@[simp] theorem Za.int_mk (k n:Int) (s:Zc) (l:List Za) (c:Bool):(Za.mk k n s l c).int=n:=rfl
@[simp] theorem Za.text_mk (k n:Int) (s:Zc) (l:List Za) (c:Bool):(Za.mk k n s l c).text=s:=rfl
@[simp] theorem Za.list_mk (k n:Int) (s:Zc) (l:List Za) (c:Bool):(Za.mk k n s l c).list=l:=rfl
@[simp] theorem Za.cut_mk (k n:Int) (s:Zc) (l:List Za) (c:Bool):(Za.mk k n s l c).cut=c:=rfl
inductive Wf:Za->Prop
 |mk {k n:Int}{s:Zc}{l:List Za}{c:Bool}(hk:0<=k/\k<256) (hn:-9223372036854775808<=n/\n<9223372036854775808) (hl:l.length<=9223372036854775807) (h :∀x∈l,Wf x):Wf (.mk k n s l c)
theorem Wf.k{v:Za}(h:Wf v):0<=v.kind/\v.kind<256:=by cases h;assumption
theorem Wf.n{v:Za}(h:Wf v):-9223372036854775808<=v.int/\v.int<9223372036854775808:=by cases h;assumption
theorem Wf.l{v:Za}(h:Wf v):v.list.length<=9223372036854775807:=by cases h;assumption
theorem Wf.e{v:Za}(h:Wf v):∀x∈v.list,Wf x:=by cases h;assumption
theorem Wf.zero:Wf vz:=.mk (by decide) (by decide) (by decide) (by simp)
mutual
def Za.nodes:Za->Nat
 |.mk _ _ _ l _=>1+Za.nodesL l
def Za.nodesL:List Za->Nat
 |[]=>0
 |v::l=>Za.nodes v+Za.nodesL l
end
theorem ER(v:Za):v.nodes=1+Za.nodesL v.list:=by cases v;rw[Za.nodes];rfl
theorem RD:∀l m:List Za,Za.nodesL (l++m)=Za.nodesL l+Za.nodesL m
 |[],m=>by simp[Za.nodesL]
 |v::l,m=>by rw[kY,Za.nodesL,Za.nodesL,RD l m];omega
theorem U6{l:List Za}{i:Nat}(h:i<l.length):Za.nodesL (l.take<|i+1)=Za.nodesL (l.take i)+l[i].nodes:=by rw[kM h,RD,Za.nodesL,Za.nodesL];rfl
theorem U7{l:List Za}(i:Nat):Za.nodesL (l.take i)<=Za.nodesL l:=by have:=RD (l.take i) (l.drop i);rw[zJ]at this;omega
theorem Xt8(v:Za):1<=v.nodes:=by rw[ER];omega
theorem Xhq{l:List Za}{v:Za}(h:v∈l):v.nodes<=Za.nodesL l:=by obtain⟨i,hi,rfl⟩:=xH h;have h1:=U6 hi;have h2:=U7 (l:=l) (i+1);omega
mutual
/-- The number that the reference counts. -/
def rN:Za->Nat
 |.mk _ _ _ l _=>Jk l 1
def Jk:List Za->Nat->Nat
 |[],n=>n
 |v::l,n=>if n<=5000 then Jk l (n+rN v)else n
end
theorem UX(v:Za):rN v=Jk v.list 1:=by cases v;rw[rN];rfl
def Sm:Nat->Za->Prop
 |0,_=>False
 |d+1,v=>v.list.length<=400/\∀x∈v.list,Sm d x
theorem Yj4{B:Nat}:∀(l:List Za) (n:Nat),n<=5000+B->(∀x∈l,rN x<=B)->Jk l n<=5000+B
 |[],n,hn,_=>by rw[Jk];exact hn
 |v::l,n,hn,h=>by
  rw[Jk];split
  ·exact Yj4 l _ (by have:=h v jI;omega) fun x hx=>h x (jJ _ hx)
  ·exact hn
theorem UY:∀{d:Nat}{v:Za},Sm d v->rN v<=5001*d
 |0,v,h=>h.elim
 |d+1,v,h=>by
  rw[UX];have:=Yj4 (B:=5001*d) v.list 1 (by omega) fun x hx=>UY (h.2 x hx)
  omega
mutual
theorem EV:∀v:Za,(v.nodes<=5000->rN v=v.nodes)/\(5000<v.nodes->5000<rN v)
 |.mk k n s l c=>by
  rw[rN,Za.nodes];have:=Ycc l 1 (by omega);exact this
theorem Ycc:∀(l:List Za) (n:Nat),n<=5000->(n+Za.nodesL l<=5000->Jk l n=n+Za.nodesL l)/\(5000<n+Za.nodesL l->5000<Jk l n)
 |[],n,hn=>by rw[Jk,Za.nodesL];omega
 |v::l,n,hn=>by
  rw[Jk,Za.nodesL,kC hn];obtain⟨h1,h2⟩:=EV v;by_cases h:n+rN v<=5000
  ·obtain⟨h3,h4⟩:=Ycc l (n+rN v) h
   have hv:v.nodes<=5000:=by
    rcases jF 5000 v.nodes with h5|h5
    ·have:=h2 h5;omega
    ·exact h5
   have:=h1 hv;omega
  ·have h5:Jk l (n+rN v)=n+rN v:=by
    cases l with
    |nil=>rw[Jk]
    |cons w l=>rw[Jk,kA h]
   rw[h5];have:=Xt8 v;rcases jF 5000 v.nodes with h6|h6
   ·have:=h2 h6;omega
   ·have:=h1 h6;omega
end
def Yem:Nat->Za->Bool
 |0,_=>true
 |d+1,v=>decide (100<v.text.length)||decide (400<v.list.length)||v.list.any (Yem d)
def KR(v:Za):Bool:=Yem 14 v||decide (400<rN v)
def Jr(k n:Int)(tl ll c:Nat):Prop:=
 (k=1/\ll=0/\c=0/\tl=0/\(n=0\/n=1))\/(k=2/\ll=0/\c=0/\tl=0)\/(k=3/\ll=0/\c=0/\n=0/\tl<=64)\/
 (k=4/\n=0/\tl=0/\ll<=1/\(c=0\/ll=0))\/(k=5/\n=0/\tl=0/\ll<=8/\c=0)\/(k=6/\n=0/\tl=0/\ll<=16/\1<=ll/\c=0)\/(k=7/\n=0/\tl=0/\ll<=16/\(c=0\/ll=0))
instance (k n:Int) (tl ll c:Nat):Decidable (Jr k n tl ll c):=by unfold Jr;infer_instance
abbrev Za.okh(v:Za):Prop:=Jr v.kind v.int v.text.length v.list.length v.cut.toNat
def Vz:Nat->Za->Bool
 |0,_=>false
 |d+1,v=>decide v.okh&&v.list.all (Vz d)
theorem Bn{d:Nat}{v:Za}(h:Vz d v=true):v.okh:=by
 cases d with
 |zero=>cases h
 |succ d=>simp only[Vz,kR,jA]at h;exact h.1
theorem Fb{d:Nat}{v:Za}(h:Vz (d+1) v=true):∀x∈v.list,Vz d x=true:=by simp only[Vz,kR,jU]at h;exact h.2
theorem U8:∀{d:Nat}{v:Za},Vz d v=true->Sm d v
 |0,v,h=>by cases h
 |d+1,v,h=>by
  have h1:=Bn h;refine⟨?_,fun x hx=>U8<|Fb h x hx⟩;unfold Za.okh Jr at h1;omega
def Vl(v:Za):Bool:=Vz 130 v&&decide (v.nodes<=5000)
def Up(d:Nat)(v:Za):Int × Bool:=if Vz d v=true/\v.nodes<=5000 then ((v.nodes:Int),true)else (0,false)
def De(v:Za):Int:=if Vl v=true then 0 else 8
def Ug:Zc:=[116,114,117,101]
def Qm:Zc:=[102,97,108,115,101]
def Ub:Zc:=[110,105,108]
def Um:Zc:=[38,46,46,46]
def Ur:Zc:=[60,46,46,46,62]
mutual
def Ys:Za->Zc
 |.mk k n s l c=>if k=1 then (if n=1 then Ug else Qm)else if k=2 then Yn n else if k=3 then quo s else
   if k=5 then 123::(Yz l++[125])else if k=6 then 91::(Yz l++[93])else if k=7 then (if c=true then Ur else 60::(Yz l++[62]))else
   if c=true then Um else if l.length=0 then Ub else 38::Yz l
def Yz:List Za->Zc
 |[]=>[]
 |v::l=>Ys v++Ua l
def Ua:List Za->Zc
 |[]=>[]
 |v::l=>44::32::(Ys v++Ua l)
end
theorem Sw(v:Za):Ys v=if v.kind=1 then (if v.int=1 then Ug else Qm)else if v.kind=2 then Yn v.int else if v.kind=3 then quo v.text else
   if v.kind=5 then 123::(Yz v.list++[125])else if v.kind=6 then 91::(Yz v.list++[93])else if v.kind=7 then (if v.cut=true then Ur else 60::(Yz v.list++[62]))else
   if v.cut=true then Um else if v.list.length=0 then Ub else 38::Yz v.list:=by cases v;rw[Ys];rfl
theorem EW:∀l m:List Za,Ua (l++m)=Ua l++Ua m
 |[],m=>by simp[Ua]
 |v::l,m=>by rw[kY,Ua,Ua,EW l m];simp
theorem Ywh(l:List Za)(v:Za):Yz (l++[v])=Yz l++(if l.length>0 then [44,32]else [])++Ys v:=by
 cases l with
 |nil=>simp[Yz,Ua]
 |cons a l=>simp[Yz,EW,Ua]
theorem E2{l:List Za}{i:Nat}(h:i<l.length):Yz (l.take<|i+1)=Yz (l.take i)++(if i>0 then [44,32]else [])++Ys l[i]:=by
 rw[kM h,Ywh]
 congr 2
 rw[kW]
 congr 1
 rw[eq_iff_iff];omega
theorem nW(v:Za):Yz [v]=Ys v:=by simp[Yz,Ua]
theorem Jv(n:Int):(Yn n).length<=65:=by
 unfold Yn;split
 ·have:=Lj 10 64 (-n).toNat;simp only[kB,Jj];omega
 ·have:=Lj 10 64 n.toNat;simp only[Jj];omega
theorem RE:∀{d:Nat}{v:Za},Vz d v=true->(Ys v).length+2<=260*v.nodes
 |0,v,h=>by cases h
 |d+1,v,h=>by
  have h1:=Bn h;have h2:=Fb h
  have hl :∀l:List Za,(∀x∈l,Vz d x=true)->(Ua l).length<=260*Za.nodesL l:=by
   intro l
   induction l with
   |nil=>intro _;simp[Ua]
   |cons x l ih=>
    intro hx;have h3:=RE (hx x jI);have h4:=ih fun y hy=>hx y (jJ _ hy)
    rw[Ua,Za.nodesL];simp only[kB,kF];omega
  have hs:(Yz v.list).length<=260*Za.nodesL v.list:=by
   revert h2
   cases v.list with
   |nil=>intro _;simp[Yz]
   |cons x l=>
    intro hx;have h3:=RE (hx x jI);have h4:=hl l fun y hy=>hx y (jJ _ hy)
    rw[Yz,Za.nodesL];simp only[kF];omega
  have h5:=Jv v.int;have h6:=Hj v.text;rw[ER,Sw];unfold Za.okh Jr at h1
  repeat' split
  all_goals try simp only[Ug,Qm,Ub,Um,Ur,kB,kF,kD]
  all_goals omega
theorem Mp{v:Za}(h:Vl v=true):(Ys v).length+2<=1300000:=by simp only[Vl,kR,jA]at h;have:=RE h.1;omega
theorem RF(b n:Nat):Jj b n≠[]:=by unfold Jj;rw[show 64=63+1 from rfl,ds];split<;>simp
theorem Xt2(n:Int):Yn n≠[]:=by
 unfold Yn;split
 ·simp
 ·exact RF _ _
theorem VA(v:Za):Ys v≠[]:=by
 rw[Sw]
 repeat' split
 all_goals first|exact Xt2 _|simp[Ug,Qm,Ub,Um,Ur,quo]
end Go.AM

namespace Go.AM
open Go Go.RowKit
section
variable{T:Vn}
theorem Z0{α:Type}{f:α->List AV}{p:α->Prop}:∀{rows:List (List AV)},(∀r∈rows,∃x,r=f x/\p x)->∃l:List α,rows=l.map f/\∀x∈l,p x
 |[],_=>⟨[],rfl,by simp⟩
 |r::rows,h=>by
  obtain⟨x,rfl,hx⟩:=h r jI;obtain⟨l,rfl,hl⟩:=Z0 fun r hr=>h r (jJ _ hr)
  exact⟨x::l,rfl,fun y hy=>by rcases jH.1 hy with rfl|hy;exact hx;exact hl y hy⟩
structure Xw9(T:Vn)(t a b c d e:Nat):Prop where
 ht :∃i,T t=some i/\i.kind=.st [(a,0),(b,1),(c,2),(d,3),(e,4)]/\i.size=5
 ha :∃i,T a=some i/\i.kind=.int .u8/\i.size=1
 hb :∃i,T b=some i/\i.kind=.int .i64/\i.size=1
 hc :∃i,T c=some i/\i.kind=.str/\i.size=1
 hd :∃i,T d=some i/\i.kind=.sl t/\i.size=1
 he :∃i,T e=some i/\i.kind=.bool/\i.size=1
end
end Go.AM

namespace Go.AM
open Go Go.RowKit
theorem Xaz{n:Int}(h:IntKind.u64.min<=n/\n<=IntKind.u64.max):0<=n/\n<18446744073709551616:=by have h1:IntKind.u64.min=0:=rfl;have h2:IntKind.u64.max=18446744073709551615:=rfl;omega
def Kx(T:Vn)(k:IntKind)(t:Nat):Prop:=∃i,T t=some i/\i.kind=.int k/\i.size=1
def IsB(T:Vn)(t:Nat):Prop:=∃i,T t=some i/\i.kind=.bool/\i.size=1
def Fm(T:Vn)(t:Nat):Prop:=∃i,T t=some i/\i.kind=.str/\i.size=1
def Db(T:Vn)(t e:Nat):Prop:=∃i,T t=some i/\i.kind=.sl e/\i.size=1
def v8(T:Vn)(t:Nat):Prop:=∃a b c d e,Xw9 T t a b c d e
def Di(T:Vn)(t:Nat)(fs:List (Nat × Nat))(n:Nat):Prop:=∃i,T t=some i/\i.kind=.st fs/\i.size=n
section
variable{T:Vn}{f t:Nat}{xs:List AV}
theorem HasC.isI{k:IntKind}(V:Kx T k t)(h:HasC T f t xs):∃n,xs=[.i k n]/\k.min<=n/\n<=k.max:=by obtain⟨i,h1,h2,_⟩:=V;exact h.int h1 h2
theorem HasC.isS(V:Fm T t)(h:HasC T f t xs):∃s,xs=[.s s]/\s.length<=maxLen:=by obtain⟨i,h1,h2,_⟩:=V;exact h.str h1 h2
theorem HasC.isL{e:Nat}(V:Db T t e){α:Type}{row:α->List AV}{p:α->Prop}{n:Nat}(ht :∃i,T e=some i/\i.size=n)(hp :∀g r,r.length=n->HasC T g e r->∃x,r=row x/\p x)(h:HasC T f t xs):∃l:List α,xs=[.sl .ext<|l.map row]/\l.length<=maxLen/\∀x∈l,p x:=by
 obtain⟨i,h1,h2,_⟩:=V;obtain⟨j,h3,h4⟩:=ht;obtain⟨g,rows,rfl,h5,h6,h7,h8⟩:=h.sl h1 h2;obtain⟨l,rfl,hl⟩:=Z0 (f:=row) (p:=p) fun r hr=>hp g r (by rw[h8 _ h3 r hr,h4]) (h7 r hr)
 exact⟨l,h5,by simpa using h6,hl⟩
theorem HasC.isT{fs:List (Nat × Nat)}{n:Nat}(V:Di T t fs n)(h:HasC T f t xs):∃g,f=g+1/\∀x∈fs,∀m,(∃j,T x.1=some j/\j.size=m)->HasC T g x.1 ((xs.drop x.2).take m):=by obtain⟨i,h1,h2,_⟩:=V;obtain⟨g,h3,h4⟩:=h.st h1 h2;refine⟨g,h3,fun x hx m ⟨j,h5,h6⟩=>?_⟩;obtain⟨j',h7,h8⟩:=h4 x hx;rw[h5]at h7;cases h7;rw[<- h6];exact h8
theorem Me{k:IntKind}(V:Kx T k t):∃j,T t=some j/\j.size=1:=⟨V.choose,V.choose_spec.1,V.choose_spec.2.2⟩
theorem szS(V:Fm T t):∃j,T t=some j/\j.size=1:=⟨V.choose,V.choose_spec.1,V.choose_spec.2.2⟩
theorem Sy{e:Nat}(V:Db T t e):∃j,T t=some j/\j.size=1:=⟨V.choose,V.choose_spec.1,V.choose_spec.2.2⟩
theorem szT{fs:List (Nat × Nat)}{n:Nat}(V:Di T t fs n):∃j,T t=some j/\j.size=n:=⟨V.choose,V.choose_spec.1,V.choose_spec.2.2⟩
theorem HasC.isStr(V:Fm T t)(f:Nat)(xs:List AV)(_:xs.length=1)(h:HasC T f t xs):∃s,xs=Zv s/\s.length<=maxLen:=h.isS V
theorem Qz.isT{α:Type}{row:α->List AV}{p:α->Prop}{fs:List (Nat × Nat)}{n:Nat}{x:AV}(V:Di T t fs n)(hp :∀g r,r.length=n->HasC T g t r->∃x,r=row x/\p x)(h:Qz T t x):∃v:α,x=.ag (row v)/\p v:=by obtain⟨i,hi,hk,hs⟩:=V;unfold Qz at h;rw[hi]at h;simp only[hk]at h;obtain⟨f,xs,rfl,h1,h2⟩:=h;obtain⟨v,rfl,hv⟩:=hp f xs (by rw[h1,hs]) h2;exact⟨v,rfl,hv⟩
end
structure P8(x:Xt):Prop where
 name:x.name.length<=maxLen
 type:-9223372036854775808<=x.type/\x.type<9223372036854775808
def pN(T:Vn)(t:Nat):Prop:=∃t0 t1,Di T t [(t0,0),(t1,1)] 2/\Fm T t0/\Kx T .i64 t1
theorem Z1{T:Vn}{t:Nat}(V:pN T t):∃j,T t=some j/\j.size=2:=by obtain⟨t0,t1,V,v0,v1⟩:=V;exact szT V
theorem HasC.isFld{T:Vn}{t:Nat}(V:pN T t)(f:Nat)(xs:List AV)(hl:xs.length=2)(h:HasC T f t xs):∃x:Xt,xs=x.row/\P8 x:=by
 obtain⟨t0,t1,V,v0,v1⟩:=V;obtain⟨g,rfl,hh⟩:=h.isT V;have h0:=hh (t0,0) (by simp) 1 (szS v0);have h1:=hh (t1,1) (by simp) 1 (Me v1)
 match xs,hl with
 |[x0,x1],_=>
  have h0:HasC T g t0 [x0]:=h0;obtain⟨a0,e,q0⟩:=h0.isS v0;cases e;have h1:HasC T g t1 [x1]:=h1;obtain⟨a1,e,q1⟩:=h1.isI v1;cases e;exact⟨⟨a0,a1⟩,rfl,⟨q0,Sg q1⟩⟩
structure Z2(x:Uf):Prop where
 op:0<=x.op/\x.op<256
 a:-9223372036854775808<=x.a/\x.a<9223372036854775808
 b:-9223372036854775808<=x.b/\x.b<9223372036854775808
 c:-9223372036854775808<=x.c/\x.c<9223372036854775808
def v_(T:Vn)(t:Nat):Prop:=∃t0 t1 t2 t3,Di T t [(t0,0),(t1,1),(t2,2),(t3,3)] 4/\Kx T .u8 t0/\Kx T .i64 t1/\Kx T .i64 t2/\Kx T .i64 t3
theorem Xk2{T:Vn}{t:Nat}(V:v_ T t):∃j,T t=some j/\j.size=4:=by obtain⟨t0,t1,t2,t3,V,v0,v1,v2,v3⟩:=V;exact szT V
theorem HasC.isIns{T:Vn}{t:Nat}(V:v_ T t)(f:Nat)(xs:List AV)(hl:xs.length=4)(h:HasC T f t xs):∃x:Uf,xs=x.row/\Z2 x:=by
 obtain⟨t0,t1,t2,t3,V,v0,v1,v2,v3⟩:=V;obtain⟨g,rfl,hh⟩:=h.isT V;have h0:=hh (t0,0) (by simp) 1 (Me v0);have h1:=hh (t1,1) (by simp) 1 (Me v1);have h2:=hh (t2,2) (by simp) 1 (Me v2);have h3:=hh (t3,3) (by simp) 1 (Me v3)
 match xs,hl with
 |[x0,x1,x2,x3],_=>
  have h0:HasC T g t0 [x0]:=h0;obtain⟨a0,e,q0⟩:=h0.isI v0;cases e;have h1:HasC T g t1 [x1]:=h1;obtain⟨a1,e,q1⟩:=h1.isI v1;cases e;have h2:HasC T g t2 [x2]:=h2;obtain⟨a2,e,q2⟩:=h2.isI v2;cases e;have h3:HasC T g t3 [x3]:=h3;obtain⟨a3,e,q3⟩:=h3.isI v3;cases e;exact⟨⟨a0,a1,a2,a3⟩,rfl,⟨ZY q0,Sg q1,Sg q2,Sg q3⟩⟩
structure P9(x:Jz):Prop where
 start:-9223372036854775808<=x.start/\x.start<9223372036854775808
 value:0<=x.value/\x.value<18446744073709551616
def Oi(T:Vn)(t:Nat):Prop:=∃t0 t1,Di T t [(t0,0),(t1,1)] 2/\Kx T .i64 t0/\Kx T .u64 t1
theorem Z3{T:Vn}{t:Nat}(V:Oi T t):∃j,T t=some j/\j.size=2:=by obtain⟨t0,t1,V,v0,v1⟩:=V;exact szT V
theorem HasC.isRnn{T:Vn}{t:Nat}(V:Oi T t)(f:Nat)(xs:List AV)(hl:xs.length=2)(h:HasC T f t xs):∃x:Jz,xs=x.row/\P9 x:=by
 obtain⟨t0,t1,V,v0,v1⟩:=V;obtain⟨g,rfl,hh⟩:=h.isT V;have h0:=hh (t0,0) (by simp) 1 (Me v0);have h1:=hh (t1,1) (by simp) 1 (Me v1)
 match xs,hl with
 |[x0,x1],_=>
  have h0:HasC T g t0 [x0]:=h0;obtain⟨a0,e,q0⟩:=h0.isI v0;cases e;have h1:HasC T g t1 [x1]:=h1;obtain⟨a1,e,q1⟩:=h1.isI v1;cases e;exact⟨⟨a0,a1⟩,rfl,⟨Sg q0,Xaz q1⟩⟩
structure Z4(x:Vv):Prop where
 kind:0<=x.kind/\x.kind<256
 elem:-9223372036854775808<=x.elem/\x.elem<9223372036854775808
 len:-9223372036854775808<=x.len/\x.len<9223372036854775808
 fields:x.fields.length<=maxLen/\∀y∈x.fields,P8 y
def wa(T:Vn)(t:Nat):Prop:=∃t0 t1 t2 t3 e3,Di T t [(t0,0),(t1,1),(t2,2),(t3,3)] 4/\Kx T .u8 t0/\Kx T .i64 t1/\Kx T .i64 t2/\Db T t3 e3/\pN T e3
theorem Xwf{T:Vn}{t:Nat}(V:wa T t):∃j,T t=some j/\j.size=4:=by obtain⟨t0,t1,t2,t3,e3,V,v0,v1,v2,v3,w3⟩:=V;exact szT V
theorem HasC.isTyp{T:Vn}{t:Nat}(V:wa T t)(f:Nat)(xs:List AV)(hl:xs.length=4)(h:HasC T f t xs):∃x:Vv,xs=x.row/\Z4 x:=by
 obtain⟨t0,t1,t2,t3,e3,V,v0,v1,v2,v3,w3⟩:=V;obtain⟨g,rfl,hh⟩:=h.isT V;have h0:=hh (t0,0) (by simp) 1 (Me v0);have h1:=hh (t1,1) (by simp) 1 (Me v1);have h2:=hh (t2,2) (by simp) 1 (Me v2);have h3:=hh (t3,3) (by simp) 1 (Sy v3)
 match xs,hl with
 |[x0,x1,x2,x3],_=>
  have h0:HasC T g t0 [x0]:=h0;obtain⟨a0,e,q0⟩:=h0.isI v0;cases e;have h1:HasC T g t1 [x1]:=h1;obtain⟨a1,e,q1⟩:=h1.isI v1;cases e;have h2:HasC T g t2 [x2]:=h2;obtain⟨a2,e,q2⟩:=h2.isI v2;cases e;have h3:HasC T g t3 [x3]:=h3;obtain⟨a3,e,q3⟩:=h3.isL v3 (Z1 w3) (HasC.isFld w3);cases e;exact⟨⟨a0,a1,a2,a3⟩,rfl,⟨ZY q0,Sg q1,Sg q2,q3⟩⟩
structure Z5(x:Zz):Prop where
 name:x.name.length<=maxLen
 params:-9223372036854775808<=x.params/\x.params<9223372036854775808
 result:-9223372036854775808<=x.result/\x.result<9223372036854775808
 slots:x.slots.length<=maxLen/\∀y∈x.slots,P8 y
 code:x.code.length<=maxLen/\∀y∈x.code,Z2 y
 sizes:x.sizes.length<=maxLen/\∀y∈x.sizes,P9 y
 lives:x.lives.length<=maxLen/\∀y∈x.lives,P9 y
def wc(T:Vn)(t:Nat):Prop:=∃t0 t1 t2 t3 t4 t5 t6 e3 e4 e5 e6,Di T t [(t0,0),(t1,1),(t2,2),(t3,3),(t4,4),(t5,5),(t6,6)] 7/\Fm T t0/\Kx T .i64 t1/\Kx T .i64 t2/\Db T t3 e3/\pN T e3/\Db T t4 e4/\v_ T e4/\Db T t5 e5/\Oi T e5/\Db T t6 e6/\Oi T e6
theorem Wao{T:Vn}{t:Nat}(V:wc T t):∃j,T t=some j/\j.size=7:=by obtain⟨t0,t1,t2,t3,t4,t5,t6,e3,e4,e5,e6,V,v0,v1,v2,v3,w3,v4,w4,v5,w5,v6,w6⟩:=V;exact szT V
theorem HasC.isFun{T:Vn}{t:Nat}(V:wc T t)(f:Nat)(xs:List AV)(hl:xs.length=7)(h:HasC T f t xs):∃x:Zz,xs=x.row/\Z5 x:=by
 obtain⟨t0,t1,t2,t3,t4,t5,t6,e3,e4,e5,e6,V,v0,v1,v2,v3,w3,v4,w4,v5,w5,v6,w6⟩:=V;obtain⟨g,rfl,hh⟩:=h.isT V;have h0:=hh (t0,0) (by simp) 1 (szS v0);have h1:=hh (t1,1) (by simp) 1 (Me v1);have h2:=hh (t2,2) (by simp) 1 (Me v2);have h3:=hh (t3,3) (by simp) 1 (Sy v3);have h4:=hh (t4,4) (by simp) 1 (Sy v4);have h5:=hh (t5,5) (by simp) 1 (Sy v5);have h6:=hh (t6,6) (by simp) 1 (Sy v6)
 match xs,hl with
 |[x0,x1,x2,x3,x4,x5,x6],_=>
  have h0:HasC T g t0 [x0]:=h0;obtain⟨a0,e,q0⟩:=h0.isS v0;cases e;have h1:HasC T g t1 [x1]:=h1;obtain⟨a1,e,q1⟩:=h1.isI v1;cases e;have h2:HasC T g t2 [x2]:=h2;obtain⟨a2,e,q2⟩:=h2.isI v2;cases e;have h3:HasC T g t3 [x3]:=h3;obtain⟨a3,e,q3⟩:=h3.isL v3 (Z1 w3) (HasC.isFld w3);cases e;have h4:HasC T g t4 [x4]:=h4;obtain⟨a4,e,q4⟩:=h4.isL v4 (Xk2 w4) (HasC.isIns w4);cases e;have h5:HasC T g t5 [x5]:=h5;obtain⟨a5,e,q5⟩:=h5.isL v5 (Z3 w5) (HasC.isRnn w5);cases e;have h6:HasC T g t6 [x6]:=h6;obtain⟨a6,e,q6⟩:=h6.isL v6 (Z3 w6) (HasC.isRnn w6);cases e;exact⟨⟨a0,a1,a2,a3,a4,a5,a6⟩,rfl,⟨q0,Sg q1,Sg q2,q3,q4,q5,q6⟩⟩
structure Z6(x:Zd):Prop where
 types:x.types.length<=maxLen/\∀y∈x.types,Z4 y
 texts:x.texts.length<=maxLen/\∀s∈x.texts,s.length<=maxLen
 funcs:x.funcs.length<=maxLen/\∀y∈x.funcs,Z5 y
def we(T:Vn)(t:Nat):Prop:=∃t0 t1 t2 e0 e1 e2,Di T t [(t0,0),(t1,1),(t2,2)] 3/\Db T t0 e0/\wa T e0/\Db T t1 e1/\Fm T e1/\Db T t2 e2/\wc T e2
theorem HasC.isImg{T:Vn}{t:Nat}(V:we T t)(f:Nat)(xs:List AV)(hl:xs.length=3)(h:HasC T f t xs):∃x:Zd,xs=x.row/\Z6 x:=by
 obtain⟨t0,t1,t2,e0,e1,e2,V,v0,w0,v1,w1,v2,w2⟩:=V;obtain⟨g,rfl,hh⟩:=h.isT V;have h0:=hh (t0,0) (by simp) 1 (Sy v0);have h1:=hh (t1,1) (by simp) 1 (Sy v1);have h2:=hh (t2,2) (by simp) 1 (Sy v2)
 match xs,hl with
 |[x0,x1,x2],_=>
  have h0:HasC T g t0 [x0]:=h0;obtain⟨a0,e,q0⟩:=h0.isL v0 (Xwf w0) (HasC.isTyp w0);cases e;have h1:HasC T g t1 [x1]:=h1;obtain⟨a1,e,q1⟩:=h1.isL v1 (szS w1) (HasC.isStr w1);cases e;have h2:HasC T g t2 [x2]:=h2;obtain⟨a2,e,q2⟩:=h2.isL v2 (Wao w2) (HasC.isFun w2);cases e;exact⟨⟨a0,a1,a2⟩,rfl,⟨q0,q1,q2⟩⟩
theorem Qz.isImg{T:Vn}{t:Nat}{x:AV}(V:we T t)(h:Qz T t x):∃v:Zd,x=v.av/\Z6 v:=by have V0:=V;obtain⟨t0,t1,t2,e0,e1,e2,V,v0,w0,v1,w1,v2,w2⟩:=V0;exact Qz.isT V (HasC.isImg ‹we T t›) h
def Y3(T:Vn)(t:Nat):Prop:=∃t0 t1,Di T t [(t0,0),(t1,1)] 6/\Kx T .i64 t0/\v8 T t1
def Y4(T:Vn)(t:Nat):Prop:=∃t0 t1 t2 t3 e3,Di T t [(t0,0),(t1,1),(t2,2),(t3,3)] 4/\Kx T .i64 t0/\Kx T .i64 t1/\Kx T .u64 t2/\Db T t3 e3/\Y3 T e3
def Y5(T:Vn)(t:Nat):Prop:=∃t0 t1 t2,Di T t [(t0,0),(t1,1),(t2,6)] 7/\Kx T .u64 t0/\v8 T t1/\Kx T .u64 t2
def Y6(T:Vn)(t:Nat):Prop:=∃t0 t1 t2 t3,Di T t [(t0,0),(t1,1),(t2,2),(t3,3)] 8/\Kx T .i64 t0/\Kx T .i64 t1/\IsB T t2/\v8 T t3
def Y7(T:Vn)(t:Nat):Prop:=∃t0 t1 t2 t3 t4 e2 e3 e4,Di T t [(t0,0),(t1,1),(t2,2),(t3,3),(t4,4)] 5/\Kx T .u8 t0/\Kx T .i64 t1/\Db T t2 e2/\Y4 T e2/\Db T t3 e3/\Y6 T e3/\Db T t4 e4/\Y5 T e4
def Xpt(T:Vn)(t:Nat):Prop:=∃t0 t1 t2 t3 e3,Di T t [(t0,0),(t1,1),(t2,2),(t3,3)] 4/\Kx T .u8 t0/\Kx T .i64 t1/\Kx T .i64 t2/\Db T t3 e3/\Y7 T e3
end Go.AM

/- Helpers of the packed texts of a seat (pack.py, packk). -/
namespace Go.AM
open Go
section
variable{P:Program}{X:Cx}
theorem fK {f:Nat} {F:AF} {fn:Func} (h1:P.funcs[f]?=some fn) (h2:(fn.name== "runtime.NumGoroutine")=false:=by kernel_rfl) (h3:fn.body.bind (He { X with fz:=F.fz } F.nt)=some F.body:=by kernel_rfl) (h4:fn.ntmps=F.nt:=by kernel_rfl) (h5:Nq X fn.results.toList=some F.res:=by kernel_rfl) (h6:Nat.ble F.res.length 4=true:=by kernel_rfl):Yc P X f F:=Yc.of h1 h2 h3 h4 h5 h6
theorem fS{F0:AF}{x:Option AF}{p:AF->Prop}{r:Prop}(h:x=some F0)(ok:p F0)(k:r):(∀F,x=some F->p F)/\r:=
 ⟨fun F e=>(by
  rw[h]at e;injection e with e;subst e;exact ok),k⟩
theorem fN{x:Option AF}{p:AF->Prop}{r:Prop}(h:x=none)(k:r):(∀F,x=some F->p F)/\r:=
 ⟨fun F e=>(by rw[h]at e;cases e),k⟩
theorem tK{t:TypeId}{i:TI}(ti:TypeInfo)(h4:i.kind.ok P t)(h1:P.info? t=some ti:=by kernel_rfl)(h2:(Nat.beq ti.size i.size&&Nat.beq ti.bytes i.bytes)=true:=by kernel_rfl)(h3:(ti.zero.bind fun z=>if z.cells.size=i.size then Bh z.cells.toList else none)=some i.zero:=by kernel_rfl):Qe P t i:=Qe.of h1 h2 h3 h4
theorem tC{x:Nat × TI}{l:List (Nat × TI)}(h:Qe P x.1 x.2)(k :∀x∈l,Qe P x.1 x.2):∀y∈x::l,Qe P y.1 y.2:=by
 intro y hy;rcases jH.1 hy with rfl|hy
 ·exact h
 ·exact k y hy
theorem tN:∀y∈([]:List (Nat × TI)),Qe P y.1 y.2:=fun _ h=>by cases h
theorem kE{t:TypeId}{d:TypeDesc}(h:P.underlying t=some d:=by kernel_rfl):P.underlying t=some d:=h
theorem kS {t:TypeId} {fs:List (Nat × Nat)} (h:((P.underlying t).bind fun d=>match d with | .struct f=>if (!P.stoodInHeld t&&!P.eqGuardType P.depth t&&f.toList.all (fun f=>!(f.name== "_")))=true then some (f.toList.map fun f=>(f.type,f.offset)) else none | _=>none)=some fs:=by kernel_rfl):TK.ok P t (.st fs):=TK.ok_st h
theorem kO{t:TypeId}(h:(match P.underlying t with|none=>false|some (.struct _)=>false|some (.array _ _)=>false|some _=>true)=true:=by kernel_rfl):TK.ok P t .other:=TK.ok_other h
end
end Go.AM

namespace Go.AM
open Go Go.RowKit
theorem Wai{w:World}{a:Addr}{v:Value}(h:w.cell? a=some v):a.block<w.heap.size:=by
 unfold World.cell? at h;split at h
 ·rename_i hb;exact(zT.1 hb).1
 ·cases h
variable{H:Type}{enc:TypeId × Value->H}
theorem Xw1{a:Assume}{C:Checked}{os:Os}{f:FuncId}{fn:Func}{s:ChangeSpec}{conds:List PathCond}{apart fresh handsOn again:Bool}{X:World->Array Value->Prop}
  (own:ownKnob C.prog.godebug=none) (started:os.Started) (l9:C.prog.inits.idxOf? f=none) (p5:C.prog.funcs[f]?=some fn)
  (witness :∃(w:World) (tape:Tape) (i:Input),w.os=os/\(w.forCall tape i).Shaped C.prog/\i.vars=[]/\Input.okWide C.prog (w.forCall tape i) .any w.heap.size f i/\
   ((s.pre enc C.prog fn conds apart (w.forCall tape i).memory i.args/\X (w.forCall tape i).memory i.args)/\sizedMet enc C.prog fn (OpenSpec.ofChange s) apart (w.forCall tape i).memory i.args)/\a.holds C.prog (lone (Frame.enter C.prog f i.args .normal) []<|w.forCall tape i))
  (gP :∀(W:World) (base:Nat) (args:Array Value) (ds gs:List (DataW H)) (before:List MemPlace),
   (∀(j:Nat) t v,fn.params[j]?=some t->args[j]?=some v->Value.okWide C.prog W .any base t v)->
   DataW.Whole enc C.prog fn.params.toList s.vars apart W args.toList ds gs before->
   W.ShapedOpen C.prog->
   Calls C.prog f args W fun e W'=>∃v,e=.returned v/\s.post enc C.prog fn apart fresh handsOn again W args v W') :
  ReturnsInHanded a C os f .any (fun w args=>(s.pre enc C.prog fn conds apart w args/\X w args)/\sizedMet enc C.prog fn (OpenSpec.ofChange s) apart w args) (s.post enc C.prog fn apart fresh handsOn again):=by
 refine returnsInHanded_of_calls own started l9 witness ?_;intro w tape i _ mf _ aV eC _;obtain⟨_,_,_,fn',P_,_,_,_,_,dJ⟩:=aV;have e:fn'=fn:=Option.some.inj (P_.symm.trans p5);subst e;obtain⟨⟨⟨ds,gs,before,hw,_⟩,_⟩,_⟩:=eC;have iH:=DataW.Whole.of_heap (w':=w.forCall tape i) (by rfl) hw;refine(gP (w.forCall tape i) w.heap.size i.args ds gs before dJ iH mf).mono fun e W' ⟨v,he,hp⟩=>?_
 subst he;exact ChangeSpec.post_blind hp
end Go.AM

namespace Go.AM
open Go Go.RowKit Go.Shelf
def QA(f:Func):Code:=f.body.getD .skip
def wD(w:World)(L:List (BS))(e:Ending)(w':World):Prop:=
 ∃(l:List ByteArray) (cs:Array Value) (cap:Nat) (t:TypeId),e=.returned (.slice (some ⟨w.heap.size,0,none⟩) l.length cap)/\w'=w.alloc (.cells cs t)/\l.length<=cap/\(∀(q:Nat) x,l[q]?=some x->cs[q]?=some (.string x))/\l.map (·.data.toList)=L
theorem Z7{G:Gh}{w0 w:World}{st:St}{d:Nat}(hR:Yy G w0 st w){l:List ByteArray}{cs:Array Value}{cap:Nat}{t:TypeId}(bA:l.length<=cap)(cR :∀(q:Nat) x,l[q]?=some x->cs[q]?=some (.string x)):
  ∃G',R G' (.sl .ext<|(l.map (·.data.toList)).map Zv) (.slice (some ⟨w.heap.size,0,none⟩) l.length cap)/\Ka G G' w0 st st (w.alloc<|.cells cs t) d:=by
 have hlen:((l.map (·.data.toList)).map Zv).length=l.length:=by simp
 have aE :∀(i:Nat) row,((l.map (·.data.toList)).map Zv)[i]?=some row->∃x,l[i]?=some x/\row=[.s x.data.toList]:=by
  intro i row h;simp only[jY,kN]at h;obtain⟨y,⟨x,h1,rfl⟩,rfl⟩:=h;exact⟨x,h1,rfl⟩
 obtain⟨h1,h2⟩:=AN (w1:=w) hR (rows:=(l.map (·.data.toList)).map Zv) (size:=1) (us:=fun i _=>.string<|l.getD i ByteArray.empty) (cs:=cs) (e:=t) (cap:=cap) (d:=d) (site:=0) (ver:=st.nx)
  (fun row h=>by
   obtain⟨i,hi,rfl⟩:=List.mem_iff_getElem.1 h;obtain⟨x,_,e⟩:=aE i _ (kH hi);rw [e];rfl)
  (fun i row j a h1 h2=>by
   obtain⟨x,hx,rfl⟩:=aE i row h1
   cases j with
   |zero=>
    simp only[yT,Option.some.injEq]at h2;subst h2;have:l.getD i ByteArray.empty=x:=by simp[zG,hx]
    rw[this];exact .s x.data.toList
   | succ j=>simp at h2)
  (fun i row j a h1 h2=>rfl)
  (fun q v hq=>by
   rw[Mi]at hq;split at hq
   ·rename_i aK;cases hq;rw[hlen]at aK;have hq:q<l.length:=by omega
    rw[Nat.div_one,cR q _<|kH hq];simp[zG,kH hq]
   ·cases hq) rfl (Below.refl _ _) (by rw [hlen];exact bA)
 rw[hlen]at h1 h2;exact⟨_,.fz _ _ h2,(Ka.refl hR).step h1<|kU _⟩
variable{P:Program}{ρ:Ren}
theorem Xu1(L:Proofs.Lays.n146 P ρ)(QB:(P.info?<|ρ.t 9).map (fun i=>(i.zero,i.size,i.bytes))=some (some<|.string ByteArray.empty,1,16))(s:BS)(m:Int)(w:World)(hs:s.length<4294967281)(hm:w.cell? ⟨(ρ.g 1),0,none⟩=some (.int .i64 m)):
  Calls P (ρ.f 146) #[.string ⟨s.toArray⟩,.string ⟨#[10]⟩] w (wD w<|Lib.split s [10]):=by
 refine(Go.Proofs.Any.strings_Split L QB ⟨s.toArray⟩ ⟨#[10]⟩ m w hs hm<|by decide).mono fun e w' ⟨h1,h2⟩=>?_
 have hl:=Lib.splitB_all ⟨#[10]⟩ (by decide) 0 _ ⟨s.toArray⟩ rfl;refine⟨Lib.splitB ⟨#[10]⟩ 0 (Lib.countB ⟨s.toArray⟩ ⟨#[10]⟩) ⟨s.toArray⟩,_,_,_,by rw[h1,hl],h2,Nat.le_of_eq hl,fun q x hq=>?_,?_⟩
 ·simp only[yH,jY,hq,kK]
 ·rw[Lib.splitB_data];rfl
theorem Xmt(L:Proofs.Lays.n147 P ρ)(QB:(P.info?<|ρ.t 9).map (fun i=>(i.zero,i.size,i.bytes))=some (some<|.string ByteArray.empty,1,16))(s:BS)(m:Int)(w:World)(hs:s.length<4294967281)(hm:w.cell? ⟨(ρ.g 1),0,none⟩=some (.int .i64 m)):
  Calls P (ρ.f 147) #[.string ⟨s.toArray⟩,.string ⟨#[32]⟩,.int .i64 4] w (wD w<|Lib.splitN s [32] 4):=by
 refine(Go.Proofs.Any.strings_SplitN L QB ⟨s.toArray⟩ ⟨#[32]⟩ 4 m w hs hm (by decide) (by decide)<|by decide).mono fun e w' ⟨h1,h2⟩=>?_
 have hl:=Lib.splitB_length_le ⟨#[32]⟩ 0 (min 4 (s.length+1)-1) ⟨s.toArray⟩;refine⟨Lib.splitB ⟨#[32]⟩ 0 (min 4 (s.length+1)-1) ⟨s.toArray⟩,_,_,_,h1,h2,?_,fun q x hq=>?_,?_⟩
 ·show _<=min 4 (s.length+1);omega
 ·unfold Lib.cellsOf
  have aK:q<(Lib.splitB ⟨#[32]⟩ 0 (min 4 (s.length+1)-1) ⟨s.toArray⟩).length:=by
   rcases jF q (Lib.splitB ⟨#[32]⟩ 0 (min 4 (s.length+1)-1) ⟨s.toArray⟩).length with h|h
   ·exact h
   ·rw[kT h]at hq;cases hq
  rw[yH,yQ (by rw[jK];exact aK),jY];exact jC (Option.map Value.string) hq
 ·rw[Lib.splitB_data];rfl
def Dn:Nat->List AV->Option AV:=fun c args=>
 if c=304 then (match args with|[.s s,.s [10]]=>if s.length<=1000000000 then some (.sl .ext<|(Lib.split s [10]).map Zv)else none|_=>none)
 else if c=323 then (match args with|[.s s,.s [32],.i .i64 4]=>if s.length<=1000000000 then some (.sl .ext<|(Lib.splitN s [32] 4).map Zv)else none|_=>none)
 else if c=197 then (match args with|[.s s,.s p]=>if s.length<=1000000000 then some (.i .i64<|Lib.index s p)else none|_=>none)
 else Rj c args
theorem Wbc(s:BS)(h:s.length<=1000000000):Dn 304 [.s s,.s [10]]=some (.sl .ext<|(Lib.split s [10]).map Zv):=by unfold Dn;rw[kC rfl];simp only;rw[kC h]
theorem Yvi(s:BS)(h:s.length<=1000000000):Dn 323 [.s s,.s [32],.i .i64 4]=some (.sl .ext<|(Lib.splitN s [32] 4).map Zv):=by unfold Dn;rw[kA<|by decide,kC rfl];simp only;rw[kC h]
theorem Xru(s p:BS)(h:s.length<=1000000000):Dn 197 [.s s,.s p]=some (.i .i64<|Lib.index s p):=by unfold Dn;rw[kA<|by decide,kA<|by decide,kC rfl];simp only;rw[kC h]
theorem Xcb(s:BS)(c:UInt8):Dn 48 [.s s,.i .u8 (c.toNat:Int)]=some (.i .i64<|Lib.indexByte s c):=by unfold Dn;rw[kA<|by decide,kA<|by decide,kA<|by decide];exact Xdw s c
theorem Xp0(k:Zt)(v:Nat):Dn 146 [.p k v 0]=some (.p k v 0):=rfl
theorem Xz6(args:List AV):Dn 105 args=none:=by unfold Dn;rw[kA<|by decide,kA<|by decide,kA<|by decide];exact Xbs args
variable{X:Cx}{fn:Nat->Option AF}{Z8:Nat->List AV->St->Option (AV × St)}
theorem Xii(hB:Ro P X ⟨fn,Rj,Z8⟩){f1 f2 f3 g:Nat}(hg:X.fm 1000000000004=some g)
  (h1 :∀f,X.fm f=some 304->f=f1) (e1 :∀args w,(callFunc f1 args).run P w=.ok (.enter f1 args) w)
  (c1 :∀(s:BS) (m:Int) (w:World),s.length<4294967281->w.cell? ⟨g-1000000000,0,none⟩=some (.int .i64 m)->Calls P f1 #[.string ⟨s.toArray⟩,.string ⟨#[10]⟩] w (wD w<|Lib.split s [10]))
  (h2 :∀f,X.fm f=some 323->f=f2) (e2 :∀args w,(callFunc f2 args).run P w=.ok (.enter f2 args) w)
  (c2 :∀(s:BS) (m:Int) (w:World),s.length<4294967281->w.cell? ⟨g-1000000000,0,none⟩=some (.int .i64 m)->Calls P f2 #[.string ⟨s.toArray⟩,.string ⟨#[32]⟩,.int .i64 4] w (wD w<|Lib.splitN s [32] 4))
  (h3 :∀f,X.fm f=some 197->f=f3) (e3 :∀args w,(callFunc f3 args).run P w=.ok (.enter f3 args) w)
  (c3 :∀(s p:ByteArray) (m:Int) (w:World),s.size<4294967281->w.cell? ⟨g-1000000000,0,none⟩=some (.int .i64 m)->Calls P f3 #[.string s,.string p] w fun e w'=>e=.returned (.int .i64<|Lib.index s.data.toList p.data.toList)/\w'=w):Ro P X ⟨fn,Dn,Z8⟩:=by
 intro f c gO hn args r hr G w0 st w Yv d hG hR hV;obtain⟨_,m,hm⟩:=hR.bel.here.glob g (by rw[hG];exact hg);simp only[Dn]at hr;split at hr
 ·rename_i hc;subst hc;obtain rfl:=h1 f gO;split at hr
  case h_2=>cases hr
  rename_i s;split at hr
  case isFalse=>cases hr
  rename_i hs;cases hr;have hlen:=hV.1
  match Yv,hlen with
  |[u1,u2],_=>
   have k1:=(hV.2 0 _ u1 rfl rfl).str_inv;have k2:=(hV.2 1 _ u2 rfl rfl).str_inv;subst k1;subst k2;refine .inl ⟨e1 _ _,(c1 s m w (by omega) hm).mono fun e w' he=>?_⟩;obtain⟨l,cs,cap,t,rfl,rfl,bA,cR,hl⟩:=he;rw[<- hl];exact Z7 hR bA cR
 split at hr
 ·rename_i hc;subst hc;obtain rfl:=h2 f gO;split at hr
  case h_2=>cases hr
  rename_i s;split at hr
  case isFalse=>cases hr
  rename_i hs;cases hr;have hlen:=hV.1
  match Yv,hlen with
  |[u1,u2,u3],_=>
   have k1:=(hV.2 0 _ u1 rfl rfl).str_inv;have k2:=(hV.2 1 _ u2 rfl rfl).str_inv;have k3:=(hV.2 2 _ u3 rfl rfl).int_inv;subst k1;subst k2;subst k3;refine .inl ⟨e2 _ _,(c2 s m w (by omega) hm).mono fun e w' he=>?_⟩;obtain⟨l,cs,cap,t,rfl,rfl,bA,cR,hl⟩:=he;rw[<- hl];exact Z7 hR bA cR
 split at hr
 ·rename_i hc;subst hc;obtain rfl:=h3 f gO;split at hr
  case h_2=>cases hr
  rename_i s p;split at hr
  case isFalse=>cases hr
  rename_i hs;cases hr;have hlen:=hV.1
  match Yv,hlen with
  |[u1,u2],_=>
   have k1:=(hV.2 0 _ u1 rfl rfl).str_inv;have k2:=(hV.2 1 _ u2 rfl rfl).str_inv;subst k1;subst k2;refine .inl ⟨e3 _ _,(c3 ⟨s.toArray⟩ ⟨p.toArray⟩ m w (show s.length<_ by omega) hm).mono fun e w' he=>?_⟩;obtain⟨rfl,rfl⟩:=he;exact⟨G,.fz _ _<|.i _ _,.refl hR⟩
 ·exact hB f c gO hn args r hr G w0 st w Yv d hG hR hV
end Go.AM

namespace Go.AM
open Go
structure Ir where
 image:Zd
 state:Zo
 query:My
 out:List (BS)
def QF(ow:Wl)(o:Zr)(n:Nat):Prop:=
 match o with
 |.ext=>False
 |.full=>True
 |.id k v=>(lk ow k=some (v,n)/\0<n)/\Se<=k.2/\k.2<Wo
theorem QF.app{ow:Wl}{o:Zr}{n:Nat}(h:QF ow o n):Kl ow o n:=by
 cases o with
 |ext=>exact h
 |full=>exact h
 |id k v=>exact h.1
abbrev Ir.fix(m:Ir):List AV:=[.sl .ext<|List.map Vv.row m.image.types,.sl .ext<|List.map Zv m.image.texts,.sl .ext<|List.map Zz.row m.image.funcs,.i .u8 m.state.outcome,.i .i64 m.state.failing,.i .i64 m.state.steps,.sl .ext<|List.map Zi.row m.state.routines,.i .u8 m.query.kind,.i .i64 m.query.g,.i .i64 m.query.k,.i .i64 m.query.key,.s m.query.name]
def Dk(m:Ir):BC:=fun bx ow k v=>∃o,lk bx k=some (v,m.fix++[.sl o<|List.map Zv m.out])/\QF ow o m.out.length
theorem Dk.other{m:Ir}{bx:Wn}{ow:Wl}{k q:Zt}{v:Nat}{a:Nat × List AV}(hn:q≠k)(h:Dk m bx ow k v):Dk m (Xm bx q a) ow k v:=by obtain⟨o,h1,h2⟩:=h;exact⟨o,by rw[Dm hn];exact h1,h2⟩
theorem Dk.out{m:Ir}:Sz (Dk m):=fun d bx ow k v hk ⟨o,h1,h2⟩=>⟨o,by rw[Ie hk];exact h1,h2⟩
def Xn(S:List Nat)(d:Nat)(ow:Wl)(o:Zr)(n:Nat):Prop:=Kl ow o n/\∀k v,o=.id k v->k.1=d/\S.contains k.2=true
theorem Xn.full{S:List Nat}{d n:Nat}{ow:Wl}:Xn S d ow .full n:=⟨trivial,fun _ _ h=>by cases h⟩
theorem Xn.new{S:List Nat}{d n n' site:Nat}{ow ow':Wl}{o o':Zr}(h:Xn S d ow o n)(a:Kl ow' o' n')(he:Qn o'=Qn o\/Qn o'=some (d,site))(hs:S.contains site=true):Xn S d ow' o' n':=by
 refine⟨a,fun k v e=>?_⟩;subst e;rcases he with he|he
 ·cases o with
  |ext=>cases he
  |full=>cases he
  |id k' v'=>
   injection he with he;subst he;exact h.2 _ _ rfl
 ·injection he with he;subst he;exact⟨rfl,hs⟩
theorem Xn.keep{S1 S2:List Nat}{d n n2 site:Nat}{ow ow':Wl}{o o2:Zr}(h2:Xn S2 d ow o2 n2)(h1:Xn S1 d ow o n)(hw :∀k,some k≠Qn o->k≠(d,site)->lk ow' k=lk ow k)(hs:S1.contains site=true)(hd:(S1.all fun x=>!S2.contains x)=true):Xn S2 d ow' o2 n2:=by
 refine⟨?_,h2.2⟩
 have hn :∀x,S1.contains x=true->S2.contains x=false:=fun x hx=>by
  have:=jU.1 hd x (by simpa using hx);simpa using this
 cases o2 with
 |ext=>exact h2.1
 |full=>exact h2.1
 |id k v=>
  obtain⟨e1,e2⟩:=h2.2 k v rfl;obtain⟨a1,a2⟩:=h2.1;refine⟨(hw k ?_ ?_).trans a1,a2⟩
  ·intro e
   cases o with
   |ext=>cases e
   |full=>cases e
   |id k' v'=>
    injection e with e;subst e;have:=hn _ (h1.2 _ _ rfl).2;rw[e2]at this;cases this
  ·rintro rfl;have:=hn _ hs;rw[e2]at this;cases this
theorem Xn.call{S:List Nat}{d n:Nat}{q:Zt}{ow cH:Wl}{bx dF:Wn}{o:Zr}(h:Xn S d ow o n)(c:Fr (d+1) q bx ow dF cH)(hS:(S.all fun x=>Nat.blt x Se)=true):Xn S d cH o n:=by
 refine⟨?_,h.2⟩
 cases o with
 |ext=>exact h.1
 |full=>exact h.1
 |id k v=>
  obtain⟨e1,e2⟩:=h.2 k v rfl;obtain⟨a1,a2⟩:=h.1;refine⟨(c.2 k (by omega) ?_).trans a1,a2⟩;exact jE (jU.1 hS _<|by simpa using e2)
def Yfw{Y:Type}(PG:Zb)(f:Nat)(B:BC)(args:Zt->Nat->List AV)(KK:AV->Y->Prop)(B':Y->BC):Prop:=
 ∀d (st:St) (k:Zt) (v:Nat),k.1<d->B st.bx st.ow k v->∃r aA b,Fn PG d f (.p k v 0::args k v) st r aA/\KK r b/\B' b aA.bx aA.ow k v/\Fr d k st.bx st.ow aA.bx aA.ow
theorem Yfw.of{Y:Type}{PG:Zb}{f:Nat}{F:AF}{B:BC}{B':Y->BC}{args:Zt->Nat->List AV}{KK:AV->Y->Prop}(hf:PG.fn f=some F)(hn :∀k v,Nat.ble ((args k v).length+1) F.nt=true)(ho :∀b,Sz<|B' b)
  (h :∀(d:Nat) (st:St) (k:Zt) (v:Nat),k.1<d->B st.bx st.ow k v->W PG d F.body (Wg<|.p k v 0::args k v) st fun e U aA=>(e=.normal\/e=.ret)/\∃r b,Xj U aA F.res=some r/\KK r b/\B' b aA.bx aA.ow k v/\Fr d k st.bx st.ow aA.bx aA.ow):Yfw PG f B args KK B':=by
 intro d st k v hk hB
 obtain ⟨r,aA,h1,b,h2,h3,h4⟩:=Fn.of' (PG:=PG) (K:=fun r aA=>∃b,KK r b/\B' b aA.bx aA.ow k v/\Fr d k st.bx st.ow aA.bx aA.ow) hf (by simpa using jE (hn k v)) ((h d st k v hk hB).mono fun e U aA hq=>by
  obtain⟨he,r,b,h1,h2,h3,h4⟩:=hq;rcases he with rfl|rfl
  ·exact⟨r,h1,b,h2,ho b d _ _ k v hk h3,h4.out⟩
  ·exact ⟨r,h1,b,h2,ho b d _ _ k v hk h3,h4.out⟩)
 exact⟨r,aA,b,h1,h2,h3,h4⟩
section
variable{PG:Zb}{d id base i:Nat}{U:Sl}{st:St}{K:Sl->St->Prop}{r:List AI}{t:Option Nat}{x y:Zw}
end
end Go.AM

/- The steps of the machine, found by a tactic (an argument's default): where the printed proof says nothing that the state does not. -/
namespace Go.AM
open Go
attribute [local irreducible] WO W
section
variable{PG:Zb}{d id base i:Nat}{U:Sl}{st:St}{K:Sl->St->Prop}{r:List AI}{t:Option Nat}{x y:Zw}{T A B:Prop}
theorem zuE{α:Type}{p:α->Prop}{c:Prop}(h :∃a,p a)(k :∀a,p a->c):c:=h.elim k
theorem Dp{op:BinOp}{a b v:AV}(hv:Wb op a b=some v)(h:WO PG d id base (i+1) r (Yb U t v) st K)(hx:x.ev U=a:=by first|exact J|assumption)(hy:y.ev U=b:=by first|exact J|assumption):WO PG d id base i (⟨t,.bin op x y,none⟩::r) U st K:=To hx hy hv h
theorem Xpi{l m:BS}(h:l.length+m.length<=Yj/\T)(k:T->WO PG d id base (i+1) r (Yb U t<|.s<|l++m) st K)(hx:x.ev U=.s l:=by first|assumption|exact J)(hy:y.ev U=.s m:=by first|assumption|exact J):WO PG d id base i (⟨t,.bin .add x y,none⟩::r) U st K:=To hx hy (Xp h.1) (k h.2)
theorem ZD{op:BinOp}{k':IntKind}{a b:Int}{v:AV}(hv:b≠0->Wb op (.i k' a) (.i k' b)=some v)(h:b≠0/\T)(k:T->WO PG d id base (i+1) r (Yb U t v) st K)(hx:x.ev U=.i k' a:=by first|exact J|assumption)(hy:y.ev U=.i k' b:=by first|exact J|assumption):WO PG d id base i (⟨t,.bin op x y,none⟩::r) U st K:=To hx hy (hv h.1) (k h.2)
theorem zug{dst:Option Nat}{op:Vu}{g:Nat}{w:Bool}(h:WO PG d id base i (⟨dst,op,none⟩::r) U st K)(hg:U g=.b w:=by exact J):WO PG d id base i (⟨dst,op,some (g,w)⟩::r) U st K:=ZE hg h
theorem zus{a:AI}{v:AV}(hs:pO a U=some v)(h:WO PG d id base (i+1) r (Yb U a.dst v) st K):WO PG d id base i (a::r) U st K:=Y8 hs h
theorem Wah{dst:Option Nat}{op:Vu}{g:Nat}{w:Bool}{p:Prop}[Decidable p](h:(p->A)/\(¬p->B))(h1:A->WO PG d id base i (⟨dst,op,some (g,w)⟩::r) (up U g<|.b true) st K)(h2:B->WO PG d id base i (⟨dst,op,some (g,w)⟩::r) (up U g<|.b false) st K)(hg:U g=.b (decide p):=by first|exact J|assumption):WO PG d id base i (⟨dst,op,some (g,w)⟩::r) U st K:=PT hg (fun z=>h1<|h.1 z) fun z=>h2 (h.2 z)
theorem Xyk{dst:Option Nat}{op:Vu}{g:Nat}{w:Bool}{b:Bool}(h:(b=true->A)/\(b=false->B))(h1:A->WO PG d id base i (⟨dst,op,some (g,w)⟩::r) (up U g<|.b true) st K)(h2:B->WO PG d id base i (⟨dst,op,some (g,w)⟩::r) (up U g<|.b false) st K)(hg:U g=.b b:=by first|exact J|assumption):WO PG d id base i (⟨dst,op,some (g,w)⟩::r) U st K:=PU hg (fun z=>h1<|h.1 z) fun z=>h2 (h.2 z)
theorem Wb5{dst:Option Nat}{g:Nat}{p:Prop}[Decidable p](h:(p->A)/\(¬p->B))(h1:A->WO PG d id base i (⟨dst,.pick (.t g) x y,none⟩::r) (up U g<|.b true) st K)(h2:B->WO PG d id base i (⟨dst,.pick (.t g) x y,none⟩::r) (up U g<|.b false) st K)(hg:U g=.b (decide p):=by first|exact J|assumption):WO PG d id base i (⟨dst,.pick (.t g) x y,none⟩::r) U st K:=PT hg (fun z=>h1<|h.1 z) fun z=>h2 (h.2 z)
theorem Wbw{dst:Option Nat}{g:Nat}{b:Bool}(h:(b=true->A)/\(b=false->B))(h1:A->WO PG d id base i (⟨dst,.pick (.t g) x y,none⟩::r) (up U g<|.b true) st K)(h2:B->WO PG d id base i (⟨dst,.pick (.t g) x y,none⟩::r) (up U g<|.b false) st K)(hg:U g=.b b:=by first|exact J|assumption):WO PG d id base i (⟨dst,.pick (.t g) x y,none⟩::r) U st K:=PU hg (fun z=>h1<|h.1 z) fun z=>h2 (h.2 z)
theorem zum{v:AV}(h:WO PG d id base (i+1) r (Yb U t v) st K)(hx:x.ev U=v:=by assumption):WO PG d id base i (⟨t,.mv x,none⟩::r) U st K:=Jb hx h
theorem zun{a:Bool}(h:WO PG d id base (i+1) r (Yb U t<|.b<|!a) st K)(hx:x.ev U=.b a:=by first|exact J|assumption):WO PG d id base i (⟨t,.un .not x,none⟩::r) U st K:=PV hx h
theorem Xp2{p:Prop}[Decidable p](h:WO PG d id base (i+1) r (Yb U t<|.b<|decide<|¬p) st K)(hx:x.ev U=.b (decide p):=by first|exact J|assumption):WO PG d id base i (⟨t,.un .not x,none⟩::r) U st K:=ZF hx h
theorem Xmm{k:IntKind}{n:Int}(h:WO PG d id base (i+1) r (Yb U t<|.i k<|k.wrap<|0-n) st K)(hx:x.ev U=.i k n:=by first|exact J|assumption):WO PG d id base i (⟨t,.un .neg x,none⟩::r) U st K:=Xkj hx h
theorem Xq8{l:BS}(h:WO PG d id base (i+1) r (Yb U t<|.i .i64 (l.length:Int)) st K)(hx:x.ev U=.s l:=by first|exact J|assumption):WO PG d id base i (⟨t,.len true x,none⟩::r) U st K:=CY hx h
theorem Xyd{α:Type}{f:α->List AV}{l:List α}{o:Zr}(h:WO PG d id base (i+1) r (Yb U t<|.i .i64 (l.length:Int)) st K)(hx:x.ev U=.sl o (l.map f):=by first|exact J|assumption):WO PG d id base i (⟨t,.len false x,none⟩::r) U st K:=MD hx h
theorem Xzb{k k':IntKind}{c:UInt8}(h:WO PG d id base (i+1) r (Yb U t<|.i k (c.toNat:Int)) st K)(hx:x.ev U=.i k' (c.toNat:Int):=by first|exact J|assumption)(hk:(k != .i8)=true:=by exact J):WO PG d id base i (⟨t,.cvi k x,none⟩::r) U st K:=ZG hx hk h
theorem Yvz{k k':IntKind}{n:Int}(h:WO PG d id base (i+1) r (Yb U t<|.i k<|k.wrap n) st K)(hx:x.ev U=.i k' n:=by first|exact J|assumption):WO PG d id base i (⟨t,.cvi k x,none⟩::r) U st K:=Ls hx h
theorem Yzu{l:BS}{o:Zr}(h:WO PG d id base (i+1) r (Yb U t<|.s l) st K)(hx:x.ev U=.sl o (l.map Yx):=by first|exact J|assumption):WO PG d id base i (⟨t,.b2s x,none⟩::r) U st K:=Em hx h
theorem Xq7{k:Nat}{vs:List AV}{v:AV}(h:WO PG d id base (i+1) r (Yb U t v) st K)(hx:x.ev U=.tup vs:=by first|exact J|assumption)(hv:vs[k]?=some v:=by exact J):WO PG d id base i (⟨t,.ext k x,none⟩::r) U st K:=ZH hx hv h
theorem Xch{l:BS}{k':IntKind}{n:Int}{A:UInt8->Prop}(h:0<=n/\∃c,l[n.toNat]?=some c/\A c)(k :∀c,l[n.toNat]?=some c/\A c->WO PG d id base (i+1) r (Yb U t<|.i .u8 (c.toNat:Int)) st K)(hx:x.ev U=.s l:=by first|exact J|assumption)(hy:y.ev U=.i k' n:=by first|exact J|assumption):WO PG d id base i (⟨t,.ixS x y,none⟩::r) U st K:=h.2.elim fun _ e=>Qj hx hy h.1 e.1 (k _ e)
theorem Xiq{n o v:Nat}{agg:Bool}{k:Zt}{cs:List AV}{w:AV}(h:WO PG d id base (i+1) r (Yb U t w) st K)(hx:x.ev U=.p k v o:=by first|exact J|assumption)(hb:lk st.bx k=some (v,cs):=by repeat (first|assumption|exact Zj|refine Zm J ?_))(hn:Nat.ble (o+n) cs.length=true:=by exact J)(hv:Uh agg ((cs.drop o).take n)=some w:=by exact J):WO PG d id base i (⟨t,.load n agg x,none⟩::r) U st K:=Pw hx hb hn hv h
theorem Xfn{off o v:Nat}{k:Zt}(h:WO PG d id base (i+1) r (Yb U t<|.p k v<|o+off) st K)(hx:x.ev U=.p k v o:=by first|exact J|assumption):WO PG d id base i (⟨t,.fad off x,none⟩::r) U st K:=Rg hx h
theorem Xsw{off:Nat}{cs:List AV}(h:WO PG d id base (i+1) r (Yb U t<|.fp<|cs.drop off) st K)(hx:x.ev U=.fp cs:=by first|exact J|assumption):WO PG d id base i (⟨t,.fad off x,none⟩::r) U st K:=ZI hx h
theorem Xm8{n:Nat}{agg:Bool}{cs:List AV}{v:AV}(h:WO PG d id base (i+1) r (Yb U t v) st K)(hx:x.ev U=.fp cs:=by first|exact J|assumption)(hn:Nat.ble n cs.length=true:=by exact J)(hv:Uh agg (cs.take n)=some v:=by exact J):WO PG d id base i (⟨t,.load n agg x,none⟩::r) U st K:=ZJ hx hn hv h
theorem Xke{n:Nat}{agg:Bool}{cs:List AV}{v:AV}(h:WO PG d id base (i+1) r (Yb U t v) st K)(hx:x.ev U=.fp cs:=by first|exact J|assumption)(hn:Nat.ble n cs.length=true:=by exact J)(hv:Uh agg (cs.take n)=some v:=by exact J):WO PG d id base i (⟨t,.ldf n agg x,none⟩::r) U st K:=Sa hx hn hv h
theorem Xzp{o v:Nat}{k:Zt}(h:WO PG d id base (i+1) r (Yb U t<|.p k v o) st K)(hx:x.ev U=.p k v o:=by first|exact J|assumption):WO PG d id base i (⟨t,.nilc x,none⟩::r) U st K:=Vc hx h
theorem Xx7{cs:List AV}(h:WO PG d id base (i+1) r (Yb U t<|.fp cs) st K)(hx:x.ev U=.fp cs:=by first|exact J|assumption):WO PG d id base i (⟨t,.nilc x,none⟩::r) U st K:=Xho hx h
theorem Yy8{off n:Nat}{agg:Bool}{cs:List AV}{v:AV}(h:WO PG d id base (i+1) r (Yb U t v) st K)(hx:x.ev U=.ag cs:=by first|exact J|assumption)(hn:Nat.ble (off+n) cs.length=true:=by exact J)(hv:Uh agg ((cs.drop off).take n)=some v:=by exact J):WO PG d id base i (⟨t,.fld off n agg x,none⟩::r) U st K:=Xue hx hn hv h
theorem Xc3{n:Nat}{v:AV}(h:WO PG d id base (i+1) r (Yb U t<|.p (d,id*4096+i) (base+i) 0) { st with bx:=Xm st.bx (d,id*4096+i) (base+i,v.cells) } K)(hx:x.ev U=v:=by first|assumption|exact J)(hn:(Nat.beq v.cells.length n&&v.cells.all AV.one)=true:=by exact J):WO PG d id base i (⟨t,.box n x,none⟩::r) U st K:=Jw hx hn h
theorem Xpo{n:Nat}{v:AV}{cs:List AV}(h:WO PG d id base (i+1) r (Yb U t<|.fp cs) st K)(hx:x.ev U=v:=by first|assumption|exact J)(hn:Nat.beq v.cells.length n=true:=by exact J)(hs:Ji v.cells=some cs:=by exact J):WO PG d id base i (⟨t,.boxf n x,none⟩::r) U st K:=ZK hx hn hs h
theorem Xry{α:Type}{f:α->List AV}{l:List α}{o:Zr}{size:Nat}{k':IntKind}{n:Int}{cs:α->List AV}{A:α->Prop}(h:0<=n/\∃c,l[n.toNat]?=some c/\A c)(k :∀c,l[n.toNat]?=some c/\A c->WO PG d id base (i+1) r (Yb U t<|.fp<|cs c) st K)(hx:x.ev U=.sl o (l.map f):=by first|exact J|assumption)(hy:y.ev U=.i k' n:=by first|exact J|assumption)(hf :∀c,f c=cs c:=by first|exact Za.row_eq|exact Zx.row_eq|exact Zf.row_eq|exact Zh.row_eq|exact Zq.row_eq|exact Zi.row_eq|exact Zz.row_eq|exact Vv.row_eq|exact fun _=>J)(hs :∀c,(Nat.beq (cs c).length size&&Nat.blt 0 size)=true:=by exact fun _=>J):WO PG d id base i (⟨t,.iaL size x y,none⟩::r) U st K:=h.2.elim fun c e=>PW hx hy h.1 e.1 (hf c) (hs c) (k c e)
theorem Xq2{z:Zw}{l:BS}{k':IntKind}{n:Int}(h:0<=n/\n.toNat<=l.length/\A)(k:A->WO PG d id base (i+1) r (Yb U t<|.s<|l.drop n.toNat) st K)(hx:x.ev U=.s l:=by first|exact J|assumption)(hz:z.ev U=.i k' n:=by first|exact J|assumption):WO PG d id base i (⟨t,.slS x (some z) none,none⟩::r) U st K:=Jo hx hz h.1 h.2.1 (k h.2.2)
theorem Xmf{z:Zw}{l:BS}{k':IntKind}{n:Int}(h:0<=n/\n.toNat<=l.length/\A)(k:A->WO PG d id base (i+1) r (Yb U t<|.s<|l.take n.toNat) st K)(hx:x.ev U=.s l:=by first|exact J|assumption)(hz:z.ev U=.i k' n:=by first|exact J|assumption):WO PG d id base i (⟨t,.slS x none<|some z,none⟩::r) U st K:=Bc hx hz h.1 h.2.1 (k h.2.2)
theorem Wa9{z z':Zw}{l:BS}{k1 k':IntKind}{n m:Int}(h:0<=n/\n<=m/\m.toNat<=l.length/\A)(k:A->WO PG d id base (i+1) r (Yb U t<|.s<|(l.drop n.toNat).take<|m.toNat-n.toNat) st K)(hx:x.ev U=.s l:=by first|exact J|assumption)(hz:z.ev U=.i k1 n:=by first|exact J|assumption)(PX:z'.ev U=.i k' m:=by first|exact J|assumption):WO PG d id base i (⟨t,.slS x (some z)<|some z',none⟩::r) U st K:=Fc hx hz PX h.1 h.2.1 h.2.2.1 (k h.2.2.2)
theorem Yyo{f:Nat}{args:List Zw}{vs:List AV}{v:AV}(h:Ze PG f vs v/\A)(k:A->WO PG d id base (i+1) r (Yb U t v) st K)(hs:AV.strips (Vy U args)=some vs:=by(repeat (refine sc (by first|assumption|exact J) (by exact J) ?_));exact sn):WO PG d id base i (⟨t,.call false f args,none⟩::r) U st K:=ZL hs h.1 (k h.2)
theorem Wcz{α:Type}{f:α->List AV}{a:α}{zero:List AV}{cs z:List AV}{v:AV}(h:WO PG d id base (i+1) r (Yb U t<|.sl .full<|List.map f [a]) st K)(hx:x.ev U=v:=by first|assumption|exact J)(hc:Ji v.cells=some (f a):=by exact J)(hz:Ji zero=some z:=by exact J)(hn:(Nat.blt 0 z.length&&Nat.ble (1*z.length) 65536&&(Nat.beq (f a).length z.length))=true:=by exact J):WO PG d id base i (⟨t,.bslice zero 1 [(0,x)],none⟩::r) U st K:=by simp only[kR]at hn;exact pX hz (by simp only[kR];exact hn.1) (Yl hx hc (by simp only[kR];exact⟨rfl,hn.2⟩) Wi) h
theorem Xis{α:Type}{f:α->List AV}{size bytes:Nat}{l m:List α}{o o2:Zr}(h:Ju (l.length+m.length) bytes/\A)(k :∀o' ow',Yo d ow' o' (l++m).length->A->WO PG d id base (i+1) r (Yb U t<|.sl o'<|(l++m).map f) ⟨st.nx,st.bx,ow'⟩ K)(hx:x.ev U=.sl o (l.map f):=by first|assumption|exact J)(hy:y.ev U=.sl o2 (m.map f):=by first|assumption|exact J)(ha:Yo d st.ow o l.length:=by first|assumption|exact Yo.full)(hf :∀a,(f a).length=size:=by first|exact fun _=>J|exact Za.row_len)(aM:Nat.blt 0 size=true:=by exact J)(hb:Nat.blt (id*4096+i) Wo=true:=by exact J)(hm:Nat.blt (id*4096+i) Se=true:=by exact J):WO PG d id base i (⟨t,.app size bytes x y,none⟩::r) U st K:=
 Jq hf aM hx hy ha.1 h.1 hb fun o' ow' a _ on=>k o' ow' (Yo.mk a<|Qy.app ha.2 hm on) h.2
theorem Xox{α:Type}{f:α->AV}{l:List α}{m:Nat}{k':IntKind}{n:Int}{A:α->Prop}(h:l.length=m/\0<=n/\∃c,l[n.toNat]?=some c/\A c)(k :∀c,l[n.toNat]?=some c/\A c->WO PG d id base (i+1) r (Yb U t<|f c) st K)(hx:x.ev U=.ag (l.map f):=by first|exact J|assumption)(hy:y.ev U=.i k' n:=by first|exact J|assumption):WO PG d id base i (⟨t,.ixA m 1 false x y,none⟩::r) U st K:=h.2.2.elim fun c e=>Cy h.1 hx hy h.2.1 e.1 (k c e)
theorem Xnm{m:Nat}{α:Type}{f:α->List AV}{l:List α}{o:Zr}{size:Nat}{k':IntKind}{n:Int}{c:α}{cs:List AV}(h:l[m]?=some c/\A)(k:A->WO PG d id base (i+1) r (Yb U t<|.fp cs) st K)(hx:x.ev U=.sl o (l.map f):=by first|exact J|assumption)(hy:y.ev U=.i k' n:=by first|exact J|assumption)(h0:0<=n:=by decide)(hm:n.toNat=m:=by exact J)(hf:f c=cs:=by first|exact Za.row_eq _|exact Zx.row_eq _|exact Zf.row_eq _|exact Zh.row_eq _|exact Zq.row_eq _|exact Zi.row_eq _|exact Zz.row_eq _|exact Vv.row_eq _|exact J)(hs:(Nat.beq cs.length size&&Nat.blt 0 size)=true:=by exact J):WO PG d id base i (⟨t,.iaL size x y,none⟩::r) U st K:=PW hx hy h0 (hm ▸ h.1) hf hs (k h.2)
theorem Xaq{m:Nat}{l:BS}{k':IntKind}{n:Int}{c:UInt8}(h:l[m]?=some c/\A)(k:A->WO PG d id base (i+1) r (Yb U t<|.i .u8 (c.toNat:Int)) st K)(hx:x.ev U=.s l:=by first|exact J|assumption)(hy:y.ev U=.i k' n:=by first|exact J|assumption)(h0:0<=n:=by decide)(hm:n.toNat=m:=by exact J):WO PG d id base i (⟨t,.ixS x y,none⟩::r) U st K:=Qj hx hy h0 (hm ▸ h.1) (k h.2)
theorem Xxr{zero:List AV}{parts:List (Nat × Nat × Zw)}{cs:List AV}(h:WO PG d id base (i+1) r (Yb U t<|.ag cs) st K)(hp:Ve U zero parts=some cs:=by(repeat (refine Yr (by first|assumption|exact J) (by exact J) ?_));exact Yu):WO PG d id base i (⟨t,.build zero parts,none⟩::r) U st K:=Xb hp h
theorem Xf2{n o v:Nat}{k:Zt}{cs cs':List AV}{w:AV}(h:WO PG d id base (i+1) r (Yb U t<|.tup []) { st with bx:=Xm st.bx k (v,cs') } K)(hx:x.ev U=.p k v o:=by first|exact J|assumption)(hy:y.ev U=w:=by first|assumption|exact J)(hb:lk st.bx k=some (v,cs):=by repeat (first|assumption|exact Zj|refine Zm J ?_))(hn:(Nat.ble (o+n) cs.length&&Nat.beq w.cells.length n&&w.cells.all AV.one)=true:=by exact J)(hs:Gp cs o w.cells=cs':=by exact J)(aV:Ra k w=true:=by first|rfl|exact mw rfl):WO PG d id base i (⟨t,.store n x y,none⟩::r) U st K:=ny hx hb hy hn hs h aV
theorem Xgb{zero:List AV}(h:WO PG d id base (i+1) r (Yb U t<|.p (d,id*4096+i) (base+i) 0) st K):WO PG d id base i (⟨t,.alloc zero,none⟩::r) U st K:=Xl h
theorem Xvd{z:Zw}{l:BS}{k':IntKind}{n:Int}{m:Nat}(h:m<=l.length/\A)(k:A->WO PG d id base (i+1) r (Yb U t<|.s<|l.drop m) st K)(hx:x.ev U=.s l:=by first|exact J|assumption)(hz:z.ev U=.i k' n:=by first|exact J|assumption)(h0:0<=n:=by decide)(hm:n.toNat=m:=by exact J):WO PG d id base i (⟨t,.slS x (some z) none,none⟩::r) U st K:=by subst hm;exact Jo hx hz h0 h.1 (k h.2)
theorem Xzq{z:Zw}{l:BS}{k':IntKind}{n:Int}{m:Nat}(h:m<=l.length/\A)(k:A->WO PG d id base (i+1) r (Yb U t<|.s<|l.take m) st K)(hx:x.ev U=.s l:=by first|exact J|assumption)(hz:z.ev U=.i k' n:=by first|exact J|assumption)(h0:0<=n:=by decide)(hm:n.toNat=m:=by exact J):WO PG d id base i (⟨t,.slS x none<|some z,none⟩::r) U st K:=by subst hm;exact Bc hx hz h0 h.1 (k h.2)
theorem ZM{op:BinOp}{k':IntKind}{a b:Int}{v:AV}(hv:b≠0->Wb op (.i k' a) (.i k' b)=some v)(h:WO PG d id base (i+1) r (Yb U t v) st K)(hx:x.ev U=.i k' a:=by first|exact J|assumption)(hy:y.ev U=.i k' b:=by first|exact J|assumption)(hb:b≠0:=by decide):WO PG d id base i (⟨t,.bin op x y,none⟩::r) U st K:=To hx hy (hv hb) h
theorem ZN{op:BinOp}{k' k2:IntKind}{a b:Int}{v:AV}(hv:0<=b->Wb op (.i k' a) (.i k2 b)=some v)(h:WO PG d id base (i+1) r (Yb U t v) st K)(hx:x.ev U=.i k' a:=by first|exact J|assumption)(hy:y.ev U=.i k2 b:=by first|exact J|assumption)(hb:0<=b:=by decide):WO PG d id base i (⟨t,.bin op x y,none⟩::r) U st K:=To hx hy (hv hb) h
theorem Xav{n:Int}{c:UInt8}(hc:UInt8.ofNat n.toNat=c)(h:WO PG d id base (i+1) r (Yb U t<|.sl .full<|List.map Yx [c]) st K)(hx:x.ev U=.i .u8 n:=by first|exact J|assumption)(hn:n=(c.toNat:Int):=by decide):WO PG d id base i (⟨t,.bslice [.i .u8 0] 1 [(0,x)],none⟩::r) U st K:=pX (z:=[.i .u8 0]) rfl rfl (Yl (Og hx hn) rfl rfl Wi) h
theorem Xxg{c:UInt8}(h:WO PG d id base (i+1) r (Yb U t<|.sl .full<|List.map Yx [c]) st K)(hx:x.ev U=.i .u8 (c.toNat:Int):=by first|exact J|assumption):WO PG d id base i (⟨t,.bslice [.i .u8 0] 1 [(0,x)],none⟩::r) U st K:=pX (z:=[.i .u8 0]) rfl rfl (Yl hx rfl rfl Wi) h
theorem Xci{n:Int}{c:UInt8}(hh:n=(c.toNat:Int)/\A)(h:A->WO PG d id base (i+1) r (Yb U t<|.sl .full<|List.map Yx [c]) st K)(hx:x.ev U=.i .u8 n:=by first|exact J|assumption):WO PG d id base i (⟨t,.bslice [.i .u8 0] 1 [(0,x)],none⟩::r) U st K:=pX (z:=[.i .u8 0]) rfl rfl (Yl (Og hx hh.1) rfl rfl Wi) (h hh.2)
theorem Xg8{f:Nat}{args:List Zw}{vs:List AV}{o:Zr}{rows aG:List (List AV)}(h:PuA PG f rows vs aG/\A)(k :∀o' aA,Kl aA.ow o' aG.length->A->WO PG d id base (i+1) r (Yb U t<|.sl o' aG) aA K)(hs:Vy U args=.sl o rows::vs:=by(repeat (refine Ye (by first|assumption|exact J) ?_));exact Yw)(ha:Kl st.ow o rows.length:=by first|exact Kl.full|assumption|simpa using Kl.full):WO PG d id base i (⟨t,.call true f args,none⟩::r) U st K:=Xop hs h.1 ha fun o' aA a=>k o' aA a h.2
end
section
variable{PG:Zb}{d:Nat}{U:Sl}{st:St}{Q:Q0}{c:Zw}{a b:AC}{T A B:Prop}
theorem Wcq{p:Prop}[Decidable p](h:(p->A)/\(¬p->B))(h1:A->W PG d a U st Q)(h2:B->W PG d b U st Q)(hc:c.ev U=.b (decide p):=by first|exact J|assumption):W PG d (.cond c a b) U st Q:=ZO hc (fun z=>h1<|h.1 z) fun z=>h2 (h.2 z)
theorem Xp9{t:Bool}(h:(t=true->A)/\(t=false->B))(h1:A->W PG d a U st Q)(h2:B->W PG d b U st Q)(hc:c.ev U=.b t:=by first|exact J|assumption):W PG d (.cond c a b) U st Q:=ZP hc (fun z=>h1<|h.1 z) fun z=>h2 (h.2 z)
theorem Xtu{id:Nat}{ops:List AI}{b:AC}(hn:Lt ops=true)(h :∀nx,WO PG d id st.nx 0 ops U ⟨nx,st.bx,st.ow⟩<|fun U st=>W PG d b U st Q):W PG d (.seq (.reg id ops) b) U st Q:=q_ hn (fun {nx _}=>h nx)
theorem Xdb{id base i:Nat}(h:W PG d b U st Q):WO PG d id base i [] U st (fun U st=>W PG d b U st Q):=Hs h
theorem Xvw{id base i:Nat}(h:W PG d b U st Q):WO PG d id base i [] U st (fun U st=>Zk PG d b Q .normal U st):=Hs h
theorem Xpj{id base i n:Nat}(h:W PG d b U st Q):WO PG d id base i [] U st (fun U st=>Zs n (Zk PG d b Q) .normal U st):=Hs h
theorem Xq4(h:W PG d b U st Q):W PG d .skip U st (Zk PG d b Q):=W.skip h
theorem Xsm{n:Nat}(h:W PG d b U st Q):W PG d .skip U st (Zs n<|Zk PG d b Q):=W.skip h
end
theorem au{A P:Prop}(n:A)(h:A->P:=by
 intro n
 repeat' (first
  |refine zuE h (fun _ h=>?_)
  |refine Xdb ?_
  |refine Xtu J (fun _=>?_)
  |refine zus J ?_
  |refine zug ?_
  |refine zum ?_
  |refine m_ ?_
  |refine Xiq ?_
  |refine Xfn ?_
  |refine Yyo h (fun h=>?_)
  |refine Xq7 ?_
  |refine Dp Xf ?_
  |refine Dp Wp ?_
  |refine Dp Vp ?_
  |refine Dp Jd ?_
  |refine Dp Vr ?_
  |refine Dp Ms ?_
  |refine Dp Ha ?_
  |refine Dp Oh ?_
  |refine Dp Bf ?_
  |refine Dp Rt ?_
  |refine Xyd ?_
  |refine Xq8 ?_
  |refine Xp2 ?_
  |refine zun ?_
  |refine Wah h (fun h=>?_) (fun h=>?_)
  |refine Xyk h (fun h=>?_) (fun h=>?_)
  |refine Wb5 h (fun h=>?_) (fun h=>?_)
  |refine Wbw h (fun h=>?_) (fun h=>?_)
  |refine Xry h (fun _ h=>?_)<;>replace h:=h.2
  |refine Xm8 ?_
  |refine Xke ?_
  |refine Xsw ?_
  |refine Xzp ?_
  |refine Xx7 ?_
  |refine Yy8 ?_
  |refine Xc3 ?_
  |refine Xpo ?_
  |refine Xch h (fun _ h=>?_)<;>replace h:=h.2
  |refine Xpi h (fun h=>?_)
  |refine Xzb ?_
  |refine Yvz ?_
  |refine Xq2 h (fun h=>?_)
  |refine Xmf h (fun h=>?_)
  |refine Wa9 h (fun h=>?_)
  |refine Yzu ?_
  |refine Xmm ?_
  |refine Xis h (fun _ _ _ h=>?_)
  |refine ZD Cs h (fun h=>?_)
  |refine ZD Cg h (fun h=>?_)
  |refine Dp (Ywy _ _ _) ?_
  |refine Dp (Xom _ _ _) ?_
  |refine Dp (rp _ _ _) ?_
  |refine Dp (Xxo _ _ _) ?_
  |refine ZM Cs ?_
  |refine ZM Cg ?_
  |refine ZN PY ?_
  |refine ZN abin_shl' ?_
  |refine Xxg ?_
  |refine Xci h (fun h=>?_)
  |refine Xav J ?_
  |refine Xg8 h (fun _ _ _ h=>?_)
  |refine Xox h (fun _ h=>?_)<;>replace h:=h.2
  |refine Xnm h (fun h=>?_)
  |refine Xaq h (fun h=>?_)
  |refine Xxr ?_
  |refine Xf2 ?_
  |refine Xgb ?_
  |refine Wcz ?_
  |refine Xvd h (fun h=>?_)
  |refine Xzq h (fun h=>?_)
  |refine ZQ J ?_
  |refine ZR J ?_
  |refine Wcq h (fun h=>?_) (fun h=>?_)
  |refine Xp9 h (fun h=>?_) (fun h=>?_)
  |refine Xvw ?_
  |refine Xpj ?_
  |refine Xq4 ?_
  |refine Xsm ?_
  |(apply n;(any_goals exact h);all_goals (first|assumption|exact J|exact Yo.full|exact Fr.refl|((repeat (first|assumption|exact Zj|refine Zm J ?_|exact Fr.refl|refine Fr.box ?_));done)))
  |(apply n.1;(any_goals exact h);all_goals (first|assumption|exact J|exact Yo.full|exact Fr.refl|((repeat (first|assumption|exact Zj|refine Zm J ?_|exact Fr.refl|refine Fr.box ?_));done)))
  |(apply n.2;(any_goals exact h);all_goals (first|assumption|exact J|exact Yo.full|exact Fr.refl|((repeat (first|assumption|exact Zj|refine Zm J ?_|exact Fr.refl|refine Fr.box ?_));done)))
  |(apply n.2.1;(any_goals exact h);all_goals (first|assumption|exact J|exact Yo.full|exact Fr.refl|((repeat (first|assumption|exact Zj|refine Zm J ?_|exact Fr.refl|refine Fr.box ?_));done)))
  |(apply n.2.2;(any_goals exact h);all_goals (first|assumption|exact J|exact Yo.full|exact Fr.refl|((repeat (first|assumption|exact Zj|refine Zm J ?_|exact Fr.refl|refine Fr.box ?_));done)))
  |(refine W.ret ?_;apply hQ;(any_goals exact h);all_goals (first|assumption|exact J|exact Yo.full|exact Fr.refl|((repeat (first|assumption|exact Zj|refine Zm J ?_|exact Fr.refl|refine Fr.box ?_));done)))
  |refine W.seq ?_
  |refine W.reg0 J (fun _ _=>?_)
  |refine W.reg ?_
  |refine W.block ?_
  |refine W.exit ?_
  |(apply aD;(any_goals exact h);all_goals (first|assumption|exact J|exact Yo.full|exact Fr.refl|((repeat (first|assumption|exact Zj|refine Zm J ?_|exact Fr.refl|refine Fr.box ?_));done)))
  | (apply bZ;(any_goals exact h);all_goals (first | assumption | exact J | exact Yo.full | exact Fr.refl | ((repeat (first | assumption | exact Zj | refine Zm J ?_ | exact Fr.refl | refine Fr.box ?_));done))))):P:=h n
end Go.AM

namespace Go.AM
open Go
set_option maxRecDepth 4000
set_option maxHeartbeats 2000000
attribute [local irreducible] Decidable.decide W WO Ve Vd
variable{PG:Zb}{d:Nat}{Q:Q0}{U:Sl}{st:St}
abbrev b42:AC:= (sR 0 [oC 4<|.s [],oC 5<|.b false]<|.seq (sR 1 [oM 6 0,oM 7 1,oQ 8 46 [6,7],oZ 9 8]<|cD 9 (sR 2 [oM 10 0,oM 4 10,oC 5<|.b false] .ret) .skip)<|sR 3 [oM 11 0,oM 12 1,oH 13 12,oO 14<|.slS (.t 11) (some<|.t 13) none,oM 4 14,oC 5<|.b true] .ret)
def rr:AF:= { nt:=15,res:=[.tmp 4,.tmp 5],body:=b42 }
section
variable(PG:Zb)(K:BS->Bool->Prop)
def DE(s0 am:BS):Prop:=
  ∃c,Ze PG 46 [.s s0,.s am] (.b c)/\((!c)=true->K s0 false)/\((!c)=false->0<=(am.length:Int)/\(am.length:Int).toNat<=s0.length/\K (s0.drop (am.length:Int).toNat) true)
end
section
variable{K:BS->Bool->Prop}(hQ:H2 AV.s AV.b 4 5 Q K)
variable{s0 am:BS}
variable(H0:U 0=.s s0)(H1:U 1=.s am)
include hQ H0 H1 in
theorem Yxs(h:DE PG K s0 am):W PG d b42 U st Q:=
 au trivial
def p42(hf:PG.fn 42=some rr)(h:DE PG K s0 am):∃x0:BS,∃x1:Bool,K x0 x1/\Ze PG 42 [.s s0,.s am] (.tup [.s x0,.b x1]):=
 P2 hf J<|Yxs (h2 J fun _ _=>J) J J h
end
abbrev b46:AC:= (sR 0 [oC 4<|.b false]<|sR 1 [oM 5 0,oH 6 5,oM 7 1,oH 8 7,oT 9 .geq 6 8,oM 10 9,gT 10<|oM 11 0,gT 10<|oM 12 1,gT 10<|oH 13 12,gT 10<|oO 14<|.slS (.t 11) none<|some<|.t 13,gT 10<|oM 15 1,gT 10<|oT 16 .eql 14 15,oA 17 10 16,oM 4 17] .ret)
def ru:AF:= { nt:=18,res:=[.tmp 4],body:=b46 }
def DD(PG:Zb)(K:Bool->Prop)(s0 am:BS):Prop:=
  ((s0.length:Int)>=(am.length:Int)->0<=(am.length:Int)/\(am.length:Int).toNat<=s0.length/\K (decide ((s0.take (am.length:Int).toNat)=am)))/\(¬((s0.length:Int)>=(am.length:Int))->K false)
section
variable{K:Bool->Prop}(hQ:H1 AV.b 4 Q K)
variable{s0 am:BS}
variable(H0:U 0=.s s0)(H1:U 1=.s am)
include hQ H0 H1 in
theorem Xad(h:DD PG K s0 am):W PG d b46 U st Q:=
 au trivial
def p46(hf:PG.fn 46=some ru)(h:DD PG K s0 am):∃x0:Bool,K x0/\Ze PG 46 [.s s0,.s am] (.b x0):=
 P1 hf J<|Xad (h1 J fun _=>J) J J h
end
abbrev b36:AC:= (sR 0 [oC 4<|.s [],oC 5<|.b false]<|sR 1 [oM 6 0,oM 7 1,oQ 8 42 [6,7],oE 9 0 8,oE 10 1 8,oM 4 9,oM 5 10] .ret)
def rv:AF:= { nt:=11,res:=[.tmp 4,.tmp 5],body:=b36 }
section
variable(PG:Zb)(K:BS->Bool->Prop)
def DF(s0 am:BS):Prop:=
  ∃c e,Ze PG 42 [.s s0,.s am] (.tup [.s c,.b e])/\K c e
end
section
variable{K:BS->Bool->Prop}(hQ:H2 AV.s AV.b 4 5 Q K)
variable{s0 am:BS}
variable(H0:U 0=.s s0)(H1:U 1=.s am)
include hQ H0 H1 in
theorem Yyf(h:DF PG K s0 am):W PG d b36 U st Q:=
 au trivial
def p36(hf:PG.fn 36=some rv)(h:DF PG K s0 am):∃x0:BS,∃x1:Bool,K x0 x1/\Ze PG 36 [.s s0,.s am] (.tup [.s x0,.b x1]):=
 P2 hf J<|Yyf (h2 J fun _ _=>J) J J h
end
abbrev b43:AC:= (sR 0 [oI 4 0]<|sR 1 [oM 5 0,oM 6 1,oQ 7 47 [5,6],oM 4 7] .ret)
def ry:AF:= { nt:=8,res:=[.tmp 4],body:=b43 }
section
variable(PG:Zb)(K:Int->Prop)
def DH(s0:BS)(c1:Int):Prop:=
  ∃c,Ze PG 47 [.s s0,.i .u8 c1] (.i .i64 c)/\K c
end
section
variable{K:Int->Prop}(hQ:H1 (AV.i .i64) 4 Q K)
variable{s0:BS}{c1:Int}
variable(H0:U 0=.s s0)(H1:U 1=.i .u8 c1)
include hQ H0 H1 in
theorem Xj4(h:DH PG K s0 c1):W PG d b43 U st Q:=
 au trivial
def p43(hf:PG.fn 43=some ry)(h:DH PG K s0 c1):∃x0:Int,K x0/\Ze PG 43 [.s s0,.i .u8 c1] (.i .i64 x0):=
 P1 hf J<|Xj4 (h1 J fun _=>J) J J h
end
abbrev b47:AC:= (sR 0 [oI 4 0]<|sR 1 [oM 5 0,oM 6 1,oQ 7 48 [5,6],oM 4 7] .ret)
def rA:AF:= { nt:=8,res:=[.tmp 4],body:=b47 }
section
variable(PG:Zb)(K:Int->Prop)
def DG(s0:BS)(c1:Int):Prop:=
  ∃c,Ze PG 48 [.s s0,.i .u8 c1] (.i .i64 c)/\K c
end
section
variable{K:Int->Prop}(hQ:H1 (AV.i .i64) 4 Q K)
variable{s0:BS}{c1:Int}
variable(H0:U 0=.s s0)(H1:U 1=.i .u8 c1)
include hQ H0 H1 in
theorem Wac(h:DG PG K s0 c1):W PG d b47 U st Q:=
 au trivial
def p47(hf:PG.fn 47=some rA)(h:DG PG K s0 c1):∃x0:Int,K x0/\Ze PG 47 [.s s0,.i .u8 c1] (.i .i64 x0):=
 P1 hf J<|Wac (h1 J fun _=>J) J J h
end
abbrev b11:AC:= (sR 0 [oC 2<|.s [],oI 3 0]<|.seq (sR 1 [oM 4 0,oH 5 4,oV 6 .gtr 5 400]<|cD 6 (sR 2 [oC 2<|.s [],oI 3 4] .ret) .skip)<|sR 3 [oM 7 0,oO 8<|.call true 30 [(.c<|.sl .full []),(.t 7)],oO 9<|.b2s<|.t 8,oM 2 9,oI 3 0] .ret)
def rB:AF:= { nt:=10,res:=[.tmp 2,.tmp 3],body:=b11 }
section
variable(PG:Zb)(K:BS->Int->Prop)
def C5(s0:BS):Prop:=
  ((s0.length:Int)>400->K ([]:BS) 4)/\(¬((s0.length:Int)>400)->∃c,PuA PG 30 (List.map Yx ([]:BS)) [.s s0] (List.map Yx c)/\K c 0)
end
section
variable{K:BS->Int->Prop}(hQ:H2 AV.s (AV.i .i64) 2 3 Q K)
variable{s0:BS}
variable(H0:U 0=.s s0)
include hQ H0 in
theorem Xyr(h:C5 PG K s0):W PG d b11 U st Q:=
 au trivial
def p11(hf:PG.fn 11=some rB)(h:C5 PG K s0):∃x0:BS,∃x1:Int,K x0 x1/\Ze PG 11 [.s s0] (.tup [.s x0,.i .i64 x1]):=
 P2 hf J<|Xyr (h2 J fun _ _=>J) J h
end
abbrev b15:AC:= (sR 0 [oC 2<|.s []]<|.seq (sR 1 [oM 3 0,oV 4 .lss 3 0]<|cD 4 (sR 2 [oM 5 0,oO 6<|.cvi .u64<|.t 5,oO 7<|.un .neg<|.t 6,oO 8<|.call false 34 [(.t 7),(.c<|.i .u64 10)],oB 9 .add (.c<|.s [45])<|.t 8,oM 2 9] .ret) .skip)<|sR 3 [oM 10 0,oO 11<|.cvi .u64<|.t 10,oO 12<|.call false 34 [(.t 11),(.c<|.i .u64 10)],oM 2 12] .ret)
def rC:AF:= { nt:=13,res:=[.tmp 2],body:=b15 }
section
variable(PG:Zb)(K:BS->Prop)
def DA(n0:Int):Prop:=
  (n0<0->∃c:BS,Ze PG 34 [.i .u64 (IntKind.u64.wrap (0-(IntKind.u64.wrap n0))),.i .u64 10] (.s c)/\([45]:BS).length+c.length<=Yj/\K (([45]:BS)++c))/\(¬(n0<0)->∃e,Ze PG 34 [.i .u64 (IntKind.u64.wrap n0),.i .u64 10] (.s e)/\K e)
end
section
variable{K:BS->Prop}(hQ:H1 AV.s 2 Q K)
variable{n0:Int}
variable(H0:U 0=.i .i64 n0)
include hQ H0 in
theorem Xc5(h:DA PG K n0):W PG d b15 U st Q:=
 au trivial
def p15(hf:PG.fn 15=some rC)(h:DA PG K n0):∃x0:BS,K x0/\Ze PG 15 [.i .i64 n0] (.s x0):=
 P1 hf J<|Xc5 (h1 J fun _=>J) J h
end
abbrev Ysr:AC:= (sR 10 [oM 39 8,oO 40<|.un .neg<|.t 39,oO 41<|.cvi .i64<|.t 40,oM 42 9,oM 2 41,oM 3 42] .ret)
abbrev b21:AC:= (sR 0 [oI 2 0,oI 3 0]<|.seq (sR 1 [oM 10 0,oH 11 10,oV 12 .gtr 11 2000]<|cD 12 (sR 2 [oI 2 0,oI 3 4] .ret) .skip)<|sR 3 [oM 14 0,oO 15<|.call false 36 [(.t 14),(.c<|.s [45])],oM 13 15,oE 16 0 13,oE 17 1 13,oM 4 16,oM 5 17]<|.seq (sR 4 [oM 18 5,oZ 19 18]<|cD 19 (sR 5 [oM 21 0,oO 22<|.call false 37 [(.t 21),(.c<|.i .u64 10),(.c<|.i .u64 9223372036854775807)],oM 20 22,oE 23 0 20,oE 24 1 20,oM 6 23,oM 7 24]<|sR 6 [oM 25 6,oO 26<|.cvi .i64<|.t 25,oM 27 7,oM 2 26,oM 3 27] .ret) .skip)<|sR 7 [oM 29 4,oO 30<|.call false 37 [(.t 29),(.c<|.i .u64 10),(.c<|.i .u64 9223372036854775808)],oM 28 30,oE 31 0 28,oE 32 1 28,oM 8 31,oM 9 32]<|.seq (sR 8 [oM 33 9,oV 34 .eql 33 0,oM 35 34,gT 35<|oM 36 8,gT 35<|oB 37 .eql (.t 36)<|.c<|.i .u64 0,oA 38 35 37]<|cD 38 (.reg 9 [oI 9 12]) .skip) Ysr)
def rD:AF:= { nt:=43,res:=[.tmp 2,.tmp 3],body:=b21 }
def nI(PG:Zb)(K:Int->Int->Prop)(n8 e9:Int):Prop:=
  K (IntKind.i64.wrap (IntKind.u64.wrap (0-n8))) e9
section
variable(PG:Zb)(K:Int->Int->Prop)
def DV(s0:BS):Prop:=
  ((s0.length:Int)>2000->K 0 4)/\(¬((s0.length:Int)>2000)->∃o j,Ze PG 36 [.s s0,.s ([45]:BS)] (.tup [.s o,.b j])/\((!j)=true->∃p k,Ze PG 37 [.s s0,.i .u64 10,.i .u64 9223372036854775807] (.tup [.i .u64 p,.i .i64 k])/\K (IntKind.i64.wrap p) k)/\((!j)=false->∃c e,Ze PG 37 [.s o,.i .u64 10,.i .u64 9223372036854775808] (.tup [.i .u64 c,.i .i64 e])/\(e=0->(c=0->nI PG K c 12)/\(¬(c=0)->nI PG K c e))/\(¬(e=0)->nI PG K c e)))
end
section
variable{K:Int->Int->Prop}(hQ:H2 (AV.i .i64) (AV.i .i64) 2 3 Q K)
variable{n8 e9:Int}{s0:BS}
variable(H8:U 8=.i .u64 n8)(H0:U 0=.s s0)(H9:U 9=.i .i64 e9)
include hQ H8 H9 in
theorem Wbe(h:nI PG K n8 e9):W PG d Ysr U st Q:=
 au trivial
include hQ H0 in
theorem Xoo(h:DV PG K s0):W PG d b21 U st Q:=
 au @Wbe
def p21(hf:PG.fn 21=some rD)(h:DV PG K s0):∃x0:Int,∃x1:Int,K x0 x1/\Ze PG 21 [.s s0] (.tup [.i .i64 x0,.i .i64 x1]):=
 P2 hf J<|Xoo (h2 J fun _ _=>J) J h
end
abbrev b25:AC:= (sR 0 [oC 2<|.s [],oI 3 0]<|.seq (sR 1 [oM 7 0,oH 8 7,oV 9 .gtr 8 2000]<|cD 9 (sR 2 [oC 2<|.s [],oI 3 4] .ret) .skip)<|sR 3 [oM 11 0,oQ 12 39 [11],oM 10 12,oE 13 0 10,oE 14 1 10,oE 15 2 10,oM 4 13,oM 5 14,oM 6 15]<|.seq (.block 0<|sR 4 [oM 17 6,oZ 18 17,oM 19 18,gF 19<|oM 20 5,gF 19<|oB 21 .neq (.t 20)<|.c<|.s [],oR 22 19 21,oM 16 22]<|cD 16 (sR 5 [oC 2<|.s [],oI 3 12] .ret)<|sR 6 [oM 24 4,oH 25 24,oV 26 .gtr 25 400,oM 23 26]<|cD 23 (sR 7 [oC 2<|.s [],oI 3 4] .ret) .skip)<|sR 8 [oM 27 4,oM 2 27,oI 3 0] .ret)
def rE:AF:= { nt:=28,res:=[.tmp 2,.tmp 3],body:=b25 }
section
variable(PG:Zb)(K:BS->Int->Prop)
def EB(s0:BS):Prop:=
  ((s0.length:Int)>2000->K ([]:BS) 4)/\(¬((s0.length:Int)>2000)->∃c:BS,∃i e,Ze PG 39 [.s s0] (.tup [.s c,.s i,.b e])/\((!e)=true->K ([]:BS) 12)/\((!e)=false->(i≠([]:BS)->K ([]:BS) 12)/\(¬(i≠([]:BS))->((c.length:Int)>400->K ([]:BS) 4)/\(¬((c.length:Int)>400)->K c 0))))
end
section
variable{K:BS->Int->Prop}(hQ:H2 AV.s (AV.i .i64) 2 3 Q K)
variable{s0:BS}
variable(H0:U 0=.s s0)
include hQ H0 in
theorem Ywm(h:EB PG K s0):W PG d b25 U st Q:=
 au trivial
def p25(hf:PG.fn 25=some rE)(h:EB PG K s0):∃x0:BS,∃x1:Int,K x0 x1/\Ze PG 25 [.s s0] (.tup [.s x0,.i .i64 x1]):=
 P2 hf J<|Ywm (h2 J fun _ _=>J) J h
end
abbrev Yg7:AC:= (.reg 13 [oV 55 .add 12 1,oM 12 55])
abbrev p6:AC:= (sR 3 [oT 13 .lss 12 11]<|.seq (cD 13 .skip<|.exit 0)<|.seq (.block 1<|sR 4 [oM 14 12,oM 5 14]<|sR 5 [oM 15 1,oM 16 5,oO 17<|.ixS (.t 15)<|.t 16,oM 6 17]<|.block 2<|sR 7 [oM 23 6,oW 24 .eql 23 34,oM 25 24,gF 25<|oM 26 6,gF 25<|oW 27 .eql 26 92,oR 28 25 27,oM 22 28]<|cD 22 (.reg 8 [oM 29 0,oM 30 6,oO 31<|.bslice [z8] 2 [(0,(.c<|.i .u8 92)),(1,(.t 30))],oO 32<|.app 1 1 (.t 29)<|.t 31,oM 0 32])<|sR 9 [oM 34 6,oW 35 .eql 34 10,oM 33 35]<|cD 33 (.reg 10 [oM 36 0,oO 37<|.bslice [z8] 2 [(0,(.c<|.i .u8 92)),(1,(.c<|.i .u8 110))],oO 38<|.app 1 1 (.t 36)<|.t 37,oM 0 38])<|sR 11 [oM 40 6,oW 41 .lss 40 32,oM 42 41,gF 42<|oM 43 6,gF 42<|oW 44 .gtr 43 126,oR 45 42 44,oM 39 45]<|cD 39 (.reg 12 [oM 46 0,oM 47 6,oB 48 .shr (.t 47)<|.c<|.i .u64 4,oO 49<|.ixS (.c<|.s gM)<|.t 48,oM 50 6,oW 51 .and 50 15,oO 52<|.ixS (.c<|.s gM)<|.t 51,oO 53<|.bslice [z8] 4 [(0,(.c<|.i .u8 92)),(1,(.c<|.i .u8 120)),(2,(.t 49)),(3,(.t 52))],oO 54<|.app 1 1 (.t 46)<|.t 53,oM 0 54])<|.reg 6 [oM 18 0,oM 19 6,oO 20<|.bslice [z8] 1 [(0,(.t 19))],oO 21<|.app 1 1 (.t 18)<|.t 20,oM 0 21]) Yg7)
abbrev Ik:AC:= (sR 14 [oM 56 0,oO 57<|.bslice [z8] 1 [(0,(.c<|.i .u8 34))],oO 58<|.app 1 1 (.t 56)<|.t 57,oM 4 58] .ret)
abbrev Ytm:AC:= (sR 1 [oM 7 0,oO 8<|.bslice [z8] 1 [(0,(.c<|.i .u8 34))],oO 9<|.app 1 1 (.t 7)<|.t 8,oM 0 9]<|.seq (sR 2 [oM 10 1,oH 11 10,oI 12 0]<|.block 0<|.loop p6) Ik)
abbrev b30:AC:= (sR 0 [oC 4<|.sl .full []] Ytm)
def nA:AF:= { nt:=59,res:=[.tmp 4],body:=b30 }
abbrev H30(Q:Q0)(K:BS->Prop):Prop:=∀(U:Sl)(st:St)(o0:Zr)(x0:BS),U 4=.sl o0 (List.map Yx x0)->Kl st.ow o0 x0.length->K x0->Q .ret U st
abbrev Ysu(PG:Zb)(d:Nat)(Q:Q0)(s1:BS)(t11:Int)(b0:BS)(t12:Int):Prop:=
  ∀(U:Sl)(st:St)(kt:Zr),U 0=.sl kt (List.map Yx b0)->U 1=.s s1->U 11=.i .i64 t11->U 12=.i .i64 t12->Kl st.ow kt b0.length->W PG d (.loop p6) U st (Zs 0 (Zk PG d Ik Q))
def Tw(PG:Zb)(K:BS->Prop)(P0:BS->Int->Prop)(b0 s1:BS)(t11 t12:Int):Prop:=
  P0 b0 (IntKind.i64.wrap (t12+1))
def C4(PG:Zb)(K:BS->Prop)(b0:BS):Prop:=
  Ju (b0.length+[(34:UInt8)].length) 1/\K (b0++[(34:UInt8)])
section
variable(PG:Zb)(K:BS->Prop)
def rU(P0:BS->Int->Prop)(b0 s1:BS)(t11 t12:Int):Prop:=
  (t12<t11->0<=t12/\∃c:UInt8,s1[(t12).toNat]?=some c/\((c.toNat:Int)=34->Ju (b0.length+[(92:UInt8),c].length) 1/\Tw PG K P0 (b0++[(92:UInt8),c]) s1 t11 t12)/\(¬((c.toNat:Int)=34)->((c.toNat:Int)=92->Ju (b0.length+[(92:UInt8),c].length) 1/\Tw PG K P0 (b0++[(92:UInt8),c]) s1 t11 t12)/\(¬((c.toNat:Int)=92)->((c.toNat:Int)=10->Ju (b0.length+[(92:UInt8),(110:UInt8)].length) 1/\Tw PG K P0 (b0++[(92:UInt8),(110:UInt8)]) s1 t11 t12)/\(¬((c.toNat:Int)=10)->((c.toNat:Int)<32->0<=(nG .u8 (c.toNat:Int) 4)/\∃j,([48,49,50,51,52,53,54,55,56,57,97,98,99,100,101,102]:BS)[(nG .u8 (c.toNat:Int) 4).toNat]?=some j/\0<=(Ho .u8 (c.toNat:Int) 15)/\∃i,([48,49,50,51,52,53,54,55,56,57,97,98,99,100,101,102]:BS)[(Ho .u8 (c.toNat:Int) 15).toNat]?=some i/\Ju (b0.length+[(92:UInt8),(120:UInt8),j,i].length) 1/\Tw PG K P0 (b0++[(92:UInt8),(120:UInt8),j,i]) s1 t11 t12)/\(¬((c.toNat:Int)<32)->((c.toNat:Int)>126->0<=(nG .u8 (c.toNat:Int) 4)/\∃k,([48,49,50,51,52,53,54,55,56,57,97,98,99,100,101,102]:BS)[(nG .u8 (c.toNat:Int) 4).toNat]?=some k/\0<=(Ho .u8 (c.toNat:Int) 15)/\∃e,([48,49,50,51,52,53,54,55,56,57,97,98,99,100,101,102]:BS)[(Ho .u8 (c.toNat:Int) 15).toNat]?=some e/\Ju (b0.length+[(92:UInt8),(120:UInt8),k,e].length) 1/\Tw PG K P0 (b0++[(92:UInt8),(120:UInt8),k,e]) s1 t11 t12)/\(¬((c.toNat:Int)>126)->Ju (b0.length+[c].length) 1/\Tw PG K P0 (b0++[c]) s1 t11 t12))))))/\(¬(t12<t11)->C4 PG K b0)
def C3(b0 s1:BS):Prop:=
  Ju (b0.length+[(34:UInt8)].length) 1/\∀P0:BS->Int->Prop,(∀(b0:BS)(t12:Int),rU PG K P0 b0 s1 (s1.length:Int) t12->P0 b0 t12)->P0 (b0++[(34:UInt8)]) 0
def C2(b0 s1:BS):Prop:=
  C3 PG K b0 s1
end
section
variable{K:BS->Prop}(hQ:H30 Q K)
variable{b0 s1:BS}{t11 t12:Int}{P0:BS->Int->Prop}{kt:Zr}
variable(aD :∀(b0:BS)(t12:Int),P0 b0 t12->Ysu PG d Q s1 t11 b0 t12)(H0:U 0=.sl kt (List.map Yx b0))(H1:U 1=.s s1)(H11:U 11=.i .i64 t11)(bT:U 12=.i .i64 t12)(A0:Kl st.ow kt b0.length)
include hQ aD H0 H1 H11 bT A0 in
theorem Ey(h:Tw PG K P0 b0 s1 t11 t12):W PG d Yg7 U st (Zk PG d (.loop p6) (Zs 0 (Zk PG d Ik Q))):=
 au trivial
def Xha(h:C4 PG K b0):W PG d Ik U st Q:=
 q_ J<|Yf H0<|Wr (f:=Yx) (l:=[(34:UInt8)]) J J (Yl J J J Wi) J<|Jq Sr J J J A0 h.1 J<|fun _ _ c _ _=>Yf J<|Zu<|hQ _ _ _ _ J c h.2
def Wag(h:rU PG K P0 b0 s1 t11 t12):W PG d p6 U st (Zk PG d (.loop p6) (Zs 0 (Zk PG d Ik Q))):=
 q_ J<|b_ bT H11 Wp<|e_<|Zl<|Yi J (fun p=>Ya<|Zl<|Yg<|q_ J<|m_<|m_<|e_<|q_ J<|m_<|m_<|(h.1 p).2.elim fun q c=>Qj H1 bT (h.1 p).1 c.1<|m_<|e_<|Yg<|q_ J<|Wc J<|b_ J J Xf<|Yt J<|Xe (g:=25) J (fun e=>z_ 4 J<|e_<|Xh J<|W.reg0 J fun _ _=>Yf H0<|m_<|Wr (f:=Yx) (l:=[(92:UInt8),q]) J J (Yl J J J<|Yl J J J Wi) J<|Jq Sr J J J A0 (c.2.1 e).1 J<|fun _ _ a1 _ _=>Yf J<|e_<|Ey hQ aD J H1 H11 bT a1 (c.2.1 e).2)<|fun e=>Zg J<|Wc J<|Zg J<|b_ J J Xf<|z_ 2 J<|e_<|Yi J (fun i=>W.reg0 J fun _ _=>Yf H0<|m_<|Wr (f:=Yx) (l:=[(92:UInt8),q]) J J (Yl J J J<|Yl J J J Wi) J<|Jq Sr J J J A0 ((c.2.2 e).1 i).1 J<|fun _ _ w _ _=>Yf J<|e_<|Ey hQ aD J H1 H11 bT w ((c.2.2 e).1 i).2)<|fun i=>q_ J<|m_<|b_ J J Xf<|m_<|e_<|Yi J (fun j=>W.reg0 J fun _ _=>Yf H0<|Wr (f:=Yx) (l:=[(92:UInt8),(110:UInt8)]) J J (Yl J J J<|Yl J J J Wi) J<|Jq Sr J J J A0 (((c.2.2 e).2 i).1 j).1 J<|fun _ _ x _ _=>Yf J<|e_<|Ey hQ aD J H1 H11 bT x (((c.2.2 e).2 i).1 j).2)<|fun j=>q_ J<|Wc J<|b_ J J Wp<|Yt J<|Xe (g:=42) J (fun k=>z_ 4 J<|e_<|Xh J<|W.reg0 J fun _ _=>Yf H0<|m_<|b_ J J (PY<|by decide)<|((((c.2.2 e).2 i).2 j).1 k).2.elim fun a2 r=>Qj J J ((((c.2.2 e).2 i).2 j).1 k).1 r.1<|m_<|b_ J J (rp _ _ _)<|r.2.2.elim fun a3 s=>Qj J J r.2.1 s.1<|Wr (f:=Yx) (l:=[(92:UInt8),(120:UInt8),a2,a3]) J J (Yl J J J<|Yl J J J<|Yl J J J<|Yl J J J Wi) J<|Jq Sr J J J A0 s.2.1 J<|fun _ _ y _ _=>Yf J<|e_<|Ey hQ aD J H1 H11 bT y s.2.2)<|fun k=>Zg J<|Wc J<|Zg J<|b_ J J Jd<|z_ 2 J<|e_<|Yi J (fun o=>W.reg0 J fun _ _=>Yf H0<|m_<|b_ J J (PY<|by decide)<|(((((c.2.2 e).2 i).2 j).2 k).1 o).2.elim fun a4 u=>Qj J J (((((c.2.2 e).2 i).2 j).2 k).1 o).1 u.1<|m_<|b_ J J (rp _ _ _)<|u.2.2.elim fun a5 v=>Qj J J u.2.1 v.1<|Wr (f:=Yx) (l:=[(92:UInt8),(120:UInt8),a4,a5]) J J (Yl J J J<|Yl J J J<|Yl J J J<|Yl J J J Wi) J<|Jq Sr J J J A0 v.2.1 J<|fun _ _ z _ _=>Yf J<|e_<|Ey hQ aD J H1 H11 bT z v.2.2)<|fun o=>W.reg0 J fun _ _=>Yf H0<|m_<|Wr (f:=Yx) (l:=[q]) J J (Yl J J J Wi) J<|Jq Sr J J J A0 (((((c.2.2 e).2 i).2 j).2 k).2 o).1 J<|fun _ _ a0 _ _=>Yf J<|e_<|Ey hQ aD J H1 H11 bT a0 (((((c.2.2 e).2 i).2 j).2 k).2 o).2)<|fun p=>Vg<|Xha hQ H0 A0<|h.2 p
def Xtp(h:C3 PG K b0 s1):W PG d Ytm U st Q:=
 q_ J<|Yf H0<|Wr (f:=Yx) (l:=[(34:UInt8)]) J J (Yl J J J Wi) J<|Jq Sr J J J A0 h.1 J<|fun _ _ c _ _=>Yf J<|e_<|Zl<|q_ J<|m_<|Qb H1<|m_<|e_<|Yg<|h.2 (Ysu PG d Q s1 (s1.length:Int)) (fun _ _ hb _ _ _ H0 H1 H11 bT A0=>W.loop<|Wag hQ (fun _ _ x=>x) H0 H1 H11 bT A0 hb) _ _ _ J H1 J J c
def Xg1(h:C2 PG K b0 s1):W PG d b30 U st Q:=
 q_ J<|Yf (f:=Yx) (l:=[]) J<|e_<|Xtp hQ H0 H1 A0 h
def p30(hf:PG.fn 30=some nA)(h:C2 PG K b0 s1):Lm PG 30 (List.map Yx b0) [.s s1] fun rows=>∃x:BS,K x/\rows=List.map Yx x:=
  Lm.of hf rfl fun d st o ha=>Xg1 (Q:=Ca d _ (Z_ _)) (fun U aA o' x h2 iX hk=>⟨.sl o'<|List.map Yx x,by simp only[nA,Xj,Kq,h2],_,_,rfl,by simpa using iX,⟨_,hk,rfl⟩⟩) rfl rfl (by simpa using ha) h
end
abbrev wF:AC:= (.block 1<|sR 3 [oM 7 6,oV 8 .sub 7 1,oM 6 8]<|sR 4 [oM 9 6,oM 10 0,oM 11 1,oT 12 .rem 10 11,oO 13<|.ixS (.c<|.s gM)<|.t 12,oO 14<|.iaA 64 1 (.t 5)<|.t 9,oS 1 14 13]<|sR 5 [oM 15 0,oM 16 1,oT 17 .quo 15 16,oM 0 17]<|sR 6 [oM 18 0,oB 19 .eql (.t 18)<|.c<|.i .u64 0]<|cD 19 (sR 7 [oM 20 6,oO 21<|.slA 64 1 (.t 5) (some<|.t 20) none,oO 22<|.b2s<|.t 21,oM 4 22] .ret) .skip)
abbrev b34:AC:= (sR 0 [oC 4<|.s []]<|sR 1 [oO 5<|.alloc [z8,z8,z8,z8,z8,z8,z8,z8,z8,z8,z8,z8,z8,z8,z8,z8,z8,z8,z8,z8,z8,z8,z8,z8,z8,z8,z8,z8,z8,z8,z8,z8,z8,z8,z8,z8,z8,z8,z8,z8,z8,z8,z8,z8,z8,z8,z8,z8,z8,z8,z8,z8,z8,z8,z8,z8,z8,z8,z8,z8,z8,z8,z8,z8]]<|sR 2 [oI 6 64]<|.block 0<|.loop wF)
def rF:AF:= { nt:=23,res:=[.tmp 4],body:=b34 }
abbrev Yf0(PG:Zb)(d:Nat)(Q:Q0)(ah n0 dK:Int)(af:List (UInt8)):Prop:=
  ∀(U:Sl)(st:St)(dp:Nat),U 0=.i .u64 n0->U 1=.i .u64 ah->U 5=.p (d,4096) dp 0->U 6=.i .i64 dK->lk st.bx (d,4096)=some (dp,List.map c8 af)->W PG d (.loop wF) U st (Zs 0 Q)
def C7(PG:Zb)(K:BS->Prop)(P0:Int->Int->List (UInt8)->Prop)(n0 ah dK:Int)(af:List (UInt8)):Prop:=
  ah≠0/\0<=((n0:Int).tmod ah)/\∃c,([48,49,50,51,52,53,54,55,56,57,97,98,99,100,101,102]:BS)[((n0:Int).tmod ah).toNat]?=some c/\0<=(IntKind.i64.wrap (dK-1))/\(IntKind.i64.wrap (dK-1)).toNat<64/\(IntKind.i64.wrap (dK-1)).toNat<af.length/\ah≠0/\((IntKind.u64.wrap ((n0:Int).tdiv ah))=0->(af.set ((IntKind.i64.wrap (dK-1)).toNat) c).length=64/\0<=(IntKind.i64.wrap (dK-1))/\(IntKind.i64.wrap (dK-1)).toNat<=64/\K ((af.set ((IntKind.i64.wrap (dK-1)).toNat) c).drop (IntKind.i64.wrap (dK-1)).toNat))/\(¬((IntKind.u64.wrap ((n0:Int).tdiv ah))=0)->P0 (IntKind.u64.wrap ((n0:Int).tdiv ah)) (IntKind.i64.wrap (dK-1)) (af.set ((IntKind.i64.wrap (dK-1)).toNat) c))
section
variable(PG:Zb)(K:BS->Prop)
def C6(n0 ah:Int):Prop:=
  ∀P0:Int->Int->List (UInt8)->Prop,(∀(n0 dK:Int)(af:List (UInt8)),C7 PG K P0 n0 ah dK af->P0 n0 dK af)->P0 n0 64 (List.replicate 64 0)
end
section
variable{K:BS->Prop}(hQ:H1 AV.s 4 Q K)
variable{n0 ah dK:Int}{af:List (UInt8)}{P0:Int->Int->List (UInt8)->Prop}{dp:Nat}
variable(aD :∀(n0 dK:Int)(af:List (UInt8)),P0 n0 dK af->Yf0 PG d Q ah n0 dK af)(H0:U 0=.i .u64 n0)(H1:U 1=.i .u64 ah)(H5:U 5=.p (d,4096) dp 0)(H6:U 6=.i .i64 dK)(bh:lk st.bx (d,4096)=some (dp,List.map c8 af))
def Xts(h:C7 PG K P0 n0 ah dK af):W PG d wF U st (Zk PG d (.loop wF) (Zs 0 Q)):=
 Yg<|q_ J<|m_<|b_ H6 J Ms<|m_<|e_<|q_ J<|m_<|m_<|m_<|b_ H0 H1 (Cg h.1)<|h.2.2.elim fun i c=>Qj J J h.2.1 c.1<|Xw6 H5 J c.2.1 c.2.2.1<|Xnx (f:=c8) (a:=i) Waw J bh J c.2.2.2.1<|e_<|q_ J<|m_<|m_<|b_ H0 H1 (Cs c.2.2.2.2.1)<|m_<|e_<|q_ J<|m_<|b_ J J Xf<|e_<|Yi J (fun e=>q_ J<|m_<|Wa7 H5 Zj (c.2.2.2.2.2.1 e).1 J J (c.2.2.2.2.2.1 e).2.1 (c.2.2.2.2.2.1 e).2.2.1<|Em J<|m_<|Zu<|hQ J (c.2.2.2.2.2.1 e).2.2.2)<|fun e=>Ya<|aD _ _ _ (c.2.2.2.2.2.2 e) _ _ _ J H1 H5 J Zj
def Xcy(h:C6 PG K n0 ah):W PG d b34 U st Q:=
 q_ J<|m_<|e_<|Zl<|W.reg<|Xl<|e_<|q_ J<|m_<|e_<|Yg<|h (Yf0 PG d Q ah) (fun _ _ _ hb _ _ _ H0 H1 H5 H6 bh=>W.loop<|Xts hQ (fun _ _ _ x=>x) H0 H1 H5 H6 bh hb) _ _ _ H0 H1 J J<|show lk _ (d,4096)=some (_,(List.map c8 (List.replicate 64 0):List AV))from Zj
def p34(hf:PG.fn 34=some rF)(h:C6 PG K n0 ah):∃x0:BS,K x0/\Ze PG 34 [.i .u64 n0,.i .u64 ah] (.s x0):=
 P1 hf J<|Xcy (h1 J fun _=>J) J J h
end
abbrev Yk6:AC:= (.reg 11 [oV 53 .add 14 1,oM 14 53])
abbrev Oq:AC:= (sR 3 [oT 15 .lss 14 13]<|.seq (cD 15 .skip<|.exit 0)<|.seq (.block 1<|sR 4 [oM 16 14,oM 10 16]<|sR 5 [oM 17 1,oO 18<|.slS (.c<|.s gM) none<|some<|.t 17,oM 19 0,oM 20 10,oO 21<|.ixS (.t 19)<|.t 20,oQ 22 43 [18,21],oM 11 22]<|.seq (sR 6 [oM 23 11,oV 24 .lss 23 0,oM 25 24,gF 25<|oM 26 10,gF 25<|oV 27 .eql 26 1,gF 25<|oM 28 27,gT 28<|oM 29 0,gT 28<|oO 30<|.ixS (.t 29)<|.c<|.i .i64 0,gT 28<|oW 31 .eql 30 48,gF 25<|oA 32 28 31,oR 33 25 32]<|cD 33 (sR 7 [oC 6<|.i .u64 0,oI 7 12] .ret) .skip)<|sR 8 [oM 34 9,oM 35 34,gF 35<|oM 36 8,gF 35<|oM 37 2,gF 35<|oM 38 11,gF 35<|oO 39<|.cvi .u64<|.t 38,gF 35<|oT 40 .sub 37 39,gF 35<|oM 41 1,gF 35<|oT 42 .quo 40 41,gF 35<|oT 43 .gtr 36 42,oR 44 35 43,oM 9 44]<|sR 9 [oM 45 9,oZ 46 45]<|cD 46 (.reg 10 [oM 47 8,oM 48 1,oT 49 .mul 47 48,oM 50 11,oO 51<|.cvi .u64<|.t 50,oT 52 .add 49 51,oM 8 52]) .skip) Yk6)
abbrev p8:AC:= (.seq (.block 2<|sR 12 [oM 55 0,oB 56 .eql (.t 55)<|.c<|.s [],oM 54 56]<|cD 54 (sR 13 [oC 6<|.i .u64 0,oI 7 12] .ret)<|sR 14 [oM 58 9,oM 57 58]<|cD 57 (sR 15 [oC 6<|.i .u64 0,oI 7 16] .ret) .skip)<|sR 16 [oM 59 8,oM 6 59,oI 7 0] .ret)
abbrev Yqm:AC:= (.seq (sR 2 [oM 12 0,oH 13 12,oI 14 0]<|.block 0<|.loop Oq) p8)
abbrev Yv6:AC:= (sR 1 [oC 8<|.i .u64 0,oC 9<|.b false] Yqm)
abbrev b37:AC:= (sR 0 [oC 6<|.i .u64 0,oI 7 0] Yv6)
def rG:AF:= { nt:=60,res:=[.tmp 6,.tmp 7],body:=b37 }
abbrev Yfu(PG:Zb)(d:Nat)(Q:Q0)(s0:BS)(ah bj t13 n8:Int)(fa:Bool)(t14:Int):Prop:=
  ∀(U:Sl)(st:St),U 0=.s s0->U 1=.i .u64 ah->U 2=.i .u64 bj->U 8=.i .u64 n8->U 9=.b fa->U 13=.i .i64 t13->U 14=.i .i64 t14->W PG d (.loop Oq) U st (Zs 0 (Zk PG d p8 Q))
def Su(PG:Zb)(K:Int->Int->Prop)(P0:Int->Bool->Int->Prop)(s0:BS)(ah bj n8:Int)(fa:Bool)(t13 t14:Int):Prop:=
  P0 n8 fa (IntKind.i64.wrap (t14+1))
def DN(PG:Zb)(K:Int->Int->Prop)(s0:BS)(n8:Int)(fa:Bool):Prop:=
  (s0=([]:BS)->K 0 12)/\(¬(s0=([]:BS))->(fa=true->K 0 16)/\(fa=false->K n8 0))
section
variable(PG:Zb)(K:Int->Int->Prop)
def rW(P0:Int->Bool->Int->Prop)(s0:BS)(ah bj n8:Int)(fa:Bool)(t13 t14:Int):Prop:=
  (t14<t13->0<=ah/\(ah).toNat<=([48,49,50,51,52,53,54,55,56,57,97,98,99,100,101,102]:BS).length/\0<=t14/\∃j:UInt8,s0[(t14).toNat]?=some j/\∃c,Ze PG 43 [.s (([48,49,50,51,52,53,54,55,56,57,97,98,99,100,101,102]:BS).take (ah).toNat),.i .u8 (j.toNat:Int)] (.i .i64 c)/\(c<0->K 0 12)/\(¬(c<0)->(t14=1->∃e:UInt8,s0[0]?=some e/\((e.toNat:Int)=48->K 0 12)/\(¬((e.toNat:Int)=48)->(fa=true->Su PG K P0 s0 ah bj n8 true t13 t14)/\(fa=false->ah≠0/\(¬(n8>(IntKind.u64.wrap (((IntKind.u64.wrap (bj-(IntKind.u64.wrap c))):Int).tdiv ah)))->Su PG K P0 s0 ah bj (IntKind.u64.wrap ((IntKind.u64.wrap (n8*ah))+(IntKind.u64.wrap c))) (decide (n8>(IntKind.u64.wrap (((IntKind.u64.wrap (bj-(IntKind.u64.wrap c))):Int).tdiv ah)))) t13 t14)/\(¬(¬(n8>(IntKind.u64.wrap (((IntKind.u64.wrap (bj-(IntKind.u64.wrap c))):Int).tdiv ah))))->Su PG K P0 s0 ah bj n8 (decide (n8>(IntKind.u64.wrap (((IntKind.u64.wrap (bj-(IntKind.u64.wrap c))):Int).tdiv ah)))) t13 t14))))/\(¬(t14=1)->(fa=true->Su PG K P0 s0 ah bj n8 true t13 t14)/\(fa=false->ah≠0/\(¬(n8>(IntKind.u64.wrap (((IntKind.u64.wrap (bj-(IntKind.u64.wrap c))):Int).tdiv ah)))->Su PG K P0 s0 ah bj (IntKind.u64.wrap ((IntKind.u64.wrap (n8*ah))+(IntKind.u64.wrap c))) (decide (n8>(IntKind.u64.wrap (((IntKind.u64.wrap (bj-(IntKind.u64.wrap c))):Int).tdiv ah)))) t13 t14)/\(¬(¬(n8>(IntKind.u64.wrap (((IntKind.u64.wrap (bj-(IntKind.u64.wrap c))):Int).tdiv ah))))->Su PG K P0 s0 ah bj n8 (decide (n8>(IntKind.u64.wrap (((IntKind.u64.wrap (bj-(IntKind.u64.wrap c))):Int).tdiv ah)))) t13 t14)))))/\(¬(t14<t13)->DN PG K s0 n8 fa)
def DM(s0:BS)(ah bj n8:Int)(fa:Bool):Prop:=
  ∀P0:Int->Bool->Int->Prop,(∀(n8:Int)(fa:Bool)(t14:Int),rW PG K P0 s0 ah bj n8 fa (s0.length:Int) t14->P0 n8 fa t14)->P0 n8 fa 0
def DL(s0:BS)(ah bj:Int):Prop:=
  DM PG K s0 ah bj 0 false
def DK(s0:BS)(ah bj:Int):Prop:=
  DL PG K s0 ah bj
end
section
variable{K:Int->Int->Prop}(hQ:H2 (AV.i .u64) (AV.i .i64) 6 7 Q K)
variable{s0:BS}{ah bj n8:Int}{fa:Bool}{t13 t14:Int}{P0:Int->Bool->Int->Prop}
variable(aD :∀(n8:Int)(fa:Bool)(t14:Int),P0 n8 fa t14->Yfu PG d Q s0 ah bj t13 n8 fa t14)(H0:U 0=.s s0)(H1:U 1=.i .u64 ah)(H2:U 2=.i .u64 bj)(H8:U 8=.i .u64 n8)(H9:U 9=.b fa)(d_:U 13=.i .i64 t13)(eV:U 14=.i .i64 t14)
include hQ aD H0 H1 H2 H8 H9 d_ eV in
theorem Wbp(h:Su PG K P0 s0 ah bj n8 fa t13 t14):W PG d Yk6 U st (Zk PG d (.loop Oq) (Zs 0 (Zk PG d p8 Q))):=
 au trivial
include hQ H0 H8 H9 in
theorem Xrs(h:DN PG K s0 n8 fa):W PG d p8 U st Q:=
 au trivial
include hQ aD H0 H1 H2 H8 H9 d_ eV in
theorem Xgt(h:rW PG K P0 s0 ah bj n8 fa t13 t14):W PG d Oq U st (Zk PG d (.loop Oq) (Zs 0 (Zk PG d p8 Q))):=
 au<|And.intro @Wbp @Xrs
def Xmd(h:DM PG K s0 ah bj n8 fa):W PG d Yqm U st Q:=
 Zl<|q_ J<|m_<|Qb H0<|m_<|e_<|Yg<|h (Yfu PG d Q s0 ah bj (s0.length:Int)) (fun _ _ _ hb _ _ H0 H1 H2 H8 H9 d_ eV=>W.loop<|Xgt hQ (fun _ _ _ x=>x) H0 H1 H2 H8 H9 d_ eV hb) _ _ H0 H1 H2 H8 H9 J J
include hQ H0 H1 H2 in
theorem Yyl(h:DL PG K s0 ah bj):W PG d Yv6 U st Q:=
 au @Xmd
def Yxf(h:DK PG K s0 ah bj):W PG d b37 U st Q:=
 q_ J<|m_<|m_<|e_<|Yyl hQ H0 H1 H2 h
def p37(hf:PG.fn 37=some rG)(h:DK PG K s0 ah bj):∃x0:Int,∃x1:Int,K x0 x1/\Ze PG 37 [.s s0,.i .u64 ah,.i .u64 bj] (.tup [.i .u64 x0,.i .i64 x1]):=
 P2 hf J<|Yxf (h2 J fun _ _=>J) J J J h
end
abbrev Yto:AC:= (.reg 17 [oM 47 7,oM 48 8,oO 49<|.bslice [z8] 1 [(0,(.t 48))],oO 50<|.app 1 1 (.t 47)<|.t 49,oM 7 50])
abbrev p9:AC:= (.seq (sR 5 [oM 17 5,oB 18 .neq (.t 17)<|.c<|.s []]<|cD 18 .skip<|.exit 0)<|.block 1<|sR 6 [oM 19 5,oO 20<|.ixS (.t 19)<|.c<|.i .i64 0,oM 8 20]<|sR 7 [oM 21 5,oO 22<|.slS (.t 21) (some<|.c<|.i .i64 1) none,oM 5 22]<|.seq (.block 2<|sR 8 [oM 24 8,oW 25 .eql 24 34,oM 23 25]<|cD 23 (sR 9 [oM 26 7,oO 27<|.b2s<|.t 26,oM 28 5,oM 2 27,oM 3 28,oC 4<|.b true] .ret)<|sR 10 [oM 30 8,oW 31 .lss 30 32,oM 32 31,gF 32<|oM 33 8,gF 32<|oW 34 .gtr 33 126,oR 35 32 34,oM 29 35]<|cD 29 (sR 11 [oC 2<|.s [],oC 3<|.s [],oC 4<|.b false] .ret)<|sR 12 [oM 37 8,oW 38 .eql 37 92,oM 36 38]<|cD 36 (sR 13 [oC 9<|.b false]<|sR 14 [oM 40 5,oQ 41 45 [40],oM 39 41,oE 42 0 39,oE 43 1 39,oE 44 2 39,oM 8 42,oM 5 43,oM 9 44]<|sR 15 [oM 45 9,oZ 46 45]<|cD 46 (sR 16 [oC 2<|.s [],oC 3<|.s [],oC 4<|.b false] .ret) .skip) .skip) Yto)
abbrev In:AC:= (sR 18 [oC 2<|.s [],oC 3<|.s [],oC 4<|.b false] .ret)
abbrev Yiu:AC:= (sR 1 [oM 11 0,oO 12<|.call false 36 [(.t 11),(.c<|.s [34])],oM 10 12,oE 13 0 10,oE 14 1 10,oM 5 13,oM 6 14]<|.seq (sR 2 [oM 15 6,oZ 16 15]<|cD 16 (sR 3 [oC 2<|.s [],oC 3<|.s [],oC 4<|.b false] .ret) .skip)<|sR 4 [oC 7<|.sl .full []]<|.seq (.block 0<|.loop p9) In)
abbrev b39:AC:= (sR 0 [oC 2<|.s [],oC 3<|.s [],oC 4<|.b false] Yiu)
def nB:AF:= { nt:=51,res:=[.tmp 2,.tmp 3,.tmp 4],body:=b39 }
abbrev Br(Q:Q0)(K:BS->BS->Bool->Prop):Prop:=∀(U:Sl)(st:St)(x0 x1:BS)(x2:Bool),U 2=.s x0->U 3=.s x1->U 4=.b x2->K x0 x1 x2->Q .ret U st
abbrev Yow(PG:Zb)(d:Nat)(Q:Q0)(cl b7:BS):Prop:=
  ∀(U:Sl)(st:St)(ku:Zr),U 5=.s cl->U 7=.sl ku (List.map Yx b7)->Yo d st.ow ku b7.length->W PG d (.loop p9) U st (Zs 0 (Zk PG d In Q))
def nL(PG:Zb)(K:BS->BS->Bool->Prop)(P0:BS->BS->Prop)(cl b7:BS)(c8:Int):Prop:=
  ∃c:UInt8,c8=(c.toNat:Int)/\Ju (b7.length+[c].length) 1/\P0 cl (b7++[c])
def Yhl(PG:Zb)(K:BS->BS->Bool->Prop):Prop:=
  K ([]:BS) ([]:BS) false
section
variable(PG:Zb)(K:BS->BS->Bool->Prop)
def D4(P0:BS->BS->Prop)(cl b7:BS):Prop:=
  (cl≠([]:BS)->∃c:UInt8,cl[0]?=some c/\1<=cl.length/\((c.toNat:Int)=34->K b7 (cl.drop 1) true)/\(¬((c.toNat:Int)=34)->((c.toNat:Int)<32->K ([]:BS) ([]:BS) false)/\(¬((c.toNat:Int)<32)->((c.toNat:Int)>126->K ([]:BS) ([]:BS) false)/\(¬((c.toNat:Int)>126)->((c.toNat:Int)=92->∃k j e,Ze PG 45 [.s (cl.drop 1)] (.tup [.i .u8 k,.s j,.b e])/\((!e)=true->K ([]:BS) ([]:BS) false)/\((!e)=false->nL PG K P0 j b7 k))/\(¬((c.toNat:Int)=92)->nL PG K P0 (cl.drop 1) b7 (c.toNat:Int))))))/\(¬(cl≠([]:BS))->Yhl PG K )
def D3(s0:BS):Prop:=
  ∃e c,Ze PG 36 [.s s0,.s ([34]:BS)] (.tup [.s e,.b c])/\((!c)=true->K ([]:BS) ([]:BS) false)/\((!c)=false->∀P0:BS->BS->Prop,(∀(cl b7:BS),D4 PG K P0 cl b7->P0 cl b7)->P0 e ([]:BS))
def D2(s0:BS):Prop:=
  D3 PG K s0
end
section
variable{K:BS->BS->Bool->Prop}(hQ:Br Q K)
variable{cl b7:BS}{c8:Int}{P0:BS->BS->Prop}{ku:Zr}{s0:BS}
variable(aD :∀(cl b7:BS),P0 cl b7->Yow PG d Q cl b7)(H0:U 0=.s s0)(H5:U 5=.s cl)(H7:U 7=.sl ku (List.map Yx b7))(H8:U 8=.i .u8 c8)(A7:Yo d st.ow ku b7.length)
include hQ aD H5 H7 H8 A7 in
theorem Yuj(h:nL PG K P0 cl b7 c8):W PG d Yto U st (Zs 1 (Zk PG d (.loop p9) (Zs 0 (Zk PG d In Q)))):=
 au trivial
include hQ in
theorem Xpg(h:Yhl PG K):W PG d In U st Q:=
 au trivial
def Xfr(h:D4 PG K P0 cl b7):W PG d p9 U st (Zk PG d (.loop p9) (Zs 0 (Zk PG d In Q))):=
 Zl<|q_ J<|m_<|b_ H5 J Rt<|e_<|Yi J (fun o=>Ya<|Yg<|q_ J<|m_<|(h.1 o).elim fun _ c=>Qj H5 J (by decide) c.1<|m_<|e_<|q_ J<|m_<|Jo H5 J (by decide) c.2.1<|m_<|e_<|Zl<|Yg<|q_ J<|m_<|b_ J J Xf<|m_<|e_<|Yi J (fun e=>q_ J<|Yf H7<|Em J<|m_<|m_<|m_<|m_<|Zu<|hQ _ _ _ _ _ J J J<|c.2.2.1 e)<|fun e=>q_ J<|Wc J<|b_ J J Wp<|Yt J<|Xe (g:=32) J (fun i=>z_ 4 J<|e_<|Xh J<|q_ J<|m_<|m_<|m_<|Zu<|hQ _ _ _ _ _ J J J<|(c.2.2.2 e).1 i)<|fun i=>Zg J<|Wc J<|Zg J<|b_ J J Jd<|z_ 2 J<|e_<|Yi J (fun j=>q_ J<|m_<|m_<|m_<|Zu<|hQ _ _ _ _ _ J J J<|((c.2.2.2 e).2 i).1 j)<|fun j=>q_ J<|m_<|b_ J J Xf<|m_<|e_<|Yi J (fun q=>q_ J<|m_<|e_<|q_ J<|m_<|x2 ((((c.2.2.2 e).2 i).2 j).1 q) fun _ _ r=>r.elim fun _ k=>Yh (Xu J J) k.1<|m_<|x_ J J<|x_ J J<|x_ J J<|m_<|m_<|m_<|e_<|q_ J<|m_<|Wa J<|e_<|Xw J (fun p=>q_ J<|m_<|m_<|m_<|Zu<|hQ _ _ _ _ _ J J J<|k.2.1 p)<|fun p=>Ya<|Yuj hQ aD J H7 J A7<|k.2.2 p)<|fun q=>Ya<|Yuj hQ aD J H7 J A7<|(((c.2.2.2 e).2 i).2 j).2 q)<|fun o=>Vg<|Xpg hQ<|h.2 o
def Xxf(h:D3 PG K s0):W PG d Yiu U st Q:=
 q_ J<|m_<|x2 h fun _ _ c=>Yh (Wk H0 J J) c.1<|m_<|x_ J J<|x_ J J<|m_<|m_<|e_<|Zl<|q_ J<|m_<|Wa J<|e_<|Xw J (fun e=>q_ J<|m_<|m_<|m_<|Zu<|hQ _ _ _ _ _ J J J<|c.2.1 e)<|fun e=>Ya<|q_ J<|Yf (f:=Yx) (l:=[]) J<|e_<|Zl<|Yg<|(c.2.2 e) (Yow PG d Q ) (fun _ _ hb _ _ _ H5 H7 A7=>W.loop<|Xfr hQ (fun _ _ x=>x) H5 H7 A7 hb) _ _ _ J J Yo.full
def Yzs(h:D2 PG K s0):W PG d b39 U st Q:=
 q_ J<|m_<|m_<|m_<|e_<|Xxf hQ H0 h
theorem p39(hf:PG.fn 39=some nB)(h:D2 PG K s0):∃x0:BS,∃x1:BS,∃x2:Bool,K x0 x1 x2/\Ze PG 39 [.s s0] (.tup [.s x0,.s x1,.b x2]):=by
  obtain⟨v,hv,x0,x1,x2,hk,rfl⟩:=Ze.of (K:=fun v=>∃x0:BS,∃x1:BS,∃x2:Bool,K x0 x1 x2/\v=.tup [.s x0,.s x1,.b x2]) hf rfl (Yzs (U:=Wg [.s s0]) (fun U st   x0 x1 x2 H2 H3 H4 hk=>⟨.tup [.s x0,.s x1,.b x2],by simp only[nB,Xj,Wz,H2,H3,H4,Kq,kK],_,rfl,x0,x1,x2,hk,rfl⟩) rfl h)
  exact⟨x0,x1,x2,hk,hv⟩
end
def QG:List AI:=[oU 2 0,oC 3 (.s []),oC 4 (.b false)]
abbrev Yey:AC:= (cD 12 (sR 6 [oM 15 0,oO 16<|.ixS (.t 15)<|.c<|.i .i64 0,oM 17 0,oO 18<|.slS (.t 17) (some<|.c<|.i .i64 1) none,oM 2 16,oM 3 18,oC 4<|.b true] .ret)<|sR 7 [oW 20 .eql 11 110,oM 19 20]<|cD 19 (sR 8 [oM 21 0,oO 22<|.slS (.t 21) (some<|.c<|.i .i64 1) none,oU 2 10,oM 3 22,oC 4<|.b true] .ret)<|sR 9 [oW 24 .eql 11 120,oM 23 24]<|cD 23 (.seq (sR 10 [oM 25 0,oH 26 25,oV 27 .lss 26 3]<|cD 27 (sR 11 [oU 2 0,oC 3<|.s [],oC 4<|.b false] .ret) .skip)<|sR 12 [oM 28 0,oO 29<|.ixS (.t 28)<|.c<|.i .i64 1,oO 30<|.call false 43 [(.c<|.s gM),(.t 29)],oM 31 0,oO 32<|.ixS (.t 31)<|.c<|.i .i64 2,oO 33<|.call false 43 [(.c<|.s gM),(.t 32)],oM 5 30,oM 6 33]<|sR 13 [oM 34 5,oB 35 .mul (.c<|.i .i64 16)<|.t 34,oM 36 6,oT 37 .add 35 36,oO 38<|.cvi .u8<|.t 37,oM 7 38]<|sR 14 [oM 39 7,oM 40 0,oO 41<|.slS (.t 40) (some<|.c<|.i .i64 3) none,oM 42 5,oV 43 .geq 42 0,oM 44 43,gT 44<|oM 45 6,gT 44<|oV 46 .geq 45 0,oA 47 44 46,oM 48 47,gT 48<|oM 49 7,gT 48<|oW 50 .neq 49 10,oA 51 48 50,oM 52 51,gT 52<|oM 53 7,gT 52<|oW 54 .lss 53 32,gT 52<|oM 55 54,gF 55<|oM 56 7,gF 55<|oW 57 .gtr 56 126,gT 52<|oR 58 55 57,oA 59 52 58,oM 2 39,oM 3 41,oM 4 59] .ret) .skip)
abbrev Yqp:AC:= (.block 0<|.seq (sR 4 [oW 13 .eql 11 34,oM 12 13]<|cD 12 .skip<|.reg 5 [oW 14 .eql 11 92,oM 12 14]) Yey)
abbrev Yno:AC:= (.seq (sR 3 [oM 10 0,oO 11<|.ixS (.t 10)<|.c<|.i .i64 0] Yqp)<|sR 15 QG .ret)
abbrev Yij:AC:= (.seq (sR 1 [oM 8 0,oB 9 .eql (.t 8)<|.c<|.s []]<|cD 9 (sR 2 [oU 2 0,oC 3<|.s [],oC 4<|.b false] .ret) .skip) Yno)
abbrev b45:AC:= (sR 0 [oU 2 0,oC 3<|.s [],oC 4<|.b false] Yij)
def nC:AF:= { nt:=60,res:=[.tmp 2,.tmp 3,.tmp 4],body:=b45 }
abbrev Hk(Q:Q0)(K:Int->BS->Bool->Prop):Prop:=∀(U:Sl)(st:St)(x0:Int)(x1:BS)(x2:Bool),U 2=.i .u8 x0->U 3=.s x1->U 4=.b x2->K x0 x1 x2->Q .ret U st
section
variable(PG:Zb)(K:Int->BS->Bool->Prop)
def nK(s0:BS)(t11:Int)(t12:Bool):Prop:=
  (t12=true->∃k:UInt8,s0[0]?=some k/\1<=s0.length/\K (k.toNat:Int) (s0.drop 1) true)/\(t12=false->(t11=110->1<=s0.length/\K 10 (s0.drop 1) true)/\(¬(t11=110)->(t11=120->((s0.length:Int)<3->K 0 ([]:BS) false)/\(¬((s0.length:Int)<3)->∃o:UInt8,s0[1]?=some o/\∃e,Ze PG 43 [.s ([48,49,50,51,52,53,54,55,56,57,97,98,99,100,101,102]:BS),.i .u8 (o.toNat:Int)] (.i .i64 e)/\∃j:UInt8,s0[2]?=some j/\∃c,Ze PG 43 [.s ([48,49,50,51,52,53,54,55,56,57,97,98,99,100,101,102]:BS),.i .u8 (j.toNat:Int)] (.i .i64 c)/\3<=s0.length/\(e>=0->(c>=0->((IntKind.u8.wrap (IntKind.i64.wrap ((IntKind.i64.wrap (16*e))+c)))≠10->((IntKind.u8.wrap (IntKind.i64.wrap ((IntKind.i64.wrap (16*e))+c)))<32->K (IntKind.u8.wrap (IntKind.i64.wrap ((IntKind.i64.wrap (16*e))+c))) (s0.drop 3) true)/\(¬((IntKind.u8.wrap (IntKind.i64.wrap ((IntKind.i64.wrap (16*e))+c)))<32)->K (IntKind.u8.wrap (IntKind.i64.wrap ((IntKind.i64.wrap (16*e))+c))) (s0.drop 3) (decide ((IntKind.u8.wrap (IntKind.i64.wrap ((IntKind.i64.wrap (16*e))+c)))>126))))/\(¬((IntKind.u8.wrap (IntKind.i64.wrap ((IntKind.i64.wrap (16*e))+c)))≠10)->K (IntKind.u8.wrap (IntKind.i64.wrap ((IntKind.i64.wrap (16*e))+c))) (s0.drop 3) false))/\(¬(c>=0)->K (IntKind.u8.wrap (IntKind.i64.wrap ((IntKind.i64.wrap (16*e))+c))) (s0.drop 3) false))/\(¬(e>=0)->K (IntKind.u8.wrap (IntKind.i64.wrap ((IntKind.i64.wrap (16*e))+c))) (s0.drop 3) false)))/\(¬(t11=120)->K 0 ([]:BS) false)))
def D1(s0:BS)(t11:Int):Prop:=
  (t11=34->nK PG K s0 t11 (decide (t11=34)))/\(¬(t11=34)->nK PG K s0 t11 (decide (t11=92)))
def D0(s0:BS):Prop:=
  ∃c:UInt8,s0[0]?=some c/\D1 PG K s0 (c.toNat:Int)
def DZ(s0:BS):Prop:=
  (s0=([]:BS)->K 0 ([]:BS) false)/\(¬(s0=([]:BS))->D0 PG K s0)
def DY(s0:BS):Prop:=
  DZ PG K s0
end
section
variable{K:Int->BS->Bool->Prop}(hQ:Hk Q K)
variable{s0:BS}{t11:Int}{t12:Bool}
variable(H0:U 0=.s s0)(H11:U 11=.i .u8 t11)(bT:U 12=.b t12)
include hQ H0 H11 bT in
theorem Xqe(h:nK PG K s0 t11 t12):W PG d Yey U st (Zs 0 (Zk PG d (sR 15 QG .ret) Q)):=
 au trivial
include hQ H0 H11 in
theorem Wde(h:D1 PG K s0 t11):W PG d Yqp U st (Zk PG d (sR 15 QG .ret) Q):=
 au @Xqe
include hQ H0 in
theorem Wb0(h:D0 PG K s0):W PG d Yno U st Q:=
 au @Wde
include hQ H0 in
theorem Xxh(h:DZ PG K s0):W PG d Yij U st Q:=
 au @Wb0
include hQ H0 in
theorem Xkd(h:DY PG K s0):W PG d b45 U st Q:=
 au @Xxh
theorem p45(hf:PG.fn 45=some nC)(h:DY PG K s0):∃x0:Int,∃x1:BS,∃x2:Bool,K x0 x1 x2/\Ze PG 45 [.s s0] (.tup [.i .u8 x0,.s x1,.b x2]):=by
  obtain⟨v,hv,x0,x1,x2,hk,rfl⟩:=Ze.of (K:=fun v=>∃x0:Int,∃x1:BS,∃x2:Bool,K x0 x1 x2/\v=.tup [.i .u8 x0,.s x1,.b x2]) hf rfl (Xkd (U:=Wg [.s s0]) (fun U st   x0 x1 x2 H2 H3 H4 hk=>⟨.tup [.i .u8 x0,.s x1,.b x2],by simp only[nC,Xj,Wz,H2,H3,H4,Kq,kK],_,rfl,x0,x1,x2,hk,rfl⟩) rfl h)
  exact⟨x0,x1,x2,hk,hv⟩
end
end Go.AM

namespace Go.AM
open Go
set_option maxRecDepth 4000
set_option maxHeartbeats 2000000
attribute [local irreducible] Decidable.decide W WO Ve Vd
variable{PG:Zb}{d:Nat}{Q:Q0}{U:Sl}{st:St}
abbrev b16:AC:= (sR 0 [oC 2<|.s []]<|.seq (sR 1 [oM 3 0,oV 4 .geq 3 0]<|cD 4 (sR 2 [oM 5 0,oO 6<|.cvi .u64<|.t 5,oO 7<|.call false 35 [(.t 6),(.c<|.i .u64 10)],oM 2 7] .ret) .skip)<|sR 3 [oM 8 0,oV 9 .add 8 1,oO 10<|.un .neg<|.t 9,oO 11<|.cvi .u64<|.t 10,oB 12 .add (.t 11)<|.c<|.i .u64 1,oO 13<|.call false 35 [(.t 12),(.c<|.i .u64 10)],oB 14 .add (.c<|.s [45])<|.t 13,oM 2 14] .ret)
def rH:AF:= { nt:=15,res:=[.tmp 2],body:=b16 }
section
variable(PG:Zb)(K:BS->Prop)
def DB(n0:Int):Prop:=
  (n0>=0->∃e,Ze PG 35 [.i .u64 (IntKind.u64.wrap n0),.i .u64 10] (.s e)/\K e)/\(¬(n0>=0)->∃c:BS,Ze PG 35 [.i .u64 (IntKind.u64.wrap ((IntKind.u64.wrap (IntKind.i64.wrap (0-(IntKind.i64.wrap (n0+1)))))+1)),.i .u64 10] (.s c)/\([45]:BS).length+c.length<=Yj/\K (([45]:BS)++c))
end
section
variable{K:BS->Prop}(hQ:H1 AV.s 2 Q K)
variable{n0:Int}
variable(H0:U 0=.i .i64 n0)
include hQ H0 in
theorem Xnp(h:DB PG K n0):W PG d b16 U st Q:=
 au trivial
def p16(hf:PG.fn 16=some rH)(h:DB PG K n0):∃x0:BS,K x0/\Ze PG 16 [.i .i64 n0] (.s x0):=
 P1 hf J<|Xnp (h1 J fun _=>J) J h
end
abbrev b22:AC:= (sR 0 [oI 2 0,oI 3 0]<|.seq (sR 1 [oM 8 0,oH 9 8,oV 10 .gtr 9 2000]<|cD 10 (sR 2 [oI 2 0,oI 3 4] .ret) .skip)<|.seq (sR 3 [oM 11 0,oH 12 11,oV 13 .gtr 12 0,oM 14 13,gT 14<|oM 15 0,gT 14<|oO 16<|.ixS (.t 15)<|.c<|.i .i64 0,gT 14<|oW 17 .eql 16 45,oA 18 14 17]<|cD 18 (.seq (sR 4 [oM 19 0,oB 20 .eql (.t 19)<|.c<|.s [45,48]]<|cD 20 (sR 5 [oI 2 0,oI 3 12] .ret) .skip)<|sR 6 [oM 22 0,oO 23<|.slS (.t 22) (some<|.c<|.i .i64 1) none,oO 24<|.call false 38 [(.t 23),(.c<|.i .u64 10),(.c<|.i .u64 9223372036854775808)],oM 21 24,oE 25 0 21,oE 26 1 21,oM 4 25,oM 5 26]<|.seq (sR 7 [oM 27 5,oV 28 .neq 27 0]<|cD 28 (sR 8 [oM 29 5,oI 2 0,oM 3 29] .ret) .skip)<|sR 9 [oM 30 4,oB 31 .sub (.t 30)<|.c<|.i .u64 1,oO 32<|.cvi .i64<|.t 31,oO 33<|.un .neg<|.t 32,oV 34 .sub 33 1,oM 2 34,oI 3 0] .ret) .skip)<|sR 10 [oM 36 0,oO 37<|.call false 38 [(.t 36),(.c<|.i .u64 10),(.c<|.i .u64 9223372036854775807)],oM 35 37,oE 38 0 35,oE 39 1 35,oM 6 38,oM 7 39]<|.seq (sR 11 [oM 40 7,oV 41 .neq 40 0]<|cD 41 (sR 12 [oM 42 7,oI 2 0,oM 3 42] .ret) .skip)<|sR 13 [oM 43 6,oO 44<|.cvi .i64<|.t 43,oM 2 44,oI 3 0] .ret)
def rI:AF:= { nt:=45,res:=[.tmp 2,.tmp 3],body:=b22 }
section
variable(PG:Zb)(K:Int->Int->Prop)
def DX(s0:BS):Prop:=
  ((s0.length:Int)>2000->K 0 4)/\(¬((s0.length:Int)>2000)->((s0.length:Int)>0->∃k:UInt8,s0[0]?=some k/\((k.toNat:Int)=45->(s0=([45,48]:BS)->K 0 12)/\(¬(s0=([45,48]:BS))->1<=s0.length/\∃o e,Ze PG 38 [.s (s0.drop 1),.i .u64 10,.i .u64 9223372036854775808] (.tup [.i .u64 o,.i .i64 e])/\(e≠0->K 0 e)/\(¬(e≠0)->K (IntKind.i64.wrap ((IntKind.i64.wrap (0-(IntKind.i64.wrap (IntKind.u64.wrap (o-1)))))-1)) 0)))/\(¬((k.toNat:Int)=45)->∃q c,Ze PG 38 [.s s0,.i .u64 10,.i .u64 9223372036854775807] (.tup [.i .u64 q,.i .i64 c])/\(c≠0->K 0 c)/\(¬(c≠0)->K (IntKind.i64.wrap q) 0)))/\(¬((s0.length:Int)>0)->∃p j,Ze PG 38 [.s s0,.i .u64 10,.i .u64 9223372036854775807] (.tup [.i .u64 p,.i .i64 j])/\(j≠0->K 0 j)/\(¬(j≠0)->K (IntKind.i64.wrap p) 0)))
end
section
variable{K:Int->Int->Prop}(hQ:H2 (AV.i .i64) (AV.i .i64) 2 3 Q K)
variable{s0:BS}
variable(H0:U 0=.s s0)
include hQ H0 in
theorem Xvn(h:DX PG K s0):W PG d b22 U st Q:=
 au trivial
def p22(hf:PG.fn 22=some rI)(h:DX PG K s0):∃x0:Int,∃x1:Int,K x0 x1/\Ze PG 22 [.s s0] (.tup [.i .i64 x0,.i .i64 x1]):=
 P2 hf J<|Xvn (h2 J fun _ _=>J) J h
end
abbrev b26:AC:= (sR 0 [oC 2<|.s [],oI 3 0]<|.seq (sR 1 [oM 7 0,oH 8 7,oV 9 .gtr 8 2000]<|cD 9 (sR 2 [oC 2<|.s [],oI 3 4] .ret) .skip)<|sR 3 [oM 11 0,oQ 12 40 [11],oM 10 12,oE 13 0 10,oE 14 1 10,oE 15 2 10,oM 4 13,oM 5 14,oM 6 15]<|.seq (sR 4 [oM 16 6,oZ 17 16,oM 18 17,gF 18<|oM 19 5,gF 18<|oB 20 .neq (.t 19)<|.c<|.s [],oR 21 18 20]<|cD 21 (sR 5 [oC 2<|.s [],oI 3 12] .ret) .skip)<|.seq (sR 6 [oM 22 4,oH 23 22,oV 24 .gtr 23 400]<|cD 24 (sR 7 [oC 2<|.s [],oI 3 4] .ret) .skip)<|sR 8 [oM 25 4,oM 2 25,oI 3 0] .ret)
def rJ:AF:= { nt:=26,res:=[.tmp 2,.tmp 3],body:=b26 }
section
variable(PG:Zb)(K:BS->Int->Prop)
def EC(s0:BS):Prop:=
  ((s0.length:Int)>2000->K ([]:BS) 4)/\(¬((s0.length:Int)>2000)->∃c:BS,∃i e,Ze PG 40 [.s s0] (.tup [.s c,.s i,.b e])/\((!e)=true->K ([]:BS) 12)/\((!e)=false->(i≠([]:BS)->K ([]:BS) 12)/\(¬(i≠([]:BS))->((c.length:Int)>400->K ([]:BS) 4)/\(¬((c.length:Int)>400)->K c 0))))
end
section
variable{K:BS->Int->Prop}(hQ:H2 AV.s (AV.i .i64) 2 3 Q K)
variable{s0:BS}
variable(H0:U 0=.s s0)
include hQ H0 in
theorem Xfd(h:EC PG K s0):W PG d b26 U st Q:=
 au trivial
def p26(hf:PG.fn 26=some rJ)(h:EC PG K s0):∃x0:BS,∃x1:Int,K x0 x1/\Ze PG 26 [.s s0] (.tup [.s x0,.i .i64 x1]):=
 P2 hf J<|Xfd (h2 J fun _ _=>J) J h
end
abbrev wG:AC:= (.seq (sR 4 [oM 11 5,oM 12 0,oJ 13 12,oT 14 .lss 11 13]<|cD 14 .skip<|.exit 0)<|.seq (.block 1<|sR 6 [oM 17 0,oM 18 5,oX 19 1 17 18,oL 20 19,oM 21 1,oM 22 5,oX 23 1 21 22,oL 24 23,oT 25 .neq 20 24]<|cD 25 (sR 7 [oC 4<|.b false] .ret) .skip)<|.reg 5 [oM 15 5,oV 16 .add 15 1,oM 5 16])
abbrev wH:AC:= (sR 8 [oC 4<|.b true] .ret)
abbrev b29:AC:= (sR 0 [oC 4<|.b false]<|.seq (sR 1 [oM 6 0,oJ 7 6,oM 8 1,oJ 9 8,oT 10 .neq 7 9]<|cD 10 (sR 2 [oC 4<|.b false] .ret) .skip)<|.seq (sR 3 [oI 5 0]<|.block 0<|.loop wG) wH)
def rK:AF:= { nt:=26,res:=[.tmp 4],body:=b29 }
abbrev Yoq(PG:Zb)(d:Nat)(Q:Q0)(a0 b1:LB)(i5:Int):Prop:=
  ∀(U:Sl)(st:St)(jb jc:Zr),U 0=.sl jb (List.map Zv a0)->U 1=.sl jc (List.map Zv b1)->U 5=.i .i64 i5->W PG d (.loop wG) U st (Zs 0 (Zk PG d wH Q))
def EE(PG:Zb)(K:Bool->Prop):Prop:=
  K true
section
variable(PG:Zb)(K:Bool->Prop)
def r3(P0:Int->Prop)(a0 b1:LB)(i5:Int):Prop:=
  (i5<(a0.length:Int)->0<=i5/\∃e,a0[(i5).toNat]?=some e/\0<=i5/\∃c,b1[(i5).toNat]?=some c/\(e≠c->K false)/\(¬(e≠c)->P0 (IntKind.i64.wrap (i5+1))))/\(¬(i5<(a0.length:Int))->EE PG K )
def ED(a0 b1:LB):Prop:=
  ((a0.length:Int)≠(b1.length:Int)->K false)/\(¬((a0.length:Int)≠(b1.length:Int))->∀P0:Int->Prop,(∀(i5:Int),r3 PG K P0 a0 b1 i5->P0 i5)->P0 0)
end
section
variable{K:Bool->Prop}(hQ:H1 AV.b 4 Q K)
variable{a0 b1:LB}{i5:Int}{P0:Int->Prop}{jb jc:Zr}
variable(aD :∀(i5:Int),P0 i5->Yoq PG d Q a0 b1 i5)(H0:U 0=.sl jb (List.map Zv a0))(H1:U 1=.sl jc (List.map Zv b1))(H5:U 5=.i .i64 i5)
include hQ in
theorem Xnz(h:EE PG K):W PG d wH U st Q:=
 au trivial
include hQ aD H0 H1 H5 in
theorem Yzl(h:r3 PG K P0 a0 b1 i5):W PG d wG U st (Zk PG d (.loop wG) (Zs 0 (Zk PG d wH Q))):=
 au @Xnz
def Xnq(h:ED PG K a0 b1):W PG d b29 U st Q:=
 q_ J<|m_<|e_<|Zl<|q_ J<|Yf H0<|Xq J<|Yf H1<|Xq J<|b_ J J Vr<|e_<|Yi J (fun c=>q_ J<|m_<|Zu<|hQ J<|h.1 c)<|fun c=>Ya<|Zl<|q_ J<|m_<|e_<|Yg<|(h.2 c) (Yoq PG d Q a0 b1) (fun _ hb _ _ _ _ H0 H1 H5=>W.loop<|Yzl hQ (fun _ x=>x) H0 H1 H5 hb) _ _ _ _ H0 H1 J
def p29(hf:PG.fn 29=some rK)(h:ED PG K a0 b1):∃x0:Bool,K x0/\Ze PG 29 [.sl .ext (List.map Zv a0),.sl .ext (List.map Zv b1)] (.b x0):=
 P1 hf J<|Xnq (h1 J fun _=>J) J J h
end
abbrev wI:AC:= (.seq (sR 3 [oM 5 4,oM 6 0,oH 7 6,oT 8 .lss 5 7]<|cD 8 .skip<|.exit 0)<|.seq (.block 1<|.reg 5 [oM 11 3,oM 12 0,oM 13 4,oO 14<|.ixS (.t 12)<|.t 13,oQ 15 41 [14],oT 16 .add 11 15,oM 3 16])<|.reg 4 [oM 9 4,oV 10 .add 9 1,oM 4 10])
abbrev wJ:AC:= (sR 6 [oM 17 3,oB 18 .add (.t 17)<|.c<|.s [34],oM 2 18] .ret)
abbrev b31:AC:= (sR 0 [oC 2<|.s []]<|sR 1 [oC 3<|.s [34]]<|.seq (sR 2 [oI 4 0]<|.block 0<|.loop wI) wJ)
def rL:AF:= { nt:=19,res:=[.tmp 2],body:=b31 }
abbrev Yrr(PG:Zb)(d:Nat)(Q:Q0)(s0 gy:BS)(i4:Int):Prop:=
  ∀(U:Sl)(st:St),U 0=.s s0->U 3=.s gy->U 4=.i .i64 i4->W PG d (.loop wI) U st (Zs 0 (Zk PG d wJ Q))
def C1(PG:Zb)(K:BS->Prop)(gy:BS):Prop:=
  gy.length+([34]:BS).length<=Yj/\K (gy++([34]:BS))
section
variable(PG:Zb)(K:BS->Prop)
def rS(P0:BS->Int->Prop)(s0 gy:BS)(i4:Int):Prop:=
  (i4<(s0.length:Int)->0<=i4/\∃e:UInt8,s0[(i4).toNat]?=some e/\∃c:BS,Ze PG 41 [.i .u8 (e.toNat:Int)] (.s c)/\gy.length+c.length<=Yj/\P0 (gy++c) (IntKind.i64.wrap (i4+1)))/\(¬(i4<(s0.length:Int))->C1 PG K gy)
def C0(s0:BS):Prop:=
  ∀P0:BS->Int->Prop,(∀(gy:BS)(i4:Int),rS PG K P0 s0 gy i4->P0 gy i4)->P0 ([34]:BS) 0
end
section
variable{K:BS->Prop}(hQ:H1 AV.s 2 Q K)
variable{gy s0:BS}{i4:Int}{P0:BS->Int->Prop}
variable(aD :∀(gy:BS)(i4:Int),P0 gy i4->Yrr PG d Q s0 gy i4)(H0:U 0=.s s0)(H3:U 3=.s gy)(H4:U 4=.i .i64 i4)
include hQ H3 in
theorem Xnf(h:C1 PG K gy):W PG d wJ U st Q:=
 au trivial
include hQ aD H0 H3 H4 in
theorem Xy0(h:rS PG K P0 s0 gy i4):W PG d wI U st (Zk PG d (.loop wI) (Zs 0 (Zk PG d wJ Q))):=
 au @Xnf
def Xzg(h:C0 PG K s0):W PG d b31 U st Q:=
 q_ J<|m_<|e_<|q_ J<|m_<|e_<|Zl<|q_ J<|m_<|e_<|Yg<|h (Yrr PG d Q s0) (fun _ _ hb _ _ H0 H3 H4=>W.loop<|Xy0 hQ (fun _ _ x=>x) H0 H3 H4 hb) _ _ H0 J J
def p31(hf:PG.fn 31=some rL)(h:C0 PG K s0):∃x0:BS,K x0/\Ze PG 31 [.s s0] (.s x0):=
 P1 hf J<|Xzg (h1 J fun _=>J) J h
end
abbrev wK:AC:= (.seq (sR 2 [oM 6 0,oM 7 1,oT 8 .geq 6 7]<|cD 8 .skip<|.exit 0)<|.block 1<|sR 3 [oM 9 0,oM 10 1,oT 11 .rem 9 10,oM 12 0,oM 13 1,oT 14 .rem 12 13,oB 15 .add (.t 14)<|.c<|.i .u64 1,oO 16<|.slS (.c<|.s gM) (some<|.t 11)<|some<|.t 15,oM 17 5,oT 18 .add 16 17,oM 5 18]<|.reg 4 [oM 19 0,oM 20 1,oT 21 .quo 19 20,oM 0 21])
abbrev wL:AC:= (sR 5 [oM 22 0,oM 23 0,oB 24 .add (.t 23)<|.c<|.i .u64 1,oO 25<|.slS (.c<|.s gM) (some<|.t 22)<|some<|.t 24,oM 26 5,oT 27 .add 25 26,oM 4 27] .ret)
abbrev b35:AC:= (sR 0 [oC 4<|.s []]<|sR 1 [oC 5<|.s []]<|.seq (.block 0<|.loop wK) wL)
def rM:AF:= { nt:=28,res:=[.tmp 4],body:=b35 }
abbrev Ye5(PG:Zb)(d:Nat)(Q:Q0)(ah n0:Int)(s5:BS):Prop:=
  ∀(U:Sl)(st:St),U 0=.i .u64 n0->U 1=.i .u64 ah->U 5=.s s5->W PG d (.loop wK) U st (Zs 0 (Zk PG d wL Q))
def C_(PG:Zb)(K:BS->Prop)(n0:Int)(s5:BS):Prop:=
  0<=n0/\n0<=(IntKind.u64.wrap (n0+1))/\(IntKind.u64.wrap (n0+1)).toNat<=([48,49,50,51,52,53,54,55,56,57,97,98,99,100,101,102]:BS).length/\((([48,49,50,51,52,53,54,55,56,57,97,98,99,100,101,102]:BS).drop (n0).toNat).take ((IntKind.u64.wrap (n0+1)).toNat-(n0).toNat)).length+s5.length<=Yj/\K (((([48,49,50,51,52,53,54,55,56,57,97,98,99,100,101,102]:BS).drop (n0).toNat).take ((IntKind.u64.wrap (n0+1)).toNat-(n0).toNat))++s5)
section
variable(PG:Zb)(K:BS->Prop)
def C9(P0:Int->BS->Prop)(n0 ah:Int)(s5:BS):Prop:=
  (n0>=ah->ah≠0/\ah≠0/\0<=((n0:Int).tmod ah)/\((n0:Int).tmod ah)<=(IntKind.u64.wrap (((n0:Int).tmod ah)+1))/\(IntKind.u64.wrap (((n0:Int).tmod ah)+1)).toNat<=([48,49,50,51,52,53,54,55,56,57,97,98,99,100,101,102]:BS).length/\((([48,49,50,51,52,53,54,55,56,57,97,98,99,100,101,102]:BS).drop ((n0:Int).tmod ah).toNat).take ((IntKind.u64.wrap (((n0:Int).tmod ah)+1)).toNat-((n0:Int).tmod ah).toNat)).length+s5.length<=Yj/\ah≠0/\P0 (IntKind.u64.wrap ((n0:Int).tdiv ah)) (((([48,49,50,51,52,53,54,55,56,57,97,98,99,100,101,102]:BS).drop ((n0:Int).tmod ah).toNat).take ((IntKind.u64.wrap (((n0:Int).tmod ah)+1)).toNat-((n0:Int).tmod ah).toNat))++s5))/\(¬(n0>=ah)->C_ PG K n0 s5)
def C8(n0 ah:Int):Prop:=
  ∀P0:Int->BS->Prop,(∀(n0:Int)(s5:BS),C9 PG K P0 n0 ah s5->P0 n0 s5)->P0 n0 ([]:BS)
end
section
variable{K:BS->Prop}(hQ:H1 AV.s 4 Q K)
variable{n0:Int}{s5:BS}{ah:Int}{P0:Int->BS->Prop}
variable(aD :∀(n0:Int)(s5:BS),P0 n0 s5->Ye5 PG d Q ah n0 s5)(H0:U 0=.i .u64 n0)(H1:U 1=.i .u64 ah)(H5:U 5=.s s5)
include hQ H0 H5 in
theorem Xs0(h:C_ PG K n0 s5):W PG d wL U st Q:=
 au trivial
include hQ aD H0 H1 H5 in
theorem Xpp(h:C9 PG K P0 n0 ah s5):W PG d wK U st (Zk PG d (.loop wK) (Zs 0 (Zk PG d wL Q))):=
 au @Xs0
def Xwg(h:C8 PG K n0 ah):W PG d b35 U st Q:=
 q_ J<|m_<|e_<|q_ J<|m_<|e_<|Zl<|Yg<|h (Ye5 PG d Q ah) (fun _ _ hb _ _ H0 H1 H5=>W.loop<|Xpp hQ (fun _ _ x=>x) H0 H1 H5 hb) _ _ H0 H1 J
def p35(hf:PG.fn 35=some rM)(h:C8 PG K n0 ah):∃x0:BS,K x0/\Ze PG 35 [.i .u64 n0,.i .u64 ah] (.s x0):=
 P1 hf J<|Xwg (h1 J fun _=>J) J J h
end
abbrev wM:AC:= (.seq (sR 4 [oM 25 8,oM 26 0,oH 27 26,oT 28 .lss 25 27]<|cD 28 .skip<|.exit 0)<|.seq (.block 1<|sR 6 [oM 31 0,oM 32 8,oO 33<|.ixS (.t 31)<|.t 32,oM 34 1,oO 35<|.cvi .i64<|.t 34,oQ 36 44 [33,35],oV 37 .lss 36 0]<|cD 37 (sR 7 [oC 6<|.i .u64 0,oI 7 12] .ret) .skip)<|.reg 5 [oM 29 8,oV 30 .add 29 1,oM 8 30])
abbrev wN:AC:= (.seq (sR 10 [oM 38 10,oM 39 0,oH 40 39,oT 41 .lss 38 40]<|cD 41 .skip<|.exit 2)<|.seq (.block 3<|sR 12 [oM 44 0,oM 45 10,oO 46<|.ixS (.t 44)<|.t 45,oM 47 1,oO 48<|.cvi .i64<|.t 47,oQ 49 44 [46,48],oO 50<|.cvi .u64<|.t 49,oM 11 50]<|.seq (sR 13 [oM 51 9,oM 52 2,oM 53 11,oT 54 .sub 52 53,oM 55 1,oT 56 .quo 54 55,oT 57 .gtr 51 56]<|cD 57 (sR 14 [oC 6<|.i .u64 0,oI 7 16] .ret) .skip)<|.reg 15 [oM 58 9,oM 59 1,oT 60 .mul 58 59,oM 61 11,oT 62 .add 60 61,oM 9 62])<|.reg 11 [oM 42 10,oV 43 .add 42 1,oM 10 43])
abbrev wO:AC:= (sR 16 [oM 63 9,oM 6 63,oI 7 0] .ret)
abbrev wP:AC:= (sR 8 [oC 9<|.i .u64 0]<|.seq (sR 9 [oI 10 0]<|.block 2<|.loop wN) wO)
abbrev Yit:AC:= (.seq (sR 1 [oM 12 0,oH 13 12,oV 14 .eql 13 0,oM 15 14,gF 15<|oM 16 0,gF 15<|oO 17<|.ixS (.t 16)<|.c<|.i .i64 0,gF 15<|oW 18 .eql 17 48,gF 15<|oM 19 18,gT 19<|oM 20 0,gT 19<|oH 21 20,gT 19<|oV 22 .gtr 21 1,gF 15<|oA 23 19 22,oR 24 15 23]<|cD 24 (sR 2 [oC 6<|.i .u64 0,oI 7 12] .ret) .skip)<|.seq (sR 3 [oI 8 0]<|.block 0<|.loop wM) wP)
abbrev b38:AC:= (sR 0 [oC 6<|.i .u64 0,oI 7 0] Yit)
def rO:AF:= { nt:=64,res:=[.tmp 6,.tmp 7],body:=b38 }
abbrev QH(PG:Zb)(d:Nat)(Q:Q0)(s0:BS)(ah bj i8:Int):Prop:=
  ∀(U:Sl)(st:St),U 0=.s s0->U 1=.i .u64 ah->U 2=.i .u64 bj->U 8=.i .i64 i8->W PG d (.loop wM) U st (Zs 0 (Zk PG d wP Q))
abbrev Yt8(PG:Zb)(d:Nat)(Q:Q0)(s0:BS)(ah bj n9 i10:Int):Prop:=
  ∀(U:Sl)(st:St),U 0=.s s0->U 1=.i .u64 ah->U 2=.i .u64 bj->U 9=.i .u64 n9->U 10=.i .i64 i10->W PG d (.loop wN) U st (Zs 2 (Zk PG d wO Q))
def DS(PG:Zb)(K:Int->Int->Prop)(n9:Int):Prop:=
  K n9 0
section
variable(PG:Zb)(K:Int->Int->Prop)
def rX(P1:Int->Int->Prop)(s0:BS)(ah bj n9 i10:Int):Prop:=
  (i10<(s0.length:Int)->0<=i10/\∃e:UInt8,s0[(i10).toNat]?=some e/\∃c,Ze PG 44 [.i .u8 (e.toNat:Int),.i .i64 (IntKind.i64.wrap ah)] (.i .i64 c)/\ah≠0/\(n9>(IntKind.u64.wrap (((IntKind.u64.wrap (bj-(IntKind.u64.wrap c))):Int).tdiv ah))->K 0 16)/\(¬(n9>(IntKind.u64.wrap (((IntKind.u64.wrap (bj-(IntKind.u64.wrap c))):Int).tdiv ah)))->P1 (IntKind.u64.wrap ((IntKind.u64.wrap (n9*ah))+(IntKind.u64.wrap c))) (IntKind.i64.wrap (i10+1))))/\(¬(i10<(s0.length:Int))->DS PG K n9)
def DQ(s0:BS)(ah bj:Int):Prop:=
  ∀P1:Int->Int->Prop,(∀(n9 i10:Int),rX PG K P1 s0 ah bj n9 i10->P1 n9 i10)->P1 0 0
def Ae(P0:Int->Prop)(s0:BS)(ah bj i8:Int):Prop:=
  (i8<(s0.length:Int)->0<=i8/\∃e:UInt8,s0[(i8).toNat]?=some e/\∃c,Ze PG 44 [.i .u8 (e.toNat:Int),.i .i64 (IntKind.i64.wrap ah)] (.i .i64 c)/\(c<0->K 0 12)/\(¬(c<0)->P0 (IntKind.i64.wrap (i8+1))))/\(¬(i8<(s0.length:Int))->DQ PG K s0 ah bj)
def DU(s0:BS)(ah bj:Int):Prop:=
  ((s0.length:Int)=0->K 0 12)/\(¬((s0.length:Int)=0)->∃c:UInt8,s0[0]?=some c/\((c.toNat:Int)=48->((s0.length:Int)>1->K 0 12)/\(¬((s0.length:Int)>1)->∀P0:Int->Prop,(∀(i8:Int),Ae PG K P0 s0 ah bj i8->P0 i8)->P0 0))/\(¬((c.toNat:Int)=48)->∀P0:Int->Prop,(∀(i8:Int),Ae PG K P0 s0 ah bj i8->P0 i8)->P0 0))
def DT(s0:BS)(ah bj:Int):Prop:=
  DU PG K s0 ah bj
end
section
variable{K:Int->Int->Prop}(hQ:H2 (AV.i .u64) (AV.i .i64) 6 7 Q K)
variable{n9:Int}{s0:BS}{ah bj i10:Int}{P1:Int->Int->Prop}{i8:Int}{P0:Int->Prop}
variable(bZ :∀(n9 i10:Int),P1 n9 i10->Yt8 PG d Q s0 ah bj n9 i10)(aD :∀(i8:Int),P0 i8->QH PG d Q s0 ah bj i8)(H0:U 0=.s s0)(H1:U 1=.i .u64 ah)(H2:U 2=.i .u64 bj)(H9:U 9=.i .u64 n9)(H8:U 8=.i .i64 i8)(aH:U 10=.i .i64 i10)
include hQ H9 in
theorem Xo2(h:DS PG K n9):W PG d wO U st Q:=
 au trivial
include hQ bZ H0 H1 H2 H9 aH in
theorem Xkk(h:rX PG K P1 s0 ah bj n9 i10):W PG d wN U st (Zk PG d (.loop wN) (Zs 2 (Zk PG d wO Q))):=
 au @Xo2
def Yx1(h:DQ PG K s0 ah bj):W PG d wP U st Q:=
 q_ J<|m_<|e_<|Zl<|q_ J<|m_<|e_<|Yg<|h (Yt8 PG d Q s0 ah bj) (fun _ _ hb _ _ H0 H1 H2 H9 aH=>W.loop<|Xkk hQ (fun _ _ x=>x) H0 H1 H2 H9 aH hb) _ _ H0 H1 H2 J J
def Yj1(h:Ae PG K P0 s0 ah bj i8):W PG d wM U st (Zk PG d (.loop wM) (Zs 0 (Zk PG d wP Q))):=
 Zl<|q_ J<|m_<|m_<|Qb H0<|b_ H8 J Wp<|e_<|Yi J (fun c=>Ya<|Zl<|Yg<|q_ J<|m_<|m_<|(h.1 c).2.elim fun _ j=>Qj H0 H8 (h.1 c).1 j.1<|m_<|Ls H1<|j.2.elim fun _ e=>Yh (Wk J J J) e.1<|b_ J J Wp<|e_<|Yi J (fun i=>q_ J<|m_<|m_<|Zu<|hQ J J<|e.2.1 i)<|fun i=>Ya<|W.reg0 J fun _ _=>m_<|b_ H8 J Vp<|m_<|e_<|aD _ (e.2.2 i) _ _ H0 H1 H2 J)<|fun c=>Vg<|Yx1 hQ H0 H1 H2<|h.2 c
def Xkz(h:DU PG K s0 ah bj):W PG d Yit U st Q:=
 Zl<|q_ J<|Ki H0<|Qb J<|b_ J J Xf<|Yt J<|Xe (g:=15) J (fun i=>z_ 4 J<|Xv J<|Xv J<|Xv J<|z_ 2 J<|e_<|Xh J<|q_ J<|m_<|m_<|Zu<|hQ J J<|h.1 i)<|fun i=>Zg J<|Ki H0<|Zg J<|(h.2 i).elim fun _ c=>Qj J J (by decide) c.1<|Zg J<|b_ J J Xf<|Zg J<|Yt J<|Xe (g:=19) J (fun e=>Zg J<|Ki H0<|Zg J<|Qb J<|Zg J<|b_ J J Jd<|Zg J<|z_ 2 J<|e_<|Yi J (fun j=>q_ J<|m_<|m_<|Zu<|hQ J J<|(c.2.1 e).1 j)<|fun j=>Ya<|Zl<|q_ J<|m_<|e_<|Yg<|((c.2.1 e).2 j) (QH PG d Q s0 ah bj) (fun _ hb _ _ H0 H1 H2 H8=>W.loop<|Yj1 hQ (fun _ x=>x) H0 H1 H2 H8 hb) _ _ H0 H1 H2 J)<|fun e=>z_ 3 J<|Zg J<|z_ 2 J<|e_<|Qp J<|Ya<|Zl<|q_ J<|m_<|e_<|Yg<|(c.2.2 e) (QH PG d Q s0 ah bj) (fun _ hb _ _ H0 H1 H2 H8=>W.loop<|Yj1 hQ (fun _ x=>x) H0 H1 H2 H8 hb) _ _ H0 H1 H2 J
include hQ H0 H1 H2 in
theorem Xbe(h:DT PG K s0 ah bj):W PG d b38 U st Q:=
 au @Xkz
def p38(hf:PG.fn 38=some rO)(h:DT PG K s0 ah bj):∃x0:Int,∃x1:Int,K x0 x1/\Ze PG 38 [.s s0,.i .u64 ah,.i .u64 bj] (.tup [.i .u64 x0,.i .i64 x1]):=
 P2 hf J<|Xbe (h2 J fun _ _=>J) J J J h
end
abbrev Yco:AC:= (.reg 9 [oM 33 7,oV 34 .add 33 1,oM 7 34])
abbrev Iq:AC:= (.seq (sR 8 [oM 27 7,oV 28 .lss 27 256,oM 29 28,gT 29<|oM 30 6,gT 29<|oZ 31 30,oA 32 29 31]<|cD 32 .skip<|.exit 2)<|.seq (.block 3<|sR 10 [oM 35 7,oO 36<|.cvi .u8<|.t 35,oQ 37 41 [36],oM 8 37]<|sR 11 [oM 38 0,oH 39 38,oM 40 8,oH 41 40,oT 42 .geq 39 41,oM 43 42,gT 43<|oM 44 0,gT 43<|oM 45 8,gT 43<|oH 46 45,gT 43<|oO 47<|.slS (.t 44) none<|some<|.t 46,gT 43<|oM 48 8,gT 43<|oT 49 .eql 47 48,oA 50 43 49]<|cD 50 (sR 12 [oM 51 5,oM 52 7,oO 53<|.cvi .u8<|.t 52,oO 54<|.bslice [z8] 1 [(0,(.t 53))],oO 55<|.b2s<|.t 54,oT 56 .add 51 55,oM 5 56]<|sR 13 [oM 57 0,oM 58 8,oH 59 58,oO 60<|.slS (.t 57) (some<|.t 59) none,oM 0 60]<|.reg 14 [oC 6<|.b true]) .skip) Yco)
abbrev Ou:AC:= (sR 15 [oM 61 6,oZ 62 61]<|cD 62 (sR 16 [oC 2<|.s [],oC 3<|.s [],oC 4<|.b false] .ret) .skip)
abbrev Th:AC:= (.seq (sR 5 [oM 19 0,oH 20 19,oV 21 .gtr 20 0,oM 22 21,gT 22<|oM 23 0,gT 22<|oO 24<|.ixS (.t 23)<|.c<|.i .i64 0,gT 22<|oW 25 .neq 24 34,oA 26 22 25]<|cD 26 .skip<|.exit 0)<|.block 1<|sR 6 [oC 6<|.b false]<|.seq (sR 7 [oI 7 0]<|.block 2<|.loop Iq) Ou)
abbrev Tq:AC:= (.seq (sR 17 [oM 63 0,oH 64 63,oV 65 .eql 64 0]<|cD 65 (sR 18 [oC 2<|.s [],oC 3<|.s [],oC 4<|.b false] .ret) .skip)<|sR 19 [oM 66 5,oM 67 0,oO 68<|.slS (.t 67) (some<|.c<|.i .i64 1) none,oM 2 66,oM 3 68,oC 4<|.b true] .ret)
abbrev Yrj:AC:= (.seq (.block 0<|.loop Th) Tq)
abbrev Ymq:AC:= (sR 4 [oC 5<|.s []] Yrj)
abbrev Ym4:AC:= (sR 3 [oM 17 0,oO 18<|.slS (.t 17) (some<|.c<|.i .i64 1) none,oM 0 18] Ymq)
abbrev Yty:AC:= (.seq (sR 1 [oM 9 0,oH 10 9,oV 11 .eql 10 0,oM 12 11,gF 12<|oM 13 0,gF 12<|oO 14<|.ixS (.t 13)<|.c<|.i .i64 0,gF 12<|oW 15 .neq 14 34,oR 16 12 15]<|cD 16 (sR 2 [oC 2<|.s [],oC 3<|.s [],oC 4<|.b false] .ret) .skip) Ym4)
abbrev b40:AC:= (sR 0 [oC 2<|.s [],oC 3<|.s [],oC 4<|.b false] Yty)
def nD:AF:= { nt:=69,res:=[.tmp 2,.tmp 3,.tmp 4],body:=b40 }
abbrev Dg(Q:Q0)(K:BS->BS->Bool->Prop):Prop:=∀(U:Sl)(st:St)(x0 x1:BS)(x2:Bool),U 2=.s x0->U 3=.s x1->U 4=.b x2->K x0 x1 x2->Q .ret U st
abbrev Yu5(PG:Zb)(d:Nat)(Q:Q0)(s0 ce:BS):Prop:=
  ∀(U:Sl)(st:St),U 0=.s s0->U 5=.s ce->W PG d (.loop Th) U st (Zs 0 (Zk PG d Tq Q))
abbrev Yfe(PG:Zb)(d:Nat)(Q:Q0)(s0 ce:BS)(cp:Bool)(c7:Int):Prop:=
  ∀(U:Sl)(st:St),U 0=.s s0->U 5=.s ce->U 6=.b cp->U 7=.i .i64 c7->W PG d (.loop Iq) U st (Zs 2 (Zk PG d Ou (Zs 1 (Zk PG d (.loop Th) (Zs 0 (Zk PG d Tq Q))))))
def Av(PG:Zb)(K:BS->BS->Bool->Prop)(P1:BS->BS->Bool->Int->Prop)(P0:BS->BS->Prop)(s0 ce:BS)(cp:Bool)(c7:Int):Prop:=
  P1 s0 ce cp (IntKind.i64.wrap (c7+1))
def nO(PG:Zb)(K:BS->BS->Bool->Prop)(P0:BS->BS->Prop)(s0 ce:BS)(cp:Bool):Prop:=
  ((!cp)=true->K ([]:BS) ([]:BS) false)/\((!cp)=false->P0 s0 ce)
section
variable(PG:Zb)(K:BS->BS->Bool->Prop)
def Fj(P1:BS->BS->Bool->Int->Prop)(P0:BS->BS->Prop)(s0 ce:BS)(cp:Bool)(c7:Int):Prop:=
  (c7<256->((!cp)=true->∃c:BS,Ze PG 41 [.i .u8 (IntKind.u8.wrap c7)] (.s c)/\((s0.length:Int)>=(c.length:Int)->0<=(c.length:Int)/\(c.length:Int).toNat<=s0.length/\((s0.take (c.length:Int).toNat)=c->∃e:UInt8,(IntKind.u8.wrap c7)=(e.toNat:Int)/\ce.length+[e].length<=Yj/\0<=(c.length:Int)/\(c.length:Int).toNat<=s0.length/\Av PG K P1 P0 (s0.drop (c.length:Int).toNat) (ce++[e]) true c7)/\(¬((s0.take (c.length:Int).toNat)=c)->Av PG K P1 P0 s0 ce cp c7))/\(¬((s0.length:Int)>=(c.length:Int))->Av PG K P1 P0 s0 ce cp c7))/\((!cp)=false->nO PG K P0 s0 ce cp))/\(¬(c7<256)->nO PG K P0 s0 ce cp)
def nM(PG:Zb)(K:BS->BS->Bool->Prop)(s0 ce:BS):Prop:=
  ((s0.length:Int)=0->K ([]:BS) ([]:BS) false)/\(¬((s0.length:Int)=0)->1<=s0.length/\K ce (s0.drop 1) true)
def EA(P0:BS->BS->Prop)(s0 ce:BS):Prop:=
  ((s0.length:Int)>0->∃c:UInt8,s0[0]?=some c/\((c.toNat:Int)≠34->∀P1:BS->BS->Bool->Int->Prop,(∀(s0 ce:BS)(cp:Bool)(c7:Int),Fj PG K P1 P0 s0 ce cp c7->P1 s0 ce cp c7)->P1 s0 ce false 0)/\(¬((c.toNat:Int)≠34)->nM PG K s0 ce))/\(¬((s0.length:Int)>0)->nM PG K s0 ce)
def D_(s0 ce:BS):Prop:=
  ∀P0:BS->BS->Prop,(∀(s0 ce:BS),EA PG K P0 s0 ce->P0 s0 ce)->P0 s0 ce
def D9(s0:BS):Prop:=
  D_ PG K s0 ([]:BS)
def D8(s0:BS):Prop:=
  1<=s0.length/\D9 PG K (s0.drop 1)
def D7(s0:BS):Prop:=
  ((s0.length:Int)=0->K ([]:BS) ([]:BS) false)/\(¬((s0.length:Int)=0)->∃c:UInt8,s0[0]?=some c/\((c.toNat:Int)≠34->K ([]:BS) ([]:BS) false)/\(¬((c.toNat:Int)≠34)->D8 PG K s0))
def D6(s0:BS):Prop:=
  D7 PG K s0
end
section
variable{K:BS->BS->Bool->Prop}(hQ:Dg Q K)
variable{s0 ce:BS}{cp:Bool}{c7:Int}{P1:BS->BS->Bool->Int->Prop}{P0:BS->BS->Prop}
variable(bZ :∀(s0 ce:BS)(cp:Bool)(c7:Int),P1 s0 ce cp c7->Yfe PG d Q s0 ce cp c7)(aD :∀(s0 ce:BS),P0 s0 ce->Yu5 PG d Q s0 ce)(H0:U 0=.s s0)(H5:U 5=.s ce)(H6:U 6=.b cp)(H7:U 7=.i .i64 c7)
include hQ bZ aD H0 H5 H6 H7 in
theorem Xb2(h:Av PG K P1 P0 s0 ce cp c7):W PG d Yco U st (Zk PG d (.loop Iq) (Zs 2 (Zk PG d Ou (Zs 1 (Zk PG d (.loop Th) (Zs 0 (Zk PG d Tq Q))))))):=
 au trivial
include hQ aD H0 H5 H6 in
theorem Xgm(h:nO PG K P0 s0 ce cp):W PG d Ou U st (Zs 1 (Zk PG d (.loop Th) (Zs 0 (Zk PG d Tq Q)))):=
 au trivial
include hQ bZ aD H0 H5 H6 H7 in
theorem Xor(h:Fj PG K P1 P0 s0 ce cp c7):W PG d Iq U st (Zk PG d (.loop Iq) (Zs 2 (Zk PG d Ou (Zs 1 (Zk PG d (.loop Th) (Zs 0 (Zk PG d Tq Q))))))):=
 au<|And.intro @Xb2 @Xgm
include hQ H0 H5 in
theorem Yfc(h:nM PG K s0 ce):W PG d Tq U st Q:=
 au trivial
def Xuz(h:EA PG K P0 s0 ce):W PG d Th U st (Zk PG d (.loop Th) (Zs 0 (Zk PG d Tq Q))):=
 Zl<|q_ J<|Ki H0<|Qb J<|b_ J J Jd<|Yt J<|Xe (g:=22) J (fun e=>Zg J<|Ki H0<|Zg J<|(h.1 e).elim fun _ c=>Qj J J (by decide) c.1<|Zg J<|b_ J J Vr<|Gz J J<|e_<|Yi J (fun i=>Ya<|Yg<|q_ J<|m_<|e_<|Zl<|q_ J<|m_<|e_<|Yg<|(c.2.1 i) (Yfe PG d Q ) (fun _ _ _ _ hb _ _ H0 H5 H6 H7=>W.loop<|Xor hQ (fun _ _ _ _ x=>x) aD H0 H5 H6 H7 hb) _ _ H0 H5 J J)<|fun i=>Vg<|Yfc hQ H0 H5<|c.2.2 i)<|fun e=>z_ 4 J<|e_<|Qp J<|Vg<|Yfc hQ H0 H5<|h.2 e
def Wdk(h:D_ PG K s0 ce):W PG d Yrj U st Q:=
 Zl<|Yg<|h (Yu5 PG d Q ) (fun _ _ hb _ _ H0 H5=>W.loop<|Xuz hQ (fun _ _ x=>x) H0 H5 hb) _ _ H0 H5
include hQ H0 in
theorem Xx4(h:D9 PG K s0):W PG d Ymq U st Q:=
 au @Wdk
def Yxv(h:D8 PG K s0):W PG d Ym4 U st Q:=
 q_ J<|m_<|Jo H0 J (by decide) h.1<|m_<|e_<|Xx4 hQ J h.2
def Xcm(h:D7 PG K s0):W PG d Yty U st Q:=
 Zl<|q_ J<|Ki H0<|Qb J<|b_ J J Xf<|Yt J<|Xe (g:=12) J (fun e=>z_ 4 J<|e_<|Xh J<|q_ J<|m_<|m_<|m_<|Zu<|hQ _ _ _ _ _ J J J<|h.1 e)<|fun e=>Zg J<|Ki H0<|Zg J<|(h.2 e).elim fun _ c=>Qj J J (by decide) c.1<|Zg J<|b_ J J Vr<|Vt J J<|e_<|Yi J (fun i=>q_ J<|m_<|m_<|m_<|Zu<|hQ _ _ _ _ _ J J J<|c.2.1 i)<|fun i=>Ya<|Yxv hQ H0<|c.2.2 i
include hQ H0 in
theorem Xd8(h:D6 PG K s0):W PG d b40 U st Q:=
 au @Xcm
theorem p40(hf:PG.fn 40=some nD)(h:D6 PG K s0):∃x0:BS,∃x1:BS,∃x2:Bool,K x0 x1 x2/\Ze PG 40 [.s s0] (.tup [.s x0,.s x1,.b x2]):=by
  obtain⟨v,hv,x0,x1,x2,hk,rfl⟩:=Ze.of (K:=fun v=>∃x0:BS,∃x1:BS,∃x2:Bool,K x0 x1 x2/\v=.tup [.s x0,.s x1,.b x2]) hf rfl (Xd8 (U:=Wg [.s s0]) (fun U st   x0 x1 x2 H2 H3 H4 hk=>⟨.tup [.s x0,.s x1,.b x2],by simp only[nD,Xj,Wz,H2,H3,H4,Kq,kK],_,rfl,x0,x1,x2,hk,rfl⟩) rfl h)
  exact⟨x0,x1,x2,hk,hv⟩
end
abbrev b41:AC:= (sR 0 [oC 2<|.s []]<|.seq (sR 1 [oM 3 0,oW 4 .eql 3 34,oM 5 4,gF 5<|oM 6 0,gF 5<|oW 7 .eql 6 92,oR 8 5 7]<|cD 8 (sR 2 [oM 9 0,oO 10<|.bslice [z8] 2 [(0,(.c<|.i .u8 92)),(1,(.t 9))],oO 11<|.b2s<|.t 10,oM 2 11] .ret) .skip)<|.seq (sR 3 [oM 12 0,oW 13 .eql 12 10]<|cD 13 (sR 4 [oC 2<|.s [92,110]] .ret) .skip)<|.seq (sR 5 [oM 14 0,oW 15 .geq 14 32,oM 16 15,gT 16<|oM 17 0,gT 16<|oW 18 .leq 17 126,oA 19 16 18]<|cD 19 (sR 6 [oM 20 0,oO 21<|.bslice [z8] 1 [(0,(.t 20))],oO 22<|.b2s<|.t 21,oM 2 22] .ret) .skip)<|sR 7 [oM 23 0,oW 24 .quo 23 16,oM 25 0,oW 26 .quo 25 16,oW 27 .add 26 1,oO 28<|.slS (.c<|.s gM) (some<|.t 24)<|some<|.t 27,oB 29 .add (.c<|.s [92,120])<|.t 28,oM 30 0,oW 31 .rem 30 16,oM 32 0,oW 33 .rem 32 16,oW 34 .add 33 1,oO 35<|.slS (.c<|.s gM) (some<|.t 31)<|some<|.t 34,oT 36 .add 29 35,oM 2 36] .ret)
def rP:AF:= { nt:=37,res:=[.tmp 2],body:=b41 }
def CZ(PG:Zb)(K:BS->Prop)(c0:Int):Prop:=
  (c0=34->∃i:UInt8,c0=(i.toNat:Int)/\K [(92:UInt8),i])/\(¬(c0=34)->(c0=92->∃e:UInt8,c0=(e.toNat:Int)/\K [(92:UInt8),e])/\(¬(c0=92)->(c0=10->K ([92,110]:BS))/\(¬(c0=10)->(c0>=32->(c0<=126->∃c:UInt8,c0=(c.toNat:Int)/\K [c])/\(¬(c0<=126)->0<=(IntKind.u8.wrap ((c0:Int).tdiv 16))/\(IntKind.u8.wrap ((c0:Int).tdiv 16))<=(IntKind.u8.wrap ((IntKind.u8.wrap ((c0:Int).tdiv 16))+1))/\(IntKind.u8.wrap ((IntKind.u8.wrap ((c0:Int).tdiv 16))+1)).toNat<=([48,49,50,51,52,53,54,55,56,57,97,98,99,100,101,102]:BS).length/\([92,120]:BS).length+((([48,49,50,51,52,53,54,55,56,57,97,98,99,100,101,102]:BS).drop (IntKind.u8.wrap ((c0:Int).tdiv 16)).toNat).take ((IntKind.u8.wrap ((IntKind.u8.wrap ((c0:Int).tdiv 16))+1)).toNat-(IntKind.u8.wrap ((c0:Int).tdiv 16)).toNat)).length<=Yj/\0<=((c0:Int).tmod 16)/\((c0:Int).tmod 16)<=(IntKind.u8.wrap (((c0:Int).tmod 16)+1))/\(IntKind.u8.wrap (((c0:Int).tmod 16)+1)).toNat<=([48,49,50,51,52,53,54,55,56,57,97,98,99,100,101,102]:BS).length/\(([92,120]:BS)++((([48,49,50,51,52,53,54,55,56,57,97,98,99,100,101,102]:BS).drop (IntKind.u8.wrap ((c0:Int).tdiv 16)).toNat).take ((IntKind.u8.wrap ((IntKind.u8.wrap ((c0:Int).tdiv 16))+1)).toNat-(IntKind.u8.wrap ((c0:Int).tdiv 16)).toNat))).length+((([48,49,50,51,52,53,54,55,56,57,97,98,99,100,101,102]:BS).drop ((c0:Int).tmod 16).toNat).take ((IntKind.u8.wrap (((c0:Int).tmod 16)+1)).toNat-((c0:Int).tmod 16).toNat)).length<=Yj/\K ((([92,120]:BS)++((([48,49,50,51,52,53,54,55,56,57,97,98,99,100,101,102]:BS).drop (IntKind.u8.wrap ((c0:Int).tdiv 16)).toNat).take ((IntKind.u8.wrap ((IntKind.u8.wrap ((c0:Int).tdiv 16))+1)).toNat-(IntKind.u8.wrap ((c0:Int).tdiv 16)).toNat)))++((([48,49,50,51,52,53,54,55,56,57,97,98,99,100,101,102]:BS).drop ((c0:Int).tmod 16).toNat).take ((IntKind.u8.wrap (((c0:Int).tmod 16)+1)).toNat-((c0:Int).tmod 16).toNat)))))/\(¬(c0>=32)->0<=(IntKind.u8.wrap ((c0:Int).tdiv 16))/\(IntKind.u8.wrap ((c0:Int).tdiv 16))<=(IntKind.u8.wrap ((IntKind.u8.wrap ((c0:Int).tdiv 16))+1))/\(IntKind.u8.wrap ((IntKind.u8.wrap ((c0:Int).tdiv 16))+1)).toNat<=([48,49,50,51,52,53,54,55,56,57,97,98,99,100,101,102]:BS).length/\([92,120]:BS).length+((([48,49,50,51,52,53,54,55,56,57,97,98,99,100,101,102]:BS).drop (IntKind.u8.wrap ((c0:Int).tdiv 16)).toNat).take ((IntKind.u8.wrap ((IntKind.u8.wrap ((c0:Int).tdiv 16))+1)).toNat-(IntKind.u8.wrap ((c0:Int).tdiv 16)).toNat)).length<=Yj/\0<=((c0:Int).tmod 16)/\((c0:Int).tmod 16)<=(IntKind.u8.wrap (((c0:Int).tmod 16)+1))/\(IntKind.u8.wrap (((c0:Int).tmod 16)+1)).toNat<=([48,49,50,51,52,53,54,55,56,57,97,98,99,100,101,102]:BS).length/\(([92,120]:BS)++((([48,49,50,51,52,53,54,55,56,57,97,98,99,100,101,102]:BS).drop (IntKind.u8.wrap ((c0:Int).tdiv 16)).toNat).take ((IntKind.u8.wrap ((IntKind.u8.wrap ((c0:Int).tdiv 16))+1)).toNat-(IntKind.u8.wrap ((c0:Int).tdiv 16)).toNat))).length+((([48,49,50,51,52,53,54,55,56,57,97,98,99,100,101,102]:BS).drop ((c0:Int).tmod 16).toNat).take ((IntKind.u8.wrap (((c0:Int).tmod 16)+1)).toNat-((c0:Int).tmod 16).toNat)).length<=Yj/\K ((([92,120]:BS)++((([48,49,50,51,52,53,54,55,56,57,97,98,99,100,101,102]:BS).drop (IntKind.u8.wrap ((c0:Int).tdiv 16)).toNat).take ((IntKind.u8.wrap ((IntKind.u8.wrap ((c0:Int).tdiv 16))+1)).toNat-(IntKind.u8.wrap ((c0:Int).tdiv 16)).toNat)))++((([48,49,50,51,52,53,54,55,56,57,97,98,99,100,101,102]:BS).drop ((c0:Int).tmod 16).toNat).take ((IntKind.u8.wrap (((c0:Int).tmod 16)+1)).toNat-((c0:Int).tmod 16).toNat)))))))
section
variable{K:BS->Prop}(hQ:H1 AV.s 2 Q K)
variable{c0:Int}
variable(H0:U 0=.i .u8 c0)
def Xu9(h:CZ PG K c0):W PG d b41 U st Q:=
 q_ J<|m_<|e_<|Zl<|q_ J<|Wc H0<|b_ J J Xf<|Yt J<|Xe (g:=5) J (fun c=>z_ 3 J<|e_<|Xh J<|q_ J<|m_<|(h.1 c).elim fun s p=>Wr (f:=Yx) (l:=[(92:UInt8),s]) J J (Yl J J J<|Yl (Og H0 p.1) J J Wi) J<|Em J<|m_<|Zu<|hQ J p.2)<|fun c=>Zg J<|Wc H0<|Zg J<|b_ J J Xf<|Vt J J<|e_<|Yi J (fun e=>q_ J<|m_<|((h.2 c).1 e).elim fun u q=>Wr (f:=Yx) (l:=[(92:UInt8),u]) J J (Yl J J J<|Yl (Og H0 q.1) J J Wi) J<|Em J<|m_<|Zu<|hQ J q.2)<|fun e=>Ya<|Zl<|q_ J<|m_<|b_ H0 J Xf<|e_<|Yi J (fun i=>q_ J<|m_<|Zu<|hQ J<|((h.2 c).2 e).1 i)<|fun i=>Ya<|Zl<|q_ J<|Wc H0<|b_ J J Ha<|Yt J<|Xe (g:=16) J (fun j=>Zg J<|Wc H0<|Zg J<|b_ J J Oh<|Gz J J<|e_<|Yi J (fun k=>q_ J<|m_<|(((((h.2 c).2 e).2 i).1 j).1 k).elim fun r o=>Wr (f:=Yx) (l:=[r]) J J (Yl (Og H0 o.1) J J Wi) J<|Em J<|m_<|Zu<|hQ J o.2)<|fun k=>Ya<|q_ J<|m_<|b_ H0 J (Cs<|by decide)<|m_<|b_ H0 J (Cs<|by decide)<|b_ J J Vp<|Fc J J J (((((h.2 c).2 e).2 i).1 j).2 k).1 (((((h.2 c).2 e).2 i).1 j).2 k).2.1 (((((h.2 c).2 e).2 i).1 j).2 k).2.2.1<|b_ J J (Xp (((((h.2 c).2 e).2 i).1 j).2 k).2.2.2.1)<|m_<|b_ H0 J (Cg<|by decide)<|m_<|b_ H0 J (Cg<|by decide)<|b_ J J Vp<|Fc J J J (((((h.2 c).2 e).2 i).1 j).2 k).2.2.2.2.1 (((((h.2 c).2 e).2 i).1 j).2 k).2.2.2.2.2.1 (((((h.2 c).2 e).2 i).1 j).2 k).2.2.2.2.2.2.1<|b_ J J (Xp (((((h.2 c).2 e).2 i).1 j).2 k).2.2.2.2.2.2.2.1)<|m_<|Zu<|hQ J (((((h.2 c).2 e).2 i).1 j).2 k).2.2.2.2.2.2.2.2)<|fun j=>z_ 3 J<|e_<|Qp J<|Ya<|q_ J<|m_<|b_ H0 J (Cs<|by decide)<|m_<|b_ H0 J (Cs<|by decide)<|b_ J J Vp<|Fc J J J ((((h.2 c).2 e).2 i).2 j).1 ((((h.2 c).2 e).2 i).2 j).2.1 ((((h.2 c).2 e).2 i).2 j).2.2.1<|b_ J J (Xp ((((h.2 c).2 e).2 i).2 j).2.2.2.1)<|m_<|b_ H0 J (Cg<|by decide)<|m_<|b_ H0 J (Cg<|by decide)<|b_ J J Vp<|Fc J J J ((((h.2 c).2 e).2 i).2 j).2.2.2.2.1 ((((h.2 c).2 e).2 i).2 j).2.2.2.2.2.1 ((((h.2 c).2 e).2 i).2 j).2.2.2.2.2.2.1<|b_ J J (Xp ((((h.2 c).2 e).2 i).2 j).2.2.2.2.2.2.2.1)<|m_<|Zu<|hQ J ((((h.2 c).2 e).2 i).2 j).2.2.2.2.2.2.2.2
def p41(hf:PG.fn 41=some rP)(h:CZ PG K c0):∃x0:BS,K x0/\Ze PG 41 [.i .u8 c0] (.s x0):=
 P1 hf J<|Xu9 (h1 J fun _=>J) J h
end
abbrev wQ:AC:= (.seq (sR 2 [oM 6 5,oM 7 1,oT 8 .lss 6 7]<|cD 8 .skip<|.exit 0)<|.seq (.block 1<|sR 4 [oM 11 5,oO 12<|.ixS (.c<|.s gM)<|.t 11,oM 13 0,oT 14 .eql 12 13]<|cD 14 (sR 5 [oM 15 5,oM 4 15] .ret) .skip)<|.reg 3 [oM 9 5,oV 10 .add 9 1,oM 5 10])
abbrev wR:AC:= (sR 6 [oI 4<|-1] .ret)
abbrev b44:AC:= (sR 0 [oI 4 0]<|.seq (sR 1 [oI 5 0]<|.block 0<|.loop wQ) wR)
def rQ:AF:= { nt:=16,res:=[.tmp 4],body:=b44 }
abbrev Yqh(PG:Zb)(d:Nat)(Q:Q0)(c0 ah i5:Int):Prop:=
  ∀(U:Sl)(st:St),U 0=.i .u8 c0->U 1=.i .i64 ah->U 5=.i .i64 i5->W PG d (.loop wQ) U st (Zs 0 (Zk PG d wR Q))
def DJ(PG:Zb)(K:Int->Prop):Prop:=
  K (-1)
section
variable(PG:Zb)(K:Int->Prop)
def rV(P0:Int->Prop)(c0 ah i5:Int):Prop:=
  (i5<ah->0<=i5/\∃c:UInt8,([48,49,50,51,52,53,54,55,56,57,97,98,99,100,101,102]:BS)[(i5).toNat]?=some c/\((c.toNat:Int)=c0->K i5)/\(¬((c.toNat:Int)=c0)->P0 (IntKind.i64.wrap (i5+1))))/\(¬(i5<ah)->DJ PG K )
def DI(c0 ah:Int):Prop:=
  ∀P0:Int->Prop,(∀(i5:Int),rV PG K P0 c0 ah i5->P0 i5)->P0 0
end
section
variable{K:Int->Prop}(hQ:H1 (AV.i .i64) 4 Q K)
variable{c0 ah i5:Int}{P0:Int->Prop}
variable(aD :∀(i5:Int),P0 i5->Yqh PG d Q c0 ah i5)(H0:U 0=.i .u8 c0)(H1:U 1=.i .i64 ah)(H5:U 5=.i .i64 i5)
include hQ in
theorem Xl1(h:DJ PG K):W PG d wR U st Q:=
 au trivial
include hQ aD H0 H1 H5 in
theorem Xgg(h:rV PG K P0 c0 ah i5):W PG d wQ U st (Zk PG d (.loop wQ) (Zs 0 (Zk PG d wR Q))):=
 au @Xl1
def Xh8(h:DI PG K c0 ah):W PG d b44 U st Q:=
 q_ J<|m_<|e_<|Zl<|q_ J<|m_<|e_<|Yg<|h (Yqh PG d Q c0 ah) (fun _ hb _ _ H0 H1 H5=>W.loop<|Xgg hQ (fun _ x=>x) H0 H1 H5 hb) _ _ H0 H1 J
def p44(hf:PG.fn 44=some rQ)(h:DI PG K c0 ah):∃x0:Int,K x0/\Ze PG 44 [.i .u8 c0,.i .i64 ah] (.i .i64 x0):=
 P1 hf J<|Xh8 (h1 J fun _=>J) J J h
end
end Go.AM
