/- Parts of the proof: Am10, Am11, Am12, Am13, Am14, Am15, Am16, AmL, Am17, Am18, AmB, B0, D38, D38f, Pk. -/
import Derived.Test.YtheacfnopahmjaaGreatDoorG0
import Derived.Great.BuildSlice
import Derived.Laws.StructEq
import Derived.LaidEqlPtr
import Derived.Lib.Builder
import Derived.Orders
import Derived.Lib.SmallJoins
import Derived.Lib.SlBytesConst
import Derived.LoopN
import Derived.ScopeJumps
import Derived.Shelf.Strings.Builder1
set_option linter.all false
namespace Go.AM
open Go Go.RowKit
section
variable{P:Program}{G:Gh}{w0 w:World}{st:St}
theorem R0{rows:List (List AV)}{size:Nat}(h:rows.all (·.length==size)=true):∀row∈rows,row.length=size:=by intro row hr;have:=jU.1 h row hr;simpa using this
theorem R3(hR:Yy G w0 st w){t t2 ty e:TypeId}{d2:TypeDesc}{ti:TypeInfo}{z:Value}(ht:P.underlying t=some (.slice e))(eW:P.underlying t2=some d2)(cK:d2=.string\/∃e2,d2=.slice e2)(hi:P.info? e=some ti)(hz:ti.zero=some z)(dL:z.cells.size=ti.size)
  {s:AV}{vs vx:Value}{news:List (List AV)}{us:Nat->Nat->Value}(bM:(∀row∈news,row.length=ti.size)->Ma P G.H w vx ti.size news us)
  {d site ver:Nat}(hT:Wo<=site->e=Mx G.fm) (hω:G.ω (d,site) ver=none) (hv:ver<st.nx){r:AV}{aA:St}(h:Gv (d,site) ver ti.size ti.bytes s news st=some (r,aA)) (hs:R G s vs) :
  ∃v w' G',(Builtin.append_ #[t,t2] ty #[vs,vx]).run P w=.ok v w'/\R G' r v/\Vq G G' w0 st aA w' d site ver:=by
 unfold Gv at h;revert hs;split at h
 ·rename_i o rows;intro hs;split at h
  ·rename_i hc;obtain⟨hb,hl,aI,eA,eM⟩:=hc;have eA:=R0 eA;have eM:=R0 eM;have bM:=bM eM;obtain⟨A,cap,rfl,hF,ho⟩:=hs.sl_inv;have bA:=(hF.cells_of eA).2.1;have lx:rows.length+news.length<=9223372036854775807:=by unfold Qt at hl;omega
   have fL:(rows.length+news.length)*ti.bytes<=2 ^ 47:=by unfold Qt at hb;omega
   split at h
   ·rename_i iT;cases h;have hn:news=[]:=by simpa using iT
    subst hn;have aO:=R4 (ty:=ty) ht eW cK hi (base:=A) (n:=rows.length) (cap:=cap) (bM.len w) (bM.first w rfl) (by simpa using bA);refine⟨.slice A rows.length cap,w,G,?_,.sl o rows A _ cap hF ho,Vq.same hR⟩;rw[aO];cases A<;>simp[Va,storeCells]
   ·rename_i iT
    have hm:0<news.length:=by
     rcases zX news.length with h0|h0
     ·exact absurd (by simpa using h0) iT
     ·exact h0
    split at h
    ·cases h
    ·cases h;obtain⟨R5,_⟩:=ho;exact R6 hR ht eW cK hi hz dL hF eA eM bM aI (by omega) lx fL hT hω hv (my _ _ _) (fun k x hk hl=>by rw[Ci _ _<|Ne.symm hk]at hl;exact hl)
    ·rename_i k v;split at h
     ·rename_i v' n bN;split at h
      ·rename_i hc;obtain⟨rfl,rfl,me,bO⟩:=hc
       have hB:Wo<=site->Wo<=k.2:=fun h1=>by
        rcases bO with h2|h2
        ·exact absurd h1 (Nat.not_le.2 h2)
        ·exact h2
       cases h;obtain⟨g,size,mz,rfl,aE⟩:=ho
       have bF:size=ti.size:=by
        have h0:rows[0]?=some rows[0]:=kH me;rw[<- (aE 0 _ h0).1,eA _<|kL me]
       subst bF;by_cases eX:rows.length+news.length<=cap
       ·exact Wdm hR ht eW cK hi hF eA eM bM bN mz eX hB hω hv me
       ·refine R6 hR ht eW cK hi hz dL hF eA eM bM aI (by omega) lx fL hT hω hv (my _ _ _) (fun k x hk hl=>?_);rw[Ci _ _<|Ne.symm hk,Tb]at hl;split at hl
        ·cases hl
        ·exact hl
      ·cases h
     ·cases h
  ·cases h
 ·cases h
theorem AJ(off:Nat):∀(vs:List Value) (k:Nat) (cells:Array Value),((vs.zipIdx k).foldl (fun cs x=>cs.setIfInBounds (off+x.2) x.1) cells).size=cells.size/\
  ∀q:Nat,q<cells.size->((vs.zipIdx k).foldl (fun cs x=>cs.setIfInBounds (off+x.2) x.1) cells)[q]?=if off+k<=q/\q<off+k+vs.length then vs[q-(off+k)]? else cells[q]?
 |[],k,cells=>by simp;omega
 |v::r,k,cells=>by
  obtain⟨h1,h2⟩:=AJ off r (k+1) (cells.setIfInBounds (off+k) v);simp only[List.zipIdx_cons,List.foldl_cons];refine⟨by rw[h1];simp,fun q hq=>?_⟩;rw[h2 q<|by simpa using hq];by_cases R7:q=off+k
  ·subst R7;rw[kA<|by omega,kC<|by simp];simp[hq]
  ·by_cases h3:off+(k+1)<=q/\q<off+(k+1)+r.length
   ·rw[kC h3,kC (by simp;omega)];have:q-(off+k)=(q-(off+(k+1)))+1:=by omega
    rw[this,zN]
   ·rw[kA h3,kA (by simp;omega),Array.getElem?_setIfInBounds_ne<|Ne.symm R7]
theorem R8(off:Nat)(us:List Value)(cells:Array Value):(us.toArray.zipIdx.foldl (fun cs x=>cs.setIfInBounds (off+x.2) x.1) cells)=(us.zipIdx 0).foldl (fun cs x=>cs.setIfInBounds (off+x.2) x.1) cells:=by simp
def Parts(G:Gh)(U:Sl)(place:Nat->Option (Nat × Nat)):List (Nat × Value)->List (Nat × Nat × Zw)->Prop
 |[],[]=>True
 |(i,v)::r,(off,n,x)::s=>place i=some (off,n)/\R G (x.ev U) v/\Parts G U place r s
 |_,_=>False
theorem R9{U:Sl}{place:Nat->Option (Nat × Nat)}:∀{vs:List (Nat × Value)}{xs:List (Nat × Nat × Zw)},Parts G U place vs xs->∀{cs cs':List AV}{us:List Value},Rs G cs us->Ve U cs xs=some cs'->
  ∃cF:List Value,Instr.fill place us.toArray vs=some cF.toArray/\Rs G cs' cF
 |[],[],_,cs,cs',us,hr,h=>by cases h;exact⟨us,rfl,hr⟩
 |(i,v)::r,(off,n,x)::s,hp,cs,cs',us,hr,h=>by
  obtain⟨ly,hx,fM⟩:=hp;unfold Ve at h;dsimp only at h;split at h
  ·rename_i hc;obtain⟨hn,hle,cT⟩:=hc;obtain⟨xs,qH,hY,R_,_⟩:=hx.cells cT;have hZ:=hr.setAt_ hY (o:=off) (by omega);have mA:=hr.1
   have e1:(v.cells.zipIdx.foldl (fun cs x=>cs.setIfInBounds (off+x.2) x.1) us.toArray)=(us.take off++xs++us.drop (off+xs.length)).toArray:=by
    rw[qH,R8];obtain⟨a1,a2⟩:=AJ off xs 0 us.toArray;apply zM;apply List.ext_getElem?;intro q;rw[zY];by_cases hq:q<us.length
    ·rw[a2 q<|by simpa using hq];simp only[zV];rw[jD,zC];simp only[kW];have AK:min off us.length=off:=by omega
     rw[AK];by_cases h1:q<off
     ·rw[kA<|by omega,kC h1,zD,kC h1];simp
     ·by_cases h2:q<off+xs.length
      ·rw[kC ⟨by omega,h2⟩,kA h1,zC,kC<|by omega]
      ·rw[kA<|by omega,kA h1,zC,kA<|by omega,zI];simp only[yH]
       congr 1
       omega
    ·rw[Array.getElem?_eq_none (by rw[a1];simpa using hq),kT (by simp;omega)]
   obtain⟨cF,h1,h2⟩:=R9 fM hZ h;refine⟨cF,?_,h2⟩;simp only[Instr.fill,ly];rw[kA]
   ·rw[e1];exact h1
   ·simp only[qH,List.size_toArray,ne_eq,gt_iff_lt,Bool.or_eq_true,jA,not_or,kP,Nat.not_lt,decide_not,Bool.not_eq_eq_eq_not,Bool.not_true,zS];omega
  ·cases h
theorem SA{t:TypeId}{i:TI}(hT:Qe P t i){U:Sl}{vs:List (Nat × Value)}{xs:List (Nat × Nat × Zw)}{place:Nat->Option (Nat × Nat)}(hp:Parts G U place vs xs){r:AV}(h:(Ve U i.zero xs).map AV.ag=some r)
  (hb :∀z ti,P.info? t=some ti->ti.zero=some z->P.built t vs=Instr.fill place z.cells vs):∃v,(Instr.build t vs.toArray).run P w=.ok v w/\R G r v:=by obtain⟨ti,z,hi,_,_,hz,hc,_⟩:=hT.info;simp only[kN]at h;obtain⟨cs',cR,rfl⟩:=h;obtain⟨cF,h1,h2⟩:=R9 hp (Es hc) cR;rw[Array.toArray_toList]at h1;exact⟨_,run_build w t vs.toArray cF.toArray (by rw[hb z ti hi hz];exact h1),.ag _ _ h2.1 h2.2⟩
theorem SB{t:TypeId}{i:TI}(hT:Qe P t i){zs:List AV}(hs:Ji i.zero=some zs):∃ti z,P.info? t=some ti/\ti.size=i.size/\ti.bytes=i.bytes/\ti.zero=some z/\z.cells.size=i.size/\zs.length=i.size/\(∀(j:Nat) y u,zs[j]?=some y->z.cells[j]?=some u->Fz G.H y u/\u.oneCell'=true):=by obtain⟨ti,z,hi,h1,h2,hz,hc,aM⟩:=hT.info;have hl:=(Es (G:=G) hc).1;refine⟨ti,z,hi,h1,h2,hz,aM,by rw[Cr hs,hl];simpa using aM,fun j y u hy hu=>?_⟩;rw[<- zY]at hu;exact⟨Ph hs (Es hc) j y u hy hu,AL hc u<|jP hu⟩
structure Nc(H:Hp)(rows:List (List AV))(size:Nat)(cs:Array Value):Prop where
 sz:cs.size=rows.length*size
 len :∀row∈rows,row.length=size
 at_ :∀(i:Nat) row (j:Nat) a,rows[i]?=some row->row[j]?=some a->∃v,cs[i*size+j]?=some v/\Fz H a v/\v.oneCell'=true
theorem Xk4(z:Array Value)(n q:Nat)(h:q<n)(hz:0<z.size):(madeCells z n)[q]?=z[q % z.size]?:=by unfold madeCells;simp only[Array.getElem?_map];rw[Array.getElem?_range,kC h];have:=Nat.mod_lt q hz;simp[getElem!_pos,this]
theorem Nc.made{zs:List AV}{z:Array Value}{n:Nat}(fC:zs.length=z.size)(hz:0<z.size)(fD :∀(j:Nat) y u,zs[j]?=some y->z[j]?=some u->Fz G.H y u/\u.oneCell'=true):Nc G.H (List.replicate n zs) z.size (madeCells z<|n*z.size):=by
 refine⟨by rw[size_madeCells];simp,fun row hr=>by rw[(List.mem_replicate.1 hr).2,fC],fun i row j a h1 h2=>?_⟩;rw[List.getElem?_replicate]at h1;split at h1
 ·rename_i hi;cases h1
  have hj:j<z.size:=by
   rw[<- fC];rcases jF j zs.length with h|h
   ·exact h
   ·rw[kT h]at h2;cases h2
  have aK:i*z.size+j<n*z.size:=by
   have:(i+1)*z.size<=n*z.size:=yC _ (by omega);rw[Nat.succ_mul]at this;omega
  refine⟨z[j],?_,fD j a z[j] h2<|zK hj⟩;rw[Xk4 _ _ _ aK hz,(SC (i:=i) hj).2,zK hj]
 ·cases h1
theorem Nc.step(hR:Yy G w0 st w){rows:List (List AV)}{size:Nat}{cs:Array Value}(h:Nc G.H rows size cs){e:TypeId}{d site ver:Nat}:
  ∃G',R G' (.sl .full rows) (.slice (some ⟨w.heap.size,0,none⟩) rows.length rows.length)/\Vq G G' w0 st st (w.alloc<|.cells cs e) d site ver:=by
 have fD :∀(i:Nat) row (j:Nat) a,rows[i]?=some row->row[j]?=some a->cs[i*size+j]?=some ((fun i j=>cs.getD (i*size+j) undef) i j)/\Fz G.H a ((fun i j=>cs.getD (i*size+j) undef) i j)/\((fun i j=>cs.getD (i*size+j) undef) i j).oneCell'=true:=by
  intro i row j a h1 h2;obtain⟨v,h3,h4⟩:=h.at_ i row j a h1 h2;have:cs.getD (i*size+j) undef=v:=by simp[jM,h3]
  simp only[this];exact⟨h3,h4⟩
 obtain⟨h1,h2⟩:=AN (w1:=w) hR h.len (us:=fun i j=>cs.getD (i*size+j) undef) (fun i row j a x y=>(fD i row j a x y).2.1) (fun i row j a x y=>(fD i row j a x y).2.2) (cs:=cs) (e:=e)
  (fun q v hq=>by
   rw[Mi]at hq;split at hq
   ·rename_i aK;cases hq
    have aI:0<size:=by
     rcases zX size with h|h
     ·subst h;simp at aK
     ·exact h
    have:q / size*size+q % size=q:=by have:=Nat.div_add_mod q size;rw[yL];exact this
    simp only[this];have gW:q<cs.size:=by rw[h.sz];exact aK
    rw[zK gW];simp[jM,zK gW]
   ·cases hq) rfl (Below.refl _ _) rows.length (kU _) (d:=d) (site:=site) (ver:=ver)
 exact⟨_,.sl .full rows _ _ _ h2 ⟨rfl,.inr ⟨_,rfl⟩⟩,h1⟩
def qI(G:Gh)(U:Sl):List (Nat × Value)->List (Nat × Zw)->Prop
 |[],[]=>True
 |(i,v)::r,(i',x)::s=>i=i'/\R G (x.ev U) v/\qI G U r s
 |_,_=>False
theorem Xdd{x y:AV}(h:x.soft=some y):x.one=true:=by cases x<;>first|rfl|cases h
theorem AO:∀{xs ys:List AV},Ji xs=some ys->xs.all AV.one=true
 |[],_,_=>rfl
 |v::r,ys,h=>by
  unfold Ji at h;split at h
  ·rename_i w l hw hl;simp only[List.all_cons,Xdd hw,AO hl,Bool.and_self]
  ·cases h
theorem SE{U:Sl}{z:List AV}:∀{vs:List (Nat × Value)}{xs:List (Nat × Zw)},qI G U vs xs->∀{rows aG:List (List AV)}{cs:Array Value},Nc G.H rows z.length cs->Vd z U rows xs=some aG->
  ∃cs':Array Value,Instr.fill (fun i=>some (i*z.length,z.length)) cs vs=some cs'/\Nc G.H aG z.length cs'/\aG.length=rows.length
 |[],[],_,rows,aG,cs,hr,h=>by cases h;exact⟨cs,rfl,hr,rfl⟩
 |(i,v)::r,(i',x)::s,hp,rows,aG,cs,hr,h=>by
  obtain⟨rfl,hx,fM⟩:=hp;unfold Vd at h;split at h
  ·rename_i ys cL;split at h
   ·rename_i hc;obtain⟨hi,hl⟩:=hc;obtain⟨us,eY,hru,SG,h1⟩:=hx.cells (AO cL);have mA:us.length=z.length:=by rw[SG,<- Cr cL,hl]
    have bK:(i+1)*z.length<=rows.length*z.length:=yC _ (by omega);rw[Nat.succ_mul]at bK;obtain⟨a1,a2⟩:=AJ (i*z.length) us 0 cs
    have h_:Nc G.H (rows.set i ys) z.length (us.toArray.zipIdx.foldl (fun cs x=>cs.setIfInBounds (i*z.length+x.2) x.1) cs):=by
     rw[R8];refine⟨by rw[a1,hr.sz];simp,fun row aE=>?_,fun i2 row j a h2 h3=>?_⟩
     ·rcases List.mem_or_eq_of_mem_set aE with h|rfl
      ·exact hr.len row h
      ·exact hl
     ·rw[List.getElem?_set]at h2;split at h2
      ·rename_i AP;subst AP;cases h2
       have hj:j<z.length:=by
        rw[<- hl];rcases jF j ys.length with h|h
        ·exact h
        ·rw[kT h]at h3;cases h3
       have AQ:j<us.length:=by omega
       refine⟨us[j],?_,Ph cL hru j a us[j] h3<|kH AQ,h1 _<|kL AQ⟩;rw[a2 _ (by rw[hr.sz];omega),kC<|by omega];rw[show i*z.length+j-(i*z.length+0)=j from by omega];exact kH AQ
      ·rename_i AP;obtain⟨u,h4,h5⟩:=hr.at_ i2 row j a h2 h3;refine⟨u,?_,h5⟩
       have aK:i2*z.length+j<cs.size:=by
        rcases jF (i2*z.length+j) cs.size with h|h
        ·exact h
        ·rw[Array.getElem?_eq_none h]at h4;cases h4
       have hj:j<z.length:=by
        rw[<- hr.len row (jP h2)];rcases jF j row.length with h|h
        ·exact h
        ·rw[kT h]at h3;cases h3
       rw[a2 _ aK,kA]
       ·exact h4
       ·rintro⟨h6,h7⟩;rw[mA]at h7;apply AP;rcases Nat.lt_trichotomy i i2 with h8|h8|h8
        ·have:(i+1)*z.length<=i2*z.length:=yC _ h8;rw[Nat.succ_mul]at this;omega
        ·exact h8
        ·have:(i2+1)*z.length<=i*z.length:=yC _ h8;rw[Nat.succ_mul]at this;omega
    obtain⟨cs',h6,h7,h8⟩:=SE fM h_ h;refine⟨cs',?_,h7,by rw[h8];simp⟩;simp only[Instr.fill];rw[kA]
    ·rw[eY];exact h6
    ·simp only[eY,List.size_toArray,ne_eq,gt_iff_lt,Bool.or_eq_true,jA,not_or,kP,Nat.not_lt,decide_not,Bool.not_eq_eq_eq_not,Bool.not_true,zS];have:=hr.sz;omega
   ·cases h
  ·cases h
theorem Xf5(hR:Yy G w0 st w){t e:TypeId}(ht:P.underlying t=some (.slice e)){i:TI}(hT:Qe P e i){n:Nat}{U:Sl}{vs:List (Nat × Value)}{xs:List (Nat × Zw)}(hp:qI G U vs xs){key:Zt}{ver:Nat}{r:AV}(h:Yp key ver U (.bslice i.zero n xs)=some r){d site ver':Nat}:
  ∃v w' G',(Instr.buildSlice t n vs.toArray).run P w=.ok v w'/\R G' r v/\Vq G G' w0 st st w' d site ver':=by
 simp only[Yp]at h;split at h
 ·rename_i z hz;split at h
  ·rename_i hc;obtain⟨aI,mB⟩:=hc;simp only[kN]at h;obtain⟨rows,aZ,rfl⟩:=h;obtain⟨ti,zv,hi,aM,_,mC,dL,fC,fD⟩:=SB (G:=G) hT hz
   have fO:Nc G.H (List.replicate n z) z.length (madeCells zv.cells<|n*zv.cells.size):=by
    have:=Nc.made (G:=G) (zs:=z) (z:=zv.cells) (n:=n) (by rw[fC,dL]) (by rw[dL,<- fC];exact aI) fD;rw[show zv.cells.size=z.length from by rw[fC,dL]]at this⊢;exact this
   obtain⟨cs',h1,h2,h3⟩:=SE hp fO aZ;rw[List.length_replicate]at h3;obtain⟨G',h4,h5⟩:=h2.step hR (e:=e) (d:=d) (site:=site) (ver:=ver');rw[h3]at h4;refine⟨_,_,G',?_,h4,h5⟩;have hzz:z.length=ti.size:=by rw[fC,aM]
   rw[hzz]at h1 aI mB;by_cases hn:n=0
   ·subst hn;simp only[Nat.zero_mul]at h1;have hm:madeCells zv.cells 0=#[]:=by simp[madeCells,Array.range_zero']
    rw[hm]at h1;have hzr:(Array.range 0).map (zv.cells[· % zv.cells.size]!)=#[]:=by simp[Array.range_zero']
    simp only[Instr.buildSlice,jN,run_underlying ht,jG,sizeOf,typeInfo,run_program,hi,jW,Nat.zero_mul];have AR :∀zz:Array Value,(Array.range 0).map (zz[· % zz.size]!)=#[]:=fun zz=>by simp[Array.range_zero']
    simp[h1,newRow,AR]
   ·refine run_buildSlice w t e n vs.toArray cs' ti zv ht hi mC (by omega) ?_ ?_
    ·intro h0;rcases Nat.mul_eq_zero.1 h0 with h0|h0<;>omega
    ·have AS:zv.cells.size=ti.size:=by rw[dL,aM]
     unfold madeCells at h1;rw[AS]at h1⊢;exact h1
  ·cases h
 ·cases h
theorem Xew(hR:Yy G w0 st w){t e:TypeId}(ht:P.underlying t=some (.slice e)){i:TI}(hT:Qe P e i){C:Vw}{d site ver:Nat}{U:Sl}{l c:Zw}{vl vc:Value}(hl:R G (l.ev U) vl)(hc:R G (c.ev U) vc){r:AV}{aA:St}(h:Yd C d site ver U st (.mks i.zero i.bytes l c)=some (r,aA)):
  ∃v w' G',(Instr.makeSlice t vl vc).run P w=.ok v w'/\R G' r v/\Vq G G' w0 st aA w' d site ver:=by
 simp only[Yd]at h;split at h
 ·rename_i n n' hn mD;split at h
  ·rename_i z hz;split at h
   ·rename_i aN;obtain⟨rfl,hb,hm,aI⟩:=aN;cases h;obtain⟨ti,zv,hi,aM,mE,mC,dL,fC,fD⟩:=SB (G:=G) hT hz;obtain⟨k1,rfl⟩:=Sd hn hl;obtain⟨k2,rfl⟩:=Sd mD hc;have fO:=Nc.made (G:=G) (zs:=z) (z:=zv.cells) (n:=n) (by rw[fC,dL]) (by rw[dL,<- fC];exact aI) fD;obtain⟨G',h4,h5⟩:=fO.step hR (e:=e) (d:=d) (site:=site) (ver:=ver);rw[List.length_replicate]at h4;refine⟨_,_,G',?_,h4,h5⟩;unfold Qt at hb hm
    have mF:((ti.bytes:Nat):Int)*(n:Int)<=281474976710656:=by
     rw[mE,<- Int.natCast_mul,yL];omega
    have aO:=run_make (P:=P) w t e ti zv ht hi mC k1 k2 (n:Int) (n:Int) (by omega) (Int.le_refl _) mF (by omega);simp only[Int.toNat_natCast]at aO;rw[aO,show ti.size=zv.cells.size from by rw[dL,aM]]
   ·cases h
  ·cases h
 ·cases h
end
end Go.AM

namespace Go.AM
open Go Go.RowKit
structure Cx where
 T:Vn
 fm:FM
 ptr:Nat->Bool
 fz:List Nat:=[]
def Cx.kind(X:Cx)(t:TypeId):Option TK:=(X.T t).map (·.kind)
def qJ(X:Cx)(fs:List (Nat × Nat)):List (Nat × Operand)->Option (List<|Nat × Nat × Zw)
 |[]=>some []
 |(i,x)::r=>match fs[i]?,Vb X.fm x,qJ X fs r with
  |some (ft,off),some y,some l=>(match X.T ft with|some ti=>some ((off,ti.size,y)::l)|none=>none)
  |_,_,_=>none
def qK(X:Cx)(size n:Nat):List (Nat × Operand)->Option (List<|Nat × Nat × Zw)
 |[]=>some []
 |(i,x)::r=>match Vb X.fm x,qK X size n r with
  |some y,some l=>some ((i*size,size,y)::l)
  |_,_=>none
def qL(X:Cx):List (Nat × Operand)->Option (List<|Nat × Zw)
 |[]=>some []
 |(i,x)::r=>match Vb X.fm x,qL X r with
  |some y,some l=>some ((i,y)::l)
  |_,_=>none
def Fe(i:TI):Bool:=i.kind.agg||i.size==1
def mG(X:Cx)(b:Builtin)(args:List Operand)(Nl:List TypeId):Option Vu:=
 match b,args,Nl with
 |.len,[x],[t]=>match X.kind t,Vb X.fm x with
  |some .str,some y=>some (.len true y)
  |some (.sl _),some y=>some (.len false y)
  |_,_=>none
 |.append,[s,x],[t,t2]=>match X.kind t,X.kind t2,Vb X.fm s,Vb X.fm x with
  |some (.sl e),some (.sl _),some s,some x=>match X.T e with|some i=>some (.app i.size i.bytes s x)|none=>none
  |some (.sl e),some .str,some s,some x=>match X.T e with|some i=>if i.size=1/\i.bytes=1 then some (.appS s x)else none|none=>none
  |_,_,_,_=>none
 |.max,[x,y],_=>match Vb X.fm x,Vb X.fm y with|some x,some y=>some (.max x y)|_,_=>none
 |_,_,_=>none
def Rh(X:Cx)(callee:Callee)(args:List Operand)(Nl:List TypeId):Option Vu:=
 match callee with
 |.builtin b=>mG X b args Nl
 |.value f=>match Vb X.fm f,Ln X.fm args with
  |some (.c<|.fn c []),some l=>some (.call (X.ptr c) c l)
  |some (.t n),some l=>some (.callv (.t n) l)
  |_,_=>none
 |.invoke _ _=>none
def Ri(X:Cx):Op->Bool
 |.alloc t=>t==Gj X.fm
 |.box _ _=>false
 |.call c=>match c.callee with
  |.builtin .append=>match c.argTypes.toList with
   |t::_=>match X.kind t with|some (.sl e)=>e==Mx X.fm|_=>false
   |[]=>false
  |_=>true
 |_=>true
def AT(X:Cx)(t:Nat):Option Nat:=match X.kind t with|some (.int _)=>some 0|some .bool=>some 1|some .str=>some 2|_=>none
def Fq(X:Cx):Nat->List (Nat × Nat)->Option (List Nat)
 |_,[]=>some []
 |i,(t,o)::r=>if o=i then (match AT X t,Fq X (i+1) r with|some c,some l=>some (c::l)|_,_=>none)else none
def Vo(X:Cx):Op->Option Vu
 |.move x|.assign x=>match Vb X.fm x with|some y=>some (.mv y)|none=>none
 |.pick c a b=>match Vb X.fm c,Vb X.fm a,Vb X.fm b with|some c,some a,some b=>some (.pick c a b)|_,_,_=>none
 |.alloc t=>match X.T t with|some i=>some (.alloc i.zero)|none=>none
 |.box t x=>match X.T t,Vb X.fm x with|some i,some y=>some (.box i.size y)|_,_=>none
 |.build t parts=>match X.T t with
  |some i=>match i.kind with
   |.st fs=>match (fs.all fun f=>(X.T f.1).isSome),qJ X fs parts.toList with|true,some ps=>some (.build i.zero ps)|_,_=>none
   |.arr n e=>match X.T e with|some ie=>(match qK X ie.size n parts.toList with|some ps=>some (.build i.zero ps)|none=>none)|none=>none
   |_=>none
  |none=>none
 |.buildSlice t n parts=>match X.kind t with
  |some (.sl e)=>match X.T e,qL X parts.toList with|some i,some ps=>some (.bslice i.zero n ps)|_,_=>none
  |_=>none
 |.load t a=>match X.T t,Vb X.fm a with|some i,some y=>if Fe i then some (.load i.size i.kind.agg y)else none|_,_=>none
 |.store t a x=>match X.T t,Vb X.fm a,Vb X.fm x with|some i,some y,some z=>some (.store i.size y z)|_,_,_=>none
 |.nilCheck x=>match Vb X.fm x with|some y=>some (.nilc y)|none=>none
 |.binOp op t x y _=>match X.kind t,Vb X.fm x,Vb X.fm y with
  |some (.int _),some x,some y=>some (.bin op x y)
  |some .str,some x,some y=>some (.bin op x y)
  |some .bool,some x,some y=>match op with|.eql=>some (.beq false x y)|.neq=>some (.beq true x y)|_=>none
  |some (.ptr _),some x,some y=>match op with|.eql=>some (.peq false x y)|.neq=>some (.peq true x y)|_=>none
  |some (.st fs),some x,some y=>(match Fq X 0 fs with|some ks=>(match op with|.eql=>some (.aeq false ks x y)|.neq=>some (.aeq true ks x y)|_=>none)|none=>none)
  |_,_,_=>none
 |.unOp op _ x=>match Vb X.fm x with|some y=>some (.un op y)|none=>none
 |.convert s d x=>match X.kind s,X.kind d,Vb X.fm x with
  |some (.int _),some (.int k),some y=>some (.cvi k y)
  |some (.sl e),some .str,some y=>match X.kind e with|some (.int .u8)=>some (.b2s y)|_=>none
  |some (.ptr e),some .uptr,some y=>match X.T e with|some i=>if e=Gj X.fm/\0<i.size then some (.cvp i.size y)else none|none=>none
  |some .uptr,some (.ptr e),some y=>match X.T e with|some i=>if e=Gj X.fm/\0<i.size then some (.cvp i.size y)else none|none=>none
  |_,_,_=>none
 |.makeFunc (.func f) first cap=>match X.fm f,first.toList,Ln X.fm cap.toList with|some c,[],some l=>some (.mkfn c l)|some c,x::y,some []=>(match Ln X.fm (x::y)with|some l=>some (.mkbf c l)|none=>none)|_,_,_=>none
 |.makeSlice t l c=>match X.kind t,Vb X.fm l,Vb X.fm c with
  |some (.sl e),some l,some c=>match X.T e with|some i=>some (.mks i.zero i.bytes l c)|none=>none
  |_,_,_=>none
 |.slice t x lo hi none=>match X.kind t,Vb X.fm x,Ig X.fm lo,Ig X.fm hi with
  |some .str,some x,some lo,some hi=>some (.slS x lo hi)
  |some (.sl e),some x,some lo,some hi=>match X.T e with|some i=>some (.slL i.size x lo hi)|none=>none
  |some (.arr n e),some x,some lo,some hi=>match X.T e with|some i=>some (.slA n i.size x lo hi)|none=>none
  |_,_,_,_=>none
 |.fieldAddr s x f=>match X.kind s,Vb X.fm x with
  |some (.st fs),some y=>match fs[f]? with
   |some (ft,off)=>match X.T ft with|some i=>if i.size=0 then none else some (.fad off y)|none=>none
   |none=>none
  |_,_=>none
 |.field s x f=>match X.kind s,Vb X.fm x with
  |some (.st fs),some y=>match fs[f]? with
   |some (ft,off)=>match X.T ft with|some i=>if Fe i then some (.fld off i.size i.kind.agg y)else none|none=>none
   |none=>none
  |_,_=>none
 |.indexAddr t x i=>match X.kind t,Vb X.fm x,Vb X.fm i with
  |some (.sl e),some x,some y=>match X.T e with|some i=>some (.iaL i.size x y)|none=>none
  |some (.arr n e),some x,some y=>match X.T e with|some i=>some (.iaA n i.size x y)|none=>none
  |_,_,_=>none
 |.index t x i=>match X.kind t,Vb X.fm x,Vb X.fm i with
  |some .str,some x,some y=>some (.ixS x y)
  |some (.arr n e),some x,some y=>match X.T e with|some i=>if Fe i then some (.ixA n i.size i.kind.agg x y)else none|none=>none
  |_,_,_=>none
 |.extract x k=>match Vb X.fm x with|some y=>some (.ext k y)|none=>none
 |.lookup t x i c=>match c,X.kind t,Vb X.fm x,Vb X.fm i with|false,some .mp,some x,some i=>some (.lkp x i)|_,_,_,_=>none
 |.call c=>Rh X c.callee c.args.toList c.argTypes.toList
 |_=>none
section
variable{P:Program}{G:Gh}{w0 w:World}{st:St}{X:Cx}
theorem Jh(hT:Kw P X.T){t:TypeId}{k:TK}(h:X.kind t=some k):∃i,X.T t=some i/\i.kind=k/\Qe P t i/\k.ok P t:=by unfold Cx.kind at h;simp only[kN]at h;obtain⟨i,hi,rfl⟩:=h;exact⟨i,hi,rfl,hT t i hi,(hT t i hi).kind⟩
theorem Qe.ti{t:TypeId}{i:TI}(h:Qe P t i):∃ti,P.info? t=some ti/\ti.size=i.size/\ti.bytes=i.bytes:=by obtain⟨ti,z,h1,h2,h3,_⟩:=h.info;exact⟨ti,h1,h2,h3⟩
theorem qM{i:TI}(h:Fe i=true):i.kind.agg=false->i.size=1:=by intro ha;unfold Fe at h;rw[ha]at h;simpa using h
theorem Xfb(hT:Kw P X.T){t c:Nat}(hk:AT X t=some c){a b:AV}{u v:Value}{x:Bool}(h:Ok c a b=some x)(ha:R G a u)(hb:R G b v)(d:Nat):
  (Op.equalIn (d+1) t u v).run P w=.ok x w/\(isAgg t).run P w=.ok false w:=by
 unfold AT at hk;split at hk
 ·rename_i k bL;cases hk;obtain⟨_,_,_,_,hu⟩:=Jh hT bL;refine⟨?_,Cq (k:=.int k) hu⟩;unfold Ok at h;split at h
  ·split at h
   ·rename_i eB;subst eB;cases h;rw[ha.int_inv,hb.int_inv];exact run_equalIn_int w d t _ k _ _ hu
   ·cases h
  ·rename_i e;cases e
  ·rename_i e;cases e
  ·cases h
 ·rename_i bL;cases hk;obtain⟨_,_,_,_,hu⟩:=Jh hT bL;refine⟨?_,Cq (k:=.bool) hu⟩;unfold Ok at h;split at h
  ·rename_i e;cases e
  ·cases h;rw[ha.bool_inv,hb.bool_inv];exact run_equalIn_bool' w d t _ _ hu
  ·rename_i e;cases e
  ·cases h
 ·rename_i bL;cases hk;obtain⟨_,_,_,_,hu⟩:=Jh hT bL;refine⟨?_,Cq (k:=.str) hu⟩;unfold Ok at h;split at h
  ·rename_i e;cases e
  ·rename_i e;cases e
  ·cases h;rw[ha.str_inv,hb.str_inv,run_equalIn_string w d t _ _ hu];rw[ByteArray.toList_eq,ByteArray.toList_eq]
  ·cases h
 ·cases hk
theorem SH (hT:Kw P X.T) {us vs:List Value} {cs ds:List AV} (h1:Rs G cs us) (h2:Rs G ds vs) (d:Nat) :∀(fields:List Field) (i:Nat) (ks:List Nat) (b:Bool),(∀f∈fields,(f.name== "_")=false)->Fq X i (fields.map fun f=>(f.type,f.offset))=some ks->Lv ks (cs.drop i) (ds.drop i)=some b->
  (Op.eqFields (d+1) us.toArray vs.toArray fields).run P w=.ok b w
 |[],i,ks,b,_,hf,hc=>by
  cases hf;unfold Lv at hc;split at hc
  ·cases hc;simp[Op.eqFields]
  ·rename_i e _ _;cases e
  ·cases hc
 |f::r,i,ks,b,hn,hf,hc=>by
  simp only[jB,Fq]at hf;split at hf
  case isFalse=>cases hf
  rename_i mH;split at hf
  case h_2=>cases hf
  rename_i c l mI hl;cases hf;unfold Lv at hc;split at hc
  ·rename_i e _ _;cases e
  ·rename_i c' q a r1 b1 t1 e ea eb;cases e;split at hc
   case h_2=>cases hc
   rename_i x y hx hy;cases hc;have ga:cs[i]?=some a:=by have:=jC List.head? ea;simpa[List.head?_drop]using this
   have gb:ds[i]?=some b1:=by have:=jC List.head? eb;simpa[List.head?_drop]using this
   have la:i<us.length:=by rw[<- h1.1];exact(jQ.1 ga).1
   have lb:i<vs.length:=by rw[<- h2.1];exact(jQ.1 gb).1
   have gu:us[i]?=some us[i]:=kH la;have gv:vs[i]?=some vs[i]:=kH lb;obtain⟨q1,q2⟩:=Xfb (P:=P) (w:=w) hT mI hx (h1.2 i a _ ga gu) (h2.2 i b1 _ gb gv) d;have ra:cs.drop (i+1)=r1:=by have:=jC List.tail ea;simpa[List.tail_drop]using this
   have rb:ds.drop (i+1)=t1:=by have:=jC List.tail eb;simpa[List.tail_drop]using this
   have ih:=SH hT h1 h2 d r (i+1) l y (fun f hf=>hn f (jJ _ hf)) hl (by rw[ra,rb];exact hy);have hnm:f.name≠ "_":=fun e=>by have:=hn f jI;rw [e] at this;cases this
   have p1:(part f.type us.toArray f.offset).run P w=.ok us[i] w:=by
    rw[mH];simp only[part,jN,q2,jG,jL,jT,yH,gu,jW]
   have p2:(part f.type vs.toArray f.offset).run P w=.ok vs[i] w:=by
    rw[mH];simp only[part,jN,q2,jG,jL,jT,yH,gv,jW]
   rw[Op.eqFields,kC hnm];simp only[jN,p1,p2,q1,jG];cases x
   ·simp
   ·simpa using ih
  ·cases hc
theorem Xqr(hT:Kw P X.T){t:TypeId}{fs:List (Nat × Nat)}{ks:List Nat}(hk:X.kind t=some (.st fs))(hf:Fq X 0 fs=some ks){cs ds:List AV}{b:Bool}(h:Lv ks cs ds=some b){u v:Value}(hu:R G (.ag cs) u)(hv:R G (.ag ds) v)(neg:Bool)(x y:Operand):
  ((do eqGuard (if neg then .neq else .eql) t x y u v;binOp (if neg then .neq else .eql) t u v):Sem Value).run P w=.ok (.bool<|if neg then !b else b) w:=by
 obtain⟨_,_,_,_,fields,mJ,c_,hs,hg,hn⟩:=Jh hT hk;obtain⟨us,rfl,h1⟩:=hu.ag_inv;obtain⟨vs,rfl,h2⟩:=hv.ag_inv;have SI:P.fieldsOf t=fields:=by unfold Program.fieldsOf;rw[mJ]
 have e:(Op.equalIn 10000 t (.agg us.toArray)<|.agg vs.toArray).run P w=.ok b w:=by
  rw[run_equalIn_struct w 9999 t _ _ (by rw[SI];exact mJ) hs,SI];exact SH hT h1 h2 9998 fields.toList 0 ks b hn (by rw[c_];exact hf) h
 cases neg
 ·simp only[jL,jT,jN,run_eqGuard_agg w _ t x y _ _ hg,jG,run_eql_struct,e]
 ·simp only[jS,jN,run_eqGuard_agg w _ t x y _ _ hg,jG,run_neq_struct,e]
theorem Xr8(a b:BS):((⟨a.toArray⟩:ByteArray)==⟨b.toArray⟩)=(a==b):=by rw[beq_toListBytes,ByteArray.toList_eq,ByteArray.toList_eq]
theorem SJ(s:BS):∀(es:List MapEntry) (l:List (BS × Int)) (i:Nat),es.map (fun e=>(e.key,e.val))=l.map (fun x=>(Value.string ⟨x.1.toArray⟩,Value.int .u8 x.2))->
  (Instr.findNow .string (.string ⟨s.toArray⟩) es i=some none/\l.find? (fun x=>x.1==s)=none)\/∃j x,Instr.findNow .string (.string ⟨s.toArray⟩) es i=some (some (j,.int .u8 x.2))/\l.find? (fun x=>x.1==s)=some x
 |[],[],i,_=>.inl ⟨rfl,rfl⟩
 |[],_::_,i,h=>by cases h
 |_::_,[],i,h=>by cases h
 |e::es,x::l,i,h=>by
  simp only[jB,List.cons.injEq,Prod.mk.injEq]at h;obtain⟨⟨h1,h2⟩,h3⟩:=h;have ih:=SJ s es l (i+1) h3;rw[Instr.findNow,h1,h2];simp only[Instr.sameNow,Xr8,List.find?_cons]
  cases hx:(s==x.1)with
  |true=>
   have:(x.1==s)=true:=by have:=eq_of_beq hx;rw[this];exact beq_self_eq_true _
   rw[this];exact .inr ⟨i,x,rfl,rfl⟩
  |false=>
   have:(x.1==s)=false:=by
    cases h:(x.1==s)with
    |false=>rfl
    |true=>have:=eq_of_beq h;rw[this,beq_self_eq_true]at hx;cases hx
   rw[this];exact ih
theorem Yvr(hT:Kw P X.T)(hR:Yy G w0 st w){t:TypeId}(hk:X.kind t=some .mp){l:List (BS × Int)}{s:BS}{u v:Value}(hu:R G (.mp l) u)(hv:R G (.s s) v):
  (Instr.lookup t u v false).run P w=.ok (.int .u8<|AH l s) w:=by
 obtain⟨_,_,_,_,k,e,mJ,AU,hz⟩:=Jh hT hk;obtain⟨b,rfl,hb⟩:=hu.mp_inv;rw[hv.str_inv];obtain⟨es,clock,h1,h2⟩:=hR.mp b (.mp l) hb;have aT:(getObj b).run P w=.ok (.map es clock) w:=by simp[getObj,Sem.run,h1]
 have SK:(Instr.checkKey es.isEmpty 10000 k<|.string ⟨s.toArray⟩).run P w=.ok () w:=by
  rw[Instr.checkKey];simp[run_underlying AU]
 unfold AH;rcases SJ s es.toList l 0 h2 with⟨h3,h4⟩|⟨j,x,h3,h4⟩
 ·have mI:(Instr.findKey k (.string ⟨s.toArray⟩) es.toList).run P w=.ok none w:=by
   simp[Instr.findKey,run_underlying AU,h3]
  simp only[Instr.lookup,jN,run_underlying mJ,jG,aT,jW,SK,mI,hz,h4];rfl
 ·have mI:(Instr.findKey k (.string ⟨s.toArray⟩) es.toList).run P w=.ok (some (j,.int .u8 x.2)) w:=by
   simp[Instr.findKey,run_underlying AU,h3]
  simp only[Instr.lookup,jN,run_underlying mJ,jG,aT,jW,SK,mI,h4];rfl
def Nr(P:Program)(G:Gh)(w0:World)(st:St)(w:World)(o:Oper)(a:Act)(r:AV)(aA:St)(d site ver:Nat):Prop:=
 ∃nx v w' G',(execOp a.eval o).run P w=.ok nx w'/\(nx=.value v\/(nx=.skip/\v=undef))/\R G' r v/\Vq G G' w0 st aA w' d site ver
theorem Nr.val{o:Oper}{a:Act}{r:AV}{aA:St}{d site ver:Nat}{v:Value}{w':World}{G':Gh}(h1:(execOp a.eval o).run P w=.ok (.value v) w')(h2:R G' r v)(h3:Vq G G' w0 st aA w' d site ver):Nr P G w0 st w o a r aA d site ver:=
 ⟨_,v,w',G',h1,.inl rfl,h2,h3⟩
theorem Nr.pure{o:Oper}{a:Act}{r:AV}{d site ver:Nat}(hR:Yy G w0 st w)(h :∃v,(execOp a.eval o).run P w=.ok (.value v) w/\R G r v):Nr P G w0 st w o a r st d site ver:=by obtain⟨v,h1,h2⟩:=h;exact .val h1 h2 (Vq.same hR)
theorem Kg{d site ver:Nat}{U:Sl}{r:AV}{aA:St}{op:Vu}(h:(Yp (d,site) ver U op).map (·,st)=some (r,aA)):Yp (d,site) ver U op=some r/\aA=st:=by simp only[kN,Prod.mk.injEq]at h;obtain⟨x,h1,rfl,rfl⟩:=h;exact⟨h1,rfl⟩
theorem Ja{P:Program}{w w':World}{s:Sem Value}{v:Value}(h:s.run P w=.ok v w'):(do pure (Next.value<|<- s):Sem Next).run P w=.ok (.value v) w':=by simp only[jN,h,jG,jW]
theorem Xf4{P:Program}{w w':World}{s:Sem Unit}(h:s.run P w=.ok () w'):(do s;pure Next.skip:Sem Next).run P w=.ok .skip w':=by simp only[jN,h,jG,jW]
theorem Xsn{op:BinOp}{t:TypeId}{x y:Operand}{m n:Option Addr}:(eqGuard op t x y (.pointer m)<|.pointer n).run P w=.ok () w:=by unfold eqGuard;cases op<;>simp
theorem Xn5{neg:Bool}{t e:TypeId}(ht:P.underlying t=some (.pointer e))(he:(P.info? e).isSome=true){x y r:AV}{vx vy:Value}(h:mu neg x y=some r)(hx:R G x vx)(hy:R G y vy):
  (∃m n,vx=.pointer m/\vy=.pointer n)/\∃v,(binOp (if neg then .neq else .eql) t vx vy).run P w=.ok v w/\R G r v:=by
 obtain⟨j,hj⟩:=Option.isSome_iff_exists.1 he;have hb :∀x:Bool,R G (.b x) (.bool x):=fun n=>.fz _ _ (.b _)
 unfold mu at h;revert hx hy;split at h
 ·intro hx hy;cases h;rw[hx.np_inv,hy.np_inv];refine⟨⟨_,_,rfl,rfl⟩,_,?_,hb _⟩
  have h1 :∀d:Nat,(Op.equalIn (d+1) t (.pointer none)<|.pointer none).run P w=.ok true w:=fun d=>by
   simp[Op.equalIn,run_underlying ht]
  cases neg<;>simp[binOp,Op.equal,Op.maxDepth,h1 9999]
 ·intro hx hy;cases h;obtain⟨g,rfl,_⟩:=hx.p_inv;rw[hy.np_inv];refine⟨⟨_,_,rfl,rfl⟩,_,?_,hb _⟩
  have h1 :∀(d:Nat) (a:Addr),(Op.equalIn (d+1) t (.pointer<|some a)<|.pointer none).run P w=.ok false w:=fun d a=>by
   simp[Op.equalIn,run_underlying ht]
  cases neg<;>simp[binOp,Op.equal,Op.maxDepth,h1 9999]
 ·split at h
  ·rename_i hc;obtain⟨rfl,rfl,rfl⟩:=hc;intro hx hy;cases h;obtain⟨g,rfl,h1⟩:=hx.p_inv;obtain⟨g',rfl,h2⟩:=hy.p_inv;rw[h1]at h2;cases h2;refine⟨⟨_,_,rfl,rfl⟩,_,?_,hb _⟩;cases neg
   ·exact run_eql_ptr_same w _ ht hj
   ·exact Lib.run_neq_ptr_same w _ ht hj
  ·cases h
 ·cases h
theorem Xif{e:TypeId}(hc:P.cellsOf e≠0){count:Nat}(hn:1<=count):liesAt P P.depth e count 0 e 1=true:=by have hd:P.depth=(2*(P.types.size+Made.depth)+1)+1:=rfl;rw[hd];simp only[liesAt,Bool.or_eq_true];left;rw[hd];simp[rowAt,hc,hn,sameLayout]
theorem Yw3(hR:Yy G w0 st w){x r:AV}{vx:Value}{n:Nat}(h:qG st n x=some r)(hx:R G x vx){s d t:TypeId}{j:TypeInfo}(hj:P.info? t=some j)(hjs:j.size=n)(hn:0<n)(hc:P.cellsOf t=n)(ht:t=Gj G.fm)
  (hsd:(P.underlying s=some (.pointer t)/\P.underlying d=some .unsafePointer)\/(P.underlying s=some .unsafePointer/\P.underlying d=some (.pointer t))):(convert s d vx).run P w=.ok vx w/\R G r vx:=by
 unfold qG at h;revert hx;split at h
 ·rename_i k v;split at h
  ·rename_i v' cs bN;split at h
   ·rename_i aN;obtain⟨rfl,bO,hlen⟩:=aN;cases h;intro hx;refine⟨?_,hx⟩;obtain⟨g,rfl,hρ⟩:=hx.p_inv;obtain⟨us,e,_,aF,hr,_⟩:=hR.bx k v' cs g bN hρ;obtain⟨cF,h3,_⟩:=hR.bxT k v' cs g bO bN hρ;rw[aF]at h3;injection h3 with h3;injection h3 with _ h3;subst h3;have aM:us.length=n:=by rw[<- hlen];exact hr.1.symm
    have mf:w.shape? g=some (Gj G.fm,n):=by simp[World.shape?,aF,aM]
    subst ht;rcases hsd with⟨h1,h2⟩|⟨h1,h2⟩
    ·exact Lib.run_to_unsafe w ⟨g,0,none⟩ h1 h2 hj (by omega) mf hn
    ·exact Lib.run_from_unsafe w ⟨g,0,none⟩ h1 h2 hj mf (Xif (by omega) (by rw[hc,Nat.div_self hn];exact kU _))
   ·cases h
  ·cases h
 ·cases h
theorem Xjr{op:BinOp}{t:TypeId}{x y:Operand}{k k':IntKind}{m n:Int}:(eqGuard op t x y (.int k m)<|.int k' n).run P w=.ok () w:=by unfold eqGuard;cases op<;>simp
theorem Xwn{op:BinOp}{t:TypeId}{x y:Operand}{m n:ByteArray}:(eqGuard op t x y (.string m)<|.string n).run P w=.ok () w:=by unfold eqGuard;cases op<;>simp
theorem Xxs{op:BinOp}{t:TypeId}{x y:Operand}{m n:Bool}:(eqGuard op t x y (.bool m)<|.bool n).run P w=.ok () w:=by unfold eqGuard;cases op<;>simp
theorem Xkn{op:BinOp}{x y r:AV}{vx vy:Value}(h:Wb op x y=some r)(hx:R G x vx)(hy:R G y vy):(∃k m k' n,vx=.int k m/\vy=.int k' n)\/(∃m n,vx=.string m/\vy=.string n):=by
 unfold Wb at h;revert hx hy;split at h
 ·intro hx hy;exact .inl ⟨_,_,_,_,hx.int_inv,hy.int_inv⟩
 ·intro hx hy;exact .inr ⟨_,_,hx.str_inv,hy.str_inv⟩
 ·cases h
theorem SL{nt:Nat}{U:Sl}{a:Act}(hA:Vk G nt U a)(aJ:X.fm=G.fm)(hT:Kw P X.T){fs:List (Nat × Nat)}:∀{ps:List (Nat × Operand)}{xs:List (Nat × Nat × Zw)},qJ X fs ps=some xs->∀{place:Nat->Option (Nat × Nat)},(∀(i ft off:Nat) ti,fs[i]?=some (ft,off)->X.T ft=some ti->place i=some (off,ti.size))->
  Parts G U place (ps.map fun p=>(p.1,a.eval p.2)) xs
 |[],xs,h,_,_=>by cases h;trivial
 |(i,x)::r,xs,h,place,hp=>by
  unfold qJ at h;split at h
  ·rename_i ft off y l hf hy hl;split at h
   ·rename_i ti cU;cases h;rw[aJ]at hy;exact⟨hp i ft off ti hf cU,Rf hA hy,SL hA aJ hT hl hp⟩
   ·cases h
  ·cases h
theorem SM{nt:Nat}{U:Sl}{a:Act}(hA:Vk G nt U a)(aJ:X.fm=G.fm){size n:Nat}:∀{ps:List (Nat × Operand)}{xs:List (Nat × Nat × Zw)},qK X size n ps=some xs->Parts G U (fun i=>some (i*size,size)) (ps.map fun p=>(p.1,a.eval p.2)) xs
 |[],xs,h=>by cases h;trivial
 |(i,x)::r,xs,h=>by
  unfold qK at h;split at h
  ·rename_i y l hy hl;cases h;rw[aJ]at hy;exact⟨rfl,Rf hA hy,SM hA aJ hl⟩
  ·cases h
theorem SN{nt:Nat}{U:Sl}{a:Act}(hA:Vk G nt U a)(aJ:X.fm=G.fm):∀{ps:List (Nat × Operand)}{xs:List (Nat × Zw)},qL X ps=some xs->qI G U (ps.map fun p=>(p.1,a.eval p.2)) xs
 |[],xs,h=>by cases h;trivial
 |(i,x)::r,xs,h=>by
  unfold qL at h;split at h
  ·rename_i y l hy hl;cases h;rw[aJ]at hy;exact⟨rfl,Rf hA hy,SN hA aJ hl⟩
  ·cases h
theorem SO(hT:Kw P X.T):∀(fields:List Field),(fields.map fun f=>(f.type,f.offset)).all (fun f=>(X.T f.1).isSome)=true->
  ∃places,fields.mapM (fun f=>(P.info? f.type).map fun i=>(f.offset,i.size))=some places/\∀(i:Nat) ft off ti,(fields.map fun f=>(f.type,f.offset))[i]?=some (ft,off)->X.T ft=some ti->places[i]?=some (off,ti.size)
 |[],_=>⟨[],by simp,by simp⟩
 |f::r,h=>by
  simp only[jB,List.all_cons,kR]at h;obtain⟨h1,h2⟩:=h;obtain⟨places,h3,h4⟩:=SO hT r h2;obtain⟨ti,cU⟩:=Option.isSome_iff_exists.1 h1;obtain⟨i',dU,hs,_⟩:=(hT _ _ cU).ti;refine⟨(f.offset,i'.size)::places,by simp[List.mapM_cons,dU,h3],fun i ft off iU hf ht=>?_⟩
  cases i with
  |zero=>
   simp only[jB,yT,Option.some.injEq,Prod.mk.injEq]at hf;obtain⟨rfl,rfl⟩:=hf;rw[cU]at ht;cases ht;simp[hs]
  |succ i=>
   simp only[jB,zN]at hf⊢;exact h4 i ft off iU hf ht
end
end Go.AM

namespace Go.AM
open Go Go.RowKit Go.BigFrame
def Vu.isCall:Vu->Bool
 |.call _ _ _|.callv _ _=>true
 |_=>false
section
variable{P:Program}{G:Gh}{w0 w:World}{st:St}{X:Cx}
set_option maxHeartbeats 1000000 in
theorem Yzg(hT:Kw P X.T)(aJ:X.fm=G.fm){nt:Nat}{U:Sl}{a:Act}(hA:Vk G nt U a)(hR:Yy G w0 st w){o:Oper}{iV:Vu}(hc:Vo X o.op=some iV)(hn:iV.isCall=false){C:Vw}{d site ver:Nat}{r:AV}{aA:St}(h:Yd C d site ver U st iV=some (r,aA))
  (hρ:G.ρ (d,site) ver=none) (hω:G.ω (d,site) ver=none) (hv:ver<st.nx) (eC :∀zero,iV=.alloc zero->lk st.bx (d,site)=some (ver,zero)) (hB:Wo<=site->Ri X o.op=true):Nr P G w0 st w o a r aA d site ver:=by
 have hS :∀{x:Operand}{y:Zw},Vb X.fm x=some y->R G (y.ev U) (a.eval x):=fun hx=>Rf hA (by rw[<- aJ];exact hx)
 have hO :∀{x:Option Operand}{y:Option Zw},Ig X.fm x=some y->Ny G U a x y:=fun hx=>Xgr hA (by rw[<- aJ];exact hx)
 generalize aY:o.op=op at hc
 cases op with
 |move x=>
  simp only[Vo]at hc;split at hc
  ·rename_i y hy;cases hc;simp only[Yd]at h;have hq:=Kg h;clear h;obtain⟨h,rfl⟩:=hq;cases h;exact .pure hR ⟨_,by simp only[execOp,aY];rfl,hS hy⟩
  ·cases hc
 |assign x=>
  simp only[Vo]at hc;split at hc
  ·rename_i y hy;cases hc;simp only[Yd]at h;have hq:=Kg h;clear h;obtain⟨h,rfl⟩:=hq;cases h;exact .pure hR ⟨_,by simp only[execOp,aY];rfl,hS hy⟩
  ·cases hc
 |pick c x y=>
  simp only[Vo]at hc;split at hc
  ·rename_i c' x' y' h1 h2 h3;cases hc;simp only[Yd]at h;have hq:=Kg h;clear h;obtain⟨h,rfl⟩:=hq;simp only[Yp]at h;have cM:=hS h1;generalize c'.ev U=cv at h cM;revert cM;split at h
   ·rename_i t;intro cM;cases h;refine .pure hR ⟨_,by simp only[execOp,aY,cM.bool_inv,asBool,jN,jW,jG];rfl,?_⟩;cases t
    ·exact hS h3
    ·exact hS h2
   ·cases h
  ·cases hc
 |alloc t=>
  simp only[Vo]at hc;split at hc
  ·rename_i i hi;cases hc;simp only[Yd]at h;have hq:=Kg h;clear h;obtain⟨h,rfl⟩:=hq;cases h
   obtain ⟨v,w',G',h1,h2,h3⟩:=Xil (P:=P) hR (hT t i hi) (fun hb=>by
    have:=hB hb;rw[aY]at this;rw[<- aJ];simpa [Ri] using this) (eC _ rfl) hρ hv
   exact .val (by simp only[execOp,aY];exact Ja h1) h2 h3
  ·cases hc
 |box t x=>
  simp only[Vo]at hc;split at hc
  ·rename_i i y hi hy;cases hc;simp only[Yd]at h;split at h
   ·rename_i aN;cases h
    obtain ⟨v,w',G',h1,h2,h3⟩:=Xye (P:=P) (t:=t) hR (hS hy) aN.2 (fun hb=>by
     have:=hB hb;rw[aY]at this;cases this) hρ hv
    exact .val (by simp only[execOp,aY];exact Ja h1) h2 h3
   ·cases h
  ·cases hc
 |build t parts=>
  simp only[Vo]at hc;split at hc
  ·rename_i i hi;split at hc
   ·rename_i fs hk;split at hc
    ·rename_i ps bW iW;cases hc;simp only[Yd]at h;have hq:=Kg h;clear h;obtain⟨h,rfl⟩:=hq;simp only[Yp]at h;have mK:=(hT t i hi).kind;rw[hk]at mK;obtain⟨fields,hu,c_,_⟩:=mK;rw[<- c_]at bW;obtain⟨places,ly,aT⟩:=SO hT fields.toList bW
     have hp:=SL hA aJ hT iW (place:=(places.toArray[·]?)) (fun j ft off ti hf ht=>by
      have:=aT j ft off ti (by rw[c_];exact hf) ht;simpa using this)
     obtain⟨v,h1,h2⟩:=SA (P:=P) (w:=w) (hT t i hi) hp h (fun z ti h1 h2=>by unfold Program.built;simp only[h1,hu,h2,ly]);refine .pure hR ⟨v,?_,h2⟩;simp only[execOp,aY];refine Ja ?_;rw[show(parts.map fun p=>(p.1,a.eval p.2))=(parts.toList.map fun p=>(p.1,a.eval p.2)).toArray from by apply zM;simp];exact h1
    ·cases hc
   ·rename_i n e hk;split at hc
    ·rename_i ie AW;split at hc
     ·rename_i ps iW;cases hc;simp only[Yd]at h;have hq:=Kg h;clear h;obtain⟨h,rfl⟩:=hq;simp only[Yp]at h;have hu:=(hT t i hi).kind;rw[hk]at hu;obtain⟨ti,cU,aM,_⟩:=(hT e ie AW).ti;have hp:=SM hA aJ iW;obtain⟨v,h1,h2⟩:=SA (P:=P) (w:=w) (hT t i hi) hp h (fun z iU h1 h2=>by unfold Program.built;simp only[h1,show P.underlying t=some (.array n e)from hu,h2,cU,aM]);refine .pure hR ⟨v,?_,h2⟩;simp only[execOp,aY];refine Ja ?_;rw[show(parts.map fun p=>(p.1,a.eval p.2))=(parts.toList.map fun p=>(p.1,a.eval p.2)).toArray from by apply zM;simp];exact h1
     ·cases hc
    ·cases hc
   ·cases hc
  ·cases hc
 |buildSlice t n parts=>
  simp only[Vo]at hc;split at hc
  ·rename_i e hk;obtain⟨_,_,_,_,hu⟩:=Jh hT hk;split at hc
   ·rename_i i ps hi iW;cases hc;simp only[Yd]at h;have hq:=Kg h;clear h;obtain⟨h,rfl⟩:=hq;have hp:=SN hA aJ iW;obtain⟨v,w',G',h1,h2,h3⟩:=Xf5 (P:=P) hR hu (hT e i hi) hp h (d:=d) (site:=site) (ver':=ver);refine .val ?_ h2 h3;simp only[execOp,aY];refine Ja ?_;rw[show(parts.map fun p=>(p.1,a.eval p.2))=(parts.toList.map fun p=>(p.1,a.eval p.2)).toArray from by apply zM;simp];exact h1
   ·cases hc
  ·cases hc
 |load t x=>
  simp only[Vo]at hc;split at hc
  ·rename_i i y hi hy;split at hc
   ·rename_i hs;cases hc;simp only[Yd,kN,Prod.mk.injEq]at h;obtain⟨r',h,rfl,rfl⟩:=h;obtain⟨v,h1,h2⟩:=SQ (P:=P) hR (hT t i hi) (qM hs) h (hS hy);exact .pure hR ⟨v,by simp only[execOp,aY];exact Ja h1,h2⟩
   ·cases hc
  ·cases hc
 |store t x y=>
  simp only[Vo]at hc;split at hc
  ·rename_i i x' y' hi hx hy;cases hc;simp only[Yd,kN,Prod.mk.injEq]at h;obtain⟨aAd,h,rfl,rfl⟩:=h;obtain⟨w',h1,h2⟩:=Xnr (P:=P) hR (hT t i hi) h (hS hx) (hS hy) (d:=d) (site:=site) (ver:=ver);exact⟨.skip,undef,w',G,by simp only[execOp,aY];exact Xf4 h1,.inr ⟨rfl,rfl⟩,.und,h2⟩
  ·cases hc
 |nilCheck x=>
  simp only[Vo]at hc;split at hc
  ·rename_i y hy;cases hc;simp only[Yd]at h;have hq:=Kg h;clear h;obtain⟨h,rfl⟩:=hq;simp only[Yp]at h;have hx:=hS hy;generalize y.ev U=yv at h hx;split at h
   ·cases h;obtain⟨g,hg,_⟩:=hx.p_inv;exact .pure hR ⟨a.eval x,by simp only[execOp,aY,hg];rfl,hx⟩
   ·cases h;obtain⟨g,off,us,hg,_⟩:=hx.fp_inv;exact .pure hR ⟨a.eval x,by simp only[execOp,aY,hg];rfl,hx⟩
   ·cases h
  ·cases hc
 |binOp op t x y yt=>
  simp only[Vo]at hc
  have bin :∀{x' y':Zw},Vb X.fm x=some x'->Vb X.fm y=some y'->Yd C d site ver U st (.bin op x' y')=some (r,aA)->Nr P G w0 st w o a r aA d site ver:=by
   clear h;intro x' y' hx hy h;simp only[Yd]at h;have hq:=Kg h;clear h;obtain⟨h,rfl⟩:=hq;simp only[Yp]at h;obtain⟨v,h1,h2⟩:=Yvw (P:=P) (w:=w) (t:=t) (hS hx) (hS hy) h;refine .pure hR ⟨v,?_,h2⟩;simp only[execOp,aY];refine Ja ?_;rcases Xkn h (hS hx) (hS hy)with⟨k,m,k',n,e1,e2⟩|⟨m,n,e1,e2⟩
   ·rw[e1,e2]at h1⊢;simp only[jN,Xjr,jG,h1]
   ·rw[e1,e2]at h1⊢;simp only[jN,Xwn,jG,h1]
  have beq :∀{x' y':Zw}(neg:Bool),op=(if neg then .neq else .eql)->P.underlying t=some .bool->Vb X.fm x=some x'->Vb X.fm y=some y'->Yd C d site ver U st (.beq neg x' y')=some (r,aA)->Nr P G w0 st w o a r aA d site ver:=by
   clear h;intro x' y' neg fP hu hx hy h;simp only[Yd]at h;have hq:=Kg h;clear h;obtain⟨h,rfl⟩:=hq;simp only[Yp]at h;obtain⟨v,h1,h2⟩:=Xea (P:=P) (w:=w) hu h (hS hx) (hS hy);refine .pure hR ⟨v,?_,h2⟩;simp only[execOp,aY];refine Ja ?_
   have e :∃m n,a.eval x=.bool m/\a.eval y=.bool n:=by
    have h3:=hS hx;have h4:=hS hy;generalize x'.ev U=xv at h h3;generalize y'.ev U=yv at h h4;split at h
    ·exact⟨_,_,h3.bool_inv,h4.bool_inv⟩
    ·cases h
   obtain⟨m,n,e1,e2⟩:=e;rw[e1,e2]at h1⊢;simp only[jN,Xxs,jG];rw[fP];exact h1
  have peq :∀{e:TypeId}{x' y':Zw}(neg:Bool),op=(if neg then .neq else .eql)->(P.underlying t=some (.pointer e)/\(P.info? e).isSome=true)->Vb X.fm x=some x'->Vb X.fm y=some y'->Yd C d site ver U st (.peq neg x' y')=some (r,aA)->Nr P G w0 st w o a r aA d site ver:=by
   clear h;intro e x' y' neg fP hu hx hy h;simp only[Yd]at h;have hq:=Kg h;clear h;obtain⟨h,rfl⟩:=hq;simp only[Yp]at h;obtain⟨⟨m,n,e1,e2⟩,v,h1,h2⟩:=Xn5 (P:=P) (w:=w) hu.1 hu.2 h (hS hx) (hS hy);refine .pure hR ⟨v,?_,h2⟩;simp only[execOp,aY];refine Ja ?_;rw[e1,e2]at h1⊢;simp only[jN,Xsn,jG];rw[fP];exact h1
  split at hc
  ·rename_i k x' y' hk hx hy;cases hc;exact bin hx hy h
  ·rename_i x' y' hk hx hy;cases hc;exact bin hx hy h
  ·rename_i x' y' hk hx hy;obtain⟨_,_,_,_,hu⟩:=Jh hT hk;split at hc
   ·cases hc;exact beq false rfl hu hx hy h
   ·cases hc;exact beq true rfl hu hx hy h
   ·cases hc
  ·rename_i e x' y' hk hx hy;obtain⟨_,_,_,_,hu⟩:=Jh hT hk;split at hc
   ·cases hc;exact peq false rfl hu hx hy h
   ·cases hc;exact peq true rfl hu hx hy h
   ·cases hc
  ·rename_i fs x' y' hk hx hy
   have aeq :∀{ks:List Nat}(neg:Bool),op=(if neg then .neq else .eql)->Fq X 0 fs=some ks->Yd C d site ver U st (.aeq neg ks x' y')=some (r,aA)->Nr P G w0 st w o a r aA d site ver:=by
    clear h;intro ks neg fP hf h;simp only[Yd]at h;have hq:=Kg h;clear h;obtain⟨h,rfl⟩:=hq;simp only[Yp]at h;have h3:=hS hx;have h4:=hS hy;revert h3 h4;split at h
    ·rename_i cs ds e1 e2;rw[e1,e2];intro h3 h4;rw[kN]at h;obtain⟨b,hb,rfl⟩:=h;refine .pure hR ⟨_,?_,.fz _ _<|.b _⟩;simp only[execOp,aY];refine Ja ?_;rw[fP];exact Xqr hT hk hf hb h3 h4 neg _ _
    ·cases h
   split at hc
   ·rename_i ks hf;split at hc
    ·cases hc;exact aeq false rfl hf h
    ·cases hc;exact aeq true rfl hf h
    ·cases hc
   ·cases hc
  ·cases hc
 |unOp op t x=>
  simp only[Vo]at hc;split at hc
  ·rename_i y hy;cases hc;simp only[Yd]at h;have hq:=Kg h;clear h;obtain⟨h,rfl⟩:=hq;simp only[Yp]at h;obtain⟨v,h1,h2⟩:=Wce (P:=P) (w:=w) h (hS hy);exact .pure hR ⟨v,by simp only[execOp,aY];exact Ja h1,h2⟩
  ·cases hc
 |convert s t x=>
  have cvp :∀{e:TypeId}{i:TI}{y:Zw},X.T e=some i->e=Gj X.fm->0<i.size->((P.underlying s=some (.pointer e)/\P.underlying t=some .unsafePointer)\/(P.underlying s=some .unsafePointer/\P.underlying t=some (.pointer e)))->Vb X.fm x=some y->Yd C d site ver U st (.cvp i.size y)=some (r,aA)->Nr P G w0 st w o a r aA d site ver:=by
   clear h;intro e i y hi he aI hu hy h;simp only[Yd,kN,Prod.mk.injEq]at h;obtain⟨r',h1,rfl,rfl⟩:=h;obtain⟨ti,cU,aM,_⟩:=(hT e i hi).ti;obtain⟨h2,h3⟩:=Yw3 (P:=P) hR h1 (hS hy) cU aM aI (by simp[Program.cellsOf,cU,aM]) (by rw[<- aJ];exact he) hu;exact .pure hR ⟨_,by simp only[execOp,aY];exact Ja h2,h3⟩
  simp only[Vo]at hc;split at hc
  ·rename_i k1 k2 y dA cN hy;cases hc;obtain⟨_,_,_,_,fH⟩:=Jh hT dA;obtain⟨_,_,_,_,fQ⟩:=Jh hT cN;simp only[Yd]at h;have hq:=Kg h;clear h;obtain⟨h,rfl⟩:=hq;simp only[Yp]at h;obtain⟨v,h1,h2⟩:=Xhs (P:=P) (w:=w) fH fQ h (hS hy);exact .pure hR ⟨v,by simp only[execOp,aY];exact Ja h1,h2⟩
  ·rename_i e y dA cN hy;split at hc
   ·rename_i AX;cases hc;obtain⟨_,_,_,_,fH⟩:=Jh hT dA;obtain⟨_,_,_,_,fQ⟩:=Jh hT cN;obtain⟨_,_,_,_,AY⟩:=Jh hT AX;simp only[Yd]at h;have hq:=Kg h;clear h;obtain⟨h,rfl⟩:=hq;simp only[Yp]at h;obtain⟨v,h1,h2⟩:=Xfl (P:=P) (w:=w) fH AY fQ hR.cell h (hS hy);exact .pure hR ⟨v,by simp only[execOp,aY];exact Ja h1,h2⟩
   ·cases hc
  ·rename_i e y dA cN hy;split at hc
   ·rename_i i hi;split at hc
    ·rename_i aN;cases hc;obtain⟨_,_,_,_,fH⟩:=Jh hT dA;obtain⟨_,_,_,_,fQ⟩:=Jh hT cN;exact cvp hi aN.1 aN.2 (.inl ⟨fH.1,fQ⟩) hy h
    ·cases hc
   ·cases hc
  ·rename_i e y dA cN hy;split at hc
   ·rename_i i hi;split at hc
    ·rename_i aN;cases hc;obtain⟨_,_,_,_,fH⟩:=Jh hT dA;obtain⟨_,_,_,_,fQ⟩:=Jh hT cN;exact cvp hi aN.1 aN.2 (.inr ⟨fH,fQ.1⟩) hy h
    ·cases hc
   ·cases hc
  ·cases hc
 |makeFunc fn first cap=>
  cases fn with
  |func f=>
   simp only[Vo]at hc;split at hc
   ·rename_i c l hf dV hl;cases hc;simp only[Yd]at h;have hq:=Kg h;clear h;obtain⟨h,rfl⟩:=hq;simp only[Yp]at h;cases h;rw[aJ]at hf hl;have hr:=Pk hA hl;have AZ:first=#[]:=by apply zM;simpa using dV
    refine .pure hR ⟨_,?_,.fn _ f hf _ _ hr.1 hr.2⟩;simp only[execOp,aY];refine Ja ?_;have he:cap.map a.eval=(cap.toList.map a.eval).toArray:=by apply zM;simp
    simp[Instr.makeFunc,AZ,he]
   ·rename_i c x y hf dV hl;split at hc
    ·rename_i l iA;cases hc;simp only[Yd]at h;have hq:=Kg h;clear h;obtain⟨h,rfl⟩:=hq;simp only[Yp]at h;cases h;rw[aJ]at hf hl iA;rw[<- dV]at iA;have hr:=Pk hA iA
     have fE:cap=#[]:=by
      have:=(Pk hA hl).1;apply zM
      cases hq:cap.toList with
      |nil=>rfl
      |cons=>rw[hq]at this;simp at this
     refine .pure hR ⟨_,?_,.bf _ f hf _ _ hr.1 hr.2⟩;simp only[execOp,aY];refine Ja ?_;have he:first.map a.eval=(first.toList.map a.eval).toArray:=by apply zM;simp
     simp[Instr.makeFunc,fE,he]
    ·cases hc
   ·cases hc
  |_=>simp only[Vo]at hc;cases hc
 |makeSlice t l c=>
  simp only[Vo]at hc;split at hc
  ·rename_i e l' c' hk hl qN;obtain⟨_,_,_,_,hu⟩:=Jh hT hk;split at hc
   ·rename_i i hi;cases hc;obtain⟨v,w',G',h1,h2,h3⟩:=Xew (P:=P) hR hu (hT e i hi) (hS hl) (hS qN) h;exact .val (by simp only[execOp,aY];exact Ja h1) h2 h3
   ·cases hc
  ·cases hc
 |slice t x lo hi mx=>
  cases mx with
  |some m=>simp only[Vo]at hc;cases hc
  |none=>
   simp only[Vo]at hc;split at hc
   ·rename_i x' dW dU hk hx cO eN;cases hc;obtain⟨_,_,_,_,hu⟩:=Jh hT hk;simp only[Yd]at h;have hq:=Kg h;clear h;obtain⟨h,rfl⟩:=hq;simp only[Yp]at h;obtain⟨v,h1,h2⟩:=Xt0 (P:=P) (w:=w) hu (hS hx) (hO cO) (hO eN) h;exact .pure hR ⟨v,by simp only[execOp,aY];exact Ja h1,h2⟩
   ·rename_i e x' dW dU hk hx cO eN;split at hc
    ·rename_i i bK;cases hc;obtain⟨_,_,_,_,hu⟩:=Jh hT hk;obtain⟨ti,cU,aM,_⟩:=(hT e i bK).ti;simp only[Yd]at h;have hq:=Kg h;clear h;obtain⟨h,rfl⟩:=hq;simp only[Yp]at h;rw[<- aM]at h;obtain⟨v,h1,h2⟩:=Xo8 (P:=P) (w:=w) hu cU (hS hx) (hO cO) (hO eN) h;exact .pure hR ⟨v,by simp only[execOp,aY];exact Ja h1,h2⟩
    ·cases hc
   ·rename_i n e x' dW dU hk hx cO eN;split at hc
    ·rename_i i bK;cases hc;obtain⟨_,_,_,_,hu⟩:=Jh hT hk;obtain⟨ti,cU,aM,_⟩:=(hT e i bK).ti;rw[<- aM]at h;obtain⟨v,G',h1,h2,h3⟩:=Yw8 (P:=P) hR hu cU (hS hx) (hO cO) (hO eN) h;exact .val (by simp only[execOp,aY];exact Ja h1) h2 h3
    ·cases hc
   ·cases hc
 |fieldAddr s x f=>
  simp only[Vo]at hc;split at hc
  ·rename_i fs y hk hy;split at hc
   ·rename_i ft off hf;split at hc
    ·rename_i i hi;split at hc
     ·cases hc
     ·rename_i hz;cases hc;obtain⟨_,_,_,_,hu⟩:=Jh hT hk;obtain⟨ti,cU,aM,_⟩:=(hT ft i hi).ti;simp only[Yd]at h;have hq:=Kg h;clear h;obtain⟨h,rfl⟩:=hq;simp only[Yp]at h;obtain⟨v,h1,h2⟩:=Xab (P:=P) (w:=w) hu hf cU (by omega) h (hS hy);exact .pure hR ⟨v,by simp only[execOp,aY];exact Ja h1,h2⟩
    ·cases hc
   ·cases hc
  ·cases hc
 |field s x f=>
  simp only[Vo]at hc;split at hc
  ·rename_i fs y hk hy;split at hc
   ·rename_i ft off hf;split at hc
    ·rename_i i hi;split at hc
     ·rename_i hs;cases hc;obtain⟨_,_,_,_,hu⟩:=Jh hT hk;simp only[Yd]at h;have hq:=Kg h;clear h;obtain⟨h,rfl⟩:=hq;simp only[Yp]at h;obtain⟨v,h1,h2⟩:=Xly (P:=P) (w:=w) hu hf (hT ft i hi) (qM hs) h (hS hy);exact .pure hR ⟨v,by simp only[execOp,aY];exact Ja h1,h2⟩
     ·cases hc
    ·cases hc
   ·cases hc
  ·cases hc
 |indexAddr t x i=>
  simp only[Vo]at hc;split at hc
  ·rename_i e x' i' hk hx hi;split at hc
   ·rename_i iU fR;cases hc;obtain⟨_,_,_,_,hu⟩:=Jh hT hk;obtain⟨ti,cU,aM,_⟩:=(hT e iU fR).ti;simp only[Yd]at h;have hq:=Kg h;clear h;obtain⟨h,rfl⟩:=hq;simp only[Yp]at h;rw[<- aM]at h;obtain⟨v,h1,h2⟩:=Xbf (P:=P) (w:=w) hu cU h (hS hx) (hS hi);exact .pure hR ⟨v,by simp only[execOp,aY];exact Ja h1,h2⟩
   ·cases hc
  ·rename_i n e x' i' hk hx hi;split at hc
   ·rename_i iU fR;cases hc;obtain⟨_,_,_,_,hu⟩:=Jh hT hk;obtain⟨ti,cU,aM,_⟩:=(hT e iU fR).ti;simp only[Yd]at h;have hq:=Kg h;clear h;obtain⟨h,rfl⟩:=hq;simp only[Yp]at h;rw[<- aM]at h;obtain⟨v,h1,h2⟩:=Xkv (P:=P) (w:=w) hu cU h (hS hx) (hS hi);exact .pure hR ⟨v,by simp only[execOp,aY];exact Ja h1,h2⟩
   ·cases hc
  ·cases hc
 |index t x i=>
  simp only[Vo]at hc;split at hc
  ·rename_i x' i' hk hx hi;cases hc;obtain⟨_,_,_,_,hu⟩:=Jh hT hk;simp only[Yd]at h;have hq:=Kg h;clear h;obtain⟨h,rfl⟩:=hq;simp only[Yp]at h;obtain⟨v,h1,h2⟩:=Xc2 (P:=P) (w:=w) hu h (hS hx) (hS hi);exact .pure hR ⟨v,by simp only[execOp,aY];exact Ja h1,h2⟩
  ·rename_i n e x' i' hk hx hi;split at hc
   ·rename_i iU fR;split at hc
    ·rename_i hs;cases hc;obtain⟨_,_,_,_,hu⟩:=Jh hT hk;simp only[Yd]at h;have hq:=Kg h;clear h;obtain⟨h,rfl⟩:=hq;simp only[Yp]at h;obtain⟨v,h1,h2⟩:=Yzm (P:=P) (w:=w) hu (hT e iU fR) (qM hs) h (hS hx) (hS hi);exact .pure hR ⟨v,by simp only[execOp,aY];exact Ja h1,h2⟩
    ·cases hc
   ·cases hc
  ·cases hc
 |extract x k=>
  simp only[Vo]at hc;split at hc
  ·rename_i y hy;cases hc;simp only[Yd]at h;have hq:=Kg h;clear h;obtain⟨h,rfl⟩:=hq;simp only[Yp]at h;obtain⟨v,h1,h2⟩:=Xam (P:=P) (w:=w) h (hS hy);exact .pure hR ⟨v,by simp only[execOp,aY];exact Ja h1,h2⟩
  ·cases hc
 |lookup t x i c=>
  simp only[Vo]at hc;split at hc
  ·rename_i x' i' hk hx hi;cases hc;simp only[Yd]at h;have hq:=Kg h;clear h;obtain⟨h,rfl⟩:=hq;simp only[Yp]at h;have h3:=hS hx;have h4:=hS hi;revert h3 h4;split at h
   ·rename_i l s e1 e2;rw[e1,e2];intro h3 h4;cases h;refine .pure hR ⟨_,?_,.fz _ _<|.i _ _⟩;simp only[execOp,aY];exact Ja (Yvr hT hR hk h3 h4)
   ·cases h
  ·cases hc
 |call c=>
  obtain⟨dst,op',ty,pos,after,guard⟩:=o;simp only at aY;subst aY;obtain⟨callee,args,Nl⟩:=c;simp only[Vo]at hc
  cases callee with
  |invoke x n=>simp only[Rh]at hc;cases hc
  |value f=>
   simp only[Rh]at hc;split at hc
   ·cases hc;cases hn
   ·cases hc;cases hn
   ·cases hc
  |builtin b=>
   simp only[Rh]at hc;unfold mG at hc;split at hc
   ·rename_i x t ha ht;have iX:args=#[x]:=by apply zM;simpa using ha
    have lz:Nl=#[t]:=by apply zM;simpa using ht
    subst iX;subst lz;split at hc
    ·rename_i y hk hy;cases hc;obtain⟨_,_,_,_,hu⟩:=Jh hT hk;simp only[Yd]at h;have hq:=Kg h;clear h;obtain⟨h,rfl⟩:=hq;simp only[Yp]at h;obtain⟨v,h1,h2⟩:=Yw0 (P:=P) (w:=w) (ty:=ty) hu h (hS hy);exact .pure hR ⟨v,by rw[execOp_builtin];simp only[builtin_len];rw[show(#[x]:Array Operand).map a.eval=#[a.eval x]from by simp];exact Ja h1,h2⟩
    ·rename_i e y hk hy;cases hc;obtain⟨_,_,_,_,hu⟩:=Jh hT hk;simp only[Yd]at h;have hq:=Kg h;clear h;obtain⟨h,rfl⟩:=hq;simp only[Yp]at h;obtain⟨v,h1,h2⟩:=Xd5 (P:=P) (w:=w) (ty:=ty) hu h (hS hy);exact .pure hR ⟨v,by rw[execOp_builtin];simp only[builtin_len];rw[show(#[x]:Array Operand).map a.eval=#[a.eval x]from by simp];exact Ja h1,h2⟩
    ·cases hc
   ·rename_i s x t t2 ha ht;have iX:args=#[s,x]:=by apply zM;simpa using ha
    have lz:Nl=#[t,t2]:=by apply zM;simpa using ht
    subst iX;subst lz;split at hc
    ·rename_i e e2 s' x' hk cN hs hx;split at hc
     ·rename_i i hi;cases hc;obtain⟨_,_,_,_,hu⟩:=Jh hT hk;obtain⟨_,_,_,_,fQ⟩:=Jh hT cN;obtain⟨ti,z,cU,aM,mE,hz,_,dL⟩:=(hT e i hi).info;simp only[Yd]at h;have dX:=hS hx;generalize x'.ev U=xv at h dX;revert dX;split at h
      ·rename_i o news;intro dX;obtain⟨A,cap,mL,hF,_⟩:=dX.sl_inv;rw[<- aM,<- mE]at h
       obtain⟨us,eY⟩ :∃us,(∀row∈news,row.length=ti.size)->Ma P G.H w (.slice A news.length cap) ti.size news us:=by
        by_cases eM :∀row∈news,row.length=ti.size
        ·obtain⟨us,h1⟩:=Ma.slice (P:=P) hR hF eM;exact⟨us,fun _=>h1⟩
        ·exact⟨fun _ _=>undef,fun h=>absurd h eM⟩
       obtain ⟨v,w',G',h1,h2,h3⟩:=R3 (P:=P) (ty:=ty) hR hu fQ (.inr ⟨_,rfl⟩) cU hz (by rw [dL,aM]) eY (fun hb=>by
        have:=hB hb;simp only[Ri,hk]at this;rw[<- aJ];simpa using this) hω hv h (hS hs)
       refine .val ?_ h2 h3;rw[execOp_builtin];simp only[builtin_append];refine Ja ?_;rw[show(#[s,x]:Array Operand).map a.eval=#[a.eval s,.slice A news.length cap]from by simp[mL]];exact h1
      ·cases h
     ·cases hc
    ·rename_i e s' x' hk cN hs hx;split at hc
     ·rename_i i hi;split at hc
      ·rename_i iY;cases hc;obtain⟨_,_,_,_,hu⟩:=Jh hT hk;obtain⟨_,_,_,_,fQ⟩:=Jh hT cN;obtain⟨ti,z,cU,aM,mE,hz,_,dL⟩:=(hT e i hi).info;simp only[Yd]at h;have dX:=hS hx;generalize x'.ev U=xv at h dX;revert dX;split at h
       ·rename_i l;intro dX;have mL:=dX.str_inv;have e1:ti.size=1:=by rw[aM,iY.1]
        have e2:ti.bytes=1:=by rw[mE,iY.2]
        rw[show Gv (d,site) ver 1 1 (s'.ev U) (l.map Yx) st=Gv (d,site) ver ti.size ti.bytes (s'.ev U) (l.map Yx) st from by rw[e1,e2]]at h
        obtain ⟨v,w',G',h1,h2,h3⟩:=R3 (P:=P) (ty:=ty) hR hu fQ (.inl rfl) cU hz (by rw [dL,aM]) (vx:=.string ⟨l.toArray⟩) (fun _=>by rw [e1];exact Ma.str) (fun hb=>by
         have:=hB hb;simp only[Ri,hk]at this;rw[<- aJ];simpa using this) hω hv h (hS hs)
        refine .val ?_ h2 h3;rw[execOp_builtin];simp only[builtin_append];refine Ja ?_;rw[show(#[s,x]:Array Operand).map a.eval=#[a.eval s,.string ⟨l.toArray⟩]from by simp[mL]];exact h1
       ·cases h
      ·cases hc
     ·cases hc
    ·cases hc
   ·rename_i x y ha;have iX:args=#[x,y]:=by apply zM;simpa using ha
    subst iX;split at hc
    ·rename_i x' y' hx hy;cases hc;simp only[Yd]at h;have hq:=Kg h;clear h;obtain⟨h,rfl⟩:=hq;simp only[Yp]at h;have dX:=hS hx;have qO:=hS hy;generalize x'.ev U=xv at h dX;generalize y'.ev U=yv at h qO;revert dX qO;split at h
     ·rename_i k m k' n;intro dX qO;split at h
      ·rename_i hk;subst hk;cases h;refine .pure hR ⟨_,?_,.fz _ _<|.i _ _⟩;rw[execOp_builtin];simp only[builtin_max];refine Ja ?_;rw[show(#[x,y]:Array Operand).map a.eval=#[.int k m,.int k n]from by simp[dX.int_inv,qO.int_inv]];simp[Builtin.max_,Builtin.max2]
      ·cases h
     ·cases h
    ·cases hc
   ·cases hc
 |_=>simp only[Vo]at hc;cases hc
end
end Go.AM

namespace Go.AM
open Go Go.RowKit
def Zw.rd:Zw->List Nat
 |.t n=>[n]
 |.c _=>[]
def Tx:Option Zw->List Nat
 |some x=>x.rd
 |none=>[]
def Rd:List Zw->List Nat
 |[]=>[]
 |x::r=>x.rd++Rd r
def Rz{α:Type}:List (α × Zw)->List Nat
 |[]=>[]
 |(_,x)::r=>x.rd++Rz r
def Vu.rd:Vu->List Nat
 |.mv x=>x.rd
 |.pick c a b=>c.rd++a.rd++b.rd
 |.alloc _=>[]
 |.box _ x=>x.rd
 |.boxf _ x=>x.rd
 |.build _ ps=>Rz (ps.map fun p=>(p.1,p.2.2))
 |.bslice _ _ ps=>Rz ps
 |.load _ _ a=>a.rd
 |.ldf _ _ a=>a.rd
 |.store _ a x=>a.rd++x.rd
 |.nilc x=>x.rd
 |.bin _ x y=>x.rd++y.rd
 |.beq _ x y=>x.rd++y.rd
 |.un _ x=>x.rd
 |.cvi _ x=>x.rd
 |.b2s x=>x.rd
 |.mkfn _ l=>Rd l
 |.mkbf _ l=>Rd l
 |.mkfz _ a x b=>Rd a++x.rd++Rd b
 |.mks _ _ l c=>l.rd++c.rd
 |.slS x lo hi=>x.rd++Tx lo++Tx hi
 |.slL _ x lo hi=>x.rd++Tx lo++Tx hi
 |.slA _ _ x lo hi=>x.rd++Tx lo++Tx hi
 |.fad _ x=>x.rd
 |.fld _ _ _ x=>x.rd
 |.iaL _ x i=>x.rd++i.rd
 |.iaA _ _ x i=>x.rd++i.rd
 |.ixA _ _ _ x i=>x.rd++i.rd
 |.ixS x i=>x.rd++i.rd
 |.ext _ x=>x.rd
 |.call _ _ l=>Rd l
 |.callv f l=>f.rd++Rd l
 |.len _ x=>x.rd
 |.app _ _ s x=>s.rd++x.rd
 |.appS s x=>s.rd++x.rd
 |.max x y=>x.rd++y.rd
 |.peq _ x y=>x.rd++y.rd
 |.cvp _ x=>x.rd
 |.aeq _ _ x y=>x.rd++y.rd
 |.lkp x i=>x.rd++i.rd
 |.bad=>[]
theorem Wh{U τ:Sl}{x:Zw}(h :∀t∈x.rd,U t=τ t):x.ev U=x.ev τ:=by
 cases x with
 |t n=>exact h n (by simp[Zw.rd])
 |c v=>rfl
theorem A1{U τ:Sl}{len cap:Nat}{lo hi:Option Zw}(h1 :∀t∈Tx lo,U t=τ t)(h2 :∀t∈Tx hi,U t=τ t):Qk U len cap lo hi=Qk τ len cap lo hi:=by
 unfold Qk
 cases lo with
 |none=>
  cases hi with
  |none=>rfl
  |some y=>simp only[Wh (x:=y) h2]
 |some x=>
  cases hi with
  |none=>simp only[Wh (x:=x) h1]
  |some y=>simp only[Wh (x:=x) h1,Wh (x:=y) h2]
theorem Pt{U τ:Sl}:∀{l:List Zw},(∀t∈Rd l,U t=τ t)->l.map (·.ev U)=l.map (·.ev τ)
 |[],_=>rfl
 |x::r,h=>by
  simp only[jB];rw[Wh (x:=x)<|fun t ht=>h t<|by simp[Rd,ht],Pt (l:=r)<|fun t ht=>h t<|by simp[Rd,ht]]
theorem SR{U τ:Sl}{z:List AV}:∀{l:List (Nat × Zw)}{rows:List (List AV)},(∀t∈Rz l,U t=τ t)->Vd z U rows l=Vd z τ rows l
 |[],_,_=>rfl
 |(i,x)::r,rows,h=>by
  unfold Vd;rw[Wh (x:=x)<|fun t ht=>h t<|by simp[Rz,ht]];split
  ·split
   ·exact SR (fun t ht=>h t<|by simp[Rz,ht])
   ·rfl
  ·rfl
theorem SS{U τ:Sl}:∀{l:List (Nat × Nat × Zw)}{cs:List AV},(∀t∈Rz (l.map fun p=>(p.1,p.2.2)),U t=τ t)->Ve U cs l=Ve τ cs l
 |[],_,_=>rfl
 |(o,n,x)::r,cs,h=>by
  unfold Ve;rw[Wh (x:=x)<|fun t ht=>h t<|by simp[Rz,ht]];dsimp only;split
  ·exact SS (fun t ht=>h t (by simp only[jB,Rz,kZ];exact .inr ht))
  ·rfl
theorem Xdt{key:Zt}{ver:Nat}{U τ:Sl}{op:Vu}(h :∀t∈op.rd,U t=τ t):Yp key ver U op=Yp key ver τ op:=by
 have l1 :∀{a b:List Nat},(∀t∈a++b,U t=τ t)->(∀t∈a,U t=τ t)/\(∀t∈b,U t=τ t):=fun h=>⟨fun t ht=>h t<|kZ.2<|.inl ht,fun t ht=>h t<|kZ.2<|.inr ht⟩
 cases op with
 |mv x=>simp only[Yp,Wh h]
 |pick c x y=>
  obtain⟨h1,h2⟩:=l1 h;obtain⟨h3,h4⟩:=l1 h1;simp only[Yp,Wh h2,Wh h3,Wh h4]
 |build z ps=>simp only[Yp,SS h]
 |bslice z n ps=>simp only[Yp];split<;>(try rfl);simp only[SR h]
 |boxf n x=>simp only[Yp,Wh h]
 |nilc x=>simp only[Yp,Wh h]
 |bin op x y=>obtain⟨h1,h2⟩:=l1 h;simp only[Yp,Wh h1,Wh h2]
 |beq n x y=>obtain⟨h1,h2⟩:=l1 h;simp only[Yp,Wh h1,Wh h2]
 |un op x=>simp only[Yp,Wh h]
 |cvi k x=>simp only[Yp,Wh h]
 |b2s x=>simp only[Yp,Wh h]
 |mkfn f l=>simp only[Yp,Pt h]
 |mkbf f l=>simp only[Yp,Pt h]
 |slS x lo hi=>
  obtain⟨h1,h2⟩:=l1 h;obtain⟨h3,h4⟩:=l1 h1;simp only[Yp,Wh h3];split
  ·rw[A1 h4 h2]
  ·rfl
 |slL n x lo hi=>
  obtain⟨h1,h2⟩:=l1 h;obtain⟨h3,h4⟩:=l1 h1;simp only[Yp,Wh h3];split
  ·rw[A1 h4 h2]
  ·rfl
 |fad o x=>simp only[Yp,Wh h]
 |fld o n g x=>simp only[Yp,Wh h]
 |iaL n x i=>obtain⟨h1,h2⟩:=l1 h;simp only[Yp,Wh h1,Wh h2]
 |iaA n m x i=>obtain⟨h1,h2⟩:=l1 h;simp only[Yp,Wh h1,Wh h2]
 |ixA n m g x i=>obtain⟨h1,h2⟩:=l1 h;simp only[Yp,Wh h1,Wh h2]
 |ixS x i=>obtain⟨h1,h2⟩:=l1 h;simp only[Yp,Wh h1,Wh h2]
 |ext k x=>simp only[Yp,Wh h]
 |len s x=>cases s<;>simp only[Yp,Wh h]
 |max x y=>obtain⟨h1,h2⟩:=l1 h;simp only[Yp,Wh h1,Wh h2]
 |peq n x y=>obtain⟨h1,h2⟩:=l1 h;simp only[Yp,Wh h1,Wh h2]
 |ldf n g x=>simp only[Yp,Wh h]
 |aeq n ks x y=>obtain⟨h1,h2⟩:=l1 h;simp only[Yp,Wh h1,Wh h2]
 |lkp x i=>obtain⟨h1,h2⟩:=l1 h;simp only[Yp,Wh h1,Wh h2]
 |_=>rfl
theorem qP{C:Vw}{d site ver:Nat}{st:St}{U τ:Sl}{op:Vu}(h :∀t∈op.rd,U t=τ t):Yd C d site ver U st op=Yd C d site ver τ st op:=by
 have l1 :∀{a b:List Nat},(∀t∈a++b,U t=τ t)->(∀t∈a,U t=τ t)/\(∀t∈b,U t=τ t):=fun h=>⟨fun t ht=>h t<|kZ.2<|.inl ht,fun t ht=>h t<|kZ.2<|.inr ht⟩
 cases op with
 |load n g x=>simp only[Yd,Wh h]
 |store n x y=>obtain⟨h1,h2⟩:=l1 h;simp only[Yd,Wh h1,Wh h2]
 |box n x=>simp only[Yd,Wh h]
 |mks z b x y=>obtain⟨h1,h2⟩:=l1 h;simp only[Yd,Wh h1,Wh h2]
 |mkfz f a x b=>
  obtain⟨h1,h2⟩:=l1 h;obtain⟨h3,h4⟩:=l1 h1;simp only[Yd,Wh h4,Pt h3,Pt h2]
 |slA n m x lo hi=>
  obtain⟨h1,h2⟩:=l1 h;obtain⟨h3,h4⟩:=l1 h1;simp only[Yd,Wh h3,A1 h4 h2]
 |app n b x y=>obtain⟨h1,h2⟩:=l1 h;simp only[Yd,Wh h1,Wh h2]
 |appS x y=>obtain⟨h1,h2⟩:=l1 h;simp only[Yd,Wh h1,Wh h2]
 |call p f l=>cases p<;>simp only[Yd,Pt h]
 |callv f l=>obtain⟨h1,h2⟩:=l1 h;simp only[Yd,Wh h1,Pt h2]
 |cvp n x=>simp only[Yd,Wh h]
 |_=>simp only[Yd,Xdt h]
inductive A2 where
 |none|ld|box|frz|own|all
 deriving DecidableEq
def Vu.cls:Vu->A2
 |.load _ _ _=>.ld
 |.store _ _ _|.box _ _=>.box
 |.slA _ _ _ _ _=>.frz
 |.mkfz _ _ _ _=>.all
 |.app _ _ _ _|.appS _ _=>.own
 |.call true _ _|.callv _ _|.cvp _ _=>.all
 |_=>.none
def AI.rd(o:AI):List Nat:=o.op.rd++(match o.guard with|some (t,_)=>[t]|none=>[])
def Xt9:A2->A2->Bool
 |.none,_|_,.none=>true
 |.ld,.ld=>true
 |.frz,.ld=>true
 |.own,.ld|.own,.box|.own,.frz|.ld,.own|.box,.own|.frz,.own=>true
 |_,_=>false
def A3(x y:AI):Bool:=
 (match x.dst with|some d=>!y.rd.contains d&&y.dst != some d|none=>true)&&(match y.dst with|some d=>!x.rd.contains d|none=>true)
def Ab(x y:AI):Bool:=Xt9 x.op.cls y.op.cls&&A3 x y
theorem Fo{C:Vw}{d site ver:Nat}{U:Sl}{st:St}{op:Vu}(hc:op.cls=.none){v:AV}{aP:St}(h:Yd C d site ver U st op=some (v,aP)):aP=st/\∀aS,Yd C d site ver U aS op=some (v,aS):=by
 have pure :∀{op:Vu},(∀st,Yd C d site ver U st op=(Yp (d,site) ver U op).map (·,st))->Yd C d site ver U st op=some (v,aP)->aP=st/\∀aS,Yd C d site ver U aS op=some (v,aS):=by
  intro op he h;rw[he]at h;simp only[kN,Prod.mk.injEq]at h;obtain⟨x,h1,rfl,rfl⟩:=h;exact⟨rfl,fun aS=>by rw[he,h1];rfl⟩
 cases op with
 |load=>cases hc
 |store=>cases hc
 |box=>cases hc
 |slA=>cases hc
 |mkfz=>cases hc
 |app=>cases hc
 |appS=>cases hc
 |callv=>cases hc
 |cvp=>cases hc
 |call p f l=>
  cases p with
  |true=>cases hc
  |false=>
   simp only[Yd]at h⊢;split at h
   ·split at h
    ·simp only[kN,Prod.mk.injEq]at h;obtain⟨x,h1,rfl,rfl⟩:=h;exact⟨rfl,fun aS=>by simp[h1]⟩
    ·cases h
   ·cases h
 |mks z b l c=>
  simp only[Yd]at h⊢;split at h
  ·split at h
   ·split at h
    ·rename_i aN;cases h;exact⟨rfl,fun aS=>by rw[kC aN]⟩
    ·cases h
   ·cases h
  ·cases h
 |_=>exact pure (fun st=>rfl) h
theorem A5{C:Vw}{d site ver:Nat}{U:Sl}{st:St}{op:Vu}(hc:op.cls=.ld){v:AV}{aP:St}(h:Yd C d site ver U st op=some (v,aP)):aP=st/\∀aS,aS.bx=st.bx->Yd C d site ver U aS op=some (v,aS):=by
 cases op with
 |load n g x=>
  simp only[Yd,kN,Prod.mk.injEq]at h⊢;obtain⟨x',h1,rfl,rfl⟩:=h;refine⟨rfl,fun aS hb=>⟨x',?_,rfl,trivial⟩⟩;unfold Ml at h1⊢;rw[hb];exact h1
 |call p=>cases p<;>cases hc
 |_=>cases hc
theorem qQ{C:Vw}{d site ver:Nat}{U:Sl}{st:St}{op:Vu}(hc:op.cls=.box\/op.cls=.frz){v:AV}{aP:St}(h:Yd C d site ver U st op=some (v,aP)):
  ∃bx',aP={ st with bx:=bx' }/\∀aS,aS.bx=st.bx->Yd C d site ver U aS op=some (v,{ aS with bx:=bx' }):=by
 cases op with
 |store n x y=>
  simp only[Yd,kN,Prod.mk.injEq]at h⊢;obtain⟨s',h1,rfl,rfl⟩:=h;unfold Cl at h1;split at h1
  ·rename_i k v o hx;split at h1
   ·rename_i v' cs bN;split at h1
    ·rename_i aN;cases h1;refine⟨_,rfl,fun aS hb=>⟨_,?_,rfl,rfl⟩⟩;unfold Cl;simp only[hx,hb,bN];rw[kC aN]
    ·cases h1
   ·cases h1
  ·cases h1
 |box n x=>
  simp only[Yd]at h⊢;split at h
  ·rename_i aN;cases h;exact⟨_,rfl,fun aS hb=>by rw[kC aN,hb]⟩
  ·cases h
 |slA n m x lo hi=>
  simp only[Yd]at h⊢;split at h
  ·rename_i k v o hx;split at h
   ·rename_i v' cs bN;split at h
    ·rename_i aN;split at h
     ·rename_i cs' hs;simp only[kN,Prod.exists,Prod.mk.injEq]at h;obtain⟨a,b,hb,rfl,rfl⟩:=h;exact⟨_,rfl,fun aS bY=>by simp only[bY,bN,hs,hb];rw[kC aN];rfl⟩
     ·cases h
    ·cases h
   ·cases h
  ·cases h
 |call p=>cases p<;>rcases hc with hc|hc<;>cases hc
 |_=>rcases hc with hc|hc<;>cases hc
theorem qR{C:Vw}{d site ver:Nat}{U:Sl}{st:St}{op:Vu}(hc:op.cls=.own){v:AV}{aP:St}(h:Yd C d site ver U st op=some (v,aP)):
  ∃ow',aP={ st with ow:=ow' }/\∀aS,aS.ow=st.ow->Yd C d site ver U aS op=some (v,{ aS with ow:=ow' }):=by
 have key :∀{size bytes:Nat}{s:AV}{news:List (List AV)},Gv (d,site) ver size bytes s news st=some (v,aP)->∃ow',aP={ st with ow:=ow' }/\∀aS,aS.ow=st.ow->Gv (d,site) ver size bytes s news aS=some (v,{ aS with ow:=ow' }):=by
  intro size bytes s news h;unfold Gv at h;split at h
  ·rename_i o rows;split at h
   ·rename_i aN;split at h
    ·rename_i iT;cases h;refine⟨st.ow,rfl,fun aS hb=>?_⟩;unfold Gv;simp only[];rw[kC aN,kC iT,<- hb]
    ·rename_i iT;split at h
     ·cases h
     ·cases h;refine⟨_,rfl,fun aS hb=>?_⟩;unfold Gv;simp only[];rw[kC aN,kA iT,hb]
     ·rename_i k v';split at h
      ·rename_i v2 n bN;split at h
       ·rename_i SU;cases h;refine⟨_,rfl,fun aS hb=>?_⟩;unfold Gv;simp only[hb,bN];rw[kC aN,kA iT,kC SU]
       ·cases h
      ·cases h
   ·cases h
  ·cases h
 cases op with
 |app n b x y=>
  simp only[Yd]at h⊢;split at h
  ·exact key h
  ·cases h
 |appS x y=>
  simp only[Yd]at h⊢;split at h
  ·exact key h
  ·cases h
 |call p=>cases p<;>cases hc
 |_=>cases hc
theorem Xqh{U:Sl}{d e:Option Nat}(v y:AV)(h :∀t,d=some t->e≠some t):Vj (Vj U d v) e y=Vj (Vj U e y) d v:=by
 cases d with
 |none=>rfl
 |some d=>
  cases e with
  |none=>rfl
  |some e=>
   have aQ:d≠e:=fun he=>h d rfl (by rw[he])
   funext t
   simp only[Vj,Uj];by_cases h1:t=d
   ·subst h1;rw[kA<|fun he=>aQ he,kC rfl];simp
   ·by_cases h2:t=e
    ·subst h2;simp[h1]
    ·simp[h1,h2]
theorem SV{U:Sl}{d:Option Nat}{v:AV}{t:Nat}(h:d≠some t):Vj U d v t=U t:=by
 cases d with
 |none=>rfl
 |some d=>simp only[Vj,Uj];rw[kA<|fun he=>h<|by rw[he]]
theorem SW{C:Vw}{d site ver:Nat}{o:AI}{U σ1:Sl}{st aP:St}(h:Kk C d site ver o U st=some (σ1,aP)):
  ∃v,σ1=Vj U o.dst v/\((Yd C d site ver U st o.op=some (v,aP)/\∀τ aS v2 mM,(∀t∈o.rd,U t=τ t)->Yd C d site ver τ aS o.op=some (v2,mM)->Kk C d site ver o τ aS=some (Vj τ o.dst v2,mM))\/
   (aP=st/\∀τ aS,(∀t∈o.rd,U t=τ t)->Kk C d site ver o τ aS=some (Vj τ o.dst v,aS))):=by
 unfold Kk at h;split at h
 ·rename_i hg;simp only[kN,Prod.exists,Prod.mk.injEq]at h;obtain⟨v,aA,h1,rfl,rfl⟩:=h;refine⟨v,rfl,.inl ⟨h1,fun τ aS v2 mM _ he=>?_⟩⟩;unfold Kk;rw[hg];simp only[he,kK]
 ·rename_i t w hg;have ht:t∈o.rd:=by unfold AI.rd;rw[hg];simp
  split at h
  ·rename_i x hx;split at h
   ·rename_i A9;simp only[kN,Prod.exists,Prod.mk.injEq]at h;obtain⟨v,aA,h1,rfl,rfl⟩:=h;refine⟨v,rfl,.inl ⟨h1,fun τ aS v2 mM hτ he=>?_⟩⟩;unfold Kk;rw[hg];have:τ t=.b x:=by rw[<- hτ t ht];exact hx
    simp only[this,kC A9,he,kK]
   ·rename_i A9;cases h;refine⟨.tup [],rfl,.inr ⟨rfl,fun τ aS hτ=>?_⟩⟩;unfold Kk;rw[hg];have:τ t=.b x:=by rw[<- hτ t ht];exact hx
    simp only[this,kA A9]
  ·rename_i hx;cases h;refine⟨.tup [],rfl,.inr ⟨rfl,fun τ aS hτ=>?_⟩⟩;unfold Kk;rw[hg];have:τ t=.tup []:=by rw[<- hτ t ht];exact hx
   simp only[this]
  ·cases h
theorem Wbt{x y:AI}(h:A3 x y=true):(∀t,x.dst=some t->t ∉ y.rd/\y.dst≠some t)/\(∀t,y.dst=some t->t ∉ x.rd):=by
 unfold A3 at h;rw[kR]at h;constructor
 ·intro t ht;have h1:=h.1;rw[ht]at h1;simp only[kR,Bool.not_eq_true',bne_iff_ne,ne_eq]at h1;exact⟨fun hm=>(by have:=List.contains_iff_mem.2 hm;rw[h1.1]at this;cases this),h1.2⟩
 ·intro t ht;have h1:=h.2;rw[ht]at h1;simp only[Bool.not_eq_true']at h1;intro hm;have:=List.contains_iff_mem.2 hm;rw[h1]at this;cases this
theorem Xnv{C:Vw}{d s1 v1 s2 v2:Nat}{x y:AI}(hk:Ab x y=true){U σ1 σ2:Sl}{st aP aS:St}(h1:Kk C d s1 v1 x U st=some (σ1,aP))(h2:Kk C d s2 v2 y σ1 aP=some (σ2,aS)):
  ∃τ1 A_,Kk C d s2 v2 y U st=some (τ1,A_)/\Kk C d s1 v1 x τ1 A_=some (σ2,aS):=by
 unfold Ab at hk;rw[kR]at hk;obtain⟨aU,dB⟩:=hk;obtain⟨hx,hy⟩:=Wbt dB;obtain⟨vx,rfl,ax⟩:=SW h1;obtain⟨vy,rfl,ay⟩:=SW h2;have cy :∀t∈y.rd,Vj U x.dst vx t=U t:=fun t ht=>SV (fun he=>(hx t he).1 ht)
 have cx :∀u:AV,∀t∈x.rd,U t=Vj U y.dst u t:=fun u t ht=>(SV<|fun he=>hy t he ht).symm
 have mN :∀t∈y.op.rd,Vj U x.dst vx t=U t:=fun t ht=>cy t (by unfold AI.rd;simp[ht])
 have mO :∀u:AV,∀t∈x.op.rd,U t=Vj U y.dst u t:=fun u t ht=>cx u t (by unfold AI.rd;simp[ht])
 have fT:Vj (Vj U x.dst vx) y.dst vy=Vj (Vj U y.dst vy) x.dst vx:=Xqh _ _ (fun t ht=>(hx t ht).2);rw[fT]
 -- each of the two steps,at another state
 rcases ax with⟨ax,mQ⟩|⟨rfl,mQ⟩
 ·rcases ay with⟨ay,lA⟩|⟨rfl,lA⟩
  ·rw[qP mN]at ay;have eZ :∀{mR mS:St},Yd C d s2 v2 U mR y.op=some (vy,mS)->Kk C d s2 v2 y U mR=some (Vj U y.dst vy,mS):=fun he=>lA U _ vy _ cy he
   have e7 :∀{mR mS:St},Yd C d s1 v1 U mR x.op=some (vx,mS)->Kk C d s1 v1 x (Vj U y.dst vy) mR=some (Vj (Vj U y.dst vy) x.dst vx,mS):=fun he=>mQ _ _ vx _ (cx vy) (by rw[<- qP (mO vy)];exact he)
   cases cI:x.op.cls with
   |none=>
    obtain⟨rfl,e1⟩:=Fo cI ax;exact⟨_,_,eZ ay,e7<|e1 _⟩
   |ld=>
    obtain⟨rfl,e1⟩:=A5 cI ax
    cases bP:y.op.cls with
    |none=>obtain⟨rfl,_⟩:=Fo bP ay;exact⟨_,_,eZ ay,e7 ax⟩
    |ld=>obtain⟨rfl,_⟩:=A5 bP ay;exact⟨_,_,eZ ay,e7 ax⟩
    |own=>obtain⟨ow',rfl,_⟩:=qR bP ay;exact⟨_,_,eZ ay,e7<|e1 _ rfl⟩
    |box=>rw[cI,bP]at aU;cases aU
    |frz=>rw[cI,bP]at aU;cases aU
    |all=>rw[cI,bP]at aU;cases aU
   |box=>
    obtain⟨bx',rfl,e1⟩:=qQ (.inl cI) ax
    cases bP:y.op.cls with
    |none=>obtain⟨rfl,e2⟩:=Fo bP ay;exact⟨_,_,eZ<|e2 _,e7 ax⟩
    |own=>
     obtain⟨ow',rfl,e2⟩:=qR bP ay;exact⟨_,_,eZ<|e2 st rfl,e7<|e1 { st with ow:=ow' } rfl⟩
    |ld=>rw[cI,bP]at aU;cases aU
    |box=>rw[cI,bP]at aU;cases aU
    |frz=>rw[cI,bP]at aU;cases aU
    |all=>rw[cI,bP]at aU;cases aU
   |frz=>
    obtain⟨bx',rfl,e1⟩:=qQ (.inr cI) ax
    cases bP:y.op.cls with
    |none=>obtain⟨rfl,e2⟩:=Fo bP ay;exact⟨_,_,eZ<|e2 _,e7 ax⟩
    |own=>
     obtain⟨ow',rfl,e2⟩:=qR bP ay;exact⟨_,_,eZ<|e2 st rfl,e7<|e1 { st with ow:=ow' } rfl⟩
    |ld=>
     -- a box less: what is read there is read before too
     cases aY:y.op with
     |load n g a=>
      rw[aY]at ay;simp only[Yd,kN,Prod.mk.injEq]at ay;obtain⟨v',ay,rfl,rfl⟩:=ay
      have mT:Ml st n g (a.ev U)=some v':=by
       unfold Ml at ay⊢;split at ay
       ·exact ay
       ·rename_i k ver o hp
        cases BA:x.op with
        |slA n1 m1 x1 lo hi=>
         rw[BA]at ax;simp only[Yd]at ax;split at ax
         ·rename_i k1 aAe o1 BB;split at ax
          ·rename_i aAf fU bN;split at ax
           ·split at ax
            ·simp only[kN,Prod.exists,Prod.mk.injEq]at ax;obtain⟨_,_,_,_,bU⟩:=ax;have iZ:bx'=del st.bx k1:=by injection bU with _ h2 _;exact h2.symm
             subst iZ;simp only[]at ay;by_cases bL:k=k1
             ·subst bL
              have:lk (del st.bx k) k=none:=by
               unfold del
               have hf :∀l:List (Zt × Nat × List AV),lk (l.filter fun x=>decide<|x.1≠k) k=none:=by
                intro l
                induction l with
                |nil=>rfl
                |cons z r ih=>
                 obtain⟨k2,z⟩:=z;simp only[List.filter_cons];split
                 ·rename_i aQ;simp only[jA]at aQ;simp only[lk,kA aQ,ih]
                 ·exact ih
               exact hf _
              rw[this]at ay;cases ay
             ·have:lk (del st.bx k1) k=lk st.bx k:=by
               unfold del
               have hf :∀l:List (Zt × Nat × List AV),lk (l.filter fun x=>decide<|x.1≠k1) k=lk l k:=by
                intro l
                induction l with
                |nil=>rfl
                |cons z r ih=>
                 obtain⟨k2,z⟩:=z;simp only[List.filter_cons];split
                 ·simp only[lk,ih]
                 ·rename_i aQ;simp only[jA,ne_eq,kP]at aQ;subst aQ;rw[ih];simp only[lk];rw[kA<|fun e=>bL e.symm]
               exact hf _
              rw[this]at ay;exact ay
            ·cases ax
           ·cases ax
          ·cases ax
         ·cases ax
        |call p f l=>rw[BA]at cI;cases p<;>cases cI
        |_=>rw[BA]at cI;cases cI
       ·cases ay
      have:Yd C d s2 v2 U st y.op=some (v',st):=by rw[aY];simp only[Yd,mT,kK]
      exact⟨_,_,eZ this,e7<|e1 _ rfl⟩
     |call p f l=>rw[aY]at bP;cases p<;>cases bP
     |_=>rw[aY]at bP;cases bP
    |box=>rw[cI,bP]at aU;cases aU
    |frz=>rw[cI,bP]at aU;cases aU
    |all=>rw[cI,bP]at aU;cases aU
   |own=>
    obtain⟨ow',rfl,e1⟩:=qR cI ax
    cases bP:y.op.cls with
    |none=>obtain⟨rfl,e2⟩:=Fo bP ay;exact⟨_,_,eZ<|e2 _,e7 ax⟩
    |ld=>
     obtain⟨rfl,e2⟩:=A5 bP ay;exact⟨_,_,eZ<|e2 st rfl,e7 ax⟩
    |box=>
     obtain⟨bx',rfl,e2⟩:=qQ (.inl bP) ay;exact⟨_,_,eZ<|e2 st rfl,e7<|e1 { st with bx:=bx' } rfl⟩
    |frz=>
     obtain⟨bx',rfl,e2⟩:=qQ (.inr bP) ay;exact⟨_,_,eZ<|e2 st rfl,e7<|e1 { st with bx:=bx' } rfl⟩
    |own=>rw[cI,bP]at aU;cases aU
    |all=>rw[cI,bP]at aU;cases aU
   |all=>
    cases bP:y.op.cls with
    |none=>obtain⟨rfl,e2⟩:=Fo bP ay;exact⟨_,_,eZ<|e2 _,e7 ax⟩
    |ld=>rw[cI,bP]at aU;cases aU
    |own=>rw[cI,bP]at aU;cases aU
    |box=>rw[cI,bP]at aU;cases aU
    |frz=>rw[cI,bP]at aU;cases aU
    |all=>rw[cI,bP]at aU;cases aU
  ·exact⟨_,_,lA U st cy,mQ _ _ vx _ (cx vy) (by rw[<- qP (mO vy)];exact ax)⟩
 ·rcases ay with⟨ay,lA⟩|⟨rfl,lA⟩
  ·rw[qP mN]at ay;exact⟨_,_,lA U _ vy _ cy ay,mQ _ _<|cx vy⟩
  ·exact⟨_,_,lA U _ cy,mQ _ _<|cx vy⟩
theorem BD{C:Vw}{d id base:Nat}{ops:List AI}{i:Nat}{y:AI}(hi:ops[i]?=some y){post:List Nat}:∀(pre:List Nat) (_ :∀j∈pre,∀x,ops[j]?=some x->Ab x y=true){U σ2:Sl}{st aS:St},
  Bj C d id base ops (pre++i::post) U st=some (σ2,aS)->Bj C d id base ops (i::(pre++post)) U st=some (σ2,aS)
 |[],_,U,σ2,st,aS,h=>h
 |j::pre,hp,U,σ2,st,aS,h=>by
  simp only[kY,Bj]at h⊢
  cases hj:ops[j]? with
  |none=>
   simp only[hj]at h⊢;have:=BD hi pre (fun j' fV=>hp j'<|by simp[fV]) h;simpa only[Bj,hj]using this
  |some x=>
   simp only[hj]at h;split at h
   ·rename_i σ1 aP h1;have h3:=BD hi pre (fun j' fV=>hp j'<|by simp[fV]) h;simp only[Bj,hi]at h3;split at h3
    ·rename_i σ3 mM h4;obtain⟨τ1,A_,h5,h6⟩:=Xnv (hp j (by simp) x hj) h1 h4;simp only[hi,h5,hj,h6];exact h3
    ·cases h3
   ·cases h
end Go.AM

namespace Go.AM
open Go Go.RowKit Go.BigFrame
structure Ka(G G':Gh)(w0:World)(st aA:St)(w':World)(d:Nat):Prop where
 le:G.Le G'
 rel:Yy G' w0 aA w'
 nx:st.nx<=aA.nx
 old :∀k v,v<st.nx->G'.ρ k v=G.ρ k v/\G'.ω k v=G.ω k v
 pend :∀k v cs,k.1<d->v<st.nx->G.ρ k v=none->lk st.bx k=some (v,cs)->lk aA.bx k=some (v,cs)
 newH :∀g o v,G'.H g o=some v->G.H g o=some v\/w0.heap.size<=g
section
variable{G G1 G2:Gh}{w0 w w1 w2:World}{st aP aS:St}{d:Nat}
theorem Ka.refl(hR:Yy G w0 st w):Ka G G w0 st st w d:=
 ⟨.refl G,hR,kU _,fun _ _ _=>⟨rfl,rfl⟩,fun _ _ _ _ _ _ h=>h,fun _ _ _ h=>.inl h⟩
theorem Ka.trans(h:Ka G G1 w0 st aP w1 d)(k:Ka G1 G2 w0 aP aS w2 d):Ka G G2 w0 st aS w2 d:=by
 refine⟨h.le.trans k.le,k.rel,kX h.nx k.nx,fun q v hv=>?_,fun q v cs hq hv hn hl=>?_,fun g o v hv=>?_⟩
 ·have h1:=h.old q v hv;have h2:=k.old q v (yB hv h.nx);exact⟨h2.1.trans h1.1,h2.2.trans h1.2⟩
 ·exact k.pend q v cs hq (yB hv h.nx) (by rw[(h.old q v hv).1];exact hn) (h.pend q v cs hq hv hn hl)
 ·rcases k.newH g o v hv with h'|h'
  ·exact h.newH g o v h'
  ·exact .inr h'
theorem Ka.step{site ver:Nat}(h:Ka G G1 w0 st aP w1 d)(k:Vq G1 G2 w0 aP aS w2 d site ver)(hv:st.nx<=ver):Ka G G2 w0 st aS w2 d:=by
 refine⟨h.le.trans k.le,k.rel,kX h.nx k.nx,fun q v fF=>?_,fun q v cs hq fF hn hl=>?_,fun g o v fF=>?_⟩
 ·have h1:=h.old q v fF;have h2:=k.old q v (yB fF h.nx) (fun he=>by injection he with _ he;omega);exact⟨h2.1.trans h1.1,h2.2.trans h1.2⟩
 ·exact k.pend q v cs (Nat.le_of_lt hq) (yB fF h.nx) (fun he=>by rw[he]at hq;exact zH _ hq) (by rw[(h.old q v fF).1];exact hn) (h.pend q v cs hq fF hn hl)
 ·rcases k.newH g o v fF with h'|h'
  ·exact h.newH g o v h'
  ·exact .inr h'
theorem Vq.of_run{site ver:Nat}(h:Ka G G1 w0 st aP w1 (d+1)):Vq G G1 w0 st aP w1 d site ver:=
 ⟨h.le,h.rel,h.nx,fun k v hv _=>h.old k v hv,fun k v cs hk hv _ hn hl=>h.pend k v cs (by omega) hv hn hl,h.newH⟩
end
def Nd(P:Program)(f:FuncId)(Yv:Array Value)(w:World)(K:Value->World->Prop):Prop:=
 ((callFunc f Yv).run P w=.ok (.enter f Yv) w/\Calls P f Yv w fun e w'=>match e with|.returned v=>K v w'|_=>False)\/
 ∃v w',(callFunc f Yv).run P w=.ok (.value v) w'/\K v w'
theorem Nd.mono{P:Program}{f:FuncId}{Yv:Array Value}{w:World}{K K':Value->World->Prop}(h:Nd P f Yv w K)(hk :∀v w',K v w'->K' v w'):Nd P f Yv w K':=by
 rcases h with⟨h1,h2⟩|⟨v,w',h1,h2⟩
 ·refine .inl ⟨h1,h2.mono fun e w' he=>?_⟩
  cases e with
  |returned v=>exact hk _ _ he
  |panicked c=>exact he
  |outgrown=>exact he
 ·exact .inr ⟨v,w',h1,hk _ _ h2⟩
def Rr(P:Program)(fm:FM)(C:Vw):Prop:=
 ∀d c args st r aA,C d c args st=some (r,aA)->∀f,fm f=some c->∀G w0 w Yv,G.fm=fm->Yy G w0 st w->Rs G args Yv->
  Nd P f Yv.toArray w fun v w'=>∃G',R G' r v/\Ka G G' w0 st aA w' d
def SX(nt:Nat):Option Nat->Bool
 |some t=>decide (t<nt)
 |none=>true
def Ep(fz:List Nat):List Zw->Option (List Zw × Zw × List Zw)
 |[]=>none
 |.t n::r=>if fz.contains (1000000+n)=true then some ([],.t n,r)else (Ep fz r).map fun y=>(.t n::y.1,y.2)
 |.c v::r=>(Ep fz r).map fun y=>(.c v::y.1,y.2)
theorem BE{fz:List Nat}:∀{l:List Zw}{y:List Zw × Zw × List Zw},Ep fz l=some y->l=y.1++y.2.1::y.2.2
 |[],y,h=>by cases h
 |.t n::r,y,h=>by
  unfold Ep at h;split at h
  ·cases h;rfl
  ·rw[kN]at h;obtain⟨z,h1,rfl⟩:=h;rw[BE h1];rfl
 |.c v::r,y,h=>by
  unfold Ep at h;rw[kN]at h;obtain⟨z,h1,rfl⟩:=h;rw[BE h1];rfl
def BF(X:Cx)(o:Oper):Option Vu:=
 match Vo X o.op with
 | some (.box n x)=>(match o.dst with
  |some t=>if X.fz.contains t=true then some (.boxf n x)else some (.box n x)
  | none=>some (.box n x))
 | some (.mkfn f l)=>(match Ep X.fz l with
  |some (a,x,b)=>some (.mkfz f a x b)
  | none=>some (.mkfn f l))
 |none=>some .bad
 |r=>r
theorem Xek{X:Cx}{o:Oper}{op:Vu}(h:BF X o=some op):Vo X o.op=some op\/(∃n x,op=.boxf n x/\Vo X o.op=some (.box n x))\/(∃f a x b,op=.mkfz f a x b/\Vo X o.op=some (.mkfn f<|a++x::b))\/op=.bad:=by
 unfold BF at h;split at h
 ·rename_i n x hx;split at h
  ·split at h
   ·cases h;exact .inr (.inl ⟨_,_,rfl,hx⟩)
   ·cases h;exact .inl hx
  ·cases h;exact .inl hx
 ·rename_i f l hx;split at h
  ·rename_i a x b hs;cases h;exact .inr (.inr<|.inl ⟨_,_,_,_,rfl,by rw[hx,BE hs]⟩)
  ·cases h;exact .inl hx
 ·cases h;exact .inr (.inr<|.inr rfl)
 ·exact .inl h
def Ti(X:Cx)(nt:Nat)(ops:Array Oper)(o:Oper):Option AI:=
 match BF X o with
 |none=>none
 |some op=>
  if SX nt o.dst=true then
   match o.guard with
   |none=>some ⟨o.dst,op,none⟩
   |some (j,w)=>match (ops[j]?).bind (·.dst)with|some t=>some ⟨o.dst,op,some (t,w)⟩|none=>none
  else none
section
variable{P:Program}{G:Gh}{w0 w:World}{st:St}{X:Cx}
theorem SY{H:Hp}{ρ:Zt->Nat->Option Nat}{ω:Zt->Nat->Option (Nat × Nat × Nat)}{G:Gh}{M:Nat->Option MO}(hH:Ba G.H H)(hM :∀b l,G.M b=some l->M b=some l):∀{a:AV}{v:Value}{b:AV},R G a v->a.strip=some b->∀fm,R ⟨H,ρ,ω,fm,M⟩ b v:=by
 intro a v b h;revert b
 have lists :∀{cs:List AV}{us:List Value},cs.length=us.length->(∀(j:Nat) a u,cs[j]?=some a->us[j]?=some u->∀{b:AV},a.strip=some b->∀fm,R ⟨H,ρ,ω,fm,M⟩ b u)->∀{l:List AV},AV.strips cs=some l->∀fm,Rs ⟨H,ρ,ω,fm,M⟩ l us:=by
  intro cs
  induction cs with
  |nil=>
   intro us hl _ l h fm
   cases us with
   |nil=>cases h;exact⟨rfl,by simp⟩
   |cons=>simp at hl
  |cons a cs ih=>
   intro us hl hj l h fm
   cases us with
   |nil=>simp at hl
   |cons x us=>
    rw[AV.strips]at h;split at h
    ·rename_i w1 l1 h1 h2;cases h;have hr:=ih (by simpa using hl) (fun j a u h1 h2=>hj (j+1) a u (by simpa using h1)<|by simpa using h2) h2 fm;refine⟨by simp[hr.1],fun j a' u' ha hu=>?_⟩
     cases j with
     |zero=>
      simp at ha hu;subst ha;subst hu;exact hj 0 a x rfl rfl h1 fm
     |succ j=>exact hr.2 j a' u' (by simpa using ha) (by simpa using hu)
    ·cases h
 induction h with
 |fz a v h=>
  intro b hb fm;have h':=h.mono hH
  cases h with
  |sl rows A cap size g off us hA bA hs hH' hF=>simp only[AV.strip]at hb;cases hb;exact .fz _ _ h'
  |_=>simp only[AV.strip]at hb;cases hb;exact .fz _ _ h'
 |sl o rows A n cap h ho=>intro b hb fm;simp only[AV.strip]at hb;cases hb;exact .fz _ _ (h.mono hH)
 |p k ver off g h=>intro b hb;simp only[AV.strip]at hb;cases hb
 |bf c f hf cs us hl _ _=>intro b hb;simp only[AV.strip]at hb;cases hb
 |mp l b h=>intro b' hb fm;simp only[AV.strip]at hb;cases hb;exact .mp l b (hM _ _ h)
 |yl l=>intro b' hb fm;simp only[AV.strip]at hb;cases hb
 |fp cs us g off h1 h2=>intro b hb fm;simp only[AV.strip]at hb;cases hb;exact .fp cs us g off (fun j a h=>hH _ _ _<|h1 j a h) (fun j a h=>(h2 j a h).mono hH)
 |ag cs us hl _ ih=>
  intro b hb fm;rw[AV.strip]at hb;split at hb
  ·rename_i l h1;cases hb;have:=lists hl (fun j a u h1 h2=>ih j a u h1 h2) h1 fm;exact .ag l us this.1 this.2
  ·cases hb
 |tup cs us hl _ ih=>
  intro b hb fm;rw[AV.strip]at hb;split at hb
  ·rename_i l h1;cases hb;have:=lists hl (fun j a u h1 h2=>ih j a u h1 h2) h1 fm;exact .tup l us this.1 this.2
  ·cases hb
 |fn c f hf cs us hl _ ih=>intro b hb;simp only[AV.strip]at hb;cases hb
theorem Yxi{H:Hp}{ρ:Zt->Nat->Option Nat}{ω:Zt->Nat->Option (Nat × Nat × Nat)}{G:Gh}{M:Nat->Option MO}(hH:Ba G.H H)(hM :∀b l,G.M b=some l->M b=some l):∀{cs:List AV}{us:List Value},Rs G cs us->∀{l:List AV},AV.strips cs=some l->∀fm,Rs ⟨H,ρ,ω,fm,M⟩ l us:=by
 intro cs
 induction cs with
 |nil=>
  intro us h l hl fm
  cases us with
  |nil=>cases hl;exact⟨rfl,by simp⟩
  |cons=>have:=h.1;simp at this
 |cons a cs ih=>
  intro us h l hl fm
  cases us with
  |nil=>have:=h.1;simp at this
  |cons x us=>
   rw[AV.strips]at hl;split at hl
   ·rename_i w1 l1 h1 h2;cases hl;have hr:=ih (us:=us) ⟨by simpa using h.1,fun j a u h1 h2=>h.2 (j+1) a u (by simpa using h1)<|by simpa using h2⟩ h2 fm;refine⟨by simp[hr.1],fun j a' u' ha hu=>?_⟩
    cases j with
    |zero=>
     simp at ha hu;subst ha;subst hu;exact SY hH hM (h.2 0 a x rfl rfl) h1 fm
    |succ j=>exact hr.2 j a' u' (by simpa using ha) (by simpa using hu)
   ·cases hl
theorem Xtt{C:Vw}(hC:Rr P G.fm C)(hR:Yy G w0 st w){c f:Nat}(hf:G.fm f=some c){args vs:List AV}{Yv:List Value}(hv:Rs G args Yv)(hs:AV.strips args=some vs){r r':AV}{aA:St}(h:C 0 c vs Zp=some (r,aA))(hr:r.strip=some r'){d site ver:Nat}:
  Nd P f Yv.toArray w fun v w'=>∃G',R G' r' v/\Vq G G' w0 st st w' d site ver:=by
 have hR0:Yy ⟨G.H,fun _ _=>none,fun _ _=>none,G.fm,G.M⟩ w Zp w:=by
  refine⟨hR.bel.here,hR.ext,?_,?_,?_,?_,fun _ _ _=>⟨rfl,rfl⟩,fun k ver cs g _ h1=>?_,fun k ver n _ h1=>?_,hR.mp⟩
  rotate_left 4
  ·simp[Zp,lk]at h1
  ·simp[Zp,lk]at h1
  ·intro k ver cs g h1;simp[Zp,lk]at h1
  ·intro k k' ver ver' cs cs' g h1;simp[Zp,lk]at h1
  ·intro k ver n h1;simp[Zp,lk]at h1
  ·intro k k' ver ver' n n' g cap size cA bJ h1;simp[Zp,lk]at h1
 refine(hC 0 c vs Zp r aA h f hf ⟨G.H,fun _ _=>none,fun _ _=>none,G.fm,G.M⟩ w w Yv rfl hR0<|Yxi (fun _ _ _ h=>h) (fun _ _ h=>h) hv hs G.fm).mono ?_;rintro v w' ⟨G',h1,h2⟩;have hle:Ba G.H G'.H:=h2.le.H;refine⟨⟨G'.H,G.ρ,G.ω,G.fm,G'.M⟩,SY (G:=G') (fun _ _ _ h=>h) (fun _ _ h=>h) h1 hr G.fm,(Vq.grow hR h2.rel.bel.bel hle fun g o v hg=>?_).setM h2.le.M h2.rel.mp⟩;rcases h2.newH g o v hg with h'|h'
 ·exact .inl h'
 ·exact .inr ⟨h',h2.rel.ext g o v hg⟩
theorem Rs.append{cs cs':List AV}{us cF:List Value}(h:Rs G cs us)(h':Rs G cs' cF):Rs G (cs++cs') (us++cF):=by
 refine⟨by simp[h.1,h'.1],fun j a u ha hu=>?_⟩;rcases jF j cs.length with hj|hj
 ·rw[yQ hj]at ha;rw[yQ (by rw[<- h.1];exact hj)]at hu;exact h.2 j a u ha hu
 ·rw[yE hj]at ha;rw[yE (by rw[<- h.1];exact hj)]at hu;rw[<- h.1]at hu;exact h'.2 _ a u ha hu
end
end Go.AM

namespace Go.AM
open Go Go.RowKit Go.BigFrame
section
variable{P:Program}{G:Gh}{w0 w:World}{st:St}{X:Cx}
theorem Xcu{C:Vw}(aJ:X.fm=G.fm)(hC:Rr P X.fm C){nt:Nat}{U:Sl}{a:Act}(hA:Vk G nt U a)(hR:Yy G w0 st w){o:Oper}{iV:Vu}(hc:Vo X o.op=some iV)(hn:iV.isCall=true){d site ver:Nat}{r:AV}{aA:St}(h:Yd C d site ver U st iV=some (r,aA)):
  ∃f Yv,(execOp a.eval o).run P w=(callFunc f Yv).run P w/\Nd P f Yv w fun v w'=>∃G',R G' r v/\Vq G G' w0 st aA w' d site ver:=by
 rw[aJ]at hC;obtain⟨dst,op,type,pos,after,guard⟩:=o;simp only at hc
 cases op with
 |call k=>
  obtain⟨callee,args,Nl⟩:=k
  cases callee with
  |builtin b=>
   exfalso;simp only[Vo,Rh]at hc;unfold mG at hc
   repeat' split at hc
   all_goals first|(cases hc;done)|(cases hc;simp[Vu.isCall]at hn)
  |invoke=>simp[Vo,Rh]at hc
  |value x=>
   simp only[Vo,Rh]at hc;split at hc
   ·rename_i c l hx hl;cases hc;rw[aJ]at hx hl;have h1:=Rf hA hx;obtain⟨f,us,hf,hv,eY⟩:=R.fn_inv h1
    have BG:us=[]:=by
     have:=eY.1
     cases us with
     |nil=>rfl
     |cons=>simp at this
    subst BG;have h2:=Pk hA hl;refine⟨f,(args.toList.map a.eval).toArray,?_,?_⟩
    ·simp only[execOp,resolve,hv,Deferred.ofValue,invoke,jN,jW,jG]
     congr 2
     apply zM;simp
    ·cases hp:X.ptr c with
     |true=>
      rw[hp]at h;simp only[Yd]at h;refine(hC (d+1) c _ st r aA h f hf G w0 w _ rfl hR h2).mono ?_;rintro v w' ⟨G',hr,aO⟩;exact⟨G',hr,.of_run aO⟩
     |false=>
      rw[hp]at h;simp only[Yd]at h;split at h
      ·rename_i vs hs;split at h
       ·rename_i r0 s0 h0;simp only[kN,Prod.mk.injEq]at h;obtain⟨r',BH,rfl,rfl⟩:=h;exact Xtt hC hR hf h2 hs h0 BH
       ·cases h
      ·cases h
   ·rename_i n l hx hl;cases hc;rw[aJ]at hx hl;have h1:R G ((Zw.t n).ev U) (a.eval x):=Rf hA hx;have h2:=Pk hA hl;simp only[Yd]at h;generalize (Zw.t n).ev U=fv at h h1;revert h1;split at h
    ·rename_i g cap;intro h1;obtain⟨f,us,hf,hv,eY⟩:=R.fn_inv h1;refine⟨f,(args.toList.map a.eval++us).toArray,?_,?_⟩
     ·simp only[execOp,resolve,hv,Deferred.ofValue,invoke,jN,jW,jG]
      congr 2
      apply zM;simp
     ·refine(hC (d+1) g _ st r aA h f hf G w0 w _ rfl hR<|h2.append eY).mono ?_;rintro v w' ⟨G',hr,aO⟩;exact⟨G',hr,.of_run aO⟩
    ·rename_i g cs;intro h1;obtain⟨f,us,hf,hv,eY⟩:=R.bf_inv h1;refine⟨f,(us++args.toList.map a.eval).toArray,?_,?_⟩
     ·simp only[execOp,resolve,hv,Deferred.ofValue,invoke,jN,jW,jG]
      congr 2
      apply zM;simp
     ·refine(hC (d+1) g _ st r aA h f hf G w0 w _ rfl hR<|eY.append h2).mono ?_;rintro v w' ⟨G',hr,aO⟩;exact⟨G',hr,.of_run aO⟩
    ·cases h
   ·cases hc
 |_=>
  exfalso;simp only[Vo]at hc
  repeat' split at hc
  all_goals first|(cases hc;done)|(cases hc;simp[Vu.isCall]at hn;done)|(rename_i hq;cases hq)
theorem Xv1(hR:Yy G w0 st w){t:TypeId}{x:AV}{vx:Value}(hx:R G x vx){cs:List AV}(hs:Ji x.cells=some cs){d site ver:Nat}:
  ∃v w' G',(Instr.box t vx).run P w=.ok v w'/\R G' (.fp cs) v/\Vq G G' w0 st st w' d site ver:=by
 obtain⟨us,eY,hr,_,h1⟩:=hx.cells (AO hs)
 have hle:Ba G.H (fun g o=>if g=w.heap.size then us[o]? else G.H g o):=fun g o v h=>by
  show(if g=w.heap.size then _ else G.H g o)=some v;rw[kA (by have:=hR.Hlt h;omega)];exact h
 have bU:Vq G ⟨fun g o=>if g=w.heap.size then us[o]? else G.H g o,G.ρ,G.ω,G.fm,G.M⟩ w0 st st (w.alloc<|.cells us.toArray t) d site ver:=by
  refine Vq.grow hR ((Below.refl _ _).alloc (kU _) _) hle fun g o v h=>?_
  have h':(if g=w.heap.size then us[o]? else G.H g o)=some v:=h;split at h'
  ·rename_i hg;subst hg;refine .inr ⟨kU _,?_,h1 _<|jP h'⟩;have:=heap_alloc_new w (.cells us.toArray t);simp only[World.cell?,this];simpa using h'
  ·exact .inl h'
 have hlen:cs.length=us.length:=by rw[Cr hs];exact hr.1
 have aT :∀(j:Nat) a,cs[j]?=some a->us[j]?=some (us.getD j undef):=fun j a h=>by
  have hj:j<us.length:=by
   rcases jF j cs.length with h'|h'
   ·omega
   ·rw[kT h']at h;cases h
  rw[zG,kH hj];rfl
 refine⟨_,_,_,?_,.fp cs (fun j=>us.getD j undef) w.heap.size 0 (fun j a h=>?_)<|fun j a h=>?_,bU⟩
 ·simp only[Instr.box,newVar,newRow,jN,run_newObj,jG,jW,eY];rfl
 ·show(if w.heap.size=w.heap.size then us[0+j]? else _)=_;rw[kC rfl,yI];exact aT j a h
 ·exact(Ph hs hr j a _ h<|aT j a h).mono hle
theorem Xi4(aJ:X.fm=G.fm){nt:Nat}{U:Sl}{a:Act}(hA:Vk G nt U a){o:Oper}{n:Nat}{x:Zw}(hc:Vo X o.op=some (.box n x)):∃t vx,execOp a.eval o=(do return Next.value (<- Instr.box t vx))/\R G (x.ev U) vx:=by
 generalize aY:o.op=op at hc
 cases op with
 |box t y=>
  simp only[Vo]at hc;split at hc
  ·rename_i i z hi hy;cases hc;exact⟨t,a.eval y,by simp only[execOp,aY],Rf hA (by rw[<- aJ];exact hy)⟩
  ·cases hc
 |_=>
  exfalso;simp only[Vo]at hc
  try unfold Rh at hc
  try unfold mG at hc
  repeat' split at hc
  all_goals first|contradiction|(cases hc;done)|(simp at hc;done)
theorem Ywi(aJ:X.fm=G.fm){nt:Nat}{U:Sl}{a:Act}(hA:Vk G nt U a){o:Oper}{c:Nat}{l:List Zw}(hc:Vo X o.op=some (.mkfn c l)):∃(f:Nat) (us:List Value),G.fm f=some c/\(execOp a.eval o).run P w=.ok (.value<|.func (.func f) #[] us.toArray) w/\Rs G (l.map (·.ev U)) us:=by
 generalize aY:o.op=op at hc
 cases op with
 |makeFunc fn first cap=>
  cases fn with
  |func f=>
   simp only[Vo]at hc;split at hc
   ·rename_i c l hf dV hl;cases hc;have hr:=Pk hA (show Ln G.fm cap.toList=some l by rw[<- aJ];exact hl);have AZ:first=#[]:=by apply zM;simpa using dV
    refine⟨f,cap.toList.map a.eval,by rw[<- aJ];exact hf,?_,hr⟩;simp only[execOp,aY];refine Ja ?_;have he:cap.map a.eval=(cap.toList.map a.eval).toArray:=by apply zM;simp
    simp[Instr.makeFunc,AZ,he]
   ·split at hc<;>cases hc
   ·cases hc
  |_=>simp only[Vo]at hc;cases hc
 |_=>
  exfalso;simp only[Vo]at hc
  try unfold Rh at hc
  try unfold mG at hc
  repeat' split at hc
  all_goals first|contradiction|(cases hc;done)|(simp at hc;done)
theorem Yxw(hR:Yy G w0 st w){k:Zt}{v:Nat}{cs cs':List AV}(hk:lk st.bx k=some (v,cs))(hs:Ji cs=some cs'){u:Value}(mg:R G (.p k v 0) u){d site ver:Nat}:
  ∃G',R G' (.fp cs') u/\Vq G G' w0 st { st with bx:=del st.bx k } w d site ver:=by
 obtain⟨g,rfl,hρ⟩:=mg.p_inv;obtain⟨xs,e,eD,aF,hY,h1,bG⟩:=hR.bx k v cs g hk hρ
 have hle:G.Le ⟨fun g' o=>if g'=g then xs[o]? else G.H g' o,G.ρ,G.ω,G.fm,G.M⟩:=⟨fun g' o v h=>by
  show(if g'=g then xs[o]? else G.H g' o)=some v;rw[kA (by rintro rfl;rw[bG o]at h;cases h)];exact h,fun _ _ _ h=>h,fun _ _ _ h=>h,rfl,fun _ _ h=>h⟩
 have hlen:cs'.length=xs.length:=by rw[Cr hs];exact hY.1
 have aT :∀(j:Nat) a,cs'[j]?=some a->xs[j]?=some (xs.getD j undef):=fun j a h=>by
  have hj:j<xs.length:=by
   rcases jF j cs'.length with h'|h'
   ·omega
   ·rw[kT h']at h;cases h
  rw[zG,kH hj];rfl
 refine⟨⟨fun g' o=>if g'=g then xs[o]? else G.H g' o,G.ρ,G.ω,G.fm,G.M⟩,.fp cs' (fun j=>xs.getD j undef) g 0 (fun j a h=>?_)<|fun j a h=>?_,⟨hle,hR.freezeBox hk hρ aF h1,kU _,fun _ _ _ _=>⟨rfl,rfl⟩,?_,?_⟩⟩
 ·show(if g=g then xs[0+j]? else _)=_;rw[kC rfl,yI];exact aT j a h
 ·exact(Ph hs hY j a _ h<|aT j a h).mono hle.H
 ·intro k' v' c1 _ _ _ hn hl;show lk (del st.bx k) k'=_;rw[Tb,kA]
  ·exact hl
  ·rintro rfl;rw[hk]at hl;cases hl;rw[hρ]at hn;cases hn
 ·intro g' o v h;have h':(if g'=g then xs[o]? else G.H g' o)=some v:=h;split at h'
  ·rename_i hg;subst hg;exact .inr eD
  ·exact .inl h'
theorem Xkc(hR:Yy G w0 st w){k:Zt}{v:Nat}{cs cs':List AV}(hk:lk st.bx k=some (v,cs))(hs:Ji cs=some cs'){c f:Nat}(hf:G.fm f=some c){A B:List AV}{us:List Value}(hr:Rs G (A++.p k v 0::B) us){d site ver:Nat}:
  ∃G',R G' (.fn c<|A++.fp cs'::B) (.func (.func f) #[] us.toArray)/\Vq G G' w0 st { st with bx:=del st.bx k } w d site ver:=by
 have hp :∃u,us[A.length]?=some u/\R G (.p k v 0) u:=by
  have hl:=hr.1;have:A.length<us.length:=by rw[<- hl];simp
  exact⟨_,kH this,hr.2 A.length _ _ (by simp)<|kH this⟩
 obtain⟨u,hu,mg⟩:=hp;obtain⟨g,rfl,hρ⟩:=mg.p_inv;obtain⟨xs,e,eD,aF,hY,h1,bG⟩:=hR.bx k v cs g hk hρ
 have hle:G.Le ⟨fun g' o=>if g'=g then xs[o]? else G.H g' o,G.ρ,G.ω,G.fm,G.M⟩:=⟨fun g' o v h=>by
  show(if g'=g then xs[o]? else G.H g' o)=some v;rw[kA (by rintro rfl;rw[bG o]at h;cases h)];exact h,fun _ _ _ h=>h,fun _ _ _ h=>h,rfl,fun _ _ h=>h⟩
 have hlen:cs'.length=xs.length:=by rw[Cr hs];exact hY.1
 have aT :∀(j:Nat) a,cs'[j]?=some a->xs[j]?=some (xs.getD j undef):=fun j a h=>by
  have hj:j<xs.length:=by
   rcases jF j cs'.length with h'|h'
   ·omega
   ·rw[kT h']at h;cases h
  rw[zG,kH hj];rfl
 refine⟨⟨fun g' o=>if g'=g then xs[o]? else G.H g' o,G.ρ,G.ω,G.fm,G.M⟩,.fn (G:=⟨fun g' o=>if g'=g then xs[o]? else G.H g' o,G.ρ,G.ω,G.fm,G.M⟩) c f hf _ us (by rw[<- hr.1];simp) fun j a u' ha BI=>?_,⟨hle,hR.freezeBox hk hρ aF h1,kU _,fun _ _ _ _=>⟨rfl,rfl⟩,?_,?_⟩⟩
 ·by_cases hj:j=A.length
  ·subst hj;rw[hu]at BI;cases BI;have:a=.fp cs':=by simpa using ha.symm
   subst this;refine .fp cs' (fun j=>xs.getD j undef) g 0 (fun j a h=>?_) (fun j a h=>?_)
   ·show(if g=g then xs[0+j]? else _)=_;rw[kC rfl,yI];exact aT j a h
   ·exact(Ph hs hY j a _ h<|aT j a h).mono hle.H
  ·refine(hr.2 j a u' ?_ BI).mono hle;rw[zC]at ha⊢;split at ha
   ·rename_i h;rw[kC h];exact ha
   ·rename_i h;rw[kA h];have :∃i,j-A.length=i+1:=⟨j-A.length-1,by omega⟩;obtain⟨i,hi⟩:=this;rw[hi,zN]at ha⊢;exact ha
 ·intro k' v' c1 _ _ _ hn hl;show lk (del st.bx k) k'=_;rw[Tb,kA]
  ·exact hl
  ·rintro rfl;rw[hk]at hl;cases hl;rw[hρ]at hn;cases hn
 ·intro g' o v h;have h':(if g'=g then xs[o]? else G.H g' o)=some v:=h;split at h'
  ·rename_i hg;subst hg;exact .inr eD
  ·exact .inl h'
theorem SZ{C:Vw}(hT:Kw P X.T)(aJ:X.fm=G.fm)(hC:Rr P X.fm C){nt:Nat}{U:Sl}{a:Act}(hA:Vk G nt U a)(hR:Yy G w0 st w){ops:Array Oper}{i:Nat}{o:Oper}(ho:ops[i]?=some o){ai:AI}(hc:Ti X nt ops o=some ai){d site ver:Nat}{σ':Sl}{aA:St}(h:Kk C d site ver ai U st=some (σ',aA))
  (hρ:G.ρ (d,site) ver=none) (hω:G.ω (d,site) ver=none) (hv:ver<st.nx) (eC :∀zero,ai.op=.alloc zero->lk st.bx (d,site)=some (ver,zero)) (hB:Wo<=site->Ri X o.op=true){K:Act->World->Prop}{Q:Exit->Act->World->Prop}
  (hK :∀a' w' G',Vk G' nt σ' a'->Vq G G' w0 st aA w' d site ver->K a' w'):wpOp P ops Q i K a w:=by
 unfold Ti at hc;split at hc
 ·cases hc
 rename_i op aY;split at hc
 case isFalse=>cases hc
 rename_i mU
 have hd :∀t,o.dst=some t->t<nt:=by
  intro t ht;rw[ht]at mU;simpa[SX]using mU
 -- the operation is run
 have main :∀{v:AV}{s:St},Yd C d site ver U st op=some (v,s)->σ'=Vj U o.dst v->aA=s->(∀zero,op=.alloc zero->lk st.bx (d,site)=some (ver,zero))->o.wp P a w K Q:=by
  intro v s h1 h2 h3 eC;subst h3;unfold Oper.wp;rcases Xek aY with aY|⟨bn,bx,rfl,lB⟩|⟨bf,ba,bx,bb,rfl,lB⟩|rfl
  case inr.inr.inr=>cases h1
  case inr.inr.inl=>
   simp only[Yd]at h1;split at h1
   case h_2=>cases h1
   rename_i k vv hx;split at h1
   case h_2=>cases h1
   rename_i v' cs bN;split at h1
   case isFalse=>cases h1
   rename_i hvv;subst hvv;split at h1
   case h_2=>cases h1
   rename_i cs' hs;cases h1;obtain⟨f,us,hf,aO,hr⟩:=Ywi (P:=P) (w:=w) aJ hA lB;rw[yA,jB,hx]at hr;obtain⟨G',h6,h7⟩:=Xkc hR bN hs hf hr (d:=d) (site:=site) (ver:=ver);rw[aO];exact hK _ _ G' (by rw[h2];exact(hA.mono h7.le).put hd h6) h7
  case inr.inl=>
   simp only[Yd,Yp,kN,Prod.mk.injEq]at h1;obtain⟨y,hy,rfl,rfl⟩:=h1;split at hy
   case isFalse=>cases hy
   simp only[kN]at hy;obtain⟨cs,cR,rfl⟩:=hy;obtain⟨t,vx,e,hS⟩ :∃t vx,execOp a.eval o=(do return .value (<- Instr.box t vx))/\R G (bx.ev U) vx:=Xi4 aJ hA lB;obtain⟨u,w',G',h4,h6,h7⟩:=Xv1 (P:=P) (t:=t) hR hS cR (d:=d) (site:=site) (ver:=ver);rw[e,show(do return Next.value (<- Instr.box t vx):Sem Next).run P w=.ok (.value u) w' from Ja h4];exact hK _ _ G' (by rw[h2];exact(hA.mono h7.le).put hd h6) h7
  cases hn:op.isCall with
  |false=>
   obtain⟨nx,u,w',G',h4,h5,h6,h7⟩:=Yzg hT aJ hA hR aY hn h1 hρ hω hv eC hB;rw[h4];have:K (a.put o.dst u) w':=hK _ _ G' (by rw[h2];exact(hA.mono h7.le).put hd h6) h7;rcases h5 with rfl|⟨rfl,rfl⟩
   ·exact this
   ·exact this
  |true=>
   obtain⟨f,Yv,h4,h5⟩:=Xcu aJ hC hA hR aY hn h1;rw[h4];rcases h5 with⟨h5,h6⟩|⟨u,w',h5,G',h6,h7⟩
   ·rw[h5];refine h6.mono fun e w' he=>?_
    cases e with
    |returned u=>
     obtain⟨G',h7,h8⟩:=he;exact hK _ _ G' (by rw[h2];exact(hA.mono h8.le).put hd h7) h8
    |panicked c=>exact he.elim
    |outgrown=>exact he.elim
   ·rw[h5];exact hK _ _ G' (by rw[h2];exact(hA.mono h7.le).put hd h6) h7
 have skip:σ'=Vj U o.dst (.tup [])->aA=st->K (a.put o.dst undef) w:=by
  intro h1 h2;subst h2;exact hK _ _ G (by rw[h1];exact hA.put hd R.und) (Vq.same hR)
 unfold wpOp;rw[ho];simp only
 cases hg:o.guard with
 |none=>
  rw[hg]at hc;cases hc;rw[kC<|by simp[Region.wanted,hg]];simp only[Kk,kN,Prod.mk.injEq]at h;obtain⟨⟨v,s⟩,h1,h2,h3⟩:=h;exact .inl (main h1 h2.symm h3.symm eC)
 |some jw=>
  obtain⟨j,want⟩:=jw;rw[hg]at hc;simp only at hc;split at hc
  case h_2=>cases hc
  rename_i t ht;cases hc;simp only[Kk]at h;have hσ:=hA.2.2 t
  have hy :∀x,U t=.b x->yielded ops a.tmps j=some x:=by
   intro x hx;rw[hx]at hσ;have hσ:=hσ.bool_inv;unfold yielded;rw[ht];simp only[yD]
   have:a.tmps[t]?=some (.bool x):=by
    rw[jM]at hσ
    cases h:a.tmps[t]? with
    |none=>rw[h]at hσ;cases hσ
    |some y=>rw[h]at hσ;simp at hσ;rw[hσ]
   rw[this]
  have hn:U t=.tup []->yielded ops a.tmps j=none:=by
   intro hx;rw[hx]at hσ;have hσ:=hσ.tup0_inv;unfold yielded;rw[ht];simp only[yD];rw[jM]at hσ
   cases h:a.tmps[t]? with
   |none=>rfl
   |some y=>rw[h]at hσ;simp at hσ;rw[hσ];rfl
  split at h
  ·rename_i x hx;split at h
   ·rename_i hw;simp only[kN,Prod.mk.injEq]at h;obtain⟨⟨v,s⟩,h1,h2,h3⟩:=h;rw[kC<|by simp[Region.wanted,hg,hy x hx,hw]];exact .inl (main h1 h2.symm h3.symm eC)
   ·rename_i hw;cases h;rw[kA<|by simp[Region.wanted,hg,hy x hx,hw]];exact skip rfl rfl
  ·rename_i hx;cases h;rw[kA<|by simp[Region.wanted,hg,hn hx]];exact skip rfl rfl
  ·cases h
def Pc(X:Cx)(nt:Nat)(ops:Array Oper):List Oper->Option (List AI)
 |[]=>some []
 |o::r=>match Ti X nt ops o,Pc X nt ops r with|some x,some l=>some (x::l)|_,_=>none
theorem Eb{nt:Nat}{ops:Array Oper}:∀{l:List Oper}{xs:List AI},Pc X nt ops l=some xs->l.length=xs.length/\∀(i:Nat) o,l[i]?=some o->∃x,xs[i]?=some x/\Ti X nt ops o=some x
 |[],xs,h=>by cases h;exact⟨rfl,by simp⟩
 |o::r,xs,h=>by
  unfold Pc at h;split at h
  ·rename_i x l hx hl;cases h;obtain⟨h1,h2⟩:=Eb hl;refine⟨by simp[h1],fun i o' hi=>?_⟩
   cases i with
   |zero=>simp at hi;subst hi;exact⟨x,rfl,hx⟩
   |succ i=>exact h2 i o' (by simpa using hi)
  ·cases h
def Ez(G:Gh)(st:St)(d id base:Nat)(aops:List AI)(l:List Nat):Prop:=
 ∀i∈l,i<aops.length->G.ρ (d,id*4096+i) (base+i)=none/\G.ω (d,id*4096+i) (base+i)=none/\base+i<st.nx/\
  ∀ai zero,aops[i]?=some ai->ai.op=.alloc zero->lk st.bx (d,id*4096+i)=some (base+i,zero)
theorem Ez.step{G G':Gh}{st aA:St}{w':World}{d id base i:Nat}{aops:List AI}{l l':List Nat}(h:Ez G st d id base aops l)(hs:Vq G G' w0 st aA w' d (id*4096+i) (base+i))(hl :∀j∈l',j∈l/\j≠i):Ez G' aA d id base aops l':=by
 intro j hj aK;obtain⟨hj1,lC⟩:=hl j hj;obtain⟨h1,h2,h3,h4⟩:=h j hj1 aK;have aQ:((d,id*4096+j):Zt)≠(d,id*4096+i):=fun he=>by injection he with _ he;omega
 have ho:=hs.old (d,id*4096+j) (base+j) h3 (fun he=>aQ<|by injection he);exact⟨ho.1.trans h1,ho.2.trans h2,yB h3 hs.nx,fun ai zero ha hz=>hs.pend _ _ _ (kU _) h3 aQ h1<|h4 ai zero ha hz⟩
theorem mV{d id base:Nat}:∀{ops:List AI}{i:Nat}{bx:List (Zt × Nat × List AV)}{k:Zt},
  (lk (pre d id base i ops bx) k=lk bx k/\∀(j:Nat) ai zero,ops[j]?=some ai->ai.op=.alloc zero->k≠(d,id*4096+(i+j)))\/
  ∃(j:Nat) (ai:AI) (zero:List AV),ops[j]?=some ai/\ai.op=.alloc zero/\k=(d,id*4096+(i+j))/\lk (pre d id base i ops bx) k=some (base+(i+j),zero)
 |[],i,bx,k=>.inl ⟨rfl,by simp⟩
 |o::r,i,bx,k=>by
  have shift :∀{bx':List (Zt × Nat × List AV)},(∃(j:Nat) (ai:AI) (zero:List AV),r[j]?=some ai/\ai.op=.alloc zero/\k=(d,id*4096+(i+1+j))/\lk (pre d id base (i+1) r bx') k=some (base+(i+1+j),zero))->
    ∃(j:Nat) (ai:AI) (zero:List AV),(o::r)[j]?=some ai/\ai.op=.alloc zero/\k=(d,id*4096+(i+j))/\lk (pre d id base (i+1) r bx') k=some (base+(i+j),zero):=by
   rintro bx' ⟨j,ai,zero,h1,h2,h3,h4⟩;exact⟨j+1,ai,zero,by simpa using h1,h2,by rw[h3];congr 2;omega,by rw[h4];congr 2;omega⟩
  cases aY:o.op with
  |alloc zero=>
   simp only[pre,aY];rcases mV (d:=d) (id:=id) (base:=base) (ops:=r) (i:=i+1) (bx:=Xm bx (d,id*4096+i) (base+i,zero)) (k:=k)with⟨h1,h2⟩|h
   ·by_cases hk:k=(d,id*4096+i)
    ·refine .inr ⟨0,o,zero,rfl,aY,by simpa using hk,?_⟩;rw[h1,hk,my];simp
    ·refine .inl ⟨by rw[h1,Ci _ _<|fun e=>hk e.symm],fun j ai z hj hz=>?_⟩
     cases j with
     |zero=>simpa using hk
     |succ j=>
      have:=h2 j ai z (by simpa using hj) hz
      rwa [show i+1+j=i+(j+1)from by omega]at this
   ·exact .inr (shift h)
  |_=>
   simp only[pre,aY];rcases mV (d:=d) (id:=id) (base:=base) (ops:=r) (i:=i+1) (bx:=bx) (k:=k)with⟨h1,h2⟩|h
   ·refine .inl ⟨h1,fun j ai z hj hz=>?_⟩
    cases j with
    |zero=>simp at hj;subst hj;rw[aY]at hz;cases hz
    |succ j=>
     have:=h2 j ai z (by simpa using hj) hz
     rwa [show i+1+j=i+(j+1)from by omega]at this
   ·exact .inr (shift h)
theorem S0{d id:Nat}{aops:List AI}(hR:Yy G w0 st w){l:List Nat}:
  Ka G G w0 st { st with nx:=st.nx+aops.length,bx:=pre d id st.nx 0 aops st.bx } w d/\Ez G { st with nx:=st.nx+aops.length,bx:=pre d id st.nx 0 aops st.bx } d id st.nx aops l:=by
 have hold :∀{k ver cs g},lk (pre d id st.nx 0 aops st.bx) k=some (ver,cs)->G.ρ k ver=some g->lk st.bx k=some (ver,cs):=by
  intro k ver cs g h1 h2;rcases mV (d:=d) (id:=id) (base:=st.nx) (ops:=aops) (i:=0) (bx:=st.bx) (k:=k)with⟨h3,_⟩|⟨j,ai,zero,_,_,_,h4⟩
  ·rw[h3]at h1;exact h1
  ·rw[h4]at h1;injection h1 with h1;injection h1 with h1 _;have:=(hR.fresh k ver<|by omega).1;rw[this]at h2;cases h2
 refine⟨⟨.refl G,⟨hR.bel,hR.ext,?_,?_,?_,hR.owinj,?_,fun k ver cs g hb h1 h2=>hR.bxT k ver cs g hb (hold h1 h2) h2,hR.owT,hR.mp⟩,Nat.le_add_right _ _,fun _ _ _=>⟨rfl,rfl⟩,?_,fun _ _ _ h=>.inl h⟩,?_⟩
 ·intro k ver cs g h1 h2;exact hR.bx k ver cs g (hold h1 h2) h2
 ·intro k k' ver ver' cs cs' g h1 h2 h3 h4;exact hR.inj k k' ver ver' cs cs' g (hold h1 h3) (hold h2 h4) h3 h4
 ·intro k ver n h1;obtain⟨g,cap,size,h2,h3,h4⟩:=hR.ow k ver n h1;exact⟨g,cap,size,h2,h3,fun k' ver' cs' h5 h6=>h4 k' ver' cs' (hold h5 h6) h6⟩
 ·intro k ver h;exact hR.fresh k ver (kX (Nat.le_add_right _ _) h)
 ·intro k v cs hk hv hn hl;rcases mV (d:=d) (id:=id) (base:=st.nx) (ops:=aops) (i:=0) (bx:=st.bx) (k:=k)with⟨h3,_⟩|⟨j,ai,zero,_,_,h4,_⟩
  ·show lk (pre d id st.nx 0 aops st.bx) k=_;rw[h3];exact hl
  ·rw[h4]at hk;exact absurd hk (zH _)
 ·intro i _ aK;have hf:=hR.fresh (d,id*4096+i) (st.nx+i) (Nat.le_add_right _ _);refine⟨hf.1,hf.2,Nat.add_lt_add_left aK _,fun ai zero ha hz=>?_⟩;show lk (pre d id st.nx 0 aops st.bx) _=_;rcases mV (d:=d) (id:=id) (base:=st.nx) (ops:=aops) (i:=0) (bx:=st.bx) (k:=(d,id*4096+i))with⟨_,h3⟩|⟨j,ai',S3,h4,h5,h6,h7⟩
  ·exact absurd (by simp) (h3 i ai zero ha hz)
  ·injection h6 with _ h6;have:j=i:=by omega
   subst this;rw[ha]at h4;cases h4;rw[hz]at h5;cases h5;simpa using h7
theorem BJ{C:Vw}{d id base:Nat}{ops:List AI}:∀{l:List AI}{i:Nat},(∀j,ops[i+j]?=l[j]?)->∀{U:Sl}{st:St},Nz C d id base i l U st=Bj C d id base ops (List.range' i l.length) U st
 |[],i,_,U,st=>rfl
 |o::r,i,h,U,st=>by
  have h0:=h 0;simp at h0;simp only[Nz,kB,List.range'_succ,Bj,h0];split
  ·exact BJ (fun j=>by have:=h (j+1);rw[show i+1+j=i+(j+1)from by omega,this];simp)
  ·rfl
theorem BK{C:Vw}(hT:Kw P X.T)(hC:Rr P X.fm C){nt:Nat}{ops:Array Oper}{aops:List AI}(hc:Pc X nt ops ops.toList=some aops){d id base:Nat}(hB :∀(i:Nat) o,ops[i]?=some o->Wo<=id*4096+i->Ri X o.op=true){G0:Gh}{lD:St}(hb:lD.nx<=base){σ2:Sl}{aS:St}{Q:Exit->Act->World->Prop}
  (hQ :∀a' w' G',Vk G' nt σ2 a'->Ka G0 G' w0 lD aS w' d->Q .normal a' w') :
  ∀(l:List Nat){G:Gh}{U:Sl}{st:St}{a:Act}{w:World},X.fm=G.fm->l.Nodup->Vk G nt U a->Ka G0 G w0 lD st w d->Ez G st d id base aops l->Bj C d id base aops l U st=some (σ2,aS)->wpOps P ops Q l a w
 |[],G,U,st,a,w,aJ,_,hA,aO,_,h=>by
  cases h;exact hQ a w G hA aO
 |i::r,G,U,st,a,w,aJ,qS,hA,aO,cV,h=>by
  rw[wpOps_cons];simp only[Bj]at h
  cases ho:ops[i]? with
  |none=>
   have:aops[i]?=none:=by
    have h1:=(Eb hc).1;have:ops.size<=i:=by simpa using ho
    apply kT;rw[<- h1];simpa using this
   rw[this]at h;unfold wpOp;rw[ho];exact BK hT hC hc hB hb hQ r aJ (List.nodup_cons.1 qS).2 hA aO (fun j hj=>cV j<|by simp[hj]) h
  |some o=>
   obtain⟨ai,fW,BL⟩:=(Eb hc).2 i o (by simpa using ho);rw[fW]at h;simp only at h;split at h
   case h_2=>cases h
   rename_i σ' aA h1
   have aK:i<aops.length:=by
    rcases jF i aops.length with h'|h'
    ·exact h'
    ·rw[kT h']at fW;cases fW
   obtain⟨q1,q2,q3,q4⟩:=cV i (by simp) aK;refine SZ hT aJ hC hA aO.rel ho BL h1 q1 q2 q3 (fun zero hz=>q4 ai zero fW hz) (hB i o ho) fun a' w' G' mh hs=>?_
   exact BK hT hC hc hB hb hQ r (by rw[hs.le.fm];exact aJ) (List.nodup_cons.1 qS).2 mh (aO.step hs<|by omega) (cV.step hs fun j hj=>⟨by simp[hj],fun he=>(List.nodup_cons.1 qS).1<|he ▸ hj⟩) h
end
end Go.AM

namespace Go.AM
open Go Go.RowKit Go.BigFrame
def Dx(o:Oper):List Nat:=o.after.toList.filterMap fun e=>if Region.binds .any e then some e.on else none
def mW(ms:List Nat)(es:List Nat):Nat:=es.foldl (fun s e=>s ||| 2 ^ e ||| ms.getD e 0) 0
def qT(acc:List Nat):List Oper->List Nat
 |[]=>acc
 |o::r=>qT (acc++[mW acc<|Dx o]) r
def qU(ms:List Nat):Nat->List Oper->Bool
 |_,[]=>true
 |i,o::r=>(ms.getD i 0==mW ms (Dx o))&&(Dx o).all (fun e=>decide<|e<i)&&qU ms (i+1) r
def mX(m:Nat)(y:AI):Nat->List AI->Bool
 |_,[]=>true
 |j,x::r=>(m.testBit j||Ab x y)&&mX m y (j+1) r
def qV(ms:List Nat)(all:List AI):Nat->List AI->Bool
 |_,[]=>true
 |i,y::r=>mX (ms.getD i 0) y 0 (all.take i)&&qV ms all (i+1) r
def Ia(ops:List Oper)(aops:List AI):Bool:=
 let ms:=qT [] ops
 qU ms 0 ops&&qV ms aops 0 aops
theorem S4{ms:List Nat}:∀{es:List Nat}{s j:Nat},(es.foldl (fun s e=>s ||| 2 ^ e ||| ms.getD e 0) s).testBit j=true->s.testBit j=true\/∃e∈es,e=j\/(ms.getD e 0).testBit j=true
 |[],s,j,h=>.inl h
 |e::r,s,j,h=>by
  simp only[List.foldl_cons]at h;rcases S4 h with h|⟨e',h1,h2⟩
  ·simp only[Nat.testBit_or,Bool.or_eq_true]at h;rcases h with(h|h)|h
   ·exact .inl h
   ·rw[Nat.testBit_two_pow]at h;exact .inr ⟨e,by simp,.inl<|by simpa using h⟩
   ·exact .inr ⟨e,by simp,.inr h⟩
  ·exact .inr ⟨e',by simp[h1],h2⟩
theorem S5{ms:List Nat}:∀{l:List Oper}{i:Nat},qU ms i l=true->∀(j:Nat) o,l[j]?=some o->ms.getD (i+j) 0=mW ms (Dx o)/\∀e∈Dx o,e<i+j
 |[],i,_,j,o,h=>by simp at h
 |x::r,i,h,j,o,hj=>by
  simp only[qU,kR,beq_iff_eq,jU,jA]at h
  cases j with
  |zero=>simp at hj;subst hj;exact⟨h.1.1,h.1.2⟩
  |succ j=>
   have:=S5 h.2 j o (by simpa using hj)
   rwa [show i+1+j=i+(j+1)from by omega]at this
theorem S6{m:Nat}{y:AI}:∀{l:List AI}{i:Nat},mX m y i l=true->∀(j:Nat) x,l[j]?=some x->m.testBit (i+j)=true\/Ab x y=true
 |[],i,_,j,x,h=>by simp at h
 |x::r,i,h,j,x',hj=>by
  simp only[mX,kR,Bool.or_eq_true]at h
  cases j with
  |zero=>simp at hj;subst hj;exact h.1
  |succ j=>
   have:=S6 h.2 j x' (by simpa using hj)
   rwa [show i+1+j=i+(j+1)from by omega]at this
theorem S7{ms:List Nat}{all:List AI}:∀{l:List AI}{i:Nat},qV ms all i l=true->∀(k:Nat) y,l[k]?=some y->mX (ms.getD (i+k) 0) y 0 (all.take<|i+k)=true
 |[],i,_,j,x,h=>by simp at h
 |x::r,i,h,j,x',hj=>by
  simp only[qV,kR]at h
  cases j with
  |zero=>simp at hj;subst hj;exact h.1
  |succ j=>
   have:=S7 h.2 j x' (by simpa using hj)
   rwa [show i+1+j=i+(j+1)from by omega]at this
section
variable{P:Program}{G:Gh}{w0 w:World}{st:St}{X:Cx}
def S8(ops:Array Oper)(listed:Array Bool):Prop:=∀x o,ops[x]?=some o->listed.getD x false=true->∀e∈Dx o,listed.getD e false=true
theorem S_{o:Oper}{e:Nat}:e∈Dx o ↔∃q∈o.after,Region.binds .any q=true/\q.on=e:=by
 unfold Dx;rw[List.mem_filterMap];constructor
 ·rintro⟨q,h1,h2⟩;split at h2
  ·rename_i h3;injection h2 with h2;exact⟨q,by simpa using h1,h3,h2⟩
  ·cases h2
 ·rintro⟨q,h1,h2,h3⟩;exact⟨q,by simpa using h1,by rw[kC h2,h3]⟩
theorem BM{ops:Array Oper}{listed:Array Bool}{i:Nat}:i∈Region.ready .any ops listed ↔∃o,ops[i]?=some o/\listed.getD i true=false/\∀e∈Dx o,listed.getD e false=true:=by
 unfold Region.ready;rw[List.mem_filter,List.mem_range];constructor
 ·rintro⟨h1,h2⟩;simp only[kR,Bool.not_eq_true']at h2;have ho:ops[i]?=some ops[i]:=zK h1;refine⟨ops[i],ho,h2.1,fun e he=>?_⟩;rw[ho]at h2;have h3:=h2.2;simp only[kK,xF,Array.all_eq_true']at h3;obtain⟨q,h4,h5,h6⟩:=S_.1 he;have:=h3 q h4;rw[h5]at this;subst h6;simpa using this
 ·rintro⟨o,h1,h2,h3⟩;refine⟨(zT.1 h1).1,?_⟩;simp only[h1,kK,xF,h2,Bool.not_false,jZ,Array.all_eq_true'];intro q hq
  cases h:Region.binds .any q with
  |false=>rfl
  |true=>simpa using h3 q.on (S_.2 ⟨q,hq,h,rfl⟩)
theorem TA{ops:Array Oper}{listed:Array Bool}(dS:S8 ops listed){ms:List Nat}(mY :∀i o,ops[i]?=some o->ms.getD i 0=mW ms (Dx o)/\∀e∈Dx o,e<i):
  ∀(n i:Nat) (o:Oper),i<n->ops[i]?=some o->(∀e∈Dx o,listed.getD e false=true)->∀j,(ms.getD i 0).testBit j=true->listed.getD j false=true
 |0,i,o,h,_,_,_,_=>absurd h (zZ _)
 |n+1,i,o,h,ho,he,j,hj=>by
  obtain⟨h1,h2⟩:=mY i o ho;rw[h1]at hj;rcases S4 hj with hj|⟨e,h3,h4⟩
  ·simp at hj
  ·rcases h4 with rfl|h4
   ·exact he _ h3
   ·have aK:e<ops.size:=Nat.lt_trans (h2 e h3) (zT.1 ho).1;have TB:ops[e]?=some ops[e]:=zK aK;exact TA dS mY n e ops[e] (by have:=h2 e h3;omega) TB (dS e _ TB<|he e h3) j h4
theorem TC{listed:Array Bool}{i:Nat}(hi:i<listed.size)(j:Nat)(b:Bool):(listed.setIfInBounds i true).getD j b=if j=i then true else listed.getD j b:=by
 rw[jM,jM,Array.getElem?_setIfInBounds];by_cases h:j=i
 ·subst h;simp[hi]
 ·rw[kA<|fun e=>h e.symm,kA h]
def qW(ks:List Nat):List AI->List Nat
 |[]=>ks
 |x::r=>match x.op,x.dst with
  |.iaL _ _ _,some t=>qW (t::ks) r
  |.fad _ (.t k),some t=>qW (if ks.contains k=true then t::ks else ks) r
  |_,_=>qW ks r
def toF(ks:List Nat)(x:AI):AI:=
 match x.op with
 |.load n agg (.t k)=>if ks.contains k=true then ⟨x.dst,.ldf n agg<|.t k,x.guard⟩else x
 |_=>x
def qX(fz:List Nat)(l:List AI):List AI:=l.map (toF<|qW fz l)
def Nm(y x:AI):Prop:=(∀(C:Vw) (d s v:Nat) (U:Sl) (st:St) (r:Sl × St),Kk C d s v y U st=some r->Kk C d s v x U st=some r)/\∀zero,x.op=.alloc zero->y.op=.alloc zero
theorem Nm.refl(x:AI):Nm x x:=⟨fun _ _ _ _ _ _ _ h=>h,fun _ h=>h⟩
theorem Xx9{C:Vw}{d s v n:Nat}{agg:Bool}{x:Zw}{U:Sl}{st:St}{r:AV × St}(h:Yd C d s v U st (.ldf n agg x)=some r):Yd C d s v U st (.load n agg x)=some r:=by
 simp only[Yd,Yp]at h⊢;split at h
 ·rename_i cs cR;rw[cR];exact h
 ·cases h
theorem Yzf(ks:List Nat)(x:AI):Nm (toF ks x) x:=by
 obtain⟨dst,op,g⟩:=x;unfold toF;split
 case h_2=>exact Nm.refl _
 rename_i n agg k aY;simp only at aY;subst aY;split
 case isFalse=>exact Nm.refl _
 refine⟨fun C d s v U st r h=>?_,fun zero hz=>by cases hz⟩
 have key :∀{f:AV × St->Sl × St}{r:Sl × St},(Yd C d s v U st<|.ldf n agg<|.t k).map f=some r->(Yd C d s v U st<|.load n agg<|.t k).map f=some r:=by
  intro f r h;rw[kN]at h⊢;obtain⟨q,h1,h2⟩:=h;exact⟨q,Xx9 h1,h2⟩
 unfold Kk at h⊢;simp only at h⊢;split at h
 ·rename_i hg;exact key h
 ·split at h
  ·split at h
   ·rename_i hx;rw[kC hx];exact key h
   ·rename_i hx;rw[kA hx];exact h
  ·exact h
  ·exact h
theorem Xjc{X:Cx}{nt:Nat}{ops:Array Oper}{aops:List AI}(hc:Pc X nt ops ops.toList=some aops)(ks:List Nat):∀(i:Nat) o,ops[i]?=some o->∃ai x,(aops.map<|toF ks)[i]?=some ai/\Ti X nt ops o=some x/\Nm ai x:=by intro i o ho;obtain⟨x,h1,h2⟩:=(Eb hc).2 i o (by simpa using ho);exact⟨toF ks x,x,by rw[jY,h1];rfl,h2,Yzf ks x⟩
theorem Xxz{X:Cx}{nt:Nat}{ops:Array Oper}{aops:List AI}(hc:Pc X nt ops ops.toList=some aops):∀(i:Nat) o,ops[i]?=some o->∃ai x,aops[i]?=some ai/\Ti X nt ops o=some x/\Nm ai x:=by intro i o ho;obtain⟨x,h1,h2⟩:=(Eb hc).2 i o (by simpa using ho);exact⟨x,x,h1,h2,Nm.refl x⟩
theorem Xkg{C:Vw}(hT:Kw P X.T)(hC:Rr P X.fm C){nt:Nat}{ops:Array Oper}{aops:List AI}(hc :∀(i:Nat) o,ops[i]?=some o->∃ai x,aops[i]?=some ai/\Ti X nt ops o=some x/\Nm ai x)(hd:Ia ops.toList aops=true){d id base:Nat}(hB :∀(i:Nat) o,ops[i]?=some o->Wo<=id*4096+i->Ri X o.op=true){G0:Gh}{lD:St}(hb:lD.nx<=base){σ2:Sl}{aS:St}{Q:Exit->Act->World->Prop}
  (hQ :∀a' w' G',Vk G' nt σ2 a'->Ka G0 G' w0 lD aS w' d->Q .normal a' w') :
  ∀(l:List Nat){n:Nat}{listed:Array Bool}{G:Gh}{U:Sl}{st:St}{a:Act}{w:World},l.length=n->listed.size=ops.size->l.Pairwise (·<·)->(∀j,j∈l↔j<ops.size/\listed.getD j true=false)->S8 ops listed->X.fm=G.fm->Vk G nt U a->Ka G0 G w0 lD st w d->Ez G st d id base aops l->Bj C d id base aops l U st=some (σ2,aS)->wpAny P .any ops Q n listed a w:=by
 unfold Ia at hd;simp only[kR]at hd
 have mY :∀i o,ops[i]?=some o->(qT [] ops.toList).getD i 0=mW (qT [] ops.toList) (Dx o)/\∀e∈Dx o,e<i:=fun i o ho=>by
  have:=S5 hd.1 i o (by simpa using ho);simpa using this
 intro l n
 induction n generalizing l with
 |zero=>
  intro listed G U st a w hn aM qY a_ dS aJ hA aO cV h;have hl:l=[]:=List.eq_nil_of_length_eq_zero hn;subst hl;refine⟨?_,?_⟩
  ·rw[List.eq_nil_iff_forall_not_mem];intro i hi;obtain⟨o,h1,h2,_⟩:=BM.1 hi;have:=(a_ i).2 ⟨(zT.1 h1).1,h2⟩;simp at this
  ·cases h;exact hQ a w G hA aO
 |succ n ih=>
  intro listed G U st a w hn aM qY a_ dS aJ hA aO cV h
  have iB :∀j,j<ops.size->listed.getD j false=true\/listed.getD j true=false:=by
   intro j hj;rw[jM,jM,zK<|by omega];cases listed[j]'(by omega)<;>simp
  refine⟨fun hr=>?_,fun i hi=>?_⟩
  ·exfalso
   cases l with
   |nil=>simp at hn
   |cons i r=>
    obtain⟨h1,h2⟩:=(a_ i).1 (by simp);have ho:ops[i]?=some ops[i]:=zK h1
    have:i∈Region.ready .any ops listed:=BM.2 ⟨_,ho,h2,fun e he=>by
     have aK:=(mY i _ ho).2 e he;rcases iB e (by omega)with h3|h3
     ·exact h3
     ·exfalso;have hm:=(a_ e).2 ⟨by omega,h3⟩;rcases jH.1 hm with rfl|hm
      ·omega
      ·have:=(List.pairwise_cons.1 qY).1 e hm;omega⟩
    rw[hr]at this;simp at this
  ·obtain⟨o,ho,h2,h3⟩:=BM.1 hi;have aK:i<ops.size:=(zT.1 ho).1;obtain⟨pre,post,rfl⟩:=List.append_of_mem ((a_ i).2 ⟨aK,h2⟩);obtain⟨ai,x0,fW,BL,iC⟩:=hc i o ho;rw[List.pairwise_append,List.pairwise_cons]at qY;obtain⟨BN,⟨BO,BQ⟩,lE⟩:=qY
   have fT :∀j∈pre,∀x,aops[j]?=some x->Ab x ai=true:=by
    intro j hj x hx;have hji:=lE j hj i (by simp);have hp:=S7 hd.2 i ai fW;simp only[yI]at hp;rcases S6 hp j x (by rw[zD,kC hji];exact hx)with hb|hb
    ·exfalso;simp only[yI]at hb;have:=TA dS mY (i+1) i o (by omega) ho h3 j hb;have h4:=((a_ j).1<|by simp[hj]).2;rw[jM,zK<|by omega]at this h4;simp only[xF]at this h4;rw[this]at h4;cases h4
    ·exact hb
   have h:=BD fW pre fT h;simp only[Bj,fW]at h;split at h
   case h_2=>cases h
   rename_i σ' aA h1
   have BR:i<aops.length:=by
    rcases jF i aops.length with h'|h'
    ·exact h'
    ·rw[kT h']at fW;cases fW
   obtain⟨q1,q2,q3,q4⟩:=cV i (by simp) BR
   have i_ :∀j,j∈pre++post↔j∈pre++i::post/\j≠i:=by
    intro j;simp only[kZ,jH];constructor
    ·rintro(hj|hj)
     ·have:=lE j hj i (by simp);exact⟨.inl hj,by omega⟩
     ·have:=BO j hj;exact⟨.inr<|.inr hj,by omega⟩
    ·rintro⟨hj|hj|hj,aQ⟩
     ·exact .inl hj
     ·exact absurd hj aQ
     ·exact .inr hj
   refine SZ hT aJ hC hA aO.rel ho BL (iC.1 _ _ _ _ _ _ _ h1) q1 q2 q3 (fun zero hz=>q4 ai zero fW<|iC.2 zero hz) (hB i o ho) fun a' w' G' mh hs=>?_
   have mD:(pre++post).length=n:=by
    simp only[kF,kB]at hn⊢;omega
   refine ih (pre++post) mD (by simpa using aM) ?_ ?_ ?_ (by rw[hs.le.fm];exact aJ) mh (aO.step hs<|by omega) (cV.step hs fun j hj=>(i_ j).1 hj) h
   ·rw[List.pairwise_append];exact⟨BN,BQ,fun x hx y hy=>lE x hx y<|by simp[hy]⟩
   ·intro j;rw[i_ j,a_ j,TC<|by omega];constructor
    ·rintro⟨⟨h5,h6⟩,h7⟩;exact⟨h5,by rw[kA h7];exact h6⟩
    ·rintro⟨h5,h6⟩;by_cases h7:j=i
     ·rw[kC h7]at h6;cases h6
     ·rw[kA h7]at h6;exact⟨⟨h5,h6⟩,h7⟩
   ·intro x ox BU hx e he;rw[TC<|by omega]at hx⊢;by_cases h7:x=i
    ·subst h7;rw[ho]at BU;cases BU;split
     ·rfl
     ·exact h3 e he
    ·rw[kA h7]at hx;split
     ·rfl
     ·exact dS x ox BU hx e he
end
end Go.AM

namespace Go.AM
open Go Go.RowKit Go.BigFrame
def BV(X:Cx)(nt:Nat)(l:List Oper):Option (List AI):=
 match l with
 |[⟨some d1,.buildSlice t n parts,_,_,_,none⟩,⟨some d2,.convert t1 t2<|.tmp s2,_,_,_,none⟩,⟨some d3,.assign<|.tmp s3,_,_,_,none⟩]=>
  match parts.toList,X.kind t with
  |[(0,.const<|.int .u8 c)],some (.sl e)=>match X.kind e,X.T e with
   |some (.int .u8),some i=>match i.zero with
    |[.i .u8 z]=>if n=1/\t1=t/\t2=t/\s2=d1/\s3=d2/\d1<nt/\d2<nt/\d3<nt then some [⟨some d1,.bslice [.i .u8 z] 1 [(0,.c<|.i .u8 c)],none⟩,⟨some d2,.mv<|.t d1,none⟩,⟨some d3,.mv<|.t d2,none⟩]else none
    |_=>none
   |_,_=>none
  |_,_=>none
 |_=>none
section
variable{P:Program}{X:Cx}
theorem CM{G:Gh}{nt:Nat}{ops:Array Oper}{Q:Exit->Act->World->Prop}{i:Nat}{o:Oper}{a:Act}{w w':World}{v:Value}{K:Act->World->Prop}(ho:ops[i]?=some o)(hg:o.guard=none)(hr:(execOp a.eval o).run P w=.ok (.value v) w')(hk:K (a.put o.dst v) w'):wpOp P ops Q i K a w:=by unfold wpOp;rw[ho];simp only;rw[kC<|by simp[Region.wanted,hg]];refine .inl ?_;unfold Oper.wp;rw[hr];exact hk
theorem Xql{C:Vw}(hT:Kw P X.T){nt d id:Nat}{ops:Array Oper}{n:Nat}{aops:List AI}(dS:BV X nt ops.toList=some aops){U:Sl}{st:St}{e':AE}{σ':Sl}{aA:St}(h:Xs C n d (.reg id aops) U st=some (e',σ',aA)){G:Gh}{w0 w:World}{a:Act}(hA:Vk G nt U a)(hR:Yy G w0 st w)
  {Q:Exit->Act->World->Prop}(hQ:e'=.normal->∀a' w' G',Vk G' nt σ' a'->Ka G G' w0 st aA w' d->Q .normal a' w'):(Code.region id ops false).wp P Q a w:=by
 unfold BV at dS;split at dS
 case h_2=>cases dS
 rename_i d1 t m parts T4 nq T5 d2 t1 t2 s2 ty2 nr T6 d3 s3 ty3 ns T7 CN;split at dS
 case h_2=>cases dS
 rename_i c e lN hkt;split at dS
 case h_2=>cases dS
 rename_i i AX AW;split at dS
 case h_2=>cases dS
 rename_i z hz;split at dS
 case isFalse=>cases dS
 rename_i hc;obtain⟨hm,h2,h3,h4,h5,lF,cK,hd3⟩:=hc;subst hm;have h2:=h2.symm;subst h2;have h3:=h3.symm;subst h3;have h4:=h4.symm;subst h4;have h5:=h5.symm;subst h5;cases dS;obtain⟨_,_,_,_,T8⟩:=Jh hT hkt;obtain⟨_,_,_,_,AY⟩:=Jh hT AX
 -- what the abstract machine does
 have hs:e'=.normal/\σ'=Uj (Uj (Uj U d1<|.sl .full [[.i .u8 c]]) d2<|.sl .full [[.i .u8 c]]) d3 (.sl .full [[.i .u8 c]])/\aA={ st with nx:=st.nx+3 }:=by
  simp[Xs,Ag,Nz,Kk,Yd,Yp,Ji,AV.soft,Vd,Zw.ev,AV.cells,pre,Vj,Uj]at h;obtain⟨rfl,rfl,rfl⟩:=h;refine⟨rfl,?_,rfl⟩
  funext x
  simp[Uj]
 obtain⟨rfl,rfl,rfl⟩:=hs
 -- the zero of the element's type
 obtain⟨ti,zv,hi,aM,_,mC,dL,fC⟩:=(hT e i AW).info;rw[hz]at dL
 have bF:i.size=1:=by
  have h1:zv.cells.toList.length=([AV.i .u8 z]:List AV).length:=by
   have :∀{vs:List Value}{xs:List AV},Bh vs=some xs->vs.length=xs.length:=by
    intro vs
    induction vs with
    |nil=>intro xs hx;cases hx;rfl
    |cons v vs ih=>
     intro xs hx;unfold Bh at hx;split at hx
     ·cases hx;simp[ih<|by assumption]
     ·cases hx
   exact this dL
  rw[<- fC];simpa using h1
 have lO:zv.cells.size=1:=by rw[fC,bF]
 -- the three operations
 have ea:ops=#[⟨some d1,.buildSlice t 1 parts,T4,nq,T5,none⟩,⟨some d2,.convert t t<|.tmp d1,ty2,nr,T6,none⟩,⟨some d3,.assign<|.tmp d2,ty3,ns,T7,none⟩]:=by
  apply zM;simpa using CN
 have ep:parts=#[(0,.const<|.int .u8 c)]:=by apply zM;simpa using lN
 subst ea;subst ep;have T9:a.tmps.size=nt:=hA.2.1
 let w1:=w.alloc (.cells #[.int .u8 c] e)
 let w2:=w.alloc (.cells #[.int .u8 c] e (1,2))
 let v:Value:=.slice (some ⟨w.heap.size,0,none⟩) 1 1
 have r1:(Instr.buildSlice t 1 #[(0,.int .u8 c)]).run P w=.ok v w1:=by
  refine run_buildSlice w t e 1 #[(0,.int .u8 c)] #[.int .u8 c] ti zv T8 hi mC (by rw[aM,bF];omega) (by rw[aM,bF];decide) ?_
  have nu :∀zz:Array Value,zz.size=1->∃y,(Array.range<|1*1).map (zz[· % zz.size]!)=#[y]:=by
   intro zz _;exact⟨zz[0 % zz.size]!,by rw[show Array.range (1*1)=#[0]from rfl];simp⟩
  obtain⟨y,hy⟩:=nu zv.cells lO;rw[aM,bF];simp only[hy];rfl
 have r2:(convert t t v).run P w1=.ok v w2:=Lib.run_convert_bytes_const w t e #[.int .u8 c] 1 1 T8 AY
 have hH:Ba G.H (fun g o=>if g=w.heap.size then (if o=0 then some (.int .u8 c)else none)else G.H g o):=fun g o v h=>by
  show(if g=w.heap.size then _ else G.H g o)=some v;rw[kA (by have:=hR.Hlt h;omega)];exact h
 have B3:Yy G w0 { st with nx:=st.nx+3 } w:=⟨hR.bel,hR.ext,hR.bx,hR.inj,hR.ow,hR.owinj,fun k ver hv=>hR.fresh k ver (by simp at hv;omega),hR.bxT,hR.owT,hR.mp⟩
 have bU:=Vq.grow (d:=d) (site:=0) (ver:=0) B3 (w':=w2) ((Below.refl _ _).alloc (kU _) _) hH (fun g o x h=>by
  by_cases hg:g=w.heap.size
  ·subst hg;simp only[jS]at h;by_cases ho:o=0
   ·subst ho;simp only[jS]at h;cases h;refine .inr ⟨kU _,?_,rfl⟩;rw[World.cell?_alloc_mark];rfl
   ·rw[kA ho]at h;cases h
  ·rw [kA hg] at h;exact .inl h)
 have hv:R ⟨fun g o=>if g=w.heap.size then (if o=0 then some (.int .u8 c)else none)else G.H g o,G.ρ,G.ω,G.fm,G.M⟩ (.sl .full [[.i .u8 c]]) v:=by
  refine .sl .full _ _ _ _ ?_ ⟨rfl,.inr ⟨_,rfl⟩⟩;refine Fz.sl [[.i .u8 c]] _ 1 1 w.heap.size 0 (fun _ _=>.int .u8 c) (fun _=>rfl) (kU _) ?_ ?_ ?_
  ·intro i row hi
   cases i with
   |zero=>simp at hi;subst hi;rfl
   |succ i=>simp at hi
  ·intro i row j x hi hx
   cases i with
   |zero=>
    simp at hi;subst hi
    cases j with
    |zero=>simp
    |succ j=>simp at hx
   |succ i=>simp at hi
  ·intro i row j x hi hx
   cases i with
   |zero=>
    simp at hi;subst hi
    cases j with
    |zero=>simp at hx;subst hx;exact .i _ _
    |succ j=>simp at hx
   |succ i=>simp at hi
 have e1 :∀(b:Act) (dst:Nat) (x:Value),(b.put (some dst) x).eval (.tmp dst)=x\/b.tmps.size<=dst:=by
  intro b dst x;rcases jF dst b.tmps.size with h|h
  ·left;simp[Act.put,Act.eval,h]
  ·exact .inr h
 refine wp_region ?_;show wpOps P _ Q [0,1,2] a w;rw[wpOps_cons];refine CM (G:=G) (nt:=nt) (o:=⟨some d1,.buildSlice t 1 #[(0,.const<|.int .u8 c)],T4,nq,T5,none⟩) rfl rfl (v:=v) (w':=w1) ?_ ?_
 ·simp only[execOp];refine Ja ?_;rw[show Array.map (fun x=>(x.fst,a.eval x.snd)) #[(0,Operand.const<|Value.int IntKind.u8 c)]=#[(0,.int .u8 c)]from by simp[Act.eval]];exact r1
 rw[wpOps_cons];refine CM (G:=G) (nt:=nt) (o:=⟨some d2,.convert t t<|.tmp d1,ty2,nr,T6,none⟩) rfl rfl (v:=v) (w':=w2) ?_ ?_
 ·simp only[execOp];refine Ja ?_;rcases e1 a d1 v with h|h
  ·rw[h];exact r2
  ·rw[T9]at h;exact absurd h (Nat.not_le.2 lF)
 rw[wpOps_cons];refine CM (G:=G) (nt:=nt) (o:=⟨some d3,.assign<|.tmp d2,ty3,ns,T7,none⟩) rfl rfl (v:=v) (w':=w2) ?_ ?_
 ·simp only[execOp];rcases e1 (a.put (some d1) v) d2 v with h|h
  ·rw[h];rfl
  ·simp only[Act.put,Array.size_setIfInBounds,T9]at h;exact absurd h (Nat.not_le.2 cK)
 show Q .normal _ w2;have cW:=hA.mono bU.le
 have hp :∀{U:Sl}{b:Act}(dst:Nat),dst<nt->Vk _ nt U b->Vk ⟨fun g o=>if g=w.heap.size then (if o=0 then some (.int .u8 c)else none)else G.H g o,G.ρ,G.ω,G.fm,G.M⟩ nt (Uj U dst<|.sl .full [[.i .u8 c]]) (b.put (some dst) v):=
  fun dst hd hb=>Vk.put (d:=some dst) hb (by intro t ht;cases ht;exact hd) hv
 refine hQ rfl _ _ _ (hp d3 hd3<|hp d2 cK<|hp d1 lF cW) ?_;exact⟨bU.le,bU.rel,by simp,fun k v fF=>⟨rfl,rfl⟩,fun k v cs _ _ _ h=>h,bU.newH⟩
end
end Go.AM

namespace Go.AM
open Go Go.RowKit Go.BigFrame
def TD(X:Cx)(nt:Nat)(ops:Array Oper)(draw:Bool):Option (List AI):=if draw=true then none else BV X nt ops.toList
def TE(X:Cx)(ops:Array Oper):Bool:=(X.fm 1000000000000).isSome&&ops.any fun o=>match o.op with|.alloc t=>t==Gj X.fm|.fieldAddr t _ _=>t==Gj X.fm|_=>false
def Xzu(X:Cx)(ops:Array Oper):Bool:=match X.fm 1000000000003 with|some t=>ops.any fun o=>(match o.op with|.fieldAddr t' _ n=>n==3&&t'+1000000000==t|_=>false)|none=>false
def TF(X:Cx)(id:Nat)(ops:Array Oper):Nat:=if Xzu X ops then id+500000 else id
def Cu(X:Cx)(id:Nat)(ops:Array Oper):Nat:=if TE X ops then id+1000000 else TF X id ops
def BW(X:Cx)(id:Nat)(ops:Array Oper):Bool:=if TE X ops then ops.all fun o=>Ri X o.op else decide (TF X id ops*4096+ops.size<=Wo)
theorem Xlo{X:Cx}{id:Nat}{ops:Array Oper}(h:BW X id ops=true):∀(i:Nat) o,ops[i]?=some o->Wo<=Cu X id ops*4096+i->Ri X o.op=true:=by
 intro i o ho hb;unfold BW at h;unfold Cu at hb;split at h
 ·rename_i hi;rw[Array.all_eq_true']at h;exact h o (Array.mem_of_getElem? ho)
 ·rename_i hi;rw[kA hi]at hb;have:=(zT.1 ho).1;have h:=zR h;omega
def qZ(X:Cx)(nt:Nat)(id:Nat)(ops:Array Oper)(draw:Bool):Option AC:=
 match TD X nt ops draw with
 |some aops=>some (.reg id aops)
 |none=>match Pc X nt ops ops.toList with
  |some aops=>if BW X id ops=true then (if (draw&&!Ia ops.toList aops)=true then (if Ia ops.toList (qX X.fz aops)=true then some (.reg (Cu X id ops)<|qX X.fz aops)else none)else some (.reg (Cu X id ops) aops))else none
  |none=>none
def Yz1(fz:List Nat)(ops:Array Oper):List Nat:=if fz.isEmpty then []else ops.toList.filterMap fun o=>match o.op,o.dst with|.alloc _,some t=>if fz.contains t then some t else none|_,_=>none
def BX:List Nat->AC->AC
 |[],x=>x
 |t::r,x=>BX r (.seq x<|.frz t)
def stk:AC:=.cond (.c .u) .skip .skip
def He(X:Cx)(nt:Nat):Code->Option AC
 |.skip=>some .skip
 |.label _=>some .skip
 |.region id ops draw=>match qZ X nt id ops draw with|some x=>some (BX (Yz1 X.fz ops) x)|none=>some stk
 |.seq a b=>match He X nt a,He X nt b with|some x,some y=>some (.seq x y)|_,_=>none
 |.cond c a b=>match Vb X.fm c,He X nt a,He X nt b with|some z,some x,some y=>some (.cond z x y)|_,_,_=>none
 |.block id c=>match He X nt c with|some x=>some (.block id x)|none=>none
 |.loop c=>match He X nt c with|some x=>some (.loop x)|none=>none
 |.exit id=>some (.exit id)
 |.goto l=>some (.goto l)
 |.ret=>some .ret
 |.refuse _=>some (.cond (.c .u) .skip .skip)
 |.scope (.seq (.region id ops draw)<|.seq (.label l) b)=>match qZ X nt id ops draw,He X nt b with|some x,some y=>some (.gscope l x y)|_,_=>none
 |_=>some stk
def mZ:AE->Exit
 |.normal=>.normal
 |.exit id=>.exit id
 |.ret=>.ret
 |.goto l=>.goto l
def Oa(P:Program)(y:Code)(l:Nat)(Q:Exit->Act->World->Prop):Nat->Act->World->Prop
 |0,_,_=>False
 |n+1,a,w=>y.wp P (Exit.jump l (Oa P y l Q n) Q) a w
theorem Xde{P:Program}{a:Act}{w:World}{Q:Exit->Act->World->Prop}{x y:Code}(l n:Nat)(hx:findLabel x l=none)
  (first:x.wp P (Exit.then (Oa P y l Q n) fun _ _ _=>False) a w):(Code.scope<|.seq x<|.seq (.label l) y).wp P Q a w:=by
 intro b k cs;have hf:findLabel (.seq x<|.seq (.label l) y) l=some (.seq .skip y):=by simp[findLabel,hx]
 generalize hc:Code.seq x (.seq (.label l) y)=c at hf⊢;have hg:gotoIn l (.inScope c::k)=some (.code (.seq .skip y)::.inScope c::k):=by simp[gotoIn,hf]
 have key :∀n (z:Code) a w,(∀a w Q',y.wp P Q' a w->z.wp P Q' a w)->Oa P y l Q n a w->∃e a' w',Q e a' w'/\Arrives P (lone (b.at a (.code z::.inScope c::k)) cs w) b k cs e a' w':=by
  intro n
  induction n with
  |zero=>intro z a w _ h;exact h.elim
  |succ n ih=>
   intro z a w hz h;obtain⟨e,a₁,w₁,hq,eE⟩:=hz _ _ _ h b (.inScope c::k) cs
   cases e with
   |normal=>exact⟨.normal,a₁,w₁,hq,Steps.trans eE<|.one step_inScope⟩
   |exit id=>exact⟨.exit id,a₁,w₁,hq,fun k' hk=>eE k'<|by simp[exitTo,hk]⟩
   |goto l'=>
    obtain⟨rfl,hJ'⟩:=hq;obtain⟨e₂,a₂,w₂,BZ,fX⟩:=ih (.seq .skip y) a₁ w₁ (fun _ _ _ h=>wp_seq<|wp_skip h) hJ';exact⟨e₂,a₂,w₂,BZ,.of_steps (eE _ hg) fX⟩
   |ret=>exact⟨_,a₁,w₁,hq,eE⟩
   |panic ch=>exact⟨_,a₁,w₁,hq,eE⟩
   |outgrown=>exact⟨_,a₁,w₁,hq,eE⟩
 obtain⟨e,a₁,w₁,hq,eE⟩:=first b (.code (.seq (.label l) y)::.inScope c::k) cs
 cases e with
 |normal=>
  obtain⟨e₂,a₂,w₂,BZ,fX⟩:=key n (.seq (.label l) y) a₁ w₁ (fun _ _ _ h=>wp_seq<|wp_label h) hq
  have hs:Steps P (lone (b.at a (.code (.scope c)::k)) cs w) (lone (b.at a (.code x::.code (.seq (.label l) y)::.inScope c::k)) cs w):=by
   refine .head step_scope ?_;rw[<- hc];exact .one step_seq
  exact⟨e₂,a₂,w₂,BZ,.of_steps (hs.trans eE) fX⟩
 |exit id=>exact hq.elim
 |goto l'=>exact hq.elim
 |ret=>exact hq.elim
 |panic ch=>exact hq.elim
 |outgrown=>exact hq.elim
def Hl(P:Program)(X:Cx)(nt d:Nat)(f:Sl->St->Option (AE × Sl × St))(c:Code):Prop:=
 ∀{U:Sl}{st:St}{e:AE}{σ':Sl}{aA:St},f U st=some (e,σ',aA)->∀{G:Gh}{w0 w:World}{a:Act},X.fm=G.fm->Vk G nt U a->Yy G w0 st w->
  ∀{Q:Exit->Act->World->Prop},(∀a' w' G',Vk G' nt σ' a'->Ka G G' w0 st aA w' d->Q (mZ e) a' w')->c.wp P Q a w
section
variable{P:Program}{X:Cx}
theorem TG{C:Vw}(hT:Kw P X.T)(hC:Rr P X.fm C)(hm:P.follows .mixedOrders=true){nt d id:Nat}{ops:Array Oper}{draw:Bool}{n:Nat}{ac:AC}(eF:qZ X nt id ops draw=some ac):Hl P X nt d (Xs C n d ac) (.region id ops draw):=by
 unfold qZ at eF;split at eF
 ·rename_i aops hl;cases eF;unfold TD at hl;split at hl
  ·cases hl
  rename_i hd;have hd:draw=false:=by simpa using hd
  subst hd;intro U st e σ' aA h G w0 w a aJ hA hR Q hQ;exact Xql hT hl h hA hR fun he=>by subst he;exact hQ
 split at eF
 case h_2=>cases eF
 rename_i aops hc;split at eF
 case isFalse=>cases eF
 rename_i bO;have hB:=Xlo bO
 have e8:aops.length=ops.size:=by
  have:=(Eb hc).1;simpa using this.symm
 -- a region whose order is drawn
 have drawn :∀{eO:List AI},eO.length=ops.size->(∀(i:Nat) o,ops[i]?=some o->∃ai x,eO[i]?=some ai/\Ti X nt ops o=some x/\Nm ai x)->Ia ops.toList eO=true->draw=true->ac=.reg (Cu X id ops) eO->Hl P X nt d (Xs C n d ac) (.region id ops draw):=by
  intro eO hlen iC hd iD he;subst he;subst iD;intro U st e σ' aA h G w0 w a aJ hA hR Q hQ;simp only[Xs,kN,Prod.mk.injEq]at h;obtain⟨⟨σ1,aP⟩,h,rfl,rfl,rfl⟩:=h;unfold Ag at h;rw[BJ (ops:=eO)<|fun j=>by simp]at h;rw[<- List.range_eq_range']at h;refine wp_region_any hm ?_;have B3:Yy G w0 st { w with drawn:=w.drawn+1 }:=hR.below (w':={ w with drawn:=w.drawn+1 }) ⟨rfl,rfl,rfl,kU _,fun _ _=>rfl⟩;obtain⟨h1,h2⟩:=S0 (d:=d) (id:=Cu X id ops) (aops:=eO) B3 (l:=List.range ops.size);rw[hlen]at h;refine Xkg hT hC iC hd hB (kU _) hQ (List.range ops.size) (by simp) (by simp) List.pairwise_lt_range ?_ ?_ aJ hA h1 h2 (by rw[hlen];exact h)
  ·intro j;rw[List.mem_range];constructor
   ·intro hj;refine⟨hj,?_⟩;rw[jM,Array.getElem?_replicate,kC hj];rfl
   ·exact fun h=>h.1
  ·intro x o hx hl;rw[jM,Array.getElem?_replicate,kC (zT.1 hx).1]at hl;cases hl
 split at eF
 ·rename_i lF;split at eF
  case isFalse=>cases eF
  rename_i cK;injection eF with eF
  have iD:draw=true:=by
   cases draw with
   |true=>rfl
   |false=>simp at lF
  exact @drawn (qX X.fz aops) (by simpa[qX]using e8) (Xjc hc _) cK iD eF.symm
 rename_i lF;injection eF with eF
 cases fY:draw with
 |true=>
  rw[<- fY];exact @drawn aops e8 (Xxz hc) (by rw[fY]at lF;simpa using lF) fY eF.symm
 |false=>
  subst eF;intro U st e σ' aA h G w0 w a aJ hA hR Q hQ;simp only[Xs,kN,Prod.mk.injEq]at h;obtain⟨⟨σ1,aP⟩,h,rfl,rfl,rfl⟩:=h;unfold Ag at h;rw[BJ (ops:=aops)<|fun j=>by simp]at h;rw[<- List.range_eq_range']at h;refine wp_region ?_;obtain⟨h1,h2⟩:=S0 (d:=d) (id:=Cu X id ops) (aops:=aops) hR (l:=List.range ops.size);rw[e8]at h;exact BK hT hC hc hB (kU _) hQ (List.range ops.size) aJ List.nodup_range hA h1 h2 (by rw[e8];exact h)
theorem TH{nt d:Nat}{f:Sl->St->Option (AE × Sl × St)}{c:Code}(ih:Hl P X nt d f c):∀(m:Nat){U:Sl}{st:St}{e:AE}{σ':Sl}{aA:St},Mm f m U st=some (e,σ',aA)->∀{G:Gh}{w0 w:World}{a:Act},X.fm=G.fm->Vk G nt U a->Yy G w0 st w->
  ∀{Q:Exit->Act->World->Prop},(∀a' w' G',Vk G' nt σ' a'->Ka G G' w0 st aA w' d->Q (mZ e) a' w')->Code.rounds P c Q m a w
 |0,U,st,e,σ',aA,h,G,w0,w,a,_,_,_,Q,_=>by cases h
 |m+1,U,st,e,σ',aA,h,G,w0,w,a,aJ,hA,hR,Q,hQ=>by
  rw[rounds_succ];simp only[Mm]at h;split at h
  ·rename_i σ1 aP h1;refine ih h1 aJ hA hR fun a1 w1 G1 cW aR=>?_
   exact TH ih m h (by rw[aR.le.fm];exact aJ) cW aR.rel fun a2 w2 G2 lG cB=>hQ a2 w2 G2 lG (aR.trans cB)
  ·rename_i aQ;refine ih h aJ hA hR fun a1 w1 G1 cW aR=>?_
   have:=hQ a1 w1 G1 cW aR
   cases e with
   |normal=>exact absurd h (aQ _ _)
   |exit id=>exact this
   |ret=>exact this
   |goto l=>exact this
theorem TJ{nt d l:Nat}{f:Sl->St->Option (AE × Sl × St)}{y:Code}(ih:Hl P X nt d f y):∀(m:Nat){U:Sl}{st:St}{e:AE}{σ':Sl}{aA:St},Bw l f m U st=some (e,σ',aA)->∀{G:Gh}{w0 w:World}{a:Act},X.fm=G.fm->Vk G nt U a->Yy G w0 st w->
  ∀{Q:Exit->Act->World->Prop},(∀a' w' G',Vk G' nt σ' a'->Ka G G' w0 st aA w' d->Q (mZ e) a' w')->Oa P y l Q m a w
 |0,U,st,e,σ',aA,h,G,w0,w,a,_,_,_,Q,_=>by cases h
 |m+1,U,st,e,σ',aA,h,G,w0,w,a,aJ,hA,hR,Q,hQ=>by
  simp only[Oa];simp only[Bw]at h;split at h
  ·rename_i l' σ2 aS h2;split at h
   ·rename_i hl;refine ih h2 aJ hA hR fun a2 w2 G2 lG cB=>⟨hl,?_⟩
    exact TJ ih m h (by rw[cB.le.fm];exact aJ) lG cB.rel fun a3 w3 G3 hA3 m3=>hQ a3 w3 G3 hA3 (cB.trans m3)
   ·cases h
  ·rename_i aQ;refine ih h aJ hA hR fun a2 w2 G2 lG cB=>?_
   have:=hQ a2 w2 G2 lG cB
   cases e with
   |normal=>exact this
   |exit id=>exact this
   |ret=>exact this
   |goto l=>exact absurd h (aQ _ _ _)
theorem B4{C:Vw}{nt n d:Nat}{c:Code}:Hl P X nt d (Xs C n d stk) c:=by intro U st e σ' aA h;simp only[stk,Xs,Zw.ev]at h;cases h
theorem Wbm{C:Vw}{nt n d:Nat}{ax ay:AC}{x y:Code}(hx:Hl P X nt d (Xs C n d ax) x)(hy:Hl P X nt d (Xs C n d ay) y):Hl P X nt d (Xs C n d<|.seq ax ay) (.seq x y):=by
 intro U st e σ' aA h G w0 w a aJ hA hR Q hQ;simp only[Xs]at h;split at h
 ·rename_i σ1 aP h1;refine wp_seq (hx h1 aJ hA hR fun a1 w1 G1 cW aR=>?_);exact hy h (by rw[aR.le.fm];exact aJ) cW aR.rel fun a2 w2 G2 lG cB=>hQ a2 w2 G2 lG (aR.trans cB)
 ·rename_i aQ;refine wp_seq (hx h aJ hA hR fun a1 w1 G1 cW aR=>?_);have:=hQ a1 w1 G1 cW aR
  cases e with
  |normal=>exact absurd h (aQ _ _)
  |exit id=>exact this
  |ret=>exact this
  |goto l=>exact this
theorem TL{C:Vw}{nt n d:Nat}{c:Code}:∀{l:List Nat}{x:AC},Hl P X nt d (Xs C n d x) c->Hl P X nt d (Xs C n d<|BX l x) c
 |[],_,h=>h
 | t::r,x,hx=>TL (l:=r) (by
  intro U st e σ' aA h G w0 w a aJ hA hR Q hQ;simp only[Xs]at h;split at h
  ·rename_i σ1 aP h1;split at h
   case h_2=>cases h
   rename_i k v hp;split at h
   case h_2=>cases h
   rename_i v' cs hk;split at h
   case isFalse=>cases h
   rename_i hv;subst hv;split at h
   case h_2=>cases h
   rename_i cs' hs;cases h;refine hx h1 aJ hA hR fun a1 w1 G1 cW aR=>?_
   have mg:=cW.2.2 t;rw[hp]at mg;obtain⟨G2,h2,h3⟩:=Yxw aR.rel hk hs mg (d:=d) (site:=0) (ver:=aP.nx);refine hQ a1 w1 G2 ⟨cW.1,cW.2.1,fun t'=>?_⟩ (aR.step h3 aR.nx);by_cases ht:t'=t
   ·subst ht;rw[Xyw];exact h2
   ·rw[Xcl _ _ _ _ ht];exact(cW.2.2 t').mono h3.le
  ·rename_i aQ;refine hx h aJ hA hR fun a1 w1 G1 cW aR=>?_
   have:=hQ a1 w1 G1 cW aR;exact this)
theorem Wct{C:Vw}(hT:Kw P X.T)(hC:Rr P X.fm C)(hm:P.follows .mixedOrders=true){nt:Nat}(n d:Nat):∀(k:Nat) (c:Code),SizeOf.sizeOf c<k->∀{ac:AC},He X nt c=some ac->Hl P X nt d (Xs C n d ac) c:=by
 intro k
 induction k with
 |zero=>intro c hk;exact absurd hk (zZ _)
 |succ k ihk=>
 intro c hk ac hc
 cases c with
 |skip=>
  cases hc;intro U st e σ' aA h G w0 w a aJ hA hR Q hQ;cases h;exact wp_skip (hQ a w G hA<|.refl hR)
 |label l=>
  cases hc;intro U st e σ' aA h G w0 w a aJ hA hR Q hQ;cases h;exact wp_label (hQ a w G hA<|.refl hR)
 |exit id=>
  cases hc;intro U st e σ' aA h G w0 w a aJ hA hR Q hQ;cases h;exact wp_exit (hQ a w G hA<|.refl hR)
 |goto l=>
  cases hc;intro U st e σ' aA h G w0 w a aJ hA hR Q hQ;cases h;exact wp_goto (hQ a w G hA<|.refl hR)
 |ret=>
  cases hc;intro U st e σ' aA h G w0 w a aJ hA hR Q hQ;cases h;exact wp_ret (hQ a w G hA<|.refl hR)
 |region id ops draw=>
  unfold He at hc;split at hc
  ·rename_i x hx;cases hc;exact TL (TG hT hC hm hx)
  ·cases hc;exact B4
 |seq x y=>
  unfold He at hc;split at hc
  ·rename_i ax ay hx hy;cases hc;exact Wbm (ihk _ (by simp at hk;omega) hx) (ihk _ (by simp at hk;omega) hy)
  ·cases hc
 |cond z x y=>
  unfold He at hc;split at hc
  ·rename_i az ax ay hz hx hy;cases hc;intro U st e σ' aA h G w0 w a aJ hA hR Q hQ;simp only[Xs]at h;rw[aJ]at hz;have hv:=Rf hA hz;unfold Sp at hv;revert hv;split at h
   ·rename_i ht;rw[ht];intro hv;exact wp_cond_true hv.bool_inv (ihk _ (by simp at hk;omega) hx h aJ hA hR hQ)
   ·rename_i ht;rw[ht];intro hv;exact wp_cond_false hv.bool_inv (ihk _ (by simp at hk;omega) hy h aJ hA hR hQ)
   ·cases h
  ·cases hc
 |block id c=>
  unfold He at hc;split at hc
  ·rename_i x hx;cases hc;intro U st e σ' aA h G w0 w a aJ hA hR Q hQ;simp only[Xs]at h;refine wp_block ?_;split at h
   ·rename_i gV σ1 aP h1;refine ihk _ (by simp at hk;omega) hx h1 aJ hA hR fun a1 w1 G1 cW aR=>?_
    split at h
    ·rename_i hid;cases h;have:=hQ a1 w1 G1 cW aR;simp only[mZ,Exit.inBlock,hid,jS];exact this
    ·rename_i hid;cases h;have:=hQ a1 w1 G1 cW aR;simp only[mZ,Exit.inBlock,hid,jT];exact this
   ·rename_i aQ;refine ihk _ (by simp at hk;omega) hx h aJ hA hR fun a1 w1 G1 cW aR=>?_
    have:=hQ a1 w1 G1 cW aR
    cases e with
    |normal=>exact this
    |exit gV=>exact absurd h (aQ _ _ _)
    |ret=>exact this
    |goto l=>exact this
  ·cases hc
 |loop c=>
  unfold He at hc;split at hc
  ·rename_i x hx;cases hc;have ih:Hl P X nt d (Xs C n d x) c:=ihk _ (by simp at hk;omega) hx;intro U st e σ' aA h G w0 w a aJ hA hR Q hQ;simp only[Xs]at h;exact wp_loop_rounds n (TH ih n h aJ hA hR hQ)
  ·cases hc
 |rangeFunc f ps x y=>cases hc;exact B4
 |refuse why=>
  cases hc;intro U st e σ' aA h;simp only[Xs,Zw.ev]at h;cases h
 |scope c=>
  unfold He at hc;split at hc
  all_goals first|(rename_i hq;cases hq;done)|skip
  all_goals (first|(cases hc;done)|skip)
  all_goals (first|(injection hc with hc;subst hc;exact B4)|skip)
  rename_i id ops draw l y hq;injection hq with hq;subst hq;split at hc
  ·rename_i ax ay hx hy;cases hc;have ih:Hl P X nt d (Xs C n d ay) y:=ihk _ (by simp at hk;omega) hy;have ihx:Hl P X nt d (Xs C n d ax) (.region id ops draw):=TG hT hC hm hx;intro U st e σ' aA h G w0 w a aJ hA hR Q hQ;simp only[Xs]at h;split at h
   case h_2=>cases h
   rename_i σ1 aP h1;refine Xde l n rfl (ihx h1 aJ hA hR fun a1 w1 G1 cW aR=>?_);exact TJ ih n h (by rw[aR.le.fm];exact aJ) cW aR.rel fun a' w' G' h1 h2=>hQ a' w' G' h1 (aR.trans h2)
  ·cases hc
end
end Go.AM

namespace Go.AM
open Go Go.RowKit Go.BigFrame
def B5(X:Cx):ResultVar->Option Mc
 |.tmp t=>some (.tmp t)
 |.cell p t=>match X.T t with|some i=>if Fe i=true then some (.cell p i.size i.kind.agg)else none|none=>none
def Nq(X:Cx):List ResultVar->Option (List Mc)
 |[]=>some []
 |r::l=>match B5 X r,Nq X l with|some x,some xs=>some (x::xs)|_,_=>none
def q7(P:Program)(X:Cx)(F:AF)(code:Code):Prop:=Kw P X.T->P.follows .mixedOrders=true->∀C,Rr P X.fm C->∀n d,Hl P { X with fz:=F.fz } F.nt d (Xs C n d F.body) code
theorem q7.of{P:Program}{X:Cx}{F:AF}{code:Code}(h:He { X with fz:=F.fz } F.nt code=some F.body):q7 P X F code:=
 fun hT hm _ hC n d=>Wct (X:={ X with fz:=F.fz }) hT hC hm n d (SizeOf.sizeOf code+1) code (kG _) h
structure Yc(P:Program)(X:Cx)(f:FuncId)(F:AF):Prop where
 ok :∃fn code,P.funcs[f]?=some fn/\(fn.name== "runtime.NumGoroutine")=false/\fn.body=some code/\fn.ntmps=F.nt/\q7 P X F code/\Nq X fn.results.toList=some F.res/\F.res.length<=4
def B6(P:Program)(X:Cx)(fn:Nat->Option AF):Prop:=∀f c F,X.fm f=some c->fn c=some F->Yc P X f F
def Ro(P:Program)(X:Cx)(PG:Zb):Prop:=∀f c,X.fm f=some c->PG.fn c=none->∀args r,PG.orac c args=some r->
 ∀G w0 st w Yv d,G.fm=X.fm->Yy G w0 st w->Rs G args Yv->Nd P f Yv.toArray w fun v w'=>∃G',R G' r v/\Ka G G' w0 st st w' d
def q8(P:Program)(X:Cx)(PG:Zb):Prop:=∀f c,X.fm f=some c->PG.fn c=none->∀args st r aA,PG.oracS c args st=some (r,aA)->
 ∀G w0 w Yv d,G.fm=X.fm->Yy G w0 st w->Rs G args Yv->Nd P f Yv.toArray w fun v w'=>∃G',R G' r v/\Ka G G' w0 st aA w' d
section
variable{P:Program}{X:Cx}{G:Gh}{w0 w:World}{st:St}
def q9(tmps:Array Value)(r:ResultVar):Sem Value:=
 match r with
 |.tmp t=>pure (tmps.getD t undef)
 |.cell a t=>do loadVar t (<- asAddr (tmps.getD a undef))
theorem TM(hT:Kw P X.T){nt:Nat}{U:Sl}{a:Act}(hA:Vk G nt U a)(hR:Yy G w0 st w){r:ResultVar}{x:Mc}(hc:B5 X r=some x){v:AV}(h:Kq U st x=some v):
  ∃u,(q9 a.tmps r).run P w=.ok u w/\R G v u:=by
 cases r with
 |tmp t=>
  cases hc;cases h;exact⟨_,rfl,hA.2.2 t⟩
 |cell p t=>
  simp only[B5]at hc;split at hc
  case h_2=>cases hc
  rename_i i hi;split at hc
  case isFalse=>cases hc
  rename_i hs;cases hc;simp only[Kq]at h;have hv:=hA.2.2 p;obtain⟨u,h1,h2⟩:=SQ hR (hT t i hi) (qM hs) h hv;refine⟨u,?_,h2⟩
  have hp :∃q,a.tmps.getD p undef=.pointer (some q):=by
   unfold Ml at h;revert hv;generalize U p=z at h;intro hv;revert hv;split at h
   ·intro hv;obtain⟨g,off,us,h3,_⟩:=hv.fp_inv;exact⟨_,h3⟩
   ·intro hv;obtain⟨g,h3,_⟩:=hv.p_inv;exact⟨_,h3⟩
   ·cases h
  obtain⟨q,hq⟩:=hp;rw[hq]at h1;simp only[q9,hq,asAddr,jN,jW,jG];simpa only[Instr.loadAt,Instr.sureAddr,jN,jW,jG]using h1
theorem TN(hT:Kw P X.T){nt:Nat}{U:Sl}{a:Act}(hA:Vk G nt U a)(hR:Yy G w0 st w):∀{l:List ResultVar}{xs:List Mc},Nq X l=some xs->∀{vs:List AV},Wz U st xs=some vs->
  ∃us:List Value,us.length=l.length/\(∀(j:Nat) r u,l[j]?=some r->us[j]?=some u->(q9 a.tmps r).run P w=.ok u w)/\Rs G vs us
 |[],xs,hc,vs,h=>by
  cases hc;cases h;exact⟨[],rfl,by simp,rfl,by simp⟩
 |r::l,xs,hc,vs,h=>by
  unfold Nq at hc;split at hc
  case h_2=>cases hc
  rename_i x ys hx hl;cases hc;unfold Wz at h;split at h
  case h_2=>cases h
  rename_i v vl hv hvl;cases h;obtain⟨u,h1,h2⟩:=TM hT hA hR hx hv;obtain⟨us,h3,h4,h5⟩:=TN hT hA hR hl hvl;refine⟨u::us,by simp[h3],fun j r' u' hj hu=>?_,by simp[h5.1],fun j a' u' ha hu=>?_⟩
  ·cases j with
   |zero=>simp at hj hu;subst hj;subst hu;exact h1
   |succ j=>exact h4 j r' u' (by simpa using hj) (by simpa using hu)
  ·cases j with
   |zero=>simp at ha hu;subst ha;subst hu;exact h2
   |succ j=>exact h5.2 j a' u' (by simpa using ha) (by simpa using hu)
theorem Yzq(fn:Func)(tmps:Array Value):results fn tmps=(do
  let vs <- fn.results.mapM (q9 tmps)
  pure (if h:vs.size=1 then vs[0] else .tuple vs)):=rfl
theorem TO:∀{l:List ResultVar}{xs:List Mc},Nq X l=some xs->l.length=xs.length
 |[],xs,hc=>by cases hc;rfl
 |r::l,xs,hc=>by
  unfold Nq at hc;split at hc
  case h_2=>cases hc
  rename_i x ys hx hl;cases hc;simp[TO hl]
theorem Yxl(hT:Kw P X.T){nt:Nat}{U:Sl}{a:Act}(hA:Vk G nt U a)(hR:Yy G w0 st w){fn:Func}{xs:List Mc}(hc:Nq X fn.results.toList=some xs)(hl:xs.length<=4){r:AV}(h:Xj U st xs=some r):
  ∃u,(results fn a.tmps).run P w=.ok u w/\R G r u:=by
 obtain⟨l,m4⟩ :∃l:List ResultVar,fn.results=l.toArray:=⟨fn.results.toList,by simp⟩;rw[m4]at hc;have hlen:=TO hc;rw[Yzq,m4];by_cases h1:xs.length=1
 ·match xs,h1 with
  |[x],_=>
   match l,hlen with
   |[q],_=>
    unfold Nq at hc;split at hc
    case h_2=>cases hc
    rename_i x' ys hx mi;injection hc with hc;injection hc with hc1 SU;subst hc1;simp only[Xj]at h;obtain⟨u,h2,h3⟩:=TM hT hA hR hx h;exact⟨u,by simp[h2],h3⟩
 ·have h2 :∃vs,Wz U st xs=some vs/\r=.tup vs:=by
   unfold Xj at h;split at h
   ·simp at h1
   ·simp only[kN]at h;obtain⟨vs,h3,h4⟩:=h;exact⟨vs,h3,h4.symm⟩
  obtain⟨vs,h3,rfl⟩:=h2;obtain⟨us,h4,h5,h6⟩:=TN hT hA hR hc h3;refine⟨.tuple us.toArray,?_,.tup vs us h6.1 h6.2⟩
  match l,us,h4 with
  |[],[],_=>simp
  |[_],_,_=>simp at hlen;omega
  |[q1,q2],[u1,u2],_=>simp[h5 0 q1 u1 rfl rfl,h5 1 q2 u2 rfl rfl]
  |[q1,q2,q3],[u1,u2,u3],_=>simp[h5 0 q1 u1 rfl rfl,h5 1 q2 u2 rfl rfl,h5 2 q3 u3 rfl rfl]
  |[q1,q2,q3,q4],[u1,u2,u3,u4],_=>simp[h5 0 q1 u1 rfl rfl,h5 1 q2 u2 rfl rfl,h5 2 q3 u3 rfl rfl,h5 3 q4 u4 rfl rfl]
  |_::_::_::_::_::_,_,_=>simp at hlen;omega
theorem Vk.enter{nt:Nat}{args:List AV}{Yv:List Value}(h:Rs G args Yv)(hn:args.length<=nt):Vk G nt (Wg args) { tmps:=Yv.toArray++Array.replicate (nt-Yv.toArray.size) undef,defers:=[] }:=by
 refine⟨rfl,?_,fun t=>?_⟩
 ·have:=h.1;simp only[Array.size_append,List.size_toArray,Array.size_replicate];omega
 ·have hl:=h.1;unfold Wg;rw[jM,zG];rcases jF t args.length with ht|ht
  ·rw[Array.getElem?_append_left (by simp;omega)];have hv:t<Yv.length:=by omega
   rw[kH ht];simp only[yH,kH hv,xF];exact h.2 t _ _ (kH ht) (kH hv)
  ·rw[kT ht,Array.getElem?_append_right (by simp;omega),Array.getElem?_replicate];split
   ·exact R.und
   ·exact R.und
theorem Ka.out{G':Gh}{aA:St}{w':World}{d:Nat}(h:Ka G G' w0 st aA w' d):Ka G G' w0 st { aA with bx:=aA.bx.filter fun x=>x.1.1<d } w' d:=by
 have bN :∀k,lk (aA.bx.filter fun x=>x.1.1<d) k=if k.1<d then lk aA.bx k else none:=by
  intro k;have:=TP aA.bx (fun k=>decide<|k.1<d) k;simpa using this
 have eG :∀{k v},lk (aA.bx.filter fun x=>x.1.1<d) k=some v->lk aA.bx k=some v:=by
  intro k v h1;rw[bN]at h1;split at h1
  ·exact h1
  ·cases h1
 have hr:=h.rel;refine⟨h.le,⟨hr.bel,hr.ext,fun k ver cs g h1 h2=>hr.bx k ver cs g (eG h1) h2,fun k k' ver ver' cs cs' g h1 h2 h3 h4=>hr.inj k k' ver ver' cs cs' g (eG h1) (eG h2) h3 h4,?_,hr.owinj,hr.fresh,fun k ver cs g hb h1 h2=>hr.bxT k ver cs g hb (eG h1) h2,hr.owT,hr.mp⟩,h.nx,h.old,?_,h.newH⟩
 ·intro k ver n h1;obtain⟨g,cap,size,h2,h3,h4⟩:=hr.ow k ver n h1;exact⟨g,cap,size,h2,h3,fun k' ver' cs' h5=>h4 k' ver' cs'<|eG h5⟩
 ·intro k v cs hk hv hn hl;show lk (aA.bx.filter _) k=_;rw[bN,kC hk];exact h.pend k v cs hk hv hn hl
theorem Ar {f:FuncId} {fn:Func} {code:Code} (hf:P.funcs[f]?=some fn) (hn:(fn.name== "runtime.NumGoroutine")=false) (hb:fn.body=some code) (Yv:Array Value):(callFunc f Yv).run P w=.ok (.enter f Yv) w:=by simp only[callFunc,jN,run_program,jG,hf,hn,hb,Option.isNone_some,jL,jT,jW]
theorem TQ(hT:Kw P X.T)(hm:P.follows .mixedOrders=true){PG:Zb}(hP:B6 P X PG.fn)(hO:Ro P X PG)(hS:q8 P X PG):∀n,Rr P X.fm (Qo PG n)
 |0=>by intro d c args st r aA h;cases h
 |n+1=>by
  intro d c args st r aA h f hf G w0 w Yv aJ hR hV;rw[Qo]at h
  cases hc:PG.fn c with
  |none=>
   rw[hc]at h;simp only at h;split at h
   ·rename_i r' h1;cases h;exact hO f c hf hc args _ h1 G w0 st w Yv d aJ hR hV
   ·exact hS f c hf hc args st r aA h G w0 w Yv d aJ hR hV
  |some F=>
   rw[hc]at h;simp only at h;split at h
   case isFalse=>cases h
   rename_i hn;obtain⟨fn,code,h1,h2,h3,h4,h5,h6,h7⟩:=(hP f c F hf hc).ok;refine .inl ⟨Ar h1 h2 h3 _,calls_of_wp h1 h3 ?_⟩;rw[h4];have eH:Hl P { X with fz:=F.fz } F.nt d (Xs (Qo PG n) n d F.body) code:=h5 hT hm _ (TQ hT hm hP hO hS n) n d
   have fin :∀{U:Sl}{aP:St}{r':AV},Xj U aP F.res=some r'->r'=r->{ aP with bx:=aP.bx.filter fun x=>x.1.1<d }=aA->∀a' w' G',Vk G' F.nt U a'->Ka G G' w0 st aP w' d->
     a'.defers=[]/\∃v,(results fn a'.tmps).run P w'=.ok v w'/\∃G',R G' r v/\Ka G G' w0 st aA w' d:=by
    intro U aP r' h8 h9 cX a' w' G' mh aO;subst h9;subst cX;obtain⟨u,iY,h12⟩:=Yxl hT mh aO.rel h6 h7 h8;exact⟨mh.1,u,iY,G',h12,aO.out⟩
   split at h
   ·rename_i U aP h8;simp only[kN,Prod.mk.injEq]at h;obtain⟨r',h9,cX,iY⟩:=h;exact eH h8 aJ.symm (Vk.enter hV hn) hR (fin h9 cX iY)
   ·rename_i U aP h8;simp only[kN,Prod.mk.injEq]at h;obtain⟨r',h9,cX,iY⟩:=h;exact eH h8 aJ.symm (Vk.enter hV hn) hR (fin h9 cX iY)
   ·cases h
end
end Go.AM

namespace Go.AM
open Go Go.RowKit Go.Proofs Go.Shelf
section
variable{P:Program}{ρ:Ren}
set_option maxHeartbeats 1000000 in
set_option maxRecDepth 100000 in
theorem Xgs(L:Lays.n169 P ρ)(X:Builder.Extra P ρ){b g cap:Nat}{p:Value}{cur:Array Value}{l:BS}{w:World}(nm:w.heap[b]?=some (.cells #[p,.slice (some ⟨g,0,none⟩) l.length cap] (ρ.t 72) (0,0)))
  (hg:w.heap[g]?=some (.cells cur (ρ.t 5) (0,0))) (h0:l≠[]) (cR:l.length<=cur.size) (bA:cap≠0) (lx:l.length<=9223372036854775807)
  (bV :∀j x,l[j]?=some x->w.cell? ⟨g,j,none⟩=some (.int .u8 x.toNat)) :
  Calls P (ρ.f 169) #[.pointer<|some ⟨b,0,none⟩] w fun e w'=>e=.returned (.string ⟨l.toArray⟩)/\w'=w.drew.freeze ⟨g,0,none⟩ l.length:=by
 have c1:w.drew.cell? ⟨b,1,none⟩=some (.slice (some ⟨g,0,none⟩) l.length cap):=by
  have:w.drew.heap[b]?=some (.cells #[p,.slice (some ⟨g,0,none⟩) l.length cap] (ρ.t 72) (0,0)):=nm;rw[Lib.cell_of_heap this];rfl
 have hSD:(Builtin.unsafeSliceData_ #[(ρ.t 37)] (ρ.t 127) #[.slice (some ⟨g,0,none⟩) l.length cap]).run P w.drew=.ok (.pointer<|some ⟨g,0,none⟩) w.drew:=
  Lib.run_unsafeSliceData_row _ _ _ _ _ _ bA
 have hUS:(Builtin.unsafeString_ #[(ρ.t 127),(ρ.t 3)] (ρ.t 9) #[.pointer<|some ⟨g,0,none⟩,.int .i64 l.length]).run P w.drew=.ok (.string ⟨l.toArray⟩) (w.drew.freeze ⟨g,0,none⟩ l.length):=by
  refine Lib.run_unsafeString_row w.drew (ρ.t 127) (ρ.t 3) (ρ.t 9) (ρ.t 5) L.t127 X.cellsByte g cur.size (by have cC:w.drew.heap[g]?=some (.cells cur (ρ.t 5) (0,0)):=hg;simp[World.shape?,cC]) l h0 cR lx ?_;intro j x hx;rw[yR,yI];exact bV j x hx
 clear bA bV hg nm;have mixed:=L.mixed;have t72:=L.t72;have a72:=L.a72;have z72:=L.z72;have v72:=L.v72;have u72:=run_underlying L.t72;have t70:=L.t70;have a70:=L.a70;have z70:=L.z70;have v70:=L.v70;have u70:=run_underlying L.t70;have t37:=L.t37;have a37:=L.a37;have z37:=L.z37;have v37:=L.v37;have u37:=run_underlying L.t37;have t127:=L.t127;have a127:=L.a127;have z127:=L.z127;have v127:=L.v127;have CK:=run_underlying L.t127;have t3:=L.t3;have a3:=L.a3;have z3:=L.z3;have v3:=L.v3;have u3:=run_underlying L.t3;have t9:=L.t9;have a9:=L.a9;have z9:=L.z9;have v9:=L.v9;have u9:=run_underlying L.t9;have t5:=X.t5;have a5:=X.a5;have z5:=X.z5;have v5:=X.v5;have u5:=run_underlying X.t5
 go_enter L.f169,Body.n169_ntmps ρ
 go_wp2
 go_region_o
 all_goals (go_wp2;go_ret;exact⟨rfl,rfl⟩)
set_option maxHeartbeats 1000000 in
set_option maxRecDepth 100000 in
theorem Xqa(L:Lays.n169 P ρ)(X:Builder.Extra P ρ){b:Nat}{p:Value}{w:World}(nm:w.heap[b]?=some (.cells #[p,.slice none 0 0] (ρ.t 72) (0,0))):
  Calls P (ρ.f 169) #[.pointer<|some ⟨b,0,none⟩] w fun e w'=>e=.returned (.string .empty)/\w'=w.drew:=by
 have c1:w.drew.cell? ⟨b,1,none⟩=some (.slice none 0 0):=by
  have:w.drew.heap[b]?=some (.cells #[p,.slice none 0 0] (ρ.t 72) (0,0)):=nm;rw[Lib.cell_of_heap this];rfl
 have hSD:(Builtin.unsafeSliceData_ #[(ρ.t 37)] (ρ.t 127) #[.slice none 0 0]).run P w.drew=.ok (.pointer none) w.drew:=
  Lib.run_unsafeSliceData_nil _ _ _ _ _
 have hUS:(Builtin.unsafeString_ #[(ρ.t 127),(ρ.t 3)] (ρ.t 9) #[.pointer none,.int .i64 0]).run P w.drew=.ok (.string .empty) w.drew:=Lib.run_unsafeString_none _ _ _ _ _;clear nm;have mixed:=L.mixed;have t72:=L.t72;have a72:=L.a72;have z72:=L.z72;have v72:=L.v72;have u72:=run_underlying L.t72;have t70:=L.t70;have a70:=L.a70;have z70:=L.z70;have v70:=L.v70;have u70:=run_underlying L.t70;have t37:=L.t37;have a37:=L.a37;have z37:=L.z37;have v37:=L.v37;have u37:=run_underlying L.t37;have t127:=L.t127;have a127:=L.a127;have z127:=L.z127;have v127:=L.v127;have CK:=run_underlying L.t127;have t3:=L.t3;have a3:=L.a3;have z3:=L.z3;have v3:=L.v3;have u3:=run_underlying L.t3;have t9:=L.t9;have a9:=L.a9;have z9:=L.z9;have v9:=L.v9;have u9:=run_underlying L.t9;have t5:=X.t5;have a5:=X.a5;have z5:=X.z5;have v5:=X.v5;have u5:=run_underlying X.t5
 go_enter L.f169,Body.n169_ntmps ρ
 go_wp2
 go_region_o
 all_goals (go_wp2;go_ret;exact⟨rfl,rfl⟩)
end
theorem Xqc(w:World)(a:Addr)(n:Nat)(p:Addr):(w.freeze a n).cell? p=w.cell? p:=by
 unfold World.freeze;split
 ·rfl
 ·simp only[World.cell?,Array.getElem?_modify];by_cases h:a.block=p.block
  ·rw[kC h]
   cases w.heap[p.block]? with
   |none=>rfl
   |some o=>cases o<;>rfl
  ·rw[kA h]
theorem Xod(w:World)(a:Addr)(n i:Nat)(h:i≠a.block):(w.freeze a n).heap[i]?=w.heap[i]?:=by
 unfold World.freeze;split
 ·rfl
 ·simp only[Array.getElem?_modify];rw[kA<|fun e=>h e.symm]
theorem Yy.freezeOwn{G:Gh}{w0 w:World}{st:St}(hR:Yy G w0 st w){k:Zt}{ver n g cap size:Nat}(hk:lk st.ow k=some (ver,n))(hω:G.ω k ver=some (g,cap,size))(m:Nat):Yy G w0 { st with ow:=del st.ow k } (w.drew.freeze ⟨g,0,none⟩ m):=by
 obtain⟨g1,m6,j0,e1,eS,cG⟩:=hR.ow k ver n hk;rw[hω]at e1;cases e1;have eD:w0.heap.size<=g:=by obtain⟨_,_,h,_⟩:=eS;exact h
 have hh :∀i,i≠g->(w.drew.freeze ⟨g,0,none⟩ m).heap[i]?=w.heap[i]?:=fun i hi=>Xod w.drew ⟨g,0,none⟩ m i hi
 have aT :∀k' v,lk (del st.ow k) k'=some v->k'≠k/\lk st.ow k'=some v:=by
  intro k' v h;rw[Tb]at h;split at h
  ·cases h
  ·rename_i hn;exact⟨hn,h⟩
 have aQ :∀k' v' n' g' c s,lk (del st.ow k) k'=some (v',n')->G.ω k' v'=some (g',c,s)->g'≠g:=by
  rintro k' v' n' g' c s h h2 rfl;obtain⟨hn,h⟩:=aT _ _ h;exact hn (hR.owinj k' k v' ver n' n _ _ _ _ _ h hk h2 hω)
 refine⟨hR.bel.trans<|Lib.below_freeze (Below.drew<|Below.refl _ w) (p:=⟨g,0,none⟩) eD m,?_,?_,hR.inj,?_,?_,hR.fresh,?_,?_,fun b l hb=>(hR.mp b l hb).keep fun o h hc=>hh b (fun e=>by obtain⟨_,_,_,h2,_⟩:=eS;rw[e,h2]at h;cases h;cases hc)⟩
 ·intro g' o v h;obtain⟨h1,h2⟩:=hR.ext g' o v h;exact⟨by rw[Xqc];exact h1,h2⟩
 ·intro k' v' cs g' h cC;obtain⟨us,e,a1,a2,a3,a4,a5⟩:=hR.bx k' v' cs g' h cC;exact⟨us,e,a1,by rw[hh g' (by rintro rfl;exact cG k' v' cs h cC)];exact a2,a3,a4,a5⟩
 ·intro k' v' n' h;obtain⟨hn,h0⟩:=aT _ _ h;obtain⟨g',c,s,b1,⟨cur,e,a1,a2,a3⟩,b3⟩:=hR.ow k' v' n' h0;exact⟨g',c,s,b1,⟨cur,e,a1,by rw[hh g'<|aQ _ _ _ _ _ _ h b1];exact a2,a3⟩,b3⟩
 ·intro k1 k2 v1 v2 n1 n2 g' c s c' s' h1 h2;exact hR.owinj k1 k2 v1 v2 n1 n2 g' c s c' s' (aT _ _ h1).2 (aT _ _ h2).2
 ·intro k' v' cs g' hb h cC;obtain⟨us,h1,h1n⟩:=hR.bxT k' v' cs g' hb h cC;exact⟨us,by rw[hh g' (by rintro rfl;exact cG k' v' cs h cC)];exact h1,h1n⟩
 ·intro k' v' n' hb h g' c s h2;obtain⟨us,h1⟩:=hR.owT k' v' n' hb (aT _ _ h).2 g' c s h2;exact⟨us,by rw[hh g'<|aQ _ _ _ _ _ _ h h2];exact h1⟩
theorem Yy.drewed{G:Gh}{w0 w:World}{st:St}(hR:Yy G w0 st w):Yy G w0 st w.drew:=
 ⟨hR.bel.trans<|Below.drew<|Below.refl _ w,hR.ext,hR.bx,hR.inj,hR.ow,hR.owinj,hR.fresh,hR.bxT,hR.owT,hR.mp⟩
def Pm(args:List AV)(st:St):Option (AV × St):=
 match args with
 |[.p k v 0]=>match lk st.bx k with
  |some (v',[_,.sl .full []])=>if v'=v/\Wo<=k.2 then some (.s [],st)else none
  |some (v',[_,.sl (.id k2 v2) rows])=>
   match Mv rows,lk st.ow k2 with
   |some l,some (v3,n)=>if v'=v/\Wo<=k.2/\v3=v2/\n=rows.length/\0<n/\Wo<=k2.2/\n<=Qt then some (.s l,{ st with ow:=del st.ow k2 })else none
   |_,_=>none
  |_=>none
 |_=>none
theorem Xp4{P:Program}{ρ:Ren}{fm:FM}(L:Lays.n169 P ρ)(X:Builder.Extra P ρ)(hb:ρ.t 72=Gj fm)(he:ρ.t 5=Mx fm)(hc :∀args w,(callFunc (ρ.f 169) args).run P w=.ok (.enter (ρ.f 169) args) w){args:List AV}{st aA:St}{r:AV}(h:Pm args st=some (r,aA))
  {G:Gh}{w0 w:World}{Yv:List Value}{d:Nat}(aJ:G.fm=fm) (hR:Yy G w0 st w) (hV:Rs G args Yv):Nd P (ρ.f 169) Yv.toArray w fun v w'=>∃G',R G' r v/\Ka G G' w0 st aA w' d:=by
 subst aJ;unfold Pm at h;split at h
 case h_2=>cases h
 rename_i k v;split at h
 case h_3=>cases h
 ·rename_i v' c0 bN;split at h
  case isFalse=>cases h
  rename_i aN;obtain⟨rfl,bO⟩:=aN;cases h
  match Yv,hV.1 with
  |[p],_=>
   obtain⟨g,rfl,hρ⟩:=(hV.2 0 _ p rfl rfl).p_inv;obtain⟨us,e,eD,aF,hr,h1,bG⟩:=hR.bx k v' _ g bN hρ;obtain⟨cF,h3,gA⟩:=hR.bxT k v' _ g bO bN hρ;rw[aF]at h3;injection h3 with h3;injection h3 with h4 h3;subst h3;subst h4
   match us,hr.1 with
   |[u0,u1],_=>
    have e1:u1=.slice none 0 0:=by simpa using gA rfl
    subst e1;have aO:=Xqa L X (b:=g) (p:=u0) (w:=w) (by rw[hb];exact aF);refine .inl ⟨hc _ _,aO.mono fun e w' ⟨h5,h6⟩=>?_⟩;subst h5;subst h6;exact⟨G,.fz _ _<|.s [],⟨.refl G,hR.drewed,kU _,fun _ _ _=>⟨rfl,rfl⟩,fun _ _ _ _ _ _ h=>h,fun _ _ _ h=>.inl h⟩⟩
 rename_i v' c0 k2 v2 rows bN;split at h
 case h_2=>cases h
 rename_i l v3 n hl rj;split at h
 case isFalse=>cases h
 rename_i aN;obtain⟨rfl,bO,rfl,rfl,aI,nn,CL⟩:=aN;cases h
 match Yv,hV.1 with
 |[p],_=>
  obtain⟨g,rfl,hρ⟩:=(hV.2 0 _ p rfl rfl).p_inv;obtain⟨us,e,eD,aF,hr,h1,bG⟩:=hR.bx k v' _ g bN hρ;obtain⟨cF,h3,_⟩:=hR.bxT k v' _ g bO bN hρ;rw[aF]at h3;injection h3 with h3;injection h3 with _ h3;subst h3
  match us,hr.1 with
  |[u0,u1],_=>
   obtain⟨A,cap,rfl,hF,hO⟩:=(hr.2 1 _ u1 rfl rfl).sl_inv;obtain⟨g2,size,hω,rfl,aE⟩:=hO;have aZ:=B_ hl;subst aZ;have rk:l≠[]:=by rintro rfl;simp at aI
   obtain⟨g3,aAi,T3,e1,⟨cur,e2,aAj,gI,iG,j4,aM,_⟩,_⟩:=hR.ow k2 v3 _ rj;rw[hω]at e1;cases e1;obtain⟨j3,h4⟩:=hR.owT k2 v3 _ nn rj g2 cap size hω;rw[gI]at h4;injection h4 with h4;injection h4 with _ h4;subst h4
   have bV :∀j x,l[j]?=some x->w.cell? ⟨g2,j,none⟩=some (.int .u8 x.toNat):=by
    intro j x hx
    cases hF with
    |sl _ A cap bJ g' off us hA bA hsz' hH hFz=>
    have lH:=hA (by simpa using rk);injection lH with lH;injection lH with e3 e4;subst e3;subst e4
    have bF:bJ=1:=by
     cases l with
     |nil=>exact absurd rfl rk
     |cons c l=>rw[<- hsz' 0 (Yx c) rfl];rfl
    subst bF;have j6:(l.map Yx)[j]?=some (Yx x):=by simp only[jY,hx,kK]
    have q1:=hH j (Yx x) 0 _ j6 rfl;have q2:=hFz j (Yx x) 0 _ j6 rfl;have q3:=(hR.ext _ _ _ q1).1;generalize us j 0=v0 at q2 q3;cases q2;simpa using q3
   have bF:size=1:=by
    cases l with
    |nil=>exact absurd rfl rk
    |cons c l=>rw[<- (aE 0 (Yx c) rfl).1];rfl
   subst bF;simp only[jK,Qt]at j4 aI aF rj CL⊢;have aO:=Xgs L X (b:=g) (g:=g2) (cap:=cap) (p:=u0) (cur:=cur) (l:=l) (w:=w) (by rw[hb];exact aF) (by rw[he];exact gI) rk (by omega) (by omega) ?_ bV
   ·refine .inl ⟨hc _ _,aO.mono fun e w' ⟨h5,h6⟩=>?_⟩;subst h5;subst h6;exact⟨G,.fz _ _<|.s _,⟨.refl G,hR.freezeOwn rj hω _,kU _,fun _ _ _=>⟨rfl,rfl⟩,fun _ _ _ _ _ _ h=>h,fun _ _ _ h=>.inl h⟩⟩
   ·omega
end Go.AM

namespace Go.AM
open Go
def Sz(B:BC):Prop:=∀(d:Nat) (bx:Wn) (ow:Wl) (k:Zt) (v:Nat),k.1<d->B bx ow k v->B (bx.filter fun x=>x.1.1<d) ow k v
theorem Ie{bx:Wn}{d:Nat}{k:Zt}(hk:k.1<d):lk (bx.filter fun x=>x.1.1<d) k=lk bx k:=by have:=UH bx (fun k=>decide<|k.1<d) k;rw[this,kC<|by simpa using hk]
theorem Bx.out{cs:List AV}:Sz (Bx cs):=fun d bx ow k v hk h=>by
 show lk _ k=_;rw[Ie hk];exact h
theorem Bl.out{b:BS}:Sz (Bl b):=fun d bx ow k v hk ⟨c0,o,h1,h2⟩=>⟨c0,o,by rw[Ie hk];exact h1,h2⟩
theorem Xc.of{PG:Zb}{f:Nat}{F:AF}{B B':BC}{args:List AV}{RR:AV->Prop}(hf:PG.fn f=some F)(hn:Nat.ble (args.length+1) F.nt=true)(ho:Sz B')
  (h :∀(d:Nat) (st:St) (k:Zt) (v:Nat),k.1<d->B st.bx st.ow k v->W PG d F.body (Wg<|.p k v 0::args) st fun e U aA=>(e=.normal\/e=.ret)/\∃r,Xj U aA F.res=some r/\RR r/\B' aA.bx aA.ow k v/\Fr d k st.bx st.ow aA.bx aA.ow):Xc PG f B args RR B':=by
 intro d st k v hk hB
 obtain ⟨r,aA,h1,h2⟩:=Fn.of' (PG:=PG) (K:=fun r aA=>RR r/\B' aA.bx aA.ow k v/\Fr d k st.bx st.ow aA.bx aA.ow) hf (by simpa using jE hn) ((h d st k v hk hB).mono fun e U aA hq=>by
  obtain⟨he,r,h1,h2,h3,h4⟩:=hq;rcases he with rfl|rfl
  ·exact⟨r,h1,h2,ho d _ _ k v hk h3,h4.out⟩
  ·exact ⟨r,h1,h2,ho d _ _ k v hk h3,h4.out⟩)
 exact⟨r,aA,h1,h2⟩
theorem Us.of{Y:Type}{PG:Zb}{f:Nat}{F:AF}{B:BC}{B':Y->BC}{args:List AV}{KK:AV->Y->Prop}(hf:PG.fn f=some F)(hn:Nat.ble (args.length+1) F.nt=true)(ho :∀b,Sz<|B' b)
  (h :∀(d:Nat) (st:St) (k:Zt) (v:Nat),k.1<d->B st.bx st.ow k v->W PG d F.body (Wg<|.p k v 0::args) st fun e U aA=>(e=.normal\/e=.ret)/\∃r b,Xj U aA F.res=some r/\KK r b/\B' b aA.bx aA.ow k v/\Fr d k st.bx st.ow aA.bx aA.ow):Us PG f B args KK B':=by
 intro d st k v hk hB
 obtain ⟨r,aA,h1,b,h2,h3,h4⟩:=Fn.of' (PG:=PG) (K:=fun r aA=>∃b,KK r b/\B' b aA.bx aA.ow k v/\Fr d k st.bx st.ow aA.bx aA.ow) hf (by simpa using jE hn) ((h d st k v hk hB).mono fun e U aA hq=>by
  obtain⟨he,r,b,h1,h2,h3,h4⟩:=hq;rcases he with rfl|rfl
  ·exact⟨r,h1,b,h2,ho b d _ _ k v hk h3,h4.out⟩
  ·exact ⟨r,h1,b,h2,ho b d _ _ k v hk h3,h4.out⟩)
 exact⟨r,aA,b,h1,h2,h3,h4⟩
section
variable{PG:Zb}{d id base i:Nat}{U:Sl}{st:St}{K:Sl->St->Prop}{r:List AI}{t:Option Nat}{x y:Zw}
theorem CV{neg:Bool}{a b v:AV}(hx:x.ev U=a)(hy:y.ev U=b)(hv:mu neg a b=some v)(h:WO PG d id base (i+1) r (Yb U t v) st K):WO PG d id base i (⟨t,.peq neg x y,none⟩::r) U st K:=
 Je (fun K=>by simp only[Xo,Yd,Yp,hx,hy,hv,kK,Vi]) h
theorem UI{n v:Nat}{k:Zt}{cs:List AV}(hx:x.ev U=.p k v 0)(hb:lk st.bx k=some (v,cs))(hk:Wo<=k.2)(hn:cs.length=n)(h:WO PG d id base (i+1) r (Yb U t<|.p k v 0) st K):WO PG d id base i (⟨t,.cvp n x,none⟩::r) U st K:=
 Je (fun K=>by
  simp only[Xo,Yd,qG,hx,hb];rw[kC ⟨trivial,hk,hn⟩];simp only [kK,Vi]) h
theorem Xjs{f:Nat}{args:List Zw}{vs:List AV}{v:AV}(hf:PG.fn f=none)(hs:Vy U args=vs)(ho:PG.orac f vs=some v)(h:WO PG d id base (i+1) r (Yb U t v) st K):WO PG d id base i (⟨t,.call true f args,none⟩::r) U st K:=by refine Gi ?_;rw[Lw,hs];exact⟨_,_,⟨1,by simp only[Qo,hf,ho]⟩,h⟩
end
theorem W.regB{PG:Zb}{d id t:Nat}{U:Sl}{st:St}{Q:Q0}(hid:Nat.ble 1000000 id=true)
  (h :∀(nx v:Nat) (bx':Wn),Bl [] bx' st.ow (d,id*4096+0) v->(∀k':Zt,(d,id*4096+0)≠k'->lk bx' k'=lk st.bx k')->Q .normal (Yb U (some t)<|.p (d,id*4096+0) v 0) ⟨nx,bx',st.ow⟩):W PG d (.reg id [⟨some t,.alloc [.np,.sl .full []],none⟩]) U st Q:=by
 refine W.reg (Xl<|Hs<|h _ _ _ ?_ ?_)
 ·refine⟨.np,.full,Zj,.inl rfl,rfl,?_⟩;have:=jE hid;show 4096000000<=id*4096+0;omega
 ·intro k' hk;exact Dm hk
def CW:AF:={ nt:=20,res:=[],body:=
 (.seq (.reg 1000000 [⟨(some 2),.mv (.t 0),none⟩,
  ⟨(some 3),.nilc<|.t 2,none⟩,
  ⟨(some 4),.fad 0<|.t 3,none⟩,
  ⟨(some 5),.load 1 false<|.t 4,none⟩,
  ⟨(some 6),.peq false (.t 5)<|.c<|.np,none⟩])
 (.cond (.t 6)
  (.reg 1000001 [⟨(some 7),.mv (.t 0),none⟩,
   ⟨(some 8),.mv<|.t 0,none⟩,
   ⟨(some 9),.cvp 2<|.t 8,none⟩,
   ⟨(some 10),.call true 146 [(.t 9)],none⟩,
   ⟨(some 11),.cvp 2<|.t 10,none⟩,
   ⟨(some 12),.nilc<|.t 7,none⟩,
   ⟨(some 13),.fad 0<|.t 12,none⟩,
   ⟨none,.store 1 (.t 13)<|.t 11,none⟩])
  (.seq (.reg 1000002 [⟨(some 14),.mv (.t 0),none⟩,
   ⟨(some 15),.nilc<|.t 14,none⟩,
   ⟨(some 16),.fad 0<|.t 15,none⟩,
   ⟨(some 17),.load 1 false<|.t 16,none⟩,
   ⟨(some 18),.mv<|.t 0,none⟩,
   ⟨(some 19),.peq true (.t 17)<|.t 18,none⟩])
  (.cond (.t 19)
   (.cond (.c .u) .skip .skip)
   .skip)))) }
def CX:AF:={ nt:=19,res:=[.tmp 4,.tmp 5],body:=
 (.seq (.reg 0 [⟨(some 4),.mv (.c (.i .i64 0)),none⟩,
  ⟨(some 5),.mv<|.c<|.ni,none⟩])
 (.seq (.reg 1 [⟨(some 6),.mv (.t 0),none⟩,
  ⟨(some 7),.call true 145 [(.t 6)],none⟩])
 (.seq (.reg 1000002 [⟨(some 8),.mv (.t 0),none⟩,
  ⟨(some 9),.mv<|.t 0,none⟩,
  ⟨(some 10),.nilc<|.t 9,none⟩,
  ⟨(some 11),.fad 1<|.t 10,none⟩,
  ⟨(some 12),.load 1 false<|.t 11,none⟩,
  ⟨(some 13),.mv<|.t 1,none⟩,
  ⟨(some 14),.appS (.t 12)<|.t 13,none⟩,
  ⟨(some 15),.nilc<|.t 8,none⟩,
  ⟨(some 16),.fad 1<|.t 15,none⟩,
  ⟨none,.store 1 (.t 16)<|.t 14,none⟩])
 (.seq (.reg 3 [⟨(some 17),.mv (.t 1),none⟩,
  ⟨(some 18),.len true<|.t 17,none⟩,
  ⟨(some 4),.mv<|.t 18,none⟩,
  ⟨(some 5),.mv<|.c<|.ni,none⟩])
 .ret)))) }
theorem Yvj{key:Zt}{ver:Nat}{o:Zr}{l m:BS}{st:St}(ha:Ee st.ow o l.length)(hk:Wo<=key.2)(hs:l.length+m.length<=Qt)
  {K:AV->St->Prop}(hK :∀o' ow',Ee ow' o' (l++m).length->(∀k':Zt,k'.2<Wo->lk ow' k'=lk st.ow k')->K (.sl o'<|(l++m).map Yx) ⟨st.nx,st.bx,ow'⟩):Qc (Gv key ver 1 1 (.sl o<|l.map Yx) (m.map Yx) st) fun r=>K r.1 r.2:=by
 simp only[Gv];rw[kC ⟨by simpa using hs,by simpa using hs,Nat.one_pos,by simp[Yx],by simp[Yx]⟩]
 cases m with
 |nil=>
  rw[kC<|show(List.map Yx []).isEmpty=true from rfl,Vi];have:=hK o st.ow (by rw[zA];exact ha) (fun _ _=>rfl)
  rwa [zA]at this
 |cons c m=>
  rw[kA<|by simp];have aI:0<(l++c::m).length:=by simp;omega
  cases o with
  |ext=>exact ha.elim
  |full=>
   simp only[Vi];rw[<- yA];refine hK (.id key ver) _ ⟨by rw[Mt,kC rfl];simp,aI,hk⟩ (fun k' h=>?_);rw[Mt,kA (by rintro rfl;exact absurd h<|Nat.not_lt.2 hk)]
  |id k v=>
   obtain⟨gY,iI,UJ⟩:=ha;simp only[gY];rw[kC ⟨trivial,by simp,by simpa using iI,.inr UJ⟩];simp only[Vi];rw[<- yA];refine hK (.id key ver) _ ⟨by rw[Mt,kC rfl];simp,aI,hk⟩ (fun k' h=>?_);rw[Mt,kA (by rintro rfl;exact absurd h<|Nat.not_lt.2 hk),nw,kA (by rintro rfl;exact absurd h<|Nat.not_lt.2 UJ)]
theorem Yyr{PG:Zb}{d site ver:Nat}{U:Sl}{st:St}{s x:Zw}{o:Zr}{l m:BS}(hs:s.ev U=.sl o (l.map Yx))(hx:x.ev U=.s m)(ha:Ee st.ow o l.length)(hb:Wo<=site)(h2:l.length+m.length<=Qt)
  {K:AV->St->Prop}(hK :∀o' ow',Ee ow' o' (l++m).length->(∀k':Zt,k'.2<Wo->lk ow' k'=lk st.ow k')->K (.sl o'<|(l++m).map Yx) ⟨st.nx,st.bx,ow'⟩):Xo PG d site ver U st K (.appS s x):=by rw[Xvl,hx,Tf,hs];exact Yvj ha hb h2 hK
theorem Xvk{o:Zr}{l:BS}(h:l≠[]):(AV.sl o<|l.map Yx).isF0=false:=by
 cases l with
 |nil=>exact absurd rfl h
 |cons c l=>cases o<;>rfl
structure HasB(PG:Zb):Prop where
 f145:PG.fn 145=some CW
 f126:PG.fn 126=some CX
 f146:PG.fn 146=none
 f105:PG.fn 105=none
 o146 :∀k v,PG.orac 146 [.p k v 0]=some (.p k v 0)
 o105 :∀args,PG.orac 105 args=none
 s105 :∀args st,PG.oracS 105 args st=Pm args st
def rq(b:BS):BC:=fun bx ow k v=>∃o,lk bx k=some (v,[.p k v 0,.sl o<|b.map Yx])/\Ee ow o b.length/\Wo<=k.2
theorem rq.out{b:BS}:Sz (rq b):=fun d bx ow k v hk ⟨o,h1,h2⟩=>⟨o,by rw[Ie hk];exact h1,h2⟩
section
variable{PG:Zb}(H:HasB PG)
include H
theorem Xxc(b:BS):Xc PG 145 (Bl b) [] (fun r=>r=.tup []) (rq b):=by
 refine Xc.of H.f145 rfl rq.out fun d st k v hk hB=>?_
 obtain⟨c0,o,hb,nk,ml,bO⟩:=hB;refine W.seq (W.reg0 rfl fun nx _=>?_);rcases nk with rfl|rfl
 ·refine Jb (v:=.p k v 0) rfl (Vc rfl<|Rg rfl<|Pw (w:=.np) rfl hb rfl rfl<|CV (v:=.b true) rfl rfl rfl<|Hs<|W.tt rfl<|W.reg0 rfl fun iJ _=>?_);refine Jb (v:=.p k v 0) rfl (Jb (v:=.p k v 0) rfl<|UI rfl hb bO rfl<|Xjs H.f146 rfl (H.o146 k v)<|UI rfl hb bO rfl<|Vc rfl<|Rg rfl<|ny rfl hb (w:=.p k v 0) rfl rfl rfl<|Hs ?_);exact⟨.inl rfl,_,rfl,rfl,⟨o,Zj,ml,bO⟩,Fr.refl.own⟩
 ·refine Jb (v:=.p k v 0) rfl (Vc rfl<|Rg rfl<|Pw (w:=.p k v 0) rfl hb rfl rfl<|CV (v:=.b false) rfl rfl rfl<|Hs<|W.ff rfl<|W.seq<|W.reg0 rfl fun iJ _=>?_);refine Jb (v:=.p k v 0) rfl (Vc rfl<|Rg rfl<|Pw (w:=.p k v 0) rfl hb rfl rfl<|Jb (v:=.p k v 0) rfl<|CV (a:=.p k v 0) (b:=.p k v 0) (v:=.b false) rfl rfl (by simp[mu])<|Hs<|W.ff rfl<|W.skip ?_);exact⟨.inl rfl,_,rfl,rfl,⟨o,hb,ml,bO⟩,Fr.refl⟩
theorem Rc{b s:BS}(hs:b.length+s.length<=Qt)(aQ:s≠[]:=by first|exact List.cons_ne_nil _ _|simp):Xc PG 126 (Bl b) [.s s] (fun r=>r=.tup [.i .i64 (s.length:Int),.ni]) (Bl<|b++s):=by
 refine Xc.of H.f126 rfl Bl.out fun d st k v hk hB=>?_
 refine W.seq (W.reg0 rfl fun nx _=>Jb rfl<|Jb rfl<|Hs<|W.seq<|W.reg0 rfl fun iJ _=>?_);refine Jb (v:=.p k v 0) rfl (UK (F:=.tup []) (Ye rfl Yw) (Xxc H b) (kV hk) hB fun aP hB1 UL=>Hs<|W.seq<|W.reg0 rfl fun UM _=>?_);obtain⟨o,hb,ml,bO⟩:=hB1;refine Jb (v:=.p k v 0) rfl (Jb (v:=.p k v 0) rfl<|Vc rfl<|Rg rfl<|Pw (w:=.sl o (b.map Yx)) rfl hb rfl rfl<|Jb (v:=.s s) rfl<|Gi ?_);refine Yyr (st:=⟨UM,aP.bx,aP.ow⟩) (o:=o) (l:=b) (m:=s) ?_ ?_ ml ?_ hs fun o' ow' h1 h2=>?_
 ·rfl
 ·rfl
 ·exact jE rfl
 refine Vc rfl (Rg rfl<|ny rfl hb (w:=.sl o' ((b++s).map Yx)) rfl rfl rfl (Hs<|W.seq<|W.reg0 rfl fun nx4 _=>?_)<|mw (by rw[show(AV.sl o'<|(b++s).map Yx).cells=[AV.sl o'<|(b++s).map Yx]from rfl,List.any_cons,Xvk<|by simp[aQ]];rfl));refine Jb (v:=.s s) rfl (CY rfl<|Jb rfl<|Jb rfl<|Hs<|W.ret ?_);refine⟨.inr rfl,_,rfl,rfl,⟨_,o',Zj,.inr rfl,h1,bO⟩,?_⟩;refine(Fr.own ⟨fun k' q1 q2=>?_,fun k' q1 q2=>?_⟩)
 ·exact UL.1 k' (kV q1) q2
 ·exact(h2 k'<|Nat.lt_trans q2<|by decide).trans (UL.2 k' (kV q1) q2)
theorem UN{b:BS}(hs:b.length<=Qt):Xc PG 105 (Bl b) [] (fun r=>r=.s b) fun _ _ _ _=>True:=by
 intro d st k v hk ⟨c0,o,h1,h2,h3,h4⟩
 cases o with
 |ext=>exact h3.elim
 |full=>
  have hb:b=[]:=yM.1 h3;subst hb;refine⟨.s [],st,⟨1,?_⟩,rfl,trivial,fun _ _ _=>rfl,fun k' _ h8=>rfl⟩;simp only[Qo,H.f105,H.o105,H.s105,Pm,h1];exact kC ⟨rfl,h4⟩
 |id q w=>
  obtain⟨h5,h6,h7⟩:=h3;refine⟨.s b,{ st with ow:=del st.ow q },⟨1,?_⟩,rfl,trivial,fun _ _ _=>rfl,fun k' _ h8=>?_⟩
  ·simp only[Qo,H.f105,H.o105,H.s105,Pm,h1,Xdx,h5];rw[kC ⟨trivial,h4,trivial,by simp,h6,h7,hs⟩]
  ·show lk (del st.ow q) k'=_;rw[nw,kA (by rintro rfl;exact absurd h8<|Nat.not_lt.2<|kX (by decide) h7)]
end
end Go.AM

namespace Go.AM
open Go
inductive Za where
 |mk (kind int:Int) (text:BS) (list:List Za) (cut:Bool)
def Za.kind:Za->Int|.mk k _ _ _ _=>k
def Za.int:Za->Int|.mk _ n _ _ _=>n
def Za.text:Za->BS|.mk _ _ s _ _=>s
def Za.list:Za->List Za|.mk _ _ _ l _=>l
def Za.cut:Za->Bool|.mk _ _ _ _ c=>c
def Za.zero:Za:=.mk 0 0 [] [] false
mutual
def Za.row:Za->List AV
 |.mk k n s l c=>[.i .u8 k,.i .i64 n,.s s,.sl .ext<|Za.rows l,.b c]
def Za.rows:List Za->List (List AV)
 |[]=>[]
 |v::l=>Za.row v::Za.rows l
end
theorem Za.rows_eq:∀l:List Za,Za.rows l=l.map Za.row
 |[]=>rfl
 |v::l=>by rw[Za.rows,Za.rows_eq l];rfl
theorem Za.row_eq(v:Za):v.row=[.i .u8 v.kind,.i .i64 v.int,.s v.text,.sl .ext<|v.list.map Za.row,.b v.cut]:=by
 cases v with
 |mk k n s l c=>rw[Za.row,Za.rows_eq];rfl
theorem Za.row_len(v:Za):v.row.length=5:=by rw[Za.row_eq];rfl
abbrev Za.av(v:Za):AV:=.ag [.i .u8 v.kind,.i .i64 v.int,.s v.text,.sl .ext<|List.map Za.row v.list,.b v.cut]
abbrev Za.avo(v:Za)(o:Zr):AV:=.ag [.i .u8 v.kind,.i .i64 v.int,.s v.text,.sl o<|List.map Za.row v.list,.b v.cut]
structure Sc where
 left:BS
def Sc.row(x:Sc):List AV:=[.s x.left]
theorem Sc.row_eq(x:Sc):x.row=[.s x.left]:=rfl
def Sc.zero:Sc:=⟨[]⟩
abbrev Za.co(o1:Zr)(v:Za):List AV:=[.i .u8 v.kind,.i .i64 v.int,.s v.text,.sl o1<|List.map Za.row v.list,.b v.cut]
abbrev cS:List AV:=[.i .u8 0,.i .i64 0,.s [],.sl .full<|List.map Za.row ([]:List Za),.b false]
abbrev iN:List AV:=[.i .i64 0,.i .u8 0,.i .i64 0,.s [],.sl .full<|List.map Za.row ([]:List Za),.b false]
abbrev lV:List AV:=[.i .i64 0,.i .i64 0,.b false,.i .u8 0,.i .i64 0,.s [],.sl .full<|List.map Za.row ([]:List Za),.b false]
abbrev Y0:List AV:=[.i .u64 0,.i .u8 0,.i .i64 0,.s [],.sl .full<|List.map Za.row ([]:List Za),.b false,.i .u64 0]
end Go.AM

namespace Go.AM
open Go
structure Xt where
 name:BS
 type:Int
def Xt.row(x:Xt):List AV:=[.s x.name,.i .i64 x.type]
theorem Xt.row_eq(x:Xt):x.row=[.s x.name,.i .i64 x.type]:=rfl
def Xt.zero:Xt:=⟨[],0⟩
abbrev Xt.av(x:Xt):AV:=.ag [.s x.name,.i .i64 x.type]
structure Uf where
 op:Int
 a:Int
 b:Int
 c:Int
def Uf.row(x:Uf):List AV:=[.i .u8 x.op,.i .i64 x.a,.i .i64 x.b,.i .i64 x.c]
theorem Uf.row_eq(x:Uf):x.row=[.i .u8 x.op,.i .i64 x.a,.i .i64 x.b,.i .i64 x.c]:=rfl
def Uf.zero:Uf:=⟨0,0,0,0⟩
abbrev Uf.av(x:Uf):AV:=.ag [.i .u8 x.op,.i .i64 x.a,.i .i64 x.b,.i .i64 x.c]
structure Jz where
 start:Int
 value:Int
def Jz.row(x:Jz):List AV:=[.i .i64 x.start,.i .u64 x.value]
theorem Jz.row_eq(x:Jz):x.row=[.i .i64 x.start,.i .u64 x.value]:=rfl
def Jz.zero:Jz:=⟨0,0⟩
abbrev Jz.av(x:Jz):AV:=.ag [.i .i64 x.start,.i .u64 x.value]
structure Vv where
 kind:Int
 elem:Int
 len:Int
 fields:List Xt
def Vv.row(x:Vv):List AV:=[.i .u8 x.kind,.i .i64 x.elem,.i .i64 x.len,.sl .ext<|List.map Xt.row x.fields]
theorem Vv.row_eq(x:Vv):x.row=[.i .u8 x.kind,.i .i64 x.elem,.i .i64 x.len,.sl .ext<|List.map Xt.row x.fields]:=rfl
def Vv.zero:Vv:=⟨0,0,0,[]⟩
abbrev Vv.av(x:Vv):AV:=.ag [.i .u8 x.kind,.i .i64 x.elem,.i .i64 x.len,.sl .ext<|List.map Xt.row x.fields]
abbrev Vv.avo(x:Vv)(o:Zr):AV:=.ag [.i .u8 x.kind,.i .i64 x.elem,.i .i64 x.len,.sl o<|List.map Xt.row x.fields]
structure Zz where
 name:BS
 params:Int
 result:Int
 slots:List Xt
 code:List Uf
 sizes:List Jz
 lives:List Jz
def Zz.row(x:Zz):List AV:=[.s x.name,.i .i64 x.params,.i .i64 x.result,.sl .ext<|List.map Xt.row x.slots,.sl .ext<|List.map Uf.row x.code,.sl .ext<|List.map Jz.row x.sizes,.sl .ext<|List.map Jz.row x.lives]
theorem Zz.row_eq(x:Zz):x.row=[.s x.name,.i .i64 x.params,.i .i64 x.result,.sl .ext<|List.map Xt.row x.slots,.sl .ext<|List.map Uf.row x.code,.sl .ext<|List.map Jz.row x.sizes,.sl .ext<|List.map Jz.row x.lives]:=rfl
def Zz.zero:Zz:=⟨[],0,0,[],[],[],[]⟩
abbrev Zz.av(x:Zz):AV:=.ag [.s x.name,.i .i64 x.params,.i .i64 x.result,.sl .ext<|List.map Xt.row x.slots,.sl .ext<|List.map Uf.row x.code,.sl .ext<|List.map Jz.row x.sizes,.sl .ext<|List.map Jz.row x.lives]
structure Zd where
 types:List Vv
 texts:List (BS)
 funcs:List Zz
def Zd.row(x:Zd):List AV:=[.sl .ext<|List.map Vv.row x.types,.sl .ext<|List.map Zv x.texts,.sl .ext<|List.map Zz.row x.funcs]
theorem Zd.row_eq(x:Zd):x.row=[.sl .ext<|List.map Vv.row x.types,.sl .ext<|List.map Zv x.texts,.sl .ext<|List.map Zz.row x.funcs]:=rfl
def Zd.zero:Zd:=⟨[],[],[]⟩
abbrev Zd.av(x:Zd):AV:=.ag [.sl .ext<|List.map Vv.row x.types,.sl .ext<|List.map Zv x.texts,.sl .ext<|List.map Zz.row x.funcs]
structure Zx where
 slot:Int
 value:Za
def Zx.row(x:Zx):List AV:=[.i .i64 x.slot,.i .u8 x.value.kind,.i .i64 x.value.int,.s x.value.text,.sl .ext<|List.map Za.row x.value.list,.b x.value.cut]
theorem Zx.row_eq(x:Zx):x.row=[.i .i64 x.slot,.i .u8 x.value.kind,.i .i64 x.value.int,.s x.value.text,.sl .ext<|List.map Za.row x.value.list,.b x.value.cut]:=rfl
theorem Zx.row_len(x:Zx):x.row.length=6:=rfl
def Zx.zero:Zx:=⟨0,Za.zero⟩
abbrev Zx.av(x:Zx):AV:=.ag [.i .i64 x.slot,.i .u8 x.value.kind,.i .i64 x.value.int,.s x.value.text,.sl .ext<|List.map Za.row x.value.list,.b x.value.cut]
abbrev Zx.avo(x:Zx)(o:Zr):AV:=.ag [.i .i64 x.slot,.i .u8 x.value.kind,.i .i64 x.value.int,.s x.value.text,.sl o<|List.map Za.row x.value.list,.b x.value.cut]
structure Zf where
 func:Int
 pos:Int
 mode:Int
 locals:List Zx
def Zf.row(x:Zf):List AV:=[.i .i64 x.func,.i .i64 x.pos,.i .u64 x.mode,.sl .ext<|List.map Zx.row x.locals]
theorem Zf.row_eq(x:Zf):x.row=[.i .i64 x.func,.i .i64 x.pos,.i .u64 x.mode,.sl .ext<|List.map Zx.row x.locals]:=rfl
theorem Zf.row_len(x:Zf):x.row.length=4:=rfl
def Zf.zero:Zf:=⟨0,0,0,[]⟩
abbrev Zf.av(x:Zf):AV:=.ag [.i .i64 x.func,.i .i64 x.pos,.i .u64 x.mode,.sl .ext<|List.map Zx.row x.locals]
abbrev Zf.avo(x:Zf)(o:Zr):AV:=.ag [.i .i64 x.func,.i .i64 x.pos,.i .u64 x.mode,.sl o<|List.map Zx.row x.locals]
structure Zh where
 tag:Int
 value:Za
 flags:Int
def Zh.row(x:Zh):List AV:=[.i .u64 x.tag,.i .u8 x.value.kind,.i .i64 x.value.int,.s x.value.text,.sl .ext<|List.map Za.row x.value.list,.b x.value.cut,.i .u64 x.flags]
theorem Zh.row_eq(x:Zh):x.row=[.i .u64 x.tag,.i .u8 x.value.kind,.i .i64 x.value.int,.s x.value.text,.sl .ext<|List.map Za.row x.value.list,.b x.value.cut,.i .u64 x.flags]:=rfl
theorem Zh.row_len(x:Zh):x.row.length=7:=rfl
def Zh.zero:Zh:=⟨0,Za.zero,0⟩
abbrev Zh.av(x:Zh):AV:=.ag [.i .u64 x.tag,.i .u8 x.value.kind,.i .i64 x.value.int,.s x.value.text,.sl .ext<|List.map Za.row x.value.list,.b x.value.cut,.i .u64 x.flags]
abbrev Zh.avo(x:Zh)(o:Zr):AV:=.ag [.i .u64 x.tag,.i .u8 x.value.kind,.i .i64 x.value.int,.s x.value.text,.sl o<|List.map Za.row x.value.list,.b x.value.cut,.i .u64 x.flags]
structure Zq where
 frame:Int
 func:Int
 hasArg:Bool
 arg:Za
def Zq.row(x:Zq):List AV:=[.i .i64 x.frame,.i .i64 x.func,.b x.hasArg,.i .u8 x.arg.kind,.i .i64 x.arg.int,.s x.arg.text,.sl .ext<|List.map Za.row x.arg.list,.b x.arg.cut]
theorem Zq.row_eq(x:Zq):x.row=[.i .i64 x.frame,.i .i64 x.func,.b x.hasArg,.i .u8 x.arg.kind,.i .i64 x.arg.int,.s x.arg.text,.sl .ext<|List.map Za.row x.arg.list,.b x.arg.cut]:=rfl
theorem Zq.row_len(x:Zq):x.row.length=8:=rfl
def Zq.zero:Zq:=⟨0,0,false,Za.zero⟩
abbrev Zq.av(x:Zq):AV:=.ag [.i .i64 x.frame,.i .i64 x.func,.b x.hasArg,.i .u8 x.arg.kind,.i .i64 x.arg.int,.s x.arg.text,.sl .ext<|List.map Za.row x.arg.list,.b x.arg.cut]
abbrev Zq.avo(x:Zq)(o:Zr):AV:=.ag [.i .i64 x.frame,.i .i64 x.func,.b x.hasArg,.i .u8 x.arg.kind,.i .i64 x.arg.int,.s x.arg.text,.sl o<|List.map Za.row x.arg.list,.b x.arg.cut]
structure Zi where
 status:Int
 key:Int
 frames:List Zf
 defers:List Zq
 panics:List Zh
def Zi.row(x:Zi):List AV:=[.i .u8 x.status,.i .i64 x.key,.sl .ext<|List.map Zf.row x.frames,.sl .ext<|List.map Zq.row x.defers,.sl .ext<|List.map Zh.row x.panics]
theorem Zi.row_eq(x:Zi):x.row=[.i .u8 x.status,.i .i64 x.key,.sl .ext<|List.map Zf.row x.frames,.sl .ext<|List.map Zq.row x.defers,.sl .ext<|List.map Zh.row x.panics]:=rfl
theorem Zi.row_len(x:Zi):x.row.length=5:=rfl
def Zi.zero:Zi:=⟨0,0,[],[],[]⟩
abbrev Zi.av(x:Zi):AV:=.ag [.i .u8 x.status,.i .i64 x.key,.sl .ext<|List.map Zf.row x.frames,.sl .ext<|List.map Zq.row x.defers,.sl .ext<|List.map Zh.row x.panics]
structure Zo where
 outcome:Int
 failing:Int
 steps:Int
 routines:List Zi
def Zo.row(x:Zo):List AV:=[.i .u8 x.outcome,.i .i64 x.failing,.i .i64 x.steps,.sl .ext<|List.map Zi.row x.routines]
theorem Zo.row_eq(x:Zo):x.row=[.i .u8 x.outcome,.i .i64 x.failing,.i .i64 x.steps,.sl .ext<|List.map Zi.row x.routines]:=rfl
def Zo.zero:Zo:=⟨0,0,0,[]⟩
abbrev Zo.av(x:Zo):AV:=.ag [.i .u8 x.outcome,.i .i64 x.failing,.i .i64 x.steps,.sl .ext<|List.map Zi.row x.routines]
abbrev Zo.avo(x:Zo)(o:Zr):AV:=.ag [.i .u8 x.outcome,.i .i64 x.failing,.i .i64 x.steps,.sl o<|List.map Zi.row x.routines]
structure My where
 kind:Int
 g:Int
 k:Int
 key:Int
 name:BS
def My.row(x:My):List AV:=[.i .u8 x.kind,.i .i64 x.g,.i .i64 x.k,.i .i64 x.key,.s x.name]
theorem My.row_eq(x:My):x.row=[.i .u8 x.kind,.i .i64 x.g,.i .i64 x.k,.i .i64 x.key,.s x.name]:=rfl
def My.zero:My:=⟨0,0,0,0,[]⟩
abbrev My.av(x:My):AV:=.ag [.i .u8 x.kind,.i .i64 x.g,.i .i64 x.k,.i .i64 x.key,.s x.name]
abbrev Zd.co(o1 o2 o3:Zr)(x:Zd):List AV:=[.sl o1<|List.map Vv.row x.types,.sl o2<|List.map Zv x.texts,.sl o3<|List.map Zz.row x.funcs]
abbrev Zx.co(o1:Zr)(x:Zx):List AV:=[.i .i64 x.slot,.i .u8 x.value.kind,.i .i64 x.value.int,.s x.value.text,.sl o1<|List.map Za.row x.value.list,.b x.value.cut]
abbrev Zf.co(o1:Zr)(x:Zf):List AV:=[.i .i64 x.func,.i .i64 x.pos,.i .u64 x.mode,.sl o1<|List.map Zx.row x.locals]
abbrev Zh.co(o1:Zr)(x:Zh):List AV:=[.i .u64 x.tag,.i .u8 x.value.kind,.i .i64 x.value.int,.s x.value.text,.sl o1<|List.map Za.row x.value.list,.b x.value.cut,.i .u64 x.flags]
abbrev Zq.co(o1:Zr)(x:Zq):List AV:=[.i .i64 x.frame,.i .i64 x.func,.b x.hasArg,.i .u8 x.arg.kind,.i .i64 x.arg.int,.s x.arg.text,.sl o1<|List.map Za.row x.arg.list,.b x.arg.cut]
abbrev Zi.co(o1 o2 o3:Zr)(x:Zi):List AV:=[.i .u8 x.status,.i .i64 x.key,.sl o1<|List.map Zf.row x.frames,.sl o2<|List.map Zq.row x.defers,.sl o3<|List.map Zh.row x.panics]
abbrev Zo.co(o1:Zr)(x:Zo):List AV:=[.i .u8 x.outcome,.i .i64 x.failing,.i .i64 x.steps,.sl o1<|List.map Zi.row x.routines]
abbrev gZ:List AV:=[.i .u8 0,.i .i64 0,.sl .full<|List.map Zf.row ([]:List Zf),.sl .full<|List.map Zq.row ([]:List Zq),.sl .full<|List.map Zh.row ([]:List Zh)]
abbrev lW:List AV:=[.i .i64 0,.i .i64 0,.i .u64 0,.sl .full<|List.map Zx.row ([]:List Zx)]
abbrev lX:List AV:=[.i .u8 0,.i .i64 0,.i .i64 0,.sl .full<|List.map Zi.row ([]:List Zi)]
abbrev PN:List AV:=[.s [],.i .i64 0,.i .i64 0,.sl .full<|List.map Xt.row ([]:List Xt),.sl .full<|List.map Uf.row ([]:List Uf),.sl .full<|List.map Jz.row ([]:List Jz),.sl .full<|List.map Jz.row ([]:List Jz)]
end Go.AM

/- Helpers of the packed texts (pack.py): short operations, short steps. -/
namespace Go.AM
open Go
theorem J{α:Sort _}{a:α}:a=a:=rfl
abbrev oI(d:Nat)(n:Int):AI:=⟨some d,.mv<|.c<|.i .i64 n,none⟩
abbrev oU(d:Nat)(n:Int):AI:=⟨some d,.mv<|.c<|.i .u8 n,none⟩
abbrev oT(d:Nat)(op:BinOp)(a b:Nat):AI:=⟨some d,.bin op (.t a)<|.t b,none⟩
abbrev oV(d:Nat)(op:BinOp)(a:Nat)(n:Int):AI:=⟨some d,.bin op (.t a)<|.c<|.i .i64 n,none⟩
abbrev oW(d:Nat)(op:BinOp)(a:Nat)(n:Int):AI:=⟨some d,.bin op (.t a)<|.c<|.i .u8 n,none⟩
abbrev oK(d n a:Nat):AI:=⟨some d,.load n true<|.t a,none⟩
abbrev oA(d a b:Nat):AI:=⟨some d,.pick (.t a) (.t b)<|.c<|.b false,none⟩
abbrev oR(d a b:Nat):AI:=⟨some d,.pick (.t a) (.c<|.b true)<|.t b,none⟩
abbrev ts:List Nat->List Zw
 |[]=>[]
 |a::r=>.t a::ts r
abbrev oQ(d f:Nat)(l:List Nat):AI:=⟨some d,.call false f<|ts l,none⟩
abbrev oP(d f:Nat)(l:List Nat):AI:=⟨some d,.call true f<|ts l,none⟩
abbrev oX(d n a b:Nat):AI:=⟨some d,.iaL n (.t a)<|.t b,none⟩
abbrev oJ(d a:Nat):AI:=⟨some d,.len false<|.t a,none⟩
abbrev oH(d a:Nat):AI:=⟨some d,.len true<|.t a,none⟩
abbrev oY(d n a:Nat):AI:=⟨some d,.box n<|.t a,none⟩
abbrev oZ(d a:Nat):AI:=⟨some d,.un .not<|.t a,none⟩
abbrev gT(g:Nat)(a:AI):AI:=⟨a.dst,a.op,some (g,true)⟩
abbrev gF(g:Nat)(a:AI):AI:=⟨a.dst,a.op,some (g,false)⟩
abbrev z8:AV:=.i .u8 0
abbrev z6:AV:=.i .i64 0
abbrev z7:AV:=.i .u64 0
abbrev zs:AV:=.s []
abbrev zl:AV:=.sl .full []
abbrev zb:AV:=.b false
abbrev Zi.cs(V:Zi):List AV:=[.i .u8 V.status,.i .i64 V.key,.sl .ext<|List.map Zf.row V.frames,.sl .ext<|List.map Zq.row V.defers,.sl .ext<|List.map Zh.row V.panics]
abbrev Zd.cs(V:Zd):List AV:=[.sl .ext<|List.map Vv.row V.types,.sl .ext<|List.map Zv V.texts,.sl .ext<|List.map Zz.row V.funcs]
abbrev Zz.cs(V:Zz):List AV:=[.s V.name,.i .i64 V.params,.i .i64 V.result,.sl .ext<|List.map Xt.row V.slots,.sl .ext<|List.map Uf.row V.code,.sl .ext<|List.map Jz.row V.sizes,.sl .ext<|List.map Jz.row V.lives]
abbrev My.cs(V:My):List AV:=[.i .u8 V.kind,.i .i64 V.g,.i .i64 V.k,.i .i64 V.key,.s V.name]
abbrev Za.cs(V:Za):List AV:=[.i .u8 V.kind,.i .i64 V.int,.s V.text,.sl .ext<|List.map Za.row V.list,.b V.cut]
abbrev Zf.cs(V:Zf):List AV:=[.i .i64 V.func,.i .i64 V.pos,.i .u64 V.mode,.sl .ext<|List.map Zx.row V.locals]
abbrev Zo.cs(V:Zo):List AV:=[.i .u8 V.outcome,.i .i64 V.failing,.i .i64 V.steps,.sl .ext<|List.map Zi.row V.routines]
abbrev Zh.cs(V:Zh):List AV:=[.i .u64 V.tag,.i .u8 V.value.kind,.i .i64 V.value.int,.s V.value.text,.sl .ext<|List.map Za.row V.value.list,.b V.value.cut,.i .u64 V.flags]
abbrev cD(n:Nat)(a b:AC):AC:=.cond (.t n) a b
abbrev sR(n:Nat)(r:List AI)(c:AC):AC:=.seq (.reg n r) c
section
variable{PG:Zb}{d id base i:Nat}{U:Sl}{st:St}{K:Sl->St->Prop}{r:List AI}{o o2 o3 o4:Option Nat}{p p2 p3 p4:Vu}{g g2 g3 g4:Nat}
theorem nT(hg:U g=.b true)(h:WO PG d id base (i+1) r (Yb U o<|.tup []) st K):WO PG d id base i (⟨o,p,some (g,false)⟩::r) U st K:=wg hg rfl h
theorem nF(hg:U g=.b false)(h:WO PG d id base (i+1) r (Yb U o<|.tup []) st K):WO PG d id base i (⟨o,p,some (g,true)⟩::r) U st K:=wg hg rfl h
theorem nT2(hg:U g=.b true)(fI:Yb U o (.tup []) g2=.b true)(h:WO PG d id base (i+1+1) r (Yb (Yb U o<|.tup []) o2<|.tup []) st K):WO PG d id base i (⟨o,p,some (g,false)⟩::⟨o2,p2,some (g2,false)⟩::r) U st K:=nT hg (nT fI h)
theorem nF2(hg:U g=.b false)(fI:Yb U o (.tup []) g2=.b false)(h:WO PG d id base (i+1+1) r (Yb (Yb U o<|.tup []) o2<|.tup []) st K):WO PG d id base i (⟨o,p,some (g,true)⟩::⟨o2,p2,some (g2,true)⟩::r) U st K:=nF hg (nF fI h)
theorem nT3(hg:U g=.b true)(fI:Yb U o (.tup []) g2=.b true)(lY:Yb (Yb U o<|.tup []) o2 (.tup []) g3=.b true)(h:WO PG d id base (i+1+1+1) r (Yb (Yb (Yb U o<|.tup []) o2<|.tup []) o3<|.tup []) st K):WO PG d id base i (⟨o,p,some (g,false)⟩::⟨o2,p2,some (g2,false)⟩::⟨o3,p3,some (g3,false)⟩::r) U st K:=nT hg (nT2 fI lY h)
theorem nF3(hg:U g=.b false)(fI:Yb U o (.tup []) g2=.b false)(lY:Yb (Yb U o<|.tup []) o2 (.tup []) g3=.b false)(h:WO PG d id base (i+1+1+1) r (Yb (Yb (Yb U o<|.tup []) o2<|.tup []) o3<|.tup []) st K):WO PG d id base i (⟨o,p,some (g,true)⟩::⟨o2,p2,some (g2,true)⟩::⟨o3,p3,some (g3,true)⟩::r) U st K:=nF hg (nF2 fI lY h)
theorem nT4(hg:U g=.b true)(fI:Yb U o (.tup []) g2=.b true)(lY:Yb (Yb U o<|.tup []) o2 (.tup []) g3=.b true)(PR:Yb (Yb (Yb U o<|.tup []) o2<|.tup []) o3 (.tup []) g4=.b true)(h:WO PG d id base (i+1+1+1+1) r (Yb (Yb (Yb (Yb U o<|.tup []) o2<|.tup []) o3<|.tup []) o4<|.tup []) st K):WO PG d id base i (⟨o,p,some (g,false)⟩::⟨o2,p2,some (g2,false)⟩::⟨o3,p3,some (g3,false)⟩::⟨o4,p4,some (g4,false)⟩::r) U st K:=nT hg (nT3 fI lY PR h)
theorem nF4(hg:U g=.b false)(fI:Yb U o (.tup []) g2=.b false)(lY:Yb (Yb U o<|.tup []) o2 (.tup []) g3=.b false)(PR:Yb (Yb (Yb U o<|.tup []) o2<|.tup []) o3 (.tup []) g4=.b false)(h:WO PG d id base (i+1+1+1+1) r (Yb (Yb (Yb (Yb U o<|.tup []) o2<|.tup []) o3<|.tup []) o4<|.tup []) st K):WO PG d id base i (⟨o,p,some (g,true)⟩::⟨o2,p2,some (g2,true)⟩::⟨o3,p3,some (g3,true)⟩::⟨o4,p4,some (g4,true)⟩::r) U st K:=nF hg (nF3 fI lY PR h)
end
end Go.AM
namespace Go.AM
open Go
/-! what a function returns, by shape -/
section
variable{α Y Z:Type}
abbrev H1(e:α->AV)(s:Nat)(Q:Q0)(K:α->Prop):Prop:=∀⦃U:Sl⦄ ⦃st:St⦄ ⦃a:α⦄,U s=e a->K a->Q .ret U st
abbrev H2(e:α->AV)(f:Y->AV)(s t:Nat)(Q:Q0)(K:α->Y->Prop):Prop:=∀⦃U:Sl⦄ ⦃st:St⦄ ⦃a:α⦄ ⦃b:Y⦄,U s=e a->U t=f b->K a b->Q .ret U st
abbrev HL(e:α->List AV)(s:Nat)(Q:Q0)(K:List α->Prop):Prop:=∀⦃U:Sl⦄ ⦃st:St⦄ ⦃o:Zr⦄ ⦃a:List α⦄,U s=.sl o (List.map e a)->K a->Q .ret U st
abbrev HM(e:α->List AV)(f:Y->AV)(s t:Nat)(Q:Q0)(K:List α->Y->Prop):Prop:=∀⦃U:Sl⦄ ⦃st:St⦄ ⦃o:Zr⦄ ⦃a:List α⦄ ⦃b:Y⦄,U s=.sl o (List.map e a)->U t=f b->K a b->Q .ret U st
abbrev HF(d:Nat)(Zp:St)(e:α->AV)(s:Nat)(Q:Q0)(K:α->Prop):Prop:=∀⦃U:Sl⦄ ⦃st:St⦄ ⦃a:α⦄,U s=e a->Fr d (d,0) Zp.bx Zp.ow st.bx st.ow->K a->Q .ret U st
abbrev HD(d:Nat)(Zp:St)(kp:Zt)(vp:Nat)(B:Z->BC)(e:α->AV)(s:Nat)(Q:Q0)(K:α->Z->Prop):Prop:=∀⦃U:Sl⦄ ⦃st:St⦄ ⦃a:α⦄ ⦃b:Z⦄,U s=e a->B b st.bx st.ow kp vp->Fr d kp Zp.bx Zp.ow st.bx st.ow->K a b->Q .ret U st
variable{PG:Zb}{f:Nat}{F:AF}{args:List AV}{s t:Nat}
abbrev Q1(F:AF)(R:AV->Prop):Q0:=Ca 0 F.res fun r _=>∃v,r.strip=some v/\R v
theorem h1{e:α->AV}{K:α->Prop}(hr:F.res=[.tmp s])(he :∀a,(e a).strip=some (e a)):H1 e s (Q1 F fun v=>∃a,K a/\v=e a) K:=by intro U st a h k;exact⟨e a,by simp only[hr,Xj,Kq,h],_,he a,a,k,rfl⟩
theorem h2{e:α->AV}{g:Y->AV}{K:α->Y->Prop}(hr:F.res=[.tmp s,.tmp t])(he :∀a b,(AV.tup [e a,g b]).strip=some (AV.tup [e a,g b])):H2 e g s t (Q1 F fun v=>∃a b,K a b/\v=.tup [e a,g b]) K:=by intro U st a b h h' k;exact⟨.tup [e a,g b],by simp only[hr,Xj,Wz,Kq,h,h',kK],_,he a b,a,b,k,rfl⟩
theorem hL{e:α->List AV}{K:List α->Prop}(hr:F.res=[.tmp s]):HL e s (Q1 F fun v=>∃a,K a/\v=.sl .ext (List.map e a)) K:=by intro U st o a h k;exact⟨.sl o<|List.map e a,by simp only[hr,Xj,Kq,h],_,rfl,a,k,rfl⟩
theorem hM{e:α->List AV}{g:Y->AV}{K:List α->Y->Prop}(hr:F.res=[.tmp s,.tmp t])(he :∀o a b,(AV.tup [.sl o<|List.map e a,g b]).strip=some (AV.tup [.sl .ext<|List.map e a,g b])):HM e g s t (Q1 F fun v=>∃a b,K a b/\v=.tup [.sl .ext<|List.map e a,g b]) K:=by intro U st o a b h h' k;exact⟨.tup [.sl o<|List.map e a,g b],by simp only[hr,Xj,Wz,Kq,h,h',kK],_,he o a b,a,b,k,rfl⟩
theorem P1{e:α->AV}{K:α->Prop}(hf:PG.fn f=some F)(hn:Nat.ble args.length F.nt=true)(w:W PG 0 F.body (Wg args) Zp (Q1 F fun v=>∃a,K a/\v=e a)):∃a,K a/\Ze PG f args (e a):=by obtain⟨v,hv,a,hk,rfl⟩:=Ze.of hf hn w;exact⟨a,hk,hv⟩
theorem P2{e:α->Y->AV}{K:α->Y->Prop}(hf:PG.fn f=some F)(hn:Nat.ble args.length F.nt=true)(w:W PG 0 F.body (Wg args) Zp (Q1 F fun v=>∃a b,K a b/\v=e a b)):∃a b,K a b/\Ze PG f args (e a b):=by obtain⟨v,hv,a,b,hk,rfl⟩:=Ze.of hf hn w;exact⟨a,b,hk,hv⟩
theorem PF{e:α->AV}{K:α->Prop}(hf:PG.fn f=some F)(hn:Nat.ble args.length F.nt=true)(hr:F.res=[.tmp s])(w :∀(d:Nat) (st:St) (Q:Q0),HF d st e s Q K->W PG d F.body (Wg args) st Q):Ym PG f args fun r=>∃a,r=e a/\K a:=
 Ym.of hf hn fun d st=>w d st _ (by
  intro U aA a h hf hk;exact ⟨.inr rfl,e a,by simp only [hr,Xj,Kq,h],⟨a,rfl,hk⟩,hf⟩)
theorem PD{B0:BC}{B:Z->BC}{e:α->AV}{K:α->Z->Prop}(hf:PG.fn f=some F)(hn:Nat.ble (args.length+1) F.nt=true)(hr:F.res=[.tmp s])(ho :∀b,Sz<|B b)(w :∀(d:Nat) (st:St) (kp:Zt) (vp:Nat),kp.1<d->B0 st.bx st.ow kp vp->∀(Q:Q0),HD d st kp vp B e s Q K->W PG d F.body (Wg<|.p kp vp 0::args) st Q):Us PG f B0 args (fun r b=>∃a,r=e a/\K a b) B:=
 Us.of hf hn ho fun d st kp vp aC hB=>w d st kp vp aC hB _ (by
  intro U aA a b h hb hf hk;exact ⟨.inr rfl,e a,b,by simp only [hr,Xj,Kq,h],⟨a,rfl,hk⟩,hb,hf⟩)
end
end Go.AM
namespace Go.AM
open Go
/-! steps whose guards and bits are known -/
def pO(a:AI)(U:Sl):Option AV:=
 match a.guard with
 |some (g,w)=>match U g with|.b b=>(match w,b with|true,false=>some (.tup [])|false,true=>some (.tup [])|_,_=>none)|.tup []=>some (.tup [])|_=>none
 |none=>match a.op with
  |.pick c x y=>match c.ev U with|.b t=>(match (bif t then x else y).ev U with|.b z=>some (.b z)|_=>none)|_=>none
  |.mv x=>match x.ev U with|.b z=>some (.b z)|_=>none
  |_=>none
def wh:Nat->List AI->Sl->Nat->Option (List AI × Sl × Nat)
 |0,ops,U,i=>some (ops,U,i)
 |n+1,a::r,U,i=>match pO a U with|some v=>wh n r (Yb U a.dst v) (i+1)|none=>none
 |_+1,[],_,_=>none
section
variable{PG:Zb}{d id base i:Nat}{U:Sl}{st:St}{K:Sl->St->Prop}
theorem Y8{a:AI}{r:List AI}{v:AV}(hs:pO a U=some v)(h:WO PG d id base (i+1) r (Yb U a.dst v) st K):WO PG d id base i (a::r) U st K:=by
 obtain⟨t,op,g⟩:=a
 cases g with
 |some gw=>
  obtain⟨g,w⟩:=gw;simp only[pO]at hs;split at hs
  ·rename_i b hg;cases w<;>cases b<;>first|(cases hs;done)|(injection hs with hs;subst hs;exact wg hg rfl h)
  ·rename_i hg;injection hs with hs;subst hs;exact Y9 hg h
  ·cases hs
 |none=>
  simp only[pO]at hs;split at hs
  ·rename_i c x y;split at hs
   ·rename_i b hc;split at hs
    ·rename_i z hz;injection hs with hs;subst hs
     cases b with
     |true=>exact Y_ hc hz h
     |false=>exact ZA hc hz h
    ·cases hs
   ·cases hs
  ·rename_i x;split at hs
   ·rename_i z hz;injection hs with hs;subst hs;exact Jb hz h
   ·cases hs
  ·cases hs
theorem ZB:∀(n:Nat){ops gL:List AI}{U σ':Sl}{i i':Nat},wh n ops U i=some (gL,σ',i')->WO PG d id base i' gL σ' st K->WO PG d id base i ops U st K
 |0,_,_,_,_,_,_,hs,h=>by
  injection hs with hs;injection hs with h1 hs;injection hs with h2 h3;subst h1 h2 h3;exact h
 |n+1,[],_,_,_,_,_,hs,_=>by cases hs
 |n+1,a::r,_,U,_,_,_,hs,h=>by
  simp only[wh]at hs;split at hs
  ·rename_i v hv;exact Y8 hv (ZB n hs h)
  ·cases hs
theorem z_(n:Nat){ops gL:List AI}{σ':Sl}{i':Nat}(hs:wh n ops U i=some (gL,σ',i'))(h:WO PG d id base i' gL σ' st K):WO PG d id base i ops U st K:=ZB n hs h
theorem Zu{Q:Q0}(h:Q .ret U st):WO PG d id base i [] U st fun U st=>W PG d .ret U st Q:=Hs (W.ret h)
variable{x y z u:Zw}{v v2 v3 v4 w w2 w3 w4:AV}
theorem Xu(h:x.ev U=v)(s:v.strip=some w):AV.strips (Vy U [x])=some [w]:=sc h s sn
theorem Wk(h:x.ev U=v)(h2:y.ev U=v2)(s:(AV.strips [v,v2])=some [w,w2]):AV.strips (Vy U [x,y])=some [w,w2]:=by rw[<- s];simp only[Vy,h,h2]
theorem Iz(h:x.ev U=v)(h2:y.ev U=v2)(h3:z.ev U=v3)(s:(AV.strips [v,v2,v3])=some [w,w2,w3]):AV.strips (Vy U [x,y,z])=some [w,w2,w3]:=by rw[<- s];simp only[Vy,h,h2,h3]
theorem PS(h:x.ev U=v)(h2:y.ev U=v2)(h3:z.ev U=v3)(h4:u.ev U=v4)(s:(AV.strips [v,v2,v3,v4])=some [w,w2,w3,w4]):AV.strips (Vy U [x,y,z,u])=some [w,w2,w3,w4]:=by rw[<- s];simp only[Vy,h,h2,h3,h4]
theorem x2{α Y:Type}{p:α->Y->Prop}{c:Prop}(h :∃a b,p a b)(k :∀a b,p a b->c):c:=h.elim fun a h=>h.elim fun b h=>k a b h
theorem x1{α:Type}{p:α->Prop}{c:Prop}(h :∃a,p a)(k :∀a,p a->c):c:=h.elim k
end
abbrev aX:List AV:=[z8,z6,zs,zl,zb]
abbrev gM:BS:=[48,49,50,51,52,53,54,55,56,57,97,98,99,100,101,102]
abbrev dI:List AV:=[z7,z8,z6,zs,zl,zb,z7]
abbrev wi:BS:=[102,97,117,108,116,32,49,58,32,100,105,118,105,115,105,111,110,32,98,121,32,122,101,114,111]
abbrev cQ:List AV:=[z6,z6,z7,zl]
abbrev eU:List AV:=[z6,z8,z6,zs,zl,zb]
abbrev wj:BS:=[102,97,117,108,116,32,51,58,32,111,117,116,32,111,102,32,114,97,110,103,101]
abbrev gN:List AV:=[z6,z6,zb,z8,z6,zs,zl,zb]
abbrev wk:BS:=[102,97,117,108,116,32,50,58,32,110,105,108,32,112,111,105,110,116,101,114]
abbrev eJ:List AV:=[z8,z6,zl,zl,zl]
abbrev dP:List AV:=[z8,z6,z6,zl]
abbrev pP:BS:=[103,111,114,111,117,116,105,110,101,32]
abbrev j_:BS:=[112,97,110,105,99]
abbrev pQ:BS:=[111,117,116,99,111,109,101,32]
abbrev pR:BS:=[98,108,111,99,107,101,100,32]
abbrev wm:BS:=[32,114,101,99,111,118,101,114,101,100]
abbrev wo:BS:=[44,32,102,97,105,108,105,110,103,32]
abbrev k_:BS:=[101,120,105,116]
abbrev wq:BS:=[114,111,117,116,105,110,101,115]
abbrev wu:BS:=[100,101,97,100,108,111,99,107]
abbrev wv:BS:=[44,32,115,116,101,112,115,32]
abbrev wx:BS:=[32,97,98,111,114,116,101,100]
abbrev pS:List AV:=[zs,z6,z6,zl,zl,zl,zl]
abbrev pT:BS:=[114,101,97,100,121]
abbrev pU:BS:=[102,97,108,115,101]
abbrev wy:BS:=[115,99,114,105,112,116]
abbrev wz:BS:=[110,111,114,109,97,108]
abbrev wA:BS:=[112,97,110,105,99,32]
abbrev pV:BS:=[116,114,117,101]
abbrev pW:BS:=[100,111,110,101]
abbrev mo:BS:=[32,97,116,32]
abbrev wB:BS:=[115,116,101,112,115]
end Go.AM
