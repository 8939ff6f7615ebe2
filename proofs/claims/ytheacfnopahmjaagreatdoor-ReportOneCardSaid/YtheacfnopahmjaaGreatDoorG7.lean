/- The statement ReportOne: for every input the law returns true, and each argument reads afterwards as before. No conditions. -/
import Derived.Test.YtheacfnopahmjaaGreatDoorG6
import Derived.Lib.SplitLaws
import Derived.Test.YtheacfnopahmjaaGreatDoorG5
import Derived.Lib.IndexBytes
import Derived.Lib.IndexMore
import Derived.Test.YtheacfnopahmjaaGreatDoorG2
import Derived.Test.YtheacfnopahmjaaGreatDoorTie
import Derived.Test.YtheacfnopahmjaaGreatDoorCards
import Derived.SevenTiedAt
set_option linter.all false
namespace Go.AM
open Go
theorem cutp_c1 (c:UInt8) (s:Bytes):cutp [c] (c::s)=(s,true):=cutp_app [c] s
theorem digN_sp (r:Bytes):digN (32::r)=0:=rfl
theorem modeI_w {n:Int} (h0:0≤n) (h3:n≤3):modeI (modeW n)=n:=by
 rcases (show n=0∨n=1∨n=2∨n=3 by omega) with rfl | rfl | rfl | rfl<;>decide
theorem scI_num {n k:Int} {r:Bytes} (h0:0≤k) (h1:k<n) (h2:k<1000000000) (hr:digN r=0):scI n (num k++r)=(k,true,r):=by
 unfold scI
 rw [scNum_num (by omega) (by omega) hr,decide_eq_true h0,decide_eq_true h1];rfl
theorem frP_head {m:Img} {f:Fun} {k:Int} {x:Frm} (hm:OkI m) (hf:m.funcs[x.func.toNat]?=some f) (hk:0≤k∧k<170) (hx:0≤x.func) (hp:0≤x.pos) (hc:x.pos<f.code.length) (hmo:0≤x.mode∧x.mode≤3) :
  frP m (headL f k x)=(k,⟨x.func,x.pos,x.mode,[]⟩,true):=by
 have hlen:x.func<m.funcs.length:=by
  have:=(List.getElem?_eq_some_iff.1 hf).1
  omega
 have hn:=hm.n
 obtain ⟨q1,q2,q3,q4⟩:=hm.f f (List.mem_of_getElem? hf)
 have e:headL f k x=[35]++(num k++32::(num x.func++32::(quo f.name++32::97::116::32::(num x.pos++32::modeW x.mode)))):=by unfold headL;simp
 have en:nameAt m x.func=f.name:=nameAt_eq' hf
 have ec:codeAt m x.func=(f.code.length:Int):=by unfold codeAt;rw [hf];rfl
 rw [e]
 unfold frP
 rw [cutp_app]
 simp only [Bool.true_eq_false,if_false]
 unfold frP1
 rw [scI_num hk.1 hk.2 (by omega) (digN_sp _)]
 simp only [Bool.true_eq_false,if_false]
 rw [cutp_c1]
 simp only [Bool.true_eq_false,if_false]
 unfold frP2
 rw [scI_num hx hlen (by omega) (digN_sp _)]
 simp only [Bool.true_eq_false,if_false]
 rw [en,show (32::(quo f.name++32::97::116::32::(num x.pos++32::modeW x.mode)):Bytes)=([32]++quo f.name++[32,97,116,32])++(num x.pos++32::modeW x.mode) from by simp,cutp_app]
 simp only [Bool.true_eq_false,if_false]
 unfold frP3
 rw [ec,scI_num hp hc (by omega) (digN_sp _)]
 simp only [Bool.true_eq_false,if_false]
 rw [cutp_c1]
 simp only [Bool.true_eq_false,if_false]
 unfold frP4
 rw [modeI_w hmo.1 hmo.2,decide_eq_true hmo.1,show max 0 x.mode=x.mode by omega]
theorem loP_line {f:Fun} {l:Loc} (hf:f.slots.length≤1000) (h0:0≤l.slot) (h1:l.slot<f.slots.length) (hv:fine l.value=true) (hw:Wf l.value):loP f (locL f l)=some l:=by
 have e:locL f l=[32,32]++(num l.slot++32::(quo (slotN f l.slot)++32::61::32::txt l.value)):=by unfold locL;simp
 have e2:(32::(quo (slotN f l.slot)++32::61::32::txt l.value):Bytes)=([32]++quo (slotN f l.slot)++[32,61,32])++txt l.value:=by simp
 rw [e]
 unfold loP
 rw [cutp_app]
 simp only [Bool.true_eq_false,if_false]
 rw [scI_num h0 h1 (by omega) (digN_sp _)]
 simp only [Bool.true_eq_false,if_false]
 rw [e2,cutp_app]
 simp only [Bool.true_eq_false,if_false]
 rw [rvs_txt hv hw,if_pos rfl]
theorem loPs_lines {f:Fun} (hf:f.slots.length≤1000) :∀(l:List Loc),(∀y∈l,0≤y.slot∧y.slot<f.slots.length∧fine y.value=true∧Wf y.value)→loPs f (l.map (locL f))=some l
 | [],_=>rfl
 | y::l,h=>by
  obtain ⟨a,b,c,d⟩:=h y (by simp)
  rw [List.map_cons,loPs,loP_line hf a b c d]
  simp only
  rw [loPs_lines hf l fun z hz=>h z (by simp [hz])]
theorem rfR_frmL {m:Img} {k:Int} {x:Frm} (hm:OkI m) (hx:WfX x) (hk:0≤k∧k<170) (hb:fitb m x=true):rfR m (frmL m k x)=(k,x,0):=by
 obtain ⟨f0,f1,f,hf,hF⟩:=fitb_iff.1 hb
 obtain ⟨g1,g2,g3,g4,g5,g6⟩:=fitF_iff.1 hF
 obtain ⟨l1,l2⟩:=frmL_len (k:=k) hm hx hb
 have hl:¬(17<(frmL m k x).length∨long 1400060 (frmL m k x)=true):=by
  rintro (h | h)
  ·omega
  ·rw [not_long.2 fun s hs=>Nat.le_trans (l1 s hs) (by decide)] at h;cases h
 have e:=frmL_eq hf k
 have hp:=frP_head (k:=k) hm hf hk f0 g3 g4 ⟨hx.m,f1⟩
 have hr:=loPs_lines (f:=f) (by omega) x.locals fun y hy=>by
  obtain ⟨a,b,c⟩:=asc_mem g6 _ hy
  exact ⟨by omega,b,c,hx.v y hy⟩
 rw [e] at hl ⊢
 unfold rfR
 rw [if_neg hl]
 simp only
 rw [hp]
 simp only [Bool.true_eq_false,if_false]
 rw [hf]
 simp only
 rw [hr]
 simp only
 have ex:({ func:=x.func,pos:=x.pos,mode:=x.mode,locals:=x.locals }:Frm)=x:=by cases x;rfl
 rw [ex,if_pos]
 unfold frR
 rw [if_neg (by omega),if_pos hb,e]
end Go.AM

namespace Go.AM
open Go
def spl:Bytes→List Bytes × Bytes
 | []=>([],[])
 | c::r=>if c=10 then ([]::(spl r).1,(spl r).2) else match (spl r).1 with
  | []=>([],c::(spl r).2)
  | x::l=>((c::x)::l,(spl r).2)
def unl10 (l:List Bytes):Bytes:=l.flatMap fun x=>x++[10]
theorem unl10_app (l m:List Bytes):unl10 (l++m)=unl10 l++unl10 m:=by unfold unl10;rw [List.flatMap_append]
theorem unl10_cons (x:Bytes) (l:List Bytes):unl10 (x::l)=x++10::unl10 l:=by unfold unl10;simp
theorem spl_join :∀s:Bytes,s=unl10 (spl s).1++(spl s).2
 | []=>rfl
 | c::r=>by
  have ih:=spl_join r
  unfold spl
  split
  ·rename_i h
   subst h
   simp only [unl10_cons,List.nil_append,List.cons_append]
   rw [← ih]
  ·split
   ·rename_i h
    rw [h] at ih
    simp only [unl10,List.flatMap_nil,List.nil_append] at ih ⊢
    rw [← ih]
   ·rename_i x l h
    rw [h,unl10_cons] at ih
    simp only [unl10_cons,List.cons_append]
    rw [← ih]
theorem spl_nl :∀s:Bytes,(∀x∈(spl s).1,(10:UInt8) ∉ x)∧(10:UInt8) ∉ (spl s).2
 | []=>⟨fun x h=>(by simp [spl] at h),by simp [spl]⟩
 | c::r=>by
  have ih:=spl_nl r
  unfold spl
  split
  ·refine ⟨fun x h=>?_,ih.2⟩
   simp only [List.mem_cons] at h
   rcases h with rfl | h
   ·simp
   ·exact ih.1 x h
  ·rename_i hc
   have hc':(10:UInt8)≠c:=fun h=>hc h.symm
   split
   ·exact ⟨fun x h=>by simp at h,by simp only [List.mem_cons,not_or];exact ⟨hc',ih.2⟩⟩
   ·rename_i x l h
    rw [h] at ih
    refine ⟨fun y hy=>?_,ih.2⟩
    simp only [List.mem_cons] at hy
    rcases hy with rfl | hy
    ·simp only [List.mem_cons,not_or]
     exact ⟨hc',ih.1 x (by simp)⟩
    ·exact ih.1 y (by simp [hy])
theorem spl_end :∀e:Bytes,(10:UInt8) ∉ e→spl e=([],e)
 | [],_=>rfl
 | c::r,h=>by
  simp only [List.mem_cons,not_or] at h
  unfold spl
  rw [if_neg (fun e=>h.1 e.symm),spl_end r h.2]
theorem spl_line :∀(x r:Bytes),(10:UInt8) ∉ x→spl (x++10::r)=(x::(spl r).1,(spl r).2)
 | [],r,_=>by rw [List.nil_append,spl,if_pos rfl]
 | c::x,r,h=>by
  simp only [List.mem_cons,not_or] at h
  rw [List.cons_append,spl,if_neg (fun e=>h.1 e.symm),spl_line x r h.2]
theorem spl_unl :∀(l:List Bytes) (e:Bytes),(∀x∈l,(10:UInt8) ∉ x)→(10:UInt8) ∉ e→spl (unl10 l++e)=(l,e)
 | [],e,_,he=>by simpa [unl10] using spl_end e he
 | x::l,e,h,he=>by
  rw [unl10_cons,List.append_assoc,List.cons_append,spl_line x _ (h x (by simp)),spl_unl l e (fun y hy=>h y (by simp [hy])) he]
theorem hexd_nl :∀k:Fin 16,(10:UInt8)≠hexd k:=by decide
theorem hexd_nl' (n:Nat):(10:UInt8)≠hexd n:=by
 by_cases h:n<16
 ·exact hexd_nl ⟨n,h⟩
 ·unfold hexd
  rw [List.getD_eq_getElem?_getD,List.getElem?_eq_none (by simp;omega)]
  decide
theorem ds_nl (b:Nat) :∀f n,(10:UInt8) ∉ ds b f n
 | 0,_=>by simp [ds]
 | f+1,n=>by
  unfold ds
  split
  ·simp only [List.mem_singleton];exact hexd_nl' n
  ·simp only [List.mem_append,List.mem_singleton,not_or]
   exact ⟨ds_nl b f (n / b),hexd_nl' _⟩
theorem num_nl (n:Int):(10:UInt8) ∉ num n:=by
 unfold num
 split
 ·simp only [List.mem_cons,not_or]
  exact ⟨by decide,ds_nl _ _ _⟩
 ·exact ds_nl _ _ _
theorem chr_nl (c:UInt8):(10:UInt8) ∉ chr c:=by
 unfold chr
 split
 ·rename_i h
  simp only [List.mem_cons,List.not_mem_nil,or_false,not_or]
  exact ⟨by decide,fun e=>by subst e;revert h;decide⟩
 ·split
  ·decide
  ·rename_i h
   split
   ·simp only [List.mem_cons,List.not_mem_nil,or_false,not_or]
    exact ⟨by decide,by decide,hexd_nl' _,hexd_nl' _⟩
   ·simp only [List.mem_singleton]
    exact fun e=>h (by rw [← e];rfl)
theorem quo_nl (s:Bytes):(10:UInt8) ∉ quo s:=by
 unfold quo chrs
 simp only [List.mem_cons,List.mem_append,List.mem_flatMap,List.not_mem_nil,or_false,not_or,not_exists,not_and]
 exact ⟨by decide,fun c _=>chr_nl c,by decide⟩
mutual
theorem txt_nl :∀v:Val,(10:UInt8) ∉ txt v
 | .mk k n s l c=>by
  have h:=txts_nl l
  rw [txt]
  split
  ·split<;>decide
  ·split
   ·exact num_nl n
   ·split
    ·exact quo_nl s
    ·split
     ·simp only [List.mem_cons,List.mem_append,List.not_mem_nil,or_false,not_or];exact ⟨by decide,h,by decide⟩
     ·split
      ·simp only [List.mem_cons,List.mem_append,List.not_mem_nil,or_false,not_or];exact ⟨by decide,h,by decide⟩
      ·split
       ·split
        ·decide
        ·simp only [List.mem_cons,List.mem_append,List.not_mem_nil,or_false,not_or];exact ⟨by decide,h,by decide⟩
       ·split
        ·decide
        ·split
         ·decide
         ·simp only [List.mem_cons,not_or];exact ⟨by decide,h⟩
theorem txts_nl :∀l:List Val,(10:UInt8) ∉ txts l
 | []=>by simp [txts]
 | v::l=>by rw [txts];simp only [List.mem_append,not_or];exact ⟨txt_nl v,txtl_nl l⟩
theorem txtl_nl :∀l:List Val,(10:UInt8) ∉ txtl l
 | []=>by simp [txtl]
 | v::l=>by rw [txtl];simp only [List.mem_cons,List.mem_append,not_or];exact ⟨by decide,by decide,txt_nl v,txtl_nl l⟩
end
theorem shown_nl (p:Pan):(10:UInt8) ∉ shown p:=by
 unfold shown baseP sufP
 simp only [List.mem_append,not_or]
 refine ⟨?_,?_,?_⟩
 ·split
  ·decide
  ·split
   ·unfold faultT
    split
    ·decide
    ·split
     ·decide
     ·split<;>decide
   ·simp only [List.mem_append,not_or]
    exact ⟨by decide,txt_nl _⟩
 ·split<;>decide
 ·split<;>decide
end Go.AM

namespace Go.AM
open Go
def tOut:Bytes:=[111,117,116,99,111,109,101,32]
def tFail:Bytes:=[44,32,102,97,105,108,105,110,103,32]
def tStep:Bytes:=[44,32,115,116,101,112,115,32]
def tGo:Bytes:=[103,111,114,111,117,116,105,110,101,32]
def tCol:Bytes:=[58,32]
def tBlk:Bytes:=[98,108,111,99,107,101,100,32]
def tRdy:Bytes:=[114,101,97,100,121]
def tDone:Bytes:=[100,111,110,101]
def tFr:Bytes:=[32,32,35]
def t4:Bytes:=[32,32,32,32]
def tDef:Bytes:=[32,32,100,101,102,101,114,32]
def t2:Bytes:=[32,32]
def tWith:Bytes:=[32,119,105,116,104,32]
def outL2 (w f st:Bytes) (ab:Bool):Sta × Bool:=(⟨(rdOut w).1,(unnum f).1,(unnum st).1,[]⟩,ab&&decide ((unnum f).2=0)&&decide ((unnum st).2=0)&&decide ((rdOut w).2=0))
def outL1 (w r:Bytes) (a:Bool):Sta × Bool:=outL2 w (Lib.cut r tStep).1 (Lib.cut r tStep).2.1 (a&&(Lib.cut r tStep).2.2)
def outL (s:Bytes):Sta × Bool:=outL1 (Lib.cut (cutp tOut s).1 tFail).1 (Lib.cut (cutp tOut s).1 tFail).2.1 (Lib.cut (cutp tOut s).1 tFail).2.2
abbrev rz:Rou:=⟨0,0,[],[],[]⟩
def rouL1 (st:Bytes):Rou × Bool:=if (cutp tBlk st).2=true then (⟨2,(unnum (cutp tBlk st).1).1,[],[],[]⟩,decide ((unnum (cutp tBlk st).1).2=0)) else if st=tRdy then (⟨1,0,[],[],[]⟩,true) else (⟨3,0,[],[],[]⟩,decide (st=tDone))
def rouL (s:Bytes):Rou × Bool:=if (Lib.cut s tCol).2.2=false then (rz,false) else rouL1 (Lib.cut s tCol).2.1
def posL2 (a b:Int) (r:Bytes):Option Dfr:=if r=[] then some ⟨a,b,false,vz⟩ else if (rvs (cutp tWith r).1).2=0 then some ⟨a,b,true,(rvs (cutp tWith r).1).1⟩ else none
def posL1 (m:Img) (a b c:Bytes):Option Dfr:=if (unnum a).2≠0∨(unnum b).2≠0∨(unnum b).1<0∨(m.funcs.length:Int)≤(unnum b).1 then none else
 if (cutp (quo (nameAt m (unnum b).1)) c).2=false then none else posL2 (unnum a).1 (unnum b).1 (cutp (quo (nameAt m (unnum b).1)) c).1
def posL (m:Img) (s:Bytes):Option Dfr:=match Lib.splitN s [32] 4 with
 | [_,a,b,c]=>posL1 m a b c
 | _=>none
def moreL:List Bytes→List Bytes × List Bytes
 | []=>([],[])
 | x::r=>if (cutp t4 x).2=true then (x.drop 2::(moreL r).1,(moreL r).2) else ([],x::r)
def frmsR (m:Img):Nat→List Bytes→Option (List Frm × List Bytes)
 | 0,_=>none
 | _+1,[]=>some ([],[])
 | n+1,x::r=>if (cutp tFr x).2=true then
   if (rfR m (x.drop 2::(moreL r).1)).2.2=0 then (frmsR m n (moreL r).2).map fun z=>((rfR m (x.drop 2::(moreL r).1)).2.1::z.1,z.2) else none
  else some ([],x::r)
def dfrsR (m:Img):List Bytes→Option (List Dfr × List Bytes)
 | []=>some ([],[])
 | x::r=>if (cutp tDef x).2=true then (posL m (x.drop 2)).bind fun d=>(dfrsR m r).map fun z=>(d::z.1,z.2) else some ([],x::r)
def pansR:List Bytes→Option (List Pan × List Bytes)
 | []=>some ([],[])
 | x::r=>if (cutp t2 x).2=true then (if (rlP (x.drop 2)).2=0 then (pansR r).map fun z=>((rlP (x.drop 2)).1::z.1,z.2) else none) else some ([],x::r)
def memR (m:Img) (l:List Bytes):Option (List Frm × List Dfr × List Pan × List Bytes):=
 (frmsR m (l.length+1) l).bind fun a=>(dfrsR m a.2).bind fun b=>(pansR b.2).map fun c=>(a.1,b.1,c.1,c.2)
def rousR (m:Img):Nat→List Bytes→Option (List Rou × List Bytes)
 | 0,_=>none
 | _+1,[]=>some ([],[])
 | n+1,x::r=>if (cutp tGo x).2=true then
   if (rouL x).2=true then (memR m r).bind fun a=>(rousR m n a.2.2.2).map fun z=>(⟨(rouL x).1.status,(rouL x).1.key,a.1,a.2.1,a.2.2.1⟩::z.1,z.2) else none
  else some ([],x::r)
abbrev sz:Sta:=⟨0,0,0,[]⟩
def staR (m:Img):List Bytes→Option Sta
 | []=>none
 | x::r=>if (cutp tOut x).2=true then (if (outL x).2=true then (rousR m (r.length+1) r).map fun z=>⟨(outL x).1.outcome,(outL x).1.failing,(outL x).1.steps,z.1⟩ else none) else none
def readR (m:Img) (s:Bytes):Sta × Int:=if 300000<s.length then (sz,4) else match staR m (Lib.split s [10]) with
 | none=>(sz,12)
 | some x=>if repR m x=(s,0) then (x,0) else (sz,12)
theorem idx_at_first {c:UInt8} {t a b:Bytes} (h:c ∉ a):Lib.index (a++((c::t)++b)) (c::t)=(a.length:Int):=by
 refine Lib.index_first (by simp) ?_ fun j hj=>?_
 ·unfold Lib.occAt
  rw [List.drop_left]
  simp
 ·unfold Lib.occAt
  rw [List.drop_append_of_le_length (by omega)]
  cases e:a.drop j with
  | nil=>exact absurd (List.drop_eq_nil_iff.1 e) (by omega)
  | cons d r=>
   rw [List.cons_append,List.isPrefixOf_cons₂]
   have hd:d∈a:=List.mem_of_mem_drop (i:=j) (by rw [e];simp)
   have:(c==d)=false:=by rw [beq_eq_false_iff_ne];rintro rfl;exact h hd
   rw [this];rfl
theorem cut_first {c:UInt8} {t a b:Bytes} (h:c ∉ a):Lib.cut (a++((c::t)++b)) (c::t)=(a,b,true):=by
 unfold Lib.cut
 rw [idx_at_first h,if_pos (by omega)]
 have e:((a.length:Nat):Int).toNat=a.length:=rfl
 rw [e,List.take_left,← List.length_append,← List.append_assoc,List.drop_left]
theorem splitK_first {c:UInt8} {a b:Bytes} (h:c ∉ a) (k:Nat):Lib.splitK [c] 0 (k+1) (a++c::b)=a::Lib.splitK [c] 0 k b:=by
 have e:=idx_at_first (t:=[]) (b:=b) h
 rw [List.singleton_append] at e
 rw [Lib.splitK,e,if_neg (by simp only [beq_iff_eq];omega)]
 have e2:((a.length:Nat):Int).toNat=a.length:=rfl
 rw [e2,Nat.add_zero,List.take_left]
 congr 2
 rw [show a++c::b=(a++[c])++b by simp,show a.length+[c].length=(a++[c]).length by simp,List.drop_left]
theorem split_spl (s:Bytes):Lib.split s [10]=(spl s).1++[(spl s).2]:=by
 unfold Lib.split
 rw [Lib.count_one]
 have h1:=spl_nl s
 have h2:=spl_join s
 generalize (spl s).2=e at *
 generalize (spl s).1=l at *
 subst h2
 obtain ⟨h1,h3⟩:=h1
 induction l with
 | nil=>
  simp only [unl10,List.flatMap_nil,List.nil_append]
  rw [List.count_eq_zero.2 h3];rfl
 | cons x l ih=>
  have hx:=h1 x (by simp)
  rw [unl10_cons,List.append_assoc,List.cons_append,List.count_append,List.count_eq_zero.2 hx,List.count_cons_self,Nat.zero_add,splitK_first hx,ih fun y hy=>h1 y (by simp [hy])]
  rfl
end Go.AM

namespace Go.AM
open Go
theorem num_no (n:Int) {c:UInt8} (h:isD c=false) (h2:c≠45):c ∉ num n:=by
 have hd :∀k,c ∉ digs 10 k:=fun k hc=>by
  have:=ds_isD _ _ c hc
  rw [h] at this;cases this
 unfold num
 split
 ·simp only [List.mem_cons,not_or]
  exact ⟨h2,hd _⟩
 ·exact hd _
theorem cut_fail {a b:Bytes} (h:(44:UInt8) ∉ a):Lib.cut (a++(tFail++b)) tFail=(a,b,true):=cut_first (t:=[32,102,97,105,108,105,110,103,32]) h
theorem cut_step {a b:Bytes} (h:(44:UInt8) ∉ a):Lib.cut (a++(tStep++b)) tStep=(a,b,true):=cut_first (t:=[32,115,116,101,112,115,32]) h
theorem cut_col {a b:Bytes} (h:(58:UInt8) ∉ a):Lib.cut (a++(tCol++b)) tCol=(a,b,true):=cut_first (t:=[32]) h
def hdS (s:Sta):Bytes:=tOut++((outO s.outcome).1++(tFail++(num s.failing++(tStep++num s.steps))))
theorem headS_hd (s:Sta):headS s=hdS s++[10]:=by unfold headS hdS tOut tFail tStep;simp
theorem out_word {n:Int} (h1:1≤n) (h8:n≤8):(44:UInt8) ∉ (outO n).1∧(10:UInt8) ∉ (outO n).1∧rdOut (outO n).1=(n,0):=by
 rcases (show n=1∨n=2∨n=3∨n=4∨n=5∨n=6∨n=7∨n=8 by omega) with rfl | rfl | rfl | rfl | rfl | rfl | rfl | rfl<;>exact ⟨by decide,by decide,by decide⟩
theorem outL_hd {s:Sta} (h1:1≤s.outcome∧s.outcome≤8) (h2:-1000000≤s.failing∧s.failing≤1000000) (h3:0≤s.steps∧s.steps≤5000):outL (hdS s)=(⟨s.outcome,s.failing,s.steps,[]⟩,true):=by
 obtain ⟨w1,w2,w3⟩:=out_word h1.1 h1.2
 unfold outL hdS
 rw [cutp_app]
 simp only
 rw [cut_fail w1]
 unfold outL1
 rw [cut_step (num_no s.failing (c:=44) rfl (by decide))]
 unfold outL2
 rw [w3,unnum_num (by omega) (by omega),unnum_num (by omega) (by omega)]
 rfl
theorem headR_eq (g:Int) (x:Rou):headR g x=tGo++(num g++(tCol++statL x)):=by unfold headR tGo tCol;simp
theorem rouL_head {g:Int} {x:Rou} (hs:x.status=1∨x.status=2∨x.status=3) (h1:x.status≠2→x.key=0) (hk:-9223372036854775808≤x.key∧x.key<9223372036854775808):rouL (headR g x)=(⟨x.status,x.key,[],[],[]⟩,true):=by
 unfold rouL
 rw [headR_eq,← List.append_assoc,cut_col (by
  simp only [List.mem_append,not_or]
  exact ⟨by decide,num_no g rfl (by decide)⟩)]
 simp only [Bool.true_eq_false,if_false]
 unfold rouL1
 rcases hs with h | h | h
 ·rw [show statL x=tRdy from by unfold statL;rw [if_pos h];rfl,h,h1 (by omega)];rfl
 ·rw [show statL x=tBlk++num x.key from by unfold statL;rw [if_neg (by omega),if_neg (by omega)];rfl,h,cutp_app]
  simp only [if_true]
  rw [unnum_num hk.1 hk.2];rfl
 ·rw [show statL x=tDone from by unfold statL;rw [if_neg (by omega),if_pos h];rfl,h,h1 (by omega)];rfl
theorem posL_defL {m:Img} {many:Int} {d:Dfr} (hm:OkI m) (hw:Wf d.arg) (hn:many≤1000000) (h:callD m many d=true):posL m (defL m d)=some d:=by
 obtain ⟨a1,a2,a3,⟨f,a4,a5,a6⟩,a7,a8⟩:=callD_iff h
 have hlen:d.func<m.funcs.length:=by
  have:=(List.getElem?_eq_some_iff.1 a4).1
  omega
 have hmn:=hm.n
 have e:defL m d=[100,101,102,101,114]++32::(num d.frame++32::(num d.func++32::(quo (nameAt m d.func)++(if d.hasArg=true then tWith++txt d.arg else [])))):=by unfold defL tWith;simp
 have e2:Lib.splitN (defL m d) [32] 4=[[100,101,102,101,114],num d.frame,num d.func,quo (nameAt m d.func)++(if d.hasArg=true then tWith++txt d.arg else [])]:=by
  unfold Lib.splitN
  have hl:3≤(defL m d).length:=by rw [e];simp only [List.length_append,List.length_cons,List.length_nil];omega
  rw [show min 4 ((defL m d).length+1)-1=3 from by omega,e]
  rw [splitK_first (by decide),splitK_first (num_no _ rfl (by decide)),splitK_first (num_no _ rfl (by decide))]
  rfl
 unfold posL
 rw [e2]
 simp only
 unfold posL1
 rw [unnum_num (by omega) (by omega),unnum_num (by omega) (by omega)]
 simp only
 rw [if_neg (by omega),cutp_app]
 simp only [Bool.true_eq_false,if_false]
 unfold posL2
 cases ha:d.hasArg with
 | false=>
  have:=a8 ha
  simp only [Bool.false_eq_true,if_false,if_true]
  rw [← this,← ha]
 | true=>
  simp only [if_true]
  rw [if_neg (by unfold tWith;simp),cutp_app]
  simp only
  rw [rvs_txt (a7 ha).1 hw,if_pos rfl,← ha]
def noP (p:Bytes) (l:List Bytes):Prop:=∀x r,l=x::r→(cutp p x).2=false
theorem noP_cons {p x:Bytes} {r:List Bytes} (h:(cutp p x).2=false):noP p (x::r):=fun y s e=>by injection e with e1 e2;rw [← e1];exact h
theorem noP_app {p:Bytes} {a b:List Bytes} (ha:noP p a) (hb:noP p b):noP p (a++b):=by
 cases a with
 | nil=>exact hb
 | cons x r=>exact noP_cons (ha x r rfl)
theorem moreL_lines {ls rest:List Bytes} (h:noP t4 rest):moreL ((ls.map sp2).map sp2++rest)=(ls.map sp2,rest):=by
 induction ls with
 | nil=>
  cases rest with
  | nil=>rfl
  | cons x r=>
   show moreL (x::r)=_
   rw [moreL,if_neg (by rw [h x r rfl];decide)];rfl
 | cons x l ih=>
  rw [List.map_cons,List.map_cons,List.cons_append,moreL,show sp2 (sp2 x)=t4++x from rfl,cutp_app,if_pos rfl,ih]
  rfl
theorem locL_sp (f:Fun) (l:Loc) :∃y,locL f l=sp2 y:=⟨num l.slot++[32]++quo (slotN f l.slot)++[32,61,32]++txt l.value,by unfold locL sp2;simp⟩
theorem locs_sp (f:Fun) (l:List Loc) :∃ys:List Bytes,l.map (locL f)=ys.map sp2:=by
 induction l with
 | nil=>exact ⟨[],rfl⟩
 | cons x l ih=>
  obtain ⟨ys,h⟩:=ih
  obtain ⟨y,hy⟩:=locL_sp f x
  exact ⟨y::ys,by rw [List.map_cons,List.map_cons,h,hy]⟩
theorem frmsL_no4 (m:Img) :∀(l:List Frm) (i:Nat),noP t4 ((frmsL m i l).map sp2)
 | [],_=>fun x r e=>by cases e
 | x::l,i=>by
  show noP t4 ((frmL m i x++frmsL m (i+1) l).map sp2)
  rw [List.map_append]
  refine noP_app ?_ (frmsL_no4 m l (i+1))
  unfold frmL
  split
  ·exact fun x r e=>by cases e
  ·exact noP_cons (by unfold headL;rfl)
theorem frmsR_lines {m:Img} (hm:OkI m) {rest:List Bytes} (h1:noP tFr rest) (h2:noP t4 rest) :∀(l:List Frm) (i n:Nat),(∀x∈l,WfX x)→(∀x∈l,fitb m x=true)→i+l.length≤170→l.length<n→frmsR m n ((frmsL m i l).map sp2++rest)=some (l,rest)
 | [],_,n+1,_,_,_,_=>by
  cases rest with
  | nil=>rfl
  | cons x r=>
   show frmsR m (n+1) (x::r)=_
   rw [frmsR,if_neg (by rw [h1 x r rfl];decide)]
 | x::l,i,n+1,hw,hb,hi,hn=>by
  obtain ⟨f0,f1,f,hf,hF⟩:=fitb_iff.1 (hb x (by simp))
  obtain ⟨ys,hys⟩:=locs_sp f x.locals
  rw [List.length_cons] at hi hn
  have ih:=frmsR_lines hm h1 h2 l (i+1) n (fun y hy=>hw y (by simp [hy])) (fun y hy=>hb y (by simp [hy])) (by omega) (by omega)
  have e:(frmsL m i (x::l)).map sp2++rest=sp2 (headL f i x)::((ys.map sp2).map sp2++((frmsL m (i+1) l).map sp2++rest)):=by
   show (frmL m i x++frmsL m (i+1) l).map sp2++rest=_
   rw [frmL_eq hf,hys,List.map_append,List.map_cons];simp
  have hr:=rfR_frmL (k:=(i:Int)) hm (hw x (by simp)) (by omega) (hb x (by simp))
  rw [frmL_eq hf,hys] at hr
  have ep:(cutp tFr (sp2 (headL f i x))).2=true:=by unfold headL;rfl
  have ed:(sp2 (headL f i x)).drop 2=headL f i x:=rfl
  rw [e,frmsR,if_pos ep,moreL_lines (noP_app (frmsL_no4 m l (i+1)) h2)]
  simp only
  rw [ed,hr]
  simp only [if_true]
  rw [ih]
  rfl
theorem dfrsR_lines {m:Img} {many:Int} (hm:OkI m) (hn:many≤1000000) {rest:List Bytes} (h1:noP tDef rest) :∀l:List Dfr,(∀d∈l,Wf d.arg)→(∀d∈l,callD m many d=true)→dfrsR m ((l.map (defL m)).map sp2++rest)=some (l,rest)
 | [],_,_=>by
  cases rest with
  | nil=>rfl
  | cons x r=>
   show dfrsR m (x::r)=_
   rw [dfrsR,if_neg (by rw [h1 x r rfl];decide)]
 | d::l,hw,hb=>by
  have ih:=dfrsR_lines hm hn h1 l (fun y hy=>hw y (by simp [hy])) (fun y hy=>hb y (by simp [hy]))
  rw [List.map_cons,List.map_cons,List.cons_append,dfrsR,if_pos (by unfold defL;rfl),show (sp2 (defL m d)).drop 2=defL m d from rfl,posL_defL hm (hw d (by simp)) hn (hb d (by simp)),ih]
  rfl
theorem pansR_lines {rest:List Bytes} (h1:noP t2 rest) :∀l:List Pan,(∀p∈l,WfP p)→(∀p∈l,okP p=true)→pansR ((l.map shown).map sp2++rest)=some (l,rest)
 | [],_,_=>by
  cases rest with
  | nil=>rfl
  | cons x r=>
   show pansR (x::r)=_
   rw [pansR,if_neg (by rw [h1 x r rfl];decide)]
 | p::l,hw,hb=>by
  have ih:=pansR_lines h1 l (fun y hy=>hw y (by simp [hy])) (fun y hy=>hb y (by simp [hy]))
  rw [List.map_cons,List.map_cons,List.cons_append,pansR,if_pos (by rfl),show (sp2 (shown p)).drop 2=shown p from rfl,rlP_shown (hb p (by simp)) (hw p (by simp)).v,if_pos rfl,ih]
  rfl
theorem shown_head (p:Pan) (h:okP p=true) :∃c r,shown p=c::r∧(c=101∨c=102∨c=112):=by
 have h4:=@okP_4 p h
 unfold shown baseP
 split
 ·exact ⟨101,_,rfl,.inl rfl⟩
 ·split
  ·rename_i h
   obtain ⟨a,b⟩:=h4 h
   unfold faultT
   rcases (show p.value.int=1∨p.value.int=2∨p.value.int=3 by omega) with e | e | e<;>rw [e]<;>exact ⟨102,_,rfl,.inr (.inl rfl)⟩
  ·exact ⟨112,_,rfl,.inr (.inr rfl)⟩
theorem sp2_no {q:Bytes} {e c:UInt8} {r:Bytes} (h:e≠c):(cutp (32::32::e::q) (sp2 (c::r))).2=false:=by
 show (cutp (32::32::e::q) (32::32::c::r)).2=false
 rw [cutp_cons,cutp_cons,cutp_head h];rfl
theorem pans_noP {q:Bytes} {e:UInt8} (he:e≠101∧e≠102∧e≠112) {l:List Pan} (h :∀p∈l,okP p=true):noP (32::32::e::q) ((l.map shown).map sp2):=by
 cases l with
 | nil=>exact fun x r e=>by cases e
 | cons p l=>
  obtain ⟨c,r,h1,h2⟩:=shown_head p (h p (by simp))
  rw [List.map_cons,List.map_cons,h1]
  refine noP_cons (sp2_no ?_)
  rcases h2 with rfl | rfl | rfl
  ·exact he.1
  ·exact he.2.1
  ·exact he.2.2
theorem dfrs_noP (m:Img) {q:Bytes} {e:UInt8} (he:e≠100) (l:List Dfr):noP (32::32::e::q) ((l.map (defL m)).map sp2):=by
 cases l with
 | nil=>exact fun x r e=>by cases e
 | cons d l=>
  rw [List.map_cons,List.map_cons]
  exact noP_cons (by unfold defL;exact sp2_no he)
theorem memR_lines {m:Img} {x:Rou} (hm:OkI m) (hx:WfR x) (h:Go0 m x) {rest:List Bytes} (h1:noP t2 rest):memR m ((partsL m x).map sp2++rest)=some (x.frames,x.defers,x.panics,rest):=by
 have hf:=h.f
 have n2 :∀{q:Bytes},noP (32::32::q) rest:=fun {q} y r e=>by
  have:=h1 y r e
  unfold cutp at this ⊢
  split at this
  ·cases this
  ·rename_i h2
   rw [if_neg]
   intro h3
   refine h2 ?_
   have:=congrArg (List.take 2) h3
   rw [List.take_take] at this
   simpa [t2] using this
 have e:(partsL m x).map sp2++rest=(frmsL m 0 x.frames).map sp2++((x.defers.map (defL m)).map sp2++((x.panics.map shown).map sp2++rest)):=by unfold partsL;simp
 have p1:=@pans_noP
 have a1:noP tDef ((x.panics.map shown).map sp2++rest):=noP_app (pans_noP (by decide) h.pb) n2
 have a2:noP tFr ((x.defers.map (defL m)).map sp2++((x.panics.map shown).map sp2++rest)):=noP_app (dfrs_noP m (by decide) _) (noP_app (pans_noP (by decide) h.pb) n2)
 have a3:noP t4 ((x.defers.map (defL m)).map sp2++((x.panics.map shown).map sp2++rest)):=noP_app (dfrs_noP m (by decide) _) (noP_app (pans_noP (by decide) h.pb) n2)
 have hl:x.frames.length<((frmsL m 0 x.frames).map sp2++((x.defers.map (defL m)).map sp2++((x.panics.map shown).map sp2++rest))).length+1:=by
  have :∀(l:List Frm) (i:Nat),(∀y∈l,fitb m y=true)→l.length≤(frmsL m i l).length:=by
   intro l
   induction l with
   | nil=>intro i _;exact Nat.le_refl _
   | cons y l ih=>
    intro i hb
    obtain ⟨f0,f1,f,hf,hF⟩:=fitb_iff.1 (hb y (by simp))
    have:=ih (i+1) fun z hz=>hb z (by simp [hz])
    show _≤(frmL m i y++frmsL m (i+1) l).length
    rw [frmL_eq hf,List.length_append,List.length_cons,List.length_cons]
    omega
  have:=this x.frames 0 h.fb
  rw [List.length_append,List.length_map]
  omega
 rw [e]
 unfold memR
 rw [frmsR_lines hm a2 a3 x.frames 0 _ hx.f h.fb (by omega) hl]
 simp only [Option.bind_some]
 rw [dfrsR_lines hm (many:=x.frames.length) (by omega) a1 x.defers hx.d h.db]
 simp only [Option.bind_some]
 rw [pansR_lines h1 x.panics hx.p h.pb]
 rfl
def rousLn (m:Img):Nat→List Rou→List Bytes
 | _,[]=>[]
 | i,x::r=>linR m i x++rousLn m (i+1) r
theorem rousLn_no2 (m:Img) (l:List Rou) (i:Nat):noP t2 (rousLn m i l++[[]]):=by
 cases l with
 | nil=>exact noP_cons rfl
 | cons x l=>exact noP_cons (by unfold headR;rfl)
theorem goes_key {m:Img} {x:Rou} (h:goesR m x=true):x.status≠2→x.key=0:=by
 intro h2
 by_cases h3:x.status=3
 ·rw [goes_3 h3] at h
  simp only [Bool.and_eq_true,decide_eq_true_eq] at h
  exact h.2
 ·by_cases h1:x.status=1∧x.key=0
  ·exact h1.2
  ·rw [goes_no h3 (by rintro (h | h);exact h2 h;exact h1 h)] at h;cases h
theorem rousR_lines {m:Img} (hm:OkI m) :∀(l:List Rou) (i n:Nat),(∀x∈l,WfR x)→(∀x∈l,goesR m x=true)→l.length<n→rousR m n (rousLn m i l++[[]])=some (l,[[]])
 | [],_,n+1,_,_,_=>rfl
 | x::l,i,n+1,hw,hb,hn=>by
  rw [List.length_cons] at hn
  have ih:=rousR_lines hm l (i+1) n (fun y hy=>hw y (by simp [hy])) (fun y hy=>hb y (by simp [hy])) (by omega)
  have hx:=hw x (by simp)
  have hg:=hb x (by simp)
  have h0:=Go0.of hg
  have e:rousLn m i (x::l)++[[]]=headR i x::((partsL m x).map sp2++(rousLn m (i+1) l++[[]])):=by
   show (headR i x::(partsL m x).map sp2)++rousLn m (i+1) l++[[]]=_
   simp
  rw [e,rousR,if_pos (by unfold headR;rfl),rouL_head h0.st (goes_key hg) hx.k]
  simp only [if_true]
  rw [memR_lines hm hx h0 (rousLn_no2 m l (i+1))]
  simp only [Option.bind_some]
  rw [ih]
  rfl
theorem headL_nl {f:Fun} {k:Int} {x:Frm} (h:0≤x.mode∧x.mode≤3):(10:UInt8) ∉ headL f k x:=by
 have:(10:UInt8) ∉ modeW x.mode:=by rcases (show x.mode=0∨x.mode=1∨x.mode=2∨x.mode=3 by omega) with e | e | e | e<;>rw [e]<;>decide
 unfold headL
 simp only [List.mem_append,not_or]
 exact ⟨⟨⟨⟨⟨⟨⟨⟨⟨by decide,num_nl _⟩,by decide⟩,num_nl _⟩,by decide⟩,quo_nl _⟩,by decide⟩,num_nl _⟩,by decide⟩,this⟩
theorem locL_nl (f:Fun) (l:Loc):(10:UInt8) ∉ locL f l:=by
 unfold locL
 simp only [List.mem_append,not_or]
 exact ⟨⟨⟨⟨⟨by decide,num_nl _⟩,by decide⟩,quo_nl _⟩,by decide⟩,txt_nl _⟩
theorem frmsL_nl {m:Img} :∀(l:List Frm) (i:Nat),(∀x∈l,WfX x)→(∀x∈l,fitb m x=true)→∀s∈frmsL m i l,(10:UInt8) ∉ s
 | [],_,_,_,s,hs=>by cases hs
 | x::l,i,hw,hb,s,hs=>by
  obtain ⟨f0,f1,f,hf,hF⟩:=fitb_iff.1 (hb x (by simp))
  have hs:s∈frmL m i x++frmsL m (i+1) l:=hs
  rw [frmL_eq hf] at hs
  rcases List.mem_append.1 hs with hs | hs
  ·rcases List.mem_cons.1 hs with rfl | hs
   ·exact headL_nl ⟨(hw x (by simp)).m,f1⟩
   ·obtain ⟨y,_,rfl⟩:=List.mem_map.1 hs
    exact locL_nl f y
  ·exact frmsL_nl l (i+1) (fun y hy=>hw y (by simp [hy])) (fun y hy=>hb y (by simp [hy])) s hs
theorem defL_nl (m:Img) (d:Dfr):(10:UInt8) ∉ defL m d:=by
 unfold defL
 simp only [List.mem_append,not_or]
 refine ⟨⟨⟨⟨⟨⟨by decide,num_nl _⟩,by decide⟩,num_nl _⟩,by decide⟩,quo_nl _⟩,?_⟩
 split
 ·simp only [List.mem_append,not_or];exact ⟨by decide,txt_nl _⟩
 ·simp
theorem headR_nl (g:Int) (x:Rou):(10:UInt8) ∉ headR g x:=by
 unfold headR statL
 simp only [List.mem_append,not_or]
 refine ⟨⟨⟨by decide,num_nl _⟩,by decide⟩,?_⟩
 split
 ·decide
 ·split
  ·decide
  ·simp only [List.mem_append,not_or];exact ⟨by decide,num_nl _⟩
theorem linR_nl {m:Img} {x:Rou} (g:Int) (hx:WfR x) (h:Go0 m x) :∀s∈linR m g x,(10:UInt8) ∉ s:=by
 intro s hs
 rcases List.mem_cons.1 hs with rfl | hs
 ·exact headR_nl g x
 ·obtain ⟨y,hy,rfl⟩:=List.mem_map.1 hs
  have:(10:UInt8) ∉ y:=by
   unfold partsL at hy
   rcases List.mem_append.1 hy with hy | hy
   ·rcases List.mem_append.1 hy with hy | hy
    ·exact frmsL_nl _ _ hx.f h.fb _ hy
    ·obtain ⟨d,_,rfl⟩:=List.mem_map.1 hy
     exact defL_nl m d
   ·obtain ⟨p,_,rfl⟩:=List.mem_map.1 hy
    exact shown_nl p
  show (10:UInt8) ∉ 32::32::y
  simp only [List.mem_cons,not_or]
  exact ⟨by decide,by decide,this⟩
theorem rousLn_nl {m:Img} :∀(l:List Rou) (i:Nat),(∀x∈l,WfR x)→(∀x∈l,goesR m x=true)→∀s∈rousLn m i l,(10:UInt8) ∉ s
 | [],_,_,_,s,hs=>by cases hs
 | x::l,i,hw,hb,s,hs=>by
  rcases List.mem_append.1 hs with hs | hs
  ·exact linR_nl i (hw x (by simp)) (Go0.of (hb x (by simp))) s hs
  ·exact rousLn_nl l (i+1) (fun y hy=>hw y (by simp [hy])) (fun y hy=>hb y (by simp [hy])) s hs
theorem rousT_unl (m:Img) :∀(l:List Rou) (i:Nat),rousT m i l=unl10 (rousLn m i l)
 | [],_=>rfl
 | x::l,i=>by
  show nlT (linR m i x)++rousT m (i+1) l=unl10 (linR m i x++rousLn m (i+1) l)
  rw [rousT_unl m l (i+1),unl10_app];rfl
theorem spl_repT {m:Img} {s:Sta} (hs:WfS s) (hf:fitS m s=true):spl (repT m s)=(hdS s::rousLn m 0 s.routines,[]):=by
 obtain ⟨h1,h2,h3,h4,h5⟩:=fitS_iff hf
 have e:repT m s=unl10 (hdS s::rousLn m 0 s.routines)++[]:=by
  unfold repT
  rw [headS_hd,rousT_unl,unl10_cons];simp
 rw [e]
 refine spl_unl _ _ (fun x hx=>?_) (by simp)
 rcases List.mem_cons.1 hx with rfl | hx
 ·unfold hdS
  simp only [List.mem_append,not_or]
  exact ⟨by decide,(out_word h1.1 h1.2).2.1,by decide,num_nl _,by decide,num_nl _⟩
 ·exact rousLn_nl _ _ hs.r h5 x hx
theorem staR_repT {m:Img} {s:Sta} (hm:OkI m) (hs:WfS s) (hf:fitS m s=true):staR m (Lib.split (repT m s) [10])=some s:=by
 obtain ⟨h1,h2,h3,h4,h5⟩:=fitS_iff hf
 rw [split_spl,spl_repT hs hf]
 show staR m (hdS s::(rousLn m 0 s.routines++[[]]))=_
 have hl :∀(l:List Rou) (i:Nat),l.length≤(rousLn m i l).length:=by
  intro l
  induction l with
  | nil=>intro i;exact Nat.le_refl _
  | cons x l ih=>
   intro i
   have:=ih (i+1)
   show _≤(linR m i x++rousLn m (i+1) l).length
   rw [List.length_append,show (linR m i x).length=((partsL m x).map sp2).length+1 from rfl,List.length_cons]
   omega
 have:=hl s.routines 0
 rw [staR,if_pos (by unfold hdS;rw [cutp_app]),outL_hd h1 (by omega) h2,if_pos rfl,rousR_lines hm s.routines 0 _ hs.r h5 (by rw [List.length_append];omega)]
 rfl
theorem readR_repT {m:Img} {s:Sta} (hm:OkI m) (hs:WfS s) (hf:fitS m s=true) (hl:(repT m s).length≤300000):readR m (repT m s)=(s,0):=by
 unfold readR
 rw [if_neg (by omega),staR_repT hm hs hf]
 simp only
 rw [if_pos]
 unfold repR
 rw [if_pos hf,if_neg (by omega)]
theorem repT_inj {m:Img} {s t:Sta} (hm:OkI m) (hs:WfS s) (ht:WfS t) (fs:fitS m s=true) (ft:fitS m t=true) (h:repT m s=repT m t):s=t:=by
 have a:=staR_repT hm hs fs
 rw [h,staR_repT hm ht ft] at a
 injection a with a
 exact a.symm
end Go.AM

namespace Go.AM
open Go
structure HasD (prog:Prog):Prop extends HasT prog,HasG prog where
 f306:prog.fn 306=some pf306
 f316:prog.fn 316=some pf316
 f322:prog.fn 322=some pf322
 f260:prog.fn 260=some pf260
 f266:prog.fn 266=some pf266
 f317:prog.fn 317=some pf317
 f307:prog.fn 307=some pf307
 f308:prog.fn 308=some pf308
 f318:prog.fn 318=some pf318
 f304:prog.fn 304=none
 o304 :∀s:Bytes,s.length≤1000000000→prog.orac 304 [.s s,.s [10]]=some (.sl .ext ((Lib.split s [10]).map rowS))
 f323:prog.fn 323=none
 o323 :∀s:Bytes,s.length≤1000000000→prog.orac 323 [.s s,.s [32],.i .i64 4]=some (.sl .ext ((Lib.splitN s [32] 4).map rowS))
 f197:prog.fn 197=none
 o197 :∀s p:Bytes,s.length≤1000000000→prog.orac 197 [.s s,.s p]=some (.i .i64 (Lib.index s p))
section
variable {prog:Prog} (H:HasD prog)
include H
theorem c197i {s:Bytes} (hs:s.length≤1000000000) (p:Bytes):Pus prog 197 [.s s,.s p] (.i .i64 (Lib.index s p)):=Pus.orac H.f197 (H.o197 s p hs) rfl
theorem c304 {s:Bytes} (hs:s.length≤1000000000):Pus prog 304 [.s s,.s [10]] (.sl .ext ((Lib.split s [10]).map rowS)):=Pus.orac H.f304 (H.o304 s hs) rfl
theorem c323 {s:Bytes} (hs:s.length≤1000000000):Pus prog 323 [.s s,.s [32],.i .i64 4] (.sl .ext ((Lib.splitN s [32] 4).map rowS)):=Pus.orac H.f323 (H.o323 s hs) rfl
theorem c306 (s p:Bytes):Pus prog 306 [.s s,.s p] (.b (cutp p s).2):=by
 obtain ⟨x,rfl,h⟩:=p306 H.f306 (s0:=s) (prefix1:=p) (K:=fun x=>x=(cutp p s).2) (by
  unfold T306_0
  refine ⟨_,c46 H.toHas03 s p,?_⟩
  unfold cutp
  split<;>rename_i h<;>simp [h])
 exact h
theorem c322 (s p:Bytes) (hp:p.length≤1000000000):Pus prog 322 [.s s,.s p] (.s (cutp p s).1):=by
 obtain ⟨x,rfl,h⟩:=p322 H.f322 (s0:=s) (prefix1:=p) (K:=fun x=>x=(cutp p s).1) (by
  unfold T322_0
  refine ⟨_,c46 H.toHas03 s p,fun h=>?_,fun h=>?_⟩
  ·have h:s.take p.length=p:=by simpa using h
   refine ⟨by omega,?_,?_⟩
   ·have:=congrArg List.length h
    simp only [List.length_take] at this
    omega
   ·unfold cutp;rw [if_pos h];rfl
  ·have h:¬ s.take p.length=p:=by simpa using h
   unfold cutp;rw [if_neg h])
 exact h
theorem c316 (s p:Bytes) (hp:p.length≤1000000000):Pus prog 316 [.s s,.s p] (.s (cutp p s).1):=by
 obtain ⟨x,rfl,h⟩:=p316 H.f316 (s0:=s) (prefix1:=p) (K:=fun x=>x=(cutp p s).1) (by
  unfold T316_0
  exact ⟨_,c322 H s p hp,rfl⟩)
 exact h
theorem c266 {s p:Bytes} (hs:s.length≤1000000000) (hp:p.length≤1000):Pus prog 266 [.s s,.s p] (.tup [.s (Lib.cut s p).1,.s (Lib.cut s p).2.1,.b (Lib.cut s p).2.2]):=by
 obtain ⟨x,y,z,⟨rfl,rfl,rfl⟩,h⟩:=p266 H.f266 (s0:=s) (sep1:=p) (K:=fun x y z=>x=(Lib.cut s p).1∧y=(Lib.cut s p).2.1∧z=(Lib.cut s p).2.2) (by
  unfold T266_0
  refine ⟨_,c197i H hs p,fun h=>?_,fun h=>?_⟩
  ·have h1:=Lib.index_le s p
   have h2:=Lib.index_room s p (by omega)
   rw [wr_i64 (by omega) (by omega)]
   unfold Lib.cut
   rw [if_pos (by omega)]
   refine ⟨by omega,by omega,by omega,by omega,rfl,?_,rfl⟩
   congr 1
   omega
  ·unfold Lib.cut
   rw [if_neg (by omega)]
   exact ⟨rfl,rfl,rfl⟩)
 exact h
theorem c260 {s p:Bytes} (hs:s.length≤1000000000) (hp:p.length≤1000):Pus prog 260 [.s s,.s p] (.tup [.s (Lib.cut s p).1,.s (Lib.cut s p).2.1,.b (Lib.cut s p).2.2]):=by
 obtain ⟨x,y,z,⟨rfl,rfl,rfl⟩,h⟩:=p260 H.f260 (s0:=s) (sep1:=p) (K:=fun x y z=>x=(Lib.cut s p).1∧y=(Lib.cut s p).2.1∧z=(Lib.cut s p).2.2) (by
  unfold T260_0
  exact ⟨_,_,_,c266 H hs hp,rfl,rfl,rfl⟩)
 exact h
theorem c317 (s:Bytes):Pus prog 317 [.s s] (.tup [.i .i64 (unnum s).1,.b (decide ((unnum s).2=0))]):=by
 obtain ⟨x,y,⟨rfl,rfl⟩,h⟩:=p317 H.f317 (s0:=s) (K:=fun x y=>x=(unnum s).1∧y=decide ((unnum s).2=0)) (by
  unfold T317_0
  exact ⟨_,_,c21 H.toHas03 s,rfl,rfl⟩)
 exact h
theorem c307 {s:Bytes} (hs:s.length≤1000000):PuN prog 307 [.s s] (fun r=>r=.tup [(outL s).1.avo .full,.b (outL s).2]):=by
 refine (p307 H.f307 (s0:=s) (K:=fun x y=>x=(outL s).1∧y=(outL s).2) ?_).to ?_
 ·unfold T307_0 T307_1 T307_2
  have l0:(cutp tOut s).1.length≤1000000:=by unfold cutp;split<;>simp<;>omega
  have lc :∀(x p:Bytes),x.length≤1000000→(Lib.cut x p).1.length≤1000000∧(Lib.cut x p).2.1.length≤1000000:=by
   intro x p hx
   unfold Lib.cut
   split<;>simp<;>omega
  have l1:=lc _ tFail l0
  refine ⟨_,c316 H s tOut (by decide),_,_,_,c260 H (p:=tFail) (by omega) (by decide),?_⟩
  unfold T307_3
  refine ⟨_,_,_,c260 H (p:=tStep) (by omega) (by decide),?_⟩
  unfold T307_4
  refine ⟨_,_,c211 H.toHasT _,?_⟩
  unfold T307_5 T307_6 T307_7
  refine ⟨_,_,c317 H _,?_⟩
  unfold T307_8
  refine ⟨_,_,c317 H _,?_⟩
  unfold T307_9 outL outL1 outL2
  simp only
  generalize Lib.cut (cutp tOut s).1 tFail=a
  generalize Lib.cut a.2.1 tStep=b
  cases a.2.2<;>cases b.2.2<;>by_cases e1:(unnum b.1).2=0<;>by_cases e2:(unnum b.2.1).2=0<;>simp [e1,e2]
 ·rintro r ⟨x,y,rfl,rfl,rfl⟩
  rfl
theorem c308 {s:Bytes} (hs:s.length≤1000000):PuN prog 308 [.s s] (fun r=>r=.tup [.ag [.i .u8 (rouL s).1.status,.i .i64 (rouL s).1.key,.sl .full [],.sl .full [],.sl .full []],.b (rouL s).2]):=by
 have hz:(rouL s).1.frames=[]∧(rouL s).1.defers=[]∧(rouL s).1.panics=[]:=by
  unfold rouL rouL1
  repeat' split
  all_goals exact ⟨rfl,rfl,rfl⟩
 refine (p308 H.f308 (s0:=s) (K:=fun x y=>x=(rouL s).1∧y=(rouL s).2) ?_).to ?_
 ·unfold T308_0
  refine ⟨_,_,_,c260 H (p:=tCol) (by omega) (by decide),_,_,c36 H.toHas03 _ tBlk,fun h=>?_,fun h=>⟨fun h2=>⟨_,_,c21 H.toHas03 _,?_⟩,fun h2=>⟨fun h3=>?_,fun h3=>?_⟩⟩⟩
  ·have h:(Lib.cut s tCol).2.2=false:=by simpa using h
   unfold rouL;rw [if_pos h];exact ⟨rfl,rfl⟩
  all_goals
   have h:¬ (Lib.cut s tCol).2.2=false:=by simpa using h
   unfold rouL;rw [if_neg h];unfold rouL1
  ·rw [if_pos h2];exact ⟨rfl,rfl⟩
  ·rw [if_neg (by rw [h2];exact Bool.false_ne_true),if_pos (show _=tRdy from h3)];exact ⟨rfl,rfl⟩
  ·rw [if_neg (by rw [h2];exact Bool.false_ne_true),if_neg (show ¬ _=tRdy from h3)];exact ⟨rfl,rfl⟩
 ·rintro r ⟨x,y,rfl,rfl,rfl⟩
  rw [hz.1,hz.2.1,hz.2.2]
  rfl
end
end Go.AM

namespace Go.AM
open Go
section
variable {prog:Prog} (H:HasQ prog)
include H
end
end Go.AM

namespace Go.AM
open Go
section
variable {prog:Prog} (H:HasQ prog)
include H
end
end Go.AM

namespace Go.AM
open Go
theorem splitK_len (p:Bytes) (v:Nat) :∀(k:Nat) (s:Bytes),(Lib.splitK p v k s).length≤k+1
 | 0,_=>Nat.le_refl _
 | k+1,s=>by
  unfold Lib.splitK
  split
  ·simp
  ·have:=splitK_len p v k (s.drop ((Lib.index s p).toNat+p.length))
   simp only [List.length_cons];omega
theorem splitK_mem (p:Bytes) :∀(k:Nat) (s x:Bytes),x∈Lib.splitK p 0 k s→x.length≤s.length
 | 0,s,x,h=>by
  simp only [Lib.splitK,List.mem_singleton] at h
  rw [h];exact Nat.le_refl _
 | k+1,s,x,h=>by
  unfold Lib.splitK at h
  split at h
  ·rw [List.mem_singleton.1 h];exact Nat.le_refl _
  ·rcases List.mem_cons.1 h with rfl | h
   ·simp;omega
   ·have:=splitK_mem p k _ x h
    simp at this
    omega
noncomputable def sameR (a b:Rou):Bool:=@decide (a=b) (Classical.propDecidable _)
theorem sameR_true {v w:Rou}:sameR v w=true↔v=w:=by unfold sameR;simp
theorem sameR_false {v w:Rou}:sameR v w=false↔v≠w:=by rw [← Bool.not_eq_true,sameR_true]
noncomputable def sameS (a b:Sta):Bool:=@decide (a=b) (Classical.propDecidable _)
theorem sameS_true {v w:Sta}:sameS v w=true↔v=w:=by unfold sameS;simp
theorem sameS_false {v w:Sta}:sameS v w=false↔v≠w:=by rw [← Bool.not_eq_true,sameS_true]
noncomputable def sameC (a b:List Pan):Bool:=@decide (a=b) (Classical.propDecidable _)
theorem sameC_true {v w:List Pan}:sameC v w=true↔v=w:=by unfold sameC;simp
theorem sameC_false {v w:List Pan}:sameC v w=false↔v≠w:=by rw [← Bool.not_eq_true,sameC_true]
section
variable {prog:Prog}
theorem c318 (H:HasD prog) {m:Img} (hm:OkI m) {s:Bytes} (hs:s.length≤1000000) :∃d b,Pus prog 318 [m.av,.s s] (.tup [Dfr.av d,.b b])∧(b=true→posL m s=some d)∧(b=false→posL m s=none):=by
 obtain ⟨x,y,⟨h1,h2⟩,h⟩:=p318 H.f318 (m0:=m) (s1:=s) (K:=fun x y=>(y=true→posL m s=some x)∧(y=false→posL m s=none)) (by
  have no :∀{d:Dfr},posL m s=none→(Eq false true→posL m s=some d)∧(Eq false false→posL m s=none):=fun h=>⟨fun h=>(by cases h),fun _=>h⟩
  unfold T318_0 T318_1 T318_2
  refine ⟨_,c323 H (by omega),?_⟩
  have hl:(Lib.splitN s [32] 4).length≤4:=Nat.le_trans (splitK_len _ _ _ _) (by omega)
  have hmm :∀x∈Lib.splitN s [32] 4,x.length≤1000000:=fun x hx=>Nat.le_trans (splitK_mem _ _ _ _ hx) hs
  unfold T318_3
  generalize hw:Lib.splitN s [32] 4=w at hl hmm
  refine ⟨fun h=>no ?_,fun h=>?_⟩
  ·unfold posL;rw [hw]
   match w,h with
   | [],_=>rfl
   | [_],_=>rfl
   | [_,_],_=>rfl
   | [_,_,_],_=>rfl
   | _::_::_::_::r,h=>exact absurd h (by simp only [List.length_cons];omega)
  match w,hl,h,hw,hmm with
  | [],_,h,_,_=>exact absurd (by simp only [List.length_cons,List.length_nil];omega) h
  | [_],_,h,_,_=>exact absurd (by simp only [List.length_cons,List.length_nil];omega) h
  | [_,_],_,h,_,_=>exact absurd (by simp only [List.length_cons,List.length_nil];omega) h
  | [_,_,_],_,h,_,_=>exact absurd (by simp only [List.length_cons,List.length_nil];omega) h
  | _::_::_::_::_::r,hl,_,_,_=>simp only [List.length_cons] at hl;omega
  | [z,a,b,c],_,_,hw,hmm=>
  have e:posL m s=posL1 m a b c:=by unfold posL;rw [hw]
  have hc:c.length≤1000000:=hmm c (by simp)
  rw [e] at no ⊢
  unfold T318_4 T318_5
  refine ⟨a,rfl,_,_,c317 H a,?_⟩
  unfold T318_6
  refine ⟨b,rfl,_,_,c317 H b,?_⟩
  unfold T318_7
  refine ⟨fun h=>no ?_,fun h1=>⟨fun h=>no ?_,fun h2=>⟨fun h=>no ?_,fun h3=>⟨fun h=>no ?_,fun h4=>?_⟩⟩⟩⟩
  ·unfold posL1;rw [if_pos (.inl (by simpa using h))]
  ·unfold posL1;rw [if_pos (.inr (.inl (by simpa using h)))]
  ·unfold posL1;rw [if_pos (.inr (.inr (.inl h)))]
  ·unfold posL1;rw [if_pos (.inr (.inr (.inr h)))]
  have h1:(unnum a).2=0:=by simpa using h1
  have h2:(unnum b).2=0:=by simpa using h2
  simp only at h3 h4
  have hn:(unnum b).1.toNat<m.funcs.length:=by omega
  have hcnd:¬ ((unnum a).2≠0∨(unnum b).2≠0∨(unnum b).1<0∨(m.funcs.length:Int)≤(unnum b).1):=by omega
  have hq:quoR (m.funcs[(unnum b).1.toNat]).name=(quo (nameAt m (unnum b).1),0):=by
   have:=(hm.f _ (List.getElem_mem hn)).1
   unfold quoR nameAt
   rw [if_neg (by omega),List.getElem?_eq_getElem hn,Option.getD_some]
  unfold T318_8
  refine ⟨by simp only;omega,_,List.getElem?_eq_getElem hn,_,_,c11 H.toHas03 _,c,rfl,_,_,c36 H.toHas03 _ _,?_⟩
  rw [hq]
  refine ⟨fun h=>absurd rfl h,fun _=>⟨fun h=>no ?_,fun h=>?_⟩⟩
  ·unfold posL1;rw [if_neg hcnd,if_pos (by simpa using h)]
  have hcut:¬ (cutp (quo (nameAt m (unnum b).1)) c).2=false:=by simpa using h
  have e2:posL1 m a b c=posL2 (unnum a).1 (unnum b).1 (cutp (quo (nameAt m (unnum b).1)) c).1:=by unfold posL1;rw [if_neg hcnd,if_neg hcut]
  rw [e2] at no ⊢
  have hr:(cutp (quo (nameAt m (unnum b).1)) c).1.length≤1000000:=by unfold cutp;split<;>simp<;>omega
  generalize (cutp (quo (nameAt m (unnum b).1)) c).1=r at no hr
  unfold T318_9
  refine ⟨fun h=>?_,fun h=>⟨_,c316 H r tWith (by decide),_,_,c74 H.toHas38 ?_,?_,?_⟩⟩
  ·unfold posL2;rw [if_pos h];exact ⟨fun _=>rfl,fun h=>by cases h⟩
  ·unfold cutp;split<;>simp<;>omega
  ·intro h3
   have h3:=of_decide_eq_true h3
   unfold posL2;rw [if_neg h,if_pos h3]
  ·intro h3
   have h3:=of_decide_eq_false h3
   unfold posL2;rw [if_neg h,if_neg h3])
 exact ⟨x,y,h,h1,h2⟩
theorem c170s (H:HasQ prog) {a b:List Pan} (hl:a.length≤9223372036854775807) (hw :∀p∈a,Wf p.value):Pus prog 170 [.sl .ext (a.map Pan.row),.sl .ext (b.map Pan.row)] (.b (sameC a b)):=by
 obtain ⟨x,rfl,h⟩:=p170 H.f170 (a0:=a) (b1:=b) (K:=fun x=>x=sameC a b) (by
  have no :∀{p:Prop},(a=b→p)→¬p→false=sameC a b:=fun h1 h2=>(sameC_false.2 fun h=>h2 (h1 h)).symm
  unfold T170_0
  refine ⟨fun h=>no (fun e=>by rw [e]) h,fun h P hP=>?_⟩
  have h5:a.length=b.length:=by omega
  refine loop_inv0 (P:=P) a.length (fun i=>a.take i=b.take i) (by simp) (fun hI=>hP _ ?_) (fun i hi hI ihP=>hP _ ?_)
  ·unfold T170_1 T170_2
   refine ⟨fun h=>absurd h (by omega),fun _=>?_⟩
   rw [List.take_length,h5,List.take_length] at hI
   exact (sameC_true.2 hI).symm
  ·have hi2:i<b.length:=by omega
   unfold T170_1
   refine ⟨fun _=>⟨by omega,_,get_at hi,by omega,_,get_at hi2,_,c160 H.toHasP (hw _ (List.getElem_mem hi)),fun h7=>no (p:=a[i]=b[i]) (fun e=>by subst e;rfl) (fun e=>by rw [sameP_true.2 e] at h7;cases h7),fun h7=>?_⟩,fun h=>absurd (show (i:Int)<a.length by omega) h⟩
   rw [wr_i64 (by omega) (by omega)]
   refine ihP ?_
   have e:a[i]=b[i]:=sameP_true.1 (by simpa using h7)
   rw [List.take_succ_eq_append_getElem hi,List.take_succ_eq_append_getElem hi2,hI,e])
 exact h
theorem c314 (H:HasT prog) (hf:prog.fn 314=some pf314) {a b:Rou} (ha:WfR0 a):Pus prog 314 [a.av,b.av] (.b (sameR a b)):=by
 obtain ⟨x,rfl,h⟩:=p314 hf (a0:=a) (b1:=b) (K:=fun x=>x=sameR a b) (by
  have no :∀{p:Prop},(a=b→p)→¬p→false=sameR a b:=fun h1 h2=>(sameR_false.2 fun h=>h2 (h1 h)).symm
  have hfl:=ha.fl;have hdl:=ha.dl
  unfold T314_0 T314_1
  refine ⟨fun h=>no (fun e=>by rw [e]) h,fun e1=>⟨fun h=>no (fun e=>by rw [e]) h,fun e2=>⟨fun h=>no (fun e=>by rw [e]) h,fun e3=>⟨fun h=>no (fun e=>by rw [e]) h,fun e4=>⟨_,c170s H.toHasQ ha.pl fun p hp=>(ha.p p hp).v,fun h=>no (p:=a.panics=b.panics) (fun e=>by rw [e]) (fun e=>by rw [sameC_true.2 e] at h;cases h),fun e5=>?_⟩⟩⟩⟩⟩
  have e5:a.panics=b.panics:=sameC_true.1 (by simpa using e5)
  unfold T314_2
  intro P hP
  refine loop_inv0 (P:=P) a.frames.length (fun i=>a.frames.take i=b.frames.take i) (by simp) (fun hI=>hP _ ?_) (fun i hi hI ihP=>hP _ ?_)
  ·unfold T314_3 T314_4
   refine ⟨fun h=>absurd h (by omega),fun _ P hP=>?_⟩
   have e3':a.frames.length=b.frames.length:=by omega
   rw [List.take_length,e3',List.take_length] at hI
   refine loop_inv0 (P:=P) a.defers.length (fun i=>a.defers.take i=b.defers.take i) (by simp) (fun hJ=>hP _ ?_) (fun i hi hJ ihP=>hP _ ?_)
   ·unfold T314_5 T314_6
    refine ⟨fun h=>absurd h (by omega),fun _=>?_⟩
    have e4':a.defers.length=b.defers.length:=by omega
    rw [List.take_length,e4',List.take_length] at hJ
    refine (sameR_true.2 ?_).symm
    have e1:=Decidable.not_not.1 e1
    have e2:=Decidable.not_not.1 e2
    cases a;cases b
    simp only at e1 e2 e5 hI hJ
    rw [e1,e2,e5,hI,hJ]
   ·have hi2:i<b.defers.length:=by omega
    unfold T314_5
    refine ⟨fun _=>⟨by omega,_,get_at hi,by omega,_,get_at hi2,fun h=>no (p:=a.defers[i].frame=b.defers[i].frame) (fun e=>by subst e;rfl) h,fun h1=>⟨fun h=>no (p:=a.defers[i].func=b.defers[i].func) (fun e=>by subst e;rfl) h,fun h2=>⟨fun h=>no (p:=a.defers[i].hasArg=b.defers[i].hasArg) (fun e=>by subst e;rfl) h,fun h3=>⟨_,c78 H.toHas38 (ha.d _ (List.getElem_mem hi)) _,fun h=>no (p:=a.defers[i].arg=b.defers[i].arg) (fun e=>by subst e;rfl) (sameV_false.1 (by simpa using h)),fun h4=>?_⟩⟩⟩⟩,fun h=>absurd (show (i:Int)<a.defers.length by omega) h⟩
    rw [wr_i64 (by omega) (by omega)]
    refine ihP ?_
    have e:a.defers[i]=b.defers[i]:=by
     have h1:=Decidable.not_not.1 h1
     have h2:=Decidable.not_not.1 h2
     have h3:=Decidable.not_not.1 h3
     have h4:=sameV_true.1 (show sameV _ _=true by simpa using h4)
     revert h1 h2 h3 h4
     generalize a.defers[i]=x
     generalize b.defers[i]=y
     intro h1 h2 h3 h4
     cases x;cases y
     simp only at h1 h2 h3 h4
     rw [h1,h2,h3,h4]
    rw [List.take_succ_eq_append_getElem hi,List.take_succ_eq_append_getElem hi2,hJ,e]
  ·have hi2:i<b.frames.length:=by omega
   unfold T314_3
   refine ⟨fun _=>⟨by omega,_,get_at hi,by omega,_,get_at hi2,_,c88 H.toHasF (ha.f _ (List.getElem_mem hi)),fun h=>no (p:=a.frames[i]=b.frames[i]) (fun e=>by subst e;rfl) (sameX_false.1 (by simpa using h)),fun h=>?_⟩,fun h=>absurd (show (i:Int)<a.frames.length by omega) h⟩
   rw [wr_i64 (by omega) (by omega)]
   refine ihP ?_
   have e:a.frames[i]=b.frames[i]:=sameX_true.1 (by simpa using h)
   rw [List.take_succ_eq_append_getElem hi,List.take_succ_eq_append_getElem hi2,hI,e])
 exact h
theorem c302 (H:HasT prog) (hf:prog.fn 314=some pf314) (hf2:prog.fn 302=some pf302) {a b:Sta} (ha:WfS0 a):Pus prog 302 [a.av,b.av] (.b (sameS a b)):=by
 obtain ⟨x,rfl,h⟩:=p302 hf2 (a0:=a) (b1:=b) (K:=fun x=>x=sameS a b) (by
  have no :∀{p:Prop},(a=b→p)→¬p→false=sameS a b:=fun h1 h2=>(sameS_false.2 fun h=>h2 (h1 h)).symm
  have hl:=ha.n
  unfold T302_0
  refine ⟨fun h=>no (fun e=>by rw [e]) h,fun e1=>⟨fun h=>no (fun e=>by rw [e]) h,fun e2=>⟨fun h=>no (fun e=>by rw [e]) h,fun e3=>⟨fun h=>no (fun e=>by rw [e]) h,fun e4=>?_⟩⟩⟩⟩
  unfold T302_1
  intro P hP
  refine loop_inv0 (P:=fun i=>P i a b) a.routines.length (fun i=>a.routines.take i=b.routines.take i) (by simp) (fun hI=>hP _ _ _ ?_) (fun i hi hI ihP=>hP _ _ _ ?_)
  ·unfold T302_2 T302_3
   refine ⟨fun h=>absurd h (by omega),fun _=>?_⟩
   have e4':a.routines.length=b.routines.length:=by omega
   rw [List.take_length,e4',List.take_length] at hI
   refine (sameS_true.2 ?_).symm
   have e1:=Decidable.not_not.1 e1
   have e2:=Decidable.not_not.1 e2
   have e3:=Decidable.not_not.1 e3
   cases a;cases b
   simp only at e1 e2 e3 hI
   rw [e1,e2,e3,hI]
  ·have hi2:i<b.routines.length:=by omega
   unfold T302_2
   refine ⟨fun _=>⟨by omega,_,get_at hi,by omega,_,get_at hi2,_,c314 H hf (ha.r _ (List.getElem_mem hi)),fun h=>no (p:=a.routines[i]=b.routines[i]) (fun e=>by subst e;rfl) (sameR_false.1 (by simpa using h)),fun h=>?_⟩,fun h=>absurd (show (i:Int)<a.routines.length by omega) h⟩
   rw [wr_i64 (by omega) (by omega)]
   refine ihP ?_
   have e:a.routines[i]=b.routines[i]:=sameR_true.1 (by simpa using h)
   rw [List.take_succ_eq_append_getElem hi,List.take_succ_eq_append_getElem hi2,hI,e])
 exact h
end
end Go.AM

namespace Go.AM
open Go
attribute [local irreducible] WO fillCells fillRows
set_option maxRecDepth 4000
def nxL (p:Bytes):List Bytes→Bytes × Bool × List Bytes
 | []=>([],false,[])
 | x::r=>if (cutp p x).2=true then (x,true,r) else ([],false,x::r)
def PuL (prog:Prog):Prop:=∀(p:Bytes) (d:Nat) (st:St) (k:Key) (v:Nat) (l:List Bytes),k.1<d→lk st.bx k=some (v,[.sl .ext (l.map rowS)])→
 ∃st',Fn prog d 305 [.s p,.p k v 0] st (.tup [.s (nxL p l).1,.b (nxL p l).2.1]) st'∧st'.ow=st.ow∧lk st'.bx k=some (v,[.sl .ext ((nxL p l).2.2.map rowS)])∧∀k':Key,k'.1<d→k'≠k→lk st'.bx k'=lk st.bx k'
theorem lk_lt {bx:Bxs} {d:Nat} {k:Key} (hk:k.1<d):lk (bx.filter fun x=>x.1.1<d) k=lk bx k:=lk_out hk
theorem c305 {prog:Prog} (H:HasD prog) (hf:prog.fn 305=some pf305):PuL prog:=by
 intro p d st k v l hk hb
 have main:=Fn.of' (prog:=prog) (d:=d) (args:=[.s p,.p k v 0]) (st:=st) (K:=fun r st'=>r=.tup [.s (nxL p l).1,.b (nxL p l).2.1]∧st'.ow=st.ow∧lk st'.bx k=some (v,[.sl .ext ((nxL p l).2.2.map rowS)])∧∀k':Key,k'.1<d→k'≠k→lk st'.bx k'=lk st.bx k') hf (Nat.le_of_ble_eq_true rfl) ?_
 ·obtain ⟨r,st',h1,rfl,h2⟩:=main
  exact ⟨st',h1,h2⟩
 -- nothing left of that kind: the result is ("",false)
 have no :∀{σ:Sl} {nx:Nat},nxL p l=([],false,l)→W prog d (.seq (.reg 2 r305_2) .ret) σ ⟨nx,st.bx,st.ow⟩ (thenW prog d c305_0 (endW d pf305.res fun r st'=>r=.tup [.s (nxL p l).1,.b (nxL p l).2.1]∧st'.ow=st.ow∧lk st'.bx k=some (v,[.sl .ext ((nxL p l).2.2.map rowS)])∧∀k':Key,k'.1<d→k'≠k→lk st'.bx k'=lk st.bx k')):=by
  intro σ nx hn
  rw [hn]
  refine q_ rfl (m_ (m_ (e_ (rt_ ⟨_,rfl,rfl,rfl,?_,fun k' h1 h2=>?_⟩))))
  ·exact (lk_lt hk).trans hb
  ·exact lk_lt h1
 show W prog d b305 (sl0 [.s p,.p k v 0]) st _
 refine q_ rfl (m_ (m_ (e_ (sq_ (q_ rfl (l_ rfl hb rfl rfl ?_))))))
 cases l with
 | nil=>
  refine ll_ (l:=([]:List Bytes)) (f:=rowS) rfl (s_bin (a:=.i .i64 0) (b:=.i .i64 0) (v:=.b true) rfl rfl rfl (m_ ?_))
  refine gn_ (b:=true) rfl rfl (gn_ (b:=true) rfl rfl (gn_ (b:=true) rfl rfl (gn_ (b:=true) rfl rfl (gn_ (b:=true) rfl rfl (gn_ (b:=true) rfl rfl ?_)))))
  exact pt_ rfl rfl (e_ (ct_ rfl (no rfl)))
 | cons x r=>
  have hne:decide (((x::r).length:Int)=0)=false:=by simp;omega
  refine ll_ (l:=x::r) (f:=rowS) rfl (s_bin (a:=.i .i64 ((x::r).length:Int)) (b:=.i .i64 0) (v:=.b false) rfl rfl (by rw [abin_eql,hne]) (m_ ?_))
  refine gy_ rfl (l_ rfl hb rfl rfl (gy_ rfl (ia_ (l:=x::r) (f:=rowS) rfl rfl (by decide) rfl rfl rfl (gy_ rfl (lf_ rfl rfl rfl (gy_ rfl (m_ ?_)))))))
  refine gy_ rfl (ca_ (sc rfl rfl (sc rfl rfl sn)) (c306 H x p) (gy_ rfl (nt_ rfl (pf_ rfl rfl (e_ ?_)))))
  by_cases hc:(cutp p x).2=true
  ·have hn:nxL p (x::r)=(x,true,r):=by simp only [nxL,if_pos hc]
   rw [hn]
   refine cf_ (show AV.b (!(cutp p x).2)=_ by rw [hc];rfl) (sk_ ?_)
   refine q_ rfl (l_ rfl hb rfl rfl (ia_ (l:=x::r) (f:=rowS) rfl rfl (by decide) rfl rfl rfl (lf_ rfl rfl rfl (m_ (e_ ?_)))))
   refine q_ rfl (l_ rfl hb rfl rfl (s_slL_lo (l:=x::r) (f:=rowS) rowS_len rfl rfl (by decide) (by simp) (so_ rfl hb rfl rfl rfl (e_ ?_))))
   refine q_ rfl (m_ (m_ (m_ (e_ (rt_ ⟨_,rfl,rfl,rfl,?_,fun k' h1 h2=>?_⟩)))))
   ·exact (lk_lt hk).trans lk_here
   ·exact (lk_lt h1).trans (lk_ne (fun e=>h2 e.symm))
  ·have hn:nxL p (x::r)=([],false,x::r):=by simp only [nxL,if_neg hc]
   have hc:(cutp p x).2=false:=by simpa using hc
   exact ct_ (show AV.b (!(cutp p x).2)=_ by rw [hc];rfl) (no hn)
end Go.AM

namespace Go.AM
open Go
attribute [local irreducible] WO fillCells fillRows
set_option maxRecDepth 4000
set_option maxHeartbeats 1000000
set_option linter.unusedVariables false
def Fr2 (d:Nat) (kl kx:Key) (bx:Bxs) (ow:Ows) (bx':Bxs) (ow':Ows):Prop:=
 (∀k':Key,k'.1<d→k'≠kl→k'≠kx→lk bx' k'=lk bx k')∧(∀k':Key,k'.1<d→lk ow' k'=lk ow k')
theorem Fr2.app {S:List Nat} {d n site:Nat} {kl kx:Key} {bx bx':Bxs} {ow ow1 ow2:Ows} {o:Own} (h:Fr2 d kl kx bx ow bx' ow1) (ha:ApS S d ow1 o n) (hw :∀k',some k'≠ownKey o→k'≠(d,site)→lk ow2 k'=lk ow1 k'):Fr2 d kl kx bx ow bx' ow2:=by
 refine ⟨h.1,fun k' h1=>(hw k' ?_ ?_).trans (h.2 k' h1)⟩
 ·intro e
  cases o with
  | ext=>cases e
  | full=>cases e
  | id k v=>
   injection e with e
   subst e
   have:=(ha.2 _ _ rfl).1
   omega
 ·rintro rfl
  exact Nat.lt_irrefl _ h1
theorem Fr2.here {d:Nat} {kl kx:Key} {bx bx':Bxs} {ow ow':Ows} {s:Nat} {a:Nat × List AV} (h:Fr2 d kl kx bx ow bx' ow'):Fr2 d kl kx bx ow (st_ bx' (d,s) a) ow':=
 ⟨fun k' h1 h2 h3=>(lk_ne (by rintro rfl;exact Nat.lt_irrefl _ h1)).trans (h.1 k' h1 h2 h3),h.2⟩
theorem Fr2.setX {d:Nat} {kl kx:Key} {bx bx':Bxs} {ow ow':Ows} {a:Nat × List AV} (h:Fr2 d kl kx bx ow bx' ow'):Fr2 d kl kx bx ow (st_ bx' kx a) ow':=
 ⟨fun k' h1 h2 h3=>(lk_ne (fun e=>h3 e.symm)).trans (h.1 k' h1 h2 h3),h.2⟩
theorem Fr2.next {d:Nat} {kl kx:Key} {bx bx' bx2:Bxs} {ow ow':Ows} (h:Fr2 d kl kx bx ow bx' ow') (c :∀k':Key,k'.1<d+1→k'≠kl→lk bx2 k'=lk bx' k'):Fr2 d kl kx bx ow bx2 ow':=
 ⟨fun k' h1 h2 h3=>(c k' (Nat.lt_succ_of_lt h1) h2).trans (h.1 k' h1 h2 h3),h.2⟩
section
variable {prog:Prog} {d id base i:Nat} {σ:Sl} {st:St} {K:Sl→St→Prop} {r:List AI} {t:Option Nat} {x y:Opd}
theorem s_callL {args:List Opd} {p:Bytes} {k:Key} {v:Nat} {l:List Bytes} (hL:PuL prog) (hx:x.ev σ=.fn 305 [.p k v 0]) (hs:evs σ args=[.s p]) (hk:k.1<d+1) (hb:lk st.bx k=some (v,[.sl .ext (l.map rowS)]))
  (h :∀(nx':Nat) (bx':Bxs),lk bx' k=some (v,[.sl .ext ((nxL p l).2.2.map rowS)])→(∀k':Key,k'.1<d+1→k'≠k→lk bx' k'=lk st.bx k')→WO prog d id base (i+1) r (upO σ t (.tup [.s (nxL p l).1,.b (nxL p l).2.1])) ⟨nx',bx',st.ow⟩ K):WO prog d id base i (⟨t,.callv x args,none⟩::r) σ st K:=by
 refine s_one ?_
 obtain ⟨⟨nx',bx',ow'⟩,h1,h2,h3,h4⟩:=hL p (d+1) st k v l hk hb
 simp only at h2 h3 h4
 subst h2
 show onCv (x.ev σ) (evs σ args) (fun g l=>WF prog (d+1) g l st _)
 rw [hx,hs]
 exact ⟨_,_,h1,h nx' bx' h3 h4⟩
end
abbrev xc (s k:Int) (o1 o2 o3:Own) (fs:List Frm) (ds:List Dfr) (ps:List Pan):List AV:=[.i .u8 s,.i .i64 k,.sl o1 (fs.map Frm.row),.sl o2 (ds.map Dfr.row),.sl o3 (ps.map Pan.row)]
structure MB (d:Nat) (kl:Key) (vl:Nat) (kx:Key) (vx v0:Nat) (m:Img) (s k:Int) (bx0:Bxs) (ow0:Ows) (bx:Bxs) (ow:Ows) (l:List Bytes) (o1 o2 o3:Own) (fs:List Frm) (ds:List Dfr) (ps:List Pan):Prop where
 b0:lk bx (d,0)=some (v0,[.sl .ext (List.map Typ.row m.types),.sl .ext (List.map rowS m.texts),.sl .ext (List.map Fun.row m.funcs)])
 bl:lk bx kl=some (vl,[.sl .ext (l.map rowS)])
 bX:lk bx kx=some (vx,xc s k o1 o2 o3 fs ds ps)
 fr:Fr2 d kl kx bx0 ow0 bx ow
section
variable {prog:Prog} {d:Nat} {kl:Key} {vl:Nat} {kx:Key} {vx v0:Nat} {m:Img} {s k:Int} {bx0:Bxs} {ow0:Ows} {bx:Bxs} {ow:Ows} {l:List Bytes} {o1 o2 o3:Own} {fs:List Frm} {ds:List Dfr} {ps:List Pan}
theorem MB.next {bx':Bxs} {l':List Bytes} (h:MB d kl vl kx vx v0 m s k bx0 ow0 bx ow l o1 o2 o3 fs ds ps) (hn:kl≠kx) (hl:kl.1<d) (hx:kx.1<d) (h1:lk bx' kl=some (vl,[.sl .ext (l'.map rowS)])) (h2 :∀k':Key,k'.1<d+1→k'≠kl→lk bx' k'=lk bx k'):MB d kl vl kx vx v0 m s k bx0 ow0 bx' ow l' o1 o2 o3 fs ds ps:=
 ⟨(h2 (d,0) (Nat.lt_succ_self d) (by rintro rfl;exact Nat.lt_irrefl _ hl)).trans h.b0,h1,(h2 kx (by omega) (fun e=>hn e.symm)).trans h.bX,h.fr.next h2⟩
theorem MB.here {site:Nat} {a:Nat × List AV} (h:MB d kl vl kx vx v0 m s k bx0 ow0 bx ow l o1 o2 o3 fs ds ps) (hl:kl.1<d) (hx:kx.1<d) (hs:Nat.beq site 0=false):MB d kl vl kx vx v0 m s k bx0 ow0 (st_ bx (d,site) a) ow l o1 o2 o3 fs ds ps:=
 ⟨lk_other hs h.b0,(lk_ne (by rintro rfl;exact Nat.lt_irrefl _ hl)).trans h.bl,(lk_ne (by rintro rfl;exact Nat.lt_irrefl _ hx)).trans h.bX,h.fr.here⟩
theorem MB.setX {o1' o2' o3':Own} {fs':List Frm} {ds':List Dfr} {ps':List Pan} (h:MB d kl vl kx vx v0 m s k bx0 ow0 bx ow l o1 o2 o3 fs ds ps) (hn:kl≠kx) (hx:kx.1<d):MB d kl vl kx vx v0 m s k bx0 ow0 (st_ bx kx (vx,xc s k o1' o2' o3' fs' ds' ps')) ow l o1' o2' o3' fs' ds' ps':=
 ⟨(lk_ne (by rintro rfl;exact Nat.lt_irrefl _ hx)).trans h.b0,(lk_ne (fun e=>hn e.symm)).trans h.bl,lk_here,h.fr.setX⟩
theorem MB.app {S:List Nat} {n site:Nat} {ow2:Ows} {o:Own} (h:MB d kl vl kx vx v0 m s k bx0 ow0 bx ow l o1 o2 o3 fs ds ps) (ha:ApS S d ow o n) (hw :∀k',some k'≠ownKey o→k'≠(d,site)→lk ow2 k'=lk ow k'):MB d kl vl kx vx v0 m s k bx0 ow0 bx ow2 l o1 o2 o3 fs ds ps:=
 ⟨h.b0,h.bl,h.bX,h.fr.app ha hw⟩
end
abbrev S9:List Nat:=[24580]
abbrev SF:List Nat:=[40967]
abbrev SD:List Nat:=[65543]
abbrev SP:List Nat:=[94215]
theorem nx_yes {p x:Bytes} {r:List Bytes} (h:(cutp p x).2=true):nxL p (x::r)=(x,true,r):=by simp only [nxL,if_pos h]
theorem nx_no {p:Bytes} {l:List Bytes} (h :∀x r,l=x::r→(cutp p x).2=false):nxL p l=([],false,l):=by
 cases l with
 | nil=>rfl
 | cons x r=>simp only [nxL,if_neg (show ¬ (cutp p x).2=true by rw [h x r rfl];exact Bool.false_ne_true)]
theorem cutp_ge {p x:Bytes} (h:(cutp p x).2=true):p.length≤x.length:=by
 unfold cutp at h
 split at h
 ·rename_i e
  have:=congrArg List.length e
  simp only [List.length_take] at this
  omega
 ·cases h
section
variable {prog:Prog} {d:Nat} {kl:Key} {vl:Nat} {kx:Key} {vx v0:Nat} {m:Img} {s k:Int} {bx0:Bxs} {ow0:Ows}
theorem m_lines (hL:PuL prog) (hn:kl≠kx) (hl:kl.1<d) (hx:kx.1<d) {Q:AE→Sl→St→Prop} {fs:List Frm} {o1:Own} :∀(r acc:List Bytes) (σ:Sl) (nx:Nat) (bx:Bxs) (ow:Ows) (o9:Own),acc.length+r.length≤1000000→
  σ 1=.p kx vx 0→σ 2=.fn 305 [.p kl vl 0]→σ 3=.p (d,0) v0 0→σ 9=.sl o9 (acc.map rowS)→MB d kl vl kx vx v0 m s k bx0 ow0 bx ow r o1 .full .full fs [] []→ApS SF d ow o1 fs.length→ApS S9 d ow o9 acc.length→
  (∀(σ:Sl) (nx:Nat) (bx:Bxs) (ow:Ows) (o9:Own),σ 1=.p kx vx 0→σ 2=.fn 305 [.p kl vl 0]→σ 3=.p (d,0) v0 0→σ 9=.sl o9 ((acc++(moreL r).1).map rowS)→MB d kl vl kx vx v0 m s k bx0 ow0 bx ow (moreL r).2 o1 .full .full fs [] []→ApS SF d ow o1 fs.length→Q .normal σ ⟨nx,bx,ow⟩)→
  W prog d (.loop l309_1) σ ⟨nx,bx,ow⟩ (blockW 2 Q):=by
 intro r
 induction r with
 | nil=>
  intro acc σ nx bx ow o9 hlen h1 h2 h3 h9 hB hF hA hK
  refine W.loop (bk_ (q_ rfl (m_ (s_callL (p:=t4) (l:=[]) hL h2 rfl (by omega) hB.bl fun nx' bx' hb1 hb2=>?_))))
  rw [nx_no (p:=t4) (l:=[]) (fun _ _ e=>by cases e)] at hb1 ⊢
  refine m_ (x_ rfl rfl (x_ rfl rfl (m_ (m_ (e_ ?_)))))
  refine sq_ (q_ rfl (m_ (nt_ (a:=false) rfl (e_ (ct_ rfl (ex_ ?_))))))
  refine hK _ _ _ _ o9 h1 h2 h3 ?_ (hB.next hn hl hx hb1 hb2) hF
  show σ 9=_
  rw [h9];simp [moreL]
 | cons x r ih=>
  intro acc σ nx bx ow o9 hlen h1 h2 h3 h9 hB hF hA hK
  refine W.loop (bk_ (q_ rfl (m_ (s_callL (p:=t4) (l:=x::r) hL h2 rfl (by omega) hB.bl fun nx' bx' hb1 hb2=>?_))))
  by_cases hc:(cutp t4 x).2=true
  ·rw [nx_yes hc] at hb1 ⊢
   have h4:=cutp_ge hc
   have h4:4≤x.length:=h4
   have hB:=hB.next hn hl hx hb1 hb2
   simp only [List.length_cons] at hlen
   refine m_ (x_ rfl rfl (x_ rfl rfl (m_ (m_ (e_ ?_)))))
   refine sq_ (q_ rfl (m_ (nt_ (a:=true) rfl (e_ (cf_ rfl (sk_ ?_))))))
   refine W.reg0 rfl fun nx2 hnx=>?_
   refine s_mvL h9 (s_mvS (l:=x) rfl (s_slS_lo (l:=x) (n:=2) rfl rfl (by decide) (by simp;omega) ?_))
   refine s_bslM (f:=rowS) (l:=[x.drop 2]) rfl rfl (g_cons rfl rfl rfl g_nil) rfl ?_
   refine s_app (f:=rowS) (l:=acc) (m:=[x.drop 2]) rowS_len rfl rfl rfl hA.1 ⟨?_,?_⟩ rfl fun o' ow' a1 a2 a3=>?_
   ·simp only [List.length_cons,List.length_nil,maxBytes_eq];omega
   ·simp only [List.length_cons,List.length_nil,maxBytes_eq];omega
   refine m_ (e_ ?_)
   refine ih (acc++[x.drop 2]) _ _ _ _ o' (by simp only [List.length_append,List.length_cons,List.length_nil];omega) h1 h2 h3 rfl (hB.app hA a2) (hF.keep hA a2 rfl rfl) (hA.new a1 a3 rfl) ?_
   intro σ nx bx ow o9 g1 g2 g3 g9 gB gF
   refine hK σ nx bx ow o9 g1 g2 g3 ?_ ?_ gF
   ·rw [g9];simp [moreL,hc]
   ·have:(moreL (x::r)).2=(moreL r).2:=by simp [moreL,hc]
    rw [this];exact gB
  ·have hc:(cutp t4 x).2=false:=by simpa using hc
   rw [nx_no (p:=t4) (l:=x::r) (fun _ _ e=>by injection e with e1 e2;rw [← e1];exact hc)] at hb1 ⊢
   refine m_ (x_ rfl rfl (x_ rfl rfl (m_ (m_ (e_ ?_)))))
   refine sq_ (q_ rfl (m_ (nt_ (a:=false) rfl (e_ (ct_ rfl (ex_ ?_))))))
   have e1:moreL (x::r)=([],x::r):=by simp [moreL,hc]
   rw [e1] at hK
   refine hK _ _ _ _ o9 h1 h2 h3 ?_ (hB.next hn hl hx hb1 hb2) hF
   show σ 9=_
   rw [h9];simp
theorem moreL_sub :∀r:List Bytes,(moreL r).1.length≤r.length∧(moreL r).2.length≤r.length∧∀x∈(moreL r).2,x∈r
 | []=>⟨Nat.le_refl _,Nat.le_refl _,fun x h=>h⟩
 | x::r=>by
  have ih:=moreL_sub r
  unfold moreL
  split
  ·exact ⟨by simpa using ih.1,Nat.le_succ_of_le ih.2.1,fun y h=>List.mem_cons_of_mem _ (ih.2.2 y h)⟩
  ·exact ⟨Nat.zero_le _,Nat.le_refl _,fun y h=>h⟩
theorem okSt_lo {k:Key} {x:AV} (h:Nat.blt k.2 bigSite=true):okSt k x=true:=by unfold okSt;rw [h];rfl
theorem m_frames (H:HasD prog) (hL:PuL prog) (hm:OkI m) (hn:kl≠kx) (hl:kl.1<d) (hx:kx.1<d) (hkx:Nat.blt kx.2 bigSite=true) {Q:AE→Sl→St→Prop} :∀(n:Nat) (l:List Bytes) (fs:List Frm) (σ:Sl) (nx:Nat) (bx:Bxs) (ow:Ows) (o1:Own),l.length<n→fs.length+l.length≤500000→
  σ 1=.p kx vx 0→σ 2=.fn 305 [.p kl vl 0]→σ 3=.p (d,0) v0 0→MB d kl vl kx vx v0 m s k bx0 ow0 bx ow l o1 .full .full fs [] []→ApS SF d ow o1 fs.length→
  (∀(σ:Sl) (nx:Nat) (bx:Bxs) (ow:Ows),frmsR m n l=none→σ 6=.b false→Fr2 d kl kx bx0 ow0 bx ow→Q .ret σ ⟨nx,bx,ow⟩)→
  (∀(σ:Sl) (nx:Nat) (bx:Bxs) (ow:Ows) (o1:Own) (z:List Frm × List Bytes),frmsR m n l=some z→σ 1=.p kx vx 0→σ 2=.fn 305 [.p kl vl 0]→σ 3=.p (d,0) v0 0→MB d kl vl kx vx v0 m s k bx0 ow0 bx ow z.2 o1 .full .full (fs++z.1) [] []→Q .normal σ ⟨nx,bx,ow⟩)→
  W prog d (.loop l309_0) σ ⟨nx,bx,ow⟩ (blockW 0 Q):=by
 intro n
 induction n with
 | zero=>intro l fs σ nx bx ow o1 h;omega
 | succ n ih=>
 intro l fs σ nx bx ow o1 hlen hsz h1 h2 h3 hB hA hF hK
 refine W.loop (bk_ (q_ rfl (m_ (s_callL (p:=tFr) (l:=l) hL h2 rfl (by omega) hB.bl fun nx' bx' hb1 hb2=>?_))))
 by_cases hno :∀x r,l=x::r→(cutp tFr x).2=false
 ·rw [nx_no hno] at hb1 ⊢
  have hB:=hB.next hn hl hx hb1 hb2
  refine m_ (x_ rfl rfl (x_ rfl rfl (m_ (m_ (e_ ?_)))))
  refine sq_ (q_ rfl (m_ (nt_ (a:=false) rfl (e_ (ct_ rfl (ex_ ?_))))))
  refine hK _ _ _ _ o1 ([],l) ?_ h1 h2 h3 ?_
  ·cases l with
   | nil=>rfl
   | cons x r=>simp only [frmsR,if_neg (show ¬ (cutp tFr x).2=true by rw [hno x r rfl];exact Bool.false_ne_true)]
  ·simpa using hB
 cases l with
 | nil=>exact absurd (fun _ _ e=>by cases e) hno
 | cons x r=>
 have hc:(cutp tFr x).2=true:=by
  by_cases h:(cutp tFr x).2=true
  ·exact h
  ·exact absurd (fun y s e=>by injection e with e1 e2;rw [← e1];simpa using h) hno
 rw [nx_yes hc] at hb1 ⊢
 have h4:3≤x.length:=cutp_ge hc
 have hB:=hB.next hn hl hx hb1 hb2
 simp only [List.length_cons] at hlen hsz
 have hs:=moreL_sub r
 refine m_ (x_ rfl rfl (x_ rfl rfl (m_ (m_ (e_ ?_)))))
 refine sq_ (q_ rfl (m_ (nt_ (a:=true) rfl (e_ (cf_ rfl (sk_ ?_))))))
 refine q_ rfl (s_mvS (l:=x) rfl (s_slS_lo (l:=x) (n:=2) rfl rfl (by decide) (by simp;omega) (s_bslM (f:=rowS) (l:=[x.drop 2]) rfl rfl (g_cons rfl rfl rfl g_nil) rfl (m_ (e_ ?_)))))
 refine sq_ (bk_ (m_lines (v0:=v0) (m:=m) (s:=s) (k:=k) (bx0:=bx0) (ow0:=ow0) (fs:=fs) (o1:=o1) hL hn hl hx r [x.drop 2] _ _ _ _ .full (by simp only [List.length_cons,List.length_nil];omega) h1 h2 h3 rfl hB hA ApS.full ?_))
 intro σ nx bx ow o9 h1 h2 h3 h9 hB hA
 show W prog d c309_1 σ _ _
 generalize hls:([x.drop 2]++(moreL r).1)=ls at h9
 have hls':x.drop 2::(moreL r).1=ls:=hls
 have hll:ls.length≤1000000:=by rw [← hls];simp only [List.length_append,List.length_cons,List.length_nil];omega
 have hcall:=c84 H.toHasG hm (l:=ls) (by omega)
 have hfr:frmsR m (n+1) (x::r)=if (rfR m ls).2.2=0 then (frmsR m n (moreL r).2).map fun z=>((rfR m ls).2.1::z.1,z.2) else none:=by
  conv=>lhs;unfold frmsR
  rw [if_pos hc,hls']
 rw [hfr] at hF hK
 generalize hrf:rfR m ls=R at hcall hF hK
 obtain ⟨ra,F,re⟩:=R
 simp only at hcall hF hK
 refine sq_ (W.reg ?_)
 change WO prog d 7 nx 0 r309_7 σ ⟨nx+r309_7.length,st_ bx (d,28679) (nx+7,[.i .i64 0,.i .i64 0,.i .u64 0,.sl .full []]),ow⟩ _
 have hB:=hB.here (site:=28679) (a:=(nx+7,[.i .i64 0,.i .i64 0,.i .u64 0,.sl .full []])) hl hx rfl
 refine l_ (w:=m.av) h3 hB.b0 rfl rfl (s_mvL (f:=rowS) (l:=ls) (o:=o9) h9 (ca_ (sc rfl rfl (sc rfl rfl sn)) hcall ?_))
 refine m_ (x_ rfl rfl (x_ rfl rfl (x_ rfl rfl (s_alloc (m_ (so_ (w:=F.av) (cs':=F.row) rfl lk_here rfl rfl rfl (m_ (e_ ?_))))))))
 have hB:=hB.here (site:=28679) (a:=(nx+7,F.row)) hl hx rfl
 refine sq_ (q_ rfl (m_ (b_ (a:=.i .i64 re) (b:=.i .i64 0) rfl rfl neq_ (e_ (cs_ rfl (fun he=>?_) (fun he=>sk_ ?_))))))
 ·refine q_ rfl (m_ (e_ (rt_ ?_)))
  exact hF _ _ _ _ (by rw [if_neg he]) rfl hB.fr
 have he:=Decidable.not_not.1 he
 rw [if_pos he] at hF hK
 refine W.reg0 rfl fun nx2 hnx2=>?_
 refine m_ (m_ (s_nilP h1 (f_ rfl (l_ (w:=.sl o1 (fs.map Frm.row)) rfl hB.bX rfl rfl ?_))))
 refine l_ (w:=F.av) (k:=(d,28679)) (v:=nx+7) (cs:=F.row) (o:=0) rfl lk_here rfl rfl ?_
 refine s_bslM (f:=Frm.row) (l:=[F]) rfl rfl (g_cons (v:=F.av) (cs:=F.row) rfl rfl rfl g_nil) rfl ?_
 refine s_app (f:=Frm.row) (l:=fs) (m:=[F]) Frm.row_len rfl rfl rfl hA.1 ⟨?_,?_⟩ rfl fun o' ow' a1 a2 a3=>?_
 ·simp only [List.length_cons,List.length_nil,maxBytes_eq];omega
 ·simp only [List.length_cons,List.length_nil,maxBytes_eq];omega
 have hB:=hB.app hA a2
 refine s_nilP (k:=kx) (v:=vx) (o:=0) h1 (f_ rfl (so_ (k:=kx) (v:=vx) (cs':=xc s k o' .full .full (fs++[F]) [] []) rfl hB.bX rfl rfl rfl (e_ ?_) (okSt_lo hkx)))
 refine ih (moreL r).2 (fs++[F]) _ _ _ _ o' (by omega) (by simp only [List.length_append,List.length_cons,List.length_nil];omega) h1 h2 h3 (hB.setX hn hx) (hA.new a1 a3 rfl) ?_ ?_
 ·intro σ nx bx ow e g6 gF
  exact hF σ nx bx ow (by rw [e];rfl) g6 gF
 ·intro σ nx bx ow o1 z e g1 g2 g3 gB
  refine hK σ nx bx ow o1 (F::z.1,z.2) (by rw [e];rfl) g1 g2 g3 ?_
  simpa using gB
theorem m_dfrs (H:HasD prog) (hL:PuL prog) (hm:OkI m) (hn:kl≠kx) (hl:kl.1<d) (hx:kx.1<d) (hkx:Nat.blt kx.2 bigSite=true) {Q:AE→Sl→St→Prop} {o1:Own} {fs:List Frm} :∀(l:List Bytes) (ds:List Dfr) (σ:Sl) (nx:Nat) (bx:Bxs) (ow:Ows) (o2:Own),ds.length+l.length≤500000→(∀y∈l,y.length≤1000000)→
  σ 1=.p kx vx 0→σ 2=.fn 305 [.p kl vl 0]→σ 3=.p (d,0) v0 0→MB d kl vl kx vx v0 m s k bx0 ow0 bx ow l o1 o2 .full fs ds []→ApS SD d ow o2 ds.length→
  (∀(σ:Sl) (nx:Nat) (bx:Bxs) (ow:Ows),dfrsR m l=none→σ 6=.b false→Fr2 d kl kx bx0 ow0 bx ow→Q .ret σ ⟨nx,bx,ow⟩)→
  (∀(σ:Sl) (nx:Nat) (bx:Bxs) (ow:Ows) (o2:Own) (z:List Dfr × List Bytes),dfrsR m l=some z→σ 1=.p kx vx 0→σ 2=.fn 305 [.p kl vl 0]→MB d kl vl kx vx v0 m s k bx0 ow0 bx ow z.2 o1 o2 .full fs (ds++z.1) []→Q .normal σ ⟨nx,bx,ow⟩)→
  W prog d (.loop l309_2) σ ⟨nx,bx,ow⟩ (blockW 4 Q):=by
 intro l
 induction l with
 | nil=>
  intro ds σ nx bx ow o2 hsz hmx h1 h2 h3 hB hA hF hK
  refine W.loop (bk_ (q_ rfl (m_ (s_callL (p:=tDef) (l:=[]) hL h2 rfl (by omega) hB.bl fun nx' bx' hb1 hb2=>?_))))
  rw [nx_no (p:=tDef) (l:=[]) (fun _ _ e=>by cases e)] at hb1 ⊢
  have hB:=hB.next hn hl hx hb1 hb2
  refine m_ (x_ rfl rfl (x_ rfl rfl (m_ (m_ (e_ ?_)))))
  refine sq_ (q_ rfl (m_ (nt_ (a:=false) rfl (e_ (ct_ rfl (ex_ ?_))))))
  exact hK _ _ _ _ o2 ([],[]) rfl h1 h2 (by simpa using hB)
 | cons x r ih=>
  intro ds σ nx bx ow o2 hsz hmx h1 h2 h3 hB hA hF hK
  refine W.loop (bk_ (q_ rfl (m_ (s_callL (p:=tDef) (l:=x::r) hL h2 rfl (by omega) hB.bl fun nx' bx' hb1 hb2=>?_))))
  by_cases hc:(cutp tDef x).2=true
  ·rw [nx_yes hc] at hb1 ⊢
   have h4:8≤x.length:=cutp_ge hc
   have hxl:=hmx x List.mem_cons_self
   have hB:=hB.next hn hl hx hb1 hb2
   simp only [List.length_cons] at hsz
   refine m_ (x_ rfl rfl (x_ rfl rfl (m_ (m_ (e_ ?_)))))
   refine sq_ (q_ rfl (m_ (nt_ (a:=true) rfl (e_ (cf_ rfl (sk_ ?_))))))
   obtain ⟨D,b,hcall,hb1,hb2⟩:=c318 H hm (s:=x.drop 2) (by simp;omega)
   have hfr:dfrsR m (x::r)=(posL m (x.drop 2)).bind fun d=>(dfrsR m r).map fun z=>(d::z.1,z.2):=by
    conv=>lhs;unfold dfrsR
    rw [if_pos hc]
   rw [hfr] at hF hK
   refine sq_ (W.reg ?_)
   change WO prog d 13 _ 0 r309_13 _ ⟨_,st_ bx' (d,53255) (_,[.i .i64 0,.i .i64 0,.b false,.i .u8 0,.i .i64 0,.s [],.sl .full [],.b false]),ow⟩ _
   have hB2:=fun a=>hB.here (site:=53255) (a:=a) hl hx rfl
   refine l_ (w:=m.av) h3 (hB2 _).b0 rfl rfl (s_mvS (l:=x) rfl (s_slS_lo (l:=x) (n:=2) rfl rfl (by decide) (by simp;omega) (ca_ (sc rfl rfl (sc rfl rfl sn)) hcall ?_)))
   refine m_ (x_ rfl rfl (x_ rfl rfl (s_alloc (so_ (w:=D.av) (cs':=D.row) rfl lk_here rfl rfl rfl (m_ (e_ ?_))))))
   have hB3:=fun a b=>(hB2 a).here (site:=53255) (a:=b) hl hx rfl
   refine sq_ (q_ rfl (m_ (nt_ (a:=b) rfl (e_ (cb_ rfl (fun he=>?_) (fun he=>sk_ ?_))))))
   ·have he:b=false:=by simpa using he
    refine q_ rfl (m_ (e_ (rt_ ?_)))
    exact hF _ _ _ _ (by rw [hb2 he];rfl) rfl (hB3 _ _).fr
   have he:b=true:=by simpa using he
   rw [hb1 he] at hF hK
   refine W.reg0 rfl fun nx2 hnx2=>?_
   refine m_ (m_ (s_nilP h1 (f_ rfl (l_ (w:=.sl o2 (ds.map Dfr.row)) rfl (hB3 _ _).bX rfl rfl ?_))))
   refine l_ (w:=D.av) (k:=(d,53255)) (cs:=D.row) (o:=0) rfl lk_here rfl rfl ?_
   refine s_bslM (f:=Dfr.row) (l:=[D]) rfl rfl (g_cons (v:=D.av) (cs:=D.row) rfl rfl rfl g_nil) rfl ?_
   refine s_app (f:=Dfr.row) (l:=ds) (m:=[D]) Dfr.row_len rfl rfl rfl hA.1 ⟨?_,?_⟩ rfl fun o' ow' a1 a2 a3=>?_
   ·simp only [List.length_cons,List.length_nil,maxBytes_eq];omega
   ·simp only [List.length_cons,List.length_nil,maxBytes_eq];omega
   have hB:=fun a b=>(hB3 a b).app hA a2
   refine s_nilP (k:=kx) (v:=vx) (o:=0) h1 (f_ rfl (so_ (k:=kx) (v:=vx) (cs':=xc s k o1 o' .full fs (ds++[D]) []) rfl (hB _ _).bX rfl rfl rfl (e_ ?_) (okSt_lo hkx)))
   refine ih (ds++[D]) _ _ _ _ o' (by simp only [List.length_append,List.length_cons,List.length_nil];omega) (fun y h=>hmx y (List.mem_cons_of_mem _ h)) h1 h2 h3 ((hB _ _).setX hn hx) (hA.new a1 a3 rfl) ?_ ?_
   ·intro σ nx bx ow e g6 gF
    exact hF σ nx bx ow (by rw [e];rfl) g6 gF
   ·intro σ nx bx ow o1 z e g1 g2 gB
    refine hK σ nx bx ow o1 (D::z.1,z.2) (by rw [e];rfl) g1 g2 ?_
    simpa using gB
  ·have hc:(cutp tDef x).2=false:=by simpa using hc
   rw [nx_no (p:=tDef) (l:=x::r) (fun _ _ e=>by injection e with e1 e2;rw [← e1];exact hc)] at hb1 ⊢
   have hB:=hB.next hn hl hx hb1 hb2
   refine m_ (x_ rfl rfl (x_ rfl rfl (m_ (m_ (e_ ?_)))))
   refine sq_ (q_ rfl (m_ (nt_ (a:=false) rfl (e_ (ct_ rfl (ex_ ?_))))))
   refine hK _ _ _ _ o2 ([],x::r) ?_ h1 h2 (by simpa using hB)
   unfold dfrsR;rw [if_neg (by rw [hc];exact Bool.false_ne_true)]
theorem m_pans (H:HasD prog) (hL:PuL prog) (hn:kl≠kx) (hl:kl.1<d) (hx:kx.1<d) (hkx:Nat.blt kx.2 bigSite=true) {Q:AE→Sl→St→Prop} {o1 o2:Own} {fs:List Frm} {ds:List Dfr} :∀(l:List Bytes) (ps:List Pan) (σ:Sl) (nx:Nat) (bx:Bxs) (ow:Ows) (o3:Own),ps.length+l.length≤500000→(∀y∈l,y.length≤1000000)→
  σ 1=.p kx vx 0→σ 2=.fn 305 [.p kl vl 0]→MB d kl vl kx vx v0 m s k bx0 ow0 bx ow l o1 o2 o3 fs ds ps→ApS SP d ow o3 ps.length→
  (∀(σ:Sl) (nx:Nat) (bx:Bxs) (ow:Ows),pansR l=none→σ 6=.b false→Fr2 d kl kx bx0 ow0 bx ow→Q .ret σ ⟨nx,bx,ow⟩)→
  (∀(σ:Sl) (nx:Nat) (bx:Bxs) (ow:Ows) (o3:Own) (z:List Pan × List Bytes),pansR l=some z→σ 6=.b true→MB d kl vl kx vx v0 m s k bx0 ow0 bx ow z.2 o1 o2 o3 fs ds (ps++z.1)→Q .ret σ ⟨nx,bx,ow⟩)→
  W prog d (.loop l309_3) σ ⟨nx,bx,ow⟩ (blockW 6 Q):=by
 intro l
 induction l with
 | nil=>
  intro ps σ nx bx ow o3 hsz hmx h1 h2 hB hA hF hK
  refine W.loop (bk_ (q_ rfl (m_ (s_callL (p:=t2) (l:=[]) hL h2 rfl (by omega) hB.bl fun nx' bx' hb1 hb2=>?_))))
  rw [nx_no (p:=t2) (l:=[]) (fun _ _ e=>by cases e)] at hb1 ⊢
  have hB:=hB.next hn hl hx hb1 hb2
  refine m_ (x_ rfl rfl (x_ rfl rfl (m_ (m_ (e_ ?_)))))
  refine sq_ (q_ rfl (m_ (nt_ (a:=false) rfl (e_ (ct_ rfl (q_ rfl (m_ (e_ (rt_ ?_)))))))))
  exact hK _ _ _ _ o3 ([],[]) rfl rfl (by simpa using hB)
 | cons x r ih=>
  intro ps σ nx bx ow o3 hsz hmx h1 h2 hB hA hF hK
  refine W.loop (bk_ (q_ rfl (m_ (s_callL (p:=t2) (l:=x::r) hL h2 rfl (by omega) hB.bl fun nx' bx' hb1 hb2=>?_))))
  by_cases hc:(cutp t2 x).2=true
  ·rw [nx_yes hc] at hb1 ⊢
   have h4:2≤x.length:=cutp_ge hc
   have hxl:=hmx x List.mem_cons_self
   have hB:=hB.next hn hl hx hb1 hb2
   simp only [List.length_cons] at hsz
   refine m_ (x_ rfl rfl (x_ rfl rfl (m_ (m_ (e_ ?_)))))
   refine sq_ (q_ rfl (m_ (nt_ (a:=true) rfl (e_ (cf_ rfl (sk_ ?_))))))
   have hcall:=c156 H.toHasP (s:=x.drop 2) (by simp;omega)
   have hfr:pansR (x::r)=if (rlP (x.drop 2)).2=0 then (pansR r).map fun z=>((rlP (x.drop 2)).1::z.1,z.2) else none:=by
    conv=>lhs;unfold pansR
    rw [if_pos hc]
   rw [hfr] at hF hK
   generalize rlP (x.drop 2)=R at hcall hF hK
   obtain ⟨P,re⟩:=R
   simp only at hcall hF hK
   refine sq_ (W.reg ?_)
   change WO prog d 20 _ 0 r309_20 _ ⟨_,st_ bx' (d,81926) (_,[.i .u64 0,.i .u8 0,.i .i64 0,.s [],.sl .full [],.b false,.i .u64 0]),ow⟩ _
   have hB2:=fun a=>hB.here (site:=81926) (a:=a) hl hx rfl
   refine s_mvS (l:=x) rfl (s_slS_lo (l:=x) (n:=2) rfl rfl (by decide) (by simp;omega) (ca_ (sc rfl rfl sn) hcall ?_))
   refine m_ (x_ rfl rfl (x_ rfl rfl (s_alloc (so_ (w:=P.av) (cs':=P.row) rfl lk_here rfl rfl rfl (m_ (e_ ?_))))))
   have hB3:=fun a b=>(hB2 a).here (site:=81926) (a:=b) hl hx rfl
   refine sq_ (q_ rfl (m_ (b_ (a:=.i .i64 re) (b:=.i .i64 0) rfl rfl neq_ (e_ (cs_ rfl (fun he=>?_) (fun he=>sk_ ?_))))))
   ·refine q_ rfl (m_ (e_ (rt_ ?_)))
    exact hF _ _ _ _ (by rw [if_neg he]) rfl (hB3 _ _).fr
   have he:=Decidable.not_not.1 he
   rw [if_pos he] at hF hK
   refine W.reg0 rfl fun nx2 hnx2=>?_
   refine m_ (m_ (s_nilP h1 (f_ rfl (l_ (w:=.sl o3 (ps.map Pan.row)) rfl (hB3 _ _).bX rfl rfl ?_))))
   refine l_ (w:=P.av) (k:=(d,81926)) (cs:=P.row) (o:=0) rfl lk_here rfl rfl ?_
   refine s_bslM (f:=Pan.row) (l:=[P]) rfl rfl (g_cons (v:=P.av) (cs:=P.row) rfl rfl rfl g_nil) rfl ?_
   refine s_app (f:=Pan.row) (l:=ps) (m:=[P]) Pan.row_len rfl rfl rfl hA.1 ⟨?_,?_⟩ rfl fun o' ow' a1 a2 a3=>?_
   ·simp only [List.length_cons,List.length_nil,maxBytes_eq];omega
   ·simp only [List.length_cons,List.length_nil,maxBytes_eq];omega
   have hB:=fun a b=>(hB3 a b).app hA a2
   refine s_nilP (k:=kx) (v:=vx) (o:=0) h1 (f_ rfl (so_ (k:=kx) (v:=vx) (cs':=xc s k o1 o2 o' fs ds (ps++[P])) rfl (hB _ _).bX rfl rfl rfl (e_ ?_) (okSt_lo hkx)))
   refine ih (ps++[P]) _ _ _ _ o' (by simp only [List.length_append,List.length_cons,List.length_nil];omega) (fun y h=>hmx y (List.mem_cons_of_mem _ h)) h1 h2 ((hB _ _).setX hn hx) (hA.new a1 a3 rfl) ?_ ?_
   ·intro σ nx bx ow e g6 gF
    exact hF σ nx bx ow (by rw [e];rfl) g6 gF
   ·intro σ nx bx ow o1 z e g6 gB
    refine hK σ nx bx ow o1 (P::z.1,z.2) (by rw [e];rfl) g6 ?_
    simpa using gB
  ·have hc:(cutp t2 x).2=false:=by simpa using hc
   rw [nx_no (p:=t2) (l:=x::r) (fun _ _ e=>by injection e with e1 e2;rw [← e1];exact hc)] at hb1 ⊢
   have hB:=hB.next hn hl hx hb1 hb2
   refine m_ (x_ rfl rfl (x_ rfl rfl (m_ (m_ (e_ ?_)))))
   refine sq_ (q_ rfl (m_ (nt_ (a:=false) rfl (e_ (ct_ rfl (q_ rfl (m_ (e_ (rt_ ?_)))))))))
   refine hK _ _ _ _ o3 ([],x::r) ?_ rfl (by simpa using hB)
   unfold pansR;rw [if_neg (by rw [hc];exact Bool.false_ne_true)]
end
end Go.AM

namespace Go.AM
open Go
attribute [local irreducible] WO fillCells fillRows
set_option maxRecDepth 4000
set_option maxHeartbeats 1000000
set_option linter.unusedVariables false
theorem frmsR_sub {m:Img} :∀(n:Nat) (l:List Bytes) (z:List Frm × List Bytes),frmsR m n l=some z→z.2.length≤l.length∧∀x∈z.2,x∈l
 | 0,_,_,h=>by simp [frmsR] at h
 | n+1,[],z,h=>by
  simp only [frmsR,Option.some.injEq] at h
  subst h;exact ⟨Nat.le_refl _,fun x h=>h⟩
 | n+1,x::r,z,h=>by
  unfold frmsR at h
  split at h
  ·split at h
   ·obtain ⟨y,h1,h2⟩:=Option.map_eq_some_iff.1 h
    have ih:=frmsR_sub n _ _ h1
    have hs:=moreL_sub r
    subst h2
    exact ⟨by simp only [List.length_cons];omega,fun q hq=>List.mem_cons_of_mem _ (hs.2.2 q (ih.2 q hq))⟩
   ·cases h
  ·simp only [Option.some.injEq] at h
   subst h;exact ⟨Nat.le_refl _,fun x h=>h⟩
theorem dfrsR_sub {m:Img} :∀(l:List Bytes) (z:List Dfr × List Bytes),dfrsR m l=some z→z.2.length≤l.length∧∀x∈z.2,x∈l
 | [],z,h=>by
  simp only [dfrsR,Option.some.injEq] at h
  subst h;exact ⟨Nat.le_refl _,fun x h=>h⟩
 | x::r,z,h=>by
  unfold dfrsR at h
  split at h
  ·obtain ⟨d,_,h⟩:=Option.bind_eq_some_iff.1 h
   obtain ⟨y,h1,h2⟩:=Option.map_eq_some_iff.1 h
   have ih:=dfrsR_sub r _ h1
   subst h2
   exact ⟨by simp only [List.length_cons];omega,fun q hq=>List.mem_cons_of_mem _ (ih.2 q hq)⟩
  ·simp only [Option.some.injEq] at h
   subst h;exact ⟨Nat.le_refl _,fun x h=>h⟩
theorem pansR_sub :∀(l:List Bytes) (z:List Pan × List Bytes),pansR l=some z→z.2.length≤l.length∧∀x∈z.2,x∈l
 | [],z,h=>by
  simp only [pansR,Option.some.injEq] at h
  subst h;exact ⟨Nat.le_refl _,fun x h=>h⟩
 | x::r,z,h=>by
  unfold pansR at h
  split at h
  ·split at h
   ·obtain ⟨y,h1,h2⟩:=Option.map_eq_some_iff.1 h
    have ih:=pansR_sub r _ h1
    subst h2
    exact ⟨by simp only [List.length_cons];omega,fun q hq=>List.mem_cons_of_mem _ (ih.2 q hq)⟩
   ·cases h
  ·simp only [Option.some.injEq] at h
   subst h;exact ⟨Nat.le_refl _,fun x h=>h⟩
theorem memR_sub {m:Img} {l:List Bytes} {z:List Frm × List Dfr × List Pan × List Bytes} (h:memR m l=some z):z.2.2.2.length≤l.length∧∀x∈z.2.2.2,x∈l:=by
 obtain ⟨a,h1,h⟩:=Option.bind_eq_some_iff.1 h
 obtain ⟨b,h2,h⟩:=Option.bind_eq_some_iff.1 h
 obtain ⟨c,h3,h⟩:=Option.map_eq_some_iff.1 h
 subst h
 have s1:=frmsR_sub _ _ _ h1
 have s2:=dfrsR_sub _ _ h2
 have s3:=pansR_sub _ _ h3
 exact ⟨by simp only;omega,fun x hx=>s1.2 x (s2.2 x (s3.2 x hx))⟩
theorem Fr2.out {d:Nat} {kl kx:Key} {bx bx':Bxs} {ow ow':Ows} (h:Fr2 d kl kx bx ow bx' ow'):Fr2 d kl kx bx ow (bx'.filter fun x=>x.1.1<d) ow':=
 ⟨fun k' h1 h2 h3=>(lk_lt h1).trans (h.1 k' h1 h2 h3),h.2⟩
def PuM (prog:Prog) (m:Img):Prop:=∀(d:Nat) (st:St) (kl:Key) (vl:Nat) (kx:Key) (vx:Nat) (s k:Int) (l:List Bytes),kl≠kx→kl.1<d→kx.1<d→Nat.blt kx.2 bigSite=true→
 lk st.bx kl=some (vl,[.sl .ext (l.map rowS)])→lk st.bx kx=some (vx,xc s k .full .full .full [] [] [])→l.length≤400000→(∀y∈l,y.length≤1000000)→
 ∃st' b,Fn prog d 309 [m.av,.p kx vx 0,.fn 305 [.p kl vl 0]] st (.b b) st'∧Fr2 d kl kx st.bx st.ow st'.bx st'.ow∧(memR m l=none→b=false)∧
  ∀z,memR m l=some z→b=true∧lk st'.bx kl=some (vl,[.sl .ext (z.2.2.2.map rowS)])∧∃o1 o2 o3,lk st'.bx kx=some (vx,xc s k o1 o2 o3 z.1 z.2.1 z.2.2.1)
theorem c309 {prog:Prog} (H:HasD prog) (hL:PuL prog) (hf:prog.fn 309=some pf309) {m:Img} (hm:OkI m):PuM prog m:=by
 intro d st kl vl kx vx s k l hn hl hx hkx hbl hbx hlen hmx
 have main:=Fn.of' (prog:=prog) (d:=d) (args:=[m.av,.p kx vx 0,.fn 305 [.p kl vl 0]]) (st:=st) (K:=fun r st'=>∃b,r=.b b∧Fr2 d kl kx st.bx st.ow st'.bx st'.ow∧(memR m l=none→b=false)∧
  ∀z,memR m l=some z→b=true∧lk st'.bx kl=some (vl,[.sl .ext (z.2.2.2.map rowS)])∧∃o1 o2 o3,lk st'.bx kx=some (vx,xc s k o1 o2 o3 z.1 z.2.1 z.2.2.1)) hf (Nat.le_of_ble_eq_true rfl) ?_
 ·obtain ⟨r,st',h1,b,rfl,h2⟩:=main
  exact ⟨st',b,h1,h2⟩
 have no :∀(σ:Sl) (nx:Nat) (bx:Bxs) (ow:Ows),memR m l=none→σ 6=.b false→Fr2 d kl kx st.bx st.ow bx ow→endW d pf309.res (fun r st'=>∃b,r=.b b∧Fr2 d kl kx st.bx st.ow st'.bx st'.ow∧(memR m l=none→b=false)∧
  ∀z,memR m l=some z→b=true∧lk st'.bx kl=some (vl,[.sl .ext (z.2.2.2.map rowS)])∧∃o1 o2 o3,lk st'.bx kx=some (vx,xc s k o1 o2 o3 z.1 z.2.1 z.2.2.1)) .ret σ ⟨nx,bx,ow⟩:=by
  intro σ nx bx ow h1 h2 h3
  exact ⟨.b false,congrArg some h2,false,rfl,h3.out,fun _=>rfl,fun z hz=>by rw [h1] at hz;cases hz⟩
 show W prog d b309 (sl0 [m.av,.p kx vx 0,.fn 305 [.p kl vl 0]]) st _
 refine q_ rfl (s_box (v:=m.av) rfl rfl (m_ (e_ ?_)))
 have hB:MB d kl vl kx vx st.nx m s k st.bx st.ow (st_ st.bx (d,0) (st.nx,m.av.cells)) st.ow l .full .full .full [] [] []:=
  ⟨lk_here,(lk_ne (by rintro rfl;exact Nat.lt_irrefl _ hl)).trans hbl,(lk_ne (by rintro rfl;exact Nat.lt_irrefl _ hx)).trans hbx,Fr2.here ⟨fun _ _ _ _=>rfl,fun _ _=>rfl⟩⟩
 refine sq_ (bk_ (m_frames H hL hm hn hl hx hkx (l.length+1) l [] _ _ _ _ .full (Nat.lt_succ_self _) (by simp only [List.length_nil];omega) rfl rfl rfl hB ApS.full ?_ ?_))
 ·intro σ nx bx ow e g6 gF
  exact no σ nx bx ow (by unfold memR;rw [e];rfl) g6 gF
 intro σ nx bx ow o1 z e g1 g2 g3 hB
 have s1:=frmsR_sub _ _ _ e
 show W prog d c309_6 σ _ _
 refine sq_ (bk_ (m_dfrs H hL hm hn hl hx hkx z.2 [] _ _ _ _ .full (by simp only [List.length_nil];omega) (fun y hy=>hmx y (s1.2 y hy)) g1 g2 g3 hB ApS.full ?_ ?_))
 ·intro σ nx bx ow e2 g6 gF
  exact no σ nx bx ow (by unfold memR;rw [e];simp only [Option.bind_some,e2];rfl) g6 gF
 intro σ nx bx ow o2 y e2 g1 g2 hB
 have s2:=dfrsR_sub _ _ e2
 show W prog d c309_5 σ _ _
 refine bk_ (m_pans H hL hn hl hx hkx y.2 [] _ _ _ _ .full (by simp only [List.length_nil];omega) (fun u hu=>hmx u (s1.2 u (s2.2 u hu))) g1 g2 hB ApS.full ?_ ?_)
 ·intro σ nx bx ow e3 g6 gF
  exact no σ nx bx ow (by unfold memR;rw [e];simp only [Option.bind_some,e2,e3];rfl) g6 gF
 intro σ nx bx ow o3 u e3 g6 hB
 have e4:memR m l=some (z.1,y.1,u.1,u.2):=by unfold memR;rw [e];simp only [Option.bind_some,e2,e3];rfl
 refine ⟨.b true,congrArg some g6,true,rfl,hB.fr.out,fun h=>(by rw [e4] at h;cases h),fun w hw=>?_⟩
 rw [e4] at hw
 injection hw with hw
 subst hw
 exact ⟨rfl,(lk_lt hl).trans hB.bl,o1,o2,o3,by simpa using (lk_lt hx).trans hB.bX⟩
end Go.AM

namespace Go.AM
open Go
attribute [local irreducible] WO fillCells fillRows
set_option maxRecDepth 4000
set_option maxHeartbeats 1000000
set_option linter.unusedVariables false
theorem frmsR_wf {m:Img} :∀(n:Nat) (l:List Bytes) (z:List Frm × List Bytes),frmsR m n l=some z→z.1.length+z.2.length≤l.length∧∀x∈z.1,WfX x
 | 0,_,_,h=>by simp [frmsR] at h
 | n+1,[],z,h=>by
  simp only [frmsR,Option.some.injEq] at h
  subst h;exact ⟨Nat.le_refl _,fun x h=>by cases h⟩
 | n+1,x::r,z,h=>by
  unfold frmsR at h
  split at h
  ·split at h
   ·obtain ⟨y,h1,h2⟩:=Option.map_eq_some_iff.1 h
    have ih:=frmsR_wf n _ _ h1
    have hs:=moreL_sub r
    subst h2
    refine ⟨by simp only [List.length_cons];omega,fun q hq=>?_⟩
    rcases List.mem_cons.1 hq with rfl | hq
    ·exact rfR_wfx _ _
    ·exact ih.2 q hq
   ·cases h
  ·simp only [Option.some.injEq] at h
   subst h;exact ⟨by simp,fun x h=>by cases h⟩
theorem posL_wf {m:Img} {s:Bytes} {d:Dfr} (h:posL m s=some d):Wf d.arg:=by
 unfold posL at h
 split at h
 ·unfold posL1 at h
  split at h
  ·cases h
  split at h
  ·cases h
  unfold posL2 at h
  split at h
  ·injection h with h;subst h;exact Wf.zero
  split at h
  ·injection h with h;subst h;exact rvs_wf _
  ·cases h
 ·cases h
theorem dfrsR_wf {m:Img} :∀(l:List Bytes) (z:List Dfr × List Bytes),dfrsR m l=some z→z.1.length+z.2.length≤l.length∧∀x∈z.1,Wf x.arg
 | [],z,h=>by
  simp only [dfrsR,Option.some.injEq] at h
  subst h;exact ⟨Nat.le_refl _,fun x h=>by cases h⟩
 | x::r,z,h=>by
  unfold dfrsR at h
  split at h
  ·obtain ⟨d,hd,h⟩:=Option.bind_eq_some_iff.1 h
   obtain ⟨y,h1,h2⟩:=Option.map_eq_some_iff.1 h
   have ih:=dfrsR_wf r _ h1
   subst h2
   refine ⟨by simp only [List.length_cons];omega,fun q hq=>?_⟩
   rcases List.mem_cons.1 hq with rfl | hq
   ·exact posL_wf hd
   ·exact ih.2 q hq
  ·simp only [Option.some.injEq] at h
   subst h;exact ⟨by simp,fun x h=>by cases h⟩
theorem pansR_wf :∀(l:List Bytes) (z:List Pan × List Bytes),pansR l=some z→z.1.length+z.2.length≤l.length∧∀x∈z.1,WfP x
 | [],z,h=>by
  simp only [pansR,Option.some.injEq] at h
  subst h;exact ⟨Nat.le_refl _,fun x h=>by cases h⟩
 | x::r,z,h=>by
  unfold pansR at h
  split at h
  ·split at h
   ·rename_i he
    obtain ⟨y,h1,h2⟩:=Option.map_eq_some_iff.1 h
    have ih:=pansR_wf r _ h1
    subst h2
    refine ⟨by simp only [List.length_cons];omega,fun q hq=>?_⟩
    rcases List.mem_cons.1 hq with rfl | hq
    ·exact (rlP_inv he).2.1
    ·exact ih.2 q hq
   ·cases h
  ·simp only [Option.some.injEq] at h
   subst h;exact ⟨by simp,fun x h=>by cases h⟩
theorem memR_wf {m:Img} {l:List Bytes} {z:List Frm × List Dfr × List Pan × List Bytes} (h:memR m l=some z):(z.1.length≤l.length∧∀x∈z.1,WfX x)∧(z.2.1.length≤l.length∧∀x∈z.2.1,Wf x.arg)∧z.2.2.1.length≤l.length∧∀x∈z.2.2.1,WfP x:=by
 obtain ⟨a,h1,h⟩:=Option.bind_eq_some_iff.1 h
 obtain ⟨b,h2,h⟩:=Option.bind_eq_some_iff.1 h
 obtain ⟨c,h3,h⟩:=Option.map_eq_some_iff.1 h
 subst h
 have s1:=frmsR_wf _ _ _ h1
 have s2:=dfrsR_wf _ _ h2
 have s3:=pansR_wf _ _ h3
 exact ⟨⟨by simp only;omega,s1.2⟩,⟨by simp only;omega,s2.2⟩,by simp only;omega,s3.2⟩
theorem rouL_wf {s:Bytes}:0≤(rouL s).1.status∧-9223372036854775808≤(rouL s).1.key∧(rouL s).1.key<9223372036854775808:=by
 unfold rouL rouL1
 repeat' split
 ·exact ⟨by decide,by decide,by decide⟩
 ·exact ⟨by show (0:Int)≤2;decide,unnum_rng _⟩
 ·exact ⟨by decide,by decide,by decide⟩
 ·exact ⟨by show (0:Int)≤3;decide,by show (-9223372036854775808:Int)≤0;decide,by show (0:Int)<9223372036854775808;decide⟩
theorem rousR_wf {m:Img} :∀(n:Nat) (l:List Bytes) (z:List Rou × List Bytes),l.length≤1000000→rousR m n l=some z→z.1.length+z.2.length≤l.length∧∀x∈z.1,WfR x
 | 0,_,_,_,h=>by simp [rousR] at h
 | n+1,[],z,_,h=>by
  simp only [rousR,Option.some.injEq] at h
  subst h;exact ⟨Nat.le_refl _,fun x h=>by cases h⟩
 | n+1,x::r,z,hl,h=>by
  simp only [List.length_cons] at hl
  unfold rousR at h
  split at h
  ·split at h
   ·obtain ⟨a,ha,h⟩:=Option.bind_eq_some_iff.1 h
    obtain ⟨y,h1,h2⟩:=Option.map_eq_some_iff.1 h
    have w:=memR_wf ha
    have s:=memR_sub ha
    have ih:=rousR_wf n _ _ (by omega) h1
    subst h2
    refine ⟨by simp only [List.length_cons];omega,fun q hq=>?_⟩
    rcases List.mem_cons.1 hq with rfl | hq
    ·have hk:=rouL_wf (s:=x)
     exact ⟨hk.1,hk.2,w.1.2,w.2.1.2,w.2.2.2,by simp only;omega,by simp only;omega,by simp only;omega⟩
    ·exact ih.2 q hq
   ·cases h
  ·simp only [Option.some.injEq] at h
   subst h;exact ⟨by simp,fun x h=>by cases h⟩
theorem rdOut_pos (s:Bytes):0≤(rdOut s).1:=by
 unfold rdOut
 split
 ·decide
 ·rename_i h
  simp only;omega
section
variable {prog:Prog} {d id base i:Nat} {σ:Sl} {st:St} {K:Sl→St→Prop} {r:List AI} {t:Option Nat}
theorem s_callM {args:List Opd} {m:Img} {kl kx:Key} {vl vx:Nat} {s k:Int} {l:List Bytes} (hM:PuM prog m) (hs:evs σ args=[m.av,.p kx vx 0,.fn 305 [.p kl vl 0]]) (hn:kl≠kx) (hl:kl.1<d+1) (hx:kx.1<d+1) (hkx:Nat.blt kx.2 bigSite=true)
  (hbl:lk st.bx kl=some (vl,[.sl .ext (l.map rowS)])) (hbx:lk st.bx kx=some (vx,xc s k .full .full .full [] [] [])) (hlen:l.length≤400000) (hmx :∀y∈l,y.length≤1000000)
  (h :∀(nx':Nat) (bx':Bxs) (ow':Ows) (b:Bool),Fr2 (d+1) kl kx st.bx st.ow bx' ow'→(memR m l=none→b=false)→(∀z,memR m l=some z→b=true∧lk bx' kl=some (vl,[.sl .ext (z.2.2.2.map rowS)])∧∃o1 o2 o3,lk bx' kx=some (vx,xc s k o1 o2 o3 z.1 z.2.1 z.2.2.1))→
   WO prog d id base (i+1) r (upO σ t (.b b)) ⟨nx',bx',ow'⟩ K):WO prog d id base i (⟨t,.call true 309 args,none⟩::r) σ st K:=by
 refine s_one ?_
 obtain ⟨⟨nx',bx',ow'⟩,b,h1,h2,h3,h4⟩:=hM (d+1) st kl vl kx vx s k l hn hl hx hkx hbl hbx hlen hmx
 rw [WOp_callp,hs]
 exact ⟨_,_,h1,h nx' bx' ow' b h2 h3 h4⟩
theorem ApM.call2 {o:Own} {n:Nat} {kl kx:Key} {bx bx2:Bxs} {ow ow2:Ows} (h:ApM d ow o n) (c:Fr2 (d+1) kl kx bx ow bx2 ow2):ApM d ow2 o n:=by
 refine ⟨?_,h.2⟩
 cases o with
 | ext=>exact h.1
 | full=>exact h.1
 | id k v=>
  obtain ⟨e1,e2⟩:=h.2
  obtain ⟨a1,a2⟩:=h.1
  exact ⟨(c.2 k (by omega)).trans a1,a2⟩
end
abbrev zsta:List AV:=[.i .u8 0,.i .i64 0,.i .i64 0,.sl .full []]
abbrev sta4 (a b c:Int) (o:Own) (rs:List Rou):List AV:=[.i .u8 a,.i .i64 b,.i .i64 c,.sl o (rs.map Rou.row)]
structure RB (d v0 v4 v6 v10:Nat) (m:Img) (a b c:Int) (bx:Bxs) (l:List Bytes) (o:Own) (rs:List Rou):Prop where
 b0:lk bx (d,0)=some (v0,[.sl .ext (List.map Typ.row m.types),.sl .ext (List.map rowS m.texts),.sl .ext (List.map Fun.row m.funcs)])
 b4:lk bx (d,1)=some (v4,zsta)
 bl:lk bx (d,12290)=some (v6,[.sl .ext (l.map rowS)])
 bo:lk bx (d,24581)=some (v10,sta4 a b c o rs)
section
variable {prog:Prog} {d v0 v4 v6 v10:Nat} {m:Img} {a b c:Int} {bx:Bxs} {l:List Bytes} {o:Own} {rs:List Rou}
theorem key_s {d s s':Nat} (h:Nat.beq s s'=false):((d,s):Key)≠(d,s'):=by
 intro e
 injection e with _ e
 rw [e,Nat.beq_refl] at h
 cases h
theorem RB.next {bx':Bxs} {l':List Bytes} (h:RB d v0 v4 v6 v10 m a b c bx l o rs) (h1:lk bx' (d,12290)=some (v6,[.sl .ext (l'.map rowS)])) (h2 :∀k':Key,k'.1<d+1→k'≠(d,12290)→lk bx' k'=lk bx k'):RB d v0 v4 v6 v10 m a b c bx' l' o rs:=
 ⟨(h2 _ (Nat.lt_succ_self d) (key_s rfl)).trans h.b0,(h2 _ (Nat.lt_succ_self d) (key_s rfl)).trans h.b4,h1,(h2 _ (Nat.lt_succ_self d) (key_s rfl)).trans h.bo⟩
theorem RB.here {a':Nat × List AV} (h:RB d v0 v4 v6 v10 m a b c bx l o rs):RB d v0 v4 v6 v10 m a b c (st_ bx (d,45061) a') l o rs:=
 ⟨lk_other rfl h.b0,lk_other rfl h.b4,lk_other rfl h.bl,lk_other rfl h.bo⟩
theorem RB.call {bx':Bxs} {ow ow':Ows} (h:RB d v0 v4 v6 v10 m a b c bx l o rs) (f:Fr (d+1) (d+1,0) bx ow bx' ow'):RB d v0 v4 v6 v10 m a b c bx' l o rs:=
 ⟨(f.1 _ (Nat.lt_succ_self d) key_dn).trans h.b0,(f.1 _ (Nat.lt_succ_self d) key_dn).trans h.b4,(f.1 _ (Nat.lt_succ_self d) key_dn).trans h.bl,(f.1 _ (Nat.lt_succ_self d) key_dn).trans h.bo⟩
theorem RB.mem {bx':Bxs} {ow ow':Ows} {l':List Bytes} (h:RB d v0 v4 v6 v10 m a b c bx l o rs) (f:Fr2 (d+1) (d,12290) (d,45061) bx ow bx' ow') (h1:lk bx' (d,12290)=some (v6,[.sl .ext (l'.map rowS)])):RB d v0 v4 v6 v10 m a b c bx' l' o rs:=
 ⟨(f.1 _ (Nat.lt_succ_self d) (key_s rfl) (key_s rfl)).trans h.b0,(f.1 _ (Nat.lt_succ_self d) (key_s rfl) (key_s rfl)).trans h.b4,h1,(f.1 _ (Nat.lt_succ_self d) (key_s rfl) (key_s rfl)).trans h.bo⟩
theorem RB.out {o':Own} {rs':List Rou} (h:RB d v0 v4 v6 v10 m a b c bx l o rs):RB d v0 v4 v6 v10 m a b c (st_ bx (d,24581) (v10,sta4 a b c o' rs')) l o' rs':=
 ⟨lk_other rfl h.b0,lk_other rfl h.b4,lk_other rfl h.bl,lk_here⟩
theorem r_fail {id tz:Nat} {e:Int} {σ:Sl} {nx:Nat} {ow:Ows} {cs:List AV} {Q:AE→Sl→St→Prop} (h4:σ 4=.p (d,1) v4 0) (hz:Nat.beq 4 tz=false) (hb:lk bx (d,1)=some (v4,cs)) (hc:cs.length=4)
  (hQ :∀(σ:Sl) (nx:Nat) (bx:Bxs),σ 4=.p (d,1) v4 0→σ 5=.i .i64 e→lk bx (d,1)=some (v4,zsta)→Q .ret σ ⟨nx,bx,ow⟩) :
  W prog d (.seq (.reg id [oO tz (.build zsta []),oS 4 4 tz,oC 5 (.i .i64 e)]) .ret) σ ⟨nx,bx,ow⟩ Q:=by
 refine q_ rfl (s_build f_nil ?_)
 have e4:(upO σ (some tz) (.ag zsta)) 4=.p (d,1) v4 0:=by
  show cond (Nat.beq 4 tz) _ _=_
  rw [hz];exact h4
 have ez:(upO σ (some tz) (.ag zsta)) tz=.ag zsta:=by
  show cond (Nat.beq tz tz) _ _=_
  rw [Nat.beq_refl];rfl
 match cs,hc with
 | [c1,c2,c3,c5],_=>
  refine so_ (cs':=zsta) e4 hb ez rfl rfl (m_ (e_ (rt_ (hQ _ _ _ ?_ rfl lk_here))))
  exact e4
theorem r_loop (H:HasD prog) (hL:PuL prog) (hM:PuM prog m) {s:Bytes} {Q:AE→Sl→St→Prop} :∀(n:Nat) (l:List Bytes) (rs:List Rou) (σ:Sl) (nx:Nat) (bx:Bxs) (ow:Ows) (o:Own),l.length<n→rs.length+l.length≤400000→(∀y∈l,y.length≤1000000)→
  σ 1=.s s→σ 2=.p (d,0) v0 0→σ 4=.p (d,1) v4 0→σ 7=.fn 305 [.p (d,12290) v6 0]→σ 10=.p (d,24581) v10 0→RB d v0 v4 v6 v10 m a b c bx l o rs→ApM d ow o rs.length→
  (∀(σ:Sl) (nx:Nat) (bx:Bxs) (ow:Ows),rousR m n l=none→σ 4=.p (d,1) v4 0→σ 5=.i .i64 12→lk bx (d,1)=some (v4,zsta)→Q .ret σ ⟨nx,bx,ow⟩)→
  (∀(σ:Sl) (nx:Nat) (bx:Bxs) (ow:Ows) (o:Own) (z:List Rou × List Bytes),rousR m n l=some z→σ 1=.s s→σ 2=.p (d,0) v0 0→σ 4=.p (d,1) v4 0→σ 10=.p (d,24581) v10 0→RB d v0 v4 v6 v10 m a b c bx z.2 o (rs++z.1)→Q .normal σ ⟨nx,bx,ow⟩)→
  W prog d (.loop l299_0) σ ⟨nx,bx,ow⟩ (blockW 0 Q):=by
 intro n
 induction n with
 | zero=>intro l rs σ nx bx ow o h;omega
 | succ n ih=>
 intro l rs σ nx bx ow o hlen hsz hmx h1 h2 h4 h7 h10 hB hA hF hK
 refine W.loop (bk_ (q_ rfl (m_ (s_callL (p:=tGo) (l:=l) hL h7 rfl (Nat.lt_succ_self d) hB.bl fun nx' bx' hb1 hb2=>?_))))
 by_cases hno :∀x r,l=x::r→(cutp tGo x).2=false
 ·rw [nx_no hno] at hb1 ⊢
  have hB:=hB.next hb1 hb2
  refine m_ (x_ rfl rfl (x_ rfl rfl (m_ (m_ (e_ ?_)))))
  refine sq_ (q_ rfl (m_ (nt_ (a:=false) rfl (e_ (ct_ rfl (ex_ ?_))))))
  refine hK _ _ _ _ o ([],l) ?_ h1 h2 h4 h10 ?_
  ·cases l with
   | nil=>rfl
   | cons x r=>simp only [rousR,if_neg (show ¬ (cutp tGo x).2=true by rw [hno x r rfl];exact Bool.false_ne_true)]
  ·simpa using hB
 cases l with
 | nil=>exact absurd (fun _ _ e=>by cases e) hno
 | cons x r=>
 have hc:(cutp tGo x).2=true:=by
  by_cases h:(cutp tGo x).2=true
  ·exact h
  ·exact absurd (fun y s e=>by injection e with e1 e2;rw [← e1];simpa using h) hno
 rw [nx_yes hc] at hb1 ⊢
 have hB:=hB.next hb1 hb2
 simp only [List.length_cons] at hlen hsz
 have hxl:=hmx x List.mem_cons_self
 have hrm :∀y∈r,y.length≤1000000:=fun y hy=>hmx y (List.mem_cons_of_mem _ hy)
 refine m_ (x_ rfl rfl (x_ rfl rfl (m_ (m_ (e_ ?_)))))
 refine sq_ (q_ rfl (@fun nx1 _=>m_ (nt_ (a:=true) rfl (e_ (cf_ rfl (sk_ ?_))))))
 have hfr:rousR m (n+1) (x::r)=if (rouL x).2=true then (memR m r).bind fun a=>(rousR m n a.2.2.2).map fun z=>(⟨(rouL x).1.status,(rouL x).1.key,a.1,a.2.1,a.2.2.1⟩::z.1,z.2) else none:=by
  conv=>lhs;unfold rousR
  rw [if_pos hc]
 rw [hfr] at hF hK
 have hcall:=c308 H (s:=x) hxl
 generalize rouL x=R at hcall hF hK
 obtain ⟨X,ok⟩:=R
 simp only at hcall hF hK
 refine sq_ (W.reg ?_)
 change WO prog d 11 nx1 0 r299_11 _ ⟨_,st_ bx' (d,45061) (nx1+5,[.i .u8 0,.i .i64 0,.sl .full [],.sl .full [],.sl .full []]),ow⟩ _
 refine m_ (s_callN rfl hcall fun st' hfr'=>?_)
 have hB:=(hB.here (a':=(nx1+5,[.i .u8 0,.i .i64 0,.sl .full [],.sl .full [],.sl .full []]))).call hfr'
 have hA:=hA.call hfr'
 have hbx:=(hfr'.1 (d,45061) (Nat.lt_succ_self d) key_dn).trans lk_here
 clear hfr' hb1 hb2
 obtain ⟨nx',bx',ow'⟩:=st'
 simp only at hB hA hbx
 refine m_ (x_ rfl rfl (x_ rfl rfl (s_alloc (so_ (w:=.ag (xc X.status X.key .full .full .full [] [] [])) (cs':=xc X.status X.key .full .full .full [] [] []) rfl hbx rfl rfl rfl (m_ (e_ ?_))))))
 have hB:=hB.here (a':=(nx1+5,xc X.status X.key .full .full .full [] [] []))
 refine sq_ (q_ rfl (m_ (nt_ (a:=ok) rfl (m_ ?_))))
 cases ok with
 | false=>
  refine gn_ (b:=true) rfl rfl (gn_ (b:=true) rfl rfl (gn_ (b:=true) rfl rfl (gn_ (b:=true) rfl rfl (pt_ rfl rfl (e_ (ct_ rfl ?_))))))
  refine r_fail (tz:=61) h4 rfl hB.b4 rfl fun σ nx bx g4 g5 gb=>?_
  exact hF σ nx bx _ rfl g4 g5 gb
 | true=>
  rw [if_pos rfl] at hF hK
  refine gy_ rfl (l_ (w:=m.av) h2 hB.b0 rfl rfl (gy_ rfl (s_mv h7 (gy_ rfl (s_callM (l:=r) hM rfl (key_s rfl) (Nat.lt_succ_self d) (Nat.lt_succ_self d) rfl hB.bl lk_here (by omega) hrm fun nx2 bx2 ow2 bb hf2 hm1 hm2=>?_)))))
  refine gy_ rfl (nt_ (a:=bb) rfl (pf_ rfl rfl (e_ ?_)))
  cases hmr:memR m r with
  | none=>
   have hbb:=hm1 hmr
   subst hbb
   have g4:lk bx2 (d,1)=some (v4,zsta):=(hf2.1 _ (Nat.lt_succ_self d) (key_s rfl) (key_s rfl)).trans hB.b4
   refine ct_ rfl ?_
   refine r_fail (tz:=61) h4 rfl g4 rfl fun σ nx bx g4 g5 gb=>?_
   exact hF σ nx bx _ (by rw [hmr];rfl) g4 g5 gb
  | some z=>
   obtain ⟨hbb,hb1,o1,o2,o3,hbx2⟩:=hm2 z hmr
   subst hbb
   have hsub:=memR_sub hmr
   have hB:=hB.mem hf2 hb1
   have hA:=hA.call2 hf2
   refine cf_ rfl (sk_ ?_)
   refine W.reg0 rfl fun nx3 hnx3=>?_
   refine f_ h10 (l_ (w:=.sl o (rs.map Rou.row)) rfl hB.bo rfl rfl (l_ (w:=.ag (xc X.status X.key o1 o2 o3 z.1 z.2.1 z.2.2.1)) (k:=(d,45061)) rfl hbx2 rfl rfl ?_))
   refine s_bslM (f:=Rou.row) (l:=[⟨X.status,X.key,z.1,z.2.1,z.2.2.1⟩]) rfl rfl (g_cons (v:=.ag (xc X.status X.key o1 o2 o3 z.1 z.2.1 z.2.2.1)) (cs:=Rou.row ⟨X.status,X.key,z.1,z.2.1,z.2.2.1⟩) rfl rfl rfl g_nil) rfl ?_
   refine s_app (f:=Rou.row) (l:=rs) (m:=[⟨X.status,X.key,z.1,z.2.1,z.2.2.1⟩]) Rou.row_len rfl rfl rfl hA.1 ⟨?_,?_⟩ rfl fun o' ow' a1 a2 a3=>?_
   ·simp only [List.length_cons,List.length_nil,maxBytes_eq];omega
   ·simp only [List.length_cons,List.length_nil,maxBytes_eq];omega
   refine f_ h10 (so_ (k:=(d,24581)) (v:=v10) (cs':=sta4 a b c o' (rs++[⟨X.status,X.key,z.1,z.2.1,z.2.2.1⟩])) rfl hB.bo rfl rfl rfl (e_ ?_))
   refine ih z.2.2.2 (rs++[⟨X.status,X.key,z.1,z.2.1,z.2.2.1⟩]) _ _ _ _ o' (by omega) (by simp only [List.length_append,List.length_cons,List.length_nil];omega) (fun y hy=>hrm y (hsub.2 y hy)) h1 h2 h4 h7 h10 hB.out (ApM.mk a1 (Mine.app hA.2 rfl a3)) ?_ ?_
   ·intro σ nx bx ow e g4 g5 gb
    exact hF σ nx bx ow (by rw [hmr];simp only [Option.bind_some,e];rfl) g4 g5 gb
   ·intro σ nx bx ow o4 y e g1 g2 g4 g10 gB
    refine hK σ nx bx ow o4 (⟨X.status,X.key,z.1,z.2.1,z.2.2.1⟩::y.1,y.2) (by rw [hmr];simp only [Option.bind_some,e];rfl) g1 g2 g4 g10 ?_
    simpa using gB
end
end Go.AM

namespace Go.AM
open Go
attribute [local irreducible] WO fillCells fillRows
set_option maxRecDepth 4000
set_option maxHeartbeats 1000000
set_option linter.unusedVariables false
theorem split_mem {s x:Bytes} (h:x∈Lib.split s [10]):x.length≤s.length:=splitK_mem _ _ _ _ h
theorem count_le (s:Bytes):Lib.count s [10]≤s.length:=by
 have:=Lib.countB_le ⟨#[10]⟩ (by decide) s.length ⟨s.toArray⟩ (Nat.le_refl _)
 exact this
theorem split_len (s:Bytes):(Lib.split s [10]).length≤s.length+1:=by
 have h1:=splitK_len [10] 0 (Lib.count s [10]) s
 have h2:=count_le s
 unfold Lib.split
 omega
section
variable {prog:Prog} {m:Img} {s:Bytes}
def ReK (m:Img) (s:Bytes) (v:AV):Prop:=v=.tup [(readR m s).1.av,.i .i64 (readR m s).2]
def ReQ (m:Img) (s:Bytes):AE→Sl→St→Prop:=endW 0 pf299.res fun r _=>∃v,r.strip=some v∧ReK m s v
theorem rd_fail {σ:Sl} {nx v4:Nat} {bx:Bxs} {ow:Ows} {e:Int} (hr:readR m s=(sz,e)) (h4:σ 4=.p (0,1) v4 0) (h5:σ 5=.i .i64 e) (hb:lk bx (0,1)=some (v4,zsta)):ReQ m s .ret σ ⟨nx,bx,ow⟩:=by
 refine ⟨.tup [.ag zsta,.i .i64 e],?_,_,rfl,?_⟩
 ·simp only [pf299,ares,aresL,ares_cellA (st:=⟨nx,bx,ow⟩) (cs:=zsta) (n:=4) h4 hb rfl,h5,ares_tmp,Option.map_some]
 ·unfold ReK;rw [hr];rfl
theorem rd_ok {σ:Sl} {nx v4:Nat} {bx:Bxs} {ow:Ows} {o:Own} {x:Sta} (hr:readR m s=(x,0)) (h4:σ 4=.p (0,1) v4 0) (h5:σ 5=.i .i64 0) (hb:lk bx (0,1)=some (v4,sta4 x.outcome x.failing x.steps o x.routines)):ReQ m s .ret σ ⟨nx,bx,ow⟩:=by
 refine ⟨.tup [.ag (sta4 x.outcome x.failing x.steps o x.routines),.i .i64 0],?_,_,rfl,?_⟩
 ·simp only [pf299,ares,aresL,ares_cellA (st:=⟨nx,bx,ow⟩) (cs:=sta4 x.outcome x.failing x.steps o x.routines) (n:=4) h4 hb rfl,h5,ares_tmp,Option.map_some]
 ·unfold ReK;rw [hr]
theorem r_end (H:HasD prog) (hm:OkI m) {σ:Sl} {nx v0 v4 v6 v10:Nat} {bx:Bxs} {ow:Ows} {o:Own} {a b c:Int} {rs:List Rou} {l:List Bytes} (hw:WfS ⟨a,b,c,rs⟩) (hr:readR m s=if repR m ⟨a,b,c,rs⟩=(s,0) then (⟨a,b,c,rs⟩,0) else (sz,12))
  (h1:σ 1=.s s) (h2:σ 2=.p (0,0) v0 0) (h4:σ 4=.p (0,1) v4 0) (h10:σ 10=.p (0,24581) v10 0) (hB:RB 0 v0 v4 v6 v10 m a b c bx l o rs):W prog 0 c299_2 σ ⟨nx,bx,ow⟩ (ReQ m s):=by
 have hcall:=c205 H.toHasT hm hw
 generalize hR:repR m ⟨a,b,c,rs⟩=R at hcall hr
 obtain ⟨back,e⟩:=R
 simp only at hcall hr
 refine sq_ (q_ rfl (l_ (w:=m.av) h2 hB.b0 rfl rfl (l_ (w:=.ag (sta4 a b c o rs)) h10 hB.bo rfl rfl (ca_ (sc rfl rfl (sc (v:=.ag (sta4 a b c o rs)) rfl rfl sn)) hcall (m_ (x_ rfl rfl (x_ rfl rfl (m_ (m_ (e_ ?_))))))))))
 refine q_ rfl (m_ (b_ (a:=.i .i64 e) (b:=.i .i64 0) rfl rfl neq_ (m_ (em_ (g:=76) (p:=e≠0) rfl (fun he=>?_) (fun he=>?_)))))
 ·refine gn_ (b:=true) rfl rfl (gn_ (b:=true) rfl rfl (gn_ (b:=true) rfl rfl (pt_ rfl rfl (e_ (ct_ rfl ?_)))))
  refine r_fail (tz:=81) h4 rfl hB.b4 rfl fun σ nx bx g4 g5 gb=>?_
  refine rd_fail (m:=m) (s:=s) ?_ g4 g5 gb
  rw [hr,if_neg]
  intro h;injection h with _ h;exact he h
 ·have he:=Decidable.not_not.1 he
  subst he
  refine gy_ rfl (s_mvS (l:=back) rfl (gy_ rfl (s_mvS (l:=s) h1 (gy_ rfl (b_ (a:=.s back) (b:=.s s) rfl rfl sne_ (pf_ rfl rfl (e_ (cs_ rfl (fun hs=>?_) (fun hs=>sk_ ?_)))))))))
  ·refine r_fail (tz:=81) h4 rfl hB.b4 rfl fun σ nx bx g4 g5 gb=>?_
   refine rd_fail (m:=m) (s:=s) ?_ g4 g5 gb
   rw [hr,if_neg]
   intro h;injection h with h _;exact hs h
  ·have hs:=Decidable.not_not.1 hs
   refine q_ rfl (l_ (w:=.ag (sta4 a b c o rs)) h10 hB.bo rfl rfl (so_ (w:=.ag (sta4 a b c o rs)) (cs':=sta4 a b c o rs) h4 hB.b4 rfl rfl rfl (m_ (e_ (rt_ ?_)))))
   refine rd_ok (m:=m) (s:=s) (o:=o) (x:=⟨a,b,c,rs⟩) ?_ h4 rfl lk_here
   rw [hr,if_pos (by rw [hs])]
theorem c299 (H:HasD prog) (hL:PuL prog) (hM:PuM prog m) (hf:prog.fn 299=some pf299) (hm:OkI m) (hs:s.length≤1000000000):Pus prog 299 [m.av,.s s] (.tup [(readR m s).1.av,.i .i64 (readR m s).2]):=by
 have main:W prog 0 b299 (sl0 [m.av,.s s]) st0 (ReQ m s):=?_
 ·obtain ⟨v,h1,h2⟩:=Pus.of (prog:=prog) (f:=299) (args:=[m.av,.s s]) (K:=ReK m s) hf rfl main
  rw [← show v=_ from h2];exact h1
 refine sq_ (W.reg ?_)
 change WO prog 0 0 0 0 r299_0 _ ⟨_,st_ [] (0,1) (1,zsta),[]⟩ _
 refine s_box (v:=m.av) rfl rfl (s_alloc (m_ (e_ ?_)))
 have b0:lk (st_ (st_ [] (0,1) (1,zsta)) (0,0) (0,m.av.cells)) (0,0)=some (0,m.av.cells):=lk_here
 have b4:lk (st_ (st_ [] (0,1) (1,zsta)) (0,0) (0,m.av.cells)) (0,1)=some (1,zsta):=lk_other rfl lk_here
 revert b0 b4
 show _→_→W prog 0 c299_9 _ ⟨_,st_ (st_ [] (0,1) (1,zsta)) (0,0) (0,m.av.cells),[]⟩ _
 generalize st_ (st_ [] (0,1) (1,zsta)) (0,0) (0,m.av.cells)=bx
 intro b0 b4
 refine sq_ (q_ rfl (s_mvS (l:=s) rfl (ln_ (l:=s) rfl (b_ (a:=.i .i64 (s.length:Int)) (b:=.i .i64 300000) rfl rfl gtr_ (e_ (cs_ rfl (fun h=>?_) (fun h=>sk_ ?_)))))))
 ·refine r_fail (v4:=1) (tz:=20) rfl rfl b4 rfl fun σ nx bx g4 g5 gb=>?_
  refine rd_fail (m:=m) (s:=s) ?_ g4 g5 gb
  unfold readR;rw [if_pos (by omega)]
 have hrd:readR m s=match staR m (Lib.split s [10]) with
  | none=>(sz,12)
  | some x=>if repR m x=(s,0) then (x,0) else (sz,12):=by unfold readR;rw [if_neg (by omega)];cases staR m (Lib.split s [10])<;>rfl
 have hls:s.length≤300000:=by omega
 refine sq_ (W.reg ?_)
 rename_i nx1 _
 change WO prog 0 3 nx1 0 r299_3 _ ⟨_,st_ bx (0,12290) (nx1+2,[.sl .full []]),[]⟩ _
 have hsl:=split_len s
 have hsm :∀x∈Lib.split s [10],x.length≤300000:=fun x hx=>Nat.le_trans (split_mem hx) hls
 refine s_mvS (l:=s) rfl (ca_ (sc rfl rfl (sc rfl rfl sn)) (c304 H hs) (s_alloc ?_))
 generalize Lib.split s [10]=L at hrd hsl hsm
 refine so_ (w:=.sl .ext (L.map rowS)) (cs':=[.sl .ext (L.map rowS)]) rfl lk_here rfl rfl rfl (e_ ?_)
 have bl:lk (st_ (st_ bx (0,12290) (nx1+2,[.sl .full []])) (0,12290) (nx1+2,[.sl .ext (L.map rowS)])) (0,12290)=some (nx1+2,[.sl .ext (L.map rowS)]):=lk_here
 have b0:lk (st_ (st_ bx (0,12290) (nx1+2,[.sl .full []])) (0,12290) (nx1+2,[.sl .ext (L.map rowS)])) (0,0)=some (0,m.av.cells):=lk_other rfl (lk_other rfl b0)
 have b4:lk (st_ (st_ bx (0,12290) (nx1+2,[.sl .full []])) (0,12290) (nx1+2,[.sl .ext (L.map rowS)])) (0,1)=some (1,zsta):=lk_other rfl (lk_other rfl b4)
 revert b0 b4 bl
 show _→_→_→W prog 0 c299_7 _ ⟨_,st_ (st_ bx (0,12290) (nx1+2,[.sl .full []])) (0,12290) (nx1+2,[.sl .ext (L.map rowS)]),[]⟩ _
 generalize st_ (st_ bx (0,12290) (nx1+2,[.sl .full []])) (0,12290) (nx1+2,[.sl .ext (L.map rowS)])=bx
 intro bl b0 b4
 refine q_ rfl (s_mkfn (vs:=[.p (0,12290) (nx1+2) 0]) rfl (m_ (e_ ?_)))
 refine q_ rfl (m_ (s_callL (p:=tOut) (k:=(0,12290)) (l:=L) hL rfl rfl Nat.zero_lt_one bl fun nx' bx' hb1 hb2=>?_))
 have b0:=(hb2 (0,0) Nat.zero_lt_one (key_s rfl)).trans b0
 have b4:=(hb2 (0,1) Nat.zero_lt_one (key_s rfl)).trans b4
 generalize hN:nxL tOut L=N at hb1
 obtain ⟨first,ok,rest⟩:=N
 simp only at hb1
 have hfl:first.length≤300000:=by
  cases L with
  | nil=>rw [show nxL tOut []=([],false,[]) from rfl] at hN;injection hN with hN;rw [← hN];exact Nat.zero_le _
  | cons x r=>
   simp only [nxL] at hN
   split at hN<;>injection hN with hN<;>rw [← hN]
   ·exact hsm x List.mem_cons_self
   ·exact Nat.zero_le _
 refine m_ (x_ rfl rfl (x_ rfl rfl (m_ (m_ (e_ ?_)))))
 have hX:(outL first).1.routines=[]:=rfl
 have hcall:=c307 H (s:=first) (by omega)
 generalize hO:outL first=O at hcall hX
 obtain ⟨⟨a,b,c,rs0⟩,is⟩:=O
 simp only at hX hcall
 subst hX
 refine sq_ (W.reg ?_)
 change WO prog 0 6 nx' 0 r299_6 _ ⟨_,st_ bx' (0,24581) (nx'+5,zsta),_⟩ _
 refine m_ (s_callN rfl hcall fun st' hfr'=>?_)
 have b0:=(hfr'.1 (0,0) Nat.zero_lt_one key_dn).trans (lk_other rfl b0)
 have b4:=(hfr'.1 (0,1) Nat.zero_lt_one key_dn).trans (lk_other rfl b4)
 have bl:=(hfr'.1 (0,12290) Nat.zero_lt_one key_dn).trans (lk_other rfl hb1)
 have bo:=(hfr'.1 (0,24581) Nat.zero_lt_one key_dn).trans lk_here
 clear hfr' hb1 hb2
 obtain ⟨nx2,bx2,ow2⟩:=st'
 simp only at b0 b4 bl bo
 refine m_ (x_ rfl rfl (x_ rfl rfl (s_alloc (so_ (w:=.ag (sta4 a b c .full [])) (cs':=sta4 a b c .full []) rfl bo rfl rfl rfl (m_ (e_ ?_))))))
 have hB:RB 0 0 1 (nx1+2) (nx'+5) m a b c (st_ bx2 (0,24581) (nx'+5,sta4 a b c .full [])) rest .full []:=⟨lk_other rfl b0,lk_other rfl b4,lk_other rfl bl,lk_here⟩
 refine sq_ (q_ rfl (m_ (nt_ (a:=ok) rfl (m_ ?_))))
 cases ok with
 | false=>
  refine gn_ (b:=true) rfl rfl (gn_ (b:=true) rfl rfl (pt_ rfl rfl (e_ (ct_ rfl ?_))))
  refine r_fail (v4:=1) (tz:=40) rfl rfl hB.b4 rfl fun σ nx bx g4 g5 gb=>?_
  refine rd_fail (m:=m) (s:=s) ?_ g4 g5 gb
  rw [hrd]
  cases L with
  | nil=>rfl
  | cons x r=>
   simp only [nxL] at hN
   split at hN
   ·injection hN with _ hN;injection hN with hN _;cases hN
   ·rename_i h;simp only [staR,if_neg h]
 | true=>
  obtain ⟨x,r,rfl,hc,rfl,rfl⟩ :∃x r,L=x::r∧(cutp tOut x).2=true∧first=x∧rest=r:=by
   cases L with
   | nil=>rw [show nxL tOut []=([],false,[]) from rfl] at hN;injection hN with _ hN;injection hN with hN _;cases hN
   | cons x r=>
    simp only [nxL] at hN
    split at hN
    ·rename_i h;injection hN with h1 hN;injection hN with _ h2;exact ⟨x,r,rfl,h,h1.symm,h2.symm⟩
    ·injection hN with _ hN;injection hN with hN _;cases hN
  refine gy_ rfl (m_ (gy_ rfl (nt_ (a:=is) rfl (pf_ rfl rfl (e_ ?_)))))
  simp only [List.length_cons] at hsl
  simp only [staR,if_pos hc,hO] at hrd
  cases is with
  | false=>
   refine ct_ rfl ?_
   refine r_fail (v4:=1) (tz:=40) rfl rfl hB.b4 rfl fun σ nx bx g4 g5 gb=>?_
   refine rd_fail (m:=m) (s:=s) ?_ g4 g5 gb
   rw [hrd];rfl
  | true=>
   refine cf_ rfl (sk_ ?_)
   refine sq_ (bk_ (r_loop (s:=s) H hL hM (rest.length+1) rest [] _ _ _ _ .full (Nat.lt_succ_self _) (by simp only [List.length_nil];omega) (fun y hy=>Nat.le_trans (hsm y (List.mem_cons_of_mem _ hy)) (by decide)) rfl rfl rfl rfl rfl hB ⟨trivial,trivial⟩ ?_ ?_))
   ·intro σ nx bx ow e g4 g5 gb
    refine rd_fail (m:=m) (s:=s) ?_ g4 g5 gb
    rw [hrd,if_pos rfl,e];rfl
   ·intro σ nx bx ow o z e g1 g2 g4 g10 gB
    have w:=rousR_wf _ _ _ (by omega) e
    have hwf:WfS ⟨a,b,c,z.1⟩:=by
     refine ⟨?_,w.2,by simp only;omega⟩
     have:a=(outL first).1.outcome:=by rw [hO]
     rw [this];exact rdOut_pos _
    refine r_end H hm (rs:=z.1) hwf ?_ g1 g2 g4 g10 (by simpa using gB)
    rw [hrd,if_pos rfl,e];rfl
end
end Go.AM

namespace Go.AM
open Go
set_option maxRecDepth 100000
structure HasD1 (prog:Prog):Prop extends HasD prog where
 f299:prog.fn 299=some pf299
 f305:prog.fn 305=some pf305
 f309:prog.fn 309=some pf309
 f302:prog.fn 302=some pf302
 f314:prog.fn 314=some pf314
 f292:prog.fn 292=some pf292
 f303:prog.fn 303=some pf303
 f294:prog.fn 294=some pf294
 f296:prog.fn 296=some pf296
 f297:prog.fn 297=some pf297
 f293:prog.fn 293=some pf293
 f290:prog.fn 290=some pf290
def vN (n:Int):Val:=Val.mk 2 n [] [] false
def vY:Val:=Val.mk 1 1 [] [] false
def pGiven:Img:=Img.mk [] [] [(Fun.mk [109,97,105,110] 0 0 [] (List.replicate 6 Ins.zero) [] []),(Fun.mk [102] 0 0 [(Fld.mk [120] 0)] (List.replicate 6 Ins.zero) [] [])]
def rWait:Rou:=Rou.mk 2 (-3) [(Frm.mk 0 1 0 [])] [(Dfr.mk 0 1 true vY)] []
def sGivn:Sta:=Sta.mk 2 0 17 [(Rou.mk 1 0 [(Frm.mk 0 4 0 [])] [] [(Pan.mk 1 (vN 5) 0)])]
def tGivn:Bytes:=[111,117,116,99,111,109,101,32,112,97,110,105,99,44,32,102,97,105,108,105,110,103,32,48,44,32,115,116,101,112,115,32,49,55,10,103,111,114,111,117,116,105,110,101,32,48,58,32,114,101,97,100,121,10,32,32,35,48,32,48,32,34,109,97,105,110,34,32,97,116,32,52,32,99,97,108,108,10,32,32,112,97,110,105,99,32,53,10]
def lWait:List Bytes:=[[103,111,114,111,117,116,105,110,101,32,48,58,32,98,108,111,99,107,101,100,32,45,51],[32,32,35,48,32,48,32,34,109,97,105,110,34,32,97,116,32,49,32,99,97,108,108],[32,32,100,101,102,101,114,32,48,32,49,32,34,102,34,32,119,105,116,104,32,116,114,117,101]]
theorem ok_pGiven:OkI pGiven:=OkI.of (by decide +kernel)
theorem wf_vN {n:Int} (hn:-9223372036854775808≤n∧n<9223372036854775808):Wf (vN n):=.mk (by decide) hn (by decide) (by simp)
theorem wf_vY:Wf vY:=.mk (by decide) (by decide) (by decide) (by simp)
theorem wf_rWait:WfR rWait:=by
 refine ⟨by decide,by decide,fun y hy=>?_,fun y hy=>?_,fun y hy=>(by cases hy),by decide,by decide,by decide⟩
 ·rw [List.mem_singleton.1 hy];exact ⟨by decide,by decide,by simp⟩
 ·rw [List.mem_singleton.1 hy];exact wf_vY
theorem wf_sGivn:WfS sGivn:=by
 refine ⟨by decide,fun x hx=>?_,by decide⟩
 rw [List.mem_singleton.1 hx]
 refine ⟨by decide,by decide,fun y hy=>?_,by simp,fun y hy=>?_,by decide,by decide,by decide⟩
 ·rw [List.mem_singleton.1 hy];exact ⟨by decide,by decide,by simp⟩
 ·rw [List.mem_singleton.1 hy];exact ⟨by decide,wf_vN (by decide),by decide⟩
theorem rep_sGivn:repR pGiven sGivn=(tGivn,0):=by decide +kernel
theorem rou_rWait:rouR pGiven 0 rWait=(lWait,0):=by decide +kernel
section
variable {prog:Prog} (H:HasD1 prog)
include H
theorem c299' {m:Img} (hm:OkI m) {s:Bytes} (hs:s.length≤1000000000):Pus prog 299 [m.av,.s s] (.tup [(readR m s).1.av,.i .i64 (readR m s).2]):=
 c299 H.toHasD (c305 H.toHasD H.f305) (c309 H.toHasD (c305 H.toHasD H.f305) H.f309 hm) H.f299 hm hs
theorem c292 (n:Int):Pus prog 292 [.i .i64 n] ((vN n).av):=by
 obtain ⟨x,rfl,h⟩:=p292 H.f292 (n0:=n) (K:=fun x=>x=vN n) (by unfold T292_0;rfl)
 exact h
theorem c303:Pus prog 303 [] (vY.av):=by
 obtain ⟨x,rfl,h⟩:=p303 H.f303 (K:=fun x=>x=vY) (by unfold T303_0;rfl)
 exact h
theorem c294:Pus prog 294 [] (rWait.av):=by
 obtain ⟨x,rfl,h⟩:=p294 H.f294 (K:=fun x=>x=rWait) (by unfold T294_0;exact ⟨_,c303 H,rfl⟩)
 exact h
theorem c296:Pus prog 296 [] (sGivn.av):=by
 obtain ⟨x,rfl,h⟩:=p296 H.f296 (K:=fun x=>x=sGivn) (by unfold T296_0;exact ⟨_,c292 H 5,rfl⟩)
 exact h
theorem c297:Pus prog 297 [] (pGiven.av):=by
 obtain ⟨x,rfl,h⟩:=p297 H.f297 (K:=fun x=>x=pGiven) (by unfold T297_0;rw [rep_eq];rfl)
 exact h
theorem c293 {s:Sta} {t:Bytes} (hs:WfS s) (h:repR pGiven s=(t,0)):Pus prog 293 [s.av,.s t] (.b true):=by
 obtain ⟨x,rfl,h⟩:=p293 H.f293 (s0:=s) (want1:=t) (K:=fun x=>x=true) (by
  have c:=c205 H.toHasT ok_pGiven hs
  rw [h] at c
  have hf:fitS pGiven s=true:=by
   unfold repR at h
   split at h
   ·assumption
   ·injection h with _ h;cases h
  have ht:repT pGiven s=t∧t.length≤300000:=by
   unfold repR at h
   rw [if_pos hf] at h
   split at h
   ·injection h with _ h;cases h
   ·injection h with h _;exact ⟨h,by rw [← h];omega⟩
  have r:readR pGiven t=(s,0):=by rw [← ht.1];exact readR_repT ok_pGiven hs hf (by rw [ht.1];exact ht.2)
  have c2:=c299' H ok_pGiven (s:=t) (by omega)
  rw [r] at c2
  have hs0:WfS0 s:=⟨hs.o,fun x hx=>by
   have w:=hs.r x hx
   have:=w.fl;have:=w.dl;have:=w.pl
   exact ⟨w.st,w.k,w.f,w.d,w.p,by omega,by omega,by omega⟩,hs.n⟩
  unfold T293_0
  exact ⟨_,c297 H,_,_,c,_,c297 H,_,_,c2,fun _=>⟨fun _=>⟨fun _=>⟨_,c302 H.toHasT H.f314 H.f302 hs0,sameS_true.2 rfl⟩,fun h=>absurd rfl h⟩,fun h=>absurd rfl h⟩,fun h=>absurd rfl h⟩)
 exact h
theorem c290:Pus prog 290 [] (.b true):=by
 obtain ⟨x,rfl,h⟩:=p290 H.f290 (K:=fun x=>x=true) (by
  have c:=c207 H.toHasT (g:=0) ok_pGiven wf_rWait
  rw [rou_rWait] at c
  unfold T290_0
  exact ⟨_,c297 H,_,c294 H,_,_,c,_,c296 H,_,c293 H wf_sGivn rep_sGivn,fun _=>⟨fun _=>⟨_,c29 H.toHas03 (by decide),decide_eq_true rfl⟩,fun h=>absurd rfl h⟩,fun h=>(by cases h)⟩)
 exact h
theorem repR_no {m:Img} {s:Sta} (h:(repR m s).2≠0):(repR m s).1=[]:=by
 unfold repR at h ⊢
 split
 ·split
  ·rfl
  ·rename_i h1 h2;rw [if_pos h1,if_neg h2] at h;exact absurd rfl h
 ·rfl
theorem repR_yes {m:Img} {s:Sta} (h:(repR m s).2=0):fitS m s=true∧(repR m s).1=repT m s∧(repT m s).length≤300000:=by
 unfold repR at h ⊢
 split
 ·rename_i h1
  rw [if_pos h1] at h
  split
  ·rename_i h2;rw [if_pos h2] at h;cases h
  ·exact ⟨h1,rfl,by omega⟩
 ·rename_i h1;rw [if_neg h1] at h;cases h
theorem law289 (hf:prog.fn 289=some pf289) {m:Img} (hmn:m.funcs.length≤9223372036854775807) {s t:Sta} (hs:WfS0 s) (ht:WfS0 t):Pus prog 289 [m.av,s.av,t.av] (.b true):=by
 obtain ⟨x,rfl,h⟩:=p289 hf (m0:=m) (s1:=s) (t2:=t) (K:=fun x=>x=true) (by
  unfold T289_0 T289_1
  refine ⟨_,c290 H,?_⟩
  unfold T289_2
  refine ⟨_,c79 H.toHasF hmn,fun _=>rfl,fun hg=>⟨_,c203 H.toHasT hs,fun _=>rfl,fun gs=>⟨_,c203 H.toHasT ht,fun _=>rfl,fun gt=>⟨fun _=>rfl,fun _=>?_⟩⟩⟩⟩
  have hm:=OkI.of hg
  have ws:=WfS.of hs gs
  have wt:=WfS.of ht gt
  unfold T289_3
  refine ⟨_,_,c205 H.toHasT hm ws,_,_,c205 H.toHasT hm wt,?_⟩
  have last :∀{p q:Prop},((repR m s).2≠0∨(repR m t).2≠0)→T289_4 prog (fun x=>x=true) true (repR m s).1 (repR m s).2 (repR m t).1 (repR m t).2 true s t:=by
   intro _ _ hor
   unfold T289_4
   refine ⟨fun _=>⟨fun _=>⟨fun h1=>⟨fun _=>rfl,fun h2=>decide_eq_true (by rw [repR_no H h2];rfl)⟩,fun h1=>⟨fun _=>⟨fun _=>rfl,fun h2=>decide_eq_true (by rw [repR_no H h2];rfl)⟩,fun h=>absurd (by rw [repR_no H h1];rfl) h⟩⟩,fun h=>(by cases h)⟩,fun h=>(by cases h)⟩
  refine ⟨fun h=>last (p:=True) (q:=True) (.inl h),fun h=>?_⟩
  by_cases h2:(repR m t).2=0
  ·rw [decide_eq_false (by simpa using h2)]
   have h:=Decidable.not_not.1 h
   unfold T289_4 T289_5
   refine ⟨fun h=>(by cases h),fun _=>⟨fun _=>⟨_,c302 H.toHasT H.f314 H.f302 hs,?_⟩,fun h=>(by cases h)⟩⟩
   obtain ⟨f1,e1,_⟩:=repR_yes H h
   obtain ⟨f2,e2,_⟩:=repR_yes H h2
   rw [e1,e2]
   refine decide_eq_true ?_
   by_cases e:repT m s=repT m t
   ·rw [decide_eq_true e,sameS_true.2 (repT_inj hm ws wt f1 f2 e)]
   ·rw [decide_eq_false e,(sameS_false.2 fun h=>e (by rw [h]))]
  ·rw [decide_eq_true (by simpa using h2)]
   exact last (p:=True) (q:=True) (.inr h2))
 exact h
end
end Go.AM

/- The statement ReportOne: for every input the law returns true, and each argument reads afterwards as before. No conditions. -/
namespace Go.Proofs.YtheacfnopahmjaaGreatDoor.ReportOneProof
open Go Go.AM Go.RowKit Go.ChangeShapes Go.WideShapes Go.ChangeAt

set_option maxRecDepth 100000
theorem ok289 : FnOk Tryz.prog X 6 pf289 := fK Tryz.func6
def fns : List (Nat × AF) := [(42, pf42), (46, pf46), (36, pf36), (43, pf43), (47, pf47), (11, pf11), (15, pf15), (21, pf21), (25, pf25), (30, pf30), (34, pf34), (37, pf37), (39, pf39), (45, pf45), (29, pf29), (145, pf145), (126, pf126), (71, pf71), (72, pf72), (74, pf74), (76, pf76), (78, pf78), (102, pf102), (103, pf103), (104, pf104), (107, pf107), (109, pf109), (128, pf128), (129, pf129), (130, pf130), (131, pf131), (136, pf136), (154, pf154), (158, pf158), (178, pf178), (180, pf180), (183, pf183), (190, pf190), (191, pf191), (156, pf156), (160, pf160), (181, pf181), (162, pf162), (169, pf169), (170, pf170), (79, pf79), (80, pf80), (82, pf82), (86, pf86), (88, pf88), (111, pf111), (112, pf112), (113, pf113), (115, pf115), (116, pf116), (119, pf119), (122, pf122), (123, pf123), (124, pf124), (138, pf138), (139, pf139), (141, pf141), (144, pf144), (203, pf203), (204, pf204), (205, pf205), (207, pf207), (211, pf211), (213, pf213), (215, pf215), (216, pf216), (217, pf217), (218, pf218), (219, pf219), (220, pf220), (221, pf221), (224, pf224), (225, pf225), (227, pf227), (228, pf228), (229, pf229), (230, pf230), (231, pf231), (232, pf232), (233, pf233), (234, pf234), (236, pf236), (237, pf237), (238, pf238), (239, pf239), (84, pf84), (117, pf117), (118, pf118), (140, pf140), (143, pf143), (306, pf306), (316, pf316), (322, pf322), (260, pf260), (266, pf266), (317, pf317), (307, pf307), (308, pf308), (318, pf318), (299, pf299), (305, pf305), (309, pf309), (302, pf302), (314, pf314), (292, pf292), (303, pf303), (294, pf294), (296, pf296), (297, pf297), (293, pf293), (290, pf290), (289, pf289)]
def prog : Prog := ⟨fnOf fns, orcS, orsB⟩
set_option maxRecDepth 100000 in
theorem fns_ok : FnsOk Tryz.prog X fns fms :=
 fN J (fN J (fN J (fN J (fS J ok289 (fS J ok290 (fS J ok79 (fS J ok203 (fN J (fS J ok205 (fN J (fS J ok207 (fS J ok29 (fN J (fN J (fS J ok211 (fS J ok292 (fS J ok293 (fS J ok294 (fN J (fS J ok296 (fS J ok297 (fS J ok213 (fN J (fS J ok299 (fN J (fN J (fS J ok302 (fS J ok204 (fS J ok221 (fS J ok126 (fS J ok215 (fS J ok216 (fS J ok217 (fN J (fS J ok219 (fS J ok220 (fS J ok15 (fS J ok82 (fS J ok154 (fS J ok141 (fS J ok303 (fS J ok224 (fS J ok225 (fN J (fS J ok305 (fS J ok306 (fS J ok307 (fS J ok308 (fS J ok309 (fN J (fN J (fN J (fN J (fN J (fN J (fS J ok218 (fS J ok314 (fS J ok162 (fS J ok80 (fS J ok71 (fN J (fN J (fN J (fS J ok145 (fS J ok227 (fS J ok228 (fS J ok86 (fS J ok229 (fS J ok230 (fS J ok231 (fS J ok232 (fS J ok233 (fS J ok158 (fS J ok234 (fS J ok34 (fS J ok111 (fS J ok112 (fS J ok113 (fS J ok72 (fS J ok178 (fS J ok236 (fN J (fS J ok46 (fS J ok260 (fS J ok316 (fS J ok317 (fS J ok36 (fS J ok21 (fS J ok84 (fS J ok318 (fS J ok156 (fN J (fN J (fN J (fN J (fN J (fN J (fN J (fN J (fN J (fN J (fN J (fN J (fN J (fN J (fS J ok170 (fS J ok88 (fS J ok78 (fS J ok102 (fS J ok103 (fN J (fN J (fS J ok237 (fS J ok122 (fS J ok123 (fS J ok76 (fS J ok238 (fS J ok239 (fS J ok183 (fS J ok11 (fS J ok104 (fN J (fN J (fN J (fS J ok266 (fS J ok322 (fS J ok42 (fS J ok37 (fS J ok115 (fS J ok116 (fS J ok117 (fS J ok118 (fS J ok119 (fN J (fS J ok74 (fS J ok180 (fS J ok181 (fN J (fN J (fS J ok143 (fN J (fS J ok138 (fN J (fN J (fN J (fN J (fS J ok160 (fS J ok124 (fN J (fS J ok144 (fS J ok109 (fS J ok30 (fN J (fN J (fN J (fS J ok43 (fS J ok139 (fS J ok128 (fS J ok140 (fS J ok107 (fS J ok190 (fN J (fN J (fN J (fN J (fN J (fN J (fN J (fN J (fN J (fS J ok136 (fN J (fS J ok47 (fN J (fN J (fS J ok131 (fS J ok129 (fS J ok130 (fS J ok191 (fN J (fN J (fN J (fS J ok25 (fS J ok39 (fS J ok45 (fN J (fN J (fN J (fN J (trivial))))))))))))))))))))))))))))))))))))))))))))))))))))))))))))))))))))))))))))))))))))))))))))))))))))))))))))))))))))))))))))))))))))))))))))))))))))))))))))))))))))))))))))))))))))))))))))))
theorem o48_ok : OracOk Tryz.prog X { fn := fnOf fns, orac := orc48 48 } := orc48_ok (f0 := 185) (fun f h => by have := fm_inv h; simpa [fms] using this) Tryz.func185 (by kernel_rfl) (by kernel_rfl) (by kernel_rfl) (by kernel_rfl)
theorem orac_ok : OracOk Tryz.prog X prog := orcS_ok (orcB_ok o48_ok (f0 := 114) (fun f h => by have := fm_inv h; simpa [fms] using this) Tryz.func114 (by kernel_rfl) (by kernel_rfl) (by kernel_rfl) (by kernel_rfl)) (f1 := 46) (f2 := 136) (f3 := 158) (g := 1000000000) rfl
  (fun f h => by have := fm_inv h; simpa [fms] using this) (fun args w => callFunc_enter Tryz.func46 (by kernel_rfl) (code := bodyS Tryz.f46) (by kernel_rfl) args) (fun s m w hs hm => split_ret Tryz.lays146 (by kernel_rfl) s m w hs hm)
  (fun f h => by have := fm_inv h; simpa [fms] using this) (fun args w => callFunc_enter Tryz.func136 (by kernel_rfl) (code := bodyS Tryz.f136) (by kernel_rfl) args) (fun s m w hs hm => splitN_ret Tryz.lays147 (by kernel_rfl) s m w hs hm)
  (fun f h => by have := fm_inv h; simpa [fms] using this) (fun args w => callFunc_enter Tryz.func158 (by kernel_rfl) (code := bodyS Tryz.f158) (by kernel_rfl) args) (fun s q m w hs hm => Go.Proofs.Any.stringslite_Index Tryz.lays219 s q m w hs hm)
theorem orsB_ok : OracSOk Tryz.prog X prog := Go.AM.orsB_ok Tryz.lays169 Tryz.extraB (fun f h => by have := fm_inv h; have e : f = 36 := (by simpa [fms] using this); exact e) (by kernel_rfl) (by kernel_rfl) Tryz.func36 (by kernel_rfl) rfl
def tl : List Nat := [2, 3, 4, 5, 9, 22, 23, 24, 26, 27, 29, 39, 40, 41, 43, 52, 53, 55, 56, 58, 61, 63, 65, 81, 82, 83, 85, 87, 267, 269, 271]
theorem at_ : LawAt Tryz.prog X prog tl := ⟨tab_ok tys_ok, by kernel_rfl, prog_ok fns_ok.all rfl, orac_ok, orsB_ok, by
    intro t ht
    exact (show ∀ t ∈ tl, okTy X.T tl t = true by decide) t (by simpa using ht)⟩
set_option maxRecDepth 100000 in
theorem has : HasD1 prog := { f42 := by kernel_rfl, f46 := by kernel_rfl, f36 := by kernel_rfl, f43 := by kernel_rfl, f47 := by kernel_rfl, f11 := by kernel_rfl, f15 := by kernel_rfl, f21 := by kernel_rfl, f25 := by kernel_rfl, f30 := by kernel_rfl, f34 := by kernel_rfl, f37 := by kernel_rfl, f39 := by kernel_rfl, f45 := by kernel_rfl, f29 := by kernel_rfl, f145 := by kernel_rfl, f126 := by kernel_rfl, f71 := by kernel_rfl, f72 := by kernel_rfl, f74 := by kernel_rfl, f76 := by kernel_rfl, f78 := by kernel_rfl, f102 := by kernel_rfl, f103 := by kernel_rfl, f104 := by kernel_rfl, f107 := by kernel_rfl, f109 := by kernel_rfl, f128 := by kernel_rfl, f129 := by kernel_rfl, f130 := by kernel_rfl, f131 := by kernel_rfl, f136 := by kernel_rfl, f154 := by kernel_rfl, f158 := by kernel_rfl, f178 := by kernel_rfl, f180 := by kernel_rfl, f183 := by kernel_rfl, f190 := by kernel_rfl, f191 := by kernel_rfl, f156 := by kernel_rfl, f160 := by kernel_rfl, f181 := by kernel_rfl, f162 := by kernel_rfl, f169 := by kernel_rfl, f170 := by kernel_rfl, f79 := by kernel_rfl, f80 := by kernel_rfl, f82 := by kernel_rfl, f86 := by kernel_rfl, f88 := by kernel_rfl, f111 := by kernel_rfl, f112 := by kernel_rfl, f113 := by kernel_rfl, f115 := by kernel_rfl, f116 := by kernel_rfl, f119 := by kernel_rfl, f122 := by kernel_rfl, f123 := by kernel_rfl, f124 := by kernel_rfl, f138 := by kernel_rfl, f139 := by kernel_rfl, f141 := by kernel_rfl, f144 := by kernel_rfl, f203 := by kernel_rfl, f204 := by kernel_rfl, f205 := by kernel_rfl, f207 := by kernel_rfl, f211 := by kernel_rfl, f213 := by kernel_rfl, f215 := by kernel_rfl, f216 := by kernel_rfl, f217 := by kernel_rfl, f218 := by kernel_rfl, f219 := by kernel_rfl, f220 := by kernel_rfl, f221 := by kernel_rfl, f224 := by kernel_rfl, f225 := by kernel_rfl, f227 := by kernel_rfl, f228 := by kernel_rfl, f229 := by kernel_rfl, f230 := by kernel_rfl, f231 := by kernel_rfl, f232 := by kernel_rfl, f233 := by kernel_rfl, f234 := by kernel_rfl, f236 := by kernel_rfl, f237 := by kernel_rfl, f238 := by kernel_rfl, f239 := by kernel_rfl, f84 := by kernel_rfl, f117 := by kernel_rfl, f118 := by kernel_rfl, f140 := by kernel_rfl, f143 := by kernel_rfl, f306 := by kernel_rfl, f316 := by kernel_rfl, f322 := by kernel_rfl, f260 := by kernel_rfl, f266 := by kernel_rfl, f317 := by kernel_rfl, f307 := by kernel_rfl, f308 := by kernel_rfl, f318 := by kernel_rfl, f299 := by kernel_rfl, f305 := by kernel_rfl, f309 := by kernel_rfl, f302 := by kernel_rfl, f314 := by kernel_rfl, f292 := by kernel_rfl, f303 := by kernel_rfl, f294 := by kernel_rfl, f296 := by kernel_rfl, f297 := by kernel_rfl, f293 := by kernel_rfl, f290 := by kernel_rfl, f48 := rfl, o48 := orcS_48, f146 := rfl, f105 := rfl, o146 := orcS_146, o105 := orcS_105, s105 := orsB_105, f304 := rfl, o304 := orcS_304, f323 := rfl, o323 := orcS_323, f197 := rfl, o197 := orcS_197 }
theorem own : ownKnob Tryz.prog.godebug = none := by kernel_rfl
theorem laidOut : laidOutB Tryz.prog = true := by kernel_rfl
theorem wfR_of {x : Rou} (hx : WRou x) : WfR0 x := ⟨hx.status.1, hx.key, fun y hy => ⟨((hx.frames.2 y hy).mode).1, Nat.le_trans (hx.frames.2 y hy).locals.1 (by decide), fun z hz => ((hx.frames.2 y hy).locals.2 z hz).value⟩, fun y hy => (hx.defers.2 y hy).arg, fun y hy => ⟨(hx.panics.2 y hy).tag, (hx.panics.2 y hy).value, (hx.panics.2 y hy).flags⟩, Nat.le_trans hx.frames.1 (by decide), Nat.le_trans hx.defers.1 (by decide), Nat.le_trans hx.panics.1 (by decide)⟩
theorem wfS_of {s : Sta} (hs : WSta s) : WfS0 s := ⟨hs.outcome.1, fun x hx => wfR_of (hs.routines.2 x hx), Nat.le_trans hs.routines.1 (by decide)⟩
theorem typed (avs : List AV) (h : ArgsOk X.T [26, 29, 29] avs) : Pus prog 289 avs (.b true) := by
  match avs, h with
  | [a, b, c], ⟨h1, h2, h3, _⟩ =>
    obtain ⟨m, rfl, hm⟩ := ArgOk.isImg tyImg h1
    obtain ⟨s, rfl, hs⟩ := ArgOk.isSta tySta h2
    obtain ⟨t, rfl, ht⟩ := ArgOk.isSta tySta h3
    exact law289 has rfl (Nat.le_trans hm.funcs.1 (by decide)) (wfS_of hs) (wfS_of ht)

theorem glob {W : World} (h : W.ShapedOpen Tryz.prog) : GlobOk X.fm W := fun g hg => by
  obtain rfl : 1000000000 = g := Option.some.inj ((show X.fm 1000000000004 = some 1000000000 from rfl).symm.trans hg)
  obtain ⟨m, hm⟩ := cell_of_shapedOpen_int (P := Tryz.prog) (g := 0) (t := 3) (zero := #[.int .i64 0]) (k := .i64) h (of_decide_eq_true (by kernel_rfl)) (by kernel_rfl) rfl (by kernel_rfl) (by kernel_rfl) (by kernel_rfl)
  exact ⟨cell_in hm, m, hm⟩
set_option maxRecDepth 100000 in
theorem lifted (os : Os) (started : os.Started) (H : Type) (enc : TypeId × Value → H) :
    ReturnsInHanded {} Tryz.checked os 6 .any (fun w args => (Rows.reportOneSpec.pre enc Tryz.prog Tryz.f6 Rows.reportOneRow.domain false w args ∧ laidMetH Tryz.prog Rows.reportOneRow.laid w) ∧ sizedMet enc Tryz.prog Tryz.f6 (OpenSpec.ofChange Rows.reportOneSpec) false w args) (Rows.reportOneSpec.post enc Tryz.prog Tryz.f6 false true false false) := by
  refine handed_and (C := Tryz.checked) (X := fun w _ => laidMetH Tryz.prog Rows.reportOneRow.laid w) own started (by kernel_rfl) Tryz.func6
    (ChangeSpec.witness_shaped (enc := enc) (C := Tryz.checked) (os := os) (X := fun w _ => laidMetH Tryz.prog Rows.reportOneRow.laid w) false (World.laidAll Tryz.prog os Rows.reportOneRow.laid) #[.agg #[.slice none 0 0, .slice none 0 0, .slice none 0 0], .agg #[.int .u8 0, .int .i64 0, .int .i64 0, .slice none 0 0], .agg #[.int .u8 0, .int .i64 0, .int .i64 0, .slice none 0 0]] 8 (World.laidAll_os _ _ _)
      (World.shaped_of_ZipB (by kernel_rfl) (by kernel_rfl)) (by kernel_rfl) (by kernel_rfl) (by kernel_rfl)
      (by rw [MakeChecks.laidMetH_plain _ _ _ (by kernel_rfl)]; exact laidMet_laidAll _ (by kernel_rfl) (by kernel_rfl))) ?_
  intro W base args ds gs before hval0 hW hsh
  have hval : ∀ (j : Nat) t v, Tryz.f6.params[j]? = some t → args[j]? = some v → Value.okWide Tryz.prog W .any base t v := hval0
  have hW' := hW
  obtain ⟨p, q, hA0, hV, rfl, hfz, hnd⟩ := hW
  have hA : DataW.TrodAll enc Tryz.prog W 0 (fun _ => true) true Tryz.f6.params.toList args.toList ds p := hA0
  rw [Tryz.params6] at hA hval
  obtain ⟨rfl, rfl⟩ := trodVars_none hV
  obtain ⟨avs, hR, hok⟩ := args_read at_.T at_.types (ts := [26, 29, 29]) (by decide) (fun j t v h1 h2 => hval j t v (by simpa using h1) (by simpa using h2)) hA
  have hlt := args_lt hA
  have hlen := trod_len hA
  refine (law_calls at_ (f := 6) (c := 289) rfl (ok289.enters _ _) hR (typed avs hok) (glob hsh)).mono fun e W' ⟨he, bel⟩ => ?_
  subst he
  have hB := args_below laidOut bel (by kernel_rfl) hA hlt
  obtain ⟨d0, d1, d2, rfl⟩ := ds3 hlen
  exact ⟨_, rfl, _, _, _, [], _, [], hW', trodAll_mk1 (shut_bool Tryz.underlying4 _), hB, rfl, bel.frame _, fun h => by cases h⟩

theorem over : Rows.ReportOneSaid :=
  OpenClaim.holds_of_wide 6 Tryz.f6 rfl rfl rfl rfl rfl rfl rfl ⟨rfl, rfl, rfl, rfl, rfl⟩ rfl rfl rfl rfl rfl (by kernel_rfl) Tryz.func6 (by kernel_rfl)
    (of_decide_eq_true (by kernel_rfl)) (by unfold Func.isWrapper; rw [if_neg (of_decide_eq_false (by kernel_rfl))]; exact ⟨rfl, rfl⟩)
    (fun os started H enc _ => lifted os started H enc)

/-- The statement: the card. -/
theorem proved : Rows.ReportOneCardSaid :=
  Claim7.holds_tied_plain_at .later [] [.data, .pinned] true (true, "7754283d7d2aa53d68f672087f55f7cc4332f55f723f6abf0f59cd83e0be1448") false over (fun _ h => by cases h) (by kernel_rfl) (fun _ h => by cases h) reportOne_row_tie rfl ⟨rfl, rfl⟩ (by kernel_rfl) rfl
    (fun f fn hf hfn => by
      obtain rfl : f = 6 := Option.some.inj ((show Tryz.prog.funcNamed "wreckage/wreckagelaw40.ReportOne" = some 6 by kernel_rfl).symm.trans hf) |>.symm
      obtain rfl : fn = Tryz.f6 := (Option.some.inj (Tryz.func6.symm.trans hfn)).symm
      exact ⟨by kernel_rfl, fun j t ht => by
        rw [Tryz.params6] at ht
        have hm : t ∈ [26, 29, 29] := by simpa using Array.mem_of_getElem? ht
        have hall : ([26, 29, 29].all fun u => !Tryz.prog.wantsStandIn u) = true := by kernel_rfl
        exact (show Tryz.prog.wantsStandIn t = false by simpa using List.all_eq_true.1 hall t hm)⟩)
    (by kernel_rfl)
#print axioms proved
end Go.Proofs.YtheacfnopahmjaaGreatDoor.ReportOneProof
