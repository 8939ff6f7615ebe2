/- Parts of the proof: Am9, Am10, Am11, Am12, Am13, Am14, Am15, Am16, AmL, Am17, Am18, AmB. -/
import Derived.Test.YtbcdfamilcmjnaaGreatG0
import Derived.Great.BuildSlice
import Derived.Laws.StructEq
import Derived.LaidEqlPtr
import Derived.Lib.Builder
import Derived.Orders
import Derived.Lib.SmallJoins
import Derived.Lib.SlBytesConst
import Derived.LoopN
import Derived.ScopeJumps
import Derived.Shelf.Strings.Builder1
set_option linter.all false
namespace Go.AM
open Go Go.RowKit
section
variable {P:Program} {G:Gh} {w0 w:World} {st:St}
theorem getElem?_app_left {l r:List Value} {q:Nat} {v:Value} (h:l[q]?=some v):(l++r)[q]?=some v:=by
 rw [List.getElem?_append]
 have:q<l.length:=by
  rcases Nat.lt_or_ge q l.length with h' | h'
  ·exact h'
  ·rw [List.getElem?_eq_none h'] at h;cases h
 rw [if_pos this]
 exact h
theorem ownAt_lt {n g cap size:Nat} (h:OwnAt G w0 w n g cap size):g<w.heap.size:=by
 obtain ⟨cur,e,_,h2,_⟩:=h
 exact block_lt h2
theorem grow_ok (hR:Rel G w0 st w) {t t2 ty e:TypeId} {d2:TypeDesc} {ti:TypeInfo} {z:Value} (ht:P.underlying t=some (.slice e)) (ht2:P.underlying t2=some d2) (hd2:d2=.string∨∃e2,d2=.slice e2) (hi:P.info? e=some ti) (hz:ti.zero=some z) (hzs:z.cells.size=ti.size)
  {A:Option Addr} {cap:Nat} {rows news:List (List AV)} (hF:Fz G.H (.sl .ext rows) (.slice A rows.length cap)) (hrs :∀row∈rows,row.length=ti.size) (hns :∀row∈news,row.length=ti.size) {vx:Value} {us:Nat→Nat→Value} (hsrc:Src P G.H w vx ti.size news us)
  (hpos:0<ti.size) (hlt:cap<rows.length+news.length) (h63:rows.length+news.length≤9223372036854775807) (hfit:(rows.length+news.length)*ti.bytes≤2 ^ 47)
  {d site ver:Nat} (hT:bigSite≤site→e=etOf G.fm) (hω:G.ω (d,site) ver=none) (hv:ver<st.nx) {ow':List (Key × Nat × Nat)} (hk:lk ow' (d,site)=some (ver,rows.length+news.length)) (hne :∀k x,k≠(d,site)→lk ow' k=some x→lk st.ow k=some x) :
  ∃v w' G',(Builtin.append_ #[t,t2] ty #[.slice A rows.length cap,vx]).run P w=.ok v w'∧R G' (.sl (.id (d,site) ver) (rows++news)) v∧Step G G' w0 st { st with ow:=ow' } w' d site ver:=by
 obtain ⟨us1,h1⟩:=Src.slice (P:=P) hR hF hrs
 have hdrew:w.drew.heap=w.heap:=rfl
 have hrun:=run_app_grow (ty:=ty) ht ht2 hd2 hi hz (base:=A) (cap:=cap) (hsrc.len w) (hsrc.first w.drew hdrew) (h1.first w.drew hdrew) hlt h63 hfit
 have hall:=flat_append us1 us rows.length news.length ti.size hpos
 have hrows :∀row∈rows++news,row.length=ti.size:=by
  intro row h
  rcases List.mem_append.1 h with h | h
  ·exact hrs row h
  ·exact hns row h
 have hfz:=rows_append (H:=G.H) (p:=fun a v=>Fz G.H a v) h1.fz hsrc.fz rfl
 have hone:=rows_append (H:=G.H) (p:=fun _ v=>v.oneCell'=true) h1.one hsrc.one rfl
 generalize hcap':grownCap w (rows.length+news.length) cap e=cap' at hrun
 have hcapge:rows.length+news.length≤cap':=by
  rw [← hcap'];unfold grownCap Question.cut;exact Nat.le_add_right _ _
 have hcs :∀(q:Nat) v,(flat (fun i j=>if i<rows.length then us1 i j else us (i-rows.length) j) (rows++news).length ti.size)[q]?=some v→
   ((flat us1 rows.length ti.size).toArray++(flat us news.length ti.size).toArray++Builtin.zeroCells z.cells (cap'-(rows.length+news.length)))[q]?=some v:=by
  intro q v h
  rw [List.length_append,hall] at h
  rw [← Array.getElem?_toList]
  simp only [Array.toList_append]
  exact getElem?_app_left h
 obtain ⟨hstep,hF'⟩:=newRows (w1:=w.drew) hR hrows hfz hone hcs (e:=e) hdrew ((Below.refl _ _).drew) cap' (by rw [List.length_append];exact hcapge) (d:=d) (site:=site) (ver:=ver)
 simp only [List.length_append] at hstep hF'
 have hnew:=heap_alloc_new w.drew (.cells ((flat us1 rows.length ti.size).toArray++(flat us news.length ti.size).toArray++Builtin.zeroCells z.cells (cap'-(rows.length+news.length))) e)
 rw [show w.drew.heap.size=w.heap.size from rfl] at hnew
 have hrel:=hR.newOwn (g:=w.heap.size) (cap:=cap') (size:=ti.size) (n:=rows.length+news.length) (key:=(d,site)) (ver:=ver)
  (w':=w.drew.alloc (.cells ((flat us1 rows.length ti.size).toArray++(flat us news.length ti.size).toArray++Builtin.zeroCells z.cells (cap'-(rows.length+news.length))) e))
  (H':=fun g o=>if g=w.heap.size then (flat (fun i j=>if i<rows.length then us1 i j else us (i-rows.length) j) (rows.length+news.length) ti.size)[o]? else G.H g o)
  hR.bel.size rfl rfl rfl (by simp) (fun i hi2 _=>Below.heap_alloc _ _ _ hi2) (fun k v cs h1 h2=>by
   obtain ⟨_,_,_,hb,_⟩:=hR.bx k v cs _ h1 h2
   have:=block_lt hb
   omega) hstep.le.H (fun g o v h=>by
   have h':(if g=w.heap.size then (flat (fun i j=>if i<rows.length then us1 i j else us (i-rows.length) j) (rows.length+news.length) ti.size)[o]? else G.H g o)=some v:=h
   split at h'
   ·rename_i hg
    subst hg
    refine .inr ⟨rfl,(hstep.rel.ext _ o v (by show (if w.heap.size=w.heap.size then _ else _)=_;rw [if_pos rfl];exact h')).1,(hstep.rel.ext _ o v (by show (if w.heap.size=w.heap.size then _ else _)=_;rw [if_pos rfl];exact h')).2,?_⟩
    rw [flat_get] at h'
    split at h'
    ·rename_i hq;exact hq
    ·cases h'
   ·rename_i hg;exact .inl ⟨hg,h'⟩) hT hnew (by
   simp only [Array.size_append,List.size_toArray,flat_len,size_zeroCells,hzs]
   rw [← Nat.add_mul,← Nat.add_mul]
   congr 1
   omega) hcapge hpos hω hv hk hne (fun k v m g' c s hk1 hk2 hk3=>by
   obtain ⟨g1,c1,s1,e1,e2,_⟩:=hR.ow k v m (hne k _ hk1 hk2)
   rw [hk3] at e1
   cases e1
   have:=ownAt_lt e2
   omega) (fun b es clock h e=>by have:=block_lt h;omega)
 refine ⟨_,_,_,hrun,?_,⟨?_,hrel,Nat.le_refl _,?_,fun _ _ _ _ _ _ _ h=>h,hstep.newH⟩⟩
 ·refine .sl _ _ _ _ _ hF' ⟨w.heap.size,ti.size,?_,rfl,fun i row hrow=>⟨hrows row (List.mem_of_getElem? hrow),fun j a ha=>?_⟩⟩
  ·show (if _=_∧_=_ then some (w.heap.size,cap',ti.size) else _)=_
   rw [if_pos ⟨rfl,rfl⟩]
  ·refine ⟨(fun i j=>if i<rows.length then us1 i j else us (i-rows.length) j) i j,?_⟩
   show (if w.heap.size=w.heap.size then _ else _)=_
   rw [if_pos rfl]
   refine flat_at (fun i j=>if i<rows.length then us1 i j else us (i-rows.length) j) ?_ ?_
   ·rcases Nat.lt_or_ge i (rows++news).length with h | h
    ·rw [List.length_append] at h;exact h
    ·rw [List.getElem?_eq_none h] at hrow;cases hrow
   ·rw [← hrows row (List.mem_of_getElem? hrow)]
    rcases Nat.lt_or_ge j row.length with h | h
    ·exact h
    ·rw [List.getElem?_eq_none h] at ha;cases ha
 ·exact Gh.le_setω hstep.le.H hω _
 ·intro k v _ hkv
  refine ⟨rfl,?_⟩
  show (if k=(d,site)∧v=ver then _ else G.ω k v)=_
  rw [if_neg (by rintro ⟨rfl,rfl⟩;exact hkv rfl)]
theorem room_ok (hR:Rel G w0 st w) {t t2 ty e:TypeId} {d2:TypeDesc} {ti:TypeInfo} (ht:P.underlying t=some (.slice e)) (ht2:P.underlying t2=some d2) (hd2:d2=.string∨∃e2,d2=.slice e2) (hi:P.info? e=some ti)
  {k:Key} {v g cap:Nat} {rows news:List (List AV)} (hF:Fz G.H (.sl .ext rows) (.slice (some ⟨g,0,none⟩) rows.length cap)) (hrs :∀row∈rows,row.length=ti.size) (hns :∀row∈news,row.length=ti.size) {vx:Value} {us:Nat→Nat→Value} (hsrc:Src P G.H w vx ti.size news us)
  (hlk:lk st.ow k=some (v,rows.length)) (hωk:G.ω k v=some (g,cap,ti.size)) (hle:rows.length+news.length≤cap)
  {d site ver:Nat} (hB:bigSite≤site→bigSite≤k.2) (hω:G.ω (d,site) ver=none) (hv:ver<st.nx) (hrows0:0<rows.length) :
  ∃x w' G',(Builtin.append_ #[t,t2] ty #[.slice (some ⟨g,0,none⟩) rows.length cap,vx]).run P w=.ok x w'∧R G' (.sl (.id (d,site) ver) (rows++news)) x∧Step G G' w0 st { st with ow:=st_ (del st.ow k) (d,site) (ver,rows.length+news.length) } w' d site ver:=by
 obtain ⟨g1,cap1,size1,e1,⟨cur,eb,hge,hheap,hcur,hncap,hpos,hnone⟩,hbox⟩:=hR.ow k v _ hlk
 rw [hωk] at e1
 cases e1
 obtain ⟨us1,h1⟩:=Src.slice (P:=P) hR hF hrs
 have hmul:(rows.length+news.length)*ti.size≤cap*ti.size:=Nat.mul_le_mul_right _ hle
 rw [Nat.add_mul] at hmul
 have hst:=run_storeCells_at (P:=P) g (rows.length*ti.size) eb (flat us news.length ti.size) 0 cur w hheap (by rw [flat_len];omega) (by
  intro x hx
  obtain ⟨q,hq,rfl⟩:=List.getElem_of_mem hx
  have hq2:(flat us news.length ti.size)[q]?=some (flat us news.length ti.size)[q]:=List.getElem?_eq_getElem hq
  generalize (flat us news.length ti.size)[q]=x0 at hq2 ⊢
  rw [flat_get] at hq2
  split at hq2
  ·rename_i hlt
   cases hq2
   have hi2:q / ti.size<news.length:=Nat.div_lt_of_lt_mul (by rw [Nat.mul_comm];exact hlt)
   have hm:q % ti.size<news[q / ti.size].length:=by rw [hns _ (List.getElem_mem hi2)];exact Nat.mod_lt _ hpos
   exact hsrc.one _ _ _ _ (List.getElem?_eq_getElem hi2) (List.getElem?_eq_getElem hm)
  ·cases hq2)
 simp only [Nat.add_zero] at hst
 have hrun:=run_app_room (ty:=ty) ht ht2 hd2 hi (base:=some ⟨g,0,none⟩) (hsrc.len w) (hsrc.first w rfl) hle
 simp only [Addr.add_lit,Nat.zero_add] at hrun
 rw [hst] at hrun
 have hrows :∀row∈rows++news,row.length=ti.size:=by
  intro row h
  rcases List.mem_append.1 h with h | h
  ·exact hrs row h
  ·exact hns row h
 -- the block behind the store
 have hw':=setRow_heap w g cur (cur.toList.take (rows.length*ti.size)++flat us news.length ti.size++cur.toList.drop (rows.length*ti.size+(flat us news.length ti.size).length)).toArray eb (0,0) hheap
 generalize hW:w.setRow g (cur.toList.take (rows.length*ti.size)++flat us news.length ti.size++cur.toList.drop (rows.length*ti.size+(flat us news.length ti.size).length)).toArray=w' at hw' hrun
 have hcurl:cur.toList.length=cap*ti.size:=by simp [hcur]
 have hleH:HLe G.H (fun g' o=>if g'=g∧rows.length*ti.size≤o then (flat us news.length ti.size)[o-rows.length*ti.size]? else G.H g' o):=fun g' o x h=>by
  show (if g'=g∧rows.length*ti.size≤o then _ else G.H g' o)=some x
  rw [if_neg (by rintro ⟨rfl,h2⟩;rw [hnone o h2] at h;cases h)]
  exact h
 -- the cells of rows,told by H
 have hold :∀o,o<rows.length*ti.size→∀x,cur[o]?=some x→w'.cell? ⟨g,o,none⟩=some x:=by
  intro o ho x hx
  simp only [World.cell?,hw',Option.isSome_none,Bool.false_eq_true,if_false]
  rw [← Array.getElem?_toList]
  rw [List.append_assoc]
  refine getElem?_app_left ?_
  rw [List.getElem?_take,if_pos ho,Array.getElem?_toList]
  exact hx
 have hnewc :∀(q:Nat) x,(flat us news.length ti.size)[q]?=some x→w'.cell? ⟨g,rows.length*ti.size+q,none⟩=some x:=by
  intro q x hx
  simp only [World.cell?,hw',Option.isSome_none,Bool.false_eq_true,if_false]
  rw [← Array.getElem?_toList]
  simp only []
  refine getElem?_app_left ?_
  rw [List.getElem?_append]
  have hl:(cur.toList.take (rows.length*ti.size)).length=rows.length*ti.size:=by rw [List.length_take,hcurl];omega
  rw [if_neg (by omega),hl,Nat.add_sub_cancel_left]
  exact hx
 have hnlen :∀(q:Nat) x,(flat us news.length ti.size)[q]?=some x→q<news.length*ti.size∧x.oneCell'=true:=by
  intro q x hq
  rw [flat_get] at hq
  split at hq
  ·rename_i hlt
   cases hq
   have hi2:q / ti.size<news.length:=Nat.div_lt_of_lt_mul (by rw [Nat.mul_comm];exact hlt)
   have hm:q % ti.size<news[q / ti.size].length:=by rw [hns _ (List.getElem_mem hi2)];exact Nat.mod_lt _ hpos
   exact ⟨hlt,hsrc.one _ _ _ _ (List.getElem?_eq_getElem hi2) (List.getElem?_eq_getElem hm)⟩
  ·cases hq
 have hrel:=hR.newOwn (w':=w') (g:=g) (cap:=cap) (size:=ti.size) (n:=rows.length+news.length) (key:=(d,site)) (ver:=ver)
  (H':=fun g' o=>if g'=g∧rows.length*ti.size≤o then (flat us news.length ti.size)[o-rows.length*ti.size]? else G.H g' o)
  (ow':=st_ (del st.ow k) (d,site) (ver,rows.length+news.length)) hge (by rw [← hW];rfl) (by rw [← hW];rfl) (by rw [← hW];rfl) (by rw [← hW];simp) (fun i hi2 hne=>by rw [← hW];exact setRow_other w g i _ hne) hbox hleH
  (fun g' o x h=>by
   have h':(if g'=g∧rows.length*ti.size≤o then (flat us news.length ti.size)[o-rows.length*ti.size]? else G.H g' o)=some x:=h
   split at h'
   ·rename_i hg
    obtain ⟨rfl,hg2⟩:=hg
    obtain ⟨h3,h4⟩:=hnlen _ _ h'
    have h5:=hnewc _ _ h'
    rw [show rows.length*ti.size+(o-rows.length*ti.size)=o from by omega] at h5
    exact .inr ⟨rfl,h5,h4,by rw [Nat.add_mul];omega⟩
   ·rename_i hg
    by_cases hgg:g'=g
    ·subst hgg
     have ho:o<rows.length*ti.size:=by
      rcases Nat.lt_or_ge o (rows.length*ti.size) with h3 | h3
      ·exact h3
      ·exact absurd ⟨rfl,h3⟩ hg
     obtain ⟨h3,h4⟩:=hR.ext _ o x h'
     simp only [World.cell?,hheap,Option.isSome_none,Bool.false_eq_true,if_false] at h3
     exact .inr ⟨rfl,hold o ho x h3,h4,by rw [Nat.add_mul];omega⟩
    ·exact .inl ⟨hgg,h'⟩) (fun hb=>by
   obtain ⟨us',h3⟩:=hR.owT k v _ (hB hb) hlk g cap ti.size hωk
   rw [hheap] at h3
   injection h3 with h3
   injection h3 with _ h3) hw' (by simp only [List.size_toArray,List.length_append,List.length_take,List.length_drop,hcurl,flat_len];omega) hle hpos hω hv (lk_st_same _ _ _)
  (fun k2 x hk2 h=>by
   rw [lk_st_ne _ _ (Ne.symm hk2),lk_del] at h
   split at h
   ·cases h
   ·exact h)
  (fun k2 v2 m g2 c s hk2 h3 h4=>by
   rw [lk_st_ne _ _ (Ne.symm hk2),lk_del] at h3
   split at h3
   ·cases h3
   ·rename_i hn
    rintro rfl
    exact hn (hR.owinj k2 k v2 v m _ _ _ _ _ _ h3 hlk h4 hωk)) (fun b es clock h e=>by rw [e,hheap] at h;cases h)
 obtain ⟨_,_,us0,g0,off0,hA0,hc0,hf0⟩:=hF.cells_of hrs
 have hgo:=hA0 (by intro h;rw [h] at hrows0;simp at hrows0)
 injection hgo with hgo
 injection hgo with hg0 hoff0
 subst hg0
 subst hoff0
 have hfz:=rows_append (H:=G.H) (p:=fun a v=>Fz G.H a v) hf0 hsrc.fz rfl
 have hall:=flat_append us0 us rows.length news.length ti.size hpos
 have hcell :∀(q:Nat) x,(flat (fun i j=>if i<rows.length then us0 i j else us (i-rows.length) j) (rows.length+news.length) ti.size)[q]?=some x→
   (if g=g∧rows.length*ti.size≤q then (flat us news.length ti.size)[q-rows.length*ti.size]? else G.H g q)=some x:=by
  intro q x hq
  rw [hall,List.getElem?_append,flat_len] at hq
  by_cases h:q<rows.length*ti.size
  ·rw [if_pos h] at hq
   rw [if_neg (by omega)]
   have:=hc0 q x hq
   simpa using this
  ·rw [if_neg h] at hq
   rw [if_pos ⟨rfl,by omega⟩]
   exact hq
 have hat :∀(i:Nat) row (j:Nat) a,(rows++news)[i]?=some row→row[j]?=some a→i<rows.length+news.length∧j<ti.size:=by
  intro i row j a h2 h3
  constructor
  ·rcases Nat.lt_or_ge i (rows++news).length with h | h
   ·rw [List.length_append] at h;exact h
   ·rw [List.getElem?_eq_none h] at h2;cases h2
  ·rw [← hrows row (List.mem_of_getElem? h2)]
   rcases Nat.lt_or_ge j row.length with h | h
   ·exact h
   ·rw [List.getElem?_eq_none h] at h3;cases h3
 refine ⟨_,_,_,hrun,?_,⟨Gh.le_setω hleH hω _,hrel,Nat.le_refl _,?_,fun _ _ _ _ _ _ _ h=>h,?_⟩⟩
 ·have hF2:Fz (fun g' o=>if g'=g∧rows.length*ti.size≤o then (flat us news.length ti.size)[o-rows.length*ti.size]? else G.H g' o) (.sl .ext (rows++news)) (.slice (some ⟨g,0,none⟩) (rows++news).length cap):=by
   refine .sl _ _ _ ti.size g 0 (fun i j=>if i<rows.length then us0 i j else us (i-rows.length) j) (fun _=>rfl) (by rw [List.length_append];exact hle) (fun i row h=>hrows row (List.mem_of_getElem? h)) ?_ (fun i row j a h2 h3=>(hfz i row j a h2 h3).mono hleH)
   intro i row j a h2 h3
   obtain ⟨hi2,hj⟩:=hat i row j a h2 h3
   have:=hcell _ _ (flat_at (fun i j=>if i<rows.length then us0 i j else us (i-rows.length) j) hi2 hj)
   rw [Nat.zero_add]
   exact this
  rw [List.length_append] at hF2
  refine .sl _ _ _ _ _ hF2 ⟨g,ti.size,?_,rfl,fun i row hrow=>⟨hrows row (List.mem_of_getElem? hrow),fun j a ha=>?_⟩⟩
  ·show (if _=_∧_=_ then some (g,cap,ti.size) else _)=_
   rw [if_pos ⟨rfl,rfl⟩]
  ·obtain ⟨hi2,hj⟩:=hat i row j a hrow ha
   exact ⟨_,hcell _ _ (flat_at (fun i j=>if i<rows.length then us0 i j else us (i-rows.length) j) hi2 hj)⟩
 ·intro k2 v2 _ hkv
  refine ⟨rfl,?_⟩
  show (if k2=(d,site)∧v2=ver then _ else G.ω k2 v2)=_
  rw [if_neg (by rintro ⟨rfl,rfl⟩;exact hkv rfl)]
 ·intro g' o x h
  have h':(if g'=g∧rows.length*ti.size≤o then (flat us news.length ti.size)[o-rows.length*ti.size]? else G.H g' o)=some x:=h
  split at h'
  ·rename_i hg;obtain ⟨rfl,_⟩:=hg;exact .inr hge
  ·exact .inl h'
end
end Go.AM

namespace Go.AM
open Go Go.RowKit
section
variable {P:Program} {G:Gh} {w0 w:World} {st:St}
theorem all_len {rows:List (List AV)} {size:Nat} (h:rows.all (·.length==size)=true) :∀row∈rows,row.length=size:=by
 intro row hr
 have:=List.all_eq_true.1 h row hr
 simpa using this
theorem aapp_ok (hR:Rel G w0 st w) {t t2 ty e:TypeId} {d2:TypeDesc} {ti:TypeInfo} {z:Value} (ht:P.underlying t=some (.slice e)) (ht2:P.underlying t2=some d2) (hd2:d2=.string∨∃e2,d2=.slice e2) (hi:P.info? e=some ti) (hz:ti.zero=some z) (hzs:z.cells.size=ti.size)
  {s:AV} {vs vx:Value} {news:List (List AV)} {us:Nat→Nat→Value} (hsrc:(∀row∈news,row.length=ti.size)→Src P G.H w vx ti.size news us)
  {d site ver:Nat} (hT:bigSite≤site→e=etOf G.fm) (hω:G.ω (d,site) ver=none) (hv:ver<st.nx) {r:AV} {st':St} (h:aapp (d,site) ver ti.size ti.bytes s news st=some (r,st')) (hs:R G s vs) :
  ∃v w' G',(Builtin.append_ #[t,t2] ty #[vs,vx]).run P w=.ok v w'∧R G' r v∧Step G G' w0 st st' w' d site ver:=by
 unfold aapp at h
 revert hs
 split at h
 ·rename_i o rows
  intro hs
  split at h
  ·rename_i hc
   obtain ⟨hb,hl,hpos,hrs,hns⟩:=hc
   have hrs:=all_len hrs
   have hns:=all_len hns
   have hsrc:=hsrc hns
   obtain ⟨A,cap,rfl,hF,ho⟩:=hs.sl_inv
   have hcap:=(hF.cells_of hrs).2.1
   have h63:rows.length+news.length≤9223372036854775807:=by unfold maxBytes at hl;omega
   have hfit:(rows.length+news.length)*ti.bytes≤2 ^ 47:=by unfold maxBytes at hb;omega
   split at h
   ·rename_i hem
    cases h
    have hn:news=[]:=by simpa using hem
    subst hn
    have hrun:=run_app_room (ty:=ty) ht ht2 hd2 hi (base:=A) (n:=rows.length) (cap:=cap) (hsrc.len w) (hsrc.first w rfl) (by simpa using hcap)
    refine ⟨.slice A rows.length cap,w,G,?_,.sl o rows A _ cap hF ho,Step.same hR⟩
    rw [hrun]
    cases A<;>simp [flat,storeCells]
   ·rename_i hem
    have hm:0<news.length:=by
     rcases Nat.eq_zero_or_pos news.length with h0 | h0
     ·exact absurd (by simpa using h0) hem
     ·exact h0
    split at h
    ·cases h
    ·cases h
     obtain ⟨hcap2,_⟩:=ho
     exact grow_ok hR ht ht2 hd2 hi hz hzs hF hrs hns hsrc hpos (by omega) h63 hfit hT hω hv (lk_st_same _ _ _) (fun k x hk hl=>by rw [lk_st_ne _ _ (Ne.symm hk)] at hl;exact hl)
    ·rename_i k v
     split at h
     ·rename_i v' n hlk
      split at h
      ·rename_i hc
       obtain ⟨rfl,rfl,hn0,hbig⟩:=hc
       have hB:bigSite≤site→bigSite≤k.2:=fun h1=>by
        rcases hbig with h2 | h2
        ·exact absurd h1 (Nat.not_le.2 h2)
        ·exact h2
       cases h
       obtain ⟨g,size,hωk,rfl,hrow⟩:=ho
       have hsize:size=ti.size:=by
        have h0:rows[0]?=some rows[0]:=List.getElem?_eq_getElem hn0
        rw [← (hrow 0 _ h0).1,hrs _ (List.getElem_mem hn0)]
       subst hsize
       by_cases hroom:rows.length+news.length≤cap
       ·exact room_ok hR ht ht2 hd2 hi hF hrs hns hsrc hlk hωk hroom hB hω hv hn0
       ·refine grow_ok hR ht ht2 hd2 hi hz hzs hF hrs hns hsrc hpos (by omega) h63 hfit hT hω hv (lk_st_same _ _ _) (fun k x hk hl=>?_)
        rw [lk_st_ne _ _ (Ne.symm hk),lk_del] at hl
        split at hl
        ·cases hl
        ·exact hl
      ·cases h
     ·cases h
  ·cases h
 ·cases h
theorem fold_set (off:Nat) :∀(vs:List Value) (k:Nat) (cells:Array Value),((vs.zipIdx k).foldl (fun cs x=>cs.setIfInBounds (off+x.2) x.1) cells).size=cells.size∧
  ∀q:Nat,q<cells.size→((vs.zipIdx k).foldl (fun cs x=>cs.setIfInBounds (off+x.2) x.1) cells)[q]?=if off+k≤q∧q<off+k+vs.length then vs[q-(off+k)]? else cells[q]?
 | [],k,cells=>by simp;omega
 | v::r,k,cells=>by
  obtain ⟨h1,h2⟩:=fold_set off r (k+1) (cells.setIfInBounds (off+k) v)
  simp only [List.zipIdx_cons,List.foldl_cons]
  refine ⟨by rw [h1];simp,fun q hq=>?_⟩
  rw [h2 q (by simpa using hq)]
  by_cases hqk:q=off+k
  ·subst hqk
   rw [if_neg (by omega),if_pos (by simp)]
   simp [hq]
  ·by_cases h3:off+(k+1)≤q∧q<off+(k+1)+r.length
   ·rw [if_pos h3,if_pos (by simp;omega)]
    have:q-(off+k)=(q-(off+(k+1)))+1:=by omega
    rw [this,List.getElem?_cons_succ]
   ·rw [if_neg h3,if_neg (by simp;omega),Array.getElem?_setIfInBounds_ne (Ne.symm hqk)]
theorem fill_step (off:Nat) (us:List Value) (cells:Array Value):(us.toArray.zipIdx.foldl (fun cs x=>cs.setIfInBounds (off+x.2) x.1) cells)=(us.zipIdx 0).foldl (fun cs x=>cs.setIfInBounds (off+x.2) x.1) cells:=by
 simp
def Parts (G:Gh) (σ:Sl) (place:Nat→Option (Nat × Nat)):List (Nat × Value)→List (Nat × Nat × Opd)→Prop
 | [],[]=>True
 | (i,v)::r,(off,n,x)::s=>place i=some (off,n)∧R G (x.ev σ) v∧Parts G σ place r s
 | _,_=>False
theorem fillCells_ok {σ:Sl} {place:Nat→Option (Nat × Nat)} :∀{vs:List (Nat × Value)} {xs:List (Nat × Nat × Opd)},Parts G σ place vs xs→∀{cs cs':List AV} {us:List Value},Rs G cs us→fillCells σ cs xs=some cs'→
  ∃us':List Value,Instr.fill place us.toArray vs=some us'.toArray∧Rs G cs' us'
 | [],[],_,cs,cs',us,hr,h=>by cases h;exact ⟨us,rfl,hr⟩
 | (i,v)::r,(off,n,x)::s,hp,cs,cs',us,hr,h=>by
  obtain ⟨hpl,hx,hrest⟩:=hp
  unfold fillCells at h
  dsimp only at h
  split at h
  ·rename_i hc
   obtain ⟨hn,hle,hone⟩:=hc
   obtain ⟨xs,hxs,hrx,hlx,_⟩:=hx.cells hone
   have hset:=hr.setAt_ hrx (o:=off) (by omega)
   have hul:=hr.1
   have e1:(v.cells.zipIdx.foldl (fun cs x=>cs.setIfInBounds (off+x.2) x.1) us.toArray)=(us.take off++xs++us.drop (off+xs.length)).toArray:=by
    rw [hxs,fill_step]
    obtain ⟨a1,a2⟩:=fold_set off xs 0 us.toArray
    apply Array.ext'
    apply List.ext_getElem?
    intro q
    rw [Array.getElem?_toList]
    by_cases hq:q<us.length
    ·rw [a2 q (by simpa using hq)]
     simp only [Nat.add_zero]
     rw [List.append_assoc,List.getElem?_append]
     simp only [List.length_take]
     have hmin:min off us.length=off:=by omega
     rw [hmin]
     by_cases h1:q<off
     ·rw [if_neg (by omega),if_pos h1,List.getElem?_take,if_pos h1];simp
     ·by_cases h2:q<off+xs.length
      ·rw [if_pos ⟨by omega,h2⟩,if_neg h1,List.getElem?_append,if_pos (by omega)]
      ·rw [if_neg (by omega),if_neg h1,List.getElem?_append,if_neg (by omega),List.getElem?_drop]
       simp only [List.getElem?_toArray]
       congr 1
       omega
    ·rw [Array.getElem?_eq_none (by rw [a1];simpa using hq),List.getElem?_eq_none (by simp;omega)]
   obtain ⟨us',h1,h2⟩:=fillCells_ok hrest hset h
   refine ⟨us',?_,h2⟩
   simp only [Instr.fill,hpl]
   rw [if_neg]
   ·rw [e1];exact h1
   ·simp only [hxs,List.size_toArray,ne_eq,gt_iff_lt,Bool.or_eq_true,decide_eq_true_eq,not_or,Decidable.not_not,Nat.not_lt,decide_not,Bool.not_eq_eq_eq_not,Bool.not_true,decide_eq_false_iff_not]
    omega
  ·cases h
theorem build_ok {t:TypeId} {i:TI} (hT:TOk P t i) {σ:Sl} {vs:List (Nat × Value)} {xs:List (Nat × Nat × Opd)} {place:Nat→Option (Nat × Nat)} (hp:Parts G σ place vs xs) {r:AV} (h:(fillCells σ i.zero xs).map AV.ag=some r)
  (hb :∀z ti,P.info? t=some ti→ti.zero=some z→P.built t vs=Instr.fill place z.cells vs) :∃v,(Instr.build t vs.toArray).run P w=.ok v w∧R G r v:=by
 obtain ⟨ti,z,hi,_,_,hz,hc,_⟩:=hT.info
 simp only [Option.map_eq_some_iff] at h
 obtain ⟨cs',hcs,rfl⟩:=h
 obtain ⟨us',h1,h2⟩:=fillCells_ok hp (cVals_ok hc) hcs
 rw [Array.toArray_toList] at h1
 exact ⟨_,run_build w t vs.toArray us'.toArray (by rw [hb z ti hi hz];exact h1),.ag _ _ h2.1 h2.2⟩
theorem zeroOf {t:TypeId} {i:TI} (hT:TOk P t i) {zs:List AV} (hs:softs i.zero=some zs) :∃ti z,P.info? t=some ti∧ti.size=i.size∧ti.bytes=i.bytes∧ti.zero=some z∧z.cells.size=i.size∧zs.length=i.size∧(∀(j:Nat) y u,zs[j]?=some y→z.cells[j]?=some u→Fz G.H y u∧u.oneCell'=true):=by
 obtain ⟨ti,z,hi,h1,h2,hz,hc,hsz⟩:=hT.info
 have hl:=(cVals_ok (G:=G) hc).1
 refine ⟨ti,z,hi,h1,h2,hz,hsz,by rw [softs_len hs,hl];simpa using hsz,fun j y u hy hu=>?_⟩
 rw [← Array.getElem?_toList] at hu
 exact ⟨softs_ok hs (cVals_ok hc) j y u hy hu,cVals_one hc u (List.mem_of_getElem? hu)⟩
structure RowsAt (H:Hp) (rows:List (List AV)) (size:Nat) (cs:Array Value):Prop where
 sz:cs.size=rows.length*size
 len :∀row∈rows,row.length=size
 at_ :∀(i:Nat) row (j:Nat) a,rows[i]?=some row→row[j]?=some a→∃v,cs[i*size+j]?=some v∧Fz H a v∧v.oneCell'=true
theorem made_get (z:Array Value) (n q:Nat) (h:q<n) (hz:0<z.size):(madeCells z n)[q]?=z[q % z.size]?:=by
 unfold madeCells
 simp only [Array.getElem?_map]
 rw [Array.getElem?_range,if_pos h]
 have:=Nat.mod_lt q hz
 simp [getElem!_pos,this]
theorem RowsAt.made {zs:List AV} {z:Array Value} {n:Nat} (hzl:zs.length=z.size) (hz:0<z.size) (hat :∀(j:Nat) y u,zs[j]?=some y→z[j]?=some u→Fz G.H y u∧u.oneCell'=true):RowsAt G.H (List.replicate n zs) z.size (madeCells z (n*z.size)):=by
 refine ⟨by rw [size_madeCells];simp,fun row hr=>by rw [(List.mem_replicate.1 hr).2,hzl],fun i row j a h1 h2=>?_⟩
 rw [List.getElem?_replicate] at h1
 split at h1
 ·rename_i hi
  cases h1
  have hj:j<z.size:=by
   rw [← hzl]
   rcases Nat.lt_or_ge j zs.length with h | h
   ·exact h
   ·rw [List.getElem?_eq_none h] at h2;cases h2
  have hlt:i*z.size+j<n*z.size:=by
   have:(i+1)*z.size≤n*z.size:=Nat.mul_le_mul_right _ (by omega)
   rw [Nat.succ_mul] at this;omega
  refine ⟨z[j],?_,hat j a z[j] h2 (Array.getElem?_eq_getElem hj)⟩
  rw [made_get _ _ _ hlt hz,(divmod_of (i:=i) hj).2,Array.getElem?_eq_getElem hj]
 ·cases h1
theorem RowsAt.step (hR:Rel G w0 st w) {rows:List (List AV)} {size:Nat} {cs:Array Value} (h:RowsAt G.H rows size cs) {e:TypeId} {d site ver:Nat} :
  ∃G',R G' (.sl .full rows) (.slice (some ⟨w.heap.size,0,none⟩) rows.length rows.length)∧Step G G' w0 st st (w.alloc (.cells cs e)) d site ver:=by
 have hat :∀(i:Nat) row (j:Nat) a,rows[i]?=some row→row[j]?=some a→cs[i*size+j]?=some ((fun i j=>cs.getD (i*size+j) undef) i j)∧Fz G.H a ((fun i j=>cs.getD (i*size+j) undef) i j)∧((fun i j=>cs.getD (i*size+j) undef) i j).oneCell'=true:=by
  intro i row j a h1 h2
  obtain ⟨v,h3,h4⟩:=h.at_ i row j a h1 h2
  have:cs.getD (i*size+j) undef=v:=by simp [Array.getD_eq_getD_getElem?,h3]
  simp only [this]
  exact ⟨h3,h4⟩
 obtain ⟨h1,h2⟩:=newRows (w1:=w) hR h.len (us:=fun i j=>cs.getD (i*size+j) undef) (fun i row j a x y=>(hat i row j a x y).2.1) (fun i row j a x y=>(hat i row j a x y).2.2) (cs:=cs) (e:=e)
  (fun q v hq=>by
   rw [flat_get] at hq
   split at hq
   ·rename_i hlt
    cases hq
    have hpos:0<size:=by
     rcases Nat.eq_zero_or_pos size with h | h
     ·subst h;simp at hlt
     ·exact h
    have:q / size*size+q % size=q:=by have:=Nat.div_add_mod q size;rw [Nat.mul_comm];exact this
    simp only [this]
    have hq2:q<cs.size:=by rw [h.sz];exact hlt
    rw [Array.getElem?_eq_getElem hq2]
    simp [Array.getD_eq_getD_getElem?,Array.getElem?_eq_getElem hq2]
   ·cases hq) rfl (Below.refl _ _) rows.length (Nat.le_refl _) (d:=d) (site:=site) (ver:=ver)
 exact ⟨_,.sl .full rows _ _ _ h2 ⟨rfl,.inr ⟨_,rfl⟩⟩,h1⟩
def PartsR (G:Gh) (σ:Sl):List (Nat × Value)→List (Nat × Opd)→Prop
 | [],[]=>True
 | (i,v)::r,(i',x)::s=>i=i'∧R G (x.ev σ) v∧PartsR G σ r s
 | _,_=>False
theorem soft_one {x y:AV} (h:x.soft=some y):x.one=true:=by
 cases x<;>first | rfl | cases h
theorem softs_one :∀{xs ys:List AV},softs xs=some ys→xs.all AV.one=true
 | [],_,_=>rfl
 | v::r,ys,h=>by
  unfold softs at h
  split at h
  ·rename_i w l hw hl
   simp only [List.all_cons,soft_one hw,softs_one hl,Bool.and_self]
  ·cases h
theorem fillRows_ok {σ:Sl} {z:List AV} :∀{vs:List (Nat × Value)} {xs:List (Nat × Opd)},PartsR G σ vs xs→∀{rows rows':List (List AV)} {cs:Array Value},RowsAt G.H rows z.length cs→fillRows z σ rows xs=some rows'→
  ∃cs':Array Value,Instr.fill (fun i=>some (i*z.length,z.length)) cs vs=some cs'∧RowsAt G.H rows' z.length cs'∧rows'.length=rows.length
 | [],[],_,rows,rows',cs,hr,h=>by cases h;exact ⟨cs,rfl,hr,rfl⟩
 | (i,v)::r,(i',x)::s,hp,rows,rows',cs,hr,h=>by
  obtain ⟨rfl,hx,hrest⟩:=hp
  unfold fillRows at h
  split at h
  ·rename_i ys hys
   split at h
   ·rename_i hc
    obtain ⟨hi,hl⟩:=hc
    obtain ⟨us,hus,hru,hlu,h1⟩:=hx.cells (softs_one hys)
    have hul:us.length=z.length:=by rw [hlu,← softs_len hys,hl]
    have hi2:(i+1)*z.length≤rows.length*z.length:=Nat.mul_le_mul_right _ (by omega)
    rw [Nat.succ_mul] at hi2
    obtain ⟨a1,a2⟩:=fold_set (i*z.length) us 0 cs
    have hnew:RowsAt G.H (rows.set i ys) z.length (us.toArray.zipIdx.foldl (fun cs x=>cs.setIfInBounds (i*z.length+x.2) x.1) cs):=by
     rw [fill_step]
     refine ⟨by rw [a1,hr.sz];simp,fun row hrow=>?_,fun i2 row j a h2 h3=>?_⟩
     ·rcases List.mem_or_eq_of_mem_set hrow with h | rfl
      ·exact hr.len row h
      ·exact hl
     ·rw [List.getElem?_set] at h2
      split at h2
      ·rename_i hii
       subst hii
       cases h2
       have hj:j<z.length:=by
        rw [← hl]
        rcases Nat.lt_or_ge j ys.length with h | h
        ·exact h
        ·rw [List.getElem?_eq_none h] at h3;cases h3
       have hju:j<us.length:=by omega
       refine ⟨us[j],?_,softs_ok hys hru j a us[j] h3 (List.getElem?_eq_getElem hju),h1 _ (List.getElem_mem hju)⟩
       rw [a2 _ (by rw [hr.sz];omega),if_pos (by omega)]
       rw [show i*z.length+j-(i*z.length+0)=j from by omega]
       exact List.getElem?_eq_getElem hju
      ·rename_i hii
       obtain ⟨u,h4,h5⟩:=hr.at_ i2 row j a h2 h3
       refine ⟨u,?_,h5⟩
       have hlt:i2*z.length+j<cs.size:=by
        rcases Nat.lt_or_ge (i2*z.length+j) cs.size with h | h
        ·exact h
        ·rw [Array.getElem?_eq_none h] at h4;cases h4
       have hj:j<z.length:=by
        rw [← hr.len row (List.mem_of_getElem? h2)]
        rcases Nat.lt_or_ge j row.length with h | h
        ·exact h
        ·rw [List.getElem?_eq_none h] at h3;cases h3
       rw [a2 _ hlt,if_neg]
       ·exact h4
       ·rintro ⟨h6,h7⟩
        rw [hul] at h7
        apply hii
        rcases Nat.lt_trichotomy i i2 with h8 | h8 | h8
        ·have:(i+1)*z.length≤i2*z.length:=Nat.mul_le_mul_right _ h8
         rw [Nat.succ_mul] at this;omega
        ·exact h8
        ·have:(i2+1)*z.length≤i*z.length:=Nat.mul_le_mul_right _ h8
         rw [Nat.succ_mul] at this;omega
    obtain ⟨cs',h6,h7,h8⟩:=fillRows_ok hrest hnew h
    refine ⟨cs',?_,h7,by rw [h8];simp⟩
    simp only [Instr.fill]
    rw [if_neg]
    ·rw [hus];exact h6
    ·simp only [hus,List.size_toArray,ne_eq,gt_iff_lt,Bool.or_eq_true,decide_eq_true_eq,not_or,Decidable.not_not,Nat.not_lt,decide_not,Bool.not_eq_eq_eq_not,Bool.not_true,decide_eq_false_iff_not]
     have:=hr.sz
     omega
   ·cases h
  ·cases h
theorem bslice_ok (hR:Rel G w0 st w) {t e:TypeId} (ht:P.underlying t=some (.slice e)) {i:TI} (hT:TOk P e i) {n:Nat} {σ:Sl} {vs:List (Nat × Value)} {xs:List (Nat × Opd)} (hp:PartsR G σ vs xs) {key:Key} {ver:Nat} {r:AV} (h:apure key ver σ (.bslice i.zero n xs)=some r) {d site ver':Nat} :
  ∃v w' G',(Instr.buildSlice t n vs.toArray).run P w=.ok v w'∧R G' r v∧Step G G' w0 st st w' d site ver':=by
 simp only [apure] at h
 split at h
 ·rename_i z hz
  split at h
  ·rename_i hc
   obtain ⟨hpos,hsm⟩:=hc
   simp only [Option.map_eq_some_iff] at h
   obtain ⟨rows,hrows,rfl⟩:=h
   obtain ⟨ti,zv,hi,hsz,_,hzv,hzs,hzl,hat⟩:=zeroOf (G:=G) hT hz
   have hinit:RowsAt G.H (List.replicate n z) z.length (madeCells zv.cells (n*zv.cells.size)):=by
    have:=RowsAt.made (G:=G) (zs:=z) (z:=zv.cells) (n:=n) (by rw [hzl,hzs]) (by rw [hzs,← hzl];exact hpos) hat
    rw [show zv.cells.size=z.length from by rw [hzl,hzs]] at this ⊢
    exact this
   obtain ⟨cs',h1,h2,h3⟩:=fillRows_ok hp hinit hrows
   rw [List.length_replicate] at h3
   obtain ⟨G',h4,h5⟩:=h2.step hR (e:=e) (d:=d) (site:=site) (ver:=ver')
   rw [h3] at h4
   refine ⟨_,_,G',?_,h4,h5⟩
   have hzz:z.length=ti.size:=by rw [hzl,hsz]
   rw [hzz] at h1 hpos hsm
   by_cases hn:n=0
   ·subst hn
    simp only [Nat.zero_mul] at h1
    have hm:madeCells zv.cells 0=#[]:=by simp [madeCells,Array.range_zero']
    rw [hm] at h1
    have hzr:(Array.range 0).map (zv.cells[· % zv.cells.size]!)=#[]:=by simp [Array.range_zero']
    simp only [Instr.buildSlice,Sem.run_bind,run_underlying ht,Result.andThen_ok,sizeOf,typeInfo,run_program,hi,Sem.run_pure,Nat.zero_mul]
    have hzr2 :∀zz:Array Value,(Array.range 0).map (zz[· % zz.size]!)=#[]:=fun zz=>by simp [Array.range_zero']
    simp [h1,newRow,hzr2]
   ·refine run_buildSlice w t e n vs.toArray cs' ti zv ht hi hzv (by omega) ?_ ?_
    ·intro h0
     rcases Nat.mul_eq_zero.1 h0 with h0 | h0<;>omega
    ·have hzz2:zv.cells.size=ti.size:=by rw [hzs,hsz]
     unfold madeCells at h1
     rw [hzz2] at h1 ⊢
     exact h1
  ·cases h
 ·cases h
theorem mks_ok (hR:Rel G w0 st w) {t e:TypeId} (ht:P.underlying t=some (.slice e)) {i:TI} (hT:TOk P e i) {C:CallF} {d site ver:Nat} {σ:Sl} {l c:Opd} {vl vc:Value} (hl:R G (l.ev σ) vl) (hc:R G (c.ev σ) vc) {r:AV} {st':St} (h:aexec C d site ver σ st (.mks i.zero i.bytes l c)=some (r,st')) :
  ∃v w' G',(Instr.makeSlice t vl vc).run P w=.ok v w'∧R G' r v∧Step G G' w0 st st' w' d site ver:=by
 simp only [aexec] at h
 split at h
 ·rename_i n n' hn hn'
  split at h
  ·rename_i z hz
   split at h
   ·rename_i hcond
    obtain ⟨rfl,hb,hm,hpos⟩:=hcond
    cases h
    obtain ⟨ti,zv,hi,hsz,hby,hzv,hzs,hzl,hat⟩:=zeroOf (G:=G) hT hz
    obtain ⟨k1,rfl⟩:=nat_inv hn hl
    obtain ⟨k2,rfl⟩:=nat_inv hn' hc
    have hinit:=RowsAt.made (G:=G) (zs:=z) (z:=zv.cells) (n:=n) (by rw [hzl,hzs]) (by rw [hzs,← hzl];exact hpos) hat
    obtain ⟨G',h4,h5⟩:=hinit.step hR (e:=e) (d:=d) (site:=site) (ver:=ver)
    rw [List.length_replicate] at h4
    refine ⟨_,_,G',?_,h4,h5⟩
    unfold maxBytes at hb hm
    have hbb:((ti.bytes:Nat):Int)*(n:Int)≤281474976710656:=by
     rw [hby,← Int.natCast_mul,Nat.mul_comm];omega
    have hrun:=run_make (P:=P) w t e ti zv ht hi hzv k1 k2 (n:Int) (n:Int) (by omega) (Int.le_refl _) hbb (by omega)
    simp only [Int.toNat_natCast] at hrun
    rw [hrun,show ti.size=zv.cells.size from by rw [hzs,hsz]]
   ·cases h
  ·cases h
 ·cases h
end
end Go.AM

namespace Go.AM
open Go Go.RowKit
structure Cx where
 T:TTab
 fm:FM
 ptr:Nat→Bool
 fz:List Nat:=[]
def Cx.kind (X:Cx) (t:TypeId):Option TK:=(X.T t).map (·.kind)
def cParts (X:Cx) (fs:List (Nat × Nat)):List (Nat × Operand)→Option (List (Nat × Nat × Opd))
 | []=>some []
 | (i,x)::r=>match fs[i]?,cOpd X.fm x,cParts X fs r with
  | some (ft,off),some y,some l=>(match X.T ft with | some ti=>some ((off,ti.size,y)::l) | none=>none)
  | _,_,_=>none
def cPartsA (X:Cx) (size n:Nat):List (Nat × Operand)→Option (List (Nat × Nat × Opd))
 | []=>some []
 | (i,x)::r=>match cOpd X.fm x,cPartsA X size n r with
  | some y,some l=>some ((i*size,size,y)::l)
  | _,_=>none
def cPartsR (X:Cx):List (Nat × Operand)→Option (List (Nat × Opd))
 | []=>some []
 | (i,x)::r=>match cOpd X.fm x,cPartsR X r with
  | some y,some l=>some ((i,y)::l)
  | _,_=>none
def okSize (i:TI):Bool:=i.kind.agg||i.size==1
def cBuiltin (X:Cx) (b:Builtin) (args:List Operand) (tys:List TypeId):Option AOp:=
 match b,args,tys with
 | .len,[x],[t]=>match X.kind t,cOpd X.fm x with
  | some .str,some y=>some (.len true y)
  | some (.sl _),some y=>some (.len false y)
  | _,_=>none
 | .append,[s,x],[t,t2]=>match X.kind t,X.kind t2,cOpd X.fm s,cOpd X.fm x with
  | some (.sl e),some (.sl _),some s,some x=>match X.T e with | some i=>some (.app i.size i.bytes s x) | none=>none
  | some (.sl e),some .str,some s,some x=>match X.T e with | some i=>if i.size=1∧i.bytes=1 then some (.appS s x) else none | none=>none
  | _,_,_,_=>none
 | .max,[x,y],_=>match cOpd X.fm x,cOpd X.fm y with | some x,some y=>some (.max x y) | _,_=>none
 | _,_,_=>none
def cCall (X:Cx) (callee:Callee) (args:List Operand) (tys:List TypeId):Option AOp:=
 match callee with
 | .builtin b=>cBuiltin X b args tys
 | .value f=>match cOpd X.fm f,cOpds X.fm args with
  | some (.c (.fn c [])),some l=>some (.call (X.ptr c) c l)
  | some (.t n),some l=>some (.callv (.t n) l)
  | _,_=>none
 | .invoke _ _=>none
def flagOp (X:Cx):Op→Bool
 | .alloc t=>t==btOf X.fm
 | .box _ _=>false
 | .call c=>match c.callee with
  | .builtin .append=>match c.argTypes.toList with
   | t::_=>match X.kind t with | some (.sl e)=>e==etOf X.fm | _=>false
   | []=>false
  | _=>true
 | _=>true
def fkOf (X:Cx) (t:Nat):Option Nat:=match X.kind t with | some (.int _)=>some 0 | some .bool=>some 1 | some .str=>some 2 | _=>none
def flatFs (X:Cx):Nat→List (Nat × Nat)→Option (List Nat)
 | _,[]=>some []
 | i,(t,o)::r=>if o=i then (match fkOf X t,flatFs X (i+1) r with | some c,some l=>some (c::l) | _,_=>none) else none
def cOp (X:Cx):Op→Option AOp
 | .move x | .assign x=>match cOpd X.fm x with | some y=>some (.mv y) | none=>none
 | .pick c a b=>match cOpd X.fm c,cOpd X.fm a,cOpd X.fm b with | some c,some a,some b=>some (.pick c a b) | _,_,_=>none
 | .alloc t=>match X.T t with | some i=>some (.alloc i.zero) | none=>none
 | .box t x=>match X.T t,cOpd X.fm x with | some i,some y=>some (.box i.size y) | _,_=>none
 | .build t parts=>match X.T t with
  | some i=>match i.kind with
   | .st fs=>match (fs.all fun f=>(X.T f.1).isSome),cParts X fs parts.toList with | true,some ps=>some (.build i.zero ps) | _,_=>none
   | .arr n e=>match X.T e with | some ie=>(match cPartsA X ie.size n parts.toList with | some ps=>some (.build i.zero ps) | none=>none) | none=>none
   | _=>none
  | none=>none
 | .buildSlice t n parts=>match X.kind t with
  | some (.sl e)=>match X.T e,cPartsR X parts.toList with | some i,some ps=>some (.bslice i.zero n ps) | _,_=>none
  | _=>none
 | .load t a=>match X.T t,cOpd X.fm a with | some i,some y=>if okSize i then some (.load i.size i.kind.agg y) else none | _,_=>none
 | .store t a x=>match X.T t,cOpd X.fm a,cOpd X.fm x with | some i,some y,some z=>some (.store i.size y z) | _,_,_=>none
 | .nilCheck x=>match cOpd X.fm x with | some y=>some (.nilc y) | none=>none
 | .binOp op t x y _=>match X.kind t,cOpd X.fm x,cOpd X.fm y with
  | some (.int _),some x,some y=>some (.bin op x y)
  | some .str,some x,some y=>some (.bin op x y)
  | some .bool,some x,some y=>match op with | .eql=>some (.beq false x y) | .neq=>some (.beq true x y) | _=>none
  | some (.ptr _),some x,some y=>match op with | .eql=>some (.peq false x y) | .neq=>some (.peq true x y) | _=>none
  | some (.st fs),some x,some y=>(match flatFs X 0 fs with | some ks=>(match op with | .eql=>some (.aeq false ks x y) | .neq=>some (.aeq true ks x y) | _=>none) | none=>none)
  | _,_,_=>none
 | .unOp op _ x=>match cOpd X.fm x with | some y=>some (.un op y) | none=>none
 | .convert s d x=>match X.kind s,X.kind d,cOpd X.fm x with
  | some (.int _),some (.int k),some y=>some (.cvi k y)
  | some (.sl e),some .str,some y=>match X.kind e with | some (.int .u8)=>some (.b2s y) | _=>none
  | some (.ptr e),some .uptr,some y=>match X.T e with | some i=>if e=btOf X.fm∧0<i.size then some (.cvp i.size y) else none | none=>none
  | some .uptr,some (.ptr e),some y=>match X.T e with | some i=>if e=btOf X.fm∧0<i.size then some (.cvp i.size y) else none | none=>none
  | _,_,_=>none
 | .makeFunc (.func f) first cap=>match X.fm f,first.toList,cOpds X.fm cap.toList with | some c,[],some l=>some (.mkfn c l) | some c,x::y,some []=>(match cOpds X.fm (x::y) with | some l=>some (.mkbf c l) | none=>none) | _,_,_=>none
 | .makeSlice t l c=>match X.kind t,cOpd X.fm l,cOpd X.fm c with
  | some (.sl e),some l,some c=>match X.T e with | some i=>some (.mks i.zero i.bytes l c) | none=>none
  | _,_,_=>none
 | .slice t x lo hi none=>match X.kind t,cOpd X.fm x,cOpt X.fm lo,cOpt X.fm hi with
  | some .str,some x,some lo,some hi=>some (.slS x lo hi)
  | some (.sl e),some x,some lo,some hi=>match X.T e with | some i=>some (.slL i.size x lo hi) | none=>none
  | some (.arr n e),some x,some lo,some hi=>match X.T e with | some i=>some (.slA n i.size x lo hi) | none=>none
  | _,_,_,_=>none
 | .fieldAddr s x f=>match X.kind s,cOpd X.fm x with
  | some (.st fs),some y=>match fs[f]? with
   | some (ft,off)=>match X.T ft with | some i=>if i.size=0 then none else some (.fad off y) | none=>none
   | none=>none
  | _,_=>none
 | .field s x f=>match X.kind s,cOpd X.fm x with
  | some (.st fs),some y=>match fs[f]? with
   | some (ft,off)=>match X.T ft with | some i=>if okSize i then some (.fld off i.size i.kind.agg y) else none | none=>none
   | none=>none
  | _,_=>none
 | .indexAddr t x i=>match X.kind t,cOpd X.fm x,cOpd X.fm i with
  | some (.sl e),some x,some y=>match X.T e with | some i=>some (.iaL i.size x y) | none=>none
  | some (.arr n e),some x,some y=>match X.T e with | some i=>some (.iaA n i.size x y) | none=>none
  | _,_,_=>none
 | .index t x i=>match X.kind t,cOpd X.fm x,cOpd X.fm i with
  | some .str,some x,some y=>some (.ixS x y)
  | some (.arr n e),some x,some y=>match X.T e with | some i=>if okSize i then some (.ixA n i.size i.kind.agg x y) else none | none=>none
  | _,_,_=>none
 | .extract x k=>match cOpd X.fm x with | some y=>some (.ext k y) | none=>none
 | .lookup t x i c=>match c,X.kind t,cOpd X.fm x,cOpd X.fm i with | false,some .mp,some x,some i=>some (.lkp x i) | _,_,_,_=>none
 | .call c=>cCall X c.callee c.args.toList c.argTypes.toList
 | _=>none
section
variable {P:Program} {G:Gh} {w0 w:World} {st:St} {X:Cx}
theorem kind_inv (hT:TTok P X.T) {t:TypeId} {k:TK} (h:X.kind t=some k) :∃i,X.T t=some i∧i.kind=k∧TOk P t i∧k.ok P t:=by
 unfold Cx.kind at h
 simp only [Option.map_eq_some_iff] at h
 obtain ⟨i,hi,rfl⟩:=h
 exact ⟨i,hi,rfl,hT t i hi,(hT t i hi).kind⟩
theorem TOk.ti {t:TypeId} {i:TI} (h:TOk P t i) :∃ti,P.info? t=some ti∧ti.size=i.size∧ti.bytes=i.bytes:=by
 obtain ⟨ti,z,h1,h2,h3,_⟩:=h.info
 exact ⟨ti,h1,h2,h3⟩
theorem okSize_inv {i:TI} (h:okSize i=true):i.kind.agg=false→i.size=1:=by
 intro ha
 unfold okSize at h
 rw [ha] at h
 simpa using h
theorem fk_cell (hT:TTok P X.T) {t c:Nat} (hk:fkOf X t=some c) {a b:AV} {u v:Value} {x:Bool} (h:cellEq c a b=some x) (ha:R G a u) (hb:R G b v) (d:Nat) :
  (Op.equalIn (d+1) t u v).run P w=.ok x w∧(isAgg t).run P w=.ok false w:=by
 unfold fkOf at hk
 split at hk
 ·rename_i k hkk
  cases hk
  obtain ⟨_,_,_,_,hu⟩:=kind_inv hT hkk
  refine ⟨?_,run_isAgg (k:=.int k) hu⟩
  unfold cellEq at h
  split at h
  ·split at h
   ·rename_i hkk'
    subst hkk'
    cases h
    rw [ha.int_inv,hb.int_inv]
    exact run_equalIn_int w d t _ k _ _ hu
   ·cases h
  ·rename_i e;cases e
  ·rename_i e;cases e
  ·cases h
 ·rename_i hkk
  cases hk
  obtain ⟨_,_,_,_,hu⟩:=kind_inv hT hkk
  refine ⟨?_,run_isAgg (k:=.bool) hu⟩
  unfold cellEq at h
  split at h
  ·rename_i e;cases e
  ·cases h
   rw [ha.bool_inv,hb.bool_inv]
   exact run_equalIn_bool' w d t _ _ hu
  ·rename_i e;cases e
  ·cases h
 ·rename_i hkk
  cases hk
  obtain ⟨_,_,_,_,hu⟩:=kind_inv hT hkk
  refine ⟨?_,run_isAgg (k:=.str) hu⟩
  unfold cellEq at h
  split at h
  ·rename_i e;cases e
  ·rename_i e;cases e
  ·cases h
   rw [ha.str_inv,hb.str_inv,run_equalIn_string w d t _ _ hu]
   rw [ByteArray.toList_eq,ByteArray.toList_eq]
  ·cases h
 ·cases hk
theorem eqFields_ok (hT:TTok P X.T) {us vs:List Value} {cs ds:List AV} (h1:Rs G cs us) (h2:Rs G ds vs) (d:Nat) :∀(fields:List Field) (i:Nat) (ks:List Nat) (b:Bool),(∀f∈fields,(f.name== "_")=false)→flatFs X i (fields.map fun f=>(f.type,f.offset))=some ks→cellsEq ks (cs.drop i) (ds.drop i)=some b→
  (Op.eqFields (d+1) us.toArray vs.toArray fields).run P w=.ok b w
 | [],i,ks,b,_,hf,hc=>by
  cases hf
  unfold cellsEq at hc
  split at hc
  ·cases hc;simp [Op.eqFields]
  ·rename_i e _ _;cases e
  ·cases hc
 | f::r,i,ks,b,hn,hf,hc=>by
  simp only [List.map_cons,flatFs] at hf
  split at hf
  case isFalse=>cases hf
  rename_i hoff
  split at hf
  case h_2=>cases hf
  rename_i c l hfk hl
  cases hf
  unfold cellsEq at hc
  split at hc
  ·rename_i e _ _;cases e
  ·rename_i c' q a r1 b1 t1 e ea eb
   cases e
   split at hc
   case h_2=>cases hc
   rename_i x y hx hy
   cases hc
   have ga:cs[i]?=some a:=by have:=congrArg List.head? ea;simpa [List.head?_drop] using this
   have gb:ds[i]?=some b1:=by have:=congrArg List.head? eb;simpa [List.head?_drop] using this
   have la:i<us.length:=by rw [← h1.1];exact (List.getElem?_eq_some_iff.1 ga).1
   have lb:i<vs.length:=by rw [← h2.1];exact (List.getElem?_eq_some_iff.1 gb).1
   have gu:us[i]?=some us[i]:=List.getElem?_eq_getElem la
   have gv:vs[i]?=some vs[i]:=List.getElem?_eq_getElem lb
   obtain ⟨q1,q2⟩:=fk_cell (P:=P) (w:=w) hT hfk hx (h1.2 i a _ ga gu) (h2.2 i b1 _ gb gv) d
   have ra:cs.drop (i+1)=r1:=by have:=congrArg List.tail ea;simpa [List.tail_drop] using this
   have rb:ds.drop (i+1)=t1:=by have:=congrArg List.tail eb;simpa [List.tail_drop] using this
   have ih:=eqFields_ok hT h1 h2 d r (i+1) l y (fun f hf=>hn f (List.mem_cons_of_mem _ hf)) hl (by rw [ra,rb];exact hy)
   have hnm:f.name≠ "_":=fun e=>by have:=hn f List.mem_cons_self;rw [e] at this;cases this
   have p1:(part f.type us.toArray f.offset).run P w=.ok us[i] w:=by
    rw [hoff];simp only [part,Sem.run_bind,q2,Result.andThen_ok,Bool.false_eq_true,if_false,List.getElem?_toArray,gu,Sem.run_pure]
   have p2:(part f.type vs.toArray f.offset).run P w=.ok vs[i] w:=by
    rw [hoff];simp only [part,Sem.run_bind,q2,Result.andThen_ok,Bool.false_eq_true,if_false,List.getElem?_toArray,gv,Sem.run_pure]
   rw [Op.eqFields,if_pos hnm]
   simp only [Sem.run_bind,p1,p2,q1,Result.andThen_ok]
   cases x
   ·simp
   ·simpa using ih
  ·cases hc
theorem aeq_ok (hT:TTok P X.T) {t:TypeId} {fs:List (Nat × Nat)} {ks:List Nat} (hk:X.kind t=some (.st fs)) (hf:flatFs X 0 fs=some ks) {cs ds:List AV} {b:Bool} (h:cellsEq ks cs ds=some b) {u v:Value} (hu:R G (.ag cs) u) (hv:R G (.ag ds) v) (neg:Bool) (x y:Operand) :
  ((do eqGuard (if neg then .neq else .eql) t x y u v;binOp (if neg then .neq else .eql) t u v):Sem Value).run P w=.ok (.bool (if neg then !b else b)) w:=by
 obtain ⟨_,_,_,_,fields,hun,hmap,hs,hg,hn⟩:=kind_inv hT hk
 obtain ⟨us,rfl,h1⟩:=hu.ag_inv
 obtain ⟨vs,rfl,h2⟩:=hv.ag_inv
 have hfo:P.fieldsOf t=fields:=by unfold Program.fieldsOf;rw [hun]
 have e:(Op.equalIn 10000 t (.agg us.toArray) (.agg vs.toArray)).run P w=.ok b w:=by
  rw [run_equalIn_struct w 9999 t _ _ (by rw [hfo];exact hun) hs,hfo]
  exact eqFields_ok hT h1 h2 9998 fields.toList 0 ks b hn (by rw [hmap];exact hf) h
 cases neg
 ·simp only [Bool.false_eq_true,if_false,Sem.run_bind,run_eqGuard_agg w _ t x y _ _ hg,Result.andThen_ok,run_eql_struct,e]
 ·simp only [if_true,Sem.run_bind,run_eqGuard_agg w _ t x y _ _ hg,Result.andThen_ok,run_neq_struct,e]
theorem beq_bytes (a b:List UInt8):((⟨a.toArray⟩:ByteArray)==⟨b.toArray⟩)=(a==b):=by
 rw [beq_toListBytes,ByteArray.toList_eq,ByteArray.toList_eq]
theorem findNow_ok (s:List UInt8) :∀(es:List MapEntry) (l:List (List UInt8 × Int)) (i:Nat),es.map (fun e=>(e.key,e.val))=l.map (fun x=>(Value.string ⟨x.1.toArray⟩,Value.int .u8 x.2))→
  (Instr.findNow .string (.string ⟨s.toArray⟩) es i=some none∧l.find? (fun x=>x.1==s)=none)∨∃j x,Instr.findNow .string (.string ⟨s.toArray⟩) es i=some (some (j,.int .u8 x.2))∧l.find? (fun x=>x.1==s)=some x
 | [],[],i,_=>.inl ⟨rfl,rfl⟩
 | [],_::_,i,h=>by cases h
 | _::_,[],i,h=>by cases h
 | e::es,x::l,i,h=>by
  simp only [List.map_cons,List.cons.injEq,Prod.mk.injEq] at h
  obtain ⟨⟨h1,h2⟩,h3⟩:=h
  have ih:=findNow_ok s es l (i+1) h3
  rw [Instr.findNow,h1,h2]
  simp only [Instr.sameNow,beq_bytes,List.find?_cons]
  cases hx:(s==x.1) with
  | true=>
   have:(x.1==s)=true:=by have:=eq_of_beq hx;rw [this];exact beq_self_eq_true _
   rw [this]
   exact .inr ⟨i,x,rfl,rfl⟩
  | false=>
   have:(x.1==s)=false:=by
    cases h:(x.1==s) with
    | false=>rfl
    | true=>have:=eq_of_beq h;rw [this,beq_self_eq_true] at hx;cases hx
   rw [this]
   exact ih
theorem lkp_ok (hT:TTok P X.T) (hR:Rel G w0 st w) {t:TypeId} (hk:X.kind t=some .mp) {l:List (List UInt8 × Int)} {s:List UInt8} {u v:Value} (hu:R G (.mp l) u) (hv:R G (.s s) v) :
  (Instr.lookup t u v false).run P w=.ok (.int .u8 (mpAt l s)) w:=by
 obtain ⟨_,_,_,_,k,e,hun,hks,hz⟩:=kind_inv hT hk
 obtain ⟨b,rfl,hb⟩:=hu.mp_inv
 rw [hv.str_inv]
 obtain ⟨es,clock,h1,h2⟩:=hR.mp b l hb
 have hget:(getObj b).run P w=.ok (.map es clock) w:=by simp [getObj,Sem.run,h1]
 have hck:(Instr.checkKey es.isEmpty 10000 k (.string ⟨s.toArray⟩)).run P w=.ok () w:=by
  rw [Instr.checkKey]
  simp [run_underlying hks]
 unfold mpAt
 rcases findNow_ok s es.toList l 0 h2 with ⟨h3,h4⟩ | ⟨j,x,h3,h4⟩
 ·have hfk:(Instr.findKey k (.string ⟨s.toArray⟩) es.toList).run P w=.ok none w:=by
   simp [Instr.findKey,run_underlying hks,h3]
  simp only [Instr.lookup,Sem.run_bind,run_underlying hun,Result.andThen_ok,hget,Sem.run_pure,hck,hfk,hz,h4]
  rfl
 ·have hfk:(Instr.findKey k (.string ⟨s.toArray⟩) es.toList).run P w=.ok (some (j,.int .u8 x.2)) w:=by
   simp [Instr.findKey,run_underlying hks,h3]
  simp only [Instr.lookup,Sem.run_bind,run_underlying hun,Result.andThen_ok,hget,Sem.run_pure,hck,hfk,h4]
  rfl
def Did (P:Program) (G:Gh) (w0:World) (st:St) (w:World) (o:Oper) (a:Act) (r:AV) (st':St) (d site ver:Nat):Prop:=
 ∃nx v w' G',(execOp a.eval o).run P w=.ok nx w'∧(nx=.value v∨(nx=.skip∧v=undef))∧R G' r v∧Step G G' w0 st st' w' d site ver
theorem Did.val {o:Oper} {a:Act} {r:AV} {st':St} {d site ver:Nat} {v:Value} {w':World} {G':Gh} (h1:(execOp a.eval o).run P w=.ok (.value v) w') (h2:R G' r v) (h3:Step G G' w0 st st' w' d site ver):Did P G w0 st w o a r st' d site ver:=
 ⟨_,v,w',G',h1,.inl rfl,h2,h3⟩
theorem Did.pure {o:Oper} {a:Act} {r:AV} {d site ver:Nat} (hR:Rel G w0 st w) (h :∃v,(execOp a.eval o).run P w=.ok (.value v) w∧R G r v):Did P G w0 st w o a r st d site ver:=by
 obtain ⟨v,h1,h2⟩:=h
 exact .val h1 h2 (Step.same hR)
theorem apure_state {d site ver:Nat} {σ:Sl} {r:AV} {st':St} {op:AOp} (h:(apure (d,site) ver σ op).map (·,st)=some (r,st')):apure (d,site) ver σ op=some r∧st'=st:=by
 simp only [Option.map_eq_some_iff,Prod.mk.injEq] at h
 obtain ⟨x,h1,rfl,rfl⟩:=h
 exact ⟨h1,rfl⟩
theorem run_val {P:Program} {w w':World} {s:Sem Value} {v:Value} (h:s.run P w=.ok v w'):(do pure (Next.value (← s)):Sem Next).run P w=.ok (.value v) w':=by
 simp only [Sem.run_bind,h,Result.andThen_ok,Sem.run_pure]
theorem run_unit {P:Program} {w w':World} {s:Sem Unit} (h:s.run P w=.ok () w'):(do s;pure Next.skip:Sem Next).run P w=.ok .skip w':=by
 simp only [Sem.run_bind,h,Result.andThen_ok,Sem.run_pure]
theorem eqGuard_ptr {op:BinOp} {t:TypeId} {x y:Operand} {m n:Option Addr}:(eqGuard op t x y (.pointer m) (.pointer n)).run P w=.ok () w:=by
 unfold eqGuard;cases op<;>simp
theorem peq_ok {neg:Bool} {t e:TypeId} (ht:P.underlying t=some (.pointer e)) (he:(P.info? e).isSome=true) {x y r:AV} {vx vy:Value} (h:apeq neg x y=some r) (hx:R G x vx) (hy:R G y vy) :
  (∃m n,vx=.pointer m∧vy=.pointer n)∧∃v,(binOp (if neg then .neq else .eql) t vx vy).run P w=.ok v w∧R G r v:=by
 obtain ⟨j,hj⟩:=Option.isSome_iff_exists.1 he
 have hb :∀x:Bool,R G (.b x) (.bool x):=fun n=>.fz _ _ (.b _)
 unfold apeq at h
 revert hx hy
 split at h
 ·intro hx hy
  cases h
  rw [hx.np_inv,hy.np_inv]
  refine ⟨⟨_,_,rfl,rfl⟩,_,?_,hb _⟩
  have h1 :∀d:Nat,(Op.equalIn (d+1) t (.pointer none) (.pointer none)).run P w=.ok true w:=fun d=>by
   simp [Op.equalIn,run_underlying ht]
  cases neg<;>simp [binOp,Op.equal,Op.maxDepth,h1 9999]
 ·intro hx hy
  cases h
  obtain ⟨g,rfl,_⟩:=hx.p_inv
  rw [hy.np_inv]
  refine ⟨⟨_,_,rfl,rfl⟩,_,?_,hb _⟩
  have h1 :∀(d:Nat) (a:Addr),(Op.equalIn (d+1) t (.pointer (some a)) (.pointer none)).run P w=.ok false w:=fun d a=>by
   simp [Op.equalIn,run_underlying ht]
  cases neg<;>simp [binOp,Op.equal,Op.maxDepth,h1 9999]
 ·split at h
  ·rename_i hc
   obtain ⟨rfl,rfl,rfl⟩:=hc
   intro hx hy
   cases h
   obtain ⟨g,rfl,h1⟩:=hx.p_inv
   obtain ⟨g',rfl,h2⟩:=hy.p_inv
   rw [h1] at h2
   cases h2
   refine ⟨⟨_,_,rfl,rfl⟩,_,?_,hb _⟩
   cases neg
   ·exact run_eql_ptr_same w _ ht hj
   ·exact Lib.run_neq_ptr_same w _ ht hj
  ·cases h
 ·cases h
theorem liesAt_self {e:TypeId} (hc:P.cellsOf e≠0) {count:Nat} (hn:1≤count):liesAt P P.depth e count 0 e 1=true:=by
 have hd:P.depth=(2*(P.types.size+Made.depth)+1)+1:=rfl
 rw [hd]
 simp only [liesAt,Bool.or_eq_true]
 left
 rw [hd]
 simp [rowAt,hc,hn,sameLayout]
theorem cvp_ok (hR:Rel G w0 st w) {x r:AV} {vx:Value} {n:Nat} (h:acvp st n x=some r) (hx:R G x vx) {s d t:TypeId} {j:TypeInfo} (hj:P.info? t=some j) (hjs:j.size=n) (hn:0<n) (hc:P.cellsOf t=n) (ht:t=btOf G.fm)
  (hsd:(P.underlying s=some (.pointer t)∧P.underlying d=some .unsafePointer)∨(P.underlying s=some .unsafePointer∧P.underlying d=some (.pointer t))):(convert s d vx).run P w=.ok vx w∧R G r vx:=by
 unfold acvp at h
 revert hx
 split at h
 ·rename_i k v
  split at h
  ·rename_i v' cs hlk
   split at h
   ·rename_i hcond
    obtain ⟨rfl,hbig,hlen⟩:=hcond
    cases h
    intro hx
    refine ⟨?_,hx⟩
    obtain ⟨g,rfl,hρ⟩:=hx.p_inv
    obtain ⟨us,e,_,hheap,hr,_⟩:=hR.bx k v' cs g hlk hρ
    obtain ⟨us',h3,_⟩:=hR.bxT k v' cs g hbig hlk hρ
    rw [hheap] at h3
    injection h3 with h3
    injection h3 with _ h3
    subst h3
    have hsz:us.length=n:=by rw [← hlen];exact hr.1.symm
    have hsh:w.shape? g=some (btOf G.fm,n):=by simp [World.shape?,hheap,hsz]
    subst ht
    rcases hsd with ⟨h1,h2⟩ | ⟨h1,h2⟩
    ·exact Lib.run_to_unsafe w ⟨g,0,none⟩ h1 h2 hj (by omega) hsh hn
    ·exact Lib.run_from_unsafe w ⟨g,0,none⟩ h1 h2 hj hsh (liesAt_self (by omega) (by rw [hc,Nat.div_self hn];exact Nat.le_refl _))
   ·cases h
  ·cases h
 ·cases h
theorem eqGuard_int {op:BinOp} {t:TypeId} {x y:Operand} {k k':IntKind} {m n:Int}:(eqGuard op t x y (.int k m) (.int k' n)).run P w=.ok () w:=by
 unfold eqGuard;cases op<;>simp
theorem eqGuard_str {op:BinOp} {t:TypeId} {x y:Operand} {m n:ByteArray}:(eqGuard op t x y (.string m) (.string n)).run P w=.ok () w:=by
 unfold eqGuard;cases op<;>simp
theorem eqGuard_bool {op:BinOp} {t:TypeId} {x y:Operand} {m n:Bool}:(eqGuard op t x y (.bool m) (.bool n)).run P w=.ok () w:=by
 unfold eqGuard;cases op<;>simp
theorem abin_shape {op:BinOp} {x y r:AV} {vx vy:Value} (h:abin op x y=some r) (hx:R G x vx) (hy:R G y vy):(∃k m k' n,vx=.int k m∧vy=.int k' n)∨(∃m n,vx=.string m∧vy=.string n):=by
 unfold abin at h
 revert hx hy
 split at h
 ·intro hx hy;exact .inl ⟨_,_,_,_,hx.int_inv,hy.int_inv⟩
 ·intro hx hy;exact .inr ⟨_,_,hx.str_inv,hy.str_inv⟩
 ·cases h
theorem cParts_ok {nt:Nat} {σ:Sl} {a:Act} (hA:RelA G nt σ a) (hfm:X.fm=G.fm) (hT:TTok P X.T) {fs:List (Nat × Nat)} :∀{ps:List (Nat × Operand)} {xs:List (Nat × Nat × Opd)},cParts X fs ps=some xs→∀{place:Nat→Option (Nat × Nat)},(∀(i ft off:Nat) ti,fs[i]?=some (ft,off)→X.T ft=some ti→place i=some (off,ti.size))→
  Parts G σ place (ps.map fun p=>(p.1,a.eval p.2)) xs
 | [],xs,h,_,_=>by cases h;trivial
 | (i,x)::r,xs,h,place,hp=>by
  unfold cParts at h
  split at h
  ·rename_i ft off y l hf hy hl
   split at h
   ·rename_i ti hti
    cases h
    rw [hfm] at hy
    exact ⟨hp i ft off ti hf hti,cOpd_ok hA hy,cParts_ok hA hfm hT hl hp⟩
   ·cases h
  ·cases h
theorem cPartsA_ok {nt:Nat} {σ:Sl} {a:Act} (hA:RelA G nt σ a) (hfm:X.fm=G.fm) {size n:Nat} :∀{ps:List (Nat × Operand)} {xs:List (Nat × Nat × Opd)},cPartsA X size n ps=some xs→Parts G σ (fun i=>some (i*size,size)) (ps.map fun p=>(p.1,a.eval p.2)) xs
 | [],xs,h=>by cases h;trivial
 | (i,x)::r,xs,h=>by
  unfold cPartsA at h
  split at h
  ·rename_i y l hy hl
   cases h
   rw [hfm] at hy
   exact ⟨rfl,cOpd_ok hA hy,cPartsA_ok hA hfm hl⟩
  ·cases h
theorem cPartsR_ok {nt:Nat} {σ:Sl} {a:Act} (hA:RelA G nt σ a) (hfm:X.fm=G.fm) :∀{ps:List (Nat × Operand)} {xs:List (Nat × Opd)},cPartsR X ps=some xs→PartsR G σ (ps.map fun p=>(p.1,a.eval p.2)) xs
 | [],xs,h=>by cases h;trivial
 | (i,x)::r,xs,h=>by
  unfold cPartsR at h
  split at h
  ·rename_i y l hy hl
   cases h
   rw [hfm] at hy
   exact ⟨rfl,cOpd_ok hA hy,cPartsR_ok hA hfm hl⟩
  ·cases h
theorem mapM_all (hT:TTok P X.T) :∀(fields:List Field),(fields.map fun f=>(f.type,f.offset)).all (fun f=>(X.T f.1).isSome)=true→
  ∃places,fields.mapM (fun f=>(P.info? f.type).map fun i=>(f.offset,i.size))=some places∧∀(i:Nat) ft off ti,(fields.map fun f=>(f.type,f.offset))[i]?=some (ft,off)→X.T ft=some ti→places[i]?=some (off,ti.size)
 | [],_=>⟨[],by simp,by simp⟩
 | f::r,h=>by
  simp only [List.map_cons,List.all_cons,Bool.and_eq_true] at h
  obtain ⟨h1,h2⟩:=h
  obtain ⟨places,h3,h4⟩:=mapM_all hT r h2
  obtain ⟨ti,hti⟩:=Option.isSome_iff_exists.1 h1
  obtain ⟨i',hi',hs,_⟩:=(hT _ _ hti).ti
  refine ⟨(f.offset,i'.size)::places,by simp [List.mapM_cons,hi',h3],fun i ft off ti' hf ht=>?_⟩
  cases i with
  | zero=>
   simp only [List.map_cons,List.getElem?_cons_zero,Option.some.injEq,Prod.mk.injEq] at hf
   obtain ⟨rfl,rfl⟩:=hf
   rw [hti] at ht
   cases ht
   simp [hs]
  | succ i=>
   simp only [List.map_cons,List.getElem?_cons_succ] at hf ⊢
   exact h4 i ft off ti' hf ht
end
end Go.AM

namespace Go.AM
open Go Go.RowKit Go.BigFrame
def AOp.isCall:AOp→Bool
 | .call _ _ _ | .callv _ _=>true
 | _=>false
section
variable {P:Program} {G:Gh} {w0 w:World} {st:St} {X:Cx}
set_option maxHeartbeats 1000000 in
theorem exec_ok (hT:TTok P X.T) (hfm:X.fm=G.fm) {nt:Nat} {σ:Sl} {a:Act} (hA:RelA G nt σ a) (hR:Rel G w0 st w) {o:Oper} {aop:AOp} (hc:cOp X o.op=some aop) (hn:aop.isCall=false) {C:CallF} {d site ver:Nat} {r:AV} {st':St} (h:aexec C d site ver σ st aop=some (r,st'))
  (hρ:G.ρ (d,site) ver=none) (hω:G.ω (d,site) ver=none) (hv:ver<st.nx) (hpre :∀zero,aop=.alloc zero→lk st.bx (d,site)=some (ver,zero)) (hB:bigSite≤site→flagOp X o.op=true):Did P G w0 st w o a r st' d site ver:=by
 have hS :∀{x:Operand} {y:Opd},cOpd X.fm x=some y→R G (y.ev σ) (a.eval x):=fun hx=>cOpd_ok hA (by rw [← hfm];exact hx)
 have hO :∀{x:Option Operand} {y:Option Opd},cOpt X.fm x=some y→SameO G σ a x y:=fun hx=>cOpt_ok hA (by rw [← hfm];exact hx)
 generalize hop:o.op=op at hc
 cases op with
 | move x=>
  simp only [cOp] at hc
  split at hc
  ·rename_i y hy
   cases hc
   simp only [aexec] at h
   have hq:=apure_state h
   clear h
   obtain ⟨h,rfl⟩:=hq
   cases h
   exact .pure hR ⟨_,by simp only [execOp,hop];rfl,hS hy⟩
  ·cases hc
 | assign x=>
  simp only [cOp] at hc
  split at hc
  ·rename_i y hy
   cases hc
   simp only [aexec] at h
   have hq:=apure_state h
   clear h
   obtain ⟨h,rfl⟩:=hq
   cases h
   exact .pure hR ⟨_,by simp only [execOp,hop];rfl,hS hy⟩
  ·cases hc
 | pick c x y=>
  simp only [cOp] at hc
  split at hc
  ·rename_i c' x' y' h1 h2 h3
   cases hc
   simp only [aexec] at h
   have hq:=apure_state h
   clear h
   obtain ⟨h,rfl⟩:=hq
   simp only [apure] at h
   have hc':=hS h1
   generalize c'.ev σ=cv at h hc'
   revert hc'
   split at h
   ·rename_i t
    intro hc'
    cases h
    refine .pure hR ⟨_,by simp only [execOp,hop,hc'.bool_inv,asBool,Sem.run_bind,Sem.run_pure,Result.andThen_ok];rfl,?_⟩
    cases t
    ·exact hS h3
    ·exact hS h2
   ·cases h
  ·cases hc
 | alloc t=>
  simp only [cOp] at hc
  split at hc
  ·rename_i i hi
   cases hc
   simp only [aexec] at h
   have hq:=apure_state h
   clear h
   obtain ⟨h,rfl⟩:=hq
   cases h
   obtain ⟨v,w',G',h1,h2,h3⟩:=aalloc_ok (P:=P) hR (hT t i hi) (fun hb=>by
    have:=hB hb
    rw [hop] at this
    rw [← hfm]
    simpa [flagOp] using this) (hpre _ rfl) hρ hv
   exact .val (by simp only [execOp,hop];exact run_val h1) h2 h3
  ·cases hc
 | box t x=>
  simp only [cOp] at hc
  split at hc
  ·rename_i i y hi hy
   cases hc
   simp only [aexec] at h
   split at h
   ·rename_i hcond
    cases h
    obtain ⟨v,w',G',h1,h2,h3⟩:=abox_ok (P:=P) (t:=t) hR (hS hy) hcond.2 (fun hb=>by
     have:=hB hb
     rw [hop] at this
     cases this) hρ hv
    exact .val (by simp only [execOp,hop];exact run_val h1) h2 h3
   ·cases h
  ·cases hc
 | build t parts=>
  simp only [cOp] at hc
  split at hc
  ·rename_i i hi
   split at hc
   ·rename_i fs hk
    split at hc
    ·rename_i ps hall hps
     cases hc
     simp only [aexec] at h
     have hq:=apure_state h
     clear h
     obtain ⟨h,rfl⟩:=hq
     simp only [apure] at h
     have hk':=(hT t i hi).kind
     rw [hk] at hk'
     obtain ⟨fields,hu,hmap,_⟩:=hk'
     rw [← hmap] at hall
     obtain ⟨places,hpl,hget⟩:=mapM_all hT fields.toList hall
     have hp:=cParts_ok hA hfm hT hps (place:=(places.toArray[·]?)) (fun j ft off ti hf ht=>by
      have:=hget j ft off ti (by rw [hmap];exact hf) ht
      simpa using this)
     obtain ⟨v,h1,h2⟩:=build_ok (P:=P) (w:=w) (hT t i hi) hp h (fun z ti h1 h2=>by unfold Program.built;simp only [h1,hu,h2,hpl])
     refine .pure hR ⟨v,?_,h2⟩
     simp only [execOp,hop]
     refine run_val ?_
     rw [show (parts.map fun p=>(p.1,a.eval p.2))=(parts.toList.map fun p=>(p.1,a.eval p.2)).toArray from by apply Array.ext';simp]
     exact h1
    ·cases hc
   ·rename_i n e hk
    split at hc
    ·rename_i ie hie
     split at hc
     ·rename_i ps hps
      cases hc
      simp only [aexec] at h
      have hq:=apure_state h
      clear h
      obtain ⟨h,rfl⟩:=hq
      simp only [apure] at h
      have hu:=(hT t i hi).kind
      rw [hk] at hu
      obtain ⟨ti,hti,hsz,_⟩:=(hT e ie hie).ti
      have hp:=cPartsA_ok hA hfm hps
      obtain ⟨v,h1,h2⟩:=build_ok (P:=P) (w:=w) (hT t i hi) hp h (fun z ti' h1 h2=>by unfold Program.built;simp only [h1,show P.underlying t=some (.array n e) from hu,h2,hti,hsz])
      refine .pure hR ⟨v,?_,h2⟩
      simp only [execOp,hop]
      refine run_val ?_
      rw [show (parts.map fun p=>(p.1,a.eval p.2))=(parts.toList.map fun p=>(p.1,a.eval p.2)).toArray from by apply Array.ext';simp]
      exact h1
     ·cases hc
    ·cases hc
   ·cases hc
  ·cases hc
 | buildSlice t n parts=>
  simp only [cOp] at hc
  split at hc
  ·rename_i e hk
   obtain ⟨_,_,_,_,hu⟩:=kind_inv hT hk
   split at hc
   ·rename_i i ps hi hps
    cases hc
    simp only [aexec] at h
    have hq:=apure_state h
    clear h
    obtain ⟨h,rfl⟩:=hq
    have hp:=cPartsR_ok hA hfm hps
    obtain ⟨v,w',G',h1,h2,h3⟩:=bslice_ok (P:=P) hR hu (hT e i hi) hp h (d:=d) (site:=site) (ver':=ver)
    refine .val ?_ h2 h3
    simp only [execOp,hop]
    refine run_val ?_
    rw [show (parts.map fun p=>(p.1,a.eval p.2))=(parts.toList.map fun p=>(p.1,a.eval p.2)).toArray from by apply Array.ext';simp]
    exact h1
   ·cases hc
  ·cases hc
 | load t x=>
  simp only [cOp] at hc
  split at hc
  ·rename_i i y hi hy
   split at hc
   ·rename_i hs
    cases hc
    simp only [aexec,Option.map_eq_some_iff,Prod.mk.injEq] at h
    obtain ⟨r',h,rfl,rfl⟩:=h
    obtain ⟨v,h1,h2⟩:=aload_ok (P:=P) hR (hT t i hi) (okSize_inv hs) h (hS hy)
    exact .pure hR ⟨v,by simp only [execOp,hop];exact run_val h1,h2⟩
   ·cases hc
  ·cases hc
 | store t x y=>
  simp only [cOp] at hc
  split at hc
  ·rename_i i x' y' hi hx hy
   cases hc
   simp only [aexec,Option.map_eq_some_iff,Prod.mk.injEq] at h
   obtain ⟨st'',h,rfl,rfl⟩:=h
   obtain ⟨w',h1,h2⟩:=astore_ok (P:=P) hR (hT t i hi) h (hS hx) (hS hy) (d:=d) (site:=site) (ver:=ver)
   exact ⟨.skip,undef,w',G,by simp only [execOp,hop];exact run_unit h1,.inr ⟨rfl,rfl⟩,.und,h2⟩
  ·cases hc
 | nilCheck x=>
  simp only [cOp] at hc
  split at hc
  ·rename_i y hy
   cases hc
   simp only [aexec] at h
   have hq:=apure_state h
   clear h
   obtain ⟨h,rfl⟩:=hq
   simp only [apure] at h
   have hx:=hS hy
   generalize y.ev σ=yv at h hx
   split at h
   ·cases h
    obtain ⟨g,hg,_⟩:=hx.p_inv
    exact .pure hR ⟨a.eval x,by simp only [execOp,hop,hg];rfl,hx⟩
   ·cases h
    obtain ⟨g,off,us,hg,_⟩:=hx.fp_inv
    exact .pure hR ⟨a.eval x,by simp only [execOp,hop,hg];rfl,hx⟩
   ·cases h
  ·cases hc
 | binOp op t x y yt=>
  simp only [cOp] at hc
  have bin :∀{x' y':Opd},cOpd X.fm x=some x'→cOpd X.fm y=some y'→aexec C d site ver σ st (.bin op x' y')=some (r,st')→Did P G w0 st w o a r st' d site ver:=by
   clear h
   intro x' y' hx hy h
   simp only [aexec] at h
   have hq:=apure_state h
   clear h
   obtain ⟨h,rfl⟩:=hq
   simp only [apure] at h
   obtain ⟨v,h1,h2⟩:=bin_ok (P:=P) (w:=w) (t:=t) (hS hx) (hS hy) h
   refine .pure hR ⟨v,?_,h2⟩
   simp only [execOp,hop]
   refine run_val ?_
   rcases abin_shape h (hS hx) (hS hy) with ⟨k,m,k',n,e1,e2⟩ | ⟨m,n,e1,e2⟩
   ·rw [e1,e2] at h1 ⊢
    simp only [Sem.run_bind,eqGuard_int,Result.andThen_ok,h1]
   ·rw [e1,e2] at h1 ⊢
    simp only [Sem.run_bind,eqGuard_str,Result.andThen_ok,h1]
  have beq :∀{x' y':Opd} (neg:Bool),op=(if neg then .neq else .eql)→P.underlying t=some .bool→cOpd X.fm x=some x'→cOpd X.fm y=some y'→aexec C d site ver σ st (.beq neg x' y')=some (r,st')→Did P G w0 st w o a r st' d site ver:=by
   clear h
   intro x' y' neg hopn hu hx hy h
   simp only [aexec] at h
   have hq:=apure_state h
   clear h
   obtain ⟨h,rfl⟩:=hq
   simp only [apure] at h
   obtain ⟨v,h1,h2⟩:=beq_ok (P:=P) (w:=w) hu h (hS hx) (hS hy)
   refine .pure hR ⟨v,?_,h2⟩
   simp only [execOp,hop]
   refine run_val ?_
   have e :∃m n,a.eval x=.bool m∧a.eval y=.bool n:=by
    have h3:=hS hx
    have h4:=hS hy
    generalize x'.ev σ=xv at h h3
    generalize y'.ev σ=yv at h h4
    split at h
    ·exact ⟨_,_,h3.bool_inv,h4.bool_inv⟩
    ·cases h
   obtain ⟨m,n,e1,e2⟩:=e
   rw [e1,e2] at h1 ⊢
   simp only [Sem.run_bind,eqGuard_bool,Result.andThen_ok]
   rw [hopn]
   exact h1
  have peq :∀{e:TypeId} {x' y':Opd} (neg:Bool),op=(if neg then .neq else .eql)→(P.underlying t=some (.pointer e)∧(P.info? e).isSome=true)→cOpd X.fm x=some x'→cOpd X.fm y=some y'→aexec C d site ver σ st (.peq neg x' y')=some (r,st')→Did P G w0 st w o a r st' d site ver:=by
   clear h
   intro e x' y' neg hopn hu hx hy h
   simp only [aexec] at h
   have hq:=apure_state h
   clear h
   obtain ⟨h,rfl⟩:=hq
   simp only [apure] at h
   obtain ⟨⟨m,n,e1,e2⟩,v,h1,h2⟩:=peq_ok (P:=P) (w:=w) hu.1 hu.2 h (hS hx) (hS hy)
   refine .pure hR ⟨v,?_,h2⟩
   simp only [execOp,hop]
   refine run_val ?_
   rw [e1,e2] at h1 ⊢
   simp only [Sem.run_bind,eqGuard_ptr,Result.andThen_ok]
   rw [hopn]
   exact h1
  split at hc
  ·rename_i k x' y' hk hx hy;cases hc;exact bin hx hy h
  ·rename_i x' y' hk hx hy;cases hc;exact bin hx hy h
  ·rename_i x' y' hk hx hy
   obtain ⟨_,_,_,_,hu⟩:=kind_inv hT hk
   split at hc
   ·cases hc;exact beq false rfl hu hx hy h
   ·cases hc;exact beq true rfl hu hx hy h
   ·cases hc
  ·rename_i e x' y' hk hx hy
   obtain ⟨_,_,_,_,hu⟩:=kind_inv hT hk
   split at hc
   ·cases hc;exact peq false rfl hu hx hy h
   ·cases hc;exact peq true rfl hu hx hy h
   ·cases hc
  ·rename_i fs x' y' hk hx hy
   have aeq :∀{ks:List Nat} (neg:Bool),op=(if neg then .neq else .eql)→flatFs X 0 fs=some ks→aexec C d site ver σ st (.aeq neg ks x' y')=some (r,st')→Did P G w0 st w o a r st' d site ver:=by
    clear h
    intro ks neg hopn hf h
    simp only [aexec] at h
    have hq:=apure_state h
    clear h
    obtain ⟨h,rfl⟩:=hq
    simp only [apure] at h
    have h3:=hS hx
    have h4:=hS hy
    revert h3 h4
    split at h
    ·rename_i cs ds e1 e2
     rw [e1,e2]
     intro h3 h4
     rw [Option.map_eq_some_iff] at h
     obtain ⟨b,hb,rfl⟩:=h
     refine .pure hR ⟨_,?_,.fz _ _ (.b _)⟩
     simp only [execOp,hop]
     refine run_val ?_
     rw [hopn]
     exact aeq_ok hT hk hf hb h3 h4 neg _ _
    ·cases h
   split at hc
   ·rename_i ks hf
    split at hc
    ·cases hc;exact aeq false rfl hf h
    ·cases hc;exact aeq true rfl hf h
    ·cases hc
   ·cases hc
  ·cases hc
 | unOp op t x=>
  simp only [cOp] at hc
  split at hc
  ·rename_i y hy
   cases hc
   simp only [aexec] at h
   have hq:=apure_state h
   clear h
   obtain ⟨h,rfl⟩:=hq
   simp only [apure] at h
   obtain ⟨v,h1,h2⟩:=un_ok (P:=P) (w:=w) h (hS hy)
   exact .pure hR ⟨v,by simp only [execOp,hop];exact run_val h1,h2⟩
  ·cases hc
 | convert s t x=>
  have cvp :∀{e:TypeId} {i:TI} {y:Opd},X.T e=some i→e=btOf X.fm→0<i.size→((P.underlying s=some (.pointer e)∧P.underlying t=some .unsafePointer)∨(P.underlying s=some .unsafePointer∧P.underlying t=some (.pointer e)))→cOpd X.fm x=some y→aexec C d site ver σ st (.cvp i.size y)=some (r,st')→Did P G w0 st w o a r st' d site ver:=by
   clear h
   intro e i y hi he hpos hu hy h
   simp only [aexec,Option.map_eq_some_iff,Prod.mk.injEq] at h
   obtain ⟨r',h1,rfl,rfl⟩:=h
   obtain ⟨ti,hti,hsz,_⟩:=(hT e i hi).ti
   obtain ⟨h2,h3⟩:=cvp_ok (P:=P) hR h1 (hS hy) hti hsz hpos (by simp [Program.cellsOf,hti,hsz]) (by rw [← hfm];exact he) hu
   exact .pure hR ⟨_,by simp only [execOp,hop];exact run_val h2,h3⟩
  simp only [cOp] at hc
  split at hc
  ·rename_i k1 k2 y hk1 hk2 hy
   cases hc
   obtain ⟨_,_,_,_,hu1⟩:=kind_inv hT hk1
   obtain ⟨_,_,_,_,hu2⟩:=kind_inv hT hk2
   simp only [aexec] at h
   have hq:=apure_state h
   clear h
   obtain ⟨h,rfl⟩:=hq
   simp only [apure] at h
   obtain ⟨v,h1,h2⟩:=cvi_ok (P:=P) (w:=w) hu1 hu2 h (hS hy)
   exact .pure hR ⟨v,by simp only [execOp,hop];exact run_val h1,h2⟩
  ·rename_i e y hk1 hk2 hy
   split at hc
   ·rename_i hke
    cases hc
    obtain ⟨_,_,_,_,hu1⟩:=kind_inv hT hk1
    obtain ⟨_,_,_,_,hu2⟩:=kind_inv hT hk2
    obtain ⟨_,_,_,_,hue⟩:=kind_inv hT hke
    simp only [aexec] at h
    have hq:=apure_state h
    clear h
    obtain ⟨h,rfl⟩:=hq
    simp only [apure] at h
    obtain ⟨v,h1,h2⟩:=b2s_ok (P:=P) (w:=w) hu1 hue hu2 hR.cell h (hS hy)
    exact .pure hR ⟨v,by simp only [execOp,hop];exact run_val h1,h2⟩
   ·cases hc
  ·rename_i e y hk1 hk2 hy
   split at hc
   ·rename_i i hi
    split at hc
    ·rename_i hcond
     cases hc
     obtain ⟨_,_,_,_,hu1⟩:=kind_inv hT hk1
     obtain ⟨_,_,_,_,hu2⟩:=kind_inv hT hk2
     exact cvp hi hcond.1 hcond.2 (.inl ⟨hu1.1,hu2⟩) hy h
    ·cases hc
   ·cases hc
  ·rename_i e y hk1 hk2 hy
   split at hc
   ·rename_i i hi
    split at hc
    ·rename_i hcond
     cases hc
     obtain ⟨_,_,_,_,hu1⟩:=kind_inv hT hk1
     obtain ⟨_,_,_,_,hu2⟩:=kind_inv hT hk2
     exact cvp hi hcond.1 hcond.2 (.inr ⟨hu1,hu2.1⟩) hy h
    ·cases hc
   ·cases hc
  ·cases hc
 | makeFunc fn first cap=>
  cases fn with
  | func f=>
   simp only [cOp] at hc
   split at hc
   ·rename_i c l hf hfi hl
    cases hc
    simp only [aexec] at h
    have hq:=apure_state h
    clear h
    obtain ⟨h,rfl⟩:=hq
    simp only [apure] at h
    cases h
    rw [hfm] at hf hl
    have hr:=cOpds_ok hA hl
    have hfe:first=#[]:=by apply Array.ext';simpa using hfi
    refine .pure hR ⟨_,?_,.fn _ f hf _ _ hr.1 hr.2⟩
    simp only [execOp,hop]
    refine run_val ?_
    have he:cap.map a.eval=(cap.toList.map a.eval).toArray:=by apply Array.ext';simp
    simp [Instr.makeFunc,hfe,he]
   ·rename_i c x y hf hfi hl
    split at hc
    ·rename_i l hl2
     cases hc
     simp only [aexec] at h
     have hq:=apure_state h
     clear h
     obtain ⟨h,rfl⟩:=hq
     simp only [apure] at h
     cases h
     rw [hfm] at hf hl hl2
     rw [← hfi] at hl2
     have hr:=cOpds_ok hA hl2
     have hce:cap=#[]:=by
      have:=(cOpds_ok hA hl).1
      apply Array.ext'
      cases hq:cap.toList with
      | nil=>rfl
      | cons=>rw [hq] at this;simp at this
     refine .pure hR ⟨_,?_,.bf _ f hf _ _ hr.1 hr.2⟩
     simp only [execOp,hop]
     refine run_val ?_
     have he:first.map a.eval=(first.toList.map a.eval).toArray:=by apply Array.ext';simp
     simp [Instr.makeFunc,hce,he]
    ·cases hc
   ·cases hc
  | _=>simp only [cOp] at hc;cases hc
 | makeSlice t l c=>
  simp only [cOp] at hc
  split at hc
  ·rename_i e l' c' hk hl hcc
   obtain ⟨_,_,_,_,hu⟩:=kind_inv hT hk
   split at hc
   ·rename_i i hi
    cases hc
    obtain ⟨v,w',G',h1,h2,h3⟩:=mks_ok (P:=P) hR hu (hT e i hi) (hS hl) (hS hcc) h
    exact .val (by simp only [execOp,hop];exact run_val h1) h2 h3
   ·cases hc
  ·cases hc
 | slice t x lo hi mx=>
  cases mx with
  | some m=>simp only [cOp] at hc;cases hc
  | none=>
   simp only [cOp] at hc
   split at hc
   ·rename_i x' lo' hi' hk hx hlo hhi
    cases hc
    obtain ⟨_,_,_,_,hu⟩:=kind_inv hT hk
    simp only [aexec] at h
    have hq:=apure_state h
    clear h
    obtain ⟨h,rfl⟩:=hq
    simp only [apure] at h
    obtain ⟨v,h1,h2⟩:=slS_ok (P:=P) (w:=w) hu (hS hx) (hO hlo) (hO hhi) h
    exact .pure hR ⟨v,by simp only [execOp,hop];exact run_val h1,h2⟩
   ·rename_i e x' lo' hi' hk hx hlo hhi
    split at hc
    ·rename_i i hi2
     cases hc
     obtain ⟨_,_,_,_,hu⟩:=kind_inv hT hk
     obtain ⟨ti,hti,hsz,_⟩:=(hT e i hi2).ti
     simp only [aexec] at h
     have hq:=apure_state h
     clear h
     obtain ⟨h,rfl⟩:=hq
     simp only [apure] at h
     rw [← hsz] at h
     obtain ⟨v,h1,h2⟩:=slL_ok (P:=P) (w:=w) hu hti (hS hx) (hO hlo) (hO hhi) h
     exact .pure hR ⟨v,by simp only [execOp,hop];exact run_val h1,h2⟩
    ·cases hc
   ·rename_i n e x' lo' hi' hk hx hlo hhi
    split at hc
    ·rename_i i hi2
     cases hc
     obtain ⟨_,_,_,_,hu⟩:=kind_inv hT hk
     obtain ⟨ti,hti,hsz,_⟩:=(hT e i hi2).ti
     rw [← hsz] at h
     obtain ⟨v,G',h1,h2,h3⟩:=slA_ok (P:=P) hR hu hti (hS hx) (hO hlo) (hO hhi) h
     exact .val (by simp only [execOp,hop];exact run_val h1) h2 h3
    ·cases hc
   ·cases hc
 | fieldAddr s x f=>
  simp only [cOp] at hc
  split at hc
  ·rename_i fs y hk hy
   split at hc
   ·rename_i ft off hf
    split at hc
    ·rename_i i hi
     split at hc
     ·cases hc
     ·rename_i hz
      cases hc
      obtain ⟨_,_,_,_,hu⟩:=kind_inv hT hk
      obtain ⟨ti,hti,hsz,_⟩:=(hT ft i hi).ti
      simp only [aexec] at h
      have hq:=apure_state h
      clear h
      obtain ⟨h,rfl⟩:=hq
      simp only [apure] at h
      obtain ⟨v,h1,h2⟩:=fad_ok (P:=P) (w:=w) hu hf hti (by omega) h (hS hy)
      exact .pure hR ⟨v,by simp only [execOp,hop];exact run_val h1,h2⟩
    ·cases hc
   ·cases hc
  ·cases hc
 | field s x f=>
  simp only [cOp] at hc
  split at hc
  ·rename_i fs y hk hy
   split at hc
   ·rename_i ft off hf
    split at hc
    ·rename_i i hi
     split at hc
     ·rename_i hs
      cases hc
      obtain ⟨_,_,_,_,hu⟩:=kind_inv hT hk
      simp only [aexec] at h
      have hq:=apure_state h
      clear h
      obtain ⟨h,rfl⟩:=hq
      simp only [apure] at h
      obtain ⟨v,h1,h2⟩:=fld_ok (P:=P) (w:=w) hu hf (hT ft i hi) (okSize_inv hs) h (hS hy)
      exact .pure hR ⟨v,by simp only [execOp,hop];exact run_val h1,h2⟩
     ·cases hc
    ·cases hc
   ·cases hc
  ·cases hc
 | indexAddr t x i=>
  simp only [cOp] at hc
  split at hc
  ·rename_i e x' i' hk hx hi
   split at hc
   ·rename_i ti' hti'
    cases hc
    obtain ⟨_,_,_,_,hu⟩:=kind_inv hT hk
    obtain ⟨ti,hti,hsz,_⟩:=(hT e ti' hti').ti
    simp only [aexec] at h
    have hq:=apure_state h
    clear h
    obtain ⟨h,rfl⟩:=hq
    simp only [apure] at h
    rw [← hsz] at h
    obtain ⟨v,h1,h2⟩:=iaL_ok (P:=P) (w:=w) hu hti h (hS hx) (hS hi)
    exact .pure hR ⟨v,by simp only [execOp,hop];exact run_val h1,h2⟩
   ·cases hc
  ·rename_i n e x' i' hk hx hi
   split at hc
   ·rename_i ti' hti'
    cases hc
    obtain ⟨_,_,_,_,hu⟩:=kind_inv hT hk
    obtain ⟨ti,hti,hsz,_⟩:=(hT e ti' hti').ti
    simp only [aexec] at h
    have hq:=apure_state h
    clear h
    obtain ⟨h,rfl⟩:=hq
    simp only [apure] at h
    rw [← hsz] at h
    obtain ⟨v,h1,h2⟩:=iaA_ok (P:=P) (w:=w) hu hti h (hS hx) (hS hi)
    exact .pure hR ⟨v,by simp only [execOp,hop];exact run_val h1,h2⟩
   ·cases hc
  ·cases hc
 | index t x i=>
  simp only [cOp] at hc
  split at hc
  ·rename_i x' i' hk hx hi
   cases hc
   obtain ⟨_,_,_,_,hu⟩:=kind_inv hT hk
   simp only [aexec] at h
   have hq:=apure_state h
   clear h
   obtain ⟨h,rfl⟩:=hq
   simp only [apure] at h
   obtain ⟨v,h1,h2⟩:=ixS_ok (P:=P) (w:=w) hu h (hS hx) (hS hi)
   exact .pure hR ⟨v,by simp only [execOp,hop];exact run_val h1,h2⟩
  ·rename_i n e x' i' hk hx hi
   split at hc
   ·rename_i ti' hti'
    split at hc
    ·rename_i hs
     cases hc
     obtain ⟨_,_,_,_,hu⟩:=kind_inv hT hk
     simp only [aexec] at h
     have hq:=apure_state h
     clear h
     obtain ⟨h,rfl⟩:=hq
     simp only [apure] at h
     obtain ⟨v,h1,h2⟩:=ixA_ok (P:=P) (w:=w) hu (hT e ti' hti') (okSize_inv hs) h (hS hx) (hS hi)
     exact .pure hR ⟨v,by simp only [execOp,hop];exact run_val h1,h2⟩
    ·cases hc
   ·cases hc
  ·cases hc
 | extract x k=>
  simp only [cOp] at hc
  split at hc
  ·rename_i y hy
   cases hc
   simp only [aexec] at h
   have hq:=apure_state h
   clear h
   obtain ⟨h,rfl⟩:=hq
   simp only [apure] at h
   obtain ⟨v,h1,h2⟩:=ext_ok (P:=P) (w:=w) h (hS hy)
   exact .pure hR ⟨v,by simp only [execOp,hop];exact run_val h1,h2⟩
  ·cases hc
 | lookup t x i c=>
  simp only [cOp] at hc
  split at hc
  ·rename_i x' i' hk hx hi
   cases hc
   simp only [aexec] at h
   have hq:=apure_state h
   clear h
   obtain ⟨h,rfl⟩:=hq
   simp only [apure] at h
   have h3:=hS hx
   have h4:=hS hi
   revert h3 h4
   split at h
   ·rename_i l s e1 e2
    rw [e1,e2]
    intro h3 h4
    cases h
    refine .pure hR ⟨_,?_,.fz _ _ (.i _ _)⟩
    simp only [execOp,hop]
    exact run_val (lkp_ok hT hR hk h3 h4)
   ·cases h
  ·cases hc
 | call c=>
  obtain ⟨dst,op',ty,pos,after,guard⟩:=o
  simp only at hop
  subst hop
  obtain ⟨callee,args,tys⟩:=c
  simp only [cOp] at hc
  cases callee with
  | invoke x n=>simp only [cCall] at hc;cases hc
  | value f=>
   simp only [cCall] at hc
   split at hc
   ·cases hc;cases hn
   ·cases hc;cases hn
   ·cases hc
  | builtin b=>
   simp only [cCall] at hc
   unfold cBuiltin at hc
   split at hc
   ·rename_i x t ha ht
    have ha':args=#[x]:=by apply Array.ext';simpa using ha
    have ht':tys=#[t]:=by apply Array.ext';simpa using ht
    subst ha'
    subst ht'
    split at hc
    ·rename_i y hk hy
     cases hc
     obtain ⟨_,_,_,_,hu⟩:=kind_inv hT hk
     simp only [aexec] at h
     have hq:=apure_state h
     clear h
     obtain ⟨h,rfl⟩:=hq
     simp only [apure] at h
     obtain ⟨v,h1,h2⟩:=lenS_ok (P:=P) (w:=w) (ty:=ty) hu h (hS hy)
     exact .pure hR ⟨v,by rw [execOp_builtin];simp only [builtin_len];rw [show (#[x]:Array Operand).map a.eval=#[a.eval x] from by simp];exact run_val h1,h2⟩
    ·rename_i e y hk hy
     cases hc
     obtain ⟨_,_,_,_,hu⟩:=kind_inv hT hk
     simp only [aexec] at h
     have hq:=apure_state h
     clear h
     obtain ⟨h,rfl⟩:=hq
     simp only [apure] at h
     obtain ⟨v,h1,h2⟩:=lenL_ok (P:=P) (w:=w) (ty:=ty) hu h (hS hy)
     exact .pure hR ⟨v,by rw [execOp_builtin];simp only [builtin_len];rw [show (#[x]:Array Operand).map a.eval=#[a.eval x] from by simp];exact run_val h1,h2⟩
    ·cases hc
   ·rename_i s x t t2 ha ht
    have ha':args=#[s,x]:=by apply Array.ext';simpa using ha
    have ht':tys=#[t,t2]:=by apply Array.ext';simpa using ht
    subst ha'
    subst ht'
    split at hc
    ·rename_i e e2 s' x' hk hk2 hs hx
     split at hc
     ·rename_i i hi
      cases hc
      obtain ⟨_,_,_,_,hu⟩:=kind_inv hT hk
      obtain ⟨_,_,_,_,hu2⟩:=kind_inv hT hk2
      obtain ⟨ti,z,hti,hsz,hby,hz,_,hzs⟩:=(hT e i hi).info
      simp only [aexec] at h
      have hx':=hS hx
      generalize x'.ev σ=xv at h hx'
      revert hx'
      split at h
      ·rename_i o news
       intro hx'
       obtain ⟨A,cap,hxe,hF,_⟩:=hx'.sl_inv
       rw [← hsz,← hby] at h
       obtain ⟨us,hus⟩ :∃us,(∀row∈news,row.length=ti.size)→Src P G.H w (.slice A news.length cap) ti.size news us:=by
        by_cases hns :∀row∈news,row.length=ti.size
        ·obtain ⟨us,h1⟩:=Src.slice (P:=P) hR hF hns
         exact ⟨us,fun _=>h1⟩
        ·exact ⟨fun _ _=>undef,fun h=>absurd h hns⟩
       obtain ⟨v,w',G',h1,h2,h3⟩:=aapp_ok (P:=P) (ty:=ty) hR hu hu2 (.inr ⟨_,rfl⟩) hti hz (by rw [hzs,hsz]) hus (fun hb=>by
        have:=hB hb
        simp only [flagOp,hk] at this
        rw [← hfm]
        simpa using this) hω hv h (hS hs)
       refine .val ?_ h2 h3
       rw [execOp_builtin]
       simp only [builtin_append]
       refine run_val ?_
       rw [show (#[s,x]:Array Operand).map a.eval=#[a.eval s,.slice A news.length cap] from by simp [hxe]]
       exact h1
      ·cases h
     ·cases hc
    ·rename_i e s' x' hk hk2 hs hx
     split at hc
     ·rename_i i hi
      split at hc
      ·rename_i h11
       cases hc
       obtain ⟨_,_,_,_,hu⟩:=kind_inv hT hk
       obtain ⟨_,_,_,_,hu2⟩:=kind_inv hT hk2
       obtain ⟨ti,z,hti,hsz,hby,hz,_,hzs⟩:=(hT e i hi).info
       simp only [aexec] at h
       have hx':=hS hx
       generalize x'.ev σ=xv at h hx'
       revert hx'
       split at h
       ·rename_i l
        intro hx'
        have hxe:=hx'.str_inv
        have e1:ti.size=1:=by rw [hsz,h11.1]
        have e2:ti.bytes=1:=by rw [hby,h11.2]
        rw [show aapp (d,site) ver 1 1 (s'.ev σ) (l.map row8) st=aapp (d,site) ver ti.size ti.bytes (s'.ev σ) (l.map row8) st from by rw [e1,e2]] at h
        obtain ⟨v,w',G',h1,h2,h3⟩:=aapp_ok (P:=P) (ty:=ty) hR hu hu2 (.inl rfl) hti hz (by rw [hzs,hsz]) (vx:=.string ⟨l.toArray⟩) (fun _=>by rw [e1];exact Src.str) (fun hb=>by
         have:=hB hb
         simp only [flagOp,hk] at this
         rw [← hfm]
         simpa using this) hω hv h (hS hs)
        refine .val ?_ h2 h3
        rw [execOp_builtin]
        simp only [builtin_append]
        refine run_val ?_
        rw [show (#[s,x]:Array Operand).map a.eval=#[a.eval s,.string ⟨l.toArray⟩] from by simp [hxe]]
        exact h1
       ·cases h
      ·cases hc
     ·cases hc
    ·cases hc
   ·rename_i x y ha
    have ha':args=#[x,y]:=by apply Array.ext';simpa using ha
    subst ha'
    split at hc
    ·rename_i x' y' hx hy
     cases hc
     simp only [aexec] at h
     have hq:=apure_state h
     clear h
     obtain ⟨h,rfl⟩:=hq
     simp only [apure] at h
     have hx':=hS hx
     have hy':=hS hy
     generalize x'.ev σ=xv at h hx'
     generalize y'.ev σ=yv at h hy'
     revert hx' hy'
     split at h
     ·rename_i k m k' n
      intro hx' hy'
      split at h
      ·rename_i hk
       subst hk
       cases h
       refine .pure hR ⟨_,?_,.fz _ _ (.i _ _)⟩
       rw [execOp_builtin]
       simp only [builtin_max]
       refine run_val ?_
       rw [show (#[x,y]:Array Operand).map a.eval=#[.int k m,.int k n] from by simp [hx'.int_inv,hy'.int_inv]]
       simp [Builtin.max_,Builtin.max2]
      ·cases h
     ·cases h
    ·cases hc
   ·cases hc
 | _=>simp only [cOp] at hc;cases hc
end
end Go.AM

namespace Go.AM
open Go Go.RowKit
def Opd.rd:Opd→List Nat
 | .t n=>[n]
 | .c _=>[]
def rdO:Option Opd→List Nat
 | some x=>x.rd
 | none=>[]
def rds:List Opd→List Nat
 | []=>[]
 | x::r=>x.rd++rds r
def rdP {α:Type}:List (α × Opd)→List Nat
 | []=>[]
 | (_,x)::r=>x.rd++rdP r
def AOp.rd:AOp→List Nat
 | .mv x=>x.rd
 | .pick c a b=>c.rd++a.rd++b.rd
 | .alloc _=>[]
 | .box _ x=>x.rd
 | .boxf _ x=>x.rd
 | .build _ ps=>rdP (ps.map fun p=>(p.1,p.2.2))
 | .bslice _ _ ps=>rdP ps
 | .load _ _ a=>a.rd
 | .ldf _ _ a=>a.rd
 | .store _ a x=>a.rd++x.rd
 | .nilc x=>x.rd
 | .bin _ x y=>x.rd++y.rd
 | .beq _ x y=>x.rd++y.rd
 | .un _ x=>x.rd
 | .cvi _ x=>x.rd
 | .b2s x=>x.rd
 | .mkfn _ l=>rds l
 | .mkbf _ l=>rds l
 | .mkfz _ a x b=>rds a++x.rd++rds b
 | .mks _ _ l c=>l.rd++c.rd
 | .slS x lo hi=>x.rd++rdO lo++rdO hi
 | .slL _ x lo hi=>x.rd++rdO lo++rdO hi
 | .slA _ _ x lo hi=>x.rd++rdO lo++rdO hi
 | .fad _ x=>x.rd
 | .fld _ _ _ x=>x.rd
 | .iaL _ x i=>x.rd++i.rd
 | .iaA _ _ x i=>x.rd++i.rd
 | .ixA _ _ _ x i=>x.rd++i.rd
 | .ixS x i=>x.rd++i.rd
 | .ext _ x=>x.rd
 | .call _ _ l=>rds l
 | .callv f l=>f.rd++rds l
 | .len _ x=>x.rd
 | .app _ _ s x=>s.rd++x.rd
 | .appS s x=>s.rd++x.rd
 | .max x y=>x.rd++y.rd
 | .peq _ x y=>x.rd++y.rd
 | .cvp _ x=>x.rd
 | .aeq _ _ x y=>x.rd++y.rd
 | .lkp x i=>x.rd++i.rd
 | .bad=>[]
theorem ev_congr {σ τ:Sl} {x:Opd} (h :∀t∈x.rd,σ t=τ t):x.ev σ=x.ev τ:=by
 cases x with
 | t n=>exact h n (by simp [Opd.rd])
 | c v=>rfl
theorem bnds_congr {σ τ:Sl} {len cap:Nat} {lo hi:Option Opd} (h1 :∀t∈rdO lo,σ t=τ t) (h2 :∀t∈rdO hi,σ t=τ t):bnds σ len cap lo hi=bnds τ len cap lo hi:=by
 unfold bnds
 cases lo with
 | none=>
  cases hi with
  | none=>rfl
  | some y=>simp only [ev_congr (x:=y) h2]
 | some x=>
  cases hi with
  | none=>simp only [ev_congr (x:=x) h1]
  | some y=>simp only [ev_congr (x:=x) h1,ev_congr (x:=y) h2]
theorem evs_congr {σ τ:Sl} :∀{l:List Opd},(∀t∈rds l,σ t=τ t)→l.map (·.ev σ)=l.map (·.ev τ)
 | [],_=>rfl
 | x::r,h=>by
  simp only [List.map_cons]
  rw [ev_congr (x:=x) (fun t ht=>h t (by simp [rds,ht])),evs_congr (l:=r) (fun t ht=>h t (by simp [rds,ht]))]
theorem fillRows_congr {σ τ:Sl} {z:List AV} :∀{l:List (Nat × Opd)} {rows:List (List AV)},(∀t∈rdP l,σ t=τ t)→fillRows z σ rows l=fillRows z τ rows l
 | [],_,_=>rfl
 | (i,x)::r,rows,h=>by
  unfold fillRows
  rw [ev_congr (x:=x) (fun t ht=>h t (by simp [rdP,ht]))]
  split
  ·split
   ·exact fillRows_congr (fun t ht=>h t (by simp [rdP,ht]))
   ·rfl
  ·rfl
theorem fillCells_congr {σ τ:Sl} :∀{l:List (Nat × Nat × Opd)} {cs:List AV},(∀t∈rdP (l.map fun p=>(p.1,p.2.2)),σ t=τ t)→fillCells σ cs l=fillCells τ cs l
 | [],_,_=>rfl
 | (o,n,x)::r,cs,h=>by
  unfold fillCells
  rw [ev_congr (x:=x) (fun t ht=>h t (by simp [rdP,ht]))]
  dsimp only
  split
  ·exact fillCells_congr (fun t ht=>h t (by simp only [List.map_cons,rdP,List.mem_append];exact .inr ht))
  ·rfl
theorem apure_congr {key:Key} {ver:Nat} {σ τ:Sl} {op:AOp} (h :∀t∈op.rd,σ t=τ t):apure key ver σ op=apure key ver τ op:=by
 have l1 :∀{a b:List Nat},(∀t∈a++b,σ t=τ t)→(∀t∈a,σ t=τ t)∧(∀t∈b,σ t=τ t):=fun h=>⟨fun t ht=>h t (List.mem_append.2 (.inl ht)),fun t ht=>h t (List.mem_append.2 (.inr ht))⟩
 cases op with
 | mv x=>simp only [apure,ev_congr h]
 | pick c x y=>
  obtain ⟨h1,h2⟩:=l1 h
  obtain ⟨h3,h4⟩:=l1 h1
  simp only [apure,ev_congr h2,ev_congr h3,ev_congr h4]
 | build z ps=>simp only [apure,fillCells_congr h]
 | bslice z n ps=>simp only [apure];split<;>(try rfl);simp only [fillRows_congr h]
 | boxf n x=>simp only [apure,ev_congr h]
 | nilc x=>simp only [apure,ev_congr h]
 | bin op x y=>obtain ⟨h1,h2⟩:=l1 h;simp only [apure,ev_congr h1,ev_congr h2]
 | beq n x y=>obtain ⟨h1,h2⟩:=l1 h;simp only [apure,ev_congr h1,ev_congr h2]
 | un op x=>simp only [apure,ev_congr h]
 | cvi k x=>simp only [apure,ev_congr h]
 | b2s x=>simp only [apure,ev_congr h]
 | mkfn f l=>simp only [apure,evs_congr h]
 | mkbf f l=>simp only [apure,evs_congr h]
 | slS x lo hi=>
  obtain ⟨h1,h2⟩:=l1 h
  obtain ⟨h3,h4⟩:=l1 h1
  simp only [apure,ev_congr h3]
  split
  ·rw [bnds_congr h4 h2]
  ·rfl
 | slL n x lo hi=>
  obtain ⟨h1,h2⟩:=l1 h
  obtain ⟨h3,h4⟩:=l1 h1
  simp only [apure,ev_congr h3]
  split
  ·rw [bnds_congr h4 h2]
  ·rfl
 | fad o x=>simp only [apure,ev_congr h]
 | fld o n g x=>simp only [apure,ev_congr h]
 | iaL n x i=>obtain ⟨h1,h2⟩:=l1 h;simp only [apure,ev_congr h1,ev_congr h2]
 | iaA n m x i=>obtain ⟨h1,h2⟩:=l1 h;simp only [apure,ev_congr h1,ev_congr h2]
 | ixA n m g x i=>obtain ⟨h1,h2⟩:=l1 h;simp only [apure,ev_congr h1,ev_congr h2]
 | ixS x i=>obtain ⟨h1,h2⟩:=l1 h;simp only [apure,ev_congr h1,ev_congr h2]
 | ext k x=>simp only [apure,ev_congr h]
 | len s x=>cases s<;>simp only [apure,ev_congr h]
 | max x y=>obtain ⟨h1,h2⟩:=l1 h;simp only [apure,ev_congr h1,ev_congr h2]
 | peq n x y=>obtain ⟨h1,h2⟩:=l1 h;simp only [apure,ev_congr h1,ev_congr h2]
 | ldf n g x=>simp only [apure,ev_congr h]
 | aeq n ks x y=>obtain ⟨h1,h2⟩:=l1 h;simp only [apure,ev_congr h1,ev_congr h2]
 | lkp x i=>obtain ⟨h1,h2⟩:=l1 h;simp only [apure,ev_congr h1,ev_congr h2]
 | _=>rfl
theorem aexec_congr {C:CallF} {d site ver:Nat} {st:St} {σ τ:Sl} {op:AOp} (h :∀t∈op.rd,σ t=τ t):aexec C d site ver σ st op=aexec C d site ver τ st op:=by
 have l1 :∀{a b:List Nat},(∀t∈a++b,σ t=τ t)→(∀t∈a,σ t=τ t)∧(∀t∈b,σ t=τ t):=fun h=>⟨fun t ht=>h t (List.mem_append.2 (.inl ht)),fun t ht=>h t (List.mem_append.2 (.inr ht))⟩
 cases op with
 | load n g x=>simp only [aexec,ev_congr h]
 | store n x y=>obtain ⟨h1,h2⟩:=l1 h;simp only [aexec,ev_congr h1,ev_congr h2]
 | box n x=>simp only [aexec,ev_congr h]
 | mks z b x y=>obtain ⟨h1,h2⟩:=l1 h;simp only [aexec,ev_congr h1,ev_congr h2]
 | mkfz f a x b=>
  obtain ⟨h1,h2⟩:=l1 h
  obtain ⟨h3,h4⟩:=l1 h1
  simp only [aexec,ev_congr h4,evs_congr h3,evs_congr h2]
 | slA n m x lo hi=>
  obtain ⟨h1,h2⟩:=l1 h
  obtain ⟨h3,h4⟩:=l1 h1
  simp only [aexec,ev_congr h3,bnds_congr h4 h2]
 | app n b x y=>obtain ⟨h1,h2⟩:=l1 h;simp only [aexec,ev_congr h1,ev_congr h2]
 | appS x y=>obtain ⟨h1,h2⟩:=l1 h;simp only [aexec,ev_congr h1,ev_congr h2]
 | call p f l=>cases p<;>simp only [aexec,evs_congr h]
 | callv f l=>obtain ⟨h1,h2⟩:=l1 h;simp only [aexec,ev_congr h1,evs_congr h2]
 | cvp n x=>simp only [aexec,ev_congr h]
 | _=>simp only [aexec,apure_congr h]
inductive Cls where
 | none | ld | box | frz | own | all
 deriving DecidableEq
def AOp.cls:AOp→Cls
 | .load _ _ _=>.ld
 | .store _ _ _ | .box _ _=>.box
 | .slA _ _ _ _ _=>.frz
 | .mkfz _ _ _ _=>.all
 | .app _ _ _ _ | .appS _ _=>.own
 | .call true _ _ | .callv _ _ | .cvp _ _=>.all
 | _=>.none
def AI.rd (o:AI):List Nat:=o.op.rd++(match o.guard with | some (t,_)=>[t] | none=>[])
def clsOk:Cls→Cls→Bool
 | .none,_ | _,.none=>true
 | .ld,.ld=>true
 | .frz,.ld=>true
 | .own,.ld | .own,.box | .own,.frz | .ld,.own | .box,.own | .frz,.own=>true
 | _,_=>false
def slotsOk (x y:AI):Bool:=
 (match x.dst with | some d=>!y.rd.contains d&&y.dst != some d | none=>true)&&(match y.dst with | some d=>!x.rd.contains d | none=>true)
def commOk (x y:AI):Bool:=clsOk x.op.cls y.op.cls&&slotsOk x y
theorem aexec_none {C:CallF} {d site ver:Nat} {σ:Sl} {st:St} {op:AOp} (hc:op.cls=.none) {v:AV} {st1:St} (h:aexec C d site ver σ st op=some (v,st1)):st1=st∧∀st2,aexec C d site ver σ st2 op=some (v,st2):=by
 have pure :∀{op:AOp},(∀st,aexec C d site ver σ st op=(apure (d,site) ver σ op).map (·,st))→aexec C d site ver σ st op=some (v,st1)→st1=st∧∀st2,aexec C d site ver σ st2 op=some (v,st2):=by
  intro op he h
  rw [he] at h
  simp only [Option.map_eq_some_iff,Prod.mk.injEq] at h
  obtain ⟨x,h1,rfl,rfl⟩:=h
  exact ⟨rfl,fun st2=>by rw [he,h1];rfl⟩
 cases op with
 | load=>cases hc
 | store=>cases hc
 | box=>cases hc
 | slA=>cases hc
 | mkfz=>cases hc
 | app=>cases hc
 | appS=>cases hc
 | callv=>cases hc
 | cvp=>cases hc
 | call p f l=>
  cases p with
  | true=>cases hc
  | false=>
   simp only [aexec] at h ⊢
   split at h
   ·split at h
    ·simp only [Option.map_eq_some_iff,Prod.mk.injEq] at h
     obtain ⟨x,h1,rfl,rfl⟩:=h
     exact ⟨rfl,fun st2=>by simp [h1]⟩
    ·cases h
   ·cases h
 | mks z b l c=>
  simp only [aexec] at h ⊢
  split at h
  ·split at h
   ·split at h
    ·rename_i hcond;cases h;exact ⟨rfl,fun st2=>by rw [if_pos hcond]⟩
    ·cases h
   ·cases h
  ·cases h
 | _=>exact pure (fun st=>rfl) h
theorem aexec_ld {C:CallF} {d site ver:Nat} {σ:Sl} {st:St} {op:AOp} (hc:op.cls=.ld) {v:AV} {st1:St} (h:aexec C d site ver σ st op=some (v,st1)):st1=st∧∀st2,st2.bx=st.bx→aexec C d site ver σ st2 op=some (v,st2):=by
 cases op with
 | load n g x=>
  simp only [aexec,Option.map_eq_some_iff,Prod.mk.injEq] at h ⊢
  obtain ⟨x',h1,rfl,rfl⟩:=h
  refine ⟨rfl,fun st2 hb=>⟨x',?_,rfl,trivial⟩⟩
  unfold aload at h1 ⊢
  rw [hb]
  exact h1
 | call p=>cases p<;>cases hc
 | _=>cases hc
theorem aexec_box {C:CallF} {d site ver:Nat} {σ:Sl} {st:St} {op:AOp} (hc:op.cls=.box∨op.cls=.frz) {v:AV} {st1:St} (h:aexec C d site ver σ st op=some (v,st1)) :
  ∃bx',st1={ st with bx:=bx' }∧∀st2,st2.bx=st.bx→aexec C d site ver σ st2 op=some (v,{ st2 with bx:=bx' }):=by
 cases op with
 | store n x y=>
  simp only [aexec,Option.map_eq_some_iff,Prod.mk.injEq] at h ⊢
  obtain ⟨s',h1,rfl,rfl⟩:=h
  unfold astore at h1
  split at h1
  ·rename_i k v o hx
   split at h1
   ·rename_i v' cs hlk
    split at h1
    ·rename_i hcond
     cases h1
     refine ⟨_,rfl,fun st2 hb=>⟨_,?_,rfl,rfl⟩⟩
     unfold astore
     simp only [hx,hb,hlk]
     rw [if_pos hcond]
    ·cases h1
   ·cases h1
  ·cases h1
 | box n x=>
  simp only [aexec] at h ⊢
  split at h
  ·rename_i hcond
   cases h
   exact ⟨_,rfl,fun st2 hb=>by rw [if_pos hcond,hb]⟩
  ·cases h
 | slA n m x lo hi=>
  simp only [aexec] at h ⊢
  split at h
  ·rename_i k v o hx
   split at h
   ·rename_i v' cs hlk
    split at h
    ·rename_i hcond
     split at h
     ·rename_i cs' hs
      simp only [Option.map_eq_some_iff,Prod.exists,Prod.mk.injEq] at h
      obtain ⟨a,b,hb,rfl,rfl⟩:=h
      exact ⟨_,rfl,fun st2 hb2=>by simp only [hb2,hlk,hs,hb];rw [if_pos hcond];rfl⟩
     ·cases h
    ·cases h
   ·cases h
  ·cases h
 | call p=>cases p<;>rcases hc with hc | hc<;>cases hc
 | _=>rcases hc with hc | hc<;>cases hc
theorem aexec_own {C:CallF} {d site ver:Nat} {σ:Sl} {st:St} {op:AOp} (hc:op.cls=.own) {v:AV} {st1:St} (h:aexec C d site ver σ st op=some (v,st1)) :
  ∃ow',st1={ st with ow:=ow' }∧∀st2,st2.ow=st.ow→aexec C d site ver σ st2 op=some (v,{ st2 with ow:=ow' }):=by
 have key :∀{size bytes:Nat} {s:AV} {news:List (List AV)},aapp (d,site) ver size bytes s news st=some (v,st1)→∃ow',st1={ st with ow:=ow' }∧∀st2,st2.ow=st.ow→aapp (d,site) ver size bytes s news st2=some (v,{ st2 with ow:=ow' }):=by
  intro size bytes s news h
  unfold aapp at h
  split at h
  ·rename_i o rows
   split at h
   ·rename_i hcond
    split at h
    ·rename_i hem
     cases h
     refine ⟨st.ow,rfl,fun st2 hb=>?_⟩
     unfold aapp
     simp only []
     rw [if_pos hcond,if_pos hem,← hb]
    ·rename_i hem
     split at h
     ·cases h
     ·cases h
      refine ⟨_,rfl,fun st2 hb=>?_⟩
      unfold aapp
      simp only []
      rw [if_pos hcond,if_neg hem,hb]
     ·rename_i k v'
      split at h
      ·rename_i v2 n hlk
       split at h
       ·rename_i hc2
        cases h
        refine ⟨_,rfl,fun st2 hb=>?_⟩
        unfold aapp
        simp only [hb,hlk]
        rw [if_pos hcond,if_neg hem,if_pos hc2]
       ·cases h
      ·cases h
   ·cases h
  ·cases h
 cases op with
 | app n b x y=>
  simp only [aexec] at h ⊢
  split at h
  ·exact key h
  ·cases h
 | appS x y=>
  simp only [aexec] at h ⊢
  split at h
  ·exact key h
  ·cases h
 | call p=>cases p<;>cases hc
 | _=>cases hc
theorem updO_comm {σ:Sl} {d e:Option Nat} (v y:AV) (h :∀t,d=some t→e≠some t):updO (updO σ d v) e y=updO (updO σ e y) d v:=by
 cases d with
 | none=>rfl
 | some d=>
  cases e with
  | none=>rfl
  | some e=>
   have hne:d≠e:=fun he=>h d rfl (by rw [he])
   funext t
   simp only [updO,upd]
   by_cases h1:t=d
   ·subst h1;rw [if_neg (fun he=>hne he),if_pos rfl];simp
   ·by_cases h2:t=e
    ·subst h2;simp [h1]
    ·simp [h1,h2]
theorem updO_other {σ:Sl} {d:Option Nat} {v:AV} {t:Nat} (h:d≠some t):updO σ d v t=σ t:=by
 cases d with
 | none=>rfl
 | some d=>simp only [updO,upd];rw [if_neg (fun he=>h (by rw [he]))]
theorem aai_inv {C:CallF} {d site ver:Nat} {o:AI} {σ σ1:Sl} {st st1:St} (h:aai C d site ver o σ st=some (σ1,st1)) :
  ∃v,σ1=updO σ o.dst v∧((aexec C d site ver σ st o.op=some (v,st1)∧∀τ st2 v2 st3,(∀t∈o.rd,σ t=τ t)→aexec C d site ver τ st2 o.op=some (v2,st3)→aai C d site ver o τ st2=some (updO τ o.dst v2,st3))∨
   (st1=st∧∀τ st2,(∀t∈o.rd,σ t=τ t)→aai C d site ver o τ st2=some (updO τ o.dst v,st2))):=by
 unfold aai at h
 split at h
 ·rename_i hg
  simp only [Option.map_eq_some_iff,Prod.exists,Prod.mk.injEq] at h
  obtain ⟨v,st',h1,rfl,rfl⟩:=h
  refine ⟨v,rfl,.inl ⟨h1,fun τ st2 v2 st3 _ he=>?_⟩⟩
  unfold aai
  rw [hg]
  simp only [he,Option.map_some]
 ·rename_i t w hg
  have ht:t∈o.rd:=by unfold AI.rd;rw [hg];simp
  split at h
  ·rename_i x hx
   split at h
   ·rename_i hxw
    simp only [Option.map_eq_some_iff,Prod.exists,Prod.mk.injEq] at h
    obtain ⟨v,st',h1,rfl,rfl⟩:=h
    refine ⟨v,rfl,.inl ⟨h1,fun τ st2 v2 st3 hτ he=>?_⟩⟩
    unfold aai
    rw [hg]
    have:τ t=.b x:=by rw [← hτ t ht];exact hx
    simp only [this,if_pos hxw,he,Option.map_some]
   ·rename_i hxw
    cases h
    refine ⟨.tup [],rfl,.inr ⟨rfl,fun τ st2 hτ=>?_⟩⟩
    unfold aai
    rw [hg]
    have:τ t=.b x:=by rw [← hτ t ht];exact hx
    simp only [this,if_neg hxw]
  ·rename_i hx
   cases h
   refine ⟨.tup [],rfl,.inr ⟨rfl,fun τ st2 hτ=>?_⟩⟩
   unfold aai
   rw [hg]
   have:τ t=.tup []:=by rw [← hτ t ht];exact hx
   simp only [this]
  ·cases h
theorem slots_inv {x y:AI} (h:slotsOk x y=true):(∀t,x.dst=some t→t ∉ y.rd∧y.dst≠some t)∧(∀t,y.dst=some t→t ∉ x.rd):=by
 unfold slotsOk at h
 rw [Bool.and_eq_true] at h
 constructor
 ·intro t ht
  have h1:=h.1
  rw [ht] at h1
  simp only [Bool.and_eq_true,Bool.not_eq_true',bne_iff_ne,ne_eq] at h1
  exact ⟨fun hm=>(by have:=List.contains_iff_mem.2 hm;rw [h1.1] at this;cases this),h1.2⟩
 ·intro t ht
  have h1:=h.2
  rw [ht] at h1
  simp only [Bool.not_eq_true'] at h1
  intro hm
  have:=List.contains_iff_mem.2 hm
  rw [h1] at this
  cases this
theorem swap {C:CallF} {d s1 v1 s2 v2:Nat} {x y:AI} (hk:commOk x y=true) {σ σ1 σ2:Sl} {st st1 st2:St} (h1:aai C d s1 v1 x σ st=some (σ1,st1)) (h2:aai C d s2 v2 y σ1 st1=some (σ2,st2)) :
  ∃τ1 tt1,aai C d s2 v2 y σ st=some (τ1,tt1)∧aai C d s1 v1 x τ1 tt1=some (σ2,st2):=by
 unfold commOk at hk
 rw [Bool.and_eq_true] at hk
 obtain ⟨hcls,hsl⟩:=hk
 obtain ⟨hx,hy⟩:=slots_inv hsl
 obtain ⟨vx,rfl,ax⟩:=aai_inv h1
 obtain ⟨vy,rfl,ay⟩:=aai_inv h2
 have cy :∀t∈y.rd,updO σ x.dst vx t=σ t:=fun t ht=>updO_other (fun he=>(hx t he).1 ht)
 have cx :∀u:AV,∀t∈x.rd,σ t=updO σ y.dst u t:=fun u t ht=>(updO_other (fun he=>hy t he ht)).symm
 have cyop :∀t∈y.op.rd,updO σ x.dst vx t=σ t:=fun t ht=>cy t (by unfold AI.rd;simp [ht])
 have cxop :∀u:AV,∀t∈x.op.rd,σ t=updO σ y.dst u t:=fun u t ht=>cx u t (by unfold AI.rd;simp [ht])
 have hcomm:updO (updO σ x.dst vx) y.dst vy=updO (updO σ y.dst vy) x.dst vx:=updO_comm _ _ (fun t ht=>(hx t ht).2)
 rw [hcomm]
 -- each of the two steps,at another state
 rcases ax with ⟨ax,ax'⟩ | ⟨rfl,ax'⟩
 ·rcases ay with ⟨ay,ay'⟩ | ⟨rfl,ay'⟩
  ·rw [aexec_congr cyop] at ay
   have goY :∀{sta stb:St},aexec C d s2 v2 σ sta y.op=some (vy,stb)→aai C d s2 v2 y σ sta=some (updO σ y.dst vy,stb):=fun he=>ay' σ _ vy _ cy he
   have goX :∀{sta stb:St},aexec C d s1 v1 σ sta x.op=some (vx,stb)→aai C d s1 v1 x (updO σ y.dst vy) sta=some (updO (updO σ y.dst vy) x.dst vx,stb):=fun he=>ax' _ _ vx _ (cx vy) (by rw [← aexec_congr (cxop vy)];exact he)
   cases hcx:x.op.cls with
   | none=>
    obtain ⟨rfl,e1⟩:=aexec_none hcx ax
    exact ⟨_,_,goY ay,goX (e1 _)⟩
   | ld=>
    obtain ⟨rfl,e1⟩:=aexec_ld hcx ax
    cases hcy:y.op.cls with
    | none=>obtain ⟨rfl,_⟩:=aexec_none hcy ay;exact ⟨_,_,goY ay,goX ax⟩
    | ld=>obtain ⟨rfl,_⟩:=aexec_ld hcy ay;exact ⟨_,_,goY ay,goX ax⟩
    | own=>obtain ⟨ow',rfl,_⟩:=aexec_own hcy ay;exact ⟨_,_,goY ay,goX (e1 _ rfl)⟩
    | box=>rw [hcx,hcy] at hcls;cases hcls
    | frz=>rw [hcx,hcy] at hcls;cases hcls
    | all=>rw [hcx,hcy] at hcls;cases hcls
   | box=>
    obtain ⟨bx',rfl,e1⟩:=aexec_box (.inl hcx) ax
    cases hcy:y.op.cls with
    | none=>obtain ⟨rfl,e2⟩:=aexec_none hcy ay;exact ⟨_,_,goY (e2 _),goX ax⟩
    | own=>
     obtain ⟨ow',rfl,e2⟩:=aexec_own hcy ay
     exact ⟨_,_,goY (e2 st rfl),goX (e1 { st with ow:=ow' } rfl)⟩
    | ld=>rw [hcx,hcy] at hcls;cases hcls
    | box=>rw [hcx,hcy] at hcls;cases hcls
    | frz=>rw [hcx,hcy] at hcls;cases hcls
    | all=>rw [hcx,hcy] at hcls;cases hcls
   | frz=>
    obtain ⟨bx',rfl,e1⟩:=aexec_box (.inr hcx) ax
    cases hcy:y.op.cls with
    | none=>obtain ⟨rfl,e2⟩:=aexec_none hcy ay;exact ⟨_,_,goY (e2 _),goX ax⟩
    | own=>
     obtain ⟨ow',rfl,e2⟩:=aexec_own hcy ay
     exact ⟨_,_,goY (e2 st rfl),goX (e1 { st with ow:=ow' } rfl)⟩
    | ld=>
     -- a box less: what is read there is read before too
     cases hop:y.op with
     | load n g a=>
      rw [hop] at ay
      simp only [aexec,Option.map_eq_some_iff,Prod.mk.injEq] at ay
      obtain ⟨v',ay,rfl,rfl⟩:=ay
      have hload:aload st n g (a.ev σ)=some v':=by
       unfold aload at ay ⊢
       split at ay
       ·exact ay
       ·rename_i k ver o hp
        cases hxo:x.op with
        | slA n1 m1 x1 lo hi=>
         rw [hxo] at ax
         simp only [aexec] at ax
         split at ax
         ·rename_i k1 ver1 o1 hp1
          split at ax
          ·rename_i ver2 cs1 hlk
           split at ax
           ·split at ax
            ·simp only [Option.map_eq_some_iff,Prod.exists,Prod.mk.injEq] at ax
             obtain ⟨_,_,_,_,hst⟩:=ax
             have hbx:bx'=del st.bx k1:=by injection hst with _ h2 _;exact h2.symm
             subst hbx
             simp only [] at ay
             by_cases hkk:k=k1
             ·subst hkk
              have:lk (del st.bx k) k=none:=by
               unfold del
               have hf :∀l:List (Key × Nat × List AV),lk (l.filter fun x=>decide (x.1≠k)) k=none:=by
                intro l
                induction l with
                | nil=>rfl
                | cons z r ih=>
                 obtain ⟨k2,z⟩:=z
                 simp only [List.filter_cons]
                 split
                 ·rename_i hne
                  simp only [decide_eq_true_eq] at hne
                  simp only [lk,if_neg hne,ih]
                 ·exact ih
               exact hf _
              rw [this] at ay
              cases ay
             ·have:lk (del st.bx k1) k=lk st.bx k:=by
               unfold del
               have hf :∀l:List (Key × Nat × List AV),lk (l.filter fun x=>decide (x.1≠k1)) k=lk l k:=by
                intro l
                induction l with
                | nil=>rfl
                | cons z r ih=>
                 obtain ⟨k2,z⟩:=z
                 simp only [List.filter_cons]
                 split
                 ·simp only [lk,ih]
                 ·rename_i hne
                  simp only [decide_eq_true_eq,ne_eq,Decidable.not_not] at hne
                  subst hne
                  rw [ih]
                  simp only [lk]
                  rw [if_neg (fun e=>hkk e.symm)]
               exact hf _
              rw [this] at ay
              exact ay
            ·cases ax
           ·cases ax
          ·cases ax
         ·cases ax
        | call p f l=>rw [hxo] at hcx;cases p<;>cases hcx
        | _=>rw [hxo] at hcx;cases hcx
       ·cases ay
      have:aexec C d s2 v2 σ st y.op=some (v',st):=by rw [hop];simp only [aexec,hload,Option.map_some]
      exact ⟨_,_,goY this,goX (e1 _ rfl)⟩
     | call p f l=>rw [hop] at hcy;cases p<;>cases hcy
     | _=>rw [hop] at hcy;cases hcy
    | box=>rw [hcx,hcy] at hcls;cases hcls
    | frz=>rw [hcx,hcy] at hcls;cases hcls
    | all=>rw [hcx,hcy] at hcls;cases hcls
   | own=>
    obtain ⟨ow',rfl,e1⟩:=aexec_own hcx ax
    cases hcy:y.op.cls with
    | none=>obtain ⟨rfl,e2⟩:=aexec_none hcy ay;exact ⟨_,_,goY (e2 _),goX ax⟩
    | ld=>
     obtain ⟨rfl,e2⟩:=aexec_ld hcy ay
     exact ⟨_,_,goY (e2 st rfl),goX ax⟩
    | box=>
     obtain ⟨bx',rfl,e2⟩:=aexec_box (.inl hcy) ay
     exact ⟨_,_,goY (e2 st rfl),goX (e1 { st with bx:=bx' } rfl)⟩
    | frz=>
     obtain ⟨bx',rfl,e2⟩:=aexec_box (.inr hcy) ay
     exact ⟨_,_,goY (e2 st rfl),goX (e1 { st with bx:=bx' } rfl)⟩
    | own=>rw [hcx,hcy] at hcls;cases hcls
    | all=>rw [hcx,hcy] at hcls;cases hcls
   | all=>
    cases hcy:y.op.cls with
    | none=>obtain ⟨rfl,e2⟩:=aexec_none hcy ay;exact ⟨_,_,goY (e2 _),goX ax⟩
    | ld=>rw [hcx,hcy] at hcls;cases hcls
    | own=>rw [hcx,hcy] at hcls;cases hcls
    | box=>rw [hcx,hcy] at hcls;cases hcls
    | frz=>rw [hcx,hcy] at hcls;cases hcls
    | all=>rw [hcx,hcy] at hcls;cases hcls
  ·exact ⟨_,_,ay' σ st cy,ax' _ _ vx _ (cx vy) (by rw [← aexec_congr (cxop vy)];exact ax)⟩
 ·rcases ay with ⟨ay,ay'⟩ | ⟨rfl,ay'⟩
  ·rw [aexec_congr cyop] at ay
   exact ⟨_,_,ay' σ _ vy _ cy ay,ax' _ _ (cx vy)⟩
  ·exact ⟨_,_,ay' σ _ cy,ax' _ _ (cx vy)⟩
theorem ahead {C:CallF} {d id base:Nat} {ops:List AI} {i:Nat} {y:AI} (hi:ops[i]?=some y) {post:List Nat} :∀(pre:List Nat) (_ :∀j∈pre,∀x,ops[j]?=some x→commOk x y=true) {σ σ2:Sl} {st st2:St},
  aregO C d id base ops (pre++i::post) σ st=some (σ2,st2)→aregO C d id base ops (i::(pre++post)) σ st=some (σ2,st2)
 | [],_,σ,σ2,st,st2,h=>h
 | j::pre,hp,σ,σ2,st,st2,h=>by
  simp only [List.cons_append,aregO] at h ⊢
  cases hj:ops[j]? with
  | none=>
   simp only [hj] at h ⊢
   have:=ahead hi pre (fun j' hj'=>hp j' (by simp [hj'])) h
   simpa only [aregO,hj] using this
  | some x=>
   simp only [hj] at h
   split at h
   ·rename_i σ1 st1 h1
    have h3:=ahead hi pre (fun j' hj'=>hp j' (by simp [hj'])) h
    simp only [aregO,hi] at h3
    split at h3
    ·rename_i σ3 st3 h4
     obtain ⟨τ1,tt1,h5,h6⟩:=swap (hp j (by simp) x hj) h1 h4
     simp only [hi,h5,hj,h6]
     exact h3
    ·cases h3
   ·cases h
end Go.AM

namespace Go.AM
open Go Go.RowKit Go.BigFrame
structure Run (G G':Gh) (w0:World) (st st':St) (w':World) (d:Nat):Prop where
 le:G.Le G'
 rel:Rel G' w0 st' w'
 nx:st.nx≤st'.nx
 old :∀k v,v<st.nx→G'.ρ k v=G.ρ k v∧G'.ω k v=G.ω k v
 pend :∀k v cs,k.1<d→v<st.nx→G.ρ k v=none→lk st.bx k=some (v,cs)→lk st'.bx k=some (v,cs)
 newH :∀g o v,G'.H g o=some v→G.H g o=some v∨w0.heap.size≤g
section
variable {G G1 G2:Gh} {w0 w w1 w2:World} {st st1 st2:St} {d:Nat}
theorem Run.refl (hR:Rel G w0 st w):Run G G w0 st st w d:=
 ⟨.refl G,hR,Nat.le_refl _,fun _ _ _=>⟨rfl,rfl⟩,fun _ _ _ _ _ _ h=>h,fun _ _ _ h=>.inl h⟩
theorem Run.trans (h:Run G G1 w0 st st1 w1 d) (k:Run G1 G2 w0 st1 st2 w2 d):Run G G2 w0 st st2 w2 d:=by
 refine ⟨h.le.trans k.le,k.rel,Nat.le_trans h.nx k.nx,fun q v hv=>?_,fun q v cs hq hv hn hl=>?_,fun g o v hv=>?_⟩
 ·have h1:=h.old q v hv
  have h2:=k.old q v (Nat.lt_of_lt_of_le hv h.nx)
  exact ⟨h2.1.trans h1.1,h2.2.trans h1.2⟩
 ·exact k.pend q v cs hq (Nat.lt_of_lt_of_le hv h.nx) (by rw [(h.old q v hv).1];exact hn) (h.pend q v cs hq hv hn hl)
 ·rcases k.newH g o v hv with h' | h'
  ·exact h.newH g o v h'
  ·exact .inr h'
theorem Run.step {site ver:Nat} (h:Run G G1 w0 st st1 w1 d) (k:Step G1 G2 w0 st1 st2 w2 d site ver) (hv:st.nx≤ver):Run G G2 w0 st st2 w2 d:=by
 refine ⟨h.le.trans k.le,k.rel,Nat.le_trans h.nx k.nx,fun q v hv'=>?_,fun q v cs hq hv' hn hl=>?_,fun g o v hv'=>?_⟩
 ·have h1:=h.old q v hv'
  have h2:=k.old q v (Nat.lt_of_lt_of_le hv' h.nx) (fun he=>by injection he with _ he;omega)
  exact ⟨h2.1.trans h1.1,h2.2.trans h1.2⟩
 ·exact k.pend q v cs (Nat.le_of_lt hq) (Nat.lt_of_lt_of_le hv' h.nx) (fun he=>by rw [he] at hq;exact Nat.lt_irrefl _ hq) (by rw [(h.old q v hv').1];exact hn) (h.pend q v cs hq hv' hn hl)
 ·rcases k.newH g o v hv' with h' | h'
  ·exact h.newH g o v h'
  ·exact .inr h'
theorem Step.of_run {site ver:Nat} (h:Run G G1 w0 st st1 w1 (d+1)):Step G G1 w0 st st1 w1 d site ver:=
 ⟨h.le,h.rel,h.nx,fun k v hv _=>h.old k v hv,fun k v cs hk hv _ hn hl=>h.pend k v cs (by omega) hv hn hl,h.newH⟩
end
def Goes (P:Program) (f:FuncId) (vals:Array Value) (w:World) (K:Value→World→Prop):Prop:=
 ((callFunc f vals).run P w=.ok (.enter f vals) w∧Calls P f vals w fun e w'=>match e with | .returned v=>K v w' | _=>False)∨
 ∃v w',(callFunc f vals).run P w=.ok (.value v) w'∧K v w'
theorem Goes.mono {P:Program} {f:FuncId} {vals:Array Value} {w:World} {K K':Value→World→Prop} (h:Goes P f vals w K) (hk :∀v w',K v w'→K' v w'):Goes P f vals w K':=by
 rcases h with ⟨h1,h2⟩ | ⟨v,w',h1,h2⟩
 ·refine .inl ⟨h1,h2.mono fun e w' he=>?_⟩
  cases e with
  | returned v=>exact hk _ _ he
  | panicked c=>exact he
  | outgrown=>exact he
 ·exact .inr ⟨v,w',h1,hk _ _ h2⟩
def CallOk (P:Program) (fm:FM) (C:CallF):Prop:=
 ∀d c args st r st',C d c args st=some (r,st')→∀f,fm f=some c→∀G w0 w vals,G.fm=fm→Rel G w0 st w→Rs G args vals→
  Goes P f vals.toArray w fun v w'=>∃G',R G' r v∧Run G G' w0 st st' w' d
def dstOk (nt:Nat):Option Nat→Bool
 | some t=>decide (t<nt)
 | none=>true
def splitFz (fz:List Nat):List Opd→Option (List Opd × Opd × List Opd)
 | []=>none
 | .t n::r=>if fz.contains (1000000+n)=true then some ([],.t n,r) else (splitFz fz r).map fun y=>(.t n::y.1,y.2)
 | .c v::r=>(splitFz fz r).map fun y=>(.c v::y.1,y.2)
theorem splitFz_eq {fz:List Nat} :∀{l:List Opd} {y:List Opd × Opd × List Opd},splitFz fz l=some y→l=y.1++y.2.1::y.2.2
 | [],y,h=>by cases h
 | .t n::r,y,h=>by
  unfold splitFz at h
  split at h
  ·cases h;rfl
  ·rw [Option.map_eq_some_iff] at h
   obtain ⟨z,h1,rfl⟩:=h
   rw [splitFz_eq h1];rfl
 | .c v::r,y,h=>by
  unfold splitFz at h
  rw [Option.map_eq_some_iff] at h
  obtain ⟨z,h1,rfl⟩:=h
  rw [splitFz_eq h1];rfl
def cOpZ (X:Cx) (o:Oper):Option AOp:=
 match cOp X o.op with
 | some (.box n x)=>(match o.dst with
  | some t=>if X.fz.contains t=true then some (.boxf n x) else some (.box n x)
  | none=>some (.box n x))
 | some (.mkfn f l)=>(match splitFz X.fz l with
  | some (a,x,b)=>some (.mkfz f a x b)
  | none=>some (.mkfn f l))
 | none=>some .bad
 | r=>r
theorem cOpZ_inv {X:Cx} {o:Oper} {op:AOp} (h:cOpZ X o=some op):cOp X o.op=some op∨(∃n x,op=.boxf n x∧cOp X o.op=some (.box n x))∨(∃f a x b,op=.mkfz f a x b∧cOp X o.op=some (.mkfn f (a++x::b)))∨op=.bad:=by
 unfold cOpZ at h
 split at h
 ·rename_i n x hx
  split at h
  ·split at h
   ·cases h;exact .inr (.inl ⟨_,_,rfl,hx⟩)
   ·cases h;exact .inl hx
  ·cases h;exact .inl hx
 ·rename_i f l hx
  split at h
  ·rename_i a x b hs
   cases h
   exact .inr (.inr (.inl ⟨_,_,_,_,rfl,by rw [hx,splitFz_eq hs]⟩))
  ·cases h;exact .inl hx
 ·cases h;exact .inr (.inr (.inr rfl))
 ·exact .inl h
def cOper (X:Cx) (nt:Nat) (ops:Array Oper) (o:Oper):Option AI:=
 match cOpZ X o with
 | none=>none
 | some op=>
  if dstOk nt o.dst=true then
   match o.guard with
   | none=>some ⟨o.dst,op,none⟩
   | some (j,w)=>match (ops[j]?).bind (·.dst) with | some t=>some ⟨o.dst,op,some (t,w)⟩ | none=>none
  else none
section
variable {P:Program} {G:Gh} {w0 w:World} {st:St} {X:Cx}
theorem strip_ok {H:Hp} {ρ:Key→Nat→Option Nat} {ω:Key→Nat→Option (Nat × Nat × Nat)} {G:Gh} {M:Nat→Option (List (List UInt8 × Int))} (hH:HLe G.H H) (hM :∀b l,G.M b=some l→M b=some l) :∀{a:AV} {v:Value} {b:AV},R G a v→a.strip=some b→∀fm,R ⟨H,ρ,ω,fm,M⟩ b v:=by
 intro a v b h
 revert b
 have lists :∀{cs:List AV} {us:List Value},cs.length=us.length→(∀(j:Nat) a u,cs[j]?=some a→us[j]?=some u→∀{b:AV},a.strip=some b→∀fm,R ⟨H,ρ,ω,fm,M⟩ b u)→∀{l:List AV},AV.strips cs=some l→∀fm,Rs ⟨H,ρ,ω,fm,M⟩ l us:=by
  intro cs
  induction cs with
  | nil=>
   intro us hl _ l h fm
   cases us with
   | nil=>cases h;exact ⟨rfl,by simp⟩
   | cons=>simp at hl
  | cons a cs ih=>
   intro us hl hj l h fm
   cases us with
   | nil=>simp at hl
   | cons x us=>
    rw [AV.strips] at h
    split at h
    ·rename_i w1 l1 h1 h2
     cases h
     have hr:=ih (by simpa using hl) (fun j a u h1 h2=>hj (j+1) a u (by simpa using h1) (by simpa using h2)) h2 fm
     refine ⟨by simp [hr.1],fun j a' u' ha hu=>?_⟩
     cases j with
     | zero=>
      simp at ha hu
      subst ha;subst hu
      exact hj 0 a x rfl rfl h1 fm
     | succ j=>exact hr.2 j a' u' (by simpa using ha) (by simpa using hu)
    ·cases h
 induction h with
 | fz a v h=>
  intro b hb fm
  have h':=h.mono hH
  cases h with
  | sl rows A cap size g off us hA hcap hs hH' hF=>simp only [AV.strip] at hb;cases hb;exact .fz _ _ h'
  | _=>simp only [AV.strip] at hb;cases hb;exact .fz _ _ h'
 | sl o rows A n cap h ho=>intro b hb fm;simp only [AV.strip] at hb;cases hb;exact .fz _ _ (h.mono hH)
 | p k ver off g h=>intro b hb;simp only [AV.strip] at hb;cases hb
 | bf c f hf cs us hl _ _=>intro b hb;simp only [AV.strip] at hb;cases hb
 | mp l b h=>intro b' hb fm;simp only [AV.strip] at hb;cases hb;exact .mp l b (hM _ _ h)
 | fp cs us g off h1 h2=>intro b hb fm;simp only [AV.strip] at hb;cases hb;exact .fp cs us g off (fun j a h=>hH _ _ _ (h1 j a h)) (fun j a h=>(h2 j a h).mono hH)
 | ag cs us hl _ ih=>
  intro b hb fm
  rw [AV.strip] at hb
  split at hb
  ·rename_i l h1
   cases hb
   have:=lists hl (fun j a u h1 h2=>ih j a u h1 h2) h1 fm
   exact .ag l us this.1 this.2
  ·cases hb
 | tup cs us hl _ ih=>
  intro b hb fm
  rw [AV.strip] at hb
  split at hb
  ·rename_i l h1
   cases hb
   have:=lists hl (fun j a u h1 h2=>ih j a u h1 h2) h1 fm
   exact .tup l us this.1 this.2
  ·cases hb
 | fn c f hf cs us hl _ ih=>intro b hb;simp only [AV.strip] at hb;cases hb
theorem strips_ok {H:Hp} {ρ:Key→Nat→Option Nat} {ω:Key→Nat→Option (Nat × Nat × Nat)} {G:Gh} {M:Nat→Option (List (List UInt8 × Int))} (hH:HLe G.H H) (hM :∀b l,G.M b=some l→M b=some l) :∀{cs:List AV} {us:List Value},Rs G cs us→∀{l:List AV},AV.strips cs=some l→∀fm,Rs ⟨H,ρ,ω,fm,M⟩ l us:=by
 intro cs
 induction cs with
 | nil=>
  intro us h l hl fm
  cases us with
  | nil=>cases hl;exact ⟨rfl,by simp⟩
  | cons=>have:=h.1;simp at this
 | cons a cs ih=>
  intro us h l hl fm
  cases us with
  | nil=>have:=h.1;simp at this
  | cons x us=>
   rw [AV.strips] at hl
   split at hl
   ·rename_i w1 l1 h1 h2
    cases hl
    have hr:=ih (us:=us) ⟨by simpa using h.1,fun j a u h1 h2=>h.2 (j+1) a u (by simpa using h1) (by simpa using h2)⟩ h2 fm
    refine ⟨by simp [hr.1],fun j a' u' ha hu=>?_⟩
    cases j with
    | zero=>
     simp at ha hu
     subst ha;subst hu
     exact strip_ok hH hM (h.2 0 a x rfl rfl) h1 fm
    | succ j=>exact hr.2 j a' u' (by simpa using ha) (by simpa using hu)
   ·cases hl
theorem pure_call {C:CallF} (hC:CallOk P G.fm C) (hR:Rel G w0 st w) {c f:Nat} (hf:G.fm f=some c) {args vs:List AV} {vals:List Value} (hv:Rs G args vals) (hs:AV.strips args=some vs) {r r':AV} {st':St} (h:C 0 c vs st0=some (r,st')) (hr:r.strip=some r') {d site ver:Nat} :
  Goes P f vals.toArray w fun v w'=>∃G',R G' r' v∧Step G G' w0 st st w' d site ver:=by
 have hR0:Rel ⟨G.H,fun _ _=>none,fun _ _=>none,G.fm,G.M⟩ w st0 w:=by
  refine ⟨Below.refl _ _,hR.ext,?_,?_,?_,?_,fun _ _ _=>⟨rfl,rfl⟩,fun k ver cs g _ h1=>?_,fun k ver n _ h1=>?_,hR.mp⟩
  rotate_left 4
  ·simp [st0,lk] at h1
  ·simp [st0,lk] at h1
  ·intro k ver cs g h1;simp [st0,lk] at h1
  ·intro k k' ver ver' cs cs' g h1;simp [st0,lk] at h1
  ·intro k ver n h1;simp [st0,lk] at h1
  ·intro k k' ver ver' n n' g cap size cap' size' h1;simp [st0,lk] at h1
 refine (hC 0 c vs st0 r st' h f hf ⟨G.H,fun _ _=>none,fun _ _=>none,G.fm,G.M⟩ w w vals rfl hR0 (strips_ok (fun _ _ _ h=>h) (fun _ _ h=>h) hv hs G.fm)).mono ?_
 rintro v w' ⟨G',h1,h2⟩
 have hle:HLe G.H G'.H:=h2.le.H
 refine ⟨⟨G'.H,G.ρ,G.ω,G.fm,G'.M⟩,strip_ok (G:=G') (fun _ _ _ h=>h) (fun _ _ h=>h) h1 hr G.fm,(Step.grow hR h2.rel.bel hle fun g o v hg=>?_).setM h2.le.M h2.rel.mp⟩
 rcases h2.newH g o v hg with h' | h'
 ·exact .inl h'
 ·exact .inr ⟨h',h2.rel.ext g o v hg⟩
theorem Rs.append {cs cs':List AV} {us us':List Value} (h:Rs G cs us) (h':Rs G cs' us'):Rs G (cs++cs') (us++us'):=by
 refine ⟨by simp [h.1,h'.1],fun j a u ha hu=>?_⟩
 rcases Nat.lt_or_ge j cs.length with hj | hj
 ·rw [List.getElem?_append_left hj] at ha
  rw [List.getElem?_append_left (by rw [← h.1];exact hj)] at hu
  exact h.2 j a u ha hu
 ·rw [List.getElem?_append_right hj] at ha
  rw [List.getElem?_append_right (by rw [← h.1];exact hj)] at hu
  rw [← h.1] at hu
  exact h'.2 _ a u ha hu
end
end Go.AM

namespace Go.AM
open Go Go.RowKit Go.BigFrame
section
variable {P:Program} {G:Gh} {w0 w:World} {st:St} {X:Cx}
theorem call_ok {C:CallF} (hfm:X.fm=G.fm) (hC:CallOk P X.fm C) {nt:Nat} {σ:Sl} {a:Act} (hA:RelA G nt σ a) (hR:Rel G w0 st w) {o:Oper} {aop:AOp} (hc:cOp X o.op=some aop) (hn:aop.isCall=true) {d site ver:Nat} {r:AV} {st':St} (h:aexec C d site ver σ st aop=some (r,st')) :
  ∃f vals,(execOp a.eval o).run P w=(callFunc f vals).run P w∧Goes P f vals w fun v w'=>∃G',R G' r v∧Step G G' w0 st st' w' d site ver:=by
 rw [hfm] at hC
 obtain ⟨dst,op,type,pos,after,guard⟩:=o
 simp only at hc
 cases op with
 | call k=>
  obtain ⟨callee,args,tys⟩:=k
  cases callee with
  | builtin b=>
   exfalso
   simp only [cOp,cCall] at hc
   unfold cBuiltin at hc
   repeat' split at hc
   all_goals first | (cases hc;done) | (cases hc;simp [AOp.isCall] at hn)
  | invoke=>simp [cOp,cCall] at hc
  | value x=>
   simp only [cOp,cCall] at hc
   split at hc
   ·rename_i c l hx hl
    cases hc
    rw [hfm] at hx hl
    have h1:=cOpd_ok hA hx
    obtain ⟨f,us,hf,hv,hus⟩:=R.fn_inv h1
    have hus':us=[]:=by
     have:=hus.1
     cases us with
     | nil=>rfl
     | cons=>simp at this
    subst hus'
    have h2:=cOpds_ok hA hl
    refine ⟨f,(args.toList.map a.eval).toArray,?_,?_⟩
    ·simp only [execOp,resolve,hv,Deferred.ofValue,invoke,Sem.run_bind,Sem.run_pure,Result.andThen_ok]
     congr 2
     apply Array.ext'
     simp
    ·cases hp:X.ptr c with
     | true=>
      rw [hp] at h
      simp only [aexec] at h
      refine (hC (d+1) c _ st r st' h f hf G w0 w _ rfl hR h2).mono ?_
      rintro v w' ⟨G',hr,hrun⟩
      exact ⟨G',hr,.of_run hrun⟩
     | false=>
      rw [hp] at h
      simp only [aexec] at h
      split at h
      ·rename_i vs hs
       split at h
       ·rename_i r0 s0 h0
        simp only [Option.map_eq_some_iff,Prod.mk.injEq] at h
        obtain ⟨r',hr',rfl,rfl⟩:=h
        exact pure_call hC hR hf h2 hs h0 hr'
       ·cases h
      ·cases h
   ·rename_i n l hx hl
    cases hc
    rw [hfm] at hx hl
    have h1:R G ((Opd.t n).ev σ) (a.eval x):=cOpd_ok hA hx
    have h2:=cOpds_ok hA hl
    simp only [aexec] at h
    generalize (Opd.t n).ev σ=fv at h h1
    revert h1
    split at h
    ·rename_i g cap
     intro h1
     obtain ⟨f,us,hf,hv,hus⟩:=R.fn_inv h1
     refine ⟨f,(args.toList.map a.eval++us).toArray,?_,?_⟩
     ·simp only [execOp,resolve,hv,Deferred.ofValue,invoke,Sem.run_bind,Sem.run_pure,Result.andThen_ok]
      congr 2
      apply Array.ext'
      simp
     ·refine (hC (d+1) g _ st r st' h f hf G w0 w _ rfl hR (h2.append hus)).mono ?_
      rintro v w' ⟨G',hr,hrun⟩
      exact ⟨G',hr,.of_run hrun⟩
    ·rename_i g cs
     intro h1
     obtain ⟨f,us,hf,hv,hus⟩:=R.bf_inv h1
     refine ⟨f,(us++args.toList.map a.eval).toArray,?_,?_⟩
     ·simp only [execOp,resolve,hv,Deferred.ofValue,invoke,Sem.run_bind,Sem.run_pure,Result.andThen_ok]
      congr 2
      apply Array.ext'
      simp
     ·refine (hC (d+1) g _ st r st' h f hf G w0 w _ rfl hR (hus.append h2)).mono ?_
      rintro v w' ⟨G',hr,hrun⟩
      exact ⟨G',hr,.of_run hrun⟩
    ·cases h
   ·cases hc
 | _=>
  exfalso
  simp only [cOp] at hc
  repeat' split at hc
  all_goals first | (cases hc;done) | (cases hc;simp [AOp.isCall] at hn;done) | (rename_i hq;cases hq)
theorem boxf_ok (hR:Rel G w0 st w) {t:TypeId} {x:AV} {vx:Value} (hx:R G x vx) {cs:List AV} (hs:softs x.cells=some cs) {d site ver:Nat} :
  ∃v w' G',(Instr.box t vx).run P w=.ok v w'∧R G' (.fp cs) v∧Step G G' w0 st st w' d site ver:=by
 obtain ⟨us,hus,hr,_,h1⟩:=hx.cells (softs_one hs)
 have hle:HLe G.H (fun g o=>if g=w.heap.size then us[o]? else G.H g o):=fun g o v h=>by
  show (if g=w.heap.size then _ else G.H g o)=some v
  rw [if_neg (by have:=hR.Hlt h;omega)]
  exact h
 have hst:Step G ⟨fun g o=>if g=w.heap.size then us[o]? else G.H g o,G.ρ,G.ω,G.fm,G.M⟩ w0 st st (w.alloc (.cells us.toArray t)) d site ver:=by
  refine Step.grow hR ((Below.refl _ _).alloc (Nat.le_refl _) _) hle fun g o v h=>?_
  have h':(if g=w.heap.size then us[o]? else G.H g o)=some v:=h
  split at h'
  ·rename_i hg
   subst hg
   refine .inr ⟨Nat.le_refl _,?_,h1 _ (List.mem_of_getElem? h')⟩
   have:=heap_alloc_new w (.cells us.toArray t)
   simp only [World.cell?,this]
   simpa using h'
  ·exact .inl h'
 have hlen:cs.length=us.length:=by rw [softs_len hs];exact hr.1
 have hget :∀(j:Nat) a,cs[j]?=some a→us[j]?=some (us.getD j undef):=fun j a h=>by
  have hj:j<us.length:=by
   rcases Nat.lt_or_ge j cs.length with h' | h'
   ·omega
   ·rw [List.getElem?_eq_none h'] at h;cases h
  rw [List.getD_eq_getElem?_getD,List.getElem?_eq_getElem hj];rfl
 refine ⟨_,_,_,?_,.fp cs (fun j=>us.getD j undef) w.heap.size 0 (fun j a h=>?_) (fun j a h=>?_),hst⟩
 ·simp only [Instr.box,newVar,newRow,Sem.run_bind,run_newObj,Result.andThen_ok,Sem.run_pure,hus]
  rfl
 ·show (if w.heap.size=w.heap.size then us[0+j]? else _)=_
  rw [if_pos rfl,Nat.zero_add]
  exact hget j a h
 ·exact (softs_ok hs hr j a _ h (hget j a h)).mono hle
theorem boxf_op (hfm:X.fm=G.fm) {nt:Nat} {σ:Sl} {a:Act} (hA:RelA G nt σ a) {o:Oper} {n:Nat} {x:Opd} (hc:cOp X o.op=some (.box n x)) :∃t vx,execOp a.eval o=(do return Next.value (← Instr.box t vx))∧R G (x.ev σ) vx:=by
 generalize hop:o.op=op at hc
 cases op with
 | box t y=>
  simp only [cOp] at hc
  split at hc
  ·rename_i i z hi hy
   cases hc
   exact ⟨t,a.eval y,by simp only [execOp,hop],cOpd_ok hA (by rw [← hfm];exact hy)⟩
  ·cases hc
 | _=>
  exfalso
  simp only [cOp] at hc
  try unfold cCall at hc
  try unfold cBuiltin at hc
  repeat' split at hc
  all_goals first | contradiction | (cases hc;done) | (simp at hc;done)
theorem mkfz_op (hfm:X.fm=G.fm) {nt:Nat} {σ:Sl} {a:Act} (hA:RelA G nt σ a) {o:Oper} {c:Nat} {l:List Opd} (hc:cOp X o.op=some (.mkfn c l)) :∃(f:Nat) (us:List Value),G.fm f=some c∧(execOp a.eval o).run P w=.ok (.value (.func (.func f) #[] us.toArray)) w∧Rs G (l.map (·.ev σ)) us:=by
 generalize hop:o.op=op at hc
 cases op with
 | makeFunc fn first cap=>
  cases fn with
  | func f=>
   simp only [cOp] at hc
   split at hc
   ·rename_i c l hf hfi hl
    cases hc
    have hr:=cOpds_ok hA (show cOpds G.fm cap.toList=some l by rw [← hfm];exact hl)
    have hfe:first=#[]:=by apply Array.ext';simpa using hfi
    refine ⟨f,cap.toList.map a.eval,by rw [← hfm];exact hf,?_,hr⟩
    simp only [execOp,hop]
    refine run_val ?_
    have he:cap.map a.eval=(cap.toList.map a.eval).toArray:=by apply Array.ext';simp
    simp [Instr.makeFunc,hfe,he]
   ·split at hc<;>cases hc
   ·cases hc
  | _=>simp only [cOp] at hc;cases hc
 | _=>
  exfalso
  simp only [cOp] at hc
  try unfold cCall at hc
  try unfold cBuiltin at hc
  repeat' split at hc
  all_goals first | contradiction | (cases hc;done) | (simp at hc;done)
theorem freeze_cap (hR:Rel G w0 st w) {k:Key} {v:Nat} {cs cs':List AV} (hk:lk st.bx k=some (v,cs)) (hs:softs cs=some cs') {c f:Nat} (hf:G.fm f=some c) {A B:List AV} {us:List Value} (hr:Rs G (A++.p k v 0::B) us) {d site ver:Nat} :
  ∃G',R G' (.fn c (A++.fp cs'::B)) (.func (.func f) #[] us.toArray)∧Step G G' w0 st { st with bx:=del st.bx k } w d site ver:=by
 have hp :∃u,us[A.length]?=some u∧R G (.p k v 0) u:=by
  have hl:=hr.1
  have:A.length<us.length:=by rw [← hl];simp
  exact ⟨_,List.getElem?_eq_getElem this,hr.2 A.length _ _ (by simp) (List.getElem?_eq_getElem this)⟩
 obtain ⟨u,hu,hpu⟩:=hp
 obtain ⟨g,rfl,hρ⟩:=hpu.p_inv
 obtain ⟨xs,e,hge,hheap,hrx,h1,hnone⟩:=hR.bx k v cs g hk hρ
 have hle:G.Le ⟨fun g' o=>if g'=g then xs[o]? else G.H g' o,G.ρ,G.ω,G.fm,G.M⟩:=⟨fun g' o v h=>by
  show (if g'=g then xs[o]? else G.H g' o)=some v
  rw [if_neg (by rintro rfl;rw [hnone o] at h;cases h)]
  exact h,fun _ _ _ h=>h,fun _ _ _ h=>h,rfl,fun _ _ h=>h⟩
 have hlen:cs'.length=xs.length:=by rw [softs_len hs];exact hrx.1
 have hget :∀(j:Nat) a,cs'[j]?=some a→xs[j]?=some (xs.getD j undef):=fun j a h=>by
  have hj:j<xs.length:=by
   rcases Nat.lt_or_ge j cs'.length with h' | h'
   ·omega
   ·rw [List.getElem?_eq_none h'] at h;cases h
  rw [List.getD_eq_getElem?_getD,List.getElem?_eq_getElem hj];rfl
 refine ⟨⟨fun g' o=>if g'=g then xs[o]? else G.H g' o,G.ρ,G.ω,G.fm,G.M⟩,.fn (G:=⟨fun g' o=>if g'=g then xs[o]? else G.H g' o,G.ρ,G.ω,G.fm,G.M⟩) c f hf _ us (by rw [← hr.1];simp) fun j a u' ha hu'=>?_,⟨hle,hR.freezeBox hk hρ hheap h1,Nat.le_refl _,fun _ _ _ _=>⟨rfl,rfl⟩,?_,?_⟩⟩
 ·by_cases hj:j=A.length
  ·subst hj
   rw [hu] at hu'
   cases hu'
   have:a=.fp cs':=by simpa using ha.symm
   subst this
   refine .fp cs' (fun j=>xs.getD j undef) g 0 (fun j a h=>?_) (fun j a h=>?_)
   ·show (if g=g then xs[0+j]? else _)=_
    rw [if_pos rfl,Nat.zero_add]
    exact hget j a h
   ·exact (softs_ok hs hrx j a _ h (hget j a h)).mono hle.H
  ·refine (hr.2 j a u' ?_ hu').mono hle
   rw [List.getElem?_append] at ha ⊢
   split at ha
   ·rename_i h;rw [if_pos h];exact ha
   ·rename_i h
    rw [if_neg h]
    have :∃i,j-A.length=i+1:=⟨j-A.length-1,by omega⟩
    obtain ⟨i,hi⟩:=this
    rw [hi,List.getElem?_cons_succ] at ha ⊢
    exact ha
 ·intro k' v' c1 _ _ _ hn hl
  show lk (del st.bx k) k'=_
  rw [lk_del,if_neg]
  ·exact hl
  ·rintro rfl
   rw [hk] at hl
   cases hl
   rw [hρ] at hn
   cases hn
 ·intro g' o v h
  have h':(if g'=g then xs[o]? else G.H g' o)=some v:=h
  split at h'
  ·rename_i hg;subst hg;exact .inr hge
  ·exact .inl h'
theorem op_step {C:CallF} (hT:TTok P X.T) (hfm:X.fm=G.fm) (hC:CallOk P X.fm C) {nt:Nat} {σ:Sl} {a:Act} (hA:RelA G nt σ a) (hR:Rel G w0 st w) {ops:Array Oper} {i:Nat} {o:Oper} (ho:ops[i]?=some o) {ai:AI} (hc:cOper X nt ops o=some ai) {d site ver:Nat} {σ':Sl} {st':St} (h:aai C d site ver ai σ st=some (σ',st'))
  (hρ:G.ρ (d,site) ver=none) (hω:G.ω (d,site) ver=none) (hv:ver<st.nx) (hpre :∀zero,ai.op=.alloc zero→lk st.bx (d,site)=some (ver,zero)) (hB:bigSite≤site→flagOp X o.op=true) {K:Act→World→Prop} {Q:Exit→Act→World→Prop}
  (hK :∀a' w' G',RelA G' nt σ' a'→Step G G' w0 st st' w' d site ver→K a' w'):wpOp P ops Q i K a w:=by
 unfold cOper at hc
 split at hc
 ·cases hc
 rename_i op hop
 split at hc
 case isFalse=>cases hc
 rename_i hdst
 have hd :∀t,o.dst=some t→t<nt:=by
  intro t ht
  rw [ht] at hdst
  simpa [dstOk] using hdst
 -- the operation is run
 have main :∀{v:AV} {s:St},aexec C d site ver σ st op=some (v,s)→σ'=updO σ o.dst v→st'=s→(∀zero,op=.alloc zero→lk st.bx (d,site)=some (ver,zero))→o.wp P a w K Q:=by
  intro v s h1 h2 h3 hpre
  subst h3
  unfold Oper.wp
  rcases cOpZ_inv hop with hop | ⟨bn,bx,rfl,hop2⟩ | ⟨bf,ba,bx,bb,rfl,hop2⟩ | rfl
  case inr.inr.inr=>cases h1
  case inr.inr.inl=>
   simp only [aexec] at h1
   split at h1
   case h_2=>cases h1
   rename_i k vv hx
   split at h1
   case h_2=>cases h1
   rename_i v' cs hlk
   split at h1
   case isFalse=>cases h1
   rename_i hvv
   subst hvv
   split at h1
   case h_2=>cases h1
   rename_i cs' hs
   cases h1
   obtain ⟨f,us,hf,hrun,hr⟩:=mkfz_op (P:=P) (w:=w) hfm hA hop2
   rw [List.map_append,List.map_cons,hx] at hr
   obtain ⟨G',h6,h7⟩:=freeze_cap hR hlk hs hf hr (d:=d) (site:=site) (ver:=ver)
   rw [hrun]
   exact hK _ _ G' (by rw [h2];exact (hA.mono h7.le).put hd h6) h7
  case inr.inl=>
   simp only [aexec,apure,Option.map_eq_some_iff,Prod.mk.injEq] at h1
   obtain ⟨y,hy,rfl,rfl⟩:=h1
   split at hy
   case isFalse=>cases hy
   simp only [Option.map_eq_some_iff] at hy
   obtain ⟨cs,hcs,rfl⟩:=hy
   obtain ⟨t,vx,e,hS⟩ :∃t vx,execOp a.eval o=(do return .value (← Instr.box t vx))∧R G (bx.ev σ) vx:=boxf_op hfm hA hop2
   obtain ⟨u,w',G',h4,h6,h7⟩:=boxf_ok (P:=P) (t:=t) hR hS hcs (d:=d) (site:=site) (ver:=ver)
   rw [e,show (do return Next.value (← Instr.box t vx):Sem Next).run P w=.ok (.value u) w' from run_val h4]
   exact hK _ _ G' (by rw [h2];exact (hA.mono h7.le).put hd h6) h7
  cases hn:op.isCall with
  | false=>
   obtain ⟨nx,u,w',G',h4,h5,h6,h7⟩:=exec_ok hT hfm hA hR hop hn h1 hρ hω hv hpre hB
   rw [h4]
   have:K (a.put o.dst u) w':=hK _ _ G' (by rw [h2];exact (hA.mono h7.le).put hd h6) h7
   rcases h5 with rfl | ⟨rfl,rfl⟩
   ·exact this
   ·exact this
  | true=>
   obtain ⟨f,vals,h4,h5⟩:=call_ok hfm hC hA hR hop hn h1
   rw [h4]
   rcases h5 with ⟨h5,h6⟩ | ⟨u,w',h5,G',h6,h7⟩
   ·rw [h5]
    refine h6.mono fun e w' he=>?_
    cases e with
    | returned u=>
     obtain ⟨G',h7,h8⟩:=he
     exact hK _ _ G' (by rw [h2];exact (hA.mono h8.le).put hd h7) h8
    | panicked c=>exact he.elim
    | outgrown=>exact he.elim
   ·rw [h5]
    exact hK _ _ G' (by rw [h2];exact (hA.mono h7.le).put hd h6) h7
 have skip:σ'=updO σ o.dst (.tup [])→st'=st→K (a.put o.dst undef) w:=by
  intro h1 h2
  subst h2
  exact hK _ _ G (by rw [h1];exact hA.put hd R.und) (Step.same hR)
 unfold wpOp
 rw [ho]
 simp only
 cases hg:o.guard with
 | none=>
  rw [hg] at hc
  cases hc
  rw [if_pos (by simp [Region.wanted,hg])]
  simp only [aai,Option.map_eq_some_iff,Prod.mk.injEq] at h
  obtain ⟨⟨v,s⟩,h1,h2,h3⟩:=h
  exact .inl (main h1 h2.symm h3.symm hpre)
 | some jw=>
  obtain ⟨j,want⟩:=jw
  rw [hg] at hc
  simp only at hc
  split at hc
  case h_2=>cases hc
  rename_i t ht
  cases hc
  simp only [aai] at h
  have hσ:=hA.2.2 t
  have hy :∀x,σ t=.b x→yielded ops a.tmps j=some x:=by
   intro x hx
   rw [hx] at hσ
   have hσ:=hσ.bool_inv
   unfold yielded
   rw [ht]
   simp only [Option.bind_some]
   have:a.tmps[t]?=some (.bool x):=by
    rw [Array.getD_eq_getD_getElem?] at hσ
    cases h:a.tmps[t]? with
    | none=>rw [h] at hσ;cases hσ
    | some y=>rw [h] at hσ;simp at hσ;rw [hσ]
   rw [this]
  have hn:σ t=.tup []→yielded ops a.tmps j=none:=by
   intro hx
   rw [hx] at hσ
   have hσ:=hσ.tup0_inv
   unfold yielded
   rw [ht]
   simp only [Option.bind_some]
   rw [Array.getD_eq_getD_getElem?] at hσ
   cases h:a.tmps[t]? with
   | none=>rfl
   | some y=>rw [h] at hσ;simp at hσ;rw [hσ];rfl
  split at h
  ·rename_i x hx
   split at h
   ·rename_i hw
    simp only [Option.map_eq_some_iff,Prod.mk.injEq] at h
    obtain ⟨⟨v,s⟩,h1,h2,h3⟩:=h
    rw [if_pos (by simp [Region.wanted,hg,hy x hx,hw])]
    exact .inl (main h1 h2.symm h3.symm hpre)
   ·rename_i hw
    cases h
    rw [if_neg (by simp [Region.wanted,hg,hy x hx,hw])]
    exact skip rfl rfl
  ·rename_i hx
   cases h
   rw [if_neg (by simp [Region.wanted,hg,hn hx])]
   exact skip rfl rfl
  ·cases h
def cOpers (X:Cx) (nt:Nat) (ops:Array Oper):List Oper→Option (List AI)
 | []=>some []
 | o::r=>match cOper X nt ops o,cOpers X nt ops r with | some x,some l=>some (x::l) | _,_=>none
theorem cOpers_get {nt:Nat} {ops:Array Oper} :∀{l:List Oper} {xs:List AI},cOpers X nt ops l=some xs→l.length=xs.length∧∀(i:Nat) o,l[i]?=some o→∃x,xs[i]?=some x∧cOper X nt ops o=some x
 | [],xs,h=>by cases h;exact ⟨rfl,by simp⟩
 | o::r,xs,h=>by
  unfold cOpers at h
  split at h
  ·rename_i x l hx hl
   cases h
   obtain ⟨h1,h2⟩:=cOpers_get hl
   refine ⟨by simp [h1],fun i o' hi=>?_⟩
   cases i with
   | zero=>simp at hi;subst hi;exact ⟨x,rfl,hx⟩
   | succ i=>exact h2 i o' (by simpa using hi)
  ·cases h
def Left (G:Gh) (st:St) (d id base:Nat) (aops:List AI) (l:List Nat):Prop:=
 ∀i∈l,i<aops.length→G.ρ (d,id*4096+i) (base+i)=none∧G.ω (d,id*4096+i) (base+i)=none∧base+i<st.nx∧
  ∀ai zero,aops[i]?=some ai→ai.op=.alloc zero→lk st.bx (d,id*4096+i)=some (base+i,zero)
theorem Left.step {G G':Gh} {st st':St} {w':World} {d id base i:Nat} {aops:List AI} {l l':List Nat} (h:Left G st d id base aops l) (hs:Step G G' w0 st st' w' d (id*4096+i) (base+i)) (hl :∀j∈l',j∈l∧j≠i):Left G' st' d id base aops l':=by
 intro j hj hlt
 obtain ⟨hj1,hj2⟩:=hl j hj
 obtain ⟨h1,h2,h3,h4⟩:=h j hj1 hlt
 have hne:((d,id*4096+j):Key)≠(d,id*4096+i):=fun he=>by injection he with _ he;omega
 have ho:=hs.old (d,id*4096+j) (base+j) h3 (fun he=>hne (by injection he))
 exact ⟨ho.1.trans h1,ho.2.trans h2,Nat.lt_of_lt_of_le h3 hs.nx,fun ai zero ha hz=>hs.pend _ _ _ (Nat.le_refl _) h3 hne h1 (h4 ai zero ha hz)⟩
theorem pre_lk {d id base:Nat} :∀{ops:List AI} {i:Nat} {bx:List (Key × Nat × List AV)} {k:Key},
  (lk (pre d id base i ops bx) k=lk bx k∧∀(j:Nat) ai zero,ops[j]?=some ai→ai.op=.alloc zero→k≠(d,id*4096+(i+j)))∨
  ∃(j:Nat) (ai:AI) (zero:List AV),ops[j]?=some ai∧ai.op=.alloc zero∧k=(d,id*4096+(i+j))∧lk (pre d id base i ops bx) k=some (base+(i+j),zero)
 | [],i,bx,k=>.inl ⟨rfl,by simp⟩
 | o::r,i,bx,k=>by
  have shift :∀{bx':List (Key × Nat × List AV)},(∃(j:Nat) (ai:AI) (zero:List AV),r[j]?=some ai∧ai.op=.alloc zero∧k=(d,id*4096+(i+1+j))∧lk (pre d id base (i+1) r bx') k=some (base+(i+1+j),zero))→
    ∃(j:Nat) (ai:AI) (zero:List AV),(o::r)[j]?=some ai∧ai.op=.alloc zero∧k=(d,id*4096+(i+j))∧lk (pre d id base (i+1) r bx') k=some (base+(i+j),zero):=by
   rintro bx' ⟨j,ai,zero,h1,h2,h3,h4⟩
   exact ⟨j+1,ai,zero,by simpa using h1,h2,by rw [h3];congr 2;omega,by rw [h4];congr 2;omega⟩
  cases hop:o.op with
  | alloc zero=>
   simp only [pre,hop]
   rcases pre_lk (d:=d) (id:=id) (base:=base) (ops:=r) (i:=i+1) (bx:=st_ bx (d,id*4096+i) (base+i,zero)) (k:=k) with ⟨h1,h2⟩ | h
   ·by_cases hk:k=(d,id*4096+i)
    ·refine .inr ⟨0,o,zero,rfl,hop,by simpa using hk,?_⟩
     rw [h1,hk,lk_st_same]
     simp
    ·refine .inl ⟨by rw [h1,lk_st_ne _ _ (fun e=>hk e.symm)],fun j ai z hj hz=>?_⟩
     cases j with
     | zero=>simpa using hk
     | succ j=>
      have:=h2 j ai z (by simpa using hj) hz
      rwa [show i+1+j=i+(j+1) from by omega] at this
   ·exact .inr (shift h)
  | _=>
   simp only [pre,hop]
   rcases pre_lk (d:=d) (id:=id) (base:=base) (ops:=r) (i:=i+1) (bx:=bx) (k:=k) with ⟨h1,h2⟩ | h
   ·refine .inl ⟨h1,fun j ai z hj hz=>?_⟩
    cases j with
    | zero=>simp at hj;subst hj;rw [hop] at hz;cases hz
    | succ j=>
     have:=h2 j ai z (by simpa using hj) hz
     rwa [show i+1+j=i+(j+1) from by omega] at this
   ·exact .inr (shift h)
theorem region_in {d id:Nat} {aops:List AI} (hR:Rel G w0 st w) {l:List Nat} :
  Run G G w0 st { st with nx:=st.nx+aops.length,bx:=pre d id st.nx 0 aops st.bx } w d∧Left G { st with nx:=st.nx+aops.length,bx:=pre d id st.nx 0 aops st.bx } d id st.nx aops l:=by
 have hold :∀{k ver cs g},lk (pre d id st.nx 0 aops st.bx) k=some (ver,cs)→G.ρ k ver=some g→lk st.bx k=some (ver,cs):=by
  intro k ver cs g h1 h2
  rcases pre_lk (d:=d) (id:=id) (base:=st.nx) (ops:=aops) (i:=0) (bx:=st.bx) (k:=k) with ⟨h3,_⟩ | ⟨j,ai,zero,_,_,_,h4⟩
  ·rw [h3] at h1;exact h1
  ·rw [h4] at h1
   injection h1 with h1
   injection h1 with h1 _
   have:=(hR.fresh k ver (by omega)).1
   rw [this] at h2;cases h2
 refine ⟨⟨.refl G,⟨hR.bel,hR.ext,?_,?_,?_,hR.owinj,?_,fun k ver cs g hb h1 h2=>hR.bxT k ver cs g hb (hold h1 h2) h2,hR.owT,hR.mp⟩,Nat.le_add_right _ _,fun _ _ _=>⟨rfl,rfl⟩,?_,fun _ _ _ h=>.inl h⟩,?_⟩
 ·intro k ver cs g h1 h2
  exact hR.bx k ver cs g (hold h1 h2) h2
 ·intro k k' ver ver' cs cs' g h1 h2 h3 h4
  exact hR.inj k k' ver ver' cs cs' g (hold h1 h3) (hold h2 h4) h3 h4
 ·intro k ver n h1
  obtain ⟨g,cap,size,h2,h3,h4⟩:=hR.ow k ver n h1
  exact ⟨g,cap,size,h2,h3,fun k' ver' cs' h5 h6=>h4 k' ver' cs' (hold h5 h6) h6⟩
 ·intro k ver h
  exact hR.fresh k ver (Nat.le_trans (Nat.le_add_right _ _) h)
 ·intro k v cs hk hv hn hl
  rcases pre_lk (d:=d) (id:=id) (base:=st.nx) (ops:=aops) (i:=0) (bx:=st.bx) (k:=k) with ⟨h3,_⟩ | ⟨j,ai,zero,_,_,h4,_⟩
  ·show lk (pre d id st.nx 0 aops st.bx) k=_
   rw [h3];exact hl
  ·rw [h4] at hk;exact absurd hk (Nat.lt_irrefl _)
 ·intro i _ hlt
  have hf:=hR.fresh (d,id*4096+i) (st.nx+i) (Nat.le_add_right _ _)
  refine ⟨hf.1,hf.2,Nat.add_lt_add_left hlt _,fun ai zero ha hz=>?_⟩
  show lk (pre d id st.nx 0 aops st.bx) _=_
  rcases pre_lk (d:=d) (id:=id) (base:=st.nx) (ops:=aops) (i:=0) (bx:=st.bx) (k:=(d,id*4096+i)) with ⟨_,h3⟩ | ⟨j,ai',zero',h4,h5,h6,h7⟩
  ·exact absurd (by simp) (h3 i ai zero ha hz)
  ·injection h6 with _ h6
   have:j=i:=by omega
   subst this
   rw [ha] at h4
   cases h4
   rw [hz] at h5
   cases h5
   simpa using h7
theorem aregL_O {C:CallF} {d id base:Nat} {ops:List AI} :∀{l:List AI} {i:Nat},(∀j,ops[i+j]?=l[j]?)→∀{σ:Sl} {st:St},aregL C d id base i l σ st=aregO C d id base ops (List.range' i l.length) σ st
 | [],i,_,σ,st=>rfl
 | o::r,i,h,σ,st=>by
  have h0:=h 0
  simp at h0
  simp only [aregL,List.length_cons,List.range'_succ,aregO,h0]
  split
  ·exact aregL_O (fun j=>by have:=h (j+1);rw [show i+1+j=i+(j+1) from by omega,this];simp)
  ·rfl
theorem ops_ok {C:CallF} (hT:TTok P X.T) (hC:CallOk P X.fm C) {nt:Nat} {ops:Array Oper} {aops:List AI} (hc:cOpers X nt ops ops.toList=some aops) {d id base:Nat} (hB :∀(i:Nat) o,ops[i]?=some o→bigSite≤id*4096+i→flagOp X o.op=true) {G0:Gh} {stz:St} (hb:stz.nx≤base) {σ2:Sl} {st2:St} {Q:Exit→Act→World→Prop}
  (hQ :∀a' w' G',RelA G' nt σ2 a'→Run G0 G' w0 stz st2 w' d→Q .normal a' w') :
  ∀(l:List Nat) {G:Gh} {σ:Sl} {st:St} {a:Act} {w:World},X.fm=G.fm→l.Nodup→RelA G nt σ a→Run G0 G w0 stz st w d→Left G st d id base aops l→aregO C d id base aops l σ st=some (σ2,st2)→wpOps P ops Q l a w
 | [],G,σ,st,a,w,hfm,_,hA,hrun,_,h=>by
  cases h
  exact hQ a w G hA hrun
 | i::r,G,σ,st,a,w,hfm,hnd,hA,hrun,hleft,h=>by
  rw [wpOps_cons]
  simp only [aregO] at h
  cases ho:ops[i]? with
  | none=>
   have:aops[i]?=none:=by
    have h1:=(cOpers_get hc).1
    have:ops.size≤i:=by simpa using ho
    apply List.getElem?_eq_none
    rw [← h1];simpa using this
   rw [this] at h
   unfold wpOp
   rw [ho]
   exact ops_ok hT hC hc hB hb hQ r hfm (List.nodup_cons.1 hnd).2 hA hrun (fun j hj=>hleft j (by simp [hj])) h
  | some o=>
   obtain ⟨ai,hai,hco⟩:=(cOpers_get hc).2 i o (by simpa using ho)
   rw [hai] at h
   simp only at h
   split at h
   case h_2=>cases h
   rename_i σ' st' h1
   have hlt:i<aops.length:=by
    rcases Nat.lt_or_ge i aops.length with h' | h'
    ·exact h'
    ·rw [List.getElem?_eq_none h'] at hai;cases hai
   obtain ⟨q1,q2,q3,q4⟩:=hleft i (by simp) hlt
   refine op_step hT hfm hC hA hrun.rel ho hco h1 q1 q2 q3 (fun zero hz=>q4 ai zero hai hz) (hB i o ho) fun a' w' G' hA' hs=>?_
   exact ops_ok hT hC hc hB hb hQ r (by rw [hs.le.fm];exact hfm) (List.nodup_cons.1 hnd).2 hA' (hrun.step hs (by omega)) (hleft.step hs fun j hj=>⟨by simp [hj],fun he=>(List.nodup_cons.1 hnd).1 (he ▸ hj)⟩) h
end
end Go.AM

namespace Go.AM
open Go Go.RowKit Go.BigFrame
def anyEdges (o:Oper):List Nat:=o.after.toList.filterMap fun e=>if Region.binds .any e then some e.on else none
def maskOf (ms:List Nat) (es:List Nat):Nat:=es.foldl (fun s e=>s ||| 2 ^ e ||| ms.getD e 0) 0
def masks (acc:List Nat):List Oper→List Nat
 | []=>acc
 | o::r=>masks (acc++[maskOf acc (anyEdges o)]) r
def edgesOk (ms:List Nat):Nat→List Oper→Bool
 | _,[]=>true
 | i,o::r=>(ms.getD i 0==maskOf ms (anyEdges o))&&(anyEdges o).all (fun e=>decide (e<i))&&edgesOk ms (i+1) r
def pairOk (m:Nat) (y:AI):Nat→List AI→Bool
 | _,[]=>true
 | j,x::r=>(m.testBit j||commOk x y)&&pairOk m y (j+1) r
def pairsOk (ms:List Nat) (all:List AI):Nat→List AI→Bool
 | _,[]=>true
 | i,y::r=>pairOk (ms.getD i 0) y 0 (all.take i)&&pairsOk ms all (i+1) r
def drawOk (ops:List Oper) (aops:List AI):Bool:=
 let ms:=masks [] ops
 edgesOk ms 0 ops&&pairsOk ms aops 0 aops
theorem maskOf_bit {ms:List Nat} :∀{es:List Nat} {s j:Nat},(es.foldl (fun s e=>s ||| 2 ^ e ||| ms.getD e 0) s).testBit j=true→s.testBit j=true∨∃e∈es,e=j∨(ms.getD e 0).testBit j=true
 | [],s,j,h=>.inl h
 | e::r,s,j,h=>by
  simp only [List.foldl_cons] at h
  rcases maskOf_bit h with h | ⟨e',h1,h2⟩
  ·simp only [Nat.testBit_or,Bool.or_eq_true] at h
   rcases h with (h | h) | h
   ·exact .inl h
   ·rw [Nat.testBit_two_pow] at h
    exact .inr ⟨e,by simp,.inl (by simpa using h)⟩
   ·exact .inr ⟨e,by simp,.inr h⟩
  ·exact .inr ⟨e',by simp [h1],h2⟩
theorem edgesOk_get {ms:List Nat} :∀{l:List Oper} {i:Nat},edgesOk ms i l=true→∀(j:Nat) o,l[j]?=some o→ms.getD (i+j) 0=maskOf ms (anyEdges o)∧∀e∈anyEdges o,e<i+j
 | [],i,_,j,o,h=>by simp at h
 | x::r,i,h,j,o,hj=>by
  simp only [edgesOk,Bool.and_eq_true,beq_iff_eq,List.all_eq_true,decide_eq_true_eq] at h
  cases j with
  | zero=>simp at hj;subst hj;exact ⟨h.1.1,h.1.2⟩
  | succ j=>
   have:=edgesOk_get h.2 j o (by simpa using hj)
   rwa [show i+1+j=i+(j+1) from by omega] at this
theorem pairOk_get {m:Nat} {y:AI} :∀{l:List AI} {i:Nat},pairOk m y i l=true→∀(j:Nat) x,l[j]?=some x→m.testBit (i+j)=true∨commOk x y=true
 | [],i,_,j,x,h=>by simp at h
 | x::r,i,h,j,x',hj=>by
  simp only [pairOk,Bool.and_eq_true,Bool.or_eq_true] at h
  cases j with
  | zero=>simp at hj;subst hj;exact h.1
  | succ j=>
   have:=pairOk_get h.2 j x' (by simpa using hj)
   rwa [show i+1+j=i+(j+1) from by omega] at this
theorem pairsOk_get {ms:List Nat} {all:List AI} :∀{l:List AI} {i:Nat},pairsOk ms all i l=true→∀(k:Nat) y,l[k]?=some y→pairOk (ms.getD (i+k) 0) y 0 (all.take (i+k))=true
 | [],i,_,j,x,h=>by simp at h
 | x::r,i,h,j,x',hj=>by
  simp only [pairsOk,Bool.and_eq_true] at h
  cases j with
  | zero=>simp at hj;subst hj;exact h.1
  | succ j=>
   have:=pairsOk_get h.2 j x' (by simpa using hj)
   rwa [show i+1+j=i+(j+1) from by omega] at this
section
variable {P:Program} {G:Gh} {w0 w:World} {st:St} {X:Cx}
def Closed (ops:Array Oper) (listed:Array Bool):Prop:=∀x o,ops[x]?=some o→listed.getD x false=true→∀e∈anyEdges o,listed.getD e false=true
theorem mem_anyEdges {o:Oper} {e:Nat}:e∈anyEdges o ↔∃q∈o.after,Region.binds .any q=true∧q.on=e:=by
 unfold anyEdges
 rw [List.mem_filterMap]
 constructor
 ·rintro ⟨q,h1,h2⟩
  split at h2
  ·rename_i h3;injection h2 with h2;exact ⟨q,by simpa using h1,h3,h2⟩
  ·cases h2
 ·rintro ⟨q,h1,h2,h3⟩
  exact ⟨q,by simpa using h1,by rw [if_pos h2,h3]⟩
theorem ready_iff {ops:Array Oper} {listed:Array Bool} {i:Nat}:i∈Region.ready .any ops listed ↔∃o,ops[i]?=some o∧listed.getD i true=false∧∀e∈anyEdges o,listed.getD e false=true:=by
 unfold Region.ready
 rw [List.mem_filter,List.mem_range]
 constructor
 ·rintro ⟨h1,h2⟩
  simp only [Bool.and_eq_true,Bool.not_eq_true'] at h2
  have ho:ops[i]?=some ops[i]:=Array.getElem?_eq_getElem h1
  refine ⟨ops[i],ho,h2.1,fun e he=>?_⟩
  rw [ho] at h2
  have h3:=h2.2
  simp only [Option.map_some,Option.getD_some,Array.all_eq_true'] at h3
  obtain ⟨q,h4,h5,h6⟩:=mem_anyEdges.1 he
  have:=h3 q h4
  rw [h5] at this
  subst h6
  simpa using this
 ·rintro ⟨o,h1,h2,h3⟩
  refine ⟨(Array.getElem?_eq_some_iff.1 h1).1,?_⟩
  simp only [h1,Option.map_some,Option.getD_some,h2,Bool.not_false,Bool.true_and,Array.all_eq_true']
  intro q hq
  cases h:Region.binds .any q with
  | false=>rfl
  | true=>simpa using h3 q.on (mem_anyEdges.2 ⟨q,hq,h,rfl⟩)
theorem reach {ops:Array Oper} {listed:Array Bool} (hcl:Closed ops listed) {ms:List Nat} (hms :∀i o,ops[i]?=some o→ms.getD i 0=maskOf ms (anyEdges o)∧∀e∈anyEdges o,e<i) :
  ∀(n i:Nat) (o:Oper),i<n→ops[i]?=some o→(∀e∈anyEdges o,listed.getD e false=true)→∀j,(ms.getD i 0).testBit j=true→listed.getD j false=true
 | 0,i,o,h,_,_,_,_=>absurd h (Nat.not_lt_zero _)
 | n+1,i,o,h,ho,he,j,hj=>by
  obtain ⟨h1,h2⟩:=hms i o ho
  rw [h1] at hj
  rcases maskOf_bit hj with hj | ⟨e,h3,h4⟩
  ·simp at hj
  ·rcases h4 with rfl | h4
   ·exact he _ h3
   ·have hlt:e<ops.size:=Nat.lt_trans (h2 e h3) (Array.getElem?_eq_some_iff.1 ho).1
    have hoe:ops[e]?=some ops[e]:=Array.getElem?_eq_getElem hlt
    exact reach hcl hms n e ops[e] (by have:=h2 e h3;omega) hoe (hcl e _ hoe (he e h3)) j h4
theorem getD_set {listed:Array Bool} {i:Nat} (hi:i<listed.size) (j:Nat) (b:Bool):(listed.setIfInBounds i true).getD j b=if j=i then true else listed.getD j b:=by
 rw [Array.getD_eq_getD_getElem?,Array.getD_eq_getD_getElem?,Array.getElem?_setIfInBounds]
 by_cases h:j=i
 ·subst h;simp [hi]
 ·rw [if_neg (fun e=>h e.symm),if_neg h]
def ksOf (ks:List Nat):List AI→List Nat
 | []=>ks
 | x::r=>match x.op,x.dst with
  | .iaL _ _ _,some t=>ksOf (t::ks) r
  | .fad _ (.t k),some t=>ksOf (if ks.contains k=true then t::ks else ks) r
  | _,_=>ksOf ks r
def toF (ks:List Nat) (x:AI):AI:=
 match x.op with
 | .load n agg (.t k)=>if ks.contains k=true then ⟨x.dst,.ldf n agg (.t k),x.guard⟩ else x
 | _=>x
def toFs (fz:List Nat) (l:List AI):List AI:=l.map (toF (ksOf fz l))
def Low (y x:AI):Prop:=(∀(C:CallF) (d s v:Nat) (σ:Sl) (st:St) (r:Sl × St),aai C d s v y σ st=some r→aai C d s v x σ st=some r)∧∀zero,x.op=.alloc zero→y.op=.alloc zero
theorem Low.refl (x:AI):Low x x:=⟨fun _ _ _ _ _ _ _ h=>h,fun _ h=>h⟩
theorem ldf_load {C:CallF} {d s v n:Nat} {agg:Bool} {x:Opd} {σ:Sl} {st:St} {r:AV × St} (h:aexec C d s v σ st (.ldf n agg x)=some r):aexec C d s v σ st (.load n agg x)=some r:=by
 simp only [aexec,apure] at h ⊢
 split at h
 ·rename_i cs hcs
  rw [hcs]
  exact h
 ·cases h
theorem toF_low (ks:List Nat) (x:AI):Low (toF ks x) x:=by
 obtain ⟨dst,op,g⟩:=x
 unfold toF
 split
 case h_2=>exact Low.refl _
 rename_i n agg k hop
 simp only at hop
 subst hop
 split
 case isFalse=>exact Low.refl _
 refine ⟨fun C d s v σ st r h=>?_,fun zero hz=>by cases hz⟩
 have key :∀{f:AV × St→Sl × St} {r:Sl × St},(aexec C d s v σ st (.ldf n agg (.t k))).map f=some r→(aexec C d s v σ st (.load n agg (.t k))).map f=some r:=by
  intro f r h
  rw [Option.map_eq_some_iff] at h ⊢
  obtain ⟨q,h1,h2⟩:=h
  exact ⟨q,ldf_load h1,h2⟩
 unfold aai at h ⊢
 simp only at h ⊢
 split at h
 ·rename_i hg
  exact key h
 ·split at h
  ·split at h
   ·rename_i hx
    rw [if_pos hx]
    exact key h
   ·rename_i hx
    rw [if_neg hx]
    exact h
  ·exact h
  ·exact h
theorem lows {X:Cx} {nt:Nat} {ops:Array Oper} {aops:List AI} (hc:cOpers X nt ops ops.toList=some aops) (ks:List Nat) :∀(i:Nat) o,ops[i]?=some o→∃ai x,(aops.map (toF ks))[i]?=some ai∧cOper X nt ops o=some x∧Low ai x:=by
 intro i o ho
 obtain ⟨x,h1,h2⟩:=(cOpers_get hc).2 i o (by simpa using ho)
 exact ⟨toF ks x,x,by rw [List.getElem?_map,h1];rfl,h2,toF_low ks x⟩
theorem lows0 {X:Cx} {nt:Nat} {ops:Array Oper} {aops:List AI} (hc:cOpers X nt ops ops.toList=some aops) :∀(i:Nat) o,ops[i]?=some o→∃ai x,aops[i]?=some ai∧cOper X nt ops o=some x∧Low ai x:=by
 intro i o ho
 obtain ⟨x,h1,h2⟩:=(cOpers_get hc).2 i o (by simpa using ho)
 exact ⟨x,x,h1,h2,Low.refl x⟩
theorem draw_ok {C:CallF} (hT:TTok P X.T) (hC:CallOk P X.fm C) {nt:Nat} {ops:Array Oper} {aops:List AI} (hc :∀(i:Nat) o,ops[i]?=some o→∃ai x,aops[i]?=some ai∧cOper X nt ops o=some x∧Low ai x) (hd:drawOk ops.toList aops=true) {d id base:Nat} (hB :∀(i:Nat) o,ops[i]?=some o→bigSite≤id*4096+i→flagOp X o.op=true) {G0:Gh} {stz:St} (hb:stz.nx≤base) {σ2:Sl} {st2:St} {Q:Exit→Act→World→Prop}
  (hQ :∀a' w' G',RelA G' nt σ2 a'→Run G0 G' w0 stz st2 w' d→Q .normal a' w') :
  ∀(l:List Nat) {n:Nat} {listed:Array Bool} {G:Gh} {σ:Sl} {st:St} {a:Act} {w:World},l.length=n→listed.size=ops.size→l.Pairwise (·<·)→(∀j,j∈l↔j<ops.size∧listed.getD j true=false)→Closed ops listed→X.fm=G.fm→RelA G nt σ a→Run G0 G w0 stz st w d→Left G st d id base aops l→aregO C d id base aops l σ st=some (σ2,st2)→wpAny P .any ops Q n listed a w:=by
 unfold drawOk at hd
 simp only [Bool.and_eq_true] at hd
 have hms :∀i o,ops[i]?=some o→(masks [] ops.toList).getD i 0=maskOf (masks [] ops.toList) (anyEdges o)∧∀e∈anyEdges o,e<i:=fun i o ho=>by
  have:=edgesOk_get hd.1 i o (by simpa using ho)
  simpa using this
 intro l n
 induction n generalizing l with
 | zero=>
  intro listed G σ st a w hn hsz hpw hmem hcl hfm hA hrun hleft h
  have hl:l=[]:=List.eq_nil_of_length_eq_zero hn
  subst hl
  refine ⟨?_,?_⟩
  ·rw [List.eq_nil_iff_forall_not_mem]
   intro i hi
   obtain ⟨o,h1,h2,_⟩:=ready_iff.1 hi
   have:=(hmem i).2 ⟨(Array.getElem?_eq_some_iff.1 h1).1,h2⟩
   simp at this
  ·cases h
   exact hQ a w G hA hrun
 | succ n ih=>
  intro listed G σ st a w hn hsz hpw hmem hcl hfm hA hrun hleft h
  have hlisted :∀j,j<ops.size→listed.getD j false=true∨listed.getD j true=false:=by
   intro j hj
   rw [Array.getD_eq_getD_getElem?,Array.getD_eq_getD_getElem?,Array.getElem?_eq_getElem (by omega)]
   cases listed[j]'(by omega)<;>simp
  refine ⟨fun hr=>?_,fun i hi=>?_⟩
  ·exfalso
   cases l with
   | nil=>simp at hn
   | cons i r=>
    obtain ⟨h1,h2⟩:=(hmem i).1 (by simp)
    have ho:ops[i]?=some ops[i]:=Array.getElem?_eq_getElem h1
    have:i∈Region.ready .any ops listed:=ready_iff.2 ⟨_,ho,h2,fun e he=>by
     have hlt:=(hms i _ ho).2 e he
     rcases hlisted e (by omega) with h3 | h3
     ·exact h3
     ·exfalso
      have hm:=(hmem e).2 ⟨by omega,h3⟩
      rcases List.mem_cons.1 hm with rfl | hm
      ·omega
      ·have:=(List.pairwise_cons.1 hpw).1 e hm;omega⟩
    rw [hr] at this
    simp at this
  ·obtain ⟨o,ho,h2,h3⟩:=ready_iff.1 hi
   have hlt:i<ops.size:=(Array.getElem?_eq_some_iff.1 ho).1
   obtain ⟨pre,post,rfl⟩:=List.append_of_mem ((hmem i).2 ⟨hlt,h2⟩)
   obtain ⟨ai,x0,hai,hco,hlow⟩:=hc i o ho
   rw [List.pairwise_append,List.pairwise_cons] at hpw
   obtain ⟨hpw1,⟨hpw2,hpw3⟩,hpw4⟩:=hpw
   have hcomm :∀j∈pre,∀x,aops[j]?=some x→commOk x ai=true:=by
    intro j hj x hx
    have hji:=hpw4 j hj i (by simp)
    have hp:=pairsOk_get hd.2 i ai hai
    simp only [Nat.zero_add] at hp
    rcases pairOk_get hp j x (by rw [List.getElem?_take,if_pos hji];exact hx) with hb | hb
    ·exfalso
     simp only [Nat.zero_add] at hb
     have:=reach hcl hms (i+1) i o (by omega) ho h3 j hb
     have h4:=((hmem j).1 (by simp [hj])).2
     rw [Array.getD_eq_getD_getElem?,Array.getElem?_eq_getElem (by omega)] at this h4
     simp only [Option.getD_some] at this h4
     rw [this] at h4
     cases h4
    ·exact hb
   have h:=ahead hai pre hcomm h
   simp only [aregO,hai] at h
   split at h
   case h_2=>cases h
   rename_i σ' st' h1
   have hlta:i<aops.length:=by
    rcases Nat.lt_or_ge i aops.length with h' | h'
    ·exact h'
    ·rw [List.getElem?_eq_none h'] at hai;cases hai
   obtain ⟨q1,q2,q3,q4⟩:=hleft i (by simp) hlta
   have hmem' :∀j,j∈pre++post↔j∈pre++i::post∧j≠i:=by
    intro j
    simp only [List.mem_append,List.mem_cons]
    constructor
    ·rintro (hj | hj)
     ·have:=hpw4 j hj i (by simp);exact ⟨.inl hj,by omega⟩
     ·have:=hpw2 j hj;exact ⟨.inr (.inr hj),by omega⟩
    ·rintro ⟨hj | hj | hj,hne⟩
     ·exact .inl hj
     ·exact absurd hj hne
     ·exact .inr hj
   refine op_step hT hfm hC hA hrun.rel ho hco (hlow.1 _ _ _ _ _ _ _ h1) q1 q2 q3 (fun zero hz=>q4 ai zero hai (hlow.2 zero hz)) (hB i o ho) fun a' w' G' hA' hs=>?_
   have hn':(pre++post).length=n:=by
    simp only [List.length_append,List.length_cons] at hn ⊢
    omega
   refine ih (pre++post) hn' (by simpa using hsz) ?_ ?_ ?_ (by rw [hs.le.fm];exact hfm) hA' (hrun.step hs (by omega)) (hleft.step hs fun j hj=>(hmem' j).1 hj) h
   ·rw [List.pairwise_append]
    exact ⟨hpw1,hpw3,fun x hx y hy=>hpw4 x hx y (by simp [hy])⟩
   ·intro j
    rw [hmem' j,hmem j,getD_set (by omega)]
    constructor
    ·rintro ⟨⟨h5,h6⟩,h7⟩;exact ⟨h5,by rw [if_neg h7];exact h6⟩
    ·rintro ⟨h5,h6⟩
     by_cases h7:j=i
     ·rw [if_pos h7] at h6;cases h6
     ·rw [if_neg h7] at h6;exact ⟨⟨h5,h6⟩,h7⟩
   ·intro x ox hox hx e he
    rw [getD_set (by omega)] at hx ⊢
    by_cases h7:x=i
    ·subst h7
     rw [ho] at hox
     cases hox
     split
     ·rfl
     ·exact h3 e he
    ·rw [if_neg h7] at hx
     split
     ·rfl
     ·exact hcl x ox hox hx e he
end
end Go.AM

namespace Go.AM
open Go Go.RowKit Go.BigFrame
def cLit (X:Cx) (nt:Nat) (l:List Oper):Option (List AI):=
 match l with
 | [⟨some d1,.buildSlice t n parts,_,_,_,none⟩,⟨some d2,.convert t1 t2 (.tmp s2),_,_,_,none⟩,⟨some d3,.assign (.tmp s3),_,_,_,none⟩]=>
  match parts.toList,X.kind t with
  | [(0,.const (.int .u8 c))],some (.sl e)=>match X.kind e,X.T e with
   | some (.int .u8),some i=>match i.zero with
    | [.i .u8 z]=>if n=1∧t1=t∧t2=t∧s2=d1∧s3=d2∧d1<nt∧d2<nt∧d3<nt then some [⟨some d1,.bslice [.i .u8 z] 1 [(0,.c (.i .u8 c))],none⟩,⟨some d2,.mv (.t d1),none⟩,⟨some d3,.mv (.t d2),none⟩] else none
    | _=>none
   | _,_=>none
  | _,_=>none
 | _=>none
section
variable {P:Program} {X:Cx}
theorem step_val {G:Gh} {nt:Nat} {ops:Array Oper} {Q:Exit→Act→World→Prop} {i:Nat} {o:Oper} {a:Act} {w w':World} {v:Value} {K:Act→World→Prop} (ho:ops[i]?=some o) (hg:o.guard=none) (hr:(execOp a.eval o).run P w=.ok (.value v) w') (hk:K (a.put o.dst v) w'):wpOp P ops Q i K a w:=by
 unfold wpOp
 rw [ho]
 simp only
 rw [if_pos (by simp [Region.wanted,hg])]
 refine .inl ?_
 unfold Oper.wp
 rw [hr]
 exact hk
theorem lit_ok {C:CallF} (hT:TTok P X.T) {nt d id:Nat} {ops:Array Oper} {n:Nat} {aops:List AI} (hcl:cLit X nt ops.toList=some aops) {σ:Sl} {st:St} {e':AE} {σ':Sl} {st':St} (h:acode C n d (.reg id aops) σ st=some (e',σ',st')) {G:Gh} {w0 w:World} {a:Act} (hA:RelA G nt σ a) (hR:Rel G w0 st w)
  {Q:Exit→Act→World→Prop} (hQ:e'=.normal→∀a' w' G',RelA G' nt σ' a'→Run G G' w0 st st' w' d→Q .normal a' w'):(Code.region id ops false).wp P Q a w:=by
 unfold cLit at hcl
 split at hcl
 case h_2=>cases hcl
 rename_i d1 t m parts ty1 pos1 af1 d2 t1 t2 s2 ty2 pos2 af2 d3 s3 ty3 pos3 af3 hops
 split at hcl
 case h_2=>cases hcl
 rename_i c e hparts hkt
 split at hcl
 case h_2=>cases hcl
 rename_i i hke hie
 split at hcl
 case h_2=>cases hcl
 rename_i z hz
 split at hcl
 case isFalse=>cases hcl
 rename_i hc
 obtain ⟨hm,h2,h3,h4,h5,hd1,hd2,hd3⟩:=hc
 subst hm
 have h2:=h2.symm
 subst h2
 have h3:=h3.symm
 subst h3
 have h4:=h4.symm
 subst h4
 have h5:=h5.symm
 subst h5
 cases hcl
 obtain ⟨_,_,_,_,hut⟩:=kind_inv hT hkt
 obtain ⟨_,_,_,_,hue⟩:=kind_inv hT hke
 -- what the abstract machine does
 have hs:e'=.normal∧σ'=upd (upd (upd σ d1 (.sl .full [[.i .u8 c]])) d2 (.sl .full [[.i .u8 c]])) d3 (.sl .full [[.i .u8 c]])∧st'={ st with nx:=st.nx+3 }:=by
  simp [acode,areg,aregL,aai,aexec,apure,softs,AV.soft,fillRows,Opd.ev,AV.cells,pre,updO,upd] at h
  obtain ⟨rfl,rfl,rfl⟩:=h
  refine ⟨rfl,?_,rfl⟩
  funext x
  simp [upd]
 obtain ⟨rfl,rfl,rfl⟩:=hs
 -- the zero of the element's type
 obtain ⟨ti,zv,hi,hsz,_,hzv,hzs,hzl⟩:=(hT e i hie).info
 rw [hz] at hzs
 have hsize:i.size=1:=by
  have h1:zv.cells.toList.length=([AV.i .u8 z]:List AV).length:=by
   have :∀{vs:List Value} {xs:List AV},cVals vs=some xs→vs.length=xs.length:=by
    intro vs
    induction vs with
    | nil=>intro xs hx;cases hx;rfl
    | cons v vs ih=>
     intro xs hx
     unfold cVals at hx
     split at hx
     ·cases hx;simp [ih (by assumption)]
     ·cases hx
   exact this hzs
  rw [← hzl]
  simpa using h1
 have hsize':zv.cells.size=1:=by rw [hzl,hsize]
 -- the three operations
 have ea:ops=#[⟨some d1,.buildSlice t 1 parts,ty1,pos1,af1,none⟩,⟨some d2,.convert t t (.tmp d1),ty2,pos2,af2,none⟩,⟨some d3,.assign (.tmp d2),ty3,pos3,af3,none⟩]:=by
  apply Array.ext';simpa using hops
 have ep:parts=#[(0,.const (.int .u8 c))]:=by apply Array.ext';simpa using hparts
 subst ea
 subst ep
 have hts:a.tmps.size=nt:=hA.2.1
 let w1:=w.alloc (.cells #[.int .u8 c] e)
 let w2:=w.alloc (.cells #[.int .u8 c] e (1,2))
 let v:Value:=.slice (some ⟨w.heap.size,0,none⟩) 1 1
 have r1:(Instr.buildSlice t 1 #[(0,.int .u8 c)]).run P w=.ok v w1:=by
  refine run_buildSlice w t e 1 #[(0,.int .u8 c)] #[.int .u8 c] ti zv hut hi hzv (by rw [hsz,hsize];omega) (by rw [hsz,hsize];decide) ?_
  have hmade :∀zz:Array Value,zz.size=1→∃y,(Array.range (1*1)).map (zz[· % zz.size]!)=#[y]:=by
   intro zz _
   exact ⟨zz[0 % zz.size]!,by rw [show Array.range (1*1)=#[0] from rfl];simp⟩
  obtain ⟨y,hy⟩:=hmade zv.cells hsize'
  rw [hsz,hsize]
  simp only [hy]
  rfl
 have r2:(convert t t v).run P w1=.ok v w2:=Lib.run_convert_bytes_const w t e #[.int .u8 c] 1 1 hut hue
 have hH:HLe G.H (fun g o=>if g=w.heap.size then (if o=0 then some (.int .u8 c) else none) else G.H g o):=fun g o v h=>by
  show (if g=w.heap.size then _ else G.H g o)=some v
  rw [if_neg (by have:=hR.Hlt h;omega)]
  exact h
 have hR':Rel G w0 { st with nx:=st.nx+3 } w:=⟨hR.bel,hR.ext,hR.bx,hR.inj,hR.ow,hR.owinj,fun k ver hv=>hR.fresh k ver (by simp at hv;omega),hR.bxT,hR.owT,hR.mp⟩
 have hst:=Step.grow (d:=d) (site:=0) (ver:=0) hR' (w':=w2) ((Below.refl _ _).alloc (Nat.le_refl _) _) hH (fun g o x h=>by
  by_cases hg:g=w.heap.size
  ·subst hg
   simp only [if_true] at h
   by_cases ho:o=0
   ·subst ho
    simp only [if_true] at h
    cases h
    refine .inr ⟨Nat.le_refl _,?_,rfl⟩
    rw [World.cell?_alloc_mark]
    rfl
   ·rw [if_neg ho] at h;cases h
  ·rw [if_neg hg] at h;exact .inl h)
 have hv:R ⟨fun g o=>if g=w.heap.size then (if o=0 then some (.int .u8 c) else none) else G.H g o,G.ρ,G.ω,G.fm,G.M⟩ (.sl .full [[.i .u8 c]]) v:=by
  refine .sl .full _ _ _ _ ?_ ⟨rfl,.inr ⟨_,rfl⟩⟩
  refine Fz.sl [[.i .u8 c]] _ 1 1 w.heap.size 0 (fun _ _=>.int .u8 c) (fun _=>rfl) (Nat.le_refl _) ?_ ?_ ?_
  ·intro i row hi
   cases i with
   | zero=>simp at hi;subst hi;rfl
   | succ i=>simp at hi
  ·intro i row j x hi hx
   cases i with
   | zero=>
    simp at hi;subst hi
    cases j with
    | zero=>simp
    | succ j=>simp at hx
   | succ i=>simp at hi
  ·intro i row j x hi hx
   cases i with
   | zero=>
    simp at hi;subst hi
    cases j with
    | zero=>simp at hx;subst hx;exact .i _ _
    | succ j=>simp at hx
   | succ i=>simp at hi
 have e1 :∀(b:Act) (dst:Nat) (x:Value),(b.put (some dst) x).eval (.tmp dst)=x∨b.tmps.size≤dst:=by
  intro b dst x
  rcases Nat.lt_or_ge dst b.tmps.size with h | h
  ·left
   simp [Act.put,Act.eval,h]
  ·exact .inr h
 refine wp_region ?_
 show wpOps P _ Q [0,1,2] a w
 rw [wpOps_cons]
 refine step_val (G:=G) (nt:=nt) (o:=⟨some d1,.buildSlice t 1 #[(0,.const (.int .u8 c))],ty1,pos1,af1,none⟩) rfl rfl (v:=v) (w':=w1) ?_ ?_
 ·simp only [execOp]
  refine run_val ?_
  rw [show Array.map (fun x=>(x.fst,a.eval x.snd)) #[(0,Operand.const (Value.int IntKind.u8 c))]=#[(0,.int .u8 c)] from by simp [Act.eval]]
  exact r1
 rw [wpOps_cons]
 refine step_val (G:=G) (nt:=nt) (o:=⟨some d2,.convert t t (.tmp d1),ty2,pos2,af2,none⟩) rfl rfl (v:=v) (w':=w2) ?_ ?_
 ·simp only [execOp]
  refine run_val ?_
  rcases e1 a d1 v with h | h
  ·rw [h];exact r2
  ·rw [hts] at h;exact absurd h (Nat.not_le.2 hd1)
 rw [wpOps_cons]
 refine step_val (G:=G) (nt:=nt) (o:=⟨some d3,.assign (.tmp d2),ty3,pos3,af3,none⟩) rfl rfl (v:=v) (w':=w2) ?_ ?_
 ·simp only [execOp]
  rcases e1 (a.put (some d1) v) d2 v with h | h
  ·rw [h];rfl
  ·simp only [Act.put,Array.size_setIfInBounds,hts] at h
   exact absurd h (Nat.not_le.2 hd2)
 show Q .normal _ w2
 have hA1:=hA.mono hst.le
 have hp :∀{σ:Sl} {b:Act} (dst:Nat),dst<nt→RelA _ nt σ b→RelA ⟨fun g o=>if g=w.heap.size then (if o=0 then some (.int .u8 c) else none) else G.H g o,G.ρ,G.ω,G.fm,G.M⟩ nt (upd σ dst (.sl .full [[.i .u8 c]])) (b.put (some dst) v):=
  fun dst hd hb=>RelA.put (d:=some dst) hb (by intro t ht;cases ht;exact hd) hv
 refine hQ rfl _ _ _ (hp d3 hd3 (hp d2 hd2 (hp d1 hd1 hA1))) ?_
 exact ⟨hst.le,hst.rel,by simp,fun k v hv'=>⟨rfl,rfl⟩,fun k v cs _ _ _ h=>h,hst.newH⟩
end
end Go.AM

namespace Go.AM
open Go Go.RowKit Go.BigFrame
def cLitB (X:Cx) (nt:Nat) (ops:Array Oper) (draw:Bool):Option (List AI):=if draw=true then none else cLit X nt ops.toList
def isBig (X:Cx) (ops:Array Oper):Bool:=(X.fm 1000000000000).isSome&&ops.any fun o=>match o.op with | .alloc t=>t==btOf X.fm | .fieldAddr t _ _=>t==btOf X.fm | _=>false
def isMid (X:Cx) (ops:Array Oper):Bool:=match X.fm 1000000000003 with | some t=>ops.any fun o=>(match o.op with | .fieldAddr t' _ n=>n==3&&t'+1000000000==t | _=>false) | none=>false
def midId (X:Cx) (id:Nat) (ops:Array Oper):Nat:=if isMid X ops then id+500000 else id
def bigId (X:Cx) (id:Nat) (ops:Array Oper):Nat:=if isBig X ops then id+1000000 else midId X id ops
def bigOk (X:Cx) (id:Nat) (ops:Array Oper):Bool:=if isBig X ops then ops.all fun o=>flagOp X o.op else decide (midId X id ops*4096+ops.size≤bigSite)
theorem bigOk_inv {X:Cx} {id:Nat} {ops:Array Oper} (h:bigOk X id ops=true) :∀(i:Nat) o,ops[i]?=some o→bigSite≤bigId X id ops*4096+i→flagOp X o.op=true:=by
 intro i o ho hb
 unfold bigOk at h
 unfold bigId at hb
 split at h
 ·rename_i hi
  rw [Array.all_eq_true'] at h
  exact h o (Array.mem_of_getElem? ho)
 ·rename_i hi
  rw [if_neg hi] at hb
  have:=(Array.getElem?_eq_some_iff.1 ho).1
  have h:=of_decide_eq_true h
  omega
def cRegion (X:Cx) (nt:Nat) (id:Nat) (ops:Array Oper) (draw:Bool):Option AC:=
 match cLitB X nt ops draw with
 | some aops=>some (.reg id aops)
 | none=>match cOpers X nt ops ops.toList with
  | some aops=>if bigOk X id ops=true then (if (draw&&!drawOk ops.toList aops)=true then (if drawOk ops.toList (toFs X.fz aops)=true then some (.reg (bigId X id ops) (toFs X.fz aops)) else none) else some (.reg (bigId X id ops) aops)) else none
  | none=>none
def stk:AC:=.cond (.c .u) .skip .skip
def cCode (X:Cx) (nt:Nat):Code→Option AC
 | .skip=>some .skip
 | .label _=>some .skip
 | .region id ops draw=>match cRegion X nt id ops draw with | some x=>some x | none=>some stk
 | .seq a b=>match cCode X nt a,cCode X nt b with | some x,some y=>some (.seq x y) | _,_=>none
 | .cond c a b=>match cOpd X.fm c,cCode X nt a,cCode X nt b with | some z,some x,some y=>some (.cond z x y) | _,_,_=>none
 | .block id c=>match cCode X nt c with | some x=>some (.block id x) | none=>none
 | .loop c=>match cCode X nt c with | some x=>some (.loop x) | none=>none
 | .exit id=>some (.exit id)
 | .goto l=>some (.goto l)
 | .ret=>some .ret
 | .refuse _=>some (.cond (.c .u) .skip .skip)
 | .scope (.seq (.region id ops draw) (.seq (.label l) b))=>match cRegion X nt id ops draw,cCode X nt b with | some x,some y=>some (.gscope l x y) | _,_=>none
 | _=>some stk
def toExit:AE→Exit
 | .normal=>.normal
 | .exit id=>.exit id
 | .ret=>.ret
 | .goto l=>.goto l
def jumps (P:Program) (y:Code) (l:Nat) (Q:Exit→Act→World→Prop):Nat→Act→World→Prop
 | 0,_,_=>False
 | n+1,a,w=>y.wp P (Exit.jump l (jumps P y l Q n) Q) a w
theorem wp_scope_rounds {P:Program} {a:Act} {w:World} {Q:Exit→Act→World→Prop} {x y:Code} (l n:Nat) (hx:findLabel x l=none)
  (first:x.wp P (Exit.then (jumps P y l Q n) fun _ _ _=>False) a w):(Code.scope (.seq x (.seq (.label l) y))).wp P Q a w:=by
 intro b k cs
 have hf:findLabel (.seq x (.seq (.label l) y)) l=some (.seq .skip y):=by simp [findLabel,hx]
 generalize hc:Code.seq x (.seq (.label l) y)=c at hf ⊢
 have hg:gotoIn l (.inScope c::k)=some (.code (.seq .skip y)::.inScope c::k):=by simp [gotoIn,hf]
 have key :∀n (z:Code) a w,(∀a w Q',y.wp P Q' a w→z.wp P Q' a w)→jumps P y l Q n a w→∃e a' w',Q e a' w'∧Arrives P (lone (b.at a (.code z::.inScope c::k)) cs w) b k cs e a' w':=by
  intro n
  induction n with
  | zero=>intro z a w _ h;exact h.elim
  | succ n ih=>
   intro z a w hz h
   obtain ⟨e,a₁,w₁,hq,harr⟩:=hz _ _ _ h b (.inScope c::k) cs
   cases e with
   | normal=>exact ⟨.normal,a₁,w₁,hq,Steps.trans harr (.one step_inScope)⟩
   | exit id=>exact ⟨.exit id,a₁,w₁,hq,fun k' hk=>harr k' (by simp [exitTo,hk])⟩
   | goto l'=>
    obtain ⟨rfl,hJ'⟩:=hq
    obtain ⟨e₂,a₂,w₂,hq₂,harr₂⟩:=ih (.seq .skip y) a₁ w₁ (fun _ _ _ h=>wp_seq (wp_skip h)) hJ'
    exact ⟨e₂,a₂,w₂,hq₂,.of_steps (harr _ hg) harr₂⟩
   | ret=>exact ⟨_,a₁,w₁,hq,harr⟩
   | panic ch=>exact ⟨_,a₁,w₁,hq,harr⟩
   | outgrown=>exact ⟨_,a₁,w₁,hq,harr⟩
 obtain ⟨e,a₁,w₁,hq,harr⟩:=first b (.code (.seq (.label l) y)::.inScope c::k) cs
 cases e with
 | normal=>
  obtain ⟨e₂,a₂,w₂,hq₂,harr₂⟩:=key n (.seq (.label l) y) a₁ w₁ (fun _ _ _ h=>wp_seq (wp_label h)) hq
  have hs:Steps P (lone (b.at a (.code (.scope c)::k)) cs w) (lone (b.at a (.code x::.code (.seq (.label l) y)::.inScope c::k)) cs w):=by
   refine .head step_scope ?_
   rw [← hc]
   exact .one step_seq
  exact ⟨e₂,a₂,w₂,hq₂,.of_steps (hs.trans harr) harr₂⟩
 | exit id=>exact hq.elim
 | goto l'=>exact hq.elim
 | ret=>exact hq.elim
 | panic ch=>exact hq.elim
 | outgrown=>exact hq.elim
def CodeOk (P:Program) (X:Cx) (nt d:Nat) (f:Sl→St→Option (AE × Sl × St)) (c:Code):Prop:=
 ∀{σ:Sl} {st:St} {e:AE} {σ':Sl} {st':St},f σ st=some (e,σ',st')→∀{G:Gh} {w0 w:World} {a:Act},X.fm=G.fm→RelA G nt σ a→Rel G w0 st w→
  ∀{Q:Exit→Act→World→Prop},(∀a' w' G',RelA G' nt σ' a'→Run G G' w0 st st' w' d→Q (toExit e) a' w')→c.wp P Q a w
section
variable {P:Program} {X:Cx}
theorem region_ok {C:CallF} (hT:TTok P X.T) (hC:CallOk P X.fm C) (hm:P.follows .mixedOrders=true) {nt d id:Nat} {ops:Array Oper} {draw:Bool} {n:Nat} {ac:AC} (hcr:cRegion X nt id ops draw=some ac):CodeOk P X nt d (acode C n d ac) (.region id ops draw):=by
 unfold cRegion at hcr
 split at hcr
 ·rename_i aops hl
  cases hcr
  unfold cLitB at hl
  split at hl
  ·cases hl
  rename_i hd
  have hd:draw=false:=by simpa using hd
  subst hd
  intro σ st e σ' st' h G w0 w a hfm hA hR Q hQ
  exact lit_ok hT hl h hA hR fun he=>by subst he;exact hQ
 split at hcr
 case h_2=>cases hcr
 rename_i aops hc
 split at hcr
 case isFalse=>cases hcr
 rename_i hbig
 have hB:=bigOk_inv hbig
 have hlen0:aops.length=ops.size:=by
  have:=(cOpers_get hc).1
  simpa using this.symm
 -- a region whose order is drawn
 have drawn :∀{bops:List AI},bops.length=ops.size→(∀(i:Nat) o,ops[i]?=some o→∃ai x,bops[i]?=some ai∧cOper X nt ops o=some x∧Low ai x)→drawOk ops.toList bops=true→draw=true→ac=.reg (bigId X id ops) bops→CodeOk P X nt d (acode C n d ac) (.region id ops draw):=by
  intro bops hlen hlow hd hdr he
  subst he
  subst hdr
  intro σ st e σ' st' h G w0 w a hfm hA hR Q hQ
  simp only [acode,Option.map_eq_some_iff,Prod.mk.injEq] at h
  obtain ⟨⟨σ1,st1⟩,h,rfl,rfl,rfl⟩:=h
  unfold areg at h
  rw [aregL_O (ops:=bops) (fun j=>by simp)] at h
  rw [← List.range_eq_range'] at h
  refine wp_region_any hm ?_
  have hR':Rel G w0 st { w with drawn:=w.drawn+1 }:=hR.below (w':={ w with drawn:=w.drawn+1 }) ⟨rfl,rfl,rfl,Nat.le_refl _,fun _ _=>rfl⟩
  obtain ⟨h1,h2⟩:=region_in (d:=d) (id:=bigId X id ops) (aops:=bops) hR' (l:=List.range ops.size)
  rw [hlen] at h
  refine draw_ok hT hC hlow hd hB (Nat.le_refl _) hQ (List.range ops.size) (by simp) (by simp) List.pairwise_lt_range ?_ ?_ hfm hA h1 h2 (by rw [hlen];exact h)
  ·intro j
   rw [List.mem_range]
   constructor
   ·intro hj
    refine ⟨hj,?_⟩
    rw [Array.getD_eq_getD_getElem?,Array.getElem?_replicate,if_pos hj]
    rfl
   ·exact fun h=>h.1
  ·intro x o hx hl
   rw [Array.getD_eq_getD_getElem?,Array.getElem?_replicate,if_pos (Array.getElem?_eq_some_iff.1 hx).1] at hl
   cases hl
 split at hcr
 ·rename_i hd1
  split at hcr
  case isFalse=>cases hcr
  rename_i hd2
  injection hcr with hcr
  have hdr:draw=true:=by
   cases draw with
   | true=>rfl
   | false=>simp at hd1
  exact @drawn (toFs X.fz aops) (by simpa [toFs] using hlen0) (lows hc _) hd2 hdr hcr.symm
 rename_i hd1
 injection hcr with hcr
 cases hdraw:draw with
 | true=>
  rw [← hdraw]
  exact @drawn aops hlen0 (lows0 hc) (by rw [hdraw] at hd1;simpa using hd1) hdraw hcr.symm
 | false=>
  subst hcr
  intro σ st e σ' st' h G w0 w a hfm hA hR Q hQ
  simp only [acode,Option.map_eq_some_iff,Prod.mk.injEq] at h
  obtain ⟨⟨σ1,st1⟩,h,rfl,rfl,rfl⟩:=h
  unfold areg at h
  rw [aregL_O (ops:=aops) (fun j=>by simp)] at h
  rw [← List.range_eq_range'] at h
  refine wp_region ?_
  obtain ⟨h1,h2⟩:=region_in (d:=d) (id:=bigId X id ops) (aops:=aops) hR (l:=List.range ops.size)
  rw [hlen0] at h
  exact ops_ok hT hC hc hB (Nat.le_refl _) hQ (List.range ops.size) hfm List.nodup_range hA h1 h2 (by rw [hlen0];exact h)
theorem loop_ok {nt d:Nat} {f:Sl→St→Option (AE × Sl × St)} {c:Code} (ih:CodeOk P X nt d f c) :∀(m:Nat) {σ:Sl} {st:St} {e:AE} {σ':Sl} {st':St},iter f m σ st=some (e,σ',st')→∀{G:Gh} {w0 w:World} {a:Act},X.fm=G.fm→RelA G nt σ a→Rel G w0 st w→
  ∀{Q:Exit→Act→World→Prop},(∀a' w' G',RelA G' nt σ' a'→Run G G' w0 st st' w' d→Q (toExit e) a' w')→Code.rounds P c Q m a w
 | 0,σ,st,e,σ',st',h,G,w0,w,a,_,_,_,Q,_=>by cases h
 | m+1,σ,st,e,σ',st',h,G,w0,w,a,hfm,hA,hR,Q,hQ=>by
  rw [rounds_succ]
  simp only [iter] at h
  split at h
  ·rename_i σ1 st1 h1
   refine ih h1 hfm hA hR fun a1 w1 G1 hA1 hrun1=>?_
   exact loop_ok ih m h (by rw [hrun1.le.fm];exact hfm) hA1 hrun1.rel fun a2 w2 G2 hA2 hrun2=>hQ a2 w2 G2 hA2 (hrun1.trans hrun2)
  ·rename_i hne
   refine ih h hfm hA hR fun a1 w1 G1 hA1 hrun1=>?_
   have:=hQ a1 w1 G1 hA1 hrun1
   cases e with
   | normal=>exact absurd h (hne _ _)
   | exit id=>exact this
   | ret=>exact this
   | goto l=>exact this
theorem jumps_ok {nt d l:Nat} {f:Sl→St→Option (AE × Sl × St)} {y:Code} (ih:CodeOk P X nt d f y) :∀(m:Nat) {σ:Sl} {st:St} {e:AE} {σ':Sl} {st':St},iterG l f m σ st=some (e,σ',st')→∀{G:Gh} {w0 w:World} {a:Act},X.fm=G.fm→RelA G nt σ a→Rel G w0 st w→
  ∀{Q:Exit→Act→World→Prop},(∀a' w' G',RelA G' nt σ' a'→Run G G' w0 st st' w' d→Q (toExit e) a' w')→jumps P y l Q m a w
 | 0,σ,st,e,σ',st',h,G,w0,w,a,_,_,_,Q,_=>by cases h
 | m+1,σ,st,e,σ',st',h,G,w0,w,a,hfm,hA,hR,Q,hQ=>by
  simp only [jumps]
  simp only [iterG] at h
  split at h
  ·rename_i l' σ2 st2 h2
   split at h
   ·rename_i hl
    refine ih h2 hfm hA hR fun a2 w2 G2 hA2 hrun2=>⟨hl,?_⟩
    exact jumps_ok ih m h (by rw [hrun2.le.fm];exact hfm) hA2 hrun2.rel fun a3 w3 G3 hA3 hrun3=>hQ a3 w3 G3 hA3 (hrun2.trans hrun3)
   ·cases h
  ·rename_i hne
   refine ih h hfm hA hR fun a2 w2 G2 hA2 hrun2=>?_
   have:=hQ a2 w2 G2 hA2 hrun2
   cases e with
   | normal=>exact this
   | exit id=>exact this
   | ret=>exact this
   | goto l=>exact absurd h (hne _ _ _)
theorem stk_ok {C:CallF} {nt n d:Nat} {c:Code}:CodeOk P X nt d (acode C n d stk) c:=by
 intro σ st e σ' st' h
 simp only [stk,acode,Opd.ev] at h
 cases h
theorem seq_ok {C:CallF} {nt n d:Nat} {ax ay:AC} {x y:Code} (hx:CodeOk P X nt d (acode C n d ax) x) (hy:CodeOk P X nt d (acode C n d ay) y):CodeOk P X nt d (acode C n d (.seq ax ay)) (.seq x y):=by
 intro σ st e σ' st' h G w0 w a hfm hA hR Q hQ
 simp only [acode] at h
 split at h
 ·rename_i σ1 st1 h1
  refine wp_seq (hx h1 hfm hA hR fun a1 w1 G1 hA1 hrun1=>?_)
  exact hy h (by rw [hrun1.le.fm];exact hfm) hA1 hrun1.rel fun a2 w2 G2 hA2 hrun2=>hQ a2 w2 G2 hA2 (hrun1.trans hrun2)
 ·rename_i hne
  refine wp_seq (hx h hfm hA hR fun a1 w1 G1 hA1 hrun1=>?_)
  have:=hQ a1 w1 G1 hA1 hrun1
  cases e with
  | normal=>exact absurd h (hne _ _)
  | exit id=>exact this
  | ret=>exact this
  | goto l=>exact this
theorem code_ok {C:CallF} (hT:TTok P X.T) (hC:CallOk P X.fm C) (hm:P.follows .mixedOrders=true) {nt:Nat} (n d:Nat) :∀(k:Nat) (c:Code),SizeOf.sizeOf c<k→∀{ac:AC},cCode X nt c=some ac→CodeOk P X nt d (acode C n d ac) c:=by
 intro k
 induction k with
 | zero=>intro c hk;exact absurd hk (Nat.not_lt_zero _)
 | succ k ihk=>
 intro c hk ac hc
 cases c with
 | skip=>
  cases hc
  intro σ st e σ' st' h G w0 w a hfm hA hR Q hQ
  cases h
  exact wp_skip (hQ a w G hA (.refl hR))
 | label l=>
  cases hc
  intro σ st e σ' st' h G w0 w a hfm hA hR Q hQ
  cases h
  exact wp_label (hQ a w G hA (.refl hR))
 | exit id=>
  cases hc
  intro σ st e σ' st' h G w0 w a hfm hA hR Q hQ
  cases h
  exact wp_exit (hQ a w G hA (.refl hR))
 | goto l=>
  cases hc
  intro σ st e σ' st' h G w0 w a hfm hA hR Q hQ
  cases h
  exact wp_goto (hQ a w G hA (.refl hR))
 | ret=>
  cases hc
  intro σ st e σ' st' h G w0 w a hfm hA hR Q hQ
  cases h
  exact wp_ret (hQ a w G hA (.refl hR))
 | region id ops draw=>
  unfold cCode at hc
  split at hc
  ·rename_i x hx;cases hc;exact region_ok hT hC hm hx
  ·cases hc;exact stk_ok
 | seq x y=>
  unfold cCode at hc
  split at hc
  ·rename_i ax ay hx hy
   cases hc
   exact seq_ok (ihk _ (by simp at hk;omega) hx) (ihk _ (by simp at hk;omega) hy)
  ·cases hc
 | cond z x y=>
  unfold cCode at hc
  split at hc
  ·rename_i az ax ay hz hx hy
   cases hc
   intro σ st e σ' st' h G w0 w a hfm hA hR Q hQ
   simp only [acode] at h
   rw [hfm] at hz
   have hv:=cOpd_ok hA hz
   unfold Same at hv
   revert hv
   split at h
   ·rename_i ht
    rw [ht]
    intro hv
    exact wp_cond_true hv.bool_inv (ihk _ (by simp at hk;omega) hx h hfm hA hR hQ)
   ·rename_i ht
    rw [ht]
    intro hv
    exact wp_cond_false hv.bool_inv (ihk _ (by simp at hk;omega) hy h hfm hA hR hQ)
   ·cases h
  ·cases hc
 | block id c=>
  unfold cCode at hc
  split at hc
  ·rename_i x hx
   cases hc
   intro σ st e σ' st' h G w0 w a hfm hA hR Q hQ
   simp only [acode] at h
   refine wp_block ?_
   split at h
   ·rename_i id' σ1 st1 h1
    refine ihk _ (by simp at hk;omega) hx h1 hfm hA hR fun a1 w1 G1 hA1 hrun1=>?_
    split at h
    ·rename_i hid
     cases h
     have:=hQ a1 w1 G1 hA1 hrun1
     simp only [toExit,Exit.inBlock,hid,if_true]
     exact this
    ·rename_i hid
     cases h
     have:=hQ a1 w1 G1 hA1 hrun1
     simp only [toExit,Exit.inBlock,hid,if_false]
     exact this
   ·rename_i hne
    refine ihk _ (by simp at hk;omega) hx h hfm hA hR fun a1 w1 G1 hA1 hrun1=>?_
    have:=hQ a1 w1 G1 hA1 hrun1
    cases e with
    | normal=>exact this
    | exit id'=>exact absurd h (hne _ _ _)
    | ret=>exact this
    | goto l=>exact this
  ·cases hc
 | loop c=>
  unfold cCode at hc
  split at hc
  ·rename_i x hx
   cases hc
   have ih:CodeOk P X nt d (acode C n d x) c:=ihk _ (by simp at hk;omega) hx
   intro σ st e σ' st' h G w0 w a hfm hA hR Q hQ
   simp only [acode] at h
   exact wp_loop_rounds n (loop_ok ih n h hfm hA hR hQ)
  ·cases hc
 | rangeFunc f ps x y=>cases hc;exact stk_ok
 | refuse why=>
  cases hc
  intro σ st e σ' st' h
  simp only [acode,Opd.ev] at h
  cases h
 | scope c=>
  unfold cCode at hc
  split at hc
  all_goals first | (rename_i hq;cases hq;done) | skip
  all_goals (first | (cases hc;done) | skip)
  all_goals (first | (injection hc with hc;subst hc;exact stk_ok) | skip)
  rename_i id ops draw l y hq
  injection hq with hq
  subst hq
  split at hc
  ·rename_i ax ay hx hy
   cases hc
   have ih:CodeOk P X nt d (acode C n d ay) y:=ihk _ (by simp at hk;omega) hy
   have ihx:CodeOk P X nt d (acode C n d ax) (.region id ops draw):=region_ok hT hC hm hx
   intro σ st e σ' st' h G w0 w a hfm hA hR Q hQ
   simp only [acode] at h
   split at h
   case h_2=>cases h
   rename_i σ1 st1 h1
   refine wp_scope_rounds l n rfl (ihx h1 hfm hA hR fun a1 w1 G1 hA1 hrun1=>?_)
   exact jumps_ok ih n h (by rw [hrun1.le.fm];exact hfm) hA1 hrun1.rel fun a' w' G' h1 h2=>hQ a' w' G' h1 (hrun1.trans h2)
  ·cases hc
end
end Go.AM

namespace Go.AM
open Go Go.RowKit Go.BigFrame
def cRes (X:Cx):ResultVar→Option ARes
 | .tmp t=>some (.tmp t)
 | .cell p t=>match X.T t with | some i=>if okSize i=true then some (.cell p i.size i.kind.agg) else none | none=>none
def cRess (X:Cx):List ResultVar→Option (List ARes)
 | []=>some []
 | r::l=>match cRes X r,cRess X l with | some x,some xs=>some (x::xs) | _,_=>none
def GoodF (P:Program) (X:Cx) (F:AF) (code:Code):Prop:=TTok P X.T→P.follows .mixedOrders=true→∀C,CallOk P X.fm C→∀n d,CodeOk P { X with fz:=F.fz } F.nt d (acode C n d F.body) code
theorem GoodF.of {P:Program} {X:Cx} {F:AF} {code:Code} (h:cCode { X with fz:=F.fz } F.nt code=some F.body):GoodF P X F code:=
 fun hT hm _ hC n d=>code_ok (X:={ X with fz:=F.fz }) hT hC hm n d (SizeOf.sizeOf code+1) code (Nat.lt_succ_self _) h
structure FnOk (P:Program) (X:Cx) (f:FuncId) (F:AF):Prop where
 ok :∃fn code,P.funcs[f]?=some fn∧(fn.name== "runtime.NumGoroutine")=false∧fn.body=some code∧fn.ntmps=F.nt∧GoodF P X F code∧cRess X fn.results.toList=some F.res∧F.res.length≤4
def ProgOk (P:Program) (X:Cx) (fn:Nat→Option AF):Prop:=∀f c F,X.fm f=some c→fn c=some F→FnOk P X f F
def OracOk (P:Program) (X:Cx) (prog:Prog):Prop:=∀f c,X.fm f=some c→prog.fn c=none→∀args r,prog.orac c args=some r→
 ∀G w0 st w vals d,G.fm=X.fm→Rel G w0 st w→Rs G args vals→Goes P f vals.toArray w fun v w'=>∃G',R G' r v∧Run G G' w0 st st w' d
def OracSOk (P:Program) (X:Cx) (prog:Prog):Prop:=∀f c,X.fm f=some c→prog.fn c=none→∀args st r st',prog.oracS c args st=some (r,st')→
 ∀G w0 w vals d,G.fm=X.fm→Rel G w0 st w→Rs G args vals→Goes P f vals.toArray w fun v w'=>∃G',R G' r v∧Run G G' w0 st st' w' d
section
variable {P:Program} {X:Cx} {G:Gh} {w0 w:World} {st:St}
def resVar (tmps:Array Value) (r:ResultVar):Sem Value:=
 match r with
 | .tmp t=>pure (tmps.getD t undef)
 | .cell a t=>do loadVar t (← asAddr (tmps.getD a undef))
theorem res1_ok (hT:TTok P X.T) {nt:Nat} {σ:Sl} {a:Act} (hA:RelA G nt σ a) (hR:Rel G w0 st w) {r:ResultVar} {x:ARes} (hc:cRes X r=some x) {v:AV} (h:ares1 σ st x=some v) :
  ∃u,(resVar a.tmps r).run P w=.ok u w∧R G v u:=by
 cases r with
 | tmp t=>
  cases hc
  cases h
  exact ⟨_,rfl,hA.2.2 t⟩
 | cell p t=>
  simp only [cRes] at hc
  split at hc
  case h_2=>cases hc
  rename_i i hi
  split at hc
  case isFalse=>cases hc
  rename_i hs
  cases hc
  simp only [ares1] at h
  have hv:=hA.2.2 p
  obtain ⟨u,h1,h2⟩:=aload_ok hR (hT t i hi) (okSize_inv hs) h hv
  refine ⟨u,?_,h2⟩
  have hp :∃q,a.tmps.getD p undef=.pointer (some q):=by
   unfold aload at h
   revert hv
   generalize σ p=z at h
   intro hv
   revert hv
   split at h
   ·intro hv;obtain ⟨g,off,us,h3,_⟩:=hv.fp_inv;exact ⟨_,h3⟩
   ·intro hv;obtain ⟨g,h3,_⟩:=hv.p_inv;exact ⟨_,h3⟩
   ·cases h
  obtain ⟨q,hq⟩:=hp
  rw [hq] at h1
  simp only [resVar,hq,asAddr,Sem.run_bind,Sem.run_pure,Result.andThen_ok]
  simpa only [Instr.loadAt,Instr.sureAddr,Sem.run_bind,Sem.run_pure,Result.andThen_ok] using h1
theorem resL_ok (hT:TTok P X.T) {nt:Nat} {σ:Sl} {a:Act} (hA:RelA G nt σ a) (hR:Rel G w0 st w) :∀{l:List ResultVar} {xs:List ARes},cRess X l=some xs→∀{vs:List AV},aresL σ st xs=some vs→
  ∃us:List Value,us.length=l.length∧(∀(j:Nat) r u,l[j]?=some r→us[j]?=some u→(resVar a.tmps r).run P w=.ok u w)∧Rs G vs us
 | [],xs,hc,vs,h=>by
  cases hc
  cases h
  exact ⟨[],rfl,by simp,rfl,by simp⟩
 | r::l,xs,hc,vs,h=>by
  unfold cRess at hc
  split at hc
  case h_2=>cases hc
  rename_i x ys hx hl
  cases hc
  unfold aresL at h
  split at h
  case h_2=>cases h
  rename_i v vl hv hvl
  cases h
  obtain ⟨u,h1,h2⟩:=res1_ok hT hA hR hx hv
  obtain ⟨us,h3,h4,h5⟩:=resL_ok hT hA hR hl hvl
  refine ⟨u::us,by simp [h3],fun j r' u' hj hu=>?_,by simp [h5.1],fun j a' u' ha hu=>?_⟩
  ·cases j with
   | zero=>simp at hj hu;subst hj;subst hu;exact h1
   | succ j=>exact h4 j r' u' (by simpa using hj) (by simpa using hu)
  ·cases j with
   | zero=>simp at ha hu;subst ha;subst hu;exact h2
   | succ j=>exact h5.2 j a' u' (by simpa using ha) (by simpa using hu)
theorem results_eq (fn:Func) (tmps:Array Value):results fn tmps=(do
  let vs ← fn.results.mapM (resVar tmps)
  pure (if h:vs.size=1 then vs[0] else .tuple vs)):=rfl
theorem cRess_len :∀{l:List ResultVar} {xs:List ARes},cRess X l=some xs→l.length=xs.length
 | [],xs,hc=>by cases hc;rfl
 | r::l,xs,hc=>by
  unfold cRess at hc
  split at hc
  case h_2=>cases hc
  rename_i x ys hx hl
  cases hc
  simp [cRess_len hl]
theorem results_ok (hT:TTok P X.T) {nt:Nat} {σ:Sl} {a:Act} (hA:RelA G nt σ a) (hR:Rel G w0 st w) {fn:Func} {xs:List ARes} (hc:cRess X fn.results.toList=some xs) (hl:xs.length≤4) {r:AV} (h:ares σ st xs=some r) :
  ∃u,(results fn a.tmps).run P w=.ok u w∧R G r u:=by
 obtain ⟨l,hres⟩ :∃l:List ResultVar,fn.results=l.toArray:=⟨fn.results.toList,by simp⟩
 rw [hres] at hc
 have hlen:=cRess_len hc
 rw [results_eq,hres]
 by_cases h1:xs.length=1
 ·match xs,h1 with
  | [x],_=>
   match l,hlen with
   | [q],_=>
    unfold cRess at hc
    split at hc
    case h_2=>cases hc
    rename_i x' ys hx hl'
    injection hc with hc
    injection hc with hc1 hc2
    subst hc1
    simp only [ares] at h
    obtain ⟨u,h2,h3⟩:=res1_ok hT hA hR hx h
    exact ⟨u,by simp [h2],h3⟩
 ·have h2 :∃vs,aresL σ st xs=some vs∧r=.tup vs:=by
   unfold ares at h
   split at h
   ·simp at h1
   ·simp only [Option.map_eq_some_iff] at h
    obtain ⟨vs,h3,h4⟩:=h
    exact ⟨vs,h3,h4.symm⟩
  obtain ⟨vs,h3,rfl⟩:=h2
  obtain ⟨us,h4,h5,h6⟩:=resL_ok hT hA hR hc h3
  refine ⟨.tuple us.toArray,?_,.tup vs us h6.1 h6.2⟩
  match l,us,h4 with
  | [],[],_=>simp
  | [_],_,_=>simp at hlen;omega
  | [q1,q2],[u1,u2],_=>simp [h5 0 q1 u1 rfl rfl,h5 1 q2 u2 rfl rfl]
  | [q1,q2,q3],[u1,u2,u3],_=>simp [h5 0 q1 u1 rfl rfl,h5 1 q2 u2 rfl rfl,h5 2 q3 u3 rfl rfl]
  | [q1,q2,q3,q4],[u1,u2,u3,u4],_=>simp [h5 0 q1 u1 rfl rfl,h5 1 q2 u2 rfl rfl,h5 2 q3 u3 rfl rfl,h5 3 q4 u4 rfl rfl]
  | _::_::_::_::_::_,_,_=>simp at hlen;omega
theorem RelA.enter {nt:Nat} {args:List AV} {vals:List Value} (h:Rs G args vals) (hn:args.length≤nt):RelA G nt (sl0 args) { tmps:=vals.toArray++Array.replicate (nt-vals.toArray.size) undef,defers:=[] }:=by
 refine ⟨rfl,?_,fun t=>?_⟩
 ·have:=h.1
  simp only [Array.size_append,List.size_toArray,Array.size_replicate]
  omega
 ·have hl:=h.1
  unfold sl0
  rw [Array.getD_eq_getD_getElem?,List.getD_eq_getElem?_getD]
  rcases Nat.lt_or_ge t args.length with ht | ht
  ·rw [Array.getElem?_append_left (by simp;omega)]
   have hv:t<vals.length:=by omega
   rw [List.getElem?_eq_getElem ht]
   simp only [List.getElem?_toArray,List.getElem?_eq_getElem hv,Option.getD_some]
   exact h.2 t _ _ (List.getElem?_eq_getElem ht) (List.getElem?_eq_getElem hv)
  ·rw [List.getElem?_eq_none ht,Array.getElem?_append_right (by simp;omega),Array.getElem?_replicate]
   split
   ·exact R.und
   ·exact R.und
theorem Run.out {G':Gh} {st':St} {w':World} {d:Nat} (h:Run G G' w0 st st' w' d):Run G G' w0 st { st' with bx:=st'.bx.filter fun x=>x.1.1<d } w' d:=by
 have hlk :∀k,lk (st'.bx.filter fun x=>x.1.1<d) k=if k.1<d then lk st'.bx k else none:=by
  intro k
  have:=lk_filter st'.bx (fun k=>decide (k.1<d)) k
  simpa using this
 have hsub :∀{k v},lk (st'.bx.filter fun x=>x.1.1<d) k=some v→lk st'.bx k=some v:=by
  intro k v h1
  rw [hlk] at h1
  split at h1
  ·exact h1
  ·cases h1
 have hr:=h.rel
 refine ⟨h.le,⟨hr.bel,hr.ext,fun k ver cs g h1 h2=>hr.bx k ver cs g (hsub h1) h2,fun k k' ver ver' cs cs' g h1 h2 h3 h4=>hr.inj k k' ver ver' cs cs' g (hsub h1) (hsub h2) h3 h4,?_,hr.owinj,hr.fresh,fun k ver cs g hb h1 h2=>hr.bxT k ver cs g hb (hsub h1) h2,hr.owT,hr.mp⟩,h.nx,h.old,?_,h.newH⟩
 ·intro k ver n h1
  obtain ⟨g,cap,size,h2,h3,h4⟩:=hr.ow k ver n h1
  exact ⟨g,cap,size,h2,h3,fun k' ver' cs' h5=>h4 k' ver' cs' (hsub h5)⟩
 ·intro k v cs hk hv hn hl
  show lk (st'.bx.filter _) k=_
  rw [hlk,if_pos hk]
  exact h.pend k v cs hk hv hn hl
theorem callFunc_enter {f:FuncId} {fn:Func} {code:Code} (hf:P.funcs[f]?=some fn) (hn:(fn.name== "runtime.NumGoroutine")=false) (hb:fn.body=some code) (vals:Array Value):(callFunc f vals).run P w=.ok (.enter f vals) w:=by
 simp only [callFunc,Sem.run_bind,run_program,Result.andThen_ok,hf,hn,hb,Option.isNone_some,Bool.false_eq_true,if_false,Sem.run_pure]
theorem calls_ok (hT:TTok P X.T) (hm:P.follows .mixedOrders=true) {prog:Prog} (hP:ProgOk P X prog.fn) (hO:OracOk P X prog) (hS:OracSOk P X prog) :∀n,CallOk P X.fm (acall prog n)
 | 0=>by intro d c args st r st' h;cases h
 | n+1=>by
  intro d c args st r st' h f hf G w0 w vals hfm hR hV
  rw [acall] at h
  cases hc:prog.fn c with
  | none=>
   rw [hc] at h
   simp only at h
   split at h
   ·rename_i r' h1
    cases h
    exact hO f c hf hc args _ h1 G w0 st w vals d hfm hR hV
   ·exact hS f c hf hc args st r st' h G w0 w vals d hfm hR hV
  | some F=>
   rw [hc] at h
   simp only at h
   split at h
   case isFalse=>cases h
   rename_i hn
   obtain ⟨fn,code,h1,h2,h3,h4,h5,h6,h7⟩:=(hP f c F hf hc).ok
   refine .inl ⟨callFunc_enter h1 h2 h3 _,calls_of_wp h1 h3 ?_⟩
   rw [h4]
   have hcode:CodeOk P { X with fz:=F.fz } F.nt d (acode (acall prog n) n d F.body) code:=h5 hT hm _ (calls_ok hT hm hP hO hS n) n d
   have fin :∀{σ:Sl} {st1:St} {r':AV},ares σ st1 F.res=some r'→r'=r→{ st1 with bx:=st1.bx.filter fun x=>x.1.1<d }=st'→∀a' w' G',RelA G' F.nt σ a'→Run G G' w0 st st1 w' d→
     a'.defers=[]∧∃v,(results fn a'.tmps).run P w'=.ok v w'∧∃G',R G' r v∧Run G G' w0 st st' w' d:=by
    intro σ st1 r' h8 h9 h10 a' w' G' hA' hrun
    subst h9
    subst h10
    obtain ⟨u,h11,h12⟩:=results_ok hT hA' hrun.rel h6 h7 h8
    exact ⟨hA'.1,u,h11,G',h12,hrun.out⟩
   split at h
   ·rename_i σ st1 h8
    simp only [Option.map_eq_some_iff,Prod.mk.injEq] at h
    obtain ⟨r',h9,h10,h11⟩:=h
    exact hcode h8 hfm.symm (RelA.enter hV hn) hR (fin h9 h10 h11)
   ·rename_i σ st1 h8
    simp only [Option.map_eq_some_iff,Prod.mk.injEq] at h
    obtain ⟨r',h9,h10,h11⟩:=h
    exact hcode h8 hfm.symm (RelA.enter hV hn) hR (fin h9 h10 h11)
   ·cases h
end
end Go.AM

namespace Go.AM
open Go Go.RowKit Go.Proofs Go.Shelf
section
variable {P:Program} {ρ:Ren}
set_option maxHeartbeats 1000000 in
set_option maxRecDepth 100000 in
theorem string_run (L:Lays.n169 P ρ) (X:Builder.Extra P ρ) {b g cap:Nat} {p:Value} {cur:Array Value} {l:List UInt8} {w:World} (hbk:w.heap[b]?=some (.cells #[p,.slice (some ⟨g,0,none⟩) l.length cap] (ρ.t 72) (0,0)))
  (hg:w.heap[g]?=some (.cells cur (ρ.t 5) (0,0))) (h0:l≠[]) (hcs:l.length≤cur.size) (hcap:cap≠0) (h63:l.length≤9223372036854775807)
  (hcell :∀j x,l[j]?=some x→w.cell? ⟨g,j,none⟩=some (.int .u8 x.toNat)) :
  Calls P (ρ.f 169) #[.pointer (some ⟨b,0,none⟩)] w fun e w'=>e=.returned (.string ⟨l.toArray⟩)∧w'=w.drew.freeze ⟨g,0,none⟩ l.length:=by
 have c1:w.drew.cell? ⟨b,1,none⟩=some (.slice (some ⟨g,0,none⟩) l.length cap):=by
  have:w.drew.heap[b]?=some (.cells #[p,.slice (some ⟨g,0,none⟩) l.length cap] (ρ.t 72) (0,0)):=hbk
  rw [Lib.cell_of_heap this];rfl
 have hSD:(Builtin.unsafeSliceData_ #[(ρ.t 37)] (ρ.t 127) #[.slice (some ⟨g,0,none⟩) l.length cap]).run P w.drew=.ok (.pointer (some ⟨g,0,none⟩)) w.drew:=
  Lib.run_unsafeSliceData_row _ _ _ _ _ _ hcap
 have hUS:(Builtin.unsafeString_ #[(ρ.t 127),(ρ.t 3)] (ρ.t 9) #[.pointer (some ⟨g,0,none⟩),.int .i64 l.length]).run P w.drew=.ok (.string ⟨l.toArray⟩) (w.drew.freeze ⟨g,0,none⟩ l.length):=by
  refine Lib.run_unsafeString_row w.drew (ρ.t 127) (ρ.t 3) (ρ.t 9) (ρ.t 5) L.t127 X.cellsByte g cur.size (by have hg':w.drew.heap[g]?=some (.cells cur (ρ.t 5) (0,0)):=hg;simp [World.shape?,hg']) l h0 hcs h63 ?_
  intro j x hx
  rw [Addr.add_lit,Nat.zero_add]
  exact hcell j x hx
 clear hcap hcell hg hbk
 have mixed:=L.mixed
 have t72:=L.t72;have a72:=L.a72;have z72:=L.z72;have v72:=L.v72;have u72:=run_underlying L.t72
 have t70:=L.t70;have a70:=L.a70;have z70:=L.z70;have v70:=L.v70;have u70:=run_underlying L.t70
 have t37:=L.t37;have a37:=L.a37;have z37:=L.z37;have v37:=L.v37;have u37:=run_underlying L.t37
 have t127:=L.t127;have a127:=L.a127;have z127:=L.z127;have v127:=L.v127;have u127:=run_underlying L.t127
 have t3:=L.t3;have a3:=L.a3;have z3:=L.z3;have v3:=L.v3;have u3:=run_underlying L.t3
 have t9:=L.t9;have a9:=L.a9;have z9:=L.z9;have v9:=L.v9;have u9:=run_underlying L.t9
 have t5:=X.t5;have a5:=X.a5;have z5:=X.z5;have v5:=X.v5;have u5:=run_underlying X.t5
 go_enter L.f169,Body.n169_ntmps ρ
 go_wp2
 go_region_o
 all_goals (go_wp2;go_ret;exact ⟨rfl,rfl⟩)
set_option maxHeartbeats 1000000 in
set_option maxRecDepth 100000 in
theorem string_run0 (L:Lays.n169 P ρ) (X:Builder.Extra P ρ) {b:Nat} {p:Value} {w:World} (hbk:w.heap[b]?=some (.cells #[p,.slice none 0 0] (ρ.t 72) (0,0))) :
  Calls P (ρ.f 169) #[.pointer (some ⟨b,0,none⟩)] w fun e w'=>e=.returned (.string .empty)∧w'=w.drew:=by
 have c1:w.drew.cell? ⟨b,1,none⟩=some (.slice none 0 0):=by
  have:w.drew.heap[b]?=some (.cells #[p,.slice none 0 0] (ρ.t 72) (0,0)):=hbk
  rw [Lib.cell_of_heap this];rfl
 have hSD:(Builtin.unsafeSliceData_ #[(ρ.t 37)] (ρ.t 127) #[.slice none 0 0]).run P w.drew=.ok (.pointer none) w.drew:=
  Lib.run_unsafeSliceData_nil _ _ _ _ _
 have hUS:(Builtin.unsafeString_ #[(ρ.t 127),(ρ.t 3)] (ρ.t 9) #[.pointer none,.int .i64 0]).run P w.drew=.ok (.string .empty) w.drew:=Lib.run_unsafeString_none _ _ _ _ _
 clear hbk
 have mixed:=L.mixed
 have t72:=L.t72;have a72:=L.a72;have z72:=L.z72;have v72:=L.v72;have u72:=run_underlying L.t72
 have t70:=L.t70;have a70:=L.a70;have z70:=L.z70;have v70:=L.v70;have u70:=run_underlying L.t70
 have t37:=L.t37;have a37:=L.a37;have z37:=L.z37;have v37:=L.v37;have u37:=run_underlying L.t37
 have t127:=L.t127;have a127:=L.a127;have z127:=L.z127;have v127:=L.v127;have u127:=run_underlying L.t127
 have t3:=L.t3;have a3:=L.a3;have z3:=L.z3;have v3:=L.v3;have u3:=run_underlying L.t3
 have t9:=L.t9;have a9:=L.a9;have z9:=L.z9;have v9:=L.v9;have u9:=run_underlying L.t9
 have t5:=X.t5;have a5:=X.a5;have z5:=X.z5;have v5:=X.v5;have u5:=run_underlying X.t5
 go_enter L.f169,Body.n169_ntmps ρ
 go_wp2
 go_region_o
 all_goals (go_wp2;go_ret;exact ⟨rfl,rfl⟩)
end
theorem cell_freeze (w:World) (a:Addr) (n:Nat) (p:Addr):(w.freeze a n).cell? p=w.cell? p:=by
 unfold World.freeze
 split
 ·rfl
 ·simp only [World.cell?,Array.getElem?_modify]
  by_cases h:a.block=p.block
  ·rw [if_pos h]
   cases w.heap[p.block]? with
   | none=>rfl
   | some o=>cases o<;>rfl
  ·rw [if_neg h]
theorem heap_freeze (w:World) (a:Addr) (n i:Nat) (h:i≠a.block):(w.freeze a n).heap[i]?=w.heap[i]?:=by
 unfold World.freeze
 split
 ·rfl
 ·simp only [Array.getElem?_modify]
  rw [if_neg (fun e=>h e.symm)]
theorem Rel.freezeOwn {G:Gh} {w0 w:World} {st:St} (hR:Rel G w0 st w) {k:Key} {ver n g cap size:Nat} (hk:lk st.ow k=some (ver,n)) (hω:G.ω k ver=some (g,cap,size)) (m:Nat):Rel G w0 { st with ow:=del st.ow k } (w.drew.freeze ⟨g,0,none⟩ m):=by
 obtain ⟨g1,cap1,size1,e1,hown,hbox⟩:=hR.ow k ver n hk
 rw [hω] at e1
 cases e1
 have hge:w0.heap.size≤g:=by obtain ⟨_,_,h,_⟩:=hown;exact h
 have hh :∀i,i≠g→(w.drew.freeze ⟨g,0,none⟩ m).heap[i]?=w.heap[i]?:=fun i hi=>heap_freeze w.drew ⟨g,0,none⟩ m i hi
 have hget :∀k' v,lk (del st.ow k) k'=some v→k'≠k∧lk st.ow k'=some v:=by
  intro k' v h
  rw [lk_del] at h
  split at h
  ·cases h
  ·rename_i hn;exact ⟨hn,h⟩
 have hne :∀k' v' n' g' c s,lk (del st.ow k) k'=some (v',n')→G.ω k' v'=some (g',c,s)→g'≠g:=by
  rintro k' v' n' g' c s h h2 rfl
  obtain ⟨hn,h⟩:=hget _ _ h
  exact hn (hR.owinj k' k v' ver n' n _ _ _ _ _ h hk h2 hω)
 refine ⟨hR.bel.trans (Lib.below_freeze (Below.drew (Below.refl _ w)) (p:=⟨g,0,none⟩) hge m),?_,?_,hR.inj,?_,?_,hR.fresh,?_,?_,fun b l hb=>(hR.mp b l hb).keep fun es clock h=>hh b (fun e=>by obtain ⟨_,_,_,h2,_⟩:=hown;rw [e,h2] at h;cases h)⟩
 ·intro g' o v h
  obtain ⟨h1,h2⟩:=hR.ext g' o v h
  exact ⟨by rw [cell_freeze];exact h1,h2⟩
 ·intro k' v' cs g' h hg'
  obtain ⟨us,e,a1,a2,a3,a4,a5⟩:=hR.bx k' v' cs g' h hg'
  exact ⟨us,e,a1,by rw [hh g' (by rintro rfl;exact hbox k' v' cs h hg')];exact a2,a3,a4,a5⟩
 ·intro k' v' n' h
  obtain ⟨hn,h0⟩:=hget _ _ h
  obtain ⟨g',c,s,b1,⟨cur,e,a1,a2,a3⟩,b3⟩:=hR.ow k' v' n' h0
  exact ⟨g',c,s,b1,⟨cur,e,a1,by rw [hh g' (hne _ _ _ _ _ _ h b1)];exact a2,a3⟩,b3⟩
 ·intro k1 k2 v1 v2 n1 n2 g' c s c' s' h1 h2
  exact hR.owinj k1 k2 v1 v2 n1 n2 g' c s c' s' (hget _ _ h1).2 (hget _ _ h2).2
 ·intro k' v' cs g' hb h hg'
  obtain ⟨us,h1,h1n⟩:=hR.bxT k' v' cs g' hb h hg'
  exact ⟨us,by rw [hh g' (by rintro rfl;exact hbox k' v' cs h hg')];exact h1,h1n⟩
 ·intro k' v' n' hb h g' c s h2
  obtain ⟨us,h1⟩:=hR.owT k' v' n' hb (hget _ _ h).2 g' c s h2
  exact ⟨us,by rw [hh g' (hne _ _ _ _ _ _ h h2)];exact h1⟩
theorem Rel.drewed {G:Gh} {w0 w:World} {st:St} (hR:Rel G w0 st w):Rel G w0 st w.drew:=
 ⟨hR.bel.trans (Below.drew (Below.refl _ w)),hR.ext,hR.bx,hR.inj,hR.ow,hR.owinj,hR.fresh,hR.bxT,hR.owT,hR.mp⟩
def bStr (args:List AV) (st:St):Option (AV × St):=
 match args with
 | [.p k v 0]=>match lk st.bx k with
  | some (v',[_,.sl .full []])=>if v'=v∧bigSite≤k.2 then some (.s [],st) else none
  | some (v',[_,.sl (.id k2 v2) rows])=>
   match bytesOf rows,lk st.ow k2 with
   | some l,some (v3,n)=>if v'=v∧bigSite≤k.2∧v3=v2∧n=rows.length∧0<n∧bigSite≤k2.2∧n≤maxBytes then some (.s l,{ st with ow:=del st.ow k2 }) else none
   | _,_=>none
  | _=>none
 | _=>none
theorem bStr_ok {P:Program} {ρ:Ren} {fm:FM} (L:Lays.n169 P ρ) (X:Builder.Extra P ρ) (hb:ρ.t 72=btOf fm) (he:ρ.t 5=etOf fm) (hc :∀args w,(callFunc (ρ.f 169) args).run P w=.ok (.enter (ρ.f 169) args) w) {args:List AV} {st st':St} {r:AV} (h:bStr args st=some (r,st'))
  {G:Gh} {w0 w:World} {vals:List Value} {d:Nat} (hfm:G.fm=fm) (hR:Rel G w0 st w) (hV:Rs G args vals):Goes P (ρ.f 169) vals.toArray w fun v w'=>∃G',R G' r v∧Run G G' w0 st st' w' d:=by
 subst hfm
 unfold bStr at h
 split at h
 case h_2=>cases h
 rename_i k v
 split at h
 case h_3=>cases h
 ·rename_i v' c0 hlk
  split at h
  case isFalse=>cases h
  rename_i hcond
  obtain ⟨rfl,hbig⟩:=hcond
  cases h
  match vals,hV.1 with
  | [p],_=>
   obtain ⟨g,rfl,hρ⟩:=(hV.2 0 _ p rfl rfl).p_inv
   obtain ⟨us,e,hge,hheap,hr,h1,hnone⟩:=hR.bx k v' _ g hlk hρ
   obtain ⟨us',h3,h3n⟩:=hR.bxT k v' _ g hbig hlk hρ
   rw [hheap] at h3
   injection h3 with h3
   injection h3 with h4 h3
   subst h3
   subst h4
   match us,hr.1 with
   | [u0,u1],_=>
    have e1:u1=.slice none 0 0:=by simpa using h3n rfl
    subst e1
    have hrun:=string_run0 L X (b:=g) (p:=u0) (w:=w) (by rw [hb];exact hheap)
    refine .inl ⟨hc _ _,hrun.mono fun e w' ⟨h5,h6⟩=>?_⟩
    subst h5
    subst h6
    exact ⟨G,.fz _ _ (.s []),⟨.refl G,hR.drewed,Nat.le_refl _,fun _ _ _=>⟨rfl,rfl⟩,fun _ _ _ _ _ _ h=>h,fun _ _ _ h=>.inl h⟩⟩
 rename_i v' c0 k2 v2 rows hlk
 split at h
 case h_2=>cases h
 rename_i l v3 n hl how
 split at h
 case isFalse=>cases h
 rename_i hcond
 obtain ⟨rfl,hbig,rfl,rfl,hpos,hbig2,hmax⟩:=hcond
 cases h
 match vals,hV.1 with
 | [p],_=>
  obtain ⟨g,rfl,hρ⟩:=(hV.2 0 _ p rfl rfl).p_inv
  obtain ⟨us,e,hge,hheap,hr,h1,hnone⟩:=hR.bx k v' _ g hlk hρ
  obtain ⟨us',h3,_⟩:=hR.bxT k v' _ g hbig hlk hρ
  rw [hheap] at h3
  injection h3 with h3
  injection h3 with _ h3
  subst h3
  match us,hr.1 with
  | [u0,u1],_=>
   obtain ⟨A,cap,rfl,hF,hO⟩:=(hr.2 1 _ u1 rfl rfl).sl_inv
   obtain ⟨g2,size,hω,rfl,hrow⟩:=hO
   have hrows:=bytesOf_inv hl
   subst hrows
   have hl0:l≠[]:=by rintro rfl;simp at hpos
   obtain ⟨g3,cap3,size3,e1,⟨cur,e2,hge2,hheap2,hcur,hncap,hsz,_⟩,_⟩:=hR.ow k2 v3 _ how
   rw [hω] at e1
   cases e1
   obtain ⟨us2,h4⟩:=hR.owT k2 v3 _ hbig2 how g2 cap size hω
   rw [hheap2] at h4
   injection h4 with h4
   injection h4 with _ h4
   subst h4
   have hcell :∀j x,l[j]?=some x→w.cell? ⟨g2,j,none⟩=some (.int .u8 x.toNat):=by
    intro j x hx
    cases hF with
    | sl _ A cap size' g' off us hA hcap hsz' hH hFz=>
    have hAe:=hA (by simpa using hl0)
    injection hAe with hAe
    injection hAe with e3 e4
    subst e3;subst e4
    have hsize:size'=1:=by
     cases l with
     | nil=>exact absurd rfl hl0
     | cons c l=>rw [← hsz' 0 (row8 c) rfl];rfl
    subst hsize
    have hrow':(l.map row8)[j]?=some (row8 x):=by simp only [List.getElem?_map,hx,Option.map_some]
    have q1:=hH j (row8 x) 0 _ hrow' rfl
    have q2:=hFz j (row8 x) 0 _ hrow' rfl
    have q3:=(hR.ext _ _ _ q1).1
    generalize us j 0=v0 at q2 q3
    cases q2
    simpa using q3
   have hsize:size=1:=by
    cases l with
    | nil=>exact absurd rfl hl0
    | cons c l=>rw [← (hrow 0 (row8 c) rfl).1];rfl
   subst hsize
   simp only [List.length_map,maxBytes] at hncap hpos hheap how hmax ⊢
   have hrun:=string_run L X (b:=g) (g:=g2) (cap:=cap) (p:=u0) (cur:=cur) (l:=l) (w:=w) (by rw [hb];exact hheap) (by rw [he];exact hheap2) hl0 (by omega) (by omega) ?_ hcell
   ·refine .inl ⟨hc _ _,hrun.mono fun e w' ⟨h5,h6⟩=>?_⟩
    subst h5
    subst h6
    exact ⟨G,.fz _ _ (.s _),⟨.refl G,hR.freezeOwn how hω _,Nat.le_refl _,fun _ _ _=>⟨rfl,rfl⟩,fun _ _ _ _ _ _ h=>h,fun _ _ _ h=>.inl h⟩⟩
   ·omega
end Go.AM
