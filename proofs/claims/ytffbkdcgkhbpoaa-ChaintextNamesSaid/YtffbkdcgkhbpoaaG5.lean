/- The statement ChaintextNames: for every input the law returns true, and each argument reads afterwards as before. No conditions. -/
import Derived.Test.YtffbkdcgkhbpoaaG4
import Derived.Test.YtffbkdcgkhbpoaaG2
import Derived.Test.YtffbkdcgkhbpoaaRows
import Derived.Test.YtffbkdcgkhbpoaaG3
import Derived.Shelf.Strings.Builder1
import Derived.Shelf.Strings.Count
set_option linter.all false
namespace Go.AM
open Go Go.RowKit
section
variable {H:Hp}
theorem put_get {l us:List Value} {o j:Nat} (hle:o+us.length≤l.length):(l.take o++us++l.drop (o+us.length))[j]?=if o≤j∧j<o+us.length then us[j-o]? else l[j]?:=by
 by_cases hj:o≤j∧j<o+us.length
 ·rw [if_pos hj,List.append_assoc,List.getElem?_append_right (by simp;omega),List.getElem?_append_left (by simp;omega)]
  congr 1
  simp
  omega
 ·rw [if_neg hj]
  exact split_get hle hj
theorem RowsAt.put {rows:List (List AV)} {size:Nat} {cs:Array Value} (h:RowsAt H rows size cs) {i off:Nat} {row row':List AV} {us:List Value} (hi:rows[i]?=some row) (hl:row'.length=size) (hb:off+us.length≤size)
  (hin :∀(j:Nat) a,off≤j→j<off+us.length→row'[j]?=some a→∃u,us[j-off]?=some u∧Fz H a u∧u.oneCell'=true) (hout :∀j,¬(off≤j∧j<off+us.length)→row'[j]?=row[j]?) :
  RowsAt H (rows.set i row') size (cs.toList.take (i*size+off)++us++cs.toList.drop (i*size+off+us.length)).toArray:=by
 have hil:i<rows.length:=(List.getElem?_eq_some_iff.1 hi).1
 have hi2:(i+1)*size≤rows.length*size:=Nat.mul_le_mul_right _ (by omega)
 rw [Nat.succ_mul] at hi2
 have hsz:=h.sz
 have hle:i*size+off+us.length≤cs.toList.length:=by simp;omega
 refine ⟨by simp;omega,fun r hr=>?_,fun i2 r j a h2 h3=>?_⟩
 ·rcases List.mem_or_eq_of_mem_set hr with h' | rfl
  ·exact h.len r h'
  ·exact hl
 ·have hj:j<size:=by
   have hrl:r.length=size:=by
    rcases List.mem_or_eq_of_mem_set (List.mem_of_getElem? h2) with h' | rfl
    ·exact h.len r h'
    ·exact hl
   rw [← hrl]
   exact (List.getElem?_eq_some_iff.1 h3).1
  rw [List.getElem?_toArray,put_get hle]
  rw [List.getElem?_set] at h2
  split at h2
  ·rename_i hii
   subst hii
   cases h2
   by_cases hjj:off≤j∧j<off+us.length
   ·obtain ⟨u,h4,h5⟩:=hin j a hjj.1 hjj.2 h3
    refine ⟨u,?_,h5⟩
    rw [if_pos (by omega),← h4]
    congr 1
    omega
   ·rw [hout j hjj] at h3
    obtain ⟨u,h4,h5⟩:=h.at_ i row j a hi h3
    refine ⟨u,?_,h5⟩
    rw [if_neg (by omega),Array.getElem?_toList]
    exact h4
  ·rename_i hii
   obtain ⟨u,h4,h5⟩:=h.at_ i2 r j a h2 h3
   refine ⟨u,?_,h5⟩
   rw [if_neg,Array.getElem?_toList]
   ·exact h4
   ·rintro ⟨h6,h7⟩
    apply hii
    rcases Nat.lt_trichotomy i i2 with h8 | h8 | h8
    ·have:(i+1)*size≤i2*size:=Nat.mul_le_mul_right _ h8
     rw [Nat.succ_mul] at this;omega
    ·exact h8
    ·have:(i2+1)*size≤i*size:=Nat.mul_le_mul_right _ h8
     rw [Nat.succ_mul] at this;omega
end
theorem alloc_setRow (w:World) (cs cs':Array Value) (e:TypeId):(w.alloc (.cells cs e)).setRow w.heap.size cs'=w.alloc (.cells cs' e):=by
 unfold World.setRow World.alloc
 simp only
 congr 1
 apply Array.ext
 ·simp
 ·intro i h1 h2
  simp only [Array.size_modify,Array.size_push] at h1
  rw [Array.getElem_modify]
  by_cases hi:w.heap.size=i
  ·subst hi
   simp
  ·rw [if_neg hi,Array.getElem_push_lt (by omega),Array.getElem_push_lt (by omega)]
theorem Step.toRun {G G':Gh} {w0:World} {st st':St} {w':World} {d site:Nat} (h:Step G G' w0 st st' w' d site st.nx):Run G G' w0 st st' w' d:=by
 refine ⟨h.le,h.rel,h.nx,fun k v hv=>h.old k v hv fun e=>?_,fun k v cs hk hv hn hl=>h.pend k v cs (by omega) hv (fun e=>?_) hn hl,h.newH⟩
 ·injection e with _ e;omega
 ·subst e;simp at hk
def HandOk (P:Program) (X:Cx) (nt d:Nat) (f:Sl→St→Option (AE × Sl × St)) (c c':Code):Prop:=
 ∀{σ:Sl} {st:St} {e:AE} {σ':Sl} {st':St},f σ st=some (e,σ',st')→∀{G:Gh} {w0 w:World} {a:Act},X.fm=G.fm→RelA G nt σ a→Rel G w0 st w→
  ∀{Q:Exit→Act→World→Prop},(∀a' w' G',RelA G' nt σ' a'→Run G G' w0 st st' w' d→Q (toExit e) a' w')→c.wp P (Exit.then (c'.wp P Q) Q) a w
theorem hand_seq_ok {P:Program} {X:Cx} {C:CallF} {nt n d:Nat} {f:Sl→St→Option (AE × Sl × St)} {c c' y:Code} {ay:AC} (hx:HandOk P X nt d f c c') (hy:CodeOk P X nt d (acode C n d ay) y):CodeOk P X nt d (acode C n d (.seq (.hand f) ay)) (.seq c (.seq c' y)):=by
 intro σ st e σ' st' h G w0 w a hfm hA hR Q hQ
 have out :∀{Q1:Exit→Act→World→Prop} {σ1:Sl} {st1:St} {e1:AE},f σ st=some (e1,σ1,st1)→(∀a' w' G',RelA G' nt σ1 a'→Run G G' w0 st st1 w' d→Exit.then (y.wp P Q) Q (toExit e1) a' w')→(Code.seq c (.seq c' y)).wp P Q a w:=by
  intro Q1 σ1 st1 e1 h1 h2
  refine wp_seq (wp_mono (hx h1 hfm hA hR h2) fun e2 a2 w2 h3=>?_)
  cases e2 with
  | normal=>exact wp_seq h3
  | _=>exact h3
 simp only [acode] at h
 split at h
 ·rename_i σ1 st1 h1
  refine out (Q1:=Q) h1 fun a1 w1 G1 hA1 hrun1=>?_
  exact hy h (by rw [hrun1.le.fm];exact hfm) hA1 hrun1.rel fun a2 w2 G2 hA2 hrun2=>hQ a2 w2 G2 hA2 (hrun1.trans hrun2)
 ·rename_i hne
  refine out (Q1:=Q) h fun a1 w1 G1 hA1 hrun1=>?_
  have:=hQ a1 w1 G1 hA1 hrun1
  cases e with
  | normal=>exact absurd h (hne _ _)
  | exit id=>exact this
  | ret=>exact this
  | goto l=>exact this
def row152:List AV:=[.i .u64 0,.i .u8 0,.i .i64 0,.s [],.sl .ext [],.b false,.i .u64 6]
def hwS152:List Nat:=[5,198,199,200,201,202,203,204,205,206]
def hs152 (σ:Sl):Sl:=fun t=>if t=4 then .sl .full (List.replicate 411 row152) else if hwS152.contains t=true then .u else σ t
def hw152 (σ:Sl) (st:St):Option (AE × Sl × St):=some (.normal,hs152 σ,st)
section
variable {P:Program} {X:Cx}
def ActIs (nt:Nat) (f:Nat→Value) (a:Act):Prop:=a.defers=[]∧a.tmps.size=nt∧∀t,tv a t=f t
theorem ActIs.put {nt:Nat} {f:Nat→Value} {a:Act} (h:ActIs nt f a) {d:Nat} (v:Value) (hd:d<nt):ActIs nt (fun t=>if t=d then v else f t) (a.put (some d) v):=by
 obtain ⟨p1,p2,p3⟩:=h
 refine ⟨p1,by simp [Act.put,p2],fun t=>?_⟩
 rw [tv_put _ _ _ _ (by omega),p3]
theorem ActIs.self {nt:Nat} {a:Act} (h1:a.defers=[]) (h2:a.tmps.size=nt):ActIs nt (tv a) a:=⟨h1,h2,fun _=>rfl⟩
def rows152 (z:List AV) (i:Nat):List (List AV):=List.replicate i row152++List.replicate (411-i) z
theorem rows152_len (z:List AV) {i:Nat} (h:i≤411):(rows152 z i).length=411:=by simp [rows152];omega
theorem rows152_at (z:List AV) {i:Nat} (h:i<411):(rows152 z i)[i]?=some z:=by
 unfold rows152
 rw [List.getElem?_append_right (by simp),List.length_replicate,Nat.sub_self,List.getElem?_replicate,if_pos (by omega)]
theorem rows152_set (z:List AV) {i:Nat} (h:i<411):(rows152 z i).set i row152=rows152 z (i+1):=by
 unfold rows152
 rw [List.set_append_right _ _ (by simp)]
 obtain ⟨m,hm⟩ :∃m,411-i=m+1:=⟨410-i,by omega⟩
 rw [hm,List.replicate_succ,List.length_replicate,Nat.sub_self,List.set_cons_zero,List.replicate_succ',List.append_assoc,show 411-(i+1)=m from by omega]
 rfl
set_option maxHeartbeats 1000000 in
theorem fill152 {nt d tS tE tI:Nat} {i4 i5 i6 i7 i8:Nat} {ops4 ops5 ops6 ops7 ops8:Array Oper} {iE:TI} {zs:List AV} {us:List Value} {rc:List AV} (hnt:207≤nt) (htS:P.underlying tS=some (.slice tE)) (hE:TOk P tE iE) (hz:softs iE.zero=some zs) (hzl:iE.size=7) (hbt:iE.bytes=80)
  (hus:P.built tE [(2,.int .u64 6)]=some us.toArray) (hrc:cVals us=some rc) (hrow:softs rc=some row152)
  (h4:OpsAre ops4 [(some 198,.makeSlice tS (.const (.int .i64 411)) (.const (.int .i64 411))),(some 4,.assign (.tmp 198))])
  (h5:OpsAre ops5 [(some 5,.assign (.const (.int .i64 0)))])
  (h6:OpsAre ops6 [(some 199,.move (.tmp 5)),(some 200,.binOp .lss tI (.tmp 199) (.const (.int .i64 411)) tI)])
  (h7:OpsAre ops7 [(some 201,.move (.tmp 5)),(some 202,.binOp .add tI (.tmp 201) (.const (.int .i64 1)) tI),(some 5,.assign (.tmp 202))])
  (h8:OpsAre ops8 [(some 203,.move (.tmp 4)),(some 204,.move (.tmp 5)),(some 205,.build tE #[(2,.const (.int .u64 6))]),(some 206,.indexAddr tS (.tmp 203) (.tmp 204)),(none,.store tE (.tmp 206) (.tmp 205))]) :
  HandOk P X nt d hw152 (.region i4 ops4 false) (.seq (.region i5 ops5 false) (.block 0 (.loop (.seq (.seq (.region i6 ops6 false) (.cond (.tmp 200) .skip (.exit 0))) (.seq (.block 1 (.region i8 ops8 false)) (.region i7 ops7 false)))))):=by
 intro σ st e' σ' st' h G w0 w a hfm hA hR Q hQ
 cases h
 obtain ⟨ti,zv,hi,hsz,hby,hzv,hzs,hzsl,hat⟩:=zeroOf (G:=G) hE hz
 have hti:ti.size=7:=hsz.trans hzl
 have hz7:zv.cells.size=7:=hzs.trans hzl
 have hinit:=RowsAt.made (G:=G) (zs:=zs) (z:=zv.cells) (n:=411) (by rw [hzsl,hzs]) (by omega) hat
 rw [hz7] at hinit
 have husl:us.length=7:=by
  have e1:=softs_len hrow
  have e2:=(cVals_ok (G:=G) hrc).1
  have e3:row152.length=7:=rfl
  omega
 have husr :∀(j:Nat) y,row152[j]?=some y→∃u,us[j]?=some u∧Fz G.H y u∧u.oneCell'=true:=by
  intro j y hy
  have hj:j<us.length:=by
   rw [husl]
   exact (List.getElem?_eq_some_iff.1 hy).1
  exact ⟨us[j],List.getElem?_eq_getElem hj,softs_ok hrow (cVals_ok hrc) j y _ hy (List.getElem?_eq_getElem hj),cVals_one hrc _ (List.getElem_mem hj)⟩
 -- the new block
 refine wp_region ?_
 rw [h4.size]
 show wpOps P ops4 _ [0,1] _ _
 have hrun:=run_make (P:=P) w tS tE ti zv htS hi hzv .i64 .i64 411 411 (by omega) (Int.le_refl _) (by rw [hby,hbt];decide) (by decide)
 have hrun':(Instr.makeSlice tS (.int .i64 411) (.int .i64 411)).run P w=.ok (.slice (some ⟨w.heap.size,0,none⟩) 411 411) (w.alloc (.cells (madeCells zv.cells (411*7)) tE)):=by rw [hrun,hti];rfl
 have a0:ActIs nt (tv a) a:=.self hA.1 hA.2.1
 refine st_val h4 (d:=198) (v:=.slice (some ⟨w.heap.size,0,none⟩) 411 411) (w':=w.alloc (.cells (madeCells zv.cells (411*7)) tE)) rfl (fun o ho=>?_) ?_
 ·simp only [execOp,ho]
  exact run_val hrun'
 have a1:=a0.put (d:=198) (.slice (some ⟨w.heap.size,0,none⟩) 411 411) (by omega)
 generalize a.put (some 198) (.slice (some ⟨w.heap.size,0,none⟩) 411 411)=b1 at a1 ⊢
 refine st_val h4 (d:=4) (v:=.slice (some ⟨w.heap.size,0,none⟩) 411 411) (w':=w.alloc (.cells (madeCells zv.cells (411*7)) tE)) rfl (fun o ho=>?_) ?_
 ·simp only [execOp,ho]
  rw [show b1.eval (.tmp 198)=_ from a1.2.2 198]
  rfl
 have a2:=a1.put (d:=4) (.slice (some ⟨w.heap.size,0,none⟩) 411 411) (by omega)
 generalize b1.put (some 4) (.slice (some ⟨w.heap.size,0,none⟩) 411 411)=b2 at a2 ⊢
 show Code.wp P _ _ b2 _
 refine wp_seq (wp_region ?_)
 rw [h5.size]
 show wpOps P ops5 _ [0] _ _
 refine st_val h5 (d:=5) (v:=.int .i64 0) (w':=w.alloc (.cells (madeCells zv.cells (411*7)) tE)) rfl (fun o ho=>by simp only [execOp,ho];rfl) ?_
 have a3:=a2.put (d:=5) (.int .i64 0) (by omega)
 generalize b2.put (some 5) (.int .i64 0)=b3 at a3 ⊢
 show Code.wp P _ _ b3 _
 let Inv:Nat→Act→World→Prop:=fun i b' w'=>i≤411∧b'.defers=[]∧b'.tmps.size=nt∧(∀t,t≠4→hwS152.contains t=false→R G (σ t) (tv b' t))∧tv b' 4=.slice (some ⟨w.heap.size,0,none⟩) 411 411∧tv b' 5=.int .i64 (i:Int)∧∃cs,w'=w.alloc (.cells cs tE)∧RowsAt G.H (rows152 zs i) 7 cs
 have keep :∀{f g:Nat→Value} {b':Act},ActIs nt f b'→(∀t,t≠4→hwS152.contains t=false→f t=g t)→(∀t,t≠4→hwS152.contains t=false→R G (σ t) (g t))→∀t,t≠4→hwS152.contains t=false→R G (σ t) (tv b' t):=by
  intro f g b' h1 h2 h3 t h4 h5
  rw [h1.2.2 t,h2 t h4 h5]
  exact h3 t h4 h5
 have nin :∀{t d:Nat},hwS152.contains t=false→hwS152.contains d=true→t≠d:=by
  rintro t d h1 h2 rfl
  rw [h2] at h1;cases h1
 have init:Inv 0 b3 (w.alloc (.cells (madeCells zv.cells (411*7)) tE)):=by
  refine ⟨by omega,a3.1,a3.2.1,keep a3 (g:=tv a) (fun t h1 h2=>?_) (fun t _ _=>hA.2.2 t),a3.2.2 4,a3.2.2 5,_,rfl,?_⟩
  ·simp only [if_neg h1,if_neg (nin h2 (d:=5) rfl),if_neg (nin h2 (d:=198) rfl)]
  ·have e1:rows152 zs 0=List.replicate 411 zs:=by unfold rows152;rw [List.replicate_zero,List.nil_append]
   rw [e1]
   exact hinit
 have out :∀{b':Act} {w':World},Inv 411 b' w'→Q .normal b' w':=by
  rintro b' w' ⟨_,i1,i2,i3,i4,i5,cs,rfl,i6⟩
  have e1:rows152 zs 411=List.replicate 411 row152:=by unfold rows152;rw [Nat.sub_self,List.replicate_zero,List.append_nil]
  rw [e1] at i6
  obtain ⟨G',h1,h2⟩:=i6.step hR (e:=tE) (d:=d) (site:=0) (ver:=st.nx)
  rw [List.length_replicate] at h1
  refine hQ b' _ G' ⟨i1,i2,fun t=>?_⟩ h2.toRun
  show R G' (hs152 σ t) (tv b' t)
  unfold hs152
  split
  ·rename_i ht
   subst ht
   rw [i4]
   exact h1
  ·split
   ·exact .fz _ _ (.u _)
   ·rename_i h3 h4
    exact (i3 t h3 (by simpa using h4)).mono h2.le
 refine wp_block (wp_loop_rounds 412 ?_)
 have rounds :∀(m i:Nat) (b':Act) (w':World),Inv i b' w'→411-i<m→Code.rounds P (.seq (.seq (.region i6 ops6 false) (.cond (.tmp 200) .skip (.exit 0))) (.seq (.block 1 (.region i8 ops8 false)) (.region i7 ops7 false))) (Exit.inBlock 0 Q) m b' w':=by
  intro m
  induction m with
  | zero=>intro i b' w' _ h;exact absurd h (Nat.not_lt_zero _)
  | succ m ih=>
   intro i b' w' hI hm
   rw [rounds_succ]
   obtain ⟨i0,i1,i2,i3,i4',i5',cs,rfl,i6'⟩:=hI
   refine wp_seq (wp_seq (wp_region ?_))
   rw [h6.size]
   show wpOps P ops6 _ [0,1] _ _
   have c0:ActIs nt (tv b') b':=.self i1 i2
   refine st_val h6 (d:=199) (v:=.int .i64 (i:Int)) (w':=w.alloc (.cells cs tE)) rfl (fun o ho=>?_) ?_
   ·simp only [execOp,ho]
    rw [show b'.eval (.tmp 5)=_ from i5']
    rfl
   have c1:=c0.put (d:=199) (.int .i64 (i:Int)) (by omega)
   generalize b'.put (some 199) (.int .i64 (i:Int))=d1 at c1 ⊢
   refine st_val h6 (d:=200) (v:=.bool (decide ((i:Int)<411))) (w':=w.alloc (.cells cs tE)) rfl (fun o ho=>?_) ?_
   ·simp only [execOp,ho]
    refine run_val ?_
    rw [show d1.eval (.tmp 199)=.int .i64 (i:Int) from c1.2.2 199,show d1.eval (.const (.int .i64 411))=.int .i64 411 from rfl]
    simp only [Sem.run_bind,eqGuard_int,Result.andThen_ok]
    simp [binOp,Op.intCmp]
   have c2:=c1.put (d:=200) (.bool (decide ((i:Int)<411))) (by omega)
   generalize d1.put (some 200) (.bool (decide ((i:Int)<411)))=d2 at c2 ⊢
   show Code.wp P _ _ d2 _
   by_cases hlt:i<411
   ·refine wp_cond_true ?_ (wp_skip ?_)
    ·show tv d2 200=_
     exact (c2.2.2 200).trans (congrArg Value.bool (decide_eq_true (by omega)))
    show Code.wp P _ _ d2 _
    refine wp_seq (wp_block (wp_region ?_))
    rw [h8.size]
    show wpOps P ops8 _ [0,1,2,3,4] _ _
    refine st_val h8 (d:=203) (v:=.slice (some ⟨w.heap.size,0,none⟩) 411 411) (w':=w.alloc (.cells cs tE)) rfl (fun o ho=>?_) ?_
    ·simp only [execOp,ho]
     rw [show d2.eval (.tmp 4)=.slice (some ⟨w.heap.size,0,none⟩) 411 411 from (c2.2.2 4).trans i4']
     rfl
    have c3:=c2.put (d:=203) (.slice (some ⟨w.heap.size,0,none⟩) 411 411) (by omega)
    generalize d2.put (some 203) (.slice (some ⟨w.heap.size,0,none⟩) 411 411)=d3 at c3 ⊢
    refine st_val h8 (d:=204) (v:=.int .i64 (i:Int)) (w':=w.alloc (.cells cs tE)) rfl (fun o ho=>?_) ?_
    ·simp only [execOp,ho]
     rw [show d3.eval (.tmp 5)=.int .i64 (i:Int) from (c3.2.2 5).trans i5']
     rfl
    have c4:=c3.put (d:=204) (.int .i64 (i:Int)) (by omega)
    generalize d3.put (some 204) (.int .i64 (i:Int))=d4 at c4 ⊢
    refine st_val h8 (d:=205) (v:=.agg us.toArray) (w':=w.alloc (.cells cs tE)) rfl (fun o ho=>?_) ?_
    ·simp only [execOp,ho]
     exact run_val (run_build _ tE _ us.toArray (by simpa [Act.eval] using hus))
    have c5:=c4.put (d:=205) (.agg us.toArray) (by omega)
    generalize d4.put (some 205) (.agg us.toArray)=d5 at c5 ⊢
    refine st_val h8 (d:=206) (v:=.pointer (some ⟨w.heap.size,i*7,none⟩)) (w':=w.alloc (.cells cs tE)) rfl (fun o ho=>?_) ?_
    ·simp only [execOp,ho]
     refine run_val ?_
     rw [show d5.eval (.tmp 203)=.slice (some ⟨w.heap.size,0,none⟩) 411 411 from c5.2.2 203,show d5.eval (.tmp 204)=.int .i64 (i:Int) from c5.2.2 204]
     simp [Instr.indexAt,run_underlying htS,asIntOf,sizeOf,typeInfo,hi,hti,Addr.add_lit,hlt]
    have c6:=c5.put (d:=206) (.pointer (some ⟨w.heap.size,i*7,none⟩)) (by omega)
    generalize d5.put (some 206) (.pointer (some ⟨w.heap.size,i*7,none⟩))=d6 at c6 ⊢
    have hput:=i6'.put (i:=i) (off:=0) (row:=zs) (row':=row152) (us:=us) (rows152_at zs hlt) rfl (by omega) (fun j a _ _ ha=>by rw [Nat.sub_zero];exact husr j a ha) (fun j hj=>by
     have hj2:7≤j:=by omega
     rw [List.getElem?_eq_none (by show 7≤j;exact hj2),List.getElem?_eq_none (by rw [hzsl,hzl];exact hj2)])
    rw [rows152_set zs hlt] at hput
    have hcsz:cs.size=411*7:=by rw [i6'.sz,rows152_len zs i0]
    have hsto:=run_storeCells_at (P:=P) w.heap.size (i*7) tE us 0 cs (w.alloc (.cells cs tE)) (heap_alloc_new w _) (by omega) (fun v hv=>cVals_one hrc v hv)
    rw [alloc_setRow] at hsto
    simp only [Nat.add_zero] at hsto hput
    refine st_unit h8 (w':=w.alloc (.cells (cs.toList.take (i*7)++us++cs.toList.drop (i*7+us.length)).toArray tE)) rfl (fun o ho=>?_) ?_
    ·simp only [execOp,ho]
     refine run_unit ?_
     rw [show d6.eval (.tmp 206)=.pointer (some ⟨w.heap.size,i*7,none⟩) from c6.2.2 206,show d6.eval (.tmp 205)=.agg us.toArray from c6.2.2 205]
     have hsize:¬ (us.toArray.size≠ti.size):=by rw [hti];simp;omega
     simp only [Instr.storeAt,Instr.sureAddr,Sem.run_bind,Sem.run_pure,Result.andThen_ok,storeVar,sizeOf,typeInfo,run_program,hi]
     rw [if_neg (show ¬((Value.agg us.toArray).cells.size≠ti.size) from hsize)]
     exact hsto
    generalize (cs.toList.take (i*7)++us++cs.toList.drop (i*7+us.length)).toArray=cs' at hput ⊢
    show Code.wp P _ _ d6 _
    refine wp_region ?_
    rw [h7.size]
    show wpOps P ops7 _ [0,1,2] _ _
    refine st_val h7 (d:=201) (v:=.int .i64 (i:Int)) (w':=w.alloc (.cells cs' tE)) rfl (fun o ho=>?_) ?_
    ·simp only [execOp,ho]
     rw [show d6.eval (.tmp 5)=.int .i64 (i:Int) from (c6.2.2 5).trans i5']
     rfl
    have c7:=c6.put (d:=201) (.int .i64 (i:Int)) (by omega)
    generalize d6.put (some 201) (.int .i64 (i:Int))=d7 at c7 ⊢
    refine st_val h7 (d:=202) (v:=.int .i64 ((i+1:Nat):Int)) (w':=w.alloc (.cells cs' tE)) rfl (fun o ho=>?_) ?_
    ·simp only [execOp,ho]
     refine run_val ?_
     rw [show d7.eval (.tmp 201)=.int .i64 (i:Int) from c7.2.2 201,show d7.eval (.const (.int .i64 1))=.int .i64 1 from rfl]
     have e1:IntKind.i64.wrap ((i:Int)+1)=((i+1:Nat):Int):=by rw [IntKind.wrap_i64];omega
     simp only [Sem.run_bind,eqGuard_int,Result.andThen_ok]
     simp [binOp,Op.intArith,e1]
    have c8:=c7.put (d:=202) (.int .i64 ((i+1:Nat):Int)) (by omega)
    generalize d7.put (some 202) (.int .i64 ((i+1:Nat):Int))=d8 at c8 ⊢
    refine st_val h7 (d:=5) (v:=.int .i64 ((i+1:Nat):Int)) (w':=w.alloc (.cells cs' tE)) rfl (fun o ho=>?_) ?_
    ·simp only [execOp,ho]
     rw [show d8.eval (.tmp 202)=_ from c8.2.2 202]
     rfl
    have c9:=c8.put (d:=5) (.int .i64 ((i+1:Nat):Int)) (by omega)
    generalize d8.put (some 5) (.int .i64 ((i+1:Nat):Int))=d9 at c9 ⊢
    show Code.rounds P _ _ m d9 _
    refine ih (i+1) d9 _ ⟨by omega,c9.1,c9.2.1,keep c9 (g:=tv b') (fun t h1 h2=>?_) i3,(c9.2.2 4).trans i4',c9.2.2 5,cs',rfl,hput⟩ (by omega)
    simp only [if_neg (nin h2 (d:=5) rfl),if_neg (nin h2 (d:=202) rfl),if_neg (nin h2 (d:=201) rfl),if_neg (nin h2 (d:=206) rfl),if_neg (nin h2 (d:=205) rfl),if_neg (nin h2 (d:=204) rfl),if_neg (nin h2 (d:=203) rfl),if_neg (nin h2 (d:=200) rfl),if_neg (nin h2 (d:=199) rfl)]
   ·have he:i=411:=by omega
    subst he
    refine wp_cond_false ?_ (wp_exit ?_)
    ·show tv d2 200=_
     exact (c2.2.2 200).trans (congrArg Value.bool (decide_eq_false (by omega)))
    show Exit.inBlock 0 Q (.exit 0) _ _
    simp only [Exit.inBlock,if_true]
    refine out ⟨i0,c2.1,c2.2.1,keep c2 (g:=tv b') (fun t h1 h2=>?_) i3,(c2.2.2 4).trans i4',(c2.2.2 5).trans i5',cs,rfl,i6'⟩
    simp only [if_neg (nin h2 (d:=200) rfl),if_neg (nin h2 (d:=199) rfl)]
 exact rounds 412 0 b3 _ init (by omega)
end
end Go.AM

namespace Go.AM
open Go Go.RowKit
def qA:Code→Code | .seq a _=>a | c=>c
def qB:Code→Code | .seq _ b=>b | c=>c
def qU:Code→Code | .block _ c=>c | .loop c=>c | c=>c
def xA:AC→AC | .seq a _=>a | c=>c
def xB:AC→AC | .seq _ b=>b | c=>c
def gNo (ops:Array Oper):Bool:=ops.toList.all fun o=>o.guard.isNone
theorem of_gNo {ops:Array Oper} (h:gNo ops=true) :∀o∈ops.toList,o.guard=none:=fun o ho=>Option.isNone_iff_eq_none.1 (List.all_eq_true.1 h o ho)
def rOps:Code→Array Oper | .region _ o _=>o | _=>#[]
def codeOf (f:Func):Code:=f.body.getD .skip
inductive CR (P:Program) (X:Cx) (nt:Nat):Code→AC→Prop
 | leaf {c:Code} {ac:AC} (h:cCode X nt c=some ac):CR P X nt c ac
 | hand {c:Code} {f:Sl→St→Option (AE × Sl × St)} (h :∀d,CodeOk P X nt d f c):CR P X nt c (.hand f)
 | hand2 {c x y z:Code} {f:Sl→St→Option (AE × Sl × St)} {az:AC} (e:c=.seq x (.seq y z)) (h :∀d,HandOk P X nt d f x y) (hz:CR P X nt z az):CR P X nt c (.seq (.hand f) az)
 | seq {c x y:Code} {ax ay:AC} (e:c=.seq x y) (hx:CR P X nt x ax) (hy:CR P X nt y ay):CR P X nt c (.seq ax ay)
 | cond {c x y:Code} {z:Operand} {az:Opd} {ax ay:AC} (e:c=.cond z x y) (hz:cOpd X.fm z=some az) (hx:CR P X nt x ax) (hy:CR P X nt y ay):CR P X nt c (.cond az ax ay)
 | block {c x:Code} {id:Nat} {ax:AC} (e:c=.block id x) (hx:CR P X nt x ax):CR P X nt c (.block id ax)
 | loop {c x:Code} {ax:AC} (e:c=.loop x) (hx:CR P X nt x ax):CR P X nt c (.loop ax)
theorem HandOk.code {P:Program} {X:Cx} {nt d:Nat} {f:Sl→St→Option (AE × Sl × St)} {x y:Code} (h:HandOk P X nt d f x y):CodeOk P X nt d f (.seq x y):=by
 intro σ st e σ' st' h1 G w0 w a hfm hA hR Q hQ
 exact wp_seq (h h1 hfm hA hR hQ)
section
variable {P:Program} {X:Cx}
theorem CR.ok {C:CallF} (hT:TTok P X.T) (hC:CallOk P X.fm C) (hm:P.follows .mixedOrders=true) {nt:Nat} (n d:Nat) {c:Code} {ac:AC} (h:CR P X nt c ac):CodeOk P X nt d (acode C n d ac) c:=by
 induction h with
 | leaf h=>exact code_ok hT hC hm n d _ _ (Nat.lt_succ_self _) h
 | hand h=>intro σ st e σ' st' h1;exact h d h1
 | hand2 e h hz ih=>subst e;exact hand_seq_ok (h d) ih
 | seq e hx hy ihx ihy=>subst e;exact seq_ok ihx ihy
 | cond e hz hx hy ihx ihy=>
  subst e
  intro σ st e σ' st' h G w0 w a hfm hA hR Q hQ
  simp only [acode] at h
  rw [hfm] at hz
  have hv:=cOpd_ok hA hz
  unfold Same at hv
  revert hv
  split at h
  ·rename_i ht
   rw [ht]
   intro hv
   exact wp_cond_true hv.bool_inv (ihx h hfm hA hR hQ)
  ·rename_i ht
   rw [ht]
   intro hv
   exact wp_cond_false hv.bool_inv (ihy h hfm hA hR hQ)
  ·cases h
 | block e hx ih=>
  subst e
  intro σ st e σ' st' h G w0 w a hfm hA hR Q hQ
  simp only [acode] at h
  refine wp_block ?_
  split at h
  ·rename_i id' σ1 st1 h1
   refine ih h1 hfm hA hR fun a1 w1 G1 hA1 hrun1=>?_
   split at h
   ·rename_i hid
    cases h
    have:=hQ a1 w1 G1 hA1 hrun1
    simp only [toExit,Exit.inBlock,hid,if_true]
    exact this
   ·rename_i hid
    cases h
    have:=hQ a1 w1 G1 hA1 hrun1
    simp only [toExit,Exit.inBlock,hid,if_false]
    exact this
  ·rename_i hne
   refine ih h hfm hA hR fun a1 w1 G1 hA1 hrun1=>?_
   have:=hQ a1 w1 G1 hA1 hrun1
   cases e with
   | normal=>exact this
   | exit id'=>exact absurd h (hne _ _ _)
   | ret=>exact this
   | goto l=>exact this
 | loop e hx ih=>
  subst e
  intro σ st e σ' st' h G w0 w a hfm hA hR Q hQ
  simp only [acode] at h
  exact wp_loop_rounds n (loop_ok ih n h hfm hA hR hQ)
theorem GoodF.ofCR {F:AF} {c:Code} {ac:AC} (hb:F.body=ac) (h:CR P { X with fz:=F.fz } F.nt c ac):GoodF P X F c:=by
 intro hT hm C hC n d
 rw [hb]
 intro σ st e σ' st' h1
 exact CR.ok (X:={ X with fz:=F.fz }) hT hC hm n d h h1
end
theorem hw152_eq {σ:Sl} {st:St}:hw152 σ st=some (.normal,hs152 σ,st):=rfl
def panE:Pan:=⟨0,Val.mk 0 0 [] [] false,6⟩
theorem hs152_4 {σ:Sl}:hs152 σ 4=.sl .full (List.map Pan.row (rep 411 panE)):=by
 unfold rep
 rw [List.map_replicate]
 rfl
end Go.AM

namespace Go.AM
open Go
section
variable {σ:Sl} {cells cs:List AV} {off n:Nat} {x:Opd} {ps:List (Nat × Nat × Opd)}
def fOk (cells l:List AV) (off n:Nat):Bool:=Nat.beq l.length n&&Nat.ble (off+n) cells.length&&l.all AV.one
theorem f_ct {v:AV} (hc:fOk cells v.cells off n=true) (h:fillCells σ (setAt cells off v.cells) ps=some cs):fillCells σ cells ((off,n,.c v)::ps)=some cs:=f_cons rfl hc h
theorem f_ag {vs:List AV} (hx:x.ev σ=.ag vs) (hc:fOk cells vs off n=true) (h:fillCells σ (setAt cells off vs) ps=some cs):fillCells σ cells ((off,n,x)::ps)=some cs:=f_cons hx hc h
end
end Go.AM

namespace Go.AM
open Go
set_option maxRecDepth 4000
set_option maxHeartbeats 1000000
attribute [local irreducible] WO fillCells fillRows
def r152_0:List AI:=[oC 0 (.b false)]
def r152_1:List AI:=[oO 30 (.call false 172 [(.c (.i .i64 (-9223372036854775808)))]),oO 31 (.build [z7,z8,z6,zs,zl,zb,z7] [(0,1,(.c (.i .u64 1))),(1,5,(.t 30)),(6,1,(.c (.i .u64 5)))]),oO 32 (.call false 171 [(.t 31),(.c (.s [112,97,110,105,99,32,45,57,50,50,51,51,55,50,48,51,54,56,53,52,55,55,53,56,48,56,32,114,101,99,111,118,101,114,101,100,32,97,98,111,114,116,101,100]))]),oM 33 32,gT 33 (oQ 34 173 []),gT 33 (oO 35 (.build [z7,z8,z6,zs,zl,zb,z7] [(0,1,(.c (.i .u64 2))),(1,5,(.t 34)),(6,1,(.c (.i .u64 4)))])),gT 33 (oO 36 (.call false 171 [(.t 35),(.c (.s [112,97,110,105,99,32,116,114,117,101,32,97,98,111,114,116,101,100]))])),oA 37 33 36,oM 38 37,gT 38 (oO 39 (.build [z8,z6,zs,zl,zb] [(0,1,(.c (.i .u8 1)))])),gT 38 (oO 40 (.build [z7,z8,z6,zs,zl,zb,z7] [(0,1,(.c (.i .u64 2))),(1,5,(.t 39))])),gT 38 (oO 41 (.call false 171 [(.t 40),(.c (.s [112,97,110,105,99,32,102,97,108,115,101]))])),oA 42 38 41,oM 43 42,gT 43 (oO 44 (.call false 174 [(.c (.s []))])),gT 43 (oO 45 (.build [z7,z8,z6,zs,zl,zb,z7] [(0,1,(.c (.i .u64 3))),(1,5,(.t 44))])),gT 43 (oO 46 (.call false 171 [(.t 45),(.c (.s [112,97,110,105,99,32,34,34]))])),oA 47 43 46,oM 48 47,gT 48 (oO 49 (.call false 174 [(.c (.s [32,114,101,99,111,118,101,114,101,100]))])),gT 48 (oO 50 (.build [z7,z8,z6,zs,zl,zb,z7] [(0,1,(.c (.i .u64 3))),(1,5,(.t 49))])),gT 48 (oO 51 (.call false 171 [(.t 50),(.c (.s [112,97,110,105,99,32,34,32,114,101,99,111,118,101,114,101,100,34]))])),oA 52 48 51,oM 53 52,gT 53 (oO 54 (.call false 172 [(.c (.i .i64 2))])),gT 53 (oO 55 (.build [z7,z8,z6,zs,zl,zb,z7] [(0,1,(.c (.i .u64 4))),(1,5,(.t 54))])),gT 53 (oO 56 (.call false 171 [(.t 55),(.c (.s [102,97,117,108,116,32,50,58,32,110,105,108,32,112,111,105,110,116,101,114]))])),oA 57 53 56,oM 58 57,gT 58 (oO 59 (.call false 172 [(.c (.i .i64 3))])),gT 58 (oO 60 (.build [z7,z8,z6,zs,zl,zb,z7] [(0,1,(.c (.i .u64 4))),(1,5,(.t 59)),(6,1,(.c (.i .u64 1)))])),gT 58 (oO 61 (.call false 171 [(.t 60),(.c (.s [102,97,117,108,116,32,51,58,32,111,117,116,32,111,102,32,114,97,110,103,101,32,114,101,99,111,118,101,114,101,100]))])),oA 62 58 61,oM 63 62,gT 63 (oO 64 (.build [z7,z8,z6,zs,zl,zb,z7] [(6,1,(.c (.i .u64 6)))])),gT 63 (oO 65 (.call false 171 [(.t 64),(.c (.s [101,120,105,116,32,97,98,111,114,116,101,100]))])),oA 66 63 65,oM 1 66]
def r152_2:List AI:=[oO 67 (.build [z7,z8,z6,zs,zl,zb,z7] []),oQ 68 175 [67],oM 69 68,gT 69 (oO 70 (.call false 172 [(.c (.i .i64 1))])),gT 69 (oO 71 (.build [z7,z8,z6,zs,zl,zb,z7] [(0,1,(.c (.i .u64 5))),(1,5,(.t 70))])),gT 69 (oQ 72 175 [71]),oA 73 69 72,oM 74 73,gT 74 (oO 75 (.build [z7,z8,z6,zs,zl,zb,z7] [(0,1,(.c (.i .u64 1)))])),gT 74 (oQ 76 175 [75]),oA 77 74 76,oM 78 77,gT 78 (oQ 79 173 []),gT 78 (oO 80 (.build [z7,z8,z6,zs,zl,zb,z7] [(0,1,(.c (.i .u64 1))),(1,5,(.t 79))])),gT 78 (oQ 81 175 [80]),oA 82 78 81,oM 83 82,gT 83 (oO 84 (.call false 172 [(.c (.i .i64 0))])),gT 83 (oO 85 (.build [z7,z8,z6,zs,zl,zb,z7] [(0,1,(.c (.i .u64 3))),(1,5,(.t 84))])),gT 83 (oQ 86 175 [85]),oA 87 83 86,oM 88 87,gT 88 (oO 89 (.build [z8,z6,zs,zl,zb] [(0,1,(.c (.i .u8 1))),(1,1,(.c (.i .i64 2)))])),gT 88 (oO 90 (.build [z7,z8,z6,zs,zl,zb,z7] [(0,1,(.c (.i .u64 2))),(1,5,(.t 89))])),gT 88 (oQ 91 175 [90]),oA 92 88 91,oM 93 92,gT 93 (oO 94 (.call false 172 [(.c (.i .i64 0))])),gT 93 (oO 95 (.build [z7,z8,z6,zs,zl,zb,z7] [(0,1,(.c (.i .u64 4))),(1,5,(.t 94))])),gT 93 (oQ 96 175 [95]),oA 97 93 96,oM 98 97,gT 98 (oO 99 (.call false 172 [(.c (.i .i64 4))])),gT 98 (oO 100 (.build [z7,z8,z6,zs,zl,zb,z7] [(0,1,(.c (.i .u64 4))),(1,5,(.t 99))])),gT 98 (oQ 101 175 [100]),oA 102 98 101,oM 103 102,gT 103 (oO 104 (.call false 172 [(.c (.i .i64 1))])),gT 103 (oO 105 (.build [z7,z8,z6,zs,zl,zb,z7] [(0,1,(.c (.i .u64 1))),(1,5,(.t 104)),(6,1,(.c (.i .u64 2)))])),gT 103 (oQ 106 175 [105]),oA 107 103 106,oM 108 107,gT 108 (oO 109 (.call false 172 [(.c (.i .i64 1))])),gT 108 (oO 110 (.build [z7,z8,z6,zs,zl,zb,z7] [(0,1,(.c (.i .u64 1))),(1,5,(.t 109)),(6,1,(.c (.i .u64 8)))])),gT 108 (oQ 111 175 [110]),oA 112 108 111,oM 113 112,gT 113 (oO 114 (.call false 172 [(.c (.i .i64 1))])),gT 113 (oO 115 (.build [z7,z8,z6,zs,zl,zb,z7] [(0,1,(.c (.i .u64 1))),(1,5,(.t 114)),(6,1,(.c (.i .u64 9223372036854775809)))])),gT 113 (oQ 116 175 [115]),oA 117 113 116,oM 118 117,gT 118 (oO 119 (.build [z7,z8,z6,zs,zl,zb,z7] [(6,1,(.c (.i .u64 3)))])),gT 118 (oQ 120 175 [119]),oA 121 118 120,oM 122 121,gT 122 (oO 123 (.call false 172 [(.c (.i .i64 0))])),gT 122 (oO 124 (.build [z7,z8,z6,zs,zl,zb,z7] [(6,1,(.c (.i .u64 2))),(1,5,(.t 123))])),gT 122 (oQ 125 175 [124]),oA 126 122 125,oM 127 126,gT 127 (oO 128 (.build [z8,z6,zs,zl,zb] [(4,1,(.c (.b true)))])),gT 127 (oO 129 (.build [z7,z8,z6,zs,zl,zb,z7] [(6,1,(.c (.i .u64 2))),(1,5,(.t 128))])),gT 127 (oQ 130 175 [129]),oA 131 127 130,oM 132 131,gT 132 (oO 133 (.build [z7,z8,z6,zs,zl,zb,z7] [(6,1,(.c (.i .u64 4)))])),gT 132 (oQ 134 175 [133]),oA 135 132 134,oM 136 135,gT 136 (oO 137 (.mks [z8] 1 (.c (.i .i64 65)) (.c (.i .i64 65)))),gT 136 (oO 138 (.b2s (.t 137))),gT 136 (oQ 139 174 [138]),gT 136 (oO 140 (.build [z7,z8,z6,zs,zl,zb,z7] [(0,1,(.c (.i .u64 3))),(1,5,(.t 139))])),gT 136 (oQ 141 175 [140]),oA 142 136 141,oM 2 142]
def r152_3:List AI:=[oO 143 (.call false 176 [(.c (.s []))]),oM 144 143,gT 144 (oO 145 (.call false 176 [(.c (.s [112,97,110,105,99]))])),oA 146 144 145,oM 147 146,gT 147 (oO 148 (.call false 176 [(.c (.s [112,97,110,105,99,32]))])),oA 149 147 148,oM 150 149,gT 150 (oO 151 (.call false 176 [(.c (.s [112,97,110,105,99,32,49,32]))])),oA 152 150 151,oM 153 152,gT 153 (oO 154 (.call false 176 [(.c (.s [112,97,110,105,99,32,48,49]))])),oA 155 153 154,oM 156 155,gT 156 (oO 157 (.call false 176 [(.c (.s [112,97,110,105,99,32,123,125]))])),oA 158 156 157,oM 159 158,gT 159 (oO 160 (.call false 176 [(.c (.s [112,97,110,105,99,32,38,49]))])),oA 161 159 160,oM 162 161,gT 162 (oO 163 (.call false 176 [(.c (.s [112,97,110,105,99,32,49,32,97,98,111,114,116,101,100,32,114,101,99,111,118,101,114,101,100]))])),oA 164 162 163,oM 165 164,gT 165 (oO 166 (.call false 176 [(.c (.s [112,97,110,105,99,32,49,32,114,101,99,111,118,101,114,101,100,32,114,101,99,111,118,101,114,101,100]))])),oA 167 165 166,oM 168 167,gT 168 (oO 169 (.call false 176 [(.c (.s [112,97,110,105,99,32,49,114,101,99,111,118,101,114,101,100]))])),oA 170 168 169,oM 171 170,gT 171 (oO 172 (.call false 176 [(.c (.s [102,97,117,108,116,32,48,58,32]))])),oA 173 171 172,oM 174 173,gT 174 (oO 175 (.call false 176 [(.c (.s [102,97,117,108,116,32,49]))])),oA 176 174 175,oM 177 176,gT 177 (oO 178 (.call false 176 [(.c (.s [102,97,117,108,116,32,52,58,32,111,117,116,32,111,102,32,114,97,110,103,101]))])),oA 179 177 178,oM 180 179,gT 180 (oO 181 (.call false 176 [(.c (.s [102,97,117,108,116,32,50,58,32,111,117,116,32,111,102,32,114,97,110,103,101]))])),oA 182 180 181,oM 183 182,gT 183 (oO 184 (.call false 176 [(.c (.s [101,120,105,116,32,114,101,99,111,118,101,114,101,100,32,97,98,111,114,116,101,100]))])),oA 185 183 184,oM 186 185,gT 186 (oO 187 (.call false 176 [(.c (.s [101,120,105,116,32]))])),oA 188 186 187,oM 189 188,gT 189 (oO 190 (.call false 176 [(.c (.s [114,101,99,111,118,101,114,101,100]))])),oA 191 189 190,oM 192 191,gT 192 (oO 193 (.call false 176 [(.c (.s [32,97,98,111,114,116,101,100]))])),oA 194 192 193,oM 195 194,gT 195 (oO 196 (.call false 176 [(.c (.s [80,97,110,105,99,32,49]))])),oA 197 195 196,oM 3 197]
def r152_4:List AI:=[oM 208 4,oQ 209 164 [208],oM 207 209,oE 210 0 207,oE 211 1 207,oM 6 210,oM 7 211]
def r152_5:List AI:=[oM 213 4,oO 214 (.slL 7 (.t 213) none (some (.c (.i .i64 410)))),oQ 215 164 [214],oM 212 215,oE 216 0 212,oE 217 1 212,oM 8 216,oM 9 217]
def r152_6:List AI:=[oM 219 8,oQ 220 167 [219],oM 218 220,oE 221 0 218,oE 222 1 218,oM 10 221,oM 11 222]
def r152_7:List AI:=[oM 224 8,oB 225 .add (.t 224) (.c (.s [101,120,105,116,32,97,98,111,114,116,101,100,10])),oQ 226 167 [225],oM 223 226,oE 227 0 223,oE 228 1 223,oM 12 227,oM 13 228]
def r152_8:List AI:=[oO 230 (.mks [z8] 1 (.c (.i .i64 120001)) (.c (.i .i64 120001))),oO 231 (.b2s (.t 230)),oQ 232 167 [231],oM 229 232,oE 233 0 229,oE 234 1 229,oM 14 233,oM 15 234]
def r152_9:List AI:=[oO 236 (.call false 167 [(.c (.s [101,120,105,116]))]),oM 235 236,oE 237 0 235,oE 238 1 235,oM 16 237,oM 17 238]
def r152_10:List AI:=[oO 240 (.call false 167 [(.c (.s [101,120,105,116,10,10]))]),oM 239 240,oE 241 0 239,oE 242 1 239,oM 18 241,oM 19 242]
def r152_11:List AI:=[oO 244 (.call false 167 [(.c (.s []))]),oM 243 244,oE 245 0 243,oE 246 1 243,oM 20 245,oM 21 246]
def r152_12:List AI:=[oO 248 (.call false 164 [(.c (.sl .full []))]),oM 247 248,oE 249 0 247,oE 250 1 247,oM 22 249,oM 23 250]
def r152_13:List AI:=[oO 252 (.mks [z8] 1 (.c (.i .i64 2001)) (.c (.i .i64 2001))),oO 253 (.b2s (.t 252)),oQ 254 156 [253],oM 251 254,oE 255 0 251,oE 256 1 251,oO 24 (.alloc [z7,z8,z6,zs,zl,zb,z7]),oS 7 24 255,oM 25 256]
def r152_14:List AI:=[oM 258 4,oQ 259 165 [258],oM 257 259,oE 260 0 257,oE 261 1 257,oM 26 260,oM 27 261]
def r152_15:List AI:=[oO 263 (.call false 165 [(.c (.sl .full []))]),oM 262 263,oE 264 0 262,oE 265 1 262,oM 28 264,oM 29 265]
def r152_16:List AI:=[oC 266 (.b true),gT 266 (oM 267 1),oA 268 266 267,oM 269 268,gT 269 (oM 270 2),oA 271 269 270,oM 272 271,gT 272 (oM 273 3),oA 274 272 273,oM 275 274,gT 275 (oM 276 7),gT 275 (oV 277 .eql 276 4),oA 278 275 277,oM 279 278,gT 279 (oM 280 9),gT 279 (oV 281 .eql 280 0),oA 282 279 281,oM 283 282,gT 283 (oM 284 8),gT 283 (oH 285 284),gT 283 (oV 286 .eql 285 5330),oA 287 283 286,oM 288 287,gT 288 (oM 289 11),gT 288 (oV 290 .eql 289 0),oA 291 288 290,oM 292 291,gT 292 (oM 293 10),gT 292 (oJ 294 293),gT 292 (oV 295 .eql 294 410),oA 296 292 295,oM 297 296,gT 297 (oM 298 13),gT 297 (oV 299 .eql 298 12),oA 300 297 299,oM 301 300,gT 301 (oM 302 15),gT 301 (oV 303 .eql 302 4),oA 304 301 303,oM 305 304,gT 305 (oM 306 17),gT 305 (oV 307 .eql 306 12),oA 308 305 307,oM 309 308,gT 309 (oM 310 19),gT 309 (oV 311 .eql 310 12),oA 312 309 311,oM 313 312,gT 313 (oM 314 21),gT 313 (oV 315 .eql 314 0),oA 316 313 315,oM 317 316,gT 317 (oM 318 20),gT 317 (oJ 319 318),gT 317 (oV 320 .eql 319 0),oA 321 317 320,oM 322 321,gT 322 (oM 323 23),gT 322 (oV 324 .eql 323 0),oA 325 322 324,oM 326 325,gT 326 (oM 327 22),gT 326 (oB 328 .eql (.t 327) (.c (.s []))),oA 329 326 328,oM 330 329,gT 330 (oM 331 25),gT 330 (oV 332 .eql 331 4),oA 333 330 332,oM 334 333,gT 334 (oM 335 27),gT 334 (oV 336 .eql 335 4),oA 337 334 336,oM 338 337,gT 338 (oM 339 29),gT 338 (oV 340 .eql 339 6),oA 341 338 340,oM 342 341,gT 342 (oQ 343 161 []),oA 344 342 343,oM 0 344]
abbrev c152_0:AC:=(sR 21 r152_16 .ret)
abbrev c152_1:AC:=(sR 20 r152_15 c152_0)
abbrev c152_2:AC:=(sR 19 r152_14 c152_1)
abbrev c152_3:AC:=(sR 18 r152_13 c152_2)
abbrev c152_4:AC:=(sR 17 r152_12 c152_3)
abbrev c152_5:AC:=(sR 16 r152_11 c152_4)
abbrev c152_6:AC:=(sR 15 r152_10 c152_5)
abbrev c152_7:AC:=(sR 14 r152_9 c152_6)
abbrev c152_8:AC:=(sR 13 r152_8 c152_7)
abbrev c152_9:AC:=(sR 12 r152_7 c152_8)
abbrev c152_10:AC:=(sR 11 r152_6 c152_9)
abbrev c152_11:AC:=(sR 10 r152_5 c152_10)
abbrev c152_12:AC:=(sR 9 r152_4 c152_11)
abbrev c152_13:AC:=(sR 3 r152_3 (.seq (.hand hw152) c152_12))
abbrev c152_14:AC:=(sR 2 r152_2 c152_13)
abbrev c152_15:AC:=(sR 1 r152_1 c152_14)
abbrev b152:AC:=(sR 0 r152_0 c152_15)
def pf152:AF:={ nt:=345,res:=[.tmp 0],body:=b152 }
def T152_16 (prog:Prog)(K:Bool→Prop)(lines1:Bool)(bads2:Bool)(nones3:Bool)(a7:Int)(all8:BS)(b9:Int)(back10:List Pan)(c11:Int)(d13:Int)(e15:Int)(f17:Int)(g19:Int)(none20:List Pan)(h21:Int)(empty22:BS)(i23:Int)(j25:Int)(k27:Int)(l29:Int):Prop:=
  (lines1=true→(bads2=true→(nones3=true→(a7=4→(b9=0→((all8.length:Int)=5330→(c11=0→((back10.length:Int)=410→(d13=12→(e15=4→(f17=12→(g19=12→(h21=0→((none20.length:Int)=0→(i23=0→(empty22=([]:BS)→(j25=4→(k27=4→(l29=6→Pus prog 161 [] (.b true)∧K true)∧(¬(l29=6)→K false))∧(¬(k27=4)→K false))∧(¬(j25=4)→K false))∧(¬(empty22=([]:BS))→K false))∧(¬(i23=0)→K false))∧(¬((none20.length:Int)=0)→K false))∧(¬(h21=0)→K false))∧(¬(g19=12)→K false))∧(¬(f17=12)→K false))∧(¬(e15=4)→K false))∧(¬(d13=12)→K false))∧(¬((back10.length:Int)=410)→K false))∧(¬(c11=0)→K false))∧(¬((all8.length:Int)=5330)→K false))∧(¬(b9=0)→K false))∧(¬(a7=4)→K false))∧(nones3=false→K false))∧(bads2=false→K false))∧(lines1=false→K false)
def T152_15 (prog:Prog)(K:Bool→Prop)(lines1:Bool)(bads2:Bool)(nones3:Bool)(a7:Int)(all8:BS)(b9:Int)(back10:List Pan)(c11:Int)(d13:Int)(e15:Int)(f17:Int)(g19:Int)(none20:List Pan)(h21:Int)(empty22:BS)(i23:Int)(j25:Int)(k27:Int):Prop:=
  ∃e c,Pus prog 165 [.sl .ext (List.map Pan.row ([]:List Pan))] (.tup [.i .i64 e,.i .i64 c])∧T152_16 prog K lines1 bads2 nones3 a7 all8 b9 back10 c11 d13 e15 f17 g19 none20 h21 empty22 i23 j25 k27 c
def T152_14 (prog:Prog)(K:Bool→Prop)(lines1:Bool)(bads2:Bool)(nones3:Bool)(many4:List Pan)(a7:Int)(all8:BS)(b9:Int)(back10:List Pan)(c11:Int)(d13:Int)(e15:Int)(f17:Int)(g19:Int)(none20:List Pan)(h21:Int)(empty22:BS)(i23:Int)(j25:Int):Prop:=
  ∃e c,Pus prog 165 [.sl .ext (List.map Pan.row many4)] (.tup [.i .i64 e,.i .i64 c])∧T152_15 prog K lines1 bads2 nones3 a7 all8 b9 back10 c11 d13 e15 f17 g19 none20 h21 empty22 i23 j25 c
def T152_13 (prog:Prog)(K:Bool→Prop)(lines1:Bool)(bads2:Bool)(nones3:Bool)(many4:List Pan)(a7:Int)(all8:BS)(b9:Int)(back10:List Pan)(c11:Int)(d13:Int)(e15:Int)(f17:Int)(g19:Int)(none20:List Pan)(h21:Int)(empty22:BS)(i23:Int):Prop:=
  ∃e:Pan,∃c,Pus prog 156 [.s (rep 2001 0)] (.tup [e.av,.i .i64 c])∧T152_14 prog K lines1 bads2 nones3 many4 a7 all8 b9 back10 c11 d13 e15 f17 g19 none20 h21 empty22 i23 c
def T152_12 (prog:Prog)(K:Bool→Prop)(lines1:Bool)(bads2:Bool)(nones3:Bool)(many4:List Pan)(a7:Int)(all8:BS)(b9:Int)(back10:List Pan)(c11:Int)(d13:Int)(e15:Int)(f17:Int)(g19:Int)(none20:List Pan)(h21:Int):Prop:=
  ∃e c,Pus prog 164 [.sl .ext (List.map Pan.row ([]:List Pan))] (.tup [.s e,.i .i64 c])∧T152_13 prog K lines1 bads2 nones3 many4 a7 all8 b9 back10 c11 d13 e15 f17 g19 none20 h21 e c
def T152_11 (prog:Prog)(K:Bool→Prop)(lines1:Bool)(bads2:Bool)(nones3:Bool)(many4:List Pan)(a7:Int)(all8:BS)(b9:Int)(back10:List Pan)(c11:Int)(d13:Int)(e15:Int)(f17:Int)(g19:Int):Prop:=
  ∃e c,Pus prog 167 [.s ([]:BS)] (.tup [.sl .ext (List.map Pan.row e),.i .i64 c])∧T152_12 prog K lines1 bads2 nones3 many4 a7 all8 b9 back10 c11 d13 e15 f17 g19 e c
def T152_10 (prog:Prog)(K:Bool→Prop)(lines1:Bool)(bads2:Bool)(nones3:Bool)(many4:List Pan)(a7:Int)(all8:BS)(b9:Int)(back10:List Pan)(c11:Int)(d13:Int)(e15:Int)(f17:Int):Prop:=
  ∃e c,Pus prog 167 [.s ([101,120,105,116,10,10]:BS)] (.tup [.sl .ext (List.map Pan.row e),.i .i64 c])∧T152_11 prog K lines1 bads2 nones3 many4 a7 all8 b9 back10 c11 d13 e15 f17 c
def T152_9 (prog:Prog)(K:Bool→Prop)(lines1:Bool)(bads2:Bool)(nones3:Bool)(many4:List Pan)(a7:Int)(all8:BS)(b9:Int)(back10:List Pan)(c11:Int)(d13:Int)(e15:Int):Prop:=
  ∃e c,Pus prog 167 [.s ([101,120,105,116]:BS)] (.tup [.sl .ext (List.map Pan.row e),.i .i64 c])∧T152_10 prog K lines1 bads2 nones3 many4 a7 all8 b9 back10 c11 d13 e15 c
def T152_8 (prog:Prog)(K:Bool→Prop)(lines1:Bool)(bads2:Bool)(nones3:Bool)(many4:List Pan)(a7:Int)(all8:BS)(b9:Int)(back10:List Pan)(c11:Int)(d13:Int):Prop:=
  ∃e c,Pus prog 167 [.s (rep 120001 0)] (.tup [.sl .ext (List.map Pan.row e),.i .i64 c])∧T152_9 prog K lines1 bads2 nones3 many4 a7 all8 b9 back10 c11 d13 c
def T152_7 (prog:Prog)(K:Bool→Prop)(lines1:Bool)(bads2:Bool)(nones3:Bool)(many4:List Pan)(a7:Int)(all8:BS)(b9:Int)(back10:List Pan)(c11:Int):Prop:=
  all8.length+([101,120,105,116,32,97,98,111,114,116,101,100,10]:BS).length≤maxStr∧∃e c,Pus prog 167 [.s (all8++([101,120,105,116,32,97,98,111,114,116,101,100,10]:BS))] (.tup [.sl .ext (List.map Pan.row e),.i .i64 c])∧T152_8 prog K lines1 bads2 nones3 many4 a7 all8 b9 back10 c11 c
def T152_6 (prog:Prog)(K:Bool→Prop)(lines1:Bool)(bads2:Bool)(nones3:Bool)(many4:List Pan)(a7:Int)(all8:BS)(b9:Int):Prop:=
  ∃e c,Pus prog 167 [.s all8] (.tup [.sl .ext (List.map Pan.row e),.i .i64 c])∧T152_7 prog K lines1 bads2 nones3 many4 a7 all8 b9 e c
def T152_5 (prog:Prog)(K:Bool→Prop)(lines1:Bool)(bads2:Bool)(nones3:Bool)(many4:List Pan)(a7:Int):Prop:=
  410≤many4.length∧∃e c,Pus prog 164 [.sl .ext (List.map Pan.row (many4.take 410))] (.tup [.s e,.i .i64 c])∧T152_6 prog K lines1 bads2 nones3 many4 a7 e c
def T152_4 (prog:Prog)(K:Bool→Prop)(lines1:Bool)(bads2:Bool)(nones3:Bool)(many4:List Pan):Prop:=
  ∃e c,Pus prog 164 [.sl .ext (List.map Pan.row many4)] (.tup [.s e,.i .i64 c])∧T152_5 prog K lines1 bads2 nones3 many4 c
def T152_3 (prog:Prog)(K:Bool→Prop)(lines1:Bool)(bads2:Bool):Prop:=
  Pus prog 176 [.s ([]:BS)] (.b true)∧Pus prog 176 [.s ([112,97,110,105,99]:BS)] (.b true)∧Pus prog 176 [.s ([112,97,110,105,99,32]:BS)] (.b true)∧Pus prog 176 [.s ([112,97,110,105,99,32,49,32]:BS)] (.b true)∧Pus prog 176 [.s ([112,97,110,105,99,32,48,49]:BS)] (.b true)∧Pus prog 176 [.s ([112,97,110,105,99,32,123,125]:BS)] (.b true)∧Pus prog 176 [.s ([112,97,110,105,99,32,38,49]:BS)] (.b true)∧Pus prog 176 [.s ([112,97,110,105,99,32,49,32,97,98,111,114,116,101,100,32,114,101,99,111,118,101,114,101,100]:BS)] (.b true)∧Pus prog 176 [.s ([112,97,110,105,99,32,49,32,114,101,99,111,118,101,114,101,100,32,114,101,99,111,118,101,114,101,100]:BS)] (.b true)∧Pus prog 176 [.s ([112,97,110,105,99,32,49,114,101,99,111,118,101,114,101,100]:BS)] (.b true)∧Pus prog 176 [.s ([102,97,117,108,116,32,48,58,32]:BS)] (.b true)∧Pus prog 176 [.s ([102,97,117,108,116,32,49]:BS)] (.b true)∧Pus prog 176 [.s ([102,97,117,108,116,32,52,58,32,111,117,116,32,111,102,32,114,97,110,103,101]:BS)] (.b true)∧Pus prog 176 [.s ([102,97,117,108,116,32,50,58,32,111,117,116,32,111,102,32,114,97,110,103,101]:BS)] (.b true)∧Pus prog 176 [.s ([101,120,105,116,32,114,101,99,111,118,101,114,101,100,32,97,98,111,114,116,101,100]:BS)] (.b true)∧Pus prog 176 [.s ([101,120,105,116,32]:BS)] (.b true)∧Pus prog 176 [.s ([114,101,99,111,118,101,114,101,100]:BS)] (.b true)∧Pus prog 176 [.s ([32,97,98,111,114,116,101,100]:BS)] (.b true)∧Pus prog 176 [.s ([80,97,110,105,99,32,49]:BS)] (.b true)∧T152_4 prog K lines1 bads2 true (rep 411 panE)
def T152_2 (prog:Prog)(K:Bool→Prop)(lines1:Bool):Prop:=
  Pus prog 175 [.ag [.i .u64 0,.i .u8 0,.i .i64 0,.s [],.sl .ext (List.map Val.row ([]:List Val)),.b false,.i .u64 0]] (.b true)∧∃c:Val,Pus prog 172 [.i .i64 1] (c.av)∧Pus prog 175 [.ag [.i .u64 5,.i .u8 c.kind,.i .i64 c.int,.s c.text,.sl .ext (List.map Val.row c.list),.b c.cut,.i .u64 0]] (.b true)∧Pus prog 175 [.ag [.i .u64 1,.i .u8 0,.i .i64 0,.s [],.sl .ext (List.map Val.row ([]:List Val)),.b false,.i .u64 0]] (.b true)∧∃r:Val,Pus prog 173 [] (r.av)∧Pus prog 175 [.ag [.i .u64 1,.i .u8 r.kind,.i .i64 r.int,.s r.text,.sl .ext (List.map Val.row r.list),.b r.cut,.i .u64 0]] (.b true)∧∃k:Val,Pus prog 172 [.i .i64 0] (k.av)∧Pus prog 175 [.ag [.i .u64 3,.i .u8 k.kind,.i .i64 k.int,.s k.text,.sl .ext (List.map Val.row k.list),.b k.cut,.i .u64 0]] (.b true)∧Pus prog 175 [.ag [.i .u64 2,.i .u8 1,.i .i64 2,.s [],.sl .ext (List.map Val.row ([]:List Val)),.b false,.i .u64 0]] (.b true)∧∃o:Val,Pus prog 172 [.i .i64 0] (o.av)∧Pus prog 175 [.ag [.i .u64 4,.i .u8 o.kind,.i .i64 o.int,.s o.text,.sl .ext (List.map Val.row o.list),.b o.cut,.i .u64 0]] (.b true)∧∃p:Val,Pus prog 172 [.i .i64 4] (p.av)∧Pus prog 175 [.ag [.i .u64 4,.i .u8 p.kind,.i .i64 p.int,.s p.text,.sl .ext (List.map Val.row p.list),.b p.cut,.i .u64 0]] (.b true)∧∃j:Val,Pus prog 172 [.i .i64 1] (j.av)∧Pus prog 175 [.ag [.i .u64 1,.i .u8 j.kind,.i .i64 j.int,.s j.text,.sl .ext (List.map Val.row j.list),.b j.cut,.i .u64 2]] (.b true)∧∃u:Val,Pus prog 172 [.i .i64 1] (u.av)∧Pus prog 175 [.ag [.i .u64 1,.i .u8 u.kind,.i .i64 u.int,.s u.text,.sl .ext (List.map Val.row u.list),.b u.cut,.i .u64 8]] (.b true)∧∃q:Val,Pus prog 172 [.i .i64 1] (q.av)∧Pus prog 175 [.ag [.i .u64 1,.i .u8 q.kind,.i .i64 q.int,.s q.text,.sl .ext (List.map Val.row q.list),.b q.cut,.i .u64 9223372036854775809]] (.b true)∧Pus prog 175 [.ag [.i .u64 0,.i .u8 0,.i .i64 0,.s [],.sl .ext (List.map Val.row ([]:List Val)),.b false,.i .u64 3]] (.b true)∧∃e:Val,Pus prog 172 [.i .i64 0] (e.av)∧Pus prog 175 [.ag [.i .u64 0,.i .u8 e.kind,.i .i64 e.int,.s e.text,.sl .ext (List.map Val.row e.list),.b e.cut,.i .u64 2]] (.b true)∧Pus prog 175 [.ag [.i .u64 0,.i .u8 0,.i .i64 0,.s [],.sl .ext (List.map Val.row ([]:List Val)),.b true,.i .u64 2]] (.b true)∧Pus prog 175 [.ag [.i .u64 0,.i .u8 0,.i .i64 0,.s [],.sl .ext (List.map Val.row ([]:List Val)),.b false,.i .u64 4]] (.b true)∧∃v:Val,Pus prog 174 [.s (rep 65 0)] (v.av)∧Pus prog 175 [.ag [.i .u64 3,.i .u8 v.kind,.i .i64 v.int,.s v.text,.sl .ext (List.map Val.row v.list),.b v.cut,.i .u64 0]] (.b true)∧T152_3 prog K lines1 true
def T152_1 (prog:Prog)(K:Bool→Prop) :Prop:=
  ∃c:Val,Pus prog 172 [.i .i64 (-9223372036854775808)] (c.av)∧Pus prog 171 [.ag [.i .u64 1,.i .u8 c.kind,.i .i64 c.int,.s c.text,.sl .ext (List.map Val.row c.list),.b c.cut,.i .u64 5],.s ([112,97,110,105,99,32,45,57,50,50,51,51,55,50,48,51,54,56,53,52,55,55,53,56,48,56,32,114,101,99,111,118,101,114,101,100,32,97,98,111,114,116,101,100]:BS)] (.b true)∧∃p:Val,Pus prog 173 [] (p.av)∧Pus prog 171 [.ag [.i .u64 2,.i .u8 p.kind,.i .i64 p.int,.s p.text,.sl .ext (List.map Val.row p.list),.b p.cut,.i .u64 4],.s ([112,97,110,105,99,32,116,114,117,101,32,97,98,111,114,116,101,100]:BS)] (.b true)∧Pus prog 171 [.ag [.i .u64 2,.i .u8 1,.i .i64 0,.s [],.sl .ext (List.map Val.row ([]:List Val)),.b false,.i .u64 0],.s ([112,97,110,105,99,32,102,97,108,115,101]:BS)] (.b true)∧∃j:Val,Pus prog 174 [.s ([]:BS)] (j.av)∧Pus prog 171 [.ag [.i .u64 3,.i .u8 j.kind,.i .i64 j.int,.s j.text,.sl .ext (List.map Val.row j.list),.b j.cut,.i .u64 0],.s ([112,97,110,105,99,32,34,34]:BS)] (.b true)∧∃k:Val,Pus prog 174 [.s ([32,114,101,99,111,118,101,114,101,100]:BS)] (k.av)∧Pus prog 171 [.ag [.i .u64 3,.i .u8 k.kind,.i .i64 k.int,.s k.text,.sl .ext (List.map Val.row k.list),.b k.cut,.i .u64 0],.s ([112,97,110,105,99,32,34,32,114,101,99,111,118,101,114,101,100,34]:BS)] (.b true)∧∃o:Val,Pus prog 172 [.i .i64 2] (o.av)∧Pus prog 171 [.ag [.i .u64 4,.i .u8 o.kind,.i .i64 o.int,.s o.text,.sl .ext (List.map Val.row o.list),.b o.cut,.i .u64 0],.s ([102,97,117,108,116,32,50,58,32,110,105,108,32,112,111,105,110,116,101,114]:BS)] (.b true)∧∃e:Val,Pus prog 172 [.i .i64 3] (e.av)∧Pus prog 171 [.ag [.i .u64 4,.i .u8 e.kind,.i .i64 e.int,.s e.text,.sl .ext (List.map Val.row e.list),.b e.cut,.i .u64 1],.s ([102,97,117,108,116,32,51,58,32,111,117,116,32,111,102,32,114,97,110,103,101,32,114,101,99,111,118,101,114,101,100]:BS)] (.b true)∧Pus prog 171 [.ag [.i .u64 0,.i .u8 0,.i .i64 0,.s [],.sl .ext (List.map Val.row ([]:List Val)),.b false,.i .u64 6],.s ([101,120,105,116,32,97,98,111,114,116,101,100]:BS)] (.b true)∧T152_2 prog K true
def T152_0 (prog:Prog)(K:Bool→Prop) :Prop:=
  T152_1 prog K 
section
variable {prog:Prog}{d:Nat}{Q:AE→Sl→St→Prop}{K:Bool→Prop}(hQ:H1 AV.b 0 Q K){σ:Sl}{st:St}
include hQ
variable {lines1 bads2 nones3:Bool}{a7:Int}{all8:BS}{b9:Int}{back10:List Pan}{c11 d13 e15 f17 g19:Int}{none20:List Pan}{h21:Int}{empty22:BS}{i23 j25 k27 l29:Int}{o_back10 o_none20:Own}{many4:List Pan}{o_many4:Own}
variable (H1:σ 1=.b lines1)(H2:σ 2=.b bads2)(H3:σ 3=.b nones3)(H4:σ 4=.sl o_many4 (List.map Pan.row many4))(H7:σ 7=.i .i64 a7)(H8:σ 8=.s all8)(H9:σ 9=.i .i64 b9)(H10:σ 10=.sl o_back10 (List.map Pan.row back10))(H11:σ 11=.i .i64 c11)(H13:σ 13=.i .i64 d13)(H15:σ 15=.i .i64 e15)(H17:σ 17=.i .i64 f17)(H19:σ 19=.i .i64 g19)(H20:σ 20=.sl o_none20 (List.map Pan.row none20))(H21:σ 21=.i .i64 h21)(H22:σ 22=.s empty22)(H23:σ 23=.i .i64 i23)(H25:σ 25=.i .i64 j25)(H27:σ 27=.i .i64 k27)(A4:ApM d st.ow o_many4 many4.length)(H29:σ 29=.i .i64 l29)
include H1 H2 H3 H7 H8 H9 H10 H11 H13 H15 H17 H19 H20 H21 H22 H23 H25 H27 H29 in
theorem w152_16 (h:T152_16 prog K lines1 bads2 nones3 a7 all8 b9 back10 c11 d13 e15 f17 g19 none20 h21 empty22 i23 j25 k27 l29):W prog d c152_0 σ st Q:=
 q_ J (s_mvB J (gy_ J (s_mvB H1 (z_ 2 J (eb_ (g:=269) J (fun c=>gy_ J (s_mvB H2 (z_ 2 J (eb_ (g:=272) J (fun e=>gy_ J (s_mvB H3 (z_ 2 J (eb_ (g:=275) J (fun i=>gy_ J (s_mvI H7 (gy_ J (b_ J J eql_ (z_ 2 J (em_ (g:=279) J (fun j=>gy_ J (s_mvI H9 (gy_ J (b_ J J eql_ (z_ 2 J (em_ (g:=283) J (fun k=>gy_ J (s_mvS H8 (gy_ J (ln_ J (gy_ J (b_ J J eql_ (z_ 2 J (em_ (g:=288) J (fun o=>gy_ J (s_mvI H11 (gy_ J (b_ J J eql_ (z_ 2 J (em_ (g:=292) J (fun p=>gy_ J (s_mvL H10 (gy_ J (ll_ J (gy_ J (b_ J J eql_ (z_ 2 J (em_ (g:=297) J (fun q=>gy_ J (s_mvI H13 (gy_ J (b_ J J eql_ (z_ 2 J (em_ (g:=301) J (fun r=>gy_ J (s_mvI H15 (gy_ J (b_ J J eql_ (z_ 2 J (em_ (g:=305) J (fun s=>gy_ J (s_mvI H17 (gy_ J (b_ J J eql_ (z_ 2 J (em_ (g:=309) J (fun u=>gy_ J (s_mvI H19 (gy_ J (b_ J J eql_ (z_ 2 J (em_ (g:=313) J (fun v=>gy_ J (s_mvI H21 (gy_ J (b_ J J eql_ (z_ 2 J (em_ (g:=317) J (fun w=>gy_ J (s_mvL H20 (gy_ J (ll_ J (gy_ J (b_ J J eql_ (z_ 2 J (em_ (g:=322) J (fun x=>gy_ J (s_mvI H23 (gy_ J (b_ J J eql_ (z_ 2 J (em_ (g:=326) J (fun y=>gy_ J (s_mvS H22 (gy_ J (b_ J J seq_ (z_ 2 J (em_ (g:=330) J (fun z=>gy_ J (s_mvI H25 (gy_ J (b_ J J eql_ (z_ 2 J (em_ (g:=334) J (fun a0=>gy_ J (s_mvI H27 (gy_ J (b_ J J eql_ (z_ 2 J (em_ (g:=338) J (fun a1=>gy_ J (s_mvI H29 (gy_ J (b_ J J eql_ (z_ 2 J (em_ (g:=342) J (fun a2=>gy_ J (ca_ sn (((((((((((((((((((h.1 c).1 e).1 i).1 j).1 k).1 o).1 p).1 q).1 r).1 s).1 u).1 v).1 w).1 x).1 y).1 z).1 a0).1 a1).1 a2).1 (z_ 2 J (er_ (hQ J (((((((((((((((((((h.1 c).1 e).1 i).1 j).1 k).1 o).1 p).1 q).1 r).1 s).1 u).1 v).1 w).1 x).1 y).1 z).1 a0).1 a1).1 a2).2))))) (fun a2=>z_ 3 J (er_ (hQ J (((((((((((((((((((h.1 c).1 e).1 i).1 j).1 k).1 o).1 p).1 q).1 r).1 s).1 u).1 v).1 w).1 x).1 y).1 z).1 a0).1 a1).2 a2)))))))))) (fun a1=>z_ 7 J (er_ (hQ J ((((((((((((((((((h.1 c).1 e).1 i).1 j).1 k).1 o).1 p).1 q).1 r).1 s).1 u).1 v).1 w).1 x).1 y).1 z).1 a0).2 a1)))))))))) (fun a0=>z_ 11 J (er_ (hQ J (((((((((((((((((h.1 c).1 e).1 i).1 j).1 k).1 o).1 p).1 q).1 r).1 s).1 u).1 v).1 w).1 x).1 y).1 z).2 a0)))))))))) (fun z=>z_ 15 J (er_ (hQ J ((((((((((((((((h.1 c).1 e).1 i).1 j).1 k).1 o).1 p).1 q).1 r).1 s).1 u).1 v).1 w).1 x).1 y).2 z)))))))))) (fun y=>z_ 19 J (er_ (hQ J (((((((((((((((h.1 c).1 e).1 i).1 j).1 k).1 o).1 p).1 q).1 r).1 s).1 u).1 v).1 w).1 x).2 y)))))))))) (fun x=>z_ 23 J (er_ (hQ J ((((((((((((((h.1 c).1 e).1 i).1 j).1 k).1 o).1 p).1 q).1 r).1 s).1 u).1 v).1 w).2 x)))))))))))) (fun w=>z_ 28 J (er_ (hQ J (((((((((((((h.1 c).1 e).1 i).1 j).1 k).1 o).1 p).1 q).1 r).1 s).1 u).1 v).2 w)))))))))) (fun v=>z_ 32 J (er_ (hQ J ((((((((((((h.1 c).1 e).1 i).1 j).1 k).1 o).1 p).1 q).1 r).1 s).1 u).2 v)))))))))) (fun u=>z_ 36 J (er_ (hQ J (((((((((((h.1 c).1 e).1 i).1 j).1 k).1 o).1 p).1 q).1 r).1 s).2 u)))))))))) (fun s=>z_ 40 J (er_ (hQ J ((((((((((h.1 c).1 e).1 i).1 j).1 k).1 o).1 p).1 q).1 r).2 s)))))))))) (fun r=>z_ 44 J (er_ (hQ J (((((((((h.1 c).1 e).1 i).1 j).1 k).1 o).1 p).1 q).2 r)))))))))) (fun q=>z_ 48 J (er_ (hQ J ((((((((h.1 c).1 e).1 i).1 j).1 k).1 o).1 p).2 q)))))))))))) (fun p=>z_ 53 J (er_ (hQ J (((((((h.1 c).1 e).1 i).1 j).1 k).1 o).2 p)))))))))) (fun o=>z_ 57 J (er_ (hQ J ((((((h.1 c).1 e).1 i).1 j).1 k).2 o)))))))))))) (fun k=>z_ 62 J (er_ (hQ J (((((h.1 c).1 e).1 i).1 j).2 k)))))))))) (fun j=>z_ 66 J (er_ (hQ J ((((h.1 c).1 e).1 i).2 j)))))))))) (fun i=>z_ 70 J (er_ (hQ J (((h.1 c).1 e).2 i)))))))) (fun e=>z_ 73 J (er_ (hQ J ((h.1 c).2 e)))))))) (fun c=>z_ 76 J (er_ (hQ J (h.2 c)))))))))
include H1 H2 H3 H7 H8 H9 H10 H11 H13 H15 H17 H19 H20 H21 H22 H23 H25 H27 in
theorem w152_15 (h:T152_15 prog K lines1 bads2 nones3 a7 all8 b9 back10 c11 d13 e15 f17 g19 none20 h21 empty22 i23 j25 k27):W prog d c152_1 σ st Q:=
 q_ J (x2 h fun _ _ c=>ca_ (sc1 (show _=AV.sl .full (List.map Pan.row []) from J) J) c.1 (m_ (x_ J J (x_ J J (m_ (m_ (e_ (w152_16 hQ H1 H2 H3 H7 H8 H9 H10 H11 H13 H15 H17 H19 H20 H21 H22 H23 H25 H27 J c.2))))))))
include H1 H2 H3 H4 H7 H8 H9 H10 H11 H13 H15 H17 H19 H20 H21 H22 H23 H25 A4 in
theorem w152_14 (h:T152_14 prog K lines1 bads2 nones3 many4 a7 all8 b9 back10 c11 d13 e15 f17 g19 none20 h21 empty22 i23 j25):W prog d c152_2 σ st Q:=
 q_ J (s_mvL H4 (x2 h fun _ _ c=>ca_ (sc1 J J) c.1 (m_ (x_ J J (x_ J J (m_ (m_ (e_ (w152_15 hQ H1 H2 H3 H7 H8 H9 H10 H11 H13 H15 H17 H19 H20 H21 H22 H23 H25 J c.2)))))))))
include H1 H2 H3 H4 H7 H8 H9 H10 H11 H13 H15 H17 H19 H20 H21 H22 H23 A4 in
theorem w152_13 (h:T152_13 prog K lines1 bads2 nones3 many4 a7 all8 b9 back10 c11 d13 e15 f17 g19 none20 h21 empty22 i23):W prog d c152_3 σ st Q:=
 sq_ (W.reg (s_mks (n:=2001) (m:=2001) (f:=row8) (a:=0) J J J J J (by decide) J ⟨by decide,by decide⟩ (s_b2s J (x2 h fun _ _ c=>ca_ (sc1 J J) c.1 (m_ (x_ J J (x_ J J (s_alloc (so_ J (show lk _ (d,73734)=some (_,([.i .u64 0,.i .u8 0,.i .i64 0,.s [],.sl .full (List.map Val.row ([]:List Val)),.b false,.i .u64 0]:List AV)) from lk_here) J J J (m_ (e_ (w152_14 hQ H1 H2 H3 H4 H7 H8 H9 H10 H11 H13 H15 H17 H19 H20 H21 H22 H23 J A4 c.2))))))))))))
include H1 H2 H3 H4 H7 H8 H9 H10 H11 H13 H15 H17 H19 H20 H21 A4 in
theorem w152_12 (h:T152_12 prog K lines1 bads2 nones3 many4 a7 all8 b9 back10 c11 d13 e15 f17 g19 none20 h21):W prog d c152_4 σ st Q:=
 q_ J (x2 h fun _ _ c=>ca_ (sc1 (show _=AV.sl .full (List.map Pan.row []) from J) J) c.1 (m_ (x_ J J (x_ J J (m_ (m_ (e_ (w152_13 hQ H1 H2 H3 H4 H7 H8 H9 H10 H11 H13 H15 H17 H19 H20 H21 J J A4 c.2))))))))
include H1 H2 H3 H4 H7 H8 H9 H10 H11 H13 H15 H17 H19 A4 in
theorem w152_11 (h:T152_11 prog K lines1 bads2 nones3 many4 a7 all8 b9 back10 c11 d13 e15 f17 g19):W prog d c152_5 σ st Q:=
 q_ J (x2 h fun _ _ c=>ca_ (sc1 J J) c.1 (m_ (x_ J J (x_ J J (s_mvL J (m_ (e_ (w152_12 hQ H1 H2 H3 H4 H7 H8 H9 H10 H11 H13 H15 H17 H19 J J A4 c.2))))))))
include H1 H2 H3 H4 H7 H8 H9 H10 H11 H13 H15 H17 A4 in
theorem w152_10 (h:T152_10 prog K lines1 bads2 nones3 many4 a7 all8 b9 back10 c11 d13 e15 f17):W prog d c152_6 σ st Q:=
 q_ J (x2 h fun _ _ c=>ca_ (sc1 J J) c.1 (m_ (x_ J J (x_ J J (s_mvL J (m_ (e_ (w152_11 hQ H1 H2 H3 H4 H7 H8 H9 H10 H11 H13 H15 H17 J A4 c.2))))))))
include H1 H2 H3 H4 H7 H8 H9 H10 H11 H13 H15 A4 in
theorem w152_9 (h:T152_9 prog K lines1 bads2 nones3 many4 a7 all8 b9 back10 c11 d13 e15):W prog d c152_7 σ st Q:=
 q_ J (x2 h fun _ _ c=>ca_ (sc1 J J) c.1 (m_ (x_ J J (x_ J J (s_mvL J (m_ (e_ (w152_10 hQ H1 H2 H3 H4 H7 H8 H9 H10 H11 H13 H15 J A4 c.2))))))))
include H1 H2 H3 H4 H7 H8 H9 H10 H11 H13 A4 in
theorem w152_8 (h:T152_8 prog K lines1 bads2 nones3 many4 a7 all8 b9 back10 c11 d13):W prog d c152_8 σ st Q:=
 q_ J (s_mks (n:=120001) (m:=120001) (f:=row8) (a:=0) J J J J J (by decide) J ⟨by decide,by decide⟩ (s_b2s J (x2 h fun _ _ c=>ca_ (sc1 J J) c.1 (m_ (x_ J J (x_ J J (s_mvL J (m_ (e_ (w152_9 hQ H1 H2 H3 H4 H7 H8 H9 H10 H11 H13 J A4 c.2))))))))))
include H1 H2 H3 H4 H7 H8 H9 H10 H11 A4 in
theorem w152_7 (h:T152_7 prog K lines1 bads2 nones3 many4 a7 all8 b9 back10 c11):W prog d c152_9 σ st Q:=
 q_ J (m_ (b_ H8 J (abin_cat' h.1) (x2 h.2 fun _ _ c=>ca_ (sc1 J J) c.1 (m_ (x_ J J (x_ J J (s_mvL J (m_ (e_ (w152_8 hQ H1 H2 H3 H4 H7 H8 H9 H10 H11 J A4 c.2))))))))))
include H1 H2 H3 H4 H7 H8 H9 A4 in
theorem w152_6 (h:T152_6 prog K lines1 bads2 nones3 many4 a7 all8 b9):W prog d c152_10 σ st Q:=
 q_ J (m_ (x2 h fun _ _ c=>ca_ (sc1 H8 J) c.1 (m_ (x_ J J (x_ J J (s_mvL J (m_ (e_ (w152_7 hQ H1 H2 H3 H4 H7 H8 H9 J J A4 c.2)))))))))
include H1 H2 H3 H4 H7 A4 in
theorem w152_5 (h:T152_5 prog K lines1 bads2 nones3 many4 a7):W prog d c152_11 σ st Q:=
 q_ J (s_mvL H4 (s_slL_hi Pan.row_len J J (by decide) h.1 (x2 h.2 fun _ _ c=>ca_ (sc1 J J) c.1 (m_ (x_ J J (x_ J J (m_ (m_ (e_ (w152_6 hQ H1 H2 H3 H4 H7 J J A4 c.2))))))))))
include H1 H2 H3 H4 A4 in
theorem w152_4 (h:T152_4 prog K lines1 bads2 nones3 many4):W prog d c152_12 σ st Q:=
 q_ J (s_mvL H4 (x2 h fun _ _ c=>ca_ (sc1 J J) c.1 (m_ (x_ J J (x_ J J (m_ (m_ (e_ (w152_5 hQ H1 H2 H3 H4 J A4 c.2)))))))))
include H1 H2 in
theorem w152_3 (h:T152_3 prog K lines1 bads2):W prog d c152_13 σ st Q:=
 q_ J (ca_ (sc1 J J) h.1 (s_mvB J (gy_ J (ca_ (sc1 J J) h.2.1 (z_ 2 J (gy_ J (ca_ (sc1 J J) h.2.2.1 (z_ 2 J (gy_ J (ca_ (sc1 J J) h.2.2.2.1 (z_ 2 J (gy_ J (ca_ (sc1 J J) h.2.2.2.2.1 (z_ 2 J (gy_ J (ca_ (sc1 J J) h.2.2.2.2.2.1 (z_ 2 J (gy_ J (ca_ (sc1 J J) h.2.2.2.2.2.2.1 (z_ 2 J (gy_ J (ca_ (sc1 J J) h.2.2.2.2.2.2.2.1 (z_ 2 J (gy_ J (ca_ (sc1 J J) h.2.2.2.2.2.2.2.2.1 (z_ 2 J (gy_ J (ca_ (sc1 J J) h.2.2.2.2.2.2.2.2.2.1 (z_ 2 J (gy_ J (ca_ (sc1 J J) h.2.2.2.2.2.2.2.2.2.2.1 (z_ 2 J (gy_ J (ca_ (sc1 J J) h.2.2.2.2.2.2.2.2.2.2.2.1 (z_ 2 J (gy_ J (ca_ (sc1 J J) h.2.2.2.2.2.2.2.2.2.2.2.2.1 (z_ 2 J (gy_ J (ca_ (sc1 J J) h.2.2.2.2.2.2.2.2.2.2.2.2.2.1 (z_ 2 J (gy_ J (ca_ (sc1 J J) h.2.2.2.2.2.2.2.2.2.2.2.2.2.2.1 (z_ 2 J (gy_ J (ca_ (sc1 J J) h.2.2.2.2.2.2.2.2.2.2.2.2.2.2.2.1 (z_ 2 J (gy_ J (ca_ (sc1 J J) h.2.2.2.2.2.2.2.2.2.2.2.2.2.2.2.2.1 (z_ 2 J (gy_ J (ca_ (sc1 J J) h.2.2.2.2.2.2.2.2.2.2.2.2.2.2.2.2.2.1 (z_ 2 J (gy_ J (ca_ (sc1 J J) h.2.2.2.2.2.2.2.2.2.2.2.2.2.2.2.2.2.2.1 (z_ 2 J (e_ (sq_ (W.hand hw152_eq (w152_4 hQ H1 H2 J hs152_4 ApM.full h.2.2.2.2.2.2.2.2.2.2.2.2.2.2.2.2.2.2.2))))))))))))))))))))))))))))))))))))))))))))))))))))))))))))
include H1 in
theorem w152_2 (h:T152_2 prog K lines1):W prog d c152_14 σ st Q:=
 q_ J (s_build f_nil (ca_ (sc1 J J) h.1 (s_mvB J (gy_ J (h.2.elim fun _ i=>ca_ (sc1 J J) i.1 (gy_ J (s_build (f_ct J (f_ag J J f_nil)) (gy_ J (ca_ (sc1 J J) i.2.1 (z_ 2 J (gy_ J (s_build (f_ct J f_nil) (gy_ J (ca_ (sc1 J J) i.2.2.1 (z_ 2 J (gy_ J (i.2.2.2.elim fun _ r=>ca_ sn r.1 (gy_ J (s_build (f_ct J (f_ag J J f_nil)) (gy_ J (ca_ (sc1 J J) r.2.1 (z_ 2 J (gy_ J (r.2.2.elim fun _ j=>ca_ (sc1 J J) j.1 (gy_ J (s_build (f_ct J (f_ag J J f_nil)) (gy_ J (ca_ (sc1 J J) j.2.1 (z_ 2 J (gy_ J (s_build (f_ct J (f_ct J f_nil)) (gy_ J (s_build (f_ct J (f_ag J J f_nil)) (gy_ J (ca_ (sc1 J J) j.2.2.1 (z_ 2 J (gy_ J (j.2.2.2.elim fun _ s=>ca_ (sc1 J J) s.1 (gy_ J (s_build (f_ct J (f_ag J J f_nil)) (gy_ J (ca_ (sc1 J J) s.2.1 (z_ 2 J (gy_ J (s.2.2.elim fun _ k=>ca_ (sc1 J J) k.1 (gy_ J (s_build (f_ct J (f_ag J J f_nil)) (gy_ J (ca_ (sc1 J J) k.2.1 (z_ 2 J (gy_ J (k.2.2.elim fun _ o=>ca_ (sc1 J J) o.1 (gy_ J (s_build (f_ct J (f_ag J J (f_ct J f_nil))) (gy_ J (ca_ (sc1 J J) o.2.1 (z_ 2 J (gy_ J (o.2.2.elim fun _ p=>ca_ (sc1 J J) p.1 (gy_ J (s_build (f_ct J (f_ag J J (f_ct J f_nil))) (gy_ J (ca_ (sc1 J J) p.2.1 (z_ 2 J (gy_ J (p.2.2.elim fun _ e=>ca_ (sc1 J J) e.1 (gy_ J (s_build (f_ct J (f_ag J J (f_ct J f_nil))) (gy_ J (ca_ (sc1 J J) e.2.1 (z_ 2 J (gy_ J (s_build (f_ct J f_nil) (gy_ J (ca_ (sc1 J J) e.2.2.1 (z_ 2 J (gy_ J (e.2.2.2.elim fun _ c=>ca_ (sc1 J J) c.1 (gy_ J (s_build (f_ct J (f_ag J J f_nil)) (gy_ J (ca_ (sc1 J J) c.2.1 (z_ 2 J (gy_ J (s_build (f_ct J f_nil) (gy_ J (s_build (f_ct J (f_ag J J f_nil)) (gy_ J (ca_ (sc1 J J) c.2.2.1 (z_ 2 J (gy_ J (s_build (f_ct J f_nil) (gy_ J (ca_ (sc1 J J) c.2.2.2.1 (z_ 2 J (gy_ J (s_mks (n:=65) (m:=65) (f:=row8) (a:=0) J J J J J (by decide) J ⟨by decide,by decide⟩ (gy_ J (s_b2s J (gy_ J (c.2.2.2.2.elim fun _ q=>ca_ (sc1 J J) q.1 (gy_ J (s_build (f_ct J (f_ag J J f_nil)) (gy_ J (ca_ (sc1 J J) q.2.1 (z_ 2 J (e_ (w152_3 hQ H1 J q.2.2))))))))))))))))))))))))))))))))))))))))))))))))))))))))))))))))))))))))))))))))))))))))))))))))))))))))))))
theorem w152_1 (h:T152_1 prog K ):W prog d c152_15 σ st Q:=
 q_ J (h.elim fun _ j=>ca_ (sc1 J J) j.1 (s_build (f_ct J (f_ag J J (f_ct J f_nil))) (ca_ (sc2 J J J) j.2.1 (s_mvB J (gy_ J (j.2.2.elim fun _ e=>ca_ sn e.1 (gy_ J (s_build (f_ct J (f_ag J J (f_ct J f_nil))) (gy_ J (ca_ (sc2 J J J) e.2.1 (z_ 2 J (gy_ J (s_build (f_ct J f_nil) (gy_ J (s_build (f_ct J (f_ag J J f_nil)) (gy_ J (ca_ (sc2 J J J) e.2.2.1 (z_ 2 J (gy_ J (e.2.2.2.elim fun _ k=>ca_ (sc1 J J) k.1 (gy_ J (s_build (f_ct J (f_ag J J f_nil)) (gy_ J (ca_ (sc2 J J J) k.2.1 (z_ 2 J (gy_ J (k.2.2.elim fun _ o=>ca_ (sc1 J J) o.1 (gy_ J (s_build (f_ct J (f_ag J J f_nil)) (gy_ J (ca_ (sc2 J J J) o.2.1 (z_ 2 J (gy_ J (o.2.2.elim fun _ i=>ca_ (sc1 J J) i.1 (gy_ J (s_build (f_ct J (f_ag J J f_nil)) (gy_ J (ca_ (sc2 J J J) i.2.1 (z_ 2 J (gy_ J (i.2.2.elim fun _ c=>ca_ (sc1 J J) c.1 (gy_ J (s_build (f_ct J (f_ag J J (f_ct J f_nil))) (gy_ J (ca_ (sc2 J J J) c.2.1 (z_ 2 J (gy_ J (s_build (f_ct J f_nil) (gy_ J (ca_ (sc2 J J J) c.2.2.1 (z_ 2 J (e_ (w152_2 hQ J c.2.2.2)))))))))))))))))))))))))))))))))))))))))))))))))))))
theorem w152_0 (h:T152_0 prog K ):W prog d (sR 0 r152_0 c152_15) σ st Q:=
 q_ J (m_ (e_ (w152_1 hQ h)))
end
theorem p152 {prog:Prog}(hf:prog.fn 152=some pf152)  {K:Bool→Prop}(h:T152_0 prog K ) :∃res0:Bool,K res0∧Pus prog 152 [] (.b res0):=
 P1 hf J (w152_0 (h1 J fun _=>J)  h)
end Go.AM

/- MADE BY PROGRAM (seat2.py): the types of the program, and that its code is the machine's. -/
namespace Go.Proofs
open Go.Shelf
def Try.lays169_ren : Go.Shelf.Ren := ⟨fun | 169 => 50 | n => n, fun | 70 => 86 | 9 => 9 | 0 => 0 | 72 => 88 | 37 => 63 | 127 => 108 | 3 => 3 | 5 => 5 | n => n, fun | n => n⟩
theorem Try.lays169 : Go.Proofs.Lays.n169 Try.prog Try.lays169_ren := {
  mixed := by kernel_rfl
  f169 := Try.func50.trans (congrArg some (by kernel_rfl))
  t0 := Try.underlying0
  a0 := Try.isAgg0
  z0 := Try.sizeOf0
  v0 := Try.zeroValue0
  t3 := Try.underlying3
  a3 := Try.isAgg3
  z3 := Try.sizeOf3
  v3 := Try.zeroValue3
  t9 := Try.underlying9
  a9 := Try.isAgg9
  z9 := Try.sizeOf9
  v9 := Try.zeroValue9
  t37 := Try.underlying63
  a37 := Try.isAgg63
  z37 := Try.sizeOf63
  v37 := Try.zeroValue63
  t70 := Try.underlying86
  a70 := Try.isAgg86
  z70 := Try.sizeOf86
  v70 := Try.zeroValue86
  t72 := Try.underlying88
  a72 := Try.isAgg88
  z72 := Try.sizeOf88
  v72 := Try.zeroValue88
  t127 := Try.underlying108
  a127 := Try.isAgg108
  z127 := Try.sizeOf108
  v127 := Try.zeroValue108 }

theorem Try.extraB : Builder.Extra Try.prog Try.lays169_ren := {
  sizeBuilder := by kernel_rfl
  liesBuilder := by kernel_rfl
  t5 := Try.underlying5
  a5 := Try.isAgg5
  z5 := Try.sizeOf5
  v5 := Try.zeroValue5
  infoByte := by kernel_rfl
  cellsByte := by kernel_rfl
  sizeByte := by kernel_rfl
  neB5 := by decide }
def Try.lays138_ren : Go.Shelf.Ren := ⟨fun | 138 => 53 | 195 => 67 | 218 => 68 | 143 => 69 | 219 => 88 | 217 => 89 | 225 => 99 | 224 => 100 | 267 => 101 | 266 => 102 | 314 => 106 | n => n, fun | 9 => 9 | 3 => 3 | 4 => 4 | 5 => 5 | 0 => 0 | 46 => 139 | 146 => 145 | 51 => 144 | n => n, fun | 1 => 0 | n => n⟩
theorem Try.lays138 : Go.Proofs.Lays.n138 Try.prog Try.lays138_ren := {
  mixed := by kernel_rfl
  f138 := Try.func53.trans (congrArg some (by kernel_rfl))
  f143 := Try.func69.trans (congrArg some (by kernel_rfl))
  f195 := Try.func67.trans (congrArg some (by kernel_rfl))
  f217 := Try.func89.trans (congrArg some (by kernel_rfl))
  f218 := Try.func68.trans (congrArg some (by kernel_rfl))
  f219 := Try.func88.trans (congrArg some (by kernel_rfl))
  f224 := Try.func100.trans (congrArg some (by kernel_rfl))
  f225 := Try.func99.trans (congrArg some (by kernel_rfl))
  f266 := Try.func102.trans (congrArg some (by kernel_rfl))
  f267 := Try.func101.trans (congrArg some (by kernel_rfl))
  f314 := Try.func106.trans (congrArg some (by kernel_rfl))
  t0 := Try.underlying0
  a0 := Try.isAgg0
  z0 := Try.sizeOf0
  v0 := Try.zeroValue0
  t3 := Try.underlying3
  a3 := Try.isAgg3
  z3 := Try.sizeOf3
  v3 := Try.zeroValue3
  t4 := Try.underlying4
  a4 := Try.isAgg4
  z4 := Try.sizeOf4
  v4 := Try.zeroValue4
  t5 := Try.underlying5
  a5 := Try.isAgg5
  z5 := Try.sizeOf5
  v5 := Try.zeroValue5
  t9 := Try.underlying9
  a9 := Try.isAgg9
  z9 := Try.sizeOf9
  v9 := Try.zeroValue9
  t46 := Try.underlying139
  a46 := Try.isAgg139
  z46 := Try.sizeOf139
  v46 := Try.zeroValue139
  t51 := Try.underlying144
  a51 := Try.isAgg144
  z51 := Try.sizeOf144
  v51 := Try.zeroValue144
  t146 := Try.underlying145
  a146 := Try.isAgg145
  z146 := Try.sizeOf145
  v146 := Try.zeroValue145
  g1 := by kernel_rfl }

end Go.Proofs
namespace Go.Proofs.Ytffbkdcgkhbpoaa
open Go Go.AM

def tys : List (Nat × TI) := [
(2, ⟨.int .i64, 1, 8, [z6]⟩),
  (3, ⟨.int .i64, 1, 8, [z6]⟩),
  (4, ⟨.bool, 1, 1, [zb]⟩),
  (5, ⟨.int .u8, 1, 1, [z8]⟩),
  (9, ⟨.str, 1, 16, [zs]⟩),
  (22, ⟨.int .u64, 1, 8, [z7]⟩),
  (23, ⟨.sl 25, 1, 24, [zl]⟩),
  (25, ⟨.st [(5, 0), (2, 1), (9, 2), (23, 3), (4, 4)], 5, 64, [z8, z6, zs, zl, zb]⟩),
  (27, ⟨.st [(22, 0), (25, 1), (22, 6)], 7, 80, [z7, z8, z6, zs, zl, zb, z7]⟩),
  (29, ⟨.int .i64, 1, 8, [z6]⟩),
  (42, ⟨.sl 27, 1, 24, [zl]⟩),
  (63, ⟨.sl 5, 1, 24, [zl]⟩),
  (65, ⟨.sl 9, 1, 24, [zl]⟩),
  (70, ⟨.arr 4 9, 4, 64, [zs, zs, zs, zs]⟩),
  (80, ⟨.arr 5 5, 5, 5, [z8, z8, z8, z8, z8]⟩),
  (86, ⟨.ptr 88, 1, 8, [.np]⟩),
  (88, ⟨.st [(86, 0), (63, 1)], 2, 32, [.np, .sl .full []]⟩),
  (90, ⟨.other, 1, 16, [.ni]⟩),
  (109, ⟨.arr 8 9, 8, 128, [zs, zs, zs, zs, zs, zs, zs, zs]⟩),
  (116, ⟨.ptr 118, 1, 8, [.np]⟩),
  (118, ⟨.st [(9, 0)], 1, 16, [zs]⟩),
  (125, ⟨.uptr, 1, 8, [.np]⟩),
  (138, ⟨.arr 64 5, 64, 64, [z8, z8, z8, z8, z8, z8, z8, z8, z8, z8, z8, z8, z8, z8, z8, z8, z8, z8, z8, z8, z8, z8, z8, z8, z8, z8, z8, z8, z8, z8, z8, z8, z8, z8, z8, z8, z8, z8, z8, z8, z8, z8, z8, z8, z8, z8, z8, z8, z8, z8, z8, z8, z8, z8, z8, z8, z8, z8, z8, z8, z8, z8, z8, z8]⟩)]
theorem ty27 : TOk Try.prog 27 (((27, ⟨.st [(22, 0), (25, 1), (22, 6)], 7, 80, [.i .u64 0, .i .u8 0, .i .i64 0, .s [], .sl .full [], .b false, .i .u64 0]⟩) : Nat × TI).2) := TOk.of (ti := Try.t27) (by kernel_rfl) (by kernel_rfl) (by kernel_rfl) (TK.ok_st (by kernel_rfl))
theorem tys_ok : ∀ x ∈ tys, TOk Try.prog x.1 x.2 :=
 tC (tK Try.t2 kE) (tC (tK Try.t3 kE) (tC (tK Try.t4 kE) (tC (tK Try.t5 kE) (tC (tK Try.t9 kE) (tC (tK Try.t22 kE) (tC (tK Try.t23 kE) (tC (tK Try.t25 kS) (tC ty27 (tC (tK Try.t29 kE) (tC (tK Try.t42 kE) (tC (tK Try.t63 kE) (tC (tK Try.t65 kE) (tC (tK Try.t70 kE) (tC (tK Try.t80 kE) (tC (tK Try.t86 (And.intro (by kernel_rfl) (by kernel_rfl))) (tC (tK Try.t88 kS) (tC (tK Try.t90 kO) (tC (tK Try.t109 kE) (tC (tK Try.t116 (And.intro (by kernel_rfl) (by kernel_rfl))) (tC (tK Try.t118 kS) (tC (tK Try.t125 kE) (tC (tK Try.t138 kE) (tN)))))))))))))))))))))))
def fms : List (Nat × Nat) := [(2, 2), (3, 148), (4, 149), (5, 150), (6, 151), (7, 152), (8, 153), (9, 71), (10, 154), (11, 155), (12, 156), (13, 157), (14, 158), (15, 159), (16, 160), (17, 161), (18, 162), (19, 163), (20, 164), (21, 165), (22, 72), (23, 166), (24, 167), (25, 168), (26, 169), (27, 170), (28, 171), (29, 172), (30, 173), (31, 174), (32, 175), (33, 176), (34, 177), (35, 102), (36, 103), (37, 178), (38, 179), (39, 180), (40, 181), (41, 182), (42, 75), (43, 183), (44, 76), (45, 77), (46, 78), (47, 184), (48, 185), (49, 126), (50, 105), (51, 104), (52, 186), (53, 187), (54, 188), (55, 189), (56, 106), (57, 190), (58, 36), (59, 74), (60, 108), (61, 109), (62, 110), (63, 145), (64, 15), (65, 11), (66, 191), (67, 192), (69, 194), (70, 195), (71, 43), (72, 196), (73, 16), (74, 31), (75, 127), (76, 42), (77, 107), (78, 132), (79, 133), (80, 134), (81, 26), (82, 135), (83, 22), (84, 136), (85, 146), (86, 34), (87, 30), (88, 197), (89, 47), (90, 35), (91, 41), (92, 46), (93, 128), (94, 129), (95, 130), (96, 131), (97, 40), (98, 38), (100, 199), (101, 200), (102, 48), (103, 25), (104, 21), (105, 44), (106, 201), (107, 39), (108, 37), (109, 45), (1000000000000, 1000000088), (1000000000001, 1000000005)]
def X : Cx := ⟨tabOf tys, fmOf fms, fun c => [30, 89, 104, 105, 107, 115, 116, 117, 120, 122, 123, 126, 128, 129, 130, 131, 139, 140, 144, 145, 146, 184, 217, 224, 225, 227, 228, 229, 230, 232, 233, 236, 237, 238, 239, 252, 268, 269, 270, 271, 272, 273, 274, 275, 276, 307, 308, 309, 311, 312].contains c, []⟩
theorem ok42 : FnOk Try.prog X 76 pf42 := fK Try.func76
theorem ok46 : FnOk Try.prog X 92 pf46 := fK Try.func92
theorem ok36 : FnOk Try.prog X 58 pf36 := fK Try.func58
theorem ok43 : FnOk Try.prog X 71 pf43 := fK Try.func71
theorem ok47 : FnOk Try.prog X 89 pf47 := fK Try.func89
theorem ok11 : FnOk Try.prog X 65 pf11 := fK Try.func65
theorem ok15 : FnOk Try.prog X 64 pf15 := fK Try.func64
theorem ok21 : FnOk Try.prog X 104 pf21 := fK Try.func104
theorem ok25 : FnOk Try.prog X 103 pf25 := fK Try.func103
theorem ok30 : FnOk Try.prog X 87 pf30 := fK Try.func87
theorem ok34 : FnOk Try.prog X 86 pf34 := fK Try.func86
theorem ok37 : FnOk Try.prog X 108 pf37 := fK Try.func108
theorem ok39 : FnOk Try.prog X 107 pf39 := fK Try.func107
theorem ok45 : FnOk Try.prog X 109 pf45 := fK Try.func109
theorem ok145 : FnOk Try.prog X 63 pf145 := fK Try.func63
theorem ok126 : FnOk Try.prog X 49 pf126 := fK Try.func49
theorem ok72 : FnOk Try.prog X 22 pf72 := fK Try.func22
theorem ok74 : FnOk Try.prog X 59 pf74 := fK Try.func59
theorem ok76 : FnOk Try.prog X 44 pf76 := fK Try.func44
theorem ok78 : FnOk Try.prog X 46 pf78 := fK Try.func46
theorem ok104 : FnOk Try.prog X 51 pf104 := fK Try.func51
theorem ok107 : FnOk Try.prog X 77 pf107 := fK Try.func77
theorem ok109 : FnOk Try.prog X 61 pf109 := fK Try.func61
theorem ok128 : FnOk Try.prog X 93 pf128 := fK Try.func93
theorem ok129 : FnOk Try.prog X 94 pf129 := fK Try.func94
theorem ok130 : FnOk Try.prog X 95 pf130 := fK Try.func95
theorem ok131 : FnOk Try.prog X 96 pf131 := fK Try.func96
theorem ok154 : FnOk Try.prog X 10 pf154 := fK Try.func10
theorem ok158 : FnOk Try.prog X 14 pf158 := fK Try.func14
theorem ok178 : FnOk Try.prog X 37 pf178 := fK Try.func37
theorem ok180 : FnOk Try.prog X 39 pf180 := fK Try.func39
theorem ok183 : FnOk Try.prog X 43 pf183 := fK Try.func43
theorem ok186 : FnOk Try.prog X 52 pf186 := fK Try.func52
theorem ok190 : FnOk Try.prog X 57 pf190 := fK Try.func57
theorem ok191 : FnOk Try.prog X 66 pf191 := fK Try.func66
theorem ok156 : FnOk Try.prog X 12 pf156 := fK Try.func12
theorem ok160 : FnOk Try.prog X 16 pf160 := fK Try.func16
theorem ok181 : FnOk Try.prog X 40 pf181 := fK Try.func40
theorem ok161 : FnOk Try.prog X 17 pf161 := fK Try.func17
theorem ok164 : FnOk Try.prog X 20 pf164 := fK Try.func20
theorem ok165 : FnOk Try.prog X 21 pf165 := fK Try.func21
theorem ok169 : FnOk Try.prog X 26 pf169 := fK Try.func26
theorem ok171 : FnOk Try.prog X 28 pf171 := fK Try.func28
theorem ok172 : FnOk Try.prog X 29 pf172 := fK Try.func29
theorem ok174 : FnOk Try.prog X 31 pf174 := fK Try.func31
theorem ok176 : FnOk Try.prog X 33 pf176 := fK Try.func33
theorem ok184 : FnOk Try.prog X 47 pf184 := fK Try.func47
theorem ok185 : FnOk Try.prog X 48 pf185 := fK Try.func48
theorem ok173 : FnOk Try.prog X 30 pf173 := fK Try.func30
theorem ok175 : FnOk Try.prog X 32 pf175 := fK Try.func32
theorem ok189 : FnOk Try.prog X 55 pf189 := fK Try.func55
theorem ok196 : FnOk Try.prog X 72 pf196 := fK Try.func72
theorem tyVal : TyVal X.T 25 := ⟨5, 2, 9, 23, 4, ⟨_, rfl, rfl, rfl⟩, ⟨_, rfl, rfl, rfl⟩, ⟨_, rfl, rfl, rfl⟩, ⟨_, rfl, rfl, rfl⟩, ⟨_, rfl, rfl, rfl⟩, ⟨_, rfl, rfl, rfl⟩⟩
theorem tyPan : TyPan X.T 27 := ⟨22, 25, 22, ⟨_, rfl, rfl, rfl⟩, ⟨_, rfl, rfl, rfl⟩, tyVal, ⟨_, rfl, rfl, rfl⟩⟩
noncomputable def rt : RtAt Try.prog X where
  fR := 24
  fL := 54
  fY := 70
  nR := Try.f24
  nL := Try.f54
  nY := Try.f70
  A0 := (sqA (bodyR Try.f24))
  A1 := (sqA (sqB (bodyR Try.f24)))
  A3 := (sqA (sqB (sqB (bodyR Try.f24))))
  A5 := (sqA (sqB (sqB (sqB (bodyR Try.f24)))))
  A7 := (rfA (sqU (sqB (sqA (sqB (sqB (sqB (sqB (bodyR Try.f24)))))))))
  A8 := (rfB (sqU (sqB (sqA (sqB (sqB (sqB (sqB (bodyR Try.f24)))))))))
  Y0 := (sqA (sqU (sqU (bodyR Try.f70))))
  Y1 := (sqA (sqU (sqB (sqU (sqU (bodyR Try.f70))))))
  Y2 := (sqA (sqB (sqU (sqB (sqU (sqU (bodyR Try.f70)))))))
  cL := (bodyR Try.f54)
  p1 := (rgO (sqA (sqA (sqB (sqB (sqB (sqB (bodyR Try.f24))))))) 0)
  p2 := (rgO (sqA (sqA (sqB (sqB (sqB (sqB (bodyR Try.f24))))))) 1)
  q1 := (rgO (sqA (sqB (sqB (sqB (sqB (sqB (bodyR Try.f24))))))) 0)
  q2 := (rgO (sqA (sqB (sqB (sqB (sqB (sqB (bodyR Try.f24))))))) 1)
  q3 := (rgO (sqA (sqB (sqB (sqB (sqB (sqB (bodyR Try.f24))))))) 2)
  z1 := (rgO (sqA (sqB (sqB (sqU (sqB (sqU (sqU (bodyR Try.f70)))))))) 0)
  z2 := (rgO (sqA (sqB (sqB (sqU (sqB (sqU (sqU (bodyR Try.f70)))))))) 1)
  z3 := (rgO (sqA (sqB (sqB (sqU (sqB (sqU (sqU (bodyR Try.f70)))))))) 2)
  z4 := (rgO (sqA (sqB (sqB (sqU (sqB (sqU (sqU (bodyR Try.f70)))))))) 3)
  t1 := 42
  t2 := 29
  t3 := 4
  tp := #[9]
  tz := #[9]
  i1 := ((42, ⟨.sl 27, 1, 24, [.sl .full []]⟩) : Nat × TI).2
  i2 := ((29, ⟨.int .i64, 1, 8, [.i .i64 0]⟩) : Nat × TI).2
  eR := Try.func24
  eL := Try.func54
  eY := Try.func70
  bR := by kernel_rfl
  tR := by kernel_rfl
  rR := by kernel_rfl
  mR := by kernel_rfl
  bL := by kernel_rfl
  tL := by kernel_rfl
  rL := by kernel_rfl
  mL := by kernel_rfl
  bY := by kernel_rfl
  tY := by kernel_rfl
  rY := by kernel_rfl
  mY := by kernel_rfl
  a0 := by kernel_rfl
  a1 := by kernel_rfl
  a3 := by kernel_rfl
  a5 := by kernel_rfl
  a7 := by kernel_rfl
  a8 := by kernel_rfl
  w7 := by kernel_rfl
  w8 := by kernel_rfl
  y0 := by kernel_rfl
  y1 := by kernel_rfl
  y2 := by kernel_rfl
  l0 := by kernel_rfl
  p1o := by kernel_rfl
  p1d := by kernel_rfl
  p1g := by kernel_rfl
  p2o := by kernel_rfl
  p2d := by kernel_rfl
  p2g := by kernel_rfl
  q1o := by kernel_rfl
  q1d := by kernel_rfl
  q1g := by kernel_rfl
  q2o := by kernel_rfl
  q2d := by kernel_rfl
  q2g := by kernel_rfl
  q3o := by kernel_rfl
  q3d := by kernel_rfl
  q3g := by kernel_rfl
  z1o := by kernel_rfl
  z1d := by kernel_rfl
  z1g := by kernel_rfl
  z2o := by kernel_rfl
  z2d := by kernel_rfl
  z2g := by kernel_rfl
  z3o := by kernel_rfl
  z3d := by kernel_rfl
  z3g := by kernel_rfl
  z4o := by kernel_rfl
  z4d := by kernel_rfl
  z4g := by kernel_rfl
  u1 := rfl
  s1 := rfl
  g1 := rfl
  u2 := rfl
  s2 := rfl
  fm := fun f h => by have := fm_inv h; simpa [fms] using this
end Go.Proofs.Ytffbkdcgkhbpoaa

namespace Go.AM
open Go
structure HasR1 (prog:Prog):Prop extends HasR prog where
 f173:prog.fn 173=some pf173
 f175:prog.fn 175=some pf175
theorem okP_bad {p:Pan} (ho:okP p=false):¬okP p=true:=by rw [ho];decide
theorem rtR_txtD {l:List Pan} (h:chainR l=0) (hw :∀p∈l,WfP p) (hl:(txtC l).length≤120000):rtR (txtC l)=(l,0):=by
 have ho:=chain_ok h
 unfold rtR
 rw [if_neg (by omega),spl_txtC,if_neg (by simp;omega),if_pos]
 ·rw [List.map_map]
  congr 1
  rw [List.map_congr_left (g:=id) fun p hp=>by show (rlP (shown p)).1=p;rw [rlP_shown (ho.2 p hp) (hw p hp).v],List.map_id]
 ·rw [List.all_map,List.all_eq_true]
  intro p hp
  show decide ((rlP (shown p)).2=0)=true
  rw [rlP_shown (ho.2 p hp) (hw p hp).v];rfl
theorem rtR_many {l:List Pan} (hl:(txtC l).length≤120000) (hm:410<l.length):rtR (txtC l)=([],12):=by
 unfold rtR
 rw [if_neg (by omega),spl_txtC,if_pos (.inr (by rw [List.length_map];exact hm))]
theorem wE:WfP panE:=⟨by decide,.mk (by decide) (by decide) (by decide) (by simp),by decide⟩
theorem wEs (n:Nat) :∀p∈rep n panE,WfP p:=by
 intro p hp
 rw [rep_eq,List.mem_replicate] at hp
 rw [hp.2];exact wE
theorem okE:okP panE=true:=by decide +kernel
theorem shownE:shown panE=[101,120,105,116,32,97,98,111,114,116,101,100]:=by decide +kernel
theorem txtE_len :∀n:Nat,(txtC (rep n panE)).length=13*n
 | 0=>by rw [rep_eq];rfl
 | n+1=>by
  have ih:=txtE_len n
  rw [rep_eq] at ih ⊢
  rw [List.replicate_succ]
  unfold txtC at ih ⊢
  rw [List.flatMap_cons,List.length_append,ih,shownE]
  simp only [List.length_append,List.length_cons,List.length_nil];omega
theorem chE1:chainR (rep 411 panE)=4:=by unfold chainR;rw [if_pos (by rw [rep_len];decide)]
theorem chE0:chainR (rep 410 panE)=0:=chain_all (by rw [rep_len];decide) fun p hp=>by
 rw [rep_eq,List.mem_replicate] at hp
 rw [hp.2];exact okE
theorem txE1:textR (rep 411 panE)=([],4):=by unfold textR;rw [chE1];rfl
theorem txE0:textR (rep 410 panE)=(txtC (rep 410 panE),0):=by unfold textR;rw [chE0];rfl
theorem caE1:causeR (rep 411 panE)=(0,4):=by unfold causeR;rw [chE1];rfl
theorem tkE:(rep 411 panE).take 410=rep 410 panE:=by rw [rep_eq,rep_eq,List.take_replicate];rfl
theorem mrE:txtC (rep 410 panE)++([101,120,105,116,32,97,98,111,114,116,101,100,10]:Bytes)=txtC (rep 411 panE):=by
 have e:rep 411 panE=rep 410 panE++[panE]:=by
  rw [rep_eq,rep_eq];exact List.replicate_succ'
 rw [e]
 unfold txtC
 rw [List.flatMap_append,List.flatMap_cons,shownE]
 rfl
theorem rtE1:rtR (rep 120001 0)=([],4):=by unfold rtR;rw [if_pos (by rw [rep_len];decide)]
theorem rtE2:rtR [101,120,105,116]=([],12):=by unfold rtR;rw [if_neg (by decide),if_pos (.inl (by decide +kernel))]
theorem rtE3:rtR [101,120,105,116,10,10]=([],12):=by unfold rtR;rw [if_neg (by decide),if_neg (by decide +kernel),if_neg (by decide +kernel)]
theorem rtE4:rtR []=([],0):=by unfold rtR;rw [if_neg (by decide),if_neg (by decide +kernel),if_pos (by decide +kernel)];rfl
theorem txE2:textR []=([],0):=by decide +kernel
theorem caE2:causeR []=(0,6):=by decide +kernel
theorem rlE:rlP (rep 2001 0)=(pz,4):=by unfold rlP;rw [if_pos (by rw [rep_len];decide)]
theorem rlN {s:Bytes} (h:¬2000<s.length) (h1:(rlP s).2≠0):rlP s=(pz,12):=(rlP_or s h).resolve_left h1
section
variable {prog:Prog} (H:HasR1 prog)
include H
theorem c173:Pus prog 173 [] (Val.mk 1 1 [] [] false:Val).av:=by
 obtain ⟨x,rfl,h⟩:=p173 H.f173 (K:=fun x=>x=Val.mk 1 1 [] [] false) rfl
 exact h
theorem c175 {p:Pan} (hp:WfP p) (ho:okP p=false):Pus prog 175 [p.av] (.b true):=by
 obtain ⟨x,rfl,h⟩:=p175 H.f175 (p0:=p) (K:=fun x=>x=true) (by
  unfold T175_0
  have k1:=c154 H.toHasO hp
  rw [show lnP p=([],8) by unfold lnP;rw [if_neg (okP_bad ho)]] at k1
  have e :∀l:List Pan,p∈l→¬410<l.length→chainR l=8:=fun l hp hl=>chain_not hl hp (okP_bad ho)
  have k2:=c164 H.toHasQ (l:=[⟨0,vz,2⟩,p]) (by
   intro q hq
   simp only [List.mem_cons,List.not_mem_nil,or_false] at hq
   rcases hq with rfl | rfl
   ·exact wG2
   ·exact hp)
  rw [show textR [⟨0,vz,2⟩,p]=([],8) by unfold textR;rw [e _ (by simp) (by simp)];rfl] at k2
  have k3:=c165 H.toHasQ (l:=[p]) (by
   intro q hq
   rw [List.mem_singleton] at hq
   rw [hq];exact hp)
  rw [show causeR [p]=(0,8) by unfold causeR;rw [e _ (by simp) (by simp)];rfl] at k3
  have k4:=c158 H.toHasO hp
  rw [show chkP p=8 by unfold chkP;rw [if_neg (okP_bad ho)]] at k4
  exact ⟨_,_,k1,_,_,k2,_,_,k3,_,k4,fun _=>⟨fun _=>⟨fun _=>⟨fun _=>decide_eq_true rfl,fun h=>absurd rfl h⟩,fun h=>absurd rfl h⟩,fun h=>absurd rfl h⟩,fun h=>absurd rfl h⟩)
 exact h
theorem law152_4:T152_4 prog (fun x=>x=true) true true true (rep 411 panE):=by
 have k1:=c164 H.toHasQ (wEs 411)
 rw [txE1] at k1
 have k2:=c164 H.toHasQ (wEs 410)
 rw [txE0] at k2
 have hl:=txtE_len 410
 have hl':=txtE_len 411
 have k3:=c167 H.toHasR (s:=txtC (rep 410 panE)) (by omega)
 rw [rtR_txtD chE0 (wEs 410) (by omega)] at k3
 have k4:=c167 H.toHasR (s:=txtC (rep 411 panE)) (by omega)
 rw [rtR_many (by omega) (by rw [rep_len];decide),← mrE] at k4
 have k5:=c167 H.toHasR (s:=rep 120001 0) (by rw [rep_len];decide)
 rw [rtE1] at k5
 have k6:=c167 H.toHasR (s:=[101,120,105,116]) (by decide)
 rw [rtE2] at k6
 have k7:=c167 H.toHasR (s:=[101,120,105,116,10,10]) (by decide)
 rw [rtE3] at k7
 have k8:=c167 H.toHasR (s:=[]) (by decide)
 rw [rtE4] at k8
 have k9:=c164 H.toHasQ (l:=[]) (by simp)
 rw [txE2] at k9
 have k10:=c156 H.toHasP (s:=rep 2001 0) (by rw [rep_len];decide)
 rw [rlE] at k10
 have k11:=c165 H.toHasQ (wEs 411)
 rw [caE1] at k11
 have k12:=c165 H.toHasQ (l:=[]) (by simp)
 rw [caE2] at k12
 have hlI:((txtC (rep 410 panE)).length:Int)=5330:=by rw [hl];rfl
 have hnI:((rep 410 panE).length:Int)=410:=by rw [rep_len];rfl
 have hm:(txtC (rep 410 panE)).length+([101,120,105,116,32,97,98,111,114,116,101,100,10]:Bytes).length≤maxStr:=by
  simp only [List.length_cons,List.length_nil,maxStr_eq];omega
 generalize txtC (rep 410 panE)=E at k2 k3 k4 hlI hm
 unfold T152_4 T152_5
 rw [tkE]
 refine ⟨_,_,k1,by rw [rep_len];decide,_,_,k2,?_⟩
 unfold T152_6 T152_7 T152_8 T152_9
 refine ⟨_,_,k3,hm,_,_,k4,_,_,k5,_,_,k6,?_⟩
 unfold T152_10 T152_11 T152_12 T152_13 T152_14 T152_15
 refine ⟨_,_,k7,_,_,k8,_,_,k9,_,_,k10,_,_,k11,_,_,k12,?_⟩
 unfold T152_16
 exact ⟨fun _=>⟨fun _=>⟨fun _=>⟨fun _=>⟨fun _=>⟨fun _=>⟨fun _=>⟨fun _=>⟨fun _=>⟨fun _=>⟨fun _=>⟨fun _=>⟨fun _=>⟨fun _=>⟨fun _=>⟨fun _=>⟨fun _=>⟨fun _=>⟨fun _=>⟨c161 H.toHasQ,rfl⟩,fun h=>absurd rfl h⟩,fun h=>absurd rfl h⟩,fun h=>absurd rfl h⟩,fun h=>absurd rfl h⟩,fun h=>absurd rfl h⟩,fun h=>absurd rfl h⟩,fun h=>absurd rfl h⟩,fun h=>absurd rfl h⟩,fun h=>absurd rfl h⟩,fun h=>absurd rfl h⟩,fun h=>absurd rfl h⟩,fun h=>absurd hnI h⟩,fun h=>absurd rfl h⟩,fun h=>absurd hlI h⟩,fun h=>absurd rfl h⟩,fun h=>absurd rfl h⟩,fun h=>(by cases h)⟩,fun h=>(by cases h)⟩,fun h=>(by cases h)⟩
theorem law152_1 (h:T152_2 prog (fun x=>x=true) true):T152_1 prog (fun x=>x=true):=by
 unfold T152_1
 exact ⟨_,c172 H.toHasQ _,c171 H.toHasQ (p:=⟨1,Val.mk 2 (-9223372036854775808) [] [] false,5⟩) ⟨by decide,.mk (by decide) (by decide) (by decide) (by simp),by decide⟩ (by decide) (by decide +kernel) (by decide +kernel),_,c173 H,c171 H.toHasQ (p:=⟨2,Val.mk 1 1 [] [] false,4⟩) ⟨by decide,.mk (by decide) (by decide) (by decide) (by simp),by decide⟩ (by decide) (by decide +kernel) (by decide +kernel),c171 H.toHasQ (p:=⟨2,Val.mk 1 0 [] [] false,0⟩) ⟨by decide,.mk (by decide) (by decide) (by decide) (by simp),by decide⟩ (by decide) (by decide +kernel) (by decide +kernel),_,c174 H.toHasQ _,c171 H.toHasQ (p:=⟨3,Val.mk 3 0 [] [] false,0⟩) ⟨by decide,.mk (by decide) (by decide) (by decide) (by simp),by decide⟩ (by decide) (by decide +kernel) (by decide +kernel),_,c174 H.toHasQ _,c171 H.toHasQ (p:=⟨3,Val.mk 3 0 [32,114,101,99,111,118,101,114,101,100] [] false,0⟩) ⟨by decide,.mk (by decide) (by decide) (by decide) (by simp),by decide⟩ (by decide) (by decide +kernel) (by decide +kernel),_,c172 H.toHasQ _,c171 H.toHasQ (p:=⟨4,Val.mk 2 (2) [] [] false,0⟩) ⟨by decide,.mk (by decide) (by decide) (by decide) (by simp),by decide⟩ (by decide) (by decide +kernel) (by decide +kernel),_,c172 H.toHasQ _,c171 H.toHasQ (p:=⟨4,Val.mk 2 (3) [] [] false,1⟩) ⟨by decide,.mk (by decide) (by decide) (by decide) (by simp),by decide⟩ (by decide) (by decide +kernel) (by decide +kernel),c171 H.toHasQ (p:=⟨0,Val.mk 0 0 [] [] false,6⟩) ⟨by decide,.mk (by decide) (by decide) (by decide) (by simp),by decide⟩ (by decide) (by decide +kernel) (by decide +kernel),h⟩
theorem law152_2 (h:T152_3 prog (fun x=>x=true) true true):T152_2 prog (fun x=>x=true) true:=by
 unfold T152_2
 exact ⟨c175 H (p:=⟨0,Val.mk 0 0 [] [] false,0⟩) ⟨by decide,.mk (by decide) (by decide) (by decide) (by simp),by decide⟩ (by decide +kernel),_,c172 H.toHasQ _,c175 H (p:=⟨5,Val.mk 2 (1) [] [] false,0⟩) ⟨by decide,.mk (by decide) (by decide) (by decide) (by simp),by decide⟩ (by decide +kernel),c175 H (p:=⟨1,Val.mk 0 0 [] [] false,0⟩) ⟨by decide,.mk (by decide) (by decide) (by decide) (by simp),by decide⟩ (by decide +kernel),_,c173 H,c175 H (p:=⟨1,Val.mk 1 1 [] [] false,0⟩) ⟨by decide,.mk (by decide) (by decide) (by decide) (by simp),by decide⟩ (by decide +kernel),_,c172 H.toHasQ _,c175 H (p:=⟨3,Val.mk 2 (0) [] [] false,0⟩) ⟨by decide,.mk (by decide) (by decide) (by decide) (by simp),by decide⟩ (by decide +kernel),c175 H (p:=⟨2,Val.mk 1 2 [] [] false,0⟩) ⟨by decide,.mk (by decide) (by decide) (by decide) (by simp),by decide⟩ (by decide +kernel),_,c172 H.toHasQ _,c175 H (p:=⟨4,Val.mk 2 (0) [] [] false,0⟩) ⟨by decide,.mk (by decide) (by decide) (by decide) (by simp),by decide⟩ (by decide +kernel),_,c172 H.toHasQ _,c175 H (p:=⟨4,Val.mk 2 (4) [] [] false,0⟩) ⟨by decide,.mk (by decide) (by decide) (by decide) (by simp),by decide⟩ (by decide +kernel),_,c172 H.toHasQ _,c175 H (p:=⟨1,Val.mk 2 (1) [] [] false,2⟩) ⟨by decide,.mk (by decide) (by decide) (by decide) (by simp),by decide⟩ (by decide +kernel),_,c172 H.toHasQ _,c175 H (p:=⟨1,Val.mk 2 (1) [] [] false,8⟩) ⟨by decide,.mk (by decide) (by decide) (by decide) (by simp),by decide⟩ (by decide +kernel),_,c172 H.toHasQ _,c175 H (p:=⟨1,Val.mk 2 (1) [] [] false,9223372036854775809⟩) ⟨by decide,.mk (by decide) (by decide) (by decide) (by simp),by decide⟩ (by decide +kernel),c175 H (p:=⟨0,Val.mk 0 0 [] [] false,3⟩) ⟨by decide,.mk (by decide) (by decide) (by decide) (by simp),by decide⟩ (by decide +kernel),_,c172 H.toHasQ _,c175 H (p:=⟨0,Val.mk 2 (0) [] [] false,2⟩) ⟨by decide,.mk (by decide) (by decide) (by decide) (by simp),by decide⟩ (by decide +kernel),c175 H (p:=⟨0,Val.mk 0 0 [] [] true,2⟩) ⟨by decide,.mk (by decide) (by decide) (by decide) (by simp),by decide⟩ (by decide +kernel),c175 H (p:=⟨0,Val.mk 0 0 [] [] false,4⟩) ⟨by decide,.mk (by decide) (by decide) (by decide) (by simp),by decide⟩ (by decide +kernel),_,c174 H.toHasQ _,c175 H (p:=⟨3,Val.mk 3 0 (rep 65 0) [] false,0⟩) ⟨by decide,.mk (by decide) (by decide) (by decide) (by simp),by decide⟩ (by rw [rep_eq];decide +kernel),h⟩
theorem law152_3 (h:T152_4 prog (fun x=>x=true) true true true (rep 411 panE)):T152_3 prog (fun x=>x=true) true true:=by
 unfold T152_3
 exact ⟨c176 H.toHasQ (s:=([]:Bytes)) (by decide) (rlN (by decide) (by decide +kernel)),c176 H.toHasQ (s:=([112,97,110,105,99]:Bytes)) (by decide) (rlN (by decide) (by decide +kernel)),c176 H.toHasQ (s:=([112,97,110,105,99,32]:Bytes)) (by decide) (rlN (by decide) (by decide +kernel)),c176 H.toHasQ (s:=([112,97,110,105,99,32,49,32]:Bytes)) (by decide) (rlN (by decide) (by decide +kernel)),c176 H.toHasQ (s:=([112,97,110,105,99,32,48,49]:Bytes)) (by decide) (rlN (by decide) (by decide +kernel)),c176 H.toHasQ (s:=([112,97,110,105,99,32,123,125]:Bytes)) (by decide) (rlN (by decide) (by decide +kernel)),c176 H.toHasQ (s:=([112,97,110,105,99,32,38,49]:Bytes)) (by decide) (rlN (by decide) (by decide +kernel)),c176 H.toHasQ (s:=([112,97,110,105,99,32,49,32,97,98,111,114,116,101,100,32,114,101,99,111,118,101,114,101,100]:Bytes)) (by decide) (rlN (by decide) (by decide +kernel)),c176 H.toHasQ (s:=([112,97,110,105,99,32,49,32,114,101,99,111,118,101,114,101,100,32,114,101,99,111,118,101,114,101,100]:Bytes)) (by decide) (rlN (by decide) (by decide +kernel)),c176 H.toHasQ (s:=([112,97,110,105,99,32,49,114,101,99,111,118,101,114,101,100]:Bytes)) (by decide) (rlN (by decide) (by decide +kernel)),c176 H.toHasQ (s:=([102,97,117,108,116,32,48,58,32]:Bytes)) (by decide) (rlN (by decide) (by decide +kernel)),c176 H.toHasQ (s:=([102,97,117,108,116,32,49]:Bytes)) (by decide) (rlN (by decide) (by decide +kernel)),c176 H.toHasQ (s:=([102,97,117,108,116,32,52,58,32,111,117,116,32,111,102,32,114,97,110,103,101]:Bytes)) (by decide) (rlN (by decide) (by decide +kernel)),c176 H.toHasQ (s:=([102,97,117,108,116,32,50,58,32,111,117,116,32,111,102,32,114,97,110,103,101]:Bytes)) (by decide) (rlN (by decide) (by decide +kernel)),c176 H.toHasQ (s:=([101,120,105,116,32,114,101,99,111,118,101,114,101,100,32,97,98,111,114,116,101,100]:Bytes)) (by decide) (rlN (by decide) (by decide +kernel)),c176 H.toHasQ (s:=([101,120,105,116,32]:Bytes)) (by decide) (rlN (by decide) (by decide +kernel)),c176 H.toHasQ (s:=([114,101,99,111,118,101,114,101,100]:Bytes)) (by decide) (rlN (by decide) (by decide +kernel)),c176 H.toHasQ (s:=([32,97,98,111,114,116,101,100]:Bytes)) (by decide) (rlN (by decide) (by decide +kernel)),c176 H.toHasQ (s:=([80,97,110,105,99,32,49]:Bytes)) (by decide) (rlN (by decide) (by decide +kernel)),h⟩
theorem law152 (hf:prog.fn 152=some pf152):Pus prog 152 [] (.b true):=by
 obtain ⟨x,rfl,h⟩:=p152 hf (K:=fun x=>x=true) (by
  unfold T152_0
  exact law152_1 H (law152_2 H (law152_3 H (law152_4 H))))
 exact h
end
end Go.AM

/- The statement ChaintextNames: for every input the law returns true, and each argument reads afterwards as before. No conditions. -/
namespace Go.Proofs.Ytffbkdcgkhbpoaa.ChaintextNamesProof
open Go Go.AM Go.RowKit Go.ChangeShapes Go.WideShapes Go.ChangeAt

set_option maxRecDepth 100000 in
theorem good152 : GoodF Try.prog X pf152 (codeOf Try.f7) := GoodF.ofCR (ac := .seq (xA b152) (.seq (xA (xB b152)) (.seq (xA (xB (xB b152))) (.seq (xA (xB (xB (xB b152)))) (.seq (.hand hw152) (xB (xB (xB (xB (xB b152)))))))))) (by kernel_rfl) (.seq (x := qA (codeOf Try.f7)) (y := (qB (codeOf Try.f7))) (by kernel_rfl) (.leaf (by kernel_rfl)) (.seq (x := qA (qB (codeOf Try.f7))) (y := (qB (qB (codeOf Try.f7)))) (by kernel_rfl) (.leaf (by kernel_rfl)) (.seq (x := qA (qB (qB (codeOf Try.f7)))) (y := (qB (qB (qB (codeOf Try.f7))))) (by kernel_rfl) (.leaf (by kernel_rfl)) (.seq (x := qA (qB (qB (qB (codeOf Try.f7))))) (y := (qB (qB (qB (qB (codeOf Try.f7)))))) (by kernel_rfl) (.leaf (by kernel_rfl)) (.hand2 (x := .region 4 (rOps (qA (qB (qB (qB (qB (codeOf Try.f7))))))) false) (y := .seq (.region 5 (rOps (qA (qA (qB (qB (qB (qB (qB (codeOf Try.f7))))))))) false) (.block 0 (.loop (.seq (.seq (.region 6 (rOps (qA (qA (qU (qU (qB (qA (qB (qB (qB (qB (qB (codeOf Try.f7))))))))))))) false) (.cond (.tmp 200) .skip (.exit 0))) (.seq (.block 1 (.region 8 (rOps (qU (qA (qB (qU (qU (qB (qA (qB (qB (qB (qB (qB (codeOf Try.f7)))))))))))))) false)) (.region 7 (rOps (qB (qB (qU (qU (qB (qA (qB (qB (qB (qB (qB (codeOf Try.f7))))))))))))) false)))))) (z := qB (qB (qB (qB (qB (qB (codeOf Try.f7))))))) (by kernel_rfl) (fun d => fill152 (tS := 42) (tE := 27) (tI := 3) (zs := [.i .u64 0, .i .u8 0, .i .i64 0, .s [], .sl .ext [], .b false, .i .u64 0]) (rc := [.i .u64 0, .i .u8 0, .i .i64 0, .s [], .sl .full [], .b false, .i .u64 6]) (us := [.int .u64 0, .int .u8 0, .int .i64 0, .string ⟨#[]⟩, .slice none 0 0, .bool false, .int .u64 6]) (Nat.le_of_ble_eq_true rfl) Try.underlying42 (ty27 : TOk Try.prog 27 _) rfl rfl rfl (by kernel_rfl) rfl rfl ⟨by kernel_rfl, of_gNo (by kernel_rfl)⟩ ⟨by kernel_rfl, of_gNo (by kernel_rfl)⟩ ⟨by kernel_rfl, of_gNo (by kernel_rfl)⟩ ⟨by kernel_rfl, of_gNo (by kernel_rfl)⟩ ⟨by kernel_rfl, of_gNo (by kernel_rfl)⟩) (.leaf (by kernel_rfl)))))))
theorem ok152 : FnOk Try.prog X 7 pf152 := FnOk.ofG Try.func7 (by kernel_rfl) (by kernel_rfl) good152 (by kernel_rfl) (by kernel_rfl) (by kernel_rfl)
def fns : List (Nat × AF) := [(42, pf42), (46, pf46), (36, pf36), (43, pf43), (47, pf47), (11, pf11), (15, pf15), (21, pf21), (25, pf25), (30, pf30), (34, pf34), (37, pf37), (39, pf39), (45, pf45), (145, pf145), (126, pf126), (72, pf72), (74, pf74), (76, pf76), (78, pf78), (104, pf104), (107, pf107), (109, pf109), (128, pf128), (129, pf129), (130, pf130), (131, pf131), (154, pf154), (158, pf158), (178, pf178), (180, pf180), (183, pf183), (186, pf186), (190, pf190), (191, pf191), (156, pf156), (160, pf160), (181, pf181), (161, pf161), (164, pf164), (165, pf165), (169, pf169), (171, pf171), (172, pf172), (174, pf174), (176, pf176), (184, pf184), (185, pf185), (173, pf173), (175, pf175), (189, pf189), (196, pf196), (152, pf152)]
def prog : Prog := ⟨fnOf fns, orcR, orsB⟩
set_option maxRecDepth 100000 in
theorem fns_ok : FnsOk Try.prog X fns fms :=
 fN J (fN J (fN J (fN J (fN J (fS J ok152 (fN J (fN J (fS J ok154 (fN J (fS J ok156 (fN J (fS J ok158 (fN J (fS J ok160 (fS J ok161 (fN J (fN J (fS J ok164 (fS J ok165 (fS J ok72 (fN J (fN J (fN J (fS J ok169 (fN J (fS J ok171 (fS J ok172 (fS J ok173 (fS J ok174 (fS J ok175 (fS J ok176 (fN J (fN J (fN J (fS J ok178 (fN J (fS J ok180 (fS J ok181 (fN J (fN J (fS J ok183 (fS J ok76 (fN J (fS J ok78 (fS J ok184 (fS J ok185 (fS J ok126 (fN J (fS J ok104 (fS J ok186 (fN J (fN J (fS J ok189 (fN J (fS J ok190 (fS J ok36 (fS J ok74 (fN J (fS J ok109 (fN J (fS J ok145 (fS J ok15 (fS J ok11 (fS J ok191 (fN J (fN J (fN J (fS J ok43 (fS J ok196 (fN J (fN J (fN J (fS J ok42 (fS J ok107 (fN J (fN J (fN J (fN J (fN J (fN J (fN J (fN J (fS J ok34 (fS J ok30 (fN J (fS J ok47 (fN J (fN J (fS J ok46 (fS J ok128 (fS J ok129 (fS J ok130 (fS J ok131 (fN J (fN J (fN J (fN J (fN J (fS J ok25 (fS J ok21 (fN J (fN J (fS J ok39 (fS J ok37 (fS J ok45 (fN J (fN J (trivial))))))))))))))))))))))))))))))))))))))))))))))))))))))))))))))))))))))))))))))))))))))))))))))))))))))))))))
theorem o48_ok : OracOk Try.prog X { fn := fnOf fns, orac := orc48 48 } := orc48_ok (f0 := 102) (fun f h => by have := fm_inv h; simpa [fms] using this) Try.func102 (by kernel_rfl) (by kernel_rfl) (by kernel_rfl) (by kernel_rfl)
def prog0 : Prog := ⟨fnOf fns, orcC, orsB⟩
set_option maxRecDepth 100000 in
theorem has0 : HasR0 prog0 := { f42 := by kernel_rfl, f46 := by kernel_rfl, f36 := by kernel_rfl, f43 := by kernel_rfl, f47 := by kernel_rfl, f11 := by kernel_rfl, f15 := by kernel_rfl, f21 := by kernel_rfl, f25 := by kernel_rfl, f30 := by kernel_rfl, f34 := by kernel_rfl, f37 := by kernel_rfl, f39 := by kernel_rfl, f45 := by kernel_rfl, f145 := by kernel_rfl, f126 := by kernel_rfl, f72 := by kernel_rfl, f74 := by kernel_rfl, f76 := by kernel_rfl, f78 := by kernel_rfl, f104 := by kernel_rfl, f107 := by kernel_rfl, f109 := by kernel_rfl, f128 := by kernel_rfl, f129 := by kernel_rfl, f130 := by kernel_rfl, f131 := by kernel_rfl, f154 := by kernel_rfl, f158 := by kernel_rfl, f178 := by kernel_rfl, f180 := by kernel_rfl, f183 := by kernel_rfl, f186 := by kernel_rfl, f190 := by kernel_rfl, f191 := by kernel_rfl, f156 := by kernel_rfl, f160 := by kernel_rfl, f181 := by kernel_rfl, f189 := by kernel_rfl, f196 := by kernel_rfl, f48 := rfl, o48 := orcC_48, f146 := rfl, f105 := rfl, o146 := orcC_146, o105 := orcC_105, s105 := orsB_105 }
theorem oracB_ok : OracOk Try.prog X ⟨fnOf fns, orcB, orsB⟩ := orcB_ok o48_ok (f0 := 85) (fun f h => by have := fm_inv h; simpa [fms] using this) Try.func85 (by kernel_rfl) (by kernel_rfl) (by kernel_rfl) (by kernel_rfl)
theorem orac0_ok : OracOk Try.prog X prog0 := orcC_ok oracB_ok (f0 := 53) (fun f h => by have := fm_inv h; simpa [fms] using this) (fun args w => callFunc_enter Try.func53 (by kernel_rfl) (code := bodyR Try.f53) (by kernel_rfl) args) fun s c w => Go.Proofs.Any.strings_Count_one Try.lays138 s c w
theorem orsB0_ok : OracSOk Try.prog X prog0 := fun f c hfc hn args st r st1 h => Go.AM.orsB_ok (fs := fns) Try.lays169 Try.extraB (fun f h => by have := fm_inv h; have e : f = 50 := (by simpa [fms] using this); exact e) (by kernel_rfl) (by kernel_rfl) Try.func50 (by kernel_rfl) rfl f c hfc hn args st r st1 h
theorem orac_ok : OracOk Try.prog X prog := orcR_ok orac0_ok orsB0_ok (tab_ok tys_ok) (by kernel_rfl) (prog_ok fns_ok.all rfl) has0 (by kernel_rfl) rt (fun f h => show f = 24 from by have := fm_inv h; simpa [fms] using this) ⟨188, by kernel_rfl⟩ (by kernel_rfl)
theorem orsB_ok : OracSOk Try.prog X prog := fun f c hfc hn args st r st1 h => Go.AM.orsB_ok (fs := fns) Try.lays169 Try.extraB (fun f h => by have := fm_inv h; have e : f = 50 := (by simpa [fms] using this); exact e) (by kernel_rfl) (by kernel_rfl) Try.func50 (by kernel_rfl) rfl f c hfc hn args st r st1 h
def tl : List Nat := []
theorem at_ : LawAt Try.prog X prog tl := ⟨tab_ok tys_ok, by kernel_rfl, prog_ok fns_ok.all rfl, orac_ok, orsB_ok, by
    intro t ht
    exact (show ∀ t ∈ tl, okTy X.T tl t = true by decide) t (by simpa using ht)⟩
set_option maxRecDepth 100000 in
theorem has : HasR1 prog := { f42 := by kernel_rfl, f46 := by kernel_rfl, f36 := by kernel_rfl, f43 := by kernel_rfl, f47 := by kernel_rfl, f11 := by kernel_rfl, f15 := by kernel_rfl, f21 := by kernel_rfl, f25 := by kernel_rfl, f30 := by kernel_rfl, f34 := by kernel_rfl, f37 := by kernel_rfl, f39 := by kernel_rfl, f45 := by kernel_rfl, f145 := by kernel_rfl, f126 := by kernel_rfl, f72 := by kernel_rfl, f74 := by kernel_rfl, f76 := by kernel_rfl, f78 := by kernel_rfl, f104 := by kernel_rfl, f107 := by kernel_rfl, f109 := by kernel_rfl, f128 := by kernel_rfl, f129 := by kernel_rfl, f130 := by kernel_rfl, f131 := by kernel_rfl, f154 := by kernel_rfl, f158 := by kernel_rfl, f178 := by kernel_rfl, f180 := by kernel_rfl, f183 := by kernel_rfl, f186 := by kernel_rfl, f190 := by kernel_rfl, f191 := by kernel_rfl, f156 := by kernel_rfl, f160 := by kernel_rfl, f181 := by kernel_rfl, f161 := by kernel_rfl, f164 := by kernel_rfl, f165 := by kernel_rfl, f169 := by kernel_rfl, f171 := by kernel_rfl, f172 := by kernel_rfl, f174 := by kernel_rfl, f176 := by kernel_rfl, f184 := by kernel_rfl, f185 := by kernel_rfl, f173 := by kernel_rfl, f175 := by kernel_rfl, f48 := rfl, o48 := orcR_48, f146 := rfl, f105 := rfl, o146 := orcR_146, o105 := orcR_105, s105 := orsB_105, f167 := rfl, o167 := orcR_167 }
theorem own : ownKnob Try.prog.godebug = none := by kernel_rfl
theorem laidOut : laidOutB Try.prog = true := by kernel_rfl
theorem typed (avs : List AV) (h : ArgsOk X.T [] avs) : Pus prog 152 avs (.b true) := by
  match avs, h with
  | [], _ => exact law152 has rfl

set_option maxRecDepth 100000 in
theorem lifted (os : Os) (started : os.Started) (H : Type) (enc : TypeId × Value → H) :
    ReturnsInHanded {} Try.checked os 7 .any (Rows.chaintextNamesSpec.pre6 enc Try.prog Try.f7 Rows.chaintextNamesRow.domain false) (Rows.chaintextNamesSpec.post enc Try.prog Try.f7 false true false false) := by
  refine returnsInHanded_of_change (C := Try.checked) own started (by kernel_rfl) Try.func7
    (ChangeSpec.witness6 (enc := enc) (C := Try.checked) false ⟨#[], #[], []⟩ 8 (by kernel_rfl) (by kernel_rfl) (by kernel_rfl) (by kernel_rfl)) ?_
  intro W base args ds gs before hval0 hW hcnd _
  have hval : ∀ (j : Nat) t v, Try.f7.params[j]? = some t → args[j]? = some v → Value.okWide Try.prog W .any base t v := hval0
  have hW' := hW
  obtain ⟨p, q, hA0, hV, rfl, hfz, hnd⟩ := hW
  have hA : DataW.TrodAll enc Try.prog W 0 (fun _ => true) true Try.f7.params.toList args.toList ds p := hA0
  rw [Try.params7] at hA hval
  obtain ⟨rfl, rfl⟩ := trodVars_none hV
  obtain ⟨avs, hR, hok⟩ := args_read at_.T at_.types (ts := []) (by decide) (fun j t v h1 h2 => hval j t v (by simpa using h1) (by simpa using h2)) hA
  have hlt := args_lt hA
  have hlen := trod_len hA
  refine (law_calls at_ (f := 7) (c := 152) rfl (ok152.enters _ _) hR (typed avs hok)).mono fun e W' ⟨he, bel⟩ => ?_
  subst he
  have hB := args_below laidOut bel (by kernel_rfl) hA hlt
  obtain rfl := ds0 hlen
  exact ⟨_, rfl, _, _, _, [], _, [], hW', trodAll_mk1 (shut_bool Try.underlying4 _), hB, rfl, bel.frame _, fun h => by cases h⟩

theorem over : Rows.chaintextNamesRow.holds Try.pinned (OpenSpec.ofChange Rows.chaintextNamesSpec) :=
  OpenClaim.holds_of_wide 7 Try.f7 rfl rfl rfl rfl rfl rfl rfl ⟨rfl, rfl, rfl, rfl, rfl⟩ rfl rfl rfl rfl rfl (by kernel_rfl) Try.func7 (by kernel_rfl)
    (of_decide_eq_true (by kernel_rfl)) (by unfold Func.isWrapper; rw [if_neg (of_decide_eq_false (by kernel_rfl))]; exact ⟨rfl, rfl⟩)
    (fun os started H enc _ => lifted os started H enc)

/-- The statement. -/
theorem proved : Rows.ChaintextNamesSaid := over
#print axioms proved
end Go.Proofs.Ytffbkdcgkhbpoaa.ChaintextNamesProof
