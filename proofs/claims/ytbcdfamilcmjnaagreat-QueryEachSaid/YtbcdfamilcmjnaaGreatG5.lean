/- Parts of the proof: H44, U44c, S3, U44d, U44e, U44f, U44g, U44h, U44i, U44k, U44l, U44m, U44j, H44b, H44c. -/
import Derived.Test.YtbcdfamilcmjnaaGreatG1
import Derived.Maps.RangeRun
import Derived.Test.YtbcdfamilcmjnaaGreatG2
set_option linter.all false
/- Parts of the proof. -/
namespace Go.AM
open Go Go.RowKit Go.BigFrame Go.ChangeMaps
def wordL:List (List UInt8 × Int):=[([103,111,114,111,117,116,105,110,101,115],1),([102,114,97,109,101,115],2),([108,111,99,97,108,115],3),([100,101,102,101,114,115],4),([112,97,110,105,99,115],5),([119,97,105,116,115],6),([105,110],7),([115,108,111,116],8)]
def wordM (n:Int):List UInt8:=match wordL.find? (fun x=>x.2==n) with | some x=>x.1 | none=>[]
def wordE (j:Nat):MapEntry:=⟨.string ⟨(wordM ((j:Int)+1)).toArray⟩,.int .u8 ((j:Int)+1),j⟩
def wordEs:Array MapEntry:=#[wordE 0,wordE 1,wordE 2,wordE 3,wordE 4,wordE 5,wordE 6,wordE 7]
theorem wordEs_mem {e:MapEntry} (h:e∈wordEs.toList) :∃j,j<8∧e=wordE j:=by
 simp only [wordEs,List.mem_cons,List.not_mem_nil,or_false] at h
 rcases h with h | h | h | h | h | h | h | h
 ·exact ⟨0,by decide,h⟩
 ·exact ⟨1,by decide,h⟩
 ·exact ⟨2,by decide,h⟩
 ·exact ⟨3,by decide,h⟩
 ·exact ⟨4,by decide,h⟩
 ·exact ⟨5,by decide,h⟩
 ·exact ⟨6,by decide,h⟩
 ·exact ⟨7,by decide,h⟩
theorem wordE_mem {j:Nat} (h:j<8):wordE j∈wordEs.toList:=by
 simp only [wordEs,List.mem_cons,List.not_mem_nil,or_false]
 match j,h with
 | 0,_ | 1,_ | 2,_ | 3,_ | 4,_ | 5,_ | 6,_ | 7,_=>simp
theorem wordEs_map:wordEs.toList.map (fun e=>(e.key,e.val))=wordL.map fun x=>(Value.string ⟨x.1.toArray⟩,Value.int .u8 x.2):=rfl
theorem wordEs_nodup:(wordEs.toList.map (·.born)).Nodup:=by
 show [0,1,2,3,4,5,6,7].Nodup
 decide
theorem wordEs_born {e:MapEntry} (h:e∈wordEs.toList):e.born<8:=by
 obtain ⟨j,hj,rfl⟩:=wordEs_mem h
 exact hj
theorem wordM_no {n:Int} (h:¬(1≤n∧n≤8)):wordM n=[]:=by
 have e:wordL.find? (fun x=>x.2==n)=none:=by
  rw [List.find?_eq_none]
  intro x hx
  have:1≤x.2∧x.2≤8:=by
   simp only [wordL,List.mem_cons,List.not_mem_nil,or_false] at hx
   rcases hx with rfl | rfl | rfl | rfl | rfl | rfl | rfl | rfl<;>decide
  simp only [beq_iff_eq]
  omega
 unfold wordM
 rw [e]
theorem setBlock_at {w:World} {r:Nat} {o:Obj} (h:r<w.heap.size):(setBlock w r o).heap[r]?=some o:=by
 simp [setBlock,h]
theorem setBlock_ne {w:World} {r i:Nat} {o:Obj} (h:i≠r):(setBlock w r o).heap[i]?=w.heap[i]?:=by
 simp only [setBlock]
 rw [Array.getElem?_setIfInBounds_ne (by omega)]
theorem setBlock_below {w0 w:World} {n r:Nat} {o:Obj} (h:Below n w0 w) (hr:n≤r):Below n w0 (setBlock w r o):=
 ⟨h.os,h.tape,h.output,by simpa [setBlock] using h.size,fun i hi=>(setBlock_ne (by omega)).trans (h.block i hi)⟩
section
variable {P:Program}
theorem setObj_map {w:World} {r:Nat} {es:Array MapEntry} {c:Nat} (h:w.heap[r]?=some (.map es c)) (o':Obj):(setObj r o').run P w=.ok () (setBlock w r o'):=by
 simp [setObj,Sem.run,h,setBlock]
theorem insert_run {w:World} {r clock tm k e:Nat} {es:Array MapEntry} {l:List (List UInt8 × Int)} (hun:P.underlying tm=some (.map k e)) (hks:P.underlying k=some .string) (hb:w.heap[r]?=some (.map es clock))
  (hm:es.toList.map (fun e=>(e.key,e.val))=l.map fun x=>(Value.string ⟨x.1.toArray⟩,Value.int .u8 x.2)) {s:List UInt8} (hf:l.find? (fun x=>x.1==s)=none) (v:Value) :
  (Instr.mapUpdate tm (.map (some r)) (.string ⟨s.toArray⟩) v).run P w=.ok () (setBlock w r (.map (es.push ⟨.string ⟨s.toArray⟩,v,clock⟩) (clock+1))):=by
 have hget:(getObj r).run P w=.ok (.map es clock) w:=by simp [getObj,Sem.run,hb]
 have hck:(Instr.checkKey false 10000 k (.string ⟨s.toArray⟩)).run P w=.ok () w:=by
  rw [Instr.checkKey]
  simp [run_underlying hks]
 have hfn:Instr.findNow .string (.string ⟨s.toArray⟩) es.toList 0=some none:=by
  rcases findNow_ok s es.toList l 0 hm with ⟨h,_⟩ | ⟨j,x,_,h⟩
  ·exact h
  ·rw [hf] at h;cases h
 have hfk:(Instr.findKey k (.string ⟨s.toArray⟩) es.toList).run P w=.ok none w:=by
  simp [Instr.findKey,run_underlying hks,hfn]
 simp only [Instr.mapUpdate,Sem.run_bind,run_underlying hun,Result.andThen_ok,hget,hck,hfk]
 exact setObj_map hb _
end
def OpsAre (ops:Array Oper) (l:List (Option Nat × Op)):Prop:=ops.toList.map (fun o=>(o.dst,o.op))=l∧∀o∈ops.toList,o.guard=none
theorem OpsAre.at {ops:Array Oper} {l:List (Option Nat × Op)} (h:OpsAre ops l) {i:Nat} {d:Option Nat} {p:Op} (hi:l[i]?=some (d,p)) :∃o,ops[i]?=some o∧o.dst=d∧o.op=p∧o.guard=none:=by
 rw [← h.1,List.getElem?_map,Option.map_eq_some_iff] at hi
 obtain ⟨o,h1,h2⟩:=hi
 injection h2 with h2 h3
 exact ⟨o,by simpa using h1,h2,h3,h.2 o (List.mem_of_getElem? h1)⟩
theorem OpsAre.size {ops:Array Oper} {l:List (Option Nat × Op)} (h:OpsAre ops l):ops.size=l.length:=by
 rw [← h.1];simp
def tv (a:Act) (t:Nat):Value:=a.tmps.getD t undef
theorem tv_put (a:Act) (d:Nat) (v:Value) (t:Nat) (h:d<a.tmps.size):tv (a.put (some d) v) t=if t=d then v else tv a t:=by
 unfold tv Act.put
 simp only [Array.getD_eq_getD_getElem?,Array.getElem?_setIfInBounds]
 by_cases e:t=d
 ·subst e;simp [h]
 ·rw [if_neg (fun e'=>e e'.symm),if_neg e]
section
variable {P:Program} {ops:Array Oper} {l:List (Option Nat × Op)} {Q:Exit→Act→World→Prop} {i:Nat} {rest:List Nat} {a:Act} {w w':World}
theorem st_val (h:OpsAre ops l) {d:Nat} {p:Op} (hi:l[i]?=some (some d,p)) {v:Value} (hr :∀o:Oper,o.op=p→(execOp a.eval o).run P w=.ok (.value v) w') (hk:wpOps P ops Q rest (a.put (some d) v) w'):wpOps P ops Q (i::rest) a w:=by
 obtain ⟨o,h1,h2,h3,h4⟩:=h.at hi
 rw [wpOps_cons]
 exact step_val (G:=⟨fun _ _=>none,fun _ _=>none,fun _ _=>none,fun _=>none,fun _=>none⟩) (nt:=0) h1 h4 (hr o h3) (by rw [h2];exact hk)
theorem st_valo {o:Oper} (h1:ops[i]?=some o) {d:Nat} (h2:o.dst=some d) (h4:o.guard=none) {v:Value} (hr:(execOp a.eval o).run P w=.ok (.value v) w') (hk:wpOps P ops Q rest (a.put (some d) v) w'):wpOps P ops Q (i::rest) a w:=by
 rw [wpOps_cons]
 exact step_val (G:=⟨fun _ _=>none,fun _ _=>none,fun _ _=>none,fun _=>none,fun _=>none⟩) (nt:=0) h1 h4 hr (by rw [h2];exact hk)
theorem st_unit (h:OpsAre ops l) {p:Op} (hi:l[i]?=some (none,p)) (hr :∀o:Oper,o.op=p→(execOp a.eval o).run P w=.ok .skip w') (hk:wpOps P ops Q rest a w'):wpOps P ops Q (i::rest) a w:=by
 obtain ⟨o,h1,h2,h3,h4⟩:=h.at hi
 rw [wpOps_cons]
 unfold wpOp
 rw [h1]
 simp only
 rw [if_pos (by simp [Region.wanted,h4])]
 refine .inl ?_
 unfold Oper.wp
 rw [hr o h3,Oper.upon_skip,h2]
 exact hk
theorem st_call (h:OpsAre ops l) {d:Nat} {p:Op} (hi:l[i]?=some (some d,p)) {f:FuncId} {args:Array Value} (hr :∀o:Oper,o.op=p→(execOp a.eval o).run P w=.ok (.enter f args) w) (hk:Calls P f args w fun e w''=>match e with | .returned v=>wpOps P ops Q rest (a.put (some d) v) w'' | _=>False):wpOps P ops Q (i::rest) a w:=by
 obtain ⟨o,h1,h2,h3,h4⟩:=h.at hi
 rw [wpOps_cons]
 unfold wpOp
 rw [h1]
 simp only
 rw [if_pos (by simp [Region.wanted,h4])]
 refine .inl ?_
 unfold Oper.wp
 rw [hr o h3,Oper.upon_enter,h2]
 refine hk.mono fun e w'' he=>?_
 cases e with
 | returned v=>exact he
 | panicked c=>exact he.elim
 | outgrown=>exact he.elim
end
def insOp (tm:Nat) (j:Nat):Op:=.insert tm (.tmp 1) (.const (.string ⟨(wordM ((j:Int)+1)).toArray⟩)) (.const (.int .u8 ((j:Int)+1)))
theorem words_find {j:Nat} (h:j<8):(wordL.take j).find? (fun x=>x.1==wordM ((j:Int)+1))=none:=by
 match j,h with
 | 0,_ | 1,_ | 2,_ | 3,_ | 4,_ | 5,_ | 6,_ | 7,_=>rfl
theorem words_map {j:Nat} (h:j≤8):(wordEs.toList.take j).map (fun e=>(e.key,e.val))=(wordL.take j).map fun x=>(Value.string ⟨x.1.toArray⟩,Value.int .u8 x.2):=by
 rw [List.map_take,wordEs_map,← List.map_take]
theorem words_push {j:Nat} (h:j<8):(wordEs.toList.take j).toArray.push (wordE j)=(wordEs.toList.take (j+1)).toArray:=by
 match j,h with
 | 0,_ | 1,_ | 2,_ | 3,_ | 4,_ | 5,_ | 6,_ | 7,_=>rfl
def WordsR (w:World):Ending→World→Prop:=fun e w'=>∃b,e=.returned (.map (some b))∧w'.heap[b]?=some (.map wordEs 8)∧w.heap.size≤b∧Below w.heap.size w w'
section
variable {P:Program}
theorem words_calls {fw tm k e:Nat} {fn:Func} {ops0 ops1:Array Oper} (hf:P.funcs[fw]?=some fn) (hb:fn.body=some (.seq (.region 0 ops0 false) (.seq (.region 1 ops1 false) .ret))) (hn:fn.ntmps=3) (hres:fn.results=#[.tmp 0])
  (hun:P.underlying tm=some (.map k e)) (hks:P.underlying k=some .string)
  (h0:OpsAre ops0 [(some 0,.assign (.const (.map none)))])
  (h1:OpsAre ops1 [(some 1,.makeMap tm none),(none,insOp tm 0),(none,insOp tm 1),(none,insOp tm 2),(none,insOp tm 3),(none,insOp tm 4),(none,insOp tm 5),(none,insOp tm 6),(none,insOp tm 7),(some 2,.move (.tmp 1)),(some 0,.assign (.tmp 2))]) (w:World) :
  Calls P fw #[] w (WordsR w):=by
 refine calls_of_wp hf hb ?_
 rw [hn]
 refine wp_seq (wp_region ?_)
 rw [h0.size]
 show wpOps P ops0 _ [0] _ _
 refine st_val h0 (d:=0) (v:=.map none) (w':=w) rfl (fun o ho=>by simp only [execOp,ho];rfl) ?_
 refine wp_seq (wp_region ?_)
 rw [h1.size]
 show wpOps P ops1 _ [0,1,2,3,4,5,6,7,8,9,10] _ _
 refine st_val h1 (d:=1) (v:=.map (some w.heap.size)) (w':=w.alloc (.map #[] 0)) rfl (fun o ho=>by simp only [execOp,ho];exact run_val (by simp [Instr.makeMap,run_newObj])) ?_
 have start:(w.alloc (.map #[] 0)).heap[w.heap.size]?=some (.map (wordEs.toList.take 0).toArray 0)∧Below w.heap.size w (w.alloc (.map #[] 0)):=⟨heap_alloc_new w _,(Below.refl _ _).alloc (Nat.le_refl _) _⟩
 generalize w.alloc (.map #[] 0)=w1 at start ⊢
 have ins :∀{j:Nat} {w2:World} (rest:List Nat) (a:Act) (Q:Exit→Act→World→Prop),j<8→tv a 1=.map (some w.heap.size)→w2.heap[w.heap.size]?=some (.map (wordEs.toList.take j).toArray j)∧Below w.heap.size w w2→
   (∀w3:World,w3.heap[w.heap.size]?=some (.map (wordEs.toList.take (j+1)).toArray (j+1))∧Below w.heap.size w w3→wpOps P ops1 Q rest a w3)→wpOps P ops1 Q ((j+1)::rest) a w2:=by
  intro j w2 rest a Q hj ha ⟨q1,q2⟩ hk
  have hlt:w.heap.size<w2.heap.size:=(Array.getElem?_eq_some_iff.1 q1).1
  refine st_unit h1 (p:=insOp tm j) (w':=setBlock w2 w.heap.size (.map ((wordEs.toList.take j).toArray.push (wordE j)) (j+1))) ?_ (fun o ho=>?_) (hk _ ⟨?_,setBlock_below q2 (Nat.le_refl _)⟩)
  ·match j,hj with
   | 0,_ | 1,_ | 2,_ | 3,_ | 4,_ | 5,_ | 6,_ | 7,_=>rfl
  ·simp only [execOp,ho,insOp]
   refine run_unit ?_
   rw [show a.eval (.tmp 1)=.map (some w.heap.size) from ha]
   exact insert_run hun hks q1 (l:=wordL.take j) (by rw [List.toList_toArray];exact words_map (by omega)) (words_find hj) _
  ·rw [setBlock_at hlt,words_push hj]
 refine ins _ _ _ (by decide) (by rfl) start fun w2 s2=>ins _ _ _ (by decide) (by rfl) s2 fun w3 s3=>ins _ _ _ (by decide) (by rfl) s3 fun w4 s4=>ins _ _ _ (by decide) (by rfl) s4 fun w5 s5=>ins _ _ _ (by decide) (by rfl) s5 fun w6 s6=>ins _ _ _ (by decide) (by rfl) s6 fun w7 s7=>ins _ _ _ (by decide) (by rfl) s7 fun w8 s8=>ins _ _ _ (by decide) (by rfl) s8 fun w9 s9=>?_
 refine st_val h1 (d:=2) (v:=.map (some w.heap.size)) (w':=w9) rfl (fun o ho=>by simp only [execOp,ho];rfl) ?_
 refine st_val h1 (d:=0) (v:=.map (some w.heap.size)) (w':=w9) rfl (fun o ho=>by simp only [execOp,ho];rfl) ?_
 refine wp_ret ?_
 refine ⟨rfl,.map (some w.heap.size),?_,_,rfl,s9.1,Nat.le_refl _,s9.2⟩
 rw [results_eq,hres]
 have h2:(resVar ((((({ tmps:=#[]++Array.replicate (3-(#[]:Array Value).size) undef,defers:=[] }:Act).put (some 0) (Value.map none)).put (some 1) (Value.map (some w.heap.size))).put (some 2) (Value.map (some w.heap.size))).put (some 0) (Value.map (some w.heap.size))).tmps (.tmp 0)).run P w9=.ok (.map (some w.heap.size)) w9:=rfl
 simpa using h2
end
def hwSlots:List Nat:=[6,7,15,16,17,18,19,20,21,22,23,24,25,26]
def hs243 (n:Int) (σ:Sl):Sl:=fun t=>if t=5 then .s (wordM n) else if hwSlots.contains t=true then .u else σ t
def hw243 (σ:Sl) (st:St):Option (AE × Sl × St):=match σ 1,σ 5 with
 | .p k v 0,.s []=>match lk st.bx k with
  | some (v',.i .u8 n::_)=>if v'=v then some (.normal,hs243 n σ,st) else none
  | _=>none
 | _,_=>none
theorem hw243_eq {σ:Sl} {st:St} {k:Key} {v:Nat} {n:Int} {cs:List AV} (h1:σ 1=.p k v 0) (h5:σ 5=.s []) (hk:lk st.bx k=some (v,.i .u8 n::cs)):hw243 σ st=some (.normal,hs243 n σ,st):=by
 unfold hw243
 rw [h1,h5]
 simp only [hk,if_true]
theorem hw243_inv {σ σ':Sl} {st st':St} {e:AE} (h:hw243 σ st=some (e,σ',st')) :∃k v n cs,σ 1=.p k v 0∧σ 5=.s []∧lk st.bx k=some (v,.i .u8 n::cs)∧e=.normal∧σ'=hs243 n σ∧st'=st:=by
 unfold hw243 at h
 split at h
 ·rename_i k v h1 h5
  split at h
  ·rename_i v' n cs hk
   split at h
   ·rename_i hv
    subst hv
    cases h
    exact ⟨k,v',n,cs,h1,h5,hk,rfl,rfl,rfl⟩
   ·cases h
  ·cases h
 ·cases h
def curOf (n:Int) (seen:Array Nat):List UInt8:=if 1≤n∧n≤8∧seen.contains (n-1).toNat=true then wordM n else []
theorem cur_push {n:Int} {seen:Array Nat} {j:Nat} (hj:j<8):curOf n (seen.push j)=if (n==(j:Int)+1)=true then wordM ((j:Int)+1) else curOf n seen:=by
 unfold curOf
 by_cases h:n=(j:Int)+1
 ·subst h
  rw [if_pos ⟨by omega,by omega,by simp⟩,if_pos (by simp)]
 ·rw [if_neg (c:=(n==(j:Int)+1)=true) (by simpa using h)]
  by_cases h1:1≤n∧n≤8
  ·have:(seen.push j).contains (n-1).toNat=seen.contains (n-1).toNat:=by
    simp only [Array.contains_push]
    have:((n-1).toNat==j)=false:=by simp;omega
    rw [this,Bool.or_false]
   rw [this]
  ·rw [if_neg (fun h=>h1 ⟨h.1,h.2.1⟩),if_neg (fun h=>h1 ⟨h.1,h.2.1⟩)]
theorem cur_all {n:Int} {seen:Array Nat} (h:(leftOf wordEs seen).size=0):curOf n seen=wordM n:=by
 unfold curOf
 by_cases h1:1≤n∧n≤8
 ·rw [if_pos]
  refine ⟨h1.1,h1.2,?_⟩
  have hm:wordE (n-1).toNat∈wordEs:=by simpa using wordE_mem (j:=(n-1).toNat) (by omega)
  have h2:leftOf wordEs seen=#[]:=Array.eq_empty_of_size_eq_zero h
  unfold leftOf at h2
  rw [Array.filter_eq_empty_iff] at h2
  have:=h2 _ hm
  simpa [wordE] using this
 ·rw [if_neg (fun h=>h1 ⟨h.1,h.2.1⟩),wordM_no h1]
theorem words_size:wordEs.size=8:=rfl
theorem left_le (seen:Array Nat):(leftOf wordEs seen).size<9:=by
 have h:(leftOf wordEs seen).size≤wordEs.size:=by
  unfold leftOf
  exact Array.size_filter_le
 rw [words_size] at h
 omega
theorem left_push {seen:Array Nat} {e:MapEntry} (h:e∈(leftOf wordEs seen).toList):(leftOf wordEs (seen.push e.born)).size<(leftOf wordEs seen).size:=by
 have e1:leftOf wordEs (seen.push e.born)=(leftOf wordEs seen).filter (fun x=>!(x.born==e.born)):=by
  unfold leftOf
  rw [Array.filter_filter]
  congr 1
  funext x
  simp only [Array.contains_push,Bool.not_or,Bool.and_comm]
 rw [e1,Array.size_filter_lt_size_iff_exists]
 exact ⟨e,by simpa using h,by simp⟩
section
variable {P:Program} {X:Cx}
set_option maxHeartbeats 1000000 in
theorem range_hand {nt d fw tm ts t5 k e:Nat} {ops5 ops6 ops7 ops8 ops9:Array Oper} (hnt:27≤nt) (hun:P.underlying tm=some (.map k e)) (hT:TTok P X.T) {fs:List (Nat × Nat)} (hst:(TK.st fs).ok P ts) (hf0:fs[0]?=some (t5,0)) {i5':TI} (hi5:X.T t5=some i5') (hi5s:i5'.size=1) (hi5a:i5'.kind.agg=false)
  (hw :∀w,(callFunc fw #[]).run P w=.ok (.enter fw #[]) w∧Calls P fw #[] w (WordsR w))
  (h5:OpsAre ops5 [(some 15,.call ⟨.value (.func fw),#[],#[]⟩),(some 16,.range tm (.tmp 15))])
  (h6:OpsAre ops6 [(some 17,.next (.tmp 16) false),(some 18,.extract (.tmp 17) 0)])
  (h7:OpsAre ops7 [(some 19,.entry (.tmp 16)),(some 20,.extract (.tmp 19) 0),(some 21,.extract (.tmp 19) 1),(some 6,.assign (.tmp 20)),(some 7,.assign (.tmp 21))])
  (h8:OpsAre ops8 [(some 22,.move (.tmp 7)),(some 23,.fieldAddr ts (.tmp 1) 0),(some 24,.load t5 (.tmp 23)),(some 25,.binOp .eql t5 (.tmp 22) (.tmp 24) t5)])
  (h9:OpsAre ops9 [(some 26,.move (.tmp 6)),(some 5,.assign (.tmp 26))]) :
  CodeOk P X nt d hw243 (.seq (.region 5 ops5 false) (.block 0 (.loop (.seq (.region 6 ops6 false) (.seq (.cond (.tmp 18) .skip (.exit 0)) (.block 1 (.seq (.region 7 ops7 false) (.seq (.region 8 ops8 false) (.cond (.tmp 25) (.region 9 ops9 false) .skip))))))))):=by
 intro σ st e' σ' st' h G w0 w a hfm hA hR Q hQ
 obtain ⟨kk,v,n,cs,q1,q5,qb,rfl,rfl,rfl⟩:=hw243_inv h
 have hsz:a.tmps.size=nt:=hA.2.1
 -- region 5
 refine wp_seq (wp_region ?_)
 rw [h5.size]
 show wpOps P ops5 _ [0,1] _ _
 refine st_call h5 (d:=15) rfl (f:=fw) (args:=#[]) (fun o ho=>?_) ((hw w).2.mono fun e1 w1 he=>?_)
 ·simp only [execOp,ho,resolve,Act.eval,Deferred.ofValue,invoke,Sem.run_bind,Sem.run_pure,Result.andThen_ok]
  simpa using (hw w).1
 obtain ⟨b,rfl,hb,hge,hbel⟩:=he
 refine st_val h5 (d:=16) (v:=.pointer (some ⟨w1.heap.size,0,none⟩)) (w':=w1.alloc (.mapIter (some b) 8 #[] 8)) rfl (fun o ho=>?_) ?_
 ·simp only [execOp,ho]
  refine run_val ?_
  rw [show (a.put (some 15) (.map (some b))).eval (.tmp 15)=.map (some b) from by
   show tv _ 15=_
   rw [tv_put _ _ _ _ (by omega),if_pos rfl]]
  have hg:(getObj b).run P w1=.ok (.map wordEs 8) w1:=by simp [getObj,Sem.run,hb]
  simp [Instr.range,run_underlying hun,hg]
 have hlt1:w1.heap.size<(w1.alloc (.mapIter (some b) 8 #[] 8)).heap.size:=by simp
 have hb1:b<w1.heap.size:=(Array.getElem?_eq_some_iff.1 hb).1
 have hbel1:Below w.heap.size w (w1.alloc (.mapIter (some b) 8 #[] 8)):=hbel.alloc (Nat.le_trans hbel.size (Nat.le_refl _)) _
 have hbm:(w1.alloc (.mapIter (some b) 8 #[] 8)).heap[b]?=some (.map wordEs 8):=(Below.heap_alloc _ _ _ hb1).trans hb
 have hrm:(w1.alloc (.mapIter (some b) 8 #[] 8)).heap[w1.heap.size]?=some (.mapIter (some b) 8 #[] 8):=heap_alloc_new w1 _
 have hr0:w.heap.size≤w1.heap.size:=hbel.size
 generalize hr:w1.heap.size=r at *
 generalize w1.alloc (.mapIter (some b) 8 #[] 8)=w2 at *
 clear hlt1 hb hbel hb1
 -- what holds between two rounds
 let Inv:Array Nat→Act→World→Prop:=fun seen b' w'=>b'.defers=[]∧b'.tmps.size=nt∧(∀t,t≠5→hwSlots.contains t=false→R G (σ t) (tv b' t))∧tv b' 16=.pointer (some ⟨r,0,none⟩)∧tv b' 5=.string ⟨(curOf n seen).toArray⟩∧
  w'.heap[b]?=some (.map wordEs 8)∧(∃c,w'.heap[r]?=some (.mapIter (some b) 8 seen c)∧8≤c)∧Below w.heap.size w w'
 have out :∀{b':Act} {w':World} {seen:Array Nat},Inv seen b' w'→(leftOf wordEs seen).size=0→Q .normal b' w':=by
  intro b' w' seen hI h0
  obtain ⟨i1,i2,i3,i4,i5,i6,i7,i8⟩:=hI
  refine hQ b' w' G ⟨i1,i2,fun t=>?_⟩ ⟨.refl G,hR.below i8,Nat.le_refl _,fun _ _ _=>⟨rfl,rfl⟩,fun _ _ _ _ _ _ h=>h,fun _ _ _ h=>.inl h⟩
  unfold hs243
  split
  ·rename_i ht
   subst ht
   rw [cur_all h0] at i5
   have:R G (.s (wordM n)) (tv b' 5):=by rw [i5];exact .fz _ _ (.s _)
   exact this
  ·split
   ·exact .fz _ _ (.u _)
   ·rename_i h1 h2
    exact i3 t h1 (by simpa using h2)
 have init:Inv #[] ((a.put (some 15) (.map (some b))).put (some 16) (.pointer (some ⟨r,0,none⟩))) w2:=by
  have s15:(a.put (some 15) (.map (some b))).tmps.size=nt:=by simp [Act.put,hsz]
  refine ⟨hA.1,by simp [Act.put,hsz],fun t h1 h2=>?_,?_,?_,hbm,⟨8,hrm,Nat.le_refl _⟩,hbel1⟩
  ·have n15:t≠15:=by rintro rfl;simp [hwSlots] at h2
   have n16:t≠16:=by rintro rfl;simp [hwSlots] at h2
   rw [tv_put _ _ _ _ (by omega),if_neg n16,tv_put _ _ _ _ (by omega),if_neg n15]
   exact hA.2.2 t
  ·rw [tv_put _ _ _ _ (by omega),if_pos rfl]
  ·rw [tv_put _ _ _ _ (by omega),if_neg (by decide),tv_put _ _ _ _ (by omega),if_neg (by decide)]
   have h3:=hA.2.2 5
   rw [q5] at h3
   rw [show tv a 5=.string ⟨([]:List UInt8).toArray⟩ from h3.str_inv]
   unfold curOf
   rw [if_neg (by simp)]
 generalize (a.put (some 15) (.map (some b))).put (some 16) (.pointer (some ⟨r,0,none⟩))=a1 at init
 show wpOps P ops5 _ [] a1 w2
 show Code.wp P _ _ a1 w2
 refine wp_block (wp_loop_rounds 9 ?_)
 have rounds :∀(m:Nat) (seen:Array Nat) (b':Act) (w':World),Inv seen b' w'→(leftOf wordEs seen).size<m→Code.rounds P (.seq (.region 6 ops6 false) (.seq (.cond (.tmp 18) .skip (.exit 0)) (.block 1 (.seq (.region 7 ops7 false) (.seq (.region 8 ops8 false) (.cond (.tmp 25) (.region 9 ops9 false) .skip)))))) (Exit.inBlock 0 Q) m b' w':=by
  intro m
  induction m with
  | zero=>intro seen b' w' _ h;exact absurd h (Nat.not_lt_zero _)
  | succ m ih=>
   intro seen b' w' hI hm
   rw [rounds_succ]
   obtain ⟨i1,i2,i3,i4,i5,i6,⟨c,i7,i7c⟩,i8⟩:=hI
   refine wp_seq (wp_region ?_)
   rw [h6.size]
   show wpOps P ops6 _ [0,1] _ _
   obtain ⟨o0,o1,o2,o3,o4⟩:=h6.at (i:=0) rfl
   rcases run_next_at (P:=P) w' o0.type r b 8 c seen wordEs 8 i7 i6 (fun x hx=>wordEs_born hx) i7c with ⟨hz,hrun⟩ | ⟨ent,hent,w3,hw3,hrun⟩
   · -- all have come
    refine st_valo o1 o2 o4 (v:=.tuple #[.bool false]) (w':=w') ?_ ?_
    ·simp only [execOp,o3]
     refine run_val ?_
     rw [show b'.eval (.tmp 16)=.pointer (some ⟨r,0,none⟩) from i4]
     exact hrun
    have e17:tv (b'.put (some 17) (.tuple #[.bool false])) 17=.tuple #[.bool false]:=by rw [tv_put _ _ _ _ (by omega),if_pos rfl]
    refine st_val h6 (d:=18) (v:=.bool false) (w':=w') rfl (fun o ho=>?_) ?_
    ·simp only [execOp,ho]
     refine run_val ?_
     rw [show (b'.put (some 17) (.tuple #[.bool false])).eval (.tmp 17)=.tuple #[.bool false] from e17]
     simp [Instr.extract]
    refine wp_seq (wp_cond_false ?_ (wp_exit ?_))
    ·show tv _ 18=_
     rw [tv_put _ _ _ _ (by simp [Act.put];omega),if_pos rfl]
    ·show Exit.inBlock 0 Q (.exit 0) _ _
     simp only [Exit.inBlock,if_true]
     refine out (seen:=seen) ⟨i1,by simp [Act.put,i2],fun t h1 h2=>?_,?_,?_,i6,⟨c,i7,i7c⟩,i8⟩ hz
     ·have n17:t≠17:=by rintro rfl;simp [hwSlots] at h2
      have n18:t≠18:=by rintro rfl;simp [hwSlots] at h2
      rw [tv_put _ _ _ _ (by simp [Act.put];omega),if_neg n18,tv_put _ _ _ _ (by omega),if_neg n17]
      exact i3 t h1 h2
     ·rw [tv_put _ _ _ _ (by simp [Act.put];omega),if_neg (by decide),tv_put _ _ _ _ (by omega),if_neg (by decide)]
      exact i4
     ·rw [tv_put _ _ _ _ (by simp [Act.put];omega),if_neg (by decide),tv_put _ _ _ _ (by omega),if_neg (by decide)]
      exact i5
   · -- one more
    have hmem:ent∈wordEs.toList:=by
     unfold leftOf at hent
     simp only [Array.toList_filter',List.mem_filter] at hent
     exact hent.1
    obtain ⟨j,hj,rfl⟩:=wordEs_mem hmem
    have hlt:=left_push hent
    have hrne:b≠r:=by rintro rfl;rw [i6] at i7;cases i7
    have hrlt:r<w'.heap.size:=(Array.getElem?_eq_some_iff.1 i7).1
    have h3:w3.heap=w'.heap:=by rcases hw3 with rfl | rfl<;>rfl
    have hbel3:Below w.heap.size w w3:=by
     rcases hw3 with rfl | rfl
     ·exact i8
     ·exact i8.drew
    have hb3:(setBlock w3 r (.mapIter (some b) 8 (seen.push j) 8)).heap[b]?=some (.map wordEs 8):=(setBlock_ne hrne).trans (by rw [h3];exact i6)
    have hr3:(setBlock w3 r (.mapIter (some b) 8 (seen.push j) 8)).heap[r]?=some (.mapIter (some b) 8 (seen.push j) 8):=setBlock_at (by rw [h3];exact hrlt)
    have hbel4:Below w.heap.size w (setBlock w3 r (.mapIter (some b) 8 (seen.push j) 8)):=setBlock_below hbel3 hr0
    have hrun':(Instr.next (.pointer (some ⟨r,0,none⟩)) false o0.type).run P w'=.ok (.tuple #[.bool true,.string ⟨(wordM ((j:Int)+1)).toArray⟩,.int .u8 ((j:Int)+1)]) (setBlock w3 r (.mapIter (some b) 8 (seen.push j) 8)):=hrun
    generalize setBlock w3 r (.mapIter (some b) 8 (seen.push j) 8)=w4 at *
    have hrel:Rel G w0 st' w4:=hR.below hbel4
    refine st_valo o1 o2 o4 (v:=.tuple #[.bool true,.string ⟨(wordM ((j:Int)+1)).toArray⟩,.int .u8 ((j:Int)+1)]) (w':=w4) ?_ ?_
    ·simp only [execOp,o3]
     refine run_val ?_
     rw [show b'.eval (.tmp 16)=.pointer (some ⟨r,0,none⟩) from i4]
     exact hrun'
    -- what the slots hold
    let A:(Nat→Value)→Act→Prop:=fun f b'=>b'.defers=[]∧b'.tmps.size=nt∧∀t,tv b' t=f t
    have put :∀{f:Nat→Value} {b':Act} (d:Nat) (v:Value),d<27→A f b'→A (fun t=>if t=d then v else f t) (b'.put (some d) v):=by
     rintro f b' d v hd ⟨p1,p2,p3⟩
     refine ⟨p1,by simp [Act.put,p2],fun t=>?_⟩
     rw [tv_put _ _ _ _ (by omega),p3]
    have a0:A (tv b') b':=⟨i1,i2,fun _=>rfl⟩
    have a17:=put 17 (.tuple #[.bool true,.string ⟨(wordM ((j:Int)+1)).toArray⟩,.int .u8 ((j:Int)+1)]) (by decide) a0
    generalize b'.put (some 17) (.tuple #[.bool true,.string ⟨(wordM ((j:Int)+1)).toArray⟩,.int .u8 ((j:Int)+1)])=b1 at a17 ⊢
    refine st_val h6 (d:=18) (v:=.bool true) (w':=w4) rfl (fun o ho=>?_) ?_
    ·simp only [execOp,ho]
     refine run_val ?_
     rw [show b1.eval (.tmp 17)=_ from a17.2.2 17]
     simp [Instr.extract]
    have a18:=put 18 (.bool true) (by decide) a17
    generalize b1.put (some 18) (.bool true)=b2 at a18 ⊢
    show Code.wp P _ _ b2 w4
    refine wp_seq (wp_cond_true (a18.2.2 18) (wp_skip ?_))
    show Code.wp P _ _ b2 w4
    refine wp_block (wp_seq (wp_region ?_))
    rw [h7.size]
    show wpOps P ops7 _ [0,1,2,3,4] _ _
    refine st_val h7 (d:=19) (v:=.tuple #[.string ⟨(wordM ((j:Int)+1)).toArray⟩,.int .u8 ((j:Int)+1)]) (w':=w4) rfl (fun o ho=>?_) ?_
    ·simp only [execOp,ho]
     refine run_val ?_
     rw [show b2.eval (.tmp 16)=.pointer (some ⟨r,0,none⟩) from (a18.2.2 16).trans i4]
     exact run_entry_at w4 r b 8 seen wordEs 8 (wordE j) hr3 hb3 hmem wordEs_nodup
    have a19:=put 19 (.tuple #[.string ⟨(wordM ((j:Int)+1)).toArray⟩,.int .u8 ((j:Int)+1)]) (by decide) a18
    generalize b2.put (some 19) (.tuple #[.string ⟨(wordM ((j:Int)+1)).toArray⟩,.int .u8 ((j:Int)+1)])=b3 at a19 ⊢
    refine st_val h7 (d:=20) (v:=.string ⟨(wordM ((j:Int)+1)).toArray⟩) (w':=w4) rfl (fun o ho=>?_) ?_
    ·simp only [execOp,ho]
     refine run_val ?_
     rw [show b3.eval (.tmp 19)=_ from a19.2.2 19]
     simp [Instr.extract]
    have a20:=put 20 (.string ⟨(wordM ((j:Int)+1)).toArray⟩) (by decide) a19
    generalize b3.put (some 20) (.string ⟨(wordM ((j:Int)+1)).toArray⟩)=b4 at a20 ⊢
    refine st_val h7 (d:=21) (v:=.int .u8 ((j:Int)+1)) (w':=w4) rfl (fun o ho=>?_) ?_
    ·simp only [execOp,ho]
     refine run_val ?_
     rw [show b4.eval (.tmp 19)=_ from a20.2.2 19]
     simp [Instr.extract]
    have a21:=put 21 (.int .u8 ((j:Int)+1)) (by decide) a20
    generalize b4.put (some 21) (.int .u8 ((j:Int)+1))=b5 at a21 ⊢
    refine st_val h7 (d:=6) (v:=.string ⟨(wordM ((j:Int)+1)).toArray⟩) (w':=w4) rfl (fun o ho=>?_) ?_
    ·simp only [execOp,ho]
     rw [show b5.eval (.tmp 20)=_ from a21.2.2 20]
     rfl
    have a6:=put 6 (.string ⟨(wordM ((j:Int)+1)).toArray⟩) (by decide) a21
    generalize b5.put (some 6) (.string ⟨(wordM ((j:Int)+1)).toArray⟩)=b6 at a6 ⊢
    refine st_val h7 (d:=7) (v:=.int .u8 ((j:Int)+1)) (w':=w4) rfl (fun o ho=>?_) ?_
    ·simp only [execOp,ho]
     rw [show b6.eval (.tmp 21)=_ from a6.2.2 21]
     rfl
    have a7:=put 7 (.int .u8 ((j:Int)+1)) (by decide) a6
    generalize b6.put (some 7) (.int .u8 ((j:Int)+1))=b7 at a7 ⊢
    show Code.wp P _ _ b7 w4
    refine wp_seq (wp_region ?_)
    rw [h8.size]
    show wpOps P ops8 _ [0,1,2,3] _ _
    refine st_val h8 (d:=22) (v:=.int .u8 ((j:Int)+1)) (w':=w4) rfl (fun o ho=>?_) ?_
    ·simp only [execOp,ho]
     rw [show b7.eval (.tmp 7)=_ from a7.2.2 7]
     rfl
    have a22:=put 22 (.int .u8 ((j:Int)+1)) (by decide) a7
    generalize b7.put (some 22) (.int .u8 ((j:Int)+1))=b8 at a22 ⊢
    have hp1:R G (.p kk v 0) (tv b8 1):=by
     rw [a22.2.2 1,← q1]
     exact i3 1 (by decide) (by decide)
    obtain ⟨ti,hti,hsz5,_⟩:=(hT t5 i5' hi5).ti
    obtain ⟨va,hva,hRa⟩:=fad_ok (P:=P) (w:=w4) hst hf0 hti (by omega) (x:=.p kk v 0) (r:=.p kk v (0+0)) rfl hp1
    refine st_val h8 (d:=23) (v:=va) (w':=w4) rfl (fun o ho=>?_) ?_
    ·simp only [execOp,ho]
     exact run_val hva
    have a23:=put 23 va (by decide) a22
    generalize b8.put (some 23) va=b9 at a23 ⊢
    obtain ⟨vl,hvl,hRl⟩:=aload_ok (P:=P) hrel (hT t5 i5' hi5) (fun _=>hi5s) (x:=.p kk v (0+0)) (r:=.i .u8 n) (by rw [hi5s,hi5a];simp [aload,qb,ofCells]) hRa
    refine st_val h8 (d:=24) (v:=.int .u8 n) (w':=w4) rfl (fun o ho=>?_) ?_
    ·simp only [execOp,ho]
     refine run_val ?_
     rw [show b9.eval (.tmp 23)=va from a23.2.2 23,← hRl.int_inv]
     exact hvl
    have a24:=put 24 (.int .u8 n) (by decide) a23
    generalize b9.put (some 24) (.int .u8 n)=b10 at a24 ⊢
    refine st_val h8 (d:=25) (v:=.bool (((j:Int)+1)==n)) (w':=w4) rfl (fun o ho=>?_) ?_
    ·simp only [execOp,ho]
     refine run_val ?_
     rw [show b10.eval (.tmp 22)=.int .u8 ((j:Int)+1) from a24.2.2 22,show b10.eval (.tmp 24)=.int .u8 n from a24.2.2 24]
     simp only [Sem.run_bind,eqGuard_int,Result.andThen_ok]
     simp [binOp,Op.intCmp]
    have a25:=put 25 (.bool (((j:Int)+1)==n)) (by decide) a24
    generalize b10.put (some 25) (.bool (((j:Int)+1)==n))=b11 at a25 ⊢
    show Code.wp P _ _ b11 w4
    have hcp:=cur_push (n:=n) (seen:=seen) hj
    have next :∀(f:Nat→Value) (b':Act),A f b'→(∀t,t≠5→hwSlots.contains t=false→f t=tv b11 t)→f 16=.pointer (some ⟨r,0,none⟩)→f 5=.string ⟨(curOf n (seen.push j)).toArray⟩→Code.rounds P (.seq (.region 6 ops6 false) (.seq (.cond (.tmp 18) .skip (.exit 0)) (.block 1 (.seq (.region 7 ops7 false) (.seq (.region 8 ops8 false) (.cond (.tmp 25) (.region 9 ops9 false) .skip)))))) (Exit.inBlock 0 Q) m b' w4:=by
     rintro f b' ⟨p1,p2,p3⟩ p4 p5 p6
     refine ih (seen.push j) b' w4 ⟨p1,p2,fun t h1 h2=>?_,by rw [p3];exact p5,by rw [p3];exact p6,hb3,⟨8,hr3,Nat.le_refl _⟩,hbel4⟩ (by have:(wordE j).born=j:=rfl;rw [this] at hlt;omega)
     rw [p3,p4 t h1 h2,a25.2.2 t]
     have hn :∀d,hwSlots.contains d=true→t≠d:=by rintro d hd rfl;rw [hd] at h2;cases h2
     simp only [if_neg (hn 25 rfl),if_neg (hn 24 rfl),if_neg (hn 23 rfl),if_neg (hn 22 rfl),if_neg (hn 7 rfl),if_neg (hn 6 rfl),if_neg (hn 21 rfl),if_neg (hn 20 rfl),if_neg (hn 19 rfl),if_neg (hn 18 rfl),if_neg (hn 17 rfl)]
     exact i3 t h1 h2
    cases hq:(((j:Int)+1)==n) with
    | false=>
     refine wp_cond_false ?_ (wp_skip ?_)
     ·rw [← hq];exact a25.2.2 25
     ·refine next _ b11 ⟨a25.1,a25.2.1,fun _=>rfl⟩ (fun _ _ _=>rfl) ((a25.2.2 16).trans i4) ?_
      rw [hcp,if_neg (by rw [Bool.not_eq_true];simp only [beq_eq_false_iff_ne,ne_eq] at hq ⊢;exact fun h=>hq h.symm)]
      exact (a25.2.2 5).trans i5
    | true=>
     refine wp_cond_true ?_ (wp_region ?_)
     ·rw [← hq];exact a25.2.2 25
     rw [h9.size]
     show wpOps P ops9 _ [0,1] _ _
     refine st_val h9 (d:=26) (v:=.string ⟨(wordM ((j:Int)+1)).toArray⟩) (w':=w4) rfl (fun o ho=>?_) ?_
     ·simp only [execOp,ho]
      rw [show b11.eval (.tmp 6)=_ from a25.2.2 6]
      rfl
     have a26:=put 26 (.string ⟨(wordM ((j:Int)+1)).toArray⟩) (by decide) a25
     have e26 :∀t,t≠26→tv (b11.put (some 26) (.string ⟨(wordM ((j:Int)+1)).toArray⟩)) t=tv b11 t:=fun t ht=>by rw [tv_put _ _ _ _ (by have:=a25.2.1;omega),if_neg ht]
     generalize b11.put (some 26) (.string ⟨(wordM ((j:Int)+1)).toArray⟩)=b12 at a26 e26 ⊢
     refine st_val h9 (d:=5) (v:=.string ⟨(wordM ((j:Int)+1)).toArray⟩) (w':=w4) rfl (fun o ho=>?_) ?_
     ·simp only [execOp,ho]
      rw [show b12.eval (.tmp 26)=_ from a26.2.2 26]
      rfl
     have a5:=put 5 (.string ⟨(wordM ((j:Int)+1)).toArray⟩) (by decide) (show A (tv b12) b12 from ⟨a26.1,a26.2.1,fun _=>rfl⟩)
     generalize b12.put (some 5) (.string ⟨(wordM ((j:Int)+1)).toArray⟩)=b13 at a5 ⊢
     refine next _ b13 a5 (fun t h1 h2=>?_) ?_ ?_
     ·have n26:t≠26:=by rintro rfl;simp [hwSlots] at h2
      show (if t=5 then _ else tv b12 t)=_
      rw [if_neg h1,e26 t n26]
     ·show (if (16:Nat)=5 then _ else tv b12 16)=_
      rw [if_neg (by decide),e26 16 (by decide)]
      exact (a25.2.2 16).trans i4
     ·show (if (5:Nat)=5 then _ else tv b12 5)=_
      rw [if_pos rfl,hcp,if_pos (by simp only [beq_iff_eq] at hq ⊢;exact hq.symm)]
 exact rounds 9 #[] a1 w2 init (left_le _)
end
end Go.AM

/- Parts of the proof. -/
namespace Go.AM
open Go
set_option linter.unusedVariables false
set_option linter.unusedSimpArgs false
set_option maxRecDepth 4000
attribute [local irreducible] WO fillCells fillRows
def r243_0:List AI:=[oY 1 5 0,oC 2 (.s []),oI 3 0]
def r243_1:List AI:=[oK 10 5 1,oQ 11 247 [10],oM 4 11]
def r243_2:List AI:=[oM 12 4,oV 13 .neq 12 0]
def r243_3:List AI:=[oM 14 4,oC 2 (.s []),oM 3 14]
def r243_4:List AI:=[oC 5 (.s [])]
def r243_5:List AI:=[oF 27 0 1,oL 28 27]
def r243_6:List AI:=[oW 36 .eql 28 1,oM 35 36]
def r243_7:List AI:=[oW 38 .eql 28 3,oM 37 38]
def r243_8:List AI:=[oM 39 5,oF 40 1 1,oL 41 40,oQ 42 258 [41],oB 43 .add (.c (.s [32])) (.t 42),oB 44 .add (.t 43) (.c (.s [32])),oF 45 2 1,oL 46 45,oQ 47 258 [46],oT 48 .add 44 47,oT 49 .add 39 48,oM 5 49]
def r243_9:List AI:=[oW 51 .eql 28 6,oM 50 51]
def r243_10:List AI:=[oM 52 5,oF 53 3 1,oL 54 53,oQ 55 15 [54],oB 56 .add (.c (.s [32])) (.t 55),oT 57 .add 52 56,oM 5 57]
def r243_11:List AI:=[oW 59 .eql 28 7,oM 58 59]
def r243_12:List AI:=[oW 60 .eql 28 8,oM 58 60]
def r243_13:List AI:=[oF 62 4 1,oL 63 62,oQ 64 11 [63],oM 61 64,oE 65 0 61,oE 66 1 61,oM 8 65,oM 9 66]
def r243_14:List AI:=[oM 67 9,oV 68 .neq 67 0]
def r243_15:List AI:=[oM 69 9,oC 2 (.s []),oM 3 69]
def r243_16:List AI:=[oM 70 5,oM 71 8,oB 72 .add (.c (.s [32])) (.t 71),oT 73 .add 70 72,oM 5 73]
def r243_17:List AI:=[oM 29 5,oF 30 1 1,oL 31 30,oQ 32 258 [31],oB 33 .add (.c (.s [32])) (.t 32),oT 34 .add 29 33,oM 5 34]
def r243_18:List AI:=[oM 74 5,oM 2 74,oI 3 0]
abbrev c243_0:AC:=(.cond (.t 58) (sR 19 r243_13 (.seq (sR 20 r243_14 (.cond (.t 68) (sR 21 r243_15 .ret) .skip)) (.reg 22 r243_16))) (.reg 11 r243_17))
abbrev c243_1:AC:=(sR 23 r243_18 .ret)
abbrev c243_2:AC:=(sR 4 r243_4 (.seq (.hand hw243) (.seq (sR 10 r243_5 (.block 2 (sR 12 r243_6 (.cond (.t 35) .skip (sR 13 r243_7 (.cond (.t 37) (.reg 14 r243_8) (sR 15 r243_9 (.cond (.t 50) (.reg 16 r243_10) (.seq (sR 17 r243_11 (.cond (.t 58) .skip (.reg 18 r243_12))) c243_0))))))))) c243_1)))
abbrev c243_3:AC:=(.seq (sR 1 r243_1 (sR 2 r243_2 (.cond (.t 13) (sR 3 r243_3 .ret) .skip))) c243_2)
abbrev b243:AC:=(sR 0 r243_0 c243_3)
def pf243:AF:={ nt:=75,res:=[.tmp 2,.tmp 3],body:=b243 }
def T243_3 (prog:Prog)(K:BS→Int→Prop)(s5:BS):Prop:=
  K s5 0
def T243_4 (prog:Prog)(K:BS→Int→Prop)(s5:BS)(t58:Bool)(m0:Qry):Prop:=
  (t58=true→∃r'2:BS,∃r'3,Pus prog 11 [.s m0.name] (.tup [.s r'2,.i .i64 r'3])∧(r'3≠0→K ([]:BS) r'3)∧(¬(r'3≠0)→([32]:BS).length+r'2.length≤maxStr∧s5.length+(([32]:BS)++r'2).length≤maxStr∧T243_3 prog K (s5++(([32]:BS)++r'2))))∧(t58=false→∃r'7:BS,Pus prog 258 [.i .i64 m0.g] (.s r'7)∧([32]:BS).length+r'7.length≤maxStr∧s5.length+(([32]:BS)++r'7).length≤maxStr∧T243_3 prog K (s5++(([32]:BS)++r'7)))
def T243_2 (prog:Prog)(K:BS→Int→Prop)(m0:Qry):Prop:=
  (m0.kind=1→T243_3 prog K (wordM m0.kind))∧(¬(m0.kind=1)→(m0.kind=3→∃r'3:BS,Pus prog 258 [.i .i64 m0.g] (.s r'3)∧([32]:BS).length+r'3.length≤maxStr∧(([32]:BS)++r'3).length+([32]:BS).length≤maxStr∧∃r'5:BS,Pus prog 258 [.i .i64 m0.k] (.s r'5)∧((([32]:BS)++r'3)++([32]:BS)).length+r'5.length≤maxStr∧(wordM m0.kind).length+(((([32]:BS)++r'3)++([32]:BS))++r'5).length≤maxStr∧T243_3 prog K ((wordM m0.kind)++(((([32]:BS)++r'3)++([32]:BS))++r'5)))∧(¬(m0.kind=3)→(m0.kind=6→∃r'8:BS,Pus prog 15 [.i .i64 m0.key] (.s r'8)∧([32]:BS).length+r'8.length≤maxStr∧(wordM m0.kind).length+(([32]:BS)++r'8).length≤maxStr∧T243_3 prog K ((wordM m0.kind)++(([32]:BS)++r'8)))∧(¬(m0.kind=6)→(m0.kind=7→T243_4 prog K (wordM m0.kind) (decide (m0.kind=7)) m0)∧(¬(m0.kind=7)→T243_4 prog K (wordM m0.kind) (decide (m0.kind=8)) m0))))
def T243_1 (prog:Prog)(K:BS→Int→Prop)(m0:Qry):Prop:=
  ∃r'1,Pus prog 247 [m0.av] (.i .i64 r'1)∧(r'1≠0→K ([]:BS) r'1)∧(¬(r'1≠0)→T243_2 prog K m0)
def T243_0 (prog:Prog)(K:BS→Int→Prop)(q0:Qry):Prop:=
  T243_1 prog K q0
section
variable {prog:Prog}{d:Nat}{Q:AE→Sl→St→Prop}{K:BS→Int→Prop}(hQ:H2 AV.s (AV.i .i64) 2 3 Q K){σ:Sl}{st:St}
include hQ
variable {s5:BS}{t58:Bool}{m0:Qry}{v0:Nat}{q0:Qry}
variable (H1:σ 1=.p (d,0) v0 0)(H0:σ 0=q0.av)(H5:σ 5=.s s5)(H58:σ 58=.b t58)(B0:lk st.bx (d,0)=some (v0,[.i .u8 m0.kind,.i .i64 m0.g,.i .i64 m0.k,.i .i64 m0.key,.s m0.name]))
include H5 in
theorem w243_3 (h:T243_3 prog K s5):W prog d c243_1 σ st Q:=
 q_ J (m_ (m_ (m_ (e_ (rt_ (hQ _ _ _ _ H5 J h))))))
include H1 H5 H58 B0 in
theorem w243_4 (h:T243_4 prog K s5 t58 m0):W prog d c243_0 σ st (blockW 2 (thenW prog d c243_1 Q)):=
 cb_ H58 (fun g'1=>q_ J (f_ H1 (l_ J B0 J J ((h.1 g'1).elim fun r'2 e'6=>e'6.elim fun r'3 e'4=>ca_ (sc J J sn) e'4.1 (m_ (x_ J J (x_ J J (m_ (m_ (e_ (sq_ (q_ J (m_ (b_ J J neq_ (e_ (cs_ J (fun g'5=>q_ J (m_ (m_ (m_ (e_ (rt_ (hQ _ _ _ _ J J (e'4.2.1 g'5)))))))) (fun g'5=>sk_ (W.reg0 J fun _ _=>m_ (m_ (b_ J J (abin_cat' (e'4.2.2 g'5).1) (b_ H5 J (abin_cat' (e'4.2.2 g'5).2.1) (m_ (e_ (w243_3 hQ J (e'4.2.2 g'5).2.2)))))))))))))))))))))))) (fun g'1=>W.reg0 J fun _ _=>m_ (f_ H1 (l_ J B0 J J ((h.2 g'1).elim fun r'7 e'8=>ca_ (sc J J sn) e'8.1 (b_ J J (abin_cat' e'8.2.1) (b_ H5 J (abin_cat' e'8.2.2.1) (m_ (e_ (w243_3 hQ J e'8.2.2.2)))))))))
include H1 B0 in
theorem w243_2 (h:T243_2 prog K m0):W prog d c243_2 σ st Q:=
 q_ J (m_ (e_ (sq_ (W.hand (hw243_eq H1 J B0) (sq_ (q_ J (f_ H1 (l_ J B0 J J (e_ (bk_ (q_ J (b_ J J eql_ (m_ (e_ (cs_ J (fun g'1=>sk_ (w243_3 hQ J (h.1 g'1))) (fun g'1=>q_ J (b_ J J eql_ (m_ (e_ (cs_ J (fun g'2=>W.reg0 J fun _ _=>m_ (f_ H1 (l_ J B0 J J (((h.2 g'1).1 g'2).elim fun r'3 e'4=>ca_ (sc J J sn) e'4.1 (b_ J J (abin_cat' e'4.2.1) (b_ J J (abin_cat' e'4.2.2.1) (f_ H1 (l_ J B0 J J (e'4.2.2.2.elim fun r'5 e'6=>ca_ (sc J J sn) e'6.1 (b_ J J (abin_cat' e'6.2.1) (b_ J J (abin_cat' e'6.2.2.1) (m_ (e_ (w243_3 hQ J e'6.2.2.2)))))))))))))) (fun g'2=>q_ J (b_ J J eql_ (m_ (e_ (cs_ J (fun g'7=>W.reg0 J fun _ _=>m_ (f_ H1 (l_ J B0 J J ((((h.2 g'1).2 g'2).1 g'7).elim fun r'8 e'9=>ca_ (sc J J sn) e'9.1 (b_ J J (abin_cat' e'9.2.1) (b_ J J (abin_cat' e'9.2.2.1) (m_ (e_ (w243_3 hQ J e'9.2.2.2))))))))) (fun g'7=>sq_ (q_ J (b_ J J eql_ (m_ (e_ (cs_ J (fun g'10=>sk_ (w243_4 hQ H1 J J B0 ((((h.2 g'1).2 g'2).2 g'7).1 g'10))) (fun g'10=>W.reg0 J fun _ _=>b_ J J eql_ (m_ (e_ (w243_4 hQ H1 J J B0 ((((h.2 g'1).2 g'2).2 g'7).2 g'10))))))))))))))))))))))))))))))))))))
include H1 B0 in
theorem w243_1 (h:T243_1 prog K m0):W prog d c243_3 σ st Q:=
 sq_ (q_ J (l_ H1 B0 J J (h.elim fun r'1 e'2=>ca_ (sc J J sn) e'2.1 (m_ (e_ (q_ J (m_ (b_ J J neq_ (e_ (cs_ J (fun g'3=>q_ J (m_ (m_ (m_ (e_ (rt_ (hQ _ _ _ _ J J (e'2.2.1 g'3)))))))) (fun g'3=>sk_ (w243_2 hQ H1 B0 (e'2.2.2 g'3)))))))))))))
include H0 in
theorem w243_0 (h:T243_0 prog K q0):W prog d (sR 0 r243_0 c243_3) σ st Q:=
 q_ J (s_box H0 J (m_ (m_ (e_ (w243_1 hQ J lk_here h)))))
end
theorem p243 {prog:Prog}(hf:prog.fn 243=some pf243){q0:Qry}{K:BS→Int→Prop}(h:T243_0 prog K q0) :∃res0:BS,∃res1:Int,K res0 res1∧Pus prog 243 [q0.av] (.tup [.s res0,.i .i64 res1]):=
 P2 hf J (w243_0 (h2 J fun _ _=>J) J h)
end Go.AM

/- Parts of the proof. -/
namespace Go.AM
open Go
structure Dsk where
 image:Img
 state:Sta
 query:Qry
 out:List (List UInt8)
def AppD (ow:Ows) (o:Own) (n:Nat):Prop:=
 match o with
 | .ext=>False
 | .full=>True
 | .id k v=>(lk ow k=some (v,n)∧0<n)∧midSite≤k.2∧k.2<bigSite
theorem AppD.app {ow:Ows} {o:Own} {n:Nat} (h:AppD ow o n):App ow o n:=by
 cases o with
 | ext=>exact h
 | full=>exact h
 | id k v=>exact h.1
abbrev Dsk.fix (m:Dsk):List AV:=[.sl .ext (List.map Typ.row m.image.types),.sl .ext (List.map rowS m.image.texts),.sl .ext (List.map Fun.row m.image.funcs),.i .u8 m.state.outcome,.i .i64 m.state.failing,.i .i64 m.state.steps,.sl .ext (List.map Rou.row m.state.routines),.i .u8 m.query.kind,.i .i64 m.query.g,.i .i64 m.query.k,.i .i64 m.query.key,.s m.query.name]
def Dk (m:Dsk):BC:=fun bx ow k v=>∃o,lk bx k=some (v,m.fix++[.sl o (List.map rowS m.out)])∧AppD ow o m.out.length
theorem Dk.other {m:Dsk} {bx:Bxs} {ow:Ows} {k q:Key} {v:Nat} {a:Nat × List AV} (hn:q≠k) (h:Dk m bx ow k v):Dk m (st_ bx q a) ow k v:=by
 obtain ⟨o,h1,h2⟩:=h
 exact ⟨o,by rw [lk_ne hn];exact h1,h2⟩
theorem Dk.out {m:Dsk}:Out (Dk m):=fun d bx ow k v hk ⟨o,h1,h2⟩=>⟨o,by rw [lk_out hk];exact h1,h2⟩
theorem Dk.new {m:Dsk} {bx:Bxs} {ow:Ows} {k:Key} {v:Nat} {cs:List AV} (h:lk bx k=some (v,cs)) (hc:cs=m.fix++[.sl .full (List.map rowS m.out)]):Dk m bx ow k v:=⟨.full,by rw [← hc];exact h,trivial⟩
def ApS (S:List Nat) (d:Nat) (ow:Ows) (o:Own) (n:Nat):Prop:=App ow o n∧∀k v,o=.id k v→k.1=d∧S.contains k.2=true
theorem ApS.full {S:List Nat} {d n:Nat} {ow:Ows}:ApS S d ow .full n:=⟨trivial,fun _ _ h=>by cases h⟩
theorem ApS.new {S:List Nat} {d n n' site:Nat} {ow ow':Ows} {o o':Own} (h:ApS S d ow o n) (a:App ow' o' n') (he:ownKey o'=ownKey o∨ownKey o'=some (d,site)) (hs:S.contains site=true):ApS S d ow' o' n':=by
 refine ⟨a,fun k v e=>?_⟩
 subst e
 rcases he with he | he
 ·cases o with
  | ext=>cases he
  | full=>cases he
  | id k' v'=>
   injection he with he
   subst he
   exact h.2 _ _ rfl
 ·injection he with he
  subst he
  exact ⟨rfl,hs⟩
theorem ApS.keep {S1 S2:List Nat} {d n n2 site:Nat} {ow ow':Ows} {o o2:Own} (h2:ApS S2 d ow o2 n2) (h1:ApS S1 d ow o n) (hw :∀k,some k≠ownKey o→k≠(d,site)→lk ow' k=lk ow k) (hs:S1.contains site=true) (hd:(S1.all fun x=>!S2.contains x)=true):ApS S2 d ow' o2 n2:=by
 refine ⟨?_,h2.2⟩
 have hn :∀x,S1.contains x=true→S2.contains x=false:=fun x hx=>by
  have:=List.all_eq_true.1 hd x (by simpa using hx)
  simpa using this
 cases o2 with
 | ext=>exact h2.1
 | full=>exact h2.1
 | id k v=>
  obtain ⟨e1,e2⟩:=h2.2 k v rfl
  obtain ⟨a1,a2⟩:=h2.1
  refine ⟨(hw k ?_ ?_).trans a1,a2⟩
  ·intro e
   cases o with
   | ext=>cases e
   | full=>cases e
   | id k' v'=>
    injection e with e
    subst e
    have:=hn _ (h1.2 _ _ rfl).2
    rw [e2] at this
    cases this
  ·rintro rfl
   have:=hn _ hs
   rw [e2] at this
   cases this
def PuXF (prog:Prog) (f:Nat) (B:BC) (args:Key→Nat→List AV) (RR:AV→Prop) (B':BC):Prop:=
 ∀d (st:St) (k:Key) (v:Nat),k.1<d→B st.bx st.ow k v→∃r st',Fn prog d f (.p k v 0::args k v) st r st'∧RR r∧B' st'.bx st'.ow k v∧Fr d k st.bx st.ow st'.bx st'.ow
def PuXFK {β:Type} (prog:Prog) (f:Nat) (B:BC) (args:Key→Nat→List AV) (KK:AV→β→Prop) (B':β→BC):Prop:=
 ∀d (st:St) (k:Key) (v:Nat),k.1<d→B st.bx st.ow k v→∃r st' b,Fn prog d f (.p k v 0::args k v) st r st'∧KK r b∧B' b st'.bx st'.ow k v∧Fr d k st.bx st.ow st'.bx st'.ow
theorem PuXFK.to {β:Type} {prog:Prog} {f:Nat} {B:BC} {args:Key→Nat→List AV} {KK:AV→β→Prop} {B':β→BC} {RR:AV→Prop} {b:β} (h:PuXFK prog f B args KK B') (hk :∀r b',KK r b'→RR r∧b'=b):PuXF prog f B args RR (B' b):=by
 intro d st k v h1 h2
 obtain ⟨r,st',b',h3,h4,h5,h6⟩:=h d st k v h1 h2
 obtain ⟨h7,rfl⟩:=hk r b' h4
 exact ⟨r,st',h3,h7,h5,h6⟩
theorem PuXFK.of {β:Type} {prog:Prog} {f:Nat} {F:AF} {B:BC} {B':β→BC} {args:Key→Nat→List AV} {KK:AV→β→Prop} (hf:prog.fn f=some F) (hn :∀k v,Nat.ble ((args k v).length+1) F.nt=true) (ho :∀b,Out (B' b))
  (h :∀(d:Nat) (st:St) (k:Key) (v:Nat),k.1<d→B st.bx st.ow k v→W prog d F.body (sl0 (.p k v 0::args k v)) st fun e σ st'=>(e=.normal∨e=.ret)∧∃r b,ares σ st' F.res=some r∧KK r b∧B' b st'.bx st'.ow k v∧Fr d k st.bx st.ow st'.bx st'.ow):PuXFK prog f B args KK B':=by
 intro d st k v hk hB
 obtain ⟨r,st',h1,b,h2,h3,h4⟩:=Fn.of' (prog:=prog) (K:=fun r st'=>∃b,KK r b∧B' b st'.bx st'.ow k v∧Fr d k st.bx st.ow st'.bx st'.ow) hf (by simpa using Nat.le_of_ble_eq_true (hn k v)) ((h d st k v hk hB).mono fun e σ st' hq=>by
  obtain ⟨he,r,b,h1,h2,h3,h4⟩:=hq
  rcases he with rfl | rfl
  ·exact ⟨r,h1,b,h2,ho b d _ _ k v hk h3,h4.out⟩
  ·exact ⟨r,h1,b,h2,ho b d _ _ k v hk h3,h4.out⟩)
 exact ⟨r,st',b,h1,h2,h3,h4⟩
def PuV (prog:Prog) (f:Nat) (B:BC) (RR:AV→Prop) (B':BC):Prop:=
 ∀d (st:St) (q:Key) (u:Nat) (k:Key) (v:Nat),q.1<d→k.1<d→lk st.bx q=some (u,[.p k v 0])→B st.bx st.ow k v→∃r st',Fn prog d f [.p q u 0] st r st'∧RR r∧B' st'.bx st'.ow k v∧Fr d k st.bx st.ow st'.bx st'.ow
section
variable {prog:Prog} {d id base i:Nat} {σ:Sl} {st:St} {K:Sl→St→Prop} {r:List AI} {t:Option Nat} {x y:Opd}
theorem s_loadD {m:Dsk} {n o v:Nat} {agg:Bool} {k:Key} {w:AV} (hx:x.ev σ=.p k v o) (hB:Dk m st.bx st.ow k v) (hn:Nat.ble (o+n) 12=true) (hv:ofCells agg ((m.fix.drop o).take n)=some w) (h:WO prog d id base (i+1) r (upO σ t w) st K):WO prog d id base i (⟨t,.load n agg x,none⟩::r) σ st K:=by
 obtain ⟨q,hb,_⟩:=hB
 have hn:=Nat.le_of_ble_eq_true hn
 refine s_loadP hx hb (by rw [Nat.ble_eq];simp;omega) ?_ h
 rw [← hv,List.drop_append_of_le_length (by simp;omega),List.take_append_of_le_length (by simp;omega)]
theorem s_loadO {m:Dsk} {v:Nat} {k:Key} (hx:x.ev σ=.p k v 12) (hB:Dk m st.bx st.ow k v) (h :∀o,WO prog d id base (i+1) r (upO σ t (.sl o (List.map rowS m.out))) st K):WO prog d id base i (⟨t,.load 1 false x,none⟩::r) σ st K:=by
 obtain ⟨q,hb,_⟩:=hB
 exact s_loadP hx hb rfl rfl (h q)
theorem s_callXF {f:Nat} {args:List Opd} {vs:Key→Nat→List AV} {B B':BC} {F:AV} {k:Key} {v:Nat} (hs:evs σ args=.p k v 0::vs k v) (hp:PuXF prog f B vs (fun r=>r=F) B') (hk:k.1<d+1) (hB:B st.bx st.ow k v)
  (h :∀st':St,B' st'.bx st'.ow k v→Fr (d+1) k st.bx st.ow st'.bx st'.ow→WO prog d id base (i+1) r (upO σ t F) st' K):WO prog d id base i (⟨t,.call true f args,none⟩::r) σ st K:=by
 refine s_one ?_
 obtain ⟨r',st',h1,rfl,h3,h4⟩:=hp (d+1) st k v hk hB
 rw [WOp_callp,hs]
 exact ⟨_,_,h1,h st' h3 h4⟩
theorem s_callB {f:Nat} {args:List Opd} {vs:List AV} {B B':BC} {F:AV} {k:Key} {v:Nat} (hx:x.ev σ=.bf f [.p k v 0]) (hs:evs σ args=vs) (hp:PuX prog f B vs (fun r=>r=F) B') (hk:k.1<d+1) (hB:B st.bx st.ow k v)
  (h :∀st':St,B' st'.bx st'.ow k v→Fr (d+1) k st.bx st.ow st'.bx st'.ow→WO prog d id base (i+1) r (upO σ t F) st' K):WO prog d id base i (⟨t,.callv x args,none⟩::r) σ st K:=by
 refine s_one ?_
 obtain ⟨r',st',h1,rfl,h3,h4⟩:=hp (d+1) st k v hk hB
 show onCv (x.ev σ) (evs σ args) (fun g l=>WF prog (d+1) g l st _)
 rw [hx,hs]
 exact ⟨_,_,h1,h st' h3 h4⟩
theorem s_callVV {f:Nat} {B B':BC} {F:AV} {q k:Key} {u v:Nat} (hx:x.ev σ=.fn f [.p q u 0]) (hp:PuV prog f B (fun r=>r=F) B') (hq:q.1<d+1) (hk:k.1<d+1) (hb:lk st.bx q=some (u,[.p k v 0])) (hB:B st.bx st.ow k v)
  (h :∀st':St,B' st'.bx st'.ow k v→Fr (d+1) k st.bx st.ow st'.bx st'.ow→WO prog d id base (i+1) r (upO σ t F) st' K):WO prog d id base i (⟨t,.callv x [],none⟩::r) σ st K:=by
 refine s_one ?_
 obtain ⟨r',st',h1,rfl,h3,h4⟩:=hp (d+1) st q u k v hq hk hb hB
 show onCv (x.ev σ) (evs σ []) (fun g l=>WF prog (d+1) g l st _)
 rw [hx]
 exact ⟨_,_,h1,h st' h3 h4⟩
end
end Go.AM

/- Parts of the proof. -/
namespace Go.AM
open Go
set_option linter.unusedVariables false
set_option linter.unusedSimpArgs false
set_option maxRecDepth 4000
attribute [local irreducible] WO fillCells fillRows
def r276_0:List AI:=[oM 4 0,oM 5 0,oN 6 5,oF 7 12 6,oL 8 7,oM 9 1,oO 10 (.bslice [zs] 1 [(0,(.t 9))]),oO 11 (.app 1 16 (.t 8) (.t 10)),oN 12 4,oF 13 12 12,oS 1 13 11]
abbrev b276:AC:=(.reg 500000 r276_0)
def pf276:AF:={ nt:=14,res:=[],body:=b276 }
def r271_0:List AI:=[oI 1 0]
def r271_1:List AI:=[oL 2 0,oL 3 0,oO 4 (.mkbf 273 [(.t 3)]),oO 5 (.call true 272 [(.t 2),(.t 4)]),oM 1 5]
abbrev b271:AC:=(sR 0 r271_0 (sR 1 r271_1 .ret))
def pf271:AF:={ nt:=6,res:=[.tmp 1],body:=b271 }
def r274_0:List AI:=[oI 1 0]
def r274_1:List AI:=[oL 2 0,oL 3 0,oO 4 (.mkbf 275 [(.t 3)]),oO 5 (.call true 272 [(.t 2),(.t 4)]),oM 1 5]
abbrev b274:AC:=(sR 0 r274_0 (sR 1 r274_1 .ret))
def pf274:AF:={ nt:=6,res:=[.tmp 1],body:=b274 }
def r273_0:List AI:=[oY 7 4 3,oI 8 0]
def r273_1:List AI:=[oM 9 0,oN 10 9,oF 11 0 10,oF 12 2 11,oL 13 12,oF 14 0 7,oL 15 14,oX 16 7 13 15,oF 17 0 16,oL 18 17,oM 19 0,oN 20 19,oF 21 7 20,oF 22 4 21,oL 23 22,oT 24 .eql 18 23]
def r273_2:List AI:=[oM 25 0,oM 26 1,oQ 27 258 [26],oB 28 .add (.t 27) (.c (.s [32])),oM 29 2,oQ 30 258 [29],oT 31 .add 28 30,oB 32 .add (.t 31) (.c (.s [32,97,116,32])),oF 33 1 7,oL 34 33,oQ 35 258 [34],oT 36 .add 32 35,oO 37 (.call true 276 [(.t 25),(.t 36)])]
def r273_3:List AI:=[oI 8 0]
abbrev c273_0:AC:=(sR 3 r273_3 .ret)
abbrev b273:AC:=(sR 0 r273_0 (.seq (sR 1 r273_1 (.cond (.t 24) (.reg 2 r273_2) .skip)) c273_0))
def pf273:AF:={ nt:=38,res:=[.tmp 8],body:=b273 }
def T273_1 (prog:Prog)(K:Int→Dsk→Prop)(mP:Dsk):Prop:=
  K 0 mP
def T273_0 (prog:Prog)(K:Int→Dsk→Prop)(g1:Int)(k2:Int)(x3:Frm)(mP:Dsk):Prop:=
  0≤x3.func∧∃c'1:Fun,mP.image.funcs[(x3.func).toNat]?=some c'1∧(c'1.name=mP.query.name→∃r'4:BS,Pus prog 258 [.i .i64 g1] (.s r'4)∧r'4.length+([32]:BS).length≤maxStr∧∃r'6:BS,Pus prog 258 [.i .i64 k2] (.s r'6)∧(r'4++([32]:BS)).length+r'6.length≤maxStr∧((r'4++([32]:BS))++r'6).length+([32,97,116,32]:BS).length≤maxStr∧∃r'8:BS,Pus prog 258 [.i .i64 x3.pos] (.s r'8)∧(((r'4++([32]:BS))++r'6)++([32,97,116,32]:BS)).length+r'8.length≤maxStr∧∃b'15:Dsk,PuX prog 276 (Dk mP) [.s ((((r'4++([32]:BS))++r'6)++([32,97,116,32]:BS))++r'8)] (fun r=>r=.tup []) ((Dk b'15))∧T273_1 prog K b'15)∧(¬(c'1.name=mP.query.name)→T273_1 prog K mP)
section
variable {prog:Prog}{d:Nat}{Q:AE→Sl→St→Prop}{K:Int→Dsk→Prop}{st0:St}{kp:Key}{vp:Nat}(hQ:HD d st0 kp vp Dk (AV.i .i64) 8 Q K)(hkp:kp.1<d){σ:Sl}{st:St}
include hQ hkp
variable {mP:Dsk}{g1 k2:Int}{x3:Frm}
variable (H0:σ 0=.p kp vp 0)(H1:σ 1=.i .i64 g1)(H2:σ 2=.i .i64 k2)(H3:σ 3=x3.av)(BP:Dk mP st.bx st.ow kp vp)(FR:Fr d kp st0.bx st0.ow st.bx st.ow)
include BP FR in
theorem w273_1 (h:T273_1 prog K mP):W prog d c273_0 σ st Q:=
 q_ J (m_ (e_ (rt_ (hQ _ _ _ _ J BP FR h))))
include H0 H1 H2 H3 BP FR in
theorem w273_0 (h:T273_0 prog K g1 k2 x3 mP):W prog d (sR 0 r273_0 (.seq (sR 1 r273_1 (.cond (.t 24) (.reg 2 r273_2) .skip)) c273_0)) σ st Q:=
 q_ J (s_box H3 J (m_ (e_ (sq_ (q_ J (m_ (s_nilP H0 (f_ J (f_ J (s_loadD J (Dk.other (key_LP hkp) BP) J J (f_ J (l_ J lk_here J J (h.2.elim fun c'1 e'2=>ia_ J J h.1 e'2.1 (Fun.row_eq c'1) J (ff_ J (lf_ J J J (m_ (s_nilP H0 (f_ J (f_ J (s_loadD J (Dk.other (key_LP hkp) BP) J J (b_ J J seq_ (e_ (cs_ J (fun g'3=>W.reg0 J fun _ _=>m_ (m_ ((e'2.2.1 g'3).elim fun r'4 e'5=>ca_ (sc H1 J sn) e'5.1 (b_ J J (abin_cat' e'5.2.1) (m_ (e'5.2.2.elim fun r'6 e'7=>ca_ (sc H2 J sn) e'7.1 (b_ J J (abin_cat' e'7.2.1) (b_ J J (abin_cat' e'7.2.2.1) (f_ J (l_ J lk_here J J (e'7.2.2.2.elim fun r'8 e'9=>ca_ (sc J J sn) e'9.1 (b_ J J (abin_cat' e'9.2.1) (e'9.2.2.elim fun b'15 e'11=>cX_ (sec H0 (sec J sen)) e'11.1 (Nat.lt_succ_of_lt hkp) (Dk.other (key_LP hkp) BP) (fun st'12 hb'13 hf'14=>e_ (w273_1 hQ hkp hb'13 (Fr.pass (Fr.box FR) hf'14) e'11.2))))))))))))))) (fun g'3=>sk_ (w273_1 hQ hkp (Dk.other (key_LP hkp) BP) (Fr.box FR) (e'2.2.2 g'3))))))))))))))))))))))))))
end
theorem p273 {prog:Prog}(hf:prog.fn 273=some pf273){g1:Int}{k2:Int}{x3:Frm}{mP:Dsk}{K:Int→Dsk→Prop}(h:T273_0 prog K g1 k2 x3 mP):PuXK prog 273 (Dk mP) [.i .i64 g1,.i .i64 k2,x3.av] (fun r (b_:Dsk)=>∃res0:Int,(r=.i .i64 res0)∧K res0 b_) (fun b_=>(Dk b_)):=
 PD hf J J (fun _=>Dk.out) fun d st kp vp hkp hB Q q=>w273_0 q hkp J J J J hB Fr.refl h
def r270_0:List AI:=[oI 2 0]
def r270_1:List AI:=[oM 5 0,oN 6 5,oF 7 3 6,oF 8 3 7,oL 9 8,oJ 10 9,oI 11 0]
def r270_2:List AI:=[oT 12 .lss 11 10]
def r270_3:List AI:=[oM 13 11,oX 14 5 9 11,oK 15 5 14,oO 4 (.alloc [z8,z6,zl,zl,zl]),oM 3 13,oS 5 4 15]
def r270_4:List AI:=[oF 16 0 4,oL 17 16,oW 18 .eql 17 2,oM 19 18,gT 19 (oF 20 1 4),gT 19 (oL 21 20),gT 19 (oM 22 0),gT 19 (oN 23 22),gT 19 (oF 24 7 23),gT 19 (oF 25 3 24),gT 19 (oL 26 25),gT 19 (oT 27 .eql 21 26),oA 28 19 27]
def r270_5:List AI:=[oM 29 0,oM 30 3,oQ 31 258 [30],oB 32 .add (.c (.s [103,111,114,111,117,116,105,110,101,32])) (.t 31),oO 33 (.call true 276 [(.t 29),(.t 32)])]
def r270_6:List AI:=[oV 34 .add 11 1,oM 11 34]
def r270_7:List AI:=[oI 2 0]
abbrev c270_0:AC:=(.cond (.t 28) (.reg 5 r270_5) .skip)
abbrev c270_1:AC:=(.reg 6 r270_6)
abbrev l270_0:AC:=(sR 2 r270_2 (.seq (.cond (.t 12) .skip (.exit 0)) (.seq (.block 1 (sR 3 r270_3 (sR 4 r270_4 c270_0))) c270_1)))
abbrev c270_3:AC:=(sR 7 r270_7 .ret)
abbrev b270:AC:=(sR 0 r270_0 (.seq (sR 1 r270_1 (.block 0 (.loop l270_0))) c270_3))
def pf270:AF:={ nt:=35,res:=[.tmp 2],body:=b270 }
abbrev I270_0 (prog:Prog)(d:Nat)(Q:AE→Sl→St→Prop)(st0:St)(kp:Key)(vp:Nat)(t9:List Rou)(t10:Int)(t11:Int)(mP:Dsk):Prop:=
  ∀(σ:Sl)(st:St)(o_t9:Own),σ 0=.p kp vp 0→σ 9=.sl o_t9 (List.map Rou.row t9)→σ 10=.i .i64 t10→σ 11=.i .i64 t11→Dk mP st.bx st.ow kp vp→Fr d kp st0.bx st0.ow st.bx st.ow→W prog d (.loop l270_0) σ st (blockW 0 (thenW prog d c270_3 Q))
def T270_3 (prog:Prog)(K:Int→Dsk→Prop)(P0:Int→Dsk→Prop)(t9:List Rou)(t10:Int)(t11:Int)(mP:Dsk):Prop:=
  P0 (IntKind.i64.wrap (t11+1)) mP
def T270_2 (prog:Prog)(K:Int→Dsk→Prop)(P0:Int→Dsk→Prop)(g3:Int)(t9:List Rou)(t10:Int)(t11:Int)(t28:Bool)(mP:Dsk):Prop:=
  (t28=true→∃r'2:BS,Pus prog 258 [.i .i64 g3] (.s r'2)∧([103,111,114,111,117,116,105,110,101,32]:BS).length+r'2.length≤maxStr∧∃b'9:Dsk,PuX prog 276 (Dk mP) [.s (([103,111,114,111,117,116,105,110,101,32]:BS)++r'2)] (fun r=>r=.tup []) ((Dk b'9))∧T270_3 prog K P0 t9 t10 t11 b'9)∧(t28=false→T270_3 prog K P0 t9 t10 t11 mP)
def T270_4 (prog:Prog)(K:Int→Dsk→Prop)(mP:Dsk):Prop:=
  K 0 mP
def T270_1 (prog:Prog)(K:Int→Dsk→Prop)(P0:Int→Dsk→Prop)(t9:List Rou)(t10:Int)(t11:Int)(mP:Dsk):Prop:=
  (t11<t10→0≤t11∧∃c'2:Rou,t9[(t11).toNat]?=some c'2∧(c'2.status=2→T270_2 prog K P0 t11 t9 t10 t11 (decide (c'2.key=mP.query.key)) mP)∧(¬(c'2.status=2)→T270_2 prog K P0 t11 t9 t10 t11 false mP))∧(¬(t11<t10)→T270_4 prog K mP)
def T270_0 (prog:Prog)(K:Int→Dsk→Prop)(mP:Dsk):Prop:=
  ∀P0:Int→Dsk→Prop,(∀(t11:Int)(mP_b:Dsk),T270_1 prog K P0 mP.state.routines (mP.state.routines.length:Int) t11 mP_b→P0 t11 mP_b)→P0 0 mP
section
variable {prog:Prog}{d:Nat}{Q:AE→Sl→St→Prop}{K:Int→Dsk→Prop}{st0:St}{kp:Key}{vp:Nat}(hQ:HD d st0 kp vp Dk (AV.i .i64) 2 Q K)(hkp:kp.1<d){σ:Sl}{st:St}
include hQ hkp
variable {t9:List Rou}{t10 t11:Int}{mP:Dsk}{P0:Int→Dsk→Prop}{o_t9:Own}{g3:Int}{t28:Bool}
variable (kP0 :∀(t11:Int)(mP:Dsk),P0 t11 mP→I270_0 prog d Q st0 kp vp t9 t10 t11 mP)(H0:σ 0=.p kp vp 0)(H3:σ 3=.i .i64 g3)(H9:σ 9=.sl o_t9 (List.map Rou.row t9))(H10:σ 10=.i .i64 t10)(H11:σ 11=.i .i64 t11)(H28:σ 28=.b t28)(BP:Dk mP st.bx st.ow kp vp)(FR:Fr d kp st0.bx st0.ow st.bx st.ow)
include kP0 H0 H9 H10 H11 BP FR in
theorem w270_3 (h:T270_3 prog K P0 t9 t10 t11 mP):W prog d c270_1 σ st (thenW prog d (.loop l270_0) (blockW 0 (thenW prog d c270_3 Q))):=
 W.reg0 J fun _ _=>b_ H11 J add_ (m_ (e_ (kP0 _ _ h _ _ _ H0 H9 H10 J BP FR)))
include kP0 H0 H3 H9 H10 H11 H28 BP FR in
theorem w270_2 (h:T270_2 prog K P0 g3 t9 t10 t11 t28 mP):W prog d c270_0 σ st (blockW 1 (thenW prog d c270_1 (thenW prog d (.loop l270_0) (blockW 0 (thenW prog d c270_3 Q))))):=
 cb_ H28 (fun g'1=>W.reg0 J fun _ _=>m_ (m_ ((h.1 g'1).elim fun r'2 e'3=>ca_ (sc H3 J sn) e'3.1 (b_ J J (abin_cat' e'3.2.1) (e'3.2.2.elim fun b'9 e'5=>cX_ (sec H0 (sec J sen)) e'5.1 (Nat.lt_succ_of_lt hkp) BP (fun st'6 hb'7 hf'8=>e_ (w270_3 hQ hkp kP0 H0 H9 H10 H11 hb'7 (Fr.pass FR hf'8) e'5.2))))))) (fun g'1=>sk_ (w270_3 hQ hkp kP0 H0 H9 H10 H11 BP FR (h.2 g'1)))
include BP FR in
theorem w270_4 (h:T270_4 prog K mP):W prog d c270_3 σ st Q:=
 q_ J (m_ (e_ (rt_ (hQ _ _ _ _ J BP FR h))))
include kP0 H0 H9 H10 H11 BP FR in
theorem w270_1 (h:T270_1 prog K P0 t9 t10 t11 mP):W prog d l270_0 σ st (thenW prog d (.loop l270_0) (blockW 0 (thenW prog d c270_3 Q))):=
 q_ J (b_ H11 H10 lss_ (e_ (sq_ (cs_ J (fun g'1=>sk_ (sq_ (bk_ (sq_ (W.reg (m_ ((h.1 g'1).2.elim fun c'2 e'3=>ia_ H9 H11 (h.1 g'1).1 e'3.1 (Rou.row_eq c'2) J (lf_ J J J (s_alloc (m_ (so_ J (show lk _ (d,12291)=some (_,([.i .u8 0,.i .i64 0,.sl .full (List.map Frm.row ([]:List Frm)),.sl .full (List.map Dfr.row ([]:List Dfr)),.sl .full (List.map Pan.row ([]:List Pan))]:List AV)) from lk_here) J J J (e_ (q_ J (f_ J (l_ J lk_here J J (b_ J J eql_ (s_mvB J (em_ (g:=19) J (fun g'4=>gy_ J (f_ J (gy_ J (l_ J lk_here J J (gy_ J (s_mv H0 (gy_ J (s_nilP J (gy_ J (f_ J (gy_ J (f_ J (gy_ J (s_loadD J (Dk.other (key_LP hkp) (Dk.other (key_LP hkp) BP)) J J (gy_ J (b_ J J eql_ (pt_ J J (e_ (w270_2 hQ hkp kP0 H0 H11 H9 H10 H11 J (Dk.other (key_LP hkp) (Dk.other (key_LP hkp) BP)) (Fr.box (Fr.box FR)) (e'3.2.1 g'4)))))))))))))))))))) (fun g'4=>nF4 J J J J (nF4 J J J J (pf_ J J (e_ (w270_2 hQ hkp kP0 H0 H11 H9 H10 H11 J (Dk.other (key_LP hkp) (Dk.other (key_LP hkp) BP)) (Fr.box (Fr.box FR)) (e'3.2.2 g'4)))))))))))))))))))))))) (fun g'1=>ex_ (w270_4 hQ hkp BP FR (h.2 g'1)))))))
include H0 BP FR in
theorem w270_0 (h:T270_0 prog K mP):W prog d (sR 0 r270_0 (.seq (sR 1 r270_1 (.block 0 (.loop l270_0))) c270_3)) σ st Q:=
 q_ J (m_ (e_ (sq_ (q_ J (m_ (s_nilP H0 (f_ J (f_ J (s_loadD J BP J J (ll_ J (m_ (e_ (bk_ (h (I270_0 prog d Q st0 kp vp mP.state.routines (mP.state.routines.length:Int)) (fun _ _ hb _ _ _ H0 H9 H10 H11 BP FR=>W.loop (w270_1 hQ hkp (fun _ _ x=>x) H0 H9 H10 H11 BP FR hb)) _ _ _ H0 J J J BP FR))))))))))))))
end
theorem p270 {prog:Prog}(hf:prog.fn 270=some pf270){mP:Dsk}{K:Int→Dsk→Prop}(h:T270_0 prog K mP):PuXK prog 270 (Dk mP) [] (fun r (b_:Dsk)=>∃res0:Int,(r=.i .i64 res0)∧K res0 b_) (fun b_=>(Dk b_)):=
 PD hf J J (fun _=>Dk.out) fun d st kp vp hkp hB Q q=>w270_0 q hkp J hB Fr.refl h
def r269_0:List AI:=[oI 2 0]
def r269_1:List AI:=[oM 7 0,oN 8 7,oF 9 3 8,oF 10 3 9,oL 11 10,oJ 12 11,oI 13 0]
def r269_2:List AI:=[oT 14 .lss 13 12]
def r269_3:List AI:=[oM 15 13,oX 16 5 11 13,oK 17 5 16,oO 4 (.alloc [z8,z6,zl,zl,zl]),oM 3 15,oS 5 4 17]
def r269_4:List AI:=[oM 19 0,oN 20 19,oF 21 0 20,oK 22 3 21,oM 23 3,oK 24 5 4,oQ 25 207 [22,23,24],oM 18 25,oE 26 0 18,oE 27 1 18,oM 5 26,oM 6 27]
def r269_5:List AI:=[oM 28 6,oV 29 .neq 28 0]
def r269_6:List AI:=[oM 30 6,oM 2 30]
def r269_7:List AI:=[oM 31 0,oM 32 5,oO 33 (.iaL 1 (.t 32) (.c (.i .i64 0))),oL 34 33,oO 35 (.call true 276 [(.t 31),(.t 34)])]
def r269_8:List AI:=[oV 36 .add 13 1,oM 13 36]
def r269_9:List AI:=[oI 2 0]
abbrev l269_0:AC:=(sR 2 r269_2 (.seq (.cond (.t 14) .skip (.exit 0)) (.seq (.block 1 (sR 3 r269_3 (sR 4 r269_4 (.seq (sR 5 r269_5 (.cond (.t 29) (sR 6 r269_6 .ret) .skip)) (.reg 7 r269_7))))) (.reg 8 r269_8))))
abbrev c269_1:AC:=(sR 9 r269_9 .ret)
abbrev b269:AC:=(sR 0 r269_0 (.seq (sR 1 r269_1 (.block 0 (.loop l269_0))) c269_1))
def pf269:AF:={ nt:=37,res:=[.tmp 2],body:=b269 }
abbrev I269_0 (prog:Prog)(d:Nat)(Q:AE→Sl→St→Prop)(st0:St)(kp:Key)(vp:Nat)(t11:List Rou)(t12:Int)(t13:Int)(mP:Dsk):Prop:=
  ∀(σ:Sl)(st:St)(o_t11:Own),σ 0=.p kp vp 0→σ 11=.sl o_t11 (List.map Rou.row t11)→σ 12=.i .i64 t12→σ 13=.i .i64 t13→Dk mP st.bx st.ow kp vp→Fr d kp st0.bx st0.ow st.bx st.ow→W prog d (.loop l269_0) σ st (blockW 0 (thenW prog d c269_1 Q))
def T269_2 (prog:Prog)(K:Int→Dsk→Prop)(mP:Dsk):Prop:=
  K 0 mP
def T269_1 (prog:Prog)(K:Int→Dsk→Prop)(P0:Int→Dsk→Prop)(t11:List Rou)(t12:Int)(t13:Int)(mP:Dsk):Prop:=
  (t13<t12→0≤t13∧∃c'2:Rou,t11[(t13).toNat]?=some c'2∧∃r'4 r'5,Pus prog 207 [mP.image.av,.i .i64 t13,c'2.av] (.tup [.sl .ext (List.map rowS r'4),.i .i64 r'5])∧(r'5≠0→K r'5 mP)∧(¬(r'5≠0)→∃c'8,r'4[0]?=some c'8∧∃b'15:Dsk,PuX prog 276 (Dk mP) [.s c'8] (fun r=>r=.tup []) ((Dk b'15))∧P0 (IntKind.i64.wrap (t13+1)) b'15))∧(¬(t13<t12)→T269_2 prog K mP)
def T269_0 (prog:Prog)(K:Int→Dsk→Prop)(mP:Dsk):Prop:=
  ∀P0:Int→Dsk→Prop,(∀(t13:Int)(mP_b:Dsk),T269_1 prog K P0 mP.state.routines (mP.state.routines.length:Int) t13 mP_b→P0 t13 mP_b)→P0 0 mP
section
variable {prog:Prog}{d:Nat}{Q:AE→Sl→St→Prop}{K:Int→Dsk→Prop}{st0:St}{kp:Key}{vp:Nat}(hQ:HD d st0 kp vp Dk (AV.i .i64) 2 Q K)(hkp:kp.1<d){σ:Sl}{st:St}
include hQ hkp
variable {mP:Dsk}{t11:List Rou}{t12 t13:Int}{P0:Int→Dsk→Prop}{o_t11:Own}
variable (kP0 :∀(t13:Int)(mP:Dsk),P0 t13 mP→I269_0 prog d Q st0 kp vp t11 t12 t13 mP)(H0:σ 0=.p kp vp 0)(H11:σ 11=.sl o_t11 (List.map Rou.row t11))(H12:σ 12=.i .i64 t12)(H13:σ 13=.i .i64 t13)(BP:Dk mP st.bx st.ow kp vp)(FR:Fr d kp st0.bx st0.ow st.bx st.ow)
include BP FR in
theorem w269_2 (h:T269_2 prog K mP):W prog d c269_1 σ st Q:=
 q_ J (m_ (e_ (rt_ (hQ _ _ _ _ J BP FR h))))
include kP0 H0 H11 H12 H13 BP FR in
theorem w269_1 (h:T269_1 prog K P0 t11 t12 t13 mP):W prog d l269_0 σ st (thenW prog d (.loop l269_0) (blockW 0 (thenW prog d c269_1 Q))):=
 q_ J (b_ H13 H12 lss_ (e_ (sq_ (cs_ J (fun g'1=>sk_ (sq_ (bk_ (sq_ (W.reg (m_ ((h.1 g'1).2.elim fun c'2 e'3=>ia_ H11 H13 (h.1 g'1).1 e'3.1 (Rou.row_eq c'2) J (lf_ J J J (s_alloc (m_ (so_ J (show lk _ (d,12291)=some (_,([.i .u8 0,.i .i64 0,.sl .full (List.map Frm.row ([]:List Frm)),.sl .full (List.map Dfr.row ([]:List Dfr)),.sl .full (List.map Pan.row ([]:List Pan))]:List AV)) from lk_here) J J J (e_ (q_ J (m_ (s_nilP H0 (f_ J (s_loadD J (Dk.other (key_LP hkp) (Dk.other (key_LP hkp) BP)) J J (m_ (l_ J lk_here J J (e'3.2.elim fun r'4 e'16=>e'16.elim fun r'5 e'6=>ca_ (sc J J (sc H13 J (sc J J sn))) e'6.1 (m_ (x_ J J (x_ J J (s_mvL J (m_ (e_ (sq_ (q_ J (m_ (b_ J J neq_ (e_ (cs_ J (fun g'7=>q_ J (m_ (m_ (e_ (rt_ (hQ _ _ _ _ J (Dk.other (key_LP hkp) (Dk.other (key_LP hkp) BP)) (Fr.box (Fr.box FR)) (e'6.2.1 g'7))))))) (fun g'7=>sk_ (W.reg0 J fun _ _=>m_ (s_mvL J ((e'6.2.2 g'7).elim fun c'8 e'9=>ia_ J J (by decide) e'9.1 J J (lf_ J J J (e'9.2.elim fun b'15 e'11=>cX_ (sec H0 (sec J sen)) e'11.1 (Nat.lt_succ_of_lt hkp) (Dk.other (key_LP hkp) (Dk.other (key_LP hkp) BP)) (fun st'12 hb'13 hf'14=>e_ (W.reg0 J fun _ _=>b_ H13 J add_ (m_ (e_ (kP0 _ _ e'11.2 _ _ _ H0 H11 H12 J hb'13 (Fr.pass (Fr.box (Fr.box FR)) hf'14)))))))))))))))))))))))))))))))))))))))))))) (fun g'1=>ex_ (w269_2 hQ hkp BP FR (h.2 g'1)))))))
include H0 BP FR in
theorem w269_0 (h:T269_0 prog K mP):W prog d (sR 0 r269_0 (.seq (sR 1 r269_1 (.block 0 (.loop l269_0))) c269_1)) σ st Q:=
 q_ J (m_ (e_ (sq_ (q_ J (m_ (s_nilP H0 (f_ J (f_ J (s_loadD J BP J J (ll_ J (m_ (e_ (bk_ (h (I269_0 prog d Q st0 kp vp mP.state.routines (mP.state.routines.length:Int)) (fun _ _ hb _ _ _ H0 H11 H12 H13 BP FR=>W.loop (w269_1 hQ hkp (fun _ _ x=>x) H0 H11 H12 H13 BP FR hb)) _ _ _ H0 J J J BP FR))))))))))))))
end
theorem p269 {prog:Prog}(hf:prog.fn 269=some pf269){mP:Dsk}{K:Int→Dsk→Prop}(h:T269_0 prog K mP):PuXK prog 269 (Dk mP) [] (fun r (b_:Dsk)=>∃res0:Int,(r=.i .i64 res0)∧K res0 b_) (fun b_=>(Dk b_)):=
 PD hf J J (fun _=>Dk.out) fun d st kp vp hkp hB Q q=>w269_0 q hkp J hB Fr.refl h
def r275_0:List AI:=[oY 7 4 3,oI 8 0]
def r275_1:List AI:=[oF 13 3 7,oL 14 13,oJ 15 14,oI 16 0]
def r275_2:List AI:=[oT 17 .lss 16 15]
def r275_3:List AI:=[oX 18 6 14 16,oK 19 6 18,oO 10 (.alloc [z6,z8,z6,zs,zl,zb]),oS 6 10 19]
def r275_4:List AI:=[oM 20 0,oN 21 20,oF 22 0 21,oF 23 2 22,oL 24 23,oF 25 0 7,oL 26 25,oX 27 7 24 26,oF 28 3 27,oL 29 28,oF 30 0 10,oL 31 30,oX 32 2 29 31,oF 33 0 32,oL 34 33,oM 35 0,oN 36 35,oF 37 7 36,oF 38 4 37,oL 39 38,oT 40 .neq 34 39]
def r275_5:List AI:=[oF 42 1 10,oK 43 5 42,oQ 44 72 [43],oM 41 44,oE 45 0 41,oE 46 1 41,oM 11 45,oM 12 46]
def r275_6:List AI:=[oM 47 12,oV 48 .neq 47 0]
def r275_7:List AI:=[oM 49 12,oM 8 49]
def r275_8:List AI:=[oM 50 0,oM 51 1,oQ 52 258 [51],oB 53 .add (.t 52) (.c (.s [32])),oM 54 2,oQ 55 258 [54],oT 56 .add 53 55,oB 57 .add (.t 56) (.c (.s [32])),oF 58 0 10,oL 59 58,oQ 60 258 [59],oT 61 .add 57 60,oB 62 .add (.t 61) (.c (.s [32,61,32])),oM 63 11,oT 64 .add 62 63,oO 65 (.call true 276 [(.t 50),(.t 64)])]
def r275_9:List AI:=[oV 66 .add 16 1,oM 16 66]
def r275_10:List AI:=[oI 8 0]
abbrev c275_0:AC:=(.reg 9 r275_9)
abbrev l275_0:AC:=(sR 2 r275_2 (.seq (.cond (.t 17) .skip (.exit 0)) (.seq (.block 1 (sR 3 r275_3 (.seq (sR 4 r275_4 (.cond (.t 40) (.exit 1) .skip)) (sR 5 r275_5 (.seq (sR 6 r275_6 (.cond (.t 48) (sR 7 r275_7 .ret) .skip)) (.reg 8 r275_8)))))) c275_0)))
abbrev c275_2:AC:=(sR 10 r275_10 .ret)
abbrev c275_3:AC:=(.seq (sR 1 r275_1 (.block 0 (.loop l275_0))) c275_2)
abbrev b275:AC:=(sR 0 r275_0 c275_3)
def pf275:AF:={ nt:=67,res:=[.tmp 8],body:=b275 }
abbrev I275_0 (prog:Prog)(d:Nat)(Q:AE→Sl→St→Prop)(st0:St)(kp:Key)(vp:Nat)(g1:Int)(k2:Int)(t14:List Loc)(t15:Int)(t16:Int)(m0:Frm)(mP:Dsk):Prop:=
  ∀(σ:Sl)(st:St)(o_t14:Own)(v0:Nat),σ 0=.p kp vp 0→σ 1=.i .i64 g1→σ 2=.i .i64 k2→σ 7=.p (d,0) v0 0→σ 14=.sl o_t14 (List.map Loc.row t14)→σ 15=.i .i64 t15→σ 16=.i .i64 t16→lk st.bx (d,0)=some (v0,[.i .i64 m0.func,.i .i64 m0.pos,.i .u64 m0.mode,.sl .ext (List.map Loc.row m0.locals)])→Dk mP st.bx st.ow kp vp→Fr d kp st0.bx st0.ow st.bx st.ow→W prog d (.loop l275_0) σ st (blockW 0 (thenW prog d c275_2 Q))
def T275_3 (prog:Prog)(K:Int→Dsk→Prop)(P0:Int→Frm→Dsk→Prop)(g1:Int)(k2:Int)(t14:List Loc)(t15:Int)(t16:Int)(m0:Frm)(mP:Dsk):Prop:=
  P0 (IntKind.i64.wrap (t16+1)) m0 mP
def T275_4 (prog:Prog)(K:Int→Dsk→Prop)(mP:Dsk):Prop:=
  K 0 mP
def T275_2 (prog:Prog)(K:Int→Dsk→Prop)(P0:Int→Frm→Dsk→Prop)(g1:Int)(k2:Int)(t14:List Loc)(t15:Int)(t16:Int)(m0:Frm)(mP:Dsk):Prop:=
  (t16<t15→0≤t16∧∃c'2:Loc,t14[(t16).toNat]?=some c'2∧0≤m0.func∧∃c'4:Fun,mP.image.funcs[(m0.func).toNat]?=some c'4∧0≤c'2.slot∧∃c'6:Fld,c'4.slots[(c'2.slot).toNat]?=some c'6∧(c'6.name≠mP.query.name→T275_3 prog K P0 g1 k2 t14 t15 t16 m0 mP)∧(¬(c'6.name≠mP.query.name)→∃r'9:BS,∃r'10,Pus prog 72 [c'2.value.av] (.tup [.s r'9,.i .i64 r'10])∧(r'10≠0→K r'10 mP)∧(¬(r'10≠0)→∃r'13:BS,Pus prog 258 [.i .i64 g1] (.s r'13)∧r'13.length+([32]:BS).length≤maxStr∧∃r'15:BS,Pus prog 258 [.i .i64 k2] (.s r'15)∧(r'13++([32]:BS)).length+r'15.length≤maxStr∧((r'13++([32]:BS))++r'15).length+([32]:BS).length≤maxStr∧∃r'17:BS,Pus prog 258 [.i .i64 c'2.slot] (.s r'17)∧(((r'13++([32]:BS))++r'15)++([32]:BS)).length+r'17.length≤maxStr∧((((r'13++([32]:BS))++r'15)++([32]:BS))++r'17).length+([32,61,32]:BS).length≤maxStr∧(((((r'13++([32]:BS))++r'15)++([32]:BS))++r'17)++([32,61,32]:BS)).length+r'9.length≤maxStr∧∃b'24:Dsk,PuX prog 276 (Dk mP) [.s ((((((r'13++([32]:BS))++r'15)++([32]:BS))++r'17)++([32,61,32]:BS))++r'9)] (fun r=>r=.tup []) ((Dk b'24))∧T275_3 prog K P0 g1 k2 t14 t15 t16 m0 b'24)))∧(¬(t16<t15)→T275_4 prog K mP)
def T275_1 (prog:Prog)(K:Int→Dsk→Prop)(g1:Int)(k2:Int)(m0:Frm)(mP:Dsk):Prop:=
  ∀P0:Int→Frm→Dsk→Prop,(∀(t16:Int)(m0_b:Frm)(mP:Dsk),T275_2 prog K P0 g1 k2 m0.locals (m0.locals.length:Int) t16 m0_b mP→P0 t16 m0_b mP)→P0 0 m0 mP
def T275_0 (prog:Prog)(K:Int→Dsk→Prop)(g1:Int)(k2:Int)(x3:Frm)(mP:Dsk):Prop:=
  T275_1 prog K g1 k2 x3 mP
section
variable {prog:Prog}{d:Nat}{Q:AE→Sl→St→Prop}{K:Int→Dsk→Prop}{st0:St}{kp:Key}{vp:Nat}(hQ:HD d st0 kp vp Dk (AV.i .i64) 8 Q K)(hkp:kp.1<d){σ:Sl}{st:St}
include hQ hkp
variable {g1 k2:Int}{t14:List Loc}{t15 t16:Int}{m0:Frm}{mP:Dsk}{P0:Int→Frm→Dsk→Prop}{o_t14:Own}{v0:Nat}{x3:Frm}
variable (kP0 :∀(t16:Int)(m0:Frm)(mP:Dsk),P0 t16 m0 mP→I275_0 prog d Q st0 kp vp g1 k2 t14 t15 t16 m0 mP)(H0:σ 0=.p kp vp 0)(H1:σ 1=.i .i64 g1)(H2:σ 2=.i .i64 k2)(H7:σ 7=.p (d,0) v0 0)(H3:σ 3=x3.av)(H14:σ 14=.sl o_t14 (List.map Loc.row t14))(H15:σ 15=.i .i64 t15)(H16:σ 16=.i .i64 t16)(B0:lk st.bx (d,0)=some (v0,[.i .i64 m0.func,.i .i64 m0.pos,.i .u64 m0.mode,.sl .ext (List.map Loc.row m0.locals)]))(BP:Dk mP st.bx st.ow kp vp)(FR:Fr d kp st0.bx st0.ow st.bx st.ow)
include kP0 H0 H1 H2 H7 H14 H15 H16 B0 BP FR in
theorem w275_3 (h:T275_3 prog K P0 g1 k2 t14 t15 t16 m0 mP):W prog d c275_0 σ st (thenW prog d (.loop l275_0) (blockW 0 (thenW prog d c275_2 Q))):=
 W.reg0 J fun _ _=>b_ H16 J add_ (m_ (e_ (kP0 _ _ _ h _ _ _ _ H0 H1 H2 H7 H14 H15 J B0 BP FR)))
include BP FR in
theorem w275_4 (h:T275_4 prog K mP):W prog d c275_2 σ st Q:=
 q_ J (m_ (e_ (rt_ (hQ _ _ _ _ J BP FR h))))
include kP0 H0 H1 H2 H7 H14 H15 H16 B0 BP FR in
theorem w275_2 (h:T275_2 prog K P0 g1 k2 t14 t15 t16 m0 mP):W prog d l275_0 σ st (thenW prog d (.loop l275_0) (blockW 0 (thenW prog d c275_2 Q))):=
 q_ J (b_ H16 H15 lss_ (e_ (sq_ (cs_ J (fun g'1=>sk_ (sq_ (bk_ (sq_ (W.reg ((h.1 g'1).2.elim fun c'2 e'3=>ia_ H14 H16 (h.1 g'1).1 e'3.1 (Loc.row_eq c'2) J (lf_ J J J (s_alloc (so_ J (show lk _ (d,12290)=some (_,([.i .i64 0,.i .u8 0,.i .i64 0,.s [],.sl .full (List.map Val.row ([]:List Val)),.b false]:List AV)) from lk_here) J J J (e_ (sq_ (q_ J (m_ (s_nilP H0 (f_ J (f_ J (s_loadD J (Dk.other (key_LP hkp) (Dk.other (key_LP hkp) BP)) J J (f_ H7 (l_ J (lk_other J (lk_other J B0)) J J (e'3.2.2.elim fun c'4 e'5=>ia_ J J e'3.2.1 e'5.1 (Fun.row_eq c'4) J (ff_ J (lf_ J J J (f_ J (l_ J lk_here J J (e'5.2.2.elim fun c'6 e'7=>ia_ J J e'5.2.1 e'7.1 (Fld.row_eq c'6) J (ff_ J (lf_ J J J (m_ (s_nilP H0 (f_ J (f_ J (s_loadD J (Dk.other (key_LP hkp) (Dk.other (key_LP hkp) BP)) J J (b_ J J sne_ (e_ (cs_ J (fun g'8=>ex_ (w275_3 hQ hkp kP0 H0 H1 H2 H7 H14 H15 H16 (lk_other J (lk_other J B0)) (Dk.other (key_LP hkp) (Dk.other (key_LP hkp) BP)) (Fr.box (Fr.box FR)) (e'7.2.1 g'8))) (fun g'8=>sk_ (q_ J (f_ J (l_ J lk_here J J ((e'7.2.2 g'8).elim fun r'9 e'25=>e'25.elim fun r'10 e'11=>ca_ (sc J J sn) e'11.1 (m_ (x_ J J (x_ J J (m_ (m_ (e_ (sq_ (q_ J (m_ (b_ J J neq_ (e_ (cs_ J (fun g'12=>q_ J (m_ (m_ (e_ (rt_ (hQ _ _ _ _ J (Dk.other (key_LP hkp) (Dk.other (key_LP hkp) BP)) (Fr.box (Fr.box FR)) (e'11.2.1 g'12))))))) (fun g'12=>sk_ (W.reg0 J fun _ _=>m_ (m_ ((e'11.2.2 g'12).elim fun r'13 e'14=>ca_ (sc H1 J sn) e'14.1 (b_ J J (abin_cat' e'14.2.1) (m_ (e'14.2.2.elim fun r'15 e'16=>ca_ (sc H2 J sn) e'16.1 (b_ J J (abin_cat' e'16.2.1) (b_ J J (abin_cat' e'16.2.2.1) (f_ J (l_ J lk_here J J (e'16.2.2.2.elim fun r'17 e'18=>ca_ (sc J J sn) e'18.1 (b_ J J (abin_cat' e'18.2.1) (b_ J J (abin_cat' e'18.2.2.1) (m_ (b_ J J (abin_cat' e'18.2.2.2.1) (e'18.2.2.2.2.elim fun b'24 e'20=>cX_ (sec H0 (sec J sen)) e'20.1 (Nat.lt_succ_of_lt hkp) (Dk.other (key_LP hkp) (Dk.other (key_LP hkp) BP)) (fun st'21 hb'22 hf'23=>e_ (w275_3 hQ hkp kP0 H0 H1 H2 H7 H14 H15 H16 ((hf'23.1 (d,0) (Nat.lt_succ_self d) (key_LP hkp)).trans (lk_other J (lk_other J B0))) hb'22 (Fr.pass (Fr.box (Fr.box FR)) hf'23) e'20.2))))))))))))))))))))))))))))))))))))))))))))))))))))))))))))))))))))))) (fun g'1=>ex_ (w275_4 hQ hkp BP FR (h.2 g'1)))))))
include H0 H1 H2 H7 B0 BP FR in
theorem w275_1 (h:T275_1 prog K g1 k2 m0 mP):W prog d c275_3 σ st Q:=
 sq_ (q_ J (f_ H7 (l_ J B0 J J (ll_ J (m_ (e_ (bk_ (h (I275_0 prog d Q st0 kp vp g1 k2 m0.locals (m0.locals.length:Int)) (fun _ _ _ hb _ _ _ _ H0 H1 H2 H7 H14 H15 H16 B0 BP FR=>W.loop (w275_2 hQ hkp (fun _ _ _ x=>x) H0 H1 H2 H7 H14 H15 H16 B0 BP FR hb)) _ _ _ _ H0 H1 H2 H7 J J J B0 BP FR))))))))
include H0 H1 H2 H3 BP FR in
theorem w275_0 (h:T275_0 prog K g1 k2 x3 mP):W prog d (sR 0 r275_0 c275_3) σ st Q:=
 q_ J (s_box H3 J (m_ (e_ (w275_1 hQ hkp H0 H1 H2 J lk_here (Dk.other (key_LP hkp) BP) (Fr.box FR) h))))
end
theorem p275 {prog:Prog}(hf:prog.fn 275=some pf275){g1:Int}{k2:Int}{x3:Frm}{mP:Dsk}{K:Int→Dsk→Prop}(h:T275_0 prog K g1 k2 x3 mP):PuXK prog 275 (Dk mP) [.i .i64 g1,.i .i64 k2,x3.av] (fun r (b_:Dsk)=>∃res0:Int,(r=.i .i64 res0)∧K res0 b_) (fun b_=>(Dk b_)):=
 PD hf J J (fun _=>Dk.out) fun d st kp vp hkp hB Q q=>w275_0 q hkp J J J J hB Fr.refl h
end Go.AM

/- Parts of the proof. -/
namespace Go.AM
open Go
set_option linter.unusedVariables false
set_option linter.unusedSimpArgs false
set_option maxRecDepth 4000
attribute [local irreducible] WO fillCells fillRows
def r272_0:List AI:=[oI 4 0]
def r272_1:List AI:=[oM 10 0,oN 11 10,oF 12 3 11,oF 13 3 12,oL 14 13,oJ 15 14,oI 16 0]
def r272_2:List AI:=[oT 17 .lss 16 15]
def r272_3:List AI:=[oM 18 16,oX 19 5 14 16,oK 20 5 19,oO 6 (.alloc [z8,z6,zl,zl,zl]),oM 5 18,oS 5 6 20]
def r272_4:List AI:=[oF 21 2 6,oL 22 21,oJ 23 22,oI 24 0]
def r272_5:List AI:=[oT 25 .lss 24 23]
def r272_6:List AI:=[oM 26 24,oX 27 4 22 24,oK 28 4 27,oO 8 (.alloc [z6,z6,z7,zl]),oM 7 26,oS 4 8 28]
def r272_7:List AI:=[oM 29 1,oM 30 5,oM 31 7,oK 32 4 8,oO 33 (.callv (.t 29) [(.t 30),(.t 31),(.t 32)]),oM 9 33]
def r272_8:List AI:=[oM 34 9,oV 35 .neq 34 0]
def r272_9:List AI:=[oM 36 9,oM 4 36]
def r272_10:List AI:=[oV 37 .add 24 1,oM 24 37]
def r272_11:List AI:=[oV 38 .add 16 1,oM 16 38]
def r272_12:List AI:=[oI 4 0]
abbrev l272_1:AC:=(sR 5 r272_5 (.seq (.cond (.t 25) .skip (.exit 2)) (.seq (.block 3 (sR 6 r272_6 (sR 7 r272_7 (sR 8 r272_8 (.cond (.t 35) (sR 9 r272_9 .ret) .skip))))) (.reg 10 r272_10))))
abbrev c272_1:AC:=(.reg 11 r272_11)
abbrev l272_0:AC:=(sR 2 r272_2 (.seq (.cond (.t 17) .skip (.exit 0)) (.seq (.block 1 (sR 3 r272_3 (sR 4 r272_4 (.block 2 (.loop l272_1))))) c272_1)))
abbrev c272_3:AC:=(sR 12 r272_12 .ret)
abbrev b272:AC:=(sR 0 r272_0 (.seq (sR 1 r272_1 (.block 0 (.loop l272_0))) c272_3))
def pf272:AF:={ nt:=39,res:=[.tmp 4],body:=b272 }
abbrev H272 (d:Nat)(st0:St)(kp:Key)(vp:Nat)(Q:AE→Sl→St→Prop)(K:Int→Dsk→Prop):Prop:=∀(σ:Sl)(st:St)(res0:Int)(b_:Dsk),σ 4=.i .i64 res0→Dk b_ st.bx st.ow kp vp→Fr d kp st0.bx st0.ow st.bx st.ow→K res0 b_→Q .ret σ st
abbrev I272_0 (prog:Prog)(d:Nat)(Q:AE→Sl→St→Prop)(st0:St)(kp:Key)(vp:Nat)(t14:List Rou)(t15:Int)(t16:Int)(mP:Dsk):Prop:=
  ∀(σ:Sl)(st:St)(o_t14:Own),σ 1=.bf 273 [.p kp vp 0]→σ 14=.sl o_t14 (List.map Rou.row t14)→σ 15=.i .i64 t15→σ 16=.i .i64 t16→Dk mP st.bx st.ow kp vp→Fr d kp st0.bx st0.ow st.bx st.ow→W prog d (.loop l272_0) σ st (blockW 0 (thenW prog d c272_3 Q))
abbrev I272_1 (prog:Prog)(d:Nat)(Q:AE→Sl→St→Prop)(st0:St)(kp:Key)(vp:Nat)(g5:Int)(t14:List Rou)(t15:Int)(t16:Int)(t22:List Frm)(t23:Int)(t24:Int)(mP:Dsk):Prop:=
  ∀(σ:Sl)(st:St) (o_t14 o_t22:Own),σ 1=.bf 273 [.p kp vp 0]→σ 5=.i .i64 g5→σ 14=.sl o_t14 (List.map Rou.row t14)→σ 15=.i .i64 t15→σ 16=.i .i64 t16→σ 22=.sl o_t22 (List.map Frm.row t22)→σ 23=.i .i64 t23→σ 24=.i .i64 t24→Dk mP st.bx st.ow kp vp→Fr d kp st0.bx st0.ow st.bx st.ow→W prog d (.loop l272_1) σ st (blockW 2 (blockW 1 (thenW prog d c272_1 (thenW prog d (.loop l272_0) (blockW 0 (thenW prog d c272_3 Q))))))
def T272_3 (prog:Prog)(K:Int→Dsk→Prop)(P0:Int→Dsk→Prop)(t14:List Rou)(t15:Int)(t16:Int)(mP:Dsk):Prop:=
  P0 (IntKind.i64.wrap (t16+1)) mP
def T272_2 (prog:Prog)(K:Int→Dsk→Prop)(P1:Int→Dsk→Prop)(P0:Int→Dsk→Prop)(g5:Int)(t14:List Rou)(t15:Int)(t16:Int)(t22:List Frm)(t23:Int)(t24:Int)(mP:Dsk):Prop:=
  (t24<t23→0≤t24∧∃c'2:Frm,t22[(t24).toNat]?=some c'2∧∃r'4,∃b'10:Dsk,PuX prog 273 (Dk mP) [.i .i64 g5,.i .i64 t24,c'2.av] (fun r=>r=.i .i64 r'4) ((Dk b'10))∧(r'4≠0→K r'4 b'10)∧(¬(r'4≠0)→P1 (IntKind.i64.wrap (t24+1)) b'10))∧(¬(t24<t23)→T272_3 prog K P0 t14 t15 t16 mP)
def T272_4 (prog:Prog)(K:Int→Dsk→Prop)(mP:Dsk):Prop:=
  K 0 mP
def T272_1 (prog:Prog)(K:Int→Dsk→Prop)(P0:Int→Dsk→Prop)(t14:List Rou)(t15:Int)(t16:Int)(mP:Dsk):Prop:=
  (t16<t15→0≤t16∧∃c'2:Rou,t14[(t16).toNat]?=some c'2∧∀P1:Int→Dsk→Prop,(∀(t24:Int)(mP:Dsk),T272_2 prog K P1 P0 t16 t14 t15 t16 c'2.frames (c'2.frames.length:Int) t24 mP→P1 t24 mP)→P1 0 mP)∧(¬(t16<t15)→T272_4 prog K mP)
def T272_0 (prog:Prog)(K:Int→Dsk→Prop)(mP:Dsk):Prop:=
  ∀P0:Int→Dsk→Prop,(∀(t16:Int)(mP_b:Dsk),T272_1 prog K P0 mP.state.routines (mP.state.routines.length:Int) t16 mP_b→P0 t16 mP_b)→P0 0 mP
section
variable {prog:Prog}{d:Nat}{Q:AE→Sl→St→Prop}{K:Int→Dsk→Prop}{st0:St}{kp:Key}{vp:Nat}(hQ:H272 d st0 kp vp Q K)(hkp:kp.1<d){σ:Sl}{st:St}
include hQ hkp
variable {t14:List Rou}{t15 t16:Int}{mP:Dsk}{P0:Int→Dsk→Prop}{o_t14:Own}{g5:Int}{t22:List Frm}{t23 t24:Int}{P1:Int→Dsk→Prop}{o_t22:Own}
variable (kP1 :∀(t24:Int)(mP:Dsk),P1 t24 mP→I272_1 prog d Q st0 kp vp g5 t14 t15 t16 t22 t23 t24 mP)(H0:σ 0=.p kp vp 0) (kP0 :∀(t16:Int)(mP:Dsk),P0 t16 mP→I272_0 prog d Q st0 kp vp t14 t15 t16 mP)(H1:σ 1=.bf 273 [.p kp vp 0])(H5:σ 5=.i .i64 g5)(H14:σ 14=.sl o_t14 (List.map Rou.row t14))(H15:σ 15=.i .i64 t15)(H16:σ 16=.i .i64 t16)(H22:σ 22=.sl o_t22 (List.map Frm.row t22))(H23:σ 23=.i .i64 t23)(H24:σ 24=.i .i64 t24)(BP:Dk mP st.bx st.ow kp vp)(FR:Fr d kp st0.bx st0.ow st.bx st.ow)
include kP0 H1 H14 H15 H16 BP FR in
theorem w272_3 (h:T272_3 prog K P0 t14 t15 t16 mP):W prog d c272_1 σ st (thenW prog d (.loop l272_0) (blockW 0 (thenW prog d c272_3 Q))):=
 W.reg0 J fun _ _=>b_ H16 J add_ (m_ (e_ (kP0 _ _ h _ _ _ H1 H14 H15 J BP FR)))
include kP1 kP0 H1 H5 H14 H15 H16 H22 H23 H24 BP FR in
theorem w272_2 (h:T272_2 prog K P1 P0 g5 t14 t15 t16 t22 t23 t24 mP):W prog d l272_1 σ st (thenW prog d (.loop l272_1) (blockW 2 (blockW 1 (thenW prog d c272_1 (thenW prog d (.loop l272_0) (blockW 0 (thenW prog d c272_3 Q))))))):=
 q_ J (b_ H24 H23 lss_ (e_ (sq_ (cs_ J (fun g'1=>sk_ (sq_ (bk_ (sq_ (W.reg (m_ ((h.1 g'1).2.elim fun c'2 e'3=>ia_ H22 H24 (h.1 g'1).1 e'3.1 (Frm.row_eq c'2) J (lf_ J J J (s_alloc (m_ (so_ J (show lk _ (d,24579)=some (_,([.i .i64 0,.i .i64 0,.i .u64 0,.sl .full (List.map Loc.row ([]:List Loc))]:List AV)) from lk_here) J J J (e_ (q_ J (m_ (m_ (m_ (l_ J lk_here J J (e'3.2.elim fun r'4 e'12=>e'12.elim fun b'10 e'6=>s_callB H1 (sec H5 (sec H24 (sec J sen))) e'6.1 (Nat.lt_succ_of_lt hkp) (Dk.other (key_LP hkp) (Dk.other (key_LP hkp) BP)) (fun st'7 hb'8 hf'9=>m_ (e_ (q_ J (m_ (b_ J J neq_ (e_ (cs_ J (fun g'11=>q_ J (m_ (m_ (e_ (rt_ (hQ _ _ _ _ J hb'8 (Fr.pass (Fr.box (Fr.box FR)) hf'9) (e'6.2.1 g'11))))))) (fun g'11=>sk_ (W.reg0 J fun _ _=>b_ H24 J add_ (m_ (e_ (kP1 _ _ (e'6.2.2 g'11) _ _ _ _ H1 H5 H14 H15 H16 H22 H23 J hb'8 (Fr.pass (Fr.box (Fr.box FR)) hf'9))))))))))))))))))))))))))))))) (fun g'1=>ex_ (w272_3 hQ hkp kP0 H1 H14 H15 H16 BP FR (h.2 g'1)))))))
include BP FR in
theorem w272_4 (h:T272_4 prog K mP):W prog d c272_3 σ st Q:=
 q_ J (m_ (e_ (rt_ (hQ _ _ _ _ J BP FR h))))
include kP0 H1 H14 H15 H16 BP FR in
theorem w272_1 (h:T272_1 prog K P0 t14 t15 t16 mP):W prog d l272_0 σ st (thenW prog d (.loop l272_0) (blockW 0 (thenW prog d c272_3 Q))):=
 q_ J (b_ H16 H15 lss_ (e_ (sq_ (cs_ J (fun g'1=>sk_ (sq_ (bk_ (sq_ (W.reg (m_ ((h.1 g'1).2.elim fun c'2 e'3=>ia_ H14 H16 (h.1 g'1).1 e'3.1 (Rou.row_eq c'2) J (lf_ J J J (s_alloc (m_ (so_ J (show lk _ (d,12291)=some (_,([.i .u8 0,.i .i64 0,.sl .full (List.map Frm.row ([]:List Frm)),.sl .full (List.map Dfr.row ([]:List Dfr)),.sl .full (List.map Pan.row ([]:List Pan))]:List AV)) from lk_here) J J J (e_ (q_ J (f_ J (l_ J lk_here J J (ll_ J (m_ (e_ (bk_ (e'3.2 (I272_1 prog d Q st0 kp vp t16 t14 t15 t16 c'2.frames (c'2.frames.length:Int)) (fun _ _ hb _ _ _ _ H1 H5 H14 H15 H16 H22 H23 H24 BP FR=>W.loop (w272_2 hQ hkp (fun _ _ x=>x) kP0 H1 H5 H14 H15 H16 H22 H23 H24 BP FR hb)) _ _ _ _ H1 H16 H14 H15 H16 J J J (Dk.other (key_LP hkp) (Dk.other (key_LP hkp) BP)) (Fr.box (Fr.box FR)))))))))))))))))))))) (fun g'1=>ex_ (w272_4 hQ hkp BP FR (h.2 g'1)))))))
include H0 H1 BP FR in
theorem w272_0 (h:T272_0 prog K mP):W prog d (sR 0 r272_0 (.seq (sR 1 r272_1 (.block 0 (.loop l272_0))) c272_3)) σ st Q:=
 q_ J (m_ (e_ (sq_ (q_ J (m_ (s_nilP H0 (f_ J (f_ J (s_loadD J BP J J (ll_ J (m_ (e_ (bk_ (h (I272_0 prog d Q st0 kp vp mP.state.routines (mP.state.routines.length:Int)) (fun _ _ hb _ _ _ H1 H14 H15 H16 BP FR=>W.loop (w272_1 hQ hkp (fun _ _ x=>x) H1 H14 H15 H16 BP FR hb)) _ _ _ H1 J J J BP FR))))))))))))))
end
theorem p272 {prog:Prog}(hf:prog.fn 272=some pf272){mP:Dsk}{K:Int→Dsk→Prop}(h:T272_0 prog K mP):PuXFK prog 272 (Dk mP) (fun kp vp=>[.bf 273 [.p kp vp 0]]) (fun r (b_:Dsk)=>∃res0:Int,(r=.i .i64 res0)∧K res0 b_) (fun b_=>(Dk b_)):=
  PuXFK.of hf (fun _ _=>rfl) (fun _=>Dk.out) fun d st kp vp hkp hB=>w272_0 (st0:=st) (Q:=fun e σ st'=>(e=.normal∨e=.ret)∧∃r b_,ares σ st' pf272.res=some r∧_∧_∧Fr d kp st.bx st.ow st'.bx st'.ow) (fun σ st'   res0 b_ H4 hb hf hk=>⟨.inr rfl,.i .i64 res0,b_,by simp only [pf272,ares,aresL,H4,ares1,Option.map_some,H4],⟨res0,rfl,hk⟩,hb,hf⟩) hkp (σ:=sl0 [.p kp vp 0,.bf 273 [.p kp vp 0]]) rfl rfl hB Fr.refl h
end Go.AM

/- Parts of the proof. -/
namespace Go.AM.SlotV
open Go
set_option linter.unusedVariables false
set_option linter.unusedSimpArgs false
set_option maxRecDepth 4000
attribute [local irreducible] WO fillCells fillRows
def r272_0:List AI:=[oI 4 0]
def r272_1:List AI:=[oM 10 0,oN 11 10,oF 12 3 11,oF 13 3 12,oL 14 13,oJ 15 14,oI 16 0]
def r272_2:List AI:=[oT 17 .lss 16 15]
def r272_3:List AI:=[oM 18 16,oX 19 5 14 16,oK 20 5 19,oO 6 (.alloc [z8,z6,zl,zl,zl]),oM 5 18,oS 5 6 20]
def r272_4:List AI:=[oF 21 2 6,oL 22 21,oJ 23 22,oI 24 0]
def r272_5:List AI:=[oT 25 .lss 24 23]
def r272_6:List AI:=[oM 26 24,oX 27 4 22 24,oK 28 4 27,oO 8 (.alloc [z6,z6,z7,zl]),oM 7 26,oS 4 8 28]
def r272_7:List AI:=[oM 29 1,oM 30 5,oM 31 7,oK 32 4 8,oO 33 (.callv (.t 29) [(.t 30),(.t 31),(.t 32)]),oM 9 33]
def r272_8:List AI:=[oM 34 9,oV 35 .neq 34 0]
def r272_9:List AI:=[oM 36 9,oM 4 36]
def r272_10:List AI:=[oV 37 .add 24 1,oM 24 37]
def r272_11:List AI:=[oV 38 .add 16 1,oM 16 38]
def r272_12:List AI:=[oI 4 0]
abbrev l272_1:AC:=(sR 5 r272_5 (.seq (.cond (.t 25) .skip (.exit 2)) (.seq (.block 3 (sR 6 r272_6 (sR 7 r272_7 (sR 8 r272_8 (.cond (.t 35) (sR 9 r272_9 .ret) .skip))))) (.reg 10 r272_10))))
abbrev c272_1:AC:=(.reg 11 r272_11)
abbrev l272_0:AC:=(sR 2 r272_2 (.seq (.cond (.t 17) .skip (.exit 0)) (.seq (.block 1 (sR 3 r272_3 (sR 4 r272_4 (.block 2 (.loop l272_1))))) c272_1)))
abbrev c272_3:AC:=(sR 12 r272_12 .ret)
abbrev b272:AC:=(sR 0 r272_0 (.seq (sR 1 r272_1 (.block 0 (.loop l272_0))) c272_3))
def pf272:AF:={ nt:=39,res:=[.tmp 4],body:=b272 }
abbrev H272 (d:Nat)(st0:St)(kp:Key)(vp:Nat)(Q:AE→Sl→St→Prop)(K:Int→Dsk→Prop):Prop:=∀(σ:Sl)(st:St)(res0:Int)(b_:Dsk),σ 4=.i .i64 res0→Dk b_ st.bx st.ow kp vp→Fr d kp st0.bx st0.ow st.bx st.ow→K res0 b_→Q .ret σ st
abbrev I272_0 (prog:Prog)(d:Nat)(Q:AE→Sl→St→Prop)(st0:St)(kp:Key)(vp:Nat)(t14:List Rou)(t15:Int)(t16:Int)(mP:Dsk):Prop:=
  ∀(σ:Sl)(st:St)(o_t14:Own),σ 1=.bf 275 [.p kp vp 0]→σ 14=.sl o_t14 (List.map Rou.row t14)→σ 15=.i .i64 t15→σ 16=.i .i64 t16→Dk mP st.bx st.ow kp vp→Fr d kp st0.bx st0.ow st.bx st.ow→W prog d (.loop l272_0) σ st (blockW 0 (thenW prog d c272_3 Q))
abbrev I272_1 (prog:Prog)(d:Nat)(Q:AE→Sl→St→Prop)(st0:St)(kp:Key)(vp:Nat)(g5:Int)(t14:List Rou)(t15:Int)(t16:Int)(t22:List Frm)(t23:Int)(t24:Int)(mP:Dsk):Prop:=
  ∀(σ:Sl)(st:St) (o_t14 o_t22:Own),σ 1=.bf 275 [.p kp vp 0]→σ 5=.i .i64 g5→σ 14=.sl o_t14 (List.map Rou.row t14)→σ 15=.i .i64 t15→σ 16=.i .i64 t16→σ 22=.sl o_t22 (List.map Frm.row t22)→σ 23=.i .i64 t23→σ 24=.i .i64 t24→Dk mP st.bx st.ow kp vp→Fr d kp st0.bx st0.ow st.bx st.ow→W prog d (.loop l272_1) σ st (blockW 2 (blockW 1 (thenW prog d c272_1 (thenW prog d (.loop l272_0) (blockW 0 (thenW prog d c272_3 Q))))))
def T272_3 (prog:Prog)(K:Int→Dsk→Prop)(P0:Int→Dsk→Prop)(t14:List Rou)(t15:Int)(t16:Int)(mP:Dsk):Prop:=
  P0 (IntKind.i64.wrap (t16+1)) mP
def T272_2 (prog:Prog)(K:Int→Dsk→Prop)(P1:Int→Dsk→Prop)(P0:Int→Dsk→Prop)(g5:Int)(t14:List Rou)(t15:Int)(t16:Int)(t22:List Frm)(t23:Int)(t24:Int)(mP:Dsk):Prop:=
  (t24<t23→0≤t24∧∃c'2:Frm,t22[(t24).toNat]?=some c'2∧∃r'4,∃b'10:Dsk,PuX prog 275 (Dk mP) [.i .i64 g5,.i .i64 t24,c'2.av] (fun r=>r=.i .i64 r'4) ((Dk b'10))∧(r'4≠0→K r'4 b'10)∧(¬(r'4≠0)→P1 (IntKind.i64.wrap (t24+1)) b'10))∧(¬(t24<t23)→T272_3 prog K P0 t14 t15 t16 mP)
def T272_4 (prog:Prog)(K:Int→Dsk→Prop)(mP:Dsk):Prop:=
  K 0 mP
def T272_1 (prog:Prog)(K:Int→Dsk→Prop)(P0:Int→Dsk→Prop)(t14:List Rou)(t15:Int)(t16:Int)(mP:Dsk):Prop:=
  (t16<t15→0≤t16∧∃c'2:Rou,t14[(t16).toNat]?=some c'2∧∀P1:Int→Dsk→Prop,(∀(t24:Int)(mP:Dsk),T272_2 prog K P1 P0 t16 t14 t15 t16 c'2.frames (c'2.frames.length:Int) t24 mP→P1 t24 mP)→P1 0 mP)∧(¬(t16<t15)→T272_4 prog K mP)
def T272_0 (prog:Prog)(K:Int→Dsk→Prop)(mP:Dsk):Prop:=
  ∀P0:Int→Dsk→Prop,(∀(t16:Int)(mP_b:Dsk),T272_1 prog K P0 mP.state.routines (mP.state.routines.length:Int) t16 mP_b→P0 t16 mP_b)→P0 0 mP
section
variable {prog:Prog}{d:Nat}{Q:AE→Sl→St→Prop}{K:Int→Dsk→Prop}{st0:St}{kp:Key}{vp:Nat}(hQ:H272 d st0 kp vp Q K)(hkp:kp.1<d){σ:Sl}{st:St}
include hQ hkp
variable {t14:List Rou}{t15 t16:Int}{mP:Dsk}{P0:Int→Dsk→Prop}{o_t14:Own}{g5:Int}{t22:List Frm}{t23 t24:Int}{P1:Int→Dsk→Prop}{o_t22:Own}
variable (kP1 :∀(t24:Int)(mP:Dsk),P1 t24 mP→I272_1 prog d Q st0 kp vp g5 t14 t15 t16 t22 t23 t24 mP)(H0:σ 0=.p kp vp 0) (kP0 :∀(t16:Int)(mP:Dsk),P0 t16 mP→I272_0 prog d Q st0 kp vp t14 t15 t16 mP)(H1:σ 1=.bf 275 [.p kp vp 0])(H5:σ 5=.i .i64 g5)(H14:σ 14=.sl o_t14 (List.map Rou.row t14))(H15:σ 15=.i .i64 t15)(H16:σ 16=.i .i64 t16)(H22:σ 22=.sl o_t22 (List.map Frm.row t22))(H23:σ 23=.i .i64 t23)(H24:σ 24=.i .i64 t24)(BP:Dk mP st.bx st.ow kp vp)(FR:Fr d kp st0.bx st0.ow st.bx st.ow)
include kP0 H1 H14 H15 H16 BP FR in
theorem w272_3 (h:T272_3 prog K P0 t14 t15 t16 mP):W prog d c272_1 σ st (thenW prog d (.loop l272_0) (blockW 0 (thenW prog d c272_3 Q))):=
 W.reg0 J fun _ _=>b_ H16 J add_ (m_ (e_ (kP0 _ _ h _ _ _ H1 H14 H15 J BP FR)))
include kP1 kP0 H1 H5 H14 H15 H16 H22 H23 H24 BP FR in
theorem w272_2 (h:T272_2 prog K P1 P0 g5 t14 t15 t16 t22 t23 t24 mP):W prog d l272_1 σ st (thenW prog d (.loop l272_1) (blockW 2 (blockW 1 (thenW prog d c272_1 (thenW prog d (.loop l272_0) (blockW 0 (thenW prog d c272_3 Q))))))):=
 q_ J (b_ H24 H23 lss_ (e_ (sq_ (cs_ J (fun g'1=>sk_ (sq_ (bk_ (sq_ (W.reg (m_ ((h.1 g'1).2.elim fun c'2 e'3=>ia_ H22 H24 (h.1 g'1).1 e'3.1 (Frm.row_eq c'2) J (lf_ J J J (s_alloc (m_ (so_ J (show lk _ (d,24579)=some (_,([.i .i64 0,.i .i64 0,.i .u64 0,.sl .full (List.map Loc.row ([]:List Loc))]:List AV)) from lk_here) J J J (e_ (q_ J (m_ (m_ (m_ (l_ J lk_here J J (e'3.2.elim fun r'4 e'12=>e'12.elim fun b'10 e'6=>s_callB H1 (sec H5 (sec H24 (sec J sen))) e'6.1 (Nat.lt_succ_of_lt hkp) (Dk.other (key_LP hkp) (Dk.other (key_LP hkp) BP)) (fun st'7 hb'8 hf'9=>m_ (e_ (q_ J (m_ (b_ J J neq_ (e_ (cs_ J (fun g'11=>q_ J (m_ (m_ (e_ (rt_ (hQ _ _ _ _ J hb'8 (Fr.pass (Fr.box (Fr.box FR)) hf'9) (e'6.2.1 g'11))))))) (fun g'11=>sk_ (W.reg0 J fun _ _=>b_ H24 J add_ (m_ (e_ (kP1 _ _ (e'6.2.2 g'11) _ _ _ _ H1 H5 H14 H15 H16 H22 H23 J hb'8 (Fr.pass (Fr.box (Fr.box FR)) hf'9))))))))))))))))))))))))))))))) (fun g'1=>ex_ (w272_3 hQ hkp kP0 H1 H14 H15 H16 BP FR (h.2 g'1)))))))
include BP FR in
theorem w272_4 (h:T272_4 prog K mP):W prog d c272_3 σ st Q:=
 q_ J (m_ (e_ (rt_ (hQ _ _ _ _ J BP FR h))))
include kP0 H1 H14 H15 H16 BP FR in
theorem w272_1 (h:T272_1 prog K P0 t14 t15 t16 mP):W prog d l272_0 σ st (thenW prog d (.loop l272_0) (blockW 0 (thenW prog d c272_3 Q))):=
 q_ J (b_ H16 H15 lss_ (e_ (sq_ (cs_ J (fun g'1=>sk_ (sq_ (bk_ (sq_ (W.reg (m_ ((h.1 g'1).2.elim fun c'2 e'3=>ia_ H14 H16 (h.1 g'1).1 e'3.1 (Rou.row_eq c'2) J (lf_ J J J (s_alloc (m_ (so_ J (show lk _ (d,12291)=some (_,([.i .u8 0,.i .i64 0,.sl .full (List.map Frm.row ([]:List Frm)),.sl .full (List.map Dfr.row ([]:List Dfr)),.sl .full (List.map Pan.row ([]:List Pan))]:List AV)) from lk_here) J J J (e_ (q_ J (f_ J (l_ J lk_here J J (ll_ J (m_ (e_ (bk_ (e'3.2 (I272_1 prog d Q st0 kp vp t16 t14 t15 t16 c'2.frames (c'2.frames.length:Int)) (fun _ _ hb _ _ _ _ H1 H5 H14 H15 H16 H22 H23 H24 BP FR=>W.loop (w272_2 hQ hkp (fun _ _ x=>x) kP0 H1 H5 H14 H15 H16 H22 H23 H24 BP FR hb)) _ _ _ _ H1 H16 H14 H15 H16 J J J (Dk.other (key_LP hkp) (Dk.other (key_LP hkp) BP)) (Fr.box (Fr.box FR)))))))))))))))))))))) (fun g'1=>ex_ (w272_4 hQ hkp BP FR (h.2 g'1)))))))
include H0 H1 BP FR in
theorem w272_0 (h:T272_0 prog K mP):W prog d (sR 0 r272_0 (.seq (sR 1 r272_1 (.block 0 (.loop l272_0))) c272_3)) σ st Q:=
 q_ J (m_ (e_ (sq_ (q_ J (m_ (s_nilP H0 (f_ J (f_ J (s_loadD J BP J J (ll_ J (m_ (e_ (bk_ (h (I272_0 prog d Q st0 kp vp mP.state.routines (mP.state.routines.length:Int)) (fun _ _ hb _ _ _ H1 H14 H15 H16 BP FR=>W.loop (w272_1 hQ hkp (fun _ _ x=>x) H1 H14 H15 H16 BP FR hb)) _ _ _ H1 J J J BP FR))))))))))))))
end
theorem p272 {prog:Prog}(hf:prog.fn 272=some pf272){mP:Dsk}{K:Int→Dsk→Prop}(h:T272_0 prog K mP):PuXFK prog 272 (Dk mP) (fun kp vp=>[.bf 275 [.p kp vp 0]]) (fun r (b_:Dsk)=>∃res0:Int,(r=.i .i64 res0)∧K res0 b_) (fun b_=>(Dk b_)):=
  PuXFK.of hf (fun _ _=>rfl) (fun _=>Dk.out) fun d st kp vp hkp hB=>w272_0 (st0:=st) (Q:=fun e σ st'=>(e=.normal∨e=.ret)∧∃r b_,ares σ st' pf272.res=some r∧_∧_∧Fr d kp st.bx st.ow st'.bx st'.ow) (fun σ st'   res0 b_ H4 hb hf hk=>⟨.inr rfl,.i .i64 res0,b_,by simp only [pf272,ares,aresL,H4,ares1,Option.map_some,H4],⟨res0,rfl,hk⟩,hb,hf⟩) hkp (σ:=sl0 [.p kp vp 0,.bf 275 [.p kp vp 0]]) rfl rfl hB Fr.refl h
end Go.AM.SlotV

/- Parts of the proof. -/
namespace Go.AM
open Go
set_option linter.unusedVariables false
set_option linter.unusedSimpArgs false
set_option maxRecDepth 4000
attribute [local irreducible] WO fillCells fillRows
def r268_0:List AI:=[oI 2 0]
def r268_1:List AI:=[oM 15 0,oN 16 15,oF 17 7 16,oF 18 1 17,oL 19 18,oM 3 19]
def r268_2:List AI:=[oM 20 3,oM 21 0,oN 22 21,oF 23 3 22,oF 24 3 23,oL 25 24,oJ 26 25,oT 27 .geq 20 26]
def r268_3:List AI:=[oI 2 6]
def r268_4:List AI:=[oM 28 0,oN 29 28,oF 30 3 29,oF 31 3 30,oL 32 31,oM 33 3,oX 34 5 32 33,oK 35 5 34,oO 4 (.alloc [z8,z6,zl,zl,zl]),oS 5 4 35]
def r268_5:List AI:=[oM 36 0,oN 37 36,oF 38 7 37,oF 39 0 38,oL 40 39,oW 41 .eql 40 3,oM 42 41,gT 42 (oM 43 0),gT 42 (oN 44 43),gT 42 (oF 45 7 44),gT 42 (oF 46 2 45),gT 42 (oL 47 46),gT 42 (oF 48 2 4),gT 42 (oL 49 48),gT 42 (oJ 50 49),gT 42 (oT 51 .geq 47 50),oA 52 42 51]
def r268_6:List AI:=[oI 2 6]
def r268_7:List AI:=[oM 54 0,oN 55 54,oF 56 0 55,oK 57 3 56,oM 58 3,oK 59 5 4,oQ 60 207 [57,58,59],oM 53 60,oE 61 0 53,oE 62 1 53,oM 5 61,oM 6 62]
def r268_8:List AI:=[oM 63 6,oV 64 .neq 63 0]
def r268_9:List AI:=[oM 65 6,oM 2 65]
def r268_10:List AI:=[oM 66 5,oO 67 (.slL 1 (.t 66) (some (.c (.i .i64 1))) none),oM 5 67]
def r268_11:List AI:=[oF 68 2 4,oL 69 68,oJ 70 69,oI 71 0]
def r268_12:List AI:=[oT 72 .lss 71 70]
def r268_13:List AI:=[oM 73 71,oX 74 4 69 71,oK 75 4 74,oO 8 (.alloc [z6,z6,z7,zl]),oM 7 73,oS 4 8 75]
def r268_14:List AI:=[oF 76 3 8,oL 77 76,oJ 78 77,oB 79 .add (.c (.i .i64 1)) (.t 78),oM 9 79]
def r268_15:List AI:=[oM 80 0,oN 81 80,oF 82 7 81,oF 83 0 82,oL 84 83,oW 85 .eql 84 2]
def r268_16:List AI:=[oM 86 0,oM 87 5,oO 88 (.iaL 1 (.t 87) (.c (.i .i64 0))),oL 89 88,oO 90 (.slS (.t 89) (some (.c (.i .i64 2))) none),oO 91 (.call true 276 [(.t 86),(.t 90)])]
def r268_17:List AI:=[oM 92 0,oN 93 92,oF 94 7 93,oF 95 0 94,oL 96 95,oW 97 .eql 96 3,oM 98 97,gT 98 (oM 99 0),gT 98 (oN 100 99),gT 98 (oF 101 7 100),gT 98 (oF 102 2 101),gT 98 (oL 103 102),gT 98 (oM 104 7),gT 98 (oT 105 .eql 103 104),oA 106 98 105]
def r268_18:List AI:=[oM 107 5,oM 108 9,oO 109 (.slL 1 (.t 107) (some (.c (.i .i64 1))) (some (.t 108))),oJ 110 109,oI 111 0]
def r268_19:List AI:=[oT 112 .lss 111 110]
def r268_20:List AI:=[oX 113 1 109 111,oL 114 113,oM 11 114]
def r268_21:List AI:=[oM 115 0,oM 116 11,oO 117 (.slS (.t 116) (some (.c (.i .i64 2))) none),oO 118 (.call true 276 [(.t 115),(.t 117)])]
def r268_22:List AI:=[oV 119 .add 111 1,oM 111 119]
def r268_23:List AI:=[oM 120 5,oM 121 9,oO 122 (.slL 1 (.t 120) (some (.t 121)) none),oM 5 122]
def r268_24:List AI:=[oV 123 .add 71 1,oM 71 123]
def r268_25:List AI:=[oF 124 3 4,oL 125 124,oJ 126 125,oM 12 126]
def r268_26:List AI:=[oM 127 0,oN 128 127,oF 129 7 128,oF 130 0 129,oL 131 130]
def r268_27:List AI:=[oW 133 .eql 131 4,oM 132 133]
def r268_28:List AI:=[oM 134 5,oM 135 12,oO 136 (.slL 1 (.t 134) none (some (.t 135))),oM 5 136]
def r268_29:List AI:=[oW 138 .eql 131 5,oM 137 138]
def r268_30:List AI:=[oM 139 5,oM 140 12,oO 141 (.slL 1 (.t 139) (some (.t 140)) none),oM 5 141]
def r268_31:List AI:=[oC 5 (.sl .full [])]
def r268_32:List AI:=[oM 142 5,oJ 143 142,oI 144 0]
def r268_33:List AI:=[oT 145 .lss 144 143]
def r268_34:List AI:=[oX 146 1 142 144,oL 147 146,oM 14 147]
def r268_35:List AI:=[oM 148 0,oM 149 14,oO 150 (.slS (.t 149) (some (.c (.i .i64 2))) none),oO 151 (.call true 276 [(.t 148),(.t 150)])]
def r268_36:List AI:=[oV 152 .add 144 1,oM 144 152]
def r268_37:List AI:=[oI 2 0]
abbrev l268_1:AC:=(sR 19 r268_19 (.seq (.cond (.t 112) .skip (.exit 2)) (.seq (.block 3 (sR 20 r268_20 (.reg 21 r268_21))) (.reg 22 r268_22))))
abbrev c268_1:AC:=(.cond (.t 106) (sR 18 r268_18 (.block 2 (.loop l268_1))) .skip)
abbrev c268_2:AC:=(.reg 23 r268_23)
abbrev c268_3:AC:=(.seq (sR 17 r268_17 c268_1) c268_2)
abbrev c268_4:AC:=(.reg 24 r268_24)
abbrev l268_0:AC:=(sR 12 r268_12 (.seq (.cond (.t 72) .skip (.exit 0)) (.seq (.block 1 (sR 13 r268_13 (sR 14 r268_14 (.seq (sR 15 r268_15 (.cond (.t 85) (.reg 16 r268_16) .skip)) c268_3)))) c268_4)))
abbrev l268_2:AC:=(sR 33 r268_33 (.seq (.cond (.t 145) .skip (.exit 5)) (.seq (.block 6 (sR 34 r268_34 (.reg 35 r268_35))) (.reg 36 r268_36))))
abbrev c268_7:AC:=(sR 37 r268_37 .ret)
abbrev c268_8:AC:=(.seq (sR 32 r268_32 (.block 5 (.loop l268_2))) c268_7)
abbrev c268_9:AC:=(sR 25 r268_25 (.seq (sR 26 r268_26 (.block 4 (sR 28 r268_27 (.cond (.t 132) (.reg 29 r268_28) (sR 30 r268_29 (.cond (.t 137) (.reg 31 r268_30) (.reg 27 r268_31))))))) c268_8))
abbrev c268_10:AC:=(.seq (sR 11 r268_11 (.block 0 (.loop l268_0))) c268_9)
abbrev c268_11:AC:=(sR 10 r268_10 c268_10)
abbrev c268_12:AC:=(.seq (sR 8 r268_8 (.cond (.t 64) (sR 9 r268_9 .ret) .skip)) c268_11)
abbrev c268_13:AC:=(sR 7 r268_7 c268_12)
abbrev c268_14:AC:=(.seq (sR 5 r268_5 (.cond (.t 52) (sR 6 r268_6 .ret) .skip)) c268_13)
abbrev c268_15:AC:=(sR 4 r268_4 c268_14)
abbrev c268_16:AC:=(.seq (sR 2 r268_2 (.cond (.t 27) (sR 3 r268_3 .ret) .skip)) c268_15)
abbrev c268_17:AC:=(sR 1 r268_1 c268_16)
abbrev b268:AC:=(sR 0 r268_0 c268_17)
def pf268:AF:={ nt:=153,res:=[.tmp 2],body:=b268 }
abbrev I268_0 (prog:Prog)(d:Nat)(Q:AE→Sl→St→Prop)(st0:St)(kp:Key)(vp:Nat)(t69:List Frm)(t70:Int)(l5:LB)(t71:Int)(m16392:Rou)(mP:Dsk):Prop:=
  ∀(σ:Sl)(st:St) (o_l5 o_t69:Own)(v16392:Nat),σ 0=.p kp vp 0→σ 4=.p (d,16392) v16392 0→σ 5=.sl o_l5 (List.map rowS l5)→σ 69=.sl o_t69 (List.map Frm.row t69)→σ 70=.i .i64 t70→σ 71=.i .i64 t71→lk st.bx (d,16392)=some (v16392,[.i .u8 m16392.status,.i .i64 m16392.key,.sl .ext (List.map Frm.row m16392.frames),.sl .ext (List.map Dfr.row m16392.defers),.sl .ext (List.map Pan.row m16392.panics)])→Dk mP st.bx st.ow kp vp→Fr d kp st0.bx st0.ow st.bx st.ow→W prog d (.loop l268_0) σ st (blockW 0 (thenW prog d c268_9 Q))
abbrev I268_1 (prog:Prog)(d:Nat)(Q:AE→Sl→St→Prop)(st0:St)(kp:Key)(vp:Nat)(l5:LB)(n9:Int)(t69:List Frm)(t70:Int)(t71:Int)(t109:LB)(t110:Int)(t111:Int)(m16392:Rou)(mP:Dsk):Prop:=
  ∀(σ:Sl)(st:St) (o_l5 o_t69 o_t109:Own)(v16392:Nat),σ 0=.p kp vp 0→σ 4=.p (d,16392) v16392 0→σ 5=.sl o_l5 (List.map rowS l5)→σ 9=.i .i64 n9→σ 69=.sl o_t69 (List.map Frm.row t69)→σ 70=.i .i64 t70→σ 71=.i .i64 t71→σ 109=.sl o_t109 (List.map rowS t109)→σ 110=.i .i64 t110→σ 111=.i .i64 t111→lk st.bx (d,16392)=some (v16392,[.i .u8 m16392.status,.i .i64 m16392.key,.sl .ext (List.map Frm.row m16392.frames),.sl .ext (List.map Dfr.row m16392.defers),.sl .ext (List.map Pan.row m16392.panics)])→Dk mP st.bx st.ow kp vp→Fr d kp st0.bx st0.ow st.bx st.ow→W prog d (.loop l268_1) σ st (blockW 2 (thenW prog d c268_2 (blockW 1 (thenW prog d c268_4 (thenW prog d (.loop l268_0) (blockW 0 (thenW prog d c268_9 Q)))))))
def T268_14 (prog:Prog)(K:Int→Dsk→Prop)(P0:LB→Int→Rou→Dsk→Prop)(l5:LB)(t69:List Frm)(t70:Int)(t71:Int)(m16392:Rou)(mP:Dsk):Prop:=
  P0 l5 (IntKind.i64.wrap (t71+1)) m16392 mP
def T268_13 (prog:Prog)(K:Int→Dsk→Prop)(P0:LB→Int→Rou→Dsk→Prop)(l5:LB)(n9:Int)(t69:List Frm)(t70:Int)(t71:Int)(m16392:Rou)(mP:Dsk):Prop:=
  0≤n9∧(n9).toNat≤l5.length∧T268_14 prog K P0 (l5.drop (n9).toNat) t69 t70 t71 m16392 mP
def T268_12 (prog:Prog)(K:Int→Dsk→Prop)(P1:Int→Rou→Dsk→Prop)(P0:LB→Int→Rou→Dsk→Prop)(l5:LB)(n9:Int)(t69:List Frm)(t70:Int)(t71:Int)(t109:LB)(t110:Int)(t111:Int)(m16392:Rou)(mP:Dsk):Prop:=
  (t111<t110→0≤t111∧∃c'2:BS,t109[(t111).toNat]?=some c'2∧2≤c'2.length∧∃b'9:Dsk,PuX prog 276 (Dk mP) [.s (c'2.drop 2)] (fun r=>r=.tup []) ((Dk b'9))∧P1 (IntKind.i64.wrap (t111+1)) m16392 b'9)∧(¬(t111<t110)→T268_13 prog K P0 l5 n9 t69 t70 t71 m16392 mP)
def T268_11 (prog:Prog)(K:Int→Dsk→Prop)(P0:LB→Int→Rou→Dsk→Prop)(l5:LB)(n9:Int)(t69:List Frm)(t70:Int)(t71:Int)(t106:Bool)(m16392:Rou)(mP:Dsk):Prop:=
  (t106=true→0≤(1:Int)∧1≤n9∧(n9).toNat≤l5.length∧∀P1:Int→Rou→Dsk→Prop,(∀(t111:Int)(m16392:Rou)(mP:Dsk),T268_12 prog K P1 P0 l5 n9 t69 t70 t71 ((l5.drop 1).take ((n9).toNat-1)) (((l5.drop 1).take ((n9).toNat-1)).length:Int) t111 m16392 mP→P1 t111 m16392 mP)→P1 0 m16392 mP)∧(t106=false→T268_13 prog K P0 l5 n9 t69 t70 t71 m16392 mP)
def T268_10 (prog:Prog)(K:Int→Dsk→Prop)(P0:LB→Int→Rou→Dsk→Prop)(l5:LB)(k7:Int)(n9:Int)(t69:List Frm)(t70:Int)(t71:Int)(m16392:Rou)(mP:Dsk):Prop:=
  (mP.query.kind=3→T268_11 prog K P0 l5 n9 t69 t70 t71 (decide (mP.query.k=k7)) m16392 mP)∧(¬(mP.query.kind=3)→T268_11 prog K P0 l5 n9 t69 t70 t71 false m16392 mP)
abbrev I268_2 (prog:Prog)(d:Nat)(Q:AE→Sl→St→Prop)(st0:St)(kp:Key)(vp:Nat)(t142:LB)(t143:Int)(t144:Int)(mP:Dsk):Prop:=
  ∀(σ:Sl)(st:St)(o_t142:Own),σ 0=.p kp vp 0→σ 142=.sl o_t142 (List.map rowS t142)→σ 143=.i .i64 t143→σ 144=.i .i64 t144→Dk mP st.bx st.ow kp vp→Fr d kp st0.bx st0.ow st.bx st.ow→W prog d (.loop l268_2) σ st (blockW 5 (thenW prog d c268_7 Q))
def T268_18 (prog:Prog)(K:Int→Dsk→Prop)(mP:Dsk):Prop:=
  K 0 mP
def T268_17 (prog:Prog)(K:Int→Dsk→Prop)(P2:Int→Dsk→Prop)(t142:LB)(t143:Int)(t144:Int)(mP:Dsk):Prop:=
  (t144<t143→0≤t144∧∃c'2:BS,t142[(t144).toNat]?=some c'2∧2≤c'2.length∧∃b'9:Dsk,PuX prog 276 (Dk mP) [.s (c'2.drop 2)] (fun r=>r=.tup []) ((Dk b'9))∧P2 (IntKind.i64.wrap (t144+1)) b'9)∧(¬(t144<t143)→T268_18 prog K mP)
def T268_16 (prog:Prog)(K:Int→Dsk→Prop)(l5:LB)(mP:Dsk):Prop:=
  ∀P2:Int→Dsk→Prop,(∀(t144:Int)(mP:Dsk),T268_17 prog K P2 l5 (l5.length:Int) t144 mP→P2 t144 mP)→P2 0 mP
def T268_15 (prog:Prog)(K:Int→Dsk→Prop)(l5:LB)(m16392:Rou)(mP:Dsk):Prop:=
  (mP.query.kind=4→0≤(m16392.defers.length:Int)∧(m16392.defers.length:Int).toNat≤l5.length∧T268_16 prog K (l5.take (m16392.defers.length:Int).toNat) mP)∧(¬(mP.query.kind=4)→(mP.query.kind=5→0≤(m16392.defers.length:Int)∧(m16392.defers.length:Int).toNat≤l5.length∧T268_16 prog K (l5.drop (m16392.defers.length:Int).toNat) mP)∧(¬(mP.query.kind=5)→T268_16 prog K ([]:LB) mP))
def T268_9 (prog:Prog)(K:Int→Dsk→Prop)(P0:LB→Int→Rou→Dsk→Prop)(l5:LB)(t69:List Frm)(t70:Int)(t71:Int)(m16392:Rou)(mP:Dsk):Prop:=
  (t71<t70→0≤t71∧∃c'2:Frm,t69[(t71).toNat]?=some c'2∧(mP.query.kind=2→∃c'5:BS,l5[0]?=some c'5∧2≤c'5.length∧∃b'12:Dsk,PuX prog 276 (Dk mP) [.s (c'5.drop 2)] (fun r=>r=.tup []) ((Dk b'12))∧T268_10 prog K P0 l5 t71 (IntKind.i64.wrap (1+(c'2.locals.length:Int))) t69 t70 t71 m16392 b'12)∧(¬(mP.query.kind=2)→T268_10 prog K P0 l5 t71 (IntKind.i64.wrap (1+(c'2.locals.length:Int))) t69 t70 t71 m16392 mP))∧(¬(t71<t70)→T268_15 prog K l5 m16392 mP)
def T268_8 (prog:Prog)(K:Int→Dsk→Prop)(l5:LB)(m16392:Rou)(mP:Dsk):Prop:=
  ∀P0:LB→Int→Rou→Dsk→Prop,(∀(l5:LB)(t71:Int)(m16392_b:Rou)(mP:Dsk),T268_9 prog K P0 l5 m16392.frames (m16392.frames.length:Int) t71 m16392_b mP→P0 l5 t71 m16392_b mP)→P0 l5 0 m16392 mP
def T268_7 (prog:Prog)(K:Int→Dsk→Prop)(l5:LB)(m16392:Rou)(mP:Dsk):Prop:=
  1≤l5.length∧T268_8 prog K (l5.drop 1) m16392 mP
def T268_6 (prog:Prog)(K:Int→Dsk→Prop)(l5:LB)(e6:Int)(m16392:Rou)(mP:Dsk):Prop:=
  (e6≠0→K e6 mP)∧(¬(e6≠0)→T268_7 prog K l5 m16392 mP)
def T268_5 (prog:Prog)(K:Int→Dsk→Prop)(g3:Int)(m16392:Rou)(mP:Dsk):Prop:=
  ∃r'1 r'2,Pus prog 207 [mP.image.av,.i .i64 g3,m16392.av] (.tup [.sl .ext (List.map rowS r'1),.i .i64 r'2])∧T268_6 prog K r'1 r'2 m16392 mP
def T268_4 (prog:Prog)(K:Int→Dsk→Prop)(g3:Int)(m16392:Rou)(mP:Dsk):Prop:=
  (mP.query.kind=3→(mP.query.k≥(m16392.frames.length:Int)→K 6 mP)∧(¬(mP.query.k≥(m16392.frames.length:Int))→T268_5 prog K g3 m16392 mP))∧(¬(mP.query.kind=3)→T268_5 prog K g3 m16392 mP)
def T268_3 (prog:Prog)(K:Int→Dsk→Prop)(g3:Int)(mP:Dsk):Prop:=
  0≤g3∧∃c'1,mP.state.routines[(g3).toNat]?=some c'1∧T268_4 prog K g3 c'1 mP
def T268_2 (prog:Prog)(K:Int→Dsk→Prop)(g3:Int)(mP:Dsk):Prop:=
  (g3≥(mP.state.routines.length:Int)→K 6 mP)∧(¬(g3≥(mP.state.routines.length:Int))→T268_3 prog K g3 mP)
def T268_1 (prog:Prog)(K:Int→Dsk→Prop)(mP:Dsk):Prop:=
  T268_2 prog K mP.query.g mP
def T268_0 (prog:Prog)(K:Int→Dsk→Prop)(mP:Dsk):Prop:=
  T268_1 prog K mP
section
variable {prog:Prog}{d:Nat}{Q:AE→Sl→St→Prop}{K:Int→Dsk→Prop}{st0:St}{kp:Key}{vp:Nat}(hQ:HD d st0 kp vp Dk (AV.i .i64) 2 Q K)(hkp:kp.1<d){σ:Sl}{st:St}
include hQ hkp
variable {l5:LB}{t69:List Frm}{t70 t71:Int}{m16392:Rou}{mP:Dsk}{P0:LB→Int→Rou→Dsk→Prop}{o_l5 o_t69:Own}{v16392:Nat}{n9:Int}{t109:LB}{t110 t111:Int}{P1:Int→Rou→Dsk→Prop}{o_t109:Own}{t106:Bool}{k7:Int}{t142:LB}{t143 t144:Int}{P2:Int→Dsk→Prop}{o_t142:Own}{e6 g3:Int}
variable (kP1 :∀(t111:Int)(m16392:Rou)(mP:Dsk),P1 t111 m16392 mP→I268_1 prog d Q st0 kp vp l5 n9 t69 t70 t71 t109 t110 t111 m16392 mP) (kP2 :∀(t144:Int)(mP:Dsk),P2 t144 mP→I268_2 prog d Q st0 kp vp t142 t143 t144 mP) (kP0 :∀(l5:LB)(t71:Int)(m16392:Rou)(mP:Dsk),P0 l5 t71 m16392 mP→I268_0 prog d Q st0 kp vp t69 t70 l5 t71 m16392 mP)(H0:σ 0=.p kp vp 0)(H142:σ 142=.sl o_t142 (List.map rowS t142))(H3:σ 3=.i .i64 g3)(H143:σ 143=.i .i64 t143)(H4:σ 4=.p (d,16392) v16392 0)(H144:σ 144=.i .i64 t144)(H5:σ 5=.sl o_l5 (List.map rowS l5))(H7:σ 7=.i .i64 k7)(H6:σ 6=.i .i64 e6)(H9:σ 9=.i .i64 n9)(H69:σ 69=.sl o_t69 (List.map Frm.row t69))(H70:σ 70=.i .i64 t70)(H71:σ 71=.i .i64 t71)(H109:σ 109=.sl o_t109 (List.map rowS t109))(H106:σ 106=.b t106)(H110:σ 110=.i .i64 t110)(H111:σ 111=.i .i64 t111)(B16392:lk st.bx (d,16392)=some (v16392,[.i .u8 m16392.status,.i .i64 m16392.key,.sl .ext (List.map Frm.row m16392.frames),.sl .ext (List.map Dfr.row m16392.defers),.sl .ext (List.map Pan.row m16392.panics)]))(BP:Dk mP st.bx st.ow kp vp)(FR:Fr d kp st0.bx st0.ow st.bx st.ow)
include kP0 H0 H4 H5 H69 H70 H71 B16392 BP FR in
theorem w268_14 (h:T268_14 prog K P0 l5 t69 t70 t71 m16392 mP):W prog d c268_4 σ st (thenW prog d (.loop l268_0) (blockW 0 (thenW prog d c268_9 Q))):=
 W.reg0 J fun _ _=>b_ H71 J add_ (m_ (e_ (kP0 _ _ _ _ h _ _ _ _ _ H0 H4 H5 H69 H70 J B16392 BP FR)))
include kP0 H0 H4 H5 H9 H69 H70 H71 B16392 BP FR in
theorem w268_13 (h:T268_13 prog K P0 l5 n9 t69 t70 t71 m16392 mP):W prog d c268_2 σ st (blockW 1 (thenW prog d c268_4 (thenW prog d (.loop l268_0) (blockW 0 (thenW prog d c268_9 Q))))):=
 W.reg0 J fun _ _=>s_mvL H5 (m_ (s_slL_lo rowS_len J H9 h.1 h.2.1 (s_mvL J (e_ (w268_14 hQ hkp kP0 H0 H4 J H69 H70 H71 B16392 BP FR h.2.2)))))
include kP1 kP0 H0 H4 H5 H9 H69 H70 H71 H109 H110 H111 B16392 BP FR in
theorem w268_12 (h:T268_12 prog K P1 P0 l5 n9 t69 t70 t71 t109 t110 t111 m16392 mP):W prog d l268_1 σ st (thenW prog d (.loop l268_1) (blockW 2 (thenW prog d c268_2 (blockW 1 (thenW prog d c268_4 (thenW prog d (.loop l268_0) (blockW 0 (thenW prog d c268_9 Q)))))))):=
 q_ J (b_ H111 H110 lss_ (e_ (sq_ (cs_ J (fun g'1=>sk_ (sq_ (bk_ (q_ J ((h.1 g'1).2.elim fun c'2 e'3=>ia_ H109 H111 (h.1 g'1).1 e'3.1 J J (lf_ J J J (m_ (e_ (W.reg0 J fun _ _=>m_ (m_ (s_slS_lo J J (by decide) e'3.2.1 (e'3.2.2.elim fun b'9 e'5=>cX_ (sec H0 (sec J sen)) e'5.1 (Nat.lt_succ_of_lt hkp) BP (fun st'6 hb'7 hf'8=>e_ (W.reg0 J fun _ _=>b_ H111 J add_ (m_ (e_ (kP1 _ _ _ e'5.2 _ _ _ _ _ _ H0 H4 H5 H9 H69 H70 H71 H109 H110 J ((hf'8.1 (d,16392) (Nat.lt_succ_self d) (key_LP hkp)).trans B16392) hb'7 (Fr.pass FR hf'8)))))))))))))))))) (fun g'1=>ex_ (w268_13 hQ hkp kP0 H0 H4 H5 H9 H69 H70 H71 B16392 BP FR (h.2 g'1)))))))
include kP0 H0 H4 H5 H9 H69 H70 H71 H106 B16392 BP FR in
theorem w268_11 (h:T268_11 prog K P0 l5 n9 t69 t70 t71 t106 m16392 mP):W prog d c268_1 σ st (thenW prog d c268_2 (blockW 1 (thenW prog d c268_4 (thenW prog d (.loop l268_0) (blockW 0 (thenW prog d c268_9 Q)))))):=
 cb_ H106 (fun g'1=>q_ J (s_mvL H5 (m_ (s_slL rowS_len J J H9 (h.1 g'1).1 (h.1 g'1).2.1 (h.1 g'1).2.2.1 (ll_ J (m_ (e_ (bk_ ((h.1 g'1).2.2.2 (I268_1 prog d Q st0 kp vp l5 n9 t69 t70 t71 ((l5.drop 1).take ((n9).toNat-1)) (((l5.drop 1).take ((n9).toNat-1)).length:Int)) (fun _ _ _ hb _ _ _ _ _ _ H0 H4 H5 H9 H69 H70 H71 H109 H110 H111 B16392 BP FR=>W.loop (w268_12 hQ hkp (fun _ _ _ x=>x) kP0 H0 H4 H5 H9 H69 H70 H71 H109 H110 H111 B16392 BP FR hb)) _ _ _ _ _ _ H0 H4 H5 H9 H69 H70 H71 J J J B16392 BP FR))))))))) (fun g'1=>sk_ (w268_13 hQ hkp kP0 H0 H4 H5 H9 H69 H70 H71 B16392 BP FR (h.2 g'1)))
include kP0 H0 H4 H5 H7 H9 H69 H70 H71 B16392 BP FR in
theorem w268_10 (h:T268_10 prog K P0 l5 k7 n9 t69 t70 t71 m16392 mP):W prog d c268_3 σ st (blockW 1 (thenW prog d c268_4 (thenW prog d (.loop l268_0) (blockW 0 (thenW prog d c268_9 Q))))):=
 sq_ (q_ J (s_mv H0 (s_nilP J (f_ J (f_ J (s_loadD J BP J J (b_ J J eql_ (s_mvB J (em_ (g:=98) J (fun g'1=>gy_ J (s_mv H0 (gy_ J (s_nilP J (gy_ J (f_ J (gy_ J (f_ J (gy_ J (s_loadD J BP J J (gy_ J (s_mvI H7 (gy_ J (b_ J J eql_ (pt_ J J (e_ (w268_11 hQ hkp kP0 H0 H4 H5 H9 H69 H70 H71 J B16392 BP FR (h.1 g'1)))))))))))))))))) (fun g'1=>nF4 J J J J (nF3 J J J (pf_ J J (e_ (w268_11 hQ hkp kP0 H0 H4 H5 H9 H69 H70 H71 J B16392 BP FR (h.2 g'1)))))))))))))))
include BP FR in
theorem w268_18 (h:T268_18 prog K mP):W prog d c268_7 σ st Q:=
 q_ J (m_ (e_ (rt_ (hQ _ _ _ _ J BP FR h))))
include kP2 H0 H142 H143 H144 BP FR in
theorem w268_17 (h:T268_17 prog K P2 t142 t143 t144 mP):W prog d l268_2 σ st (thenW prog d (.loop l268_2) (blockW 5 (thenW prog d c268_7 Q))):=
 q_ J (b_ H144 H143 lss_ (e_ (sq_ (cs_ J (fun g'1=>sk_ (sq_ (bk_ (q_ J ((h.1 g'1).2.elim fun c'2 e'3=>ia_ H142 H144 (h.1 g'1).1 e'3.1 J J (lf_ J J J (m_ (e_ (W.reg0 J fun _ _=>m_ (m_ (s_slS_lo J J (by decide) e'3.2.1 (e'3.2.2.elim fun b'9 e'5=>cX_ (sec H0 (sec J sen)) e'5.1 (Nat.lt_succ_of_lt hkp) BP (fun st'6 hb'7 hf'8=>e_ (W.reg0 J fun _ _=>b_ H144 J add_ (m_ (e_ (kP2 _ _ e'5.2 _ _ _ H0 H142 H143 J hb'7 (Fr.pass FR hf'8)))))))))))))))))) (fun g'1=>ex_ (w268_18 hQ hkp BP FR (h.2 g'1)))))))
include H0 H5 BP FR in
theorem w268_16 (h:T268_16 prog K l5 mP):W prog d c268_8 σ st Q:=
 sq_ (q_ J (s_mvL H5 (ll_ J (m_ (e_ (bk_ (h (I268_2 prog d Q st0 kp vp l5 (l5.length:Int)) (fun _ _ hb _ _ _ H0 H142 H143 H144 BP FR=>W.loop (w268_17 hQ hkp (fun _ _ x=>x) H0 H142 H143 H144 BP FR hb)) _ _ _ H0 J J J BP FR)))))))
include H0 H4 H5 B16392 BP FR in
theorem w268_15 (h:T268_15 prog K l5 m16392 mP):W prog d c268_9 σ st Q:=
 q_ J (f_ H4 (l_ J B16392 J J (ll_ J (m_ (e_ (sq_ (q_ J (m_ (s_nilP H0 (f_ J (f_ J (s_loadD J BP J J (e_ (bk_ (q_ J (b_ J J eql_ (m_ (e_ (cs_ J (fun g'1=>W.reg0 J fun _ _=>s_mvL H5 (m_ (s_slL_hi rowS_len J J (h.1 g'1).1 (h.1 g'1).2.1 (s_mvL J (e_ (w268_16 hQ hkp H0 J BP FR (h.1 g'1).2.2)))))) (fun g'1=>q_ J (b_ J J eql_ (m_ (e_ (cs_ J (fun g'2=>W.reg0 J fun _ _=>s_mvL H5 (m_ (s_slL_lo rowS_len J J ((h.2 g'1).1 g'2).1 ((h.2 g'1).1 g'2).2.1 (s_mvL J (e_ (w268_16 hQ hkp H0 J BP FR ((h.2 g'1).1 g'2).2.2)))))) (fun g'2=>W.reg0 J fun _ _=>s_mvL (f:=rowS) (l:=[]) J (e_ (w268_16 hQ hkp H0 J BP FR ((h.2 g'1).2 g'2))))))))))))))))))))))))))))
include kP0 H0 H4 H5 H69 H70 H71 B16392 BP FR in
theorem w268_9 (h:T268_9 prog K P0 l5 t69 t70 t71 m16392 mP):W prog d l268_0 σ st (thenW prog d (.loop l268_0) (blockW 0 (thenW prog d c268_9 Q))):=
 q_ J (b_ H71 H70 lss_ (e_ (sq_ (cs_ J (fun g'1=>sk_ (sq_ (bk_ (sq_ (W.reg (m_ ((h.1 g'1).2.elim fun c'2 e'3=>ia_ H69 H71 (h.1 g'1).1 e'3.1 (Frm.row_eq c'2) J (lf_ J J J (s_alloc (m_ (so_ J (show lk _ (d,53251)=some (_,([.i .i64 0,.i .i64 0,.i .u64 0,.sl .full (List.map Loc.row ([]:List Loc))]:List AV)) from lk_here) J J J (e_ (q_ J (f_ J (l_ J lk_here J J (ll_ J (b_ J J add_ (m_ (e_ (sq_ (q_ J (m_ (s_nilP H0 (f_ J (f_ J (s_loadD J (Dk.other (key_LP hkp) (Dk.other (key_LP hkp) BP)) J J (b_ J J eql_ (e_ (cs_ J (fun g'4=>W.reg0 J fun _ _=>m_ (s_mvL H5 ((e'3.2.1 g'4).elim fun c'5 e'6=>ia_ J J (by decide) e'6.1 J J (lf_ J J J (s_slS_lo J J (by decide) e'6.2.1 (e'6.2.2.elim fun b'12 e'8=>cX_ (sec H0 (sec J sen)) e'8.1 (Nat.lt_succ_of_lt hkp) (Dk.other (key_LP hkp) (Dk.other (key_LP hkp) BP)) (fun st'9 hb'10 hf'11=>e_ (w268_10 hQ hkp kP0 H0 H4 H5 H71 J H69 H70 H71 ((hf'11.1 (d,16392) (Nat.lt_succ_self d) (key_LP hkp)).trans (lk_other J (lk_other J B16392))) hb'10 (Fr.pass (Fr.box (Fr.box FR)) hf'11) e'8.2)))))))) (fun g'4=>sk_ (w268_10 hQ hkp kP0 H0 H4 H5 H71 J H69 H70 H71 (lk_other J (lk_other J B16392)) (Dk.other (key_LP hkp) (Dk.other (key_LP hkp) BP)) (Fr.box (Fr.box FR)) (e'3.2.2 g'4)))))))))))))))))))))))))))))))) (fun g'1=>ex_ (w268_15 hQ hkp H0 H4 H5 B16392 BP FR (h.2 g'1)))))))
include H0 H4 H5 B16392 BP FR in
theorem w268_8 (h:T268_8 prog K l5 m16392 mP):W prog d c268_10 σ st Q:=
 sq_ (q_ J (f_ H4 (l_ J B16392 J J (ll_ J (m_ (e_ (bk_ (h (I268_0 prog d Q st0 kp vp m16392.frames (m16392.frames.length:Int)) (fun _ _ _ _ hb _ _ _ _ _ H0 H4 H5 H69 H70 H71 B16392 BP FR=>W.loop (w268_9 hQ hkp (fun _ _ _ _ x=>x) H0 H4 H5 H69 H70 H71 B16392 BP FR hb)) _ _ _ _ _ H0 H4 H5 J J J B16392 BP FR))))))))
include H0 H4 H5 B16392 BP FR in
theorem w268_7 (h:T268_7 prog K l5 m16392 mP):W prog d c268_11 σ st Q:=
 q_ J (s_mvL H5 (s_slL_lo rowS_len J J (by decide) h.1 (s_mvL J (e_ (w268_8 hQ hkp H0 H4 J B16392 BP FR h.2)))))
include H0 H4 H5 H6 B16392 BP FR in
theorem w268_6 (h:T268_6 prog K l5 e6 m16392 mP):W prog d c268_12 σ st Q:=
 sq_ (q_ J (m_ (b_ H6 J neq_ (e_ (cs_ J (fun g'1=>q_ J (m_ (m_ (e_ (rt_ (hQ _ _ _ _ H6 BP FR (h.1 g'1))))))) (fun g'1=>sk_ (w268_7 hQ hkp H0 H4 H5 B16392 BP FR (h.2 g'1))))))))
include H0 H3 H4 B16392 BP FR in
theorem w268_5 (h:T268_5 prog K g3 m16392 mP):W prog d c268_13 σ st Q:=
 q_ J (m_ (s_nilP H0 (f_ J (s_loadD J BP J J (m_ (l_ H4 B16392 J J (h.elim fun r'1 e'4=>e'4.elim fun r'2 e'3=>ca_ (sc J J (sc H3 J (sc J J sn))) e'3.1 (m_ (x_ J J (x_ J J (s_mvL J (m_ (e_ (w268_6 hQ hkp H0 H4 J J B16392 BP FR e'3.2))))))))))))))
include H0 H3 H4 B16392 BP FR in
theorem w268_4 (h:T268_4 prog K g3 m16392 mP):W prog d c268_14 σ st Q:=
 sq_ (q_ J (s_mv H0 (s_nilP J (f_ J (f_ J (s_loadD J BP J J (b_ J J eql_ (s_mvB J (em_ (g:=42) J (fun g'1=>gy_ J (s_mv H0 (gy_ J (s_nilP J (gy_ J (f_ J (gy_ J (f_ J (gy_ J (s_loadD J BP J J (gy_ J (f_ H4 (gy_ J (l_ J B16392 J J (gy_ J (ll_ J (gy_ J (b_ J J geq_ (pt_ J J (e_ (cs_ J (fun g'2=>q_ J (m_ (e_ (rt_ (hQ _ _ _ _ J BP FR ((h.1 g'1).1 g'2)))))) (fun g'2=>sk_ (w268_5 hQ hkp H0 H3 H4 B16392 BP FR ((h.1 g'1).2 g'2)))))))))))))))))))))))) (fun g'1=>nF4 J J J J (nF4 J J J J (nF J (pf_ J J (e_ (cf_ J (sk_ (w268_5 hQ hkp H0 H3 H4 B16392 BP FR (h.2 g'1))))))))))))))))))
include H0 H3 BP FR in
theorem w268_3 (h:T268_3 prog K g3 mP):W prog d c268_15 σ st Q:=
 sq_ (W.reg (m_ (s_nilP H0 (f_ J (f_ J (s_loadD J (Dk.other (key_LP hkp) BP) J J (m_ (h.2.elim fun c'1 e'2=>ia_ J H3 h.1 e'2.1 (Rou.row_eq c'1) J (lf_ J J J (s_alloc (so_ J (show lk _ (d,16392)=some (_,([.i .u8 0,.i .i64 0,.sl .full (List.map Frm.row ([]:List Frm)),.sl .full (List.map Dfr.row ([]:List Dfr)),.sl .full (List.map Pan.row ([]:List Pan))]:List AV)) from lk_here) J J J (e_ (w268_4 hQ hkp H0 H3 J lk_here (Dk.other (key_LP hkp) (Dk.other (key_LP hkp) BP)) (Fr.box (Fr.box FR)) e'2.2)))))))))))))
include H0 H3 BP FR in
theorem w268_2 (h:T268_2 prog K g3 mP):W prog d c268_16 σ st Q:=
 sq_ (q_ J (m_ (m_ (s_nilP H0 (f_ J (f_ J (s_loadD J BP J J (ll_ J (b_ H3 J geq_ (e_ (cs_ J (fun g'1=>q_ J (m_ (e_ (rt_ (hQ _ _ _ _ J BP FR (h.1 g'1)))))) (fun g'1=>sk_ (w268_3 hQ hkp H0 H3 BP FR (h.2 g'1))))))))))))))
include H0 BP FR in
theorem w268_1 (h:T268_1 prog K mP):W prog d c268_17 σ st Q:=
 q_ J (m_ (s_nilP H0 (f_ J (f_ J (s_loadD J BP J J (m_ (e_ (w268_2 hQ hkp H0 J BP FR h))))))))
include H0 BP FR in
theorem w268_0 (h:T268_0 prog K mP):W prog d (sR 0 r268_0 c268_17) σ st Q:=
 q_ J (m_ (e_ (w268_1 hQ hkp H0 BP FR h)))
end
theorem p268 {prog:Prog}(hf:prog.fn 268=some pf268){mP:Dsk}{K:Int→Dsk→Prop}(h:T268_0 prog K mP):PuXK prog 268 (Dk mP) [] (fun r (b_:Dsk)=>∃res0:Int,(r=.i .i64 res0)∧K res0 b_) (fun b_=>(Dk b_)):=
 PD hf J J (fun _=>Dk.out) fun d st kp vp hkp hB Q q=>w268_0 q hkp J hB Fr.refl h
end Go.AM

/- Parts of the proof. -/
namespace Go.AM
open Go
set_option linter.unusedVariables false
set_option linter.unusedSimpArgs false
set_option maxRecDepth 4000
attribute [local irreducible] WO fillCells fillRows
abbrev H249 (Q:AE→Sl→St→Prop)(K:Bool→Prop):Prop:=∀(σ:Sl)(st:St)(res0:Bool),σ 4=.b res0→K res0→Q .ret σ st
section
variable {prog:Prog}{d:Nat}{Q:AE→Sl→St→Prop}{K:Bool→Prop}(hQ:H249 Q K){σ:Sl}{st:St}
include hQ
end
abbrev H250 (Q:AE→Sl→St→Prop)(K:Bool→Prop):Prop:=∀(σ:Sl)(st:St)(res0:Bool),σ 2=.b res0→K res0→Q .ret σ st
section
variable {prog:Prog}{d:Nat}{Q:AE→Sl→St→Prop}{K:Bool→Prop}(hQ:H250 Q K){σ:Sl}{st:St}
include hQ
end
def r251_0:List AI:=[oC 4 (.b false)]
def r251_1:List AI:=[oQ 8 255 [],oO 9 (.call true 252 []),oM 10 0,oQ 11 254 [8,9,10],oM 7 11,oE 12 0 7,oE 13 1 7,oM 5 12,oM 6 13]
def r251_2:List AI:=[oM 14 6,oM 15 1,oT 16 .eql 14 15,oM 17 16,gT 17 (oM 18 5),gT 17 (oJ 19 18),gT 17 (oV 20 .eql 19 0),oA 21 17 20,oM 4 21]
abbrev b251:AC:=(sR 0 r251_0 (sR 1 r251_1 (sR 2 r251_2 .ret)))
def pf251:AF:={ nt:=22,res:=[.tmp 4],body:=b251 }
def T251_0 (prog:Prog)(K:Bool→Prop)(text0:BS)(want1:Int):Prop:=
  ∃r'1:Img,Pus prog 255 [] (r'1.av)∧∃r'3:Sta,(PuN prog 252 [] (fun r=>r=r'3.avo .full))∧∃r'7:LB,∃r'8,Pus prog 254 [r'1.av,r'3.av,.s text0] (.tup [.sl .ext (List.map rowS r'7),.i .i64 r'8])∧(r'8=want1→K (decide ((r'7.length:Int)=0)))∧(¬(r'8=want1)→K false)
section
variable {prog:Prog}{d:Nat}{Q:AE→Sl→St→Prop}{K:Bool→Prop}(hQ:H1 AV.b 4 Q K){σ:Sl}{st:St}
include hQ
variable {text0:BS}{want1:Int}
variable (H0:σ 0=.s text0)(H1:σ 1=.i .i64 want1)
include H0 H1 in
theorem w251_0 (h:T251_0 prog K text0 want1):W prog d (sR 0 r251_0 (sR 1 r251_1 (sR 2 r251_2 .ret))) σ st Q:=
 q_ J (m_ (e_ (q_ J (h.elim fun r'1 e'2=>ca_ sn e'2.1 (e'2.2.elim fun r'3 e'4=>s_callN sen (e'4.1) (fun st'5 hf'6=>m_ (e'4.2.elim fun r'7 e'11=>e'11.elim fun r'8 e'9=>ca_ (sc J J (sc J J (sc H0 J sn))) e'9.1 (m_ (x_ J J (x_ J J (s_mvL J (m_ (e_ (q_ J (s_mvI J (s_mvI H1 (b_ J J eql_ (s_mvB J (em_ (g:=17) J (fun g'10=>gy_ J (s_mvL J (gy_ J (ll_ J (gy_ J (b_ J J eql_ (pt_ J J (s_mvB J (e_ (rt_ (hQ _ _ _ J (e'9.2.1 g'10)))))))))))) (fun g'10=>nF3 J J J (pf_ J J (s_mvB J (e_ (rt_ (hQ _ _ _ J (e'9.2.2 g'10))))))))))))))))))))))))))
end
theorem p251 {prog:Prog}(hf:prog.fn 251=some pf251){text0:BS}{want1:Int}{K:Bool→Prop}(h:T251_0 prog K text0 want1) :∃res0:Bool,K res0∧Pus prog 251 [.s text0,.i .i64 want1] (.b res0):=
 P1 hf J (w251_0 (h1 J fun _=>J) J J h)
def r252_0:List AI:=[oO 0 (.alloc [z8,z6,z6,zl])]
def r252_1:List AI:=[oO 2 (.build [z8,z6,zs,zl,zb] [(0,1,(.c (.i .u8 2))),(1,1,(.c (.i .i64 5)))]),oO 1 (.alloc [z8,z6,zs,zl,zb]),oS 5 1 2]
def r252_2:List AI:=[oK 3 5 1,oO 4 (.build [z6,z8,z6,zs,zl,zb] [(0,1,(.c (.i .i64 0))),(1,5,(.t 3))]),oO 5 (.bslice [z6,z8,z6,zs,zl,zb] 1 [(0,(.t 4))]),oO 6 (.build [z6,z6,z7,zl] [(0,1,(.c (.i .i64 1))),(1,1,(.c (.i .i64 2))),(3,1,(.t 5))]),oO 7 (.build [z6,z6,z7,zl] [(1,1,(.c (.i .i64 4)))]),oO 8 (.bslice [z6,z6,z7,zl] 2 [(0,(.t 6)),(1,(.t 7))]),oO 9 (.build [z8,z6,zl,zl,zl] [(0,1,(.c (.i .u8 2))),(1,1,(.c (.i .i64 7))),(2,1,(.t 8))]),oO 10 (.bslice [z8,z6,zl,zl,zl] 1 [(0,(.t 9))]),oO 11 (.build [z8,z6,z6,zl] [(0,1,(.c (.i .u8 3))),(1,1,(.c (.i .i64 (-1)))),(3,1,(.t 10))]),oS 4 0 11]
abbrev b252:AC:=(sR 0 r252_0 (sR 1 r252_1 (sR 2 r252_2 .ret)))
def pf252:AF:={ nt:=12,res:=[.cell 0 4 true],body:=b252 }
abbrev H252 (d:Nat)(st0:St)(Q:AE→Sl→St→Prop)(K:Sta→Prop):Prop:=∀(σ:Sl)(st:St)(k0:Key)(v0:Nat)(res0:Sta),σ 0=.p k0 v0 0→lk st.bx k0=some (v0,[.i .u8 res0.outcome,.i .i64 res0.failing,.i .i64 res0.steps,.sl .full (List.map Rou.row res0.routines)])→Fr d (d,0) st0.bx st0.ow st.bx st.ow→K res0→Q .ret σ st
def T252_0 (prog:Prog)(K:Sta→Prop) :Prop:=
  K (Sta.mk 3 (-1) 0 [(Rou.mk 2 7 [(Frm.mk 1 2 0 [(Loc.mk 0 (Val.mk 2 5 [] ([]:List Val) false))]),(Frm.mk 0 4 0 ([]:List Loc))] ([]:List Dfr) ([]:List Pan))])
section
variable {prog:Prog}{d:Nat}{Q:AE→Sl→St→Prop}{K:Sta→Prop}{st0:St}(hQ:H252 d st0 Q K){σ:Sl}{st:St}
include hQ
variable (FR:Fr d (d,0) st0.bx st0.ow st.bx st.ow)
include FR in
theorem w252_0 (h:T252_0 prog K ):W prog d (sR 0 r252_0 (sR 1 r252_1 (sR 2 r252_2 .ret))) σ st Q:=
 sq_ (W.reg (s_alloc (e_ (sq_ (W.reg (s_build (f_cons J J (f_cons J J f_nil)) (s_alloc (so_ J (show lk _ (d,4097)=some (_,([.i .u8 0,.i .i64 0,.s [],.sl .full (List.map Val.row ([]:List Val)),.b false]:List AV)) from lk_here) J J J (e_ (q_ J (l_ J lk_here J J (s_build (f_cons J J (f_cons J J f_nil)) (s_bslM (f:=Loc.row) (l:=[(Loc.mk 0 (Val.mk 2 5 [] ([]:List Val) false))]) J J (g_cons J J J g_nil) (by simp only [List.map_cons,List.map_nil,Loc.row_eq];rfl) (s_build (f_cons J J (f_cons J J (f_cons J J f_nil))) (s_build (f_cons J J f_nil) (s_bslM (f:=Frm.row) (l:=[(Frm.mk 1 2 0 [(Loc.mk 0 (Val.mk 2 5 [] ([]:List Val) false))]),(Frm.mk 0 4 0 ([]:List Loc))]) J J (g_cons J J J (g_cons J J J g_nil)) (by simp only [List.map_cons,List.map_nil,Frm.row_eq];rfl) (s_build (f_cons J J (f_cons J J (f_cons J J f_nil))) (s_bslM (f:=Rou.row) (l:=[(Rou.mk 2 7 [(Frm.mk 1 2 0 [(Loc.mk 0 (Val.mk 2 5 [] ([]:List Val) false))]),(Frm.mk 0 4 0 ([]:List Loc))] ([]:List Dfr) ([]:List Pan))]) J J (g_cons J J J g_nil) (by simp only [List.map_cons,List.map_nil,Rou.row_eq];rfl) (s_build (f_cons J J (f_cons J J (f_cons J J f_nil))) (so_ J (lk_other J (lk_other J (show lk _ (d,0)=some (_,([.i .u8 0,.i .i64 0,.i .i64 0,.sl .full (List.map Rou.row ([]:List Rou))]:List AV)) from lk_here))) J J J (e_ (rt_ (hQ _ _ _ _ _ J lk_here (Fr.box (Fr.box (Fr.box (Fr.box FR)))) h)))))))))))))))))))))))
end
theorem p252 {prog:Prog}(hf:prog.fn 252=some pf252)  {K:Sta→Prop}(h:T252_0 prog K ):PuN prog 252 [] (fun r=>∃res0:Sta,(r=res0.avo .full)∧K res0):=
  PuN.of hf rfl fun d st=>w252_0 (st0:=st) (Q:=fun e σ st'=>(e=.normal∨e=.ret)∧∃r,ares σ st' pf252.res=some r∧_∧Fr d (d,0) st.bx st.ow st'.bx st'.ow) (fun σ st' k0 v0  res0 H0 HB0 hf hk=>⟨.inr rfl,res0.avo .full,by simp only [pf252,ares,aresL,ares_cellA (n:=4) H0 HB0 rfl,ares_tmp,Option.map_some,ares_cellA (n:=4) H0 HB0 rfl],⟨res0,rfl,hk⟩,hf⟩) (σ:=sl0 []) Fr.refl h
def r253_0:List AI:=[oY 3 4 0,oC 6 (.b false)]
def r253_1:List AI:=[oQ 10 255 [],oK 11 4 3,oM 12 1,oQ 13 254 [10,11,12],oM 9 13,oE 14 0 9,oE 15 1 9,oM 7 14,oM 8 15]
def r253_2:List AI:=[oM 16 8,oV 17 .eql 16 0,oM 18 17,gT 18 (oM 19 7),gT 18 (oM 20 2),gT 18 (oQ 21 29 [19,20]),oA 22 18 21,oM 6 22]
abbrev b253:AC:=(sR 0 r253_0 (sR 1 r253_1 (sR 2 r253_2 .ret)))
def pf253:AF:={ nt:=23,res:=[.tmp 6],body:=b253 }
def T253_0 (prog:Prog)(K:Bool→Prop)(s0:Sta)(text1:BS)(want2:LB):Prop:=
  ∃r'1:Img,Pus prog 255 [] (r'1.av)∧∃r'3 r'4,Pus prog 254 [r'1.av,s0.av,.s text1] (.tup [.sl .ext (List.map rowS r'3),.i .i64 r'4])∧(r'4=0→∃r'7,Pus prog 29 [.sl .ext (List.map rowS r'3),.sl .ext (List.map rowS want2)] (.b r'7)∧K r'7)∧(¬(r'4=0)→K false)
section
variable {prog:Prog}{d:Nat}{Q:AE→Sl→St→Prop}{K:Bool→Prop}(hQ:H1 AV.b 6 Q K){σ:Sl}{st:St}
include hQ
variable {s0:Sta}{text1:BS}{want2:LB}{o_want2:Own}
variable (H0:σ 0=s0.av)(H1:σ 1=.s text1)(H2:σ 2=.sl o_want2 (List.map rowS want2))
include H0 H1 H2 in
theorem w253_0 (h:T253_0 prog K s0 text1 want2):W prog d (sR 0 r253_0 (sR 1 r253_1 (sR 2 r253_2 .ret))) σ st Q:=
 q_ J (s_box H0 J (m_ (e_ (q_ J (h.elim fun r'1 e'2=>ca_ sn e'2.1 (l_ J lk_here J J (m_ (e'2.2.elim fun r'3 e'9=>e'9.elim fun r'4 e'5=>ca_ (sc J J (sc J J (sc H1 J sn))) e'5.1 (m_ (x_ J J (x_ J J (s_mvL J (m_ (e_ (q_ J (s_mvI J (b_ J J eql_ (s_mvB J (em_ (g:=18) J (fun g'6=>gy_ J (s_mvL J (gy_ J (s_mvL H2 (gy_ J ((e'5.2.1 g'6).elim fun r'7 e'8=>ca_ (sc J J (sc J J sn)) e'8.1 (pt_ J J (s_mvB J (e_ (rt_ (hQ _ _ _ J e'8.2))))))))))) (fun g'6=>nF3 J J J (pf_ J J (s_mvB J (e_ (rt_ (hQ _ _ _ J (e'5.2.2 g'6))))))))))))))))))))))))))
end
theorem p253 {prog:Prog}(hf:prog.fn 253=some pf253){s0:Sta}{text1:BS}{want2:LB}{K:Bool→Prop}(h:T253_0 prog K s0 text1 want2) :∃res0:Bool,K res0∧Pus prog 253 [s0.av,.s text1,.sl .ext (List.map rowS want2)] (.b res0):=
 P1 hf J (w253_0 (h1 J fun _=>J) J J J h)
def r254_0:List AI:=[oY 3 3 0,oY 4 4 1,oC 6 (.sl .full []),oI 7 0]
def r254_1:List AI:=[oM 11 2,oQ 12 245 [11],oM 10 12,oE 13 0 10,oE 14 1 10,oO 8 (.alloc [z8,z6,z6,z6,zs]),oS 5 8 13,oM 9 14]
def r254_2:List AI:=[oM 15 9,oV 16 .neq 15 0]
def r254_3:List AI:=[oM 17 9,oC 6 (.sl .full []),oM 7 17]
def r254_4:List AI:=[oK 18 3 3,oK 19 4 4,oK 20 5 8,oQ 21 264 [18,19,20],oE 22 0 21,oE 23 1 21,oM 6 22,oM 7 23]
abbrev b254:AC:=(sR 0 r254_0 (sR 1 r254_1 (.seq (sR 2 r254_2 (.cond (.t 16) (sR 3 r254_3 .ret) .skip)) (sR 4 r254_4 .ret))))
def pf254:AF:={ nt:=24,res:=[.tmp 6,.tmp 7],body:=b254 }
def T254_0 (prog:Prog)(K:LB→Int→Prop)(m0:Img)(s1:Sta)(text2:BS):Prop:=
  ∃r'1:Qry,∃r'2,Pus prog 245 [.s text2] (.tup [r'1.av,.i .i64 r'2])∧(r'2≠0→K ([]:LB) r'2)∧(¬(r'2≠0)→∃r'5 r'6,Pus prog 264 [m0.av,s1.av,r'1.av] (.tup [.sl .ext (List.map rowS r'5),.i .i64 r'6])∧K r'5 r'6)
section
variable {prog:Prog}{d:Nat}{Q:AE→Sl→St→Prop}{K:LB→Int→Prop}(hQ:HM rowS (AV.i .i64) 6 7 Q K){σ:Sl}{st:St}
include hQ
variable {m0:Img}{s1:Sta}{text2:BS}
variable (H0:σ 0=m0.av)(H1:σ 1=s1.av)(H2:σ 2=.s text2)
include H0 H1 H2 in
theorem w254_0 (h:T254_0 prog K m0 s1 text2):W prog d (sR 0 r254_0 (sR 1 r254_1 (.seq (sR 2 r254_2 (.cond (.t 16) (sR 3 r254_3 .ret) .skip)) (sR 4 r254_4 .ret)))) σ st Q:=
 q_ J (s_box H0 J (s_box H1 J (s_mvL (f:=rowS) (l:=[]) J (m_ (e_ (sq_ (W.reg (m_ (h.elim fun r'1 e'9=>e'9.elim fun r'2 e'3=>ca_ (sc H2 J sn) e'3.1 (m_ (x_ J J (x_ J J (s_alloc (so_ J (show lk _ (d,4101)=some (_,([.i .u8 0,.i .i64 0,.i .i64 0,.i .i64 0,.s []]:List AV)) from lk_here) J J J (m_ (e_ (sq_ (q_ J (m_ (b_ J J neq_ (e_ (cs_ J (fun g'4=>q_ J (m_ (s_mvL (f:=rowS) (l:=[]) J (m_ (e_ (rt_ (hQ _ _ _ _ _ J J (e'3.2.1 g'4)))))))) (fun g'4=>sk_ (q_ J (l_ J (lk_other J (lk_other J (lk_other J lk_here))) J J (l_ J (lk_other J (lk_other J lk_here)) J J (l_ J lk_here J J ((e'3.2.2 g'4).elim fun r'5 e'8=>e'8.elim fun r'6 e'7=>ca_ (sc J J (sc J J (sc J J sn))) e'7.1 (x_ J J (x_ J J (s_mvL J (m_ (e_ (rt_ (hQ _ _ _ _ _ J J e'7.2)))))))))))))))))))))))))))))))))))
end
theorem p254 {prog:Prog}(hf:prog.fn 254=some pf254){m0:Img}{s1:Sta}{text2:BS}{K:LB→Int→Prop}(h:T254_0 prog K m0 s1 text2) :∃res0:LB,∃res1:Int,K res0 res1∧Pus prog 254 [m0.av,s1.av,.s text2] (.tup [.sl .ext (List.map rowS res0),.i .i64 res1]):=
 P2 hf J (w254_0 (hM J fun _ _ _=>J) J J J h)
def r255_0:List AI:=[oO 0 (.alloc [zl,zl,zl])]
def r255_1:List AI:=[oO 2 (.mks [z8,z6,z6,z6] 32 (.c (.i .i64 6)) (.c (.i .i64 6))),oM 1 2]
def r255_2:List AI:=[oM 3 1,oO 4 (.build [zs,z6,z6,zl,zl,zl,zl] [(0,1,(.c (.s [109,97,105,110]))),(4,1,(.t 3))]),oM 5 1,oO 6 (.build [zs,z6] [(0,1,(.c (.s [120])))]),oO 7 (.build [zs,z6] [(0,1,(.c (.s [121])))]),oO 8 (.bslice [zs,z6] 2 [(0,(.t 6)),(1,(.t 7))]),oO 9 (.build [zs,z6,z6,zl,zl,zl,zl] [(0,1,(.c (.s [102]))),(4,1,(.t 5)),(3,1,(.t 8))]),oO 10 (.bslice [zs,z6,z6,zl,zl,zl,zl] 2 [(0,(.t 4)),(1,(.t 9))]),oO 11 (.build [zl,zl,zl] [(2,1,(.t 10))]),oS 3 0 11]
abbrev b255:AC:=(sR 0 r255_0 (sR 1 r255_1 (sR 2 r255_2 .ret)))
def pf255:AF:={ nt:=12,res:=[.cell 0 3 true],body:=b255 }
abbrev H255 (Q:AE→Sl→St→Prop)(K:Img→Prop):Prop:=∀(σ:Sl)(st:St)(k0:Key)(v0:Nat) (o0_0 o0_1 o0_2:Own)(res0:Img),σ 0=.p k0 v0 0→lk st.bx k0=some (v0,[.sl o0_0 (List.map Typ.row res0.types),.sl o0_1 (List.map rowS res0.texts),.sl o0_2 (List.map Fun.row res0.funcs)])→K res0→Q .ret σ st
def T255_0 (prog:Prog)(K:Img→Prop) :Prop:=
  K (Img.mk ([]:List Typ) ([]:LB) [(Fun.mk ([109,97,105,110]:BS) 0 0 ([]:List Fld) (rep 6 Ins.zero) ([]:List Rnn) ([]:List Rnn)),(Fun.mk ([102]:BS) 0 0 [(Fld.mk ([120]:BS) 0),(Fld.mk ([121]:BS) 0)] (rep 6 Ins.zero) ([]:List Rnn) ([]:List Rnn))])
section
variable {prog:Prog}{d:Nat}{Q:AE→Sl→St→Prop}{K:Img→Prop}(hQ:H255 Q K){σ:Sl}{st:St}
include hQ
theorem w255_0 (h:T255_0 prog K ):W prog d (sR 0 r255_0 (sR 1 r255_1 (sR 2 r255_2 .ret))) σ st Q:=
 sq_ (W.reg (s_alloc (e_ (q_ J (s_mks (n:=6) (m:=6) (f:=Ins.row) (a:=Ins.zero) J J J J J (by decide) J ⟨by decide,by decide⟩ (s_mvL J (e_ (q_ J (s_mvL J (s_build (f_cons J J (f_cons J J f_nil)) (s_mvL J (s_build (f_cons J J f_nil) (s_build (f_cons J J f_nil) (s_bslM (f:=Fld.row) (l:=[(Fld.mk ([120]:BS) 0),(Fld.mk ([121]:BS) 0)]) J J (g_cons J J J (g_cons J J J g_nil)) (by simp only [List.map_cons,List.map_nil,Fld.row_eq];rfl) (s_build (f_cons J J (f_cons J J (f_cons J J f_nil))) (s_bslM (f:=Fun.row) (l:=[(Fun.mk ([109,97,105,110]:BS) 0 0 ([]:List Fld) (rep 6 Ins.zero) ([]:List Rnn) ([]:List Rnn)),(Fun.mk ([102]:BS) 0 0 [(Fld.mk ([120]:BS) 0),(Fld.mk ([121]:BS) 0)] (rep 6 Ins.zero) ([]:List Rnn) ([]:List Rnn))]) J J (g_cons J J J (g_cons J J J g_nil)) (by simp only [List.map_cons,List.map_nil,Fun.row_eq];rfl) (s_build (f_cons J J f_nil) (so_ J (show lk _ (d,0)=some (_,([.sl .full (List.map Typ.row ([]:List Typ)),.sl .full (List.map rowS ([]:LB)),.sl .full (List.map Fun.row ([]:List Fun))]:List AV)) from lk_here) J J J (e_ (rt_ (hQ _ _ _ _ _ _ _ _ J lk_here h)))))))))))))))))))))
end
theorem p255 {prog:Prog}(hf:prog.fn 255=some pf255)  {K:Img→Prop}(h:T255_0 prog K ) :∃res0:Img,K res0∧Pus prog 255 [] (res0.av):=by
  obtain ⟨v,hv,res0,hk,rfl⟩:=Pus.of (K:=fun v=>∃res0:Img,K res0∧v=res0.av) hf rfl (w255_0 (σ:=sl0 []) (fun σ st k0 v0 o0_0 o0_1 o0_2 res0 H0 HB0 hk=>⟨.ag [.sl o0_0 (List.map Typ.row res0.types),.sl o0_1 (List.map rowS res0.texts),.sl o0_2 (List.map Fun.row res0.funcs)],by simp only [pf255,ares,aresL,ares_cellA (n:=3) H0 HB0 rfl,ares_tmp,Option.map_some],_,rfl,res0,hk,rfl⟩)  h)
  exact ⟨res0,hk,hv⟩
def r256_0:List AI:=[oC 0 (.b false)]
def r256_1:List AI:=[oO 2 (.call true 252 []),oO 1 (.alloc [z8,z6,z6,zl]),oS 4 1 2]
def r256_2:List AI:=[oK 3 4 1,oO 4 (.bslice [zs] 1 [(0,(.c (.s [103,111,114,111,117,116,105,110,101,32,48,58,32,98,108,111,99,107,101,100,32,55])))]),oO 5 (.call false 253 [(.t 3),(.c (.s [103,111,114,111,117,116,105,110,101,115])),(.t 4)]),oM 6 5,gT 6 (oK 7 4 1),gT 6 (oO 8 (.bslice [zs] 1 [(0,(.c (.s [103,111,114,111,117,116,105,110,101,32,48])))])),gT 6 (oO 9 (.call false 253 [(.t 7),(.c (.s [119,97,105,116,115,32,55])),(.t 8)])),oA 10 6 9,oM 11 10,gT 11 (oK 12 4 1),gT 11 (oO 13 (.bslice [zs] 1 [(0,(.c (.s [48,32,49,32,97,116,32,52])))])),gT 11 (oO 14 (.call false 253 [(.t 12),(.c (.s [105,110,32,34,109,97,105,110,34])),(.t 13)])),oA 15 11 14,oM 16 15,gT 16 (oK 17 4 1),gT 16 (oO 18 (.bslice [zs] 1 [(0,(.c (.s [48,32,48,32,48,32,61,32,53])))])),gT 16 (oO 19 (.call false 253 [(.t 17),(.c (.s [115,108,111,116,32,34,120,34])),(.t 18)])),oA 20 16 19,oM 21 20,gT 21 (oK 22 4 1),gT 21 (oO 23 (.bslice [zs] 2 [(0,(.c (.s [35,48,32,49,32,34,102,34,32,97,116,32,50,32,99,97,108,108]))),(1,(.c (.s [35,49,32,48,32,34,109,97,105,110,34,32,97,116,32,52,32,99,97,108,108])))])),gT 21 (oO 24 (.call false 253 [(.t 22),(.c (.s [102,114,97,109,101,115,32,48])),(.t 23)])),oA 25 21 24,oM 26 25,gT 26 (oK 27 4 1),gT 26 (oO 28 (.call false 253 [(.t 27),(.c (.s [108,111,99,97,108,115,32,48,32,49])),(.c (.sl .full []))])),oA 29 26 28,oM 30 29,gT 30 (oO 31 (.call false 251 [(.c (.s [102,114,97,109,101,115,32,49])),(.c (.i .i64 6))])),oA 32 30 31,oM 33 32,gT 33 (oO 34 (.call false 251 [(.c (.s [102,114,97,109,101,115,32,48,49])),(.c (.i .i64 12))])),oA 35 33 34,oM 0 35]
abbrev b256:AC:=(sR 0 r256_0 (sR 1 r256_1 (sR 2 r256_2 .ret)))
def pf256:AF:={ nt:=36,res:=[.tmp 0],body:=b256 }
def T256_0 (prog:Prog)(K:Bool→Prop) :Prop:=
  ∃r'1:Sta,(PuN prog 252 [] (fun r=>r=r'1.avo .full))∧∃r'5,Pus prog 253 [r'1.av,.s ([103,111,114,111,117,116,105,110,101,115]:BS),.sl .ext (List.map rowS [([103,111,114,111,117,116,105,110,101,32,48,58,32,98,108,111,99,107,101,100,32,55]:BS)])] (.b r'5)∧(r'5=true→∃r'8,Pus prog 253 [r'1.av,.s ([119,97,105,116,115,32,55]:BS),.sl .ext (List.map rowS [([103,111,114,111,117,116,105,110,101,32,48]:BS)])] (.b r'8)∧(r'8=true→∃r'11,Pus prog 253 [r'1.av,.s ([105,110,32,34,109,97,105,110,34]:BS),.sl .ext (List.map rowS [([48,32,49,32,97,116,32,52]:BS)])] (.b r'11)∧(r'11=true→∃r'14,Pus prog 253 [r'1.av,.s ([115,108,111,116,32,34,120,34]:BS),.sl .ext (List.map rowS [([48,32,48,32,48,32,61,32,53]:BS)])] (.b r'14)∧(r'14=true→∃r'17,Pus prog 253 [r'1.av,.s ([102,114,97,109,101,115,32,48]:BS),.sl .ext (List.map rowS [([35,48,32,49,32,34,102,34,32,97,116,32,50,32,99,97,108,108]:BS),([35,49,32,48,32,34,109,97,105,110,34,32,97,116,32,52,32,99,97,108,108]:BS)])] (.b r'17)∧(r'17=true→∃r'20,Pus prog 253 [r'1.av,.s ([108,111,99,97,108,115,32,48,32,49]:BS),.sl .ext (List.map rowS ([]:LB))] (.b r'20)∧(r'20=true→∃r'23,Pus prog 251 [.s ([102,114,97,109,101,115,32,49]:BS),.i .i64 6] (.b r'23)∧(r'23=true→∃r'26,Pus prog 251 [.s ([102,114,97,109,101,115,32,48,49]:BS),.i .i64 12] (.b r'26)∧K r'26)∧(r'23=false→K false))∧(r'20=false→K false))∧(r'17=false→K false))∧(r'14=false→K false))∧(r'11=false→K false))∧(r'8=false→K false))∧(r'5=false→K false)
section
variable {prog:Prog}{d:Nat}{Q:AE→Sl→St→Prop}{K:Bool→Prop}(hQ:H1 AV.b 0 Q K){σ:Sl}{st:St}
include hQ
theorem w256_0 (h:T256_0 prog K ):W prog d (sR 0 r256_0 (sR 1 r256_1 (sR 2 r256_2 .ret))) σ st Q:=
 q_ J (m_ (e_ (sq_ (W.reg (h.elim fun r'1 e'2=>s_callN sen (e'2.1) (fun st'3 hf'4=>s_alloc (so_ J ((hf'4.1 (d,4097) (Nat.lt_succ_self d) key_dn).trans (show lk _ (d,4097)=some (_,([.i .u8 0,.i .i64 0,.i .i64 0,.sl .full (List.map Rou.row ([]:List Rou))]:List AV)) from lk_here)) J J J (e_ (q_ J (l_ J lk_here J J (s_bslM (f:=rowS) (l:=[([103,111,114,111,117,116,105,110,101,32,48,58,32,98,108,111,99,107,101,100,32,55]:BS)]) J J (g_cons J J J g_nil) J (e'2.2.elim fun r'5 e'6=>ca_ (sc J J (sc J J (sc J J sn))) e'6.1 (s_mvB J (eb_ (g:=6) J (fun g'7=>gy_ J (l_ J lk_here J J (gy_ J (s_bslM (f:=rowS) (l:=[([103,111,114,111,117,116,105,110,101,32,48]:BS)]) J J (g_cons J J J g_nil) J (gy_ J ((e'6.2.1 g'7).elim fun r'8 e'9=>ca_ (sc J J (sc J J (sc J J sn))) e'9.1 (pt_ J J (s_mvB J (eb_ (g:=11) J (fun g'10=>gy_ J (l_ J lk_here J J (gy_ J (s_bslM (f:=rowS) (l:=[([48,32,49,32,97,116,32,52]:BS)]) J J (g_cons J J J g_nil) J (gy_ J ((e'9.2.1 g'10).elim fun r'11 e'12=>ca_ (sc J J (sc J J (sc J J sn))) e'12.1 (pt_ J J (s_mvB J (eb_ (g:=16) J (fun g'13=>gy_ J (l_ J lk_here J J (gy_ J (s_bslM (f:=rowS) (l:=[([48,32,48,32,48,32,61,32,53]:BS)]) J J (g_cons J J J g_nil) J (gy_ J ((e'12.2.1 g'13).elim fun r'14 e'15=>ca_ (sc J J (sc J J (sc J J sn))) e'15.1 (pt_ J J (s_mvB J (eb_ (g:=21) J (fun g'16=>gy_ J (l_ J lk_here J J (gy_ J (s_bslM (f:=rowS) (l:=[([35,48,32,49,32,34,102,34,32,97,116,32,50,32,99,97,108,108]:BS),([35,49,32,48,32,34,109,97,105,110,34,32,97,116,32,52,32,99,97,108,108]:BS)]) J J (g_cons J J J (g_cons J J J g_nil)) J (gy_ J ((e'15.2.1 g'16).elim fun r'17 e'18=>ca_ (sc J J (sc J J (sc J J sn))) e'18.1 (pt_ J J (s_mvB J (eb_ (g:=26) J (fun g'19=>gy_ J (l_ J lk_here J J (gy_ J ((e'18.2.1 g'19).elim fun r'20 e'21=>ca_ (sc J J (sc J J (sc (show _=AV.sl .full (List.map rowS []) from J) J sn))) e'21.1 (pt_ J J (s_mvB J (eb_ (g:=30) J (fun g'22=>gy_ J ((e'21.2.1 g'22).elim fun r'23 e'24=>ca_ (sc J J (sc J J sn)) e'24.1 (pt_ J J (s_mvB J (eb_ (g:=33) J (fun g'25=>gy_ J ((e'24.2.1 g'25).elim fun r'26 e'27=>ca_ (sc J J (sc J J sn)) e'27.1 (pt_ J J (s_mvB J (e_ (rt_ (hQ _ _ _ J e'27.2))))))) (fun g'25=>nF J (pf_ J J (s_mvB J (e_ (rt_ (hQ _ _ _ J (e'24.2.2 g'25)))))))))))) (fun g'22=>nF J (pf_ J J (s_mvB J (nF J (pf_ J J (s_mvB J (e_ (rt_ (hQ _ _ _ J (e'21.2.2 g'22))))))))))))))))) (fun g'19=>nF2 J J (pf_ J J (s_mvB J (nF J (pf_ J J (s_mvB J (nF J (pf_ J J (s_mvB J (e_ (rt_ (hQ _ _ _ J (e'18.2.2 g'19)))))))))))))))))))))) (fun g'16=>nF3 J J J (pf_ J J (s_mvB J (nF2 J J (pf_ J J (s_mvB J (nF J (pf_ J J (s_mvB J (nF J (pf_ J J (s_mvB J (e_ (rt_ (hQ _ _ _ J (e'15.2.2 g'16))))))))))))))))))))))))) (fun g'13=>nF3 J J J (pf_ J J (s_mvB J (nF3 J J J (pf_ J J (s_mvB J (nF2 J J (pf_ J J (s_mvB J (nF J (pf_ J J (s_mvB J (nF J (pf_ J J (s_mvB J (e_ (rt_ (hQ _ _ _ J (e'12.2.2 g'13)))))))))))))))))))))))))))) (fun g'10=>nF3 J J J (pf_ J J (s_mvB J (nF3 J J J (pf_ J J (s_mvB J (nF3 J J J (pf_ J J (s_mvB J (nF2 J J (pf_ J J (s_mvB J (nF J (pf_ J J (s_mvB J (nF J (pf_ J J (s_mvB J (e_ (rt_ (hQ _ _ _ J (e'9.2.2 g'10))))))))))))))))))))))))))))))) (fun g'7=>nF3 J J J (pf_ J J (s_mvB J (nF3 J J J (pf_ J J (s_mvB J (nF3 J J J (pf_ J J (s_mvB J (nF3 J J J (pf_ J J (s_mvB J (nF2 J J (pf_ J J (s_mvB J (nF J (pf_ J J (s_mvB J (nF J (pf_ J J (s_mvB J (e_ (rt_ (hQ _ _ _ J (e'6.2.2 g'7)))))))))))))))))))))))))))))))))))))))
end
theorem p256 {prog:Prog}(hf:prog.fn 256=some pf256)  {K:Bool→Prop}(h:T256_0 prog K ) :∃res0:Bool,K res0∧Pus prog 256 [] (.b res0):=
 P1 hf J (w256_0 (h1 J fun _=>J)  h)
abbrev H242 (Q:AE→Sl→St→Prop)(K:Bool→Prop):Prop:=∀(σ:Sl)(st:St)(res0:Bool),σ 4=.b res0→K res0→Q .ret σ st
section
variable {prog:Prog}{d:Nat}{Q:AE→Sl→St→Prop}{K:Bool→Prop}(hQ:H242 Q K){σ:Sl}{st:St}
include hQ
end
end Go.AM

/- Parts of the proof. -/
namespace Go.AM
open Go
set_option linter.unusedVariables false
set_option linter.unusedSimpArgs false
set_option maxRecDepth 4000
attribute [local irreducible] WO fillCells fillRows
def r264_0:List AI:=[oY 3 3 0,oY 4 4 1,oY 5 5 2,oC 6 (.sl .full []),oI 7 0]
def r264_1:List AI:=[oK 13 5 5,oQ 14 247 [13],oM 8 14]
def r264_2:List AI:=[oM 15 8,oV 16 .neq 15 0]
def r264_3:List AI:=[oM 17 8,oC 6 (.sl .full []),oM 7 17]
def r264_4:List AI:=[oK 18 3 3,oK 19 4 4,oQ 20 213 [18,19],oM 9 20]
def r264_5:List AI:=[oM 21 9,oV 22 .neq 21 0]
def r264_6:List AI:=[oM 23 9,oC 6 (.sl .full []),oM 7 23]
def r264_7:List AI:=[oK 24 3 3,oK 25 4 4,oK 26 5 5,oO 27 (.build [zl,zl,zl,z8,z6,z6,zl,z8,z6,z6,z6,zs,zl] [(0,3,(.t 24)),(3,4,(.t 25)),(7,5,(.t 26))]),oY 28 13 27,oO 10 (.alloc [.np]),oS 1 10 28]
def r264_8:List AI:=[oL 29 10,oO 30 (.mkbf 268 [(.t 29)]),oM 11 30]
def r264_9:List AI:=[oF 31 0 5,oL 32 31]
def r264_10:List AI:=[oW 34 .eql 32 1,oM 33 34]
def r264_11:List AI:=[oL 35 10,oO 36 (.mkbf 269 [(.t 35)]),oM 11 36]
def r264_12:List AI:=[oW 38 .eql 32 6,oM 37 38]
def r264_13:List AI:=[oL 39 10,oO 40 (.mkbf 270 [(.t 39)]),oM 11 40]
def r264_14:List AI:=[oW 42 .eql 32 7,oM 41 42]
def r264_15:List AI:=[oO 43 (.mkfn 271 [(.t 10)]),oM 11 43]
def r264_16:List AI:=[oW 45 .eql 32 8,oM 44 45]
def r264_17:List AI:=[oO 46 (.mkfn 274 [(.t 10)]),oM 11 46]
def r264_18:List AI:=[oM 47 11,oO 48 (.callv (.t 47) []),oM 12 48]
def r264_19:List AI:=[oM 49 12,oV 50 .neq 49 0]
def r264_20:List AI:=[oM 51 12,oC 6 (.sl .full []),oM 7 51]
def r264_21:List AI:=[oL 52 10,oN 53 52,oF 54 12 53,oL 55 54,oM 6 55,oI 7 0]
abbrev c264_0:AC:=(.seq (sR 18 r264_18 (sR 19 r264_19 (.cond (.t 50) (sR 20 r264_20 .ret) .skip))) (sR 500021 r264_21 .ret))
abbrev c264_1:AC:=(.seq (sR 1 r264_1 (sR 2 r264_2 (.cond (.t 16) (sR 3 r264_3 .ret) .skip))) (.seq (sR 4 r264_4 (sR 5 r264_5 (.cond (.t 22) (sR 6 r264_6 .ret) .skip))) (sR 7 r264_7 (sR 8 r264_8 (.seq (sR 9 r264_9 (.block 0 (sR 10 r264_10 (.cond (.t 33) (.reg 11 r264_11) (sR 12 r264_12 (.cond (.t 37) (.reg 13 r264_13) (sR 14 r264_14 (.cond (.t 41) (.reg 15 r264_15) (sR 16 r264_16 (.cond (.t 44) (.reg 17 r264_17) .skip)))))))))) c264_0)))))
abbrev b264:AC:=(sR 0 r264_0 c264_1)
def pf264:AF:={ nt:=56,res:=[.tmp 6,.tmp 7],body:=b264 }
def T264_1 (prog:Prog)(K:LB→Int→Prop)(m0:Img)(m1:Sta)(m2:Qry):Prop:=
  ∃r'1,Pus prog 247 [m2.av] (.i .i64 r'1)∧(r'1≠0→K ([]:LB) r'1)∧(¬(r'1≠0)→∃r'4,Pus prog 213 [m0.av,m1.av] (.i .i64 r'4)∧(r'4≠0→K ([]:LB) r'4)∧(¬(r'4≠0)→(m2.kind=1→∃r'8,∃b'14:Dsk,PuX prog 269 (Dk (Dsk.mk m0 m1 m2 ([]:LB))) [] (fun r=>r=.i .i64 r'8) ((Dk b'14))∧(r'8≠0→K ([]:LB) r'8)∧(¬(r'8≠0)→K b'14.out 0))∧(¬(m2.kind=1)→(m2.kind=6→∃r'19,∃b'25:Dsk,PuX prog 270 (Dk (Dsk.mk m0 m1 m2 ([]:LB))) [] (fun r=>r=.i .i64 r'19) ((Dk b'25))∧(r'19≠0→K ([]:LB) r'19)∧(¬(r'19≠0)→K b'25.out 0))∧(¬(m2.kind=6)→(m2.kind=7→∃r'30,∃b'36:Dsk,PuV prog 271 (Dk (Dsk.mk m0 m1 m2 ([]:LB))) (fun r=>r=.i .i64 r'30) ((Dk b'36))∧(r'30≠0→K ([]:LB) r'30)∧(¬(r'30≠0)→K b'36.out 0))∧(¬(m2.kind=7)→(m2.kind=8→∃r'41,∃b'47:Dsk,PuV prog 274 (Dk (Dsk.mk m0 m1 m2 ([]:LB))) (fun r=>r=.i .i64 r'41) ((Dk b'47))∧(r'41≠0→K ([]:LB) r'41)∧(¬(r'41≠0)→K b'47.out 0))∧(¬(m2.kind=8)→∃r'51,∃b'57:Dsk,PuX prog 268 (Dk (Dsk.mk m0 m1 m2 ([]:LB))) [] (fun r=>r=.i .i64 r'51) ((Dk b'57))∧(r'51≠0→K ([]:LB) r'51)∧(¬(r'51≠0)→K b'57.out 0)))))))
def T264_0 (prog:Prog)(K:LB→Int→Prop)(m0:Img)(s1:Sta)(q2:Qry):Prop:=
  T264_1 prog K m0 s1 q2
section
variable {prog:Prog}{d:Nat}{Q:AE→Sl→St→Prop}{K:LB→Int→Prop}(hQ:HM rowS (AV.i .i64) 6 7 Q K){σ:Sl}{st:St}
include hQ
variable {m0:Img}{m1:Sta}{m2:Qry}{v0 v1 v2:Nat}{s1:Sta}{q2:Qry}
variable (H3:σ 3=.p (d,0) v0 0)(H0:σ 0=m0.av)(H4:σ 4=.p (d,1) v1 0)(H1:σ 1=s1.av)(H5:σ 5=.p (d,2) v2 0)(H2:σ 2=q2.av)(B0:lk st.bx (d,0)=some (v0,[.sl .ext (List.map Typ.row m0.types),.sl .ext (List.map rowS m0.texts),.sl .ext (List.map Fun.row m0.funcs)]))(B1:lk st.bx (d,1)=some (v1,[.i .u8 m1.outcome,.i .i64 m1.failing,.i .i64 m1.steps,.sl .ext (List.map Rou.row m1.routines)]))(B2:lk st.bx (d,2)=some (v2,[.i .u8 m2.kind,.i .i64 m2.g,.i .i64 m2.k,.i .i64 m2.key,.s m2.name]))
include H3 H4 H5 B0 B1 B2 in
theorem w264_1 (h:T264_1 prog K m0 m1 m2):W prog d c264_1 σ st Q:=
 sq_ (q_ J (l_ H5 B2 J J (h.elim fun r'1 e'2=>ca_ (sc J J sn) e'2.1 (m_ (e_ (q_ J (m_ (b_ J J neq_ (e_ (cs_ J (fun g'3=>q_ J (m_ (s_mvL (f:=rowS) (l:=[]) J (m_ (e_ (rt_ (hQ _ _ _ _ _ J J (e'2.2.1 g'3)))))))) (fun g'3=>sk_ (sq_ (q_ J (l_ H3 B0 J J (l_ H4 B1 J J ((e'2.2.2 g'3).elim fun r'4 e'5=>ca_ (sc J J (sc J J sn)) e'5.1 (m_ (e_ (q_ J (m_ (b_ J J neq_ (e_ (cs_ J (fun g'6=>q_ J (m_ (s_mvL (f:=rowS) (l:=[]) J (m_ (e_ (rt_ (hQ _ _ _ _ _ J J (e'5.2.1 g'6)))))))) (fun g'6=>sk_ (sq_ (W.reg (l_ H3 (lk_other J B0) J J (l_ H4 (lk_other J B1) J J (l_ H5 (lk_other J B2) J J (s_build (f_cons J J (f_cons J J (f_cons J J f_nil))) (s_box J J (s_alloc (so_ J (lk_other J (show lk _ (d,28677)=some (_,([.np]:List AV)) from lk_here)) J J J (e_ (q_ J (l_ J lk_here J J (s_mkbf (sec J sen) (m_ (e_ (sq_ (q_ J (f_ H5 (l_ J (lk_other J (lk_other J (lk_other J B2))) J J (e_ (bk_ (q_ J (b_ J J eql_ (m_ (e_ (cs_ J (fun g'7=>W.reg0 J fun _ _=>l_ J lk_here J J (s_mkbf (sec J sen) (m_ (e_ (sq_ (q_ J (m_ (((e'5.2.2 g'6).1 g'7).elim fun r'8 e'17=>e'17.elim fun b'14 e'10=>s_callB J sen e'10.1 (Nat.lt_succ_self d) (Dk.other (key_LL J) (Dk.new (m:=(Dsk.mk m0 m1 m2 ([]:LB))) (show lk _ (d,28676)=some (_,([.sl .ext (List.map Typ.row m0.types),.sl .ext (List.map rowS m0.texts),.sl .ext (List.map Fun.row m0.funcs),.i .u8 m1.outcome,.i .i64 m1.failing,.i .i64 m1.steps,.sl .ext (List.map Rou.row m1.routines),.i .u8 m2.kind,.i .i64 m2.g,.i .i64 m2.k,.i .i64 m2.key,.s m2.name,.sl .full (List.map rowS ([]:LB))]:List AV)) from lk_here) J)) (fun st'11 hb'12 hf'13=>m_ (e_ (q_ J (m_ (b_ J J neq_ (e_ (cs_ J (fun g'15=>q_ J (m_ (s_mvL (f:=rowS) (l:=[]) J (m_ (e_ (rt_ (hQ _ _ _ _ _ J J (e'10.2.1 g'15)))))))) (fun g'15=>sk_ (q_ J (l_ J ((hf'13.1 (d,28677) (Nat.lt_succ_self d) (key_LL J)).trans lk_here) J J (s_nilP J (f_ J (s_loadO J hb'12 (fun o'16_=>s_mvL J (m_ (e_ (rt_ (hQ _ _ _ _ _ J J (e'10.2.2 g'15))))))))))))))))))))))))))) (fun g'7=>q_ J (b_ J J eql_ (m_ (e_ (cs_ J (fun g'18=>W.reg0 J fun _ _=>l_ J lk_here J J (s_mkbf (sec J sen) (m_ (e_ (sq_ (q_ J (m_ ((((e'5.2.2 g'6).2 g'7).1 g'18).elim fun r'19 e'28=>e'28.elim fun b'25 e'21=>s_callB J sen e'21.1 (Nat.lt_succ_self d) (Dk.other (key_LL J) (Dk.new (m:=(Dsk.mk m0 m1 m2 ([]:LB))) (show lk _ (d,28676)=some (_,([.sl .ext (List.map Typ.row m0.types),.sl .ext (List.map rowS m0.texts),.sl .ext (List.map Fun.row m0.funcs),.i .u8 m1.outcome,.i .i64 m1.failing,.i .i64 m1.steps,.sl .ext (List.map Rou.row m1.routines),.i .u8 m2.kind,.i .i64 m2.g,.i .i64 m2.k,.i .i64 m2.key,.s m2.name,.sl .full (List.map rowS ([]:LB))]:List AV)) from lk_here) J)) (fun st'22 hb'23 hf'24=>m_ (e_ (q_ J (m_ (b_ J J neq_ (e_ (cs_ J (fun g'26=>q_ J (m_ (s_mvL (f:=rowS) (l:=[]) J (m_ (e_ (rt_ (hQ _ _ _ _ _ J J (e'21.2.1 g'26)))))))) (fun g'26=>sk_ (q_ J (l_ J ((hf'24.1 (d,28677) (Nat.lt_succ_self d) (key_LL J)).trans lk_here) J J (s_nilP J (f_ J (s_loadO J hb'23 (fun o'27_=>s_mvL J (m_ (e_ (rt_ (hQ _ _ _ _ _ J J (e'21.2.2 g'26))))))))))))))))))))))))))) (fun g'18=>q_ J (b_ J J eql_ (m_ (e_ (cs_ J (fun g'29=>W.reg0 J fun _ _=>s_mkfn (sec J sen) (m_ (e_ (sq_ (q_ J (m_ (((((e'5.2.2 g'6).2 g'7).2 g'18).1 g'29).elim fun r'30 e'39=>e'39.elim fun b'36 e'32=>s_callVV J e'32.1 (Nat.lt_succ_self d) (Nat.lt_succ_self d) lk_here (Dk.other (key_LL J) (Dk.new (m:=(Dsk.mk m0 m1 m2 ([]:LB))) (show lk _ (d,28676)=some (_,([.sl .ext (List.map Typ.row m0.types),.sl .ext (List.map rowS m0.texts),.sl .ext (List.map Fun.row m0.funcs),.i .u8 m1.outcome,.i .i64 m1.failing,.i .i64 m1.steps,.sl .ext (List.map Rou.row m1.routines),.i .u8 m2.kind,.i .i64 m2.g,.i .i64 m2.k,.i .i64 m2.key,.s m2.name,.sl .full (List.map rowS ([]:LB))]:List AV)) from lk_here) J)) (fun st'33 hb'34 hf'35=>m_ (e_ (q_ J (m_ (b_ J J neq_ (e_ (cs_ J (fun g'37=>q_ J (m_ (s_mvL (f:=rowS) (l:=[]) J (m_ (e_ (rt_ (hQ _ _ _ _ _ J J (e'32.2.1 g'37)))))))) (fun g'37=>sk_ (q_ J (l_ J ((hf'35.1 (d,28677) (Nat.lt_succ_self d) (key_LL J)).trans lk_here) J J (s_nilP J (f_ J (s_loadO J hb'34 (fun o'38_=>s_mvL J (m_ (e_ (rt_ (hQ _ _ _ _ _ J J (e'32.2.2 g'37)))))))))))))))))))))))))) (fun g'29=>q_ J (b_ J J eql_ (m_ (e_ (cs_ J (fun g'40=>W.reg0 J fun _ _=>s_mkfn (sec J sen) (m_ (e_ (sq_ (q_ J (m_ ((((((e'5.2.2 g'6).2 g'7).2 g'18).2 g'29).1 g'40).elim fun r'41 e'50=>e'50.elim fun b'47 e'43=>s_callVV J e'43.1 (Nat.lt_succ_self d) (Nat.lt_succ_self d) lk_here (Dk.other (key_LL J) (Dk.new (m:=(Dsk.mk m0 m1 m2 ([]:LB))) (show lk _ (d,28676)=some (_,([.sl .ext (List.map Typ.row m0.types),.sl .ext (List.map rowS m0.texts),.sl .ext (List.map Fun.row m0.funcs),.i .u8 m1.outcome,.i .i64 m1.failing,.i .i64 m1.steps,.sl .ext (List.map Rou.row m1.routines),.i .u8 m2.kind,.i .i64 m2.g,.i .i64 m2.k,.i .i64 m2.key,.s m2.name,.sl .full (List.map rowS ([]:LB))]:List AV)) from lk_here) J)) (fun st'44 hb'45 hf'46=>m_ (e_ (q_ J (m_ (b_ J J neq_ (e_ (cs_ J (fun g'48=>q_ J (m_ (s_mvL (f:=rowS) (l:=[]) J (m_ (e_ (rt_ (hQ _ _ _ _ _ J J (e'43.2.1 g'48)))))))) (fun g'48=>sk_ (q_ J (l_ J ((hf'46.1 (d,28677) (Nat.lt_succ_self d) (key_LL J)).trans lk_here) J J (s_nilP J (f_ J (s_loadO J hb'45 (fun o'49_=>s_mvL J (m_ (e_ (rt_ (hQ _ _ _ _ _ J J (e'43.2.2 g'48)))))))))))))))))))))))))) (fun g'40=>sk_ (sq_ (q_ J (m_ ((((((e'5.2.2 g'6).2 g'7).2 g'18).2 g'29).2 g'40).elim fun r'51 e'60=>e'60.elim fun b'57 e'53=>s_callB J sen e'53.1 (Nat.lt_succ_self d) (Dk.other (key_LL J) (Dk.new (m:=(Dsk.mk m0 m1 m2 ([]:LB))) (show lk _ (d,28676)=some (_,([.sl .ext (List.map Typ.row m0.types),.sl .ext (List.map rowS m0.texts),.sl .ext (List.map Fun.row m0.funcs),.i .u8 m1.outcome,.i .i64 m1.failing,.i .i64 m1.steps,.sl .ext (List.map Rou.row m1.routines),.i .u8 m2.kind,.i .i64 m2.g,.i .i64 m2.k,.i .i64 m2.key,.s m2.name,.sl .full (List.map rowS ([]:LB))]:List AV)) from lk_here) J)) (fun st'54 hb'55 hf'56=>m_ (e_ (q_ J (m_ (b_ J J neq_ (e_ (cs_ J (fun g'58=>q_ J (m_ (s_mvL (f:=rowS) (l:=[]) J (m_ (e_ (rt_ (hQ _ _ _ _ _ J J (e'53.2.1 g'58)))))))) (fun g'58=>sk_ (q_ J (l_ J ((hf'56.1 (d,28677) (Nat.lt_succ_self d) (key_LL J)).trans lk_here) J J (s_nilP J (f_ J (s_loadO J hb'55 (fun o'59_=>s_mvL J (m_ (e_ (rt_ (hQ _ _ _ _ _ J J (e'53.2.2 g'58)))))))))))))))))))))))))))))))))))))))))))))))))))))))))))))))))))))))))))))))))))))))))
include H0 H1 H2 in
theorem w264_0 (h:T264_0 prog K m0 s1 q2):W prog d (sR 0 r264_0 c264_1) σ st Q:=
 q_ J (s_box H0 J (s_box H1 J (s_box H2 J (s_mvL (f:=rowS) (l:=[]) J (m_ (e_ (w264_1 hQ J J J (lk_other J (lk_other J lk_here)) (lk_other J lk_here) lk_here h)))))))
end
theorem p264 {prog:Prog}(hf:prog.fn 264=some pf264){m0:Img}{s1:Sta}{q2:Qry}{K:LB→Int→Prop}(h:T264_0 prog K m0 s1 q2) :∃res0:LB,∃res1:Int,K res0 res1∧Pus prog 264 [m0.av,s1.av,q2.av] (.tup [.sl .ext (List.map rowS res0),.i .i64 res1]):=
 P2 hf J (w264_0 (hM J fun _ _ _=>J) J J J h)
end Go.AM

/- Parts of the proof. -/
namespace Go.AM
open Go
set_option linter.unusedVariables false
set_option linter.unusedSimpArgs false
set_option maxRecDepth 4000
attribute [local irreducible] WO fillCells fillRows
abbrev H277 (Q:AE→Sl→St→Prop)(K:Bool→Prop):Prop:=∀(σ:Sl)(st:St)(res0:Bool),σ 8=.b res0→K res0→Q .ret σ st
section
variable {prog:Prog}{d:Nat}{Q:AE→Sl→St→Prop}{K:Bool→Prop}(hQ:H277 Q K){σ:Sl}{st:St}
include hQ
end
abbrev H281 (Q:AE→Sl→St→Prop)(K:LB→Int→Prop):Prop:=∀(σ:Sl)(st:St)(o0:Own)(res0:LB)(res1:Int),σ 6=.sl o0 (List.map rowS res0)→σ 7=.i .i64 res1→K res0 res1→Q .ret σ st
section
variable {prog:Prog}{d:Nat}{Q:AE→Sl→St→Prop}{K:LB→Int→Prop}(hQ:H281 Q K){σ:Sl}{st:St}
include hQ
end
def r282_0:List AI:=[oY 2 3 0,oY 3 4 1,oC 4 (.b false)]
def r282_1:List AI:=[oK 5 3 2,oQ 6 79 [5],oZ 7 6,oM 8 7,gT 8 (oK 9 4 3),gT 8 (oQ 10 203 [9]),gT 8 (oZ 11 10),oA 12 8 11,oM 13 12,gT 13 (oK 14 3 2),gT 13 (oK 15 4 3),gT 13 (oQ 16 214 [14,15]),gT 13 (oV 17 .eql 16 0),oA 18 13 17,oM 4 18]
abbrev b282:AC:=(sR 0 r282_0 (sR 1 r282_1 .ret))
def pf282:AF:={ nt:=19,res:=[.tmp 4],body:=b282 }
def T282_0 (prog:Prog)(K:Bool→Prop)(m0:Img)(s1:Sta):Prop:=
  ∃r'1,Pus prog 79 [m0.av] (.b r'1)∧((!r'1)=true→∃r'4,Pus prog 203 [s1.av] (.b r'4)∧((!r'4)=true→∃r'7,Pus prog 214 [m0.av,s1.av] (.i .i64 r'7)∧K (decide (r'7=0)))∧((!r'4)=false→K false))∧((!r'1)=false→K false)
section
variable {prog:Prog}{d:Nat}{Q:AE→Sl→St→Prop}{K:Bool→Prop}(hQ:H1 AV.b 4 Q K){σ:Sl}{st:St}
include hQ
variable {m0:Img}{s1:Sta}
variable (H0:σ 0=m0.av)(H1:σ 1=s1.av)
include H0 H1 in
theorem w282_0 (h:T282_0 prog K m0 s1):W prog d (sR 0 r282_0 (sR 1 r282_1 .ret)) σ st Q:=
 q_ J (s_box H0 J (s_box H1 J (m_ (e_ (q_ J (l_ J (lk_other J lk_here) J J (h.elim fun r'1 e'2=>ca_ (sc J J sn) e'2.1 (nt_ J (s_mvB J (eb_ (g:=8) J (fun g'3=>gy_ J (l_ J lk_here J J (gy_ J ((e'2.2.1 g'3).elim fun r'4 e'5=>ca_ (sc J J sn) e'5.1 (gy_ J (nt_ J (pt_ J J (s_mvB J (eb_ (g:=13) J (fun g'6=>gy_ J (l_ J (lk_other J lk_here) J J (gy_ J (l_ J lk_here J J (gy_ J ((e'5.2.1 g'6).elim fun r'7 e'8=>ca_ (sc J J (sc J J sn)) e'8.1 (gy_ J (b_ J J eql_ (pt_ J J (s_mvB J (e_ (rt_ (hQ _ _ _ J e'8.2))))))))))))) (fun g'6=>nF4 J J J J (pf_ J J (s_mvB J (e_ (rt_ (hQ _ _ _ J (e'5.2.2 g'6)))))))))))))))) (fun g'3=>nF3 J J J (pf_ J J (s_mvB J (nF4 J J J J (pf_ J J (s_mvB J (e_ (rt_ (hQ _ _ _ J (e'2.2.2 g'3))))))))))))))))))))
end
theorem p282 {prog:Prog}(hf:prog.fn 282=some pf282){m0:Img}{s1:Sta}{K:Bool→Prop}(h:T282_0 prog K m0 s1) :∃res0:Bool,K res0∧Pus prog 282 [m0.av,s1.av] (.b res0):=
 P1 hf J (w282_0 (h1 J fun _=>J) J J h)
abbrev H284 (Q:AE→Sl→St→Prop)(K:LB→Prop):Prop:=∀(σ:Sl)(st:St)(o0:Own)(res0:LB),σ 2=.sl o0 (List.map rowS res0)→K res0→Q .ret σ st
section
variable {prog:Prog}{d:Nat}{Q:AE→Sl→St→Prop}{K:LB→Prop}(hQ:H284 Q K){σ:Sl}{st:St}
include hQ
end
abbrev H285 (Q:AE→Sl→St→Prop)(K:LB→Prop):Prop:=∀(σ:Sl)(st:St)(o0:Own)(res0:LB),σ 6=.sl o0 (List.map rowS res0)→K res0→Q .ret σ st
section
variable {prog:Prog}{d:Nat}{Q:AE→Sl→St→Prop}{K:LB→Prop}(hQ:H285 Q K){σ:Sl}{st:St}
include hQ
end
abbrev H280 (Q:AE→Sl→St→Prop)(K:LB→Int→Prop):Prop:=∀(σ:Sl)(st:St)(o0:Own)(res0:LB)(res1:Int),σ 6=.sl o0 (List.map rowS res0)→σ 7=.i .i64 res1→K res0 res1→Q .ret σ st
section
variable {prog:Prog}{d:Nat}{Q:AE→Sl→St→Prop}{K:LB→Int→Prop}(hQ:H280 Q K){σ:Sl}{st:St}
include hQ
end
end Go.AM

/- Parts of the proof. -/
namespace Go.AM
open Go
set_option linter.unusedVariables false
set_option linter.unusedSimpArgs false
set_option maxRecDepth 4000
attribute [local irreducible] WO fillCells fillRows
abbrev H283 (Q:AE→Sl→St→Prop)(K:LB→Prop):Prop:=∀(σ:Sl)(st:St)(o0:Own)(res0:LB),σ 6=.sl o0 (List.map rowS res0)→K res0→Q .ret σ st
section
variable {prog:Prog}{d:Nat}{Q:AE→Sl→St→Prop}{K:LB→Prop}(hQ:H283 Q K){σ:Sl}{st:St}
include hQ
end
end Go.AM

/- Parts of the proof. -/
namespace Go.AM
open Go
set_option linter.unusedVariables false
set_option linter.unusedSimpArgs false
set_option maxRecDepth 4000
attribute [local irreducible] WO fillCells fillRows
def r278_0:List AI:=[oY 4 3 0,oY 5 4 1,oC 8 (.b false)]
def r278_1:List AI:=[oQ 28 256 [],oM 9 28]
def r278_2:List AI:=[oK 29 3 4,oK 30 4 5,oQ 31 282 [29,30],oZ 32 31,oM 33 32,gF 33 (oM 34 2),gF 33 (oH 35 34),gF 33 (oV 36 .gtr 35 16),oR 37 33 36,oM 38 37,gF 38 (oM 39 9),gF 38 (oZ 40 39),oR 41 38 40]
def r278_3:List AI:=[oM 42 9,oM 8 42]
def r278_4:List AI:=[oK 44 3 4,oK 45 4 5,oM 46 2,oO 47 (.build [z8,z6,z6,z6,zs] [(0,1,(.c (.i .u8 7))),(4,1,(.t 46))]),oQ 48 264 [44,45,47],oM 43 48,oE 49 0 43,oE 50 1 43,oM 10 49,oM 11 50]
def r278_5:List AI:=[oK 52 3 4,oK 53 4 5,oM 54 2,oO 55 (.build [z8,z6,z6,z6,zs] [(0,1,(.c (.i .u8 8))),(4,1,(.t 54))]),oQ 56 264 [52,53,55],oM 51 56,oE 57 0 51,oE 58 1 51,oM 12 57,oM 13 58]
def r278_6:List AI:=[oK 60 3 4,oK 61 4 5,oM 62 3,oO 63 (.build [z8,z6,z6,z6,zs] [(0,1,(.c (.i .u8 6))),(3,1,(.t 62))]),oQ 64 264 [60,61,63],oM 59 64,oE 65 0 59,oE 66 1 59,oM 14 65,oM 15 66]
def r278_7:List AI:=[oM 67 11,oV 68 .neq 67 0,oM 69 68,gF 69 (oM 70 13),gF 69 (oV 71 .neq 70 0),oR 72 69 71,oM 73 72,gF 73 (oM 74 15),gF 73 (oV 75 .neq 74 0),oR 76 73 75]
def r278_8:List AI:=[oC 8 (.b false)]
def r278_9:List AI:=[oC 16 (.sl .full []),oC 17 (.sl .full []),oC 18 (.sl .full [])]
def r278_10:List AI:=[oI 19 0]
def r278_11:List AI:=[oM 77 19,oF 78 3 5,oL 79 78,oJ 80 79,oT 81 .lss 77 80]
def r278_12:List AI:=[oF 84 3 5,oL 85 84,oM 86 19,oX 87 5 85 86,oK 88 5 87,oO 20 (.alloc [z8,z6,zl,zl,zl]),oS 5 20 88]
def r278_13:List AI:=[oM 89 19,oQ 90 16 [89],oM 21 90]
def r278_14:List AI:=[oF 91 0 20,oL 92 91,oW 93 .eql 92 2,oM 94 93,gT 94 (oF 95 1 20),gT 94 (oL 96 95),gT 94 (oM 97 3),gT 94 (oT 98 .eql 96 97),oA 99 94 98]
def r278_15:List AI:=[oM 100 18,oM 101 21,oB 102 .add (.c (.s [103,111,114,111,117,116,105,110,101,32])) (.t 101),oO 103 (.bslice [zs] 1 [(0,(.t 102))]),oO 104 (.app 1 16 (.t 100) (.t 103)),oM 18 104]
def r278_16:List AI:=[oI 22 0]
def r278_17:List AI:=[oM 105 22,oF 106 2 20,oL 107 106,oJ 108 107,oT 109 .lss 105 108]
def r278_18:List AI:=[oF 112 2 20,oL 113 112,oM 114 22,oX 115 4 113 114,oK 116 4 115,oO 23 (.alloc [z6,z6,z7,zl]),oS 4 23 116]
def r278_19:List AI:=[oM 117 21,oB 118 .add (.t 117) (.c (.s [32])),oM 119 22,oQ 120 16 [119],oT 121 .add 118 120,oM 24 121]
def r278_20:List AI:=[oF 122 2 4,oL 123 122,oF 124 0 23,oL 125 124,oX 126 7 123 125,oF 127 0 126,oL 128 127,oM 129 2,oT 130 .eql 128 129]
def r278_21:List AI:=[oM 131 16,oM 132 24,oB 133 .add (.t 132) (.c (.s [32,97,116,32])),oF 134 1 23,oL 135 134,oQ 136 16 [135],oT 137 .add 133 136,oO 138 (.bslice [zs] 1 [(0,(.t 137))]),oO 139 (.app 1 16 (.t 131) (.t 138)),oM 16 139]
def r278_22:List AI:=[oI 25 0]
def r278_23:List AI:=[oM 140 25,oF 141 3 23,oL 142 141,oJ 143 142,oT 144 .lss 140 143]
def r278_24:List AI:=[oF 148 3 23,oL 149 148,oM 150 25,oX 151 6 149 150,oF 152 1 151,oK 153 5 152,oQ 154 72 [153],oM 147 154,oE 155 0 147,oE 156 1 147,oM 26 155,oM 27 156]
def r278_25:List AI:=[oM 157 27,oV 158 .neq 157 0]
def r278_26:List AI:=[oC 8 (.b false)]
def r278_27:List AI:=[oF 159 2 4,oL 160 159,oF 161 0 23,oL 162 161,oX 163 7 160 162,oF 164 3 163,oL 165 164,oF 166 3 23,oL 167 166,oM 168 25,oX 169 6 167 168,oF 170 0 169,oL 171 170,oX 172 2 165 171,oF 173 0 172,oL 174 173,oM 175 2,oT 176 .eql 174 175]
def r278_28:List AI:=[oM 177 17,oM 178 24,oB 179 .add (.t 178) (.c (.s [32])),oF 180 3 23,oL 181 180,oM 182 25,oX 183 6 181 182,oF 184 0 183,oL 185 184,oQ 186 16 [185],oT 187 .add 179 186,oB 188 .add (.t 187) (.c (.s [32,61,32])),oM 189 26,oT 190 .add 188 189,oO 191 (.bslice [zs] 1 [(0,(.t 190))]),oO 192 (.app 1 16 (.t 177) (.t 191)),oM 17 192]
def r278_29:List AI:=[oM 145 25,oV 146 .add 145 1,oM 25 146]
def r278_30:List AI:=[oM 110 22,oV 111 .add 110 1,oM 22 111]
def r278_31:List AI:=[oM 82 19,oV 83 .add 82 1,oM 19 83]
def r278_32:List AI:=[oM 193 9,oM 194 193,gT 194 (oM 195 10),gT 194 (oM 196 16),gT 194 (oQ 197 29 [195,196]),oA 198 194 197,oM 199 198,gT 199 (oM 200 12),gT 199 (oM 201 17),gT 199 (oQ 202 29 [200,201]),oA 203 199 202,oM 204 203,gT 204 (oM 205 14),gT 204 (oM 206 18),gT 204 (oQ 207 29 [205,206]),oA 208 204 207,oM 8 208]
abbrev c278_0:AC:=(.cond (.t 99) (.reg 16 r278_15) .skip)
abbrev c278_1:AC:=(.reg 26 r278_29)
abbrev l278_2:AC:=(.seq (sR 25 r278_23 (.cond (.t 144) .skip (.exit 4))) (.seq (.block 5 (sR 27 r278_24 (.seq (sR 28 r278_25 (.cond (.t 158) (sR 29 r278_26 .ret) .skip)) (sR 30 r278_27 (.cond (.t 176) (.reg 31 r278_28) .skip))))) c278_1))
abbrev c278_3:AC:=(sR 24 r278_22 (.block 4 (.loop l278_2)))
abbrev c278_4:AC:=(.seq (sR 22 r278_20 (.cond (.t 130) (.reg 23 r278_21) .skip)) c278_3)
abbrev c278_5:AC:=(sR 21 r278_19 c278_4)
abbrev c278_6:AC:=(.reg 19 r278_30)
abbrev c278_7:AC:=(.seq (.block 3 (sR 20 r278_18 c278_5)) c278_6)
abbrev l278_1:AC:=(.seq (sR 18 r278_17 (.cond (.t 109) .skip (.exit 2))) c278_7)
abbrev c278_9:AC:=(.block 2 (.loop l278_1))
abbrev c278_10:AC:=(sR 17 r278_16 c278_9)
abbrev c278_11:AC:=(.seq (sR 15 r278_14 c278_0) c278_10)
abbrev c278_12:AC:=(sR 14 r278_13 c278_11)
abbrev c278_13:AC:=(.reg 12 r278_31)
abbrev c278_14:AC:=(.seq (.block 1 (sR 13 r278_12 c278_12)) c278_13)
abbrev l278_0:AC:=(.seq (sR 11 r278_11 (.cond (.t 81) .skip (.exit 0))) c278_14)
abbrev c278_16:AC:=(.block 0 (.loop l278_0))
abbrev c278_17:AC:=(sR 32 r278_32 .ret)
abbrev c278_18:AC:=(.seq (sR 10 r278_10 c278_16) c278_17)
abbrev c278_19:AC:=(sR 9 r278_9 c278_18)
abbrev c278_20:AC:=(.seq (sR 7 r278_7 (.cond (.t 76) (sR 8 r278_8 .ret) .skip)) c278_19)
abbrev c278_21:AC:=(sR 6 r278_6 c278_20)
abbrev c278_22:AC:=(sR 5 r278_5 c278_21)
abbrev c278_23:AC:=(sR 4 r278_4 c278_22)
abbrev c278_24:AC:=(.seq (sR 2 r278_2 (.cond (.t 41) (sR 3 r278_3 .ret) .skip)) c278_23)
abbrev c278_25:AC:=(sR 1 r278_1 c278_24)
abbrev b278:AC:=(sR 0 r278_0 c278_25)
def pf278:AF:={ nt:=209,res:=[.tmp 8],body:=b278 }
abbrev I278_0 (prog:Prog)(d:Nat)(Q:AE→Sl→St→Prop)(name2:BS)(key3:Int)(ok9:Bool)(in10:LB)(slot12:LB)(waits14:LB)(a16:LB)(b17:LB)(c18:LB)(i19:Int)(m0:Img)(m1:Sta):Prop:=
  ∀(σ:Sl)(st:St) (o_in10 o_slot12 o_waits14 o_a16 o_b17 o_c18:Own) (v0 v1:Nat),σ 2=.s name2→σ 3=.i .i64 key3→σ 4=.p (d,0) v0 0→σ 5=.p (d,1) v1 0→σ 9=.b ok9→σ 10=.sl o_in10 (List.map rowS in10)→σ 12=.sl o_slot12 (List.map rowS slot12)→σ 14=.sl o_waits14 (List.map rowS waits14)→σ 16=.sl o_a16 (List.map rowS a16)→σ 17=.sl o_b17 (List.map rowS b17)→σ 18=.sl o_c18 (List.map rowS c18)→σ 19=.i .i64 i19→ApS [94216] d st.ow o_a16 a16.length→ApS [126991] d st.ow o_b17 b17.length→ApS [65540] d st.ow o_c18 c18.length→lk st.bx (d,0)=some (v0,[.sl .ext (List.map Typ.row m0.types),.sl .ext (List.map rowS m0.texts),.sl .ext (List.map Fun.row m0.funcs)])→lk st.bx (d,1)=some (v1,[.i .u8 m1.outcome,.i .i64 m1.failing,.i .i64 m1.steps,.sl .ext (List.map Rou.row m1.routines)])→W prog d (.loop l278_0) σ st (blockW 0 (thenW prog d c278_17 Q))
abbrev I278_1 (prog:Prog)(d:Nat)(Q:AE→Sl→St→Prop)(name2:BS)(key3:Int)(ok9:Bool)(in10:LB)(slot12:LB)(waits14:LB)(c18:LB)(i19:Int)(from21:BS)(a16:LB)(b17:LB)(k22:Int)(m0:Img)(m1:Sta)(m53253:Rou):Prop:=
  ∀(σ:Sl)(st:St) (o_in10 o_slot12 o_waits14 o_a16 o_b17 o_c18:Own) (v0 v1 v53253:Nat),σ 2=.s name2→σ 3=.i .i64 key3→σ 4=.p (d,0) v0 0→σ 5=.p (d,1) v1 0→σ 9=.b ok9→σ 10=.sl o_in10 (List.map rowS in10)→σ 12=.sl o_slot12 (List.map rowS slot12)→σ 14=.sl o_waits14 (List.map rowS waits14)→σ 16=.sl o_a16 (List.map rowS a16)→σ 17=.sl o_b17 (List.map rowS b17)→σ 18=.sl o_c18 (List.map rowS c18)→σ 19=.i .i64 i19→σ 20=.p (d,53253) v53253 0→σ 21=.s from21→σ 22=.i .i64 k22→ApS [94216] d st.ow o_a16 a16.length→ApS [126991] d st.ow o_b17 b17.length→ApS [65540] d st.ow o_c18 c18.length→lk st.bx (d,0)=some (v0,[.sl .ext (List.map Typ.row m0.types),.sl .ext (List.map rowS m0.texts),.sl .ext (List.map Fun.row m0.funcs)])→lk st.bx (d,1)=some (v1,[.i .u8 m1.outcome,.i .i64 m1.failing,.i .i64 m1.steps,.sl .ext (List.map Rou.row m1.routines)])→lk st.bx (d,53253)=some (v53253,[.i .u8 m53253.status,.i .i64 m53253.key,.sl .ext (List.map Frm.row m53253.frames),.sl .ext (List.map Dfr.row m53253.defers),.sl .ext (List.map Pan.row m53253.panics)])→W prog d (.loop l278_1) σ st (blockW 2 (blockW 1 (thenW prog d c278_13 (thenW prog d (.loop l278_0) (blockW 0 (thenW prog d c278_17 Q))))))
abbrev I278_2 (prog:Prog)(d:Nat)(Q:AE→Sl→St→Prop)(name2:BS)(key3:Int)(ok9:Bool)(in10:LB)(slot12:LB)(waits14:LB)(a16:LB)(c18:LB)(i19:Int)(from21:BS)(k22:Int)(at24:BS)(b17:LB)(n25:Int)(m0:Img)(m1:Sta)(m53253:Rou)(m81925:Frm):Prop:=
  ∀(σ:Sl)(st:St) (o_in10 o_slot12 o_waits14 o_a16 o_b17 o_c18:Own) (v0 v1 v53253 v81925:Nat),σ 2=.s name2→σ 3=.i .i64 key3→σ 4=.p (d,0) v0 0→σ 5=.p (d,1) v1 0→σ 9=.b ok9→σ 10=.sl o_in10 (List.map rowS in10)→σ 12=.sl o_slot12 (List.map rowS slot12)→σ 14=.sl o_waits14 (List.map rowS waits14)→σ 16=.sl o_a16 (List.map rowS a16)→σ 17=.sl o_b17 (List.map rowS b17)→σ 18=.sl o_c18 (List.map rowS c18)→σ 19=.i .i64 i19→σ 20=.p (d,53253) v53253 0→σ 21=.s from21→σ 22=.i .i64 k22→σ 23=.p (d,81925) v81925 0→σ 24=.s at24→σ 25=.i .i64 n25→ApS [94216] d st.ow o_a16 a16.length→ApS [126991] d st.ow o_b17 b17.length→ApS [65540] d st.ow o_c18 c18.length→lk st.bx (d,0)=some (v0,[.sl .ext (List.map Typ.row m0.types),.sl .ext (List.map rowS m0.texts),.sl .ext (List.map Fun.row m0.funcs)])→lk st.bx (d,1)=some (v1,[.i .u8 m1.outcome,.i .i64 m1.failing,.i .i64 m1.steps,.sl .ext (List.map Rou.row m1.routines)])→lk st.bx (d,53253)=some (v53253,[.i .u8 m53253.status,.i .i64 m53253.key,.sl .ext (List.map Frm.row m53253.frames),.sl .ext (List.map Dfr.row m53253.defers),.sl .ext (List.map Pan.row m53253.panics)])→lk st.bx (d,81925)=some (v81925,[.i .i64 m81925.func,.i .i64 m81925.pos,.i .u64 m81925.mode,.sl .ext (List.map Loc.row m81925.locals)])→W prog d (.loop l278_2) σ st (blockW 4 (blockW 3 (thenW prog d c278_6 (thenW prog d (.loop l278_1) (blockW 2 (blockW 1 (thenW prog d c278_13 (thenW prog d (.loop l278_0) (blockW 0 (thenW prog d c278_17 Q))))))))))
def T278_23 (prog:Prog)(K:Bool→Prop)(P2:LB→Int→Img→Sta→Rou→Frm→Prop)(P1:LB→LB→Int→Img→Sta→Rou→Prop)(P0:LB→LB→LB→Int→Img→Sta→Prop)(name2:BS)(key3:Int)(ok9:Bool)(in10:LB)(slot12:LB)(waits14:LB)(a16:LB)(b17:LB)(c18:LB)(i19:Int)(from21:BS)(k22:Int)(at24:BS)(n25:Int)(m0:Img)(m1:Sta)(m53253:Rou)(m81925:Frm):Prop:=
  P2 b17 (IntKind.i64.wrap (n25+1)) m0 m1 m53253 m81925
def T278_24 (prog:Prog)(K:Bool→Prop)(P1:LB→LB→Int→Img→Sta→Rou→Prop)(P0:LB→LB→LB→Int→Img→Sta→Prop)(name2:BS)(key3:Int)(ok9:Bool)(in10:LB)(slot12:LB)(waits14:LB)(a16:LB)(b17:LB)(c18:LB)(i19:Int)(from21:BS)(k22:Int)(m0:Img)(m1:Sta)(m53253:Rou):Prop:=
  P1 a16 b17 (IntKind.i64.wrap (k22+1)) m0 m1 m53253
def T278_22 (prog:Prog)(K:Bool→Prop)(P2:LB→Int→Img→Sta→Rou→Frm→Prop)(P1:LB→LB→Int→Img→Sta→Rou→Prop)(P0:LB→LB→LB→Int→Img→Sta→Prop)(name2:BS)(key3:Int)(ok9:Bool)(in10:LB)(slot12:LB)(waits14:LB)(a16:LB)(b17:LB)(c18:LB)(i19:Int)(from21:BS)(k22:Int)(at24:BS)(n25:Int)(m0:Img)(m1:Sta)(m53253:Rou)(m81925:Frm):Prop:=
  (n25<(m81925.locals.length:Int)→0≤n25∧∃c'2:Loc,m81925.locals[(n25).toNat]?=some c'2∧∃r'4:BS,∃r'5,Pus prog 72 [c'2.value.av] (.tup [.s r'4,.i .i64 r'5])∧(r'5≠0→K false)∧(¬(r'5≠0)→0≤m81925.func∧∃c'8:Fun,m0.funcs[(m81925.func).toNat]?=some c'8∧0≤n25∧∃c'10:Loc,m81925.locals[(n25).toNat]?=some c'10∧0≤c'10.slot∧∃c'12:Fld,c'8.slots[(c'10.slot).toNat]?=some c'12∧(c'12.name=name2→at24.length+([32]:BS).length≤maxStr∧0≤n25∧∃c'15:Loc,m81925.locals[(n25).toNat]?=some c'15∧∃r'17:BS,Pus prog 16 [.i .i64 c'15.slot] (.s r'17)∧(at24++([32]:BS)).length+r'17.length≤maxStr∧((at24++([32]:BS))++r'17).length+([32,61,32]:BS).length≤maxStr∧(((at24++([32]:BS))++r'17)++([32,61,32]:BS)).length+r'4.length≤maxStr∧Fit (b17.length+[((((at24++([32]:BS))++r'17)++([32,61,32]:BS))++r'4)].length) 16∧T278_23 prog K P2 P1 P0 name2 key3 ok9 in10 slot12 waits14 a16 (b17++[((((at24++([32]:BS))++r'17)++([32,61,32]:BS))++r'4)]) c18 i19 from21 k22 at24 n25 m0 m1 m53253 m81925)∧(¬(c'12.name=name2)→T278_23 prog K P2 P1 P0 name2 key3 ok9 in10 slot12 waits14 a16 b17 c18 i19 from21 k22 at24 n25 m0 m1 m53253 m81925)))∧(¬(n25<(m81925.locals.length:Int))→T278_24 prog K P1 P0 name2 key3 ok9 in10 slot12 waits14 a16 b17 c18 i19 from21 k22 m0 m1 m53253)
def T278_21 (prog:Prog)(K:Bool→Prop)(P1:LB→LB→Int→Img→Sta→Rou→Prop)(P0:LB→LB→LB→Int→Img→Sta→Prop)(name2:BS)(key3:Int)(ok9:Bool)(in10:LB)(slot12:LB)(waits14:LB)(a16:LB)(b17:LB)(c18:LB)(i19:Int)(from21:BS)(k22:Int)(at24:BS)(m0:Img)(m1:Sta)(m53253:Rou)(m81925:Frm):Prop:=
  ∀P2:LB→Int→Img→Sta→Rou→Frm→Prop,(∀(b17:LB)(n25:Int)(m0:Img)(m1:Sta)(m53253:Rou)(m81925:Frm),T278_22 prog K P2 P1 P0 name2 key3 ok9 in10 slot12 waits14 a16 b17 c18 i19 from21 k22 at24 n25 m0 m1 m53253 m81925→P2 b17 n25 m0 m1 m53253 m81925)→P2 b17 0 m0 m1 m53253 m81925
def T278_20 (prog:Prog)(K:Bool→Prop)(P1:LB→LB→Int→Img→Sta→Rou→Prop)(P0:LB→LB→LB→Int→Img→Sta→Prop)(name2:BS)(key3:Int)(ok9:Bool)(in10:LB)(slot12:LB)(waits14:LB)(a16:LB)(b17:LB)(c18:LB)(i19:Int)(from21:BS)(k22:Int)(at24:BS)(m0:Img)(m1:Sta)(m53253:Rou)(m81925:Frm):Prop:=
  0≤m81925.func∧∃c'1:Fun,m0.funcs[(m81925.func).toNat]?=some c'1∧(c'1.name=name2→at24.length+([32,97,116,32]:BS).length≤maxStr∧∃r'4:BS,Pus prog 16 [.i .i64 m81925.pos] (.s r'4)∧(at24++([32,97,116,32]:BS)).length+r'4.length≤maxStr∧Fit (a16.length+[((at24++([32,97,116,32]:BS))++r'4)].length) 16∧T278_21 prog K P1 P0 name2 key3 ok9 in10 slot12 waits14 (a16++[((at24++([32,97,116,32]:BS))++r'4)]) b17 c18 i19 from21 k22 at24 m0 m1 m53253 m81925)∧(¬(c'1.name=name2)→T278_21 prog K P1 P0 name2 key3 ok9 in10 slot12 waits14 a16 b17 c18 i19 from21 k22 at24 m0 m1 m53253 m81925)
def T278_19 (prog:Prog)(K:Bool→Prop)(P1:LB→LB→Int→Img→Sta→Rou→Prop)(P0:LB→LB→LB→Int→Img→Sta→Prop)(name2:BS)(key3:Int)(ok9:Bool)(in10:LB)(slot12:LB)(waits14:LB)(a16:LB)(b17:LB)(c18:LB)(i19:Int)(from21:BS)(k22:Int)(m0:Img)(m1:Sta)(m53253:Rou)(m81925:Frm):Prop:=
  from21.length+([32]:BS).length≤maxStr∧∃r'1:BS,Pus prog 16 [.i .i64 k22] (.s r'1)∧(from21++([32]:BS)).length+r'1.length≤maxStr∧T278_20 prog K P1 P0 name2 key3 ok9 in10 slot12 waits14 a16 b17 c18 i19 from21 k22 ((from21++([32]:BS))++r'1) m0 m1 m53253 m81925
def T278_18 (prog:Prog)(K:Bool→Prop)(P1:LB→LB→Int→Img→Sta→Rou→Prop)(P0:LB→LB→LB→Int→Img→Sta→Prop)(name2:BS)(key3:Int)(ok9:Bool)(in10:LB)(slot12:LB)(waits14:LB)(a16:LB)(b17:LB)(c18:LB)(i19:Int)(from21:BS)(k22:Int)(m0:Img)(m1:Sta)(m53253:Rou):Prop:=
  0≤k22∧∃c'1,m53253.frames[(k22).toNat]?=some c'1∧T278_19 prog K P1 P0 name2 key3 ok9 in10 slot12 waits14 a16 b17 c18 i19 from21 k22 m0 m1 m53253 c'1
def T278_25 (prog:Prog)(K:Bool→Prop)(P0:LB→LB→LB→Int→Img→Sta→Prop)(name2:BS)(key3:Int)(ok9:Bool)(in10:LB)(slot12:LB)(waits14:LB)(a16:LB)(b17:LB)(c18:LB)(i19:Int)(m0:Img)(m1:Sta):Prop:=
  P0 a16 b17 c18 (IntKind.i64.wrap (i19+1)) m0 m1
def T278_17 (prog:Prog)(K:Bool→Prop)(P1:LB→LB→Int→Img→Sta→Rou→Prop)(P0:LB→LB→LB→Int→Img→Sta→Prop)(name2:BS)(key3:Int)(ok9:Bool)(in10:LB)(slot12:LB)(waits14:LB)(a16:LB)(b17:LB)(c18:LB)(i19:Int)(from21:BS)(k22:Int)(m0:Img)(m1:Sta)(m53253:Rou):Prop:=
  (k22<(m53253.frames.length:Int)→T278_18 prog K P1 P0 name2 key3 ok9 in10 slot12 waits14 a16 b17 c18 i19 from21 k22 m0 m1 m53253)∧(¬(k22<(m53253.frames.length:Int))→T278_25 prog K P0 name2 key3 ok9 in10 slot12 waits14 a16 b17 c18 i19 m0 m1)
def T278_16 (prog:Prog)(K:Bool→Prop)(P0:LB→LB→LB→Int→Img→Sta→Prop)(name2:BS)(key3:Int)(ok9:Bool)(in10:LB)(slot12:LB)(waits14:LB)(a16:LB)(b17:LB)(c18:LB)(i19:Int)(from21:BS)(k22:Int)(m0:Img)(m1:Sta)(m53253:Rou):Prop:=
  ∀P1:LB→LB→Int→Img→Sta→Rou→Prop,(∀(a16:LB)(b17:LB)(k22:Int)(m0:Img)(m1:Sta)(m53253:Rou),T278_17 prog K P1 P0 name2 key3 ok9 in10 slot12 waits14 a16 b17 c18 i19 from21 k22 m0 m1 m53253→P1 a16 b17 k22 m0 m1 m53253)→P1 a16 b17 k22 m0 m1 m53253
def T278_15 (prog:Prog)(K:Bool→Prop)(P0:LB→LB→LB→Int→Img→Sta→Prop)(name2:BS)(key3:Int)(ok9:Bool)(in10:LB)(slot12:LB)(waits14:LB)(a16:LB)(b17:LB)(c18:LB)(i19:Int)(from21:BS)(m0:Img)(m1:Sta)(m53253:Rou):Prop:=
  T278_16 prog K P0 name2 key3 ok9 in10 slot12 waits14 a16 b17 c18 i19 from21 0 m0 m1 m53253
def T278_14 (prog:Prog)(K:Bool→Prop)(P0:LB→LB→LB→Int→Img→Sta→Prop)(name2:BS)(key3:Int)(ok9:Bool)(in10:LB)(slot12:LB)(waits14:LB)(a16:LB)(b17:LB)(c18:LB)(i19:Int)(from21:BS)(t99:Bool)(m0:Img)(m1:Sta)(m53253:Rou):Prop:=
  (t99=true→([103,111,114,111,117,116,105,110,101,32]:BS).length+from21.length≤maxStr∧Fit (c18.length+[(([103,111,114,111,117,116,105,110,101,32]:BS)++from21)].length) 16∧T278_15 prog K P0 name2 key3 ok9 in10 slot12 waits14 a16 b17 (c18++[(([103,111,114,111,117,116,105,110,101,32]:BS)++from21)]) i19 from21 m0 m1 m53253)∧(t99=false→T278_15 prog K P0 name2 key3 ok9 in10 slot12 waits14 a16 b17 c18 i19 from21 m0 m1 m53253)
def T278_13 (prog:Prog)(K:Bool→Prop)(P0:LB→LB→LB→Int→Img→Sta→Prop)(name2:BS)(key3:Int)(ok9:Bool)(in10:LB)(slot12:LB)(waits14:LB)(a16:LB)(b17:LB)(c18:LB)(i19:Int)(from21:BS)(m0:Img)(m1:Sta)(m53253:Rou):Prop:=
  (m53253.status=2→T278_14 prog K P0 name2 key3 ok9 in10 slot12 waits14 a16 b17 c18 i19 from21 (decide (m53253.key=key3)) m0 m1 m53253)∧(¬(m53253.status=2)→T278_14 prog K P0 name2 key3 ok9 in10 slot12 waits14 a16 b17 c18 i19 from21 false m0 m1 m53253)
def T278_12 (prog:Prog)(K:Bool→Prop)(P0:LB→LB→LB→Int→Img→Sta→Prop)(name2:BS)(key3:Int)(ok9:Bool)(in10:LB)(slot12:LB)(waits14:LB)(a16:LB)(b17:LB)(c18:LB)(i19:Int)(m0:Img)(m1:Sta)(m53253:Rou):Prop:=
  ∃r'1,Pus prog 16 [.i .i64 i19] (.s r'1)∧T278_13 prog K P0 name2 key3 ok9 in10 slot12 waits14 a16 b17 c18 i19 r'1 m0 m1 m53253
def T278_11 (prog:Prog)(K:Bool→Prop)(P0:LB→LB→LB→Int→Img→Sta→Prop)(name2:BS)(key3:Int)(ok9:Bool)(in10:LB)(slot12:LB)(waits14:LB)(a16:LB)(b17:LB)(c18:LB)(i19:Int)(m0:Img)(m1:Sta):Prop:=
  0≤i19∧∃c'1,m1.routines[(i19).toNat]?=some c'1∧T278_12 prog K P0 name2 key3 ok9 in10 slot12 waits14 a16 b17 c18 i19 m0 m1 c'1
def T278_26 (prog:Prog)(K:Bool→Prop)(ok9:Bool)(in10:LB)(slot12:LB)(waits14:LB)(a16:LB)(b17:LB)(c18:LB):Prop:=
  (ok9=true→∃r'2,Pus prog 29 [.sl .ext (List.map rowS in10),.sl .ext (List.map rowS a16)] (.b r'2)∧(r'2=true→∃r'5,Pus prog 29 [.sl .ext (List.map rowS slot12),.sl .ext (List.map rowS b17)] (.b r'5)∧(r'5=true→∃r'8,Pus prog 29 [.sl .ext (List.map rowS waits14),.sl .ext (List.map rowS c18)] (.b r'8)∧K r'8)∧(r'5=false→K false))∧(r'2=false→K false))∧(ok9=false→K false)
def T278_10 (prog:Prog)(K:Bool→Prop)(P0:LB→LB→LB→Int→Img→Sta→Prop)(name2:BS)(key3:Int)(ok9:Bool)(in10:LB)(slot12:LB)(waits14:LB)(a16:LB)(b17:LB)(c18:LB)(i19:Int)(m0:Img)(m1:Sta):Prop:=
  (i19<(m1.routines.length:Int)→T278_11 prog K P0 name2 key3 ok9 in10 slot12 waits14 a16 b17 c18 i19 m0 m1)∧(¬(i19<(m1.routines.length:Int))→T278_26 prog K ok9 in10 slot12 waits14 a16 b17 c18)
def T278_9 (prog:Prog)(K:Bool→Prop)(name2:BS)(key3:Int)(ok9:Bool)(in10:LB)(slot12:LB)(waits14:LB)(a16:LB)(b17:LB)(c18:LB)(i19:Int)(m0:Img)(m1:Sta):Prop:=
  ∀P0:LB→LB→LB→Int→Img→Sta→Prop,(∀(a16:LB)(b17:LB)(c18:LB)(i19:Int)(m0:Img)(m1:Sta),T278_10 prog K P0 name2 key3 ok9 in10 slot12 waits14 a16 b17 c18 i19 m0 m1→P0 a16 b17 c18 i19 m0 m1)→P0 a16 b17 c18 i19 m0 m1
def T278_8 (prog:Prog)(K:Bool→Prop)(name2:BS)(key3:Int)(ok9:Bool)(in10:LB)(slot12:LB)(waits14:LB)(a16:LB)(b17:LB)(c18:LB)(m0:Img)(m1:Sta):Prop:=
  T278_9 prog K name2 key3 ok9 in10 slot12 waits14 a16 b17 c18 0 m0 m1
def T278_7 (prog:Prog)(K:Bool→Prop)(name2:BS)(key3:Int)(ok9:Bool)(in10:LB)(slot12:LB)(waits14:LB)(m0:Img)(m1:Sta):Prop:=
  T278_8 prog K name2 key3 ok9 in10 slot12 waits14 ([]:LB) ([]:LB) ([]:LB) m0 m1
def T278_6 (prog:Prog)(K:Bool→Prop)(name2:BS)(key3:Int)(ok9:Bool)(in10:LB)(e11:Int)(slot12:LB)(f13:Int)(waits14:LB)(g15:Int)(m0:Img)(m1:Sta):Prop:=
  (e11≠0→K false)∧(¬(e11≠0)→(f13≠0→K false)∧(¬(f13≠0)→(g15≠0→K false)∧(¬(g15≠0)→T278_7 prog K name2 key3 ok9 in10 slot12 waits14 m0 m1)))
def T278_5 (prog:Prog)(K:Bool→Prop)(name2:BS)(key3:Int)(ok9:Bool)(in10:LB)(e11:Int)(slot12:LB)(f13:Int)(m0:Img)(m1:Sta):Prop:=
  ∃r'1 r'2,Pus prog 264 [m0.av,m1.av,.ag [.i .u8 6,.i .i64 0,.i .i64 0,.i .i64 key3,.s []]] (.tup [.sl .ext (List.map rowS r'1),.i .i64 r'2])∧T278_6 prog K name2 key3 ok9 in10 e11 slot12 f13 r'1 r'2 m0 m1
def T278_4 (prog:Prog)(K:Bool→Prop)(name2:BS)(key3:Int)(ok9:Bool)(in10:LB)(e11:Int)(m0:Img)(m1:Sta):Prop:=
  ∃r'1 r'2,Pus prog 264 [m0.av,m1.av,.ag [.i .u8 8,.i .i64 0,.i .i64 0,.i .i64 0,.s name2]] (.tup [.sl .ext (List.map rowS r'1),.i .i64 r'2])∧T278_5 prog K name2 key3 ok9 in10 e11 r'1 r'2 m0 m1
def T278_3 (prog:Prog)(K:Bool→Prop)(name2:BS)(key3:Int)(ok9:Bool)(m0:Img)(m1:Sta):Prop:=
  ∃r'1 r'2,Pus prog 264 [m0.av,m1.av,.ag [.i .u8 7,.i .i64 0,.i .i64 0,.i .i64 0,.s name2]] (.tup [.sl .ext (List.map rowS r'1),.i .i64 r'2])∧T278_4 prog K name2 key3 ok9 r'1 r'2 m0 m1
def T278_2 (prog:Prog)(K:Bool→Prop)(name2:BS)(key3:Int)(ok9:Bool)(m0:Img)(m1:Sta):Prop:=
  ∃r'1,Pus prog 282 [m0.av,m1.av] (.b r'1)∧((!r'1)=true→K ok9)∧((!r'1)=false→((name2.length:Int)>16→K ok9)∧(¬((name2.length:Int)>16)→((!ok9)=true→K ok9)∧((!ok9)=false→T278_3 prog K name2 key3 ok9 m0 m1)))
def T278_1 (prog:Prog)(K:Bool→Prop)(name2:BS)(key3:Int)(m0:Img)(m1:Sta):Prop:=
  ∃r'1,Pus prog 256 [] (.b r'1)∧T278_2 prog K name2 key3 r'1 m0 m1
def T278_0 (prog:Prog)(K:Bool→Prop)(m0:Img)(s1:Sta)(name2:BS)(key3:Int):Prop:=
  T278_1 prog K name2 key3 m0 s1
section
variable {prog:Prog}{d:Nat}{Q:AE→Sl→St→Prop}{K:Bool→Prop}(hQ:H1 AV.b 8 Q K){σ:Sl}{st:St}
include hQ
variable {name2:BS}{key3:Int}{ok9:Bool}{in10 slot12 waits14 a16 b17 c18:LB}{i19:Int}{from21:BS}{k22:Int}{at24:BS}{n25:Int}{m0:Img}{m1:Sta}{m53253:Rou}{m81925:Frm}{P2:LB→Int→Img→Sta→Rou→Frm→Prop}{P1:LB→LB→Int→Img→Sta→Rou→Prop}{P0:LB→LB→LB→Int→Img→Sta→Prop}{o_in10 o_slot12 o_waits14 o_a16 o_b17 o_c18:Own}{v0 v1 v53253 v81925:Nat}{t99:Bool}{e11 f13 g15:Int}{s1:Sta}
variable (kP2 :∀(b17:LB)(n25:Int)(m0:Img)(m1:Sta)(m53253:Rou)(m81925:Frm),P2 b17 n25 m0 m1 m53253 m81925→I278_2 prog d Q name2 key3 ok9 in10 slot12 waits14 a16 c18 i19 from21 k22 at24 b17 n25 m0 m1 m53253 m81925)(H0:σ 0=m0.av) (kP1 :∀(a16:LB)(b17:LB)(k22:Int)(m0:Img)(m1:Sta)(m53253:Rou),P1 a16 b17 k22 m0 m1 m53253→I278_1 prog d Q name2 key3 ok9 in10 slot12 waits14 c18 i19 from21 a16 b17 k22 m0 m1 m53253)(H1:σ 1=s1.av) (kP0 :∀(a16:LB)(b17:LB)(c18:LB)(i19:Int)(m0:Img)(m1:Sta),P0 a16 b17 c18 i19 m0 m1→I278_0 prog d Q name2 key3 ok9 in10 slot12 waits14 a16 b17 c18 i19 m0 m1)(H2:σ 2=.s name2)(H3:σ 3=.i .i64 key3)(H4:σ 4=.p (d,0) v0 0)(H5:σ 5=.p (d,1) v1 0)(H9:σ 9=.b ok9)(H10:σ 10=.sl o_in10 (List.map rowS in10))(H11:σ 11=.i .i64 e11)(H12:σ 12=.sl o_slot12 (List.map rowS slot12))(H13:σ 13=.i .i64 f13)(H14:σ 14=.sl o_waits14 (List.map rowS waits14))(H16:σ 16=.sl o_a16 (List.map rowS a16))(H15:σ 15=.i .i64 g15)(H17:σ 17=.sl o_b17 (List.map rowS b17))(H18:σ 18=.sl o_c18 (List.map rowS c18))(H19:σ 19=.i .i64 i19)(H20:σ 20=.p (d,53253) v53253 0)(H21:σ 21=.s from21)(H22:σ 22=.i .i64 k22)(H99:σ 99=.b t99)(H23:σ 23=.p (d,81925) v81925 0)(H24:σ 24=.s at24)(H25:σ 25=.i .i64 n25)(A16:ApS [94216] d st.ow o_a16 a16.length)(A17:ApS [126991] d st.ow o_b17 b17.length)(A18:ApS [65540] d st.ow o_c18 c18.length)(B0:lk st.bx (d,0)=some (v0,[.sl .ext (List.map Typ.row m0.types),.sl .ext (List.map rowS m0.texts),.sl .ext (List.map Fun.row m0.funcs)]))(B1:lk st.bx (d,1)=some (v1,[.i .u8 m1.outcome,.i .i64 m1.failing,.i .i64 m1.steps,.sl .ext (List.map Rou.row m1.routines)]))(B53253:lk st.bx (d,53253)=some (v53253,[.i .u8 m53253.status,.i .i64 m53253.key,.sl .ext (List.map Frm.row m53253.frames),.sl .ext (List.map Dfr.row m53253.defers),.sl .ext (List.map Pan.row m53253.panics)]))(B81925:lk st.bx (d,81925)=some (v81925,[.i .i64 m81925.func,.i .i64 m81925.pos,.i .u64 m81925.mode,.sl .ext (List.map Loc.row m81925.locals)]))
include kP2 kP1 kP0 H2 H3 H4 H5 H9 H10 H12 H14 H16 H17 H18 H19 H20 H21 H22 H23 H24 H25 A16 A17 A18 B0 B1 B53253 B81925 in
theorem w278_23 (h:T278_23 prog K P2 P1 P0 name2 key3 ok9 in10 slot12 waits14 a16 b17 c18 i19 from21 k22 at24 n25 m0 m1 m53253 m81925):W prog d c278_1 σ st (thenW prog d (.loop l278_2) (blockW 4 (blockW 3 (thenW prog d c278_6 (thenW prog d (.loop l278_1) (blockW 2 (blockW 1 (thenW prog d c278_13 (thenW prog d (.loop l278_0) (blockW 0 (thenW prog d c278_17 Q))))))))))):=
 W.reg0 J fun _ _=>m_ (b_ H25 J add_ (m_ (e_ (kP2 _ _ _ _ _ _ h _ _ _ _ _ _ _ _ _ _ _ _ H2 H3 H4 H5 H9 H10 H12 H14 H16 H17 H18 H19 H20 H21 H22 H23 H24 J A16 A17 A18 B0 B1 B53253 B81925))))
include kP1 kP0 H2 H3 H4 H5 H9 H10 H12 H14 H16 H17 H18 H19 H20 H21 H22 A16 A17 A18 B0 B1 B53253 in
theorem w278_24 (h:T278_24 prog K P1 P0 name2 key3 ok9 in10 slot12 waits14 a16 b17 c18 i19 from21 k22 m0 m1 m53253):W prog d c278_6 σ st (thenW prog d (.loop l278_1) (blockW 2 (blockW 1 (thenW prog d c278_13 (thenW prog d (.loop l278_0) (blockW 0 (thenW prog d c278_17 Q))))))):=
 W.reg0 J fun _ _=>m_ (b_ H22 J add_ (m_ (e_ (kP1 _ _ _ _ _ _ h _ _ _ _ _ _ _ _ _ _ _ H2 H3 H4 H5 H9 H10 H12 H14 H16 H17 H18 H19 H20 H21 J A16 A17 A18 B0 B1 B53253))))
include kP2 kP1 kP0 H2 H3 H4 H5 H9 H10 H12 H14 H16 H17 H18 H19 H20 H21 H22 H23 H24 H25 A16 A17 A18 B0 B1 B53253 B81925 in
theorem w278_22 (h:T278_22 prog K P2 P1 P0 name2 key3 ok9 in10 slot12 waits14 a16 b17 c18 i19 from21 k22 at24 n25 m0 m1 m53253 m81925):W prog d l278_2 σ st (thenW prog d (.loop l278_2) (blockW 4 (blockW 3 (thenW prog d c278_6 (thenW prog d (.loop l278_1) (blockW 2 (blockW 1 (thenW prog d c278_13 (thenW prog d (.loop l278_0) (blockW 0 (thenW prog d c278_17 Q))))))))))):=
 sq_ (q_ J (m_ (f_ H23 (l_ J B81925 J J (ll_ J (b_ H25 J lss_ (e_ (cs_ J (fun g'1=>sk_ (sq_ (bk_ (q_ J (f_ H23 (l_ J B81925 J J (m_ ((h.1 g'1).2.elim fun c'2 e'3=>ia_ J H25 (h.1 g'1).1 e'3.1 (Loc.row_eq c'2) J (ff_ J (lf_ J J J (e'3.2.elim fun r'4 e'24=>e'24.elim fun r'5 e'6=>ca_ (sc J J sn) e'6.1 (m_ (x_ J J (x_ J J (m_ (m_ (e_ (sq_ (q_ J (m_ (b_ J J neq_ (e_ (cs_ J (fun g'7=>q_ J (m_ (e_ (rt_ (hQ _ _ _ J (e'6.2.1 g'7)))))) (fun g'7=>sk_ (q_ J (f_ H4 (l_ J B0 J J (f_ H23 (l_ J B81925 J J ((e'6.2.2 g'7).2.elim fun c'8 e'9=>ia_ J J (e'6.2.2 g'7).1 e'9.1 (Fun.row_eq c'8) J (ff_ J (lf_ J J J (f_ H23 (l_ J B81925 J J (m_ (e'9.2.2.elim fun c'10 e'11=>ia_ J H25 e'9.2.1 e'11.1 (Loc.row_eq c'10) J (ff_ J (lf_ J J J (e'11.2.2.elim fun c'12 e'13=>ia_ J J e'11.2.1 e'13.1 (Fld.row_eq c'12) J (ff_ J (lf_ J J J (m_ (b_ J H2 seq_ (e_ (cs_ J (fun g'14=>W.reg0 J fun _ _=>s_mvL H17 (m_ (b_ H24 J (abin_cat' (e'13.2.1 g'14).1) (f_ H23 (l_ J B81925 J J (m_ ((e'13.2.1 g'14).2.2.elim fun c'15 e'16=>ia_ J H25 (e'13.2.1 g'14).2.1 e'16.1 (Loc.row_eq c'15) J (ff_ J (lf_ J J J (e'16.2.elim fun r'17 e'18=>ca_ (sc J J sn) e'18.1 (b_ J J (abin_cat' e'18.2.1) (b_ J J (abin_cat' e'18.2.2.1) (m_ (b_ J J (abin_cat' e'18.2.2.2.1) (s_bslM (f:=rowS) (l:=[((((at24++([32]:BS))++r'17)++([32,61,32]:BS))++r'4)]) J J (g_cons J J J g_nil) J (s_app rowS_len J J J A17.1 e'18.2.2.2.2.1 J (fun o'19 ow'22 a'20 fr'21 on'23=>s_mvL J (e_ (w278_23 hQ kP2 kP1 kP0 H2 H3 H4 H5 H9 H10 H12 H14 H16 J H18 H19 H20 H21 H22 H23 H24 H25 (ApS.keep A16 A17 fr'21 J J) (ApS.new A17 a'20 on'23 J) (ApS.keep A18 A17 fr'21 J J) B0 B1 B53253 B81925 e'18.2.2.2.2.2))))))))))))))))))) (fun g'14=>sk_ (w278_23 hQ kP2 kP1 kP0 H2 H3 H4 H5 H9 H10 H12 H14 H16 H17 H18 H19 H20 H21 H22 H23 H24 H25 A16 A17 A18 B0 B1 B53253 B81925 (e'13.2.2 g'14)))))))))))))))))))))))))))))))))))))))))))))))) (fun g'1=>ex_ (w278_24 hQ kP1 kP0 H2 H3 H4 H5 H9 H10 H12 H14 H16 H17 H18 H19 H20 H21 H22 A16 A17 A18 B0 B1 B53253 (h.2 g'1)))))))))))
include kP1 kP0 H2 H3 H4 H5 H9 H10 H12 H14 H16 H17 H18 H19 H20 H21 H22 H23 H24 A16 A17 A18 B0 B1 B53253 B81925 in
theorem w278_21 (h:T278_21 prog K P1 P0 name2 key3 ok9 in10 slot12 waits14 a16 b17 c18 i19 from21 k22 at24 m0 m1 m53253 m81925):W prog d c278_3 σ st (blockW 3 (thenW prog d c278_6 (thenW prog d (.loop l278_1) (blockW 2 (blockW 1 (thenW prog d c278_13 (thenW prog d (.loop l278_0) (blockW 0 (thenW prog d c278_17 Q))))))))):=
 q_ J (m_ (e_ (bk_ (h (I278_2 prog d Q name2 key3 ok9 in10 slot12 waits14 a16 c18 i19 from21 k22 at24) (fun _ _ _ _ _ _ hb _ _ _ _ _ _ _ _ _ _ _ _ H2 H3 H4 H5 H9 H10 H12 H14 H16 H17 H18 H19 H20 H21 H22 H23 H24 H25 A16 A17 A18 B0 B1 B53253 B81925=>W.loop (w278_22 hQ (fun _ _ _ _ _ _ x=>x) kP1 kP0 H2 H3 H4 H5 H9 H10 H12 H14 H16 H17 H18 H19 H20 H21 H22 H23 H24 H25 A16 A17 A18 B0 B1 B53253 B81925 hb)) _ _ _ _ _ _ _ _ _ _ _ _ H2 H3 H4 H5 H9 H10 H12 H14 H16 H17 H18 H19 H20 H21 H22 H23 H24 J A16 A17 A18 B0 B1 B53253 B81925))))
include kP1 kP0 H2 H3 H4 H5 H9 H10 H12 H14 H16 H17 H18 H19 H20 H21 H22 H23 H24 A16 A17 A18 B0 B1 B53253 B81925 in
theorem w278_20 (h:T278_20 prog K P1 P0 name2 key3 ok9 in10 slot12 waits14 a16 b17 c18 i19 from21 k22 at24 m0 m1 m53253 m81925):W prog d c278_4 σ st (blockW 3 (thenW prog d c278_6 (thenW prog d (.loop l278_1) (blockW 2 (blockW 1 (thenW prog d c278_13 (thenW prog d (.loop l278_0) (blockW 0 (thenW prog d c278_17 Q))))))))):=
 sq_ (q_ J (f_ H4 (l_ J B0 J J (f_ H23 (l_ J B81925 J J (h.2.elim fun c'1 e'2=>ia_ J J h.1 e'2.1 (Fun.row_eq c'1) J (ff_ J (lf_ J J J (m_ (b_ J H2 seq_ (e_ (cs_ J (fun g'3=>W.reg0 J fun _ _=>s_mvL H16 (m_ (b_ H24 J (abin_cat' (e'2.2.1 g'3).1) (f_ H23 (l_ J B81925 J J ((e'2.2.1 g'3).2.elim fun r'4 e'5=>ca_ (sc J J sn) e'5.1 (b_ J J (abin_cat' e'5.2.1) (s_bslM (f:=rowS) (l:=[((at24++([32,97,116,32]:BS))++r'4)]) J J (g_cons J J J g_nil) J (s_app rowS_len J J J A16.1 e'5.2.2.1 J (fun o'6 ow'9 a'7 fr'8 on'10=>s_mvL J (e_ (w278_21 hQ kP1 kP0 H2 H3 H4 H5 H9 H10 H12 H14 J H17 H18 H19 H20 H21 H22 H23 H24 (ApS.new A16 a'7 on'10 J) (ApS.keep A17 A16 fr'8 J J) (ApS.keep A18 A16 fr'8 J J) B0 B1 B53253 B81925 e'5.2.2.2)))))))))))) (fun g'3=>sk_ (w278_21 hQ kP1 kP0 H2 H3 H4 H5 H9 H10 H12 H14 H16 H17 H18 H19 H20 H21 H22 H23 H24 A16 A17 A18 B0 B1 B53253 B81925 (e'2.2.2 g'3)))))))))))))))
include kP1 kP0 H2 H3 H4 H5 H9 H10 H12 H14 H16 H17 H18 H19 H20 H21 H22 H23 A16 A17 A18 B0 B1 B53253 B81925 in
theorem w278_19 (h:T278_19 prog K P1 P0 name2 key3 ok9 in10 slot12 waits14 a16 b17 c18 i19 from21 k22 m0 m1 m53253 m81925):W prog d c278_5 σ st (blockW 3 (thenW prog d c278_6 (thenW prog d (.loop l278_1) (blockW 2 (blockW 1 (thenW prog d c278_13 (thenW prog d (.loop l278_0) (blockW 0 (thenW prog d c278_17 Q))))))))):=
 q_ J (m_ (b_ H21 J (abin_cat' h.1) (m_ (h.2.elim fun r'1 e'2=>ca_ (sc H22 J sn) e'2.1 (b_ J J (abin_cat' e'2.2.1) (m_ (e_ (w278_20 hQ kP1 kP0 H2 H3 H4 H5 H9 H10 H12 H14 H16 H17 H18 H19 H20 H21 H22 H23 J A16 A17 A18 B0 B1 B53253 B81925 e'2.2.2))))))))
include kP1 kP0 H2 H3 H4 H5 H9 H10 H12 H14 H16 H17 H18 H19 H20 H21 H22 A16 A17 A18 B0 B1 B53253 in
theorem w278_18 (h:T278_18 prog K P1 P0 name2 key3 ok9 in10 slot12 waits14 a16 b17 c18 i19 from21 k22 m0 m1 m53253):W prog d c278_7 σ st (thenW prog d (.loop l278_1) (blockW 2 (blockW 1 (thenW prog d c278_13 (thenW prog d (.loop l278_0) (blockW 0 (thenW prog d c278_17 Q))))))):=
 sq_ (bk_ (sq_ (W.reg (f_ H20 (l_ J (lk_other J B53253) J J (m_ (h.2.elim fun c'1 e'2=>ia_ J H22 h.1 e'2.1 (Frm.row_eq c'1) J (lf_ J J J (s_alloc (so_ J (show lk _ (d,81925)=some (_,([.i .i64 0,.i .i64 0,.i .u64 0,.sl .full (List.map Loc.row ([]:List Loc))]:List AV)) from lk_here) J J J (e_ (w278_19 hQ kP1 kP0 H2 H3 H4 H5 H9 H10 H12 H14 H16 H17 H18 H19 H20 H21 H22 J A16 A17 A18 (lk_other J (lk_other J B0)) (lk_other J (lk_other J B1)) (lk_other J (lk_other J B53253)) lk_here e'2.2))))))))))))
include kP0 H2 H3 H4 H5 H9 H10 H12 H14 H16 H17 H18 H19 A16 A17 A18 B0 B1 in
theorem w278_25 (h:T278_25 prog K P0 name2 key3 ok9 in10 slot12 waits14 a16 b17 c18 i19 m0 m1):W prog d c278_13 σ st (thenW prog d (.loop l278_0) (blockW 0 (thenW prog d c278_17 Q))):=
 W.reg0 J fun _ _=>m_ (b_ H19 J add_ (m_ (e_ (kP0 _ _ _ _ _ _ h _ _ _ _ _ _ _ _ _ _ H2 H3 H4 H5 H9 H10 H12 H14 H16 H17 H18 J A16 A17 A18 B0 B1))))
include kP1 kP0 H2 H3 H4 H5 H9 H10 H12 H14 H16 H17 H18 H19 H20 H21 H22 A16 A17 A18 B0 B1 B53253 in
theorem w278_17 (h:T278_17 prog K P1 P0 name2 key3 ok9 in10 slot12 waits14 a16 b17 c18 i19 from21 k22 m0 m1 m53253):W prog d l278_1 σ st (thenW prog d (.loop l278_1) (blockW 2 (blockW 1 (thenW prog d c278_13 (thenW prog d (.loop l278_0) (blockW 0 (thenW prog d c278_17 Q))))))):=
 sq_ (q_ J (m_ (f_ H20 (l_ J B53253 J J (ll_ J (b_ H22 J lss_ (e_ (cs_ J (fun g'1=>sk_ (w278_18 hQ kP1 kP0 H2 H3 H4 H5 H9 H10 H12 H14 H16 H17 H18 H19 H20 H21 H22 A16 A17 A18 B0 B1 B53253 (h.1 g'1))) (fun g'1=>ex_ (w278_25 hQ kP0 H2 H3 H4 H5 H9 H10 H12 H14 H16 H17 H18 H19 A16 A17 A18 B0 B1 (h.2 g'1)))))))))))
include kP0 H2 H3 H4 H5 H9 H10 H12 H14 H16 H17 H18 H19 H20 H21 H22 A16 A17 A18 B0 B1 B53253 in
theorem w278_16 (h:T278_16 prog K P0 name2 key3 ok9 in10 slot12 waits14 a16 b17 c18 i19 from21 k22 m0 m1 m53253):W prog d c278_9 σ st (blockW 1 (thenW prog d c278_13 (thenW prog d (.loop l278_0) (blockW 0 (thenW prog d c278_17 Q))))):=
 bk_ (h (I278_1 prog d Q name2 key3 ok9 in10 slot12 waits14 c18 i19 from21) (fun _ _ _ _ _ _ hb _ _ _ _ _ _ _ _ _ _ _ H2 H3 H4 H5 H9 H10 H12 H14 H16 H17 H18 H19 H20 H21 H22 A16 A17 A18 B0 B1 B53253=>W.loop (w278_17 hQ (fun _ _ _ _ _ _ x=>x) kP0 H2 H3 H4 H5 H9 H10 H12 H14 H16 H17 H18 H19 H20 H21 H22 A16 A17 A18 B0 B1 B53253 hb)) _ _ _ _ _ _ _ _ _ _ _ H2 H3 H4 H5 H9 H10 H12 H14 H16 H17 H18 H19 H20 H21 H22 A16 A17 A18 B0 B1 B53253)
include kP0 H2 H3 H4 H5 H9 H10 H12 H14 H16 H17 H18 H19 H20 H21 A16 A17 A18 B0 B1 B53253 in
theorem w278_15 (h:T278_15 prog K P0 name2 key3 ok9 in10 slot12 waits14 a16 b17 c18 i19 from21 m0 m1 m53253):W prog d c278_10 σ st (blockW 1 (thenW prog d c278_13 (thenW prog d (.loop l278_0) (blockW 0 (thenW prog d c278_17 Q))))):=
 q_ J (m_ (e_ (w278_16 hQ kP0 H2 H3 H4 H5 H9 H10 H12 H14 H16 H17 H18 H19 H20 H21 J A16 A17 A18 B0 B1 B53253 h)))
include kP0 H2 H3 H4 H5 H9 H10 H12 H14 H16 H17 H18 H19 H20 H21 H99 A16 A17 A18 B0 B1 B53253 in
theorem w278_14 (h:T278_14 prog K P0 name2 key3 ok9 in10 slot12 waits14 a16 b17 c18 i19 from21 t99 m0 m1 m53253):W prog d c278_0 σ st (thenW prog d c278_10 (blockW 1 (thenW prog d c278_13 (thenW prog d (.loop l278_0) (blockW 0 (thenW prog d c278_17 Q)))))):=
 cb_ H99 (fun g'1=>W.reg0 J fun _ _=>s_mvL H18 (m_ (b_ J H21 (abin_cat' (h.1 g'1).1) (s_bslM (f:=rowS) (l:=[(([103,111,114,111,117,116,105,110,101,32]:BS)++from21)]) J J (g_cons J J J g_nil) J (s_app rowS_len J J J A18.1 (h.1 g'1).2.1 J (fun o'2 ow'5 a'3 fr'4 on'6=>s_mvL J (e_ (w278_15 hQ kP0 H2 H3 H4 H5 H9 H10 H12 H14 H16 H17 J H19 H20 H21 (ApS.keep A16 A18 fr'4 J J) (ApS.keep A17 A18 fr'4 J J) (ApS.new A18 a'3 on'6 J) B0 B1 B53253 (h.1 g'1).2.2)))))))) (fun g'1=>sk_ (w278_15 hQ kP0 H2 H3 H4 H5 H9 H10 H12 H14 H16 H17 H18 H19 H20 H21 A16 A17 A18 B0 B1 B53253 (h.2 g'1)))
include kP0 H2 H3 H4 H5 H9 H10 H12 H14 H16 H17 H18 H19 H20 H21 A16 A17 A18 B0 B1 B53253 in
theorem w278_13 (h:T278_13 prog K P0 name2 key3 ok9 in10 slot12 waits14 a16 b17 c18 i19 from21 m0 m1 m53253):W prog d c278_11 σ st (blockW 1 (thenW prog d c278_13 (thenW prog d (.loop l278_0) (blockW 0 (thenW prog d c278_17 Q))))):=
 sq_ (q_ J (f_ H20 (l_ J B53253 J J (b_ J J eql_ (s_mvB J (em_ (g:=94) J (fun g'1=>gy_ J (f_ H20 (gy_ J (l_ J B53253 J J (gy_ J (s_mvI H3 (gy_ J (b_ J J eql_ (pt_ J J (e_ (w278_14 hQ kP0 H2 H3 H4 H5 H9 H10 H12 H14 H16 H17 H18 H19 H20 H21 J A16 A17 A18 B0 B1 B53253 (h.1 g'1)))))))))))) (fun g'1=>nF4 J J J J (pf_ J J (e_ (w278_14 hQ kP0 H2 H3 H4 H5 H9 H10 H12 H14 H16 H17 H18 H19 H20 H21 J A16 A17 A18 B0 B1 B53253 (h.2 g'1)))))))))))
include kP0 H2 H3 H4 H5 H9 H10 H12 H14 H16 H17 H18 H19 H20 A16 A17 A18 B0 B1 B53253 in
theorem w278_12 (h:T278_12 prog K P0 name2 key3 ok9 in10 slot12 waits14 a16 b17 c18 i19 m0 m1 m53253):W prog d c278_12 σ st (blockW 1 (thenW prog d c278_13 (thenW prog d (.loop l278_0) (blockW 0 (thenW prog d c278_17 Q))))):=
 q_ J (m_ (h.elim fun r'1 e'2=>ca_ (sc H19 J sn) e'2.1 (m_ (e_ (w278_13 hQ kP0 H2 H3 H4 H5 H9 H10 H12 H14 H16 H17 H18 H19 H20 J A16 A17 A18 B0 B1 B53253 e'2.2)))))
include kP0 H2 H3 H4 H5 H9 H10 H12 H14 H16 H17 H18 H19 A16 A17 A18 B0 B1 in
theorem w278_11 (h:T278_11 prog K P0 name2 key3 ok9 in10 slot12 waits14 a16 b17 c18 i19 m0 m1):W prog d c278_14 σ st (thenW prog d (.loop l278_0) (blockW 0 (thenW prog d c278_17 Q))):=
 sq_ (bk_ (sq_ (W.reg (f_ H5 (l_ J (lk_other J B1) J J (m_ (h.2.elim fun c'1 e'2=>ia_ J H19 h.1 e'2.1 (Rou.row_eq c'1) J (lf_ J J J (s_alloc (so_ J (show lk _ (d,53253)=some (_,([.i .u8 0,.i .i64 0,.sl .full (List.map Frm.row ([]:List Frm)),.sl .full (List.map Dfr.row ([]:List Dfr)),.sl .full (List.map Pan.row ([]:List Pan))]:List AV)) from lk_here) J J J (e_ (w278_12 hQ kP0 H2 H3 H4 H5 H9 H10 H12 H14 H16 H17 H18 H19 J A16 A17 A18 (lk_other J (lk_other J B0)) (lk_other J (lk_other J B1)) lk_here e'2.2))))))))))))
include H9 H10 H12 H14 H16 H17 H18 A16 A17 A18 in
theorem w278_26 (h:T278_26 prog K ok9 in10 slot12 waits14 a16 b17 c18):W prog d c278_17 σ st Q:=
 q_ J (s_mvB H9 (s_mvB J (eb_ (g:=194) J (fun g'1=>gy_ J (s_mvL H10 (gy_ J (s_mvL H16 (gy_ J ((h.1 g'1).elim fun r'2 e'3=>ca_ (sc J J (sc J J sn)) e'3.1 (pt_ J J (s_mvB J (eb_ (g:=199) J (fun g'4=>gy_ J (s_mvL H12 (gy_ J (s_mvL H17 (gy_ J ((e'3.2.1 g'4).elim fun r'5 e'6=>ca_ (sc J J (sc J J sn)) e'6.1 (pt_ J J (s_mvB J (eb_ (g:=204) J (fun g'7=>gy_ J (s_mvL H14 (gy_ J (s_mvL H18 (gy_ J ((e'6.2.1 g'7).elim fun r'8 e'9=>ca_ (sc J J (sc J J sn)) e'9.1 (pt_ J J (s_mvB J (e_ (rt_ (hQ _ _ _ J e'9.2))))))))))) (fun g'7=>nF3 J J J (pf_ J J (s_mvB J (e_ (rt_ (hQ _ _ _ J (e'6.2.2 g'7)))))))))))))))) (fun g'4=>nF3 J J J (pf_ J J (s_mvB J (nF3 J J J (pf_ J J (s_mvB J (e_ (rt_ (hQ _ _ _ J (e'3.2.2 g'4))))))))))))))))))) (fun g'1=>nF3 J J J (pf_ J J (s_mvB J (nF3 J J J (pf_ J J (s_mvB J (nF3 J J J (pf_ J J (s_mvB J (e_ (rt_ (hQ _ _ _ J (h.2 g'1))))))))))))))))
include kP0 H2 H3 H4 H5 H9 H10 H12 H14 H16 H17 H18 H19 A16 A17 A18 B0 B1 in
theorem w278_10 (h:T278_10 prog K P0 name2 key3 ok9 in10 slot12 waits14 a16 b17 c18 i19 m0 m1):W prog d l278_0 σ st (thenW prog d (.loop l278_0) (blockW 0 (thenW prog d c278_17 Q))):=
 sq_ (q_ J (m_ (f_ H5 (l_ J B1 J J (ll_ J (b_ H19 J lss_ (e_ (cs_ J (fun g'1=>sk_ (w278_11 hQ kP0 H2 H3 H4 H5 H9 H10 H12 H14 H16 H17 H18 H19 A16 A17 A18 B0 B1 (h.1 g'1))) (fun g'1=>ex_ (w278_26 hQ H9 H10 H12 H14 H16 H17 H18 A16 A17 A18 (h.2 g'1)))))))))))
include H2 H3 H4 H5 H9 H10 H12 H14 H16 H17 H18 H19 A16 A17 A18 B0 B1 in
theorem w278_9 (h:T278_9 prog K name2 key3 ok9 in10 slot12 waits14 a16 b17 c18 i19 m0 m1):W prog d c278_16 σ st (thenW prog d c278_17 Q):=
 bk_ (h (I278_0 prog d Q name2 key3 ok9 in10 slot12 waits14) (fun _ _ _ _ _ _ hb _ _ _ _ _ _ _ _ _ _ H2 H3 H4 H5 H9 H10 H12 H14 H16 H17 H18 H19 A16 A17 A18 B0 B1=>W.loop (w278_10 hQ (fun _ _ _ _ _ _ x=>x) H2 H3 H4 H5 H9 H10 H12 H14 H16 H17 H18 H19 A16 A17 A18 B0 B1 hb)) _ _ _ _ _ _ _ _ _ _ H2 H3 H4 H5 H9 H10 H12 H14 H16 H17 H18 H19 A16 A17 A18 B0 B1)
include H2 H3 H4 H5 H9 H10 H12 H14 H16 H17 H18 A16 A17 A18 B0 B1 in
theorem w278_8 (h:T278_8 prog K name2 key3 ok9 in10 slot12 waits14 a16 b17 c18 m0 m1):W prog d c278_18 σ st Q:=
 sq_ (q_ J (m_ (e_ (w278_9 hQ H2 H3 H4 H5 H9 H10 H12 H14 H16 H17 H18 J A16 A17 A18 B0 B1 h))))
include H2 H3 H4 H5 H9 H10 H12 H14 B0 B1 in
theorem w278_7 (h:T278_7 prog K name2 key3 ok9 in10 slot12 waits14 m0 m1):W prog d c278_19 σ st Q:=
 q_ J (s_mvL (f:=rowS) (l:=[]) J (s_mvL (f:=rowS) (l:=[]) J (s_mvL (f:=rowS) (l:=[]) J (e_ (w278_8 hQ H2 H3 H4 H5 H9 H10 H12 H14 J J J ApS.full ApS.full ApS.full B0 B1 h)))))
include H2 H3 H4 H5 H9 H10 H11 H12 H13 H14 H15 B0 B1 in
theorem w278_6 (h:T278_6 prog K name2 key3 ok9 in10 e11 slot12 f13 waits14 g15 m0 m1):W prog d c278_20 σ st Q:=
 sq_ (q_ J (s_mvI H11 (b_ J J neq_ (s_mvB J (em_ (g:=69) J (fun g'1=>nT2 J J (pt_ J J (s_mvB J (nT2 J J (pt_ J J (e_ (ct_ J (q_ J (m_ (e_ (rt_ (hQ _ _ _ J (h.1 g'1))))))))))))) (fun g'1=>gy_ J (s_mvI H13 (gy_ J (b_ J J neq_ (pf_ J J (s_mvB J (em_ (g:=73) J (fun g'2=>nT2 J J (pt_ J J (e_ (ct_ J (q_ J (m_ (e_ (rt_ (hQ _ _ _ J ((h.2 g'1).1 g'2)))))))))) (fun g'2=>gy_ J (s_mvI H15 (gy_ J (b_ J J neq_ (pf_ J J (e_ (cs_ J (fun g'3=>q_ J (m_ (e_ (rt_ (hQ _ _ _ J (((h.2 g'1).2 g'2).1 g'3)))))) (fun g'3=>sk_ (w278_7 hQ H2 H3 H4 H5 H9 H10 H12 H14 B0 B1 (((h.2 g'1).2 g'2).2 g'3))))))))))))))))))))))
include H2 H3 H4 H5 H9 H10 H11 H12 H13 B0 B1 in
theorem w278_5 (h:T278_5 prog K name2 key3 ok9 in10 e11 slot12 f13 m0 m1):W prog d c278_21 σ st Q:=
 q_ J (l_ H4 B0 J J (l_ H5 B1 J J (m_ (s_build (f_cons J J (f_cons H3 J f_nil)) (h.elim fun r'1 e'4=>e'4.elim fun r'2 e'3=>ca_ (sc J J (sc J J (sc J J sn))) e'3.1 (m_ (x_ J J (x_ J J (s_mvL J (m_ (e_ (w278_6 hQ H2 H3 H4 H5 H9 H10 H11 H12 H13 J J B0 B1 e'3.2))))))))))))
include H2 H3 H4 H5 H9 H10 H11 B0 B1 in
theorem w278_4 (h:T278_4 prog K name2 key3 ok9 in10 e11 m0 m1):W prog d c278_22 σ st Q:=
 q_ J (l_ H4 B0 J J (l_ H5 B1 J J (m_ (s_build (f_cons J J (f_cons H2 J f_nil)) (h.elim fun r'1 e'4=>e'4.elim fun r'2 e'3=>ca_ (sc J J (sc J J (sc J J sn))) e'3.1 (m_ (x_ J J (x_ J J (s_mvL J (m_ (e_ (w278_5 hQ H2 H3 H4 H5 H9 H10 H11 J J B0 B1 e'3.2))))))))))))
include H2 H3 H4 H5 H9 B0 B1 in
theorem w278_3 (h:T278_3 prog K name2 key3 ok9 m0 m1):W prog d c278_23 σ st Q:=
 q_ J (l_ H4 B0 J J (l_ H5 B1 J J (m_ (s_build (f_cons J J (f_cons H2 J f_nil)) (h.elim fun r'1 e'4=>e'4.elim fun r'2 e'3=>ca_ (sc J J (sc J J (sc J J sn))) e'3.1 (m_ (x_ J J (x_ J J (s_mvL J (m_ (e_ (w278_4 hQ H2 H3 H4 H5 H9 J J B0 B1 e'3.2))))))))))))
include H2 H3 H4 H5 H9 B0 B1 in
theorem w278_2 (h:T278_2 prog K name2 key3 ok9 m0 m1):W prog d c278_24 σ st Q:=
 sq_ (q_ J (l_ H4 B0 J J (l_ H5 B1 J J (h.elim fun r'1 e'2=>ca_ (sc J J (sc J J sn)) e'2.1 (nt_ J (s_mvB J (eb_ (g:=33) J (fun g'3=>nT3 J J J (pt_ J J (s_mvB J (nT2 J J (pt_ J J (e_ (ct_ J (q_ J (m_ (m_ (e_ (rt_ (hQ _ _ _ H9 (e'2.2.1 g'3)))))))))))))) (fun g'3=>gy_ J (s_mvS H2 (gy_ J (ln_ J (gy_ J (b_ J J gtr_ (pf_ J J (s_mvB J (em_ (g:=38) J (fun g'4=>nT2 J J (pt_ J J (e_ (ct_ J (q_ J (m_ (m_ (e_ (rt_ (hQ _ _ _ H9 ((e'2.2.2 g'3).1 g'4))))))))))) (fun g'4=>gy_ J (s_mvB H9 (gy_ J (nt_ J (pf_ J J (e_ (cb_ J (fun g'5=>q_ J (m_ (m_ (e_ (rt_ (hQ _ _ _ H9 (((e'2.2.2 g'3).2 g'4).1 g'5))))))) (fun g'5=>sk_ (w278_3 hQ H2 H3 H4 H5 H9 B0 B1 (((e'2.2.2 g'3).2 g'4).2 g'5))))))))))))))))))))))))))
include H2 H3 H4 H5 B0 B1 in
theorem w278_1 (h:T278_1 prog K name2 key3 m0 m1):W prog d c278_25 σ st Q:=
 q_ J (h.elim fun r'1 e'2=>ca_ sn e'2.1 (m_ (e_ (w278_2 hQ H2 H3 H4 H5 J B0 B1 e'2.2))))
include H0 H1 H2 H3 in
theorem w278_0 (h:T278_0 prog K m0 s1 name2 key3):W prog d (sR 0 r278_0 c278_25) σ st Q:=
 q_ J (s_box H0 J (s_box H1 J (m_ (e_ (w278_1 hQ H2 H3 J J (lk_other J lk_here) lk_here h)))))
end
theorem p278 {prog:Prog}(hf:prog.fn 278=some pf278){m0:Img}{s1:Sta}{name2:BS}{key3:Int}{K:Bool→Prop}(h:T278_0 prog K m0 s1 name2 key3) :∃res0:Bool,K res0∧Pus prog 278 [m0.av,s1.av,.s name2,.i .i64 key3] (.b res0):=
 P1 hf J (w278_0 (h1 J fun _=>J) J J J J h)
end Go.AM

/- Parts of the proof. -/
namespace Go.AM
open Go
set_option linter.unusedVariables false
set_option linter.unusedSimpArgs false
set_option maxRecDepth 4000
attribute [local irreducible] WO fillCells fillRows
abbrev H241 (Q:AE→Sl→St→Prop)(K:Bool→Prop):Prop:=∀(σ:Sl)(st:St)(res0:Bool),σ 0=.b res0→K res0→Q .ret σ st
section
variable {prog:Prog}{d:Nat}{Q:AE→Sl→St→Prop}{K:Bool→Prop}(hQ:H241 Q K){σ:Sl}{st:St}
include hQ
end
end Go.AM

/- Parts of the proof. -/
namespace Go.AM
open Go Go.RowKit
def orcQ:Nat→List AV→Option AV:=fun c args=>if c=257 then (match args with | []=>some (.mp wordL) | _=>none) else orcB c args
theorem orcQ_257:orcQ 257 []=some (.mp wordL):=rfl
theorem orcQ_48 (s:List UInt8) (c:UInt8):orcQ 48 [.s s,.i .u8 (c.toNat:Int)]=some (.i .i64 (Lib.indexByte s c)):=by
 unfold orcQ
 rw [if_neg (by decide)]
 exact orcB_48 s c
theorem orcQ_146 (k:Key) (v:Nat):orcQ 146 [.p k v 0]=some (.p k v 0):=rfl
theorem orcQ_105 (args:List AV):orcQ 105 args=none:=by
 unfold orcQ
 rw [if_neg (by decide)]
 exact orcB_105 args
variable {P:Program} {X:Cx}
theorem orcQ_ok {fs:List (Nat × AF)} {orc:Nat→List AV→St→Option (AV × St)} (hB:OracOk P X { fn:=fnOf fs,orac:=orcB,oracS:=orc }) {f0:Nat} (hf :∀f,X.fm f=some 257→f=f0) (hw :∀w,(callFunc f0 #[]).run P w=.ok (.enter f0 #[]) w∧Calls P f0 #[] w (WordsR w)) :
  OracOk P X { fn:=fnOf fs,orac:=orcQ,oracS:=orc }:=by
 intro f c hfc hn args r hr G w0 st w vals d hG hR hV
 simp only [orcQ] at hr
 split at hr
 case isFalse=>exact hB f c hfc hn args r hr G w0 st w vals d hG hR hV
 rename_i hc
 subst hc
 have:=hf f hfc
 subst this
 split at hr
 case h_2=>cases hr
 cases hr
 have hv:vals=[]:=by
  have:=hV.1
  cases vals with
  | nil=>rfl
  | cons=>simp at this
 subst hv
 refine .inl ⟨(hw w).1,(hw w).2.mono fun e w' he=>?_⟩
 obtain ⟨b,rfl,hb,hge,hbel⟩:=he
 have hnone :∀l,G.M b≠some l:=fun l h=>by
  obtain ⟨es,clock,h1,_⟩:=hR.mp b l h
  have:=(Array.getElem?_eq_some_iff.1 h1).1
  omega
 have hrel:=hR.below hbel
 have hle :∀b' l,G.M b'=some l→(if b'=b then some wordL else G.M b')=some l:=fun b' l h=>by
  rw [if_neg (by rintro rfl;exact hnone l h)]
  exact h
 refine ⟨⟨G.H,G.ρ,G.ω,G.fm,fun b'=>if b'=b then some wordL else G.M b'⟩,.mp wordL b (by show (if b=b then _ else _)=_;rw [if_pos rfl]),⟨⟨fun _ _ _ h=>h,fun _ _ _ h=>h,fun _ _ _ h=>h,rfl,hle⟩,hrel.setM hle fun b' l h=>?_,Nat.le_refl _,fun _ _ _=>⟨rfl,rfl⟩,fun _ _ _ _ _ _ h=>h,fun _ _ _ h=>.inl h⟩⟩
 by_cases e:b'=b
 ·subst e
  rw [if_pos rfl] at h
  cases h
  exact ⟨wordEs,8,hb,wordEs_map⟩
 ·rw [if_neg e] at h
  exact hrel.mp b' l h
end Go.AM

/- Parts of the proof. -/
namespace Go.AM
open Go Go.RowKit
def sA:Code→Code | .seq a _=>a | c=>c
def sB:Code→Code | .seq _ b=>b | c=>c
def unB:Code→Code | .block _ c=>c | .loop c=>c | c=>c
def unC:Code→Code | .cond _ c _=>c | c=>c
def aA:AC→AC | .seq a _=>a | c=>c
def aB:AC→AC | .seq _ b=>b | c=>c
def nog (ops:Array Oper):Bool:=ops.toList.all fun o=>o.guard.isNone
theorem of_nog {ops:Array Oper} (h:nog ops=true) :∀o∈ops.toList,o.guard=none:=fun o ho=>Option.isNone_iff_eq_none.1 (List.all_eq_true.1 h o ho)
def regOps:Code→Array Oper | .region _ o _=>o | _=>#[]
def bodyOf (f:Func):Code:=f.body.getD .skip
def hndOf (h:Code):Code:=
 .seq (.region 5 (regOps (sA h)) false) (.block 0 (.loop (.seq (.region 6 (regOps (sA (unB (unB (sB h))))) false) (.seq (.cond (.tmp 18) .skip (.exit 0)) (.block 1 (.seq (.region 7 (regOps (sA (unB (sB (sB (unB (unB (sB h)))))))) false) (.seq (.region 8 (regOps (sA (sB (unB (sB (sB (unB (unB (sB h))))))))) false) (.cond (.tmp 25) (.region 9 (regOps (unC (sB (sB (unB (sB (sB (unB (unB (sB h)))))))))) false) .skip))))))))
theorem good243 {P:Program} {X:Cx} {F:AF} {c:Code} {x1 x2 x4 x5:AC} (hb:F.body=.seq x1 (.seq x2 (.seq x4 (.seq (.hand hw243) x5)))) (hc:c=.seq (sA c) (.seq (sA (sB c)) (.seq (sA (sB (sB c))) (.seq (hndOf (sA (sB (sB (sB c))))) (sB (sB (sB (sB c))))))))
  (h1:cCode { X with fz:=F.fz } F.nt (sA c)=some x1) (h2:cCode { X with fz:=F.fz } F.nt (sA (sB c))=some x2) (h4:cCode { X with fz:=F.fz } F.nt (sA (sB (sB c)))=some x4) (h5:cCode { X with fz:=F.fz } F.nt (sB (sB (sB (sB c))))=some x5)
  (hh:TTok P X.T→∀d,CodeOk P { X with fz:=F.fz } F.nt d hw243 (hndOf (sA (sB (sB (sB c)))))):GoodF P X F c:=by
 intro hT hm C hC n d
 rw [hb,hc]
 have g1:CodeOk P { X with fz:=F.fz } F.nt d (acode C n d x1) (sA c):=code_ok (X:={ X with fz:=F.fz }) hT hC hm n d _ _ (Nat.lt_succ_self _) h1
 have g2:CodeOk P { X with fz:=F.fz } F.nt d (acode C n d x2) (sA (sB c)):=code_ok (X:={ X with fz:=F.fz }) hT hC hm n d _ _ (Nat.lt_succ_self _) h2
 have g4:CodeOk P { X with fz:=F.fz } F.nt d (acode C n d x4) (sA (sB (sB c))):=code_ok (X:={ X with fz:=F.fz }) hT hC hm n d _ _ (Nat.lt_succ_self _) h4
 have g5:CodeOk P { X with fz:=F.fz } F.nt d (acode C n d x5) (sB (sB (sB (sB c)))):=code_ok (X:={ X with fz:=F.fz }) hT hC hm n d _ _ (Nat.lt_succ_self _) h5
 have gh:CodeOk P { X with fz:=F.fz } F.nt d (acode C n d (.hand hw243)) (hndOf (sA (sB (sB (sB c))))):=by
  intro σ st e σ' st' h
  exact @hh hT d σ st e σ' st' (show hw243 σ st=some (e,σ',st') from h)
 have k1:CodeOk P { X with fz:=F.fz } F.nt d (acode C n d (.seq (.hand hw243) x5)) _:=seq_ok gh g5
 have k2:CodeOk P { X with fz:=F.fz } F.nt d (acode C n d (.seq x4 (.seq (.hand hw243) x5))) _:=seq_ok g4 k1
 have k3:CodeOk P { X with fz:=F.fz } F.nt d (acode C n d (.seq x2 (.seq x4 (.seq (.hand hw243) x5)))) _:=seq_ok g2 k2
 have k4:CodeOk P { X with fz:=F.fz } F.nt d (acode C n d (.seq x1 (.seq x2 (.seq x4 (.seq (.hand hw243) x5))))) _:=seq_ok g1 k3
 intro σ st e σ' st' h
 exact k4 h
end Go.AM
