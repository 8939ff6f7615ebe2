/- The statement LinesNames: for every input the law returns true, and each argument reads afterwards as before. No conditions. -/
import Derived.Test.YtcojcdpoeaaigaaG5
import Derived.Test.YtcojcdpoeaaigaaG4
import Derived.Test.YtcojcdpoeaaigaaG2
set_option linter.all false
namespace Go.AM
open Go
set_option maxRecDepth 100000
structure HasL1 (prog:Prog):Prop extends HasL prog where
 f94:prog.fn 94=some pf94
 f95:prog.fn 95=some pf95
 f96:prog.fn 96=some pf96
 f97:prog.fn 97=some pf97
 f100:prog.fn 100=some pf100
def wvB:Nat→Val→Bool
 | 0,_=>false
 | d+1,v=>decide (0≤v.kind∧v.kind<256)&&decide (-9223372036854775808≤v.int∧v.int<9223372036854775808)&&decide (v.list.length≤9223372036854775807)&&v.list.all (wvB d)
theorem wvB_ok :∀{d:Nat} {v:Val},wvB d v=true→Wf v
 | 0,v,h=>by unfold wvB at h;cases h
 | d+1,v,h=>by
  unfold wvB at h
  simp only [Bool.and_eq_true,decide_eq_true_eq,List.all_eq_true] at h
  rw [Val.eta v]
  exact .mk h.1.1.1 h.1.1.2 h.1.2 fun x hx=>wvB_ok (h.2 x hx)
def vChain:Nat→Val
 | 0=>vNum 7
 | n+1=>vOf 4 [vChain n]
def vSl (m:Nat):Val:=vOf 7 ((List.range m).map fun (k:Nat)=>vNum k)
def vWide (n m:Nat):Val:=vOf 6 (List.replicate n (vSl m))
def vCube (n:Nat):Val:=vOf 6 (List.replicate n (vWide 16 16))
def gd68:Frm:=⟨2,8,3,[⟨0,vYes⟩,⟨2,vNum 1⟩]⟩
theorem rfR_bad {m:Img} {l:List Bytes} (h:(rfR m l).2.2=12):rfR m l=(0,fz,12):=by
 unfold rfR at h ⊢
 split
 ·rename_i h1;rw [if_pos h1] at h;cases h
 ·rename_i h1
  rw [if_neg h1] at h
  split
  ·rfl
  ·rename_i s r
   simp only at h ⊢
   split
   ·rfl
   ·rename_i h2
    rw [if_neg h2] at h
    split
    ·rfl
    ·rename_i f hf
     rw [hf] at h
     simp only at h
     split
     ·rfl
     ·rename_i x hx
      rw [hx] at h
      simp only at h
      split
      ·rename_i h3;rw [if_pos h3] at h;cases h
      ·rfl
theorem fit_le {t:Nat} (h:t≤2000):Fit t 64:=⟨by unfold maxBytes;omega,by unfold maxBytes;omega⟩
section
variable {prog:Prog} (H:HasL1 prog)
include H
theorem c94 {n:Nat} (hn:n≤1000):Pus prog 94 [.i .i64 (n:Int)] (vChain n).av:=by
 obtain ⟨v,rfl,h⟩:=p94 H.f94 (n0:=(n:Int)) (K:=fun v=>v=vChain n) (by
  unfold T94_0
  refine ⟨_,c92 H.toHasL 7,fun P0 hP=>?_⟩
  refine loop_inv (P:=fun v k=>P0 k (Val.mk 0 0 [] [] false) v) vChain n (fun _=>True) trivial (fun _=>hP _ _ _ ?_) (fun i hi _ ihP=>hP _ _ _ ?_)
  ·unfold T94_1 T94_2
   exact ⟨fun h=>absurd h (by omega),fun _=>rfl⟩
  ·unfold T94_1
   refine ⟨fun _=>⟨_,c89 H.toHasL 4 [vChain i],?_⟩,fun h=>absurd (show (i:Int)<n by omega) h⟩
   rw [wr_i64 (by omega) (by omega)]
   exact ihP trivial)
 exact h
theorem c95 {n m:Nat} (hn:n≤1000) (hm:m≤1000):Pus prog 95 [.i .i64 (n:Int),.i .i64 (m:Int)] (vWide n m).av:=by
 obtain ⟨v,rfl,h⟩:=p95 H.f95 (n0:=(n:Int)) (m1:=(m:Int)) (K:=fun v=>v=vWide n m) (by
  unfold T95_0
  refine ⟨_,c89 H.toHasL 6 [],fun P0 hP=>?_⟩
  refine loop_inv (P:=fun v k=>P0 k (Val.mk 0 0 [] [] false) v) (fun k=>vWide k m) n (fun _=>True) trivial (fun _=>hP _ _ _ ?_) (fun i hi _ ihP=>hP _ _ _ ?_)
  ·unfold T95_1 T95_5
   exact ⟨fun h=>absurd h (by omega),fun _=>rfl⟩
  ·unfold T95_1
   refine ⟨fun _=>⟨_,c89 H.toHasL 7 [],fun P1 hP1=>?_⟩,fun h=>absurd (show (i:Int)<n by omega) h⟩
   refine loop_inv (P:=fun v k=>P1 k (Val.mk 0 0 [] [] false) v (vWide i m)) vSl m (fun _=>True) trivial (fun _=>hP1 _ _ _ _ ?_) (fun k hk _ ihP1=>hP1 _ _ _ _ ?_)
   ·unfold T95_2 T95_3 T95_4
    refine ⟨fun h=>absurd h (by omega),fun _=>⟨fit_le ?_,?_⟩⟩
    ·show (List.replicate i (vSl m)).length+1≤2000
     rw [List.length_replicate];omega
    ·rw [wr_i64 (by omega) (by omega)]
     have:=ihP trivial
     unfold vWide at this
     rw [List.replicate_succ'] at this
     exact this
   ·unfold T95_2
    refine ⟨fun _=>⟨_,c92 H.toHasL (k:Int),fit_le ?_,?_⟩,fun h=>absurd (show (k:Int)<m by omega) h⟩
    ·show ((List.range k).map _).length+1≤2000
     rw [List.length_map,List.length_range];omega
    ·rw [wr_i64 (by omega) (by omega)]
     have:=ihP1 trivial
     unfold vSl at this
     rw [List.range_succ,List.map_append] at this
     exact this)
 exact h
theorem c96 {n:Nat} (hn:n≤1000):Pus prog 96 [.i .i64 (n:Int)] (vCube n).av:=by
 obtain ⟨v,rfl,h⟩:=p96 H.f96 (n0:=(n:Int)) (K:=fun v=>v=vCube n) (by
  unfold T96_0
  refine ⟨_,c89 H.toHasL 6 [],fun P0 hP=>?_⟩
  refine loop_inv (P:=fun v k=>P0 k (Val.mk 0 0 [] [] false) v) vCube n (fun _=>True) trivial (fun _=>hP _ _ _ ?_) (fun i hi _ ihP=>hP _ _ _ ?_)
  ·unfold T96_1 T96_2
   exact ⟨fun h=>absurd h (by omega),fun _=>rfl⟩
  ·unfold T96_1
   refine ⟨fun _=>⟨_,c95 H (n:=16) (m:=16) (by decide) (by decide),fit_le ?_,?_⟩,fun h=>absurd (show (i:Int)<n by omega) h⟩
   ·show (List.replicate i (vWide 16 16)).length+1≤2000
    rw [List.length_replicate];omega
   ·rw [wr_i64 (by omega) (by omega)]
    have:=ihP trivial
    unfold vCube at this
    rw [List.replicate_succ'] at this
    exact this)
 exact h
theorem c97 {v:Val} (hw:Wf v) (h8:fine v=false):Pus prog 97 [v.av] (.b true):=by
 obtain ⟨x,rfl,h⟩:=p97 H.f97 (v0:=v) (K:=fun x=>x=true) (by
  have e:chkR v=8:=by unfold chkR;rw [h8];rfl
  have k1:=c72 H.toHas38 hw
  rw [h8,e] at k1
  have k2:=c76 H.toHas38 hw
  rw [e] at k2
  unfold T97_0
  exact ⟨_,_,k1,_,k2,fun _=>⟨fun _=>decide_eq_true rfl,fun h=>absurd rfl h⟩,fun h=>absurd rfl h⟩)
 exact h
theorem c91t {v:Val} {s:Bytes} {d:Nat} (hw:wvB d v=true) (hs:s.length≤1000000000) (h:fine v=true∧txt v=s):Pus prog 91 [v.av,.s s] (.b true):=by
 have:=c91 H.toHasL (wvB_ok hw) hs
 rw [isB_true.2 h] at this
 exact this
theorem c97t {v:Val} {d:Nat} (hw:wvB d v=true) (h:fine v=false):Pus prog 97 [v.av] (.b true):=c97 H (wvB_ok hw) h
theorem c76t {v:Val} {d:Nat} (hw:wvB d v=true) (h:fine v=true):Pus prog 76 [v.av] (.i .i64 0):=by
 have:=c76 H.toHas38 (wvB_ok hw)
 rw [chk_fine.2 h] at this
 exact this
theorem c100 {l:List Bytes} (hl:l.length≤1000) (h12:(rfR iProg l).2.2=12):Pus prog 100 [.sl .ext (l.map rowS)] (.b true):=by
 obtain ⟨x,rfl,h⟩:=p100 H.f100 (l0:=l) (K:=fun x=>x=true) (by
  have k1:=c84 H.toHasG okProg (l:=l) (by omega)
  rw [rfR_bad h12] at k1
  have hz:WfX fz:=⟨by decide,by decide,by simp⟩
  unfold T100_0
  exact ⟨_,c99 H.toHasL,_,_,_,k1,fun _=>⟨fun _=>⟨_,c88 H.toHasF (b:=fz) hz,sameX_rfl fz⟩,fun h=>absurd rfl h⟩,fun h=>absurd rfl h⟩)
 exact h
theorem law68_f:T68_19 prog (fun x=>x=true) true true true iProg.types iProg.texts iProg.funcs true 2 2 [([35,49,54,57,32,50,32,34,102,34,32,97,116,32,56,32,101,120,105,116]:Bytes),([32,32,48,32,34,97,34,32,61,32,116,114,117,101]:Bytes),([32,32,50,32,34,122,34,32,61,32,49]:Bytes)] 0 4 4 4:=by
 have k1:=c84 H.toHasG okProg (l:=[]) (by decide)
 rw [rfR_nil] at k1
 unfold T68_19
 refine ⟨_,_,_,k1,?_⟩
 unfold T68_20 T68_21
 exact ⟨c100 H (l:=[([35,48,32,51,32,34,102,34,32,97,116,32,48,32,99,97,108,108]:Bytes)]) (by decide) (by decide +kernel),c100 H (l:=[([35,49,55,48,32,50,32,34,102,34,32,97,116,32,48,32,99,97,108,108]:Bytes)]) (by decide) (by decide +kernel),c100 H (l:=[([35,48,48,32,50,32,34,102,34,32,97,116,32,48,32,99,97,108,108]:Bytes)]) (by decide) (by decide +kernel),c100 H (l:=[([35,48,32,50,32,34,103,34,32,97,116,32,48,32,99,97,108,108]:Bytes)]) (by decide) (by decide +kernel),c100 H (l:=[([35,48,32,50,32,34,102,34,32,97,116,32,57,32,99,97,108,108]:Bytes)]) (by decide) (by decide +kernel),c100 H (l:=[([35,48,32,50,32,34,102,34,32,97,116,32,48,32,99,97,108,108,32]:Bytes)]) (by decide) (by decide +kernel),c100 H (l:=[([35,48,32,50,32,34,102,34,32,97,116,32,48,32,114,117,110]:Bytes)]) (by decide) (by decide +kernel),c100 H (l:=[([48,32,50,32,34,102,34,32,97,116,32,48,32,99,97,108,108]:Bytes)]) (by decide) (by decide +kernel),c100 H (l:=[([35,48,32,50,32,34,102,34,32,97,116,32,48,32,99,97,108,108]:Bytes),([32,32,49,32,34,97,34,32,61,32,51]:Bytes)]) (by decide) (by decide +kernel),c100 H (l:=[([35,48,32,50,32,34,102,34,32,97,116,32,48,32,99,97,108,108]:Bytes),([32,32,51,32,34,120,34,32,61,32,51]:Bytes)]) (by decide) (by decide +kernel),c100 H (l:=[([35,48,32,50,32,34,102,34,32,97,116,32,48,32,99,97,108,108]:Bytes),([32,49,32,34,120,34,32,61,32,51]:Bytes)]) (by decide) (by decide +kernel),c100 H (l:=[([35,48,32,50,32,34,102,34,32,97,116,32,48,32,99,97,108,108]:Bytes),([32,32,49,32,34,120,34,32,61,32]:Bytes)]) (by decide) (by decide +kernel),c100 H (l:=[([35,48,32,50,32,34,102,34,32,97,116,32,48,32,99,97,108,108]:Bytes),([32,32,49,32,34,120,34,32,61,32,51]:Bytes),([32,32,49,32,34,120,34,32,61,32,51]:Bytes)]) (by decide) (by decide +kernel),c100 H (l:=[([35,48,32,50,32,34,102,34,32,97,116,32,48,32,99,97,108,108]:Bytes),([32,32,50,32,34,122,34,32,61,32,51]:Bytes),([32,32,49,32,34,120,34,32,61,32,51]:Bytes)]) (by decide) (by decide +kernel),⟨fun _=>⟨fun _=>⟨fun _=>⟨fun _=>⟨fun _=>⟨fun _=>⟨fun _=>⟨fun _=>⟨_,c29 H.toHas03 (by decide),fun _=>⟨fun _=>⟨fun _=>⟨fun _=>⟨fun _=>⟨c101 H.toHasL,rfl⟩,fun h=>absurd rfl h⟩,fun h=>absurd rfl h⟩,fun h=>absurd rfl h⟩,fun h=>absurd rfl h⟩,fun h=>(by simp at h)⟩,fun h=>absurd rfl h⟩,fun h=>absurd rfl h⟩,fun h=>absurd rfl h⟩,fun h=>(by cases h)⟩,fun h=>(by cases h)⟩,fun h=>(by cases h)⟩,fun h=>(by cases h)⟩,fun h=>(by cases h)⟩⟩
theorem law68_e:T68_13 prog (fun x=>x=true) true true true iProg.types iProg.texts iProg.funcs 2 8 3 [⟨0,vYes⟩,⟨2,vNum 1⟩] true:=by
 have wg:WfX gd68:=⟨by decide,by decide,fun l hl=>by
  simp only [gd68,List.mem_cons,List.not_mem_nil,or_false] at hl
  rcases hl with rfl | rfl
  ·exact wfYes
  ·exact wfNum (by decide)⟩
 have k1:=c82 H.toHasF (k:=170) (x:=⟨9,0,0,[]⟩) okProg ⟨by decide,by decide,by simp⟩
 rw [show frR iProg 170 ⟨9,0,0,[]⟩=([],2) by decide +kernel] at k1
 have k2:=c82 H.toHasF (k:=-1) okProg wg
 rw [show frR iProg (-1) gd68=([],2) by decide +kernel] at k2
 have k3:=c82 H.toHasF (k:=169) okProg wg
 rw [show frR iProg 169 gd68=([([35,49,54,57,32,50,32,34,102,34,32,97,116,32,56,32,101,120,105,116]:Bytes),([32,32,48,32,34,97,34,32,61,32,116,114,117,101]:Bytes),([32,32,50,32,34,122,34,32,61,32,49]:Bytes)],0) by decide +kernel] at k3
 have k4:=c74 H.toHas38 (s:=rep 1400001 0) (by rw [rep_len];decide)
 rw [show rvs (rep 1400001 0)=(vz,4) by unfold rvs;rw [if_pos (by rw [rep_len];decide)]] at k4
 have k5:=c84 H.toHasG okProg (l:=rep 18 []) (by rw [rep_len];decide)
 rw [rfR_many (.inl (by rw [rep_len];decide))] at k5
 have k6:=c84 H.toHasG okProg (l:=[rep 1400061 0]) (by decide)
 rw [rfR_many (.inr (by unfold long;simp [rep_len]))] at k6
 unfold T68_13
 refine ⟨_,_,k1,?_⟩
 unfold T68_14
 refine ⟨_,_,k2,?_⟩
 unfold T68_15
 refine ⟨_,_,k3,?_⟩
 unfold T68_16
 refine ⟨_,_,k4,?_⟩
 unfold T68_17
 refine ⟨_,_,_,k5,?_⟩
 unfold T68_18
 exact ⟨_,_,_,k6,law68_f H⟩
theorem law68_s {P1:Bool→Int→Prop} {i j:Int} (hi:i<9) (hj:IntKind.i64.wrap (i+1)=j) (hg:greatI (m68 i)=false) (hm:0≤(x68 i gd68).mode) (hn:(x68 i gd68).locals.length≤1000) (hw:(x68 i gd68).locals.all (fun l=>wvB 3 l.value)=true) (hf:fitb (m68 i) (x68 i gd68)=false) (h:P1 true j):T68_12 prog (fun x=>x=true) P1 true true true iProg.types iProg.texts iProg.funcs 2 8 3 [⟨0,vYes⟩,⟨2,vNum 1⟩] true i:=by
 have wx:WfX (x68 i gd68):=⟨hm,by omega,fun l hl=>wvB_ok (List.all_eq_true.1 hw l hl)⟩
 have ok:=OkI.of hg
 have k1:=c82 H.toHasF (k:=0) ok wx
 rw [show frR (m68 i) 0 (x68 i gd68)=([],8) by unfold frR;rw [if_neg (by decide),hf];rfl] at k1
 have k2:=c86 H.toHasF ok wx
 rw [show fitR (m68 i) (x68 i gd68)=8 by unfold fitR;rw [hf];rfl] at k2
 unfold T68_12
 rw [hj]
 exact ⟨fun _=>⟨rfl,_,_,k1,fun _=>⟨_,k2,fun _=>h,fun h=>absurd rfl h⟩,fun h=>(by cases h)⟩,fun h=>absurd hi h⟩
theorem law68_d:T68_11 prog (fun x=>x=true) true true true iProg.types iProg.texts iProg.funcs 2 8 3 [⟨0,vYes⟩,⟨2,vNum 1⟩] true:=by
 unfold T68_11
 intro P1 hP
 have s9:P1 true 9:=hP _ _ (by unfold T68_12;exact ⟨fun h=>absurd h (by decide),fun _=>law68_e H⟩)
 have s8:P1 true 8:=hP _ _ (law68_s H (by decide) (by decide) (by decide +kernel) (by decide +kernel) (by decide +kernel) (by decide +kernel) (by decide +kernel) s9)
 have s7:P1 true 7:=hP _ _ (law68_s H (by decide) (by decide) (by decide +kernel) (by decide +kernel) (by decide +kernel) (by decide +kernel) (by decide +kernel) s8)
 have s6:P1 true 6:=hP _ _ (law68_s H (by decide) (by decide) (by decide +kernel) (by decide +kernel) (by decide +kernel) (by decide +kernel) (by decide +kernel) s7)
 have s5:P1 true 5:=hP _ _ (law68_s H (by decide) (by decide) (by decide +kernel) (by decide +kernel) (by decide +kernel) (by decide +kernel) (by decide +kernel) s6)
 have s4:P1 true 4:=hP _ _ (law68_s H (by decide) (by decide) (by decide +kernel) (by decide +kernel) (by decide +kernel) (by decide +kernel) (by decide +kernel) s5)
 have s3:P1 true 3:=hP _ _ (law68_s H (by decide) (by decide) (by decide +kernel) (by decide +kernel) (by decide +kernel) (by decide +kernel) (by decide +kernel) s4)
 have s2:P1 true 2:=hP _ _ (law68_s H (by decide) (by decide) (by decide +kernel) (by decide +kernel) (by decide +kernel) (by decide +kernel) (by decide +kernel) s3)
 have s1:P1 true 1:=hP _ _ (law68_s H (by decide) (by decide) (by decide +kernel) (by decide +kernel) (by decide +kernel) (by decide +kernel) (by decide +kernel) s2)
 have s0:P1 true 0:=hP _ _ (law68_s H (by decide) (by decide) (by decide +kernel) (by decide +kernel) (by decide +kernel) (by decide +kernel) (by decide +kernel) s1)
 exact s0
theorem law68_c:T68_8 prog (fun x=>x=true) true true true:=by
 have wg:WfX gd68:=⟨by decide,by decide,fun l hl=>by
  simp only [gd68,List.mem_cons,List.not_mem_nil,or_false] at hl
  rcases hl with rfl | rfl
  ·exact wfYes
  ·exact wfNum (by decide)⟩
 have k1:=c86 H.toHasF okProg wg
 rw [show fitR iProg gd68=0 by decide +kernel] at k1
 unfold T68_8 T68_9 T68_10
 refine ⟨_,c99 H.toHasL,_,c90 H.toHasL,_,c92 H.toHasL 1,_,k1,?_⟩
 exact law68_d H
theorem law68_b:T68_7 prog (fun x=>x=true) true true:=by
 unfold T68_7
 exact ⟨c98 H.toHasL (s:=([]:Bytes)) (by decide) (by decide +kernel),c98 H.toHasL (s:=([84,114,117,101]:Bytes)) (by decide) (by decide +kernel),c98 H.toHasL (s:=([116,114,117,101,32]:Bytes)) (by decide) (by decide +kernel),c98 H.toHasL (s:=([45,48]:Bytes)) (by decide) (by decide +kernel),c98 H.toHasL (s:=([48,49]:Bytes)) (by decide) (by decide +kernel),c98 H.toHasL (s:=([43,49]:Bytes)) (by decide) (by decide +kernel),c98 H.toHasL (s:=([57,50,50,51,51,55,50,48,51,54,56,53,52,55,55,53,56,48,56]:Bytes)) (by decide) (by decide +kernel),c98 H.toHasL (s:=([34,97]:Bytes)) (by decide) (by decide +kernel),c98 H.toHasL (s:=([34,92,113,34]:Bytes)) (by decide) (by decide +kernel),c98 H.toHasL (s:=([38]:Bytes)) (by decide) (by decide +kernel),c98 H.toHasL (s:=([38,32,49]:Bytes)) (by decide) (by decide +kernel),c98 H.toHasL (s:=([110,105,108,49]:Bytes)) (by decide) (by decide +kernel),c98 H.toHasL (s:=([38,46,46,46,46]:Bytes)) (by decide) (by decide +kernel),c98 H.toHasL (s:=([60,46,46,46]:Bytes)) (by decide) (by decide +kernel),c98 H.toHasL (s:=([123]:Bytes)) (by decide) (by decide +kernel),c98 H.toHasL (s:=([123,116,114,117,101]:Bytes)) (by decide) (by decide +kernel),c98 H.toHasL (s:=([123,116,114,117,101,125,125]:Bytes)) (by decide) (by decide +kernel),c98 H.toHasL (s:=([123,116,114,117,101,44,32,125]:Bytes)) (by decide) (by decide +kernel),c98 H.toHasL (s:=([91,49,44,50,93]:Bytes)) (by decide) (by decide +kernel),c98 H.toHasL (s:=([91,49,44,32,32,50,93]:Bytes)) (by decide) (by decide +kernel),c98 H.toHasL (s:=([91,46,46,46,93]:Bytes)) (by decide) (by decide +kernel),c98 H.toHasL (s:=([123,46,46,46,125]:Bytes)) (by decide) (by decide +kernel),c98 H.toHasL (s:=([60,49,44,32,50,93]:Bytes)) (by decide) (by decide +kernel),c98 H.toHasL (s:=([34,92,120,52,49,34]:Bytes)) (by decide) (by decide +kernel),law68_c H⟩
theorem law68_a:T68_6 prog (fun x=>x=true) (rep 65 0) true (vOf 5 (List.replicate 9 vYes)):=by
 unfold T68_6
 exact ⟨c97t H (v:=Val.mk 0 0 [] [] false) (d:=4) (by decide +kernel) (by decide +kernel),c97t H (v:=Val.mk 8 0 [] [] false) (d:=4) (by decide +kernel) (by decide +kernel),c97t H (v:=Val.mk 1 2 [] [] false) (d:=4) (by decide +kernel) (by decide +kernel),c97t H (v:=Val.mk 2 0 [97] [] false) (d:=4) (by decide +kernel) (by decide +kernel),c97t H (v:=Val.mk 3 1 [] [] false) (d:=4) (by decide +kernel) (by decide +kernel),_,c93 H.toHasL _,c97t H (v:=vTxt (rep 65 0)) (d:=4) (by rw [rep_eq];decide +kernel) (by rw [rep_eq];decide +kernel),c97t H (v:=Val.mk 2 0 [] [] true) (d:=4) (by decide +kernel) (by decide +kernel),_,c90 H.toHasL,_,c89 H.toHasL 2 [vYes],c97t H (v:=vOf 2 [vYes]) (d:=4) (by decide +kernel) (by decide +kernel),_,c90 H.toHasL,_,c90 H.toHasL,_,c89 H.toHasL 4 [vYes,vYes],c97t H (v:=vOf 4 [vYes,vYes]) (d:=4) (by decide +kernel) (by decide +kernel),_,c90 H.toHasL,c97t H (v:=Val.mk 4 0 [] [vYes] true) (d:=4) (by decide +kernel) (by decide +kernel),c97t H (v:=Val.mk 5 0 [] [] true) (d:=4) (by decide +kernel) (by decide +kernel),c97t H (v:=Val.mk 6 0 [] [] true) (d:=4) (by decide +kernel) (by decide +kernel),_,c89 H.toHasL 6 [],c97t H (v:=vOf 6 []) (d:=4) (by decide +kernel) (by decide +kernel),c97t H (v:=vOf 5 (List.replicate 9 vYes)) (d:=4) (by decide +kernel) (by decide +kernel),_,c95 H (n:=1) (m:=17) (by decide) (by decide),c97t H (v:=vWide 1 17) (d:=4) (by decide +kernel) (by decide +kernel),_,c95 H (n:=17) (m:=1) (by decide) (by decide),c97t H (v:=vWide 17 1) (d:=4) (by decide +kernel) (by decide +kernel),_,c94 H (n:=130) (by decide),c97t H (v:=vChain 130) (d:=140) (by decide +kernel) (by decide +kernel),_,c96 H (n:=16) (by decide),_,c96 H (n:=3) (by decide),_,c89 H.toHasL 5 [vCube 16,vCube 3],c97t H (v:=vOf 5 [vCube 16,vCube 3]) (d:=6) (by decide +kernel) (by decide +kernel),_,c89 H.toHasL 7 [Val.mk 0 0 [] [] false],c97t H (v:=vOf 7 [Val.mk 0 0 [] [] false]) (d:=4) (by decide +kernel) (by decide +kernel),c97t H (v:=Val.mk 4 1 [] [] false) (d:=4) (by decide +kernel) (by decide +kernel),law68_b H⟩
theorem law68_v:T68_4 prog (fun x=>x=true) (vOf 5 (List.replicate 9 vYes)):=by
 unfold T68_4 T68_5
 exact ⟨c91t H (v:=Val.mk 1 0 [] [] false) (s:=([102,97,108,115,101]:Bytes)) (d:=4) (by decide +kernel) (by decide) (by decide +kernel),_,c92 H.toHasL (-9223372036854775808),c91t H (v:=vNum (-9223372036854775808)) (s:=([45,57,50,50,51,51,55,50,48,51,54,56,53,52,55,55,53,56,48,56]:Bytes)) (d:=4) (by decide +kernel) (by decide) (by decide +kernel),_,c89 H.toHasL 4 [],c91t H (v:=vOf 4 []) (s:=([110,105,108]:Bytes)) (d:=4) (by decide +kernel) (by decide) (by decide +kernel),_,c89 H.toHasL 4 [],_,c89 H.toHasL 4 [vOf 4 []],c91t H (v:=vOf 4 [vOf 4 []]) (s:=([38,110,105,108]:Bytes)) (d:=4) (by decide +kernel) (by decide) (by decide +kernel),c91t H (v:=Val.mk 7 0 [] [] true) (s:=([60,46,46,46,62]:Bytes)) (d:=4) (by decide +kernel) (by decide) (by decide +kernel),_,c89 H.toHasL 5 [],c91t H (v:=vOf 5 []) (s:=([123,125]:Bytes)) (d:=4) (by decide +kernel) (by decide) (by decide +kernel),_,c93 H.toHasL ([34,10,92]:Bytes),c91t H (v:=vTxt ([34,10,92]:Bytes)) (s:=([34,92,34,92,110,92,92,34]:Bytes)) (d:=4) (by decide +kernel) (by decide) (by decide +kernel),_,c93 H.toHasL ([44,32,93]:Bytes),_,c89 H.toHasL 6 [vTxt ([44,32,93]:Bytes)],c91t H (v:=vOf 6 [vTxt ([44,32,93]:Bytes)]) (s:=([91,34,44,32,93,34,93]:Bytes)) (d:=4) (by decide +kernel) (by decide) (by decide +kernel),_,c94 H (n:=11) (by decide),c91t H (v:=vChain 11) (s:=([38,38,38,38,38,38,38,38,38,38,38,55]:Bytes)) (d:=20) (by decide +kernel) (by decide) (by decide +kernel),_,c94 H (n:=129) (by decide),_,c76t H (d:=140) (by decide +kernel) (by decide +kernel),fun _=>⟨_,c95 H (n:=16) (m:=16) (by decide) (by decide),_,c76t H (d:=5) (by decide +kernel) (by decide +kernel),fun _=>⟨_,c96 H (n:=16) (by decide),_,c76t H (d:=6) (by decide +kernel) (by decide +kernel),fun _=>⟨by rw [rep_len];decide,_,c93 H.toHasL _,_,c76t H (d:=4) (by rw [rep_eq];decide +kernel) (by rw [rep_eq];decide +kernel),fun _=>⟨by decide,_,c76t H (v:=vOf 5 (List.replicate 8 vYes)) (d:=4) (by decide +kernel) (by decide +kernel),law68_a H⟩,fun h=>absurd rfl h⟩,fun h=>absurd rfl h⟩,fun h=>absurd rfl h⟩,fun h=>absurd rfl h⟩
theorem law68_w:T68_1 prog (fun x=>x=true):=by
 unfold T68_1 T68_2
 refine ⟨_,c89 H.toHasL 5 [],fun P0 hP=>?_⟩
 have s9:P0 9 (vOf 5 (List.replicate 9 vYes)):=hP _ _ (by unfold T68_3;exact ⟨fun h=>absurd h (by decide),fun _=>law68_v H⟩)
 have s8:P0 8 (vOf 5 (List.replicate 8 vYes)):=hP _ _ (by unfold T68_3;exact ⟨fun _=>⟨_,c90 H.toHasL,fit_le (by decide),s9⟩,fun h=>absurd (by decide) h⟩)
 have s7:P0 7 (vOf 5 (List.replicate 7 vYes)):=hP _ _ (by unfold T68_3;exact ⟨fun _=>⟨_,c90 H.toHasL,fit_le (by decide),s8⟩,fun h=>absurd (by decide) h⟩)
 have s6:P0 6 (vOf 5 (List.replicate 6 vYes)):=hP _ _ (by unfold T68_3;exact ⟨fun _=>⟨_,c90 H.toHasL,fit_le (by decide),s7⟩,fun h=>absurd (by decide) h⟩)
 have s5:P0 5 (vOf 5 (List.replicate 5 vYes)):=hP _ _ (by unfold T68_3;exact ⟨fun _=>⟨_,c90 H.toHasL,fit_le (by decide),s6⟩,fun h=>absurd (by decide) h⟩)
 have s4:P0 4 (vOf 5 (List.replicate 4 vYes)):=hP _ _ (by unfold T68_3;exact ⟨fun _=>⟨_,c90 H.toHasL,fit_le (by decide),s5⟩,fun h=>absurd (by decide) h⟩)
 have s3:P0 3 (vOf 5 (List.replicate 3 vYes)):=hP _ _ (by unfold T68_3;exact ⟨fun _=>⟨_,c90 H.toHasL,fit_le (by decide),s4⟩,fun h=>absurd (by decide) h⟩)
 have s2:P0 2 (vOf 5 (List.replicate 2 vYes)):=hP _ _ (by unfold T68_3;exact ⟨fun _=>⟨_,c90 H.toHasL,fit_le (by decide),s3⟩,fun h=>absurd (by decide) h⟩)
 have s1:P0 1 (vOf 5 (List.replicate 1 vYes)):=hP _ _ (by unfold T68_3;exact ⟨fun _=>⟨_,c90 H.toHasL,fit_le (by decide),s2⟩,fun h=>absurd (by decide) h⟩)
 have s0:P0 0 (vOf 5 (List.replicate 0 vYes)):=hP _ _ (by unfold T68_3;exact ⟨fun _=>⟨_,c90 H.toHasL,fit_le (by decide),s1⟩,fun h=>absurd (by decide) h⟩)
 exact s0
theorem law68 (hf:prog.fn 68=some pf68):Pus prog 68 [] (.b true):=by
 obtain ⟨x,rfl,h⟩:=p68 hf (K:=fun x=>x=true) (by
  unfold T68_0
  exact law68_w H)
 exact h
end
end Go.AM

/- The statement LinesNames: for every input the law returns true, and each argument reads afterwards as before. No conditions. -/
namespace Go.Proofs.Ytcojcdpoeaaigaa.LinesNamesProof
open Go Go.AM Go.RowKit Go.ChangeShapes Go.WideShapes Go.ChangeAt

def t68 : Ty68 Try.prog := ⟨47, 43, 45, 74, 3, 44, 24, 41, 81, 77, 76, 9, _, _, _, _, _, _, _, _, _, _, _, _, [(3, 0), (3, 1), (44, 2), (45, 3)], [(39, 0), (40, 1), (41, 2)], [(3, 0), (24, 1)], [(9, 0), (3, 1), (3, 2), (77, 3), (78, 4), (79, 5), (79, 6)], [(9, 0), (3, 1)], (ty47 : TOk Try.prog 47 _), rfl, rfl, rfl, rfl, rfl, rfl, (ty43 : TOk Try.prog 43 _), rfl, rfl, rfl, (ty45 : TOk Try.prog 45 _), rfl, rfl, (show Try.prog.underlying 45 = some (.slice 74) from by kernel_rfl), (ty74 : TOk Try.prog 74 _), rfl, rfl, rfl, rfl, (ty3 : TOk Try.prog 3 _), rfl, (ty44 : TOk Try.prog 44 _), rfl, (ty24 : TOk Try.prog 24 _), rfl, (ty41 : TOk Try.prog 41 _), rfl, rfl, (show Try.prog.underlying 41 = some (.slice 81) from by kernel_rfl), (ty81 : TOk Try.prog 81 _), rfl, rfl, rfl, (ty77 : TOk Try.prog 77 _), rfl, rfl, (show Try.prog.underlying 77 = some (.slice 76) from by kernel_rfl), (ty76 : TOk Try.prog 76 _), rfl, rfl, rfl, (ty9 : TOk Try.prog 9 _), rfl⟩
theorem made68 : madeCells (Value.cells (.agg #[.int .u8 0, .int .i64 0, .int .i64 0, .int .i64 0])) 36 = code68.toArray := by kernel_rfl
set_option maxRecDepth 100000 in
theorem prog68_ : Prog68 Try.prog 37 43 177 76 81 := fun w N hN => (prog68 (fp := 37) (tM := 43) (tC := 78) (tI := 177) (tF := 81) (tD := 76) (tS := 77) (tFs := 41) (zi := .agg #[.int .u8 0, .int .i64 0, .int .i64 0, .int .i64 0]) (ti := Try.t177) (o0 := (rOps (qA (codeOf Try.f37)))) (o1 := (rOps (qA (qB (codeOf Try.f37))))) (o2 := (rOps (qA (qB (qB (codeOf Try.f37)))))) (o3 := (rOps (qA (qB (qB (qB (codeOf Try.f37))))))) Try.func37 (by kernel_rfl) (by kernel_rfl) (by kernel_rfl)
    (ty43 : TOk Try.prog 43 _) rfl rfl (ty81 : TOk Try.prog 81 _) rfl rfl (show Try.prog.underlying 78 = some (.slice 177) from by kernel_rfl) (show Try.prog.info? 177 = some Try.t177 from by kernel_rfl) (show Try.t177.zero = some (.agg #[.int .u8 0, .int .i64 0, .int .i64 0, .int .i64 0]) from by kernel_rfl) (by kernel_rfl) (Nat.le_of_ble_eq_true (by kernel_rfl))
    (fun s => by kernel_rfl) (fun s g n => by kernel_rfl) (fun s g n h m => by kernel_rfl) (fun g n => by kernel_rfl)
    (fun w => run_buildSlice w 77 76 3 #[(0, .agg #[.string ⟨#[97]⟩, .int .i64 0]), (1, .agg #[.string ⟨#[120]⟩, .int .i64 0]), (2, .agg #[.string ⟨#[122]⟩, .int .i64 0])] slots68.toArray Try.t76 (.agg #[.string ⟨#[]⟩, .int .i64 0]) (show Try.prog.underlying 77 = some (.slice 76) from by kernel_rfl) (show Try.prog.info? 76 = some Try.t76 from by kernel_rfl) (show Try.t76.zero = some (.agg #[.string ⟨#[]⟩, .int .i64 0]) from by kernel_rfl) (Nat.not_lt_of_le (Nat.le_of_ble_eq_true (by kernel_rfl))) (of_decide_eq_true (by kernel_rfl)) (by kernel_rfl))
    (fun w g n h m => run_buildSlice w 41 81 3 #[(0, .agg (fun68 [109, 97, 105, 110] nilS (sl68 h m)).toArray), (1, .agg (fun68 [102] nilS (sl68 h m)).toArray), (2, .agg (fun68 [102] (sl68 g n) (sl68 h m)).toArray)] (funcs68 (sl68 g n) (sl68 h m)).toArray Try.t81 (.agg (fun68 [] nilS nilS).toArray) (show Try.prog.underlying 41 = some (.slice 81) from by kernel_rfl) (show Try.prog.info? 81 = some Try.t81 from by kernel_rfl) (show Try.t81.zero = some (.agg (fun68 [] nilS nilS).toArray) from by kernel_rfl) (Nat.not_lt_of_le (Nat.le_of_ble_eq_true (by kernel_rfl))) (of_decide_eq_true (by kernel_rfl)) (by kernel_rfl))
    ⟨by kernel_rfl, of_gNo (by kernel_rfl)⟩ ⟨by kernel_rfl, of_gNo (by kernel_rfl)⟩ ⟨by kernel_rfl, of_gNo (by kernel_rfl)⟩ ⟨by kernel_rfl, of_gNo (by kernel_rfl)⟩ w hN).mono fun e w' h => ⟨h.1, by rw [h.2, made68]⟩
set_option maxRecDepth 100000 in
theorem good68 : GoodF Try.prog X pf68 (codeOf Try.f5) := GoodF.ofCR (ac := (.seq (xA b68) (.seq (xA (xB b68)) (.seq (xA (xB (xB b68))) (.seq (xA (xB (xB (xB b68)))) (.seq (xA (xB (xB (xB (xB b68))))) (.seq (xA (xB (xB (xB (xB (xB b68)))))) (.seq (xA (xB (xB (xB (xB (xB (xB b68))))))) (.seq (xA (xB (xB (xB (xB (xB (xB (xB b68)))))))) (.seq (xA (xB (xB (xB (xB (xB (xB (xB (xB b68))))))))) (.seq (xA (xB (xB (xB (xB (xB (xB (xB (xB (xB b68)))))))))) (.seq (.seq (xA (xA (xB (xB (xB (xB (xB (xB (xB (xB (xB (xB b68)))))))))))) (.block 2 (.loop (.seq (xA (xU (xU (xB (xA (xB (xB (xB (xB (xB (xB (xB (xB (xB (xB b68))))))))))))))) (.seq (.block 3 (.seq (.hand hw68) (xB (xU (xA (xB (xU (xU (xB (xA (xB (xB (xB (xB (xB (xB (xB (xB (xB (xB b68)))))))))))))))))))) (xB (xB (xU (xU (xB (xA (xB (xB (xB (xB (xB (xB (xB (xB (xB (xB b68))))))))))))))))))))) (xB (xB (xB (xB (xB (xB (xB (xB (xB (xB (xB b68))))))))))))))))))))))) (by kernel_rfl) (.seq (x := qA (codeOf Try.f5)) (y := qB (codeOf Try.f5)) (by kernel_rfl) (.leaf (by kernel_rfl)) (.seq (x := qA (qB (codeOf Try.f5))) (y := qB (qB (codeOf Try.f5))) (by kernel_rfl) (.leaf (by kernel_rfl)) (.seq (x := qA (qB (qB (codeOf Try.f5)))) (y := qB (qB (qB (codeOf Try.f5)))) (by kernel_rfl) (.leaf (by kernel_rfl)) (.seq (x := qA (qB (qB (qB (codeOf Try.f5))))) (y := qB (qB (qB (qB (codeOf Try.f5))))) (by kernel_rfl) (.leaf (by kernel_rfl)) (.seq (x := qA (qB (qB (qB (qB (codeOf Try.f5)))))) (y := qB (qB (qB (qB (qB (codeOf Try.f5)))))) (by kernel_rfl) (.leaf (by kernel_rfl)) (.seq (x := qA (qB (qB (qB (qB (qB (codeOf Try.f5))))))) (y := qB (qB (qB (qB (qB (qB (codeOf Try.f5))))))) (by kernel_rfl) (.leaf (by kernel_rfl)) (.seq (x := qA (qB (qB (qB (qB (qB (qB (codeOf Try.f5)))))))) (y := qB (qB (qB (qB (qB (qB (qB (codeOf Try.f5)))))))) (by kernel_rfl) (.leaf (by kernel_rfl)) (.seq (x := qA (qB (qB (qB (qB (qB (qB (qB (codeOf Try.f5))))))))) (y := qB (qB (qB (qB (qB (qB (qB (qB (codeOf Try.f5))))))))) (by kernel_rfl) (.leaf (by kernel_rfl)) (.seq (x := qA (qB (qB (qB (qB (qB (qB (qB (qB (codeOf Try.f5)))))))))) (y := qB (qB (qB (qB (qB (qB (qB (qB (qB (codeOf Try.f5)))))))))) (by kernel_rfl) (.leaf (by kernel_rfl)) (.seq (x := qA (qB (qB (qB (qB (qB (qB (qB (qB (qB (codeOf Try.f5))))))))))) (y := qB (qB (qB (qB (qB (qB (qB (qB (qB (qB (codeOf Try.f5))))))))))) (by kernel_rfl) (.leaf (by kernel_rfl)) (.seq (x := qA (qB (qB (qB (qB (qB (qB (qB (qB (qB (qB (codeOf Try.f5)))))))))))) (y := qB (qB (qB (qB (qB (qB (qB (qB (qB (qB (qB (codeOf Try.f5)))))))))))) (by kernel_rfl) (.seq (x := qA (qA (qB (qB (qB (qB (qB (qB (qB (qB (qB (qB (codeOf Try.f5))))))))))))) (y := qB (qA (qB (qB (qB (qB (qB (qB (qB (qB (qB (qB (codeOf Try.f5))))))))))))) (by kernel_rfl) (.leaf (by kernel_rfl)) (.block (x := qU (qB (qA (qB (qB (qB (qB (qB (qB (qB (qB (qB (qB (codeOf Try.f5)))))))))))))) (by kernel_rfl) (.loop (x := qU (qU (qB (qA (qB (qB (qB (qB (qB (qB (qB (qB (qB (qB (codeOf Try.f5))))))))))))))) (by kernel_rfl) (.seq (x := qA (qU (qU (qB (qA (qB (qB (qB (qB (qB (qB (qB (qB (qB (qB (codeOf Try.f5)))))))))))))))) (y := qB (qU (qU (qB (qA (qB (qB (qB (qB (qB (qB (qB (qB (qB (qB (codeOf Try.f5)))))))))))))))) (by kernel_rfl) (.leaf (by kernel_rfl)) (.seq (x := qA (qB (qU (qU (qB (qA (qB (qB (qB (qB (qB (qB (qB (qB (qB (qB (codeOf Try.f5))))))))))))))))) (y := qB (qB (qU (qU (qB (qA (qB (qB (qB (qB (qB (qB (qB (qB (qB (qB (codeOf Try.f5))))))))))))))))) (by kernel_rfl) (.block (x := qU (qA (qB (qU (qU (qB (qA (qB (qB (qB (qB (qB (qB (qB (qB (qB (qB (codeOf Try.f5)))))))))))))))))) (by kernel_rfl) (.hand4 (x := .region 16 (rOps (qA (qU (qA (qB (qU (qU (qB (qA (qB (qB (qB (qB (qB (qB (qB (qB (qB (qB (codeOf Try.f5)))))))))))))))))))) false) (y := .region 17 (rOps (qA (qB (qU (qA (qB (qU (qU (qB (qA (qB (qB (qB (qB (qB (qB (qB (qB (qB (qB (codeOf Try.f5))))))))))))))))))))) false) (u := .region 18 (rOps (qA (qB (qB (qU (qA (qB (qU (qU (qB (qA (qB (qB (qB (qB (qB (qB (qB (qB (qB (qB (codeOf Try.f5)))))))))))))))))))))) false) (v := .seq (.region 19 (rOps (qA (qA (qB (qB (qB (qU (qA (qB (qU (qU (qB (qA (qB (qB (qB (qB (qB (qB (qB (qB (qB (qB (codeOf Try.f5)))))))))))))))))))))))) false) (.block 4 (.seq (.region 20 (rOps (qA (qU (qB (qA (qB (qB (qB (qU (qA (qB (qU (qU (qB (qA (qB (qB (qB (qB (qB (qB (qB (qB (qB (qB (codeOf Try.f5)))))))))))))))))))))))))) false) (.cond (.tmp 298) (.region 21 (rOps (qC (qB (qU (qB (qA (qB (qB (qB (qU (qA (qB (qU (qU (qB (qA (qB (qB (qB (qB (qB (qB (qB (qB (qB (qB (codeOf Try.f5))))))))))))))))))))))))))) false) (.seq (.region 22 (rOps (qA (qD (qB (qU (qB (qA (qB (qB (qB (qU (qA (qB (qU (qU (qB (qA (qB (qB (qB (qB (qB (qB (qB (qB (qB (qB (codeOf Try.f5)))))))))))))))))))))))))))) false) (.cond (.tmp 301) (.region 23 (rOps (qC (qB (qD (qB (qU (qB (qA (qB (qB (qB (qU (qA (qB (qU (qU (qB (qA (qB (qB (qB (qB (qB (qB (qB (qB (qB (qB (codeOf Try.f5))))))))))))))))))))))))))))) false) (.seq (.region 24 (rOps (qA (qD (qB (qD (qB (qU (qB (qA (qB (qB (qB (qU (qA (qB (qU (qU (qB (qA (qB (qB (qB (qB (qB (qB (qB (qB (qB (qB (codeOf Try.f5)))))))))))))))))))))))))))))) false) (.cond (.tmp 304) (.region 25 (rOps (qC (qB (qD (qB (qD (qB (qU (qB (qA (qB (qB (qB (qU (qA (qB (qU (qU (qB (qA (qB (qB (qB (qB (qB (qB (qB (qB (qB (qB (codeOf Try.f5))))))))))))))))))))))))))))))) false) (.seq (.region 26 (rOps (qA (qD (qB (qD (qB (qD (qB (qU (qB (qA (qB (qB (qB (qU (qA (qB (qU (qU (qB (qA (qB (qB (qB (qB (qB (qB (qB (qB (qB (qB (codeOf Try.f5)))))))))))))))))))))))))))))))) false) (.cond (.tmp 307) (.region 27 (rOps (qC (qB (qD (qB (qD (qB (qD (qB (qU (qB (qA (qB (qB (qB (qU (qA (qB (qU (qU (qB (qA (qB (qB (qB (qB (qB (qB (qB (qB (qB (qB (codeOf Try.f5))))))))))))))))))))))))))))))))) false) (.seq (.region 28 (rOps (qA (qD (qB (qD (qB (qD (qB (qD (qB (qU (qB (qA (qB (qB (qB (qU (qA (qB (qU (qU (qB (qA (qB (qB (qB (qB (qB (qB (qB (qB (qB (qB (codeOf Try.f5)))))))))))))))))))))))))))))))))) false) (.cond (.tmp 310) (.region 29 (rOps (qC (qB (qD (qB (qD (qB (qD (qB (qD (qB (qU (qB (qA (qB (qB (qB (qU (qA (qB (qU (qU (qB (qA (qB (qB (qB (qB (qB (qB (qB (qB (qB (qB (codeOf Try.f5))))))))))))))))))))))))))))))))))) false) (.seq (.region 30 (rOps (qA (qD (qB (qD (qB (qD (qB (qD (qB (qD (qB (qU (qB (qA (qB (qB (qB (qU (qA (qB (qU (qU (qB (qA (qB (qB (qB (qB (qB (qB (qB (qB (qB (qB (codeOf Try.f5)))))))))))))))))))))))))))))))))))) false) (.cond (.tmp 316) (.region 31 (rOps (qC (qB (qD (qB (qD (qB (qD (qB (qD (qB (qD (qB (qU (qB (qA (qB (qB (qB (qU (qA (qB (qU (qU (qB (qA (qB (qB (qB (qB (qB (qB (qB (qB (qB (qB (codeOf Try.f5))))))))))))))))))))))))))))))))))))) false) (.seq (.region 32 (rOps (qA (qD (qB (qD (qB (qD (qB (qD (qB (qD (qB (qD (qB (qU (qB (qA (qB (qB (qB (qU (qA (qB (qU (qU (qB (qA (qB (qB (qB (qB (qB (qB (qB (qB (qB (qB (codeOf Try.f5)))))))))))))))))))))))))))))))))))))) false) (.cond (.tmp 322) (.region 33 (rOps (qC (qB (qD (qB (qD (qB (qD (qB (qD (qB (qD (qB (qD (qB (qU (qB (qA (qB (qB (qB (qU (qA (qB (qU (qU (qB (qA (qB (qB (qB (qB (qB (qB (qB (qB (qB (qB (codeOf Try.f5))))))))))))))))))))))))))))))))))))))) false) (.seq (.region 34 (rOps (qA (qD (qB (qD (qB (qD (qB (qD (qB (qD (qB (qD (qB (qD (qB (qU (qB (qA (qB (qB (qB (qU (qA (qB (qU (qU (qB (qA (qB (qB (qB (qB (qB (qB (qB (qB (qB (qB (codeOf Try.f5)))))))))))))))))))))))))))))))))))))))) false) (.cond (.tmp 329) (.region 35 (rOps (qC (qB (qD (qB (qD (qB (qD (qB (qD (qB (qD (qB (qD (qB (qD (qB (qU (qB (qA (qB (qB (qB (qU (qA (qB (qU (qU (qB (qA (qB (qB (qB (qB (qB (qB (qB (qB (qB (qB (codeOf Try.f5))))))))))))))))))))))))))))))))))))))))) false) (.seq (.region 36 (rOps (qA (qD (qB (qD (qB (qD (qB (qD (qB (qD (qB (qD (qB (qD (qB (qD (qB (qU (qB (qA (qB (qB (qB (qU (qA (qB (qU (qU (qB (qA (qB (qB (qB (qB (qB (qB (qB (qB (qB (qB (codeOf Try.f5)))))))))))))))))))))))))))))))))))))))))) false) (.cond (.tmp 338) (.region 37 (ops37 (posOf (rOps (qC (qB (qD (qB (qD (qB (qD (qB (qD (qB (qD (qB (qD (qB (qD (qB (qD (qB (qU (qB (qA (qB (qB (qB (qU (qA (qB (qU (qU (qB (qA (qB (qB (qB (qB (qB (qB (qB (qB (qB (qB (codeOf Try.f5)))))))))))))))))))))))))))))))))))))))))))) t68.tM t68.tFus t68.tF t68.tS t68.tI) true) .skip)))))))))))))))))))) (z := (qB (qB (qB (qB (qU (qA (qB (qU (qU (qB (qA (qB (qB (qB (qB (qB (qB (qB (qB (qB (qB (codeOf Try.f5))))))))))))))))))))))) (by kernel_rfl) (fun d => fill68 t68 (fp := 37) (tIn := 177) (tiL := Try.t74) (tiD := Try.t76) (zL := .agg #[.int .i64 0, .int .u8 0, .int .i64 0, .string ⟨#[]⟩, .slice none 0 0, .bool false]) (zD := .agg #[.string ⟨#[]⟩, .int .i64 0]) (kI := .i64) (by kernel_rfl) (Nat.le_of_ble_eq_true rfl) (fun w => callFunc_enter Try.func37 (by kernel_rfl) (code := (codeOf Try.f37)) (by kernel_rfl) #[]) prog68_ (x_bs0 (show Try.prog.underlying 45 = some (.slice 74) from by kernel_rfl) (show Try.prog.info? 74 = some Try.t74 from by kernel_rfl) (show Try.t74.zero = some (.agg #[.int .i64 0, .int .u8 0, .int .i64 0, .string ⟨#[]⟩, .slice none 0 0, .bool false]) from by kernel_rfl)) (by kernel_rfl) (show Try.prog.info? 74 = some Try.t74 from by kernel_rfl) (show Try.t74.zero = some (.agg #[.int .i64 0, .int .u8 0, .int .i64 0, .string ⟨#[]⟩, .slice none 0 0, .bool false]) from by kernel_rfl) (by kernel_rfl) (Nat.le_of_ble_eq_true (by kernel_rfl)) (show Try.prog.underlying 3 = some (.int .i64) from by kernel_rfl) (show Try.prog.info? 76 = some Try.t76 from by kernel_rfl) (show Try.t76.zero = some (.agg #[.string ⟨#[]⟩, .int .i64 0]) from by kernel_rfl) (by kernel_rfl) (Nat.le_of_ble_eq_true (by kernel_rfl)) (by kernel_rfl) ⟨by kernel_rfl, of_gNo (by kernel_rfl)⟩ ⟨by kernel_rfl, of_gNo (by kernel_rfl)⟩ ⟨by kernel_rfl, of_gNo (by kernel_rfl)⟩ ⟨by kernel_rfl, of_gNo (by kernel_rfl)⟩ ⟨by kernel_rfl, of_gNo (by kernel_rfl)⟩ ⟨by kernel_rfl, of_gNo (by kernel_rfl)⟩ ⟨by kernel_rfl, of_gNo (by kernel_rfl)⟩ ⟨by kernel_rfl, of_gNo (by kernel_rfl)⟩ ⟨by kernel_rfl, of_gNo (by kernel_rfl)⟩ ⟨by kernel_rfl, of_gNo (by kernel_rfl)⟩ ⟨by kernel_rfl, of_gNo (by kernel_rfl)⟩ ⟨by kernel_rfl, of_gNo (by kernel_rfl)⟩ ⟨by kernel_rfl, of_gNo (by kernel_rfl)⟩ ⟨by kernel_rfl, of_gNo (by kernel_rfl)⟩ ⟨by kernel_rfl, of_gNo (by kernel_rfl)⟩ ⟨by kernel_rfl, of_gNo (by kernel_rfl)⟩ ⟨by kernel_rfl, of_gNo (by kernel_rfl)⟩ ⟨by kernel_rfl, of_gNo (by kernel_rfl)⟩ ⟨by kernel_rfl, of_gNo (by kernel_rfl)⟩ ⟨by kernel_rfl, of_gNo (by kernel_rfl)⟩ ⟨by kernel_rfl, of_gNo (by kernel_rfl)⟩) (.leaf (by kernel_rfl)))) (.leaf (by kernel_rfl))))))) (.leaf (by kernel_rfl)))))))))))))
theorem ok68 : FnOk Try.prog X 5 pf68 := FnOk.ofG Try.func5 (by kernel_rfl) (by kernel_rfl) good68 (by kernel_rfl) (by kernel_rfl) (by kernel_rfl)
def fns : List (Nat × AF) := [(42, pf42), (46, pf46), (36, pf36), (43, pf43), (47, pf47), (11, pf11), (15, pf15), (21, pf21), (25, pf25), (30, pf30), (34, pf34), (37, pf37), (39, pf39), (45, pf45), (29, pf29), (145, pf145), (126, pf126), (72, pf72), (74, pf74), (76, pf76), (78, pf78), (104, pf104), (107, pf107), (109, pf109), (128, pf128), (129, pf129), (130, pf130), (131, pf131), (82, pf82), (86, pf86), (88, pf88), (111, pf111), (112, pf112), (113, pf113), (115, pf115), (116, pf116), (119, pf119), (122, pf122), (123, pf123), (124, pf124), (139, pf139), (141, pf141), (144, pf144), (84, pf84), (117, pf117), (118, pf118), (140, pf140), (89, pf89), (90, pf90), (91, pf91), (92, pf92), (93, pf93), (98, pf98), (99, pf99), (101, pf101), (125, pf125), (94, pf94), (95, pf95), (96, pf96), (97, pf97), (100, pf100), (68, pf68)]
def prog : Prog := ⟨fnOf fns, orcB, orsB⟩
set_option maxRecDepth 100000 in
theorem fns_ok : FnsOk Try.prog X fns fms :=
 fN J (fN J (fN J (fS J ok68 (fN J (fN J (fN J (fS J ok72 (fN J (fS J ok74 (fN J (fS J ok76 (fN J (fS J ok78 (fN J (fN J (fN J (fS J ok82 (fN J (fS J ok84 (fN J (fS J ok86 (fN J (fS J ok29 (fS J ok88 (fS J ok89 (fS J ok90 (fS J ok91 (fS J ok92 (fS J ok93 (fS J ok94 (fS J ok95 (fS J ok96 (fS J ok97 (fS J ok98 (fS J ok99 (fS J ok100 (fS J ok101 (fN J (fN J (fS J ok104 (fN J (fN J (fS J ok107 (fN J (fS J ok109 (fN J (fS J ok111 (fS J ok112 (fS J ok113 (fN J (fS J ok115 (fS J ok116 (fS J ok117 (fS J ok118 (fS J ok119 (fN J (fN J (fS J ok122 (fS J ok123 (fS J ok124 (fS J ok125 (fS J ok126 (fS J ok15 (fS J ok11 (fN J (fN J (fN J (fS J ok128 (fS J ok129 (fS J ok130 (fS J ok131 (fN J (fN J (fN J (fN J (fN J (fN J (fN J (fN J (fN J (fS J ok139 (fS J ok140 (fS J ok141 (fN J (fN J (fS J ok144 (fS J ok145 (fS J ok34 (fS J ok30 (fN J (fN J (fS J ok36 (fS J ok25 (fS J ok21 (fN J (fN J (fN J (fS J ok42 (fS J ok39 (fS J ok37 (fN J (fS J ok46 (fS J ok45 (fS J ok43 (fS J ok47 (fN J (fN J (fN J (trivial)))))))))))))))))))))))))))))))))))))))))))))))))))))))))))))))))))))))))))))))))))))))))))))))))))))))))))))
theorem o48_ok : OracOk Try.prog X { fn := fnOf fns, orac := orc48 48 } := orc48_ok (f0 := 108) (fun f h => by have := fm_inv h; simpa [fms] using this) Try.func108 (by kernel_rfl) (by kernel_rfl) (by kernel_rfl) (by kernel_rfl)
theorem orac_ok : OracOk Try.prog X prog := orcB_ok o48_ok (f0 := 99) (fun f h => by have := fm_inv h; simpa [fms] using this) Try.func99 (by kernel_rfl) (by kernel_rfl) (by kernel_rfl) (by kernel_rfl)
theorem orsB_ok : OracSOk Try.prog X prog := Go.AM.orsB_ok Try.lays169 Try.extraB (fun f h => by have := fm_inv h; have e : f = 43 := (by simpa [fms] using this); exact e) (by kernel_rfl) (by kernel_rfl) Try.func43 (by kernel_rfl) rfl
def tl : List Nat := []
theorem at_ : LawAt Try.prog X prog tl := ⟨tab_ok tys_ok, by kernel_rfl, prog_ok fns_ok.all rfl, orac_ok, orsB_ok, by
    intro t ht
    exact (show ∀ t ∈ tl, okTy X.T tl t = true by decide) t (by simpa using ht)⟩
set_option maxRecDepth 100000 in
theorem has : HasL1 prog := { f42 := by kernel_rfl, f46 := by kernel_rfl, f36 := by kernel_rfl, f43 := by kernel_rfl, f47 := by kernel_rfl, f11 := by kernel_rfl, f15 := by kernel_rfl, f21 := by kernel_rfl, f25 := by kernel_rfl, f30 := by kernel_rfl, f34 := by kernel_rfl, f37 := by kernel_rfl, f39 := by kernel_rfl, f45 := by kernel_rfl, f29 := by kernel_rfl, f145 := by kernel_rfl, f126 := by kernel_rfl, f72 := by kernel_rfl, f74 := by kernel_rfl, f76 := by kernel_rfl, f78 := by kernel_rfl, f104 := by kernel_rfl, f107 := by kernel_rfl, f109 := by kernel_rfl, f128 := by kernel_rfl, f129 := by kernel_rfl, f130 := by kernel_rfl, f131 := by kernel_rfl, f82 := by kernel_rfl, f86 := by kernel_rfl, f88 := by kernel_rfl, f111 := by kernel_rfl, f112 := by kernel_rfl, f113 := by kernel_rfl, f115 := by kernel_rfl, f116 := by kernel_rfl, f119 := by kernel_rfl, f122 := by kernel_rfl, f123 := by kernel_rfl, f124 := by kernel_rfl, f139 := by kernel_rfl, f141 := by kernel_rfl, f144 := by kernel_rfl, f84 := by kernel_rfl, f117 := by kernel_rfl, f118 := by kernel_rfl, f140 := by kernel_rfl, f89 := by kernel_rfl, f90 := by kernel_rfl, f91 := by kernel_rfl, f92 := by kernel_rfl, f93 := by kernel_rfl, f98 := by kernel_rfl, f99 := by kernel_rfl, f101 := by kernel_rfl, f125 := by kernel_rfl, f94 := by kernel_rfl, f95 := by kernel_rfl, f96 := by kernel_rfl, f97 := by kernel_rfl, f100 := by kernel_rfl, f48 := rfl, o48 := orcB_48, f146 := rfl, f105 := rfl, o146 := orcB_146, o105 := orcB_105, s105 := orsB_105 }
theorem own : ownKnob Try.prog.godebug = none := by kernel_rfl
theorem laidOut : laidOutB Try.prog = true := by kernel_rfl
theorem typed (avs : List AV) (h : ArgsOk X.T [] avs) : Pus prog 68 avs (.b true) := by
  match avs, h with
  | [], _ => exact law68 has rfl

set_option maxRecDepth 100000 in
theorem lifted (os : Os) (started : os.Started) (H : Type) (enc : TypeId × Value → H) :
    ReturnsInHanded {} Try.checked os 5 .any (Rows.linesNamesSpec.pre6 enc Try.prog Try.f5 Rows.linesNamesRow.domain false) (Rows.linesNamesSpec.post enc Try.prog Try.f5 false true false false) := by
  refine returnsInHanded_of_change (C := Try.checked) own started (by kernel_rfl) Try.func5
    (ChangeSpec.witness6 (enc := enc) (C := Try.checked) false ⟨#[], #[], []⟩ 8 (by kernel_rfl) (by kernel_rfl) (by kernel_rfl) (by kernel_rfl)) ?_
  intro W base args ds gs before hval0 hW hcnd _
  have hval : ∀ (j : Nat) t v, Try.f5.params[j]? = some t → args[j]? = some v → Value.okWide Try.prog W .any base t v := hval0
  have hW' := hW
  obtain ⟨p, q, hA0, hV, rfl, hfz, hnd⟩ := hW
  have hA : DataW.TrodAll enc Try.prog W 0 (fun _ => true) true Try.f5.params.toList args.toList ds p := hA0
  rw [Try.params5] at hA hval
  obtain ⟨rfl, rfl⟩ := trodVars_none hV
  obtain ⟨avs, hR, hok⟩ := args_read at_.T at_.types (ts := []) (by decide) (fun j t v h1 h2 => hval j t v (by simpa using h1) (by simpa using h2)) hA
  have hlt := args_lt hA
  have hlen := trod_len hA
  refine (law_calls at_ (f := 5) (c := 68) rfl (ok68.enters _ _) hR (typed avs hok)).mono fun e W' ⟨he, bel⟩ => ?_
  subst he
  have hB := args_below laidOut bel (by kernel_rfl) hA hlt
  obtain rfl := ds0 hlen
  exact ⟨_, rfl, _, _, _, [], _, [], hW', trodAll_mk1 (shut_bool Try.underlying4 _), hB, rfl, bel.frame _, fun h => by cases h⟩

theorem over : Rows.linesNamesRow.holds Try.pinned (OpenSpec.ofChange Rows.linesNamesSpec) :=
  OpenClaim.holds_of_wide 5 Try.f5 rfl rfl rfl rfl rfl rfl rfl ⟨rfl, rfl, rfl, rfl, rfl⟩ rfl rfl rfl rfl rfl (by kernel_rfl) Try.func5 (by kernel_rfl)
    (of_decide_eq_true (by kernel_rfl)) (by unfold Func.isWrapper; rw [if_neg (of_decide_eq_false (by kernel_rfl))]; exact ⟨rfl, rfl⟩)
    (fun os started H enc _ => lifted os started H enc)

/-- The statement. -/
theorem proved : Rows.LinesNamesSaid := over
#print axioms proved
end Go.Proofs.Ytcojcdpoeaaigaa.LinesNamesProof
