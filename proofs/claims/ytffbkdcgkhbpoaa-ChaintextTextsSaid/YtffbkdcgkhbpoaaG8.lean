/- The statement ChaintextTexts: for every input the law returns true, and each argument reads afterwards as before. No conditions. -/
import Derived.Test.YtffbkdcgkhbpoaaG7
import Derived.Test.YtffbkdcgkhbpoaaG6
import Derived.Test.YtffbkdcgkhbpoaaG2
import Derived.LoopNIn
import Derived.Test.YtffbkdcgkhbpoaaRows
import Derived.Test.YtffbkdcgkhbpoaaG3
import Derived.Test.YtffbkdcgkhbpoaaG4
import Derived.Test.YtffbkdcgkhbpoaaG5
import Derived.Shelf.Strings.Builder1
import Derived.Shelf.Strings.Count
set_option linter.all false
namespace Go.AM
open Go
def r167_0:List AI:=[oO 2 (.alloc [.sl .full []]),oO 3 (.alloc [.i .i64 0])]
def r167_1:List AI:=[oM 8 0,oO 9 (.len true (.t 8)),oB 10 .gtr (.t 9) (.c (.i .i64 120000))]
def r167_2:List AI:=[⟨none,.store 1 (.t 2) (.c (.sl .full [])),none⟩,⟨none,.store 1 (.t 3) (.c (.i .i64 4)),none⟩]
def r167_3:List AI:=[oM 11 0,oB 12 .neq (.t 11) (.c (.s [])),oM 13 12,oG 14 (.mv (.t 0)) 13 true,oG 15 (.call false 186 [(.t 14),(.c (.s [10]))]) 13 true,oG 16 (.un .not (.t 15)) 13 true,
 oO 17 (.pick (.t 13) (.t 16) (.c (.b false))),oM 18 17,oG 19 (.mv (.t 0)) 18 false,oG 20 (.call false 187 [(.t 19),(.c (.s [10]))]) 18 false,oG 21 (.bin .gtr (.t 20) (.c (.i .i64 410))) 18 false,oO 22 (.pick (.t 18) (.c (.b true)) (.t 21))]
def r167_4:List AI:=[⟨none,.store 1 (.t 2) (.c (.sl .full [])),none⟩,⟨none,.store 1 (.t 3) (.c (.i .i64 12)),none⟩]
def r167_5:List AI:=[oO 4 (.alloc [.sl .full []])]
def r167_7:List AI:=[oM 5 25]
def r167_8:List AI:=[oM 27 5,oO 28 (.call false 189 [(.t 27),(.c (.s [10]))]),oO 29 (.call false 156 [(.t 28)]),oM 26 29,oE 30 0 26,oE 31 1 26,
 oO 6 (.alloc [.i .u64 0,.i .u8 0,.i .i64 0,.s [],.sl .full [],.b false,.i .u64 0]),oS 7 6 30,oM 7 31]
def r167_9:List AI:=[oM 32 7,oB 33 .neq (.t 32) (.c (.i .i64 0))]
def r167_10:List AI:=[⟨none,.store 1 (.t 2) (.c (.sl .full [])),none⟩,⟨none,.store 1 (.t 3) (.c (.i .i64 12)),none⟩]
def r167_11:List AI:=[oL 34 4,oO 35 (.load 7 true (.t 6)),oO 36 (.bslice [.i .u64 0,.i .u8 0,.i .i64 0,.s [],.sl .full [],.b false,.i .u64 0] 1 [(0,(.t 35))]),oO 37 (.app 7 80 (.t 34) (.t 36)),oS 1 4 37]
def r188_0:List AI:=[oO 1 (.box 1 (.t 0)),oC 2 (.nf)]
def r188_1:List AI:=[oO 3 (.mkfn 195 [(.t 1)]),oM 2 3]
def b188:AC:=.seq (.reg 0 r188_0) (.seq (.reg 1 r188_1) .ret)
def r195_0:List AI:=[oL 5 1,oO 6 (.len true (.t 5)),oB 7 .gtr (.t 6) (.c (.i .i64 0))]
def r195_1:List AI:=[oC 3 (.s [])]
def r195_2:List AI:=[oL 8 1,oO 9 (.call false 43 [(.t 8),(.c (.i .u8 10))]),oM 4 9]
def r195_3:List AI:=[oM 10 4,oB 11 .geq (.t 10) (.c (.i .i64 0))]
def r195_4:List AI:=[oL 12 1,oM 13 4,oB 14 .add (.t 13) (.c (.i .i64 1)),oO 15 (.slS (.t 12) none (some (.t 14))),oL 16 1,oM 17 4,oB 18 .add (.t 17) (.c (.i .i64 1)),oO 19 (.slS (.t 16) (some (.t 18)) none),oM 3 15,oS 1 1 19]
def r195_5:List AI:=[oL 20 1,oM 3 20,⟨none,.store 1 (.t 1) (.c (.s [])),none⟩]
abbrev a195_0:AC:=.seq (.reg 0 r195_0) (.cond (.t 7) .skip (.exit 0))
abbrev a195_2:AC:=.seq (.reg 2 r195_2) (.seq (.reg 3 r195_3) (.cond (.t 11) (.reg 4 r195_4) (.reg 5 r195_5)))
abbrev a167_8:AC:=.block 1 (.seq (.reg 8 r167_8) (.seq (.seq (.reg 9 r167_9) (.cond (.t 33) (.seq (.reg 10 r167_10) .ret) .skip)) (.reg 11 r167_11)))
structure B4 (v2 v3 v4:Nat) (st:St) (x2 x3:AV) (acc:List Pan):Prop where
  b2:lk st.bx (0,0) = some (v2,[x2])
  b3:lk st.bx (0,1) = some (v3,[x3])
  b4 :∃o,lk st.bx (0,20480) = some (v4,[.sl o (acc.map Pan.row)])∧App st.ow o acc.length
section
variable {prog:Prog} {σ:Sl} {st:St}
theorem w195_0 {vs:Nat} {rest:Bytes} (h1:σ 1 = .p (1,0) vs 0) (hb:lk st.bx (1,0) = some (vs,[.s rest])) :
    W prog 1 a195_0 σ st fun e σ' st'=>σ' 0 = σ 0∧σ' 1 = σ 1∧st'.bx = st.bx∧st'.ow = st.ow∧(rest = []→e = .exit 0)∧(rest≠[]→e = .normal):=by
  refine W.seq (W.reg0 rfl fun _ _=>s_loadP h1 hb rfl rfl (s_lenS rfl (s_bin rfl rfl gtr_ (s_nil ?_))))
  refine c_split rfl (fun h=>W.skip ⟨rfl,rfl,rfl,rfl,fun e=>?_,fun _=>rfl⟩) fun h=>W.exit ⟨rfl,rfl,rfl,rfl,fun _=>rfl,fun e=>?_⟩
  · subst e; exact absurd h (by decide)
  · exact absurd (List.length_eq_zero_iff.1 (by omega)) e
theorem w195_1:W prog 1 (.reg 1 r195_1) σ st fun e σ' st'=>e = .normal∧σ' 0 = σ 0∧σ' 1 = σ 1∧st'.bx = st.bx∧st'.ow = st.ow:=
  W.reg0 rfl fun _ _=>s_mv rfl (s_nil ⟨rfl,rfl,rfl,rfl,rfl⟩)
theorem ib_first {c:UInt8} :∀{x r:Bytes},c ∉ x→Lib.indexByte (x ++ c :: r) c = (x.length:Int)
  | [],r,_=>by rw [List.nil_append,Lib.indexByte,if_pos (by simp)]; rfl
  | a :: x,r,h=>by
    simp only [List.mem_cons,not_or] at h
    rw [List.cons_append,Lib.indexByte,ib_first (r:=r) h.2,if_neg (by simpa using fun e=>h.1 e.symm),if_neg (by simp)]
    simp
theorem w195_2 (H:HasP prog) {vs:Nat} {x r:Bytes} (hx:(10:UInt8) ∉ x) (hl:(x ++ 10 :: r).length≤1000000000) (h1:σ 1 = .p (1,0) vs 0) (hb:lk st.bx (1,0) = some (vs,[.s (x ++ 10 :: r)])) :
    W prog 1 a195_2 σ st fun e σ' st'=>e = .normal∧σ' 0 = σ 0∧σ' 1 = σ 1∧σ' 3 = .s (x ++ [10])∧st'.bx = st_ st.bx (1,0) (vs,[.s r])∧st'.ow = st.ow:=by
  have c:=c43 H.toHas03 (x ++ 10 :: r) 10
  rw [ib_first hx] at c
  simp only [List.length_append,List.length_cons] at hl
  have e1:(x ++ 10 :: r).take ((IntKind.i64.wrap ((x.length:Int) + 1))).toNat = x ++ [10]:=by
    rw [wr_i64 (by omega) (by omega),show ((x.length:Int) + 1).toNat = x.length + 1 by omega,show x ++ 10 :: r = (x ++ [10]) ++ r by simp,List.take_left' (by simp)]
  have e2:(x ++ 10 :: r).drop ((IntKind.i64.wrap ((x.length:Int) + 1))).toNat = r:=by
    rw [wr_i64 (by omega) (by omega),show ((x.length:Int) + 1).toNat = x.length + 1 by omega,show x ++ 10 :: r = (x ++ [10]) ++ r by simp,List.drop_left' (by simp)]
  have b0:0≤IntKind.i64.wrap ((x.length:Int) + 1):=by rw [wr_i64 (by omega) (by omega)]; omega
  have b1:(IntKind.i64.wrap ((x.length:Int) + 1)).toNat≤(x ++ 10 :: r).length:=by rw [wr_i64 (by omega) (by omega)]; simp
  refine W.seq (W.reg0 rfl fun _ _=>s_loadP h1 hb rfl rfl (s_call (sc rfl rfl (sc rfl rfl sn)) c (s_mv rfl (s_nil ?_))))
  refine W.seq (W.reg0 rfl fun _ _=>s_mv rfl (s_bin rfl rfl geq_ (s_nil ?_)))
  refine c_split rfl (fun _=>?_) fun h=>absurd (show (x.length:Int) ≥ 0 by omega) h
  refine W.reg0 rfl fun _ _=>s_loadP h1 hb rfl rfl (s_mv rfl (s_bin rfl rfl add_ (s_slS_hi rfl rfl b0 b1 (s_loadP h1 hb rfl rfl (s_mv rfl (s_bin rfl rfl add_ (s_slS_lo rfl rfl b0 b1 (s_mv rfl (s_storeP h1 hb rfl rfl rfl (s_nil ?_))))))))))
  refine ⟨rfl,rfl,rfl,?_,?_,rfl⟩
  · show AV.s ((x ++ 10 :: r).take _) = _
    rw [e1]
  · show st_ st.bx (1,0) (vs,[AV.s ((x ++ 10 :: r).drop _)]) = _
    rw [e2]
structure HasR0 (prog:Prog):Prop extends HasP prog where
  f189:prog.fn 189 = some pf189
  f196:prog.fn 196 = some pf196
theorem c196 (H:HasR0 prog) {s p:Bytes} (hs:s.length≤1000000000):Pus prog 196 [.s s,.s p] (.s (cuts p s).1):=by
  obtain ⟨x,rfl,h⟩:=p196 H.f196 (s0:=s) (suffix1:=p) (K:=fun x=>x = (cuts p s).1) (by
    unfold T196_0
    refine ⟨_,c191 H.toHasO hs,fun h=>?_,fun h=>?_⟩
    · have h2:p.length≤s.length:=by
        unfold cuts at h
        split at h
        · rename_i h2; exact h2.1
        · cases h
      rw [wr_i64 (by omega) (by omega)]
      refine ⟨by omega,by omega,?_⟩
      unfold cuts at h ⊢
      split at h
      · rename_i h3
        rw [if_pos h3]
        show s.take _ = s.take _
        congr 1
        omega
      · cases h
    · unfold cuts at h ⊢
      split at h
      · cases h
      · rename_i h3
        rw [if_neg h3])
  exact h
theorem c189 (H:HasR0 prog) {s p:Bytes} (hs:s.length≤1000000000):Pus prog 189 [.s s,.s p] (.s (cuts p s).1):=by
  obtain ⟨x,rfl,h⟩:=p189 H.f189 (s0:=s) (suffix1:=p) (K:=fun x=>x = (cuts p s).1) (by
    unfold T189_0
    exact ⟨_,c196 H hs,rfl⟩)
  exact h
theorem w167_7:W prog 0 (.reg 7 r167_7) σ st fun e σ' st'=>e = .normal∧σ' = up σ 5 (σ 25)∧st'.bx = st.bx∧st'.ow = st.ow:=
  W.reg0 rfl fun _ _=>s_mv rfl (s_nil ⟨rfl,rfl,rfl,rfl⟩)
theorem w167_8 (H:HasR0 prog) {v2 v3 v4 vs:Nat} {x rest:Bytes} {x2 x3:AV} {acc:List Pan} (hl:x.length≤900000000) (ha:acc.length≤1000000) (h5:σ 5 = .s (x ++ [10])) (h2:σ 2 = .p (0,0) v2 0) (h3:σ 3 = .p (0,1) v3 0) (h4:σ 4 = .p (0,20480) v4 0)
    (hB:B4 v2 v3 v4 st x2 x3 acc) (hb:lk st.bx (1,0) = some (vs,[.s rest])) :
    W prog 0 a167_8 σ st fun e _ st'=>((rlP x).2 = 0→e = .normal∧B4 v2 v3 v4 st' x2 x3 (acc ++ [(rlP x).1]))∧((rlP x).2≠0→e = .ret∧B4 v2 v3 v4 st' (.sl .full []) (.i .i64 12) acc)∧lk st'.bx (1,0) = some (vs,[.s rest]):=by
  obtain ⟨b2,b3,o,b4,b5⟩:=hB
  have c1:=c189 H (s:=x ++ [10]) (p:=[10]) (by simp; omega)
  rw [cuts_app] at c1
  have c2:=c156 H.toHasP (s:=x) (by omega)
  refine W.block (W.seq (W.reg (s_mv rfl (s_call (sc h5 rfl (sc rfl rfl sn)) c1 (s_call (sc rfl rfl sn) c2 (s_mv rfl (s_ext rfl rfl (s_ext rfl rfl (s_alloc (s_storeP rfl lk_here rfl rfl rfl (s_mv rfl (s_nil ?_)))))))))))) 
  refine W.seq (W.seq (W.reg0 rfl fun _ _=>s_mv rfl (s_bin rfl rfl neq_ (s_nil ?_))))
  refine c_split rfl (fun h=>?_) fun h=>W.skip ?_
  · have e2:lk (st_ (st_ st.bx (0,8 * 4096 + 6) (st.nx + 6,[.i .u64 0,.i .u8 0,.i .i64 0,.s [],.sl .full [],.b false,.i .u64 0])) (0,8 * 4096 + 6) (st.nx + 6,(rlP x).1.row)) (0,0) = _:=lk_other rfl (lk_other rfl b2)
    refine W.seq (W.reg0 rfl fun _ _=>s_storeP h2 (lk_other rfl (lk_other rfl b2)) rfl rfl rfl (s_storeP h3 (lk_other rfl (lk_other rfl (lk_other rfl b3))) rfl rfl rfl (s_nil (W.ret ?_))))
    refine ⟨fun h'=>absurd h' h,fun _=>⟨rfl,lk_other rfl lk_here,lk_here,o,lk_other rfl (lk_other rfl (lk_other rfl (lk_other rfl b4))),b5⟩,?_⟩
    have hk :∀s:Nat,((0,s):Key)≠(1,0):=fun s e=>by injection e with e _; cases e
    exact (lk_ne (hk _)).trans ((lk_ne (hk _)).trans ((lk_ne (hk _)).trans ((lk_ne (hk _)).trans hb)))
  · have h:=Decidable.not_not.1 h
    refine W.reg0 rfl fun _ _=>s_loadP h4 (lk_other rfl (lk_other rfl b4)) rfl rfl (s_loadP rfl lk_here rfl rfl (s_bslM (f:=Pan.row) (l:=[(rlP x).1]) rfl rfl (g_cons rfl rfl rfl g_nil) (by simp only [List.map_cons,List.map_nil,Pan.row_eq]; rfl) (s_app Pan.row_len rfl rfl rfl b5 ⟨?_,?_⟩ rfl fun o' ow' ha' hw ho=>s_storeP h4 (lk_other rfl (lk_other rfl b4)) rfl rfl rfl (s_nil ?_))))
    · simp only [List.length_cons,List.length_nil,maxBytes]; omega
    · simp only [List.length_cons,List.length_nil,maxBytes]; omega
    · refine ⟨fun _=>⟨rfl,lk_other rfl (lk_other rfl (lk_other rfl b2)),lk_other rfl (lk_other rfl (lk_other rfl b3)),o',lk_here,ha'⟩,fun h'=>absurd h h',?_⟩
      have hk :∀s:Nat,((0,s):Key)≠(1,0):=fun s e=>by injection e with e _; cases e
      exact (lk_ne (hk _)).trans ((lk_ne (hk _)).trans ((lk_ne (hk _)).trans hb))
def ends10 (s:Bytes):Bool:=(cuts [10] s).2
def badT (s:Bytes):Bool:=(decide (s≠[]) && !ends10 s) || decide (410 < s.count 10)
theorem w167_0:W prog 0 (.reg 0 r167_0) σ st fun e σ' st'=>e = .normal∧σ' 0 = σ 0∧σ' 2 = .p (0,0) st.nx 0∧σ' 3 = .p (0,1) (st.nx + 1) 0∧lk st'.bx (0,0) = some (st.nx,[.sl .full []])∧lk st'.bx (0,1) = some (st.nx + 1,[.i .i64 0])∧st'.ow = st.ow:=
  W.reg (s_alloc (s_alloc (s_nil ⟨rfl,rfl,rfl,rfl,lk_other rfl lk_here,lk_here,rfl⟩)))
theorem w167_1 {v2 v3:Nat} {s:Bytes} {x2 x3:AV} (h0:σ 0 = .s s) (h2:σ 2 = .p (0,0) v2 0) (h3:σ 3 = .p (0,1) v3 0) (b2:lk st.bx (0,0) = some (v2,[x2])) (b3:lk st.bx (0,1) = some (v3,[x3])) :
    W prog 0 (.seq (.reg 1 r167_1) (.cond (.t 10) (.seq (.reg 2 r167_2) .ret) .skip)) σ st fun e σ' st'=>σ' 0 = σ 0∧σ' 2 = σ 2∧σ' 3 = σ 3∧st'.ow = st.ow∧(120000 < s.length→e = .ret∧lk st'.bx (0,0) = some (v2,[.sl .full []])∧lk st'.bx (0,1) = some (v3,[.i .i64 4]))∧(¬120000 < s.length→e = .normal∧st'.bx = st.bx):=by
  refine W.seq (W.reg0 rfl fun _ _=>s_mv h0 (s_lenS rfl (s_bin rfl rfl gtr_ (s_nil ?_))))
  refine c_split rfl (fun h=>?_) fun h=>W.skip ⟨rfl,rfl,rfl,rfl,fun h'=>absurd (show (s.length:Int) > 120000 by omega) h,fun _=>⟨rfl,rfl⟩⟩
  refine W.seq (W.reg0 rfl fun _ _=>s_storeP h2 b2 rfl rfl rfl (s_storeP h3 (lk_other rfl b3) rfl rfl rfl (s_nil (W.ret ?_))))
  exact ⟨rfl,rfl,rfl,rfl,fun _=>⟨rfl,lk_other rfl lk_here,lk_here⟩,fun h'=>absurd (show 120000 < s.length by omega) h'⟩
theorem w167_3 (H:HasP prog) (c187 :∀s:Bytes,s.length≤1000000000→Pus prog 187 [.s s,.s [10]] (.i .i64 (s.count 10:Int))) {v2 v3:Nat} {s:Bytes} {x2 x3:AV} (hs:s.length≤1000000000) (h0:σ 0 = .s s) (h2:σ 2 = .p (0,0) v2 0) (h3:σ 3 = .p (0,1) v3 0) (b2:lk st.bx (0,0) = some (v2,[x2])) (b3:lk st.bx (0,1) = some (v3,[x3])) :
    W prog 0 (.seq (.reg 3 r167_3) (.cond (.t 22) (.seq (.reg 4 r167_4) .ret) .skip)) σ st fun e σ' st'=>σ' 0 = σ 0∧σ' 2 = σ 2∧σ' 3 = σ 3∧st'.ow = st.ow∧(badT s = true→e = .ret∧lk st'.bx (0,0) = some (v2,[.sl .full []])∧lk st'.bx (0,1) = some (v3,[.i .i64 12]))∧(badT s = false→e = .normal∧st'.bx = st.bx):=by
  have c186':=c186 H.toHasO (s:=s) (p:=[10]) hs
  have hc:=c187 s hs
  have yes :∀{σ':Sl} {st':St},σ' 0 = σ 0→σ' 2 = σ 2→σ' 3 = σ 3→st'.bx = st.bx→st'.ow = st.ow→badT s = true→W prog 0 (.seq (.reg 4 r167_4) .ret) σ' st' fun e σ' st'=>σ' 0 = σ 0∧σ' 2 = σ 2∧σ' 3 = σ 3∧st'.ow = st.ow∧(badT s = true→e = .ret∧lk st'.bx (0,0) = some (v2,[.sl .full []])∧lk st'.bx (0,1) = some (v3,[.i .i64 12]))∧(badT s = false→e = .normal∧st'.bx = st.bx):=by
    intro σ' st' e0 e2 e3 eb eo hb
    refine W.seq (W.reg0 rfl fun _ _=>s_storeP (e2.trans h2) (eb ▸ b2) rfl rfl rfl (s_storeP (e3.trans h3) (lk_other rfl (eb ▸ b3)) rfl rfl rfl (s_nil (W.ret ?_))))
    exact ⟨e0,e2,e3,eo,fun _=>⟨rfl,lk_other rfl lk_here,lk_here⟩,fun h'=>by rw [hb] at h'; cases h'⟩
  -- the count
  have cnt:badT s = decide (410 < s.count 10)→∀{b:Nat} {σ':Sl} {st':St},σ' 18 = .b false→σ' 0 = σ 0→σ' 2 = σ 2→σ' 3 = σ 3→st'.bx = st.bx→st'.ow = st.ow→WO prog 0 3 b 8 [oG 19 (.mv (.t 0)) 18 false,oG 20 (.call false 187 [(.t 19),(.c (.s [10]))]) 18 false,oG 21 (.bin .gtr (.t 20) (.c (.i .i64 410))) 18 false,oO 22 (.pick (.t 18) (.c (.b true)) (.t 21))] σ' st' (fun σ' st'=>W prog 0 (.cond (.t 22) (.seq (.reg 4 r167_4) .ret) .skip) σ' st' fun e σ' st'=>σ' 0 = σ 0∧σ' 2 = σ 2∧σ' 3 = σ 3∧st'.ow = st.ow∧(badT s = true→e = .ret∧lk st'.bx (0,0) = some (v2,[.sl .full []])∧lk st'.bx (0,1) = some (v3,[.i .i64 12]))∧(badT s = false→e = .normal∧st'.bx = st.bx)):=by
    intro hbad b σ' st' e18 e0 e2 e3 eb eo
    refine s_gy e18 (s_mv (e0.trans h0) (s_gy e18 (s_call (sc rfl rfl (sc rfl rfl sn)) hc (s_gy e18 (s_bin rfl rfl gtr_ (s_pickF e18 rfl (s_nil ?_)))))))
    refine c_split rfl (fun h=>yes e0 e2 e3 eb eo (by rw [hbad]; exact decide_eq_true (by omega))) fun h=>W.skip ⟨e0,e2,e3,eo,fun h'=>?_,fun _=>⟨rfl,eb⟩⟩
    rw [hbad] at h'
    exact absurd (show (s.count 10:Int) > 410 by have:=of_decide_eq_true h'; omega) h
  refine W.seq (W.reg0 rfl fun _ _=>s_mv h0 (s_bin rfl rfl sne_ (s_mv rfl ?_)))
  refine s_em (g:=13) rfl (fun hne=>?_) fun hne=>?_
  · refine s_gy rfl (s_mv h0 (s_gy rfl (s_call (sc rfl rfl (sc rfl rfl sn)) c186' (s_gy rfl (s_not rfl (s_pickT rfl rfl (s_mv rfl ?_)))))))
    refine s_emb (g:=18) rfl (fun hb=>?_) fun hb=>?_
    · refine s_gn (b:=true) rfl rfl (s_gn (b:=true) rfl rfl (s_gn (b:=true) rfl rfl (s_pickT rfl rfl (s_nil ?_))))
      refine c_tt rfl (yes rfl rfl rfl rfl rfl ?_)
      unfold badT ends10
      rw [hb,decide_eq_true hne]; rfl
    · refine cnt ?_ rfl rfl rfl rfl rfl rfl
      unfold badT ends10
      rw [hb]
      simp
  · refine s_gn (b:=false) rfl rfl (s_gn (b:=false) rfl rfl (s_gn (b:=false) rfl rfl (s_pickF rfl rfl (s_mv rfl ?_))))
    refine cnt ?_ rfl rfl rfl rfl rfl rfl
    unfold badT
    rw [decide_eq_false hne]; rfl
theorem w167_5:W prog 0 (.reg 5 r167_5) σ st fun e σ' st'=>e = .normal∧σ' 0 = σ 0∧σ' 2 = σ 2∧σ' 3 = σ 3∧σ' 4 = .p (0,20480) st.nx 0∧st'.bx = st_ st.bx (0,20480) (st.nx,[.sl .full []])∧st'.ow = st.ow:=
  W.reg (s_alloc (s_nil ⟨rfl,rfl,rfl,rfl,rfl,rfl,rfl⟩))
theorem w188 {s:Bytes} (h0:σ 0 = .s s):W prog 1 b188 σ st fun e σ' st'=>e = .ret∧σ' 2 = .fn 195 [.p (1,0) st.nx 0]∧st'.bx = st_ st.bx (1,0) (st.nx,[.s s])∧st'.ow = st.ow:=by
  refine W.seq (W.reg0 rfl fun _ _=>s_box h0 rfl (s_mv rfl (s_nil ?_)))
  exact W.seq (W.reg0 rfl fun _ _=>s_mkfn (sec rfl sen) (s_mv rfl (s_nil (W.ret ⟨rfl,rfl,rfl,rfl⟩))))
end
end Go.AM

namespace Go.AM
open Go Go.RowKit
section
variable {P:Program} {ops:Array Oper} {Q:Exit→Act→World→Prop} {i n:Nat} {r:List Nat} {a:Act} {w w':World} {o:Oper}
theorem in_val {v:Value} (ho:ops[i]? = some o) (hg:o.guard = none) (hr:(execOp a.eval o).run P w = .ok (.value v) w') (hk:wpOpsIn Fence.wide n P ops Q r (a.put o.dst v) w'):wpOpsIn Fence.wide n P ops Q (i :: r) a w:=by
  simp only [wpOpsIn,ho]
  rw [if_pos (by simp [Region.wanted,hg])]
  refine ⟨fun _ _=>trivial,?_⟩
  show o.uponIn Fence.wide n P a _ Q ((o.semAt none a.eval).run P w)
  rw [Oper.semAt_none,hr]
  exact hk
theorem in_skip (ho:ops[i]? = some o) (hg:o.guard = none) (hr:(execOp a.eval o).run P w = .ok .skip w') (hk:wpOpsIn Fence.wide n P ops Q r (a.put o.dst undef) w'):wpOpsIn Fence.wide n P ops Q (i :: r) a w:=by
  simp only [wpOpsIn,ho]
  rw [if_pos (by simp [Region.wanted,hg])]
  refine ⟨fun _ _=>trivial,?_⟩
  show o.uponIn Fence.wide n P a _ Q ((o.semAt none a.eval).run P w)
  rw [Oper.semAt_none,hr]
  exact hk
theorem in_call {f:FuncId} {args:Array Value} {R:Value→World→Prop} (ho:ops[i]? = some o) (hg:o.guard = none) (hr:(execOp a.eval o).run P w = .ok (.enter f args) w') (hc:Calls P f args w' fun e w=>match e with | .returned v=>R v w | _=>False) (hk :∀v w'',R v w''→wpOpsIn Fence.wide n P ops Q r (a.put o.dst v) w''):wpOpsIn Fence.wide n P ops Q (i :: r) a w:=by
  simp only [wpOpsIn,ho]
  rw [if_pos (by simp [Region.wanted,hg])]
  refine ⟨fun _ _=>trivial,?_⟩
  show o.uponIn Fence.wide n P a _ Q ((o.semAt none a.eval).run P w)
  rw [Oper.semAt_none,hr]
  refine ⟨fun h=>(by cases h),(callsIn_wide.2 hc).mono fun e w'' he=>?_⟩
  cases e with
  | returned v=>exact hk v w'' he
  | panicked c=>exact he.elim
  | outgrown=>exact he.elim
theorem in_round {l:Nat} {f:FuncId} {tmps:Array Value} {asg bd:Code} {R:Value→World→Prop} (ho:ops[i]? = some o) (hg:o.guard = none) (hr:(execOp a.eval o).run P w = .ok (.round l f tmps asg bd) w') (hc:RoundIn Fence.wide (n - 1) P l f tmps asg bd w' fun e w=>match e with | .returned v=>R v w | _=>False) (hk :∀v w'',R v w''→wpOpsIn Fence.wide n P ops Q r (a.put o.dst v) w''):wpOpsIn Fence.wide n P ops Q (i :: r) a w:=by
  simp only [wpOpsIn,ho]
  rw [if_pos (by simp [Region.wanted,hg])]
  refine ⟨fun _ _=>trivial,?_⟩
  show o.uponIn Fence.wide n P a _ Q ((o.semAt none a.eval).run P w)
  rw [Oper.semAt_none,hr]
  refine ⟨fun h=>(by cases h),hc.mono fun e w'' he=>?_⟩
  cases e with
  | returned v=>exact hk v w'' he
  | panicked c=>exact he.elim
  | outgrown=>exact he.elim
theorem run_move {x:Operand} (h:o.op = .move x):(execOp a.eval o).run P w = .ok (.value (a.eval x)) w:=by simp only [execOp,h,Sem.run_pure]
theorem run_load {t:TypeId} {x:Operand} {v:Value} (h:o.op = .load t x) (hr:(Instr.loadAt t (a.eval x)).run P w = .ok v w):(execOp a.eval o).run P w = .ok (.value v) w:=by simp only [execOp,h,Sem.run_bind,hr,Sem.run_pure,Result.andThen_ok]
theorem run_store {t:TypeId} {x y:Operand} (h:o.op = .store t x y) (hr:(Instr.storeAt t (a.eval x) (a.eval y)).run P w = .ok () w'):(execOp a.eval o).run P w = .ok .skip w':=by simp only [execOp,h,Sem.run_bind,hr,Sem.run_pure,Result.andThen_ok]
theorem run_not {t:TypeId} {x:Operand} {b:Bool} (h:o.op = .unOp .not t x) (hx:a.eval x = .bool b):(execOp a.eval o).run P w = .ok (.value (.bool (!b))) w:=by simp [execOp,h,hx,Op.unary,Sem.run_pure]
theorem run_yieldop {x y:Operand} {ts:Array TypeId} {l:Nat} {v:Value} {nx:Next} (h:o.op = .call { callee:=.value x,args:=#[y],argTypes:=ts }) (hx:a.eval x = .func (.yield l) #[] #[]) (hy:a.eval y = v) (hr:(Instr.yield l #[v]).run P w = .ok nx w'):(execOp a.eval o).run P w = .ok nx w':=by
  subst hy
  simp only [execOp,h,resolve,hx]
  simpa [go_sem] using hr
theorem run_callop {g:FuncId} {y:Operand} {ts:Array TypeId} {v:Value} (h:o.op = .call { callee:=.value (.func g),args:=#[y],argTypes:=ts }) (hy:a.eval y = v) (hr:(callFunc g #[v]).run P w = .ok (.enter g #[v]) w):(execOp a.eval o).run P w = .ok (.enter g #[v]) w:=by
  subst hy
  simp only [execOp,h,resolve]
  simpa [go_sem] using hr
end
end Go.AM

namespace Go.AM
open Go Go.RowKit
theorem Gh.LeR.trans {A B C:Gh} (h:A.LeR B) (k:B.LeR C):A.LeR C:=
  ⟨fun _ _ _ x=>k.H _ _ _ (h.H _ _ _ x),fun _ _ _ x=>k.ρ _ _ _ (h.ρ _ _ _ x),fun _ _ _ x=>k.ω _ _ _ (h.ω _ _ _ x),k.fm.trans h.fm,fun _ _ x=>k.M _ _ (h.M _ _ x)⟩
theorem Gh.LeR.refl (A:Gh):A.LeR A:=(Gh.Le.refl A).toR
structure RtAt (P:Program) (X:Cx) where
  (fR fL fY:Nat)
  (nR nL nY:Func)
  (A0 A1 A3 A5 A7 A8 Y0 Y1 Y2 cL:Code)
  (p1 p2 q1 q2 q3 z1 z2 z3 z4:Oper)
  (t1 t2 t3:TypeId)
  (tp tz:Array TypeId)
  (i1 i2:TI)
  eR:P.funcs[fR]? = some nR
  bR:nR.body = some (.seq A0 (.seq A1 (.seq A3 (.seq A5 (.seq (.seq (.region 6 #[p1,p2] false) (.block 0 (.rangeFunc (.tmp 24) #[25] A7 A8))) (.seq (.region 12 #[q1,q2,q3] false) .ret))))))
  tR:nR.ntmps = 39
  rR:cRess X nR.results.toList = some [.cell 2 1 false,.cell 3 1 false]
  mR:(nR.name == "runtime.NumGoroutine") = false
  eL:P.funcs[fL]? = some nL
  bL:nL.body = some cL
  tL:nL.ntmps = 4
  rL:cRess X nL.results.toList = some [.tmp 2]
  mL:(nL.name == "runtime.NumGoroutine") = false
  eY:P.funcs[fY]? = some nY
  bY:nY.body = some (.block 0 (.loop (.seq Y0 (.block 1 (.seq Y1 (.seq Y2 (.seq (.region 6 #[z1,z2,z3,z4] false) (.cond (.tmp 24) .ret .skip))))))))
  tY:nY.ntmps = 25
  rY:cRess X nY.results.toList = some []
  mY:(nY.name == "runtime.NumGoroutine") = false
  a0:cCode X 39 A0 = some (.reg 0 r167_0)
  a1:cCode X 39 A1 = some (.seq (.reg 1 r167_1) (.cond (.t 10) (.seq (.reg 2 r167_2) .ret) .skip))
  a3:cCode X 39 A3 = some (.seq (.reg 3 r167_3) (.cond (.t 22) (.seq (.reg 4 r167_4) .ret) .skip))
  a5:cCode X 39 A5 = some (.reg 5 r167_5)
  a7:cCode X 39 A7 = some (.reg 7 r167_7)
  a8:cCode X 39 A8 = some a167_8
  w7:plainR X 39 A7 = true
  w8:plainR X 39 A8 = true
  y0:cCode X 25 Y0 = some a195_0
  y1:cCode X 25 Y1 = some (.reg 1 r195_1)
  y2:cCode X 25 Y2 = some a195_2
  l0:cCode X 4 cL = some b188
  p1o:p1.op = .move (.tmp 0)
  p1d:p1.dst = some 23
  p1g:p1.guard = none
  p2o:p2.op = .call { callee:=.value (.func fL),args:=#[.tmp 23],argTypes:=tp }
  p2d:p2.dst = some 24
  p2g:p2.guard = none
  q1o:q1.op = .load t1 (.tmp 4)
  q1d:q1.dst = some 38
  q1g:q1.guard = none
  q2o:q2.op = .store t1 (.tmp 2) (.tmp 38)
  q2d:q2.dst = none
  q2g:q2.guard = none
  q3o:q3.op = .store t2 (.tmp 3) (.const (.int .i64 0))
  q3d:q3.dst = none
  q3g:q3.guard = none
  u1:X.T t1 = some i1
  s1:i1.size = 1
  g1:i1.kind.agg = false
  u2:X.T t2 = some i2
  s2:i2.size = 1
  z1o:z1.op = .move (.tmp 0)
  z1d:z1.dst = some 21
  z1g:z1.guard = none
  z2o:z2.op = .move (.tmp 3)
  z2d:z2.dst = some 22
  z2g:z2.guard = none
  z3o:z3.op = .call { callee:=.value (.tmp 21),args:=#[.tmp 22],argTypes:=tz }
  z3d:z3.dst = some 23
  z3g:z3.guard = none
  z4o:z4.op = .unOp .not t3 (.tmp 23)
  z4d:z4.dst = some 24
  z4g:z4.guard = none
  fm :∀f,X.fm f = some 195→f = fY
section
variable {P:Program} {X:Cx} {prog:Prog}
theorem W.wpn (hT:TTok P X.T) (hm:P.follows .mixedOrders = true) (hC :∀n,CallOk P X.fm (acall prog n)) {nt d n:Nat} {c:Code} {ac:AC} (hc:cCode X nt c = some ac) {σ:Sl} {st:St} {Q0:AE→Sl→St→Prop} (h:W prog d ac σ st Q0) {G:Gh} {w0 w:World} {a:Act} (hfm:X.fm = G.fm) (hA:RelA G nt σ a) (hR:Rel G w0 st w)
    {Q:Exit→Act→World→Prop} (hQ :∀e σ' st',Q0 e σ' st'→∀a' w' G',RelA G' nt σ' a'→Run G G' w0 st st' w' d→Q (toExit e) a' w'):c.wpIn Fence.wide n P Q a w:=by
  obtain ⟨m,e,σ',st',h1,h2⟩:=h
  exact wpIn_wide.2 (code_ok hT (hC m) hm m d _ c (Nat.lt_succ_self _) hc h1 hfm hA hR (hQ e σ' st' h2))
theorem W.inr (hT:TTok P X.T) (hC :∀n,CallOk P X.fm (acall prog n)) {nt d:Nat} {c:Code} {ac:AC} (hc:cCode X nt c = some ac) (hp:plainR X nt c = true) {σ:Sl} {st:St} {Q0:AE→Sl→St→Prop} (h:W prog d ac σ st Q0) {G:Gh} {w0 w:World} {a:Act} (hfm:X.fm = G.fm) (hA:RelA G nt σ a) (hR:Rel G w0 st w)
    {Q:Exit→Act→World→Prop} (hQ :∀e σ' st',Q0 e σ' st'→∀a' w' G',RelA G' nt σ' a'→Run G G' w0 st st' w' d→Q (toExit e) a' w') (r n:Nat):c.wpIn (wideR r) n P Q a w:=by
  obtain ⟨m,e,σ',st',h1,h2⟩:=h
  exact code_in_round hT (hC m) m d c hp hc h1 hfm hA hR (hQ e σ' st' h2) r n
theorem B4.of_eq {v2 v3 v4:Nat} {st st':St} {x2 x3:AV} {acc:List Pan} (h:B4 v2 v3 v4 st x2 x3 acc) (hb:st'.bx = st.bx) (ho:st'.ow = st.ow):B4 v2 v3 v4 st' x2 x3 acc:=by
  obtain ⟨b2,b3,o,b4,b5⟩:=h
  exact ⟨by rw [hb]; exact b2,by rw [hb]; exact b3,o,by rw [hb]; exact b4,by rw [ho]; exact b5⟩
theorem B4.other {v2 v3 v4:Nat} {st st':St} {x2 x3:AV} {acc:List Pan} {k:Key} {y:Nat × List AV} (h:B4 v2 v3 v4 st x2 x3 acc) (hk:k.1 = 1) (hb:st'.bx = st_ st.bx k y) (ho:st'.ow = st.ow):B4 v2 v3 v4 st' x2 x3 acc:=by
  obtain ⟨b2,b3,o,b4,b5⟩:=h
  have hn :∀s:Nat,k≠((0,s):Key):=fun s e=>by rw [e] at hk; cases hk
  exact ⟨by rw [hb,lk_ne (hn _)]; exact b2,by rw [hb,lk_ne (hn _)]; exact b3,o,by rw [hb,lk_ne (hn _)]; exact b4,by rw [ho]; exact b5⟩
structure Bt (Gs Ge:Gh) (w0:World) (D l:Nat) (v2 v3 v4 vs:Nat) (rec:Loop) (x2 x3:AV) (acc:List Pan) (rest:Bytes) (G:Gh) (st:St) (w:World):Prop where
  le:Ge.LeR G
  newH :∀g o v,G.H g o = some v→Gs.H g o = some v∨w0.heap.size≤g
  old :∀b x,Gs.M b = some x→G.M b = some x
  rel:Rel G w0 st w
  mD:G.M D = some (.ob (.deferred (some [])))
  ml:G.M l = some (.ob (.loop rec))
  b4:B4 v2 v3 v4 st x2 x3 acc
  bs:lk st.bx (1,0) = some (vs,[.s rest])
variable {Gs Ge:Gh} {w0:World} {D l v2 v3 v4 vs:Nat} {rec:Loop} {x2 x3:AV} {acc:List Pan} {rest:Bytes} {G:Gh} {st:St} {w:World}
theorem Bt.run {G':Gh} {st':St} {w':World} {d:Nat} {x2' x3':AV} {acc':List Pan} {rest':Bytes} (h:Bt Gs Ge w0 D l v2 v3 v4 vs rec x2 x3 acc rest G st w) (hr:Run G G' w0 st st' w' d) (hb:B4 v2 v3 v4 st' x2' x3' acc') (hs:lk st'.bx (1,0) = some (vs,[.s rest'])):Bt Gs Ge w0 D l v2 v3 v4 vs rec x2' x3' acc' rest' G' st' w':=
  ⟨h.le.trans hr.le.toR,fun g o v hv=>by
    rcases hr.newH g o v hv with h' | h'
    · exact h.newH g o v h'
    · exact .inr h',fun b x hx=>hr.le.M b x (h.old b x hx),hr.rel,hr.le.M _ _ h.mD,hr.le.M _ _ h.ml,hb,hs⟩
theorem Bt.at (h:Bt Gs Ge w0 D l v2 v3 v4 vs rec x2 x3 acc rest G st w):w.heap[l]? = some (.loop rec):=(h.rel.mp _ _ h.ml).1
theorem Bt.turn (h:Bt Gs Ge w0 D l v2 v3 v4 vs rec x2 x3 acc rest G st w) (rec':Loop) (hne:D≠l) (h0:Gs.M l = none) (hge:w0.heap.size≤l):G.LeR (G.setM l (.ob (.loop rec')))∧Bt Gs Ge w0 D l v2 v3 v4 vs rec' x2 x3 acc rest (G.setM l (.ob (.loop rec'))) st (w.putObj l (.loop rec')):=by
  have hn :∀x,G.M l≠some (.mp x):=fun x e=>by rw [h.ml] at e; cases e
  have hle:=Gh.setM_le (G:=G) (x:=.ob (.loop rec')) hn
  refine ⟨hle,h.le.trans hle,h.newH,fun b x hx=>?_,h.rel.putOb h.at rfl rfl hge hn,?_,Gh.setM_at _ _,h.b4,h.bs⟩
  · rw [Gh.setM_ne _ (by rintro rfl; rw [h0] at hx; cases hx)]
    exact h.old b x hx
  · rw [Gh.setM_ne _ hne]
    exact h.mD
end
end Go.AM

namespace Go.AM
open Go Go.RowKit
abbrev okL (x:Bytes):Prop:=(rlP x).2 = 0
section
variable {P:Program} {X:Cx} {prog:Prog}
abbrev RtAt.lp (A:RtAt P X) (fn:Nat) (T0:Array Value) (D:Nat) (s:LoopState) (p:Option Code):Loop:={ state:=s,pending:=p,fn:=fn,tmps:=T0,params:=#[25],assign:=A.A7,body:=A.A8,defers:=D }
variable (A:RtAt P X) (H:HasR0 prog) (hT:TTok P X.T) (hm:P.follows .mixedOrders = true) (hC :∀n,CallOk P X.fm (acall prog n))
include hT hm hC H
theorem rt_round {Gs Ge:Gh} {w0:World} {D l v2 v3 v4 vs fn:Nat} {T0:Array Value} {σe:Sl} {x2 x3:AV} {acc:List Pan} {x rest:Bytes} {G:Gh} {st:St} {w:World} {v:Value}
    (hne:D≠l) (hl0:Gs.M l = none) (hge:w0.heap.size≤l) (hfe:X.fm = Ge.fm) (hE:RelA Ge 39 σe ⟨T0,[]⟩) (h2:σe 2 = .p (0,0) v2 0) (h3:σe 3 = .p (0,1) v3 0) (h4:σe 4 = .p (0,20480) v4 0)
    (hx:x.length≤900000000) (ha:acc.length≤1000000) (hB:Bt Gs Ge w0 D l v2 v3 v4 vs (A.lp fn T0 D .ready none) x2 x3 acc rest G st w) (hv:R G (.s (x ++ [10])) v) :
    RoundIn Fence.wide (0 - 1) P l fn (T0.setIfInBounds 25 v) A.A7 A.A8 w fun e w'=>match e with
      | .returned u=>∃G' st',G.LeR G'∧((u = .bool true∧okL x∧Bt Gs Ge w0 D l v2 v3 v4 vs (A.lp fn T0 D .ready none) x2 x3 (acc ++ [(rlP x).1]) rest G' st' w')∨(u = .bool false∧¬okL x∧Bt Gs Ge w0 D l v2 v3 v4 vs (A.lp fn T0 D .done (some .ret)) (.sl .full []) (.i .i64 12) acc rest G' st' w'))
      | _=>False:=by
  have hR0:RelA G 39 (updO σe (some 25) (.s (x ++ [10]))) ⟨T0.setIfInBounds 25 v,[]⟩:=(hE.monoR hB.le).put (d:=some 25) (fun t h=>by cases h; decide) hv
  have hfm:X.fm = G.fm:=hfe.trans hB.le.fm.symm
  refine roundIn_of_wpIn (F:=Fence.wide) trivial (W.inr hT hC A.a7 A.w7 w167_7 hfm hR0 hB.rel (fun e σ1 st1 hq a1 w1 G1 hA1 hrun1=>?_) l _)
  obtain ⟨rfl,hσ,hbx,how⟩:=hq
  have hB1:=hB.run hrun1 (hB.b4.of_eq hbx how) (by rw [hbx]; exact hB.bs)
  refine ⟨_,run_beginRound hB1.at rfl,?_⟩
  obtain ⟨hle2,hB2⟩:=hB1.turn (A.lp fn T0 D .busy none) hne hl0 hge
  have e5:σ1 5 = .s (x ++ [10]):=by rw [hσ]; rfl
  have e2:σ1 2 = .p (0,0) v2 0:=by rw [hσ]; exact h2
  have e3:σ1 3 = .p (0,1) v3 0:=by rw [hσ]; exact h3
  have e4:σ1 4 = .p (0,20480) v4 0:=by rw [hσ]; exact h4
  refine W.inr hT hC A.a8 A.w8 (w167_8 H hx ha e5 e2 e3 e4 hB2.b4 hB2.bs) ((hfm.trans hrun1.le.fm.symm).trans hle2.fm.symm) (hA1.monoR hle2) hB2.rel (fun e σ3 st3 hq a3 w3 G3 hA3 hrun3=>?_) l _
  obtain ⟨hok,hno,hs⟩:=hq
  have hLe:G.LeR G3:=(hrun1.le.toR.trans hle2).trans hrun3.le.toR
  by_cases hx0:okL x
  · obtain ⟨rfl,hb4⟩:=hok hx0
    have hB3:=hB2.run hrun3 hb4 hs
    obtain ⟨hle4,hB4⟩:=hB3.turn (A.lp fn T0 D .ready none) hne hl0 hge
    exact ⟨_,_,run_endRound none hB3.at,_,_,hLe.trans hle4,.inl ⟨rfl,hx0,hB4⟩⟩
  · obtain ⟨rfl,hb4⟩:=hno hx0
    have hB3:=hB2.run hrun3 hb4 hs
    obtain ⟨hle4,hB4⟩:=hB3.turn (A.lp fn T0 D .done (some .ret)) hne hl0 hge
    exact ⟨_,_,run_endRound (some .ret) hB3.at,_,_,hLe.trans hle4,.inr ⟨rfl,hx0,hB4⟩⟩
theorem rt_lines {Gs Ge:Gh} {w0:World} {D l v2 v3 v4 vs fn:Nat} {T0:Array Value} {σe:Sl} {x2 x3:AV} {Y:World→Prop}
    (hne:D≠l) (hl0:Gs.M l = none) (hge:w0.heap.size≤l) (hfe:X.fm = Ge.fm) (hE:RelA Ge 39 σe ⟨T0,[]⟩) (h2:σe 2 = .p (0,0) v2 0) (h3:σe 3 = .p (0,1) v3 0) (h4:σe 4 = .p (0,20480) v4 0) :
    ∀(ls:List Bytes) (acc:List Pan) {G:Gh} {st:St} {w:World} {a:Act} {σ:Sl},(∀x ∈ ls,(10:UInt8) ∉ x∧x.length≤900000000)→(unl10 ls).length≤1000000000→acc.length + ls.length≤1000000→
      Bt Gs Ge w0 D l v2 v3 v4 vs (A.lp fn T0 D .ready none) x2 x3 acc (unl10 ls) G st w→RelA G 25 σ a→σ 0 = .yl l→σ 1 = .p (1,0) vs 0→
      (∀G st w,Bt Gs Ge w0 D l v2 v3 v4 vs (A.lp fn T0 D .ready none) x2 x3 (acc ++ ls.map fun x=>(rlP x).1) [] G st w→(∀x ∈ ls,okL x)→Y w)→
      (∀G st w acc rest,Bt Gs Ge w0 D l v2 v3 v4 vs (A.lp fn T0 D .done (some .ret)) (.sl .full []) (.i .i64 12) acc rest G st w→(∃x ∈ ls,¬okL x)→Y w)→
      Code.roundsIn Fence.wide 0 P (.seq A.Y0 (.block 1 (.seq A.Y1 (.seq A.Y2 (.seq (.region 6 #[A.z1,A.z2,A.z3,A.z4] false) (.cond (.tmp 24) .ret .skip)))))) (Exit.inBlock 0 (bodyPost P A.nY fun e w'=>match e with | .returned _=>Y w' | _=>False)) (ls.length + 1) a w
  | [],acc,G,st,w,a,σ,_,_,_,hB,hA,e0,e1,hdone,_=>by
    rw [roundsIn_succ]
    refine wpIn_seq (W.wpn hT hm hC A.y0 (w195_0 e1 hB.bs) (hfe.trans hB.le.fm.symm) hA hB.rel fun e σ' st' hq a' w' G' hA' hrun=>?_)
    obtain ⟨_,_,eb,eo,hq1,_⟩:=hq
    obtain rfl:=hq1 rfl
    simp only [toExit,Exit.then,Exit.inBlock,if_true]
    obtain ⟨u,h5,_⟩:=results_ok hT hA' hrun.rel (fn:=A.nY) (xs:=[]) A.rY (by decide) (r:=.tup []) rfl
    refine ⟨hA'.1,u,h5,hdone G' st' w' ?_ (by simp)⟩
    have:=hB.run hrun (hB.b4.of_eq eb eo) (by rw [eb]; exact hB.bs)
    simpa [unl10] using this
  | x :: ls,acc,G,st,w,a,σ,hls,hlen,hac,hB,hA,e0,e1,hdone,hstop=>by
    rw [roundsIn_succ]
    have hx:=hls x (by simp)
    rw [unl10_cons] at hB hlen
    have hlen2:(unl10 ls).length≤1000000000:=by simp only [List.length_append,List.length_cons] at hlen; omega
    rw [List.length_cons] at hac
    refine wpIn_seq (W.wpn hT hm hC A.y0 (w195_0 e1 hB.bs) (hfe.trans hB.le.fm.symm) hA hB.rel fun e σ1 st1 hq a1 w1 G1 hA1 hrun1=>?_)
    obtain ⟨f0,f1,eb,eo,_,hq2⟩:=hq
    obtain rfl:=hq2 (by simp)
    have hB1:=hB.run hrun1 (hB.b4.of_eq eb eo) (by rw [eb]; exact hB.bs)
    refine wpIn_block (wpIn_seq (W.wpn hT hm hC A.y1 w195_1 (hfe.trans hB1.le.fm.symm) hA1 hB1.rel fun e σ2 st2 hq a2 w2 G2 hA2 hrun2=>?_))
    obtain ⟨rfl,g0,g1,eb,eo⟩:=hq
    have hB2:=hB1.run hrun2 (hB1.b4.of_eq eb eo) (by rw [eb]; exact hB1.bs)
    refine wpIn_seq (W.wpn hT hm hC A.y2 (w195_2 H.toHasP hx.1 hlen (g1.trans (f1.trans e1)) hB2.bs) (hfe.trans hB2.le.fm.symm) hA2 hB2.rel fun e σ3 st3 hq a3 w3 G3 hA3 hrun3=>?_)
    obtain ⟨rfl,k0,k1,k3,eb,eo⟩:=hq
    have hB3:=hB2.run hrun3 (hB2.b4.other rfl eb eo) (by rw [eb]; exact lk_here)
    have j0:σ3 0 = .yl l:=k0.trans (g0.trans (f0.trans e0))
    have j1:σ3 1 = .p (1,0) vs 0:=k1.trans (g1.trans (f1.trans e1))
    refine wpIn_seq (wpIn_region ?_)
    show wpOpsIn Fence.wide 0 P #[A.z1,A.z2,A.z3,A.z4] _ [0,1,2,3] a3 w3
    have s0:=cOpd_ok hA3 (x:=.tmp 0) (y:=.t 0) rfl
    refine in_val (o:=A.z1) rfl A.z1g (run_move A.z1o) ?_
    have hA4:=hA3.put (d:=A.z1.dst) (fun t ht=>by rw [A.z1d] at ht; cases ht; decide) s0
    have s3:=cOpd_ok hA4 (x:=.tmp 3) (y:=.t 3) rfl
    refine in_val (o:=A.z2) rfl A.z2g (run_move A.z2o) ?_
    have hA5:=hA4.put (d:=A.z2.dst) (fun t ht=>by rw [A.z2d] at ht; cases ht; decide) s3
    have s21:=cOpd_ok hA5 (x:=.tmp 21) (y:=.t 21) rfl
    have s22:=cOpd_ok hA5 (x:=.tmp 22) (y:=.t 22) rfl
    have v21:(updO (updO σ3 A.z1.dst ((Opd.t 0).ev σ3)) A.z2.dst ((Opd.t 3).ev (updO σ3 A.z1.dst ((Opd.t 0).ev σ3)))) 21 = .yl l:=by
      rw [A.z1d,A.z2d]; exact j0
    have v22:(updO (updO σ3 A.z1.dst ((Opd.t 0).ev σ3)) A.z2.dst ((Opd.t 3).ev (updO σ3 A.z1.dst ((Opd.t 0).ev σ3)))) 22 = .s (x ++ [10]):=by
      rw [A.z1d,A.z2d]; exact k3
    have w0':(updO (updO σ3 A.z1.dst ((Opd.t 0).ev σ3)) A.z2.dst ((Opd.t 3).ev (updO σ3 A.z1.dst ((Opd.t 0).ev σ3)))) 0 = .yl l:=by
      rw [A.z1d,A.z2d]; exact j0
    have w1':(updO (updO σ3 A.z1.dst ((Opd.t 0).ev σ3)) A.z2.dst ((Opd.t 3).ev (updO σ3 A.z1.dst ((Opd.t 0).ev σ3)))) 1 = .p (1,0) vs 0:=by
      rw [A.z1d,A.z2d]; exact j1
    generalize (updO (updO σ3 A.z1.dst ((Opd.t 0).ev σ3)) A.z2.dst ((Opd.t 3).ev (updO σ3 A.z1.dst ((Opd.t 0).ev σ3)))) = σ5 at *
    unfold Same at s21 s22
    simp only [Opd.ev] at s21 s22
    rw [v21] at s21
    rw [v22] at s22
    generalize ((a3.put A.z1.dst (a3.eval (.tmp 0))).put A.z2.dst ((a3.put A.z1.dst (a3.eval (.tmp 0))).eval (.tmp 3))) = a5 at *
    have hrnd:=rt_round A H hT hm hC hne hl0 hge hfe hE h2 h3 h4 hx.2 (by omega) hB3 s22
    have hyl:(Instr.yield l #[a5.eval (.tmp 22)]).run P w3 = .ok (.round l fn (T0.setIfInBounds 25 (a5.eval (.tmp 22))) A.A7 A.A8) w3:=by
      have:=run_yield (P:=P) (args:=#[a5.eval (.tmp 22)]) hB3.at rfl
      simpa using this
    refine in_round (R:=fun u w6=>∃G' st',G3.LeR G'∧((u = .bool true∧okL x∧Bt Gs Ge w0 D l v2 v3 v4 vs (A.lp fn T0 D .ready none) x2 x3 (acc ++ [(rlP x).1]) (unl10 ls) G' st' w6)∨(u = .bool false∧¬okL x∧Bt Gs Ge w0 D l v2 v3 v4 vs (A.lp fn T0 D .done (some .ret)) (.sl .full []) (.i .i64 12) acc (unl10 ls) G' st' w6))) (o:=A.z3) rfl A.z3g (run_yieldop A.z3o s21.yl_inv rfl hyl) hrnd fun u w6 hu=>?_
    obtain ⟨G6,st6,hle6,hu⟩:=hu
    have hRu :∃b,u = .bool b∧R G6 (.b b) u:=by
      rcases hu with ⟨rfl,_⟩ | ⟨rfl,_⟩
      · exact ⟨true,rfl,.fz _ _ (.b _)⟩
      · exact ⟨false,rfl,.fz _ _ (.b _)⟩
    obtain ⟨b,rfl,hRb⟩:=hRu
    have hA6:=(hA5.monoR hle6).put (d:=A.z3.dst) (fun t ht=>by rw [A.z3d] at ht; cases ht; decide) hRb
    have s23:=cOpd_ok hA6 (x:=.tmp 23) (y:=.t 23) rfl
    have v23:updO σ5 A.z3.dst (.b b) 23 = .b b:=by rw [A.z3d]; rfl
    have v0:updO σ5 A.z3.dst (.b b) 0 = .yl l:=by rw [A.z3d]; exact w0'
    have v1:updO σ5 A.z3.dst (.b b) 1 = .p (1,0) vs 0:=by rw [A.z3d]; exact w1'
    generalize updO σ5 A.z3.dst (.b b) = σ6 at *
    unfold Same at s23
    simp only [Opd.ev] at s23
    rw [v23] at s23
    refine in_val (o:=A.z4) rfl A.z4g (run_not A.z4o s23.bool_inv) ?_
    have hA7:=hA6.put (d:=A.z4.dst) (v:=.b (!b)) (x:=.bool (!b)) (fun t ht=>by rw [A.z4d] at ht; cases ht; decide) (.fz _ _ (.b _))
    generalize ((a5.put A.z3.dst (.bool b)).put A.z4.dst (.bool (!b))) = a7 at *
    have v24:updO σ6 A.z4.dst (.b (!b)) 24 = .b (!b):=by rw [A.z4d]; rfl
    have u0:updO σ6 A.z4.dst (.b (!b)) 0 = .yl l:=by rw [A.z4d]; exact v0
    have u1:updO σ6 A.z4.dst (.b (!b)) 1 = .p (1,0) vs 0:=by rw [A.z4d]; exact v1
    have s24:=cOpd_ok hA7 (x:=.tmp 24) (y:=.t 24) rfl
    generalize updO σ6 A.z4.dst (.b (!b)) = σ7 at *
    unfold Same at s24
    simp only [Opd.ev] at s24
    rw [v24] at s24
    show (Code.cond (.tmp 24) .ret .skip).wpIn Fence.wide 0 P _ a7 w6
    rcases hu with ⟨hb,hok,hB6⟩ | ⟨hb,hok,hB6⟩
    · injection hb with hb
      subst hb
      refine wpIn_cond_false s24.bool_inv (wpIn_skip ?_)
      refine rt_lines hne hl0 hge hfe hE h2 h3 h4 ls (acc ++ [(rlP x).1]) (fun y hy=>hls y (by simp [hy])) hlen2 (by simp; omega) hB6 hA7 u0 u1 (fun G st w hb hall=>?_) fun G st w acc rest hb hex=>?_
      · refine hdone G st w ?_ fun y hy=>?_
        · simpa using hb
        · rcases List.mem_cons.1 hy with rfl | hy
          · exact hok
          · exact hall y hy
      · obtain ⟨y,hy,hy2⟩:=hex
        exact hstop G st w acc rest hb ⟨y,by simp [hy],hy2⟩
    · injection hb with hb
      subst hb
      refine wpIn_cond_true s24.bool_inv (wpIn_ret ?_)
      obtain ⟨u,h5,_⟩:=results_ok hT hA7 hB6.rel (fn:=A.nY) (xs:=[]) A.rY (by decide) (r:=.tup []) rfl
      exact ⟨hA7.1,u,h5,hstop G6 st6 w6 acc _ hB6 ⟨x,by simp,hok⟩⟩
end
end Go.AM

namespace Go.AM
open Go Go.RowKit
def RtFin (Gs:Gh) (w0:World) (s:Bytes) (v:Value) (w':World):Prop:=∃G' st' r,r.strip = some (.tup [.sl .ext ((rtR s).1.map Pan.row),.i .i64 (rtR s).2])∧R G' r v∧HLe Gs.H G'.H∧G'.fm = Gs.fm∧(∀g o v,G'.H g o = some v→Gs.H g o = some v∨w0.heap.size≤g)∧Rel G' w0 st' w'∧(∀b x,Gs.M b = some x→G'.M b = some x)
theorem badT_no {s:Bytes} (h:badT s = false):(spl s).2 = []∧(spl s).1.length≤410:=by
  unfold badT at h
  simp only [Bool.or_eq_false_iff,Bool.and_eq_false_iff,decide_eq_false_iff_not,Bool.not_eq_false'] at h
  refine ⟨spl_rest.2 ?_,by rw [spl_count]; omega⟩
  rcases h.1 with h1 | h1
  · exact .inl (Decidable.not_not.1 h1)
  · exact .inr h1
theorem badT_yes {s:Bytes} (h:badT s = true) (hs:¬120000 < s.length):rtR s = ([],12):=by
  unfold badT at h
  simp only [Bool.or_eq_true,Bool.and_eq_true,decide_eq_true_eq,Bool.not_eq_true'] at h
  unfold rtR
  rw [if_neg hs,if_pos]
  rcases h with ⟨h1,h2⟩ | h
  · refine .inl fun e=>?_
    rcases spl_rest.1 e with e | e
    · exact h1 e
    · unfold ends10 at h2; rw [h2] at e; cases e
  · exact .inr (by rw [spl_count]; exact h)
theorem rtR_all {s:Bytes} (h:badT s = false) (hs:¬120000 < s.length) (hall :∀x ∈ (spl s).1,okL x):rtR s = ((spl s).1.map fun x=>(rlP x).1,0):=by
  obtain ⟨h1,h2⟩:=badT_no h
  unfold rtR
  rw [if_neg hs,if_neg (by rintro (h | h); exact h h1; omega),if_pos (List.all_eq_true.2 fun x hx=>decide_eq_true (hall x hx))]
theorem rtR_not {s:Bytes} (h:badT s = false) (hs:¬120000 < s.length) (hex :∃x ∈ (spl s).1,¬okL x):rtR s = ([],12):=by
  obtain ⟨h1,h2⟩:=badT_no h
  unfold rtR
  rw [if_neg hs,if_neg (by rintro (h | h); exact h h1; omega),if_neg]
  intro ha
  obtain ⟨x,hx,hn⟩:=hex
  exact hn (of_decide_eq_true (List.all_eq_true.1 ha x hx))
section
variable {P:Program} {X:Cx} {prog:Prog} (A:RtAt P X)
theorem rt_res (hT:TTok P X.T) {G:Gh} {w0 w:World} {st:St} {σ:Sl} {T:Array Value} {v2 v3:Nat} {x2 x3:AV} (hA:RelA G 39 σ ⟨T,[]⟩) (hR:Rel G w0 st w) (h2:σ 2 = .p (0,0) v2 0) (h3:σ 3 = .p (0,1) v3 0) (b2:lk st.bx (0,0) = some (v2,[x2])) (b3:lk st.bx (0,1) = some (v3,[x3])) :
    ∃v,(results A.nR T).run P w = .ok v w∧R G (.tup [x2,x3]) v:=by
  refine results_ok hT hA hR (fn:=A.nR) A.rR (by decide) ?_
  have e2:ares1 σ st (.cell 2 1 false) = some x2:=ares_cell h2 b2 rfl rfl
  have e3:ares1 σ st (.cell 3 1 false) = some x3:=ares_cell h3 b3 rfl rfl
  simp only [ares,aresL,e2,e3,Option.map_some]
variable (H:HasR0 prog) (hT:TTok P X.T) (hm:P.follows .mixedOrders = true) (hC :∀n,CallOk P X.fm (acall prog n)) (c187 :∀s:Bytes,s.length≤1000000000→Pus prog 187 [.s s,.s [10]] (.i .i64 (s.count 10:Int)))
include hT hm hC H
theorem rt_Lines {G:Gh} {w0 w:World} {st:St} {s:Bytes} {v:Value} (hfm:X.fm = G.fm) (hR:Rel G w0 st w) (hv:R G (.s s) v):Calls P A.fL #[v] w fun e w'=>match e with
    | .returned u=>∃G' st',R G' (.fn 195 [.p (1,0) st.nx 0]) u∧Run G G' w0 st st' w' 1∧st'.bx = st_ st.bx (1,0) (st.nx,[.s s])∧st'.ow = st.ow
    | _=>False:=by
  refine calls_of_wp A.eL A.bL ?_
  rw [A.tL]
  have hE:RelA G 4 (sl0 [.s s]) { tmps:=([v]:List Value).toArray ++ Array.replicate (4 - ([v]:List Value).toArray.size) undef,defers:=[] }:=RelA.enter ⟨rfl,fun j a u h1 h2=>by
    cases j with
    | zero=>simp at h1 h2; subst h1; subst h2; exact hv
    | succ j=>simp at h1⟩ (by simp)
  refine (wpIn_wide (n:=0)).1 (W.wpn (prog:=prog) (d:=1) hT hm hC A.l0 (w188 (s:=s) rfl) hfm hE hR fun e σ' st' hq a' w' G' hA' hrun=>?_)
  obtain ⟨rfl,h2,hbx,how⟩:=hq
  obtain ⟨u,h3,h4⟩:=results_ok hT hA' hrun.rel (fn:=A.nL) A.rL (by decide) (r:=.fn 195 [.p (1,0) st.nx 0]) (by simp only [ares,ares1,h2])
  exact ⟨hA'.1,u,h3,G',st',h4,hrun,hbx,how⟩
include c187
theorem rt_calls {Gs:Gh} {w0:World} {s:Bytes} {vals:List Value} (hL :∃c,X.fm A.fL = some c) (hY:X.fm A.fY = some 195) (hs:s.length≤1000000000) (hfm:X.fm = Gs.fm) (hR:Rel Gs w0 st0 w0) (hV:Rs Gs [.s s] vals):Calls P A.fR vals.toArray w0 fun e w'=>match e with | .returned v=>RtFin Gs w0 s v w' | _=>False:=by
  refine (callsIn_wide (n:=0)).1 (callsIn_of_wp_marks (F:=Fence.wide) (n:=0) A.eR A.bR trivial ?_)
  rw [A.tR]
  have hA0:=RelA.enter (nt:=39) hV (by simp)
  -- an end ahead of the loop
  have early :∀{x2 x3:AV} {v2 v3:Nat} {σ:Sl} {G:Gh} {st:St} {a:Act} {w:World},(.tup [x2,x3]:AV).strip = some (.tup [.sl .ext ((rtR s).1.map Pan.row),.i .i64 (rtR s).2])→RelA G 39 σ a→Run Gs G w0 st0 st w 0→σ 2 = .p (0,0) v2 0→σ 3 = .p (0,1) v3 0→lk st.bx (0,0) = some (v2,[x2])→lk st.bx (0,1) = some (v3,[x3])→
      bodyPostM Fence.wide 0 P A.nR (fun e w'=>match e with | .returned v=>RtFin Gs w0 s v w' | _=>False) .ret a w:=by
    intro x2 x3 v2 v3 σ G st a w hst hA hrun h2 h3 b2 b3
    obtain ⟨v,e1,e2⟩:=rt_res A hT (T:=a.tmps) ⟨rfl,hA.2⟩ hrun.rel h2 h3 b2 b3
    show LeavesInM Fence.wide 0 P A.nR a.tmps _ a.defers .returning w
    rw [hA.1]
    exact ⟨v,e1,G,st,_,hst,e2,hrun.le.H,hrun.le.fm,hrun.newH,hrun.rel,hrun.le.M⟩
  refine wpIn_seq (W.wpn hT hm hC A.a0 w167_0 hfm hA0 hR fun e σ1 st1 hq a1 w1 G1 hA1 hrun1=>?_)
  obtain ⟨rfl,f0,f2,f3,fb2,fb3,fo⟩:=hq
  have g0:σ1 0 = .s s:=f0
  refine wpIn_seq (W.wpn hT hm hC A.a1 (w167_1 g0 f2 f3 fb2 fb3) (hfm.trans hrun1.le.fm.symm) hA1 hrun1.rel fun e σ2 st2 hq a2 w2 G2 hA2 hrun2=>?_)
  obtain ⟨e0,e2,e3,eo,hbig,hsm⟩:=hq
  have run2:=hrun1.trans hrun2
  by_cases hlen:120000 < s.length
  · obtain ⟨rfl,b2,b3⟩:=hbig hlen
    refine early ?_ hA2 run2 (e2.trans f2) (e3.trans f3) b2 b3
    unfold rtR
    rw [if_pos hlen]
    rfl
  obtain ⟨rfl,eb⟩:=hsm hlen
  refine wpIn_seq (W.wpn hT hm hC A.a3 (w167_3 H.toHasP c187 hs (e0.trans g0) (e2.trans f2) (e3.trans f3) (eb ▸ fb2) (eb ▸ fb3)) (hfm.trans run2.le.fm.symm) hA2 hrun2.rel fun e σ3 st3 hq a3 w3 G3 hA3 hrun3=>?_)
  obtain ⟨d0,d2,d3,dO,hyes,hno⟩:=hq
  have run3:=run2.trans hrun3
  cases hbad:badT s with
  | true=>
    obtain ⟨rfl,b2,b3⟩:=hyes hbad
    refine early ?_ hA3 run3 (d2.trans (e2.trans f2)) (d3.trans (e3.trans f3)) b2 b3
    rw [badT_yes hbad hlen]
    rfl
  | false=>
  obtain ⟨rfl,db⟩:=hno hbad
  refine wpIn_seq (W.wpn hT hm hC A.a5 w167_5 (hfm.trans run3.le.fm.symm) hA3 hrun3.rel fun e σ4 st4 hq a4 w4 G4 hA4 hrun4=>?_)
  obtain ⟨rfl,c0,c2,c3,c4,cb,co⟩:=hq
  have run4:=run3.trans hrun4
  have m0:σ4 0 = .s s:=c0.trans (d0.trans (e0.trans g0))
  have m2:σ4 2 = .p (0,0) st0.nx 0:=c2.trans (d2.trans (e2.trans f2))
  have m3:σ4 3 = .p (0,1) (st0.nx + 1) 0:=c3.trans (d3.trans (e3.trans f3))
  have hB4:B4 st0.nx (st0.nx + 1) st3.nx st4 (.sl .full []) (.i .i64 0) []:=by
    refine ⟨?_,?_,.full,?_,trivial⟩
    · rw [cb]; exact lk_other rfl (by rw [db,eb]; exact fb2)
    · rw [cb]; exact lk_other rfl (by rw [db,eb]; exact fb3)
    · rw [cb]; exact lk_here
  -- strings.Lines
  refine wpIn_seq (wpIn_seq (wpIn_region ?_))
  show wpOpsIn Fence.wide 0 P #[A.p1,A.p2] _ [0,1] a4 w4
  have q0:=cOpd_ok hA4 (x:=.tmp 0) (y:=.t 0) rfl
  refine in_val (o:=A.p1) rfl A.p1g (run_move A.p1o) ?_
  have hA5:=hA4.put (d:=A.p1.dst) (fun t ht=>by rw [A.p1d] at ht; cases ht; decide) q0
  have v23:updO σ4 A.p1.dst ((Opd.t 0).ev σ4) 23 = .s s:=by rw [A.p1d]; exact m0
  have k2:updO σ4 A.p1.dst ((Opd.t 0).ev σ4) 2 = .p (0,0) st0.nx 0:=by rw [A.p1d]; exact m2
  have k3:updO σ4 A.p1.dst ((Opd.t 0).ev σ4) 3 = .p (0,1) (st0.nx + 1) 0:=by rw [A.p1d]; exact m3
  have k4:updO σ4 A.p1.dst ((Opd.t 0).ev σ4) 4 = .p (0,20480) st3.nx 0:=by rw [A.p1d]; exact c4
  have q23:=cOpd_ok hA5 (x:=.tmp 23) (y:=.t 23) rfl
  generalize updO σ4 A.p1.dst ((Opd.t 0).ev σ4) = σ5 at *
  generalize a4.put A.p1.dst (a4.eval (.tmp 0)) = a5 at *
  unfold Same at q23
  simp only [Opd.ev] at q23
  rw [v23] at q23
  refine in_call (o:=A.p2) rfl A.p2g (run_callop A.p2o rfl (callFunc_enter A.eL A.mL A.bL _)) (rt_Lines A H hT hm hC (hfm.trans run4.le.fm.symm) hrun4.rel q23) fun u w6 hu=>?_
  obtain ⟨G6,st6,hRu,hrun6,nb,no⟩:=hu
  have hA6:=(hA5.mono hrun6.le).put (d:=A.p2.dst) (fun t ht=>by rw [A.p2d] at ht; cases ht; decide) hRu
  have v24:updO σ5 A.p2.dst (.fn 195 [.p (1,0) st4.nx 0]) 24 = .fn 195 [.p (1,0) st4.nx 0]:=by rw [A.p2d]; rfl
  have n2:updO σ5 A.p2.dst (.fn 195 [.p (1,0) st4.nx 0]) 2 = .p (0,0) st0.nx 0:=by rw [A.p2d]; exact k2
  have n3:updO σ5 A.p2.dst (.fn 195 [.p (1,0) st4.nx 0]) 3 = .p (0,1) (st0.nx + 1) 0:=by rw [A.p2d]; exact k3
  have n4:updO σ5 A.p2.dst (.fn 195 [.p (1,0) st4.nx 0]) 4 = .p (0,20480) st3.nx 0:=by rw [A.p2d]; exact k4
  have q24:=cOpd_ok hA6 (x:=.tmp 24) (y:=.t 24) rfl
  generalize updO σ5 A.p2.dst (.fn 195 [.p (1,0) st4.nx 0]) = σ6 at *
  generalize a5.put A.p2.dst u = a6 at *
  unfold Same at q24
  simp only [Opd.ev] at q24
  rw [v24] at q24
  have hB6:B4 st0.nx (st0.nx + 1) st3.nx st6 (.sl .full []) (.i .i64 0) []:=hB4.other rfl nb no
  have hs6:lk st6.bx (1,0) = some (st4.nx,[.s s]):=by rw [nb]; exact lk_here
  have run6:Gs.Le G6∧(∀g o v,G6.H g o = some v→Gs.H g o = some v∨w0.heap.size≤g):=⟨run4.le.trans hrun6.le,fun g o v hv=>by
    rcases hrun6.newH g o v hv with h' | h'
    · exact run4.newH g o v h'
    · exact .inr h'⟩
  show (Code.block 0 (.rangeFunc (.tmp 24) #[25] A.A7 A.A8)).wpIn Fence.wide 0 P _ a6 w6
  obtain ⟨f,us,hf,hval,hus⟩:=q24.fn_inv
  have hfm6:X.fm = G6.fm:=hfm.trans run6.1.fm.symm
  obtain rfl:=A.fm f (by rw [hfm6]; exact hf)
  refine wpIn_block (wpIn_rangeFunc ?_)
  intro fn _
  obtain ⟨hn1,hR7⟩:=hrun6.rel.newOb (o:=.deferred (some [])) rfl
  obtain ⟨hn2,hR8⟩:=hR7.newOb (o:=.loop (A.lp fn a6.tmps w6.heap.size .ready none)) rfl
  rw [World.size_alloc] at hn2 hR8
  have hne:w6.heap.size≠w6.heap.size + 1:=by omega
  have hgD:Gs.M w6.heap.size = none:=by
    cases h:Gs.M w6.heap.size with
    | none=>rfl
    | some x=>have:=run6.1.M _ _ h; rw [hn1] at this; cases this
  have hgl:Gs.M (w6.heap.size + 1) = none:=by
    cases h:Gs.M (w6.heap.size + 1) with
    | none=>rfl
    | some x=>have:=run6.1.M _ _ h; rw [Gh.setM_ne _ (by omega),this] at hn2; cases hn2
  have hsz:=hrun6.rel.bel.size
  have hE:RelA G6 39 σ6 ⟨a6.tmps,[]⟩:=⟨rfl,hA6.2⟩
  obtain ⟨hp1,hp2⟩:=badT_no hbad
  have hsp:s = unl10 (spl s).1:=by
    have:=spl_join s
    rw [hp1,List.append_nil] at this
    exact this
  have le7:=Gh.setM_leM (x:=.ob (.deferred (some []))) hn1
  have le8:=Gh.setM_leM (x:=.ob (.loop (A.lp fn a6.tmps w6.heap.size .ready none))) hn2
  have hB8:Bt Gs G6 w0 w6.heap.size (w6.heap.size + 1) st0.nx (st0.nx + 1) st3.nx st4.nx (A.lp fn a6.tmps w6.heap.size .ready none) (.sl .full []) (.i .i64 0) [] (unl10 (spl s).1) ((G6.setM w6.heap.size (.ob (.deferred (some [])))).setM (w6.heap.size + 1) (.ob (.loop (A.lp fn a6.tmps w6.heap.size .ready none)))) st6 ((w6.alloc (.deferred (some []))).alloc (.loop (A.lp fn a6.tmps w6.heap.size .ready none))):=
    ⟨(le7.trans le8).toR,run6.2,fun b x hx=>(le7.trans le8).M b x (run6.1.M b x hx),hR8,by rw [Gh.setM_ne _ hne,Gh.setM_at],Gh.setM_at _ _,hB6,by rw [← hsp]; exact hs6⟩
  generalize hW:(w6.alloc (.deferred (some []))).alloc (.loop (A.lp fn a6.tmps w6.heap.size .ready none)) = W1 at *
  generalize (G6.setM w6.heap.size (.ob (.deferred (some [])))).setM (w6.heap.size + 1) (.ob (.loop (A.lp fn a6.tmps w6.heap.size .ready none))) = G8 at *
  -- the end
  have close :∀{lp:Loop} {x2 x3:AV} {acc:List Pan} {rest:Bytes} {σ:Sl} {T:Array Value} {G:Gh} {st:St} {w:World},(.tup [x2,x3]:AV).strip = some (.tup [.sl .ext ((rtR s).1.map Pan.row),.i .i64 (rtR s).2])→Bt Gs G6 w0 w6.heap.size (w6.heap.size + 1) st0.nx (st0.nx + 1) st3.nx st4.nx lp x2 x3 acc rest G st w→RelA G 39 σ ⟨T,[]⟩→σ 2 = .p (0,0) st0.nx 0→σ 3 = .p (0,1) (st0.nx + 1) 0→
      LeavesInM Fence.wide 0 P A.nR T (fun e w'=>match e with | .returned v=>RtFin Gs w0 s v w' | _=>False) [{ target:=.collected w6.heap.size,args:=#[] }] .returning w:=by
    intro lp x2 x3 acc rest σ T G st w hst hB hA h2 h3
    have hD:=hB.rel.mp _ _ hB.mD
    have hn :∀x,G.M w6.heap.size≠some (.mp x):=fun x e=>by rw [hB.mD] at e; cases e
    have hrel:=hB.rel.putOb (o':=.deferred none) hD.1 rfl rfl hsz hn
    have hle:=Gh.setM_le (G:=G) (x:=.ob (.deferred none)) hn
    refine ⟨by simp,.inl ⟨w6.heap.size,_,rfl,run_takeDeferred hD.1,?_⟩⟩
    obtain ⟨v,e1,e2⟩:=rt_res A hT (hA.monoR hle) hrel h2 h3 hB.b4.b2 hB.b4.b3
    exact ⟨v,e1,_,st,_,hst,e2,fun g o v hv=>hB.le.H _ _ _ (run6.1.H _ _ _ hv),hB.le.fm.trans run6.1.fm,hB.newH,hrel,fun b x hx=>by
      rw [Gh.setM_ne _ (by rintro rfl; rw [hgD] at hx; cases hx)]
      exact hB.old b x hx⟩
  refine ⟨w6.heap.size + 1,[{ target:=.collected w6.heap.size,args:=#[] }],W1,{ target:=.fn (.func A.fY) us.toArray,args:=#[.func (.yield (w6.heap.size + 1)) #[] #[]] },W1,A.fY,#[.func (.yield (w6.heap.size + 1)) #[] #[]] ++ us.toArray,W1,?_,?_,fun _ _=>trivial,?_,fun h=>(by cases h),?_⟩
  · rw [← hW]; exact run_enterLoop_outer _ _ _ _ _
  · simp only [resolve,hval]
    simp [go_sem]
  · simp [invoke,go_sem,callFunc_enter A.eY A.mY A.bY]
  · have hAY:RelA G8 25 (sl0 [.yl (w6.heap.size + 1),.p (1,0) st4.nx 0]) { tmps:=(.func (.yield (w6.heap.size + 1)) #[] #[] :: us).toArray ++ Array.replicate (25 - (Value.func (.yield (w6.heap.size + 1)) #[] #[] :: us).toArray.size) undef,defers:=[] }:=by
      refine RelA.enter ⟨by have:=hus.1; simp at this ⊢; omega,fun j a u h1 h2=>?_⟩ (by simp)
      cases j with
      | zero=>simp at h1 h2; subst h1; subst h2; exact .yl _
      | succ j=>exact (hus.2 j a u (by simpa using h1) (by simpa using h2)).monoR hB8.le
    have eargs:(#[.func (.yield (w6.heap.size + 1)) #[] #[]] ++ us.toArray:Array Value) = (.func (.yield (w6.heap.size + 1)) #[] #[] :: us).toArray:=by simp
    refine (callsIn_of_wp (F:=Fence.wide) (n:=0) (R:=fun e w'=>match e with
      | .returned _=>(∃G st,Bt Gs G6 w0 w6.heap.size (w6.heap.size + 1) st0.nx (st0.nx + 1) st3.nx st4.nx (A.lp fn a6.tmps w6.heap.size .ready none) (.sl .full []) (.i .i64 0) ((spl s).1.map fun x=>(rlP x).1) [] G st w'∧∀x ∈ (spl s).1,okL x)∨(∃G st acc rest,Bt Gs G6 w0 w6.heap.size (w6.heap.size + 1) st0.nx (st0.nx + 1) st3.nx st4.nx (A.lp fn a6.tmps w6.heap.size .done (some .ret)) (.sl .full []) (.i .i64 12) acc rest G st w'∧∃x ∈ (spl s).1,¬okL x)
      | _=>False) A.eY A.bY trivial ?_).mono fun e w9 he=>?_
    · rw [eargs,A.tY]
      refine wpIn_block (wpIn_loop_rounds _ (rt_lines A H hT hm hC hne hgl (by omega) hfm6 hE n2 n3 n4 (spl s).1 [] (fun x hx=>⟨(spl_nl s).1 x hx,?_⟩) ?_ ?_ hB8 hAY rfl rfl (fun G st w hB hall=>.inl ⟨G,st,by simpa using hB,hall⟩) fun G st w acc rest hB hex=>.inr ⟨G,st,acc,rest,hB,hex⟩))
      · have:=spl_len s x hx; omega
      · rw [← hsp]; exact hs
      · simp; omega
    · cases e with
      | panicked c=>exact he.elim
      | outgrown=>exact he.elim
      | returned v=>
        rcases he with ⟨G9,st9,hB9,hall⟩ | ⟨G9,st9,acc,rest,hB9,hex⟩
        · obtain ⟨hle,hB10⟩:=hB9.turn (A.lp fn a6.tmps w6.heap.size .exhausted none) hne hgl (by omega)
          refine ⟨none,_,run_endLoop hB9.at (by simp),?_⟩
          show (Code.seq (.region 12 #[A.q1,A.q2,A.q3] false) .ret).wpIn Fence.wide 0 P _ { a6 with defers:=[{ target:=.collected w6.heap.size,args:=#[] }] ++ a6.defers } _
          rw [hA6.1]
          generalize w9.putObj (w6.heap.size + 1) _ = w10 at *
          generalize G9.setM (w6.heap.size + 1) _ = G10 at *
          have hE10:=hE.monoR hB10.le
          obtain ⟨b2,b3,o,b4,b5⟩:=hB10.b4
          refine wpIn_seq (wpIn_region ?_)
          show wpOpsIn Fence.wide 0 P #[A.q1,A.q2,A.q3] _ [0,1,2] _ _
          have r4:=cOpd_ok hE10 (x:=.tmp 4) (y:=.t 4) rfl
          unfold Same at r4
          simp only [Opd.ev] at r4
          rw [n4] at r4
          obtain ⟨u1,hr1,hR1⟩:=aload_ok (P:=P) hB10.rel (hT A.t1 A.i1 A.u1) (fun _=>A.s1) (r:=.sl o (((spl s).1.map fun x=>(rlP x).1).map Pan.row)) (by
            rw [A.s1,A.g1]
            simp only [aload,b4]
            rfl) r4
          refine in_val (o:=A.q1) rfl A.q1g (run_load A.q1o hr1) ?_
          have hA11:=hE10.put (d:=A.q1.dst) (fun t ht=>by rw [A.q1d] at ht; cases ht; decide) hR1
          have v38:updO σ6 A.q1.dst (.sl o (((spl s).1.map fun x=>(rlP x).1).map Pan.row)) 38 = .sl o (((spl s).1.map fun x=>(rlP x).1).map Pan.row):=by rw [A.q1d]; rfl
          have v2:updO σ6 A.q1.dst (.sl o (((spl s).1.map fun x=>(rlP x).1).map Pan.row)) 2 = .p (0,0) st0.nx 0:=by rw [A.q1d]; exact n2
          have v3:updO σ6 A.q1.dst (.sl o (((spl s).1.map fun x=>(rlP x).1).map Pan.row)) 3 = .p (0,1) (st0.nx + 1) 0:=by rw [A.q1d]; exact n3
          have r38:=cOpd_ok hA11 (x:=.tmp 38) (y:=.t 38) rfl
          have r2:=cOpd_ok hA11 (x:=.tmp 2) (y:=.t 2) rfl
          have r3:=cOpd_ok hA11 (x:=.tmp 3) (y:=.t 3) rfl
          have hput:({ a6 with defers:=[{ target:=.collected w6.heap.size,args:=#[] }] ++ [] }:Act).put A.q1.dst u1 = { (⟨a6.tmps,[]⟩:Act).put A.q1.dst u1 with defers:=[{ target:=.collected w6.heap.size,args:=#[] }] }:=by rw [A.q1d]; rfl
          rw [hput]
          have hd0:((⟨a6.tmps,[]⟩:Act).put A.q1.dst u1).defers = []:=hA11.1
          generalize (⟨a6.tmps,[]⟩:Act).put A.q1.dst u1 = a11 at *
          generalize updO σ6 A.q1.dst (.sl o (((spl s).1.map fun x=>(rlP x).1).map Pan.row)) = σ11 at *
          unfold Same at r38 r2 r3
          simp only [Opd.ev] at r38 r2 r3
          rw [v38] at r38
          rw [v2] at r2
          rw [v3] at r3
          obtain ⟨w11,hr2,hst2⟩:=astore_ok (P:=P) hB10.rel (hT A.t1 A.i1 A.u1) (st':={ st9 with bx:=st_ st9.bx (0,0) (st0.nx,[.sl o (((spl s).1.map fun x=>(rlP x).1).map Pan.row)]) }) (by
            rw [A.s1]
            simp only [astore,b2]
            rfl) r2 r38 (d:=0) (site:=0) (ver:=st9.nx)
          refine in_skip (o:=A.q2) rfl A.q2g (run_store A.q2o hr2) ?_
          rw [A.q2d]
          have hrun11:=Run.step (Run.refl (d:=0) hB10.rel) hst2 (Nat.le_refl _)
          obtain ⟨w12,hr3,hst3⟩:=astore_ok (P:=P) hst2.rel (hT A.t2 A.i2 A.u2) (st':={ st9 with bx:=st_ (st_ st9.bx (0,0) (st0.nx,[.sl o (((spl s).1.map fun x=>(rlP x).1).map Pan.row)])) (0,1) (st0.nx + 1,[.i .i64 0]) }) (by
            rw [A.s2]
            simp only [astore,lk_other (d:=0) (s:=0) (s':=1) rfl b3]
            rfl) r3 (.fz _ _ (.i .i64 0)) (d:=0) (site:=0) (ver:=st9.nx)
          refine in_skip (o:=A.q3) rfl A.q3g (run_store A.q3o hr3) ?_
          rw [A.q3d]
          have hrun12:=Run.step hrun11 hst3 (Nat.le_refl _)
          have hB12:=hB10.run (x2':=.sl o (((spl s).1.map fun x=>(rlP x).1).map Pan.row)) (x3':=.i .i64 0) (acc':=(spl s).1.map fun x=>(rlP x).1) (rest':=[]) hrun12 ⟨lk_other rfl lk_here,lk_here,o,lk_other rfl (lk_other rfl b4),b5⟩ (by
            have hk :∀z:Nat,((0,z):Key)≠(1,0):=fun z e=>by injection e with e _; cases e
            exact (lk_ne (hk _)).trans ((lk_ne (hk _)).trans hB10.bs))
          refine wpIn_ret ?_
          show LeavesInM Fence.wide 0 P A.nR a11.tmps _ [{ target:=.collected w6.heap.size,args:=#[] }] .returning w12
          refine close ?_ hB12 ⟨rfl,hA11.2⟩ v2 v3
          rw [rtR_all hbad hlen hall]
          rfl
        · obtain ⟨hle,hB10⟩:=hB9.turn (A.lp fn a6.tmps w6.heap.size .exhausted (some .ret)) hne hgl (by omega)
          refine ⟨some .ret,_,run_endLoop hB9.at (by simp),wpIn_ret ?_⟩
          show LeavesInM Fence.wide 0 P A.nR a6.tmps _ ([{ target:=.collected w6.heap.size,args:=#[] }] ++ a6.defers) .returning _
          rw [hA6.1]
          refine close ?_ hB10 (hE.monoR hB10.le) n2 n3
          rw [rtR_not hbad hlen hex]
          rfl
end
end Go.AM

namespace Go.AM
open Go Go.RowKit
def bodyR (f:Func):Code:=f.body.getD .skip
def sqA:Code→Code | .seq a _=>a | c=>c
def sqB:Code→Code | .seq _ b=>b | c=>c
def sqU:Code→Code | .block _ c=>c | .loop c=>c | c=>c
def rfA:Code→Code | .rangeFunc _ _ a _=>a | c=>c
def rfB:Code→Code | .rangeFunc _ _ _ b=>b | c=>c
def rgO (c:Code) (i:Nat):Oper:=match c with | .region _ o _=>o.getD i default | _=>default
theorem lift0 {P:Program} {X:Cx} {G:Gh} {w0 w:World} {st:St} {d:Nat} {f:FuncId} {s:Bytes} {vals:List Value} (hR:Rel G w0 st w) (hen:(callFunc f vals.toArray).run P w = .ok (.enter f vals.toArray) w)
    (h:Calls P f vals.toArray w fun e w'=>match e with | .returned v=>RtFin ⟨G.H,fun _ _=>none,fun _ _=>none,G.fm,G.M⟩ w s v w' | _=>False) :
    Goes P f vals.toArray w fun v w'=>∃G',R G' (.tup [.sl .ext ((rtR s).1.map Pan.row),.i .i64 (rtR s).2]) v∧Run G G' w0 st st w' d:=by
  refine .inl ⟨hen,h.mono fun e w' he=>?_⟩
  cases e with
  | panicked c=>exact he.elim
  | outgrown=>exact he.elim
  | returned v=>
    obtain ⟨G',st',r,h1,h2,h3,h4,h5,h6,h7⟩:=he
    have hs:=(Step.grow (d:=d) (site:=0) (ver:=0) hR h6.bel.bel h3 (fun g o v hg=>by
      rcases h5 g o v hg with h' | h'
      · exact .inl h'
      · exact .inr ⟨h',h6.ext g o v hg⟩)).setM h7 h6.mp
    exact ⟨⟨G'.H,G.ρ,G.ω,G.fm,G'.M⟩,strip_ok (G:=G') (fun _ _ _ h=>h) (fun _ _ h=>h) h2 h1 G.fm,⟨hs.le,hs.rel,hs.nx,fun _ _ _=>⟨rfl,rfl⟩,fun _ _ _ _ _ _ h=>h,fun g o v hg=>by
      rcases h5 g o v hg with h' | h'
      · exact .inl h'
      · exact .inr (Nat.le_trans hR.bel.size h')⟩⟩
theorem rel0 {G:Gh} {w0 w:World} {st:St} (hR:Rel G w0 st w):Rel ⟨G.H,fun _ _=>none,fun _ _=>none,G.fm,G.M⟩ w st0 w:=by
  refine ⟨hR.bel.here,hR.ext,?_,?_,?_,?_,fun _ _ _=>⟨rfl,rfl⟩,fun k ver cs g _ h1=>?_,fun k ver n _ h1=>?_,hR.mp⟩
  rotate_left 4
  · simp [st0,lk] at h1
  · simp [st0,lk] at h1
  · intro k ver cs g h1; simp [st0,lk] at h1
  · intro k k' ver ver' cs cs' g h1; simp [st0,lk] at h1
  · intro k ver n h1; simp [st0,lk] at h1
  · intro k k' ver ver' n n' g cap size cap' size' h1; simp [st0,lk] at h1
def orcC:Nat→List AV→Option AV:=fun c args=>if c = 187 then (match args with | [.s s,.s [b]]=>some (.i .i64 (s.count b:Int)) | _=>none) else orcB c args
def orcR:Nat→List AV→Option AV:=fun c args=>if c = 167 then (match args with | [.s s]=>if s.length≤1000000000 then some (.tup [.sl .ext ((rtR s).1.map Pan.row),.i .i64 (rtR s).2]) else none | _=>none) else orcC c args
theorem orcC_187 (s:Bytes) (b:UInt8):orcC 187 [.s s,.s [b]] = some (.i .i64 (s.count b:Int)):=rfl
theorem orcC_48 (s:List UInt8) (c:UInt8):orcC 48 [.s s,.i .u8 (c.toNat:Int)] = some (.i .i64 (Lib.indexByte s c)):=by
  unfold orcC
  rw [if_neg (by decide)]
  exact orcB_48 s c
theorem orcC_146 (k:Key) (v:Nat):orcC 146 [.p k v 0] = some (.p k v 0):=rfl
theorem orcC_105 (args:List AV):orcC 105 args = none:=by
  unfold orcC
  rw [if_neg (by decide)]
  exact orcB_105 args
theorem orcR_167 (s:Bytes) (h:s.length≤1000000000):orcR 167 [.s s] = some (.tup [.sl .ext ((rtR s).1.map Pan.row),.i .i64 (rtR s).2]):=by
  unfold orcR
  rw [if_pos rfl]
  simp only
  rw [if_pos h]
theorem orcR_48 (s:List UInt8) (c:UInt8):orcR 48 [.s s,.i .u8 (c.toNat:Int)] = some (.i .i64 (Lib.indexByte s c)):=by
  unfold orcR
  rw [if_neg (by decide)]
  exact orcC_48 s c
theorem orcR_146 (k:Key) (v:Nat):orcR 146 [.p k v 0] = some (.p k v 0):=rfl
theorem orcR_105 (args:List AV):orcR 105 args = none:=by
  unfold orcR
  rw [if_neg (by decide)]
  exact orcC_105 args
variable {P:Program} {X:Cx} {fn:Nat→Option AF} {orc:Nat→List AV→St→Option (AV × St)}
theorem orcC_ok (hB:OracOk P X ⟨fn,orcB,orc⟩) {f0:Nat} (hf :∀f,X.fm f = some 187→f = f0) (hen :∀args w,(callFunc f0 args).run P w = .ok (.enter f0 args) w)
    (hc :∀(s:ByteArray) (c:UInt8) (w:World),Calls P f0 #[.string s,.string ⟨#[c]⟩] w fun e w'=>e = .returned (.int .i64 (Lib.countByte s.data.toList c))∧w' = w):OracOk P X ⟨fn,orcC,orc⟩:=by
  intro f c hfc hn args r hr G w0 st w vals d hG hR hV
  simp only [orcC] at hr
  split at hr
  case isFalse=>exact hB f c hfc hn args r hr G w0 st w vals d hG hR hV
  rename_i h187
  subst h187
  obtain rfl:=hf f hfc
  split at hr
  case h_2=>cases hr
  rename_i s b
  cases hr
  have hlen:=hV.1
  match vals,hlen with
  | [u1,u2],_=>
    have e1:=(hV.2 0 _ u1 rfl rfl).str_inv
    have e2:=(hV.2 1 _ u2 rfl rfl).str_inv
    subst e1; subst e2
    refine .inl ⟨hen _ _,(hc ⟨s.toArray⟩ b w).mono fun e w' he=>?_⟩
    obtain ⟨rfl,rfl⟩:=he
    exact ⟨G,.fz _ _ (.i _ _),.refl hR⟩
theorem orcR_ok (hC0:OracOk P X ⟨fn,orcC,orc⟩) (hS:OracSOk P X ⟨fn,orcC,orc⟩) (hT:TTok P X.T) (hm:P.follows .mixedOrders = true) (hF:ProgOk P X fn) (H:HasR0 ⟨fn,orcC,orc⟩) (hf187:fn 187 = none) (A:RtAt P X) (hR167 :∀f,X.fm f = some 167→f = A.fR) (hL :∃c,X.fm A.fL = some c) (hY:X.fm A.fY = some 195):OracOk P X ⟨fn,orcR,orc⟩:=by
  intro f c hfc hn args r hr G w0 st w vals d hG hR hV
  simp only [orcR] at hr
  split at hr
  case isFalse=>exact hC0 f c hfc hn args r hr G w0 st w vals d hG hR hV
  rename_i h167
  subst h167
  obtain rfl:=hR167 f hfc
  split at hr
  case h_2=>cases hr
  rename_i s
  split at hr
  case isFalse=>cases hr
  rename_i hs
  cases hr
  refine lift0 (X:=X) hR (callFunc_enter A.eR A.mR A.bR _) ?_
  refine rt_calls A (prog:=⟨fn,orcC,orc⟩) H hT hm (calls_ok hT hm hF hC0 hS) (fun s hs=>Pus.orac hf187 (orcC_187 s 10) rfl) hL hY hs hG.symm (rel0 hR) ⟨hV.1,fun j a u h1 h2=>?_⟩
  have:=hV.2 j a u h1 h2
  cases j with
  | zero=>
    simp at h1
    subst h1
    rw [this.str_inv]
    exact .fz _ _ (.s _)
  | succ j=>simp at h1
end Go.AM

/- MADE BY PROGRAM (seat2.py): the types of the program, and that its code is the machine's. -/
namespace Go.Proofs
open Go.Shelf
def Try.lays169_ren : Go.Shelf.Ren := ⟨fun | 169 => 50 | n => n, fun | 70 => 86 | 9 => 9 | 0 => 0 | 72 => 88 | 37 => 63 | 127 => 108 | 3 => 3 | 5 => 5 | n => n, fun | n => n⟩
theorem Try.lays169 : Go.Proofs.Lays.n169 Try.prog Try.lays169_ren := {
  mixed := by kernel_rfl
  f169 := Try.func50.trans (congrArg some (by kernel_rfl))
  t0 := Try.underlying0
  a0 := Try.isAgg0
  z0 := Try.sizeOf0
  v0 := Try.zeroValue0
  t3 := Try.underlying3
  a3 := Try.isAgg3
  z3 := Try.sizeOf3
  v3 := Try.zeroValue3
  t9 := Try.underlying9
  a9 := Try.isAgg9
  z9 := Try.sizeOf9
  v9 := Try.zeroValue9
  t37 := Try.underlying63
  a37 := Try.isAgg63
  z37 := Try.sizeOf63
  v37 := Try.zeroValue63
  t70 := Try.underlying86
  a70 := Try.isAgg86
  z70 := Try.sizeOf86
  v70 := Try.zeroValue86
  t72 := Try.underlying88
  a72 := Try.isAgg88
  z72 := Try.sizeOf88
  v72 := Try.zeroValue88
  t127 := Try.underlying108
  a127 := Try.isAgg108
  z127 := Try.sizeOf108
  v127 := Try.zeroValue108 }

theorem Try.extraB : Builder.Extra Try.prog Try.lays169_ren := {
  sizeBuilder := by kernel_rfl
  liesBuilder := by kernel_rfl
  t5 := Try.underlying5
  a5 := Try.isAgg5
  z5 := Try.sizeOf5
  v5 := Try.zeroValue5
  infoByte := by kernel_rfl
  cellsByte := by kernel_rfl
  sizeByte := by kernel_rfl
  neB5 := by decide }
def Try.lays138_ren : Go.Shelf.Ren := ⟨fun | 138 => 53 | 195 => 67 | 218 => 68 | 143 => 69 | 219 => 88 | 217 => 89 | 225 => 99 | 224 => 100 | 267 => 101 | 266 => 102 | 314 => 106 | n => n, fun | 9 => 9 | 3 => 3 | 4 => 4 | 5 => 5 | 0 => 0 | 46 => 139 | 146 => 145 | 51 => 144 | n => n, fun | 1 => 0 | n => n⟩
theorem Try.lays138 : Go.Proofs.Lays.n138 Try.prog Try.lays138_ren := {
  mixed := by kernel_rfl
  f138 := Try.func53.trans (congrArg some (by kernel_rfl))
  f143 := Try.func69.trans (congrArg some (by kernel_rfl))
  f195 := Try.func67.trans (congrArg some (by kernel_rfl))
  f217 := Try.func89.trans (congrArg some (by kernel_rfl))
  f218 := Try.func68.trans (congrArg some (by kernel_rfl))
  f219 := Try.func88.trans (congrArg some (by kernel_rfl))
  f224 := Try.func100.trans (congrArg some (by kernel_rfl))
  f225 := Try.func99.trans (congrArg some (by kernel_rfl))
  f266 := Try.func102.trans (congrArg some (by kernel_rfl))
  f267 := Try.func101.trans (congrArg some (by kernel_rfl))
  f314 := Try.func106.trans (congrArg some (by kernel_rfl))
  t0 := Try.underlying0
  a0 := Try.isAgg0
  z0 := Try.sizeOf0
  v0 := Try.zeroValue0
  t3 := Try.underlying3
  a3 := Try.isAgg3
  z3 := Try.sizeOf3
  v3 := Try.zeroValue3
  t4 := Try.underlying4
  a4 := Try.isAgg4
  z4 := Try.sizeOf4
  v4 := Try.zeroValue4
  t5 := Try.underlying5
  a5 := Try.isAgg5
  z5 := Try.sizeOf5
  v5 := Try.zeroValue5
  t9 := Try.underlying9
  a9 := Try.isAgg9
  z9 := Try.sizeOf9
  v9 := Try.zeroValue9
  t46 := Try.underlying139
  a46 := Try.isAgg139
  z46 := Try.sizeOf139
  v46 := Try.zeroValue139
  t51 := Try.underlying144
  a51 := Try.isAgg144
  z51 := Try.sizeOf144
  v51 := Try.zeroValue144
  t146 := Try.underlying145
  a146 := Try.isAgg145
  z146 := Try.sizeOf145
  v146 := Try.zeroValue145
  g1 := by kernel_rfl }

end Go.Proofs
namespace Go.Proofs.Ytffbkdcgkhbpoaa
open Go Go.AM

def tys : List (Nat × TI) := [
(2, ⟨.int .i64, 1, 8, [.i .i64 0]⟩),
  (3, ⟨.int .i64, 1, 8, [.i .i64 0]⟩),
  (4, ⟨.bool, 1, 1, [.b false]⟩),
  (5, ⟨.int .u8, 1, 1, [.i .u8 0]⟩),
  (9, ⟨.str, 1, 16, [.s []]⟩),
  (22, ⟨.int .u64, 1, 8, [.i .u64 0]⟩),
  (23, ⟨.sl 25, 1, 24, [.sl .full []]⟩),
  (25, ⟨.st [(5, 0), (2, 1), (9, 2), (23, 3), (4, 4)], 5, 64, [.i .u8 0, .i .i64 0, .s [], .sl .full [], .b false]⟩),
  (27, ⟨.st [(22, 0), (25, 1), (22, 6)], 7, 80, [.i .u64 0, .i .u8 0, .i .i64 0, .s [], .sl .full [], .b false, .i .u64 0]⟩),
  (29, ⟨.int .i64, 1, 8, [.i .i64 0]⟩),
  (42, ⟨.sl 27, 1, 24, [.sl .full []]⟩),
  (63, ⟨.sl 5, 1, 24, [.sl .full []]⟩),
  (65, ⟨.sl 9, 1, 24, [.sl .full []]⟩),
  (70, ⟨.arr 4 9, 4, 64, [.s [], .s [], .s [], .s []]⟩),
  (79, ⟨.sl 22, 1, 24, [.sl .full []]⟩),
  (80, ⟨.arr 5 5, 5, 5, [.i .u8 0, .i .u8 0, .i .u8 0, .i .u8 0, .i .u8 0]⟩),
  (86, ⟨.ptr 88, 1, 8, [.np]⟩),
  (88, ⟨.st [(86, 0), (63, 1)], 2, 32, [.np, .sl .full []]⟩),
  (90, ⟨.other, 1, 16, [.ni]⟩),
  (109, ⟨.arr 8 9, 8, 128, [.s [], .s [], .s [], .s [], .s [], .s [], .s [], .s []]⟩),
  (116, ⟨.ptr 118, 1, 8, [.np]⟩),
  (118, ⟨.st [(9, 0)], 1, 16, [.s []]⟩),
  (125, ⟨.uptr, 1, 8, [.np]⟩),
  (138, ⟨.arr 64 5, 64, 64, [.i .u8 0, .i .u8 0, .i .u8 0, .i .u8 0, .i .u8 0, .i .u8 0, .i .u8 0, .i .u8 0, .i .u8 0, .i .u8 0, .i .u8 0, .i .u8 0, .i .u8 0, .i .u8 0, .i .u8 0, .i .u8 0, .i .u8 0, .i .u8 0, .i .u8 0, .i .u8 0, .i .u8 0, .i .u8 0, .i .u8 0, .i .u8 0, .i .u8 0, .i .u8 0, .i .u8 0, .i .u8 0, .i .u8 0, .i .u8 0, .i .u8 0, .i .u8 0, .i .u8 0, .i .u8 0, .i .u8 0, .i .u8 0, .i .u8 0, .i .u8 0, .i .u8 0, .i .u8 0, .i .u8 0, .i .u8 0, .i .u8 0, .i .u8 0, .i .u8 0, .i .u8 0, .i .u8 0, .i .u8 0, .i .u8 0, .i .u8 0, .i .u8 0, .i .u8 0, .i .u8 0, .i .u8 0, .i .u8 0, .i .u8 0, .i .u8 0, .i .u8 0, .i .u8 0, .i .u8 0, .i .u8 0, .i .u8 0, .i .u8 0, .i .u8 0]⟩)]
theorem ty2 : TOk Try.prog 2 (((2, ⟨.int .i64, 1, 8, [.i .i64 0]⟩) : Nat × TI).2) := TOk.of (ti := Try.t2) (by kernel_rfl) (by kernel_rfl) (by kernel_rfl) (show Try.prog.underlying 2 = some (.int .i64) from by kernel_rfl)
theorem ty3 : TOk Try.prog 3 (((3, ⟨.int .i64, 1, 8, [.i .i64 0]⟩) : Nat × TI).2) := TOk.of (ti := Try.t3) (by kernel_rfl) (by kernel_rfl) (by kernel_rfl) (show Try.prog.underlying 3 = some (.int .i64) from by kernel_rfl)
theorem ty4 : TOk Try.prog 4 (((4, ⟨.bool, 1, 1, [.b false]⟩) : Nat × TI).2) := TOk.of (ti := Try.t4) (by kernel_rfl) (by kernel_rfl) (by kernel_rfl) (show Try.prog.underlying 4 = some (.bool) from by kernel_rfl)
theorem ty5 : TOk Try.prog 5 (((5, ⟨.int .u8, 1, 1, [.i .u8 0]⟩) : Nat × TI).2) := TOk.of (ti := Try.t5) (by kernel_rfl) (by kernel_rfl) (by kernel_rfl) (show Try.prog.underlying 5 = some (.int .u8) from by kernel_rfl)
theorem ty9 : TOk Try.prog 9 (((9, ⟨.str, 1, 16, [.s []]⟩) : Nat × TI).2) := TOk.of (ti := Try.t9) (by kernel_rfl) (by kernel_rfl) (by kernel_rfl) (show Try.prog.underlying 9 = some (.string) from by kernel_rfl)
theorem ty22 : TOk Try.prog 22 (((22, ⟨.int .u64, 1, 8, [.i .u64 0]⟩) : Nat × TI).2) := TOk.of (ti := Try.t22) (by kernel_rfl) (by kernel_rfl) (by kernel_rfl) (show Try.prog.underlying 22 = some (.int .u64) from by kernel_rfl)
theorem ty23 : TOk Try.prog 23 (((23, ⟨.sl 25, 1, 24, [.sl .full []]⟩) : Nat × TI).2) := TOk.of (ti := Try.t23) (by kernel_rfl) (by kernel_rfl) (by kernel_rfl) (show Try.prog.underlying 23 = some (.slice 25) from by kernel_rfl)
theorem ty25 : TOk Try.prog 25 (((25, ⟨.st [(5, 0), (2, 1), (9, 2), (23, 3), (4, 4)], 5, 64, [.i .u8 0, .i .i64 0, .s [], .sl .full [], .b false]⟩) : Nat × TI).2) := TOk.of (ti := Try.t25) (by kernel_rfl) (by kernel_rfl) (by kernel_rfl) (TK.ok_st (by kernel_rfl))
theorem ty27 : TOk Try.prog 27 (((27, ⟨.st [(22, 0), (25, 1), (22, 6)], 7, 80, [.i .u64 0, .i .u8 0, .i .i64 0, .s [], .sl .full [], .b false, .i .u64 0]⟩) : Nat × TI).2) := TOk.of (ti := Try.t27) (by kernel_rfl) (by kernel_rfl) (by kernel_rfl) (TK.ok_st (by kernel_rfl))
theorem ty29 : TOk Try.prog 29 (((29, ⟨.int .i64, 1, 8, [.i .i64 0]⟩) : Nat × TI).2) := TOk.of (ti := Try.t29) (by kernel_rfl) (by kernel_rfl) (by kernel_rfl) (show Try.prog.underlying 29 = some (.int .i64) from by kernel_rfl)
theorem ty42 : TOk Try.prog 42 (((42, ⟨.sl 27, 1, 24, [.sl .full []]⟩) : Nat × TI).2) := TOk.of (ti := Try.t42) (by kernel_rfl) (by kernel_rfl) (by kernel_rfl) (show Try.prog.underlying 42 = some (.slice 27) from by kernel_rfl)
theorem ty63 : TOk Try.prog 63 (((63, ⟨.sl 5, 1, 24, [.sl .full []]⟩) : Nat × TI).2) := TOk.of (ti := Try.t63) (by kernel_rfl) (by kernel_rfl) (by kernel_rfl) (show Try.prog.underlying 63 = some (.slice 5) from by kernel_rfl)
theorem ty65 : TOk Try.prog 65 (((65, ⟨.sl 9, 1, 24, [.sl .full []]⟩) : Nat × TI).2) := TOk.of (ti := Try.t65) (by kernel_rfl) (by kernel_rfl) (by kernel_rfl) (show Try.prog.underlying 65 = some (.slice 9) from by kernel_rfl)
theorem ty70 : TOk Try.prog 70 (((70, ⟨.arr 4 9, 4, 64, [.s [], .s [], .s [], .s []]⟩) : Nat × TI).2) := TOk.of (ti := Try.t70) (by kernel_rfl) (by kernel_rfl) (by kernel_rfl) (show Try.prog.underlying 70 = some (.array 4 9) from by kernel_rfl)
theorem ty79 : TOk Try.prog 79 (((79, ⟨.sl 22, 1, 24, [.sl .full []]⟩) : Nat × TI).2) := TOk.of (ti := Try.t79) (by kernel_rfl) (by kernel_rfl) (by kernel_rfl) (show Try.prog.underlying 79 = some (.slice 22) from by kernel_rfl)
theorem ty80 : TOk Try.prog 80 (((80, ⟨.arr 5 5, 5, 5, [.i .u8 0, .i .u8 0, .i .u8 0, .i .u8 0, .i .u8 0]⟩) : Nat × TI).2) := TOk.of (ti := Try.t80) (by kernel_rfl) (by kernel_rfl) (by kernel_rfl) (show Try.prog.underlying 80 = some (.array 5 5) from by kernel_rfl)
theorem ty86 : TOk Try.prog 86 (((86, ⟨.ptr 88, 1, 8, [.np]⟩) : Nat × TI).2) := TOk.of (ti := Try.t86) (by kernel_rfl) (by kernel_rfl) (by kernel_rfl) (And.intro (by kernel_rfl) (by kernel_rfl))
theorem ty88 : TOk Try.prog 88 (((88, ⟨.st [(86, 0), (63, 1)], 2, 32, [.np, .sl .full []]⟩) : Nat × TI).2) := TOk.of (ti := Try.t88) (by kernel_rfl) (by kernel_rfl) (by kernel_rfl) (TK.ok_st (by kernel_rfl))
theorem ty90 : TOk Try.prog 90 (((90, ⟨.other, 1, 16, [.ni]⟩) : Nat × TI).2) := TOk.of (ti := Try.t90) (by kernel_rfl) (by kernel_rfl) (by kernel_rfl) (TK.ok_other (by kernel_rfl))
theorem ty109 : TOk Try.prog 109 (((109, ⟨.arr 8 9, 8, 128, [.s [], .s [], .s [], .s [], .s [], .s [], .s [], .s []]⟩) : Nat × TI).2) := TOk.of (ti := Try.t109) (by kernel_rfl) (by kernel_rfl) (by kernel_rfl) (show Try.prog.underlying 109 = some (.array 8 9) from by kernel_rfl)
theorem ty116 : TOk Try.prog 116 (((116, ⟨.ptr 118, 1, 8, [.np]⟩) : Nat × TI).2) := TOk.of (ti := Try.t116) (by kernel_rfl) (by kernel_rfl) (by kernel_rfl) (And.intro (by kernel_rfl) (by kernel_rfl))
theorem ty118 : TOk Try.prog 118 (((118, ⟨.st [(9, 0)], 1, 16, [.s []]⟩) : Nat × TI).2) := TOk.of (ti := Try.t118) (by kernel_rfl) (by kernel_rfl) (by kernel_rfl) (TK.ok_st (by kernel_rfl))
theorem ty125 : TOk Try.prog 125 (((125, ⟨.uptr, 1, 8, [.np]⟩) : Nat × TI).2) := TOk.of (ti := Try.t125) (by kernel_rfl) (by kernel_rfl) (by kernel_rfl) (show Try.prog.underlying 125 = some (.unsafePointer) from by kernel_rfl)
theorem ty138 : TOk Try.prog 138 (((138, ⟨.arr 64 5, 64, 64, [.i .u8 0, .i .u8 0, .i .u8 0, .i .u8 0, .i .u8 0, .i .u8 0, .i .u8 0, .i .u8 0, .i .u8 0, .i .u8 0, .i .u8 0, .i .u8 0, .i .u8 0, .i .u8 0, .i .u8 0, .i .u8 0, .i .u8 0, .i .u8 0, .i .u8 0, .i .u8 0, .i .u8 0, .i .u8 0, .i .u8 0, .i .u8 0, .i .u8 0, .i .u8 0, .i .u8 0, .i .u8 0, .i .u8 0, .i .u8 0, .i .u8 0, .i .u8 0, .i .u8 0, .i .u8 0, .i .u8 0, .i .u8 0, .i .u8 0, .i .u8 0, .i .u8 0, .i .u8 0, .i .u8 0, .i .u8 0, .i .u8 0, .i .u8 0, .i .u8 0, .i .u8 0, .i .u8 0, .i .u8 0, .i .u8 0, .i .u8 0, .i .u8 0, .i .u8 0, .i .u8 0, .i .u8 0, .i .u8 0, .i .u8 0, .i .u8 0, .i .u8 0, .i .u8 0, .i .u8 0, .i .u8 0, .i .u8 0, .i .u8 0, .i .u8 0]⟩) : Nat × TI).2) := TOk.of (ti := Try.t138) (by kernel_rfl) (by kernel_rfl) (by kernel_rfl) (show Try.prog.underlying 138 = some (.array 64 5) from by kernel_rfl)
theorem tys_ok : ∀ x ∈ tys, TOk Try.prog x.1 x.2 := by
  unfold tys
  simp only [List.mem_cons, List.not_mem_nil, or_false, forall_eq_or_imp, forall_eq]
  exact ⟨ty2, ty3, ty4, ty5, ty9, ty22, ty23, ty25, ty27, ty29, ty42, ty63, ty65, ty70, ty79, ty80, ty86, ty88, ty90, ty109, ty116, ty118, ty125, ty138⟩
def fms : List (Nat × Nat) := [(2, 2), (3, 148), (4, 149), (5, 150), (6, 151), (7, 152), (8, 153), (9, 71), (10, 154), (11, 155), (12, 156), (13, 157), (14, 158), (15, 159), (16, 160), (17, 161), (18, 162), (19, 163), (20, 164), (21, 165), (22, 72), (23, 166), (24, 167), (25, 168), (26, 169), (27, 170), (28, 171), (29, 172), (30, 173), (31, 174), (32, 175), (33, 176), (34, 177), (35, 102), (36, 103), (37, 178), (38, 179), (39, 180), (40, 181), (41, 182), (42, 75), (43, 183), (44, 76), (45, 77), (46, 78), (47, 184), (48, 185), (49, 126), (50, 105), (51, 104), (52, 186), (53, 187), (54, 188), (55, 189), (56, 106), (57, 190), (58, 36), (59, 74), (60, 108), (61, 109), (62, 110), (63, 145), (64, 15), (65, 11), (66, 191), (67, 192), (69, 194), (70, 195), (71, 43), (72, 196), (73, 16), (74, 31), (75, 127), (76, 42), (77, 107), (78, 132), (79, 133), (80, 134), (81, 26), (82, 135), (83, 22), (84, 136), (85, 146), (86, 34), (87, 30), (88, 197), (89, 47), (90, 35), (91, 41), (92, 46), (93, 128), (94, 129), (95, 130), (96, 131), (97, 40), (98, 38), (100, 199), (101, 200), (102, 48), (103, 25), (104, 21), (105, 44), (106, 201), (107, 39), (108, 37), (109, 45), (1000000000000, 1000000088), (1000000000001, 1000000005)]
def X : Cx := ⟨tabOf tys, fmOf fms, fun c => [30, 89, 104, 105, 107, 115, 116, 117, 120, 122, 123, 126, 128, 129, 130, 131, 139, 140, 144, 145, 146, 184, 217, 224, 225, 227, 228, 229, 230, 232, 233, 236, 237, 238, 239, 252, 268, 269, 270, 271, 272, 273, 274, 275, 276].contains c, []⟩
theorem ok42 : FnOk Try.prog X 76 pf42 := FnOk.of Try.func76 (by kernel_rfl) (by kernel_rfl) (by kernel_rfl) (by kernel_rfl) (by kernel_rfl)
theorem ok46 : FnOk Try.prog X 92 pf46 := FnOk.of Try.func92 (by kernel_rfl) (by kernel_rfl) (by kernel_rfl) (by kernel_rfl) (by kernel_rfl)
theorem ok36 : FnOk Try.prog X 58 pf36 := FnOk.of Try.func58 (by kernel_rfl) (by kernel_rfl) (by kernel_rfl) (by kernel_rfl) (by kernel_rfl)
theorem ok43 : FnOk Try.prog X 71 pf43 := FnOk.of Try.func71 (by kernel_rfl) (by kernel_rfl) (by kernel_rfl) (by kernel_rfl) (by kernel_rfl)
theorem ok47 : FnOk Try.prog X 89 pf47 := FnOk.of Try.func89 (by kernel_rfl) (by kernel_rfl) (by kernel_rfl) (by kernel_rfl) (by kernel_rfl)
theorem ok11 : FnOk Try.prog X 65 pf11 := FnOk.of Try.func65 (by kernel_rfl) (by kernel_rfl) (by kernel_rfl) (by kernel_rfl) (by kernel_rfl)
theorem ok15 : FnOk Try.prog X 64 pf15 := FnOk.of Try.func64 (by kernel_rfl) (by kernel_rfl) (by kernel_rfl) (by kernel_rfl) (by kernel_rfl)
theorem ok21 : FnOk Try.prog X 104 pf21 := FnOk.of Try.func104 (by kernel_rfl) (by kernel_rfl) (by kernel_rfl) (by kernel_rfl) (by kernel_rfl)
theorem ok25 : FnOk Try.prog X 103 pf25 := FnOk.of Try.func103 (by kernel_rfl) (by kernel_rfl) (by kernel_rfl) (by kernel_rfl) (by kernel_rfl)
theorem ok30 : FnOk Try.prog X 87 pf30 := FnOk.of Try.func87 (by kernel_rfl) (by kernel_rfl) (by kernel_rfl) (by kernel_rfl) (by kernel_rfl)
theorem ok34 : FnOk Try.prog X 86 pf34 := FnOk.of Try.func86 (by kernel_rfl) (by kernel_rfl) (by kernel_rfl) (by kernel_rfl) (by kernel_rfl)
theorem ok37 : FnOk Try.prog X 108 pf37 := FnOk.of Try.func108 (by kernel_rfl) (by kernel_rfl) (by kernel_rfl) (by kernel_rfl) (by kernel_rfl)
theorem ok39 : FnOk Try.prog X 107 pf39 := FnOk.of Try.func107 (by kernel_rfl) (by kernel_rfl) (by kernel_rfl) (by kernel_rfl) (by kernel_rfl)
theorem ok45 : FnOk Try.prog X 109 pf45 := FnOk.of Try.func109 (by kernel_rfl) (by kernel_rfl) (by kernel_rfl) (by kernel_rfl) (by kernel_rfl)
theorem ok16 : FnOk Try.prog X 73 pf16 := FnOk.of Try.func73 (by kernel_rfl) (by kernel_rfl) (by kernel_rfl) (by kernel_rfl) (by kernel_rfl)
theorem ok22 : FnOk Try.prog X 83 pf22 := FnOk.of Try.func83 (by kernel_rfl) (by kernel_rfl) (by kernel_rfl) (by kernel_rfl) (by kernel_rfl)
theorem ok26 : FnOk Try.prog X 81 pf26 := FnOk.of Try.func81 (by kernel_rfl) (by kernel_rfl) (by kernel_rfl) (by kernel_rfl) (by kernel_rfl)
theorem ok31 : FnOk Try.prog X 74 pf31 := FnOk.of Try.func74 (by kernel_rfl) (by kernel_rfl) (by kernel_rfl) (by kernel_rfl) (by kernel_rfl)
theorem ok35 : FnOk Try.prog X 90 pf35 := FnOk.of Try.func90 (by kernel_rfl) (by kernel_rfl) (by kernel_rfl) (by kernel_rfl) (by kernel_rfl)
theorem ok38 : FnOk Try.prog X 98 pf38 := FnOk.of Try.func98 (by kernel_rfl) (by kernel_rfl) (by kernel_rfl) (by kernel_rfl) (by kernel_rfl)
theorem ok40 : FnOk Try.prog X 97 pf40 := FnOk.of Try.func97 (by kernel_rfl) (by kernel_rfl) (by kernel_rfl) (by kernel_rfl) (by kernel_rfl)
theorem ok41 : FnOk Try.prog X 91 pf41 := FnOk.of Try.func91 (by kernel_rfl) (by kernel_rfl) (by kernel_rfl) (by kernel_rfl) (by kernel_rfl)
theorem ok44 : FnOk Try.prog X 105 pf44 := FnOk.of Try.func105 (by kernel_rfl) (by kernel_rfl) (by kernel_rfl) (by kernel_rfl) (by kernel_rfl)
theorem ok145 : FnOk Try.prog X 63 pf145 := FnOk.of Try.func63 (by kernel_rfl) (by kernel_rfl) (by kernel_rfl) (by kernel_rfl) (by kernel_rfl)
theorem ok126 : FnOk Try.prog X 49 pf126 := FnOk.of Try.func49 (by kernel_rfl) (by kernel_rfl) (by kernel_rfl) (by kernel_rfl) (by kernel_rfl)
theorem ok71 : FnOk Try.prog X 9 pf71 := FnOk.of Try.func9 (by kernel_rfl) (by kernel_rfl) (by kernel_rfl) (by kernel_rfl) (by kernel_rfl)
theorem ok72 : FnOk Try.prog X 22 pf72 := FnOk.of Try.func22 (by kernel_rfl) (by kernel_rfl) (by kernel_rfl) (by kernel_rfl) (by kernel_rfl)
theorem ok74 : FnOk Try.prog X 59 pf74 := FnOk.of Try.func59 (by kernel_rfl) (by kernel_rfl) (by kernel_rfl) (by kernel_rfl) (by kernel_rfl)
theorem ok75 : FnOk Try.prog X 42 pf75 := FnOk.of Try.func42 (by kernel_rfl) (by kernel_rfl) (by kernel_rfl) (by kernel_rfl) (by kernel_rfl)
theorem ok76 : FnOk Try.prog X 44 pf76 := FnOk.of Try.func44 (by kernel_rfl) (by kernel_rfl) (by kernel_rfl) (by kernel_rfl) (by kernel_rfl)
theorem ok77 : FnOk Try.prog X 45 pf77 := FnOk.of Try.func45 (by kernel_rfl) (by kernel_rfl) (by kernel_rfl) (by kernel_rfl) (by kernel_rfl)
theorem ok78 : FnOk Try.prog X 46 pf78 := FnOk.of Try.func46 (by kernel_rfl) (by kernel_rfl) (by kernel_rfl) (by kernel_rfl) (by kernel_rfl)
theorem ok102 : FnOk Try.prog X 35 pf102 := FnOk.of Try.func35 (by kernel_rfl) (by kernel_rfl) (by kernel_rfl) (by kernel_rfl) (by kernel_rfl)
theorem ok103 : FnOk Try.prog X 36 pf103 := FnOk.of Try.func36 (by kernel_rfl) (by kernel_rfl) (by kernel_rfl) (by kernel_rfl) (by kernel_rfl)
theorem ok104 : FnOk Try.prog X 51 pf104 := FnOk.of Try.func51 (by kernel_rfl) (by kernel_rfl) (by kernel_rfl) (by kernel_rfl) (by kernel_rfl)
theorem ok106 : FnOk Try.prog X 56 pf106 := FnOk.of Try.func56 (by kernel_rfl) (by kernel_rfl) (by kernel_rfl) (by kernel_rfl) (by kernel_rfl)
theorem ok107 : FnOk Try.prog X 77 pf107 := FnOk.of Try.func77 (by kernel_rfl) (by kernel_rfl) (by kernel_rfl) (by kernel_rfl) (by kernel_rfl)
theorem ok108 : FnOk Try.prog X 60 pf108 := FnOk.of Try.func60 (by kernel_rfl) (by kernel_rfl) (by kernel_rfl) (by kernel_rfl) (by kernel_rfl)
theorem ok109 : FnOk Try.prog X 61 pf109 := FnOk.of Try.func61 (by kernel_rfl) (by kernel_rfl) (by kernel_rfl) (by kernel_rfl) (by kernel_rfl)
theorem ok110 : FnOk Try.prog X 62 pf110 := FnOk.of Try.func62 (by kernel_rfl) (by kernel_rfl) (by kernel_rfl) (by kernel_rfl) (by kernel_rfl)
theorem ok127 : FnOk Try.prog X 75 pf127 := FnOk.of Try.func75 (by kernel_rfl) (by kernel_rfl) (by kernel_rfl) (by kernel_rfl) (by kernel_rfl)
theorem ok128 : FnOk Try.prog X 93 pf128 := FnOk.of Try.func93 (by kernel_rfl) (by kernel_rfl) (by kernel_rfl) (by kernel_rfl) (by kernel_rfl)
theorem ok129 : FnOk Try.prog X 94 pf129 := FnOk.of Try.func94 (by kernel_rfl) (by kernel_rfl) (by kernel_rfl) (by kernel_rfl) (by kernel_rfl)
theorem ok130 : FnOk Try.prog X 95 pf130 := FnOk.of Try.func95 (by kernel_rfl) (by kernel_rfl) (by kernel_rfl) (by kernel_rfl) (by kernel_rfl)
theorem ok131 : FnOk Try.prog X 96 pf131 := FnOk.of Try.func96 (by kernel_rfl) (by kernel_rfl) (by kernel_rfl) (by kernel_rfl) (by kernel_rfl)
theorem ok132 : FnOk Try.prog X 78 pf132 := FnOk.of Try.func78 (by kernel_rfl) (by kernel_rfl) (by kernel_rfl) (by kernel_rfl) (by kernel_rfl)
theorem ok133 : FnOk Try.prog X 79 pf133 := FnOk.of Try.func79 (by kernel_rfl) (by kernel_rfl) (by kernel_rfl) (by kernel_rfl) (by kernel_rfl)
theorem ok134 : FnOk Try.prog X 80 pf134 := FnOk.of Try.func80 (by kernel_rfl) (by kernel_rfl) (by kernel_rfl) (by kernel_rfl) (by kernel_rfl)
theorem ok135 : FnOk Try.prog X 82 pf135 := FnOk.of Try.func82 (by kernel_rfl) (by kernel_rfl) (by kernel_rfl) (by kernel_rfl) (by kernel_rfl)
theorem ok136 : FnOk Try.prog X 84 pf136 := FnOk.of Try.func84 (by kernel_rfl) (by kernel_rfl) (by kernel_rfl) (by kernel_rfl) (by kernel_rfl)
theorem ok154 : FnOk Try.prog X 10 pf154 := FnOk.of Try.func10 (by kernel_rfl) (by kernel_rfl) (by kernel_rfl) (by kernel_rfl) (by kernel_rfl)
theorem ok158 : FnOk Try.prog X 14 pf158 := FnOk.of Try.func14 (by kernel_rfl) (by kernel_rfl) (by kernel_rfl) (by kernel_rfl) (by kernel_rfl)
theorem ok159 : FnOk Try.prog X 15 pf159 := FnOk.of Try.func15 (by kernel_rfl) (by kernel_rfl) (by kernel_rfl) (by kernel_rfl) (by kernel_rfl)
theorem ok178 : FnOk Try.prog X 37 pf178 := FnOk.of Try.func37 (by kernel_rfl) (by kernel_rfl) (by kernel_rfl) (by kernel_rfl) (by kernel_rfl)
theorem ok179 : FnOk Try.prog X 38 pf179 := FnOk.of Try.func38 (by kernel_rfl) (by kernel_rfl) (by kernel_rfl) (by kernel_rfl) (by kernel_rfl)
theorem ok180 : FnOk Try.prog X 39 pf180 := FnOk.of Try.func39 (by kernel_rfl) (by kernel_rfl) (by kernel_rfl) (by kernel_rfl) (by kernel_rfl)
theorem ok182 : FnOk Try.prog X 41 pf182 := FnOk.of Try.func41 (by kernel_rfl) (by kernel_rfl) (by kernel_rfl) (by kernel_rfl) (by kernel_rfl)
theorem ok183 : FnOk Try.prog X 43 pf183 := FnOk.of Try.func43 (by kernel_rfl) (by kernel_rfl) (by kernel_rfl) (by kernel_rfl) (by kernel_rfl)
theorem ok186 : FnOk Try.prog X 52 pf186 := FnOk.of Try.func52 (by kernel_rfl) (by kernel_rfl) (by kernel_rfl) (by kernel_rfl) (by kernel_rfl)
theorem ok190 : FnOk Try.prog X 57 pf190 := FnOk.of Try.func57 (by kernel_rfl) (by kernel_rfl) (by kernel_rfl) (by kernel_rfl) (by kernel_rfl)
theorem ok191 : FnOk Try.prog X 66 pf191 := FnOk.of Try.func66 (by kernel_rfl) (by kernel_rfl) (by kernel_rfl) (by kernel_rfl) (by kernel_rfl)
theorem ok156 : FnOk Try.prog X 12 pf156 := FnOk.of Try.func12 (by kernel_rfl) (by kernel_rfl) (by kernel_rfl) (by kernel_rfl) (by kernel_rfl)
theorem ok157 : FnOk Try.prog X 13 pf157 := FnOk.of Try.func13 (by kernel_rfl) (by kernel_rfl) (by kernel_rfl) (by kernel_rfl) (by kernel_rfl)
theorem ok160 : FnOk Try.prog X 16 pf160 := FnOk.of Try.func16 (by kernel_rfl) (by kernel_rfl) (by kernel_rfl) (by kernel_rfl) (by kernel_rfl)
theorem ok181 : FnOk Try.prog X 40 pf181 := FnOk.of Try.func40 (by kernel_rfl) (by kernel_rfl) (by kernel_rfl) (by kernel_rfl) (by kernel_rfl)
theorem ok162 : FnOk Try.prog X 18 pf162 := FnOk.of Try.func18 (by kernel_rfl) (by kernel_rfl) (by kernel_rfl) (by kernel_rfl) (by kernel_rfl)
theorem ok163 : FnOk Try.prog X 19 pf163 := FnOk.of Try.func19 (by kernel_rfl) (by kernel_rfl) (by kernel_rfl) (by kernel_rfl) (by kernel_rfl)
theorem ok164 : FnOk Try.prog X 20 pf164 := FnOk.of Try.func20 (by kernel_rfl) (by kernel_rfl) (by kernel_rfl) (by kernel_rfl) (by kernel_rfl)
theorem ok165 : FnOk Try.prog X 21 pf165 := FnOk.of Try.func21 (by kernel_rfl) (by kernel_rfl) (by kernel_rfl) (by kernel_rfl) (by kernel_rfl)
theorem ok166 : FnOk Try.prog X 23 pf166 := FnOk.of Try.func23 (by kernel_rfl) (by kernel_rfl) (by kernel_rfl) (by kernel_rfl) (by kernel_rfl)
theorem ok169 : FnOk Try.prog X 26 pf169 := FnOk.of Try.func26 (by kernel_rfl) (by kernel_rfl) (by kernel_rfl) (by kernel_rfl) (by kernel_rfl)
theorem ok170 : FnOk Try.prog X 27 pf170 := FnOk.of Try.func27 (by kernel_rfl) (by kernel_rfl) (by kernel_rfl) (by kernel_rfl) (by kernel_rfl)
theorem ok185 : FnOk Try.prog X 48 pf185 := FnOk.of Try.func48 (by kernel_rfl) (by kernel_rfl) (by kernel_rfl) (by kernel_rfl) (by kernel_rfl)
theorem ok168 : FnOk Try.prog X 25 pf168 := FnOk.of Try.func25 (by kernel_rfl) (by kernel_rfl) (by kernel_rfl) (by kernel_rfl) (by kernel_rfl)
theorem ok177 : FnOk Try.prog X 34 pf177 := FnOk.of Try.func34 (by kernel_rfl) (by kernel_rfl) (by kernel_rfl) (by kernel_rfl) (by kernel_rfl)
theorem ok189 : FnOk Try.prog X 55 pf189 := FnOk.of Try.func55 (by kernel_rfl) (by kernel_rfl) (by kernel_rfl) (by kernel_rfl) (by kernel_rfl)
theorem ok196 : FnOk Try.prog X 72 pf196 := FnOk.of Try.func72 (by kernel_rfl) (by kernel_rfl) (by kernel_rfl) (by kernel_rfl) (by kernel_rfl)
theorem tyVal : TyVal X.T 25 := ⟨5, 2, 9, 23, 4, ⟨_, rfl, rfl, rfl⟩, ⟨_, rfl, rfl, rfl⟩, ⟨_, rfl, rfl, rfl⟩, ⟨_, rfl, rfl, rfl⟩, ⟨_, rfl, rfl, rfl⟩, ⟨_, rfl, rfl, rfl⟩⟩
theorem tyPan : TyPan X.T 27 := ⟨22, 25, 22, ⟨_, rfl, rfl, rfl⟩, ⟨_, rfl, rfl, rfl⟩, tyVal, ⟨_, rfl, rfl, rfl⟩⟩
noncomputable def rt : RtAt Try.prog X where
  fR := 24
  fL := 54
  fY := 70
  nR := Try.f24
  nL := Try.f54
  nY := Try.f70
  A0 := (sqA (bodyR Try.f24))
  A1 := (sqA (sqB (bodyR Try.f24)))
  A3 := (sqA (sqB (sqB (bodyR Try.f24))))
  A5 := (sqA (sqB (sqB (sqB (bodyR Try.f24)))))
  A7 := (rfA (sqU (sqB (sqA (sqB (sqB (sqB (sqB (bodyR Try.f24)))))))))
  A8 := (rfB (sqU (sqB (sqA (sqB (sqB (sqB (sqB (bodyR Try.f24)))))))))
  Y0 := (sqA (sqU (sqU (bodyR Try.f70))))
  Y1 := (sqA (sqU (sqB (sqU (sqU (bodyR Try.f70))))))
  Y2 := (sqA (sqB (sqU (sqB (sqU (sqU (bodyR Try.f70)))))))
  cL := (bodyR Try.f54)
  p1 := (rgO (sqA (sqA (sqB (sqB (sqB (sqB (bodyR Try.f24))))))) 0)
  p2 := (rgO (sqA (sqA (sqB (sqB (sqB (sqB (bodyR Try.f24))))))) 1)
  q1 := (rgO (sqA (sqB (sqB (sqB (sqB (sqB (bodyR Try.f24))))))) 0)
  q2 := (rgO (sqA (sqB (sqB (sqB (sqB (sqB (bodyR Try.f24))))))) 1)
  q3 := (rgO (sqA (sqB (sqB (sqB (sqB (sqB (bodyR Try.f24))))))) 2)
  z1 := (rgO (sqA (sqB (sqB (sqU (sqB (sqU (sqU (bodyR Try.f70)))))))) 0)
  z2 := (rgO (sqA (sqB (sqB (sqU (sqB (sqU (sqU (bodyR Try.f70)))))))) 1)
  z3 := (rgO (sqA (sqB (sqB (sqU (sqB (sqU (sqU (bodyR Try.f70)))))))) 2)
  z4 := (rgO (sqA (sqB (sqB (sqU (sqB (sqU (sqU (bodyR Try.f70)))))))) 3)
  t1 := 42
  t2 := 29
  t3 := 4
  tp := #[9]
  tz := #[9]
  i1 := ((42, ⟨.sl 27, 1, 24, [.sl .full []]⟩) : Nat × TI).2
  i2 := ((29, ⟨.int .i64, 1, 8, [.i .i64 0]⟩) : Nat × TI).2
  eR := Try.func24
  eL := Try.func54
  eY := Try.func70
  bR := by kernel_rfl
  tR := by kernel_rfl
  rR := by kernel_rfl
  mR := by kernel_rfl
  bL := by kernel_rfl
  tL := by kernel_rfl
  rL := by kernel_rfl
  mL := by kernel_rfl
  bY := by kernel_rfl
  tY := by kernel_rfl
  rY := by kernel_rfl
  mY := by kernel_rfl
  a0 := by kernel_rfl
  a1 := by kernel_rfl
  a3 := by kernel_rfl
  a5 := by kernel_rfl
  a7 := by kernel_rfl
  a8 := by kernel_rfl
  w7 := by kernel_rfl
  w8 := by kernel_rfl
  y0 := by kernel_rfl
  y1 := by kernel_rfl
  y2 := by kernel_rfl
  l0 := by kernel_rfl
  p1o := by kernel_rfl
  p1d := by kernel_rfl
  p1g := by kernel_rfl
  p2o := by kernel_rfl
  p2d := by kernel_rfl
  p2g := by kernel_rfl
  q1o := by kernel_rfl
  q1d := by kernel_rfl
  q1g := by kernel_rfl
  q2o := by kernel_rfl
  q2d := by kernel_rfl
  q2g := by kernel_rfl
  q3o := by kernel_rfl
  q3d := by kernel_rfl
  q3g := by kernel_rfl
  z1o := by kernel_rfl
  z1d := by kernel_rfl
  z1g := by kernel_rfl
  z2o := by kernel_rfl
  z2d := by kernel_rfl
  z2g := by kernel_rfl
  z3o := by kernel_rfl
  z3d := by kernel_rfl
  z3g := by kernel_rfl
  z4o := by kernel_rfl
  z4d := by kernel_rfl
  z4g := by kernel_rfl
  u1 := rfl
  s1 := rfl
  g1 := rfl
  u2 := rfl
  s2 := rfl
  fm := fun f h => by have := fm_inv h; simpa [fms] using this
end Go.Proofs.Ytffbkdcgkhbpoaa

/- The statement ChaintextTexts: for every input the law returns true, and each argument reads afterwards as before. No conditions. -/
namespace Go.Proofs.Ytffbkdcgkhbpoaa.ChaintextTextsProof
open Go Go.AM Go.RowKit Go.ChangeShapes Go.WideShapes Go.ChangeAt

theorem ok151 : FnOk Try.prog X 6 pf151 := FnOk.of Try.func6 (by kernel_rfl) (by kernel_rfl) (by kernel_rfl) (by kernel_rfl) (by kernel_rfl)
def fns : List (Nat × AF) := [(42, pf42), (46, pf46), (36, pf36), (43, pf43), (47, pf47), (11, pf11), (15, pf15), (21, pf21), (25, pf25), (30, pf30), (34, pf34), (37, pf37), (39, pf39), (45, pf45), (16, pf16), (22, pf22), (26, pf26), (31, pf31), (35, pf35), (38, pf38), (40, pf40), (41, pf41), (44, pf44), (145, pf145), (126, pf126), (71, pf71), (72, pf72), (74, pf74), (75, pf75), (76, pf76), (77, pf77), (78, pf78), (102, pf102), (103, pf103), (104, pf104), (106, pf106), (107, pf107), (108, pf108), (109, pf109), (110, pf110), (127, pf127), (128, pf128), (129, pf129), (130, pf130), (131, pf131), (132, pf132), (133, pf133), (134, pf134), (135, pf135), (136, pf136), (154, pf154), (158, pf158), (159, pf159), (178, pf178), (179, pf179), (180, pf180), (182, pf182), (183, pf183), (186, pf186), (190, pf190), (191, pf191), (156, pf156), (157, pf157), (160, pf160), (181, pf181), (162, pf162), (163, pf163), (164, pf164), (165, pf165), (166, pf166), (169, pf169), (170, pf170), (185, pf185), (168, pf168), (177, pf177), (189, pf189), (196, pf196), (151, pf151)]
def prog : Prog := ⟨fnOf fns, orcR, orsB⟩
set_option maxRecDepth 100000 in
theorem fns_ok : FnsOk Try.prog X fns fms :=
  And.intro (fun F h => noneF (show (none : Option AF) = some F from h)) (
  And.intro (fun F h => noneF (show (none : Option AF) = some F from h)) (
  And.intro (fun F h => noneF (show (none : Option AF) = some F from h)) (
  And.intro (fun F h => noneF (show (none : Option AF) = some F from h)) (
  And.intro (fun F h => Option.some.inj (show some pf151 = some F from h) ▸ ok151) (
  And.intro (fun F h => noneF (show (none : Option AF) = some F from h)) (
  And.intro (fun F h => noneF (show (none : Option AF) = some F from h)) (
  And.intro (fun F h => Option.some.inj (show some pf71 = some F from h) ▸ ok71) (
  And.intro (fun F h => Option.some.inj (show some pf154 = some F from h) ▸ ok154) (
  And.intro (fun F h => noneF (show (none : Option AF) = some F from h)) (
  And.intro (fun F h => Option.some.inj (show some pf156 = some F from h) ▸ ok156) (
  And.intro (fun F h => Option.some.inj (show some pf157 = some F from h) ▸ ok157) (
  And.intro (fun F h => Option.some.inj (show some pf158 = some F from h) ▸ ok158) (
  And.intro (fun F h => Option.some.inj (show some pf159 = some F from h) ▸ ok159) (
  And.intro (fun F h => Option.some.inj (show some pf160 = some F from h) ▸ ok160) (
  And.intro (fun F h => noneF (show (none : Option AF) = some F from h)) (
  And.intro (fun F h => Option.some.inj (show some pf162 = some F from h) ▸ ok162) (
  And.intro (fun F h => Option.some.inj (show some pf163 = some F from h) ▸ ok163) (
  And.intro (fun F h => Option.some.inj (show some pf164 = some F from h) ▸ ok164) (
  And.intro (fun F h => Option.some.inj (show some pf165 = some F from h) ▸ ok165) (
  And.intro (fun F h => Option.some.inj (show some pf72 = some F from h) ▸ ok72) (
  And.intro (fun F h => Option.some.inj (show some pf166 = some F from h) ▸ ok166) (
  And.intro (fun F h => noneF (show (none : Option AF) = some F from h)) (
  And.intro (fun F h => Option.some.inj (show some pf168 = some F from h) ▸ ok168) (
  And.intro (fun F h => Option.some.inj (show some pf169 = some F from h) ▸ ok169) (
  And.intro (fun F h => Option.some.inj (show some pf170 = some F from h) ▸ ok170) (
  And.intro (fun F h => noneF (show (none : Option AF) = some F from h)) (
  And.intro (fun F h => noneF (show (none : Option AF) = some F from h)) (
  And.intro (fun F h => noneF (show (none : Option AF) = some F from h)) (
  And.intro (fun F h => noneF (show (none : Option AF) = some F from h)) (
  And.intro (fun F h => noneF (show (none : Option AF) = some F from h)) (
  And.intro (fun F h => noneF (show (none : Option AF) = some F from h)) (
  And.intro (fun F h => Option.some.inj (show some pf177 = some F from h) ▸ ok177) (
  And.intro (fun F h => Option.some.inj (show some pf102 = some F from h) ▸ ok102) (
  And.intro (fun F h => Option.some.inj (show some pf103 = some F from h) ▸ ok103) (
  And.intro (fun F h => Option.some.inj (show some pf178 = some F from h) ▸ ok178) (
  And.intro (fun F h => Option.some.inj (show some pf179 = some F from h) ▸ ok179) (
  And.intro (fun F h => Option.some.inj (show some pf180 = some F from h) ▸ ok180) (
  And.intro (fun F h => Option.some.inj (show some pf181 = some F from h) ▸ ok181) (
  And.intro (fun F h => Option.some.inj (show some pf182 = some F from h) ▸ ok182) (
  And.intro (fun F h => Option.some.inj (show some pf75 = some F from h) ▸ ok75) (
  And.intro (fun F h => Option.some.inj (show some pf183 = some F from h) ▸ ok183) (
  And.intro (fun F h => Option.some.inj (show some pf76 = some F from h) ▸ ok76) (
  And.intro (fun F h => Option.some.inj (show some pf77 = some F from h) ▸ ok77) (
  And.intro (fun F h => Option.some.inj (show some pf78 = some F from h) ▸ ok78) (
  And.intro (fun F h => noneF (show (none : Option AF) = some F from h)) (
  And.intro (fun F h => Option.some.inj (show some pf185 = some F from h) ▸ ok185) (
  And.intro (fun F h => Option.some.inj (show some pf126 = some F from h) ▸ ok126) (
  And.intro (fun F h => noneF (show (none : Option AF) = some F from h)) (
  And.intro (fun F h => Option.some.inj (show some pf104 = some F from h) ▸ ok104) (
  And.intro (fun F h => Option.some.inj (show some pf186 = some F from h) ▸ ok186) (
  And.intro (fun F h => noneF (show (none : Option AF) = some F from h)) (
  And.intro (fun F h => noneF (show (none : Option AF) = some F from h)) (
  And.intro (fun F h => Option.some.inj (show some pf189 = some F from h) ▸ ok189) (
  And.intro (fun F h => Option.some.inj (show some pf106 = some F from h) ▸ ok106) (
  And.intro (fun F h => Option.some.inj (show some pf190 = some F from h) ▸ ok190) (
  And.intro (fun F h => Option.some.inj (show some pf36 = some F from h) ▸ ok36) (
  And.intro (fun F h => Option.some.inj (show some pf74 = some F from h) ▸ ok74) (
  And.intro (fun F h => Option.some.inj (show some pf108 = some F from h) ▸ ok108) (
  And.intro (fun F h => Option.some.inj (show some pf109 = some F from h) ▸ ok109) (
  And.intro (fun F h => Option.some.inj (show some pf110 = some F from h) ▸ ok110) (
  And.intro (fun F h => Option.some.inj (show some pf145 = some F from h) ▸ ok145) (
  And.intro (fun F h => Option.some.inj (show some pf15 = some F from h) ▸ ok15) (
  And.intro (fun F h => Option.some.inj (show some pf11 = some F from h) ▸ ok11) (
  And.intro (fun F h => Option.some.inj (show some pf191 = some F from h) ▸ ok191) (
  And.intro (fun F h => noneF (show (none : Option AF) = some F from h)) (
  And.intro (fun F h => noneF (show (none : Option AF) = some F from h)) (
  And.intro (fun F h => noneF (show (none : Option AF) = some F from h)) (
  And.intro (fun F h => Option.some.inj (show some pf43 = some F from h) ▸ ok43) (
  And.intro (fun F h => Option.some.inj (show some pf196 = some F from h) ▸ ok196) (
  And.intro (fun F h => Option.some.inj (show some pf16 = some F from h) ▸ ok16) (
  And.intro (fun F h => Option.some.inj (show some pf31 = some F from h) ▸ ok31) (
  And.intro (fun F h => Option.some.inj (show some pf127 = some F from h) ▸ ok127) (
  And.intro (fun F h => Option.some.inj (show some pf42 = some F from h) ▸ ok42) (
  And.intro (fun F h => Option.some.inj (show some pf107 = some F from h) ▸ ok107) (
  And.intro (fun F h => Option.some.inj (show some pf132 = some F from h) ▸ ok132) (
  And.intro (fun F h => Option.some.inj (show some pf133 = some F from h) ▸ ok133) (
  And.intro (fun F h => Option.some.inj (show some pf134 = some F from h) ▸ ok134) (
  And.intro (fun F h => Option.some.inj (show some pf26 = some F from h) ▸ ok26) (
  And.intro (fun F h => Option.some.inj (show some pf135 = some F from h) ▸ ok135) (
  And.intro (fun F h => Option.some.inj (show some pf22 = some F from h) ▸ ok22) (
  And.intro (fun F h => Option.some.inj (show some pf136 = some F from h) ▸ ok136) (
  And.intro (fun F h => noneF (show (none : Option AF) = some F from h)) (
  And.intro (fun F h => Option.some.inj (show some pf34 = some F from h) ▸ ok34) (
  And.intro (fun F h => Option.some.inj (show some pf30 = some F from h) ▸ ok30) (
  And.intro (fun F h => noneF (show (none : Option AF) = some F from h)) (
  And.intro (fun F h => Option.some.inj (show some pf47 = some F from h) ▸ ok47) (
  And.intro (fun F h => Option.some.inj (show some pf35 = some F from h) ▸ ok35) (
  And.intro (fun F h => Option.some.inj (show some pf41 = some F from h) ▸ ok41) (
  And.intro (fun F h => Option.some.inj (show some pf46 = some F from h) ▸ ok46) (
  And.intro (fun F h => Option.some.inj (show some pf128 = some F from h) ▸ ok128) (
  And.intro (fun F h => Option.some.inj (show some pf129 = some F from h) ▸ ok129) (
  And.intro (fun F h => Option.some.inj (show some pf130 = some F from h) ▸ ok130) (
  And.intro (fun F h => Option.some.inj (show some pf131 = some F from h) ▸ ok131) (
  And.intro (fun F h => Option.some.inj (show some pf40 = some F from h) ▸ ok40) (
  And.intro (fun F h => Option.some.inj (show some pf38 = some F from h) ▸ ok38) (
  And.intro (fun F h => noneF (show (none : Option AF) = some F from h)) (
  And.intro (fun F h => noneF (show (none : Option AF) = some F from h)) (
  And.intro (fun F h => noneF (show (none : Option AF) = some F from h)) (
  And.intro (fun F h => Option.some.inj (show some pf25 = some F from h) ▸ ok25) (
  And.intro (fun F h => Option.some.inj (show some pf21 = some F from h) ▸ ok21) (
  And.intro (fun F h => Option.some.inj (show some pf44 = some F from h) ▸ ok44) (
  And.intro (fun F h => noneF (show (none : Option AF) = some F from h)) (
  And.intro (fun F h => Option.some.inj (show some pf39 = some F from h) ▸ ok39) (
  And.intro (fun F h => Option.some.inj (show some pf37 = some F from h) ▸ ok37) (
  And.intro (fun F h => Option.some.inj (show some pf45 = some F from h) ▸ ok45) (
  And.intro (fun F h => noneF (show (none : Option AF) = some F from h)) (
  And.intro (fun F h => noneF (show (none : Option AF) = some F from h)) (trivial))))))))))))))))))))))))))))))))))))))))))))))))))))))))))))))))))))))))))))))))))))))))))))))))))))))))))))
theorem o48_ok : OracOk Try.prog X { fn := fnOf fns, orac := orc48 48 } := orc48_ok (f0 := 102) (fun f h => by have := fm_inv h; simpa [fms] using this) Try.func102 (by kernel_rfl) (by kernel_rfl) (by kernel_rfl) (by kernel_rfl)
def prog0 : Prog := ⟨fnOf fns, orcC, orsB⟩
set_option maxRecDepth 100000 in
theorem has0 : HasR0 prog0 := { f42 := by kernel_rfl, f46 := by kernel_rfl, f36 := by kernel_rfl, f43 := by kernel_rfl, f47 := by kernel_rfl, f11 := by kernel_rfl, f15 := by kernel_rfl, f21 := by kernel_rfl, f25 := by kernel_rfl, f30 := by kernel_rfl, f34 := by kernel_rfl, f37 := by kernel_rfl, f39 := by kernel_rfl, f45 := by kernel_rfl, f16 := by kernel_rfl, f22 := by kernel_rfl, f26 := by kernel_rfl, f31 := by kernel_rfl, f35 := by kernel_rfl, f38 := by kernel_rfl, f40 := by kernel_rfl, f41 := by kernel_rfl, f44 := by kernel_rfl, f145 := by kernel_rfl, f126 := by kernel_rfl, f71 := by kernel_rfl, f72 := by kernel_rfl, f74 := by kernel_rfl, f75 := by kernel_rfl, f76 := by kernel_rfl, f77 := by kernel_rfl, f78 := by kernel_rfl, f102 := by kernel_rfl, f103 := by kernel_rfl, f104 := by kernel_rfl, f106 := by kernel_rfl, f107 := by kernel_rfl, f108 := by kernel_rfl, f109 := by kernel_rfl, f110 := by kernel_rfl, f127 := by kernel_rfl, f128 := by kernel_rfl, f129 := by kernel_rfl, f130 := by kernel_rfl, f131 := by kernel_rfl, f132 := by kernel_rfl, f133 := by kernel_rfl, f134 := by kernel_rfl, f135 := by kernel_rfl, f136 := by kernel_rfl, f154 := by kernel_rfl, f158 := by kernel_rfl, f159 := by kernel_rfl, f178 := by kernel_rfl, f179 := by kernel_rfl, f180 := by kernel_rfl, f182 := by kernel_rfl, f183 := by kernel_rfl, f186 := by kernel_rfl, f190 := by kernel_rfl, f191 := by kernel_rfl, f156 := by kernel_rfl, f157 := by kernel_rfl, f160 := by kernel_rfl, f181 := by kernel_rfl, f189 := by kernel_rfl, f196 := by kernel_rfl, f48 := rfl, o48 := orcC_48, f146 := rfl, f105 := rfl, o146 := orcC_146, o105 := orcC_105, s105 := orsB_105 }
theorem oracB_ok : OracOk Try.prog X ⟨fnOf fns, orcB, orsB⟩ := orcB_ok o48_ok (f0 := 85) (fun f h => by have := fm_inv h; simpa [fms] using this) Try.func85 (by kernel_rfl) (by kernel_rfl) (by kernel_rfl) (by kernel_rfl)
theorem orac0_ok : OracOk Try.prog X prog0 := orcC_ok oracB_ok (f0 := 53) (fun f h => by have := fm_inv h; simpa [fms] using this) (fun args w => callFunc_enter Try.func53 (by kernel_rfl) (code := bodyR Try.f53) (by kernel_rfl) args) fun s c w => Go.Proofs.Any.strings_Count_one Try.lays138 s c w
theorem orsB0_ok : OracSOk Try.prog X prog0 := fun f c hfc hn args st r st1 h => Go.AM.orsB_ok (fs := fns) Try.lays169 Try.extraB (fun f h => by have := fm_inv h; have e : f = 50 := (by simpa [fms] using this); exact e) (by kernel_rfl) (by kernel_rfl) Try.func50 (by kernel_rfl) rfl f c hfc hn args st r st1 h
theorem orac_ok : OracOk Try.prog X prog := orcR_ok orac0_ok orsB0_ok (tab_ok tys_ok) (by kernel_rfl) (prog_ok fns_ok.all rfl) has0 (by kernel_rfl) rt (fun f h => show f = 24 from by have := fm_inv h; simpa [fms] using this) ⟨188, by kernel_rfl⟩ (by kernel_rfl)
theorem orsB_ok : OracSOk Try.prog X prog := fun f c hfc hn args st r st1 h => Go.AM.orsB_ok (fs := fns) Try.lays169 Try.extraB (fun f h => by have := fm_inv h; have e : f = 50 := (by simpa [fms] using this); exact e) (by kernel_rfl) (by kernel_rfl) Try.func50 (by kernel_rfl) rfl f c hfc hn args st r st1 h
def tl : List Nat := [2, 4, 5, 9, 22, 23, 25, 27, 42]
theorem at_ : LawAt Try.prog X prog tl := ⟨tab_ok tys_ok, by kernel_rfl, prog_ok fns_ok.all rfl, orac_ok, orsB_ok, by
    intro t ht
    exact (show ∀ t ∈ tl, okTy X.T tl t = true by decide) t (by simpa using ht)⟩
set_option maxRecDepth 100000 in
theorem has : HasR prog := { f42 := by kernel_rfl, f46 := by kernel_rfl, f36 := by kernel_rfl, f43 := by kernel_rfl, f47 := by kernel_rfl, f11 := by kernel_rfl, f15 := by kernel_rfl, f21 := by kernel_rfl, f25 := by kernel_rfl, f30 := by kernel_rfl, f34 := by kernel_rfl, f37 := by kernel_rfl, f39 := by kernel_rfl, f45 := by kernel_rfl, f16 := by kernel_rfl, f22 := by kernel_rfl, f26 := by kernel_rfl, f31 := by kernel_rfl, f35 := by kernel_rfl, f38 := by kernel_rfl, f40 := by kernel_rfl, f41 := by kernel_rfl, f44 := by kernel_rfl, f145 := by kernel_rfl, f126 := by kernel_rfl, f71 := by kernel_rfl, f72 := by kernel_rfl, f74 := by kernel_rfl, f75 := by kernel_rfl, f76 := by kernel_rfl, f77 := by kernel_rfl, f78 := by kernel_rfl, f102 := by kernel_rfl, f103 := by kernel_rfl, f104 := by kernel_rfl, f106 := by kernel_rfl, f107 := by kernel_rfl, f108 := by kernel_rfl, f109 := by kernel_rfl, f110 := by kernel_rfl, f127 := by kernel_rfl, f128 := by kernel_rfl, f129 := by kernel_rfl, f130 := by kernel_rfl, f131 := by kernel_rfl, f132 := by kernel_rfl, f133 := by kernel_rfl, f134 := by kernel_rfl, f135 := by kernel_rfl, f136 := by kernel_rfl, f154 := by kernel_rfl, f158 := by kernel_rfl, f159 := by kernel_rfl, f178 := by kernel_rfl, f179 := by kernel_rfl, f180 := by kernel_rfl, f182 := by kernel_rfl, f183 := by kernel_rfl, f186 := by kernel_rfl, f190 := by kernel_rfl, f191 := by kernel_rfl, f156 := by kernel_rfl, f157 := by kernel_rfl, f160 := by kernel_rfl, f181 := by kernel_rfl, f162 := by kernel_rfl, f163 := by kernel_rfl, f164 := by kernel_rfl, f165 := by kernel_rfl, f166 := by kernel_rfl, f169 := by kernel_rfl, f170 := by kernel_rfl, f185 := by kernel_rfl, f168 := by kernel_rfl, f177 := by kernel_rfl, f48 := rfl, o48 := orcR_48, f146 := rfl, f105 := rfl, o146 := orcR_146, o105 := orcR_105, s105 := orsB_105, f167 := rfl, o167 := orcR_167 }
theorem own : ownKnob Try.prog.godebug = none := by kernel_rfl
theorem laidOut : laidOutB Try.prog = true := by kernel_rfl
theorem typed (avs : List AV) (h : ArgsOk X.T [42, 9] avs) : Pus prog 151 avs (.b true) := by
  match avs, h with
  | [a, b], ⟨h1, h2, _⟩ =>
    obtain ⟨l, rfl, _, hl⟩ := ArgOk.isLs ⟨_, rfl, rfl, rfl⟩ (szPan tyPan) (HasC.isPan tyPan) h1
    obtain ⟨s, rfl, _⟩ := ArgOk.str (i := _) rfl rfl h2
    exact law151 has rfl (fun p hp => ⟨(hl p hp).tag, (hl p hp).value, (hl p hp).flags⟩) s

set_option maxRecDepth 100000 in
theorem lifted (os : Os) (started : os.Started) (H : Type) (enc : TypeId × Value → H) :
    ReturnsInHanded {} Try.checked os 6 .any (Rows.chaintextTextsSpec.pre6 enc Try.prog Try.f6 Rows.chaintextTextsRow.domain false) (Rows.chaintextTextsSpec.post enc Try.prog Try.f6 false true false false) := by
  refine returnsInHanded_of_change (C := Try.checked) own started (by kernel_rfl) Try.func6
    (ChangeSpec.witness6 (enc := enc) (C := Try.checked) false ⟨#[], #[.slice none 0 0, .string ⟨#[]⟩], []⟩ 8 (by kernel_rfl) (by kernel_rfl) (by kernel_rfl) (by kernel_rfl)) ?_
  intro W base args ds gs before hval0 hW hcnd _
  have hval : ∀ (j : Nat) t v, Try.f6.params[j]? = some t → args[j]? = some v → Value.okWide Try.prog W .any base t v := hval0
  have hW' := hW
  obtain ⟨p, q, hA0, hV, rfl, hfz, hnd⟩ := hW
  have hA : DataW.TrodAll enc Try.prog W 0 (fun _ => true) true Try.f6.params.toList args.toList ds p := hA0
  rw [Try.params6] at hA hval
  obtain ⟨rfl, rfl⟩ := trodVars_none hV
  obtain ⟨avs, hR, hok⟩ := args_read at_.T at_.types (ts := [42, 9]) (by decide) (fun j t v h1 h2 => hval j t v (by simpa using h1) (by simpa using h2)) hA
  have hlt := args_lt hA
  have hlen := trod_len hA
  refine (law_calls at_ (f := 6) (c := 151) rfl (ok151.enters _ _) hR (typed avs hok)).mono fun e W' ⟨he, bel⟩ => ?_
  subst he
  have hB := args_below laidOut bel (by kernel_rfl) hA hlt
  obtain ⟨d0, d1, rfl⟩ := ds2 hlen
  exact ⟨_, rfl, _, _, _, [], _, [], hW', trodAll_mk1 (shut_bool Try.underlying4 _), hB, rfl, bel.frame _, fun h => by cases h⟩

theorem over : Rows.chaintextTextsRow.holds Try.pinned (OpenSpec.ofChange Rows.chaintextTextsSpec) :=
  OpenClaim.holds_of_wide 6 Try.f6 rfl rfl rfl rfl rfl rfl rfl ⟨rfl, rfl, rfl, rfl, rfl⟩ rfl rfl rfl rfl rfl (by kernel_rfl) Try.func6 (by kernel_rfl)
    (of_decide_eq_true (by kernel_rfl)) (by unfold Func.isWrapper; rw [if_neg (of_decide_eq_false (by kernel_rfl))]; exact ⟨rfl, rfl⟩)
    (fun os started H enc _ => lifted os started H enc)

/-- The statement. -/
theorem proved : Rows.ChaintextTextsSaid := over
#print axioms proved
end Go.Proofs.Ytffbkdcgkhbpoaa.ChaintextTextsProof
