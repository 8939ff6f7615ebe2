/- Parts of the proof: U44b, H44, U44c, S3, U44d, U44e, U44f, U44g, U44h, U44i. -/
import Derived.Test.YtbcdfamilcmjnaaG2
import Derived.Test.YtbcdfamilcmjnaaG1
import Derived.Maps.RangeRun
set_option linter.all false
/- Parts of the proof. -/
namespace Go.AM
open Go
set_option linter.unusedVariables false
set_option linter.unusedSimpArgs false
set_option maxRecDepth 4000
attribute [local irreducible] WO fillCells fillRows
abbrev H244 (Q:AE→Sl→St→Prop)(K:List UInt8→Int→Prop):Prop:=∀(σ:Sl)(st:St)(res0:List UInt8)(res1:Int),σ 2 = .s res0→σ 3 = .i .i64 res1→K res0 res1→Q .ret σ st
section
variable {prog:Prog}{d:Nat}{Q:AE→Sl→St→Prop}{K:List UInt8→Int→Prop}(hQ:H244 Q K){σ:Sl}{st:St}
include hQ
end
def r245_0:List AI:=[oO 2 (.alloc [.i .u8 0,.i .i64 0,.i .i64 0,.i .i64 0,.s []]),
 oC 3 (.i .i64 0)]
def r245_1:List AI:=[oM 11 0,
 oO 12 (.len true (.t 11)),
 oB 13 .gtr (.t 12) (.c (.i .i64 2000))]
def r245_2:List AI:=[oO 14 (.build [.i .u8 0,.i .i64 0,.i .i64 0,.i .i64 0,.s []] []),
 oS 5 2 14,
 oC 3 (.i .i64 4)]
def r245_3:List AI:=[oM 16 0,
 oO 17 (.call false 260 [(.t 16),(.c (.s [32]))]),
 oM 15 17,
 oE 18 0 15,
 oE 19 1 15,
 oE 20 2 15,
 oM 4 18,
 oM 5 19,
 oM 6 20]
def r245_4:List AI:=[oO 22 (.call false 257 []),
 oM 23 4,
 oO 24 (.lkp (.t 22) (.t 23)),
 oM 25 5,
 oO 26 (.call false 261 [(.t 24),(.t 25)]),
 oM 21 26,
 oE 27 0 21,
 oE 28 1 21,
 oO 7 (.alloc [.i .u8 0,.i .i64 0,.i .i64 0,.i .i64 0,.s []]),
 oS 5 7 27,
 oM 8 28]
def r245_5:List AI:=[oM 29 8,
 oO 30 (.un .not (.t 29))]
def r245_6:List AI:=[oO 31 (.build [.i .u8 0,.i .i64 0,.i .i64 0,.i .i64 0,.s []] []),
 oS 5 2 31,
 oC 3 (.i .i64 12)]
def r245_7:List AI:=[oO 33 (.load 5 true (.t 7)),
 oO 34 (.call false 243 [(.t 33)]),
 oM 32 34,
 oE 35 0 32,
 oE 36 1 32,
 oM 9 35,
 oM 10 36]
def r245_8:List AI:=[oM 37 10,
 oB 38 .neq (.t 37) (.c (.i .i64 0)),
 oM 39 38,
 oG 40 (.mv (.t 9)) 39 false,
 oG 41 (.mv (.t 0)) 39 false,
 oG 42 (.bin .neq (.t 40) (.t 41)) 39 false,
 oO 43 (.pick (.t 39) (.c (.b true)) (.t 42))]
def r245_9:List AI:=[oO 44 (.build [.i .u8 0,.i .i64 0,.i .i64 0,.i .i64 0,.s []] []),
 oS 5 2 44,
 oC 3 (.i .i64 12)]
def r245_10:List AI:=[oO 45 (.load 5 true (.t 7)),
 oS 5 2 45,
 oC 3 (.i .i64 0)]
abbrev b245:AC:=(.seq (.reg 0 r245_0) (.seq (.seq (.reg 1 r245_1) (.cond (.t 13) (.seq (.reg 2 r245_2) .ret) .skip)) (.seq (.reg 3 r245_3) (.seq (.reg 4 r245_4) (.seq (.seq (.reg 5 r245_5) (.cond (.t 30) (.seq (.reg 6 r245_6) .ret) .skip)) (.seq (.seq (.reg 7 r245_7) (.seq (.reg 8 r245_8) (.cond (.t 43) (.seq (.reg 9 r245_9) .ret) .skip))) (.seq (.reg 10 r245_10) .ret)))))))
def pf245:AF:={ nt:=46,res:=[.cell 2 5 true,.tmp 3],body:=b245 }
abbrev H245 (Q:AE→Sl→St→Prop)(K:Qry→Int→Prop):Prop:=∀(σ:Sl)(st:St)(k0:Key)(v0:Nat)(res0:Qry)(res1:Int),σ 2 = .p k0 v0 0→lk st.bx k0 = some (v0,[.i .u8 res0.kind,.i .i64 res0.g,.i .i64 res0.k,.i .i64 res0.key,.s res0.name])→σ 3 = .i .i64 res1→K res0 res1→Q .ret σ st
def T245_0 (prog:Prog)(K:Qry→Int→Prop)(s0:List UInt8):Prop:=
  ((s0.length:Int) > 2000→K (Qry.mk 0 0 0 0 []) 4)∧(¬((s0.length:Int) > 2000)→∃r'2:List UInt8,∃r'3:List UInt8,∃r'4:Bool,Pus prog 260 [.s s0,.s ([32]:List UInt8)] (.tup [.s r'2,.s r'3,.b r'4])∧∃r'6:List (List UInt8 × Int),Pus prog 257 [] (.mp r'6)∧∃r'8:Qry,∃r'9:Bool,Pus prog 261 [.i .u8 (mpAt r'6 r'2),.s r'3] (.tup [r'8.av,.b r'9])∧((!r'9) = true→K (Qry.mk 0 0 0 0 []) 12)∧((!r'9) = false→∃r'12:List UInt8,∃r'13:Int,Pus prog 243 [r'8.av] (.tup [.s r'12,.i .i64 r'13])∧(r'13≠0→K (Qry.mk 0 0 0 0 []) 12)∧(¬(r'13≠0)→(r'12≠s0→K (Qry.mk 0 0 0 0 []) 12)∧(¬(r'12≠s0)→K r'8 0))))
section
variable {prog:Prog}{d:Nat}{Q:AE→Sl→St→Prop}{K:Qry→Int→Prop}(hQ:H245 Q K){σ:Sl}{st:St}
include hQ
theorem w245_0 {s0:List UInt8}(H0:σ 0 = .s s0)(h:T245_0 prog K s0):W prog d (.seq (.reg 0 r245_0) (.seq (.seq (.reg 1 r245_1) (.cond (.t 13) (.seq (.reg 2 r245_2) .ret) .skip)) (.seq (.reg 3 r245_3) (.seq (.reg 4 r245_4) (.seq (.seq (.reg 5 r245_5) (.cond (.t 30) (.seq (.reg 6 r245_6) .ret) .skip)) (.seq (.seq (.reg 7 r245_7) (.seq (.reg 8 r245_8) (.cond (.t 43) (.seq (.reg 9 r245_9) .ret) .skip))) (.seq (.reg 10 r245_10) .ret))))))) σ st Q:=
 sq_ (W.reg (s_alloc (m_ (e_ (sq_ (q_ rfl (m_ (ln_ H0 (b_ rfl rfl gtr_ (e_ (cs_ rfl (fun g'1=>q_ rfl (s_build f_nil (so_ rfl (show lk _ (d,0) = some (_,([.i .u8 0,.i .i64 0,.i .i64 0,.i .i64 0,.s []]:List AV)) from lk_here) rfl rfl rfl (m_ (e_ (rt_ (hQ _ _ _ _ _ _ rfl lk_here rfl (h.1 g'1)))))))) (fun g'1=>sk_ (q_ rfl (m_ ((h.2 g'1).elim fun r'2 e'19=>e'19.elim fun r'3 e'20=>e'20.elim fun r'4 e'5=>ca_ (sc H0 rfl (sc rfl rfl sn)) e'5.1 (m_ (x_ rfl rfl (x_ rfl rfl (x_ rfl rfl (m_ (m_ (m_ (e_ (sq_ (W.reg (e'5.2.elim fun r'6 e'7=>ca_ sn e'7.1 (m_ (s_lkp rfl rfl (m_ (e'7.2.elim fun r'8 e'18=>e'18.elim fun r'9 e'10=>ca_ (sc rfl rfl (sc rfl rfl sn)) e'10.1 (m_ (x_ rfl rfl (x_ rfl rfl (s_alloc (so_ rfl (show lk _ (d,16392) = some (_,([.i .u8 0,.i .i64 0,.i .i64 0,.i .i64 0,.s []]:List AV)) from lk_here) rfl rfl rfl (m_ (e_ (sq_ (q_ rfl (m_ (nt_ rfl (e_ (cb_ rfl (fun g'11=>q_ rfl (s_build f_nil (so_ rfl (lk_other rfl (lk_other rfl (show lk _ (d,0) = some (_,([.i .u8 0,.i .i64 0,.i .i64 0,.i .i64 0,.s []]:List AV)) from lk_here))) rfl rfl rfl (m_ (e_ (rt_ (hQ _ _ _ _ _ _ rfl lk_here rfl (e'10.2.1 g'11)))))))) (fun g'11=>sk_ (sq_ (q_ rfl (l_ rfl lk_here rfl rfl ((e'10.2.2 g'11).elim fun r'12 e'17=>e'17.elim fun r'13 e'14=>ca_ (sc rfl rfl sn) e'14.1 (m_ (x_ rfl rfl (x_ rfl rfl (m_ (m_ (e_ (q_ rfl (s_mvI rfl (b_ rfl rfl neq_ (s_mvB rfl (em_ (g:=39) rfl (fun g'15=>gn_ (b:=true) rfl rfl (gn_ (b:=true) rfl rfl (gn_ (b:=true) rfl rfl (pt_ rfl rfl (e_ (ct_ rfl (q_ rfl (s_build f_nil (so_ rfl (lk_other rfl (lk_other rfl (show lk _ (d,0) = some (_,([.i .u8 0,.i .i64 0,.i .i64 0,.i .i64 0,.s []]:List AV)) from lk_here))) rfl rfl rfl (m_ (e_ (rt_ (hQ _ _ _ _ _ _ rfl lk_here rfl (e'14.2.1 g'15)))))))))))))) (fun g'15=>gy_ rfl (s_mvS rfl (gy_ rfl (s_mvS H0 (gy_ rfl (b_ rfl rfl sne_ (pf_ rfl rfl (e_ (cs_ rfl (fun g'16=>q_ rfl (s_build f_nil (so_ rfl (lk_other rfl (lk_other rfl (show lk _ (d,0) = some (_,([.i .u8 0,.i .i64 0,.i .i64 0,.i .i64 0,.s []]:List AV)) from lk_here))) rfl rfl rfl (m_ (e_ (rt_ (hQ _ _ _ _ _ _ rfl lk_here rfl ((e'14.2.2 g'15).1 g'16)))))))) (fun g'16=>sk_ (q_ rfl (l_ rfl lk_here rfl rfl (so_ rfl (lk_other rfl (lk_other rfl (show lk _ (d,0) = some (_,([.i .u8 0,.i .i64 0,.i .i64 0,.i .i64 0,.s []]:List AV)) from lk_here))) rfl rfl rfl (m_ (e_ (rt_ (hQ _ _ _ _ _ _ rfl lk_here rfl ((e'14.2.2 g'15).2 g'16)))))))))))))))))))))))))))))))))))))))))))))))))))))))))))))))))))))))))))))
end
theorem p245 {prog:Prog}(hf:prog.fn 245 = some pf245){s0:List UInt8}{K:Qry→Int→Prop}(h:T245_0 prog K s0) :∃res0:Qry,∃res1:Int,K res0 res1∧Pus prog 245 [.s s0] (.tup [res0.av,.i .i64 res1]):=by
  obtain ⟨v,hv,res0,res1,hk,rfl⟩:=Pus.of (K:=fun v=>∃res0:Qry,∃res1:Int,K res0 res1∧v = .tup [res0.av,.i .i64 res1]) hf rfl (w245_0 (σ:=sl0 [.s s0]) (fun σ st k0 v0  res0 res1 H2 HB2 H3 hk=>⟨.tup [res0.av,.i .i64 res1],by simp only [pf245,ares,aresL,ares_cellA (n:=5) H2 HB2 rfl,H3,ares_tmp,Option.map_some],_,rfl,res0,res1,hk,rfl⟩) rfl h)
  exact ⟨res0,res1,hk,hv⟩
abbrev H246 (Q:AE→Sl→St→Prop)(K:Qry→Int→Prop):Prop:=∀(σ:Sl)(st:St)(k0:Key)(v0:Nat)(res0:Qry)(res1:Int),σ 2 = .p k0 v0 0→lk st.bx k0 = some (v0,[.i .u8 res0.kind,.i .i64 res0.g,.i .i64 res0.k,.i .i64 res0.key,.s res0.name])→σ 3 = .i .i64 res1→K res0 res1→Q .ret σ st
section
variable {prog:Prog}{d:Nat}{Q:AE→Sl→St→Prop}{K:Qry→Int→Prop}(hQ:H246 Q K){σ:Sl}{st:St}
include hQ
end
abbrev H240 (Q:AE→Sl→St→Prop)(K:Bool→Prop):Prop:=∀(σ:Sl)(st:St)(res0:Bool),σ 4 = .b res0→K res0→Q .ret σ st
section
variable {prog:Prog}{d:Nat}{Q:AE→Sl→St→Prop}{K:Bool→Prop}(hQ:H240 Q K){σ:Sl}{st:St}
include hQ
end
end Go.AM

/- Parts of the proof. -/
namespace Go.AM
open Go Go.RowKit Go.BigFrame Go.ChangeMaps
def wordL : List (List UInt8 × Int) := [([103, 111, 114, 111, 117, 116, 105, 110, 101, 115], 1), ([102, 114, 97, 109, 101, 115], 2), ([108, 111, 99, 97, 108, 115], 3), ([100, 101, 102, 101, 114, 115], 4), ([112, 97, 110, 105, 99, 115], 5), ([119, 97, 105, 116, 115], 6), ([105, 110], 7), ([115, 108, 111, 116], 8)]
def wordM (n : Int) : List UInt8 := match wordL.find? (fun x => x.2 == n) with | some x => x.1 | none => []
def wordE (j : Nat) : MapEntry := ⟨.string ⟨(wordM ((j : Int) + 1)).toArray⟩, .int .u8 ((j : Int) + 1), j⟩
def wordEs : Array MapEntry := #[wordE 0, wordE 1, wordE 2, wordE 3, wordE 4, wordE 5, wordE 6, wordE 7]
theorem wordEs_mem {e : MapEntry} (h : e ∈ wordEs.toList) : ∃ j, j < 8 ∧ e = wordE j := by
  simp only [wordEs, List.mem_cons, List.not_mem_nil, or_false] at h
  rcases h with h | h | h | h | h | h | h | h
  · exact ⟨0, by decide, h⟩
  · exact ⟨1, by decide, h⟩
  · exact ⟨2, by decide, h⟩
  · exact ⟨3, by decide, h⟩
  · exact ⟨4, by decide, h⟩
  · exact ⟨5, by decide, h⟩
  · exact ⟨6, by decide, h⟩
  · exact ⟨7, by decide, h⟩
theorem wordE_mem {j : Nat} (h : j < 8) : wordE j ∈ wordEs.toList := by
  simp only [wordEs, List.mem_cons, List.not_mem_nil, or_false]
  match j, h with
  | 0, _ | 1, _ | 2, _ | 3, _ | 4, _ | 5, _ | 6, _ | 7, _ => simp
theorem wordEs_map : wordEs.toList.map (fun e => (e.key, e.val)) = wordL.map fun x => (Value.string ⟨x.1.toArray⟩, Value.int .u8 x.2) := rfl
theorem wordEs_nodup : (wordEs.toList.map (·.born)).Nodup := by
  show [0, 1, 2, 3, 4, 5, 6, 7].Nodup
  decide
theorem wordEs_born {e : MapEntry} (h : e ∈ wordEs.toList) : e.born < 8 := by
  obtain ⟨j, hj, rfl⟩ := wordEs_mem h
  exact hj
theorem wordM_no {n : Int} (h : ¬(1 ≤ n ∧ n ≤ 8)) : wordM n = [] := by
  have e : wordL.find? (fun x => x.2 == n) = none := by
    rw [List.find?_eq_none]
    intro x hx
    have : 1 ≤ x.2 ∧ x.2 ≤ 8 := by
      simp only [wordL, List.mem_cons, List.not_mem_nil, or_false] at hx
      rcases hx with rfl | rfl | rfl | rfl | rfl | rfl | rfl | rfl <;> decide
    simp only [beq_iff_eq]
    omega
  unfold wordM
  rw [e]
theorem setBlock_at {w : World} {r : Nat} {o : Obj} (h : r < w.heap.size) : (setBlock w r o).heap[r]? = some o := by
  simp [setBlock, h]
theorem setBlock_ne {w : World} {r i : Nat} {o : Obj} (h : i ≠ r) : (setBlock w r o).heap[i]? = w.heap[i]? := by
  simp only [setBlock]
  rw [Array.getElem?_setIfInBounds_ne (by omega)]
theorem setBlock_below {w0 w : World} {n r : Nat} {o : Obj} (h : Below n w0 w) (hr : n ≤ r) : Below n w0 (setBlock w r o) :=
  ⟨h.os, h.tape, h.output, by simpa [setBlock] using h.size, fun i hi => (setBlock_ne (by omega)).trans (h.block i hi)⟩
section
variable {P : Program}
theorem setObj_map {w : World} {r : Nat} {es : Array MapEntry} {c : Nat} (h : w.heap[r]? = some (.map es c)) (o' : Obj) : (setObj r o').run P w = .ok () (setBlock w r o') := by
  simp [setObj, Sem.run, h, setBlock]
theorem insert_run {w : World} {r clock tm k e : Nat} {es : Array MapEntry} {l : List (List UInt8 × Int)} (hun : P.underlying tm = some (.map k e)) (hks : P.underlying k = some .string) (hb : w.heap[r]? = some (.map es clock))
    (hm : es.toList.map (fun e => (e.key, e.val)) = l.map fun x => (Value.string ⟨x.1.toArray⟩, Value.int .u8 x.2)) {s : List UInt8} (hf : l.find? (fun x => x.1 == s) = none) (v : Value) :
    (Instr.mapUpdate tm (.map (some r)) (.string ⟨s.toArray⟩) v).run P w = .ok () (setBlock w r (.map (es.push ⟨.string ⟨s.toArray⟩, v, clock⟩) (clock + 1))) := by
  have hget : (getObj r).run P w = .ok (.map es clock) w := by simp [getObj, Sem.run, hb]
  have hck : (Instr.checkKey false 10000 k (.string ⟨s.toArray⟩)).run P w = .ok () w := by
    rw [Instr.checkKey]
    simp [run_underlying hks]
  have hfn : Instr.findNow .string (.string ⟨s.toArray⟩) es.toList 0 = some none := by
    rcases findNow_ok s es.toList l 0 hm with ⟨h, _⟩ | ⟨j, x, _, h⟩
    · exact h
    · rw [hf] at h; cases h
  have hfk : (Instr.findKey k (.string ⟨s.toArray⟩) es.toList).run P w = .ok none w := by
    simp [Instr.findKey, run_underlying hks, hfn]
  simp only [Instr.mapUpdate, Sem.run_bind, run_underlying hun, Result.andThen_ok, hget, hck, hfk]
  exact setObj_map hb _
end
def OpsAre (ops : Array Oper) (l : List (Option Nat × Op)) : Prop := ops.toList.map (fun o => (o.dst, o.op)) = l ∧ ∀ o ∈ ops.toList, o.guard = none
theorem OpsAre.at {ops : Array Oper} {l : List (Option Nat × Op)} (h : OpsAre ops l) {i : Nat} {d : Option Nat} {p : Op} (hi : l[i]? = some (d, p)) : ∃ o, ops[i]? = some o ∧ o.dst = d ∧ o.op = p ∧ o.guard = none := by
  rw [← h.1, List.getElem?_map, Option.map_eq_some_iff] at hi
  obtain ⟨o, h1, h2⟩ := hi
  injection h2 with h2 h3
  exact ⟨o, by simpa using h1, h2, h3, h.2 o (List.mem_of_getElem? h1)⟩
theorem OpsAre.size {ops : Array Oper} {l : List (Option Nat × Op)} (h : OpsAre ops l) : ops.size = l.length := by
  rw [← h.1]; simp
def tv (a : Act) (t : Nat) : Value := a.tmps.getD t undef
theorem tv_put (a : Act) (d : Nat) (v : Value) (t : Nat) (h : d < a.tmps.size) : tv (a.put (some d) v) t = if t = d then v else tv a t := by
  unfold tv Act.put
  simp only [Array.getD_eq_getD_getElem?, Array.getElem?_setIfInBounds]
  by_cases e : t = d
  · subst e; simp [h]
  · rw [if_neg (fun e' => e e'.symm), if_neg e]
section
variable {P : Program} {ops : Array Oper} {l : List (Option Nat × Op)} {Q : Exit → Act → World → Prop} {i : Nat} {rest : List Nat} {a : Act} {w w' : World}
theorem st_val (h : OpsAre ops l) {d : Nat} {p : Op} (hi : l[i]? = some (some d, p)) {v : Value} (hr : ∀ o : Oper, o.op = p → (execOp a.eval o).run P w = .ok (.value v) w') (hk : wpOps P ops Q rest (a.put (some d) v) w') : wpOps P ops Q (i :: rest) a w := by
  obtain ⟨o, h1, h2, h3, h4⟩ := h.at hi
  rw [wpOps_cons]
  exact step_val (G := ⟨fun _ _ => none, fun _ _ => none, fun _ _ => none, fun _ => none, fun _ => none⟩) (nt := 0) h1 h4 (hr o h3) (by rw [h2]; exact hk)
theorem st_valo {o : Oper} (h1 : ops[i]? = some o) {d : Nat} (h2 : o.dst = some d) (h4 : o.guard = none) {v : Value} (hr : (execOp a.eval o).run P w = .ok (.value v) w') (hk : wpOps P ops Q rest (a.put (some d) v) w') : wpOps P ops Q (i :: rest) a w := by
  rw [wpOps_cons]
  exact step_val (G := ⟨fun _ _ => none, fun _ _ => none, fun _ _ => none, fun _ => none, fun _ => none⟩) (nt := 0) h1 h4 hr (by rw [h2]; exact hk)
theorem st_unit (h : OpsAre ops l) {p : Op} (hi : l[i]? = some (none, p)) (hr : ∀ o : Oper, o.op = p → (execOp a.eval o).run P w = .ok .skip w') (hk : wpOps P ops Q rest a w') : wpOps P ops Q (i :: rest) a w := by
  obtain ⟨o, h1, h2, h3, h4⟩ := h.at hi
  rw [wpOps_cons]
  unfold wpOp
  rw [h1]
  simp only
  rw [if_pos (by simp [Region.wanted, h4])]
  refine .inl ?_
  unfold Oper.wp
  rw [hr o h3, Oper.upon_skip, h2]
  exact hk
theorem st_call (h : OpsAre ops l) {d : Nat} {p : Op} (hi : l[i]? = some (some d, p)) {f : FuncId} {args : Array Value} (hr : ∀ o : Oper, o.op = p → (execOp a.eval o).run P w = .ok (.enter f args) w) (hk : Calls P f args w fun e w'' => match e with | .returned v => wpOps P ops Q rest (a.put (some d) v) w'' | _ => False) : wpOps P ops Q (i :: rest) a w := by
  obtain ⟨o, h1, h2, h3, h4⟩ := h.at hi
  rw [wpOps_cons]
  unfold wpOp
  rw [h1]
  simp only
  rw [if_pos (by simp [Region.wanted, h4])]
  refine .inl ?_
  unfold Oper.wp
  rw [hr o h3, Oper.upon_enter, h2]
  refine hk.mono fun e w'' he => ?_
  cases e with
  | returned v => exact he
  | panicked c => exact he.elim
  | outgrown => exact he.elim
end
def insOp (tm : Nat) (j : Nat) : Op := .insert tm (.tmp 1) (.const (.string ⟨(wordM ((j : Int) + 1)).toArray⟩)) (.const (.int .u8 ((j : Int) + 1)))
theorem words_find {j : Nat} (h : j < 8) : (wordL.take j).find? (fun x => x.1 == wordM ((j : Int) + 1)) = none := by
  match j, h with
  | 0, _ | 1, _ | 2, _ | 3, _ | 4, _ | 5, _ | 6, _ | 7, _ => rfl
theorem words_map {j : Nat} (h : j ≤ 8) : (wordEs.toList.take j).map (fun e => (e.key, e.val)) = (wordL.take j).map fun x => (Value.string ⟨x.1.toArray⟩, Value.int .u8 x.2) := by
  rw [List.map_take, wordEs_map, ← List.map_take]
theorem words_push {j : Nat} (h : j < 8) : (wordEs.toList.take j).toArray.push (wordE j) = (wordEs.toList.take (j + 1)).toArray := by
  match j, h with
  | 0, _ | 1, _ | 2, _ | 3, _ | 4, _ | 5, _ | 6, _ | 7, _ => rfl
def WordsR (w : World) : Ending → World → Prop := fun e w' => ∃ b, e = .returned (.map (some b)) ∧ w'.heap[b]? = some (.map wordEs 8) ∧ w.heap.size ≤ b ∧ Below w.heap.size w w'
section
variable {P : Program}
theorem words_calls {fw tm k e : Nat} {fn : Func} {ops0 ops1 : Array Oper} (hf : P.funcs[fw]? = some fn) (hb : fn.body = some (.seq (.region 0 ops0 false) (.seq (.region 1 ops1 false) .ret))) (hn : fn.ntmps = 3) (hres : fn.results = #[.tmp 0])
    (hun : P.underlying tm = some (.map k e)) (hks : P.underlying k = some .string)
    (h0 : OpsAre ops0 [(some 0, .assign (.const (.map none)))])
    (h1 : OpsAre ops1 [(some 1, .makeMap tm none), (none, insOp tm 0), (none, insOp tm 1), (none, insOp tm 2), (none, insOp tm 3), (none, insOp tm 4), (none, insOp tm 5), (none, insOp tm 6), (none, insOp tm 7), (some 2, .move (.tmp 1)), (some 0, .assign (.tmp 2))]) (w : World) :
    Calls P fw #[] w (WordsR w) := by
  refine calls_of_wp hf hb ?_
  rw [hn]
  refine wp_seq (wp_region ?_)
  rw [h0.size]
  show wpOps P ops0 _ [0] _ _
  refine st_val h0 (d := 0) (v := .map none) (w' := w) rfl (fun o ho => by simp only [execOp, ho]; rfl) ?_
  refine wp_seq (wp_region ?_)
  rw [h1.size]
  show wpOps P ops1 _ [0, 1, 2, 3, 4, 5, 6, 7, 8, 9, 10] _ _
  refine st_val h1 (d := 1) (v := .map (some w.heap.size)) (w' := w.alloc (.map #[] 0)) rfl (fun o ho => by simp only [execOp, ho]; exact run_val (by simp [Instr.makeMap, run_newObj])) ?_
  have start : (w.alloc (.map #[] 0)).heap[w.heap.size]? = some (.map (wordEs.toList.take 0).toArray 0) ∧ Below w.heap.size w (w.alloc (.map #[] 0)) := ⟨heap_alloc_new w _, (Below.refl _ _).alloc (Nat.le_refl _) _⟩
  generalize w.alloc (.map #[] 0) = w1 at start ⊢
  have ins : ∀ {j : Nat} {w2 : World} (rest : List Nat) (a : Act) (Q : Exit → Act → World → Prop), j < 8 → tv a 1 = .map (some w.heap.size) → w2.heap[w.heap.size]? = some (.map (wordEs.toList.take j).toArray j) ∧ Below w.heap.size w w2 →
      (∀ w3 : World, w3.heap[w.heap.size]? = some (.map (wordEs.toList.take (j + 1)).toArray (j + 1)) ∧ Below w.heap.size w w3 → wpOps P ops1 Q rest a w3) → wpOps P ops1 Q ((j + 1) :: rest) a w2 := by
    intro j w2 rest a Q hj ha ⟨q1, q2⟩ hk
    have hlt : w.heap.size < w2.heap.size := (Array.getElem?_eq_some_iff.1 q1).1
    refine st_unit h1 (p := insOp tm j) (w' := setBlock w2 w.heap.size (.map ((wordEs.toList.take j).toArray.push (wordE j)) (j + 1))) ?_ (fun o ho => ?_) (hk _ ⟨?_, setBlock_below q2 (Nat.le_refl _)⟩)
    · match j, hj with
      | 0, _ | 1, _ | 2, _ | 3, _ | 4, _ | 5, _ | 6, _ | 7, _ => rfl
    · simp only [execOp, ho, insOp]
      refine run_unit ?_
      rw [show a.eval (.tmp 1) = .map (some w.heap.size) from ha]
      exact insert_run hun hks q1 (l := wordL.take j) (by rw [List.toList_toArray]; exact words_map (by omega)) (words_find hj) _
    · rw [setBlock_at hlt, words_push hj]
  refine ins _ _ _ (by decide) (by rfl) start fun w2 s2 => ins _ _ _ (by decide) (by rfl) s2 fun w3 s3 => ins _ _ _ (by decide) (by rfl) s3 fun w4 s4 => ins _ _ _ (by decide) (by rfl) s4 fun w5 s5 => ins _ _ _ (by decide) (by rfl) s5 fun w6 s6 => ins _ _ _ (by decide) (by rfl) s6 fun w7 s7 => ins _ _ _ (by decide) (by rfl) s7 fun w8 s8 => ins _ _ _ (by decide) (by rfl) s8 fun w9 s9 => ?_
  refine st_val h1 (d := 2) (v := .map (some w.heap.size)) (w' := w9) rfl (fun o ho => by simp only [execOp, ho]; rfl) ?_
  refine st_val h1 (d := 0) (v := .map (some w.heap.size)) (w' := w9) rfl (fun o ho => by simp only [execOp, ho]; rfl) ?_
  refine wp_ret ?_
  refine ⟨rfl, .map (some w.heap.size), ?_, _, rfl, s9.1, Nat.le_refl _, s9.2⟩
  rw [results_eq, hres]
  have h2 : (resVar ((((({ tmps := #[] ++ Array.replicate (3 - (#[] : Array Value).size) undef, defers := [] } : Act).put (some 0) (Value.map none)).put (some 1) (Value.map (some w.heap.size))).put (some 2) (Value.map (some w.heap.size))).put (some 0) (Value.map (some w.heap.size))).tmps (.tmp 0)).run P w9 = .ok (.map (some w.heap.size)) w9 := rfl
  simpa using h2
end
def hwSlots : List Nat := [6, 7, 15, 16, 17, 18, 19, 20, 21, 22, 23, 24, 25, 26]
def hs243 (n : Int) (σ : Sl) : Sl := fun t => if t = 5 then .s (wordM n) else if hwSlots.contains t = true then .u else σ t
def hw243 (σ : Sl) (st : St) : Option (AE × Sl × St) := match σ 1, σ 5 with
  | .p k v 0, .s [] => match lk st.bx k with
    | some (v', .i .u8 n :: _) => if v' = v then some (.normal, hs243 n σ, st) else none
    | _ => none
  | _, _ => none
theorem hw243_eq {σ : Sl} {st : St} {k : Key} {v : Nat} {n : Int} {cs : List AV} (h1 : σ 1 = .p k v 0) (h5 : σ 5 = .s []) (hk : lk st.bx k = some (v, .i .u8 n :: cs)) : hw243 σ st = some (.normal, hs243 n σ, st) := by
  unfold hw243
  rw [h1, h5]
  simp only [hk, if_true]
theorem hw243_inv {σ σ' : Sl} {st st' : St} {e : AE} (h : hw243 σ st = some (e, σ', st')) : ∃ k v n cs, σ 1 = .p k v 0 ∧ σ 5 = .s [] ∧ lk st.bx k = some (v, .i .u8 n :: cs) ∧ e = .normal ∧ σ' = hs243 n σ ∧ st' = st := by
  unfold hw243 at h
  split at h
  · rename_i k v h1 h5
    split at h
    · rename_i v' n cs hk
      split at h
      · rename_i hv
        subst hv
        cases h
        exact ⟨k, v', n, cs, h1, h5, hk, rfl, rfl, rfl⟩
      · cases h
    · cases h
  · cases h
def curOf (n : Int) (seen : Array Nat) : List UInt8 := if 1 ≤ n ∧ n ≤ 8 ∧ seen.contains (n - 1).toNat = true then wordM n else []
theorem cur_push {n : Int} {seen : Array Nat} {j : Nat} (hj : j < 8) : curOf n (seen.push j) = if (n == (j : Int) + 1) = true then wordM ((j : Int) + 1) else curOf n seen := by
  unfold curOf
  by_cases h : n = (j : Int) + 1
  · subst h
    rw [if_pos ⟨by omega, by omega, by simp⟩, if_pos (by simp)]
  · rw [if_neg (c := (n == (j : Int) + 1) = true) (by simpa using h)]
    by_cases h1 : 1 ≤ n ∧ n ≤ 8
    · have : (seen.push j).contains (n - 1).toNat = seen.contains (n - 1).toNat := by
        simp only [Array.contains_push]
        have : ((n - 1).toNat == j) = false := by simp; omega
        rw [this, Bool.or_false]
      rw [this]
    · rw [if_neg (fun h => h1 ⟨h.1, h.2.1⟩), if_neg (fun h => h1 ⟨h.1, h.2.1⟩)]
theorem cur_all {n : Int} {seen : Array Nat} (h : (leftOf wordEs seen).size = 0) : curOf n seen = wordM n := by
  unfold curOf
  by_cases h1 : 1 ≤ n ∧ n ≤ 8
  · rw [if_pos]
    refine ⟨h1.1, h1.2, ?_⟩
    have hm : wordE (n - 1).toNat ∈ wordEs := by simpa using wordE_mem (j := (n - 1).toNat) (by omega)
    have h2 : leftOf wordEs seen = #[] := Array.eq_empty_of_size_eq_zero h
    unfold leftOf at h2
    rw [Array.filter_eq_empty_iff] at h2
    have := h2 _ hm
    simpa [wordE] using this
  · rw [if_neg (fun h => h1 ⟨h.1, h.2.1⟩), wordM_no h1]
theorem words_size : wordEs.size = 8 := rfl
theorem left_le (seen : Array Nat) : (leftOf wordEs seen).size < 9 := by
  have h : (leftOf wordEs seen).size ≤ wordEs.size := by
    unfold leftOf
    exact Array.size_filter_le
  rw [words_size] at h
  omega
theorem left_push {seen : Array Nat} {e : MapEntry} (h : e ∈ (leftOf wordEs seen).toList) : (leftOf wordEs (seen.push e.born)).size < (leftOf wordEs seen).size := by
  have e1 : leftOf wordEs (seen.push e.born) = (leftOf wordEs seen).filter (fun x => !(x.born == e.born)) := by
    unfold leftOf
    rw [Array.filter_filter]
    congr 1
    funext x
    simp only [Array.contains_push, Bool.not_or, Bool.and_comm]
  rw [e1, Array.size_filter_lt_size_iff_exists]
  exact ⟨e, by simpa using h, by simp⟩
section
variable {P : Program} {X : Cx}
set_option maxHeartbeats 1000000 in
theorem range_hand {nt d fw tm ts t5 k e : Nat} {ops5 ops6 ops7 ops8 ops9 : Array Oper} (hnt : 27 ≤ nt) (hun : P.underlying tm = some (.map k e)) (hT : TTok P X.T) {fs : List (Nat × Nat)} (hst : (TK.st fs).ok P ts) (hf0 : fs[0]? = some (t5, 0)) {i5' : TI} (hi5 : X.T t5 = some i5') (hi5s : i5'.size = 1) (hi5a : i5'.kind.agg = false)
    (hw : ∀ w, (callFunc fw #[]).run P w = .ok (.enter fw #[]) w ∧ Calls P fw #[] w (WordsR w))
    (h5 : OpsAre ops5 [(some 15, .call ⟨.value (.func fw), #[], #[]⟩), (some 16, .range tm (.tmp 15))])
    (h6 : OpsAre ops6 [(some 17, .next (.tmp 16) false), (some 18, .extract (.tmp 17) 0)])
    (h7 : OpsAre ops7 [(some 19, .entry (.tmp 16)), (some 20, .extract (.tmp 19) 0), (some 21, .extract (.tmp 19) 1), (some 6, .assign (.tmp 20)), (some 7, .assign (.tmp 21))])
    (h8 : OpsAre ops8 [(some 22, .move (.tmp 7)), (some 23, .fieldAddr ts (.tmp 1) 0), (some 24, .load t5 (.tmp 23)), (some 25, .binOp .eql t5 (.tmp 22) (.tmp 24) t5)])
    (h9 : OpsAre ops9 [(some 26, .move (.tmp 6)), (some 5, .assign (.tmp 26))]) :
    CodeOk P X nt d hw243 (.seq (.region 5 ops5 false) (.block 0 (.loop (.seq (.region 6 ops6 false) (.seq (.cond (.tmp 18) .skip (.exit 0)) (.block 1 (.seq (.region 7 ops7 false) (.seq (.region 8 ops8 false) (.cond (.tmp 25) (.region 9 ops9 false) .skip))))))))) := by
  intro σ st e' σ' st' h G w0 w a hfm hA hR Q hQ
  obtain ⟨kk, v, n, cs, q1, q5, qb, rfl, rfl, rfl⟩ := hw243_inv h
  have hsz : a.tmps.size = nt := hA.2.1
  -- region 5
  refine wp_seq (wp_region ?_)
  rw [h5.size]
  show wpOps P ops5 _ [0, 1] _ _
  refine st_call h5 (d := 15) rfl (f := fw) (args := #[]) (fun o ho => ?_) ((hw w).2.mono fun e1 w1 he => ?_)
  · simp only [execOp, ho, resolve, Act.eval, Deferred.ofValue, invoke, Sem.run_bind, Sem.run_pure, Result.andThen_ok]
    simpa using (hw w).1
  obtain ⟨b, rfl, hb, hge, hbel⟩ := he
  refine st_val h5 (d := 16) (v := .pointer (some ⟨w1.heap.size, 0, none⟩)) (w' := w1.alloc (.mapIter (some b) 8 #[] 8)) rfl (fun o ho => ?_) ?_
  · simp only [execOp, ho]
    refine run_val ?_
    rw [show (a.put (some 15) (.map (some b))).eval (.tmp 15) = .map (some b) from by
      show tv _ 15 = _
      rw [tv_put _ _ _ _ (by omega), if_pos rfl]]
    have hg : (getObj b).run P w1 = .ok (.map wordEs 8) w1 := by simp [getObj, Sem.run, hb]
    simp [Instr.range, run_underlying hun, hg]
  have hlt1 : w1.heap.size < (w1.alloc (.mapIter (some b) 8 #[] 8)).heap.size := by simp
  have hb1 : b < w1.heap.size := (Array.getElem?_eq_some_iff.1 hb).1
  have hbel1 : Below w.heap.size w (w1.alloc (.mapIter (some b) 8 #[] 8)) := hbel.alloc (Nat.le_trans hbel.size (Nat.le_refl _)) _
  have hbm : (w1.alloc (.mapIter (some b) 8 #[] 8)).heap[b]? = some (.map wordEs 8) := (Below.heap_alloc _ _ _ hb1).trans hb
  have hrm : (w1.alloc (.mapIter (some b) 8 #[] 8)).heap[w1.heap.size]? = some (.mapIter (some b) 8 #[] 8) := heap_alloc_new w1 _
  have hr0 : w.heap.size ≤ w1.heap.size := hbel.size
  generalize hr : w1.heap.size = r at *
  generalize w1.alloc (.mapIter (some b) 8 #[] 8) = w2 at *
  clear hlt1 hb hbel hb1
  -- what holds between two rounds
  let Inv : Array Nat → Act → World → Prop := fun seen b' w' => b'.defers = [] ∧ b'.tmps.size = nt ∧ (∀ t, t ≠ 5 → hwSlots.contains t = false → R G (σ t) (tv b' t)) ∧ tv b' 16 = .pointer (some ⟨r, 0, none⟩) ∧ tv b' 5 = .string ⟨(curOf n seen).toArray⟩ ∧
    w'.heap[b]? = some (.map wordEs 8) ∧ (∃ c, w'.heap[r]? = some (.mapIter (some b) 8 seen c) ∧ 8 ≤ c) ∧ Below w.heap.size w w'
  have out : ∀ {b' : Act} {w' : World} {seen : Array Nat}, Inv seen b' w' → (leftOf wordEs seen).size = 0 → Q .normal b' w' := by
    intro b' w' seen hI h0
    obtain ⟨i1, i2, i3, i4, i5, i6, i7, i8⟩ := hI
    refine hQ b' w' G ⟨i1, i2, fun t => ?_⟩ ⟨.refl G, hR.below i8, Nat.le_refl _, fun _ _ _ => ⟨rfl, rfl⟩, fun _ _ _ _ _ _ h => h, fun _ _ _ h => .inl h⟩
    unfold hs243
    split
    · rename_i ht
      subst ht
      rw [cur_all h0] at i5
      have : R G (.s (wordM n)) (tv b' 5) := by rw [i5]; exact .fz _ _ (.s _)
      exact this
    · split
      · exact .fz _ _ (.u _)
      · rename_i h1 h2
        exact i3 t h1 (by simpa using h2)
  have init : Inv #[] ((a.put (some 15) (.map (some b))).put (some 16) (.pointer (some ⟨r, 0, none⟩))) w2 := by
    have s15 : (a.put (some 15) (.map (some b))).tmps.size = nt := by simp [Act.put, hsz]
    refine ⟨hA.1, by simp [Act.put, hsz], fun t h1 h2 => ?_, ?_, ?_, hbm, ⟨8, hrm, Nat.le_refl _⟩, hbel1⟩
    · have n15 : t ≠ 15 := by rintro rfl; simp [hwSlots] at h2
      have n16 : t ≠ 16 := by rintro rfl; simp [hwSlots] at h2
      rw [tv_put _ _ _ _ (by omega), if_neg n16, tv_put _ _ _ _ (by omega), if_neg n15]
      exact hA.2.2 t
    · rw [tv_put _ _ _ _ (by omega), if_pos rfl]
    · rw [tv_put _ _ _ _ (by omega), if_neg (by decide), tv_put _ _ _ _ (by omega), if_neg (by decide)]
      have h3 := hA.2.2 5
      rw [q5] at h3
      rw [show tv a 5 = .string ⟨([] : List UInt8).toArray⟩ from h3.str_inv]
      unfold curOf
      rw [if_neg (by simp)]
  generalize (a.put (some 15) (.map (some b))).put (some 16) (.pointer (some ⟨r, 0, none⟩)) = a1 at init
  show wpOps P ops5 _ [] a1 w2
  show Code.wp P _ _ a1 w2
  refine wp_block (wp_loop_rounds 9 ?_)
  have rounds : ∀ (m : Nat) (seen : Array Nat) (b' : Act) (w' : World), Inv seen b' w' → (leftOf wordEs seen).size < m → Code.rounds P (.seq (.region 6 ops6 false) (.seq (.cond (.tmp 18) .skip (.exit 0)) (.block 1 (.seq (.region 7 ops7 false) (.seq (.region 8 ops8 false) (.cond (.tmp 25) (.region 9 ops9 false) .skip)))))) (Exit.inBlock 0 Q) m b' w' := by
    intro m
    induction m with
    | zero => intro seen b' w' _ h; exact absurd h (Nat.not_lt_zero _)
    | succ m ih =>
      intro seen b' w' hI hm
      rw [rounds_succ]
      obtain ⟨i1, i2, i3, i4, i5, i6, ⟨c, i7, i7c⟩, i8⟩ := hI
      refine wp_seq (wp_region ?_)
      rw [h6.size]
      show wpOps P ops6 _ [0, 1] _ _
      obtain ⟨o0, o1, o2, o3, o4⟩ := h6.at (i := 0) rfl
      rcases run_next_at (P := P) w' o0.type r b 8 c seen wordEs 8 i7 i6 (fun x hx => wordEs_born hx) i7c with ⟨hz, hrun⟩ | ⟨ent, hent, w3, hw3, hrun⟩
      · -- all have come
        refine st_valo o1 o2 o4 (v := .tuple #[.bool false]) (w' := w') ?_ ?_
        · simp only [execOp, o3]
          refine run_val ?_
          rw [show b'.eval (.tmp 16) = .pointer (some ⟨r, 0, none⟩) from i4]
          exact hrun
        have e17 : tv (b'.put (some 17) (.tuple #[.bool false])) 17 = .tuple #[.bool false] := by rw [tv_put _ _ _ _ (by omega), if_pos rfl]
        refine st_val h6 (d := 18) (v := .bool false) (w' := w') rfl (fun o ho => ?_) ?_
        · simp only [execOp, ho]
          refine run_val ?_
          rw [show (b'.put (some 17) (.tuple #[.bool false])).eval (.tmp 17) = .tuple #[.bool false] from e17]
          simp [Instr.extract]
        refine wp_seq (wp_cond_false ?_ (wp_exit ?_))
        · show tv _ 18 = _
          rw [tv_put _ _ _ _ (by simp [Act.put]; omega), if_pos rfl]
        · show Exit.inBlock 0 Q (.exit 0) _ _
          simp only [Exit.inBlock, if_true]
          refine out (seen := seen) ⟨i1, by simp [Act.put, i2], fun t h1 h2 => ?_, ?_, ?_, i6, ⟨c, i7, i7c⟩, i8⟩ hz
          · have n17 : t ≠ 17 := by rintro rfl; simp [hwSlots] at h2
            have n18 : t ≠ 18 := by rintro rfl; simp [hwSlots] at h2
            rw [tv_put _ _ _ _ (by simp [Act.put]; omega), if_neg n18, tv_put _ _ _ _ (by omega), if_neg n17]
            exact i3 t h1 h2
          · rw [tv_put _ _ _ _ (by simp [Act.put]; omega), if_neg (by decide), tv_put _ _ _ _ (by omega), if_neg (by decide)]
            exact i4
          · rw [tv_put _ _ _ _ (by simp [Act.put]; omega), if_neg (by decide), tv_put _ _ _ _ (by omega), if_neg (by decide)]
            exact i5
      · -- one more
        have hmem : ent ∈ wordEs.toList := by
          unfold leftOf at hent
          simp only [Array.toList_filter', List.mem_filter] at hent
          exact hent.1
        obtain ⟨j, hj, rfl⟩ := wordEs_mem hmem
        have hlt := left_push hent
        have hrne : b ≠ r := by rintro rfl; rw [i6] at i7; cases i7
        have hrlt : r < w'.heap.size := (Array.getElem?_eq_some_iff.1 i7).1
        have h3 : w3.heap = w'.heap := by rcases hw3 with rfl | rfl <;> rfl
        have hbel3 : Below w.heap.size w w3 := by
          rcases hw3 with rfl | rfl
          · exact i8
          · exact i8.drew
        have hb3 : (setBlock w3 r (.mapIter (some b) 8 (seen.push j) 8)).heap[b]? = some (.map wordEs 8) := (setBlock_ne hrne).trans (by rw [h3]; exact i6)
        have hr3 : (setBlock w3 r (.mapIter (some b) 8 (seen.push j) 8)).heap[r]? = some (.mapIter (some b) 8 (seen.push j) 8) := setBlock_at (by rw [h3]; exact hrlt)
        have hbel4 : Below w.heap.size w (setBlock w3 r (.mapIter (some b) 8 (seen.push j) 8)) := setBlock_below hbel3 hr0
        have hrun' : (Instr.next (.pointer (some ⟨r, 0, none⟩)) false o0.type).run P w' = .ok (.tuple #[.bool true, .string ⟨(wordM ((j : Int) + 1)).toArray⟩, .int .u8 ((j : Int) + 1)]) (setBlock w3 r (.mapIter (some b) 8 (seen.push j) 8)) := hrun
        generalize setBlock w3 r (.mapIter (some b) 8 (seen.push j) 8) = w4 at *
        have hrel : Rel G w0 st' w4 := hR.below hbel4
        refine st_valo o1 o2 o4 (v := .tuple #[.bool true, .string ⟨(wordM ((j : Int) + 1)).toArray⟩, .int .u8 ((j : Int) + 1)]) (w' := w4) ?_ ?_
        · simp only [execOp, o3]
          refine run_val ?_
          rw [show b'.eval (.tmp 16) = .pointer (some ⟨r, 0, none⟩) from i4]
          exact hrun'
        -- what the slots hold
        let A : (Nat → Value) → Act → Prop := fun f b' => b'.defers = [] ∧ b'.tmps.size = nt ∧ ∀ t, tv b' t = f t
        have put : ∀ {f : Nat → Value} {b' : Act} (d : Nat) (v : Value), d < 27 → A f b' → A (fun t => if t = d then v else f t) (b'.put (some d) v) := by
          rintro f b' d v hd ⟨p1, p2, p3⟩
          refine ⟨p1, by simp [Act.put, p2], fun t => ?_⟩
          rw [tv_put _ _ _ _ (by omega), p3]
        have a0 : A (tv b') b' := ⟨i1, i2, fun _ => rfl⟩
        have a17 := put 17 (.tuple #[.bool true, .string ⟨(wordM ((j : Int) + 1)).toArray⟩, .int .u8 ((j : Int) + 1)]) (by decide) a0
        generalize b'.put (some 17) (.tuple #[.bool true, .string ⟨(wordM ((j : Int) + 1)).toArray⟩, .int .u8 ((j : Int) + 1)]) = b1 at a17 ⊢
        refine st_val h6 (d := 18) (v := .bool true) (w' := w4) rfl (fun o ho => ?_) ?_
        · simp only [execOp, ho]
          refine run_val ?_
          rw [show b1.eval (.tmp 17) = _ from a17.2.2 17]
          simp [Instr.extract]
        have a18 := put 18 (.bool true) (by decide) a17
        generalize b1.put (some 18) (.bool true) = b2 at a18 ⊢
        show Code.wp P _ _ b2 w4
        refine wp_seq (wp_cond_true (a18.2.2 18) (wp_skip ?_))
        show Code.wp P _ _ b2 w4
        refine wp_block (wp_seq (wp_region ?_))
        rw [h7.size]
        show wpOps P ops7 _ [0, 1, 2, 3, 4] _ _
        refine st_val h7 (d := 19) (v := .tuple #[.string ⟨(wordM ((j : Int) + 1)).toArray⟩, .int .u8 ((j : Int) + 1)]) (w' := w4) rfl (fun o ho => ?_) ?_
        · simp only [execOp, ho]
          refine run_val ?_
          rw [show b2.eval (.tmp 16) = .pointer (some ⟨r, 0, none⟩) from (a18.2.2 16).trans i4]
          exact run_entry_at w4 r b 8 seen wordEs 8 (wordE j) hr3 hb3 hmem wordEs_nodup
        have a19 := put 19 (.tuple #[.string ⟨(wordM ((j : Int) + 1)).toArray⟩, .int .u8 ((j : Int) + 1)]) (by decide) a18
        generalize b2.put (some 19) (.tuple #[.string ⟨(wordM ((j : Int) + 1)).toArray⟩, .int .u8 ((j : Int) + 1)]) = b3 at a19 ⊢
        refine st_val h7 (d := 20) (v := .string ⟨(wordM ((j : Int) + 1)).toArray⟩) (w' := w4) rfl (fun o ho => ?_) ?_
        · simp only [execOp, ho]
          refine run_val ?_
          rw [show b3.eval (.tmp 19) = _ from a19.2.2 19]
          simp [Instr.extract]
        have a20 := put 20 (.string ⟨(wordM ((j : Int) + 1)).toArray⟩) (by decide) a19
        generalize b3.put (some 20) (.string ⟨(wordM ((j : Int) + 1)).toArray⟩) = b4 at a20 ⊢
        refine st_val h7 (d := 21) (v := .int .u8 ((j : Int) + 1)) (w' := w4) rfl (fun o ho => ?_) ?_
        · simp only [execOp, ho]
          refine run_val ?_
          rw [show b4.eval (.tmp 19) = _ from a20.2.2 19]
          simp [Instr.extract]
        have a21 := put 21 (.int .u8 ((j : Int) + 1)) (by decide) a20
        generalize b4.put (some 21) (.int .u8 ((j : Int) + 1)) = b5 at a21 ⊢
        refine st_val h7 (d := 6) (v := .string ⟨(wordM ((j : Int) + 1)).toArray⟩) (w' := w4) rfl (fun o ho => ?_) ?_
        · simp only [execOp, ho]
          rw [show b5.eval (.tmp 20) = _ from a21.2.2 20]
          rfl
        have a6 := put 6 (.string ⟨(wordM ((j : Int) + 1)).toArray⟩) (by decide) a21
        generalize b5.put (some 6) (.string ⟨(wordM ((j : Int) + 1)).toArray⟩) = b6 at a6 ⊢
        refine st_val h7 (d := 7) (v := .int .u8 ((j : Int) + 1)) (w' := w4) rfl (fun o ho => ?_) ?_
        · simp only [execOp, ho]
          rw [show b6.eval (.tmp 21) = _ from a6.2.2 21]
          rfl
        have a7 := put 7 (.int .u8 ((j : Int) + 1)) (by decide) a6
        generalize b6.put (some 7) (.int .u8 ((j : Int) + 1)) = b7 at a7 ⊢
        show Code.wp P _ _ b7 w4
        refine wp_seq (wp_region ?_)
        rw [h8.size]
        show wpOps P ops8 _ [0, 1, 2, 3] _ _
        refine st_val h8 (d := 22) (v := .int .u8 ((j : Int) + 1)) (w' := w4) rfl (fun o ho => ?_) ?_
        · simp only [execOp, ho]
          rw [show b7.eval (.tmp 7) = _ from a7.2.2 7]
          rfl
        have a22 := put 22 (.int .u8 ((j : Int) + 1)) (by decide) a7
        generalize b7.put (some 22) (.int .u8 ((j : Int) + 1)) = b8 at a22 ⊢
        have hp1 : R G (.p kk v 0) (tv b8 1) := by
          rw [a22.2.2 1, ← q1]
          exact i3 1 (by decide) (by decide)
        obtain ⟨ti, hti, hsz5, _⟩ := (hT t5 i5' hi5).ti
        obtain ⟨va, hva, hRa⟩ := fad_ok (P := P) (w := w4) hst hf0 hti (by omega) (x := .p kk v 0) (r := .p kk v (0 + 0)) rfl hp1
        refine st_val h8 (d := 23) (v := va) (w' := w4) rfl (fun o ho => ?_) ?_
        · simp only [execOp, ho]
          exact run_val hva
        have a23 := put 23 va (by decide) a22
        generalize b8.put (some 23) va = b9 at a23 ⊢
        obtain ⟨vl, hvl, hRl⟩ := aload_ok (P := P) hrel (hT t5 i5' hi5) (fun _ => hi5s) (x := .p kk v (0 + 0)) (r := .i .u8 n) (by rw [hi5s, hi5a]; simp [aload, qb, ofCells]) hRa
        refine st_val h8 (d := 24) (v := .int .u8 n) (w' := w4) rfl (fun o ho => ?_) ?_
        · simp only [execOp, ho]
          refine run_val ?_
          rw [show b9.eval (.tmp 23) = va from a23.2.2 23, ← hRl.int_inv]
          exact hvl
        have a24 := put 24 (.int .u8 n) (by decide) a23
        generalize b9.put (some 24) (.int .u8 n) = b10 at a24 ⊢
        refine st_val h8 (d := 25) (v := .bool (((j : Int) + 1) == n)) (w' := w4) rfl (fun o ho => ?_) ?_
        · simp only [execOp, ho]
          refine run_val ?_
          rw [show b10.eval (.tmp 22) = .int .u8 ((j : Int) + 1) from a24.2.2 22, show b10.eval (.tmp 24) = .int .u8 n from a24.2.2 24]
          simp only [Sem.run_bind, eqGuard_int, Result.andThen_ok]
          simp [binOp, Op.intCmp]
        have a25 := put 25 (.bool (((j : Int) + 1) == n)) (by decide) a24
        generalize b10.put (some 25) (.bool (((j : Int) + 1) == n)) = b11 at a25 ⊢
        show Code.wp P _ _ b11 w4
        have hcp := cur_push (n := n) (seen := seen) hj
        have next : ∀ (f : Nat → Value) (b' : Act), A f b' → (∀ t, t ≠ 5 → hwSlots.contains t = false → f t = tv b11 t) → f 16 = .pointer (some ⟨r, 0, none⟩) → f 5 = .string ⟨(curOf n (seen.push j)).toArray⟩ → Code.rounds P (.seq (.region 6 ops6 false) (.seq (.cond (.tmp 18) .skip (.exit 0)) (.block 1 (.seq (.region 7 ops7 false) (.seq (.region 8 ops8 false) (.cond (.tmp 25) (.region 9 ops9 false) .skip)))))) (Exit.inBlock 0 Q) m b' w4 := by
          rintro f b' ⟨p1, p2, p3⟩ p4 p5 p6
          refine ih (seen.push j) b' w4 ⟨p1, p2, fun t h1 h2 => ?_, by rw [p3]; exact p5, by rw [p3]; exact p6, hb3, ⟨8, hr3, Nat.le_refl _⟩, hbel4⟩ (by have : (wordE j).born = j := rfl; rw [this] at hlt; omega)
          rw [p3, p4 t h1 h2, a25.2.2 t]
          have hn : ∀ d, hwSlots.contains d = true → t ≠ d := by rintro d hd rfl; rw [hd] at h2; cases h2
          simp only [if_neg (hn 25 rfl), if_neg (hn 24 rfl), if_neg (hn 23 rfl), if_neg (hn 22 rfl), if_neg (hn 7 rfl), if_neg (hn 6 rfl), if_neg (hn 21 rfl), if_neg (hn 20 rfl), if_neg (hn 19 rfl), if_neg (hn 18 rfl), if_neg (hn 17 rfl)]
          exact i3 t h1 h2
        cases hq : (((j : Int) + 1) == n) with
        | false =>
          refine wp_cond_false ?_ (wp_skip ?_)
          · rw [← hq]; exact a25.2.2 25
          · refine next _ b11 ⟨a25.1, a25.2.1, fun _ => rfl⟩ (fun _ _ _ => rfl) ((a25.2.2 16).trans i4) ?_
            rw [hcp, if_neg (by rw [Bool.not_eq_true]; simp only [beq_eq_false_iff_ne, ne_eq] at hq ⊢; exact fun h => hq h.symm)]
            exact (a25.2.2 5).trans i5
        | true =>
          refine wp_cond_true ?_ (wp_region ?_)
          · rw [← hq]; exact a25.2.2 25
          rw [h9.size]
          show wpOps P ops9 _ [0, 1] _ _
          refine st_val h9 (d := 26) (v := .string ⟨(wordM ((j : Int) + 1)).toArray⟩) (w' := w4) rfl (fun o ho => ?_) ?_
          · simp only [execOp, ho]
            rw [show b11.eval (.tmp 6) = _ from a25.2.2 6]
            rfl
          have a26 := put 26 (.string ⟨(wordM ((j : Int) + 1)).toArray⟩) (by decide) a25
          have e26 : ∀ t, t ≠ 26 → tv (b11.put (some 26) (.string ⟨(wordM ((j : Int) + 1)).toArray⟩)) t = tv b11 t := fun t ht => by rw [tv_put _ _ _ _ (by have := a25.2.1; omega), if_neg ht]
          generalize b11.put (some 26) (.string ⟨(wordM ((j : Int) + 1)).toArray⟩) = b12 at a26 e26 ⊢
          refine st_val h9 (d := 5) (v := .string ⟨(wordM ((j : Int) + 1)).toArray⟩) (w' := w4) rfl (fun o ho => ?_) ?_
          · simp only [execOp, ho]
            rw [show b12.eval (.tmp 26) = _ from a26.2.2 26]
            rfl
          have a5 := put 5 (.string ⟨(wordM ((j : Int) + 1)).toArray⟩) (by decide) (show A (tv b12) b12 from ⟨a26.1, a26.2.1, fun _ => rfl⟩)
          generalize b12.put (some 5) (.string ⟨(wordM ((j : Int) + 1)).toArray⟩) = b13 at a5 ⊢
          refine next _ b13 a5 (fun t h1 h2 => ?_) ?_ ?_
          · have n26 : t ≠ 26 := by rintro rfl; simp [hwSlots] at h2
            show (if t = 5 then _ else tv b12 t) = _
            rw [if_neg h1, e26 t n26]
          · show (if (16 : Nat) = 5 then _ else tv b12 16) = _
            rw [if_neg (by decide), e26 16 (by decide)]
            exact (a25.2.2 16).trans i4
          · show (if (5 : Nat) = 5 then _ else tv b12 5) = _
            rw [if_pos rfl, hcp, if_pos (by simp only [beq_iff_eq] at hq ⊢; exact hq.symm)]
  exact rounds 9 #[] a1 w2 init (left_le _)
end
end Go.AM

/- Parts of the proof. -/
namespace Go.AM
open Go
set_option linter.unusedVariables false
set_option linter.unusedSimpArgs false
set_option maxRecDepth 4000
attribute [local irreducible] WO fillCells fillRows
def r243_0:List AI:=[oO 1 (.box 5 (.t 0)),
 oC 2 (.s []),
 oC 3 (.i .i64 0)]
def r243_1:List AI:=[oO 10 (.load 5 true (.t 1)),
 oO 11 (.call false 247 [(.t 10)]),
 oM 4 11]
def r243_2:List AI:=[oM 12 4,
 oB 13 .neq (.t 12) (.c (.i .i64 0))]
def r243_3:List AI:=[oM 14 4,
 oC 2 (.s []),
 oM 3 14]
def r243_4:List AI:=[oC 5 (.s [])]
def r243_5:List AI:=[oF 27 0 1,
 oL 28 27]
def r243_6:List AI:=[oB 36 .eql (.t 28) (.c (.i .u8 1)),
 oM 35 36]
def r243_7:List AI:=[oB 38 .eql (.t 28) (.c (.i .u8 3)),
 oM 37 38]
def r243_8:List AI:=[oM 39 5,
 oF 40 1 1,
 oL 41 40,
 oO 42 (.call false 258 [(.t 41)]),
 oB 43 .add (.c (.s [32])) (.t 42),
 oB 44 .add (.t 43) (.c (.s [32])),
 oF 45 2 1,
 oL 46 45,
 oO 47 (.call false 258 [(.t 46)]),
 oB 48 .add (.t 44) (.t 47),
 oB 49 .add (.t 39) (.t 48),
 oM 5 49]
def r243_9:List AI:=[oB 51 .eql (.t 28) (.c (.i .u8 6)),
 oM 50 51]
def r243_10:List AI:=[oM 52 5,
 oF 53 3 1,
 oL 54 53,
 oO 55 (.call false 15 [(.t 54)]),
 oB 56 .add (.c (.s [32])) (.t 55),
 oB 57 .add (.t 52) (.t 56),
 oM 5 57]
def r243_11:List AI:=[oB 59 .eql (.t 28) (.c (.i .u8 7)),
 oM 58 59]
def r243_12:List AI:=[oB 60 .eql (.t 28) (.c (.i .u8 8)),
 oM 58 60]
def r243_13:List AI:=[oF 62 4 1,
 oL 63 62,
 oO 64 (.call false 11 [(.t 63)]),
 oM 61 64,
 oE 65 0 61,
 oE 66 1 61,
 oM 8 65,
 oM 9 66]
def r243_14:List AI:=[oM 67 9,
 oB 68 .neq (.t 67) (.c (.i .i64 0))]
def r243_15:List AI:=[oM 69 9,
 oC 2 (.s []),
 oM 3 69]
def r243_16:List AI:=[oM 70 5,
 oM 71 8,
 oB 72 .add (.c (.s [32])) (.t 71),
 oB 73 .add (.t 70) (.t 72),
 oM 5 73]
def r243_17:List AI:=[oM 29 5,
 oF 30 1 1,
 oL 31 30,
 oO 32 (.call false 258 [(.t 31)]),
 oB 33 .add (.c (.s [32])) (.t 32),
 oB 34 .add (.t 29) (.t 33),
 oM 5 34]
def r243_18:List AI:=[oM 74 5,
 oM 2 74,
 oC 3 (.i .i64 0)]
abbrev c243_0:AC:=(.cond (.t 58) (.seq (.reg 19 r243_13) (.seq (.seq (.reg 20 r243_14) (.cond (.t 68) (.seq (.reg 21 r243_15) .ret) .skip)) (.reg 22 r243_16))) (.reg 11 r243_17))
abbrev c243_1:AC:=(.seq (.reg 23 r243_18) .ret)
abbrev c243_2:AC:=(.seq (.reg 4 r243_4) (.seq (.hand hw243) (.seq (.seq (.reg 10 r243_5) (.block 2 (.seq (.reg 12 r243_6) (.cond (.t 35) .skip (.seq (.reg 13 r243_7) (.cond (.t 37) (.reg 14 r243_8) (.seq (.reg 15 r243_9) (.cond (.t 50) (.reg 16 r243_10) (.seq (.seq (.reg 17 r243_11) (.cond (.t 58) .skip (.reg 18 r243_12))) c243_0))))))))) c243_1)))
abbrev c243_3:AC:=(.seq (.seq (.reg 1 r243_1) (.seq (.reg 2 r243_2) (.cond (.t 13) (.seq (.reg 3 r243_3) .ret) .skip))) c243_2)
abbrev b243:AC:=(.seq (.reg 0 r243_0) c243_3)
def pf243:AF:={ nt:=75,res:=[.tmp 2,.tmp 3],body:=b243 }
abbrev H243 (Q:AE→Sl→St→Prop)(K:List UInt8→Int→Prop):Prop:=∀(σ:Sl)(st:St)(res0:List UInt8)(res1:Int),σ 2 = .s res0→σ 3 = .i .i64 res1→K res0 res1→Q .ret σ st
def T243_3 (prog:Prog)(K:List UInt8→Int→Prop)(s5:List UInt8):Prop:=
  K s5 0
def T243_4 (prog:Prog)(K:List UInt8→Int→Prop)(s5:List UInt8)(t58:Bool)(m0:Qry):Prop:=
  (t58 = true→∃r'2:List UInt8,∃r'3:Int,Pus prog 11 [.s m0.name] (.tup [.s r'2,.i .i64 r'3])∧(r'3≠0→K ([]:List UInt8) r'3)∧(¬(r'3≠0)→([32]:List UInt8).length + r'2.length≤maxStr∧s5.length + (([32]:List UInt8) ++ r'2).length≤maxStr∧T243_3 prog K (s5 ++ (([32]:List UInt8) ++ r'2))))∧(t58 = false→∃r'7:List UInt8,Pus prog 258 [.i .i64 m0.g] (.s r'7)∧([32]:List UInt8).length + r'7.length≤maxStr∧s5.length + (([32]:List UInt8) ++ r'7).length≤maxStr∧T243_3 prog K (s5 ++ (([32]:List UInt8) ++ r'7)))
def T243_2 (prog:Prog)(K:List UInt8→Int→Prop)(m0:Qry):Prop:=
  (m0.kind = 1→T243_3 prog K (wordM m0.kind))∧(¬(m0.kind = 1)→(m0.kind = 3→∃r'3:List UInt8,Pus prog 258 [.i .i64 m0.g] (.s r'3)∧([32]:List UInt8).length + r'3.length≤maxStr∧(([32]:List UInt8) ++ r'3).length + ([32]:List UInt8).length≤maxStr∧∃r'5:List UInt8,Pus prog 258 [.i .i64 m0.k] (.s r'5)∧((([32]:List UInt8) ++ r'3) ++ ([32]:List UInt8)).length + r'5.length≤maxStr∧(wordM m0.kind).length + (((([32]:List UInt8) ++ r'3) ++ ([32]:List UInt8)) ++ r'5).length≤maxStr∧T243_3 prog K ((wordM m0.kind) ++ (((([32]:List UInt8) ++ r'3) ++ ([32]:List UInt8)) ++ r'5)))∧(¬(m0.kind = 3)→(m0.kind = 6→∃r'8:List UInt8,Pus prog 15 [.i .i64 m0.key] (.s r'8)∧([32]:List UInt8).length + r'8.length≤maxStr∧(wordM m0.kind).length + (([32]:List UInt8) ++ r'8).length≤maxStr∧T243_3 prog K ((wordM m0.kind) ++ (([32]:List UInt8) ++ r'8)))∧(¬(m0.kind = 6)→(m0.kind = 7→T243_4 prog K (wordM m0.kind) (decide (m0.kind = 7)) m0)∧(¬(m0.kind = 7)→T243_4 prog K (wordM m0.kind) (decide (m0.kind = 8)) m0))))
def T243_1 (prog:Prog)(K:List UInt8→Int→Prop)(m0:Qry):Prop:=
  ∃r'1:Int,Pus prog 247 [m0.av] (.i .i64 r'1)∧(r'1≠0→K ([]:List UInt8) r'1)∧(¬(r'1≠0)→T243_2 prog K m0)
def T243_0 (prog:Prog)(K:List UInt8→Int→Prop)(q0:Qry):Prop:=
  T243_1 prog K q0
section
variable {prog:Prog}{d:Nat}{Q:AE→Sl→St→Prop}{K:List UInt8→Int→Prop}(hQ:H243 Q K){σ:Sl}{st:St}
include hQ
theorem w243_3 {s5:List UInt8}(H5:σ 5 = .s s5)(h:T243_3 prog K s5):W prog d c243_1 σ st Q:=
 q_ rfl (m_ (m_ (m_ (e_ (rt_ (hQ _ _ _ _ H5 rfl h))))))
theorem w243_4 {s5:List UInt8}{t58:Bool}{m0:Qry}{v0:Nat}(H1:σ 1 = .p (d,0) v0 0)(H5:σ 5 = .s s5)(H58:σ 58 = .b t58)(B0:lk st.bx (d,0) = some (v0,[.i .u8 m0.kind,.i .i64 m0.g,.i .i64 m0.k,.i .i64 m0.key,.s m0.name]))(h:T243_4 prog K s5 t58 m0):W prog d c243_0 σ st (blockW 2 (thenW prog d c243_1 Q)):=
 cb_ H58 (fun g'1=>q_ rfl (f_ H1 (l_ rfl B0 rfl rfl ((h.1 g'1).elim fun r'2 e'6=>e'6.elim fun r'3 e'4=>ca_ (sc rfl rfl sn) e'4.1 (m_ (x_ rfl rfl (x_ rfl rfl (m_ (m_ (e_ (sq_ (q_ rfl (m_ (b_ rfl rfl neq_ (e_ (cs_ rfl (fun g'5=>q_ rfl (m_ (m_ (m_ (e_ (rt_ (hQ _ _ _ _ rfl rfl (e'4.2.1 g'5)))))))) (fun g'5=>sk_ (W.reg0 rfl fun _ _=>m_ (m_ (b_ rfl rfl (abin_cat' (e'4.2.2 g'5).1) (b_ H5 rfl (abin_cat' (e'4.2.2 g'5).2.1) (m_ (e_ (w243_3 hQ rfl (e'4.2.2 g'5).2.2)))))))))))))))))))))))) (fun g'1=>W.reg0 rfl fun _ _=>m_ (f_ H1 (l_ rfl B0 rfl rfl ((h.2 g'1).elim fun r'7 e'8=>ca_ (sc rfl rfl sn) e'8.1 (b_ rfl rfl (abin_cat' e'8.2.1) (b_ H5 rfl (abin_cat' e'8.2.2.1) (m_ (e_ (w243_3 hQ rfl e'8.2.2.2)))))))))
theorem w243_2 {m0:Qry}{v0:Nat}(H1:σ 1 = .p (d,0) v0 0)(B0:lk st.bx (d,0) = some (v0,[.i .u8 m0.kind,.i .i64 m0.g,.i .i64 m0.k,.i .i64 m0.key,.s m0.name]))(h:T243_2 prog K m0):W prog d c243_2 σ st Q:=
 q_ rfl (m_ (e_ (sq_ (W.hand (hw243_eq H1 rfl B0) (sq_ (q_ rfl (f_ H1 (l_ rfl B0 rfl rfl (e_ (bk_ (q_ rfl (b_ rfl rfl eql_ (m_ (e_ (cs_ rfl (fun g'1=>sk_ (w243_3 hQ rfl (h.1 g'1))) (fun g'1=>q_ rfl (b_ rfl rfl eql_ (m_ (e_ (cs_ rfl (fun g'2=>W.reg0 rfl fun _ _=>m_ (f_ H1 (l_ rfl B0 rfl rfl (((h.2 g'1).1 g'2).elim fun r'3 e'4=>ca_ (sc rfl rfl sn) e'4.1 (b_ rfl rfl (abin_cat' e'4.2.1) (b_ rfl rfl (abin_cat' e'4.2.2.1) (f_ H1 (l_ rfl B0 rfl rfl (e'4.2.2.2.elim fun r'5 e'6=>ca_ (sc rfl rfl sn) e'6.1 (b_ rfl rfl (abin_cat' e'6.2.1) (b_ rfl rfl (abin_cat' e'6.2.2.1) (m_ (e_ (w243_3 hQ rfl e'6.2.2.2)))))))))))))) (fun g'2=>q_ rfl (b_ rfl rfl eql_ (m_ (e_ (cs_ rfl (fun g'7=>W.reg0 rfl fun _ _=>m_ (f_ H1 (l_ rfl B0 rfl rfl ((((h.2 g'1).2 g'2).1 g'7).elim fun r'8 e'9=>ca_ (sc rfl rfl sn) e'9.1 (b_ rfl rfl (abin_cat' e'9.2.1) (b_ rfl rfl (abin_cat' e'9.2.2.1) (m_ (e_ (w243_3 hQ rfl e'9.2.2.2))))))))) (fun g'7=>sq_ (q_ rfl (b_ rfl rfl eql_ (m_ (e_ (cs_ rfl (fun g'10=>sk_ (w243_4 hQ H1 rfl rfl B0 ((((h.2 g'1).2 g'2).2 g'7).1 g'10))) (fun g'10=>W.reg0 rfl fun _ _=>b_ rfl rfl eql_ (m_ (e_ (w243_4 hQ H1 rfl rfl B0 ((((h.2 g'1).2 g'2).2 g'7).2 g'10))))))))))))))))))))))))))))))))))))
theorem w243_1 {m0:Qry}{v0:Nat}(H1:σ 1 = .p (d,0) v0 0)(B0:lk st.bx (d,0) = some (v0,[.i .u8 m0.kind,.i .i64 m0.g,.i .i64 m0.k,.i .i64 m0.key,.s m0.name]))(h:T243_1 prog K m0):W prog d c243_3 σ st Q:=
 sq_ (q_ rfl (l_ H1 B0 rfl rfl (h.elim fun r'1 e'2=>ca_ (sc rfl rfl sn) e'2.1 (m_ (e_ (q_ rfl (m_ (b_ rfl rfl neq_ (e_ (cs_ rfl (fun g'3=>q_ rfl (m_ (m_ (m_ (e_ (rt_ (hQ _ _ _ _ rfl rfl (e'2.2.1 g'3)))))))) (fun g'3=>sk_ (w243_2 hQ H1 B0 (e'2.2.2 g'3)))))))))))))
theorem w243_0 {q0:Qry}(H0:σ 0 = q0.av)(h:T243_0 prog K q0):W prog d (.seq (.reg 0 r243_0) c243_3) σ st Q:=
 q_ rfl (s_box H0 rfl (m_ (m_ (e_ (w243_1 hQ rfl lk_here h)))))
end
theorem p243 {prog:Prog}(hf:prog.fn 243 = some pf243){q0:Qry}{K:List UInt8→Int→Prop}(h:T243_0 prog K q0) :∃res0:List UInt8,∃res1:Int,K res0 res1∧Pus prog 243 [q0.av] (.tup [.s res0,.i .i64 res1]):=by
  obtain ⟨v,hv,res0,res1,hk,rfl⟩:=Pus.of (K:=fun v=>∃res0:List UInt8,∃res1:Int,K res0 res1∧v = .tup [.s res0,.i .i64 res1]) hf rfl (w243_0 (σ:=sl0 [q0.av]) (fun σ st   res0 res1 H2 H3 hk=>⟨.tup [.s res0,.i .i64 res1],by simp only [pf243,ares,aresL,H2,H3,ares1,Option.map_some],_,rfl,res0,res1,hk,rfl⟩) rfl h)
  exact ⟨res0,res1,hk,hv⟩
end Go.AM

/- Parts of the proof. -/
namespace Go.AM
open Go
structure Dsk where
  image : Img
  state : Sta
  query : Qry
  out : List (List UInt8)
def AppD (ow : Ows) (o : Own) (n : Nat) : Prop :=
  match o with
  | .ext => False
  | .full => True
  | .id k v => (lk ow k = some (v, n) ∧ 0 < n) ∧ midSite ≤ k.2 ∧ k.2 < bigSite
theorem AppD.app {ow : Ows} {o : Own} {n : Nat} (h : AppD ow o n) : App ow o n := by
  cases o with
  | ext => exact h
  | full => exact h
  | id k v => exact h.1
abbrev Dsk.fix (m : Dsk) : List AV := [.sl .ext (List.map Typ.row m.image.types), .sl .ext (List.map rowS m.image.texts), .sl .ext (List.map Fun.row m.image.funcs), .i .u8 m.state.outcome, .i .i64 m.state.failing, .i .i64 m.state.steps, .sl .ext (List.map Rou.row m.state.routines), .i .u8 m.query.kind, .i .i64 m.query.g, .i .i64 m.query.k, .i .i64 m.query.key, .s m.query.name]
def Dk (m : Dsk) : BC := fun bx ow k v => ∃ o, lk bx k = some (v, m.fix ++ [.sl o (List.map rowS m.out)]) ∧ AppD ow o m.out.length
theorem Dk.other {m : Dsk} {bx : Bxs} {ow : Ows} {k q : Key} {v : Nat} {a : Nat × List AV} (hn : q ≠ k) (h : Dk m bx ow k v) : Dk m (st_ bx q a) ow k v := by
  obtain ⟨o, h1, h2⟩ := h
  exact ⟨o, by rw [lk_ne hn]; exact h1, h2⟩
theorem Dk.out {m : Dsk} : Out (Dk m) := fun d bx ow k v hk ⟨o, h1, h2⟩ => ⟨o, by rw [lk_out hk]; exact h1, h2⟩
theorem Dk.new {m : Dsk} {bx : Bxs} {ow : Ows} {k : Key} {v : Nat} {cs : List AV} (h : lk bx k = some (v, cs)) (hc : cs = m.fix ++ [.sl .full (List.map rowS m.out)]) : Dk m bx ow k v := ⟨.full, by rw [← hc]; exact h, trivial⟩
def PuXF (prog : Prog) (f : Nat) (B : BC) (args : Key → Nat → List AV) (RR : AV → Prop) (B' : BC) : Prop :=
  ∀ d (st : St) (k : Key) (v : Nat), k.1 < d → B st.bx st.ow k v → ∃ r st', Fn prog d f (.p k v 0 :: args k v) st r st' ∧ RR r ∧ B' st'.bx st'.ow k v ∧ Fr d k st.bx st.ow st'.bx st'.ow
def PuXFK {β : Type} (prog : Prog) (f : Nat) (B : BC) (args : Key → Nat → List AV) (KK : AV → β → Prop) (B' : β → BC) : Prop :=
  ∀ d (st : St) (k : Key) (v : Nat), k.1 < d → B st.bx st.ow k v → ∃ r st' b, Fn prog d f (.p k v 0 :: args k v) st r st' ∧ KK r b ∧ B' b st'.bx st'.ow k v ∧ Fr d k st.bx st.ow st'.bx st'.ow
theorem PuXFK.to {β : Type} {prog : Prog} {f : Nat} {B : BC} {args : Key → Nat → List AV} {KK : AV → β → Prop} {B' : β → BC} {RR : AV → Prop} {b : β} (h : PuXFK prog f B args KK B') (hk : ∀ r b', KK r b' → RR r ∧ b' = b) : PuXF prog f B args RR (B' b) := by
  intro d st k v h1 h2
  obtain ⟨r, st', b', h3, h4, h5, h6⟩ := h d st k v h1 h2
  obtain ⟨h7, rfl⟩ := hk r b' h4
  exact ⟨r, st', h3, h7, h5, h6⟩
theorem PuXFK.of {β : Type} {prog : Prog} {f : Nat} {F : AF} {B : BC} {B' : β → BC} {args : Key → Nat → List AV} {KK : AV → β → Prop} (hf : prog.fn f = some F) (hn : ∀ k v, Nat.ble ((args k v).length + 1) F.nt = true) (ho : ∀ b, Out (B' b))
    (h : ∀ (d : Nat) (st : St) (k : Key) (v : Nat), k.1 < d → B st.bx st.ow k v → W prog d F.body (sl0 (.p k v 0 :: args k v)) st fun e σ st' => (e = .normal ∨ e = .ret) ∧ ∃ r b, ares σ st' F.res = some r ∧ KK r b ∧ B' b st'.bx st'.ow k v ∧ Fr d k st.bx st.ow st'.bx st'.ow) : PuXFK prog f B args KK B' := by
  intro d st k v hk hB
  obtain ⟨r, st', h1, b, h2, h3, h4⟩ := Fn.of' (prog := prog) (K := fun r st' => ∃ b, KK r b ∧ B' b st'.bx st'.ow k v ∧ Fr d k st.bx st.ow st'.bx st'.ow) hf (by simpa using Nat.le_of_ble_eq_true (hn k v)) ((h d st k v hk hB).mono fun e σ st' hq => by
    obtain ⟨he, r, b, h1, h2, h3, h4⟩ := hq
    rcases he with rfl | rfl
    · exact ⟨r, h1, b, h2, ho b d _ _ k v hk h3, h4.out⟩
    · exact ⟨r, h1, b, h2, ho b d _ _ k v hk h3, h4.out⟩)
  exact ⟨r, st', b, h1, h2, h3, h4⟩
def PuV (prog : Prog) (f : Nat) (B : BC) (RR : AV → Prop) (B' : BC) : Prop :=
  ∀ d (st : St) (q : Key) (u : Nat) (k : Key) (v : Nat), q.1 < d → k.1 < d → lk st.bx q = some (u, [.p k v 0]) → B st.bx st.ow k v → ∃ r st', Fn prog d f [.p q u 0] st r st' ∧ RR r ∧ B' st'.bx st'.ow k v ∧ Fr d k st.bx st.ow st'.bx st'.ow
section
variable {prog : Prog} {d id base i : Nat} {σ : Sl} {st : St} {K : Sl → St → Prop} {r : List AI} {t : Option Nat} {x y : Opd}
theorem s_loadD {m : Dsk} {n o v : Nat} {agg : Bool} {k : Key} {w : AV} (hx : x.ev σ = .p k v o) (hB : Dk m st.bx st.ow k v) (hn : Nat.ble (o + n) 12 = true) (hv : ofCells agg ((m.fix.drop o).take n) = some w) (h : WO prog d id base (i + 1) r (upO σ t w) st K) : WO prog d id base i (⟨t, .load n agg x, none⟩ :: r) σ st K := by
  obtain ⟨q, hb, _⟩ := hB
  have hn := Nat.le_of_ble_eq_true hn
  refine s_loadP hx hb (by rw [Nat.ble_eq]; simp; omega) ?_ h
  rw [← hv, List.drop_append_of_le_length (by simp; omega), List.take_append_of_le_length (by simp; omega)]
theorem s_loadO {m : Dsk} {v : Nat} {k : Key} (hx : x.ev σ = .p k v 12) (hB : Dk m st.bx st.ow k v) (h : ∀ o, WO prog d id base (i + 1) r (upO σ t (.sl o (List.map rowS m.out))) st K) : WO prog d id base i (⟨t, .load 1 false x, none⟩ :: r) σ st K := by
  obtain ⟨q, hb, _⟩ := hB
  exact s_loadP hx hb rfl rfl (h q)
theorem s_callXF {f : Nat} {args : List Opd} {vs : Key → Nat → List AV} {B B' : BC} {F : AV} {k : Key} {v : Nat} (hs : evs σ args = .p k v 0 :: vs k v) (hp : PuXF prog f B vs (fun r => r = F) B') (hk : k.1 < d + 1) (hB : B st.bx st.ow k v)
    (h : ∀ st' : St, B' st'.bx st'.ow k v → Fr (d + 1) k st.bx st.ow st'.bx st'.ow → WO prog d id base (i + 1) r (upO σ t F) st' K) : WO prog d id base i (⟨t, .call true f args, none⟩ :: r) σ st K := by
  refine s_one ?_
  obtain ⟨r', st', h1, rfl, h3, h4⟩ := hp (d + 1) st k v hk hB
  rw [WOp_callp, hs]
  exact ⟨_, _, h1, h st' h3 h4⟩
theorem s_callB {f : Nat} {args : List Opd} {vs : List AV} {B B' : BC} {F : AV} {k : Key} {v : Nat} (hx : x.ev σ = .bf f [.p k v 0]) (hs : evs σ args = vs) (hp : PuX prog f B vs (fun r => r = F) B') (hk : k.1 < d + 1) (hB : B st.bx st.ow k v)
    (h : ∀ st' : St, B' st'.bx st'.ow k v → Fr (d + 1) k st.bx st.ow st'.bx st'.ow → WO prog d id base (i + 1) r (upO σ t F) st' K) : WO prog d id base i (⟨t, .callv x args, none⟩ :: r) σ st K := by
  refine s_one ?_
  obtain ⟨r', st', h1, rfl, h3, h4⟩ := hp (d + 1) st k v hk hB
  show onCv (x.ev σ) (evs σ args) (fun g l => WF prog (d + 1) g l st _)
  rw [hx, hs]
  exact ⟨_, _, h1, h st' h3 h4⟩
theorem s_callVV {f : Nat} {B B' : BC} {F : AV} {q k : Key} {u v : Nat} (hx : x.ev σ = .fn f [.p q u 0]) (hp : PuV prog f B (fun r => r = F) B') (hq : q.1 < d + 1) (hk : k.1 < d + 1) (hb : lk st.bx q = some (u, [.p k v 0])) (hB : B st.bx st.ow k v)
    (h : ∀ st' : St, B' st'.bx st'.ow k v → Fr (d + 1) k st.bx st.ow st'.bx st'.ow → WO prog d id base (i + 1) r (upO σ t F) st' K) : WO prog d id base i (⟨t, .callv x [], none⟩ :: r) σ st K := by
  refine s_one ?_
  obtain ⟨r', st', h1, rfl, h3, h4⟩ := hp (d + 1) st q u k v hq hk hb hB
  show onCv (x.ev σ) (evs σ []) (fun g l => WF prog (d + 1) g l st _)
  rw [hx]
  exact ⟨_, _, h1, h st' h3 h4⟩
end
end Go.AM

/- Parts of the proof. -/
namespace Go.AM
open Go
set_option linter.unusedVariables false
set_option linter.unusedSimpArgs false
set_option maxRecDepth 4000
attribute [local irreducible] WO fillCells fillRows
def r276_0:List AI:=[oM 4 0,
 oM 5 0,
 oN 6 5,
 oF 7 12 6,
 oL 8 7,
 oM 9 1,
 oO 10 (.bslice [.s []] 1 [(0,(.t 9))]),
 oO 11 (.app 1 16 (.t 8) (.t 10)),
 oN 12 4,
 oF 13 12 12,
 oS 1 13 11]
abbrev b276:AC:=(.reg 500000 r276_0)
def pf276:AF:={ nt:=14,res:=[],body:=b276 }
def r271_0:List AI:=[oC 1 (.i .i64 0)]
def r271_1:List AI:=[oL 2 0,
 oL 3 0,
 oO 4 (.mkbf 273 [(.t 3)]),
 oO 5 (.call true 272 [(.t 2),(.t 4)]),
 oM 1 5]
abbrev b271:AC:=(.seq (.reg 0 r271_0) (.seq (.reg 1 r271_1) .ret))
def pf271:AF:={ nt:=6,res:=[.tmp 1],body:=b271 }
def r274_0:List AI:=[oC 1 (.i .i64 0)]
def r274_1:List AI:=[oL 2 0,
 oL 3 0,
 oO 4 (.mkbf 275 [(.t 3)]),
 oO 5 (.call true 272 [(.t 2),(.t 4)]),
 oM 1 5]
abbrev b274:AC:=(.seq (.reg 0 r274_0) (.seq (.reg 1 r274_1) .ret))
def pf274:AF:={ nt:=6,res:=[.tmp 1],body:=b274 }
def r273_0:List AI:=[oO 7 (.box 4 (.t 3)),
 oC 8 (.i .i64 0)]
def r273_1:List AI:=[oM 9 0,
 oN 10 9,
 oF 11 0 10,
 oF 12 2 11,
 oL 13 12,
 oF 14 0 7,
 oL 15 14,
 oO 16 (.iaL 7 (.t 13) (.t 15)),
 oF 17 0 16,
 oL 18 17,
 oM 19 0,
 oN 20 19,
 oF 21 7 20,
 oF 22 4 21,
 oL 23 22,
 oB 24 .eql (.t 18) (.t 23)]
def r273_2:List AI:=[oM 25 0,
 oM 26 1,
 oO 27 (.call false 258 [(.t 26)]),
 oB 28 .add (.t 27) (.c (.s [32])),
 oM 29 2,
 oO 30 (.call false 258 [(.t 29)]),
 oB 31 .add (.t 28) (.t 30),
 oB 32 .add (.t 31) (.c (.s [32,97,116,32])),
 oF 33 1 7,
 oL 34 33,
 oO 35 (.call false 258 [(.t 34)]),
 oB 36 .add (.t 32) (.t 35),
 oO 37 (.call true 276 [(.t 25),(.t 36)])]
def r273_3:List AI:=[oC 8 (.i .i64 0)]
abbrev c273_0:AC:=(.seq (.reg 3 r273_3) .ret)
abbrev b273:AC:=(.seq (.reg 0 r273_0) (.seq (.seq (.reg 1 r273_1) (.cond (.t 24) (.reg 2 r273_2) .skip)) c273_0))
def pf273:AF:={ nt:=38,res:=[.tmp 8],body:=b273 }
abbrev H273 (d:Nat)(st0:St)(kp:Key)(vp:Nat)(Q:AE→Sl→St→Prop)(K:Int→Dsk→Prop):Prop:=∀(σ:Sl)(st:St)(res0:Int)(b_:Dsk),σ 8 = .i .i64 res0→Dk b_ st.bx st.ow kp vp→Fr d kp st0.bx st0.ow st.bx st.ow→K res0 b_→Q .ret σ st
def T273_1 (prog:Prog)(K:Int→Dsk→Prop)(mP:Dsk):Prop:=
  K 0 mP
def T273_0 (prog:Prog)(K:Int→Dsk→Prop)(g1:Int)(k2:Int)(x3:Frm)(mP:Dsk):Prop:=
  0≤x3.func∧∃c'1:Fun,mP.image.funcs[(x3.func).toNat]? = some c'1∧(c'1.name = mP.query.name→∃r'4:List UInt8,Pus prog 258 [.i .i64 g1] (.s r'4)∧r'4.length + ([32]:List UInt8).length≤maxStr∧∃r'6:List UInt8,Pus prog 258 [.i .i64 k2] (.s r'6)∧(r'4 ++ ([32]:List UInt8)).length + r'6.length≤maxStr∧((r'4 ++ ([32]:List UInt8)) ++ r'6).length + ([32,97,116,32]:List UInt8).length≤maxStr∧∃r'8:List UInt8,Pus prog 258 [.i .i64 x3.pos] (.s r'8)∧(((r'4 ++ ([32]:List UInt8)) ++ r'6) ++ ([32,97,116,32]:List UInt8)).length + r'8.length≤maxStr∧∃b'15:Dsk,PuX prog 276 (Dk mP) [.s ((((r'4 ++ ([32]:List UInt8)) ++ r'6) ++ ([32,97,116,32]:List UInt8)) ++ r'8)] (fun r=>r = .tup []) ((Dk b'15))∧T273_1 prog K b'15)∧(¬(c'1.name = mP.query.name)→T273_1 prog K mP)
section
variable {prog:Prog}{d:Nat}{Q:AE→Sl→St→Prop}{K:Int→Dsk→Prop}{st0:St}{kp:Key}{vp:Nat}(hQ:H273 d st0 kp vp Q K)(hkp:kp.1 < d){σ:Sl}{st:St}
include hQ hkp
theorem w273_1 {mP:Dsk}(BP:Dk mP st.bx st.ow kp vp)(FR:Fr d kp st0.bx st0.ow st.bx st.ow)(h:T273_1 prog K mP):W prog d c273_0 σ st Q:=
 q_ rfl (m_ (e_ (rt_ (hQ _ _ _ _ rfl BP FR h))))
theorem w273_0 {g1 k2:Int}{x3:Frm}{mP:Dsk}(H0:σ 0 = .p kp vp 0)(H1:σ 1 = .i .i64 g1)(H2:σ 2 = .i .i64 k2)(H3:σ 3 = x3.av)(BP:Dk mP st.bx st.ow kp vp)(FR:Fr d kp st0.bx st0.ow st.bx st.ow)(h:T273_0 prog K g1 k2 x3 mP):W prog d (.seq (.reg 0 r273_0) (.seq (.seq (.reg 1 r273_1) (.cond (.t 24) (.reg 2 r273_2) .skip)) c273_0)) σ st Q:=
 q_ rfl (s_box H3 rfl (m_ (e_ (sq_ (q_ rfl (m_ (s_nilP H0 (f_ rfl (f_ rfl (s_loadD rfl (Dk.other (key_LP hkp) BP) rfl rfl (f_ rfl (l_ rfl lk_here rfl rfl (h.2.elim fun c'1 e'2=>ia_ rfl rfl h.1 e'2.1 (Fun.row_eq c'1) rfl (ff_ rfl (lf_ rfl rfl rfl (m_ (s_nilP H0 (f_ rfl (f_ rfl (s_loadD rfl (Dk.other (key_LP hkp) BP) rfl rfl (b_ rfl rfl seq_ (e_ (cs_ rfl (fun g'3=>W.reg0 rfl fun _ _=>m_ (m_ ((e'2.2.1 g'3).elim fun r'4 e'5=>ca_ (sc H1 rfl sn) e'5.1 (b_ rfl rfl (abin_cat' e'5.2.1) (m_ (e'5.2.2.elim fun r'6 e'7=>ca_ (sc H2 rfl sn) e'7.1 (b_ rfl rfl (abin_cat' e'7.2.1) (b_ rfl rfl (abin_cat' e'7.2.2.1) (f_ rfl (l_ rfl lk_here rfl rfl (e'7.2.2.2.elim fun r'8 e'9=>ca_ (sc rfl rfl sn) e'9.1 (b_ rfl rfl (abin_cat' e'9.2.1) (e'9.2.2.elim fun b'15 e'11=>cX_ (sec H0 (sec rfl sen)) e'11.1 (Nat.lt_succ_of_lt hkp) (Dk.other (key_LP hkp) BP) (fun st'12 hb'13 hf'14=>e_ (w273_1 hQ hkp hb'13 (Fr.pass (Fr.box FR) hf'14) e'11.2))))))))))))))) (fun g'3=>sk_ (w273_1 hQ hkp (Dk.other (key_LP hkp) BP) (Fr.box FR) (e'2.2.2 g'3))))))))))))))))))))))))))
end
theorem p273 {prog:Prog}(hf:prog.fn 273 = some pf273){g1:Int}{k2:Int}{x3:Frm}{mP:Dsk}{K:Int→Dsk→Prop}(h:T273_0 prog K g1 k2 x3 mP):PuXK prog 273 (Dk mP) [.i .i64 g1,.i .i64 k2,x3.av] (fun r (b_:Dsk)=>∃res0:Int,(r = .i .i64 res0)∧K res0 b_) (fun b_=>(Dk b_)):=
  PuXK.of hf rfl (fun _=>Dk.out) fun d st kp vp hkp hB=>w273_0 (st0:=st) (Q:=fun e σ st'=>(e = .normal∨e = .ret)∧∃r b_,ares σ st' pf273.res = some r∧_∧_∧Fr d kp st.bx st.ow st'.bx st'.ow) (fun σ st'   res0 b_ H8 hb hf hk=>⟨.inr rfl,.i .i64 res0,b_,by simp only [pf273,ares,aresL,H8,ares1,Option.map_some,H8],⟨res0,rfl,hk⟩,hb,hf⟩) hkp (σ:=sl0 [.p kp vp 0,.i .i64 g1,.i .i64 k2,x3.av]) rfl rfl rfl rfl hB Fr.refl h
def r270_0:List AI:=[oC 2 (.i .i64 0)]
def r270_1:List AI:=[oM 5 0,
 oN 6 5,
 oF 7 3 6,
 oF 8 3 7,
 oL 9 8,
 oO 10 (.len false (.t 9)),
 oC 11 (.i .i64 0)]
def r270_2:List AI:=[oB 12 .lss (.t 11) (.t 10)]
def r270_3:List AI:=[oM 13 11,
 oO 14 (.iaL 5 (.t 9) (.t 11)),
 oO 15 (.load 5 true (.t 14)),
 oO 4 (.alloc [.i .u8 0,.i .i64 0,.sl .full [],.sl .full [],.sl .full []]),
 oM 3 13,
 oS 5 4 15]
def r270_4:List AI:=[oF 16 0 4,
 oL 17 16,
 oB 18 .eql (.t 17) (.c (.i .u8 2)),
 oM 19 18,
 oG 20 (.fad 1 (.t 4)) 19 true,
 oG 21 (.load 1 false (.t 20)) 19 true,
 oG 22 (.mv (.t 0)) 19 true,
 oG 23 (.nilc (.t 22)) 19 true,
 oG 24 (.fad 7 (.t 23)) 19 true,
 oG 25 (.fad 3 (.t 24)) 19 true,
 oG 26 (.load 1 false (.t 25)) 19 true,
 oG 27 (.bin .eql (.t 21) (.t 26)) 19 true,
 oO 28 (.pick (.t 19) (.t 27) (.c (.b false)))]
def r270_5:List AI:=[oM 29 0,
 oM 30 3,
 oO 31 (.call false 258 [(.t 30)]),
 oB 32 .add (.c (.s [103,111,114,111,117,116,105,110,101,32])) (.t 31),
 oO 33 (.call true 276 [(.t 29),(.t 32)])]
def r270_6:List AI:=[oB 34 .add (.t 11) (.c (.i .i64 1)),
 oM 11 34]
def r270_7:List AI:=[oC 2 (.i .i64 0)]
abbrev c270_0:AC:=(.cond (.t 28) (.reg 5 r270_5) .skip)
abbrev c270_1:AC:=(.reg 6 r270_6)
abbrev l270_0:AC:=(.seq (.reg 2 r270_2) (.seq (.cond (.t 12) .skip (.exit 0)) (.seq (.block 1 (.seq (.reg 3 r270_3) (.seq (.reg 4 r270_4) c270_0))) c270_1)))
abbrev c270_3:AC:=(.seq (.reg 7 r270_7) .ret)
abbrev b270:AC:=(.seq (.reg 0 r270_0) (.seq (.seq (.reg 1 r270_1) (.block 0 (.loop l270_0))) c270_3))
def pf270:AF:={ nt:=35,res:=[.tmp 2],body:=b270 }
abbrev H270 (d:Nat)(st0:St)(kp:Key)(vp:Nat)(Q:AE→Sl→St→Prop)(K:Int→Dsk→Prop):Prop:=∀(σ:Sl)(st:St)(res0:Int)(b_:Dsk),σ 2 = .i .i64 res0→Dk b_ st.bx st.ow kp vp→Fr d kp st0.bx st0.ow st.bx st.ow→K res0 b_→Q .ret σ st
abbrev I270_0 (prog:Prog)(d:Nat)(Q:AE→Sl→St→Prop)(st0:St)(kp:Key)(vp:Nat)(t9:List Rou)(t10:Int)(t11:Int)(mP:Dsk):Prop:=
  ∀(σ:Sl)(st:St)(o_t9:Own),σ 0 = .p kp vp 0→σ 9 = .sl o_t9 (List.map Rou.row t9)→σ 10 = .i .i64 t10→σ 11 = .i .i64 t11→Dk mP st.bx st.ow kp vp→Fr d kp st0.bx st0.ow st.bx st.ow→W prog d (.loop l270_0) σ st (blockW 0 (thenW prog d c270_3 Q))
def T270_3 (prog:Prog)(K:Int→Dsk→Prop)(P0:Int→Dsk→Prop)(t9:List Rou)(t10:Int)(t11:Int)(mP:Dsk):Prop:=
  P0 (IntKind.i64.wrap (t11 + 1)) mP
def T270_2 (prog:Prog)(K:Int→Dsk→Prop)(P0:Int→Dsk→Prop)(g3:Int)(t9:List Rou)(t10:Int)(t11:Int)(t28:Bool)(mP:Dsk):Prop:=
  (t28 = true→∃r'2:List UInt8,Pus prog 258 [.i .i64 g3] (.s r'2)∧([103,111,114,111,117,116,105,110,101,32]:List UInt8).length + r'2.length≤maxStr∧∃b'9:Dsk,PuX prog 276 (Dk mP) [.s (([103,111,114,111,117,116,105,110,101,32]:List UInt8) ++ r'2)] (fun r=>r = .tup []) ((Dk b'9))∧T270_3 prog K P0 t9 t10 t11 b'9)∧(t28 = false→T270_3 prog K P0 t9 t10 t11 mP)
def T270_4 (prog:Prog)(K:Int→Dsk→Prop)(mP:Dsk):Prop:=
  K 0 mP
def T270_1 (prog:Prog)(K:Int→Dsk→Prop)(P0:Int→Dsk→Prop)(t9:List Rou)(t10:Int)(t11:Int)(mP:Dsk):Prop:=
  (t11 < t10→0≤t11∧∃c'2:Rou,t9[(t11).toNat]? = some c'2∧(c'2.status = 2→T270_2 prog K P0 t11 t9 t10 t11 (decide (c'2.key = mP.query.key)) mP)∧(¬(c'2.status = 2)→T270_2 prog K P0 t11 t9 t10 t11 false mP))∧(¬(t11 < t10)→T270_4 prog K mP)
def T270_0 (prog:Prog)(K:Int→Dsk→Prop)(mP:Dsk):Prop:=
  ∀P0:Int→Dsk→Prop,(∀(t11:Int)(mP_b:Dsk),T270_1 prog K P0 mP.state.routines (mP.state.routines.length:Int) t11 mP_b→P0 t11 mP_b)→P0 0 mP
section
variable {prog:Prog}{d:Nat}{Q:AE→Sl→St→Prop}{K:Int→Dsk→Prop}{st0:St}{kp:Key}{vp:Nat}(hQ:H270 d st0 kp vp Q K)(hkp:kp.1 < d){σ:Sl}{st:St}
include hQ hkp
theorem w270_3 {t9:List Rou}{t10 t11:Int}{mP:Dsk}{P0:Int→Dsk→Prop} (kP0 :∀(t11:Int)(mP:Dsk),P0 t11 mP→I270_0 prog d Q st0 kp vp t9 t10 t11 mP){o_t9:Own}(H0:σ 0 = .p kp vp 0)(H9:σ 9 = .sl o_t9 (List.map Rou.row t9))(H10:σ 10 = .i .i64 t10)(H11:σ 11 = .i .i64 t11)(BP:Dk mP st.bx st.ow kp vp)(FR:Fr d kp st0.bx st0.ow st.bx st.ow)(h:T270_3 prog K P0 t9 t10 t11 mP):W prog d c270_1 σ st (thenW prog d (.loop l270_0) (blockW 0 (thenW prog d c270_3 Q))):=
 W.reg0 rfl fun _ _=>b_ H11 rfl add_ (m_ (e_ (kP0 _ _ h _ _ _ H0 H9 H10 rfl BP FR)))
theorem w270_2 {g3:Int}{t9:List Rou}{t10 t11:Int}{t28:Bool}{mP:Dsk}{P0:Int→Dsk→Prop} (kP0 :∀(t11:Int)(mP:Dsk),P0 t11 mP→I270_0 prog d Q st0 kp vp t9 t10 t11 mP){o_t9:Own}(H0:σ 0 = .p kp vp 0)(H3:σ 3 = .i .i64 g3)(H9:σ 9 = .sl o_t9 (List.map Rou.row t9))(H10:σ 10 = .i .i64 t10)(H11:σ 11 = .i .i64 t11)(H28:σ 28 = .b t28)(BP:Dk mP st.bx st.ow kp vp)(FR:Fr d kp st0.bx st0.ow st.bx st.ow)(h:T270_2 prog K P0 g3 t9 t10 t11 t28 mP):W prog d c270_0 σ st (blockW 1 (thenW prog d c270_1 (thenW prog d (.loop l270_0) (blockW 0 (thenW prog d c270_3 Q))))):=
 cb_ H28 (fun g'1=>W.reg0 rfl fun _ _=>m_ (m_ ((h.1 g'1).elim fun r'2 e'3=>ca_ (sc H3 rfl sn) e'3.1 (b_ rfl rfl (abin_cat' e'3.2.1) (e'3.2.2.elim fun b'9 e'5=>cX_ (sec H0 (sec rfl sen)) e'5.1 (Nat.lt_succ_of_lt hkp) BP (fun st'6 hb'7 hf'8=>e_ (w270_3 hQ hkp kP0 H0 H9 H10 H11 hb'7 (Fr.pass FR hf'8) e'5.2))))))) (fun g'1=>sk_ (w270_3 hQ hkp kP0 H0 H9 H10 H11 BP FR (h.2 g'1)))
theorem w270_4 {mP:Dsk}(BP:Dk mP st.bx st.ow kp vp)(FR:Fr d kp st0.bx st0.ow st.bx st.ow)(h:T270_4 prog K mP):W prog d c270_3 σ st Q:=
 q_ rfl (m_ (e_ (rt_ (hQ _ _ _ _ rfl BP FR h))))
theorem w270_1 {t9:List Rou}{t10 t11:Int}{mP:Dsk}{P0:Int→Dsk→Prop} (kP0 :∀(t11:Int)(mP:Dsk),P0 t11 mP→I270_0 prog d Q st0 kp vp t9 t10 t11 mP){o_t9:Own}(H0:σ 0 = .p kp vp 0)(H9:σ 9 = .sl o_t9 (List.map Rou.row t9))(H10:σ 10 = .i .i64 t10)(H11:σ 11 = .i .i64 t11)(BP:Dk mP st.bx st.ow kp vp)(FR:Fr d kp st0.bx st0.ow st.bx st.ow)(h:T270_1 prog K P0 t9 t10 t11 mP):W prog d l270_0 σ st (thenW prog d (.loop l270_0) (blockW 0 (thenW prog d c270_3 Q))):=
 q_ rfl (b_ H11 H10 lss_ (e_ (sq_ (cs_ rfl (fun g'1=>sk_ (sq_ (bk_ (sq_ (W.reg (m_ ((h.1 g'1).2.elim fun c'2 e'3=>ia_ H9 H11 (h.1 g'1).1 e'3.1 (Rou.row_eq c'2) rfl (lf_ rfl rfl rfl (s_alloc (m_ (so_ rfl (show lk _ (d,12291) = some (_,([.i .u8 0,.i .i64 0,.sl .full (List.map Frm.row ([]:List Frm)),.sl .full (List.map Dfr.row ([]:List Dfr)),.sl .full (List.map Pan.row ([]:List Pan))]:List AV)) from lk_here) rfl rfl rfl (e_ (q_ rfl (f_ rfl (l_ rfl lk_here rfl rfl (b_ rfl rfl eql_ (s_mvB rfl (em_ (g:=19) rfl (fun g'4=>gy_ rfl (f_ rfl (gy_ rfl (l_ rfl lk_here rfl rfl (gy_ rfl (s_mv H0 (gy_ rfl (s_nilP rfl (gy_ rfl (f_ rfl (gy_ rfl (f_ rfl (gy_ rfl (s_loadD rfl (Dk.other (key_LP hkp) (Dk.other (key_LP hkp) BP)) rfl rfl (gy_ rfl (b_ rfl rfl eql_ (pt_ rfl rfl (e_ (w270_2 hQ hkp kP0 H0 H11 H9 H10 H11 rfl (Dk.other (key_LP hkp) (Dk.other (key_LP hkp) BP)) (Fr.box (Fr.box FR)) (e'3.2.1 g'4)))))))))))))))))))) (fun g'4=>gn_ (b:=false) rfl rfl (gn_ (b:=false) rfl rfl (gn_ (b:=false) rfl rfl (gn_ (b:=false) rfl rfl (gn_ (b:=false) rfl rfl (gn_ (b:=false) rfl rfl (gn_ (b:=false) rfl rfl (gn_ (b:=false) rfl rfl (pf_ rfl rfl (e_ (w270_2 hQ hkp kP0 H0 H11 H9 H10 H11 rfl (Dk.other (key_LP hkp) (Dk.other (key_LP hkp) BP)) (Fr.box (Fr.box FR)) (e'3.2.2 g'4)))))))))))))))))))))))))))))) (fun g'1=>ex_ (w270_4 hQ hkp BP FR (h.2 g'1)))))))
theorem w270_0 {mP:Dsk}(H0:σ 0 = .p kp vp 0)(BP:Dk mP st.bx st.ow kp vp)(FR:Fr d kp st0.bx st0.ow st.bx st.ow)(h:T270_0 prog K mP):W prog d (.seq (.reg 0 r270_0) (.seq (.seq (.reg 1 r270_1) (.block 0 (.loop l270_0))) c270_3)) σ st Q:=
 q_ rfl (m_ (e_ (sq_ (q_ rfl (m_ (s_nilP H0 (f_ rfl (f_ rfl (s_loadD rfl BP rfl rfl (ll_ rfl (m_ (e_ (bk_ (h (I270_0 prog d Q st0 kp vp mP.state.routines (mP.state.routines.length:Int)) (fun _ _ hb _ _ _ H0 H9 H10 H11 BP FR=>W.loop (w270_1 hQ hkp (fun _ _ x=>x) H0 H9 H10 H11 BP FR hb)) _ _ _ H0 rfl rfl rfl BP FR))))))))))))))
end
theorem p270 {prog:Prog}(hf:prog.fn 270 = some pf270){mP:Dsk}{K:Int→Dsk→Prop}(h:T270_0 prog K mP):PuXK prog 270 (Dk mP) [] (fun r (b_:Dsk)=>∃res0:Int,(r = .i .i64 res0)∧K res0 b_) (fun b_=>(Dk b_)):=
  PuXK.of hf rfl (fun _=>Dk.out) fun d st kp vp hkp hB=>w270_0 (st0:=st) (Q:=fun e σ st'=>(e = .normal∨e = .ret)∧∃r b_,ares σ st' pf270.res = some r∧_∧_∧Fr d kp st.bx st.ow st'.bx st'.ow) (fun σ st'   res0 b_ H2 hb hf hk=>⟨.inr rfl,.i .i64 res0,b_,by simp only [pf270,ares,aresL,H2,ares1,Option.map_some,H2],⟨res0,rfl,hk⟩,hb,hf⟩) hkp (σ:=sl0 [.p kp vp 0]) rfl hB Fr.refl h
def r269_0:List AI:=[oC 2 (.i .i64 0)]
def r269_1:List AI:=[oM 7 0,
 oN 8 7,
 oF 9 3 8,
 oF 10 3 9,
 oL 11 10,
 oO 12 (.len false (.t 11)),
 oC 13 (.i .i64 0)]
def r269_2:List AI:=[oB 14 .lss (.t 13) (.t 12)]
def r269_3:List AI:=[oM 15 13,
 oO 16 (.iaL 5 (.t 11) (.t 13)),
 oO 17 (.load 5 true (.t 16)),
 oO 4 (.alloc [.i .u8 0,.i .i64 0,.sl .full [],.sl .full [],.sl .full []]),
 oM 3 15,
 oS 5 4 17]
def r269_4:List AI:=[oM 19 0,
 oN 20 19,
 oF 21 0 20,
 oO 22 (.load 3 true (.t 21)),
 oM 23 3,
 oO 24 (.load 5 true (.t 4)),
 oO 25 (.call false 207 [(.t 22),(.t 23),(.t 24)]),
 oM 18 25,
 oE 26 0 18,
 oE 27 1 18,
 oM 5 26,
 oM 6 27]
def r269_5:List AI:=[oM 28 6,
 oB 29 .neq (.t 28) (.c (.i .i64 0))]
def r269_6:List AI:=[oM 30 6,
 oM 2 30]
def r269_7:List AI:=[oM 31 0,
 oM 32 5,
 oO 33 (.iaL 1 (.t 32) (.c (.i .i64 0))),
 oL 34 33,
 oO 35 (.call true 276 [(.t 31),(.t 34)])]
def r269_8:List AI:=[oB 36 .add (.t 13) (.c (.i .i64 1)),
 oM 13 36]
def r269_9:List AI:=[oC 2 (.i .i64 0)]
abbrev l269_0:AC:=(.seq (.reg 2 r269_2) (.seq (.cond (.t 14) .skip (.exit 0)) (.seq (.block 1 (.seq (.reg 3 r269_3) (.seq (.reg 4 r269_4) (.seq (.seq (.reg 5 r269_5) (.cond (.t 29) (.seq (.reg 6 r269_6) .ret) .skip)) (.reg 7 r269_7))))) (.reg 8 r269_8))))
abbrev c269_1:AC:=(.seq (.reg 9 r269_9) .ret)
abbrev b269:AC:=(.seq (.reg 0 r269_0) (.seq (.seq (.reg 1 r269_1) (.block 0 (.loop l269_0))) c269_1))
def pf269:AF:={ nt:=37,res:=[.tmp 2],body:=b269 }
abbrev H269 (d:Nat)(st0:St)(kp:Key)(vp:Nat)(Q:AE→Sl→St→Prop)(K:Int→Dsk→Prop):Prop:=∀(σ:Sl)(st:St)(res0:Int)(b_:Dsk),σ 2 = .i .i64 res0→Dk b_ st.bx st.ow kp vp→Fr d kp st0.bx st0.ow st.bx st.ow→K res0 b_→Q .ret σ st
abbrev I269_0 (prog:Prog)(d:Nat)(Q:AE→Sl→St→Prop)(st0:St)(kp:Key)(vp:Nat)(t11:List Rou)(t12:Int)(t13:Int)(mP:Dsk):Prop:=
  ∀(σ:Sl)(st:St)(o_t11:Own),σ 0 = .p kp vp 0→σ 11 = .sl o_t11 (List.map Rou.row t11)→σ 12 = .i .i64 t12→σ 13 = .i .i64 t13→Dk mP st.bx st.ow kp vp→Fr d kp st0.bx st0.ow st.bx st.ow→W prog d (.loop l269_0) σ st (blockW 0 (thenW prog d c269_1 Q))
def T269_2 (prog:Prog)(K:Int→Dsk→Prop)(mP:Dsk):Prop:=
  K 0 mP
def T269_1 (prog:Prog)(K:Int→Dsk→Prop)(P0:Int→Dsk→Prop)(t11:List Rou)(t12:Int)(t13:Int)(mP:Dsk):Prop:=
  (t13 < t12→0≤t13∧∃c'2:Rou,t11[(t13).toNat]? = some c'2∧∃r'4:List (List UInt8),∃r'5:Int,Pus prog 207 [mP.image.av,.i .i64 t13,c'2.av] (.tup [.sl .ext (List.map rowS r'4),.i .i64 r'5])∧(r'5≠0→K r'5 mP)∧(¬(r'5≠0)→∃c'8:List UInt8,r'4[0]? = some c'8∧∃b'15:Dsk,PuX prog 276 (Dk mP) [.s c'8] (fun r=>r = .tup []) ((Dk b'15))∧P0 (IntKind.i64.wrap (t13 + 1)) b'15))∧(¬(t13 < t12)→T269_2 prog K mP)
def T269_0 (prog:Prog)(K:Int→Dsk→Prop)(mP:Dsk):Prop:=
  ∀P0:Int→Dsk→Prop,(∀(t13:Int)(mP_b:Dsk),T269_1 prog K P0 mP.state.routines (mP.state.routines.length:Int) t13 mP_b→P0 t13 mP_b)→P0 0 mP
section
variable {prog:Prog}{d:Nat}{Q:AE→Sl→St→Prop}{K:Int→Dsk→Prop}{st0:St}{kp:Key}{vp:Nat}(hQ:H269 d st0 kp vp Q K)(hkp:kp.1 < d){σ:Sl}{st:St}
include hQ hkp
theorem w269_2 {mP:Dsk}(BP:Dk mP st.bx st.ow kp vp)(FR:Fr d kp st0.bx st0.ow st.bx st.ow)(h:T269_2 prog K mP):W prog d c269_1 σ st Q:=
 q_ rfl (m_ (e_ (rt_ (hQ _ _ _ _ rfl BP FR h))))
theorem w269_1 {t11:List Rou}{t12 t13:Int}{mP:Dsk}{P0:Int→Dsk→Prop} (kP0 :∀(t13:Int)(mP:Dsk),P0 t13 mP→I269_0 prog d Q st0 kp vp t11 t12 t13 mP){o_t11:Own}(H0:σ 0 = .p kp vp 0)(H11:σ 11 = .sl o_t11 (List.map Rou.row t11))(H12:σ 12 = .i .i64 t12)(H13:σ 13 = .i .i64 t13)(BP:Dk mP st.bx st.ow kp vp)(FR:Fr d kp st0.bx st0.ow st.bx st.ow)(h:T269_1 prog K P0 t11 t12 t13 mP):W prog d l269_0 σ st (thenW prog d (.loop l269_0) (blockW 0 (thenW prog d c269_1 Q))):=
 q_ rfl (b_ H13 H12 lss_ (e_ (sq_ (cs_ rfl (fun g'1=>sk_ (sq_ (bk_ (sq_ (W.reg (m_ ((h.1 g'1).2.elim fun c'2 e'3=>ia_ H11 H13 (h.1 g'1).1 e'3.1 (Rou.row_eq c'2) rfl (lf_ rfl rfl rfl (s_alloc (m_ (so_ rfl (show lk _ (d,12291) = some (_,([.i .u8 0,.i .i64 0,.sl .full (List.map Frm.row ([]:List Frm)),.sl .full (List.map Dfr.row ([]:List Dfr)),.sl .full (List.map Pan.row ([]:List Pan))]:List AV)) from lk_here) rfl rfl rfl (e_ (q_ rfl (m_ (s_nilP H0 (f_ rfl (s_loadD rfl (Dk.other (key_LP hkp) (Dk.other (key_LP hkp) BP)) rfl rfl (m_ (l_ rfl lk_here rfl rfl (e'3.2.elim fun r'4 e'16=>e'16.elim fun r'5 e'6=>ca_ (sc rfl rfl (sc H13 rfl (sc rfl rfl sn))) e'6.1 (m_ (x_ rfl rfl (x_ rfl rfl (s_mvL rfl (m_ (e_ (sq_ (q_ rfl (m_ (b_ rfl rfl neq_ (e_ (cs_ rfl (fun g'7=>q_ rfl (m_ (m_ (e_ (rt_ (hQ _ _ _ _ rfl (Dk.other (key_LP hkp) (Dk.other (key_LP hkp) BP)) (Fr.box (Fr.box FR)) (e'6.2.1 g'7))))))) (fun g'7=>sk_ (W.reg0 rfl fun _ _=>m_ (s_mvL rfl ((e'6.2.2 g'7).elim fun c'8 e'9=>ia_ rfl rfl (by decide) e'9.1 rfl rfl (lf_ rfl rfl rfl (e'9.2.elim fun b'15 e'11=>cX_ (sec H0 (sec rfl sen)) e'11.1 (Nat.lt_succ_of_lt hkp) (Dk.other (key_LP hkp) (Dk.other (key_LP hkp) BP)) (fun st'12 hb'13 hf'14=>e_ (W.reg0 rfl fun _ _=>b_ H13 rfl add_ (m_ (e_ (kP0 _ _ e'11.2 _ _ _ H0 H11 H12 rfl hb'13 (Fr.pass (Fr.box (Fr.box FR)) hf'14)))))))))))))))))))))))))))))))))))))))))))) (fun g'1=>ex_ (w269_2 hQ hkp BP FR (h.2 g'1)))))))
theorem w269_0 {mP:Dsk}(H0:σ 0 = .p kp vp 0)(BP:Dk mP st.bx st.ow kp vp)(FR:Fr d kp st0.bx st0.ow st.bx st.ow)(h:T269_0 prog K mP):W prog d (.seq (.reg 0 r269_0) (.seq (.seq (.reg 1 r269_1) (.block 0 (.loop l269_0))) c269_1)) σ st Q:=
 q_ rfl (m_ (e_ (sq_ (q_ rfl (m_ (s_nilP H0 (f_ rfl (f_ rfl (s_loadD rfl BP rfl rfl (ll_ rfl (m_ (e_ (bk_ (h (I269_0 prog d Q st0 kp vp mP.state.routines (mP.state.routines.length:Int)) (fun _ _ hb _ _ _ H0 H11 H12 H13 BP FR=>W.loop (w269_1 hQ hkp (fun _ _ x=>x) H0 H11 H12 H13 BP FR hb)) _ _ _ H0 rfl rfl rfl BP FR))))))))))))))
end
theorem p269 {prog:Prog}(hf:prog.fn 269 = some pf269){mP:Dsk}{K:Int→Dsk→Prop}(h:T269_0 prog K mP):PuXK prog 269 (Dk mP) [] (fun r (b_:Dsk)=>∃res0:Int,(r = .i .i64 res0)∧K res0 b_) (fun b_=>(Dk b_)):=
  PuXK.of hf rfl (fun _=>Dk.out) fun d st kp vp hkp hB=>w269_0 (st0:=st) (Q:=fun e σ st'=>(e = .normal∨e = .ret)∧∃r b_,ares σ st' pf269.res = some r∧_∧_∧Fr d kp st.bx st.ow st'.bx st'.ow) (fun σ st'   res0 b_ H2 hb hf hk=>⟨.inr rfl,.i .i64 res0,b_,by simp only [pf269,ares,aresL,H2,ares1,Option.map_some,H2],⟨res0,rfl,hk⟩,hb,hf⟩) hkp (σ:=sl0 [.p kp vp 0]) rfl hB Fr.refl h
def r275_0:List AI:=[oO 7 (.box 4 (.t 3)),
 oC 8 (.i .i64 0)]
def r275_1:List AI:=[oF 13 3 7,
 oL 14 13,
 oO 15 (.len false (.t 14)),
 oC 16 (.i .i64 0)]
def r275_2:List AI:=[oB 17 .lss (.t 16) (.t 15)]
def r275_3:List AI:=[oO 18 (.iaL 6 (.t 14) (.t 16)),
 oO 19 (.load 6 true (.t 18)),
 oO 10 (.alloc [.i .i64 0,.i .u8 0,.i .i64 0,.s [],.sl .full [],.b false]),
 oS 6 10 19]
def r275_4:List AI:=[oM 20 0,
 oN 21 20,
 oF 22 0 21,
 oF 23 2 22,
 oL 24 23,
 oF 25 0 7,
 oL 26 25,
 oO 27 (.iaL 7 (.t 24) (.t 26)),
 oF 28 3 27,
 oL 29 28,
 oF 30 0 10,
 oL 31 30,
 oO 32 (.iaL 2 (.t 29) (.t 31)),
 oF 33 0 32,
 oL 34 33,
 oM 35 0,
 oN 36 35,
 oF 37 7 36,
 oF 38 4 37,
 oL 39 38,
 oB 40 .neq (.t 34) (.t 39)]
def r275_5:List AI:=[oF 42 1 10,
 oO 43 (.load 5 true (.t 42)),
 oO 44 (.call false 72 [(.t 43)]),
 oM 41 44,
 oE 45 0 41,
 oE 46 1 41,
 oM 11 45,
 oM 12 46]
def r275_6:List AI:=[oM 47 12,
 oB 48 .neq (.t 47) (.c (.i .i64 0))]
def r275_7:List AI:=[oM 49 12,
 oM 8 49]
def r275_8:List AI:=[oM 50 0,
 oM 51 1,
 oO 52 (.call false 258 [(.t 51)]),
 oB 53 .add (.t 52) (.c (.s [32])),
 oM 54 2,
 oO 55 (.call false 258 [(.t 54)]),
 oB 56 .add (.t 53) (.t 55),
 oB 57 .add (.t 56) (.c (.s [32])),
 oF 58 0 10,
 oL 59 58,
 oO 60 (.call false 258 [(.t 59)]),
 oB 61 .add (.t 57) (.t 60),
 oB 62 .add (.t 61) (.c (.s [32,61,32])),
 oM 63 11,
 oB 64 .add (.t 62) (.t 63),
 oO 65 (.call true 276 [(.t 50),(.t 64)])]
def r275_9:List AI:=[oB 66 .add (.t 16) (.c (.i .i64 1)),
 oM 16 66]
def r275_10:List AI:=[oC 8 (.i .i64 0)]
abbrev c275_0:AC:=(.reg 9 r275_9)
abbrev l275_0:AC:=(.seq (.reg 2 r275_2) (.seq (.cond (.t 17) .skip (.exit 0)) (.seq (.block 1 (.seq (.reg 3 r275_3) (.seq (.seq (.reg 4 r275_4) (.cond (.t 40) (.exit 1) .skip)) (.seq (.reg 5 r275_5) (.seq (.seq (.reg 6 r275_6) (.cond (.t 48) (.seq (.reg 7 r275_7) .ret) .skip)) (.reg 8 r275_8)))))) c275_0)))
abbrev c275_2:AC:=(.seq (.reg 10 r275_10) .ret)
abbrev c275_3:AC:=(.seq (.seq (.reg 1 r275_1) (.block 0 (.loop l275_0))) c275_2)
abbrev b275:AC:=(.seq (.reg 0 r275_0) c275_3)
def pf275:AF:={ nt:=67,res:=[.tmp 8],body:=b275 }
abbrev H275 (d:Nat)(st0:St)(kp:Key)(vp:Nat)(Q:AE→Sl→St→Prop)(K:Int→Dsk→Prop):Prop:=∀(σ:Sl)(st:St)(res0:Int)(b_:Dsk),σ 8 = .i .i64 res0→Dk b_ st.bx st.ow kp vp→Fr d kp st0.bx st0.ow st.bx st.ow→K res0 b_→Q .ret σ st
abbrev I275_0 (prog:Prog)(d:Nat)(Q:AE→Sl→St→Prop)(st0:St)(kp:Key)(vp:Nat)(g1:Int)(k2:Int)(t14:List Loc)(t15:Int)(t16:Int)(m0:Frm)(mP:Dsk):Prop:=
  ∀(σ:Sl)(st:St)(o_t14:Own)(v0:Nat),σ 0 = .p kp vp 0→σ 1 = .i .i64 g1→σ 2 = .i .i64 k2→σ 7 = .p (d,0) v0 0→σ 14 = .sl o_t14 (List.map Loc.row t14)→σ 15 = .i .i64 t15→σ 16 = .i .i64 t16→lk st.bx (d,0) = some (v0,[.i .i64 m0.func,.i .i64 m0.pos,.i .u64 m0.mode,.sl .ext (List.map Loc.row m0.locals)])→Dk mP st.bx st.ow kp vp→Fr d kp st0.bx st0.ow st.bx st.ow→W prog d (.loop l275_0) σ st (blockW 0 (thenW prog d c275_2 Q))
def T275_3 (prog:Prog)(K:Int→Dsk→Prop)(P0:Int→Frm→Dsk→Prop)(g1:Int)(k2:Int)(t14:List Loc)(t15:Int)(t16:Int)(m0:Frm)(mP:Dsk):Prop:=
  P0 (IntKind.i64.wrap (t16 + 1)) m0 mP
def T275_4 (prog:Prog)(K:Int→Dsk→Prop)(mP:Dsk):Prop:=
  K 0 mP
def T275_2 (prog:Prog)(K:Int→Dsk→Prop)(P0:Int→Frm→Dsk→Prop)(g1:Int)(k2:Int)(t14:List Loc)(t15:Int)(t16:Int)(m0:Frm)(mP:Dsk):Prop:=
  (t16 < t15→0≤t16∧∃c'2:Loc,t14[(t16).toNat]? = some c'2∧0≤m0.func∧∃c'4:Fun,mP.image.funcs[(m0.func).toNat]? = some c'4∧0≤c'2.slot∧∃c'6:Fld,c'4.slots[(c'2.slot).toNat]? = some c'6∧(c'6.name≠mP.query.name→T275_3 prog K P0 g1 k2 t14 t15 t16 m0 mP)∧(¬(c'6.name≠mP.query.name)→∃r'9:List UInt8,∃r'10:Int,Pus prog 72 [c'2.value.av] (.tup [.s r'9,.i .i64 r'10])∧(r'10≠0→K r'10 mP)∧(¬(r'10≠0)→∃r'13:List UInt8,Pus prog 258 [.i .i64 g1] (.s r'13)∧r'13.length + ([32]:List UInt8).length≤maxStr∧∃r'15:List UInt8,Pus prog 258 [.i .i64 k2] (.s r'15)∧(r'13 ++ ([32]:List UInt8)).length + r'15.length≤maxStr∧((r'13 ++ ([32]:List UInt8)) ++ r'15).length + ([32]:List UInt8).length≤maxStr∧∃r'17:List UInt8,Pus prog 258 [.i .i64 c'2.slot] (.s r'17)∧(((r'13 ++ ([32]:List UInt8)) ++ r'15) ++ ([32]:List UInt8)).length + r'17.length≤maxStr∧((((r'13 ++ ([32]:List UInt8)) ++ r'15) ++ ([32]:List UInt8)) ++ r'17).length + ([32,61,32]:List UInt8).length≤maxStr∧(((((r'13 ++ ([32]:List UInt8)) ++ r'15) ++ ([32]:List UInt8)) ++ r'17) ++ ([32,61,32]:List UInt8)).length + r'9.length≤maxStr∧∃b'24:Dsk,PuX prog 276 (Dk mP) [.s ((((((r'13 ++ ([32]:List UInt8)) ++ r'15) ++ ([32]:List UInt8)) ++ r'17) ++ ([32,61,32]:List UInt8)) ++ r'9)] (fun r=>r = .tup []) ((Dk b'24))∧T275_3 prog K P0 g1 k2 t14 t15 t16 m0 b'24)))∧(¬(t16 < t15)→T275_4 prog K mP)
def T275_1 (prog:Prog)(K:Int→Dsk→Prop)(g1:Int)(k2:Int)(m0:Frm)(mP:Dsk):Prop:=
  ∀P0:Int→Frm→Dsk→Prop,(∀(t16:Int)(m0_b:Frm)(mP:Dsk),T275_2 prog K P0 g1 k2 m0.locals (m0.locals.length:Int) t16 m0_b mP→P0 t16 m0_b mP)→P0 0 m0 mP
def T275_0 (prog:Prog)(K:Int→Dsk→Prop)(g1:Int)(k2:Int)(x3:Frm)(mP:Dsk):Prop:=
  T275_1 prog K g1 k2 x3 mP
section
variable {prog:Prog}{d:Nat}{Q:AE→Sl→St→Prop}{K:Int→Dsk→Prop}{st0:St}{kp:Key}{vp:Nat}(hQ:H275 d st0 kp vp Q K)(hkp:kp.1 < d){σ:Sl}{st:St}
include hQ hkp
theorem w275_3 {g1 k2:Int}{t14:List Loc}{t15 t16:Int}{m0:Frm}{mP:Dsk}{P0:Int→Frm→Dsk→Prop} (kP0 :∀(t16:Int)(m0:Frm)(mP:Dsk),P0 t16 m0 mP→I275_0 prog d Q st0 kp vp g1 k2 t14 t15 t16 m0 mP){o_t14:Own}{v0:Nat}(H0:σ 0 = .p kp vp 0)(H1:σ 1 = .i .i64 g1)(H2:σ 2 = .i .i64 k2)(H7:σ 7 = .p (d,0) v0 0)(H14:σ 14 = .sl o_t14 (List.map Loc.row t14))(H15:σ 15 = .i .i64 t15)(H16:σ 16 = .i .i64 t16)(B0:lk st.bx (d,0) = some (v0,[.i .i64 m0.func,.i .i64 m0.pos,.i .u64 m0.mode,.sl .ext (List.map Loc.row m0.locals)]))(BP:Dk mP st.bx st.ow kp vp)(FR:Fr d kp st0.bx st0.ow st.bx st.ow)(h:T275_3 prog K P0 g1 k2 t14 t15 t16 m0 mP):W prog d c275_0 σ st (thenW prog d (.loop l275_0) (blockW 0 (thenW prog d c275_2 Q))):=
 W.reg0 rfl fun _ _=>b_ H16 rfl add_ (m_ (e_ (kP0 _ _ _ h _ _ _ _ H0 H1 H2 H7 H14 H15 rfl B0 BP FR)))
theorem w275_4 {mP:Dsk}(BP:Dk mP st.bx st.ow kp vp)(FR:Fr d kp st0.bx st0.ow st.bx st.ow)(h:T275_4 prog K mP):W prog d c275_2 σ st Q:=
 q_ rfl (m_ (e_ (rt_ (hQ _ _ _ _ rfl BP FR h))))
theorem w275_2 {g1 k2:Int}{t14:List Loc}{t15 t16:Int}{m0:Frm}{mP:Dsk}{P0:Int→Frm→Dsk→Prop} (kP0 :∀(t16:Int)(m0:Frm)(mP:Dsk),P0 t16 m0 mP→I275_0 prog d Q st0 kp vp g1 k2 t14 t15 t16 m0 mP){o_t14:Own}{v0:Nat}(H0:σ 0 = .p kp vp 0)(H1:σ 1 = .i .i64 g1)(H2:σ 2 = .i .i64 k2)(H7:σ 7 = .p (d,0) v0 0)(H14:σ 14 = .sl o_t14 (List.map Loc.row t14))(H15:σ 15 = .i .i64 t15)(H16:σ 16 = .i .i64 t16)(B0:lk st.bx (d,0) = some (v0,[.i .i64 m0.func,.i .i64 m0.pos,.i .u64 m0.mode,.sl .ext (List.map Loc.row m0.locals)]))(BP:Dk mP st.bx st.ow kp vp)(FR:Fr d kp st0.bx st0.ow st.bx st.ow)(h:T275_2 prog K P0 g1 k2 t14 t15 t16 m0 mP):W prog d l275_0 σ st (thenW prog d (.loop l275_0) (blockW 0 (thenW prog d c275_2 Q))):=
 q_ rfl (b_ H16 H15 lss_ (e_ (sq_ (cs_ rfl (fun g'1=>sk_ (sq_ (bk_ (sq_ (W.reg ((h.1 g'1).2.elim fun c'2 e'3=>ia_ H14 H16 (h.1 g'1).1 e'3.1 (Loc.row_eq c'2) rfl (lf_ rfl rfl rfl (s_alloc (so_ rfl (show lk _ (d,12290) = some (_,([.i .i64 0,.i .u8 0,.i .i64 0,.s [],.sl .full (List.map Val.row ([]:List Val)),.b false]:List AV)) from lk_here) rfl rfl rfl (e_ (sq_ (q_ rfl (m_ (s_nilP H0 (f_ rfl (f_ rfl (s_loadD rfl (Dk.other (key_LP hkp) (Dk.other (key_LP hkp) BP)) rfl rfl (f_ H7 (l_ rfl (lk_other rfl (lk_other rfl B0)) rfl rfl (e'3.2.2.elim fun c'4 e'5=>ia_ rfl rfl e'3.2.1 e'5.1 (Fun.row_eq c'4) rfl (ff_ rfl (lf_ rfl rfl rfl (f_ rfl (l_ rfl lk_here rfl rfl (e'5.2.2.elim fun c'6 e'7=>ia_ rfl rfl e'5.2.1 e'7.1 (Fld.row_eq c'6) rfl (ff_ rfl (lf_ rfl rfl rfl (m_ (s_nilP H0 (f_ rfl (f_ rfl (s_loadD rfl (Dk.other (key_LP hkp) (Dk.other (key_LP hkp) BP)) rfl rfl (b_ rfl rfl sne_ (e_ (cs_ rfl (fun g'8=>ex_ (w275_3 hQ hkp kP0 H0 H1 H2 H7 H14 H15 H16 (lk_other rfl (lk_other rfl B0)) (Dk.other (key_LP hkp) (Dk.other (key_LP hkp) BP)) (Fr.box (Fr.box FR)) (e'7.2.1 g'8))) (fun g'8=>sk_ (q_ rfl (f_ rfl (l_ rfl lk_here rfl rfl ((e'7.2.2 g'8).elim fun r'9 e'25=>e'25.elim fun r'10 e'11=>ca_ (sc rfl rfl sn) e'11.1 (m_ (x_ rfl rfl (x_ rfl rfl (m_ (m_ (e_ (sq_ (q_ rfl (m_ (b_ rfl rfl neq_ (e_ (cs_ rfl (fun g'12=>q_ rfl (m_ (m_ (e_ (rt_ (hQ _ _ _ _ rfl (Dk.other (key_LP hkp) (Dk.other (key_LP hkp) BP)) (Fr.box (Fr.box FR)) (e'11.2.1 g'12))))))) (fun g'12=>sk_ (W.reg0 rfl fun _ _=>m_ (m_ ((e'11.2.2 g'12).elim fun r'13 e'14=>ca_ (sc H1 rfl sn) e'14.1 (b_ rfl rfl (abin_cat' e'14.2.1) (m_ (e'14.2.2.elim fun r'15 e'16=>ca_ (sc H2 rfl sn) e'16.1 (b_ rfl rfl (abin_cat' e'16.2.1) (b_ rfl rfl (abin_cat' e'16.2.2.1) (f_ rfl (l_ rfl lk_here rfl rfl (e'16.2.2.2.elim fun r'17 e'18=>ca_ (sc rfl rfl sn) e'18.1 (b_ rfl rfl (abin_cat' e'18.2.1) (b_ rfl rfl (abin_cat' e'18.2.2.1) (m_ (b_ rfl rfl (abin_cat' e'18.2.2.2.1) (e'18.2.2.2.2.elim fun b'24 e'20=>cX_ (sec H0 (sec rfl sen)) e'20.1 (Nat.lt_succ_of_lt hkp) (Dk.other (key_LP hkp) (Dk.other (key_LP hkp) BP)) (fun st'21 hb'22 hf'23=>e_ (w275_3 hQ hkp kP0 H0 H1 H2 H7 H14 H15 H16 ((hf'23.1 (d,0) (Nat.lt_succ_self d) (key_LP hkp)).trans (lk_other rfl (lk_other rfl B0))) hb'22 (Fr.pass (Fr.box (Fr.box FR)) hf'23) e'20.2))))))))))))))))))))))))))))))))))))))))))))))))))))))))))))))))))))))) (fun g'1=>ex_ (w275_4 hQ hkp BP FR (h.2 g'1)))))))
theorem w275_1 {g1 k2:Int}{m0:Frm}{mP:Dsk}{v0:Nat}(H0:σ 0 = .p kp vp 0)(H1:σ 1 = .i .i64 g1)(H2:σ 2 = .i .i64 k2)(H7:σ 7 = .p (d,0) v0 0)(B0:lk st.bx (d,0) = some (v0,[.i .i64 m0.func,.i .i64 m0.pos,.i .u64 m0.mode,.sl .ext (List.map Loc.row m0.locals)]))(BP:Dk mP st.bx st.ow kp vp)(FR:Fr d kp st0.bx st0.ow st.bx st.ow)(h:T275_1 prog K g1 k2 m0 mP):W prog d c275_3 σ st Q:=
 sq_ (q_ rfl (f_ H7 (l_ rfl B0 rfl rfl (ll_ rfl (m_ (e_ (bk_ (h (I275_0 prog d Q st0 kp vp g1 k2 m0.locals (m0.locals.length:Int)) (fun _ _ _ hb _ _ _ _ H0 H1 H2 H7 H14 H15 H16 B0 BP FR=>W.loop (w275_2 hQ hkp (fun _ _ _ x=>x) H0 H1 H2 H7 H14 H15 H16 B0 BP FR hb)) _ _ _ _ H0 H1 H2 H7 rfl rfl rfl B0 BP FR))))))))
theorem w275_0 {g1 k2:Int}{x3:Frm}{mP:Dsk}(H0:σ 0 = .p kp vp 0)(H1:σ 1 = .i .i64 g1)(H2:σ 2 = .i .i64 k2)(H3:σ 3 = x3.av)(BP:Dk mP st.bx st.ow kp vp)(FR:Fr d kp st0.bx st0.ow st.bx st.ow)(h:T275_0 prog K g1 k2 x3 mP):W prog d (.seq (.reg 0 r275_0) c275_3) σ st Q:=
 q_ rfl (s_box H3 rfl (m_ (e_ (w275_1 hQ hkp H0 H1 H2 rfl lk_here (Dk.other (key_LP hkp) BP) (Fr.box FR) h))))
end
theorem p275 {prog:Prog}(hf:prog.fn 275 = some pf275){g1:Int}{k2:Int}{x3:Frm}{mP:Dsk}{K:Int→Dsk→Prop}(h:T275_0 prog K g1 k2 x3 mP):PuXK prog 275 (Dk mP) [.i .i64 g1,.i .i64 k2,x3.av] (fun r (b_:Dsk)=>∃res0:Int,(r = .i .i64 res0)∧K res0 b_) (fun b_=>(Dk b_)):=
  PuXK.of hf rfl (fun _=>Dk.out) fun d st kp vp hkp hB=>w275_0 (st0:=st) (Q:=fun e σ st'=>(e = .normal∨e = .ret)∧∃r b_,ares σ st' pf275.res = some r∧_∧_∧Fr d kp st.bx st.ow st'.bx st'.ow) (fun σ st'   res0 b_ H8 hb hf hk=>⟨.inr rfl,.i .i64 res0,b_,by simp only [pf275,ares,aresL,H8,ares1,Option.map_some,H8],⟨res0,rfl,hk⟩,hb,hf⟩) hkp (σ:=sl0 [.p kp vp 0,.i .i64 g1,.i .i64 k2,x3.av]) rfl rfl rfl rfl hB Fr.refl h
end Go.AM

/- Parts of the proof. -/
namespace Go.AM
open Go
set_option linter.unusedVariables false
set_option linter.unusedSimpArgs false
set_option maxRecDepth 4000
attribute [local irreducible] WO fillCells fillRows
def r272_0:List AI:=[oC 4 (.i .i64 0)]
def r272_1:List AI:=[oM 10 0,
 oN 11 10,
 oF 12 3 11,
 oF 13 3 12,
 oL 14 13,
 oO 15 (.len false (.t 14)),
 oC 16 (.i .i64 0)]
def r272_2:List AI:=[oB 17 .lss (.t 16) (.t 15)]
def r272_3:List AI:=[oM 18 16,
 oO 19 (.iaL 5 (.t 14) (.t 16)),
 oO 20 (.load 5 true (.t 19)),
 oO 6 (.alloc [.i .u8 0,.i .i64 0,.sl .full [],.sl .full [],.sl .full []]),
 oM 5 18,
 oS 5 6 20]
def r272_4:List AI:=[oF 21 2 6,
 oL 22 21,
 oO 23 (.len false (.t 22)),
 oC 24 (.i .i64 0)]
def r272_5:List AI:=[oB 25 .lss (.t 24) (.t 23)]
def r272_6:List AI:=[oM 26 24,
 oO 27 (.iaL 4 (.t 22) (.t 24)),
 oO 28 (.load 4 true (.t 27)),
 oO 8 (.alloc [.i .i64 0,.i .i64 0,.i .u64 0,.sl .full []]),
 oM 7 26,
 oS 4 8 28]
def r272_7:List AI:=[oM 29 1,
 oM 30 5,
 oM 31 7,
 oO 32 (.load 4 true (.t 8)),
 oO 33 (.callv (.t 29) [(.t 30),(.t 31),(.t 32)]),
 oM 9 33]
def r272_8:List AI:=[oM 34 9,
 oB 35 .neq (.t 34) (.c (.i .i64 0))]
def r272_9:List AI:=[oM 36 9,
 oM 4 36]
def r272_10:List AI:=[oB 37 .add (.t 24) (.c (.i .i64 1)),
 oM 24 37]
def r272_11:List AI:=[oB 38 .add (.t 16) (.c (.i .i64 1)),
 oM 16 38]
def r272_12:List AI:=[oC 4 (.i .i64 0)]
abbrev l272_1:AC:=(.seq (.reg 5 r272_5) (.seq (.cond (.t 25) .skip (.exit 2)) (.seq (.block 3 (.seq (.reg 6 r272_6) (.seq (.reg 7 r272_7) (.seq (.reg 8 r272_8) (.cond (.t 35) (.seq (.reg 9 r272_9) .ret) .skip))))) (.reg 10 r272_10))))
abbrev c272_1:AC:=(.reg 11 r272_11)
abbrev l272_0:AC:=(.seq (.reg 2 r272_2) (.seq (.cond (.t 17) .skip (.exit 0)) (.seq (.block 1 (.seq (.reg 3 r272_3) (.seq (.reg 4 r272_4) (.block 2 (.loop l272_1))))) c272_1)))
abbrev c272_3:AC:=(.seq (.reg 12 r272_12) .ret)
abbrev b272:AC:=(.seq (.reg 0 r272_0) (.seq (.seq (.reg 1 r272_1) (.block 0 (.loop l272_0))) c272_3))
def pf272:AF:={ nt:=39,res:=[.tmp 4],body:=b272 }
abbrev H272 (d:Nat)(st0:St)(kp:Key)(vp:Nat)(Q:AE→Sl→St→Prop)(K:Int→Dsk→Prop):Prop:=∀(σ:Sl)(st:St)(res0:Int)(b_:Dsk),σ 4 = .i .i64 res0→Dk b_ st.bx st.ow kp vp→Fr d kp st0.bx st0.ow st.bx st.ow→K res0 b_→Q .ret σ st
abbrev I272_0 (prog:Prog)(d:Nat)(Q:AE→Sl→St→Prop)(st0:St)(kp:Key)(vp:Nat)(t14:List Rou)(t15:Int)(t16:Int)(mP:Dsk):Prop:=
  ∀(σ:Sl)(st:St)(o_t14:Own),σ 1 = .bf 273 [.p kp vp 0]→σ 14 = .sl o_t14 (List.map Rou.row t14)→σ 15 = .i .i64 t15→σ 16 = .i .i64 t16→Dk mP st.bx st.ow kp vp→Fr d kp st0.bx st0.ow st.bx st.ow→W prog d (.loop l272_0) σ st (blockW 0 (thenW prog d c272_3 Q))
abbrev I272_1 (prog:Prog)(d:Nat)(Q:AE→Sl→St→Prop)(st0:St)(kp:Key)(vp:Nat)(g5:Int)(t14:List Rou)(t15:Int)(t16:Int)(t22:List Frm)(t23:Int)(t24:Int)(mP:Dsk):Prop:=
  ∀(σ:Sl)(st:St) (o_t14 o_t22:Own),σ 1 = .bf 273 [.p kp vp 0]→σ 5 = .i .i64 g5→σ 14 = .sl o_t14 (List.map Rou.row t14)→σ 15 = .i .i64 t15→σ 16 = .i .i64 t16→σ 22 = .sl o_t22 (List.map Frm.row t22)→σ 23 = .i .i64 t23→σ 24 = .i .i64 t24→Dk mP st.bx st.ow kp vp→Fr d kp st0.bx st0.ow st.bx st.ow→W prog d (.loop l272_1) σ st (blockW 2 (blockW 1 (thenW prog d c272_1 (thenW prog d (.loop l272_0) (blockW 0 (thenW prog d c272_3 Q))))))
def T272_3 (prog:Prog)(K:Int→Dsk→Prop)(P0:Int→Dsk→Prop)(t14:List Rou)(t15:Int)(t16:Int)(mP:Dsk):Prop:=
  P0 (IntKind.i64.wrap (t16 + 1)) mP
def T272_2 (prog:Prog)(K:Int→Dsk→Prop)(P1:Int→Dsk→Prop)(P0:Int→Dsk→Prop)(g5:Int)(t14:List Rou)(t15:Int)(t16:Int)(t22:List Frm)(t23:Int)(t24:Int)(mP:Dsk):Prop:=
  (t24 < t23→0≤t24∧∃c'2:Frm,t22[(t24).toNat]? = some c'2∧∃r'4:Int,∃b'10:Dsk,PuX prog 273 (Dk mP) [.i .i64 g5,.i .i64 t24,c'2.av] (fun r=>r = .i .i64 r'4) ((Dk b'10))∧(r'4≠0→K r'4 b'10)∧(¬(r'4≠0)→P1 (IntKind.i64.wrap (t24 + 1)) b'10))∧(¬(t24 < t23)→T272_3 prog K P0 t14 t15 t16 mP)
def T272_4 (prog:Prog)(K:Int→Dsk→Prop)(mP:Dsk):Prop:=
  K 0 mP
def T272_1 (prog:Prog)(K:Int→Dsk→Prop)(P0:Int→Dsk→Prop)(t14:List Rou)(t15:Int)(t16:Int)(mP:Dsk):Prop:=
  (t16 < t15→0≤t16∧∃c'2:Rou,t14[(t16).toNat]? = some c'2∧∀P1:Int→Dsk→Prop,(∀(t24:Int)(mP:Dsk),T272_2 prog K P1 P0 t16 t14 t15 t16 c'2.frames (c'2.frames.length:Int) t24 mP→P1 t24 mP)→P1 0 mP)∧(¬(t16 < t15)→T272_4 prog K mP)
def T272_0 (prog:Prog)(K:Int→Dsk→Prop)(mP:Dsk):Prop:=
  ∀P0:Int→Dsk→Prop,(∀(t16:Int)(mP_b:Dsk),T272_1 prog K P0 mP.state.routines (mP.state.routines.length:Int) t16 mP_b→P0 t16 mP_b)→P0 0 mP
section
variable {prog:Prog}{d:Nat}{Q:AE→Sl→St→Prop}{K:Int→Dsk→Prop}{st0:St}{kp:Key}{vp:Nat}(hQ:H272 d st0 kp vp Q K)(hkp:kp.1 < d){σ:Sl}{st:St}
include hQ hkp
theorem w272_3 {t14:List Rou}{t15 t16:Int}{mP:Dsk}{P0:Int→Dsk→Prop} (kP0 :∀(t16:Int)(mP:Dsk),P0 t16 mP→I272_0 prog d Q st0 kp vp t14 t15 t16 mP){o_t14:Own}(H1:σ 1 = .bf 273 [.p kp vp 0])(H14:σ 14 = .sl o_t14 (List.map Rou.row t14))(H15:σ 15 = .i .i64 t15)(H16:σ 16 = .i .i64 t16)(BP:Dk mP st.bx st.ow kp vp)(FR:Fr d kp st0.bx st0.ow st.bx st.ow)(h:T272_3 prog K P0 t14 t15 t16 mP):W prog d c272_1 σ st (thenW prog d (.loop l272_0) (blockW 0 (thenW prog d c272_3 Q))):=
 W.reg0 rfl fun _ _=>b_ H16 rfl add_ (m_ (e_ (kP0 _ _ h _ _ _ H1 H14 H15 rfl BP FR)))
theorem w272_2 {g5:Int}{t14:List Rou}{t15 t16:Int}{t22:List Frm}{t23 t24:Int}{mP:Dsk}{P1:Int→Dsk→Prop}{P0:Int→Dsk→Prop} (kP1 :∀(t24:Int)(mP:Dsk),P1 t24 mP→I272_1 prog d Q st0 kp vp g5 t14 t15 t16 t22 t23 t24 mP) (kP0 :∀(t16:Int)(mP:Dsk),P0 t16 mP→I272_0 prog d Q st0 kp vp t14 t15 t16 mP){o_t14 o_t22:Own}(H1:σ 1 = .bf 273 [.p kp vp 0])(H5:σ 5 = .i .i64 g5)(H14:σ 14 = .sl o_t14 (List.map Rou.row t14))(H15:σ 15 = .i .i64 t15)(H16:σ 16 = .i .i64 t16)(H22:σ 22 = .sl o_t22 (List.map Frm.row t22))(H23:σ 23 = .i .i64 t23)(H24:σ 24 = .i .i64 t24)(BP:Dk mP st.bx st.ow kp vp)(FR:Fr d kp st0.bx st0.ow st.bx st.ow)(h:T272_2 prog K P1 P0 g5 t14 t15 t16 t22 t23 t24 mP):W prog d l272_1 σ st (thenW prog d (.loop l272_1) (blockW 2 (blockW 1 (thenW prog d c272_1 (thenW prog d (.loop l272_0) (blockW 0 (thenW prog d c272_3 Q))))))):=
 q_ rfl (b_ H24 H23 lss_ (e_ (sq_ (cs_ rfl (fun g'1=>sk_ (sq_ (bk_ (sq_ (W.reg (m_ ((h.1 g'1).2.elim fun c'2 e'3=>ia_ H22 H24 (h.1 g'1).1 e'3.1 (Frm.row_eq c'2) rfl (lf_ rfl rfl rfl (s_alloc (m_ (so_ rfl (show lk _ (d,24579) = some (_,([.i .i64 0,.i .i64 0,.i .u64 0,.sl .full (List.map Loc.row ([]:List Loc))]:List AV)) from lk_here) rfl rfl rfl (e_ (q_ rfl (m_ (m_ (m_ (l_ rfl lk_here rfl rfl (e'3.2.elim fun r'4 e'12=>e'12.elim fun b'10 e'6=>s_callB H1 (sec H5 (sec H24 (sec rfl sen))) e'6.1 (Nat.lt_succ_of_lt hkp) (Dk.other (key_LP hkp) (Dk.other (key_LP hkp) BP)) (fun st'7 hb'8 hf'9=>m_ (e_ (q_ rfl (m_ (b_ rfl rfl neq_ (e_ (cs_ rfl (fun g'11=>q_ rfl (m_ (m_ (e_ (rt_ (hQ _ _ _ _ rfl hb'8 (Fr.pass (Fr.box (Fr.box FR)) hf'9) (e'6.2.1 g'11))))))) (fun g'11=>sk_ (W.reg0 rfl fun _ _=>b_ H24 rfl add_ (m_ (e_ (kP1 _ _ (e'6.2.2 g'11) _ _ _ _ H1 H5 H14 H15 H16 H22 H23 rfl hb'8 (Fr.pass (Fr.box (Fr.box FR)) hf'9))))))))))))))))))))))))))))))) (fun g'1=>ex_ (w272_3 hQ hkp kP0 H1 H14 H15 H16 BP FR (h.2 g'1)))))))
theorem w272_4 {mP:Dsk}(BP:Dk mP st.bx st.ow kp vp)(FR:Fr d kp st0.bx st0.ow st.bx st.ow)(h:T272_4 prog K mP):W prog d c272_3 σ st Q:=
 q_ rfl (m_ (e_ (rt_ (hQ _ _ _ _ rfl BP FR h))))
theorem w272_1 {t14:List Rou}{t15 t16:Int}{mP:Dsk}{P0:Int→Dsk→Prop} (kP0 :∀(t16:Int)(mP:Dsk),P0 t16 mP→I272_0 prog d Q st0 kp vp t14 t15 t16 mP){o_t14:Own}(H1:σ 1 = .bf 273 [.p kp vp 0])(H14:σ 14 = .sl o_t14 (List.map Rou.row t14))(H15:σ 15 = .i .i64 t15)(H16:σ 16 = .i .i64 t16)(BP:Dk mP st.bx st.ow kp vp)(FR:Fr d kp st0.bx st0.ow st.bx st.ow)(h:T272_1 prog K P0 t14 t15 t16 mP):W prog d l272_0 σ st (thenW prog d (.loop l272_0) (blockW 0 (thenW prog d c272_3 Q))):=
 q_ rfl (b_ H16 H15 lss_ (e_ (sq_ (cs_ rfl (fun g'1=>sk_ (sq_ (bk_ (sq_ (W.reg (m_ ((h.1 g'1).2.elim fun c'2 e'3=>ia_ H14 H16 (h.1 g'1).1 e'3.1 (Rou.row_eq c'2) rfl (lf_ rfl rfl rfl (s_alloc (m_ (so_ rfl (show lk _ (d,12291) = some (_,([.i .u8 0,.i .i64 0,.sl .full (List.map Frm.row ([]:List Frm)),.sl .full (List.map Dfr.row ([]:List Dfr)),.sl .full (List.map Pan.row ([]:List Pan))]:List AV)) from lk_here) rfl rfl rfl (e_ (q_ rfl (f_ rfl (l_ rfl lk_here rfl rfl (ll_ rfl (m_ (e_ (bk_ (e'3.2 (I272_1 prog d Q st0 kp vp t16 t14 t15 t16 c'2.frames (c'2.frames.length:Int)) (fun _ _ hb _ _ _ _ H1 H5 H14 H15 H16 H22 H23 H24 BP FR=>W.loop (w272_2 hQ hkp (fun _ _ x=>x) kP0 H1 H5 H14 H15 H16 H22 H23 H24 BP FR hb)) _ _ _ _ H1 H16 H14 H15 H16 rfl rfl rfl (Dk.other (key_LP hkp) (Dk.other (key_LP hkp) BP)) (Fr.box (Fr.box FR)))))))))))))))))))))) (fun g'1=>ex_ (w272_4 hQ hkp BP FR (h.2 g'1)))))))
theorem w272_0 {mP:Dsk}(H0:σ 0 = .p kp vp 0)(H1:σ 1 = .bf 273 [.p kp vp 0])(BP:Dk mP st.bx st.ow kp vp)(FR:Fr d kp st0.bx st0.ow st.bx st.ow)(h:T272_0 prog K mP):W prog d (.seq (.reg 0 r272_0) (.seq (.seq (.reg 1 r272_1) (.block 0 (.loop l272_0))) c272_3)) σ st Q:=
 q_ rfl (m_ (e_ (sq_ (q_ rfl (m_ (s_nilP H0 (f_ rfl (f_ rfl (s_loadD rfl BP rfl rfl (ll_ rfl (m_ (e_ (bk_ (h (I272_0 prog d Q st0 kp vp mP.state.routines (mP.state.routines.length:Int)) (fun _ _ hb _ _ _ H1 H14 H15 H16 BP FR=>W.loop (w272_1 hQ hkp (fun _ _ x=>x) H1 H14 H15 H16 BP FR hb)) _ _ _ H1 rfl rfl rfl BP FR))))))))))))))
end
theorem p272 {prog:Prog}(hf:prog.fn 272 = some pf272){mP:Dsk}{K:Int→Dsk→Prop}(h:T272_0 prog K mP):PuXFK prog 272 (Dk mP) (fun kp vp=>[.bf 273 [.p kp vp 0]]) (fun r (b_:Dsk)=>∃res0:Int,(r = .i .i64 res0)∧K res0 b_) (fun b_=>(Dk b_)):=
  PuXFK.of hf (fun _ _=>rfl) (fun _=>Dk.out) fun d st kp vp hkp hB=>w272_0 (st0:=st) (Q:=fun e σ st'=>(e = .normal∨e = .ret)∧∃r b_,ares σ st' pf272.res = some r∧_∧_∧Fr d kp st.bx st.ow st'.bx st'.ow) (fun σ st'   res0 b_ H4 hb hf hk=>⟨.inr rfl,.i .i64 res0,b_,by simp only [pf272,ares,aresL,H4,ares1,Option.map_some,H4],⟨res0,rfl,hk⟩,hb,hf⟩) hkp (σ:=sl0 [.p kp vp 0,.bf 273 [.p kp vp 0]]) rfl rfl hB Fr.refl h
end Go.AM

/- Parts of the proof. -/
namespace Go.AM.SlotV
open Go
set_option linter.unusedVariables false
set_option linter.unusedSimpArgs false
set_option maxRecDepth 4000
attribute [local irreducible] WO fillCells fillRows
def r272_0:List AI:=[oC 4 (.i .i64 0)]
def r272_1:List AI:=[oM 10 0,
 oN 11 10,
 oF 12 3 11,
 oF 13 3 12,
 oL 14 13,
 oO 15 (.len false (.t 14)),
 oC 16 (.i .i64 0)]
def r272_2:List AI:=[oB 17 .lss (.t 16) (.t 15)]
def r272_3:List AI:=[oM 18 16,
 oO 19 (.iaL 5 (.t 14) (.t 16)),
 oO 20 (.load 5 true (.t 19)),
 oO 6 (.alloc [.i .u8 0,.i .i64 0,.sl .full [],.sl .full [],.sl .full []]),
 oM 5 18,
 oS 5 6 20]
def r272_4:List AI:=[oF 21 2 6,
 oL 22 21,
 oO 23 (.len false (.t 22)),
 oC 24 (.i .i64 0)]
def r272_5:List AI:=[oB 25 .lss (.t 24) (.t 23)]
def r272_6:List AI:=[oM 26 24,
 oO 27 (.iaL 4 (.t 22) (.t 24)),
 oO 28 (.load 4 true (.t 27)),
 oO 8 (.alloc [.i .i64 0,.i .i64 0,.i .u64 0,.sl .full []]),
 oM 7 26,
 oS 4 8 28]
def r272_7:List AI:=[oM 29 1,
 oM 30 5,
 oM 31 7,
 oO 32 (.load 4 true (.t 8)),
 oO 33 (.callv (.t 29) [(.t 30),(.t 31),(.t 32)]),
 oM 9 33]
def r272_8:List AI:=[oM 34 9,
 oB 35 .neq (.t 34) (.c (.i .i64 0))]
def r272_9:List AI:=[oM 36 9,
 oM 4 36]
def r272_10:List AI:=[oB 37 .add (.t 24) (.c (.i .i64 1)),
 oM 24 37]
def r272_11:List AI:=[oB 38 .add (.t 16) (.c (.i .i64 1)),
 oM 16 38]
def r272_12:List AI:=[oC 4 (.i .i64 0)]
abbrev l272_1:AC:=(.seq (.reg 5 r272_5) (.seq (.cond (.t 25) .skip (.exit 2)) (.seq (.block 3 (.seq (.reg 6 r272_6) (.seq (.reg 7 r272_7) (.seq (.reg 8 r272_8) (.cond (.t 35) (.seq (.reg 9 r272_9) .ret) .skip))))) (.reg 10 r272_10))))
abbrev c272_1:AC:=(.reg 11 r272_11)
abbrev l272_0:AC:=(.seq (.reg 2 r272_2) (.seq (.cond (.t 17) .skip (.exit 0)) (.seq (.block 1 (.seq (.reg 3 r272_3) (.seq (.reg 4 r272_4) (.block 2 (.loop l272_1))))) c272_1)))
abbrev c272_3:AC:=(.seq (.reg 12 r272_12) .ret)
abbrev b272:AC:=(.seq (.reg 0 r272_0) (.seq (.seq (.reg 1 r272_1) (.block 0 (.loop l272_0))) c272_3))
def pf272:AF:={ nt:=39,res:=[.tmp 4],body:=b272 }
abbrev H272 (d:Nat)(st0:St)(kp:Key)(vp:Nat)(Q:AE→Sl→St→Prop)(K:Int→Dsk→Prop):Prop:=∀(σ:Sl)(st:St)(res0:Int)(b_:Dsk),σ 4 = .i .i64 res0→Dk b_ st.bx st.ow kp vp→Fr d kp st0.bx st0.ow st.bx st.ow→K res0 b_→Q .ret σ st
abbrev I272_0 (prog:Prog)(d:Nat)(Q:AE→Sl→St→Prop)(st0:St)(kp:Key)(vp:Nat)(t14:List Rou)(t15:Int)(t16:Int)(mP:Dsk):Prop:=
  ∀(σ:Sl)(st:St)(o_t14:Own),σ 1 = .bf 275 [.p kp vp 0]→σ 14 = .sl o_t14 (List.map Rou.row t14)→σ 15 = .i .i64 t15→σ 16 = .i .i64 t16→Dk mP st.bx st.ow kp vp→Fr d kp st0.bx st0.ow st.bx st.ow→W prog d (.loop l272_0) σ st (blockW 0 (thenW prog d c272_3 Q))
abbrev I272_1 (prog:Prog)(d:Nat)(Q:AE→Sl→St→Prop)(st0:St)(kp:Key)(vp:Nat)(g5:Int)(t14:List Rou)(t15:Int)(t16:Int)(t22:List Frm)(t23:Int)(t24:Int)(mP:Dsk):Prop:=
  ∀(σ:Sl)(st:St) (o_t14 o_t22:Own),σ 1 = .bf 275 [.p kp vp 0]→σ 5 = .i .i64 g5→σ 14 = .sl o_t14 (List.map Rou.row t14)→σ 15 = .i .i64 t15→σ 16 = .i .i64 t16→σ 22 = .sl o_t22 (List.map Frm.row t22)→σ 23 = .i .i64 t23→σ 24 = .i .i64 t24→Dk mP st.bx st.ow kp vp→Fr d kp st0.bx st0.ow st.bx st.ow→W prog d (.loop l272_1) σ st (blockW 2 (blockW 1 (thenW prog d c272_1 (thenW prog d (.loop l272_0) (blockW 0 (thenW prog d c272_3 Q))))))
def T272_3 (prog:Prog)(K:Int→Dsk→Prop)(P0:Int→Dsk→Prop)(t14:List Rou)(t15:Int)(t16:Int)(mP:Dsk):Prop:=
  P0 (IntKind.i64.wrap (t16 + 1)) mP
def T272_2 (prog:Prog)(K:Int→Dsk→Prop)(P1:Int→Dsk→Prop)(P0:Int→Dsk→Prop)(g5:Int)(t14:List Rou)(t15:Int)(t16:Int)(t22:List Frm)(t23:Int)(t24:Int)(mP:Dsk):Prop:=
  (t24 < t23→0≤t24∧∃c'2:Frm,t22[(t24).toNat]? = some c'2∧∃r'4:Int,∃b'10:Dsk,PuX prog 275 (Dk mP) [.i .i64 g5,.i .i64 t24,c'2.av] (fun r=>r = .i .i64 r'4) ((Dk b'10))∧(r'4≠0→K r'4 b'10)∧(¬(r'4≠0)→P1 (IntKind.i64.wrap (t24 + 1)) b'10))∧(¬(t24 < t23)→T272_3 prog K P0 t14 t15 t16 mP)
def T272_4 (prog:Prog)(K:Int→Dsk→Prop)(mP:Dsk):Prop:=
  K 0 mP
def T272_1 (prog:Prog)(K:Int→Dsk→Prop)(P0:Int→Dsk→Prop)(t14:List Rou)(t15:Int)(t16:Int)(mP:Dsk):Prop:=
  (t16 < t15→0≤t16∧∃c'2:Rou,t14[(t16).toNat]? = some c'2∧∀P1:Int→Dsk→Prop,(∀(t24:Int)(mP:Dsk),T272_2 prog K P1 P0 t16 t14 t15 t16 c'2.frames (c'2.frames.length:Int) t24 mP→P1 t24 mP)→P1 0 mP)∧(¬(t16 < t15)→T272_4 prog K mP)
def T272_0 (prog:Prog)(K:Int→Dsk→Prop)(mP:Dsk):Prop:=
  ∀P0:Int→Dsk→Prop,(∀(t16:Int)(mP_b:Dsk),T272_1 prog K P0 mP.state.routines (mP.state.routines.length:Int) t16 mP_b→P0 t16 mP_b)→P0 0 mP
section
variable {prog:Prog}{d:Nat}{Q:AE→Sl→St→Prop}{K:Int→Dsk→Prop}{st0:St}{kp:Key}{vp:Nat}(hQ:H272 d st0 kp vp Q K)(hkp:kp.1 < d){σ:Sl}{st:St}
include hQ hkp
theorem w272_3 {t14:List Rou}{t15 t16:Int}{mP:Dsk}{P0:Int→Dsk→Prop} (kP0 :∀(t16:Int)(mP:Dsk),P0 t16 mP→I272_0 prog d Q st0 kp vp t14 t15 t16 mP){o_t14:Own}(H1:σ 1 = .bf 275 [.p kp vp 0])(H14:σ 14 = .sl o_t14 (List.map Rou.row t14))(H15:σ 15 = .i .i64 t15)(H16:σ 16 = .i .i64 t16)(BP:Dk mP st.bx st.ow kp vp)(FR:Fr d kp st0.bx st0.ow st.bx st.ow)(h:T272_3 prog K P0 t14 t15 t16 mP):W prog d c272_1 σ st (thenW prog d (.loop l272_0) (blockW 0 (thenW prog d c272_3 Q))):=
 W.reg0 rfl fun _ _=>b_ H16 rfl add_ (m_ (e_ (kP0 _ _ h _ _ _ H1 H14 H15 rfl BP FR)))
theorem w272_2 {g5:Int}{t14:List Rou}{t15 t16:Int}{t22:List Frm}{t23 t24:Int}{mP:Dsk}{P1:Int→Dsk→Prop}{P0:Int→Dsk→Prop} (kP1 :∀(t24:Int)(mP:Dsk),P1 t24 mP→I272_1 prog d Q st0 kp vp g5 t14 t15 t16 t22 t23 t24 mP) (kP0 :∀(t16:Int)(mP:Dsk),P0 t16 mP→I272_0 prog d Q st0 kp vp t14 t15 t16 mP){o_t14 o_t22:Own}(H1:σ 1 = .bf 275 [.p kp vp 0])(H5:σ 5 = .i .i64 g5)(H14:σ 14 = .sl o_t14 (List.map Rou.row t14))(H15:σ 15 = .i .i64 t15)(H16:σ 16 = .i .i64 t16)(H22:σ 22 = .sl o_t22 (List.map Frm.row t22))(H23:σ 23 = .i .i64 t23)(H24:σ 24 = .i .i64 t24)(BP:Dk mP st.bx st.ow kp vp)(FR:Fr d kp st0.bx st0.ow st.bx st.ow)(h:T272_2 prog K P1 P0 g5 t14 t15 t16 t22 t23 t24 mP):W prog d l272_1 σ st (thenW prog d (.loop l272_1) (blockW 2 (blockW 1 (thenW prog d c272_1 (thenW prog d (.loop l272_0) (blockW 0 (thenW prog d c272_3 Q))))))):=
 q_ rfl (b_ H24 H23 lss_ (e_ (sq_ (cs_ rfl (fun g'1=>sk_ (sq_ (bk_ (sq_ (W.reg (m_ ((h.1 g'1).2.elim fun c'2 e'3=>ia_ H22 H24 (h.1 g'1).1 e'3.1 (Frm.row_eq c'2) rfl (lf_ rfl rfl rfl (s_alloc (m_ (so_ rfl (show lk _ (d,24579) = some (_,([.i .i64 0,.i .i64 0,.i .u64 0,.sl .full (List.map Loc.row ([]:List Loc))]:List AV)) from lk_here) rfl rfl rfl (e_ (q_ rfl (m_ (m_ (m_ (l_ rfl lk_here rfl rfl (e'3.2.elim fun r'4 e'12=>e'12.elim fun b'10 e'6=>s_callB H1 (sec H5 (sec H24 (sec rfl sen))) e'6.1 (Nat.lt_succ_of_lt hkp) (Dk.other (key_LP hkp) (Dk.other (key_LP hkp) BP)) (fun st'7 hb'8 hf'9=>m_ (e_ (q_ rfl (m_ (b_ rfl rfl neq_ (e_ (cs_ rfl (fun g'11=>q_ rfl (m_ (m_ (e_ (rt_ (hQ _ _ _ _ rfl hb'8 (Fr.pass (Fr.box (Fr.box FR)) hf'9) (e'6.2.1 g'11))))))) (fun g'11=>sk_ (W.reg0 rfl fun _ _=>b_ H24 rfl add_ (m_ (e_ (kP1 _ _ (e'6.2.2 g'11) _ _ _ _ H1 H5 H14 H15 H16 H22 H23 rfl hb'8 (Fr.pass (Fr.box (Fr.box FR)) hf'9))))))))))))))))))))))))))))))) (fun g'1=>ex_ (w272_3 hQ hkp kP0 H1 H14 H15 H16 BP FR (h.2 g'1)))))))
theorem w272_4 {mP:Dsk}(BP:Dk mP st.bx st.ow kp vp)(FR:Fr d kp st0.bx st0.ow st.bx st.ow)(h:T272_4 prog K mP):W prog d c272_3 σ st Q:=
 q_ rfl (m_ (e_ (rt_ (hQ _ _ _ _ rfl BP FR h))))
theorem w272_1 {t14:List Rou}{t15 t16:Int}{mP:Dsk}{P0:Int→Dsk→Prop} (kP0 :∀(t16:Int)(mP:Dsk),P0 t16 mP→I272_0 prog d Q st0 kp vp t14 t15 t16 mP){o_t14:Own}(H1:σ 1 = .bf 275 [.p kp vp 0])(H14:σ 14 = .sl o_t14 (List.map Rou.row t14))(H15:σ 15 = .i .i64 t15)(H16:σ 16 = .i .i64 t16)(BP:Dk mP st.bx st.ow kp vp)(FR:Fr d kp st0.bx st0.ow st.bx st.ow)(h:T272_1 prog K P0 t14 t15 t16 mP):W prog d l272_0 σ st (thenW prog d (.loop l272_0) (blockW 0 (thenW prog d c272_3 Q))):=
 q_ rfl (b_ H16 H15 lss_ (e_ (sq_ (cs_ rfl (fun g'1=>sk_ (sq_ (bk_ (sq_ (W.reg (m_ ((h.1 g'1).2.elim fun c'2 e'3=>ia_ H14 H16 (h.1 g'1).1 e'3.1 (Rou.row_eq c'2) rfl (lf_ rfl rfl rfl (s_alloc (m_ (so_ rfl (show lk _ (d,12291) = some (_,([.i .u8 0,.i .i64 0,.sl .full (List.map Frm.row ([]:List Frm)),.sl .full (List.map Dfr.row ([]:List Dfr)),.sl .full (List.map Pan.row ([]:List Pan))]:List AV)) from lk_here) rfl rfl rfl (e_ (q_ rfl (f_ rfl (l_ rfl lk_here rfl rfl (ll_ rfl (m_ (e_ (bk_ (e'3.2 (I272_1 prog d Q st0 kp vp t16 t14 t15 t16 c'2.frames (c'2.frames.length:Int)) (fun _ _ hb _ _ _ _ H1 H5 H14 H15 H16 H22 H23 H24 BP FR=>W.loop (w272_2 hQ hkp (fun _ _ x=>x) kP0 H1 H5 H14 H15 H16 H22 H23 H24 BP FR hb)) _ _ _ _ H1 H16 H14 H15 H16 rfl rfl rfl (Dk.other (key_LP hkp) (Dk.other (key_LP hkp) BP)) (Fr.box (Fr.box FR)))))))))))))))))))))) (fun g'1=>ex_ (w272_4 hQ hkp BP FR (h.2 g'1)))))))
theorem w272_0 {mP:Dsk}(H0:σ 0 = .p kp vp 0)(H1:σ 1 = .bf 275 [.p kp vp 0])(BP:Dk mP st.bx st.ow kp vp)(FR:Fr d kp st0.bx st0.ow st.bx st.ow)(h:T272_0 prog K mP):W prog d (.seq (.reg 0 r272_0) (.seq (.seq (.reg 1 r272_1) (.block 0 (.loop l272_0))) c272_3)) σ st Q:=
 q_ rfl (m_ (e_ (sq_ (q_ rfl (m_ (s_nilP H0 (f_ rfl (f_ rfl (s_loadD rfl BP rfl rfl (ll_ rfl (m_ (e_ (bk_ (h (I272_0 prog d Q st0 kp vp mP.state.routines (mP.state.routines.length:Int)) (fun _ _ hb _ _ _ H1 H14 H15 H16 BP FR=>W.loop (w272_1 hQ hkp (fun _ _ x=>x) H1 H14 H15 H16 BP FR hb)) _ _ _ H1 rfl rfl rfl BP FR))))))))))))))
end
theorem p272 {prog:Prog}(hf:prog.fn 272 = some pf272){mP:Dsk}{K:Int→Dsk→Prop}(h:T272_0 prog K mP):PuXFK prog 272 (Dk mP) (fun kp vp=>[.bf 275 [.p kp vp 0]]) (fun r (b_:Dsk)=>∃res0:Int,(r = .i .i64 res0)∧K res0 b_) (fun b_=>(Dk b_)):=
  PuXFK.of hf (fun _ _=>rfl) (fun _=>Dk.out) fun d st kp vp hkp hB=>w272_0 (st0:=st) (Q:=fun e σ st'=>(e = .normal∨e = .ret)∧∃r b_,ares σ st' pf272.res = some r∧_∧_∧Fr d kp st.bx st.ow st'.bx st'.ow) (fun σ st'   res0 b_ H4 hb hf hk=>⟨.inr rfl,.i .i64 res0,b_,by simp only [pf272,ares,aresL,H4,ares1,Option.map_some,H4],⟨res0,rfl,hk⟩,hb,hf⟩) hkp (σ:=sl0 [.p kp vp 0,.bf 275 [.p kp vp 0]]) rfl rfl hB Fr.refl h
end Go.AM.SlotV

/- Parts of the proof. -/
namespace Go.AM
open Go
set_option linter.unusedVariables false
set_option linter.unusedSimpArgs false
set_option maxRecDepth 4000
attribute [local irreducible] WO fillCells fillRows
def r268_0:List AI:=[oC 2 (.i .i64 0)]
def r268_1:List AI:=[oM 15 0,
 oN 16 15,
 oF 17 7 16,
 oF 18 1 17,
 oL 19 18,
 oM 3 19]
def r268_2:List AI:=[oM 20 3,
 oM 21 0,
 oN 22 21,
 oF 23 3 22,
 oF 24 3 23,
 oL 25 24,
 oO 26 (.len false (.t 25)),
 oB 27 .geq (.t 20) (.t 26)]
def r268_3:List AI:=[oC 2 (.i .i64 6)]
def r268_4:List AI:=[oM 28 0,
 oN 29 28,
 oF 30 3 29,
 oF 31 3 30,
 oL 32 31,
 oM 33 3,
 oO 34 (.iaL 5 (.t 32) (.t 33)),
 oO 35 (.load 5 true (.t 34)),
 oO 4 (.alloc [.i .u8 0,.i .i64 0,.sl .full [],.sl .full [],.sl .full []]),
 oS 5 4 35]
def r268_5:List AI:=[oM 36 0,
 oN 37 36,
 oF 38 7 37,
 oF 39 0 38,
 oL 40 39,
 oB 41 .eql (.t 40) (.c (.i .u8 3)),
 oM 42 41,
 oG 43 (.mv (.t 0)) 42 true,
 oG 44 (.nilc (.t 43)) 42 true,
 oG 45 (.fad 7 (.t 44)) 42 true,
 oG 46 (.fad 2 (.t 45)) 42 true,
 oG 47 (.load 1 false (.t 46)) 42 true,
 oG 48 (.fad 2 (.t 4)) 42 true,
 oG 49 (.load 1 false (.t 48)) 42 true,
 oG 50 (.len false (.t 49)) 42 true,
 oG 51 (.bin .geq (.t 47) (.t 50)) 42 true,
 oO 52 (.pick (.t 42) (.t 51) (.c (.b false)))]
def r268_6:List AI:=[oC 2 (.i .i64 6)]
def r268_7:List AI:=[oM 54 0,
 oN 55 54,
 oF 56 0 55,
 oO 57 (.load 3 true (.t 56)),
 oM 58 3,
 oO 59 (.load 5 true (.t 4)),
 oO 60 (.call false 207 [(.t 57),(.t 58),(.t 59)]),
 oM 53 60,
 oE 61 0 53,
 oE 62 1 53,
 oM 5 61,
 oM 6 62]
def r268_8:List AI:=[oM 63 6,
 oB 64 .neq (.t 63) (.c (.i .i64 0))]
def r268_9:List AI:=[oM 65 6,
 oM 2 65]
def r268_10:List AI:=[oM 66 5,
 oO 67 (.slL 1 (.t 66) (some (.c (.i .i64 1))) none),
 oM 5 67]
def r268_11:List AI:=[oF 68 2 4,
 oL 69 68,
 oO 70 (.len false (.t 69)),
 oC 71 (.i .i64 0)]
def r268_12:List AI:=[oB 72 .lss (.t 71) (.t 70)]
def r268_13:List AI:=[oM 73 71,
 oO 74 (.iaL 4 (.t 69) (.t 71)),
 oO 75 (.load 4 true (.t 74)),
 oO 8 (.alloc [.i .i64 0,.i .i64 0,.i .u64 0,.sl .full []]),
 oM 7 73,
 oS 4 8 75]
def r268_14:List AI:=[oF 76 3 8,
 oL 77 76,
 oO 78 (.len false (.t 77)),
 oB 79 .add (.c (.i .i64 1)) (.t 78),
 oM 9 79]
def r268_15:List AI:=[oM 80 0,
 oN 81 80,
 oF 82 7 81,
 oF 83 0 82,
 oL 84 83,
 oB 85 .eql (.t 84) (.c (.i .u8 2))]
def r268_16:List AI:=[oM 86 0,
 oM 87 5,
 oO 88 (.iaL 1 (.t 87) (.c (.i .i64 0))),
 oL 89 88,
 oO 90 (.slS (.t 89) (some (.c (.i .i64 2))) none),
 oO 91 (.call true 276 [(.t 86),(.t 90)])]
def r268_17:List AI:=[oM 92 0,
 oN 93 92,
 oF 94 7 93,
 oF 95 0 94,
 oL 96 95,
 oB 97 .eql (.t 96) (.c (.i .u8 3)),
 oM 98 97,
 oG 99 (.mv (.t 0)) 98 true,
 oG 100 (.nilc (.t 99)) 98 true,
 oG 101 (.fad 7 (.t 100)) 98 true,
 oG 102 (.fad 2 (.t 101)) 98 true,
 oG 103 (.load 1 false (.t 102)) 98 true,
 oG 104 (.mv (.t 7)) 98 true,
 oG 105 (.bin .eql (.t 103) (.t 104)) 98 true,
 oO 106 (.pick (.t 98) (.t 105) (.c (.b false)))]
def r268_18:List AI:=[oM 107 5,
 oM 108 9,
 oO 109 (.slL 1 (.t 107) (some (.c (.i .i64 1))) (some (.t 108))),
 oO 110 (.len false (.t 109)),
 oC 111 (.i .i64 0)]
def r268_19:List AI:=[oB 112 .lss (.t 111) (.t 110)]
def r268_20:List AI:=[oO 113 (.iaL 1 (.t 109) (.t 111)),
 oL 114 113,
 oM 11 114]
def r268_21:List AI:=[oM 115 0,
 oM 116 11,
 oO 117 (.slS (.t 116) (some (.c (.i .i64 2))) none),
 oO 118 (.call true 276 [(.t 115),(.t 117)])]
def r268_22:List AI:=[oB 119 .add (.t 111) (.c (.i .i64 1)),
 oM 111 119]
def r268_23:List AI:=[oM 120 5,
 oM 121 9,
 oO 122 (.slL 1 (.t 120) (some (.t 121)) none),
 oM 5 122]
def r268_24:List AI:=[oB 123 .add (.t 71) (.c (.i .i64 1)),
 oM 71 123]
def r268_25:List AI:=[oF 124 3 4,
 oL 125 124,
 oO 126 (.len false (.t 125)),
 oM 12 126]
def r268_26:List AI:=[oM 127 0,
 oN 128 127,
 oF 129 7 128,
 oF 130 0 129,
 oL 131 130]
def r268_27:List AI:=[oB 133 .eql (.t 131) (.c (.i .u8 4)),
 oM 132 133]
def r268_28:List AI:=[oM 134 5,
 oM 135 12,
 oO 136 (.slL 1 (.t 134) none (some (.t 135))),
 oM 5 136]
def r268_29:List AI:=[oB 138 .eql (.t 131) (.c (.i .u8 5)),
 oM 137 138]
def r268_30:List AI:=[oM 139 5,
 oM 140 12,
 oO 141 (.slL 1 (.t 139) (some (.t 140)) none),
 oM 5 141]
def r268_31:List AI:=[oC 5 (.sl .full [])]
def r268_32:List AI:=[oM 142 5,
 oO 143 (.len false (.t 142)),
 oC 144 (.i .i64 0)]
def r268_33:List AI:=[oB 145 .lss (.t 144) (.t 143)]
def r268_34:List AI:=[oO 146 (.iaL 1 (.t 142) (.t 144)),
 oL 147 146,
 oM 14 147]
def r268_35:List AI:=[oM 148 0,
 oM 149 14,
 oO 150 (.slS (.t 149) (some (.c (.i .i64 2))) none),
 oO 151 (.call true 276 [(.t 148),(.t 150)])]
def r268_36:List AI:=[oB 152 .add (.t 144) (.c (.i .i64 1)),
 oM 144 152]
def r268_37:List AI:=[oC 2 (.i .i64 0)]
abbrev l268_1:AC:=(.seq (.reg 19 r268_19) (.seq (.cond (.t 112) .skip (.exit 2)) (.seq (.block 3 (.seq (.reg 20 r268_20) (.reg 21 r268_21))) (.reg 22 r268_22))))
abbrev c268_1:AC:=(.cond (.t 106) (.seq (.reg 18 r268_18) (.block 2 (.loop l268_1))) .skip)
abbrev c268_2:AC:=(.reg 23 r268_23)
abbrev c268_3:AC:=(.seq (.seq (.reg 17 r268_17) c268_1) c268_2)
abbrev c268_4:AC:=(.reg 24 r268_24)
abbrev l268_0:AC:=(.seq (.reg 12 r268_12) (.seq (.cond (.t 72) .skip (.exit 0)) (.seq (.block 1 (.seq (.reg 13 r268_13) (.seq (.reg 14 r268_14) (.seq (.seq (.reg 15 r268_15) (.cond (.t 85) (.reg 16 r268_16) .skip)) c268_3)))) c268_4)))
abbrev l268_2:AC:=(.seq (.reg 33 r268_33) (.seq (.cond (.t 145) .skip (.exit 5)) (.seq (.block 6 (.seq (.reg 34 r268_34) (.reg 35 r268_35))) (.reg 36 r268_36))))
abbrev c268_7:AC:=(.seq (.reg 37 r268_37) .ret)
abbrev c268_8:AC:=(.seq (.seq (.reg 32 r268_32) (.block 5 (.loop l268_2))) c268_7)
abbrev c268_9:AC:=(.seq (.reg 25 r268_25) (.seq (.seq (.reg 26 r268_26) (.block 4 (.seq (.reg 28 r268_27) (.cond (.t 132) (.reg 29 r268_28) (.seq (.reg 30 r268_29) (.cond (.t 137) (.reg 31 r268_30) (.reg 27 r268_31))))))) c268_8))
abbrev c268_10:AC:=(.seq (.seq (.reg 11 r268_11) (.block 0 (.loop l268_0))) c268_9)
abbrev c268_11:AC:=(.seq (.reg 10 r268_10) c268_10)
abbrev c268_12:AC:=(.seq (.seq (.reg 8 r268_8) (.cond (.t 64) (.seq (.reg 9 r268_9) .ret) .skip)) c268_11)
abbrev c268_13:AC:=(.seq (.reg 7 r268_7) c268_12)
abbrev c268_14:AC:=(.seq (.seq (.reg 5 r268_5) (.cond (.t 52) (.seq (.reg 6 r268_6) .ret) .skip)) c268_13)
abbrev c268_15:AC:=(.seq (.reg 4 r268_4) c268_14)
abbrev c268_16:AC:=(.seq (.seq (.reg 2 r268_2) (.cond (.t 27) (.seq (.reg 3 r268_3) .ret) .skip)) c268_15)
abbrev c268_17:AC:=(.seq (.reg 1 r268_1) c268_16)
abbrev b268:AC:=(.seq (.reg 0 r268_0) c268_17)
def pf268:AF:={ nt:=153,res:=[.tmp 2],body:=b268 }
abbrev H268 (d:Nat)(st0:St)(kp:Key)(vp:Nat)(Q:AE→Sl→St→Prop)(K:Int→Dsk→Prop):Prop:=∀(σ:Sl)(st:St)(res0:Int)(b_:Dsk),σ 2 = .i .i64 res0→Dk b_ st.bx st.ow kp vp→Fr d kp st0.bx st0.ow st.bx st.ow→K res0 b_→Q .ret σ st
abbrev I268_0 (prog:Prog)(d:Nat)(Q:AE→Sl→St→Prop)(st0:St)(kp:Key)(vp:Nat)(t69:List Frm)(t70:Int)(l5:List (List UInt8))(t71:Int)(m16392:Rou)(mP:Dsk):Prop:=
  ∀(σ:Sl)(st:St) (o_l5 o_t69:Own)(v16392:Nat),σ 0 = .p kp vp 0→σ 4 = .p (d,16392) v16392 0→σ 5 = .sl o_l5 (List.map rowS l5)→σ 69 = .sl o_t69 (List.map Frm.row t69)→σ 70 = .i .i64 t70→σ 71 = .i .i64 t71→lk st.bx (d,16392) = some (v16392,[.i .u8 m16392.status,.i .i64 m16392.key,.sl .ext (List.map Frm.row m16392.frames),.sl .ext (List.map Dfr.row m16392.defers),.sl .ext (List.map Pan.row m16392.panics)])→Dk mP st.bx st.ow kp vp→Fr d kp st0.bx st0.ow st.bx st.ow→W prog d (.loop l268_0) σ st (blockW 0 (thenW prog d c268_9 Q))
abbrev I268_1 (prog:Prog)(d:Nat)(Q:AE→Sl→St→Prop)(st0:St)(kp:Key)(vp:Nat)(l5:List (List UInt8))(n9:Int)(t69:List Frm)(t70:Int)(t71:Int)(t109:List (List UInt8))(t110:Int)(t111:Int)(m16392:Rou)(mP:Dsk):Prop:=
  ∀(σ:Sl)(st:St) (o_l5 o_t69 o_t109:Own)(v16392:Nat),σ 0 = .p kp vp 0→σ 4 = .p (d,16392) v16392 0→σ 5 = .sl o_l5 (List.map rowS l5)→σ 9 = .i .i64 n9→σ 69 = .sl o_t69 (List.map Frm.row t69)→σ 70 = .i .i64 t70→σ 71 = .i .i64 t71→σ 109 = .sl o_t109 (List.map rowS t109)→σ 110 = .i .i64 t110→σ 111 = .i .i64 t111→lk st.bx (d,16392) = some (v16392,[.i .u8 m16392.status,.i .i64 m16392.key,.sl .ext (List.map Frm.row m16392.frames),.sl .ext (List.map Dfr.row m16392.defers),.sl .ext (List.map Pan.row m16392.panics)])→Dk mP st.bx st.ow kp vp→Fr d kp st0.bx st0.ow st.bx st.ow→W prog d (.loop l268_1) σ st (blockW 2 (thenW prog d c268_2 (blockW 1 (thenW prog d c268_4 (thenW prog d (.loop l268_0) (blockW 0 (thenW prog d c268_9 Q)))))))
def T268_14 (prog:Prog)(K:Int→Dsk→Prop)(P0:List (List UInt8)→Int→Rou→Dsk→Prop)(l5:List (List UInt8))(t69:List Frm)(t70:Int)(t71:Int)(m16392:Rou)(mP:Dsk):Prop:=
  P0 l5 (IntKind.i64.wrap (t71 + 1)) m16392 mP
def T268_13 (prog:Prog)(K:Int→Dsk→Prop)(P0:List (List UInt8)→Int→Rou→Dsk→Prop)(l5:List (List UInt8))(n9:Int)(t69:List Frm)(t70:Int)(t71:Int)(m16392:Rou)(mP:Dsk):Prop:=
  0≤n9∧(n9).toNat≤l5.length∧T268_14 prog K P0 (l5.drop (n9).toNat) t69 t70 t71 m16392 mP
def T268_12 (prog:Prog)(K:Int→Dsk→Prop)(P1:Int→Rou→Dsk→Prop)(P0:List (List UInt8)→Int→Rou→Dsk→Prop)(l5:List (List UInt8))(n9:Int)(t69:List Frm)(t70:Int)(t71:Int)(t109:List (List UInt8))(t110:Int)(t111:Int)(m16392:Rou)(mP:Dsk):Prop:=
  (t111 < t110→0≤t111∧∃c'2:List UInt8,t109[(t111).toNat]? = some c'2∧2≤c'2.length∧∃b'9:Dsk,PuX prog 276 (Dk mP) [.s (c'2.drop 2)] (fun r=>r = .tup []) ((Dk b'9))∧P1 (IntKind.i64.wrap (t111 + 1)) m16392 b'9)∧(¬(t111 < t110)→T268_13 prog K P0 l5 n9 t69 t70 t71 m16392 mP)
def T268_11 (prog:Prog)(K:Int→Dsk→Prop)(P0:List (List UInt8)→Int→Rou→Dsk→Prop)(l5:List (List UInt8))(n9:Int)(t69:List Frm)(t70:Int)(t71:Int)(t106:Bool)(m16392:Rou)(mP:Dsk):Prop:=
  (t106 = true→0≤(1:Int)∧1≤n9∧(n9).toNat≤l5.length∧∀P1:Int→Rou→Dsk→Prop,(∀(t111:Int)(m16392:Rou)(mP:Dsk),T268_12 prog K P1 P0 l5 n9 t69 t70 t71 ((l5.drop 1).take ((n9).toNat - 1)) (((l5.drop 1).take ((n9).toNat - 1)).length:Int) t111 m16392 mP→P1 t111 m16392 mP)→P1 0 m16392 mP)∧(t106 = false→T268_13 prog K P0 l5 n9 t69 t70 t71 m16392 mP)
def T268_10 (prog:Prog)(K:Int→Dsk→Prop)(P0:List (List UInt8)→Int→Rou→Dsk→Prop)(l5:List (List UInt8))(k7:Int)(n9:Int)(t69:List Frm)(t70:Int)(t71:Int)(m16392:Rou)(mP:Dsk):Prop:=
  (mP.query.kind = 3→T268_11 prog K P0 l5 n9 t69 t70 t71 (decide (mP.query.k = k7)) m16392 mP)∧(¬(mP.query.kind = 3)→T268_11 prog K P0 l5 n9 t69 t70 t71 false m16392 mP)
abbrev I268_2 (prog:Prog)(d:Nat)(Q:AE→Sl→St→Prop)(st0:St)(kp:Key)(vp:Nat)(t142:List (List UInt8))(t143:Int)(t144:Int)(mP:Dsk):Prop:=
  ∀(σ:Sl)(st:St)(o_t142:Own),σ 0 = .p kp vp 0→σ 142 = .sl o_t142 (List.map rowS t142)→σ 143 = .i .i64 t143→σ 144 = .i .i64 t144→Dk mP st.bx st.ow kp vp→Fr d kp st0.bx st0.ow st.bx st.ow→W prog d (.loop l268_2) σ st (blockW 5 (thenW prog d c268_7 Q))
def T268_18 (prog:Prog)(K:Int→Dsk→Prop)(mP:Dsk):Prop:=
  K 0 mP
def T268_17 (prog:Prog)(K:Int→Dsk→Prop)(P2:Int→Dsk→Prop)(t142:List (List UInt8))(t143:Int)(t144:Int)(mP:Dsk):Prop:=
  (t144 < t143→0≤t144∧∃c'2:List UInt8,t142[(t144).toNat]? = some c'2∧2≤c'2.length∧∃b'9:Dsk,PuX prog 276 (Dk mP) [.s (c'2.drop 2)] (fun r=>r = .tup []) ((Dk b'9))∧P2 (IntKind.i64.wrap (t144 + 1)) b'9)∧(¬(t144 < t143)→T268_18 prog K mP)
def T268_16 (prog:Prog)(K:Int→Dsk→Prop)(l5:List (List UInt8))(mP:Dsk):Prop:=
  ∀P2:Int→Dsk→Prop,(∀(t144:Int)(mP:Dsk),T268_17 prog K P2 l5 (l5.length:Int) t144 mP→P2 t144 mP)→P2 0 mP
def T268_15 (prog:Prog)(K:Int→Dsk→Prop)(l5:List (List UInt8))(m16392:Rou)(mP:Dsk):Prop:=
  (mP.query.kind = 4→0≤(m16392.defers.length:Int)∧(m16392.defers.length:Int).toNat≤l5.length∧T268_16 prog K (l5.take (m16392.defers.length:Int).toNat) mP)∧(¬(mP.query.kind = 4)→(mP.query.kind = 5→0≤(m16392.defers.length:Int)∧(m16392.defers.length:Int).toNat≤l5.length∧T268_16 prog K (l5.drop (m16392.defers.length:Int).toNat) mP)∧(¬(mP.query.kind = 5)→T268_16 prog K ([]:List (List UInt8)) mP))
def T268_9 (prog:Prog)(K:Int→Dsk→Prop)(P0:List (List UInt8)→Int→Rou→Dsk→Prop)(l5:List (List UInt8))(t69:List Frm)(t70:Int)(t71:Int)(m16392:Rou)(mP:Dsk):Prop:=
  (t71 < t70→0≤t71∧∃c'2:Frm,t69[(t71).toNat]? = some c'2∧(mP.query.kind = 2→∃c'5:List UInt8,l5[0]? = some c'5∧2≤c'5.length∧∃b'12:Dsk,PuX prog 276 (Dk mP) [.s (c'5.drop 2)] (fun r=>r = .tup []) ((Dk b'12))∧T268_10 prog K P0 l5 t71 (IntKind.i64.wrap (1 + (c'2.locals.length:Int))) t69 t70 t71 m16392 b'12)∧(¬(mP.query.kind = 2)→T268_10 prog K P0 l5 t71 (IntKind.i64.wrap (1 + (c'2.locals.length:Int))) t69 t70 t71 m16392 mP))∧(¬(t71 < t70)→T268_15 prog K l5 m16392 mP)
def T268_8 (prog:Prog)(K:Int→Dsk→Prop)(l5:List (List UInt8))(m16392:Rou)(mP:Dsk):Prop:=
  ∀P0:List (List UInt8)→Int→Rou→Dsk→Prop,(∀(l5:List (List UInt8))(t71:Int)(m16392_b:Rou)(mP:Dsk),T268_9 prog K P0 l5 m16392.frames (m16392.frames.length:Int) t71 m16392_b mP→P0 l5 t71 m16392_b mP)→P0 l5 0 m16392 mP
def T268_7 (prog:Prog)(K:Int→Dsk→Prop)(l5:List (List UInt8))(m16392:Rou)(mP:Dsk):Prop:=
  1≤l5.length∧T268_8 prog K (l5.drop 1) m16392 mP
def T268_6 (prog:Prog)(K:Int→Dsk→Prop)(l5:List (List UInt8))(e6:Int)(m16392:Rou)(mP:Dsk):Prop:=
  (e6≠0→K e6 mP)∧(¬(e6≠0)→T268_7 prog K l5 m16392 mP)
def T268_5 (prog:Prog)(K:Int→Dsk→Prop)(g3:Int)(m16392:Rou)(mP:Dsk):Prop:=
  ∃r'1:List (List UInt8),∃r'2:Int,Pus prog 207 [mP.image.av,.i .i64 g3,m16392.av] (.tup [.sl .ext (List.map rowS r'1),.i .i64 r'2])∧T268_6 prog K r'1 r'2 m16392 mP
def T268_4 (prog:Prog)(K:Int→Dsk→Prop)(g3:Int)(m16392:Rou)(mP:Dsk):Prop:=
  (mP.query.kind = 3→(mP.query.k ≥ (m16392.frames.length:Int)→K 6 mP)∧(¬(mP.query.k ≥ (m16392.frames.length:Int))→T268_5 prog K g3 m16392 mP))∧(¬(mP.query.kind = 3)→T268_5 prog K g3 m16392 mP)
def T268_3 (prog:Prog)(K:Int→Dsk→Prop)(g3:Int)(mP:Dsk):Prop:=
  0≤g3∧∃c'1:Rou,mP.state.routines[(g3).toNat]? = some c'1∧T268_4 prog K g3 c'1 mP
def T268_2 (prog:Prog)(K:Int→Dsk→Prop)(g3:Int)(mP:Dsk):Prop:=
  (g3 ≥ (mP.state.routines.length:Int)→K 6 mP)∧(¬(g3 ≥ (mP.state.routines.length:Int))→T268_3 prog K g3 mP)
def T268_1 (prog:Prog)(K:Int→Dsk→Prop)(mP:Dsk):Prop:=
  T268_2 prog K mP.query.g mP
def T268_0 (prog:Prog)(K:Int→Dsk→Prop)(mP:Dsk):Prop:=
  T268_1 prog K mP
section
variable {prog:Prog}{d:Nat}{Q:AE→Sl→St→Prop}{K:Int→Dsk→Prop}{st0:St}{kp:Key}{vp:Nat}(hQ:H268 d st0 kp vp Q K)(hkp:kp.1 < d){σ:Sl}{st:St}
include hQ hkp
theorem w268_14 {l5:List (List UInt8)}{t69:List Frm}{t70 t71:Int}{m16392:Rou}{mP:Dsk}{P0:List (List UInt8)→Int→Rou→Dsk→Prop} (kP0 :∀(l5:List (List UInt8))(t71:Int)(m16392:Rou)(mP:Dsk),P0 l5 t71 m16392 mP→I268_0 prog d Q st0 kp vp t69 t70 l5 t71 m16392 mP){o_l5 o_t69:Own}{v16392:Nat}(H0:σ 0 = .p kp vp 0)(H4:σ 4 = .p (d,16392) v16392 0)(H5:σ 5 = .sl o_l5 (List.map rowS l5))(H69:σ 69 = .sl o_t69 (List.map Frm.row t69))(H70:σ 70 = .i .i64 t70)(H71:σ 71 = .i .i64 t71)(B16392:lk st.bx (d,16392) = some (v16392,[.i .u8 m16392.status,.i .i64 m16392.key,.sl .ext (List.map Frm.row m16392.frames),.sl .ext (List.map Dfr.row m16392.defers),.sl .ext (List.map Pan.row m16392.panics)]))(BP:Dk mP st.bx st.ow kp vp)(FR:Fr d kp st0.bx st0.ow st.bx st.ow)(h:T268_14 prog K P0 l5 t69 t70 t71 m16392 mP):W prog d c268_4 σ st (thenW prog d (.loop l268_0) (blockW 0 (thenW prog d c268_9 Q))):=
 W.reg0 rfl fun _ _=>b_ H71 rfl add_ (m_ (e_ (kP0 _ _ _ _ h _ _ _ _ _ H0 H4 H5 H69 H70 rfl B16392 BP FR)))
theorem w268_13 {l5:List (List UInt8)}{n9:Int}{t69:List Frm}{t70 t71:Int}{m16392:Rou}{mP:Dsk}{P0:List (List UInt8)→Int→Rou→Dsk→Prop} (kP0 :∀(l5:List (List UInt8))(t71:Int)(m16392:Rou)(mP:Dsk),P0 l5 t71 m16392 mP→I268_0 prog d Q st0 kp vp t69 t70 l5 t71 m16392 mP){o_l5 o_t69:Own}{v16392:Nat}(H0:σ 0 = .p kp vp 0)(H4:σ 4 = .p (d,16392) v16392 0)(H5:σ 5 = .sl o_l5 (List.map rowS l5))(H9:σ 9 = .i .i64 n9)(H69:σ 69 = .sl o_t69 (List.map Frm.row t69))(H70:σ 70 = .i .i64 t70)(H71:σ 71 = .i .i64 t71)(B16392:lk st.bx (d,16392) = some (v16392,[.i .u8 m16392.status,.i .i64 m16392.key,.sl .ext (List.map Frm.row m16392.frames),.sl .ext (List.map Dfr.row m16392.defers),.sl .ext (List.map Pan.row m16392.panics)]))(BP:Dk mP st.bx st.ow kp vp)(FR:Fr d kp st0.bx st0.ow st.bx st.ow)(h:T268_13 prog K P0 l5 n9 t69 t70 t71 m16392 mP):W prog d c268_2 σ st (blockW 1 (thenW prog d c268_4 (thenW prog d (.loop l268_0) (blockW 0 (thenW prog d c268_9 Q))))):=
 W.reg0 rfl fun _ _=>s_mvL H5 (m_ (s_slL_lo rowS_len rfl H9 h.1 h.2.1 (s_mvL rfl (e_ (w268_14 hQ hkp kP0 H0 H4 rfl H69 H70 H71 B16392 BP FR h.2.2)))))
theorem w268_12 {l5:List (List UInt8)}{n9:Int}{t69:List Frm}{t70 t71:Int}{t109:List (List UInt8)}{t110 t111:Int}{m16392:Rou}{mP:Dsk}{P1:Int→Rou→Dsk→Prop}{P0:List (List UInt8)→Int→Rou→Dsk→Prop} (kP1 :∀(t111:Int)(m16392:Rou)(mP:Dsk),P1 t111 m16392 mP→I268_1 prog d Q st0 kp vp l5 n9 t69 t70 t71 t109 t110 t111 m16392 mP) (kP0 :∀(l5:List (List UInt8))(t71:Int)(m16392:Rou)(mP:Dsk),P0 l5 t71 m16392 mP→I268_0 prog d Q st0 kp vp t69 t70 l5 t71 m16392 mP){o_l5 o_t69 o_t109:Own}{v16392:Nat}(H0:σ 0 = .p kp vp 0)(H4:σ 4 = .p (d,16392) v16392 0)(H5:σ 5 = .sl o_l5 (List.map rowS l5))(H9:σ 9 = .i .i64 n9)(H69:σ 69 = .sl o_t69 (List.map Frm.row t69))(H70:σ 70 = .i .i64 t70)(H71:σ 71 = .i .i64 t71)(H109:σ 109 = .sl o_t109 (List.map rowS t109))(H110:σ 110 = .i .i64 t110)(H111:σ 111 = .i .i64 t111)(B16392:lk st.bx (d,16392) = some (v16392,[.i .u8 m16392.status,.i .i64 m16392.key,.sl .ext (List.map Frm.row m16392.frames),.sl .ext (List.map Dfr.row m16392.defers),.sl .ext (List.map Pan.row m16392.panics)]))(BP:Dk mP st.bx st.ow kp vp)(FR:Fr d kp st0.bx st0.ow st.bx st.ow)(h:T268_12 prog K P1 P0 l5 n9 t69 t70 t71 t109 t110 t111 m16392 mP):W prog d l268_1 σ st (thenW prog d (.loop l268_1) (blockW 2 (thenW prog d c268_2 (blockW 1 (thenW prog d c268_4 (thenW prog d (.loop l268_0) (blockW 0 (thenW prog d c268_9 Q)))))))):=
 q_ rfl (b_ H111 H110 lss_ (e_ (sq_ (cs_ rfl (fun g'1=>sk_ (sq_ (bk_ (q_ rfl ((h.1 g'1).2.elim fun c'2 e'3=>ia_ H109 H111 (h.1 g'1).1 e'3.1 rfl rfl (lf_ rfl rfl rfl (m_ (e_ (W.reg0 rfl fun _ _=>m_ (m_ (s_slS_lo rfl rfl (by decide) e'3.2.1 (e'3.2.2.elim fun b'9 e'5=>cX_ (sec H0 (sec rfl sen)) e'5.1 (Nat.lt_succ_of_lt hkp) BP (fun st'6 hb'7 hf'8=>e_ (W.reg0 rfl fun _ _=>b_ H111 rfl add_ (m_ (e_ (kP1 _ _ _ e'5.2 _ _ _ _ _ _ H0 H4 H5 H9 H69 H70 H71 H109 H110 rfl ((hf'8.1 (d,16392) (Nat.lt_succ_self d) (key_LP hkp)).trans B16392) hb'7 (Fr.pass FR hf'8)))))))))))))))))) (fun g'1=>ex_ (w268_13 hQ hkp kP0 H0 H4 H5 H9 H69 H70 H71 B16392 BP FR (h.2 g'1)))))))
theorem w268_11 {l5:List (List UInt8)}{n9:Int}{t69:List Frm}{t70 t71:Int}{t106:Bool}{m16392:Rou}{mP:Dsk}{P0:List (List UInt8)→Int→Rou→Dsk→Prop} (kP0 :∀(l5:List (List UInt8))(t71:Int)(m16392:Rou)(mP:Dsk),P0 l5 t71 m16392 mP→I268_0 prog d Q st0 kp vp t69 t70 l5 t71 m16392 mP){o_l5 o_t69:Own}{v16392:Nat}(H0:σ 0 = .p kp vp 0)(H4:σ 4 = .p (d,16392) v16392 0)(H5:σ 5 = .sl o_l5 (List.map rowS l5))(H9:σ 9 = .i .i64 n9)(H69:σ 69 = .sl o_t69 (List.map Frm.row t69))(H70:σ 70 = .i .i64 t70)(H71:σ 71 = .i .i64 t71)(H106:σ 106 = .b t106)(B16392:lk st.bx (d,16392) = some (v16392,[.i .u8 m16392.status,.i .i64 m16392.key,.sl .ext (List.map Frm.row m16392.frames),.sl .ext (List.map Dfr.row m16392.defers),.sl .ext (List.map Pan.row m16392.panics)]))(BP:Dk mP st.bx st.ow kp vp)(FR:Fr d kp st0.bx st0.ow st.bx st.ow)(h:T268_11 prog K P0 l5 n9 t69 t70 t71 t106 m16392 mP):W prog d c268_1 σ st (thenW prog d c268_2 (blockW 1 (thenW prog d c268_4 (thenW prog d (.loop l268_0) (blockW 0 (thenW prog d c268_9 Q)))))):=
 cb_ H106 (fun g'1=>q_ rfl (s_mvL H5 (m_ (s_slL rowS_len rfl rfl H9 (h.1 g'1).1 (h.1 g'1).2.1 (h.1 g'1).2.2.1 (ll_ rfl (m_ (e_ (bk_ ((h.1 g'1).2.2.2 (I268_1 prog d Q st0 kp vp l5 n9 t69 t70 t71 ((l5.drop 1).take ((n9).toNat - 1)) (((l5.drop 1).take ((n9).toNat - 1)).length:Int)) (fun _ _ _ hb _ _ _ _ _ _ H0 H4 H5 H9 H69 H70 H71 H109 H110 H111 B16392 BP FR=>W.loop (w268_12 hQ hkp (fun _ _ _ x=>x) kP0 H0 H4 H5 H9 H69 H70 H71 H109 H110 H111 B16392 BP FR hb)) _ _ _ _ _ _ H0 H4 H5 H9 H69 H70 H71 rfl rfl rfl B16392 BP FR))))))))) (fun g'1=>sk_ (w268_13 hQ hkp kP0 H0 H4 H5 H9 H69 H70 H71 B16392 BP FR (h.2 g'1)))
theorem w268_10 {l5:List (List UInt8)}{k7 n9:Int}{t69:List Frm}{t70 t71:Int}{m16392:Rou}{mP:Dsk}{P0:List (List UInt8)→Int→Rou→Dsk→Prop} (kP0 :∀(l5:List (List UInt8))(t71:Int)(m16392:Rou)(mP:Dsk),P0 l5 t71 m16392 mP→I268_0 prog d Q st0 kp vp t69 t70 l5 t71 m16392 mP){o_l5 o_t69:Own}{v16392:Nat}(H0:σ 0 = .p kp vp 0)(H4:σ 4 = .p (d,16392) v16392 0)(H5:σ 5 = .sl o_l5 (List.map rowS l5))(H7:σ 7 = .i .i64 k7)(H9:σ 9 = .i .i64 n9)(H69:σ 69 = .sl o_t69 (List.map Frm.row t69))(H70:σ 70 = .i .i64 t70)(H71:σ 71 = .i .i64 t71)(B16392:lk st.bx (d,16392) = some (v16392,[.i .u8 m16392.status,.i .i64 m16392.key,.sl .ext (List.map Frm.row m16392.frames),.sl .ext (List.map Dfr.row m16392.defers),.sl .ext (List.map Pan.row m16392.panics)]))(BP:Dk mP st.bx st.ow kp vp)(FR:Fr d kp st0.bx st0.ow st.bx st.ow)(h:T268_10 prog K P0 l5 k7 n9 t69 t70 t71 m16392 mP):W prog d c268_3 σ st (blockW 1 (thenW prog d c268_4 (thenW prog d (.loop l268_0) (blockW 0 (thenW prog d c268_9 Q))))):=
 sq_ (q_ rfl (s_mv H0 (s_nilP rfl (f_ rfl (f_ rfl (s_loadD rfl BP rfl rfl (b_ rfl rfl eql_ (s_mvB rfl (em_ (g:=98) rfl (fun g'1=>gy_ rfl (s_mv H0 (gy_ rfl (s_nilP rfl (gy_ rfl (f_ rfl (gy_ rfl (f_ rfl (gy_ rfl (s_loadD rfl BP rfl rfl (gy_ rfl (s_mvI H7 (gy_ rfl (b_ rfl rfl eql_ (pt_ rfl rfl (e_ (w268_11 hQ hkp kP0 H0 H4 H5 H9 H69 H70 H71 rfl B16392 BP FR (h.1 g'1)))))))))))))))))) (fun g'1=>gn_ (b:=false) rfl rfl (gn_ (b:=false) rfl rfl (gn_ (b:=false) rfl rfl (gn_ (b:=false) rfl rfl (gn_ (b:=false) rfl rfl (gn_ (b:=false) rfl rfl (gn_ (b:=false) rfl rfl (pf_ rfl rfl (e_ (w268_11 hQ hkp kP0 H0 H4 H5 H9 H69 H70 H71 rfl B16392 BP FR (h.2 g'1))))))))))))))))))))
theorem w268_18 {mP:Dsk}(BP:Dk mP st.bx st.ow kp vp)(FR:Fr d kp st0.bx st0.ow st.bx st.ow)(h:T268_18 prog K mP):W prog d c268_7 σ st Q:=
 q_ rfl (m_ (e_ (rt_ (hQ _ _ _ _ rfl BP FR h))))
theorem w268_17 {t142:List (List UInt8)}{t143 t144:Int}{mP:Dsk}{P2:Int→Dsk→Prop} (kP2 :∀(t144:Int)(mP:Dsk),P2 t144 mP→I268_2 prog d Q st0 kp vp t142 t143 t144 mP){o_t142:Own}(H0:σ 0 = .p kp vp 0)(H142:σ 142 = .sl o_t142 (List.map rowS t142))(H143:σ 143 = .i .i64 t143)(H144:σ 144 = .i .i64 t144)(BP:Dk mP st.bx st.ow kp vp)(FR:Fr d kp st0.bx st0.ow st.bx st.ow)(h:T268_17 prog K P2 t142 t143 t144 mP):W prog d l268_2 σ st (thenW prog d (.loop l268_2) (blockW 5 (thenW prog d c268_7 Q))):=
 q_ rfl (b_ H144 H143 lss_ (e_ (sq_ (cs_ rfl (fun g'1=>sk_ (sq_ (bk_ (q_ rfl ((h.1 g'1).2.elim fun c'2 e'3=>ia_ H142 H144 (h.1 g'1).1 e'3.1 rfl rfl (lf_ rfl rfl rfl (m_ (e_ (W.reg0 rfl fun _ _=>m_ (m_ (s_slS_lo rfl rfl (by decide) e'3.2.1 (e'3.2.2.elim fun b'9 e'5=>cX_ (sec H0 (sec rfl sen)) e'5.1 (Nat.lt_succ_of_lt hkp) BP (fun st'6 hb'7 hf'8=>e_ (W.reg0 rfl fun _ _=>b_ H144 rfl add_ (m_ (e_ (kP2 _ _ e'5.2 _ _ _ H0 H142 H143 rfl hb'7 (Fr.pass FR hf'8)))))))))))))))))) (fun g'1=>ex_ (w268_18 hQ hkp BP FR (h.2 g'1)))))))
theorem w268_16 {l5:List (List UInt8)}{mP:Dsk}{o_l5:Own}(H0:σ 0 = .p kp vp 0)(H5:σ 5 = .sl o_l5 (List.map rowS l5))(BP:Dk mP st.bx st.ow kp vp)(FR:Fr d kp st0.bx st0.ow st.bx st.ow)(h:T268_16 prog K l5 mP):W prog d c268_8 σ st Q:=
 sq_ (q_ rfl (s_mvL H5 (ll_ rfl (m_ (e_ (bk_ (h (I268_2 prog d Q st0 kp vp l5 (l5.length:Int)) (fun _ _ hb _ _ _ H0 H142 H143 H144 BP FR=>W.loop (w268_17 hQ hkp (fun _ _ x=>x) H0 H142 H143 H144 BP FR hb)) _ _ _ H0 rfl rfl rfl BP FR)))))))
theorem w268_15 {l5:List (List UInt8)}{m16392:Rou}{mP:Dsk}{o_l5:Own}{v16392:Nat}(H0:σ 0 = .p kp vp 0)(H4:σ 4 = .p (d,16392) v16392 0)(H5:σ 5 = .sl o_l5 (List.map rowS l5))(B16392:lk st.bx (d,16392) = some (v16392,[.i .u8 m16392.status,.i .i64 m16392.key,.sl .ext (List.map Frm.row m16392.frames),.sl .ext (List.map Dfr.row m16392.defers),.sl .ext (List.map Pan.row m16392.panics)]))(BP:Dk mP st.bx st.ow kp vp)(FR:Fr d kp st0.bx st0.ow st.bx st.ow)(h:T268_15 prog K l5 m16392 mP):W prog d c268_9 σ st Q:=
 q_ rfl (f_ H4 (l_ rfl B16392 rfl rfl (ll_ rfl (m_ (e_ (sq_ (q_ rfl (m_ (s_nilP H0 (f_ rfl (f_ rfl (s_loadD rfl BP rfl rfl (e_ (bk_ (q_ rfl (b_ rfl rfl eql_ (m_ (e_ (cs_ rfl (fun g'1=>W.reg0 rfl fun _ _=>s_mvL H5 (m_ (s_slL_hi rowS_len rfl rfl (h.1 g'1).1 (h.1 g'1).2.1 (s_mvL rfl (e_ (w268_16 hQ hkp H0 rfl BP FR (h.1 g'1).2.2)))))) (fun g'1=>q_ rfl (b_ rfl rfl eql_ (m_ (e_ (cs_ rfl (fun g'2=>W.reg0 rfl fun _ _=>s_mvL H5 (m_ (s_slL_lo rowS_len rfl rfl ((h.2 g'1).1 g'2).1 ((h.2 g'1).1 g'2).2.1 (s_mvL rfl (e_ (w268_16 hQ hkp H0 rfl BP FR ((h.2 g'1).1 g'2).2.2)))))) (fun g'2=>W.reg0 rfl fun _ _=>s_mvL (f:=rowS) (l:=[]) rfl (e_ (w268_16 hQ hkp H0 rfl BP FR ((h.2 g'1).2 g'2))))))))))))))))))))))))))))
theorem w268_9 {l5:List (List UInt8)}{t69:List Frm}{t70 t71:Int}{m16392:Rou}{mP:Dsk}{P0:List (List UInt8)→Int→Rou→Dsk→Prop} (kP0 :∀(l5:List (List UInt8))(t71:Int)(m16392:Rou)(mP:Dsk),P0 l5 t71 m16392 mP→I268_0 prog d Q st0 kp vp t69 t70 l5 t71 m16392 mP){o_l5 o_t69:Own}{v16392:Nat}(H0:σ 0 = .p kp vp 0)(H4:σ 4 = .p (d,16392) v16392 0)(H5:σ 5 = .sl o_l5 (List.map rowS l5))(H69:σ 69 = .sl o_t69 (List.map Frm.row t69))(H70:σ 70 = .i .i64 t70)(H71:σ 71 = .i .i64 t71)(B16392:lk st.bx (d,16392) = some (v16392,[.i .u8 m16392.status,.i .i64 m16392.key,.sl .ext (List.map Frm.row m16392.frames),.sl .ext (List.map Dfr.row m16392.defers),.sl .ext (List.map Pan.row m16392.panics)]))(BP:Dk mP st.bx st.ow kp vp)(FR:Fr d kp st0.bx st0.ow st.bx st.ow)(h:T268_9 prog K P0 l5 t69 t70 t71 m16392 mP):W prog d l268_0 σ st (thenW prog d (.loop l268_0) (blockW 0 (thenW prog d c268_9 Q))):=
 q_ rfl (b_ H71 H70 lss_ (e_ (sq_ (cs_ rfl (fun g'1=>sk_ (sq_ (bk_ (sq_ (W.reg (m_ ((h.1 g'1).2.elim fun c'2 e'3=>ia_ H69 H71 (h.1 g'1).1 e'3.1 (Frm.row_eq c'2) rfl (lf_ rfl rfl rfl (s_alloc (m_ (so_ rfl (show lk _ (d,53251) = some (_,([.i .i64 0,.i .i64 0,.i .u64 0,.sl .full (List.map Loc.row ([]:List Loc))]:List AV)) from lk_here) rfl rfl rfl (e_ (q_ rfl (f_ rfl (l_ rfl lk_here rfl rfl (ll_ rfl (b_ rfl rfl add_ (m_ (e_ (sq_ (q_ rfl (m_ (s_nilP H0 (f_ rfl (f_ rfl (s_loadD rfl (Dk.other (key_LP hkp) (Dk.other (key_LP hkp) BP)) rfl rfl (b_ rfl rfl eql_ (e_ (cs_ rfl (fun g'4=>W.reg0 rfl fun _ _=>m_ (s_mvL H5 ((e'3.2.1 g'4).elim fun c'5 e'6=>ia_ rfl rfl (by decide) e'6.1 rfl rfl (lf_ rfl rfl rfl (s_slS_lo rfl rfl (by decide) e'6.2.1 (e'6.2.2.elim fun b'12 e'8=>cX_ (sec H0 (sec rfl sen)) e'8.1 (Nat.lt_succ_of_lt hkp) (Dk.other (key_LP hkp) (Dk.other (key_LP hkp) BP)) (fun st'9 hb'10 hf'11=>e_ (w268_10 hQ hkp kP0 H0 H4 H5 H71 rfl H69 H70 H71 ((hf'11.1 (d,16392) (Nat.lt_succ_self d) (key_LP hkp)).trans (lk_other rfl (lk_other rfl B16392))) hb'10 (Fr.pass (Fr.box (Fr.box FR)) hf'11) e'8.2)))))))) (fun g'4=>sk_ (w268_10 hQ hkp kP0 H0 H4 H5 H71 rfl H69 H70 H71 (lk_other rfl (lk_other rfl B16392)) (Dk.other (key_LP hkp) (Dk.other (key_LP hkp) BP)) (Fr.box (Fr.box FR)) (e'3.2.2 g'4)))))))))))))))))))))))))))))))) (fun g'1=>ex_ (w268_15 hQ hkp H0 H4 H5 B16392 BP FR (h.2 g'1)))))))
theorem w268_8 {l5:List (List UInt8)}{m16392:Rou}{mP:Dsk}{o_l5:Own}{v16392:Nat}(H0:σ 0 = .p kp vp 0)(H4:σ 4 = .p (d,16392) v16392 0)(H5:σ 5 = .sl o_l5 (List.map rowS l5))(B16392:lk st.bx (d,16392) = some (v16392,[.i .u8 m16392.status,.i .i64 m16392.key,.sl .ext (List.map Frm.row m16392.frames),.sl .ext (List.map Dfr.row m16392.defers),.sl .ext (List.map Pan.row m16392.panics)]))(BP:Dk mP st.bx st.ow kp vp)(FR:Fr d kp st0.bx st0.ow st.bx st.ow)(h:T268_8 prog K l5 m16392 mP):W prog d c268_10 σ st Q:=
 sq_ (q_ rfl (f_ H4 (l_ rfl B16392 rfl rfl (ll_ rfl (m_ (e_ (bk_ (h (I268_0 prog d Q st0 kp vp m16392.frames (m16392.frames.length:Int)) (fun _ _ _ _ hb _ _ _ _ _ H0 H4 H5 H69 H70 H71 B16392 BP FR=>W.loop (w268_9 hQ hkp (fun _ _ _ _ x=>x) H0 H4 H5 H69 H70 H71 B16392 BP FR hb)) _ _ _ _ _ H0 H4 H5 rfl rfl rfl B16392 BP FR))))))))
theorem w268_7 {l5:List (List UInt8)}{m16392:Rou}{mP:Dsk}{o_l5:Own}{v16392:Nat}(H0:σ 0 = .p kp vp 0)(H4:σ 4 = .p (d,16392) v16392 0)(H5:σ 5 = .sl o_l5 (List.map rowS l5))(B16392:lk st.bx (d,16392) = some (v16392,[.i .u8 m16392.status,.i .i64 m16392.key,.sl .ext (List.map Frm.row m16392.frames),.sl .ext (List.map Dfr.row m16392.defers),.sl .ext (List.map Pan.row m16392.panics)]))(BP:Dk mP st.bx st.ow kp vp)(FR:Fr d kp st0.bx st0.ow st.bx st.ow)(h:T268_7 prog K l5 m16392 mP):W prog d c268_11 σ st Q:=
 q_ rfl (s_mvL H5 (s_slL_lo rowS_len rfl rfl (by decide) h.1 (s_mvL rfl (e_ (w268_8 hQ hkp H0 H4 rfl B16392 BP FR h.2)))))
theorem w268_6 {l5:List (List UInt8)}{e6:Int}{m16392:Rou}{mP:Dsk}{o_l5:Own}{v16392:Nat}(H0:σ 0 = .p kp vp 0)(H4:σ 4 = .p (d,16392) v16392 0)(H5:σ 5 = .sl o_l5 (List.map rowS l5))(H6:σ 6 = .i .i64 e6)(B16392:lk st.bx (d,16392) = some (v16392,[.i .u8 m16392.status,.i .i64 m16392.key,.sl .ext (List.map Frm.row m16392.frames),.sl .ext (List.map Dfr.row m16392.defers),.sl .ext (List.map Pan.row m16392.panics)]))(BP:Dk mP st.bx st.ow kp vp)(FR:Fr d kp st0.bx st0.ow st.bx st.ow)(h:T268_6 prog K l5 e6 m16392 mP):W prog d c268_12 σ st Q:=
 sq_ (q_ rfl (m_ (b_ H6 rfl neq_ (e_ (cs_ rfl (fun g'1=>q_ rfl (m_ (m_ (e_ (rt_ (hQ _ _ _ _ H6 BP FR (h.1 g'1))))))) (fun g'1=>sk_ (w268_7 hQ hkp H0 H4 H5 B16392 BP FR (h.2 g'1))))))))
theorem w268_5 {g3:Int}{m16392:Rou}{mP:Dsk}{v16392:Nat}(H0:σ 0 = .p kp vp 0)(H3:σ 3 = .i .i64 g3)(H4:σ 4 = .p (d,16392) v16392 0)(B16392:lk st.bx (d,16392) = some (v16392,[.i .u8 m16392.status,.i .i64 m16392.key,.sl .ext (List.map Frm.row m16392.frames),.sl .ext (List.map Dfr.row m16392.defers),.sl .ext (List.map Pan.row m16392.panics)]))(BP:Dk mP st.bx st.ow kp vp)(FR:Fr d kp st0.bx st0.ow st.bx st.ow)(h:T268_5 prog K g3 m16392 mP):W prog d c268_13 σ st Q:=
 q_ rfl (m_ (s_nilP H0 (f_ rfl (s_loadD rfl BP rfl rfl (m_ (l_ H4 B16392 rfl rfl (h.elim fun r'1 e'4=>e'4.elim fun r'2 e'3=>ca_ (sc rfl rfl (sc H3 rfl (sc rfl rfl sn))) e'3.1 (m_ (x_ rfl rfl (x_ rfl rfl (s_mvL rfl (m_ (e_ (w268_6 hQ hkp H0 H4 rfl rfl B16392 BP FR e'3.2))))))))))))))
theorem w268_4 {g3:Int}{m16392:Rou}{mP:Dsk}{v16392:Nat}(H0:σ 0 = .p kp vp 0)(H3:σ 3 = .i .i64 g3)(H4:σ 4 = .p (d,16392) v16392 0)(B16392:lk st.bx (d,16392) = some (v16392,[.i .u8 m16392.status,.i .i64 m16392.key,.sl .ext (List.map Frm.row m16392.frames),.sl .ext (List.map Dfr.row m16392.defers),.sl .ext (List.map Pan.row m16392.panics)]))(BP:Dk mP st.bx st.ow kp vp)(FR:Fr d kp st0.bx st0.ow st.bx st.ow)(h:T268_4 prog K g3 m16392 mP):W prog d c268_14 σ st Q:=
 sq_ (q_ rfl (s_mv H0 (s_nilP rfl (f_ rfl (f_ rfl (s_loadD rfl BP rfl rfl (b_ rfl rfl eql_ (s_mvB rfl (em_ (g:=42) rfl (fun g'1=>gy_ rfl (s_mv H0 (gy_ rfl (s_nilP rfl (gy_ rfl (f_ rfl (gy_ rfl (f_ rfl (gy_ rfl (s_loadD rfl BP rfl rfl (gy_ rfl (f_ H4 (gy_ rfl (l_ rfl B16392 rfl rfl (gy_ rfl (ll_ rfl (gy_ rfl (b_ rfl rfl geq_ (pt_ rfl rfl (e_ (cs_ rfl (fun g'2=>q_ rfl (m_ (e_ (rt_ (hQ _ _ _ _ rfl BP FR ((h.1 g'1).1 g'2)))))) (fun g'2=>sk_ (w268_5 hQ hkp H0 H3 H4 B16392 BP FR ((h.1 g'1).2 g'2)))))))))))))))))))))))) (fun g'1=>gn_ (b:=false) rfl rfl (gn_ (b:=false) rfl rfl (gn_ (b:=false) rfl rfl (gn_ (b:=false) rfl rfl (gn_ (b:=false) rfl rfl (gn_ (b:=false) rfl rfl (gn_ (b:=false) rfl rfl (gn_ (b:=false) rfl rfl (gn_ (b:=false) rfl rfl (pf_ rfl rfl (e_ (cf_ rfl (sk_ (w268_5 hQ hkp H0 H3 H4 B16392 BP FR (h.2 g'1))))))))))))))))))))))))
theorem w268_3 {g3:Int}{mP:Dsk}(H0:σ 0 = .p kp vp 0)(H3:σ 3 = .i .i64 g3)(BP:Dk mP st.bx st.ow kp vp)(FR:Fr d kp st0.bx st0.ow st.bx st.ow)(h:T268_3 prog K g3 mP):W prog d c268_15 σ st Q:=
 sq_ (W.reg (m_ (s_nilP H0 (f_ rfl (f_ rfl (s_loadD rfl (Dk.other (key_LP hkp) BP) rfl rfl (m_ (h.2.elim fun c'1 e'2=>ia_ rfl H3 h.1 e'2.1 (Rou.row_eq c'1) rfl (lf_ rfl rfl rfl (s_alloc (so_ rfl (show lk _ (d,16392) = some (_,([.i .u8 0,.i .i64 0,.sl .full (List.map Frm.row ([]:List Frm)),.sl .full (List.map Dfr.row ([]:List Dfr)),.sl .full (List.map Pan.row ([]:List Pan))]:List AV)) from lk_here) rfl rfl rfl (e_ (w268_4 hQ hkp H0 H3 rfl lk_here (Dk.other (key_LP hkp) (Dk.other (key_LP hkp) BP)) (Fr.box (Fr.box FR)) e'2.2)))))))))))))
theorem w268_2 {g3:Int}{mP:Dsk}(H0:σ 0 = .p kp vp 0)(H3:σ 3 = .i .i64 g3)(BP:Dk mP st.bx st.ow kp vp)(FR:Fr d kp st0.bx st0.ow st.bx st.ow)(h:T268_2 prog K g3 mP):W prog d c268_16 σ st Q:=
 sq_ (q_ rfl (m_ (m_ (s_nilP H0 (f_ rfl (f_ rfl (s_loadD rfl BP rfl rfl (ll_ rfl (b_ H3 rfl geq_ (e_ (cs_ rfl (fun g'1=>q_ rfl (m_ (e_ (rt_ (hQ _ _ _ _ rfl BP FR (h.1 g'1)))))) (fun g'1=>sk_ (w268_3 hQ hkp H0 H3 BP FR (h.2 g'1))))))))))))))
theorem w268_1 {mP:Dsk}(H0:σ 0 = .p kp vp 0)(BP:Dk mP st.bx st.ow kp vp)(FR:Fr d kp st0.bx st0.ow st.bx st.ow)(h:T268_1 prog K mP):W prog d c268_17 σ st Q:=
 q_ rfl (m_ (s_nilP H0 (f_ rfl (f_ rfl (s_loadD rfl BP rfl rfl (m_ (e_ (w268_2 hQ hkp H0 rfl BP FR h))))))))
theorem w268_0 {mP:Dsk}(H0:σ 0 = .p kp vp 0)(BP:Dk mP st.bx st.ow kp vp)(FR:Fr d kp st0.bx st0.ow st.bx st.ow)(h:T268_0 prog K mP):W prog d (.seq (.reg 0 r268_0) c268_17) σ st Q:=
 q_ rfl (m_ (e_ (w268_1 hQ hkp H0 BP FR h)))
end
theorem p268 {prog:Prog}(hf:prog.fn 268 = some pf268){mP:Dsk}{K:Int→Dsk→Prop}(h:T268_0 prog K mP):PuXK prog 268 (Dk mP) [] (fun r (b_:Dsk)=>∃res0:Int,(r = .i .i64 res0)∧K res0 b_) (fun b_=>(Dk b_)):=
  PuXK.of hf rfl (fun _=>Dk.out) fun d st kp vp hkp hB=>w268_0 (st0:=st) (Q:=fun e σ st'=>(e = .normal∨e = .ret)∧∃r b_,ares σ st' pf268.res = some r∧_∧_∧Fr d kp st.bx st.ow st'.bx st'.ow) (fun σ st'   res0 b_ H2 hb hf hk=>⟨.inr rfl,.i .i64 res0,b_,by simp only [pf268,ares,aresL,H2,ares1,Option.map_some,H2],⟨res0,rfl,hk⟩,hb,hf⟩) hkp (σ:=sl0 [.p kp vp 0]) rfl hB Fr.refl h
end Go.AM

/- Parts of the proof. -/
namespace Go.AM
open Go
set_option linter.unusedVariables false
set_option linter.unusedSimpArgs false
set_option maxRecDepth 4000
attribute [local irreducible] WO fillCells fillRows
def r249_0:List AI:=[oO 2 (.box 5 (.t 0)),
 oC 4 (.b false)]
def r249_1:List AI:=[oO 10 (.load 5 true (.t 2)),
 oO 11 (.call false 243 [(.t 10)]),
 oM 9 11,
 oE 12 0 9,
 oE 13 1 9,
 oM 5 12,
 oM 6 13]
def r249_2:List AI:=[oM 15 1,
 oO 16 (.call false 245 [(.t 15)]),
 oM 14 16,
 oE 17 0 14,
 oE 18 1 14,
 oO 7 (.alloc [.i .u8 0,.i .i64 0,.i .i64 0,.i .i64 0,.s []]),
 oS 5 7 17,
 oM 8 18]
def r249_3:List AI:=[oM 19 6,
 oB 20 .eql (.t 19) (.c (.i .i64 0)),
 oM 21 20,
 oG 22 (.mv (.t 5)) 21 true,
 oG 23 (.mv (.t 1)) 21 true,
 oG 24 (.bin .eql (.t 22) (.t 23)) 21 true,
 oO 25 (.pick (.t 21) (.t 24) (.c (.b false))),
 oM 26 25,
 oG 27 (.mv (.t 8)) 26 true,
 oG 28 (.bin .eql (.t 27) (.c (.i .i64 0))) 26 true,
 oO 29 (.pick (.t 26) (.t 28) (.c (.b false))),
 oM 30 29,
 oG 31 (.load 5 true (.t 7)) 30 true,
 oG 32 (.load 5 true (.t 2)) 30 true,
 oG 33 (.aeq false [0,0,0,0,2] (.t 31) (.t 32)) 30 true,
 oO 34 (.pick (.t 30) (.t 33) (.c (.b false))),
 oM 4 34]
abbrev b249:AC:=(.seq (.reg 0 r249_0) (.seq (.reg 1 r249_1) (.seq (.reg 2 r249_2) (.seq (.reg 3 r249_3) .ret))))
def pf249:AF:={ nt:=35,res:=[.tmp 4],body:=b249 }
abbrev H249 (Q:AE→Sl→St→Prop)(K:Bool→Prop):Prop:=∀(σ:Sl)(st:St)(res0:Bool),σ 4 = .b res0→K res0→Q .ret σ st
def T249_0 (prog:Prog)(K:Bool→Prop)(q0:Qry)(want1:List UInt8):Prop:=
  ∃r'1:List UInt8,∃r'2:Int,Pus prog 243 [q0.av] (.tup [.s r'1,.i .i64 r'2])∧∃r'4:Qry,∃r'5:Int,Pus prog 245 [.s want1] (.tup [r'4.av,.i .i64 r'5])∧(r'2 = 0→(r'1 = want1→(r'5 = 0→K ((r'4.kind) == (q0.kind) && ((r'4.g) == (q0.g) && ((r'4.k) == (q0.k) && ((r'4.key) == (q0.key) && ((r'4.name) == (q0.name) && true))))))∧(¬(r'5 = 0)→K false))∧(¬(r'1 = want1)→K false))∧(¬(r'2 = 0)→K false)
section
variable {prog:Prog}{d:Nat}{Q:AE→Sl→St→Prop}{K:Bool→Prop}(hQ:H249 Q K){σ:Sl}{st:St}
include hQ
theorem w249_0 {q0:Qry}{want1:List UInt8}(H0:σ 0 = q0.av)(H1:σ 1 = .s want1)(h:T249_0 prog K q0 want1):W prog d (.seq (.reg 0 r249_0) (.seq (.reg 1 r249_1) (.seq (.reg 2 r249_2) (.seq (.reg 3 r249_3) .ret)))) σ st Q:=
 q_ rfl (s_box H0 rfl (m_ (e_ (q_ rfl (l_ rfl lk_here rfl rfl (h.elim fun r'1 e'11=>e'11.elim fun r'2 e'3=>ca_ (sc rfl rfl sn) e'3.1 (m_ (x_ rfl rfl (x_ rfl rfl (m_ (m_ (e_ (sq_ (W.reg (m_ (e'3.2.elim fun r'4 e'10=>e'10.elim fun r'5 e'6=>ca_ (sc H1 rfl sn) e'6.1 (m_ (x_ rfl rfl (x_ rfl rfl (s_alloc (so_ rfl (show lk _ (d,8197) = some (_,([.i .u8 0,.i .i64 0,.i .i64 0,.i .i64 0,.s []]:List AV)) from lk_here) rfl rfl rfl (m_ (e_ (q_ rfl (s_mvI rfl (b_ rfl rfl eql_ (s_mvB rfl (em_ (g:=21) rfl (fun g'7=>gy_ rfl (s_mvS rfl (gy_ rfl (s_mvS H1 (gy_ rfl (b_ rfl rfl seq_ (pt_ rfl rfl (s_mvB rfl (em_ (g:=26) rfl (fun g'8=>gy_ rfl (s_mvI rfl (gy_ rfl (b_ rfl rfl eql_ (pt_ rfl rfl (s_mvB rfl (em_ (g:=30) rfl (fun g'9=>gy_ rfl (l_ rfl lk_here rfl rfl (gy_ rfl (l_ rfl (lk_other rfl (lk_other rfl lk_here)) rfl rfl (gy_ rfl (s_aeqE rfl rfl rfl (pt_ rfl rfl (s_mvB rfl (e_ (rt_ (hQ _ _ _ rfl (((e'6.2.1 g'7).1 g'8).1 g'9)))))))))))) (fun g'9=>gn_ (b:=false) rfl rfl (gn_ (b:=false) rfl rfl (gn_ (b:=false) rfl rfl (pf_ rfl rfl (s_mvB rfl (e_ (rt_ (hQ _ _ _ rfl (((e'6.2.1 g'7).1 g'8).2 g'9)))))))))))))))) (fun g'8=>gn_ (b:=false) rfl rfl (gn_ (b:=false) rfl rfl (pf_ rfl rfl (s_mvB rfl (gn_ (b:=false) rfl rfl (gn_ (b:=false) rfl rfl (gn_ (b:=false) rfl rfl (pf_ rfl rfl (s_mvB rfl (e_ (rt_ (hQ _ _ _ rfl ((e'6.2.1 g'7).2 g'8)))))))))))))))))))))) (fun g'7=>gn_ (b:=false) rfl rfl (gn_ (b:=false) rfl rfl (gn_ (b:=false) rfl rfl (pf_ rfl rfl (s_mvB rfl (gn_ (b:=false) rfl rfl (gn_ (b:=false) rfl rfl (pf_ rfl rfl (s_mvB rfl (gn_ (b:=false) rfl rfl (gn_ (b:=false) rfl rfl (gn_ (b:=false) rfl rfl (pf_ rfl rfl (s_mvB rfl (e_ (rt_ (hQ _ _ _ rfl (e'6.2.2 g'7))))))))))))))))))))))))))))))))))))))))))))))
end
theorem p249 {prog:Prog}(hf:prog.fn 249 = some pf249){q0:Qry}{want1:List UInt8}{K:Bool→Prop}(h:T249_0 prog K q0 want1) :∃res0:Bool,K res0∧Pus prog 249 [q0.av,.s want1] (.b res0):=by
  obtain ⟨v,hv,res0,hk,rfl⟩:=Pus.of (K:=fun v=>∃res0:Bool,K res0∧v = .b res0) hf rfl (w249_0 (σ:=sl0 [q0.av,.s want1]) (fun σ st   res0 H4 hk=>⟨.b res0,by simp only [pf249,ares,aresL,H4,ares1,Option.map_some],_,rfl,res0,hk,rfl⟩) rfl rfl h)
  exact ⟨res0,hk,hv⟩
def r250_0:List AI:=[oO 1 (.box 5 (.t 0)),
 oC 2 (.b false)]
def r250_1:List AI:=[oO 8 (.load 5 true (.t 1)),
 oO 9 (.call false 243 [(.t 8)]),
 oM 7 9,
 oE 10 0 7,
 oE 11 1 7,
 oM 3 10,
 oM 4 11]
def r250_2:List AI:=[oO 13 (.call false 255 []),
 oO 14 (.build [.i .u8 0,.i .i64 0,.i .i64 0,.sl .full []] []),
 oO 15 (.load 5 true (.t 1)),
 oO 16 (.call false 264 [(.t 13),(.t 14),(.t 15)]),
 oM 12 16,
 oE 17 0 12,
 oE 18 1 12,
 oM 5 17,
 oM 6 18]
def r250_3:List AI:=[oO 19 (.load 5 true (.t 1)),
 oO 20 (.call false 247 [(.t 19)]),
 oB 21 .eql (.t 20) (.c (.i .i64 8)),
 oM 22 21,
 oG 23 (.mv (.t 4)) 22 true,
 oG 24 (.bin .eql (.t 23) (.c (.i .i64 8))) 22 true,
 oO 25 (.pick (.t 22) (.t 24) (.c (.b false))),
 oM 26 25,
 oG 27 (.mv (.t 3)) 26 true,
 oG 28 (.bin .eql (.t 27) (.c (.s []))) 26 true,
 oO 29 (.pick (.t 26) (.t 28) (.c (.b false))),
 oM 30 29,
 oG 31 (.mv (.t 6)) 30 true,
 oG 32 (.bin .eql (.t 31) (.c (.i .i64 8))) 30 true,
 oO 33 (.pick (.t 30) (.t 32) (.c (.b false))),
 oM 2 33]
abbrev b250:AC:=(.seq (.reg 0 r250_0) (.seq (.reg 1 r250_1) (.seq (.reg 2 r250_2) (.seq (.reg 3 r250_3) .ret))))
def pf250:AF:={ nt:=34,res:=[.tmp 2],body:=b250 }
abbrev H250 (Q:AE→Sl→St→Prop)(K:Bool→Prop):Prop:=∀(σ:Sl)(st:St)(res0:Bool),σ 2 = .b res0→K res0→Q .ret σ st
def T250_0 (prog:Prog)(K:Bool→Prop)(q0:Qry):Prop:=
  ∃r'1:List UInt8,∃r'2:Int,Pus prog 243 [q0.av] (.tup [.s r'1,.i .i64 r'2])∧∃r'4:Img,Pus prog 255 [] (r'4.av)∧∃r'6:List (List UInt8),∃r'7:Int,Pus prog 264 [r'4.av,.ag [.i .u8 0,.i .i64 0,.i .i64 0,.sl .ext (List.map Rou.row ([]:List Rou))],q0.av] (.tup [.sl .ext (List.map rowS r'6),.i .i64 r'7])∧∃r'9:Int,Pus prog 247 [q0.av] (.i .i64 r'9)∧(r'9 = 8→(r'2 = 8→(r'1 = ([]:List UInt8)→K (decide (r'7 = 8)))∧(¬(r'1 = ([]:List UInt8))→K false))∧(¬(r'2 = 8)→K false))∧(¬(r'9 = 8)→K false)
section
variable {prog:Prog}{d:Nat}{Q:AE→Sl→St→Prop}{K:Bool→Prop}(hQ:H250 Q K){σ:Sl}{st:St}
include hQ
theorem w250_0 {q0:Qry}(H0:σ 0 = q0.av)(h:T250_0 prog K q0):W prog d (.seq (.reg 0 r250_0) (.seq (.reg 1 r250_1) (.seq (.reg 2 r250_2) (.seq (.reg 3 r250_3) .ret)))) σ st Q:=
 q_ rfl (s_box H0 rfl (m_ (e_ (q_ rfl (l_ rfl lk_here rfl rfl (h.elim fun r'1 e'15=>e'15.elim fun r'2 e'3=>ca_ (sc rfl rfl sn) e'3.1 (m_ (x_ rfl rfl (x_ rfl rfl (m_ (m_ (e_ (q_ rfl (e'3.2.elim fun r'4 e'5=>ca_ sn e'5.1 (s_build f_nil (l_ rfl lk_here rfl rfl (e'5.2.elim fun r'6 e'14=>e'14.elim fun r'7 e'8=>ca_ (sc rfl rfl (sc rfl rfl (sc rfl rfl sn))) e'8.1 (m_ (x_ rfl rfl (x_ rfl rfl (s_mvL rfl (m_ (e_ (q_ rfl (l_ rfl lk_here rfl rfl (e'8.2.elim fun r'9 e'10=>ca_ (sc rfl rfl sn) e'10.1 (b_ rfl rfl eql_ (s_mvB rfl (em_ (g:=22) rfl (fun g'11=>gy_ rfl (s_mvI rfl (gy_ rfl (b_ rfl rfl eql_ (pt_ rfl rfl (s_mvB rfl (em_ (g:=26) rfl (fun g'12=>gy_ rfl (s_mvS rfl (gy_ rfl (b_ rfl rfl seq_ (pt_ rfl rfl (s_mvB rfl (em_ (g:=30) rfl (fun g'13=>gy_ rfl (s_mvI rfl (gy_ rfl (b_ rfl rfl eql_ (pt_ rfl rfl (s_mvB rfl (e_ (rt_ (hQ _ _ _ rfl (((e'10.2.1 g'11).1 g'12).1 g'13)))))))))) (fun g'13=>gn_ (b:=false) rfl rfl (gn_ (b:=false) rfl rfl (pf_ rfl rfl (s_mvB rfl (e_ (rt_ (hQ _ _ _ rfl (((e'10.2.1 g'11).1 g'12).2 g'13))))))))))))))) (fun g'12=>gn_ (b:=false) rfl rfl (gn_ (b:=false) rfl rfl (pf_ rfl rfl (s_mvB rfl (gn_ (b:=false) rfl rfl (gn_ (b:=false) rfl rfl (pf_ rfl rfl (s_mvB rfl (e_ (rt_ (hQ _ _ _ rfl ((e'10.2.1 g'11).2 g'12))))))))))))))))))) (fun g'11=>gn_ (b:=false) rfl rfl (gn_ (b:=false) rfl rfl (pf_ rfl rfl (s_mvB rfl (gn_ (b:=false) rfl rfl (gn_ (b:=false) rfl rfl (pf_ rfl rfl (s_mvB rfl (gn_ (b:=false) rfl rfl (gn_ (b:=false) rfl rfl (pf_ rfl rfl (s_mvB rfl (e_ (rt_ (hQ _ _ _ rfl (e'10.2.2 g'11)))))))))))))))))))))))))))))))))))))))))))))
end
theorem p250 {prog:Prog}(hf:prog.fn 250 = some pf250){q0:Qry}{K:Bool→Prop}(h:T250_0 prog K q0) :∃res0:Bool,K res0∧Pus prog 250 [q0.av] (.b res0):=by
  obtain ⟨v,hv,res0,hk,rfl⟩:=Pus.of (K:=fun v=>∃res0:Bool,K res0∧v = .b res0) hf rfl (w250_0 (σ:=sl0 [q0.av]) (fun σ st   res0 H2 hk=>⟨.b res0,by simp only [pf250,ares,aresL,H2,ares1,Option.map_some],_,rfl,res0,hk,rfl⟩) rfl h)
  exact ⟨res0,hk,hv⟩
def r251_0:List AI:=[oC 4 (.b false)]
def r251_1:List AI:=[oO 8 (.call false 255 []),
 oO 9 (.call true 252 []),
 oM 10 0,
 oO 11 (.call false 254 [(.t 8),(.t 9),(.t 10)]),
 oM 7 11,
 oE 12 0 7,
 oE 13 1 7,
 oM 5 12,
 oM 6 13]
def r251_2:List AI:=[oM 14 6,
 oM 15 1,
 oB 16 .eql (.t 14) (.t 15),
 oM 17 16,
 oG 18 (.mv (.t 5)) 17 true,
 oG 19 (.len false (.t 18)) 17 true,
 oG 20 (.bin .eql (.t 19) (.c (.i .i64 0))) 17 true,
 oO 21 (.pick (.t 17) (.t 20) (.c (.b false))),
 oM 4 21]
abbrev b251:AC:=(.seq (.reg 0 r251_0) (.seq (.reg 1 r251_1) (.seq (.reg 2 r251_2) .ret)))
def pf251:AF:={ nt:=22,res:=[.tmp 4],body:=b251 }
abbrev H251 (Q:AE→Sl→St→Prop)(K:Bool→Prop):Prop:=∀(σ:Sl)(st:St)(res0:Bool),σ 4 = .b res0→K res0→Q .ret σ st
def T251_0 (prog:Prog)(K:Bool→Prop)(text0:List UInt8)(want1:Int):Prop:=
  ∃r'1:Img,Pus prog 255 [] (r'1.av)∧∃r'3:Sta,(PuN prog 252 [] (fun r=>r = r'3.avo .full))∧∃r'7:List (List UInt8),∃r'8:Int,Pus prog 254 [r'1.av,r'3.av,.s text0] (.tup [.sl .ext (List.map rowS r'7),.i .i64 r'8])∧(r'8 = want1→K (decide ((r'7.length:Int) = 0)))∧(¬(r'8 = want1)→K false)
section
variable {prog:Prog}{d:Nat}{Q:AE→Sl→St→Prop}{K:Bool→Prop}(hQ:H251 Q K){σ:Sl}{st:St}
include hQ
theorem w251_0 {text0:List UInt8}{want1:Int}(H0:σ 0 = .s text0)(H1:σ 1 = .i .i64 want1)(h:T251_0 prog K text0 want1):W prog d (.seq (.reg 0 r251_0) (.seq (.reg 1 r251_1) (.seq (.reg 2 r251_2) .ret))) σ st Q:=
 q_ rfl (m_ (e_ (q_ rfl (h.elim fun r'1 e'2=>ca_ sn e'2.1 (e'2.2.elim fun r'3 e'4=>s_callN sen (e'4.1) (fun st'5 hf'6=>m_ (e'4.2.elim fun r'7 e'11=>e'11.elim fun r'8 e'9=>ca_ (sc rfl rfl (sc rfl rfl (sc H0 rfl sn))) e'9.1 (m_ (x_ rfl rfl (x_ rfl rfl (s_mvL rfl (m_ (e_ (q_ rfl (s_mvI rfl (s_mvI H1 (b_ rfl rfl eql_ (s_mvB rfl (em_ (g:=17) rfl (fun g'10=>gy_ rfl (s_mvL rfl (gy_ rfl (ll_ rfl (gy_ rfl (b_ rfl rfl eql_ (pt_ rfl rfl (s_mvB rfl (e_ (rt_ (hQ _ _ _ rfl (e'9.2.1 g'10)))))))))))) (fun g'10=>gn_ (b:=false) rfl rfl (gn_ (b:=false) rfl rfl (gn_ (b:=false) rfl rfl (pf_ rfl rfl (s_mvB rfl (e_ (rt_ (hQ _ _ _ rfl (e'9.2.2 g'10))))))))))))))))))))))))))))
end
theorem p251 {prog:Prog}(hf:prog.fn 251 = some pf251){text0:List UInt8}{want1:Int}{K:Bool→Prop}(h:T251_0 prog K text0 want1) :∃res0:Bool,K res0∧Pus prog 251 [.s text0,.i .i64 want1] (.b res0):=by
  obtain ⟨v,hv,res0,hk,rfl⟩:=Pus.of (K:=fun v=>∃res0:Bool,K res0∧v = .b res0) hf rfl (w251_0 (σ:=sl0 [.s text0,.i .i64 want1]) (fun σ st   res0 H4 hk=>⟨.b res0,by simp only [pf251,ares,aresL,H4,ares1,Option.map_some],_,rfl,res0,hk,rfl⟩) rfl rfl h)
  exact ⟨res0,hk,hv⟩
def r252_0:List AI:=[oO 0 (.alloc [.i .u8 0,.i .i64 0,.i .i64 0,.sl .full []])]
def r252_1:List AI:=[oO 2 (.build [.i .u8 0,.i .i64 0,.s [],.sl .full [],.b false] [(0,1,(.c (.i .u8 2))),(1,1,(.c (.i .i64 5)))]),
 oO 1 (.alloc [.i .u8 0,.i .i64 0,.s [],.sl .full [],.b false]),
 oS 5 1 2]
def r252_2:List AI:=[oO 3 (.load 5 true (.t 1)),
 oO 4 (.build [.i .i64 0,.i .u8 0,.i .i64 0,.s [],.sl .full [],.b false] [(0,1,(.c (.i .i64 0))),(1,5,(.t 3))]),
 oO 5 (.bslice [.i .i64 0,.i .u8 0,.i .i64 0,.s [],.sl .full [],.b false] 1 [(0,(.t 4))]),
 oO 6 (.build [.i .i64 0,.i .i64 0,.i .u64 0,.sl .full []] [(0,1,(.c (.i .i64 1))),(1,1,(.c (.i .i64 2))),(3,1,(.t 5))]),
 oO 7 (.build [.i .i64 0,.i .i64 0,.i .u64 0,.sl .full []] [(1,1,(.c (.i .i64 4)))]),
 oO 8 (.bslice [.i .i64 0,.i .i64 0,.i .u64 0,.sl .full []] 2 [(0,(.t 6)),(1,(.t 7))]),
 oO 9 (.build [.i .u8 0,.i .i64 0,.sl .full [],.sl .full [],.sl .full []] [(0,1,(.c (.i .u8 2))),(1,1,(.c (.i .i64 7))),(2,1,(.t 8))]),
 oO 10 (.bslice [.i .u8 0,.i .i64 0,.sl .full [],.sl .full [],.sl .full []] 1 [(0,(.t 9))]),
 oO 11 (.build [.i .u8 0,.i .i64 0,.i .i64 0,.sl .full []] [(0,1,(.c (.i .u8 3))),(1,1,(.c (.i .i64 (-1)))),(3,1,(.t 10))]),
 oS 4 0 11]
abbrev b252:AC:=(.seq (.reg 0 r252_0) (.seq (.reg 1 r252_1) (.seq (.reg 2 r252_2) .ret)))
def pf252:AF:={ nt:=12,res:=[.cell 0 4 true],body:=b252 }
abbrev H252 (d:Nat)(st0:St)(Q:AE→Sl→St→Prop)(K:Sta→Prop):Prop:=∀(σ:Sl)(st:St)(k0:Key)(v0:Nat)(res0:Sta),σ 0 = .p k0 v0 0→lk st.bx k0 = some (v0,[.i .u8 res0.outcome,.i .i64 res0.failing,.i .i64 res0.steps,.sl .full (List.map Rou.row res0.routines)])→Fr d (d,0) st0.bx st0.ow st.bx st.ow→K res0→Q .ret σ st
def T252_0 (prog:Prog)(K:Sta→Prop) :Prop:=
  K (Sta.mk 3 (-1) 0 [(Rou.mk 2 7 [(Frm.mk 1 2 0 [(Loc.mk 0 (Val.mk 2 5 [] ([]:List Val) false))]),(Frm.mk 0 4 0 ([]:List Loc))] ([]:List Dfr) ([]:List Pan))])
section
variable {prog:Prog}{d:Nat}{Q:AE→Sl→St→Prop}{K:Sta→Prop}{st0:St}(hQ:H252 d st0 Q K){σ:Sl}{st:St}
include hQ
theorem w252_0 (FR:Fr d (d,0) st0.bx st0.ow st.bx st.ow)(h:T252_0 prog K ):W prog d (.seq (.reg 0 r252_0) (.seq (.reg 1 r252_1) (.seq (.reg 2 r252_2) .ret))) σ st Q:=
 sq_ (W.reg (s_alloc (e_ (sq_ (W.reg (s_build (f_cons rfl rfl (f_cons rfl rfl f_nil)) (s_alloc (so_ rfl (show lk _ (d,4097) = some (_,([.i .u8 0,.i .i64 0,.s [],.sl .full (List.map Val.row ([]:List Val)),.b false]:List AV)) from lk_here) rfl rfl rfl (e_ (q_ rfl (l_ rfl lk_here rfl rfl (s_build (f_cons rfl rfl (f_cons rfl rfl f_nil)) (s_bslM (f:=Loc.row) (l:=[(Loc.mk 0 (Val.mk 2 5 [] ([]:List Val) false))]) rfl rfl (g_cons rfl rfl rfl g_nil) (by simp only [List.map_cons,List.map_nil,Loc.row_eq]; rfl) (s_build (f_cons rfl rfl (f_cons rfl rfl (f_cons rfl rfl f_nil))) (s_build (f_cons rfl rfl f_nil) (s_bslM (f:=Frm.row) (l:=[(Frm.mk 1 2 0 [(Loc.mk 0 (Val.mk 2 5 [] ([]:List Val) false))]),(Frm.mk 0 4 0 ([]:List Loc))]) rfl rfl (g_cons rfl rfl rfl (g_cons rfl rfl rfl g_nil)) (by simp only [List.map_cons,List.map_nil,Frm.row_eq]; rfl) (s_build (f_cons rfl rfl (f_cons rfl rfl (f_cons rfl rfl f_nil))) (s_bslM (f:=Rou.row) (l:=[(Rou.mk 2 7 [(Frm.mk 1 2 0 [(Loc.mk 0 (Val.mk 2 5 [] ([]:List Val) false))]),(Frm.mk 0 4 0 ([]:List Loc))] ([]:List Dfr) ([]:List Pan))]) rfl rfl (g_cons rfl rfl rfl g_nil) (by simp only [List.map_cons,List.map_nil,Rou.row_eq]; rfl) (s_build (f_cons rfl rfl (f_cons rfl rfl (f_cons rfl rfl f_nil))) (so_ rfl (lk_other rfl (lk_other rfl (show lk _ (d,0) = some (_,([.i .u8 0,.i .i64 0,.i .i64 0,.sl .full (List.map Rou.row ([]:List Rou))]:List AV)) from lk_here))) rfl rfl rfl (e_ (rt_ (hQ _ _ _ _ _ rfl lk_here (Fr.box (Fr.box (Fr.box (Fr.box FR)))) h)))))))))))))))))))))))
end
theorem p252 {prog:Prog}(hf:prog.fn 252 = some pf252)  {K:Sta→Prop}(h:T252_0 prog K ):PuN prog 252 [] (fun r=>∃res0:Sta,(r = res0.avo .full)∧K res0):=
  PuN.of hf rfl fun d st=>w252_0 (st0:=st) (Q:=fun e σ st'=>(e = .normal∨e = .ret)∧∃r,ares σ st' pf252.res = some r∧_∧Fr d (d,0) st.bx st.ow st'.bx st'.ow) (fun σ st' k0 v0  res0 H0 HB0 hf hk=>⟨.inr rfl,res0.avo .full,by simp only [pf252,ares,aresL,ares_cellA (n:=4) H0 HB0 rfl,ares_tmp,Option.map_some,ares_cellA (n:=4) H0 HB0 rfl],⟨res0,rfl,hk⟩,hf⟩) (σ:=sl0 []) Fr.refl h
def r253_0:List AI:=[oO 3 (.box 4 (.t 0)),
 oC 6 (.b false)]
def r253_1:List AI:=[oO 10 (.call false 255 []),
 oO 11 (.load 4 true (.t 3)),
 oM 12 1,
 oO 13 (.call false 254 [(.t 10),(.t 11),(.t 12)]),
 oM 9 13,
 oE 14 0 9,
 oE 15 1 9,
 oM 7 14,
 oM 8 15]
def r253_2:List AI:=[oM 16 8,
 oB 17 .eql (.t 16) (.c (.i .i64 0)),
 oM 18 17,
 oG 19 (.mv (.t 7)) 18 true,
 oG 20 (.mv (.t 2)) 18 true,
 oG 21 (.call false 29 [(.t 19),(.t 20)]) 18 true,
 oO 22 (.pick (.t 18) (.t 21) (.c (.b false))),
 oM 6 22]
abbrev b253:AC:=(.seq (.reg 0 r253_0) (.seq (.reg 1 r253_1) (.seq (.reg 2 r253_2) .ret)))
def pf253:AF:={ nt:=23,res:=[.tmp 6],body:=b253 }
abbrev H253 (Q:AE→Sl→St→Prop)(K:Bool→Prop):Prop:=∀(σ:Sl)(st:St)(res0:Bool),σ 6 = .b res0→K res0→Q .ret σ st
def T253_0 (prog:Prog)(K:Bool→Prop)(s0:Sta)(text1:List UInt8)(want2:List (List UInt8)):Prop:=
  ∃r'1:Img,Pus prog 255 [] (r'1.av)∧∃r'3:List (List UInt8),∃r'4:Int,Pus prog 254 [r'1.av,s0.av,.s text1] (.tup [.sl .ext (List.map rowS r'3),.i .i64 r'4])∧(r'4 = 0→∃r'7:Bool,Pus prog 29 [.sl .ext (List.map rowS r'3),.sl .ext (List.map rowS want2)] (.b r'7)∧K r'7)∧(¬(r'4 = 0)→K false)
section
variable {prog:Prog}{d:Nat}{Q:AE→Sl→St→Prop}{K:Bool→Prop}(hQ:H253 Q K){σ:Sl}{st:St}
include hQ
theorem w253_0 {s0:Sta}{text1:List UInt8}{want2:List (List UInt8)}{o_want2:Own}(H0:σ 0 = s0.av)(H1:σ 1 = .s text1)(H2:σ 2 = .sl o_want2 (List.map rowS want2))(h:T253_0 prog K s0 text1 want2):W prog d (.seq (.reg 0 r253_0) (.seq (.reg 1 r253_1) (.seq (.reg 2 r253_2) .ret))) σ st Q:=
 q_ rfl (s_box H0 rfl (m_ (e_ (q_ rfl (h.elim fun r'1 e'2=>ca_ sn e'2.1 (l_ rfl lk_here rfl rfl (m_ (e'2.2.elim fun r'3 e'9=>e'9.elim fun r'4 e'5=>ca_ (sc rfl rfl (sc rfl rfl (sc H1 rfl sn))) e'5.1 (m_ (x_ rfl rfl (x_ rfl rfl (s_mvL rfl (m_ (e_ (q_ rfl (s_mvI rfl (b_ rfl rfl eql_ (s_mvB rfl (em_ (g:=18) rfl (fun g'6=>gy_ rfl (s_mvL rfl (gy_ rfl (s_mvL H2 (gy_ rfl ((e'5.2.1 g'6).elim fun r'7 e'8=>ca_ (sc rfl rfl (sc rfl rfl sn)) e'8.1 (pt_ rfl rfl (s_mvB rfl (e_ (rt_ (hQ _ _ _ rfl e'8.2))))))))))) (fun g'6=>gn_ (b:=false) rfl rfl (gn_ (b:=false) rfl rfl (gn_ (b:=false) rfl rfl (pf_ rfl rfl (s_mvB rfl (e_ (rt_ (hQ _ _ _ rfl (e'5.2.2 g'6))))))))))))))))))))))))))))
end
theorem p253 {prog:Prog}(hf:prog.fn 253 = some pf253){s0:Sta}{text1:List UInt8}{want2:List (List UInt8)}{K:Bool→Prop}(h:T253_0 prog K s0 text1 want2) :∃res0:Bool,K res0∧Pus prog 253 [s0.av,.s text1,.sl .ext (List.map rowS want2)] (.b res0):=by
  obtain ⟨v,hv,res0,hk,rfl⟩:=Pus.of (K:=fun v=>∃res0:Bool,K res0∧v = .b res0) hf rfl (w253_0 (σ:=sl0 [s0.av,.s text1,.sl .ext (List.map rowS want2)]) (fun σ st   res0 H6 hk=>⟨.b res0,by simp only [pf253,ares,aresL,H6,ares1,Option.map_some],_,rfl,res0,hk,rfl⟩) rfl rfl rfl h)
  exact ⟨res0,hk,hv⟩
def r254_0:List AI:=[oO 3 (.box 3 (.t 0)),
 oO 4 (.box 4 (.t 1)),
 oC 6 (.sl .full []),
 oC 7 (.i .i64 0)]
def r254_1:List AI:=[oM 11 2,
 oO 12 (.call false 245 [(.t 11)]),
 oM 10 12,
 oE 13 0 10,
 oE 14 1 10,
 oO 8 (.alloc [.i .u8 0,.i .i64 0,.i .i64 0,.i .i64 0,.s []]),
 oS 5 8 13,
 oM 9 14]
def r254_2:List AI:=[oM 15 9,
 oB 16 .neq (.t 15) (.c (.i .i64 0))]
def r254_3:List AI:=[oM 17 9,
 oC 6 (.sl .full []),
 oM 7 17]
def r254_4:List AI:=[oO 18 (.load 3 true (.t 3)),
 oO 19 (.load 4 true (.t 4)),
 oO 20 (.load 5 true (.t 8)),
 oO 21 (.call false 264 [(.t 18),(.t 19),(.t 20)]),
 oE 22 0 21,
 oE 23 1 21,
 oM 6 22,
 oM 7 23]
abbrev b254:AC:=(.seq (.reg 0 r254_0) (.seq (.reg 1 r254_1) (.seq (.seq (.reg 2 r254_2) (.cond (.t 16) (.seq (.reg 3 r254_3) .ret) .skip)) (.seq (.reg 4 r254_4) .ret))))
def pf254:AF:={ nt:=24,res:=[.tmp 6,.tmp 7],body:=b254 }
abbrev H254 (Q:AE→Sl→St→Prop)(K:List (List UInt8)→Int→Prop):Prop:=∀(σ:Sl)(st:St)(o0:Own)(res0:List (List UInt8))(res1:Int),σ 6 = .sl o0 (List.map rowS res0)→σ 7 = .i .i64 res1→K res0 res1→Q .ret σ st
def T254_0 (prog:Prog)(K:List (List UInt8)→Int→Prop)(m0:Img)(s1:Sta)(text2:List UInt8):Prop:=
  ∃r'1:Qry,∃r'2:Int,Pus prog 245 [.s text2] (.tup [r'1.av,.i .i64 r'2])∧(r'2≠0→K ([]:List (List UInt8)) r'2)∧(¬(r'2≠0)→∃r'5:List (List UInt8),∃r'6:Int,Pus prog 264 [m0.av,s1.av,r'1.av] (.tup [.sl .ext (List.map rowS r'5),.i .i64 r'6])∧K r'5 r'6)
section
variable {prog:Prog}{d:Nat}{Q:AE→Sl→St→Prop}{K:List (List UInt8)→Int→Prop}(hQ:H254 Q K){σ:Sl}{st:St}
include hQ
theorem w254_0 {m0:Img}{s1:Sta}{text2:List UInt8}(H0:σ 0 = m0.av)(H1:σ 1 = s1.av)(H2:σ 2 = .s text2)(h:T254_0 prog K m0 s1 text2):W prog d (.seq (.reg 0 r254_0) (.seq (.reg 1 r254_1) (.seq (.seq (.reg 2 r254_2) (.cond (.t 16) (.seq (.reg 3 r254_3) .ret) .skip)) (.seq (.reg 4 r254_4) .ret)))) σ st Q:=
 q_ rfl (s_box H0 rfl (s_box H1 rfl (s_mvL (f:=rowS) (l:=[]) rfl (m_ (e_ (sq_ (W.reg (m_ (h.elim fun r'1 e'9=>e'9.elim fun r'2 e'3=>ca_ (sc H2 rfl sn) e'3.1 (m_ (x_ rfl rfl (x_ rfl rfl (s_alloc (so_ rfl (show lk _ (d,4101) = some (_,([.i .u8 0,.i .i64 0,.i .i64 0,.i .i64 0,.s []]:List AV)) from lk_here) rfl rfl rfl (m_ (e_ (sq_ (q_ rfl (m_ (b_ rfl rfl neq_ (e_ (cs_ rfl (fun g'4=>q_ rfl (m_ (s_mvL (f:=rowS) (l:=[]) rfl (m_ (e_ (rt_ (hQ _ _ _ _ _ rfl rfl (e'3.2.1 g'4)))))))) (fun g'4=>sk_ (q_ rfl (l_ rfl (lk_other rfl (lk_other rfl (lk_other rfl lk_here))) rfl rfl (l_ rfl (lk_other rfl (lk_other rfl lk_here)) rfl rfl (l_ rfl lk_here rfl rfl ((e'3.2.2 g'4).elim fun r'5 e'8=>e'8.elim fun r'6 e'7=>ca_ (sc rfl rfl (sc rfl rfl (sc rfl rfl sn))) e'7.1 (x_ rfl rfl (x_ rfl rfl (s_mvL rfl (m_ (e_ (rt_ (hQ _ _ _ _ _ rfl rfl e'7.2)))))))))))))))))))))))))))))))))))
end
theorem p254 {prog:Prog}(hf:prog.fn 254 = some pf254){m0:Img}{s1:Sta}{text2:List UInt8}{K:List (List UInt8)→Int→Prop}(h:T254_0 prog K m0 s1 text2) :∃res0:List (List UInt8),∃res1:Int,K res0 res1∧Pus prog 254 [m0.av,s1.av,.s text2] (.tup [.sl .ext (List.map rowS res0),.i .i64 res1]):=by
  obtain ⟨v,hv,res0,res1,hk,rfl⟩:=Pus.of (K:=fun v=>∃res0:List (List UInt8),∃res1:Int,K res0 res1∧v = .tup [.sl .ext (List.map rowS res0),.i .i64 res1]) hf rfl (w254_0 (σ:=sl0 [m0.av,s1.av,.s text2]) (fun σ st  o0 res0 res1 H6 H7 hk=>⟨.tup [.sl o0 (List.map rowS res0),.i .i64 res1],by simp only [pf254,ares,aresL,H6,H7,ares1,Option.map_some],_,rfl,res0,res1,hk,rfl⟩) rfl rfl rfl h)
  exact ⟨res0,res1,hk,hv⟩
def r255_0:List AI:=[oO 0 (.alloc [.sl .full [],.sl .full [],.sl .full []])]
def r255_1:List AI:=[oO 2 (.mks [.i .u8 0,.i .i64 0,.i .i64 0,.i .i64 0] 32 (.c (.i .i64 6)) (.c (.i .i64 6))),
 oM 1 2]
def r255_2:List AI:=[oM 3 1,
 oO 4 (.build [.s [],.i .i64 0,.i .i64 0,.sl .full [],.sl .full [],.sl .full [],.sl .full []] [(0,1,(.c (.s [109,97,105,110]))),(4,1,(.t 3))]),
 oM 5 1,
 oO 6 (.build [.s [],.i .i64 0] [(0,1,(.c (.s [120])))]),
 oO 7 (.build [.s [],.i .i64 0] [(0,1,(.c (.s [121])))]),
 oO 8 (.bslice [.s [],.i .i64 0] 2 [(0,(.t 6)),(1,(.t 7))]),
 oO 9 (.build [.s [],.i .i64 0,.i .i64 0,.sl .full [],.sl .full [],.sl .full [],.sl .full []] [(0,1,(.c (.s [102]))),(4,1,(.t 5)),(3,1,(.t 8))]),
 oO 10 (.bslice [.s [],.i .i64 0,.i .i64 0,.sl .full [],.sl .full [],.sl .full [],.sl .full []] 2 [(0,(.t 4)),(1,(.t 9))]),
 oO 11 (.build [.sl .full [],.sl .full [],.sl .full []] [(2,1,(.t 10))]),
 oS 3 0 11]
abbrev b255:AC:=(.seq (.reg 0 r255_0) (.seq (.reg 1 r255_1) (.seq (.reg 2 r255_2) .ret)))
def pf255:AF:={ nt:=12,res:=[.cell 0 3 true],body:=b255 }
abbrev H255 (Q:AE→Sl→St→Prop)(K:Img→Prop):Prop:=∀(σ:Sl)(st:St)(k0:Key)(v0:Nat) (o0_0 o0_1 o0_2:Own)(res0:Img),σ 0 = .p k0 v0 0→lk st.bx k0 = some (v0,[.sl o0_0 (List.map Typ.row res0.types),.sl o0_1 (List.map rowS res0.texts),.sl o0_2 (List.map Fun.row res0.funcs)])→K res0→Q .ret σ st
def T255_0 (prog:Prog)(K:Img→Prop) :Prop:=
  K (Img.mk ([]:List Typ) ([]:List (List UInt8)) [(Fun.mk ([109,97,105,110]:List UInt8) 0 0 ([]:List Fld) (rep 6 Ins.zero) ([]:List Rnn) ([]:List Rnn)),(Fun.mk ([102]:List UInt8) 0 0 [(Fld.mk ([120]:List UInt8) 0),(Fld.mk ([121]:List UInt8) 0)] (rep 6 Ins.zero) ([]:List Rnn) ([]:List Rnn))])
section
variable {prog:Prog}{d:Nat}{Q:AE→Sl→St→Prop}{K:Img→Prop}(hQ:H255 Q K){σ:Sl}{st:St}
include hQ
theorem w255_0 (h:T255_0 prog K ):W prog d (.seq (.reg 0 r255_0) (.seq (.reg 1 r255_1) (.seq (.reg 2 r255_2) .ret))) σ st Q:=
 sq_ (W.reg (s_alloc (e_ (q_ rfl (s_mks (n:=6) (m:=6) (f:=Ins.row) (a:=Ins.zero) rfl rfl rfl rfl rfl (by decide) rfl ⟨by decide,by decide⟩ (s_mvL rfl (e_ (q_ rfl (s_mvL rfl (s_build (f_cons rfl rfl (f_cons rfl rfl f_nil)) (s_mvL rfl (s_build (f_cons rfl rfl f_nil) (s_build (f_cons rfl rfl f_nil) (s_bslM (f:=Fld.row) (l:=[(Fld.mk ([120]:List UInt8) 0),(Fld.mk ([121]:List UInt8) 0)]) rfl rfl (g_cons rfl rfl rfl (g_cons rfl rfl rfl g_nil)) (by simp only [List.map_cons,List.map_nil,Fld.row_eq]; rfl) (s_build (f_cons rfl rfl (f_cons rfl rfl (f_cons rfl rfl f_nil))) (s_bslM (f:=Fun.row) (l:=[(Fun.mk ([109,97,105,110]:List UInt8) 0 0 ([]:List Fld) (rep 6 Ins.zero) ([]:List Rnn) ([]:List Rnn)),(Fun.mk ([102]:List UInt8) 0 0 [(Fld.mk ([120]:List UInt8) 0),(Fld.mk ([121]:List UInt8) 0)] (rep 6 Ins.zero) ([]:List Rnn) ([]:List Rnn))]) rfl rfl (g_cons rfl rfl rfl (g_cons rfl rfl rfl g_nil)) (by simp only [List.map_cons,List.map_nil,Fun.row_eq]; rfl) (s_build (f_cons rfl rfl f_nil) (so_ rfl (show lk _ (d,0) = some (_,([.sl .full (List.map Typ.row ([]:List Typ)),.sl .full (List.map rowS ([]:List (List UInt8))),.sl .full (List.map Fun.row ([]:List Fun))]:List AV)) from lk_here) rfl rfl rfl (e_ (rt_ (hQ _ _ _ _ _ _ _ _ rfl lk_here h)))))))))))))))))))))
end
theorem p255 {prog:Prog}(hf:prog.fn 255 = some pf255)  {K:Img→Prop}(h:T255_0 prog K ) :∃res0:Img,K res0∧Pus prog 255 [] (res0.av):=by
  obtain ⟨v,hv,res0,hk,rfl⟩:=Pus.of (K:=fun v=>∃res0:Img,K res0∧v = res0.av) hf rfl (w255_0 (σ:=sl0 []) (fun σ st k0 v0 o0_0 o0_1 o0_2 res0 H0 HB0 hk=>⟨.ag [.sl o0_0 (List.map Typ.row res0.types),.sl o0_1 (List.map rowS res0.texts),.sl o0_2 (List.map Fun.row res0.funcs)],by simp only [pf255,ares,aresL,ares_cellA (n:=3) H0 HB0 rfl,ares_tmp,Option.map_some],_,rfl,res0,hk,rfl⟩)  h)
  exact ⟨res0,hk,hv⟩
def r256_0:List AI:=[oC 0 (.b false)]
def r256_1:List AI:=[oO 2 (.call true 252 []),
 oO 1 (.alloc [.i .u8 0,.i .i64 0,.i .i64 0,.sl .full []]),
 oS 4 1 2]
def r256_2:List AI:=[oO 3 (.load 4 true (.t 1)),
 oO 4 (.bslice [.s []] 1 [(0,(.c (.s [103,111,114,111,117,116,105,110,101,32,48,58,32,98,108,111,99,107,101,100,32,55])))]),
 oO 5 (.call false 253 [(.t 3),(.c (.s [103,111,114,111,117,116,105,110,101,115])),(.t 4)]),
 oM 6 5,
 oG 7 (.load 4 true (.t 1)) 6 true,
 oG 8 (.bslice [.s []] 1 [(0,(.c (.s [103,111,114,111,117,116,105,110,101,32,48])))]) 6 true,
 oG 9 (.call false 253 [(.t 7),(.c (.s [119,97,105,116,115,32,55])),(.t 8)]) 6 true,
 oO 10 (.pick (.t 6) (.t 9) (.c (.b false))),
 oM 11 10,
 oG 12 (.load 4 true (.t 1)) 11 true,
 oG 13 (.bslice [.s []] 1 [(0,(.c (.s [48,32,49,32,97,116,32,52])))]) 11 true,
 oG 14 (.call false 253 [(.t 12),(.c (.s [105,110,32,34,109,97,105,110,34])),(.t 13)]) 11 true,
 oO 15 (.pick (.t 11) (.t 14) (.c (.b false))),
 oM 16 15,
 oG 17 (.load 4 true (.t 1)) 16 true,
 oG 18 (.bslice [.s []] 1 [(0,(.c (.s [48,32,48,32,48,32,61,32,53])))]) 16 true,
 oG 19 (.call false 253 [(.t 17),(.c (.s [115,108,111,116,32,34,120,34])),(.t 18)]) 16 true,
 oO 20 (.pick (.t 16) (.t 19) (.c (.b false))),
 oM 21 20,
 oG 22 (.load 4 true (.t 1)) 21 true,
 oG 23 (.bslice [.s []] 2 [(0,(.c (.s [35,48,32,49,32,34,102,34,32,97,116,32,50,32,99,97,108,108]))),(1,(.c (.s [35,49,32,48,32,34,109,97,105,110,34,32,97,116,32,52,32,99,97,108,108])))]) 21 true,
 oG 24 (.call false 253 [(.t 22),(.c (.s [102,114,97,109,101,115,32,48])),(.t 23)]) 21 true,
 oO 25 (.pick (.t 21) (.t 24) (.c (.b false))),
 oM 26 25,
 oG 27 (.load 4 true (.t 1)) 26 true,
 oG 28 (.call false 253 [(.t 27),(.c (.s [108,111,99,97,108,115,32,48,32,49])),(.c (.sl .full []))]) 26 true,
 oO 29 (.pick (.t 26) (.t 28) (.c (.b false))),
 oM 30 29,
 oG 31 (.call false 251 [(.c (.s [102,114,97,109,101,115,32,49])),(.c (.i .i64 6))]) 30 true,
 oO 32 (.pick (.t 30) (.t 31) (.c (.b false))),
 oM 33 32,
 oG 34 (.call false 251 [(.c (.s [102,114,97,109,101,115,32,48,49])),(.c (.i .i64 12))]) 33 true,
 oO 35 (.pick (.t 33) (.t 34) (.c (.b false))),
 oM 0 35]
abbrev b256:AC:=(.seq (.reg 0 r256_0) (.seq (.reg 1 r256_1) (.seq (.reg 2 r256_2) .ret)))
def pf256:AF:={ nt:=36,res:=[.tmp 0],body:=b256 }
abbrev H256 (Q:AE→Sl→St→Prop)(K:Bool→Prop):Prop:=∀(σ:Sl)(st:St)(res0:Bool),σ 0 = .b res0→K res0→Q .ret σ st
def T256_0 (prog:Prog)(K:Bool→Prop) :Prop:=
  ∃r'1:Sta,(PuN prog 252 [] (fun r=>r = r'1.avo .full))∧∃r'5:Bool,Pus prog 253 [r'1.av,.s ([103,111,114,111,117,116,105,110,101,115]:List UInt8),.sl .ext (List.map rowS [([103,111,114,111,117,116,105,110,101,32,48,58,32,98,108,111,99,107,101,100,32,55]:List UInt8)])] (.b r'5)∧(r'5 = true→∃r'8:Bool,Pus prog 253 [r'1.av,.s ([119,97,105,116,115,32,55]:List UInt8),.sl .ext (List.map rowS [([103,111,114,111,117,116,105,110,101,32,48]:List UInt8)])] (.b r'8)∧(r'8 = true→∃r'11:Bool,Pus prog 253 [r'1.av,.s ([105,110,32,34,109,97,105,110,34]:List UInt8),.sl .ext (List.map rowS [([48,32,49,32,97,116,32,52]:List UInt8)])] (.b r'11)∧(r'11 = true→∃r'14:Bool,Pus prog 253 [r'1.av,.s ([115,108,111,116,32,34,120,34]:List UInt8),.sl .ext (List.map rowS [([48,32,48,32,48,32,61,32,53]:List UInt8)])] (.b r'14)∧(r'14 = true→∃r'17:Bool,Pus prog 253 [r'1.av,.s ([102,114,97,109,101,115,32,48]:List UInt8),.sl .ext (List.map rowS [([35,48,32,49,32,34,102,34,32,97,116,32,50,32,99,97,108,108]:List UInt8),([35,49,32,48,32,34,109,97,105,110,34,32,97,116,32,52,32,99,97,108,108]:List UInt8)])] (.b r'17)∧(r'17 = true→∃r'20:Bool,Pus prog 253 [r'1.av,.s ([108,111,99,97,108,115,32,48,32,49]:List UInt8),.sl .ext (List.map rowS ([]:List (List UInt8)))] (.b r'20)∧(r'20 = true→∃r'23:Bool,Pus prog 251 [.s ([102,114,97,109,101,115,32,49]:List UInt8),.i .i64 6] (.b r'23)∧(r'23 = true→∃r'26:Bool,Pus prog 251 [.s ([102,114,97,109,101,115,32,48,49]:List UInt8),.i .i64 12] (.b r'26)∧K r'26)∧(r'23 = false→K false))∧(r'20 = false→K false))∧(r'17 = false→K false))∧(r'14 = false→K false))∧(r'11 = false→K false))∧(r'8 = false→K false))∧(r'5 = false→K false)
section
variable {prog:Prog}{d:Nat}{Q:AE→Sl→St→Prop}{K:Bool→Prop}(hQ:H256 Q K){σ:Sl}{st:St}
include hQ
theorem w256_0 (h:T256_0 prog K ):W prog d (.seq (.reg 0 r256_0) (.seq (.reg 1 r256_1) (.seq (.reg 2 r256_2) .ret))) σ st Q:=
 q_ rfl (m_ (e_ (sq_ (W.reg (h.elim fun r'1 e'2=>s_callN sen (e'2.1) (fun st'3 hf'4=>s_alloc (so_ rfl ((hf'4.1 (d,4097) (Nat.lt_succ_self d) key_dn).trans (show lk _ (d,4097) = some (_,([.i .u8 0,.i .i64 0,.i .i64 0,.sl .full (List.map Rou.row ([]:List Rou))]:List AV)) from lk_here)) rfl rfl rfl (e_ (q_ rfl (l_ rfl lk_here rfl rfl (s_bslM (f:=rowS) (l:=[([103,111,114,111,117,116,105,110,101,32,48,58,32,98,108,111,99,107,101,100,32,55]:List UInt8)]) rfl rfl (g_cons rfl rfl rfl g_nil) rfl (e'2.2.elim fun r'5 e'6=>ca_ (sc rfl rfl (sc rfl rfl (sc rfl rfl sn))) e'6.1 (s_mvB rfl (eb_ (g:=6) rfl (fun g'7=>gy_ rfl (l_ rfl lk_here rfl rfl (gy_ rfl (s_bslM (f:=rowS) (l:=[([103,111,114,111,117,116,105,110,101,32,48]:List UInt8)]) rfl rfl (g_cons rfl rfl rfl g_nil) rfl (gy_ rfl ((e'6.2.1 g'7).elim fun r'8 e'9=>ca_ (sc rfl rfl (sc rfl rfl (sc rfl rfl sn))) e'9.1 (pt_ rfl rfl (s_mvB rfl (eb_ (g:=11) rfl (fun g'10=>gy_ rfl (l_ rfl lk_here rfl rfl (gy_ rfl (s_bslM (f:=rowS) (l:=[([48,32,49,32,97,116,32,52]:List UInt8)]) rfl rfl (g_cons rfl rfl rfl g_nil) rfl (gy_ rfl ((e'9.2.1 g'10).elim fun r'11 e'12=>ca_ (sc rfl rfl (sc rfl rfl (sc rfl rfl sn))) e'12.1 (pt_ rfl rfl (s_mvB rfl (eb_ (g:=16) rfl (fun g'13=>gy_ rfl (l_ rfl lk_here rfl rfl (gy_ rfl (s_bslM (f:=rowS) (l:=[([48,32,48,32,48,32,61,32,53]:List UInt8)]) rfl rfl (g_cons rfl rfl rfl g_nil) rfl (gy_ rfl ((e'12.2.1 g'13).elim fun r'14 e'15=>ca_ (sc rfl rfl (sc rfl rfl (sc rfl rfl sn))) e'15.1 (pt_ rfl rfl (s_mvB rfl (eb_ (g:=21) rfl (fun g'16=>gy_ rfl (l_ rfl lk_here rfl rfl (gy_ rfl (s_bslM (f:=rowS) (l:=[([35,48,32,49,32,34,102,34,32,97,116,32,50,32,99,97,108,108]:List UInt8),([35,49,32,48,32,34,109,97,105,110,34,32,97,116,32,52,32,99,97,108,108]:List UInt8)]) rfl rfl (g_cons rfl rfl rfl (g_cons rfl rfl rfl g_nil)) rfl (gy_ rfl ((e'15.2.1 g'16).elim fun r'17 e'18=>ca_ (sc rfl rfl (sc rfl rfl (sc rfl rfl sn))) e'18.1 (pt_ rfl rfl (s_mvB rfl (eb_ (g:=26) rfl (fun g'19=>gy_ rfl (l_ rfl lk_here rfl rfl (gy_ rfl ((e'18.2.1 g'19).elim fun r'20 e'21=>ca_ (sc rfl rfl (sc rfl rfl (sc (show _ = AV.sl .full (List.map rowS []) from rfl) rfl sn))) e'21.1 (pt_ rfl rfl (s_mvB rfl (eb_ (g:=30) rfl (fun g'22=>gy_ rfl ((e'21.2.1 g'22).elim fun r'23 e'24=>ca_ (sc rfl rfl (sc rfl rfl sn)) e'24.1 (pt_ rfl rfl (s_mvB rfl (eb_ (g:=33) rfl (fun g'25=>gy_ rfl ((e'24.2.1 g'25).elim fun r'26 e'27=>ca_ (sc rfl rfl (sc rfl rfl sn)) e'27.1 (pt_ rfl rfl (s_mvB rfl (e_ (rt_ (hQ _ _ _ rfl e'27.2))))))) (fun g'25=>gn_ (b:=false) rfl rfl (pf_ rfl rfl (s_mvB rfl (e_ (rt_ (hQ _ _ _ rfl (e'24.2.2 g'25)))))))))))) (fun g'22=>gn_ (b:=false) rfl rfl (pf_ rfl rfl (s_mvB rfl (gn_ (b:=false) rfl rfl (pf_ rfl rfl (s_mvB rfl (e_ (rt_ (hQ _ _ _ rfl (e'21.2.2 g'22))))))))))))))))) (fun g'19=>gn_ (b:=false) rfl rfl (gn_ (b:=false) rfl rfl (pf_ rfl rfl (s_mvB rfl (gn_ (b:=false) rfl rfl (pf_ rfl rfl (s_mvB rfl (gn_ (b:=false) rfl rfl (pf_ rfl rfl (s_mvB rfl (e_ (rt_ (hQ _ _ _ rfl (e'18.2.2 g'19))))))))))))))))))))))) (fun g'16=>gn_ (b:=false) rfl rfl (gn_ (b:=false) rfl rfl (gn_ (b:=false) rfl rfl (pf_ rfl rfl (s_mvB rfl (gn_ (b:=false) rfl rfl (gn_ (b:=false) rfl rfl (pf_ rfl rfl (s_mvB rfl (gn_ (b:=false) rfl rfl (pf_ rfl rfl (s_mvB rfl (gn_ (b:=false) rfl rfl (pf_ rfl rfl (s_mvB rfl (e_ (rt_ (hQ _ _ _ rfl (e'15.2.2 g'16)))))))))))))))))))))))))))) (fun g'13=>gn_ (b:=false) rfl rfl (gn_ (b:=false) rfl rfl (gn_ (b:=false) rfl rfl (pf_ rfl rfl (s_mvB rfl (gn_ (b:=false) rfl rfl (gn_ (b:=false) rfl rfl (gn_ (b:=false) rfl rfl (pf_ rfl rfl (s_mvB rfl (gn_ (b:=false) rfl rfl (gn_ (b:=false) rfl rfl (pf_ rfl rfl (s_mvB rfl (gn_ (b:=false) rfl rfl (pf_ rfl rfl (s_mvB rfl (gn_ (b:=false) rfl rfl (pf_ rfl rfl (s_mvB rfl (e_ (rt_ (hQ _ _ _ rfl (e'12.2.2 g'13))))))))))))))))))))))))))))))))) (fun g'10=>gn_ (b:=false) rfl rfl (gn_ (b:=false) rfl rfl (gn_ (b:=false) rfl rfl (pf_ rfl rfl (s_mvB rfl (gn_ (b:=false) rfl rfl (gn_ (b:=false) rfl rfl (gn_ (b:=false) rfl rfl (pf_ rfl rfl (s_mvB rfl (gn_ (b:=false) rfl rfl (gn_ (b:=false) rfl rfl (gn_ (b:=false) rfl rfl (pf_ rfl rfl (s_mvB rfl (gn_ (b:=false) rfl rfl (gn_ (b:=false) rfl rfl (pf_ rfl rfl (s_mvB rfl (gn_ (b:=false) rfl rfl (pf_ rfl rfl (s_mvB rfl (gn_ (b:=false) rfl rfl (pf_ rfl rfl (s_mvB rfl (e_ (rt_ (hQ _ _ _ rfl (e'9.2.2 g'10)))))))))))))))))))))))))))))))))))))) (fun g'7=>gn_ (b:=false) rfl rfl (gn_ (b:=false) rfl rfl (gn_ (b:=false) rfl rfl (pf_ rfl rfl (s_mvB rfl (gn_ (b:=false) rfl rfl (gn_ (b:=false) rfl rfl (gn_ (b:=false) rfl rfl (pf_ rfl rfl (s_mvB rfl (gn_ (b:=false) rfl rfl (gn_ (b:=false) rfl rfl (gn_ (b:=false) rfl rfl (pf_ rfl rfl (s_mvB rfl (gn_ (b:=false) rfl rfl (gn_ (b:=false) rfl rfl (gn_ (b:=false) rfl rfl (pf_ rfl rfl (s_mvB rfl (gn_ (b:=false) rfl rfl (gn_ (b:=false) rfl rfl (pf_ rfl rfl (s_mvB rfl (gn_ (b:=false) rfl rfl (pf_ rfl rfl (s_mvB rfl (gn_ (b:=false) rfl rfl (pf_ rfl rfl (s_mvB rfl (e_ (rt_ (hQ _ _ _ rfl (e'6.2.2 g'7))))))))))))))))))))))))))))))))))))))))))))))))
end
theorem p256 {prog:Prog}(hf:prog.fn 256 = some pf256)  {K:Bool→Prop}(h:T256_0 prog K ) :∃res0:Bool,K res0∧Pus prog 256 [] (.b res0):=by
  obtain ⟨v,hv,res0,hk,rfl⟩:=Pus.of (K:=fun v=>∃res0:Bool,K res0∧v = .b res0) hf rfl (w256_0 (σ:=sl0 []) (fun σ st   res0 H0 hk=>⟨.b res0,by simp only [pf256,ares,aresL,H0,ares1,Option.map_some],_,rfl,res0,hk,rfl⟩)  h)
  exact ⟨res0,hk,hv⟩
abbrev H242 (Q:AE→Sl→St→Prop)(K:Bool→Prop):Prop:=∀(σ:Sl)(st:St)(res0:Bool),σ 4 = .b res0→K res0→Q .ret σ st
section
variable {prog:Prog}{d:Nat}{Q:AE→Sl→St→Prop}{K:Bool→Prop}(hQ:H242 Q K){σ:Sl}{st:St}
include hQ
end
end Go.AM

/- Parts of the proof. -/
namespace Go.AM
open Go
set_option linter.unusedVariables false
set_option linter.unusedSimpArgs false
set_option maxRecDepth 4000
attribute [local irreducible] WO fillCells fillRows
def r264_0:List AI:=[oO 3 (.box 3 (.t 0)),
 oO 4 (.box 4 (.t 1)),
 oO 5 (.box 5 (.t 2)),
 oC 6 (.sl .full []),
 oC 7 (.i .i64 0)]
def r264_1:List AI:=[oO 13 (.load 5 true (.t 5)),
 oO 14 (.call false 247 [(.t 13)]),
 oM 8 14]
def r264_2:List AI:=[oM 15 8,
 oB 16 .neq (.t 15) (.c (.i .i64 0))]
def r264_3:List AI:=[oM 17 8,
 oC 6 (.sl .full []),
 oM 7 17]
def r264_4:List AI:=[oO 18 (.load 3 true (.t 3)),
 oO 19 (.load 4 true (.t 4)),
 oO 20 (.call false 213 [(.t 18),(.t 19)]),
 oM 9 20]
def r264_5:List AI:=[oM 21 9,
 oB 22 .neq (.t 21) (.c (.i .i64 0))]
def r264_6:List AI:=[oM 23 9,
 oC 6 (.sl .full []),
 oM 7 23]
def r264_7:List AI:=[oO 24 (.load 3 true (.t 3)),
 oO 25 (.load 4 true (.t 4)),
 oO 26 (.load 5 true (.t 5)),
 oO 27 (.build [.sl .full [],.sl .full [],.sl .full [],.i .u8 0,.i .i64 0,.i .i64 0,.sl .full [],.i .u8 0,.i .i64 0,.i .i64 0,.i .i64 0,.s [],.sl .full []] [(0,3,(.t 24)),(3,4,(.t 25)),(7,5,(.t 26))]),
 oO 28 (.box 13 (.t 27)),
 oO 10 (.alloc [.np]),
 oS 1 10 28]
def r264_8:List AI:=[oL 29 10,
 oO 30 (.mkbf 268 [(.t 29)]),
 oM 11 30]
def r264_9:List AI:=[oF 31 0 5,
 oL 32 31]
def r264_10:List AI:=[oB 34 .eql (.t 32) (.c (.i .u8 1)),
 oM 33 34]
def r264_11:List AI:=[oL 35 10,
 oO 36 (.mkbf 269 [(.t 35)]),
 oM 11 36]
def r264_12:List AI:=[oB 38 .eql (.t 32) (.c (.i .u8 6)),
 oM 37 38]
def r264_13:List AI:=[oL 39 10,
 oO 40 (.mkbf 270 [(.t 39)]),
 oM 11 40]
def r264_14:List AI:=[oB 42 .eql (.t 32) (.c (.i .u8 7)),
 oM 41 42]
def r264_15:List AI:=[oO 43 (.mkfn 271 [(.t 10)]),
 oM 11 43]
def r264_16:List AI:=[oB 45 .eql (.t 32) (.c (.i .u8 8)),
 oM 44 45]
def r264_17:List AI:=[oO 46 (.mkfn 274 [(.t 10)]),
 oM 11 46]
def r264_18:List AI:=[oM 47 11,
 oO 48 (.callv (.t 47) []),
 oM 12 48]
def r264_19:List AI:=[oM 49 12,
 oB 50 .neq (.t 49) (.c (.i .i64 0))]
def r264_20:List AI:=[oM 51 12,
 oC 6 (.sl .full []),
 oM 7 51]
def r264_21:List AI:=[oL 52 10,
 oN 53 52,
 oF 54 12 53,
 oL 55 54,
 oM 6 55,
 oC 7 (.i .i64 0)]
abbrev c264_0:AC:=(.seq (.seq (.reg 18 r264_18) (.seq (.reg 19 r264_19) (.cond (.t 50) (.seq (.reg 20 r264_20) .ret) .skip))) (.seq (.reg 500021 r264_21) .ret))
abbrev c264_1:AC:=(.seq (.seq (.reg 1 r264_1) (.seq (.reg 2 r264_2) (.cond (.t 16) (.seq (.reg 3 r264_3) .ret) .skip))) (.seq (.seq (.reg 4 r264_4) (.seq (.reg 5 r264_5) (.cond (.t 22) (.seq (.reg 6 r264_6) .ret) .skip))) (.seq (.reg 7 r264_7) (.seq (.reg 8 r264_8) (.seq (.seq (.reg 9 r264_9) (.block 0 (.seq (.reg 10 r264_10) (.cond (.t 33) (.reg 11 r264_11) (.seq (.reg 12 r264_12) (.cond (.t 37) (.reg 13 r264_13) (.seq (.reg 14 r264_14) (.cond (.t 41) (.reg 15 r264_15) (.seq (.reg 16 r264_16) (.cond (.t 44) (.reg 17 r264_17) .skip)))))))))) c264_0)))))
abbrev b264:AC:=(.seq (.reg 0 r264_0) c264_1)
def pf264:AF:={ nt:=56,res:=[.tmp 6,.tmp 7],body:=b264 }
abbrev H264 (Q:AE→Sl→St→Prop)(K:List (List UInt8)→Int→Prop):Prop:=∀(σ:Sl)(st:St)(o0:Own)(res0:List (List UInt8))(res1:Int),σ 6 = .sl o0 (List.map rowS res0)→σ 7 = .i .i64 res1→K res0 res1→Q .ret σ st
def T264_1 (prog:Prog)(K:List (List UInt8)→Int→Prop)(m0:Img)(m1:Sta)(m2:Qry):Prop:=
  ∃r'1:Int,Pus prog 247 [m2.av] (.i .i64 r'1)∧(r'1≠0→K ([]:List (List UInt8)) r'1)∧(¬(r'1≠0)→∃r'4:Int,Pus prog 213 [m0.av,m1.av] (.i .i64 r'4)∧(r'4≠0→K ([]:List (List UInt8)) r'4)∧(¬(r'4≠0)→(m2.kind = 1→∃r'8:Int,∃b'14:Dsk,PuX prog 269 (Dk (Dsk.mk m0 m1 m2 ([]:List (List UInt8)))) [] (fun r=>r = .i .i64 r'8) ((Dk b'14))∧(r'8≠0→K ([]:List (List UInt8)) r'8)∧(¬(r'8≠0)→K b'14.out 0))∧(¬(m2.kind = 1)→(m2.kind = 6→∃r'19:Int,∃b'25:Dsk,PuX prog 270 (Dk (Dsk.mk m0 m1 m2 ([]:List (List UInt8)))) [] (fun r=>r = .i .i64 r'19) ((Dk b'25))∧(r'19≠0→K ([]:List (List UInt8)) r'19)∧(¬(r'19≠0)→K b'25.out 0))∧(¬(m2.kind = 6)→(m2.kind = 7→∃r'30:Int,∃b'36:Dsk,PuV prog 271 (Dk (Dsk.mk m0 m1 m2 ([]:List (List UInt8)))) (fun r=>r = .i .i64 r'30) ((Dk b'36))∧(r'30≠0→K ([]:List (List UInt8)) r'30)∧(¬(r'30≠0)→K b'36.out 0))∧(¬(m2.kind = 7)→(m2.kind = 8→∃r'41:Int,∃b'47:Dsk,PuV prog 274 (Dk (Dsk.mk m0 m1 m2 ([]:List (List UInt8)))) (fun r=>r = .i .i64 r'41) ((Dk b'47))∧(r'41≠0→K ([]:List (List UInt8)) r'41)∧(¬(r'41≠0)→K b'47.out 0))∧(¬(m2.kind = 8)→∃r'51:Int,∃b'57:Dsk,PuX prog 268 (Dk (Dsk.mk m0 m1 m2 ([]:List (List UInt8)))) [] (fun r=>r = .i .i64 r'51) ((Dk b'57))∧(r'51≠0→K ([]:List (List UInt8)) r'51)∧(¬(r'51≠0)→K b'57.out 0)))))))
def T264_0 (prog:Prog)(K:List (List UInt8)→Int→Prop)(m0:Img)(s1:Sta)(q2:Qry):Prop:=
  T264_1 prog K m0 s1 q2
section
variable {prog:Prog}{d:Nat}{Q:AE→Sl→St→Prop}{K:List (List UInt8)→Int→Prop}(hQ:H264 Q K){σ:Sl}{st:St}
include hQ
theorem w264_1 {m0:Img}{m1:Sta}{m2:Qry}{v0:Nat}{v1:Nat}{v2:Nat}(H3:σ 3 = .p (d,0) v0 0)(H4:σ 4 = .p (d,1) v1 0)(H5:σ 5 = .p (d,2) v2 0)(B0:lk st.bx (d,0) = some (v0,[.sl .ext (List.map Typ.row m0.types),.sl .ext (List.map rowS m0.texts),.sl .ext (List.map Fun.row m0.funcs)]))(B1:lk st.bx (d,1) = some (v1,[.i .u8 m1.outcome,.i .i64 m1.failing,.i .i64 m1.steps,.sl .ext (List.map Rou.row m1.routines)]))(B2:lk st.bx (d,2) = some (v2,[.i .u8 m2.kind,.i .i64 m2.g,.i .i64 m2.k,.i .i64 m2.key,.s m2.name]))(h:T264_1 prog K m0 m1 m2):W prog d c264_1 σ st Q:=
 sq_ (q_ rfl (l_ H5 B2 rfl rfl (h.elim fun r'1 e'2=>ca_ (sc rfl rfl sn) e'2.1 (m_ (e_ (q_ rfl (m_ (b_ rfl rfl neq_ (e_ (cs_ rfl (fun g'3=>q_ rfl (m_ (s_mvL (f:=rowS) (l:=[]) rfl (m_ (e_ (rt_ (hQ _ _ _ _ _ rfl rfl (e'2.2.1 g'3)))))))) (fun g'3=>sk_ (sq_ (q_ rfl (l_ H3 B0 rfl rfl (l_ H4 B1 rfl rfl ((e'2.2.2 g'3).elim fun r'4 e'5=>ca_ (sc rfl rfl (sc rfl rfl sn)) e'5.1 (m_ (e_ (q_ rfl (m_ (b_ rfl rfl neq_ (e_ (cs_ rfl (fun g'6=>q_ rfl (m_ (s_mvL (f:=rowS) (l:=[]) rfl (m_ (e_ (rt_ (hQ _ _ _ _ _ rfl rfl (e'5.2.1 g'6)))))))) (fun g'6=>sk_ (sq_ (W.reg (l_ H3 (lk_other rfl B0) rfl rfl (l_ H4 (lk_other rfl B1) rfl rfl (l_ H5 (lk_other rfl B2) rfl rfl (s_build (f_cons rfl rfl (f_cons rfl rfl (f_cons rfl rfl f_nil))) (s_box rfl rfl (s_alloc (so_ rfl (lk_other rfl (show lk _ (d,28677) = some (_,([.np]:List AV)) from lk_here)) rfl rfl rfl (e_ (q_ rfl (l_ rfl lk_here rfl rfl (s_mkbf (sec rfl sen) (m_ (e_ (sq_ (q_ rfl (f_ H5 (l_ rfl (lk_other rfl (lk_other rfl (lk_other rfl B2))) rfl rfl (e_ (bk_ (q_ rfl (b_ rfl rfl eql_ (m_ (e_ (cs_ rfl (fun g'7=>W.reg0 rfl fun _ _=>l_ rfl lk_here rfl rfl (s_mkbf (sec rfl sen) (m_ (e_ (sq_ (q_ rfl (m_ (((e'5.2.2 g'6).1 g'7).elim fun r'8 e'17=>e'17.elim fun b'14 e'10=>s_callB rfl sen e'10.1 (Nat.lt_succ_self d) (Dk.other (key_LL rfl) (Dk.new (m:=(Dsk.mk m0 m1 m2 ([]:List (List UInt8)))) (show lk _ (d,28676) = some (_,([.sl .ext (List.map Typ.row m0.types),.sl .ext (List.map rowS m0.texts),.sl .ext (List.map Fun.row m0.funcs),.i .u8 m1.outcome,.i .i64 m1.failing,.i .i64 m1.steps,.sl .ext (List.map Rou.row m1.routines),.i .u8 m2.kind,.i .i64 m2.g,.i .i64 m2.k,.i .i64 m2.key,.s m2.name,.sl .full (List.map rowS ([]:List (List UInt8)))]:List AV)) from lk_here) rfl)) (fun st'11 hb'12 hf'13=>m_ (e_ (q_ rfl (m_ (b_ rfl rfl neq_ (e_ (cs_ rfl (fun g'15=>q_ rfl (m_ (s_mvL (f:=rowS) (l:=[]) rfl (m_ (e_ (rt_ (hQ _ _ _ _ _ rfl rfl (e'10.2.1 g'15)))))))) (fun g'15=>sk_ (q_ rfl (l_ rfl ((hf'13.1 (d,28677) (Nat.lt_succ_self d) (key_LL rfl)).trans lk_here) rfl rfl (s_nilP rfl (f_ rfl (s_loadO rfl hb'12 (fun o'16_=>s_mvL rfl (m_ (e_ (rt_ (hQ _ _ _ _ _ rfl rfl (e'10.2.2 g'15))))))))))))))))))))))))))) (fun g'7=>q_ rfl (b_ rfl rfl eql_ (m_ (e_ (cs_ rfl (fun g'18=>W.reg0 rfl fun _ _=>l_ rfl lk_here rfl rfl (s_mkbf (sec rfl sen) (m_ (e_ (sq_ (q_ rfl (m_ ((((e'5.2.2 g'6).2 g'7).1 g'18).elim fun r'19 e'28=>e'28.elim fun b'25 e'21=>s_callB rfl sen e'21.1 (Nat.lt_succ_self d) (Dk.other (key_LL rfl) (Dk.new (m:=(Dsk.mk m0 m1 m2 ([]:List (List UInt8)))) (show lk _ (d,28676) = some (_,([.sl .ext (List.map Typ.row m0.types),.sl .ext (List.map rowS m0.texts),.sl .ext (List.map Fun.row m0.funcs),.i .u8 m1.outcome,.i .i64 m1.failing,.i .i64 m1.steps,.sl .ext (List.map Rou.row m1.routines),.i .u8 m2.kind,.i .i64 m2.g,.i .i64 m2.k,.i .i64 m2.key,.s m2.name,.sl .full (List.map rowS ([]:List (List UInt8)))]:List AV)) from lk_here) rfl)) (fun st'22 hb'23 hf'24=>m_ (e_ (q_ rfl (m_ (b_ rfl rfl neq_ (e_ (cs_ rfl (fun g'26=>q_ rfl (m_ (s_mvL (f:=rowS) (l:=[]) rfl (m_ (e_ (rt_ (hQ _ _ _ _ _ rfl rfl (e'21.2.1 g'26)))))))) (fun g'26=>sk_ (q_ rfl (l_ rfl ((hf'24.1 (d,28677) (Nat.lt_succ_self d) (key_LL rfl)).trans lk_here) rfl rfl (s_nilP rfl (f_ rfl (s_loadO rfl hb'23 (fun o'27_=>s_mvL rfl (m_ (e_ (rt_ (hQ _ _ _ _ _ rfl rfl (e'21.2.2 g'26))))))))))))))))))))))))))) (fun g'18=>q_ rfl (b_ rfl rfl eql_ (m_ (e_ (cs_ rfl (fun g'29=>W.reg0 rfl fun _ _=>s_mkfn (sec rfl sen) (m_ (e_ (sq_ (q_ rfl (m_ (((((e'5.2.2 g'6).2 g'7).2 g'18).1 g'29).elim fun r'30 e'39=>e'39.elim fun b'36 e'32=>s_callVV rfl e'32.1 (Nat.lt_succ_self d) (Nat.lt_succ_self d) lk_here (Dk.other (key_LL rfl) (Dk.new (m:=(Dsk.mk m0 m1 m2 ([]:List (List UInt8)))) (show lk _ (d,28676) = some (_,([.sl .ext (List.map Typ.row m0.types),.sl .ext (List.map rowS m0.texts),.sl .ext (List.map Fun.row m0.funcs),.i .u8 m1.outcome,.i .i64 m1.failing,.i .i64 m1.steps,.sl .ext (List.map Rou.row m1.routines),.i .u8 m2.kind,.i .i64 m2.g,.i .i64 m2.k,.i .i64 m2.key,.s m2.name,.sl .full (List.map rowS ([]:List (List UInt8)))]:List AV)) from lk_here) rfl)) (fun st'33 hb'34 hf'35=>m_ (e_ (q_ rfl (m_ (b_ rfl rfl neq_ (e_ (cs_ rfl (fun g'37=>q_ rfl (m_ (s_mvL (f:=rowS) (l:=[]) rfl (m_ (e_ (rt_ (hQ _ _ _ _ _ rfl rfl (e'32.2.1 g'37)))))))) (fun g'37=>sk_ (q_ rfl (l_ rfl ((hf'35.1 (d,28677) (Nat.lt_succ_self d) (key_LL rfl)).trans lk_here) rfl rfl (s_nilP rfl (f_ rfl (s_loadO rfl hb'34 (fun o'38_=>s_mvL rfl (m_ (e_ (rt_ (hQ _ _ _ _ _ rfl rfl (e'32.2.2 g'37)))))))))))))))))))))))))) (fun g'29=>q_ rfl (b_ rfl rfl eql_ (m_ (e_ (cs_ rfl (fun g'40=>W.reg0 rfl fun _ _=>s_mkfn (sec rfl sen) (m_ (e_ (sq_ (q_ rfl (m_ ((((((e'5.2.2 g'6).2 g'7).2 g'18).2 g'29).1 g'40).elim fun r'41 e'50=>e'50.elim fun b'47 e'43=>s_callVV rfl e'43.1 (Nat.lt_succ_self d) (Nat.lt_succ_self d) lk_here (Dk.other (key_LL rfl) (Dk.new (m:=(Dsk.mk m0 m1 m2 ([]:List (List UInt8)))) (show lk _ (d,28676) = some (_,([.sl .ext (List.map Typ.row m0.types),.sl .ext (List.map rowS m0.texts),.sl .ext (List.map Fun.row m0.funcs),.i .u8 m1.outcome,.i .i64 m1.failing,.i .i64 m1.steps,.sl .ext (List.map Rou.row m1.routines),.i .u8 m2.kind,.i .i64 m2.g,.i .i64 m2.k,.i .i64 m2.key,.s m2.name,.sl .full (List.map rowS ([]:List (List UInt8)))]:List AV)) from lk_here) rfl)) (fun st'44 hb'45 hf'46=>m_ (e_ (q_ rfl (m_ (b_ rfl rfl neq_ (e_ (cs_ rfl (fun g'48=>q_ rfl (m_ (s_mvL (f:=rowS) (l:=[]) rfl (m_ (e_ (rt_ (hQ _ _ _ _ _ rfl rfl (e'43.2.1 g'48)))))))) (fun g'48=>sk_ (q_ rfl (l_ rfl ((hf'46.1 (d,28677) (Nat.lt_succ_self d) (key_LL rfl)).trans lk_here) rfl rfl (s_nilP rfl (f_ rfl (s_loadO rfl hb'45 (fun o'49_=>s_mvL rfl (m_ (e_ (rt_ (hQ _ _ _ _ _ rfl rfl (e'43.2.2 g'48)))))))))))))))))))))))))) (fun g'40=>sk_ (sq_ (q_ rfl (m_ ((((((e'5.2.2 g'6).2 g'7).2 g'18).2 g'29).2 g'40).elim fun r'51 e'60=>e'60.elim fun b'57 e'53=>s_callB rfl sen e'53.1 (Nat.lt_succ_self d) (Dk.other (key_LL rfl) (Dk.new (m:=(Dsk.mk m0 m1 m2 ([]:List (List UInt8)))) (show lk _ (d,28676) = some (_,([.sl .ext (List.map Typ.row m0.types),.sl .ext (List.map rowS m0.texts),.sl .ext (List.map Fun.row m0.funcs),.i .u8 m1.outcome,.i .i64 m1.failing,.i .i64 m1.steps,.sl .ext (List.map Rou.row m1.routines),.i .u8 m2.kind,.i .i64 m2.g,.i .i64 m2.k,.i .i64 m2.key,.s m2.name,.sl .full (List.map rowS ([]:List (List UInt8)))]:List AV)) from lk_here) rfl)) (fun st'54 hb'55 hf'56=>m_ (e_ (q_ rfl (m_ (b_ rfl rfl neq_ (e_ (cs_ rfl (fun g'58=>q_ rfl (m_ (s_mvL (f:=rowS) (l:=[]) rfl (m_ (e_ (rt_ (hQ _ _ _ _ _ rfl rfl (e'53.2.1 g'58)))))))) (fun g'58=>sk_ (q_ rfl (l_ rfl ((hf'56.1 (d,28677) (Nat.lt_succ_self d) (key_LL rfl)).trans lk_here) rfl rfl (s_nilP rfl (f_ rfl (s_loadO rfl hb'55 (fun o'59_=>s_mvL rfl (m_ (e_ (rt_ (hQ _ _ _ _ _ rfl rfl (e'53.2.2 g'58)))))))))))))))))))))))))))))))))))))))))))))))))))))))))))))))))))))))))))))))))))))))))
theorem w264_0 {m0:Img}{s1:Sta}{q2:Qry}(H0:σ 0 = m0.av)(H1:σ 1 = s1.av)(H2:σ 2 = q2.av)(h:T264_0 prog K m0 s1 q2):W prog d (.seq (.reg 0 r264_0) c264_1) σ st Q:=
 q_ rfl (s_box H0 rfl (s_box H1 rfl (s_box H2 rfl (s_mvL (f:=rowS) (l:=[]) rfl (m_ (e_ (w264_1 hQ rfl rfl rfl (lk_other rfl (lk_other rfl lk_here)) (lk_other rfl lk_here) lk_here h)))))))
end
theorem p264 {prog:Prog}(hf:prog.fn 264 = some pf264){m0:Img}{s1:Sta}{q2:Qry}{K:List (List UInt8)→Int→Prop}(h:T264_0 prog K m0 s1 q2) :∃res0:List (List UInt8),∃res1:Int,K res0 res1∧Pus prog 264 [m0.av,s1.av,q2.av] (.tup [.sl .ext (List.map rowS res0),.i .i64 res1]):=by
  obtain ⟨v,hv,res0,res1,hk,rfl⟩:=Pus.of (K:=fun v=>∃res0:List (List UInt8),∃res1:Int,K res0 res1∧v = .tup [.sl .ext (List.map rowS res0),.i .i64 res1]) hf rfl (w264_0 (σ:=sl0 [m0.av,s1.av,q2.av]) (fun σ st  o0 res0 res1 H6 H7 hk=>⟨.tup [.sl o0 (List.map rowS res0),.i .i64 res1],by simp only [pf264,ares,aresL,H6,H7,ares1,Option.map_some],_,rfl,res0,res1,hk,rfl⟩) rfl rfl rfl h)
  exact ⟨res0,res1,hk,hv⟩
end Go.AM
