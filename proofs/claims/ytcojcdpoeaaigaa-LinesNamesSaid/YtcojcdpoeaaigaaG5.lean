/- Parts of the proof: Hm, K38n, C30, C30b, V38b, V38c, C38, C38b, C38c, C38d, C38e, C38f, C38g, V38f, C38h, C38i, C38j, C38k, C38l, C38m, C38n. -/
import Derived.Test.YtcojcdpoeaaigaaG4
import Derived.Test.YtcojcdpoeaaigaaG2
import Derived.Test.YtcojcdpoeaaigaaRows
import Derived.Test.YtcojcdpoeaaigaaG3
import Derived.Shelf.Strings.Builder1
set_option linter.all false
namespace Go.AM
open Go Go.RowKit Go.BigFrame
def code68:List Value:=(List.replicate 9 [Value.int .u8 0,.int .i64 0,.int .i64 0,.int .i64 0]).flatten
def more68:List Value:=(List.replicate 14 [Value.string ⟨#[]⟩,.int .i64 0]).flatten
theorem m68_row {i:Int}:(m68 i).row=[.sl .ext [],.sl .ext [],.sl .ext ((m68 i).funcs.map Fun.row)]:=by
  unfold m68
  split
  · rfl
  · split<;>rfl
theorem nil68 {H:Hp}:Fz H (.sl .ext []) nilS:=.sl [] none 0 0 0 0 (fun _ _=>.nilFunc) (fun h=>absurd rfl h) (Nat.le_refl _) (by simp) (by simp) (by simp)
theorem funs68 {H:Hp} {s:List UInt8} {more:List Fld} {sv cv:Value} (hs:Fz H (.sl .ext (([Fld.mk [97] 0,Fld.mk s 0,Fld.mk [122] 0]++more).map Fld.row)) sv) (hs1:sv.oneCell'=true) (hc:Fz H (.sl .ext ((rep 9 Ins.zero).map Ins.row)) cv) (hc1:cv.oneCell'=true) :
    Rws H 7 ((im68 s more).funcs.map Fun.row) (funcs68 sv cv):=
  ⟨rfl,⟨⟨.s _,rfl⟩,⟨.i _ _,rfl⟩,⟨.i _ _,rfl⟩,⟨nil68,rfl⟩,⟨hc,hc1⟩,⟨nil68,rfl⟩,⟨nil68,rfl⟩,trivial⟩,
   rfl,⟨⟨.s _,rfl⟩,⟨.i _ _,rfl⟩,⟨.i _ _,rfl⟩,⟨nil68,rfl⟩,⟨hc,hc1⟩,⟨nil68,rfl⟩,⟨nil68,rfl⟩,trivial⟩,
   rfl,⟨⟨.s _,rfl⟩,⟨.i _ _,rfl⟩,⟨.i _ _,rfl⟩,⟨hs,hs1⟩,⟨hc,hc1⟩,⟨nil68,rfl⟩,⟨nil68,rfl⟩,trivial⟩,trivial⟩
theorem code68_rows {H:Hp}:Rws H 4 ((rep 9 Ins.zero).map Ins.row) code68:=by
  rw [rep_eq,List.map_replicate,← List.append_nil code68]
  exact Rws.rep (row:=Ins.row Ins.zero) (cz:=[Value.int .u8 0,.int .i64 0,.int .i64 0,.int .i64 0]) ⟨⟨.i _ _,rfl⟩,⟨.i _ _,rfl⟩,⟨.i _ _,rfl⟩,⟨.i _ _,rfl⟩,trivial⟩ rfl 9 []
theorem slots68_rows {H:Hp} {s:List UInt8}:Rws H 2 (([Fld.mk [97] 0,Fld.mk s 0,Fld.mk [122] 0]++[]).map Fld.row) [.string ⟨#[97]⟩,.int .i64 0,.string ⟨s.toArray⟩,.int .i64 0,.string ⟨#[122]⟩,.int .i64 0]:=
  ⟨rfl,⟨⟨.s [97],rfl⟩,⟨.i _ _,rfl⟩,trivial⟩,rfl,⟨⟨.s s,rfl⟩,⟨.i _ _,rfl⟩,trivial⟩,rfl,⟨⟨.s [122],rfl⟩,⟨.i _ _,rfl⟩,trivial⟩,trivial⟩
theorem more68_rows {H:Hp} {zs:List Value}:Rws H 2 (([Fld.mk [97] 0,Fld.mk [120] 0,Fld.mk [122] 0]++rep 14 Fld.zero).map Fld.row) (slots68++more68++zs):=by
  rw [List.append_assoc,rep_eq,List.map_append,List.map_replicate]
  refine ⟨rfl,⟨⟨.s [97],rfl⟩,⟨.i _ _,rfl⟩,trivial⟩,rfl,⟨⟨.s [120],rfl⟩,⟨.i _ _,rfl⟩,trivial⟩,rfl,⟨⟨.s [122],rfl⟩,⟨.i _ _,rfl⟩,trivial⟩,?_⟩
  exact Rws.rep (row:=Fld.row Fld.zero) (cz:=[Value.string ⟨#[]⟩,.int .i64 0]) ⟨⟨.s [],rfl⟩,⟨.i _ _,rfl⟩,trivial⟩ rfl 14 zs
section
variable {P:Program} {ops:Array Oper} {l:List (Option Nat × Op)} {Q:Exit→Act→World→Prop} {i nt:Nat} {rest:List Nat} {a:Act} {w w':World} {f:Nat→Value}
theorem x_call (h:OpsAre ops l) {d:Nat} {p:Op} (hi:l[i]?=some (some d,p)) (ha:ActIs nt f a) (hd:d<nt) {g:FuncId} {args:Array Value} {v:Value} (hr :∀o:Oper,o.op=p→(execOp a.eval o).run P w=.ok (.enter g args) w) (hc:Calls P g args w fun e w''=>e=.returned v∧w''=w')
    (hk :∀b:Act,ActIs nt (fun t=>if t=d then v else f t) b→wpOps P ops Q rest b w'):wpOps P ops Q (i::rest) a w:=
  st_call h hi hr (hc.mono fun e w'' he=>by
    obtain ⟨rfl,rfl⟩:=he
    exact hk _ (ha.put v hd))
end
section
variable {P:Program} {X:Cx} {ps:String} (T:Ty68 P)
theorem x_bs0 {t e:TypeId} {ti:TypeInfo} {z:Value} (ht:P.underlying t=some (.slice e)) (hi:P.info? e=some ti) (hz:ti.zero=some z) (w:World):(Instr.buildSlice t 0 #[]).run P w=.ok (sl68 w.heap.size 0) (w.alloc (.cells [].toArray e (0,0))):=by
  have h1 :∀zz:Array Value,(Array.range 0).map (zz[· % zz.size]!)=#[]:=fun zz=>by simp [Array.range_zero']
  simp only [Instr.buildSlice,Sem.run_bind,run_underlying ht,Result.andThen_ok,sizeOf,typeInfo,run_program,hi,Sem.run_pure,Nat.zero_mul]
  simp [newRow,h1,Instr.fill,sl68]
def Prog68 (P:Program) (fp tM tIn tD tF:Nat):Prop:=∀(w:World) (N:Nat),w.heap.size=N→Calls P fp #[] w fun e w'=>e=.returned (.agg [nilS,nilS,sl68 (N+4) 3].toArray)∧
  w'=wx w 0 [.cells [nilS,nilS,sl68 (N+4) 3].toArray tM (0,0),.cells code68.toArray tIn (0,0),.cells slots68.toArray tD (0,0),.cells (fun68 [102] (sl68 (N+2) 3) (sl68 (N+1) 9)).toArray tF (0,0),.cells (funcs68 (sl68 (N+2) 3) (sl68 (N+1) 9)).toArray tF (0,0)]
set_option maxHeartbeats 1000000 in
theorem sw68 {nt d tIn:Nat} {t0 t1 t2 t3 t4 t5 t6 t7 t8 b0 b1 b2 b3 b4 b5 b6 b7:Array Oper} {tiD:TypeInfo} {zD:Value} {kI:IntKind} (hm:P.follows .mixedOrders=true) (hnt:350≤nt) (bV:P.built T.tV []=some zVal68.toArray)
    (hIu:P.underlying T.tI=some (.int kI)) (hDi:P.info? T.tD=some tiD) (hDz:tiD.zero=some zD) (hD2:tiD.size=2) (hDb:tiD.bytes≤1000) (hz14:Builtin.zeroCells zD.cells 14=more68.toArray)
    (ht0:OpsAre t0 [(some 299,.binOp .eql T.tI (.tmp 297) (.const (.int .i64 0)) T.tI),(some 298,.assign (.tmp 299))])
    (ht1:OpsAre t1 [(some 302,.binOp .eql T.tI (.tmp 297) (.const (.int .i64 1)) T.tI),(some 301,.assign (.tmp 302))])
    (ht2:OpsAre t2 [(some 305,.binOp .eql T.tI (.tmp 297) (.const (.int .i64 2)) T.tI),(some 304,.assign (.tmp 305))])
    (ht3:OpsAre t3 [(some 308,.binOp .eql T.tI (.tmp 297) (.const (.int .i64 3)) T.tI),(some 307,.assign (.tmp 308))])
    (ht4:OpsAre t4 [(some 311,.binOp .eql T.tI (.tmp 297) (.const (.int .i64 4)) T.tI),(some 310,.assign (.tmp 311))])
    (ht5:OpsAre t5 [(some 317,.binOp .eql T.tI (.tmp 297) (.const (.int .i64 5)) T.tI),(some 316,.assign (.tmp 317))])
    (ht6:OpsAre t6 [(some 323,.binOp .eql T.tI (.tmp 297) (.const (.int .i64 6)) T.tI),(some 322,.assign (.tmp 323))])
    (ht7:OpsAre t7 [(some 330,.binOp .eql T.tI (.tmp 297) (.const (.int .i64 7)) T.tI),(some 329,.assign (.tmp 330))])
    (ht8:OpsAre t8 [(some 339,.binOp .eql T.tI (.tmp 297) (.const (.int .i64 8)) T.tI),(some 338,.assign (.tmp 339))])
    (hb0:OpsAre b0 [(some 300,.fieldAddr T.tX (.tmp 11) 0),(none,.store T.tI (.tmp 300) (.const (.int .i64 3)))])
    (hb1:OpsAre b1 [(some 303,.fieldAddr T.tX (.tmp 11) 0),(none,.store T.tI (.tmp 303) (.const (.int .i64 (-1))))])
    (hb2:OpsAre b2 [(some 306,.fieldAddr T.tX (.tmp 11) 1),(none,.store T.tI (.tmp 306) (.const (.int .i64 9)))])
    (hb3:OpsAre b3 [(some 309,.fieldAddr T.tX (.tmp 11) 2),(none,.store T.tU (.tmp 309) (.const (.int .u64 4)))])
    (hb4:OpsAre b4 [(some 312,.fieldAddr T.tX (.tmp 11) 3),(some 313,.load T.tLs (.tmp 312)),(some 314,.indexAddr T.tLs (.tmp 313) (.const (.int .i64 1))),(some 315,.fieldAddr T.tL (.tmp 314) 0),(none,.store T.tI (.tmp 315) (.const (.int .i64 3)))])
    (hb5:OpsAre b5 [(some 318,.fieldAddr T.tX (.tmp 11) 3),(some 319,.load T.tLs (.tmp 318)),(some 320,.indexAddr T.tLs (.tmp 319) (.const (.int .i64 1))),(some 321,.fieldAddr T.tL (.tmp 320) 0),(none,.store T.tI (.tmp 321) (.const (.int .i64 0)))])
    (hb6:OpsAre b6 [(some 324,.fieldAddr T.tX (.tmp 11) 3),(some 325,.load T.tLs (.tmp 324)),(some 326,.build T.tV #[]),(some 327,.indexAddr T.tLs (.tmp 325) (.const (.int .i64 0))),(some 328,.fieldAddr T.tL (.tmp 327) 1),(none,.store T.tV (.tmp 328) (.tmp 326))])
    (hb7:OpsAre b7 [(some 331,.fieldAddr T.tM (.tmp 12) 2),(some 332,.load T.tFus (.tmp 331)),(some 333,.indexAddr T.tFus (.tmp 332) (.const (.int .i64 2))),(some 334,.fieldAddr T.tF (.tmp 333) 3),(some 335,.load T.tS (.tmp 334)),(some 336,.indexAddr T.tS (.tmp 335) (.const (.int .i64 1))),(some 337,.fieldAddr T.tD (.tmp 336) 0),(none,.store T.tStr (.tmp 337) (.const (.string ⟨long68.toArray⟩)))])
    {σ:Sl} {st:St} {G:Gh} {w0 w:World} {a b:Act} {N cap:Nat} {i ia ib ic:Int} {p0 p1 p2 p3 p4 p5 q0 q1 q2 q3 q4 q5:AV} {y0 y1 y2 y3 y4 y5 y6 y7 y8 y9 y10 y11:Value} {zs:List Value} {Q:Exit→Act→World→Prop} (hA:RelA G nt σ a) (hR:Rel G w0 st w) (hN:w.heap.size=N) (hcge:2≤cap)
    (hp:Rws G.H 6 [[p0,p1,p2,p3,p4,p5],[q0,q1,q2,q3,q4,q5]] [y0,y1,y2,y3,y4,y5,y6,y7,y8,y9,y10,y11])
    (hQ :∀a' w' G',RelA G' nt (hsA68 (hx68 i ia ib ic [[p0,p1,p2,p3,p4,p5],[q0,q1,q2,q3,q4,q5]]) i σ) a'→Run G G' w0 st st w' d→Q .normal a' w') (A:At68 nt a N i b) :
    (Code.block 4
      (.seq (.region 20 t0 false) (.cond (.tmp 298) (.region 21 b0 false)
      (.seq (.region 22 t1 false) (.cond (.tmp 301) (.region 23 b1 false)
      (.seq (.region 24 t2 false) (.cond (.tmp 304) (.region 25 b2 false)
      (.seq (.region 26 t3 false) (.cond (.tmp 307) (.region 27 b3 false)
      (.seq (.region 28 t4 false) (.cond (.tmp 310) (.region 29 b4 false)
      (.seq (.region 30 t5 false) (.cond (.tmp 316) (.region 31 b5 false)
      (.seq (.region 32 t6 false) (.cond (.tmp 322) (.region 33 b6 false)
      (.seq (.region 34 t7 false) (.cond (.tmp 329) (.region 35 b7 false)
      (.seq (.region 36 t8 false) (.cond (.tmp 338) (.region 37 (ops37 ps T.tM T.tFus T.tF T.tS T.tI) true) .skip))))))))))))))))))).wp P Q b (wx w 1 [.cells [Value.int .i64 ia,.int .i64 ib,.int .u64 ic,.slice (some ⟨N+8,0,none⟩) 2 cap].toArray T.tX (0,0),.cells [nilS,nilS,sl68 (N+5) 3].toArray T.tM (0,0),.cells code68.toArray tIn (0,0),.cells slots68.toArray T.tD (0,0),.cells (fun68 [102] (sl68 (N+3) 3) (sl68 (N+2) 9)).toArray T.tF (0,0),.cells (funcs68 (sl68 (N+3) 3) (sl68 (N+2) 9)).toArray T.tF (0,0),.cells [nilS,nilS,sl68 (N+5) 3].toArray T.tM (0,0),.cells [].toArray T.tL (0,0),.cells ([y0,y1,y2,y3,y4,y5,y6,y7,y8,y9,y10,y11]++zs).toArray T.tL (0,0)]):=by
  have fin :∀(b':Act) (dr:Nat) (L':List Obj) (x0 f5:List Value),At68 nt a N i b'→L'[0]?=some (.cells x0.toArray T.tX (0,0))→Rw (newH G.H w (wx w dr L')) (hx68 i ia ib ic [[p0,p1,p2,p3,p4,p5],[q0,q1,q2,q3,q4,q5]]) x0→L'[6]?=some (.cells [nilS,nilS,sl68 (N+5) 3].toArray T.tM (0,0))→
      L'[5]?=some (.cells f5.toArray T.tF (0,0))→Rws (newH G.H w (wx w dr L')) 7 ((m68 i).funcs.map Fun.row) f5→(m68 i).funcs.length=3→Q .normal b' (wx w dr L'):=by
    intro b' dr L' x0 f5 A' g0 g1 g6 g5 g2 g3
    have hrun:=hR.newH (w':=wx w dr L') wx_below (d:=d)
    refine hQ b' _ _ ⟨A'.de,A'.sz,fun t=>?_⟩ hrun
    show R _ (hsA68 _ i σ t) (tv b' t)
    unfold hsA68
    split
    · rename_i ht
      rw [ht,A'.x]
      exact new_fp (G:=G) hN g0 g1
    · split
      · rename_i ht
        rw [ht,A'.m,m68_row]
        exact new_fp (G:=G) hN g6 ⟨⟨nil68,rfl⟩,⟨nil68,rfl⟩,⟨new_sl (k:=5) hN g5 g2 (by rw [List.length_map];exact g3) (Nat.le_refl _),rfl⟩,trivial⟩
      · split
        · exact .fz _ _ (.u _)
        · rename_i h1 h2 h3
          rw [A'.keep t h1 h2 (by simpa using h3)]
          exact (hA.2.2 t).mono hrun.le
  have l3 :∀{s:List UInt8} {more:List Fld},(im68 s more).funcs.length=3:=rfl
  have hpL :∀(dr:Nat) (L':List Obj),Rws (newH G.H w (wx w dr L')) 6 [[p0,p1,p2,p3,p4,p5],[q0,q1,q2,q3,q4,q5]] ([y0,y1,y2,y3,y4,y5,y6,y7,y8,y9,y10,y11]++zs):=by
    intro dr L'
    have hle:HLe G.H (newH G.H w (wx w dr L')):=newH_le hR
    obtain ⟨_,⟨⟨e0,e0'⟩,⟨e1,e1'⟩,⟨e2,e2'⟩,⟨e3,e3'⟩,⟨e4,e4'⟩,⟨e5,e5'⟩,_⟩,_,⟨⟨f0,f0'⟩,⟨f1,f1'⟩,⟨f2,f2'⟩,⟨f3,f3'⟩,⟨f4,f4'⟩,⟨f5,f5'⟩,_⟩,_⟩:=hp
    exact ⟨rfl,⟨⟨e0.mono hle,e0'⟩,⟨e1.mono hle,e1'⟩,⟨e2.mono hle,e2'⟩,⟨e3.mono hle,e3'⟩,⟨e4.mono hle,e4'⟩,⟨e5.mono hle,e5'⟩,trivial⟩,rfl,⟨⟨f0.mono hle,f0'⟩,⟨f1.mono hle,f1'⟩,⟨f2.mono hle,f2'⟩,⟨f3.mono hle,f3'⟩,⟨f4.mono hle,f4'⟩,⟨f5.mono hle,f5'⟩,trivial⟩,trivial⟩
  have hcode :∀{dr:Nat} {L':List Obj},L'[2]?=some (.cells code68.toArray tIn (0,0))→Fz (newH G.H w (wx w dr L')) (.sl .ext ((rep 9 Ins.zero).map Ins.row)) (sl68 (N+2) 9):=fun h2=>new_sl hN h2 code68_rows (by rw [List.length_map,rep_len]) (Nat.le_refl _)
  have hslot :∀{dr:Nat} {L':List Obj},L'[3]?=some (.cells slots68.toArray T.tD (0,0))→Fz (newH G.H w (wx w dr L')) (.sl .ext (([Fld.mk [97] 0,Fld.mk [120] 0,Fld.mk [122] 0]++[]).map Fld.row)) (sl68 (N+3) 3):=fun h3=>new_sl hN h3 slots68_rows rfl (Nat.le_refl _)
  have hfun :∀{dr:Nat} {L':List Obj},L'[2]?=some (.cells code68.toArray tIn (0,0))→L'[3]?=some (.cells slots68.toArray T.tD (0,0))→i≠7→i≠8→Rws (newH G.H w (wx w dr L')) 7 ((m68 i).funcs.map Fun.row) (funcs68 (sl68 (N+3) 3) (sl68 (N+2) 9)):=by
    intro dr L' h2 h3 h7 h8
    unfold m68
    rw [if_neg h7,if_neg h8]
    exact funs68 (hslot h3) rfl (hcode h2) rfl
  have hloc :∀{dr:Nat} {L':List Obj} {cl:List Value} {rows:List (List AV)},L'[8]?=some (.cells cl.toArray T.tL (0,0))→Rws (newH G.H w (wx w dr L')) 6 rows cl→rows.length=2→Fz (newH G.H w (wx w dr L')) (.sl .ext rows) (.slice (some ⟨N+8,0,none⟩) 2 cap):=fun h8 hr hl=>new_sl hN h8 hr hl hcge
  have len3:(m68 i).funcs.length=3:=by
    unfold m68
    split
    · rfl
    · split<;>rfl
  refine wp_block ?_
  refine k_test A hnt ht0 rfl (by decide) rfl (by decide) (fun e c1 A1=>?_) (fun n0 c1 A1=>?_)
  · subst e
    refine k_field A1 hnt hN T.kX T.X0 T.I T.I1 hb0 rfl (by decide) rfl rfl rfl (by simp) rfl rfl fun c2 A2=>?_
    exact fin c2 _ _ _ _ A2 rfl ⟨⟨.i _ _,rfl⟩,⟨.i _ _,rfl⟩,⟨.i _ _,rfl⟩,⟨hloc rfl (hpL _ _) rfl,rfl⟩,trivial⟩ rfl rfl (hfun rfl rfl (by decide) (by decide)) len3
  refine k_test A1 hnt ht1 rfl (by decide) rfl (by decide) (fun e c1 A1=>?_) (fun n1 c1 A1=>?_)
  · subst e
    refine k_field A1 hnt hN T.kX T.X0 T.I T.I1 hb1 rfl (by decide) rfl rfl rfl (by simp) rfl rfl fun c2 A2=>?_
    exact fin c2 _ _ _ _ A2 rfl ⟨⟨.i _ _,rfl⟩,⟨.i _ _,rfl⟩,⟨.i _ _,rfl⟩,⟨hloc rfl (hpL _ _) rfl,rfl⟩,trivial⟩ rfl rfl (hfun rfl rfl (by decide) (by decide)) len3
  refine k_test A1 hnt ht2 rfl (by decide) rfl (by decide) (fun e c1 A1=>?_) (fun n2 c1 A1=>?_)
  · subst e
    refine k_field A1 hnt hN T.kX T.X1 T.I T.I1 hb2 rfl (by decide) rfl rfl rfl (by simp) rfl rfl fun c2 A2=>?_
    exact fin c2 _ _ _ _ A2 rfl ⟨⟨.i _ _,rfl⟩,⟨.i _ _,rfl⟩,⟨.i _ _,rfl⟩,⟨hloc rfl (hpL _ _) rfl,rfl⟩,trivial⟩ rfl rfl (hfun rfl rfl (by decide) (by decide)) len3
  refine k_test A1 hnt ht3 rfl (by decide) rfl (by decide) (fun e c1 A1=>?_) (fun n3 c1 A1=>?_)
  · subst e
    refine k_field A1 hnt hN T.kX T.X2 T.U T.U1 hb3 rfl (by decide) rfl rfl rfl (by simp) rfl rfl fun c2 A2=>?_
    exact fin c2 _ _ _ _ A2 rfl ⟨⟨.i _ _,rfl⟩,⟨.i _ _,rfl⟩,⟨.i _ _,rfl⟩,⟨hloc rfl (hpL _ _) rfl,rfl⟩,trivial⟩ rfl rfl (hfun rfl rfl (by decide) (by decide)) len3
  refine k_test A1 hnt ht4 rfl (by decide) rfl (by decide) (fun e c1 A1=>?_) (fun n4 c1 A1=>?_)
  · subst e
    refine k_loc T A1 hnt hN hb4 (by decide) (by decide) rfl rfl rfl rfl rfl (by simp) rfl rfl fun c2 A2=>?_
    refine fin c2 _ _ _ _ A2 rfl ⟨⟨.i _ _,rfl⟩,⟨.i _ _,rfl⟩,⟨.i _ _,rfl⟩,⟨hloc rfl ?_ rfl,rfl⟩,trivial⟩ rfl rfl (hfun rfl rfl (by decide) (by decide)) len3
    obtain ⟨h1,h2,h3,⟨h4,h5⟩,h6⟩:=hpL _ _
    exact ⟨h1,h2,rfl,⟨⟨.i _ _,rfl⟩,h5⟩,trivial⟩
  refine k_test A1 hnt ht5 rfl (by decide) rfl (by decide) (fun e c1 A1=>?_) (fun n5 c1 A1=>?_)
  · subst e
    refine k_loc T A1 hnt hN hb5 (by decide) (by decide) rfl rfl rfl rfl rfl (by simp) rfl rfl fun c2 A2=>?_
    refine fin c2 _ _ _ _ A2 rfl ⟨⟨.i _ _,rfl⟩,⟨.i _ _,rfl⟩,⟨.i _ _,rfl⟩,⟨hloc rfl ?_ rfl,rfl⟩,trivial⟩ rfl rfl (hfun rfl rfl (by decide) (by decide)) len3
    obtain ⟨h1,h2,h3,⟨h4,h5⟩,h6⟩:=hpL _ _
    exact ⟨h1,h2,rfl,⟨⟨.i _ _,rfl⟩,h5⟩,trivial⟩
  refine k_test A1 hnt ht6 rfl (by decide) rfl (by decide) (fun e c1 A1=>?_) (fun n6 c1 A1=>?_)
  · subst e
    refine k_value T A1 hnt hN bV hb6 rfl rfl rfl (by simp) rfl rfl fun c2 A2=>?_
    refine fin c2 _ _ _ _ A2 rfl ⟨⟨.i _ _,rfl⟩,⟨.i _ _,rfl⟩,⟨.i _ _,rfl⟩,⟨hloc rfl ?_ rfl,rfl⟩,trivial⟩ rfl rfl (hfun rfl rfl (by decide) (by decide)) len3
    obtain ⟨h1,⟨h2,_⟩,h3,h4,h5⟩:=hpL _ _
    exact ⟨rfl,⟨h2,⟨.i _ _,rfl⟩,⟨.i _ _,rfl⟩,⟨.s [],rfl⟩,⟨nil68,rfl⟩,⟨.b _,rfl⟩,trivial⟩,h3,h4,trivial⟩
  refine k_test A1 hnt ht7 rfl (by decide) rfl (by decide) (fun e c1 A1=>?_) (fun n7 c1 A1=>?_)
  · subst e
    refine k_name T A1 hnt hN hb7 rfl rfl rfl rfl rfl (by decide) rfl rfl fun c2 A2=>?_
    refine fin c2 _ _ _ _ A2 rfl ⟨⟨.i _ _,rfl⟩,⟨.i _ _,rfl⟩,⟨.i _ _,rfl⟩,⟨hloc rfl (hpL _ _) rfl,rfl⟩,trivial⟩ rfl rfl ?_ len3
    exact funs68 (s:=long68) (more:=[]) (new_sl (k:=3) hN rfl slots68_rows rfl (Nat.le_refl _)) rfl (hcode rfl) rfl
  refine k_test A1 hnt ht8 rfl (by decide) rfl (by decide) (fun e c1 A1=>?_) (fun n8 c1 A1=>wp_skip ?_)
  · subst e
    refine k_app T hm A1 hnt hN rfl rfl rfl rfl rfl rfl hIu hDi hDz hD2 hDb hz14 fun c2 zs2 cap2 hcap2 A2=>?_
    refine fin c2 _ _ _ _ A2 rfl ⟨⟨.i _ _,rfl⟩,⟨.i _ _,rfl⟩,⟨.i _ _,rfl⟩,⟨hloc rfl (hpL _ _) rfl,rfl⟩,trivial⟩ rfl rfl ?_ len3
    exact funs68 (s:=[120]) (more:=rep 14 Fld.zero) (new_sl (k:=9) hN rfl more68_rows (by rw [List.length_map,List.length_append,rep_len];rfl) hcap2) rfl (hcode rfl) rfl
  · refine fin c1 _ _ _ _ A1 rfl ?_ rfl rfl (hfun rfl rfl n7 n8) len3
    unfold hx68 hl68
    rw [if_neg n0,if_neg n1,if_neg n2,if_neg n3,if_neg n4,if_neg n5,if_neg n6]
    exact ⟨⟨.i _ _,rfl⟩,⟨.i _ _,rfl⟩,⟨.i _ _,rfl⟩,⟨hloc rfl (hpL _ _) rfl,rfl⟩,trivial⟩
set_option maxHeartbeats 1000000 in
theorem fill68 {nt d fp tIn:Nat} {o16 o17 o18 o19 t0 t1 t2 t3 t4 t5 t6 t7 t8 b0 b1 b2 b3 b4 b5 b6 b7:Array Oper} {tiL tiD:TypeInfo} {zL zD:Value} {kI:IntKind} (hm:P.follows .mixedOrders=true) (hnt:350≤nt)
    (hE :∀w,(callFunc fp #[]).run P w=.ok (.enter fp #[]) w) (hp:Prog68 P fp T.tM tIn T.tD T.tF)
    (lE :∀w,(Instr.buildSlice T.tLs 0 #[]).run P w=.ok (sl68 w.heap.size 0) (w.alloc (.cells [].toArray T.tL (0,0)))) (bV:P.built T.tV []=some zVal68.toArray)
    (hLi:P.info? T.tL=some tiL) (hLz:tiL.zero=some zL) (hL6:tiL.size=6) (hLb:tiL.bytes≤1000)
    (hIu:P.underlying T.tI=some (.int kI)) (hDi:P.info? T.tD=some tiD) (hDz:tiD.zero=some zD) (hD2:tiD.size=2) (hDb:tiD.bytes≤1000) (hz14:Builtin.zeroCells zD.cells 14=more68.toArray)
    (h16:OpsAre o16 [(some 290,.load T.tX (.tmp 8)),(some 11,.alloc T.tX),(none,.store T.tX (.tmp 11) (.tmp 290))])
    (h17:OpsAre o17 [(some 291,.call ⟨.value (.func fp),#[],#[]⟩),(some 12,.alloc T.tM),(none,.store T.tM (.tmp 12) (.tmp 291))])
    (h18:OpsAre o18 [(some 292,.buildSlice T.tLs 0 #[]),(some 293,.fieldAddr T.tX (.tmp 8) 3),(some 294,.load T.tLs (.tmp 293)),(some 295,.call ⟨.builtin .append,#[.tmp 292,.tmp 294],#[T.tLs,T.tLs]⟩),(some 296,.fieldAddr T.tX (.tmp 11) 3),(none,.store T.tLs (.tmp 296) (.tmp 295))])
    (h19:OpsAre o19 [(some 297,.move (.tmp 10))])
    (ht0:OpsAre t0 [(some 299,.binOp .eql T.tI (.tmp 297) (.const (.int .i64 0)) T.tI),(some 298,.assign (.tmp 299))])
    (ht1:OpsAre t1 [(some 302,.binOp .eql T.tI (.tmp 297) (.const (.int .i64 1)) T.tI),(some 301,.assign (.tmp 302))])
    (ht2:OpsAre t2 [(some 305,.binOp .eql T.tI (.tmp 297) (.const (.int .i64 2)) T.tI),(some 304,.assign (.tmp 305))])
    (ht3:OpsAre t3 [(some 308,.binOp .eql T.tI (.tmp 297) (.const (.int .i64 3)) T.tI),(some 307,.assign (.tmp 308))])
    (ht4:OpsAre t4 [(some 311,.binOp .eql T.tI (.tmp 297) (.const (.int .i64 4)) T.tI),(some 310,.assign (.tmp 311))])
    (ht5:OpsAre t5 [(some 317,.binOp .eql T.tI (.tmp 297) (.const (.int .i64 5)) T.tI),(some 316,.assign (.tmp 317))])
    (ht6:OpsAre t6 [(some 323,.binOp .eql T.tI (.tmp 297) (.const (.int .i64 6)) T.tI),(some 322,.assign (.tmp 323))])
    (ht7:OpsAre t7 [(some 330,.binOp .eql T.tI (.tmp 297) (.const (.int .i64 7)) T.tI),(some 329,.assign (.tmp 330))])
    (ht8:OpsAre t8 [(some 339,.binOp .eql T.tI (.tmp 297) (.const (.int .i64 8)) T.tI),(some 338,.assign (.tmp 339))])
    (hb0:OpsAre b0 [(some 300,.fieldAddr T.tX (.tmp 11) 0),(none,.store T.tI (.tmp 300) (.const (.int .i64 3)))])
    (hb1:OpsAre b1 [(some 303,.fieldAddr T.tX (.tmp 11) 0),(none,.store T.tI (.tmp 303) (.const (.int .i64 (-1))))])
    (hb2:OpsAre b2 [(some 306,.fieldAddr T.tX (.tmp 11) 1),(none,.store T.tI (.tmp 306) (.const (.int .i64 9)))])
    (hb3:OpsAre b3 [(some 309,.fieldAddr T.tX (.tmp 11) 2),(none,.store T.tU (.tmp 309) (.const (.int .u64 4)))])
    (hb4:OpsAre b4 [(some 312,.fieldAddr T.tX (.tmp 11) 3),(some 313,.load T.tLs (.tmp 312)),(some 314,.indexAddr T.tLs (.tmp 313) (.const (.int .i64 1))),(some 315,.fieldAddr T.tL (.tmp 314) 0),(none,.store T.tI (.tmp 315) (.const (.int .i64 3)))])
    (hb5:OpsAre b5 [(some 318,.fieldAddr T.tX (.tmp 11) 3),(some 319,.load T.tLs (.tmp 318)),(some 320,.indexAddr T.tLs (.tmp 319) (.const (.int .i64 1))),(some 321,.fieldAddr T.tL (.tmp 320) 0),(none,.store T.tI (.tmp 321) (.const (.int .i64 0)))])
    (hb6:OpsAre b6 [(some 324,.fieldAddr T.tX (.tmp 11) 3),(some 325,.load T.tLs (.tmp 324)),(some 326,.build T.tV #[]),(some 327,.indexAddr T.tLs (.tmp 325) (.const (.int .i64 0))),(some 328,.fieldAddr T.tL (.tmp 327) 1),(none,.store T.tV (.tmp 328) (.tmp 326))])
    (hb7:OpsAre b7 [(some 331,.fieldAddr T.tM (.tmp 12) 2),(some 332,.load T.tFus (.tmp 331)),(some 333,.indexAddr T.tFus (.tmp 332) (.const (.int .i64 2))),(some 334,.fieldAddr T.tF (.tmp 333) 3),(some 335,.load T.tS (.tmp 334)),(some 336,.indexAddr T.tS (.tmp 335) (.const (.int .i64 1))),(some 337,.fieldAddr T.tD (.tmp 336) 0),(none,.store T.tStr (.tmp 337) (.const (.string ⟨long68.toArray⟩)))]) :
    HandOk4 P X nt d hw68 (.region 16 o16 false) (.region 17 o17 false) (.region 18 o18 false) (.seq (.region 19 o19 false) (.block 4
      (.seq (.region 20 t0 false) (.cond (.tmp 298) (.region 21 b0 false)
      (.seq (.region 22 t1 false) (.cond (.tmp 301) (.region 23 b1 false)
      (.seq (.region 24 t2 false) (.cond (.tmp 304) (.region 25 b2 false)
      (.seq (.region 26 t3 false) (.cond (.tmp 307) (.region 27 b3 false)
      (.seq (.region 28 t4 false) (.cond (.tmp 310) (.region 29 b4 false)
      (.seq (.region 30 t5 false) (.cond (.tmp 316) (.region 31 b5 false)
      (.seq (.region 32 t6 false) (.cond (.tmp 322) (.region 33 b6 false)
      (.seq (.region 34 t7 false) (.cond (.tmp 329) (.region 35 b7 false)
      (.seq (.region 36 t8 false) (.cond (.tmp 338) (.region 37 (ops37 ps T.tM T.tFus T.tF T.tS T.tI) true) .skip)))))))))))))))))))):=by
  intro σ st e' σ' st' h G w0 w a hfm hA hR Q hQ
  unfold hw68 at h
  split at h
  rotate_left 1
  · cases h
  rename_i i ia ib ic rows h10 h8
  split at h
  rotate_left 1
  · cases h
  rename_i hc
  cases h
  obtain ⟨hl2,hl6⟩:=hc
  obtain ⟨r0,r1,rfl⟩ :∃r0 r1,rows=[r0,r1]:=by
    match rows,hl2 with
    | [r0,r1],_=>exact ⟨r0,r1,rfl⟩
  simp only [List.all_cons,List.all_nil,Bool.and_true,Bool.and_eq_true,beq_iff_eq] at hl6
  have six :∀{r:List AV},r.length=6→∃p0 p1 p2 p3 p4 p5,r=[p0,p1,p2,p3,p4,p5]:=by
    intro r hr
    match r,hr with
    | [p0,p1,p2,p3,p4,p5],_=>exact ⟨p0,p1,p2,p3,p4,p5,rfl⟩
  obtain ⟨p0,p1,p2,p3,p4,p5,rfl⟩:=six hl6.1
  obtain ⟨q0,q1,q2,q3,q4,q5,rfl⟩:=six hl6.2
  clear six hl6 hl2
  have h8':=hA.2.2 8
  rw [h8] at h8'
  obtain ⟨g8,f8,us,hv8,hH8,hF8⟩:=h8'.fp_inv
  have v10:tv a 10=.int .i64 i:=by
    have:=hA.2.2 10
    rw [h10] at this
    exact this.int_inv
  have u0:us 0=.int .i64 ia:=(R.fz (G:=G) _ _ (hF8 0 _ rfl)).int_inv
  have u1:us 1=.int .i64 ib:=(R.fz (G:=G) _ _ (hF8 1 _ rfl)).int_inv
  have u2:us 2=.int .u64 ic:=(R.fz (G:=G) _ _ (hF8 2 _ rfl)).int_inv
  obtain ⟨A3,cp3,u3,hf3,_⟩:=(R.fz (G:=G) _ _ (hF8 3 _ rfl)).sl_inv
  have hlt8:g8<w.heap.size:=hR.Hlt (hH8 0 _ rfl)
  have cell8 :∀{dr:Nat} {L:List Obj} {j:Nat} {x:AV},([.i .i64 ia,.i .i64 ib,.i .u64 ic,.sl .ext [[p0,p1,p2,p3,p4,p5],[q0,q1,q2,q3,q4,q5]]]:List AV)[j]?=some x→(wx w dr L).cell? ⟨g8,f8+j,none⟩=some (us j):=by
    intro dr L j x hx
    rw [(wx_below (w:=w) (n:=dr) (L:=L)).cell (p:=⟨g8,f8+j,none⟩) hlt8]
    exact (hR.ext _ _ _ (hH8 j x hx)).1
  have one8:(us 3).oneCell'=true:=(hR.ext _ _ _ (hH8 3 _ rfl)).2
  generalize hN:w.heap.size=N at *
  have a0:ActIs nt (tv a) a:=.self hA.1 hA.2.1
  suffices hh:(Code.region 16 o16 false).wp P _ a (wx w 0 []) by rw [wx_nil] at hh;exact hh
  -- the frame
  refine wp_region ?_
  rw [h16.size]
  show wpOps P o16 _ [0,1,2] _ _
  have one4 :∀x∈[us 0,us 1,us 2,us 3],x.oneCell'=true:=by
    intro x hx
    simp only [List.mem_cons,List.not_mem_nil,or_false] at hx
    rcases hx with rfl | rfl | rfl | rfl
    · rw [u0];rfl
    · rw [u1];rfl
    · rw [u2];rfl
    · exact one8
  refine x_val h16 (d:=290) (v:=.agg [us 0,us 1,us 2,us 3].toArray) (w':=wx w 0 []) rfl a0 (by omega) (fun o ho=>by
    simp only [execOp,ho]
    refine run_val ?_
    rw [show a.eval (.tmp 8)=.pointer (some ⟨g8,f8,none⟩) from hv8]
    refine x_loadA T.X (by rw [T.Xk];rfl) (by rw [T.X4];rfl) fun j v hj=>?_
    match j,hj with
    | 0,hj=>cases hj;exact cell8 (x:=.i .i64 ia) rfl
    | 1,hj=>cases hj;exact cell8 (x:=.i .i64 ib) rfl
    | 2,hj=>cases hj;exact cell8 (x:=.i .u64 ic) rfl
    | 3,hj=>cases hj;exact cell8 (j:=3) rfl
    | j+4,hj=>simp at hj) fun c1 a1=>?_
  obtain ⟨z0,hz0,hr0⟩:=x_alloc (P:=P) (n:=0) (L:=[]) (w:=w) T.X hN rfl
  refine x_val h16 (d:=11) (v:=.pointer (some ⟨N+0,0,none⟩)) (w':=wx w 0 [.cells z0.toArray T.tX (0,0)]) rfl a1 (by omega) (fun o ho=>by simp only [execOp,ho];exact run_val hr0) fun c2 a2=>?_
  refine st_unit h16 (w':=wx w 0 [.cells [us 0,us 1,us 2,us 3].toArray T.tX (0,0)]) rfl (fun o ho=>?_) ?_
  · simp only [execOp,ho]
    refine run_unit ?_
    rw [show c2.eval (.tmp 11)=.pointer (some ⟨N+0,0,none⟩) from a2.2.2 11,show c2.eval (.tmp 290)=.agg [us 0,us 1,us 2,us 3].toArray from a2.2.2 290]
    exact x_store (us:=[us 0,us 1,us 2,us 3]) (cl:=z0) T.X hN rfl rfl (by rw [T.X4];rfl) (by omega) one4 (by rw [List.take_zero,List.drop_of_length_le (by omega)];rfl) rfl
  -- the image
  show Code.wp P _ _ c2 _
  refine wp_region ?_
  rw [h17.size]
  show wpOps P o17 _ [0,1,2] _ _
  refine x_call h17 (d:=291) (g:=fp) (args:=#[]) (v:=.agg [nilS,nilS,sl68 (N+5) 3].toArray) (w':=wx w 0 [.cells [us 0,us 1,us 2,us 3].toArray T.tX (0,0),.cells [nilS,nilS,sl68 (N+5) 3].toArray T.tM (0,0),.cells code68.toArray tIn (0,0),.cells slots68.toArray T.tD (0,0),.cells (fun68 [102] (sl68 (N+3) 3) (sl68 (N+2) 9)).toArray T.tF (0,0),.cells (funcs68 (sl68 (N+3) 3) (sl68 (N+2) 9)).toArray T.tF (0,0)]) rfl a2 (by omega) (fun o ho=>by
    simp only [execOp,ho,resolve,Act.eval,Deferred.ofValue,invoke,Sem.run_bind,Sem.run_pure,Result.andThen_ok]
    simpa using hE (wx w 0 [.cells [us 0,us 1,us 2,us 3].toArray T.tX (0,0)])) ((hp (wx w 0 [.cells [us 0,us 1,us 2,us 3].toArray T.tX (0,0)]) (N+1) (by rw [wx_size,hN];rfl)).mono fun e w'' he=>⟨he.1,by rw [he.2,wx_wx];rfl⟩) fun c3 a3=>?_
  obtain ⟨z6,hz6,hr6⟩:=x_alloc (P:=P) (n:=0) (L:=[.cells [us 0,us 1,us 2,us 3].toArray T.tX (0,0),.cells [nilS,nilS,sl68 (N+5) 3].toArray T.tM (0,0),.cells code68.toArray tIn (0,0),.cells slots68.toArray T.tD (0,0),.cells (fun68 [102] (sl68 (N+3) 3) (sl68 (N+2) 9)).toArray T.tF (0,0),.cells (funcs68 (sl68 (N+3) 3) (sl68 (N+2) 9)).toArray T.tF (0,0)]) (w:=w) T.M hN rfl
  refine x_val h17 (d:=12) (v:=.pointer (some ⟨N+6,0,none⟩)) (w':=wx w 0 ([.cells [us 0,us 1,us 2,us 3].toArray T.tX (0,0),.cells [nilS,nilS,sl68 (N+5) 3].toArray T.tM (0,0),.cells code68.toArray tIn (0,0),.cells slots68.toArray T.tD (0,0),.cells (fun68 [102] (sl68 (N+3) 3) (sl68 (N+2) 9)).toArray T.tF (0,0),.cells (funcs68 (sl68 (N+3) 3) (sl68 (N+2) 9)).toArray T.tF (0,0)]++[.cells z6.toArray T.tM (0,0)])) rfl a3 (by omega) (fun o ho=>by simp only [execOp,ho];exact run_val hr6) fun c4 a4=>?_
  refine st_unit h17 (w':=wx w 0 [.cells [us 0,us 1,us 2,us 3].toArray T.tX (0,0),.cells [nilS,nilS,sl68 (N+5) 3].toArray T.tM (0,0),.cells code68.toArray tIn (0,0),.cells slots68.toArray T.tD (0,0),.cells (fun68 [102] (sl68 (N+3) 3) (sl68 (N+2) 9)).toArray T.tF (0,0),.cells (funcs68 (sl68 (N+3) 3) (sl68 (N+2) 9)).toArray T.tF (0,0),.cells [nilS,nilS,sl68 (N+5) 3].toArray T.tM (0,0)]) rfl (fun o ho=>?_) ?_
  · simp only [execOp,ho]
    refine run_unit ?_
    rw [show c4.eval (.tmp 12)=.pointer (some ⟨N+6,0,none⟩) from a4.2.2 12,show c4.eval (.tmp 291)=.agg [nilS,nilS,sl68 (N+5) 3].toArray from a4.2.2 291]
    exact x_store (us:=[nilS,nilS,sl68 (N+5) 3]) (cl:=z6) T.M hN rfl rfl (by rw [T.M3];rfl) (by omega) (by intro x hx;simp only [List.mem_cons,List.not_mem_nil,or_false] at hx;rcases hx with rfl | rfl | rfl<;>rfl) (by rw [List.take_zero,List.drop_of_length_le (by omega)];rfl) rfl
  -- the locals
  show Code.wp P _ _ c4 _
  refine wp_region ?_
  rw [h18.size]
  show wpOps P o18 _ [0,1,2,3,4,5] _ _
  have hle:=lE (wx w 0 [.cells [us 0,us 1,us 2,us 3].toArray T.tX (0,0),.cells [nilS,nilS,sl68 (N+5) 3].toArray T.tM (0,0),.cells code68.toArray tIn (0,0),.cells slots68.toArray T.tD (0,0),.cells (fun68 [102] (sl68 (N+3) 3) (sl68 (N+2) 9)).toArray T.tF (0,0),.cells (funcs68 (sl68 (N+3) 3) (sl68 (N+2) 9)).toArray T.tF (0,0),.cells [nilS,nilS,sl68 (N+5) 3].toArray T.tM (0,0)])
  rw [wx_alloc,wx_size,hN] at hle
  have hle':(Instr.buildSlice T.tLs 0 #[]).run P (wx w 0 [.cells [us 0,us 1,us 2,us 3].toArray T.tX (0,0),.cells [nilS,nilS,sl68 (N+5) 3].toArray T.tM (0,0),.cells code68.toArray tIn (0,0),.cells slots68.toArray T.tD (0,0),.cells (fun68 [102] (sl68 (N+3) 3) (sl68 (N+2) 9)).toArray T.tF (0,0),.cells (funcs68 (sl68 (N+3) 3) (sl68 (N+2) 9)).toArray T.tF (0,0),.cells [nilS,nilS,sl68 (N+5) 3].toArray T.tM (0,0)])=.ok (sl68 (N+7) 0) (wx w 0 [.cells [us 0,us 1,us 2,us 3].toArray T.tX (0,0),.cells [nilS,nilS,sl68 (N+5) 3].toArray T.tM (0,0),.cells code68.toArray tIn (0,0),.cells slots68.toArray T.tD (0,0),.cells (fun68 [102] (sl68 (N+3) 3) (sl68 (N+2) 9)).toArray T.tF (0,0),.cells (funcs68 (sl68 (N+3) 3) (sl68 (N+2) 9)).toArray T.tF (0,0),.cells [nilS,nilS,sl68 (N+5) 3].toArray T.tM (0,0),.cells [].toArray T.tL (0,0)]):=hle
  refine x_val h18 (d:=292) (v:=sl68 (N+7) 0) (w':=wx w 0 [.cells [us 0,us 1,us 2,us 3].toArray T.tX (0,0),.cells [nilS,nilS,sl68 (N+5) 3].toArray T.tM (0,0),.cells code68.toArray tIn (0,0),.cells slots68.toArray T.tD (0,0),.cells (fun68 [102] (sl68 (N+3) 3) (sl68 (N+2) 9)).toArray T.tF (0,0),.cells (funcs68 (sl68 (N+3) 3) (sl68 (N+2) 9)).toArray T.tF (0,0),.cells [nilS,nilS,sl68 (N+5) 3].toArray T.tM (0,0),.cells [].toArray T.tL (0,0)]) rfl a4 (by omega) (fun o ho=>by
    simp only [execOp,ho]
    refine run_val (Eq.trans ?_ hle')
    simp) fun c5 a5=>?_
  refine x_val h18 (d:=293) (v:=.pointer (some ⟨g8,f8+3,none⟩)) (w':=wx w 0 [.cells [us 0,us 1,us 2,us 3].toArray T.tX (0,0),.cells [nilS,nilS,sl68 (N+5) 3].toArray T.tM (0,0),.cells code68.toArray tIn (0,0),.cells slots68.toArray T.tD (0,0),.cells (fun68 [102] (sl68 (N+3) 3) (sl68 (N+2) 9)).toArray T.tF (0,0),.cells (funcs68 (sl68 (N+3) 3) (sl68 (N+2) 9)).toArray T.tF (0,0),.cells [nilS,nilS,sl68 (N+5) 3].toArray T.tM (0,0),.cells [].toArray T.tL (0,0)]) rfl a5 (by omega) (fun o ho=>by
    simp only [execOp,ho]
    refine run_val ?_
    rw [show c5.eval (.tmp 8)=.pointer (some ⟨g8,f8,none⟩) from (a5.2.2 8).trans hv8]
    exact run_fad T.kX T.X3 T.Ls (by rw [T.Ls1];decide) _ _) fun c6 a6=>?_
  refine x_val h18 (d:=294) (v:=us 3) (w':=wx w 0 [.cells [us 0,us 1,us 2,us 3].toArray T.tX (0,0),.cells [nilS,nilS,sl68 (N+5) 3].toArray T.tM (0,0),.cells code68.toArray tIn (0,0),.cells slots68.toArray T.tD (0,0),.cells (fun68 [102] (sl68 (N+3) 3) (sl68 (N+2) 9)).toArray T.tF (0,0),.cells (funcs68 (sl68 (N+3) 3) (sl68 (N+2) 9)).toArray T.tF (0,0),.cells [nilS,nilS,sl68 (N+5) 3].toArray T.tM (0,0),.cells [].toArray T.tL (0,0)]) rfl a6 (by omega) (fun o ho=>by
    simp only [execOp,ho]
    refine run_val ?_
    rw [show c6.eval (.tmp 293)=.pointer (some ⟨g8,f8+3,none⟩) from a6.2.2 293]
    have:=cell8 (dr:=0) (L:=[.cells [us 0,us 1,us 2,us 3].toArray T.tX (0,0),.cells [nilS,nilS,sl68 (N+5) 3].toArray T.tM (0,0),.cells code68.toArray tIn (0,0),.cells slots68.toArray T.tD (0,0),.cells (fun68 [102] (sl68 (N+3) 3) (sl68 (N+2) 9)).toArray T.tF (0,0),.cells (funcs68 (sl68 (N+3) 3) (sl68 (N+2) 9)).toArray T.tF (0,0),.cells [nilS,nilS,sl68 (N+5) 3].toArray T.tM (0,0),.cells [].toArray T.tL (0,0)]) (j:=3) rfl
    simp only [Instr.loadAt,Instr.sureAddr,Sem.run_bind,Sem.run_pure,Result.andThen_ok,loadVar,run_isAgg T.Ls.kind,T.Lsa,Bool.false_eq_true,if_false,run_load,this]) fun c7 a7=>?_
  have hR8:Rel G w0 st (wx w 0 [.cells [us 0,us 1,us 2,us 3].toArray T.tX (0,0),.cells [nilS,nilS,sl68 (N+5) 3].toArray T.tM (0,0),.cells code68.toArray tIn (0,0),.cells slots68.toArray T.tD (0,0),.cells (fun68 [102] (sl68 (N+3) 3) (sl68 (N+2) 9)).toArray T.tF (0,0),.cells (funcs68 (sl68 (N+3) 3) (sl68 (N+2) 9)).toArray T.tF (0,0),.cells [nilS,nilS,sl68 (N+5) 3].toArray T.tM (0,0),.cells [].toArray T.tL (0,0)]):=hR.below (by rw [← hN];exact wx_below)
  obtain ⟨us1,hsrc⟩:=Src.slice (P:=P) (size:=6) hR8 hf3 (fun row hrow=>by
    simp only [List.mem_cons,List.not_mem_nil,or_false] at hrow
    rcases hrow with rfl | rfl<;>rfl)
  have happ:=fun ty=>run_app_grow (ty:=ty) (w:=wx w 0 [.cells [us 0,us 1,us 2,us 3].toArray T.tX (0,0),.cells [nilS,nilS,sl68 (N+5) 3].toArray T.tM (0,0),.cells code68.toArray tIn (0,0),.cells slots68.toArray T.tD (0,0),.cells (fun68 [102] (sl68 (N+3) 3) (sl68 (N+2) 9)).toArray T.tF (0,0),.cells (funcs68 (sl68 (N+3) 3) (sl68 (N+2) 9)).toArray T.tF (0,0),.cells [nilS,nilS,sl68 (N+5) 3].toArray T.tM (0,0),.cells [].toArray T.tL (0,0)]) T.Lsu T.Lsu (.inr ⟨_,rfl⟩) hLi hLz (base:=some ⟨N+7,0,none⟩) (n:=0) (cap:=0) (m:=2) (olds:=#[]) (hsrc.len _) (by rw [hL6];exact hsrc.first _ rfl) (by simp [Builtin.firstCells,loadCells,loadCellsFrom]) (by decide) (by decide) (by omega)
  generalize hcap:grownCap (wx w 0 [.cells [us 0,us 1,us 2,us 3].toArray T.tX (0,0),.cells [nilS,nilS,sl68 (N+5) 3].toArray T.tM (0,0),.cells code68.toArray tIn (0,0),.cells slots68.toArray T.tD (0,0),.cells (fun68 [102] (sl68 (N+3) 3) (sl68 (N+2) 9)).toArray T.tF (0,0),.cells (funcs68 (sl68 (N+3) 3) (sl68 (N+2) 9)).toArray T.tF (0,0),.cells [nilS,nilS,sl68 (N+5) 3].toArray T.tM (0,0),.cells [].toArray T.tL (0,0)]) (0+2) 0 T.tL=cap at happ
  have hcge:2≤cap:=by
    rw [← hcap];unfold grownCap Question.cut;exact Nat.le_add_right _ _
  obtain ⟨zs,hzs⟩ :∃zs:List Value,Builtin.zeroCells zL.cells (cap-(0+2))=zs.toArray:=⟨_,(Array.toArray_toList).symm⟩
  rw [wx_drew,wx_alloc,wx_size,hN,hzs] at happ
  have happ' :∀ty,(Builtin.append_ #[T.tLs,T.tLs] ty #[sl68 (N+7) 0,us 3]).run P (wx w 0 [.cells [us 0,us 1,us 2,us 3].toArray T.tX (0,0),.cells [nilS,nilS,sl68 (N+5) 3].toArray T.tM (0,0),.cells code68.toArray tIn (0,0),.cells slots68.toArray T.tD (0,0),.cells (fun68 [102] (sl68 (N+3) 3) (sl68 (N+2) 9)).toArray T.tF (0,0),.cells (funcs68 (sl68 (N+3) 3) (sl68 (N+2) 9)).toArray T.tF (0,0),.cells [nilS,nilS,sl68 (N+5) 3].toArray T.tM (0,0),.cells [].toArray T.tL (0,0)])=.ok (Value.slice (some ⟨N+8,0,none⟩) 2 cap) (wx w 1 [.cells [us 0,us 1,us 2,us 3].toArray T.tX (0,0),.cells [nilS,nilS,sl68 (N+5) 3].toArray T.tM (0,0),.cells code68.toArray tIn (0,0),.cells slots68.toArray T.tD (0,0),.cells (fun68 [102] (sl68 (N+3) 3) (sl68 (N+2) 9)).toArray T.tF (0,0),.cells (funcs68 (sl68 (N+3) 3) (sl68 (N+2) 9)).toArray T.tF (0,0),.cells [nilS,nilS,sl68 (N+5) 3].toArray T.tM (0,0),.cells [].toArray T.tL (0,0),.cells (flat us1 2 6++zs).toArray T.tL (0,0)]):=by
    intro ty
    have e7:(#[sl68 (N+7) 0,us 3]:Array Value)=#[.slice (some ⟨N+7,0,none⟩) 0 0,.slice A3 [[p0,p1,p2,p3,p4,p5],[q0,q1,q2,q3,q4,q5]].length cp3]:=by rw [u3];rfl
    rw [e7]
    refine (happ ty).trans ?_
    congr 1
    show wx w 1 ([.cells [us 0,us 1,us 2,us 3].toArray T.tX (0,0),.cells [nilS,nilS,sl68 (N+5) 3].toArray T.tM (0,0),.cells code68.toArray tIn (0,0),.cells slots68.toArray T.tD (0,0),.cells (fun68 [102] (sl68 (N+3) 3) (sl68 (N+2) 9)).toArray T.tF (0,0),.cells (funcs68 (sl68 (N+3) 3) (sl68 (N+2) 9)).toArray T.tF (0,0),.cells [nilS,nilS,sl68 (N+5) 3].toArray T.tM (0,0),.cells [].toArray T.tL (0,0)]++[.cells (#[]++(flat us1 2 6).toArray++zs.toArray) T.tL (0,0)])=_
    simp
  refine x_val h18 (d:=295) (v:=Value.slice (some ⟨N+8,0,none⟩) 2 cap) (w':=wx w 1 [.cells [us 0,us 1,us 2,us 3].toArray T.tX (0,0),.cells [nilS,nilS,sl68 (N+5) 3].toArray T.tM (0,0),.cells code68.toArray tIn (0,0),.cells slots68.toArray T.tD (0,0),.cells (fun68 [102] (sl68 (N+3) 3) (sl68 (N+2) 9)).toArray T.tF (0,0),.cells (funcs68 (sl68 (N+3) 3) (sl68 (N+2) 9)).toArray T.tF (0,0),.cells [nilS,nilS,sl68 (N+5) 3].toArray T.tM (0,0),.cells [].toArray T.tL (0,0),.cells (flat us1 2 6++zs).toArray T.tL (0,0)]) rfl a7 (by omega) (fun o ho=>by
    cases o
    cases ho
    rw [execOp_builtin]
    simp only [builtin_append]
    refine run_val ?_
    rw [show (#[.tmp 292,.tmp 294]:Array Operand).map c7.eval=#[sl68 (N+7) 0,us 3] from by
      have e1:c7.eval (.tmp 292)=sl68 (N+7) 0:=a7.2.2 292
      have e2:c7.eval (.tmp 294)=us 3:=a7.2.2 294
      simp only [List.map_toArray,List.map_cons,List.map_nil,e1,e2]]
    exact happ' _) fun c8 a8=>?_
  refine x_val h18 (d:=296) (v:=.pointer (some ⟨N+0,0+3,none⟩)) (w':=wx w 1 [.cells [us 0,us 1,us 2,us 3].toArray T.tX (0,0),.cells [nilS,nilS,sl68 (N+5) 3].toArray T.tM (0,0),.cells code68.toArray tIn (0,0),.cells slots68.toArray T.tD (0,0),.cells (fun68 [102] (sl68 (N+3) 3) (sl68 (N+2) 9)).toArray T.tF (0,0),.cells (funcs68 (sl68 (N+3) 3) (sl68 (N+2) 9)).toArray T.tF (0,0),.cells [nilS,nilS,sl68 (N+5) 3].toArray T.tM (0,0),.cells [].toArray T.tL (0,0),.cells (flat us1 2 6++zs).toArray T.tL (0,0)]) rfl a8 (by omega) (fun o ho=>by
    simp only [execOp,ho]
    refine run_val ?_
    rw [show c8.eval (.tmp 11)=.pointer (some ⟨N+0,0,none⟩) from a8.2.2 11]
    exact run_fad T.kX T.X3 T.Ls (by rw [T.Ls1];decide) _ _) fun c9 a9=>?_
  refine st_unit h18 (w':=wx w 1 [.cells [Value.int .i64 ia,.int .i64 ib,.int .u64 ic,.slice (some ⟨N+8,0,none⟩) 2 cap].toArray T.tX (0,0),.cells [nilS,nilS,sl68 (N+5) 3].toArray T.tM (0,0),.cells code68.toArray tIn (0,0),.cells slots68.toArray T.tD (0,0),.cells (fun68 [102] (sl68 (N+3) 3) (sl68 (N+2) 9)).toArray T.tF (0,0),.cells (funcs68 (sl68 (N+3) 3) (sl68 (N+2) 9)).toArray T.tF (0,0),.cells [nilS,nilS,sl68 (N+5) 3].toArray T.tM (0,0),.cells [].toArray T.tL (0,0),.cells (flat us1 2 6++zs).toArray T.tL (0,0)]) rfl (fun o ho=>?_) ?_
  · simp only [execOp,ho]
    refine run_unit ?_
    rw [show c9.eval (.tmp 296)=.pointer (some ⟨N+0,3,none⟩) from a9.2.2 296,show c9.eval (.tmp 295)=Value.slice (some ⟨N+8,0,none⟩) 2 cap from a9.2.2 295]
    refine x_store (us:=[Value.slice (some ⟨N+8,0,none⟩) 2 cap]) (cl:=[us 0,us 1,us 2,us 3]) T.Ls hN rfl rfl (by rw [T.Ls1];rfl) (by rw [T.Ls1];exact Nat.le_refl 4) (by intro x hx;rw [List.mem_singleton.1 hx];rfl) (cl':=[Value.int .i64 ia,.int .i64 ib,.int .u64 ic,.slice (some ⟨N+8,0,none⟩) 2 cap]) (by rw [T.Ls1,u0,u1,u2];rfl) rfl
  show Code.wp P _ _ c9 _
  refine wp_seq (wp_region ?_)
  rw [h19.size]
  show wpOps P o19 _ [0] _ _
  refine x_val h19 (d:=297) (v:=.int .i64 i) (w':=wx w 1 [.cells [Value.int .i64 ia,.int .i64 ib,.int .u64 ic,.slice (some ⟨N+8,0,none⟩) 2 cap].toArray T.tX (0,0),.cells [nilS,nilS,sl68 (N+5) 3].toArray T.tM (0,0),.cells code68.toArray tIn (0,0),.cells slots68.toArray T.tD (0,0),.cells (fun68 [102] (sl68 (N+3) 3) (sl68 (N+2) 9)).toArray T.tF (0,0),.cells (funcs68 (sl68 (N+3) 3) (sl68 (N+2) 9)).toArray T.tF (0,0),.cells [nilS,nilS,sl68 (N+5) 3].toArray T.tM (0,0),.cells [].toArray T.tL (0,0),.cells (flat us1 2 6++zs).toArray T.tL (0,0)]) rfl a9 (by omega) (fun o ho=>by simp only [execOp,ho];rw [show c9.eval (.tmp 10)=.int .i64 i from (a9.2.2 10).trans v10];rfl) fun c10 a10=>?_
  have nin :∀{t d:Nat},hwK68 t=false→hwK68 d=true→t≠d:=by
    rintro t d h1 h2 rfl
    rw [h2] at h1;cases h1
  have A:At68 nt a N i c10:=by
    refine ⟨a10.1,a10.2.1,fun t h1 h2 h3=>?_,a10.2.2 11,a10.2.2 12,a10.2.2 297⟩
    rw [a10.2.2 t]
    simp only [if_neg h1,if_neg h2,if_neg (nin h3 (d:=290) rfl),if_neg (nin h3 (d:=291) rfl),if_neg (nin h3 (d:=292) rfl),if_neg (nin h3 (d:=293) rfl),if_neg (nin h3 (d:=294) rfl),if_neg (nin h3 (d:=295) rfl),if_neg (nin h3 (d:=296) rfl),if_neg (nin h3 (d:=297) rfl)]
  clear a0 a1 a2 a3 a4 a5 a6 a7 a8 a9 a10
  have hfl:flat us1 2 6=[us1 0 0,us1 0 1,us1 0 2,us1 0 3,us1 0 4,us1 0 5,us1 1 0,us1 1 1,us1 1 2,us1 1 3,us1 1 4,us1 1 5]:=rfl
  rw [hfl]
  exact sw68 T hm hnt bV hIu hDi hDz hD2 hDb hz14 ht0 ht1 ht2 ht3 ht4 ht5 ht6 ht7 ht8 hb0 hb1 hb2 hb3 hb4 hb5 hb6 hb7 hA hR hN hcge
    ⟨rfl,⟨⟨hsrc.fz 0 _ 0 _ rfl rfl,hsrc.one 0 _ 0 _ rfl rfl⟩,⟨hsrc.fz 0 _ 1 _ rfl rfl,hsrc.one 0 _ 1 _ rfl rfl⟩,⟨hsrc.fz 0 _ 2 _ rfl rfl,hsrc.one 0 _ 2 _ rfl rfl⟩,⟨hsrc.fz 0 _ 3 _ rfl rfl,hsrc.one 0 _ 3 _ rfl rfl⟩,⟨hsrc.fz 0 _ 4 _ rfl rfl,hsrc.one 0 _ 4 _ rfl rfl⟩,⟨hsrc.fz 0 _ 5 _ rfl rfl,hsrc.one 0 _ 5 _ rfl rfl⟩,trivial⟩,rfl,⟨⟨hsrc.fz 1 _ 0 _ rfl rfl,hsrc.one 1 _ 0 _ rfl rfl⟩,⟨hsrc.fz 1 _ 1 _ rfl rfl,hsrc.one 1 _ 1 _ rfl rfl⟩,⟨hsrc.fz 1 _ 2 _ rfl rfl,hsrc.one 1 _ 2 _ rfl rfl⟩,⟨hsrc.fz 1 _ 3 _ rfl rfl,hsrc.one 1 _ 3 _ rfl rfl⟩,⟨hsrc.fz 1 _ 4 _ rfl rfl,hsrc.one 1 _ 4 _ rfl rfl⟩,⟨hsrc.fz 1 _ 5 _ rfl rfl,hsrc.one 1 _ 5 _ rfl rfl⟩,trivial⟩,trivial⟩ hQ A
end
end Go.AM

/- MADE BY PROGRAM (seat2.py): the types of the program, and that its code is the machine's. -/
namespace Go.Proofs
open Go.Shelf
def Try.lays169_ren : Go.Shelf.Ren := ⟨fun | 169 => 43 | n => n, fun | 70 => 85 | 9 => 9 | 0 => 0 | 72 => 87 | 37 => 66 | 127 => 120 | 3 => 3 | 5 => 5 | n => n, fun | n => n⟩
theorem Try.lays169 : Go.Proofs.Lays.n169 Try.prog Try.lays169_ren := {
  mixed := by kernel_rfl
  f169 := Try.func43.trans (congrArg some (by kernel_rfl))
  t0 := Try.underlying0
  a0 := Try.isAgg0
  z0 := Try.sizeOf0
  v0 := Try.zeroValue0
  t3 := Try.underlying3
  a3 := Try.isAgg3
  z3 := Try.sizeOf3
  v3 := Try.zeroValue3
  t9 := Try.underlying9
  a9 := Try.isAgg9
  z9 := Try.sizeOf9
  v9 := Try.zeroValue9
  t37 := Try.underlying66
  a37 := Try.isAgg66
  z37 := Try.sizeOf66
  v37 := Try.zeroValue66
  t70 := Try.underlying85
  a70 := Try.isAgg85
  z70 := Try.sizeOf85
  v70 := Try.zeroValue85
  t72 := Try.underlying87
  a72 := Try.isAgg87
  z72 := Try.sizeOf87
  v72 := Try.zeroValue87
  t127 := Try.underlying120
  a127 := Try.isAgg120
  z127 := Try.sizeOf120
  v127 := Try.zeroValue120 }

theorem Try.extraB : Builder.Extra Try.prog Try.lays169_ren := {
  sizeBuilder := by kernel_rfl
  liesBuilder := by kernel_rfl
  t5 := Try.underlying5
  a5 := Try.isAgg5
  z5 := Try.sizeOf5
  v5 := Try.zeroValue5
  infoByte := by kernel_rfl
  cellsByte := by kernel_rfl
  sizeByte := by kernel_rfl
  neB5 := by decide }
end Go.Proofs
namespace Go.Proofs.Ytcojcdpoeaaigaa
open Go Go.AM

def tys : List (Nat × TI) := [
(2, ⟨.int .i64, 1, 8, [z6]⟩),
  (3, ⟨.int .i64, 1, 8, [z6]⟩),
  (4, ⟨.bool, 1, 1, [zb]⟩),
  (5, ⟨.int .u8, 1, 1, [z8]⟩),
  (9, ⟨.str, 1, 16, [zs]⟩),
  (22, ⟨.sl 24, 1, 24, [zl]⟩),
  (24, ⟨.st [(5, 0), (2, 1), (9, 2), (22, 3), (4, 4)], 5, 64, [z8, z6, zs, zl, zb]⟩),
  (26, ⟨.int .i64, 1, 8, [z6]⟩),
  (39, ⟨.sl 175, 1, 24, [zl]⟩),
  (40, ⟨.sl 9, 1, 24, [zl]⟩),
  (41, ⟨.sl 81, 1, 24, [zl]⟩),
  (43, ⟨.st [(39, 0), (40, 1), (41, 2)], 3, 72, [zl, zl, zl]⟩),
  (44, ⟨.int .u64, 1, 8, [z7]⟩),
  (45, ⟨.sl 74, 1, 24, [zl]⟩),
  (47, ⟨.st [(3, 0), (3, 1), (44, 2), (45, 3)], 4, 48, [z6, z6, z7, zl]⟩),
  (66, ⟨.sl 5, 1, 24, [zl]⟩),
  (71, ⟨.other, 1, 8, [.nf]⟩),
  (74, ⟨.st [(3, 0), (24, 1)], 6, 72, [z6, z8, z6, zs, zl, zb]⟩),
  (76, ⟨.st [(9, 0), (3, 1)], 2, 24, [zs, z6]⟩),
  (77, ⟨.sl 76, 1, 24, [zl]⟩),
  (78, ⟨.sl 177, 1, 24, [zl]⟩),
  (79, ⟨.sl 179, 1, 24, [zl]⟩),
  (81, ⟨.st [(9, 0), (3, 1), (3, 2), (77, 3), (78, 4), (79, 5), (79, 6)], 7, 128, [zs, z6, z6, zl, zl, zl, zl]⟩),
  (85, ⟨.ptr 87, 1, 8, [.np]⟩),
  (87, ⟨.st [(85, 0), (66, 1)], 2, 32, [.np, .sl .full []]⟩),
  (91, ⟨.ptr 93, 1, 8, [.np]⟩),
  (93, ⟨.st [(9, 0)], 1, 16, [zs]⟩),
  (102, ⟨.arr 4 9, 4, 64, [zs, zs, zs, zs]⟩),
  (111, ⟨.other, 1, 8, [.nf]⟩),
  (113, ⟨.arr 8 9, 8, 128, [zs, zs, zs, zs, zs, zs, zs, zs]⟩),
  (115, ⟨.other, 1, 16, [.ni]⟩),
  (150, ⟨.uptr, 1, 8, [.np]⟩),
  (152, ⟨.arr 64 5, 64, 64, [z8, z8, z8, z8, z8, z8, z8, z8, z8, z8, z8, z8, z8, z8, z8, z8, z8, z8, z8, z8, z8, z8, z8, z8, z8, z8, z8, z8, z8, z8, z8, z8, z8, z8, z8, z8, z8, z8, z8, z8, z8, z8, z8, z8, z8, z8, z8, z8, z8, z8, z8, z8, z8, z8, z8, z8, z8, z8, z8, z8, z8, z8, z8, z8]⟩),
  (175, ⟨.st [(5, 0), (3, 1), (3, 2), (77, 3)], 4, 48, [z8, z6, z6, zl]⟩),
  (177, ⟨.st [(5, 0), (3, 1), (3, 2), (3, 3)], 4, 32, [z8, z6, z6, z6]⟩),
  (179, ⟨.st [(3, 0), (44, 1)], 2, 16, [z6, z7]⟩)]
theorem ty3 : TOk Try.prog 3 (((3, ⟨.int .i64, 1, 8, [.i .i64 0]⟩) : Nat × TI).2) := TOk.of (ti := Try.t3) (by kernel_rfl) (by kernel_rfl) (by kernel_rfl) (show Try.prog.underlying 3 = some (.int .i64) from by kernel_rfl)
theorem ty9 : TOk Try.prog 9 (((9, ⟨.str, 1, 16, [.s []]⟩) : Nat × TI).2) := TOk.of (ti := Try.t9) (by kernel_rfl) (by kernel_rfl) (by kernel_rfl) (show Try.prog.underlying 9 = some (.string) from by kernel_rfl)
theorem ty24 : TOk Try.prog 24 (((24, ⟨.st [(5, 0), (2, 1), (9, 2), (22, 3), (4, 4)], 5, 64, [.i .u8 0, .i .i64 0, .s [], .sl .full [], .b false]⟩) : Nat × TI).2) := TOk.of (ti := Try.t24) (by kernel_rfl) (by kernel_rfl) (by kernel_rfl) (TK.ok_st (by kernel_rfl))
theorem ty41 : TOk Try.prog 41 (((41, ⟨.sl 81, 1, 24, [.sl .full []]⟩) : Nat × TI).2) := TOk.of (ti := Try.t41) (by kernel_rfl) (by kernel_rfl) (by kernel_rfl) (show Try.prog.underlying 41 = some (.slice 81) from by kernel_rfl)
theorem ty43 : TOk Try.prog 43 (((43, ⟨.st [(39, 0), (40, 1), (41, 2)], 3, 72, [.sl .full [], .sl .full [], .sl .full []]⟩) : Nat × TI).2) := TOk.of (ti := Try.t43) (by kernel_rfl) (by kernel_rfl) (by kernel_rfl) (TK.ok_st (by kernel_rfl))
theorem ty44 : TOk Try.prog 44 (((44, ⟨.int .u64, 1, 8, [.i .u64 0]⟩) : Nat × TI).2) := TOk.of (ti := Try.t44) (by kernel_rfl) (by kernel_rfl) (by kernel_rfl) (show Try.prog.underlying 44 = some (.int .u64) from by kernel_rfl)
theorem ty45 : TOk Try.prog 45 (((45, ⟨.sl 74, 1, 24, [.sl .full []]⟩) : Nat × TI).2) := TOk.of (ti := Try.t45) (by kernel_rfl) (by kernel_rfl) (by kernel_rfl) (show Try.prog.underlying 45 = some (.slice 74) from by kernel_rfl)
theorem ty47 : TOk Try.prog 47 (((47, ⟨.st [(3, 0), (3, 1), (44, 2), (45, 3)], 4, 48, [.i .i64 0, .i .i64 0, .i .u64 0, .sl .full []]⟩) : Nat × TI).2) := TOk.of (ti := Try.t47) (by kernel_rfl) (by kernel_rfl) (by kernel_rfl) (TK.ok_st (by kernel_rfl))
theorem ty74 : TOk Try.prog 74 (((74, ⟨.st [(3, 0), (24, 1)], 6, 72, [.i .i64 0, .i .u8 0, .i .i64 0, .s [], .sl .full [], .b false]⟩) : Nat × TI).2) := TOk.of (ti := Try.t74) (by kernel_rfl) (by kernel_rfl) (by kernel_rfl) (TK.ok_st (by kernel_rfl))
theorem ty76 : TOk Try.prog 76 (((76, ⟨.st [(9, 0), (3, 1)], 2, 24, [.s [], .i .i64 0]⟩) : Nat × TI).2) := TOk.of (ti := Try.t76) (by kernel_rfl) (by kernel_rfl) (by kernel_rfl) (TK.ok_st (by kernel_rfl))
theorem ty77 : TOk Try.prog 77 (((77, ⟨.sl 76, 1, 24, [.sl .full []]⟩) : Nat × TI).2) := TOk.of (ti := Try.t77) (by kernel_rfl) (by kernel_rfl) (by kernel_rfl) (show Try.prog.underlying 77 = some (.slice 76) from by kernel_rfl)
theorem ty81 : TOk Try.prog 81 (((81, ⟨.st [(9, 0), (3, 1), (3, 2), (77, 3), (78, 4), (79, 5), (79, 6)], 7, 128, [.s [], .i .i64 0, .i .i64 0, .sl .full [], .sl .full [], .sl .full [], .sl .full []]⟩) : Nat × TI).2) := TOk.of (ti := Try.t81) (by kernel_rfl) (by kernel_rfl) (by kernel_rfl) (TK.ok_st (by kernel_rfl))
theorem tys_ok : ∀ x ∈ tys, TOk Try.prog x.1 x.2 :=
 tC (tK Try.t2 kE) (tC ty3 (tC (tK Try.t4 kE) (tC (tK Try.t5 kE) (tC ty9 (tC (tK Try.t22 kE) (tC ty24 (tC (tK Try.t26 kE) (tC (tK Try.t39 kE) (tC (tK Try.t40 kE) (tC ty41 (tC ty43 (tC ty44 (tC ty45 (tC ty47 (tC (tK Try.t66 kE) (tC (tK Try.t71 kO) (tC ty74 (tC ty76 (tC ty77 (tC (tK Try.t78 kE) (tC (tK Try.t79 kE) (tC ty81 (tC (tK Try.t85 (And.intro (by kernel_rfl) (by kernel_rfl))) (tC (tK Try.t87 kS) (tC (tK Try.t91 (And.intro (by kernel_rfl) (by kernel_rfl))) (tC (tK Try.t93 kS) (tC (tK Try.t102 kE) (tC (tK Try.t111 kO) (tC (tK Try.t113 kE) (tC (tK Try.t115 kO) (tC (tK Try.t150 kE) (tC (tK Try.t152 kE) (tC (tK Try.t175 kS) (tC (tK Try.t177 kS) (tC (tK Try.t179 kS) (tN))))))))))))))))))))))))))))))))))))
def fms : List (Nat × Nat) := [(2, 2), (3, 66), (4, 67), (5, 68), (6, 69), (7, 70), (8, 71), (9, 72), (10, 73), (11, 74), (12, 75), (13, 76), (14, 77), (15, 78), (16, 79), (17, 80), (18, 81), (19, 82), (20, 83), (21, 84), (22, 85), (23, 86), (24, 87), (25, 29), (26, 88), (27, 89), (28, 90), (29, 91), (30, 92), (31, 93), (32, 94), (33, 95), (34, 96), (35, 97), (36, 98), (37, 99), (38, 100), (39, 101), (40, 102), (41, 103), (42, 104), (43, 105), (44, 106), (45, 107), (46, 108), (47, 109), (48, 110), (49, 111), (50, 112), (51, 113), (52, 114), (53, 115), (54, 116), (55, 117), (56, 118), (57, 119), (58, 120), (59, 121), (60, 122), (61, 123), (62, 124), (63, 125), (64, 126), (65, 15), (66, 11), (67, 16), (68, 31), (69, 127), (70, 128), (71, 129), (72, 130), (73, 131), (74, 132), (75, 133), (76, 134), (77, 26), (78, 135), (79, 22), (80, 136), (81, 137), (82, 138), (83, 139), (84, 140), (85, 141), (86, 142), (87, 143), (88, 144), (89, 145), (90, 34), (91, 30), (92, 35), (93, 41), (94, 36), (95, 25), (96, 21), (97, 40), (98, 38), (99, 146), (100, 42), (101, 39), (102, 37), (103, 44), (104, 46), (105, 45), (106, 43), (107, 47), (108, 48), (1000000000000, 1000000087), (1000000000001, 1000000005)]
def X : Cx := ⟨tabOf tys, fmOf fms, fun c => [30, 89, 104, 105, 107, 115, 116, 117, 120, 122, 123, 126, 128, 129, 130, 131, 139, 140, 144, 145, 146, 184, 217, 224, 225, 227, 228, 229, 230, 232, 233, 236, 237, 238, 239, 252, 268, 269, 270, 271, 272, 273, 274, 275, 276, 307, 308, 309, 311, 312].contains c, []⟩
theorem ok42 : FnOk Try.prog X 100 pf42 := fK Try.func100
theorem ok46 : FnOk Try.prog X 104 pf46 := fK Try.func104
theorem ok36 : FnOk Try.prog X 94 pf36 := fK Try.func94
theorem ok43 : FnOk Try.prog X 106 pf43 := fK Try.func106
theorem ok47 : FnOk Try.prog X 107 pf47 := fK Try.func107
theorem ok11 : FnOk Try.prog X 66 pf11 := fK Try.func66
theorem ok15 : FnOk Try.prog X 65 pf15 := fK Try.func65
theorem ok21 : FnOk Try.prog X 96 pf21 := fK Try.func96
theorem ok25 : FnOk Try.prog X 95 pf25 := fK Try.func95
theorem ok30 : FnOk Try.prog X 91 pf30 := fK Try.func91
theorem ok34 : FnOk Try.prog X 90 pf34 := fK Try.func90
theorem ok37 : FnOk Try.prog X 102 pf37 := fK Try.func102
theorem ok39 : FnOk Try.prog X 101 pf39 := fK Try.func101
theorem ok45 : FnOk Try.prog X 105 pf45 := fK Try.func105
theorem ok29 : FnOk Try.prog X 25 pf29 := fK Try.func25
theorem ok145 : FnOk Try.prog X 89 pf145 := fK Try.func89
theorem ok126 : FnOk Try.prog X 64 pf126 := fK Try.func64
theorem ok72 : FnOk Try.prog X 9 pf72 := fK Try.func9
theorem ok74 : FnOk Try.prog X 11 pf74 := fK Try.func11
theorem ok76 : FnOk Try.prog X 13 pf76 := fK Try.func13
theorem ok78 : FnOk Try.prog X 15 pf78 := fK Try.func15
theorem ok104 : FnOk Try.prog X 42 pf104 := fK Try.func42
theorem ok107 : FnOk Try.prog X 45 pf107 := fK Try.func45
theorem ok109 : FnOk Try.prog X 47 pf109 := fK Try.func47
theorem ok128 : FnOk Try.prog X 70 pf128 := fK Try.func70
theorem ok129 : FnOk Try.prog X 71 pf129 := fK Try.func71
theorem ok130 : FnOk Try.prog X 72 pf130 := fK Try.func72
theorem ok131 : FnOk Try.prog X 73 pf131 := fK Try.func73
theorem ok82 : FnOk Try.prog X 19 pf82 := fK Try.func19
theorem ok86 : FnOk Try.prog X 23 pf86 := fK Try.func23
theorem ok88 : FnOk Try.prog X 26 pf88 := fK Try.func26
theorem ok111 : FnOk Try.prog X 49 pf111 := fK Try.func49
theorem ok112 : FnOk Try.prog X 50 pf112 := fK Try.func50
theorem ok113 : FnOk Try.prog X 51 pf113 := fK Try.func51
theorem ok115 : FnOk Try.prog X 53 pf115 := fK Try.func53
theorem ok116 : FnOk Try.prog X 54 pf116 := fK Try.func54
theorem ok119 : FnOk Try.prog X 57 pf119 := fK Try.func57
theorem ok122 : FnOk Try.prog X 60 pf122 := fK Try.func60
theorem ok123 : FnOk Try.prog X 61 pf123 := fK Try.func61
theorem ok124 : FnOk Try.prog X 62 pf124 := fK Try.func62
theorem ok139 : FnOk Try.prog X 83 pf139 := fK Try.func83
theorem ok141 : FnOk Try.prog X 85 pf141 := fK Try.func85
theorem ok144 : FnOk Try.prog X 88 pf144 := fK Try.func88
theorem ok84 : FnOk Try.prog X 21 pf84 := fK Try.func21
theorem ok117 : FnOk Try.prog X 55 pf117 := fK Try.func55
theorem ok118 : FnOk Try.prog X 56 pf118 := fK Try.func56
theorem ok140 : FnOk Try.prog X 84 pf140 := fK Try.func84
theorem ok89 : FnOk Try.prog X 27 pf89 := fK Try.func27
theorem ok90 : FnOk Try.prog X 28 pf90 := fK Try.func28
theorem ok91 : FnOk Try.prog X 29 pf91 := fK Try.func29
theorem ok92 : FnOk Try.prog X 30 pf92 := fK Try.func30
theorem ok93 : FnOk Try.prog X 31 pf93 := fK Try.func31
theorem ok98 : FnOk Try.prog X 36 pf98 := fK Try.func36
theorem ok99 : FnOk Try.prog X 37 pf99 := fK Try.func37
theorem ok101 : FnOk Try.prog X 39 pf101 := fK Try.func39
theorem ok125 : FnOk Try.prog X 63 pf125 := fK Try.func63
theorem ok94 : FnOk Try.prog X 32 pf94 := fK Try.func32
theorem ok95 : FnOk Try.prog X 33 pf95 := fK Try.func33
theorem ok96 : FnOk Try.prog X 34 pf96 := fK Try.func34
theorem ok97 : FnOk Try.prog X 35 pf97 := fK Try.func35
theorem ok100 : FnOk Try.prog X 38 pf100 := fK Try.func38
theorem tyVal : TyVal X.T 24 := ⟨5, 2, 9, 22, 4, ⟨_, rfl, rfl, rfl⟩, ⟨_, rfl, rfl, rfl⟩, ⟨_, rfl, rfl, rfl⟩, ⟨_, rfl, rfl, rfl⟩, ⟨_, rfl, rfl, rfl⟩, ⟨_, rfl, rfl, rfl⟩⟩
theorem tyFld : TyFld X.T 76 := ⟨9, 3, ⟨_, rfl, rfl, rfl⟩, ⟨_, rfl, rfl, rfl⟩, ⟨_, rfl, rfl, rfl⟩⟩
theorem tyIns : TyIns X.T 177 := ⟨5, 3, 3, 3, ⟨_, rfl, rfl, rfl⟩, ⟨_, rfl, rfl, rfl⟩, ⟨_, rfl, rfl, rfl⟩, ⟨_, rfl, rfl, rfl⟩, ⟨_, rfl, rfl, rfl⟩⟩
theorem tyRnn : TyRnn X.T 179 := ⟨3, 44, ⟨_, rfl, rfl, rfl⟩, ⟨_, rfl, rfl, rfl⟩, ⟨_, rfl, rfl, rfl⟩⟩
theorem tyTyp : TyTyp X.T 175 := ⟨5, 3, 3, 77, 76, ⟨_, rfl, rfl, rfl⟩, ⟨_, rfl, rfl, rfl⟩, ⟨_, rfl, rfl, rfl⟩, ⟨_, rfl, rfl, rfl⟩, ⟨_, rfl, rfl, rfl⟩, tyFld⟩
theorem tyFun : TyFun X.T 81 := ⟨9, 3, 3, 77, 78, 79, 79, 76, 177, 179, 179, ⟨_, rfl, rfl, rfl⟩, ⟨_, rfl, rfl, rfl⟩, ⟨_, rfl, rfl, rfl⟩, ⟨_, rfl, rfl, rfl⟩, ⟨_, rfl, rfl, rfl⟩, tyFld, ⟨_, rfl, rfl, rfl⟩, tyIns, ⟨_, rfl, rfl, rfl⟩, tyRnn, ⟨_, rfl, rfl, rfl⟩, tyRnn⟩
theorem tyImg : TyImg X.T 43 := ⟨39, 40, 41, 175, 9, 81, ⟨_, rfl, rfl, rfl⟩, ⟨_, rfl, rfl, rfl⟩, tyTyp, ⟨_, rfl, rfl, rfl⟩, ⟨_, rfl, rfl, rfl⟩, ⟨_, rfl, rfl, rfl⟩, tyFun⟩
theorem tyLoc : TyLoc X.T 74 := ⟨3, 24, ⟨_, rfl, rfl, rfl⟩, ⟨_, rfl, rfl, rfl⟩, tyVal⟩
theorem tyFrm : TyFrm X.T 47 := ⟨3, 3, 44, 45, 74, ⟨_, rfl, rfl, rfl⟩, ⟨_, rfl, rfl, rfl⟩, ⟨_, rfl, rfl, rfl⟩, ⟨_, rfl, rfl, rfl⟩, ⟨_, rfl, rfl, rfl⟩, tyLoc⟩
end Go.Proofs.Ytcojcdpoeaaigaa

namespace Go.AM
open Go
structure Has03 (prog:Prog):Prop where
 f42:prog.fn 42=some pf42
 f46:prog.fn 46=some pf46
 f36:prog.fn 36=some pf36
 f43:prog.fn 43=some pf43
 f47:prog.fn 47=some pf47
 f11:prog.fn 11=some pf11
 f15:prog.fn 15=some pf15
 f21:prog.fn 21=some pf21
 f25:prog.fn 25=some pf25
 f30:prog.fn 30=some pf30
 f34:prog.fn 34=some pf34
 f37:prog.fn 37=some pf37
 f39:prog.fn 39=some pf39
 f45:prog.fn 45=some pf45
 f29:prog.fn 29=some pf29
 f48:prog.fn 48=none
 o48 :∀(s:Bytes) (c:UInt8),prog.orac 48 [.s s,.i .u8 (c.toNat:Int)]=some (.i .i64 (Lib.indexByte s c))
section
variable {prog:Prog} (H:Has03 prog)
include H
theorem c30 {s b:Bytes} (hs:s.length≤10000000) (hb:b.length≤1000000000):PuA prog 30 (b.map row8) [.s s] ((b++quo s).map row8):=by
 refine PuAK.to ?_
 have hp:=p30 H.f30 (b0:=b) (s1:=s) (K:=fun x=>x=b++quo s) (by
  unfold T30_0 T30_1
  refine ⟨⟨by simp only [List.length_cons,List.length_nil,maxBytes_eq];omega,by simp only [List.length_cons,List.length_nil,maxBytes_eq];omega⟩,fun P hP=>?_⟩
  refine loop_up (fun i=>b++34::chrs (s.take i)) s.length ?_ ?_
  ·apply hP
   unfold T30_2 T30_4
   have h1:=chrs_len (s.take s.length)
   simp only [List.take_length] at h1 ⊢
   refine ⟨fun h=>absurd h (by omega),fun _=>⟨⟨?_,?_⟩,?_⟩⟩
   ·simp only [List.length_append,List.length_cons,List.length_nil,maxBytes_eq];omega
   ·simp only [List.length_append,List.length_cons,List.length_nil,maxBytes_eq];omega
   ·simp only [quo,List.append_assoc,List.cons_append]
  ·intro i hi ih
   apply hP
   have h1:=chrs_len (s.take i)
   have hc:=s[i].toNat_lt
   rw [chrs_take hi] at ih
   rw [← List.cons_append,← List.append_assoc] at ih
   generalize hx:s[i]=c at ih hc
   have w1:bShr .u8 (c.toNat:Int) 4=((c.toNat / 16:Nat):Int):=by
    show (c.toNat:Int).fdiv 16=_
    rw [Int.fdiv_eq_ediv_of_nonneg _ (by omega)];omega
   have w2:bAnd .u8 (c.toNat:Int) 15=((c.toNat % 16:Nat):Int):=by
    unfold bAnd
    have hx:(BitVec.ofInt IntKind.u8.bits (c.toNat:Int) &&& BitVec.ofInt IntKind.u8.bits 15).toNat=c.toNat % 16:=by
     show (BitVec.ofInt 8 (c.toNat:Int) &&& BitVec.ofInt 8 15).toNat=c.toNat % 16
     rw [BitVec.toNat_and]
     have h1:(BitVec.ofInt 8 (c.toNat:Int)).toNat=c.toNat:=by
      simp
     rw [h1]
     exact Nat.and_two_pow_sub_one_eq_mod c.toNat 4
    rw [hx]
    exact wr_u8 (by omega) (by omega)
   have fit :∀x:Bytes,x.length≤4→Fit ((b++34::chrs (s.take i)).length+x.length) 1:=by
    intro x hx
    simp only [List.length_take] at h1
    refine ⟨?_,?_⟩<;>(simp only [List.length_append,List.length_cons,maxBytes_eq];omega)
   unfold T30_2 T30_3
   rw [wr_succ (by omega)]
   refine ⟨fun _=>⟨by omega,c,by rw [toNat_cast,List.getElem?_eq_getElem hi,hx],?_⟩,fun h=>absurd (show (i:Int)<s.length by omega) h⟩
   simp only [w1,w2,toNat_cast,hexd_get (show c.toNat / 16<16 by omega),hexd_get (show c.toNat % 16<16 by omega),Option.some.injEq,exists_eq_left']
   unfold chr at ih
   refine ⟨fun h2=>⟨fit _ (by simp),?_⟩,fun h2=>⟨fun h3=>⟨fit _ (by simp),?_⟩,fun h3=>⟨fun h4=>⟨fit _ (by simp),?_⟩,fun h4=>⟨fun h5=>⟨by omega,by omega,fit _ (by simp),?_⟩,fun h5=>⟨fun h6=>⟨by omega,by omega,fit _ (by simp),?_⟩,fun h6=>⟨fit _ (by simp),?_⟩⟩⟩⟩⟩⟩
   ·rwa [if_pos (by omega)] at ih
   ·rwa [if_pos (by omega)] at ih
   ·rwa [if_neg (by omega),if_pos (by omega)] at ih
   ·rwa [if_neg (by omega),if_neg (by omega),if_pos (by omega)] at ih
   ·rwa [if_neg (by omega),if_neg (by omega),if_pos (by omega)] at ih
   ·rwa [if_neg (by omega),if_neg (by omega),if_neg (by omega)] at ih)
 intro d st o ha
 obtain ⟨o',st',rows',⟨x,rfl,rfl⟩,h1,h2⟩:=hp d st o ha
 exact ⟨o',st',_,rfl,h1,h2⟩
theorem c11 (s:Bytes):Pus prog 11 [.s s] (.tup [.s (quoR s).1,.i .i64 (quoR s).2]):=by
 obtain ⟨x,y,⟨rfl,rfl⟩,h⟩:=p11 H.f11 (s0:=s) (K:=fun x y=>x=(quoR s).1∧y=(quoR s).2) (by
  unfold T11_0 quoR
  refine ⟨fun h=>?_,fun h=>⟨_,c30 H (b:=[]) (s:=s) (by omega) (by simp),?_⟩⟩
  ·rw [if_pos (by omega)];exact ⟨rfl,rfl⟩
  ·rw [if_neg (by omega)];exact ⟨rfl,rfl⟩)
 exact h
theorem c34 {n b:Nat} (hb:2≤b) (hb':b≤16) (hn:n<18446744073709551616):Pus prog 34 [.i .u64 (n:Int),.i .u64 (b:Int)] (.s (digs b n)):=by
 obtain ⟨x,rfl,h⟩:=p34 H.f34 (n0:=(n:Int)) (base1:=(b:Int)) (K:=fun x=>x=digs b n) (by
  unfold T34_0
  intro P hP
  have key :∀f n',n'<b ^ f→0<f→n'<18446744073709551616→∀a:Nat,f≤a→a≤64→∀m:Bytes,m.length=64→(ds b f n'++m.drop a=digs b n)→P (n':Int) (a:Int) m:=by
   intro f
   induction f with
   | zero=>intro _ _ h;exact absurd h (Nat.lt_irrefl _)
   | succ f ih=>
    intro n' hf _ hn' a ha ha' m hm hd
    apply hP
    have e1:(n':Int).tmod (b:Int)=((n' % b:Nat):Int):=by rw [Int.tmod_eq_emod_of_nonneg (by omega)];omega
    have e2:(n':Int).tdiv (b:Int)=((n' / b:Nat):Int):=by rw [Int.tdiv_eq_ediv_of_nonneg (by omega)];omega
    have e3:IntKind.i64.wrap ((a:Int)-1)=((a-1:Nat):Int):=by rw [wr_i64 (by omega) (by omega)];omega
    have hq:n' / b≤n':=Nat.div_le_self _ _
    have hr:n' % b<b:=Nat.mod_lt _ (by omega)
    have e4:IntKind.u64.wrap ((n' / b:Nat):Int)=((n' / b:Nat):Int):=wr_u64_nat (by omega)
    have hset :∀c:UInt8,(m.set (a-1) c).drop (a-1)=c::m.drop a:=by
     intro c
     rw [List.drop_eq_getElem_cons (by simp;omega),List.getElem_set_self,List.drop_set_of_lt (by omega),show a-1+1=a by omega]
    unfold T34_1
    simp only [e1,e2,e3,e4,toNat_cast,hset]
    refine ⟨by omega,by omega,hexd (n' % b),hexd_get (by omega),by omega,by omega,by omega,by omega,fun h=>⟨by simp [hm],by omega,by omega,?_⟩,fun h=>?_⟩
    ·rw [← hd]
     unfold ds
     have hz:n' / b=0:=by omega
     have hlt:n'<b:=by
      rcases Nat.lt_or_ge n' b with h | h
      ·exact h
      ·have:=Nat.div_pos h (by omega);omega
     rw [if_pos hlt,Nat.mod_eq_of_lt hlt]
     rfl
    ·have hz:n' / b≠0:=by omega
     have hlt:¬ n'<b:=fun h=>hz (Nat.div_eq_of_lt h)
     have h1:n' / b<b ^ f:=by
      rw [Nat.div_lt_iff_lt_mul (by omega)]
      rw [Nat.pow_succ] at hf
      exact hf
     have h2:0<f:=by
      rcases Nat.eq_zero_or_pos f with rfl | h
      ·simp at h1;omega
      ·exact h
     refine ih (n' / b) h1 h2 (by omega) (a-1) (by omega) (by omega) _ (by simp [hm]) ?_
     rw [hset,← hd]
     conv=>rhs;unfold ds
     rw [if_neg hlt,List.append_assoc]
     rfl
  refine key 64 n ?_ (by omega) hn 64 (by omega) (by omega) _ (by simp) ?_
  ·calc n<2 ^ 64:=hn
    _≤b ^ 64:=Nat.pow_le_pow_left hb 64
  ·simp [digs])
 exact h
theorem c15 {n:Int} (h1:-9223372036854775808≤n) (h2:n<9223372036854775808):Pus prog 15 [.i .i64 n] (.s (num n)):=by
 obtain ⟨x,rfl,h⟩:=p15 H.f15 (n0:=n) (K:=fun x=>x=num n) (by
  unfold T15_0
  refine ⟨fun h=>?_,fun h=>?_⟩
  ·have e:IntKind.u64.wrap (0-(IntKind.u64.wrap n))=(((-n).toNat:Nat):Int):=by rw [IntKind.wrap_u64,IntKind.wrap_u64];omega
   rw [e]
   refine ⟨_,c34 H (b:=10) (by omega) (by omega) (by omega),?_,?_⟩
   ·have:=ds_len 10 64 (-n).toNat
    simp only [digs,List.length_cons,List.length_nil,maxStr_eq];omega
   ·unfold num;rw [if_pos h];rfl
  ·have e:IntKind.u64.wrap n=((n.toNat:Nat):Int):=by rw [IntKind.wrap_u64];omega
   rw [e]
   refine ⟨_,c34 H (b:=10) (by omega) (by omega) (by omega),?_⟩
   unfold num;rw [if_neg h])
 exact h
end
end Go.AM

namespace Go.AM
open Go
def cutp (p s:Bytes):Bytes × Bool:=if s.take p.length=p then (s.drop p.length,true) else (s,false)
def EscK (s:Bytes) (c:Int) (r:Bytes) (ok:Bool):Prop:=match esc s with | some (x,y)=>c=(x.toNat:Int)∧r=y∧ok=true | none=>ok=false
theorem EscK.yes {s:Bytes} {x:UInt8} {y:Bytes} {c:Int} (h:esc s=some (x,y)) (hc:c=(x.toNat:Int)):EscK s c y true:=by
 unfold EscK;rw [h];exact ⟨hc,rfl,rfl⟩
theorem EscK.no {s:Bytes} {c:Int} {y:Bytes} (h:esc s=none):EscK s c y false:=by
 unfold EscK;rw [h]
section
variable {prog:Prog} (H:Has03 prog)
include H
theorem c46 (s p:Bytes):Pus prog 46 [.s s,.s p] (.b (decide (s.take p.length=p))):=by
 obtain ⟨x,rfl,h⟩:=p46 H.f46 (s0:=s) (prefix1:=p) (K:=fun x=>x=decide (s.take p.length=p)) (by
  unfold T46_0
  refine ⟨fun h=>⟨by omega,by omega,rfl⟩,fun h=>?_⟩
  refine (decide_eq_false fun h1=>?_).symm
  have:=congrArg List.length h1
  simp only [List.length_take] at this
  omega)
 exact h
theorem c42 (s p:Bytes):Pus prog 42 [.s s,.s p] (.tup [.s (cutp p s).1,.b (cutp p s).2]):=by
 obtain ⟨x,y,⟨rfl,rfl⟩,h⟩:=p42 H.f42 (s0:=s) (prefix1:=p) (K:=fun x y=>x=(cutp p s).1∧y=(cutp p s).2) (by
  unfold T42_0 cutp
  refine ⟨_,c46 H s p,fun h=>?_,fun h=>?_⟩
  ·have h1:¬ s.take p.length=p:=by simpa using h
   rw [if_neg h1];exact ⟨rfl,rfl⟩
  ·have h1:s.take p.length=p:=by simpa using h
   have h2:=congrArg List.length h1
   simp only [List.length_take] at h2
   rw [if_pos h1];exact ⟨by omega,by omega,rfl,rfl⟩)
 exact h
theorem c36 (s p:Bytes):Pus prog 36 [.s s,.s p] (.tup [.s (cutp p s).1,.b (cutp p s).2]):=by
 obtain ⟨x,y,⟨rfl,rfl⟩,h⟩:=p36 H.f36 (s0:=s) (prefix1:=p) (K:=fun x y=>x=(cutp p s).1∧y=(cutp p s).2) (by
  unfold T36_0
  exact ⟨_,_,c42 H s p,rfl,rfl⟩)
 exact h
theorem c47 (s:Bytes) (c:UInt8):Pus prog 47 [.s s,.i .u8 (c.toNat:Int)] (.i .i64 (Lib.indexByte s c)):=by
 obtain ⟨x,rfl,h⟩:=p47 H.f47 (s0:=s) (c1:=(c.toNat:Int)) (K:=fun x=>x=Lib.indexByte s c) (by
  unfold T47_0
  exact ⟨_,Pus.orac H.f48 (H.o48 s c) rfl,rfl⟩)
 exact h
theorem c43 (s:Bytes) (c:UInt8):Pus prog 43 [.s s,.i .u8 (c.toNat:Int)] (.i .i64 (Lib.indexByte s c)):=by
 obtain ⟨x,rfl,h⟩:=p43 H.f43 (s0:=s) (c1:=(c.toNat:Int)) (K:=fun x=>x=Lib.indexByte s c) (by
  unfold T43_0
  exact ⟨_,c47 H s c,rfl⟩)
 exact h
theorem c37 {b most:Nat} (hb:2≤b) (hb':b≤16) (hm:16≤most) (hm':most<18446744073709551616) {s:Bytes} (hs:s.length≤10000000):Pus prog 37 [.s s,.i .u64 (b:Int),.i .u64 (most:Int)] (.tup [.i .u64 ((rd b most s).1:Int),.i .i64 (rd b most s).2]):=by
 obtain ⟨x,y,⟨rfl,rfl⟩,h⟩:=p37 H.f37 (s0:=s) (base1:=(b:Int)) (most2:=(most:Int)) (K:=fun x y=>x=((rd b most s).1:Int)∧y=(rd b most s).2) (by
  unfold T37_0 T37_1 T37_2
  intro P hP
  have key :∀m i:Nat,i+m=s.length→okd b (s.take i)=true→(2≤i→s.head?≠some 48)→∀(n:Nat) (far:Bool),(far=false→n=vals b (s.take i)∧n≤most)→(far=true→most<vals b (s.take i))→P (n:Int) far (i:Int):=by
   intro m
   induction m with
   | zero=>
    intro i hi ho h48 n far h0 h1
    simp only [Nat.add_zero] at hi
    subst hi
    rw [List.take_length] at ho h0 h1
    apply hP
    unfold T37_3 T37_5
    refine ⟨fun h=>absurd h (by omega),fun _=>⟨fun h=>?_,fun h=>?_⟩⟩
    ·subst h;exact ⟨rfl,rfl⟩
    ·have hbad:badn b s=false:=by
      unfold badn
      rw [decide_eq_false h,ho]
      simp only [Bool.false_or,Bool.not_true]
      by_cases h2:1<s.length
      ·rw [decide_eq_false (h48 h2),Bool.and_false]
      ·rw [decide_eq_false h2,Bool.false_and]
     refine ⟨fun hf=>?_,fun hf=>?_⟩
     ·unfold rd
      rw [if_neg (by rw [hbad];decide),if_pos (h1 hf)]
      exact ⟨rfl,rfl⟩
     ·obtain ⟨h2,h3⟩:=h0 hf
      unfold rd
      rw [if_neg (by rw [hbad];decide),if_neg (by omega),h2]
      exact ⟨rfl,rfl⟩
   | succ m ih=>
    intro i hi ho h48 n far h0 h1
    have hil:i<s.length:=by omega
    have hd:=dv_lt hb' s[i]
    have hv:=vals_take (b:=b) hil
    have hk:=okd_take (b:=b) hil
    have bad12:badn b s=true→(0:Int)=((rd b most s).1:Int)∧(12:Int)=(rd b most s).2:=by
     intro h
     unfold rd
     rw [if_pos h]
     exact ⟨rfl,rfl⟩
    apply hP
    unfold T37_3 T37_4
    refine ⟨fun _=>⟨by omega,by rw [toNat_cast];exact hb',by omega,s[i],by rw [toNat_cast,List.getElem?_eq_getElem hil],dv b s[i],c43 H _ _,fun h=>?_,fun h=>?_⟩,fun h=>absurd h (by omega)⟩
    ·refine bad12 ?_
     unfold badn
     rw [okd_of hil h]
     simp
    ·have hd0:0≤dv b s[i]:=by omega
     rw [ho,decide_eq_true hd0,Bool.and_true] at hk
     generalize hdd:(dv b s[i]).toNat=d at hv
     have hdi:dv b s[i]=(d:Int):=by omega
     have e1:IntKind.u64.wrap (dv b s[i])=(d:Int):=by rw [hdi];exact wr_u64_nat (by omega)
     have e2:IntKind.u64.wrap ((most:Int)-(d:Int))=((most-d:Nat):Int):=by rw [wr_u64 (by omega) (by omega)];omega
     have e3:(((most-d:Nat):Int)).tdiv (b:Int)=(((most-d) / b:Nat):Int):=by rw [Int.tdiv_eq_ediv_of_nonneg (by omega)];omega
     have hq:(most-d) / b≤most-d:=Nat.div_le_self _ _
     have e4:IntKind.u64.wrap (((most-d) / b:Nat):Int)=(((most-d) / b:Nat):Int):=wr_u64_nat (by omega)
     have hfi:=far_iff (n:=n) (show 0<b by omega) (show d≤most by omega)
     rw [wr_succ (by omega)]
     simp only [e1,e2,e3,e4]
     have go:(2≤i+1→s.head?≠some 48)→(far=true→P (n:Int) true ((i+1:Nat):Int))∧(far=false→(b:Int)≠0∧(¬((n:Int)>(((most-d) / b:Nat):Int))→P (IntKind.u64.wrap ((IntKind.u64.wrap ((n:Int)*(b:Int)))+(d:Int))) (decide ((n:Int)>(((most-d) / b:Nat):Int))) ((i+1:Nat):Int))∧(¬(¬((n:Int)>(((most-d) / b:Nat):Int)))→P (n:Int) (decide ((n:Int)>(((most-d) / b:Nat):Int))) ((i+1:Nat):Int))):=by
      intro h2
      refine ⟨fun hf=>?_,fun hf=>⟨by omega,fun h3=>?_,fun h3=>?_⟩⟩
      ·refine ih (i+1) (by omega) hk h2 n true (fun h=>by cases h) fun _=>?_
       rw [hv]
       have h4:=h1 hf
       have:vals b (s.take i)≤vals b (s.take i)*b:=Nat.le_mul_of_pos_right _ (by omega)
       omega
      ·obtain ⟨h4,h5⟩:=h0 hf
       have h6:n*b+d≤most:=by
        have:¬ (most-d) / b<n:=by omega
        rw [hfi] at this
        omega
       have hnb:(n:Int)*(b:Int)=((n*b:Nat):Int):=by rw [Int.natCast_mul]
       have e5:IntKind.u64.wrap ((n:Int)*(b:Int))=((n*b:Nat):Int):=by rw [hnb];exact wr_u64_nat (by omega)
       have e6:IntKind.u64.wrap (((n*b:Nat):Int)+(d:Int))=((n*b+d:Nat):Int):=by rw [wr_u64 (by omega) (by omega)];omega
       rw [e5,e6,decide_eq_false h3]
       refine ih (i+1) (by omega) hk h2 _ false (fun _=>⟨?_,h6⟩) fun h=>by cases h
       rw [hv,h4]
      ·have h3':(n:Int)>(((most-d) / b:Nat):Int):=by omega
       obtain ⟨h4,h5⟩:=h0 hf
       rw [decide_eq_true h3']
       refine ih (i+1) (by omega) hk h2 n true (fun h=>by cases h) fun _=>?_
       rw [hv,← h4]
       exact hfi.1 (Int.ofNat_lt.1 h3')
     have hd0:s.head?=s[0]?:=List.head?_eq_getElem?
     refine ⟨fun hi1=>?_,fun hi1=>?_⟩
     ·have h0s:s[0]?=some s[0]:=List.getElem?_eq_getElem (by omega)
      refine ⟨s[0],h0s,fun h2=>?_,fun h2=>?_⟩
      ·refine bad12 ?_
       have h3:s[0]=48:=u8_eq (by have e:(48:UInt8).toNat=48:=rfl;omega)
       unfold badn
       rw [decide_eq_true (show 1<s.length by omega),decide_eq_true (show s.head?=some 48 by rw [hd0,h0s,h3])]
       simp
      ·refine go fun _=>?_
       rw [hd0,h0s]
       intro h3
       injection h3 with h3
       exact h2 (by rw [h3];rfl)
     ·refine go fun h2=>?_
      have h3:i≠1:=by omega
      have h4:i≠0:=by omega
      exact h48 (by omega)
  exact key s.length 0 (by omega) rfl (by omega) 0 false (fun _=>⟨rfl,by omega⟩) fun h=>by cases h)
 exact h
theorem c21 (s:Bytes):Pus prog 21 [.s s] (.tup [.i .i64 (unnum s).1,.i .i64 (unnum s).2]):=by
 obtain ⟨x,y,⟨rfl,rfl⟩,h⟩:=p21 H.f21 (s0:=s) (K:=fun x y=>x=(unnum s).1∧y=(unnum s).2) (by
  unfold T21_0 T21_1
  refine ⟨fun h=>by unfold unnum;rw [if_pos (by omega)];exact ⟨rfl,rfl⟩,fun hs=>⟨_,_,c36 H s [45],?_⟩⟩
  unfold unnum
  rw [if_neg (by omega)]
  by_cases hm:s.take 1=[45]
  ·have ec:cutp [45] s=(s.drop 1,true):=by unfold cutp;rw [if_pos (by exact hm)];rfl
   rw [ec,if_pos hm]
   refine ⟨fun h=>by simp at h,fun _=>?_⟩
   have hl:=rd_le 10 9223372036854775808 (s.drop 1)
   refine ⟨_,_,c37 H (b:=10) (most:=9223372036854775808) (by omega) (by omega) (by omega) (by omega) (s:=s.drop 1) (by simp;omega),fun h=>⟨fun h0=>?_,fun h0=>?_⟩,fun h=>?_⟩
   ·have e:(rd 10 9223372036854775808 (s.drop 1)).1=0:=by omega
    rw [if_pos ⟨h,e⟩,e]
    exact ⟨rfl,rfl⟩
   ·rw [if_neg (fun hh=>h0 (by rw [hh.2];rfl))]
    refine ⟨?_,rfl⟩
    rw [IntKind.wrap_u64,IntKind.wrap_i64]
    simp only
    omega
   ·have e:=rd_err h
    rw [if_neg (fun hh=>h hh.1),e]
    exact ⟨rfl,rfl⟩
  ·have ec:cutp [45] s=(s,false):=by unfold cutp;rw [if_neg (by exact hm)]
   rw [ec,if_neg hm]
   refine ⟨fun _=>?_,fun h=>by simp at h⟩
   have hl:=rd_le 10 9223372036854775807 s
   exact ⟨_,_,c37 H (b:=10) (most:=9223372036854775807) (by omega) (by omega) (by omega) (by omega) (s:=s) (by omega),wr_i64 (by omega) (by omega),rfl⟩)
 exact h
theorem c45 (s:Bytes) :∃c r ok,EscK s c r ok∧Pus prog 45 [.s s] (.tup [.i .u8 c,.s r,.b ok]):=by
 refine p45 H.f45 (s0:=s) (K:=EscK s) ?_
 unfold T45_0 T45_1
 refine ⟨fun h=>by subst h;exact EscK.no rfl,fun h=>?_⟩
 cases s with
 | nil=>exact absurd rfl h
 | cons c r=>
  have lit :∀{n:Nat} (_:n<256),(UInt8.ofNat n).toNat=n:=by intro n hn;simp;omega
  unfold T45_2
  refine ⟨c,rfl,?_⟩
  have t4:T45_4 prog (EscK (c::r)) (c::r) (c.toNat:Int) (decide (c.toNat=34∨c.toNat=92)):=by
   unfold T45_4
   refine ⟨fun h1=>⟨c,rfl,by simp,?_⟩,fun h1=>?_⟩
   ·have h1:=of_decide_eq_true h1
    exact EscK.yes (show (if c.toNat=34∨c.toNat=92 then some (c,r) else _)=some (c,r) from if_pos h1) rfl
   ·have h1:=of_decide_eq_false h1
    have e0:esc (c::r)=if c.toNat=110 then some (10,r) else if c.toNat=120 then esx r else none:=by
     show (if c.toNat=34∨c.toNat=92 then some (c,r) else if c.toNat=110 then some (10,r) else if c.toNat=120 then esx r else none)=_
     rw [if_neg h1]
    refine ⟨fun h2=>⟨by simp,?_⟩,fun h2=>⟨fun h3=>?_,fun h3=>?_⟩⟩
    ·exact EscK.yes (by rw [e0,if_pos (by omega)];rfl) rfl
    ·have e:esc (c::r)=esx r:=by rw [e0,if_neg (by omega),if_pos (by omega)]
     refine ⟨fun h4=>?_,fun h4=>?_⟩
     ·refine EscK.no ?_
      rw [e]
      match r,h4 with
      | [],_=>rfl
      | [a],_=>rfl
      | a::b::r',h4=>simp at h4;omega
     ·match r,h4,e with
      | [],h4,_=>exact absurd (by simp) h4
      | [a],h4,_=>exact absurd (by simp) h4
      | a::b::r',_,e=>
       have la:=dv_lt (b:=16) (by omega) a
       have lb:=dv_lt (b:=16) (by omega) b
       have ca:Pus prog 43 [.s DIG,.i .u8 (a.toNat:Int)] (.i .i64 (dv 16 a)):=c43 H DIG a
       have cb:Pus prog 43 [.s DIG,.i .u8 (b.toNat:Int)] (.i .i64 (dv 16 b)):=c43 H DIG b
       refine ⟨a,rfl,_,ca,b,rfl,_,cb,by simp,?_⟩
       simp only [esx] at e
       by_cases hv:0≤dv 16 a∧0≤dv 16 b
       ·have hw:IntKind.u8.wrap (IntKind.i64.wrap ((IntKind.i64.wrap (16*dv 16 a))+dv 16 b))=16*dv 16 a+dv 16 b:=by
         rw [wr_i64 (z:=16*dv 16 a) (by omega) (by omega),wr_i64 (by omega) (by omega),wr_u8 (by omega) (by omega)]
        have en:=lit (n:=(16*dv 16 a+dv 16 b).toNat) (by omega)
        rw [hw]
        refine ⟨fun _=>⟨fun _=>⟨fun h5=>⟨fun h6=>?_,fun h6=>?_⟩,fun h5=>?_⟩,fun h5=>absurd hv.2 h5⟩,fun h5=>absurd hv.1 h5⟩
        ·rw [if_pos ⟨hv.1,hv.2,by omega,by omega⟩] at e
         exact EscK.yes e (by rw [en];omega)
        ·by_cases h7:126<16*dv 16 a+dv 16 b
         ·rw [if_pos ⟨hv.1,hv.2,by omega,by omega⟩] at e
          rw [decide_eq_true h7]
          exact EscK.yes e (by rw [en];omega)
         ·rw [if_neg (by omega)] at e
          rw [decide_eq_false h7]
          exact EscK.no e
        ·rw [if_neg (by omega)] at e
         exact EscK.no e
       ·rw [if_neg (by omega)] at e
        exact ⟨fun h5=>⟨fun h6=>absurd ⟨h5,h6⟩ hv,fun _=>EscK.no e⟩,fun _=>EscK.no e⟩
    ·exact EscK.no (by rw [e0,if_neg (by omega),if_neg (by omega)])
  unfold T45_3
  refine ⟨fun h1=>?_,fun h1=>?_⟩
  ·rw [show decide ((c.toNat:Int)=34)=decide (c.toNat=34∨c.toNat=92) from decide_eq_decide.2 (by omega)]
   exact t4
  ·rw [show decide ((c.toNat:Int)=92)=decide (c.toNat=34∨c.toNat=92) from decide_eq_decide.2 (by omega)]
   exact t4
theorem c39 {s:Bytes} (hs:s.length≤10000000):Pus prog 39 [.s s] (.tup [.s (nxtR s).1,.s (nxtR s).2.1,.b (nxtR s).2.2]):=by
 obtain ⟨x,y,z,⟨rfl,rfl,rfl⟩,h⟩:=p39 H.f39 (s0:=s) (K:=fun x y z=>x=(nxtR s).1∧y=(nxtR s).2.1∧z=(nxtR s).2.2) (by
  have no:nxt s=none→([]:Bytes)=(nxtR s).1∧([]:Bytes)=(nxtR s).2.1∧false=(nxtR s).2.2:=by
   intro h
   unfold nxtR
   rw [h]
   exact ⟨rfl,rfl,rfl⟩
  unfold T39_0 T39_1
  refine ⟨_,_,c36 H s [34],?_⟩
  cases s with
  | nil=>
   rw [show cutp [34] []=([],false) from rfl]
   exact ⟨fun _=>no rfl,fun h=>by simp at h⟩
  | cons q s=>
   by_cases hq:q.toNat=34
   ·have hq':q=34:=u8_eq hq
    subst hq'
    have ec:cutp [34] (34::s)=(s,true):=by unfold cutp;rw [if_pos (show List.take ([34]:Bytes).length (34::s)=[34] from rfl)];rfl
    rw [ec]
    refine ⟨fun h=>by simp at h,fun _ P hP=>?_⟩
    have hn:nxt (34::s)=nxtB (s.length+1) [] s:=by
     simp only [nxt]
     rw [if_pos hq]
    have key :∀n b r,r.length<n→b.length+r.length≤10000000→nxtB n b r=nxt (34::s)→P r b:=by
     intro n
     induction n with
     | zero=>intro b r h;exact absurd h (Nat.not_lt_zero _)
     | succ n ih=>
      intro b r hr hb hx
      apply hP
      unfold T39_2
      cases r with
      | nil=>exact ⟨fun h=>absurd rfl h,fun _=>no (by rw [← hx];rfl)⟩
      | cons c r=>
       simp only [nxtB] at hx
       refine ⟨fun _=>⟨c,rfl,by simp,fun h1=>?_,fun h1=>⟨fun h2=>?_,fun h2=>⟨fun h3=>?_,fun h3=>⟨fun h4=>?_,fun h4=>?_⟩⟩⟩⟩,fun h=>absurd (by simp) h⟩
       ·rw [if_pos (by omega)] at hx
        unfold nxtR
        rw [← hx]
        exact ⟨rfl,rfl,rfl⟩
       ·refine no ?_
        rw [← hx,if_neg (by omega),show one (c::r)=none by simp only [one];rw [if_pos (by omega)]]
       ·refine no ?_
        rw [← hx,if_neg (by omega),show one (c::r)=none by simp only [one];rw [if_pos (by omega)]]
       ·rw [if_neg (by omega),show one (c::r)=esc r by simp only [one];rw [if_neg (by omega),if_pos (by omega)]] at hx
        obtain ⟨a,r',ok,hk,hp⟩:=c45 H r
        refine ⟨a,r',ok,hp,fun h5=>?_,fun h5=>?_⟩
        ·unfold EscK at hk
         cases he:esc r with
         | none=>rw [he] at hx;exact no hx.symm
         | some p=>
          rw [he] at hk
          obtain ⟨_,_,hk⟩:=hk
          rw [hk] at h5
          exact absurd h5 (by decide)
        ·unfold EscK at hk
         cases he:esc r with
         | none=>
          rw [he] at hk
          simp only at hk
          rw [hk] at h5
          exact absurd h5 (by decide)
         | some p=>
          obtain ⟨u,v⟩:=p
          rw [he] at hk hx
          obtain ⟨h6,h7,h8⟩:=hk
          simp only at hx h6 h7
          subst h6;subst h7
          have hl:r'.length<(c::r).length:=one_len (c:=u) (by simp only [one];rw [if_neg (by omega),if_pos (by omega)];exact he)
          simp only [List.length_cons] at hl hb hr
          unfold T39_3
          refine ⟨u,rfl,⟨?_,?_⟩,ih _ _ (by omega) ?_ hx⟩
          ·simp only [List.length_cons,List.length_nil,maxBytes_eq];omega
          ·simp only [List.length_cons,List.length_nil,maxBytes_eq];omega
          ·simp only [List.length_append,List.length_cons,List.length_nil];omega
       ·rw [if_neg (by omega),show one (c::r)=some (c,r) by simp only [one];rw [if_neg (by omega),if_neg (by omega)]] at hx
        simp only [List.length_cons] at hb hr
        unfold T39_3
        refine ⟨c,rfl,⟨?_,?_⟩,ih _ _ (show r.length<n by omega) ?_ hx⟩
        ·simp only [List.length_cons,List.length_nil,maxBytes_eq];omega
        ·simp only [List.length_cons,List.length_nil,maxBytes_eq];omega
        ·simp only [List.drop_succ_cons,List.drop_zero,List.length_append,List.length_cons,List.length_nil];omega
    exact key (s.length+1) [] s (by omega) (by simp at hs ⊢;omega) hn.symm
   ·have ec:cutp [34] (q::s)=(q::s,false):=by
     unfold cutp
     rw [if_neg ?_]
     intro h
     injection h with h
     exact hq (by rw [h];rfl)
    rw [ec]
    refine ⟨fun _=>no ?_,fun h=>by simp at h⟩
    simp only [nxt]
    rw [if_neg hq])
 exact h
theorem c25 (s:Bytes):Pus prog 25 [.s s] (.tup [.s (unquo s).1,.i .i64 (unquo s).2]):=by
 obtain ⟨x,y,⟨rfl,rfl⟩,h⟩:=p25 H.f25 (s0:=s) (K:=fun x y=>x=(unquo s).1∧y=(unquo s).2) (by
  unfold T25_0 unquo
  refine ⟨fun h=>by rw [if_pos (by omega)];exact ⟨rfl,rfl⟩,fun hs=>⟨_,_,_,c39 H (by omega),?_⟩⟩
  rw [if_neg (by omega)]
  unfold nxtR
  cases nxt s with
  | none=>exact ⟨fun _=>⟨rfl,rfl⟩,fun h=>by simp at h⟩
  | some p=>
   obtain ⟨x,r⟩:=p
   refine ⟨fun h=>by simp at h,fun _=>⟨fun h=>?_,fun h=>?_⟩⟩
   ·cases r with
    | nil=>exact absurd rfl h
    | cons c r=>exact ⟨rfl,rfl⟩
   ·have h:r=[]:=Classical.not_not.1 h
    subst h
    refine ⟨fun h=>?_,fun h=>?_⟩
    ·simp only at h ⊢
     rw [if_pos (by omega)];exact ⟨rfl,rfl⟩
    ·simp only at h ⊢
     rw [if_neg (by omega)];exact ⟨rfl,rfl⟩)
 exact h
theorem c29 {a b:List Bytes} (ha:a.length≤1000000000):Pus prog 29 [.sl .ext (a.map rowS),.sl .ext (b.map rowS)] (.b (decide (a=b))):=by
 obtain ⟨x,rfl,h⟩:=p29 H.f29 (a0:=a) (b1:=b) (K:=fun x=>x=decide (a=b)) (by
  unfold T29_0
  refine ⟨fun h=>(decide_eq_false fun e=>h (by rw [e])).symm,fun hl P hP=>?_⟩
  have hlen:a.length=b.length:=by omega
  have key :∀m i:Nat,i+m=a.length→(∀j,j<i→a[j]?=b[j]?)→P (i:Int):=by
   intro m
   induction m with
   | zero=>
    intro i hi hj
    apply hP
    unfold T29_1 T29_2
    refine ⟨fun h=>absurd h (by omega),fun _=>(decide_eq_true ?_).symm⟩
    apply List.ext_getElem?
    intro j
    rcases Nat.lt_or_ge j i with h | h
    ·exact hj j h
    ·rw [List.getElem?_eq_none (by omega),List.getElem?_eq_none (by omega)]
   | succ m ih=>
    intro i hi hj
    have h1:i<a.length:=by omega
    have h2:i<b.length:=by omega
    apply hP
    unfold T29_1
    refine ⟨fun _=>⟨by omega,a[i],by rw [toNat_cast,List.getElem?_eq_getElem h1],by omega,b[i],by rw [toNat_cast,List.getElem?_eq_getElem h2],fun h=>?_,fun h=>?_⟩,fun h=>absurd h (by omega)⟩
    ·refine (decide_eq_false fun e=>h ?_).symm
     subst e
     rfl
    ·rw [wr_succ (by omega)]
     refine ih (i+1) (by omega) fun j hj'=>?_
     rcases Nat.lt_or_ge j i with h3 | h3
     ·exact hj j h3
     ·have:j=i:=by omega
      subst this
      rw [List.getElem?_eq_getElem h1,List.getElem?_eq_getElem h2,Classical.not_not.1 h]
  exact key a.length 0 (by omega) (by simp))
 exact h
end
end Go.AM

namespace Go.AM
open Go
def isD (c:UInt8):Bool:=decide (48≤c.toNat)&&decide (c.toNat≤57)
def digN:Bytes→Nat
 | []=>0
 | c::s=>if isD c=true then 1+digN s else 0
def numN (s:Bytes):Nat:=if s.head?=some 45 then 1+digN (s.drop 1) else digN s
theorem digN_le :∀s:Bytes,digN s≤s.length
 | []=>Nat.le_refl _
 | c::s=>by
  have:=digN_le s
  rw [digN,List.length_cons]
  split<;>omega
theorem numN_le (s:Bytes):numN s≤s.length:=by
 unfold numN
 cases s with
 | nil=>simp [digN]
 | cons c s=>
  have h1:=digN_le s
  have h2:=digN_le (c::s)
  split
  ·simp only [List.drop_succ_cons,List.drop_zero,List.length_cons];omega
  ·exact h2
def qs:Bytes→Option Nat
 | []=>none
 | c::r=>if c=92 then (match r with | []=>none | _::r'=>(qs r').map (·+2)) else if c=34 then some 1 else (qs r).map (·+1)
def scNum (s:Bytes):Int × Bool × Bytes:=((unnum (s.take (numN s))).1,decide ((unnum (s.take (numN s))).2=0),s.drop (numN s))
def scQ (s:Bytes):Bytes × Bool × Bytes:=match qs (s.drop 1) with
 | none=>([],false,s)
 | some k=>((unquo (s.take (k+1))).1,decide ((unquo (s.take (k+1))).2=0),s.drop (k+1))
def scG (f:Bytes→Val × Bool × Bytes) (kind:Int) (stop:Bytes):Nat→List Val→Bytes→Val × Bool × Bytes
 | 0,acc,s=>(Val.mk kind 0 [] acc false,false,s)
 | k+1,acc,s=>if (f s).2.1=false then (Val.mk kind 0 [] acc false,false,(f s).2.2) else
   if (cutp stop (f s).2.2).2=true then (Val.mk kind 0 [] (acc++[(f s).1]) false,true,(cutp stop (f s).2.2).1) else
   if (cutp [44,32] (cutp stop (f s).2.2).1).2=false then (Val.mk kind 0 [] (acc++[(f s).1]) false,false,(cutp [44,32] (cutp stop (f s).2.2).1).1) else
   scG f kind stop k (acc++[(f s).1]) (cutp [44,32] (cutp stop (f s).2.2).1).1
def scL (f:Bytes→Val × Bool × Bytes) (kind:Int) (stop s:Bytes):Val × Bool × Bytes:=
 if (cutp stop s).2=true then (Val.mk kind 0 [] [] false,true,(cutp stop s).1) else scG f kind stop 17 [] (cutp stop s).1
def scV:Nat→Bytes→Val × Bool × Bytes
 | 0,s=>(vz,false,s)
 | d+1,s=>if s=[] then (vz,false,s) else
   if (cutp tTrue s).2=true then (Val.mk 1 1 [] [] false,true,(cutp tTrue s).1) else
   if (cutp tFalse s).2=true then (Val.mk 1 0 [] [] false,true,(cutp tFalse s).1) else
   if (cutp tNil s).2=true then (Val.mk 4 0 [] [] false,true,(cutp tNil s).1) else
   if (cutp tCutP s).2=true then (Val.mk 4 0 [] [] true,true,(cutp tCutP s).1) else
   if (cutp tCutS s).2=true then (Val.mk 7 0 [] [] true,true,(cutp tCutS s).1) else
   if (cutp [38] s).2=true then (Val.mk 4 0 [] [(scV d (cutp [38] s).1).1] false,(scV d (cutp [38] s).1).2) else
   if (cutp [123] s).2=true then scL (scV d) 5 [125] (cutp [123] s).1 else
   if (cutp [91] s).2=true then scL (scV d) 6 [93] (cutp [91] s).1 else
   if (cutp [60] s).2=true then scL (scV d) 7 [62] (cutp [60] s).1 else
   if s.head?=some 34 then (Val.mk 3 0 (scQ s).1 [] false,(scQ s).2) else
   (Val.mk 2 (scNum s).1 [] [] false,(scNum s).2)
theorem cutp_no {p s:Bytes} (h:(cutp p s).2=false):(cutp p s).1=s:=by
 unfold cutp at h ⊢
 split
 ·rename_i h1;rw [if_pos h1] at h;cases h
 ·rfl
theorem cutp_app (p s:Bytes):cutp p (p++s)=(s,true):=by
 unfold cutp
 rw [if_pos (by simp),List.drop_left]
theorem cutp_head {c d:UInt8} {p s:Bytes} (h:c≠d):cutp (c::p) (d::s)=(d::s,false):=by
 unfold cutp
 rw [if_neg]
 simp only [List.length_cons,List.take_succ_cons,List.cons.injEq]
 rintro ⟨rfl,_⟩
 exact h rfl
theorem cutp_cons (c:UInt8) (p s:Bytes):cutp (c::p) (c::s)=if (cutp p s).2=true then ((cutp p s).1,true) else (c::s,false):=by
 unfold cutp
 simp only [List.length_cons,List.take_succ_cons,List.cons.injEq,true_and,List.drop_succ_cons]
 split<;>simp_all
theorem unnum_rng (s:Bytes):-9223372036854775808≤(unnum s).1∧(unnum s).1<9223372036854775808:=by
 have h1:=rd_le 10 9223372036854775808 (s.drop 1)
 have h2:=rd_le 10 9223372036854775807 s
 unfold unnum
 split
 ·exact ⟨by decide,by decide⟩
 split
 ·split
  ·exact ⟨by decide,by decide⟩
  ·dsimp only
   omega
 ·dsimp only
  omega
theorem Wf.ite {c:Prop} [Decidable c] {a b:Val × Bool × Bytes} (ha:Wf a.1) (hb:Wf b.1):Wf (if c then a else b).1:=by
 split
 ·exact ha
 ·exact hb
theorem scG_wf {f:Bytes→Val × Bool × Bytes} {kind:Int} {stop:Bytes} (hk:0≤kind∧kind<256) (hf :∀s,Wf (f s).1) :∀(n:Nat) (acc:List Val) (s:Bytes),n≤17→acc.length+n=17→(∀x∈acc,Wf x)→Wf (scG f kind stop n acc s).1
 | 0,acc,s,_,hl,h=>by
  rw [scG]
  exact .mk hk (by decide) (by omega) h
 | n+1,acc,s,hn,hl,h=>by
  have h1 :∀x∈acc++[(f s).1],Wf x:=by
   intro x hx
   rcases List.mem_append.1 hx with hx | hx
   ·exact h x hx
   ·rw [List.mem_singleton.1 hx];exact hf s
  rw [scG]
  split
  ·exact .mk hk (by decide) (by omega) h
  ·split
   ·exact .mk hk (by decide) (by simp;omega) h1
   ·split
    ·exact .mk hk (by decide) (by simp;omega) h1
    ·exact scG_wf hk hf n _ _ (by omega) (by simp;omega) h1
theorem scL_wf {f:Bytes→Val × Bool × Bytes} {kind:Int} {stop s:Bytes} (hk:0≤kind∧kind<256) (hf :∀s,Wf (f s).1):Wf (scL f kind stop s).1:=by
 unfold scL
 split
 ·exact .mk hk (by decide) (by decide) (by simp)
 ·exact scG_wf hk hf 17 [] _ (by omega) rfl (by simp)
theorem scV_wf :∀(d:Nat) (s:Bytes),Wf (scV d s).1
 | 0,s=>Wf.zero
 | d+1,s=>by
  have w0 :∀(k n:Int) (c:Bool),0≤k∧k<256→-9223372036854775808≤n∧n<9223372036854775808→Wf (Val.mk k n [] [] c):=fun k n c h1 h2=>.mk h1 h2 (by decide) (by simp)
  rw [scV]
  exact .ite Wf.zero (.ite (w0 _ _ _ (by decide) (by decide)) (.ite (w0 _ _ _ (by decide) (by decide)) (.ite (w0 _ _ _ (by decide) (by decide)) (.ite (w0 _ _ _ (by decide) (by decide)) (.ite (w0 _ _ _ (by decide) (by decide))
   (.ite (.mk (by decide) (by decide) (by simp) (fun x hx=>by rw [List.mem_singleton.1 hx];exact scV_wf d _)) (.ite (scL_wf (by decide) (scV_wf d)) (.ite (scL_wf (by decide) (scV_wf d)) (.ite (scL_wf (by decide) (scV_wf d))
   (.ite (.mk (by decide) (by decide) (by simp) (by simp)) (.mk (by decide) (unnum_rng _) (by simp) (by simp))))))))))))
def Stop (r:Bytes):Prop:=∀c,r.head?=some c→c=44∨c=125∨c=93∨c=62
theorem Stop.notD {r:Bytes} (h:Stop r):digN r=0:=by
 cases r with
 | nil=>rfl
 | cons c r=>
  rw [digN,if_neg]
  rcases h c rfl with rfl | rfl | rfl | rfl<;>decide
theorem digN_all :∀(s r:Bytes),(∀c∈s,isD c=true)→digN r=0→digN (s++r)=s.length
 | [],r,_,h=>h
 | c::s,r,hs,h=>by
  rw [List.cons_append,digN,if_pos (hs c List.mem_cons_self),digN_all s r (fun c hc=>hs c (List.mem_cons_of_mem _ hc)) h,List.length_cons]
  omega
theorem hexd_isD :∀n:Fin 10,isD (hexd n.val)=true:=by decide
theorem ds_isD :∀(f n:Nat),∀c∈ds 10 f n,isD c=true
 | 0,n,c,h=>by simp [ds] at h
 | f+1,n,c,h=>by
  rw [ds] at h
  split at h
  ·rename_i hn
   rw [List.mem_singleton.1 h]
   exact hexd_isD ⟨n,hn⟩
  ·rcases List.mem_append.1 h with h | h
   ·exact ds_isD f _ c h
   ·rw [List.mem_singleton.1 h]
    exact hexd_isD ⟨n % 10,Nat.mod_lt _ (by decide)⟩
theorem isD_ne {c:UInt8} {l:List UInt8} (h:isD c=true) (hl:(l.all fun x=>!isD x)=true):c ∉ l:=by
 intro hc
 have:=List.all_eq_true.1 hl c hc
 rw [h] at this
 cases this
theorem num_head (n:Int) :∃c r,num n=c::r∧(c=45∨isD c=true):=by
 have hd :∀n,∃c r,digs 10 n=c::r∧isD c=true:=by
  intro n
  have h1:=digs_ne 10 n
  have h2:=ds_isD 64 n
  unfold digs at *
  cases h:ds 10 64 n with
  | nil=>exact absurd h h1
  | cons c r=>exact ⟨c,r,rfl,h2 c (by rw [h];exact List.mem_cons_self)⟩
 unfold num
 split
 ·exact ⟨45,_,rfl,.inl rfl⟩
 ·obtain ⟨c,r,h1,h2⟩:=hd n.toNat
  exact ⟨c,r,h1,.inr h2⟩
theorem numN_num {n:Int} {r:Bytes} (hr:digN r=0):numN (num n++r)=(num n).length:=by
 unfold num numN
 split
 ·rw [List.cons_append,List.head?_cons,if_pos rfl,List.drop_succ_cons,List.drop_zero,List.length_cons,Nat.add_comm]
  congr 1
  exact digN_all _ r (ds_isD 64 _) hr
 ·obtain ⟨c,t,h1,h2⟩:=num_head n
  rw [num,if_neg (by assumption)] at h1
  rw [if_neg]
  ·exact digN_all _ r (ds_isD 64 _) hr
  rw [h1,List.cons_append,List.head?_cons]
  intro e
  injection e with e
  subst e
  rcases h2 with h2 | h2
  ·have:=ds_isD 64 n.toNat 45 (by show (45:UInt8)∈digs 10 n.toNat;rw [h1];exact List.mem_cons_self)
   exact absurd this (by decide)
  ·exact absurd h2 (by decide)
theorem scNum_num {n:Int} {r:Bytes} (h1:-9223372036854775808≤n) (h2:n<9223372036854775808) (hr:digN r=0):scNum (num n++r)=(n,true,r):=by
 unfold scNum
 rw [numN_num hr,List.take_left,List.drop_left,unnum_num h1 h2]
 rfl
theorem qs_chrs :∀(s r:Bytes),qs (chrs s++34::r)=some ((chrs s).length+1)
 | [],r=>by
  show qs (34::r)=some 1
  rw [qs.eq_def]
  simp
 | c::s,r=>by
  have ih:=qs_chrs s r
  have e:chrs (c::s)=chr c++chrs s:=rfl
  have hx :∀k:Fin 16,hexd k.val≠92∧hexd k.val≠34:=by decide
  rw [e,List.append_assoc]
  unfold chr
  split
  ·rw [List.cons_append,List.cons_append,List.nil_append,qs.eq_def]
   simp only [if_true,ih,Option.map_some,List.length_append,List.length_cons,List.length_nil]
   congr 1
   omega
  ·rename_i h1
   split
   ·rw [List.cons_append,List.cons_append,List.nil_append,qs.eq_def]
    simp only [if_true,ih,Option.map_some,List.length_append,List.length_cons,List.length_nil]
    congr 1
    omega
   ·split
    ·have hc:=c.toNat_lt
     obtain ⟨a1,a2⟩:=hx ⟨c.toNat / 16,by omega⟩
     obtain ⟨b1,b2⟩:=hx ⟨c.toNat % 16,by omega⟩
     simp only at a1 a2 b1 b2
     rw [List.cons_append,List.cons_append,List.cons_append,List.cons_append,List.nil_append,qs.eq_def]
     simp only [if_true]
     rw [qs.eq_def]
     simp only [if_neg a1,if_neg a2]
     rw [qs.eq_def]
     simp only [if_neg b1,if_neg b2,ih,Option.map_some,List.length_append,List.length_cons,List.length_nil]
     congr 1
     omega
    ·have c1:c≠92:=by rintro rfl;exact h1 (.inr rfl)
     have c2:c≠34:=by rintro rfl;exact h1 (.inl rfl)
     rw [List.cons_append,List.nil_append,qs.eq_def]
     simp only [if_neg c1,if_neg c2,ih,Option.map_some,List.length_append,List.length_cons,List.length_nil]
     congr 1
     omega
theorem scQ_quo {s r:Bytes} (h:s.length≤400):scQ (quo s++r)=(s,true,r):=by
 have e:quo s++r=34::(chrs s++34::r):=by simp [quo]
 have e2:(quo s).length=(chrs s).length+1+1:=by simp [quo]
 unfold scQ
 rw [show (quo s++r).drop 1=chrs s++34::r by rw [e];rfl,qs_chrs]
 simp only
 rw [← e2,List.take_left,List.drop_left,unquo_quo h]
 rfl
end Go.AM

namespace Go.AM
open Go
theorem txt_head (v:Val) :∃c t,txt v=c::t∧(c∈([116,102,110,38,60,123,91,34,45]:Bytes)∨isD c=true):=by
  rw [txt_eq]
  have h1:=num_head v.int
  repeat' split
  all_goals first
    | (obtain ⟨c,t,h2,h3⟩:=h1
       refine ⟨c,t,h2,?_⟩
       rcases h3 with rfl | h3
       · exact .inl (by decide)
       · exact .inr h3)
    | exact ⟨_,_,rfl,.inl (by decide)⟩
theorem txt_head_ne {v:Val} {e:UInt8} (he:(e=46∨e=125∨e=93∨e=62∨e=44)) (p r:Bytes):(cutp (e::p) (txt v++r))=(txt v++r,false):=by
  obtain ⟨c,t,h1,h2⟩:=txt_head v
  rw [h1,List.cons_append]
  refine cutp_head ?_
  rintro rfl
  rcases h2 with h2 | h2
  · rcases he with rfl | rfl | rfl | rfl | rfl<;>exact absurd h2 (by decide)
  · rcases he with rfl | rfl | rfl | rfl | rfl<;>exact absurd h2 (by decide)
section
variable {f:Bytes→Val × Bool × Bytes} {kind:Int} {e:UInt8}
theorem scG_txts (he:e=125∨e=93∨e=62) :∀(l:List Val) (x:Val) (acc:List Val) (n:Nat) (r:Bytes),(∀y∈x::l,∀r,Stop r→f (txt y++r)=(y,true,r))→l.length<n→scG f kind [e] n acc (txts (x::l)++e::r)=(Val.mk kind 0 [] (acc++x::l) false,true,r)
  | l,x,acc,0,r,hf,hn=>absurd hn (Nat.not_lt_zero _)
  | [],x,acc,n+1,r,hf,hn=>by
    have hs:Stop (e::r):=by intro c hc;injection hc with hc;subst hc;rcases he with h | h | h<;>simp [h]
    have h1:=hf x List.mem_cons_self (e::r) hs
    have h2:cutp [e] (e::r)=(r,true):=cutp_app [e] r
    rw [txts_one,scG]
    simp only [h1,h2,Bool.true_eq_false,if_false,if_true]
  | y::l,x,acc,n+1,r,hf,hn=>by
    have e1:txts (x::y::l)++e::r=txt x++(44::32::(txts (y::l)++e::r)):=by simp [txts,txtl]
    have hs:Stop (44::32::(txts (y::l)++e::r)):=by intro c hc;injection hc with hc;subst hc;exact .inl rfl
    have h1:=hf x List.mem_cons_self _ hs
    have hne:e≠44:=by rcases he with rfl | rfl | rfl<;>decide
    have h2:cutp [e] (44::32::(txts (y::l)++e::r))=(44::32::(txts (y::l)++e::r),false):=cutp_head hne
    have h3:cutp [44,32] (44::32::(txts (y::l)++e::r))=(txts (y::l)++e::r,true):=cutp_app [44,32] _
    have ih:=scG_txts he l y (acc++[x]) n r (fun z hz=>hf z (List.mem_cons_of_mem _ hz)) (by simp only [List.length_cons] at hn;omega)
    rw [e1,scG]
    simp only [h1,h2,h3,Bool.true_eq_false,Bool.false_eq_true,if_false]
    rw [ih,List.append_assoc]
    rfl
theorem scL_txts (he:e=125∨e=93∨e=62) (l:List Val) (r:Bytes) (hf :∀y∈l,∀r,Stop r→f (txt y++r)=(y,true,r)) (hn:l.length≤16):scL f kind [e] (txts l++e::r)=(Val.mk kind 0 [] l false,true,r):=by
  unfold scL
  cases l with
  | nil=>
    have h2:cutp [e] (txts []++e::r)=(r,true):=cutp_app [e] r
    simp only [h2,if_true]
  | cons x l=>
    have h2:cutp [e] (txts (x::l)++e::r)=(txts (x::l)++e::r,false):=by
      rw [txts,List.append_assoc]
      exact txt_head_ne (by rcases he with h | h | h<;>simp [h]) _ _
    simp only [h2,Bool.false_eq_true,if_false]
    exact scG_txts he l x [] 17 r hf (by simp only [List.length_cons] at hn;omega)
end
theorem txts_head {l:List Val} {e:UInt8} {p r:Bytes}:(cutp (46::p) (txts l++62::r)).2=false:=by
  cases l with
  | nil=>rw [show txts []++62::r=62::r from rfl,cutp_head (by decide)]
  | cons x l=>rw [txts,List.append_assoc,txt_head_ne (.inl rfl)]
theorem len0 {α:Type} {l:List α} (h:l.length=0):l=[]:=List.length_eq_zero_iff.1 h
theorem scV_txt :∀(d:Nat) (v:Val),okv d v=true→Wf v→∀r,Stop r→scV d (txt v++r)=(v,true,r)
  | 0,v,h,_,r,hr=>by cases h
  | d+1,v,h,hw,r,hr=>by
    have h1:=okv_head h
    have h2:=okv_sub h
    have ih :∀y∈v.list,∀r,Stop r→scV d (txt y++r)=(y,true,r):=fun y hy=>scV_txt d y (h2 y hy) (hw.e y hy)
    have hn:=hw.n
    have hne :∀x:Bytes,¬(txt v++x=[]):=fun x e=>txt_ne v (List.append_eq_nil_iff.1 e).1
    clear h h2 hw
    cases v with
    | mk k n s l c=>
    unfold Val.okh Okh at h1
    simp only [Val.kind_mk,Val.int_mk,Val.text_mk,Val.list_mk,Val.cut_mk] at h1 ih hn
    have ht:=hne r
    rw [scV,if_neg ht]
    clear ht hne
    have nohead :∀{a b:UInt8} {p t:Bytes},a≠b→(cutp (a::p) (b::t)).2=false:=fun h=>by rw [cutp_head h]
    rcases h1 with ⟨rfl,a1,a2,a3,a4⟩ | ⟨rfl,a1,a2,a3⟩ | ⟨rfl,a1,a2,rfl,a4⟩ | ⟨rfl,rfl,a1,a2,a3⟩ | ⟨rfl,rfl,a1,a2,a3⟩ | ⟨rfl,rfl,a1,a2,a3,a4⟩ | ⟨rfl,rfl,a1,a2,a3⟩
    · have:=len0 a1;have:=len0 a3;subst l;subst s
      have:c=false:=by cases c;rfl;cases a2
      subst c
      rcases a4 with rfl | rfl
      · rw [show txt (Val.mk 1 0 [] [] false)=tFalse from rfl,show tFalse++r=102::([97,108,115,101]++r) from rfl,tTrue,if_neg (by rw [nohead (by decide)];decide)]
        have:=cutp_app tFalse r
        rw [show tFalse++r=102::([97,108,115,101]++r) from rfl] at this
        rw [if_pos (by rw [this]),this]
      · rw [show txt (Val.mk 1 1 [] [] false)=tTrue from rfl,if_pos (by rw [cutp_app]),cutp_app]
    · have:=len0 a1;have:=len0 a3;subst l;subst s
      have:c=false:=by cases c;rfl;cases a2
      subst c
      rw [show txt (Val.mk 2 n [] [] false)=num n from rfl]
      have hd:=scNum_num (r:=r) hn.1 hn.2 hr.notD
      obtain ⟨x,t,h3,h4⟩:=num_head n
      rw [h3] at hd ⊢
      rw [List.cons_append] at hd ⊢
      have hx :∀y:UInt8,y∈([116,102,110,38,60,123,91,34]:Bytes)→y≠x:=by
        rintro y hy rfl
        rcases h4 with rfl | h4
        · exact absurd hy (by decide)
        · exact isD_ne h4 (by decide) hy
      rw [tTrue,if_neg (by rw [nohead (hx _ (by decide))];decide),tFalse,if_neg (by rw [nohead (hx _ (by decide))];decide),tNil,if_neg (by rw [nohead (hx _ (by decide))];decide),tCutP,if_neg (by rw [nohead (hx _ (by decide))];decide),tCutS,if_neg (by rw [nohead (hx _ (by decide))];decide),
        if_neg (by rw [nohead (hx _ (by decide))];decide),if_neg (by rw [nohead (hx _ (by decide))];decide),if_neg (by rw [nohead (hx _ (by decide))];decide),if_neg (by rw [nohead (hx _ (by decide))];decide),
        if_neg (by rw [List.head?_cons];intro e;injection e with e;exact hx 34 (by decide) e.symm),hd]
    · have:=len0 a1;subst l
      have:c=false:=by cases c;rfl;cases a2
      subst c
      rw [show txt (Val.mk 3 0 s [] false)=quo s from rfl]
      have hd:=scQ_quo (s:=s) (r:=r) (by omega)
      rw [show quo s++r=34::(chrs s++[34]++r) from rfl] at hd ⊢
      rw [tTrue,if_neg (by rw [nohead (by decide)];decide),tFalse,if_neg (by rw [nohead (by decide)];decide),tNil,if_neg (by rw [nohead (by decide)];decide),tCutP,if_neg (by rw [nohead (by decide)];decide),tCutS,if_neg (by rw [nohead (by decide)];decide),
        if_neg (by rw [nohead (by decide)];decide),if_neg (by rw [nohead (by decide)];decide),if_neg (by rw [nohead (by decide)];decide),if_neg (by rw [nohead (by decide)];decide),List.head?_cons,if_pos rfl,hd]
    · have:=len0 a1;subst s
      cases c with
      | true=>
        have:=len0 (a3.resolve_left (by decide));subst l
        have e:=cutp_app tCutP r
        rw [show txt (Val.mk 4 0 [] [] true)=tCutP from rfl]
        rw [show tCutP++r=38::([46,46,46]++r) from rfl] at e ⊢
        rw [tTrue,if_neg (by rw [nohead (by decide)];decide),tFalse,if_neg (by rw [nohead (by decide)];decide),tNil,if_neg (by rw [nohead (by decide)];decide),if_pos (by rw [e]),e]
      | false=>
        match l,a2 with
        | [],_=>
          have e:=cutp_app tNil r
          rw [show txt (Val.mk 4 0 [] [] false)=tNil from rfl]
          rw [show tNil++r=110::([105,108]++r) from rfl] at e ⊢
          rw [tTrue,if_neg (by rw [nohead (by decide)];decide),tFalse,if_neg (by rw [nohead (by decide)];decide),if_pos (by rw [e]),e]
        | [w],_=>
          rw [show txt (Val.mk 4 0 [] [w] false)=38::txts [w] from rfl,txts_one,List.cons_append]
          have e:cutp [38] (38::(txt w++r))=(txt w++r,true):=cutp_app [38] _
          have e2:(cutp tCutP (38::(txt w++r))).2=false:=by rw [tCutP,cutp_cons,txt_head_ne (.inl rfl)];rfl
          rw [tTrue,if_neg (by rw [nohead (by decide)];decide),tFalse,if_neg (by rw [nohead (by decide)];decide),tNil,if_neg (by rw [nohead (by decide)];decide),if_neg (by rw [e2];decide),tCutS,if_neg (by rw [nohead (by decide)];decide),if_pos (by rw [e]),e]
          simp only
          rw [ih w List.mem_cons_self r hr]
    · have:=len0 a1;subst s
      have:c=false:=by cases c;rfl;cases a3
      subst c
      rw [show txt (Val.mk 5 0 [] l false)=123::(txts l++[125]) from rfl]
      have e0:123::(txts l++[125])++r=123::(txts l++125::r):=by simp
      have e:cutp [123] (123::(txts l++125::r))=(txts l++125::r,true):=cutp_app [123] _
      rw [e0,tTrue,if_neg (by rw [nohead (by decide)];decide),tFalse,if_neg (by rw [nohead (by decide)];decide),tNil,if_neg (by rw [nohead (by decide)];decide),tCutP,if_neg (by rw [nohead (by decide)];decide),tCutS,if_neg (by rw [nohead (by decide)];decide),if_neg (by rw [nohead (by decide)];decide),if_pos (by rw [e]),e]
      exact scL_txts (.inl rfl) l r ih (by omega)
    · have:=len0 a1;subst s
      have:c=false:=by cases c;rfl;cases a4
      subst c
      rw [show txt (Val.mk 6 0 [] l false)=91::(txts l++[93]) from rfl]
      have e0:91::(txts l++[93])++r=91::(txts l++93::r):=by simp
      have e:cutp [91] (91::(txts l++93::r))=(txts l++93::r,true):=cutp_app [91] _
      rw [e0,tTrue,if_neg (by rw [nohead (by decide)];decide),tFalse,if_neg (by rw [nohead (by decide)];decide),tNil,if_neg (by rw [nohead (by decide)];decide),tCutP,if_neg (by rw [nohead (by decide)];decide),tCutS,if_neg (by rw [nohead (by decide)];decide),if_neg (by rw [nohead (by decide)];decide),if_neg (by rw [nohead (by decide)];decide),if_pos (by rw [e]),e]
      exact scL_txts (.inr (.inl rfl)) l r ih (by omega)
    · have:=len0 a1;subst s
      cases c with
      | true=>
        have:=len0 (a3.resolve_left (by decide));subst l
        have e:=cutp_app tCutS r
        rw [show txt (Val.mk 7 0 [] [] true)=tCutS from rfl]
        rw [show tCutS++r=60::([46,46,46,62]++r) from rfl] at e ⊢
        rw [tTrue,if_neg (by rw [nohead (by decide)];decide),tFalse,if_neg (by rw [nohead (by decide)];decide),tNil,if_neg (by rw [nohead (by decide)];decide),tCutP,if_neg (by rw [nohead (by decide)];decide),if_pos (by rw [e]),e]
      | false=>
        rw [show txt (Val.mk 7 0 [] l false)=60::(txts l++[62]) from rfl]
        have e0:60::(txts l++[62])++r=60::(txts l++62::r):=by simp
        have e:cutp [60] (60::(txts l++62::r))=(txts l++62::r,true):=cutp_app [60] _
        have e2:(cutp tCutS (60::(txts l++62::r))).2=false:=by
          have:=txts_head (l:=l) (e:=0) (p:=[46,46,62]) (r:=r)
          rw [tCutS,cutp_cons,if_neg (by rw [this];decide)]
        rw [e0,tTrue,if_neg (by rw [nohead (by decide)];decide),tFalse,if_neg (by rw [nohead (by decide)];decide),tNil,if_neg (by rw [nohead (by decide)];decide),tCutP,if_neg (by rw [nohead (by decide)];decide),if_neg (by rw [e2];decide),if_neg (by rw [nohead (by decide)];decide),if_neg (by rw [nohead (by decide)];decide),if_neg (by rw [nohead (by decide)];decide),if_pos (by rw [e]),e]
        exact scL_txts (.inr (.inr rfl)) l r ih (by omega)
def rvs (s:Bytes):Val × Int:=if 1400000<s.length then (vz,4) else
  if (scV 130 s).2.1=true∧(scV 130 s).2.2=[]∧fine (scV 130 s).1=true∧txt (scV 130 s).1=s then ((scV 130 s).1,0) else (vz,12)
theorem fine_ok {v:Val} (h:fine v=true):okv 130 v=true∧v.nodes≤5000:=by
  simpa [fine] using h
theorem scV_fine {v:Val} (h:fine v=true) (hw:Wf v):scV 130 (txt v)=(v,true,[]):=by
  have:=scV_txt 130 v (fine_ok h).1 hw [] (by intro c hc;cases hc)
  rwa [List.append_nil] at this
theorem rvs_txt {v:Val} (h:fine v=true) (hw:Wf v):rvs (txt v)=(v,0):=by
  have h1:=fine_len h
  unfold rvs
  rw [if_neg (by omega),scV_fine h hw,if_pos ⟨rfl,rfl,h,rfl⟩]
theorem rvs_wf (s:Bytes):Wf (rvs s).1:=by
  unfold rvs
  split
  · exact Wf.zero
  · split
    · exact scV_wf _ _
    · exact Wf.zero
noncomputable def sameV (v w:Val):Bool:=@decide (v=w) (Classical.propDecidable _)
theorem sameV_true {v w:Val}:sameV v w=true↔v=w:=by unfold sameV;simp
theorem sameV_rfl (v:Val):sameV v v=true:=sameV_true.2 rfl
theorem sameV_false {v w:Val}:sameV v w=false↔v≠w:=by
  rw [← Bool.not_eq_true,sameV_true]
end Go.AM

namespace Go.AM
open Go
structure Has38 (prog:Prog):Prop extends Has03 prog,HasB prog where
 f72:prog.fn 72=some pf72
 f74:prog.fn 74=some pf74
 f76:prog.fn 76=some pf76
 f78:prog.fn 78=some pf78
 f104:prog.fn 104=some pf104
 f107:prog.fn 107=some pf107
 f109:prog.fn 109=some pf109
 f128:prog.fn 128=some pf128
 f129:prog.fn 129=some pf129
 f130:prog.fn 130=some pf130
 f131:prog.fn 131=some pf131
section
variable {prog:Prog} (H:Has38 prog)
include H
end
end Go.AM

namespace Go.AM
open Go
theorem bAnd1 (n:Int):bAnd .i64 n 1=n % 2:=by
 unfold bAnd
 have h1:(BitVec.ofInt IntKind.i64.bits n &&& BitVec.ofInt IntKind.i64.bits 1).toNat=(n % 2).toNat:=by
  show (BitVec.ofInt 64 n &&& BitVec.ofInt 64 1).toNat=_
  rw [BitVec.toNat_and]
  have h2:(BitVec.ofInt 64 1).toNat=2 ^ 1-1:=by decide
  rw [h2,Nat.and_two_pow_sub_one_eq_mod,BitVec.toNat_ofInt]
  omega
 rw [h1,wr_i64 (by omega) (by omega)]
 omega
theorem cut_cases (v:Val):(v.cut=true∧v.cut.toNat=1)∨(v.cut=false∧v.cut.toNat=0):=by cases v.cut<;>simp
theorem okv_succ (d:Nat) (v:Val):okv (d+1) v=(decide v.okh&&v.list.all (okv d)):=rfl
theorem okv_no {d:Nat} {v:Val} (h:¬v.okh):okv (d+1) v=false:=by rw [okv_succ,decide_eq_false h];rfl
theorem okv_yes {d:Nat} {v:Val} (h:v.okh):okv (d+1) v=v.list.all (okv d):=by rw [okv_succ,decide_eq_true h];rfl
section
variable {prog:Prog} (H:Has38 prog)
include H
end
end Go.AM

namespace Go.AM
open Go
section
variable {prog:Prog} (H:Has38 prog)
include H
set_option maxHeartbeats 1000000 in
theorem c109 :∀(d:Nat) {v:Val},Wf v→d≤1000→Pus prog 109 [v.av,.i .i64 (d:Int)] (.tup [.i .i64 (cntR d v).1,.b (cntR d v).2])
 | 0,v,hw,hd=>by
  obtain ⟨x,y,⟨rfl,rfl⟩,h⟩:=p109 H.f109 (v0:=v) (nest1:=((0:Nat):Int)) (K:=fun x y=>x=(cntR 0 v).1∧y=(cntR 0 v).2) (by
   unfold T109_0 T109_1 T109_2 T109_3 T109_4
   have:cntR 0 v=(0,false):=by unfold cntR;rw [if_neg (by rintro ⟨h,_⟩;cases h)]
   rw [this]
   repeat' first | exact ⟨rfl,rfl⟩ | refine ⟨fun _=>?_,fun _=>?_⟩ | (intro h)
   all_goals exact absurd rfl ‹¬((0:Nat):Int)=0›)
  exact h
 | d+1,v,hw,hd=>by
  have ih:=@c109 d
  obtain ⟨x,y,⟨rfl,rfl⟩,h⟩:=p109 H.f109 (v0:=v) (nest1:=((d+1:Nat):Int)) (K:=fun x y=>x=(cntR (d+1) v).1∧y=(cntR (d+1) v).2) (by
   have hm:IntKind.i64.wrap (((d+1:Nat):Int)-1)=(d:Int):=by rw [wr_i64 (by omega) (by omega)];omega
   have ht:v.text=[]↔v.text.length=0:=List.length_eq_zero_iff.symm
   have ht':[]=v.text↔v.text.length=0:=by rw [← ht];exact eq_comm
   have cno:¬(okv (d+1) v=true∧v.nodes≤5000)→cntR (d+1) v=(0,false):=fun h=>by unfold cntR;rw [if_neg h]
   have no:¬v.okh→(0:Int)=(cntR (d+1) v).1∧false=(cntR (d+1) v).2:=fun h=>by
    rw [cno (by rw [okv_no h];rintro ⟨h,_⟩;cases h)];exact ⟨rfl,rfl⟩
   have hl:=hw.l
   have hn:=nodes_eq v
   have lp:v.okh→∀P:Int→Int→Prop,(∀(sum10:Int) (t103:Int),T109_5 prog (fun x y=>x=(cntR (d+1) v).1∧y=(cntR (d+1) v).2) P ((d+1:Nat):Int) sum10 v.list (v.list.length:Int) t103→P sum10 t103)→P 1 0:=by
    intro ho P hP
    have e:=okv_yes (d:=d) ho
    refine loop_inv (P:=fun s i=>P s i) (fun i=>((1+Val.nodesL (v.list.take i):Nat):Int)) v.list.length (fun i=>(v.list.take i).all (okv d)=true∧1+Val.nodesL (v.list.take i)≤5000) (by simp [Val.nodesL]) (fun hI=>?_) (fun i hi hI ihP=>?_)
    ·apply hP
     unfold T109_5 T109_6
     refine ⟨fun h=>absurd h (by omega),fun _=>?_⟩
     rw [List.take_length] at hI ⊢
     unfold cntR
     rw [if_pos ⟨by rw [e];exact hI.1,by omega⟩,hn]
     exact ⟨rfl,rfl⟩
    ·apply hP
     unfold T109_5
     have hnt:=nodesL_take hi
     have hle:=nodesL_le (l:=v.list) (i+1)
     refine ⟨fun _=>⟨by omega,_,get_at hi,_,_,by rw [hm];exact ih (hw.e _ (List.getElem_mem hi)) (by omega),?_⟩,fun h=>absurd (show (i:Int)<v.list.length by omega) h⟩
     by_cases hc:okv d v.list[i]=true∧v.list[i].nodes≤5000
     ·rw [show cntR d v.list[i]=((v.list[i].nodes:Int),true) by unfold cntR;rw [if_pos hc]]
      refine ⟨fun h=>(by cases h),fun _=>⟨fun h=>?_,fun h=>?_⟩⟩
      ·rw [wr_i64 (by omega) (by omega)] at h
       rw [cno (by omega)]
       exact ⟨rfl,rfl⟩
      ·rw [wr_i64 (by omega) (by omega)] at h ⊢
       rw [wr_i64 (by omega) (by omega)]
       have:=ihP ⟨by rw [List.take_succ_eq_append_getElem hi,List.all_append,hI.1];simpa using hc.1,by omega⟩
       rw [hnt] at this
       rw [show ((1+Val.nodesL (v.list.take i):Nat):Int)+(v.list[i].nodes:Int)=((1+(Val.nodesL (v.list.take i)+v.list[i].nodes):Nat):Int) by omega]
       exact this
     ·rw [show cntR d v.list[i]=(0,false) by unfold cntR;rw [if_neg hc]]
      refine ⟨fun _=>?_,fun h=>(by cases h)⟩
      rw [cno (fun h=>hc ⟨okv_sub h.1 _ (List.getElem_mem hi),by have:=nodes_mem (List.getElem_mem hi);omega⟩)]
      exact ⟨rfl,rfl⟩
   unfold T109_0 T109_1 T109_2 T109_3 T109_4
   simp only [Val.int_mk,Val.text_mk,Val.cut_mk,Val.kind_mk,Val.list_mk,bAnd1,ht',ne_eq,not_true_eq_false,false_imp_iff,true_imp_iff,true_and,not_false_eq_true]
   rcases cut_cases v with ⟨hc,hcn⟩ | ⟨hc,hcn⟩
   all_goals simp only [hc,reduceCtorEq,false_imp_iff,true_imp_iff,not_true_eq_false,not_false_eq_true,true_and,and_true]
   all_goals repeat' first | refine ⟨fun _=>?_,fun _=>?_⟩ | (intro h)
   all_goals first
    | exact no (by unfold Val.okh Okh;omega)
    | exact lp (by unfold Val.okh Okh;omega) _ ‹_›
    | (exfalso;omega))
  exact h
theorem c76 {v:Val} (hw:Wf v):Pus prog 76 [v.av] (.i .i64 (chkR v)):=by
 obtain ⟨x,rfl,h⟩:=p76 H.f76 (v0:=v) (K:=fun x=>x=chkR v) (by
  unfold T76_0 chkR
  refine ⟨_,_,c109 H 130 hw (by decide),?_⟩
  unfold cntR fine
  by_cases h:okv 130 v=true∧v.nodes≤5000
  ·rw [if_pos h,if_pos (by simpa using h)]
   exact ⟨fun h=>(by cases h),fun _=>rfl⟩
  ·rw [if_neg h,if_neg (by simpa using h)]
   exact ⟨fun _=>rfl,fun h=>(by cases h)⟩)
 exact h
end
end Go.AM

namespace Go.AM
open Go
theorem txts_app (l m:List Val):txts (l++m)=txts l++(if l.length=0 then txts m else txtl m):=by
 cases l with
 | nil=>simp [txts]
 | cons a l=>simp [txts,txtl_app]
theorem txts_take_len (l:List Val) (i:Nat):(txts (l.take i)).length≤(txts l).length:=by
 have:=txts_app (l.take i) (l.drop i)
 rw [List.take_append_drop] at this
 rw [this,List.length_append]
 omega
theorem quoR_ok {s:Bytes} (h:s.length≤400):quoR s=(quo s,0):=by
 unfold quoR
 rw [if_neg (by omega)]
section
variable {prog:Prog} (H:Has38 prog)
include H
theorem show_loop {K:Int→Bytes→Prop} {l:List Val} {e0 e1:UInt8} {b:Bytes} (hl:l.length≤16) (hx :∀x∈l,∀b:Bytes,b.length+(txt x).length≤100000000→PuX prog 104 (Bl b) [x.av] (fun r=>r=.i .i64 0) (Bl (b++txt x)))
  (hb:b.length+(txts l).length+2≤100000000) (hK:K 0 (b++[e0]++txts l++[e1])) :∀P0:Int→Bytes→Prop,(∀(t22:Int) (mP:Bytes),T104_9 prog K P0 [e0,e1] l (l.length:Int) t22 mP→P0 t22 mP)→P0 0 (b++[e0]):=by
 intro P hP
 have:=loop_up (P:=fun m i=>P i m) (fun i=>b++[e0]++txts (l.take i)) l.length ?_ fun i hi ihP=>?_
 ·simpa [txts] using this
 ·apply hP
  unfold T104_9 T104_11 T104_4
  rw [List.take_length]
  refine ⟨fun h=>absurd h (by omega),fun _=>⟨by simp,_,_,c126 H.toHasB (s:=[e1]) ?_,hK⟩⟩
  rw [maxBytes_eq];simp only [List.length_append,List.length_cons,List.length_nil];omega
 ·apply hP
  have h1:=txts_take_len l (i+1)
  rw [txts_take hi] at h1 ihP
  simp only [List.length_append] at h1
  unfold T104_9 T104_10
  refine ⟨fun _=>⟨by omega,_,get_at hi,fun h2=>?_,fun h2=>?_⟩,fun h=>absurd (show (i:Int)<l.length by omega) h⟩
  ·rw [if_pos (by omega)] at h1 ihP
   refine ⟨_,_,c126 H.toHasB (s:=[44,32]) ?_,_,_,hx _ (List.getElem_mem hi) _ ?_,fun h=>absurd rfl h,fun _=>?_⟩
   ·rw [maxBytes_eq];simp only [List.length_append,List.length_cons,List.length_nil];omega
   ·simp only [List.length_append,List.length_cons,List.length_nil] at h1 ⊢;omega
   ·rw [wr_succ (by omega)]
    simpa using ihP
  ·rw [if_neg (by omega)] at h1 ihP
   refine ⟨_,_,hx _ (List.getElem_mem hi) _ ?_,fun h=>absurd rfl h,fun _=>?_⟩
   ·simp only [List.length_append,List.length_cons,List.length_nil] at h1 ⊢;omega
   ·rw [wr_succ (by omega)]
    simpa using ihP
set_option maxHeartbeats 1000000 in
theorem c104 :∀(d:Nat) {v:Val},okv d v=true→Wf v→∀b:Bytes,b.length+(txt v).length≤100000000→PuX prog 104 (Bl b) [v.av] (fun r=>r=.i .i64 0) (Bl (b++txt v))
 | 0,v,h,_,_,_=>by cases h
 | d+1,v,h,hw,b,hlen=>by
  have h1:=okv_head h
  have h2:=okv_sub h
  have ih :∀x∈v.list,∀b:Bytes,b.length+(txt x).length≤100000000→PuX prog 104 (Bl b) [x.av] (fun r=>r=.i .i64 0) (Bl (b++txt x)):=fun x hx b hb=>c104 d (h2 _ hx) (hw.e _ hx) b hb
  refine (p104 H.f104 (v1:=v) (mP:=b) (K:=fun r b'=>r=0∧b'=b++txt v) ?_).to fun r b' hk=>?_
  ·have hB :∀{s:Bytes} {a:Int},(txt v)=s→∃r':Int,∃b'':Bytes,PuX prog 126 (Bl b) [.s s] (fun r=>r=.tup [.i .i64 r',.ni]) (Bl b'')∧T104_4 prog (fun r b'=>r=0∧b'=b++txt v) b'':=by
    intro s a hs
    refine ⟨_,_,c126 H.toHasB (s:=s) ?_ (hs ▸ txt_ne v),?_⟩
    ·rw [← hs,maxBytes_eq];omega
    ·unfold T104_4;rw [hs];exact ⟨rfl,rfl⟩
   have hk:1≤v.kind∧v.kind≤7:=by unfold Val.okh Okh at h1;omega
   have hn:=hw.n
   rw [txt_eq] at hlen
   have ht:=txt_eq v
   unfold T104_0 T104_1
   refine ⟨by omega,?_⟩
   have hkk:v.kind=1∨v.kind=2∨v.kind=3∨v.kind=4∨v.kind=5∨v.kind=6∨v.kind=7:=by omega
   rcases hkk with k | k | k | k | k | k | k
   all_goals rw [k]
   all_goals simp only [k,if_true,reduceCtorEq,if_false,Int.reduceEq] at ht hlen
   ·refine ⟨[],rfl,?_⟩
    unfold T104_2 T104_3 T104_5
    rw [k]
    refine ⟨fun _=>⟨fun h=>hB (a:=0) ?_,fun h=>⟨fun _=>hB (a:=0) ?_,fun h=>by simp at h⟩⟩,fun h=>absurd rfl h⟩
    ·rw [ht,if_pos (by simpa using h)];rfl
    ·rw [ht,if_neg (by simpa using h)];rfl
   ·refine ⟨[],rfl,?_⟩
    unfold T104_2 T104_3 T104_5 T104_6
    rw [k]
    refine ⟨fun h=>absurd h (by decide),fun _=>⟨fun h=>(by cases h),fun _=>⟨fun h=>(by simp at h),fun _=>⟨fun _=>⟨_,c15 H.toHas03 hn.1 hn.2,hB (a:=0) ht⟩,fun h=>by simp at h⟩⟩⟩⟩
   ·refine ⟨[],rfl,?_⟩
    unfold T104_2 T104_3 T104_5 T104_6 T104_7
    rw [k]
    refine ⟨fun h=>absurd h (by decide),fun _=>⟨fun h=>(by cases h),fun _=>⟨fun h=>(by simp at h),fun _=>⟨fun h=>(by simp at h),fun _=>⟨fun _=>⟨_,_,c11 H.toHas03 v.text,?_⟩,fun h=>by simp at h⟩⟩⟩⟩⟩
    rw [quoR_ok (by unfold Val.okh Okh at h1;omega)]
    refine ⟨_,_,c126 H.toHasB (s:=quo v.text) ?_,rfl,?_⟩
    ·rw [maxBytes_eq];omega
    ·rw [ht]
   ·refine ⟨[],rfl,?_⟩
    unfold T104_2 T104_3 T104_5 T104_6 T104_7 T104_8
    rw [k]
    refine ⟨fun h=>absurd h (by decide),fun _=>⟨fun h=>(by cases h),fun _=>⟨fun h=>(by simp at h),fun _=>⟨fun h=>(by simp at h),fun _=>⟨fun h=>(by simp at h),fun _=>⟨fun _=>⟨fun hc=>hB (a:=0) ?_,fun hc=>⟨fun _=>⟨fun hl=>hB (a:=0) ?_,fun hl=>⟨fun _=>?_,fun h=>absurd rfl h⟩⟩,fun h=>absurd rfl h⟩⟩,fun h=>absurd rfl h⟩⟩⟩⟩⟩⟩
    ·rw [ht,if_pos hc];rfl
    ·rw [ht,if_neg (by rw [hc];decide),if_pos (by omega)];rfl
    ·rw [if_neg (by rw [hc];decide),if_neg (by omega)] at ht hlen
     have hl1:v.list.length=1:=by unfold Val.okh Okh at h1;omega
     obtain ⟨w,hw1⟩:=List.length_eq_one_iff.1 hl1
     rw [hw1,txts_one] at hlen ht
     simp only [List.length_cons] at hlen
     refine ⟨_,_,c126 H.toHasB (s:=[38]) ?_,w,by rw [hw1];rfl,_,_,ih w (by rw [hw1];exact List.mem_cons_self) _ ?_,rfl,?_⟩
     ·rw [maxBytes_eq];simp only [List.length_cons,List.length_nil];omega
     ·simp only [List.length_append,List.length_cons,List.length_nil];omega
     ·rw [ht];simp
   ·have hc:v.cut=false:=by
     have:v.cut.toNat=0:=by unfold Val.okh Okh at h1;omega
     cases hc:v.cut
     ·rfl
     ·rw [hc] at this;cases this
    refine ⟨[123,125],rfl,?_⟩
    unfold T104_2 T104_3 T104_5 T104_6 T104_7 T104_8
    rw [k]
    refine ⟨fun h=>absurd h (by decide),fun _=>⟨fun h=>(by cases h),fun _=>⟨fun h=>(by simp at h),fun _=>⟨fun h=>(by simp at h),fun _=>⟨fun h=>(by simp at h),fun _=>⟨fun h=>absurd h (by decide),fun _=>⟨fun h=>(by cases h),fun _=>⟨fun h=>absurd h (by decide),fun _=>⟨fun h=>absurd h (by decide),fun _=>⟨fun h=>(by rw [hc] at h;cases h),fun _=>⟨by decide,_,_,c126 H.toHasB (s:=[123]) ?_,?_⟩⟩⟩⟩⟩⟩⟩⟩⟩⟩⟩
    ·rw [maxBytes_eq];simp only [List.length_cons,List.length_nil,List.length_append] at hlen ⊢;omega
    ·simp only [List.length_cons,List.length_nil,List.length_append] at hlen
     exact show_loop H (by unfold Val.okh Okh at h1;omega) ih (by omega) ⟨rfl,by rw [ht];simp⟩
   ·have hc:v.cut=false:=by
     have:v.cut.toNat=0:=by unfold Val.okh Okh at h1;omega
     cases hc:v.cut
     ·rfl
     ·rw [hc] at this;cases this
    refine ⟨[91,93],rfl,?_⟩
    unfold T104_2 T104_3 T104_5 T104_6 T104_7 T104_8
    rw [k]
    refine ⟨fun h=>absurd h (by decide),fun _=>⟨fun h=>(by cases h),fun _=>⟨fun h=>(by simp at h),fun _=>⟨fun h=>(by simp at h),fun _=>⟨fun h=>(by simp at h),fun _=>⟨fun h=>absurd h (by decide),fun _=>⟨fun h=>(by cases h),fun _=>⟨fun h=>absurd h (by decide),fun _=>⟨fun h=>absurd h (by decide),fun _=>⟨fun h=>(by rw [hc] at h;cases h),fun _=>⟨by decide,_,_,c126 H.toHasB (s:=[91]) ?_,?_⟩⟩⟩⟩⟩⟩⟩⟩⟩⟩⟩
    ·rw [maxBytes_eq];simp only [List.length_cons,List.length_nil,List.length_append] at hlen ⊢;omega
    ·simp only [List.length_cons,List.length_nil,List.length_append] at hlen
     exact show_loop H (by unfold Val.okh Okh at h1;omega) ih (by omega) ⟨rfl,by rw [ht];simp⟩
   ·refine ⟨[60,62],rfl,?_⟩
    unfold T104_2 T104_3 T104_5 T104_6 T104_7 T104_8
    rw [k]
    refine ⟨fun h=>absurd h (by decide),fun _=>⟨fun h=>(by cases h),fun _=>⟨fun h=>(by simp at h),fun _=>⟨fun h=>(by simp at h),fun _=>⟨fun h=>(by simp at h),fun _=>⟨fun h=>absurd h (by decide),fun _=>⟨fun h=>(by cases h),fun _=>⟨fun h=>absurd h (by decide),fun _=>⟨fun h=>absurd h (by decide),fun _=>⟨fun hc=>hB (a:=0) ?_,fun hc=>⟨by decide,_,_,c126 H.toHasB (s:=[60]) ?_,?_⟩⟩⟩⟩⟩⟩⟩⟩⟩⟩⟩
    ·rw [ht,if_pos hc];rfl
    ·rw [if_neg (by rw [hc];decide)] at hlen
     rw [maxBytes_eq];simp only [List.length_cons,List.length_nil,List.length_append] at hlen ⊢;omega
    ·rw [if_neg (by rw [hc];decide)] at hlen ht
     simp only [List.length_cons,List.length_nil,List.length_append] at hlen
     exact show_loop H (by unfold Val.okh Okh at h1;omega) ih (by omega) ⟨rfl,by rw [ht];simp⟩
  ·obtain ⟨x0,h1,rfl,rfl⟩:=hk
   exact ⟨h1,rfl⟩
theorem c72 {v:Val} (hw:Wf v):Pus prog 72 [v.av] (.tup [.s (if fine v=true then txt v else []),.i .i64 (chkR v)]):=by
 obtain ⟨x,y,⟨rfl,rfl⟩,h⟩:=p72 H.f72 (v0:=v) (K:=fun x y=>x=(if fine v=true then txt v else [])∧y=chkR v) (by
  unfold T72_0
  refine ⟨_,c76 H hw,fun h=>?_,fun h=>?_⟩
  ·unfold chkR at h ⊢
   by_cases hf:fine v=true
   ·rw [if_pos hf] at h;exact absurd rfl h
   ·rw [if_neg hf,if_neg hf];exact ⟨rfl,rfl⟩
  ·unfold chkR at h ⊢
   by_cases hf:fine v=true
   ·rw [if_pos hf,if_pos hf]
    have:=fine_len hf
    refine ⟨_,_,c104 H 130 (fine_ok hf).1 hw [] (by simp only [List.length_nil];omega),fun h=>absurd rfl h,fun _=>⟨_,c105 H.toHasB (by rw [List.nil_append,maxBytes_eq];omega),rfl,rfl⟩⟩
   ·rw [if_neg hf] at h;exact absurd (by decide) h)
 exact h
end
end Go.AM

namespace Go.AM
open Go
theorem digN_lt :∀{s:Bytes} {i:Nat},i<digN s→∃c,s[i]?=some c∧isD c=true
 | [],i,h=>absurd h (Nat.not_lt_zero _)
 | c::s,0,h=>by
  rw [digN] at h
  split at h
  ·rename_i hc;exact ⟨c,rfl,hc⟩
  ·exact absurd h (Nat.not_lt_zero _)
 | c::s,i+1,h=>by
  rw [digN] at h
  split at h
  ·exact digN_lt (s:=s) (i:=i) (by omega)
  ·exact absurd h (Nat.not_lt_zero _)
theorem digN_stop :∀{s:Bytes} {c:UInt8},s[digN s]?=some c→isD c=false
 | [],c,h=>by cases h
 | x::s,c,h=>by
  rw [digN] at h
  split at h
  ·rw [Nat.add_comm,List.getElem?_cons_succ] at h
   exact digN_stop h
  ·rename_i hx
   rw [List.getElem?_cons_zero] at h
   injection h with h
   subst h
   simpa using hx
theorem numN_lt {s:Bytes} {i:Nat} (h:i<numN s) :∃c,s[i]?=some c∧(isD c=true∨(i=0∧c=45)):=by
 unfold numN at h
 split at h
 ·rename_i h1
  cases s with
  | nil=>cases h1
  | cons x s=>
   injection h1 with h1
   subst h1
   cases i with
   | zero=>exact ⟨45,rfl,.inr ⟨rfl,rfl⟩⟩
   | succ i=>
    obtain ⟨c,h2,h3⟩:=digN_lt (s:=s) (i:=i) (by simp only [List.drop_succ_cons,List.drop_zero] at h;omega)
    exact ⟨c,h2,.inl h3⟩
 ·obtain ⟨c,h2,h3⟩:=digN_lt h
  exact ⟨c,h2,.inl h3⟩
theorem numN_stop {s:Bytes} {c:UInt8} (h:s[numN s]?=some c):isD c=false∧(numN s=0→c≠45):=by
 unfold numN at *
 split at h
 ·rename_i h1
  rw [if_pos h1]
  cases s with
  | nil=>cases h1
  | cons x s=>
   simp only [List.drop_succ_cons,List.drop_zero] at h ⊢
   rw [Nat.add_comm,List.getElem?_cons_succ] at h
   exact ⟨digN_stop h,fun h=>absurd h (by omega)⟩
 ·rename_i h1
  rw [if_neg h1]
  refine ⟨digN_stop h,fun h2=>?_⟩
  rw [h2] at h
  rintro rfl
  exact h1 (by rw [List.head?_eq_getElem?];exact h)
theorem isD_iff {c:UInt8}:isD c=true↔48≤c.toNat∧c.toNat≤57:=by unfold isD;simp
theorem isD_not {c:UInt8}:isD c=false↔¬(48≤c.toNat∧c.toNat≤57):=by rw [← isD_iff];simp
theorem qs_nil:qs []=none:=rfl
theorem qs_esc0:qs [92]=none:=rfl
theorem qs_esc (x:UInt8) (r:Bytes):qs (92::x::r)=(qs r).map (·+2):=rfl
theorem qs_end (r:Bytes):qs (34::r)=some 1:=by rw [qs.eq_def];rfl
theorem qs_go {c:UInt8} (h1:¬c=92) (h2:¬c=34) (r:Bytes):qs (c::r)=(qs r).map (·+1):=by
 rw [qs.eq_def]
 simp only [if_neg h1,if_neg h2]
theorem u8_45 {c:UInt8}:c=45↔c.toNat=45:=⟨fun h=>by rw [h];rfl,fun h=>u8_eq h⟩
section
variable {prog:Prog} (H:Has38 prog)
include H
theorem c128 (p s:Bytes):PuX prog 128 (Bx [.s s]) [.s p] (fun r=>r=.b (cutp p s).2) (Bx [.s (cutp p s).1]):=by
 refine (p128 H.f128 (what1:=p) (mP:=⟨s⟩) (K:=fun r b=>r=(cutp p s).2∧b=⟨(cutp p s).1⟩) ?_).to (b:=⟨(cutp p s).1⟩) fun r b' hk=>?_
 ·unfold T128_0
  exact ⟨_,_,c36 H.toHas03 s p,rfl,rfl⟩
 ·obtain ⟨x0,h1,rfl,rfl⟩:=hk
  exact ⟨h1,rfl⟩
theorem c131 {s:Bytes} (hs:s.length≤1000000000):PuX prog 131 (Bx [.s s]) [] (fun r=>r=.tup [.i .i64 (scNum s).1,.b (scNum s).2.1]) (Bx [.s (scNum s).2.2]):=by
 refine (p131 H.f131 (mP:=⟨s⟩) (K:=fun x y b=>x=(scNum s).1∧y=(scNum s).2.1∧b=⟨(scNum s).2.2⟩) ?_).to (b:=⟨(scNum s).2.2⟩) fun r b' hk=>?_
 ·unfold T131_0 T131_1
  intro P hP
  have hle:=numN_le s
  refine loop_up0 (P:=fun i=>P i ⟨s⟩) (numN s) ?_ fun i hi ih=>?_
  ·apply hP
   unfold T131_2
   have fin:0≤((numN s:Nat):Int)∧((numN s:Nat):Int).toNat≤s.length∧∃r:Int,∃r':Int,Pus prog 21 [.s (s.take ((numN s:Nat):Int).toNat)] (.tup [.i .i64 r,.i .i64 r'])∧0≤((numN s:Nat):Int)∧((numN s:Nat):Int).toNat≤s.length∧r=(scNum s).1∧(decide (r'=0))=(scNum s).2.1∧Sc.mk (s.drop ((numN s:Nat):Int).toNat)=⟨(scNum s).2.2⟩:=by
    rw [toNat_cast]
    exact ⟨by omega,hle,_,_,c21 H.toHas03 _,by omega,hle,rfl,rfl,rfl⟩
   refine ⟨fun h=>?_,fun _=>fin⟩
   have hlt:numN s<s.length:=by simp only at h;omega
   obtain ⟨h1,h2⟩:=numN_stop (List.getElem?_eq_getElem hlt)
   have h1:=isD_not.1 h1
   have h2:numN s=0→¬(s[numN s].toNat=45):=fun h=>fun h'=>h2 h (u8_45.2 h')
   refine ⟨by omega,s[numN s],get_at hlt,fun h3=>⟨by omega,s[numN s],get_at hlt,fun h4=>absurd ⟨by omega,by omega⟩ h1,fun h4=>⟨fun h5=>⟨by omega,s[numN s],get_at hlt,fun h6=>absurd (show s[numN s].toNat=45 by omega) (h2 (by omega)),fun _=>fin⟩,fun _=>fin⟩⟩,
    fun h3=>⟨fun h5=>⟨by omega,s[numN s],get_at hlt,fun h6=>absurd (show s[numN s].toNat=45 by omega) (h2 (by omega)),fun _=>fin⟩,fun _=>fin⟩⟩
  ·apply hP
   obtain ⟨c,hc,hd⟩:=numN_lt hi
   have hc':s[((i:Nat):Int).toNat]?=some c:=hc
   rw [isD_iff,u8_45] at hd
   have ih':P (IntKind.i64.wrap ((i:Int)+1)) ⟨s⟩:=by rw [wr_succ (by omega)];exact ih
   unfold T131_2
   refine ⟨fun _=>⟨by omega,c,hc',fun h3=>⟨by omega,c,hc',fun _=>ih',fun h4=>⟨fun h5=>⟨by omega,c,hc',fun _=>ih',fun h6=>absurd h6 (by omega)⟩,fun h5=>absurd h5 (by omega)⟩⟩,
    fun h3=>⟨fun h5=>⟨by omega,c,hc',fun _=>ih',fun h6=>absurd h6 (by omega)⟩,fun h5=>absurd h5 (by omega)⟩⟩,fun h=>absurd (show (i:Int)<s.length by omega) h⟩
 ·obtain ⟨x0,x1,h1,rfl,rfl,rfl⟩:=hk
  exact ⟨h1,rfl⟩
theorem c130 {s:Bytes} (hs:s.length≤1000000000):PuX prog 130 (Bx [.s s]) [] (fun r=>r=.tup [.s (scQ s).1,.b (scQ s).2.1]) (Bx [.s (scQ s).2.2]):=by
 refine (p130 H.f130 (mP:=⟨s⟩) (K:=fun x y b=>x=(scQ s).1∧y=(scQ s).2.1∧b=⟨(scQ s).2.2⟩) ?_).to (b:=⟨(scQ s).2.2⟩) fun r b' hk=>?_
 ·unfold T130_0 T130_1
  intro P hP
  have go :∀m i:Nat,s.length≤i+m→i≤s.length+1→1≤i→qs (s.drop 1)=(qs (s.drop i)).map (·+(i-1))→P (i:Int) ⟨s⟩:=by
   intro m
   induction m using Nat.strongRecOn with
   | _ m ih=>
   intro i hm hi h1 hq
   apply hP
   unfold T130_2
   refine ⟨fun h=>?_,fun h=>?_⟩
   ·have:s.drop i=[]:=List.drop_eq_nil_of_le (by simp only at h;omega)
    rw [this,qs_nil,Option.map_none] at hq
    unfold scQ
    rw [hq]
    exact ⟨rfl,rfl,rfl⟩
   ·have hlt:i<s.length:=by simp only at h;omega
    have hd:s.drop i=s[i]::s.drop (i+1):=List.drop_eq_getElem_cons hlt
    refine ⟨by omega,s[i],get_at hlt,fun h2=>?_,fun h2=>⟨by omega,s[i],get_at hlt,fun h3=>?_,fun h3=>?_⟩⟩
    ·rw [wr_i64 (by omega) (by omega),show (i:Int)+2=((i+2:Nat):Int) by omega]
     have hc:s[i]=92:=u8_eq (by show s[i].toNat=92;omega)
     rw [hd,hc] at hq
     by_cases hl:i+1<s.length
     ·have hd2:s.drop (i+1)=s[i+1]::s.drop (i+2):=List.drop_eq_getElem_cons hl
      refine ih (m-2) (by omega) (i+2) (by omega) (by omega) (by omega) ?_
      rw [hd2,qs_esc,Option.map_map] at hq
      rw [hq]
      congr 1
      funext x
      simp only [Function.comp]
      omega
     ·have hd2:s.drop (i+1)=[]:=List.drop_eq_nil_of_le (by omega)
      refine ih (m-1) (by omega) (i+2) (by omega) (by omega) (by omega) ?_
      rw [hd2,qs_esc0] at hq
      rw [hq,List.drop_eq_nil_of_le (show s.length≤i+2 by omega),qs_nil]
      rfl
    ·rw [wr_succ (by omega)]
     have hc:¬s[i]=92:=fun e=>h2 (by rw [e];rfl)
     have hc':¬s[i]=34:=fun e=>h3 (by rw [e];rfl)
     rw [hd,qs_go hc hc',Option.map_map] at hq
     refine ih (m-1) (by omega) (i+1) (by omega) (by omega) (by omega) ?_
     rw [hq]
     congr 1
     funext x
     simp only [Function.comp]
     omega
    ·rw [wr_succ (by omega),toNat_cast]
     have hc:s[i]=34:=u8_eq (by show s[i].toNat=34;simp only [ne_eq,Decidable.not_not] at h3;omega)
     rw [hd,hc,qs_end,Option.map_some] at hq
     have e:1+(i-1)+1=i+1:=by omega
     refine ⟨by omega,by show i+1≤s.length;omega,_,_,c25 H.toHas03 _,by omega,by show i+1≤s.length;omega,?_⟩
     unfold scQ
     rw [hq]
     simp [e]
  exact go s.length 1 (by omega) (by omega) (by omega) (by simp)
 ·obtain ⟨x0,x1,h1,rfl,rfl,rfl⟩:=hk
  exact ⟨h1,rfl⟩
end
end Go.AM

namespace Go.AM
open Go
theorem scNum_len (s:Bytes):(scNum s).2.2.length≤s.length:=by unfold scNum;simp
theorem scQ_len (s:Bytes):(scQ s).2.2.length≤s.length:=by
 unfold scQ
 split<;>simp
theorem cutp_len (p s:Bytes):(cutp p s).1.length≤s.length:=by
 unfold cutp
 split<;>simp
section
variable {f:Bytes→Val × Bool × Bytes}
theorem scG_len {kind:Int} {stop:Bytes} (hf :∀s,(f s).2.2.length≤s.length) :∀(n:Nat) (acc:List Val) (s:Bytes),(scG f kind stop n acc s).2.2.length≤s.length
 | 0,acc,s=>Nat.le_refl _
 | n+1,acc,s=>by
  have h1:=hf s
  have h2:=cutp_len stop (f s).2.2
  have h3:=cutp_len [44,32] (cutp stop (f s).2.2).1
  rw [scG]
  split
  ·exact h1
  ·split
   ·exact Nat.le_trans h2 h1
   ·split
    ·exact Nat.le_trans h3 (Nat.le_trans h2 h1)
    ·exact Nat.le_trans (scG_len hf n _ _) (Nat.le_trans h3 (Nat.le_trans h2 h1))
theorem scL_len {kind:Int} {stop s:Bytes} (hf :∀s,(f s).2.2.length≤s.length):(scL f kind stop s).2.2.length≤s.length:=by
 unfold scL
 split
 ·exact cutp_len _ _
 ·exact Nat.le_trans (scG_len hf 17 [] _) (cutp_len _ _)
theorem len_ite {c:Prop} [Decidable c] {a b:Val × Bool × Bytes} {n:Nat} (ha:a.2.2.length≤n) (hb:b.2.2.length≤n):(if c then a else b).2.2.length≤n:=by
 split
 ·exact ha
 ·exact hb
theorem scV_len :∀(d:Nat) (s:Bytes),(scV d s).2.2.length≤s.length
 | 0,s=>Nat.le_refl _
 | d+1,s=>by
  have ih:=scV_len d
  rw [scV]
  exact len_ite (Nat.le_refl _) (len_ite (cutp_len _ _) (len_ite (cutp_len _ _) (len_ite (cutp_len _ _) (len_ite (cutp_len _ _) (len_ite (cutp_len _ _) (len_ite (Nat.le_trans (ih _) (cutp_len _ _)) (len_ite (Nat.le_trans (scL_len ih) (cutp_len _ _))
   (len_ite (Nat.le_trans (scL_len ih) (cutp_len _ _)) (len_ite (Nat.le_trans (scL_len ih) (cutp_len _ _)) (len_ite (scQ_len _) (scNum_len _)))))))))))
end
section
variable {prog:Prog} (H:Has38 prog)
include H
abbrev ScR (r:Val × Bool × Bytes):AV→Prop:=fun x=>∃o:Own,x=.tup [.ag [.i .u8 r.1.kind,.i .i64 r.1.int,.s r.1.text,.sl o (List.map Val.row r.1.list),.b r.1.cut],.b r.2.1]
theorem c129 {f:Bytes→Val × Bool × Bytes} {d:Nat} (hf :∀s,(f s).2.2.length≤s.length) (hc :∀s:Bytes,s.length≤1000000000→PuX prog 107 (Bx [.s s]) [.i .i64 (d:Int)] (ScR (f s)) (Bx [.s (f s).2.2])) {kind:Int} {stop s:Bytes} (hs:s.length≤1000000000) :
  PuX prog 129 (Bx [.s s]) [.i .u8 kind,.s stop,.i .i64 (d:Int)] (ScR (scL f kind stop s)) (Bx [.s (scL f kind stop s).2.2]):=by
 refine (p129 H.f129 (kind1:=kind) (end2:=stop) (nest3:=(d:Int)) (mP:=⟨s⟩) (K:=fun x y b=>x=(scL f kind stop s).1∧y=(scL f kind stop s).2.1∧b=⟨(scL f kind stop s).2.2⟩) ?_).to (b:=⟨(scL f kind stop s).2.2⟩) fun r b' hk=>?_
 ·unfold T129_0
  refine ⟨_,⟨(cutp stop s).1⟩,c128 H stop s,fun h=>?_,fun h P hP=>?_⟩
  ·unfold scL
   rw [if_pos h]
   exact ⟨rfl,rfl,rfl⟩
  ·have e:scL f kind stop s=scG f kind stop 17 [] (cutp stop s).1:=by unfold scL;rw [if_neg (by rw [h];decide)]
   have hl:=cutp_len stop s
   generalize (cutp stop s).1=t at hl e ⊢
   have go :∀(n:Nat) (acc:List Val) (u:Bytes),acc.length+n=17→u.length≤t.length→scG f kind stop 17 [] t=scG f kind stop n acc u→P (Val.mk 0 0 [] [] false) (Val.mk kind 0 [] acc false) ⟨u⟩:=by
    intro n
    induction n with
    | zero=>
     intro acc u ha hu hq
     apply hP
     rw [e,hq]
     unfold T129_1 T129_2
     refine ⟨fun h=>absurd h (by simp only [Val.list_mk];omega),fun _=>⟨rfl,rfl,rfl⟩⟩
    | succ n ih=>
     intro acc u ha hu hq
     apply hP
     rw [e,hq,scG]
     have h1:=hf u
     have h2:=cutp_len stop (f u).2.2
     have h3:=cutp_len [44,32] (cutp stop (f u).2.2).1
     unfold T129_1
     refine ⟨fun _=>⟨(f u).1,(f u).2.1,⟨(f u).2.2⟩,hc u (by omega),fun g1=>?_,fun g1=>⟨⟨?_,?_⟩,_,⟨(cutp stop (f u).2.2).1⟩,c128 H stop (f u).2.2,fun g2=>?_,fun g2=>⟨_,⟨(cutp [44,32] (cutp stop (f u).2.2).1).1⟩,c128 H [44,32] (cutp stop (f u).2.2).1,fun g3=>?_,fun g3=>?_⟩⟩⟩,fun h=>absurd (show (acc.length:Int)≤16 by omega) h⟩
     ·rw [if_pos (by simpa using g1)]
      exact ⟨rfl,rfl,rfl⟩
     ·simp only [Val.list_mk,List.length_cons,List.length_nil,maxBytes_eq];omega
     ·simp only [Val.list_mk,List.length_cons,List.length_nil,maxBytes_eq];omega
     ·rw [if_neg (by simpa using g1),if_pos g2]
      exact ⟨rfl,rfl,rfl⟩
     ·rw [if_neg (by simpa using g1),if_neg (by rw [g2];decide),if_pos (by simpa using g3)]
      exact ⟨rfl,rfl,rfl⟩
     ·refine ih (acc++[(f u).1]) _ (by simp;omega) (by omega) ?_
      rw [hq,scG,if_neg (by simpa using g1),if_neg (by rw [g2];decide),if_neg (by simpa using g3)]
   exact go 17 [] t rfl (Nat.le_refl _) rfl
 ·obtain ⟨x0,x1,h1,rfl,rfl,rfl⟩:=hk
  exact ⟨h1,rfl⟩
theorem c107 :∀(d:Nat) {s:Bytes},s.length≤1000000000→d≤1000→PuX prog 107 (Bx [.s s]) [.i .i64 (d:Int)] (ScR (scV d s)) (Bx [.s (scV d s).2.2])
 | 0,s,hs,hd=>by
  refine (p107 H.f107 (nest1:=((0:Nat):Int)) (mP:=⟨s⟩) (K:=fun x y b=>x=(scV 0 s).1∧y=(scV 0 s).2.1∧b=⟨(scV 0 s).2.2⟩) ?_).to (b:=⟨(scV 0 s).2.2⟩) fun r b' hk=>?_
  ·unfold T107_0 T107_1
   exact ⟨fun _=>⟨rfl,rfl,rfl⟩,fun h=>absurd rfl h⟩
  ·obtain ⟨x0,x1,h1,rfl,rfl,rfl⟩:=hk
   exact ⟨h1,rfl⟩
 | d+1,s,hs,hd=>by
  have ih:=fun s hs=>@c107 d s hs (by omega)
  have hm:IntKind.i64.wrap (((d+1:Nat):Int)-1)=(d:Int):=by rw [wr_i64 (by omega) (by omega)];omega
  refine (p107 H.f107 (nest1:=((d+1:Nat):Int)) (mP:=⟨s⟩) (K:=fun x y b=>x=(scV (d+1) s).1∧y=(scV (d+1) s).2.1∧b=⟨(scV (d+1) s).2.2⟩) ?_).to (b:=⟨(scV (d+1) s).2.2⟩) fun r b' hk=>?_
  ·have e:=scV.eq_2 s d
   unfold T107_0 T107_1
   refine ⟨fun h=>absurd h (by omega),fun _=>⟨fun h=>?_,fun h0=>?_⟩⟩
   ·rw [e,if_pos h];exact ⟨rfl,rfl,rfl⟩
   rw [if_neg h0] at e
   unfold T107_2
   refine ⟨_,⟨(cutp tTrue s).1⟩,c128 H tTrue s,?_⟩
   unfold T107_3
   refine ⟨fun h=>?_,fun h=>?_⟩
   ·rw [e,if_pos h];exact ⟨rfl,rfl,rfl⟩
   rw [if_neg (by rw [h];decide)] at e
   rw [cutp_no h]
   refine ⟨_,⟨(cutp tFalse s).1⟩,c128 H tFalse s,?_⟩
   clear h
   unfold T107_4
   refine ⟨fun h=>?_,fun h=>?_⟩
   ·rw [e,if_pos h];exact ⟨rfl,rfl,rfl⟩
   rw [if_neg (by rw [h];decide)] at e
   rw [cutp_no h]
   refine ⟨_,⟨(cutp tNil s).1⟩,c128 H tNil s,?_⟩
   clear h
   unfold T107_5
   refine ⟨fun h=>?_,fun h=>?_⟩
   ·rw [e,if_pos h];exact ⟨rfl,rfl,rfl⟩
   rw [if_neg (by rw [h];decide)] at e
   rw [cutp_no h]
   refine ⟨_,⟨(cutp tCutP s).1⟩,c128 H tCutP s,?_⟩
   clear h
   unfold T107_6
   refine ⟨fun h=>?_,fun h=>?_⟩
   ·rw [e,if_pos h];exact ⟨rfl,rfl,rfl⟩
   rw [if_neg (by rw [h];decide)] at e
   rw [cutp_no h]
   refine ⟨_,⟨(cutp tCutS s).1⟩,c128 H tCutS s,?_⟩
   clear h
   unfold T107_7
   refine ⟨fun h=>?_,fun h=>?_⟩
   ·rw [e,if_pos h];exact ⟨rfl,rfl,rfl⟩
   rw [if_neg (by rw [h];decide)] at e
   rw [cutp_no h]
   refine ⟨_,⟨(cutp [38] s).1⟩,c128 H [38] s,?_⟩
   clear h
   unfold T107_8
   rw [hm]
   have l1:=cutp_len [38] s
   refine ⟨fun h=>⟨_,_,⟨_⟩,ih _ (Nat.le_trans l1 hs),?_⟩,fun h=>?_⟩
   ·rw [e,if_pos h];exact ⟨rfl,rfl,rfl⟩
   rw [if_neg (by rw [h];decide)] at e
   rw [cutp_no h]
   have l1:=cutp_len [123] s
   refine ⟨_,⟨(cutp [123] s).1⟩,c128 H [123] s,fun h=>⟨_,_,⟨_⟩,c129 H (scV_len d) ih (Nat.le_trans l1 hs),?_⟩,fun h=>?_⟩
   ·rw [e,if_pos h];exact ⟨rfl,rfl,rfl⟩
   rw [if_neg (by rw [h];decide)] at e
   rw [cutp_no h]
   have l1:=cutp_len [91] s
   refine ⟨_,⟨(cutp [91] s).1⟩,c128 H [91] s,fun h=>⟨_,_,⟨_⟩,c129 H (scV_len d) ih (Nat.le_trans l1 hs),?_⟩,fun h=>?_⟩
   ·rw [e,if_pos h];exact ⟨rfl,rfl,rfl⟩
   rw [if_neg (by rw [h];decide)] at e
   rw [cutp_no h]
   have l1:=cutp_len [60] s
   refine ⟨_,⟨(cutp [60] s).1⟩,c128 H [60] s,fun h=>⟨_,_,⟨_⟩,c129 H (scV_len d) ih (Nat.le_trans l1 hs),?_⟩,fun h=>?_⟩
   ·rw [e,if_pos h];exact ⟨rfl,rfl,rfl⟩
   rw [if_neg (by rw [h];decide)] at e
   rw [cutp_no h]
   cases s with
   | nil=>exact absurd rfl h0
   | cons c s=>
    refine ⟨c,rfl,fun h=>⟨_,_,⟨_⟩,c130 H hs,?_⟩,fun h=>⟨_,_,⟨_⟩,c131 H hs,?_⟩⟩
    ·have hc:c=34:=u8_eq (by show c.toNat=34;omega)
     subst hc
     rw [e,List.head?_cons,if_pos rfl];exact ⟨rfl,rfl,rfl⟩
    ·rw [e,if_neg (by rw [List.head?_cons];intro he;injection he with he;exact h (by rw [he];rfl))];exact ⟨rfl,rfl,rfl⟩
  ·obtain ⟨x0,x1,h1,rfl,rfl,rfl⟩:=hk
   exact ⟨h1,rfl⟩
omit H in
theorem chk_fine {v:Val}:chkR v=0↔fine v=true:=by
 unfold chkR
 by_cases h:fine v=true
 ·rw [if_pos h];simp [h]
 ·rw [if_neg h];simp [h]
theorem c74 {s:Bytes} (hs:s.length≤1000000000):Pus prog 74 [.s s] (.tup [(rvs s).1.av,.i .i64 (rvs s).2]):=by
 obtain ⟨x,y,⟨rfl,rfl⟩,h⟩:=p74 H.f74 (s0:=s) (K:=fun x y=>x=(rvs s).1∧y=(rvs s).2) (by
  unfold T74_0 rvs
  refine ⟨fun h=>?_,fun h=>⟨_,_,⟨_⟩,c107 H 130 hs (by decide),fun h1=>?_,fun h1=>⟨fun h2=>?_,fun h2=>⟨_,_,c72 H (scV_wf _ _),fun h3=>?_,fun h3=>⟨fun h4=>?_,fun h4=>?_⟩⟩⟩⟩⟩
  ·rw [if_pos (by omega)];exact ⟨rfl,rfl⟩
  ·rw [if_neg (by omega),if_neg (by rintro ⟨h,_⟩;rw [h] at h1;cases h1)];exact ⟨rfl,rfl⟩
  ·rw [if_neg (by omega),if_neg (by rintro ⟨_,h,_⟩;exact h2 h)];exact ⟨rfl,rfl⟩
  ·rw [if_neg (by omega),if_neg (by rintro ⟨_,_,h,_⟩;exact h3 (chk_fine.2 h))];exact ⟨rfl,rfl⟩
  ·rw [if_neg (by omega),if_neg];· exact ⟨rfl,rfl⟩
   rintro ⟨_,_,h5,h6⟩
   rw [if_pos h5] at h4
   exact h4 h6
  ·have h5:=chk_fine.1 (Decidable.not_not.1 h3)
   rw [if_pos h5] at h4
   rw [if_neg (by omega),if_pos ⟨by simpa using h1,Decidable.not_not.1 h2,h5,Decidable.not_not.1 h4⟩]
   exact ⟨rfl,rfl⟩)
 exact h
end
end Go.AM

namespace Go.AM
open Go
section
variable {prog:Prog} (H:Has38 prog)
include H
theorem c78 {a:Val} (hw:Wf a) :∀b:Val,Pus prog 78 [a.av,b.av] (.b (sameV a b)):=by
 induction hw with
 | @mk k n s l c hk hn hl _ ih=>
  intro b
  obtain ⟨x,rfl,h⟩:=p78 H.f78 (a0:=Val.mk k n s l c) (b1:=b) (K:=fun x=>x=sameV (Val.mk k n s l c) b) (by
   have no :∀{p:Prop},(Val.mk k n s l c=b→p)→¬p→false=sameV (Val.mk k n s l c) b:=fun h1 h2=>(sameV_false.2 fun h=>h2 (h1 h)).symm
   unfold T78_0
   refine ⟨fun h=>no (fun e=>by rw [← e]) h,fun h1=>⟨fun h=>no (fun e=>by rw [← e]) h,fun h2=>⟨fun h=>no (fun e=>by rw [← e]) h,fun h3=>⟨fun h=>no (fun e=>by rw [← e]) h,fun h4=>⟨fun h=>no (fun e=>by rw [← e]) h,fun h5 P hP=>?_⟩⟩⟩⟩⟩
   have h1:=Decidable.not_not.1 h1
   have h2:=Decidable.not_not.1 h2
   have h3:=Decidable.not_not.1 h3
   have h4:=Decidable.not_not.1 h4
   have h5:l.length=b.list.length:=by have:=Decidable.not_not.1 h5;simp only [Val.list_mk] at this;omega
   refine loop_inv (P:=fun _ i=>P i (Val.mk k n s l c) b) (fun _=>()) l.length (fun i=>l.take i=b.list.take i) (by simp) (fun hI=>?_) (fun i hi hI ihP=>?_)
   ·apply hP
    unfold T78_1 T78_2
    refine ⟨fun h=>absurd h (by simp only [Val.list_mk];omega),fun _=>(sameV_true.2 ?_).symm⟩
    rw [List.take_length,h5,List.take_length] at hI
    rw [b.eta,← h1,← h2,← h3,← h4,hI]
    rfl
   ·apply hP
    have hi2:i<b.list.length:=by omega
    unfold T78_1
    refine ⟨fun _=>⟨by omega,l[i],get_at (l:=l) hi,by omega,b.list[i],get_at hi2,_,ih _ (List.getElem_mem hi) _,fun h6=>?_,fun h6=>?_⟩,fun h=>absurd (show (i:Int)<l.length by omega) h⟩
    ·refine no (p:=l[i]=b.list[i]) (fun e=>?_) (sameV_false.1 (by simpa using h6))
     subst e
     rfl
    ·rw [wr_i64 (by omega) (by omega)]
     refine ihP ?_
     have h7:l[i]=b.list[i]:=sameV_true.1 (by simpa using h6)
     rw [List.take_succ_eq_append_getElem hi,List.take_succ_eq_append_getElem hi2,hI,h7])
  exact h
end
end Go.AM

namespace Go.AM
open Go
def gFld (s:Fld):Bool:=decide (40<s.name.length)
def gFun (f:Fun):Bool:=decide (40<f.name.length)||decide (30<f.slots.length)||decide (300<f.code.length)||f.slots.any gFld
def greatI (m:Img):Bool:=(m.funcs.take 41).any gFun||decide (40<m.funcs.length)
structure OkI (m:Img):Prop where
 n:m.funcs.length≤40
 f :∀f∈m.funcs,f.name.length≤40∧f.slots.length≤30∧f.code.length≤300∧∀s∈f.slots,s.name.length≤40
theorem OkI.of {m:Img} (h:greatI m=false):OkI m:=by
 simp only [greatI,Bool.or_eq_false_iff,decide_eq_false_iff_not] at h
 have hn:m.funcs.length≤40:=by omega
 refine ⟨hn,fun f hf=>?_⟩
 have h1:=h.1
 rw [List.take_of_length_le (by omega),List.any_eq_false] at h1
 have h2:=h1 f hf
 simp only [gFun,Bool.not_eq_true,Bool.or_eq_false_iff,decide_eq_false_iff_not,List.any_eq_false] at h2
 refine ⟨by omega,by omega,by omega,fun s hs=>?_⟩
 simpa [gFld] using h2.2 s hs
structure WfX (x:Frm):Prop where
 m:0≤x.mode
 n:x.locals.length≤9223372036854775807
 v :∀l∈x.locals,Wf l.value
def asc (n:Int):Int→List Loc→Bool
 | _,[]=>true
 | last,l::r=>decide (last<l.slot)&&decide (l.slot<n)&&fine l.value&&asc n l.slot r
def fitF (f:Fun) (x:Frm):Bool:=decide (f.slots.length≤16)&&decide (f.name.length≤16)&&decide (0≤x.pos)&&decide (x.pos<f.code.length)&&f.slots.all (fun s=>decide (s.name.length≤16))&&asc f.slots.length (-1) x.locals
def fitb (m:Img) (x:Frm):Bool:=decide (0≤x.func)&&decide (x.mode≤3)&&(match m.funcs[x.func.toNat]? with | none=>false | some f=>fitF f x)
def fitR (m:Img) (x:Frm):Int:=if fitb m x=true then 0 else 8
def modes4:List Bytes:=[[99,97,108,108],[100,101,102,101,114],[112,97,110,105,99],[101,120,105,116]]
def modeW (n:Int):Bytes:=(modes4[n.toNat]?).getD []
def headL (f:Fun) (k:Int) (x:Frm):Bytes:=[35]++num k++[32]++num x.func++[32]++quo f.name++[32,97,116,32]++num x.pos++[32]++modeW x.mode
def slotN (f:Fun) (n:Int):Bytes:=((f.slots[n.toNat]?).getD Fld.zero).name
def locL (f:Fun) (l:Loc):Bytes:=[32,32]++num l.slot++[32]++quo (slotN f l.slot)++[32,61,32]++txt l.value
def frmL (m:Img) (k:Int) (x:Frm):List Bytes:=match m.funcs[x.func.toNat]? with
 | none=>[]
 | some f=>headL f k x::x.locals.map (locL f)
def frR (m:Img) (k:Int) (x:Frm):List Bytes × Int:=if k<0∨170≤k then ([],2) else if fitb m x=true then (frmL m k x,0) else ([],8)
theorem fitb_iff {m:Img} {x:Frm}:fitb m x=true↔0≤x.func∧x.mode≤3∧∃f,m.funcs[x.func.toNat]?=some f∧fitF f x=true:=by
 unfold fitb
 cases h:m.funcs[x.func.toNat]? with
 | none=>simp
 | some f=>simp [and_assoc]
theorem fitF_iff {f:Fun} {x:Frm}:fitF f x=true↔f.slots.length≤16∧f.name.length≤16∧0≤x.pos∧x.pos<f.code.length∧(∀s∈f.slots,s.name.length≤16)∧asc f.slots.length (-1) x.locals=true:=by
 simp [fitF,and_assoc]
theorem asc_mem {n:Int} :∀{l:List Loc} {last:Int},asc n last l=true→∀x∈l,last<x.slot∧x.slot<n∧fine x.value=true
 | [],_,_,x,hx=>by cases hx
 | y::r,last,h,x,hx=>by
  simp only [asc,Bool.and_eq_true,decide_eq_true_eq] at h
  obtain ⟨⟨⟨h1,h2⟩,h3⟩,h4⟩:=h
  rcases List.mem_cons.1 hx with rfl | hx
  ·exact ⟨h1,h2,h3⟩
  ·have:=asc_mem h4 x hx
   exact ⟨by omega,this.2⟩
theorem asc_len {n:Int} :∀{l:List Loc} {last:Int},asc n last l=true→l=[]∨(l.length:Int)<n-last
 | [],_,_=>.inl rfl
 | y::r,last,h=>by
  simp only [asc,Bool.and_eq_true,decide_eq_true_eq] at h
  obtain ⟨⟨⟨h1,h2⟩,h3⟩,h4⟩:=h
  rcases asc_len h4 with rfl | h5
  ·right;simp only [List.length_cons,List.length_nil];omega
  ·right;simp only [List.length_cons];omega
theorem asc_take {n last:Int} :∀(l:List Loc) (i:Nat),asc n last l=true→asc n last (l.take i)=true
 | [],i,h=>by rw [List.take_nil];rfl
 | y::r,0,h=>rfl
 | y::r,i+1,h=>by
  simp only [asc,List.take_succ_cons,Bool.and_eq_true] at h ⊢
  exact ⟨h.1,asc_take r i h.2⟩
def lastS (last:Int):List Loc→Int
 | []=>last
 | l::r=>lastS l.slot r
theorem lastS_snoc :∀(l:List Loc) (last:Int) (x:Loc),lastS last (l++[x])=x.slot
 | [],_,_=>rfl
 | y::r,last,x=>lastS_snoc r y.slot x
theorem asc_snoc {n:Int} :∀(l:List Loc) (last:Int) (x:Loc),asc n last (l++[x])=(asc n last l&&decide (lastS last l<x.slot)&&decide (x.slot<n)&&fine x.value)
 | [],last,x=>by simp [asc,lastS];rfl
 | y::r,last,x=>by
  simp only [List.cons_append,asc,lastS,asc_snoc r y.slot x]
  simp only [Bool.and_assoc]
  rfl
theorem asc_no {n last:Int} {l:List Loc} {i:Nat} (h:asc n last (l.take i)=false):asc n last l=false:=by
 rw [← Bool.not_eq_true] at h ⊢
 exact fun h'=>h (asc_take l i h')
def scI (n:Int) (s:Bytes):Int × Bool × Bytes:=((scNum s).1,(scNum s).2.1&&decide (0≤(scNum s).1)&&decide ((scNum s).1<n),(scNum s).2.2)
def idxOf (v:Bytes):List Bytes→Int
 | []=>-1
 | x::r=>if v=x then 0 else if idxOf v r = -1 then -1 else 1+idxOf v r
def modeI (s:Bytes):Int:=idxOf s modes4
def nameAt (m:Img) (n:Int):Bytes:=((m.funcs[n.toNat]?).getD Fun.zero).name
def codeAt (m:Img) (n:Int):Int:=(((m.funcs[n.toNat]?).getD Fun.zero).code.length:Nat)
def frP4 (k f p:Int) (s:Bytes):Int × Frm × Bool:=(k,⟨f,p,max 0 (modeI s),[]⟩,decide (0≤modeI s))
def frP3 (m:Img) (k f:Int) (s:Bytes):Int × Frm × Bool:=
 if (scI (codeAt m f) s).2.1=false then (0,⟨f,(scI (codeAt m f) s).1,0,[]⟩,false) else
 if (cutp [32] (scI (codeAt m f) s).2.2).2=false then (0,⟨f,(scI (codeAt m f) s).1,0,[]⟩,false) else frP4 k f (scI (codeAt m f) s).1 (cutp [32] (scI (codeAt m f) s).2.2).1
def frP2 (m:Img) (k:Int) (s:Bytes):Int × Frm × Bool:=
 if (scI m.funcs.length s).2.1=false then (0,⟨(scI m.funcs.length s).1,0,0,[]⟩,false) else
 if (cutp ([32]++quo (nameAt m (scI m.funcs.length s).1)++[32,97,116,32]) (scI m.funcs.length s).2.2).2=false then (0,⟨(scI m.funcs.length s).1,0,0,[]⟩,false) else
 frP3 m k (scI m.funcs.length s).1 (cutp ([32]++quo (nameAt m (scI m.funcs.length s).1)++[32,97,116,32]) (scI m.funcs.length s).2.2).1
def frP1 (m:Img) (s:Bytes):Int × Frm × Bool:=
 if (scI 170 s).2.1=false then (0,⟨0,0,0,[]⟩,false) else if (cutp [32] (scI 170 s).2.2).2=false then (0,⟨0,0,0,[]⟩,false) else frP2 m (scI 170 s).1 (cutp [32] (scI 170 s).2.2).1
def frP (m:Img) (s:Bytes):Int × Frm × Bool:=if (cutp [35] s).2=false then (0,⟨0,0,0,[]⟩,false) else frP1 m (cutp [35] s).1
def loP (f:Fun) (s:Bytes):Option Loc:=
 if (cutp [32,32] s).2=false then none else
 if (scI f.slots.length (cutp [32,32] s).1).2.1=false then none else
 if (cutp ([32]++quo (slotN f (scI f.slots.length (cutp [32,32] s).1).1)++[32,61,32]) (scI f.slots.length (cutp [32,32] s).1).2.2).2=false then none else
 if (rvs (cutp ([32]++quo (slotN f (scI f.slots.length (cutp [32,32] s).1).1)++[32,61,32]) (scI f.slots.length (cutp [32,32] s).1).2.2).1).2=0 then
  some ⟨(scI f.slots.length (cutp [32,32] s).1).1,(rvs (cutp ([32]++quo (slotN f (scI f.slots.length (cutp [32,32] s).1).1)++[32,61,32]) (scI f.slots.length (cutp [32,32] s).1).2.2).1).1⟩ else none
def loPs (f:Fun):List Bytes→Option (List Loc)
 | []=>some []
 | s::r=>match loP f s with
  | none=>none
  | some y=>match loPs f r with | none=>none | some ys=>some (y::ys)
abbrev fz:Frm:=⟨0,0,0,[]⟩
def rfR (m:Img) (l:List Bytes):Int × Frm × Int:=
 if 17<l.length∨long 1400060 l=true then (0,fz,4) else
 match l with
 | []=>(0,fz,12)
 | s::r=>if (frP m s).2.2=false then (0,fz,12) else
  match m.funcs[(frP m s).2.1.func.toNat]? with
  | none=>(0,fz,12)
  | some f=>match loPs f r with
   | none=>(0,fz,12)
   | some ys=>if frR m (frP m s).1 { (frP m s).2.1 with locals:=ys }=(l,0) then ((frP m s).1,{ (frP m s).2.1 with locals:=ys },0) else (0,fz,12)
theorem scI_rng (n:Int) (s:Bytes):(scI n s).2.1=true→0≤(scI n s).1∧(scI n s).1<n:=by
 intro h
 simp only [scI,Bool.and_eq_true,decide_eq_true_eq] at h ⊢
 omega
theorem idxOf_rng (v:Bytes) :∀l:List Bytes,-1≤idxOf v l∧idxOf v l<l.length
 | []=>⟨Int.le_refl _,by show (-1:Int)<0;decide⟩
 | x::r=>by
  have:=idxOf_rng v r
  rw [idxOf,List.length_cons]
  repeat' split
  all_goals omega
theorem modeI_rng (s:Bytes):-1≤modeI s∧modeI s<4:=idxOf_rng s modes4
theorem frP_mode (m:Img) (s:Bytes):0≤(frP m s).2.1.mode:=by
 have h0 :∀a:Int,0≤max 0 a:=fun a=>by omega
 unfold frP frP1 frP2 frP3 frP4
 repeat' split
 all_goals first | exact h0 _ | exact Int.le_refl 0
theorem frP_locals (m:Img) (s:Bytes):(frP m s).2.1.locals=[]:=by
 unfold frP frP1 frP2 frP3 frP4
 repeat' split
 all_goals rfl
theorem frP_ok {m:Img} {s:Bytes} (h:(frP m s).2.2=true):0≤(frP m s).2.1.func∧(frP m s).2.1.func<m.funcs.length∧0≤(frP m s).1∧(frP m s).1<170:=by
 unfold frP at h ⊢
 split at h
 ·cases h
 rename_i h1
 rw [if_neg h1]
 clear h1
 generalize (cutp [35] s).1=t at h ⊢
 unfold frP1 at h ⊢
 split at h
 ·cases h
 rename_i h1
 rw [if_neg h1]
 split at h
 ·cases h
 rename_i h2
 rw [if_neg h2]
 have k1:=scI_rng 170 t (by simpa using h1)
 clear h1 h2
 generalize (scI 170 t).1=k at h k1 ⊢
 generalize (cutp [32] (scI 170 t).2.2).1=u at h ⊢
 unfold frP2 at h ⊢
 split at h
 ·cases h
 rename_i h1
 rw [if_neg h1]
 split at h
 ·cases h
 rename_i h2
 rw [if_neg h2]
 have k2:=scI_rng m.funcs.length u (by simpa using h1)
 clear h1 h2
 generalize (cutp ([32]++quo (nameAt m (scI m.funcs.length u).1)++[32,97,116,32]) (scI m.funcs.length u).2.2).1=w at h ⊢
 generalize (scI m.funcs.length u).1=f at h k2 ⊢
 unfold frP3 at h ⊢
 split at h
 ·cases h
 rename_i h1
 rw [if_neg h1]
 split at h
 ·cases h
 rename_i h2
 rw [if_neg h2]
 exact ⟨k2.1,k2.2,k1.1,k1.2⟩
end Go.AM

namespace Go.AM
open Go
structure HasF (prog:Prog):Prop extends Has38 prog where
 f82:prog.fn 82=some pf82
 f86:prog.fn 86=some pf86
 f88:prog.fn 88=some pf88
 f111:prog.fn 111=some pf111
 f112:prog.fn 112=some pf112
 f113:prog.fn 113=some pf113
 f115:prog.fn 115=some pf115
 f116:prog.fn 116=some pf116
 f119:prog.fn 119=some pf119
 f122:prog.fn 122=some pf122
 f123:prog.fn 123=some pf123
 f124:prog.fn 124=some pf124
 f139:prog.fn 139=some pf139
 f141:prog.fn 141=some pf141
 f144:prog.fn 144=some pf144
def idxP {α:Type} (p:α→Bool):List α→Int
 | []=>-1
 | x::r=>if p x=true then 0 else if idxP p r = -1 then -1 else 1+idxP p r
theorem idxP_any {α:Type} (p:α→Bool) :∀l:List α,-1≤idxP p l∧(0≤idxP p l↔l.any p=true)
 | []=>by simp [idxP]
 | x::r=>by
  have:=idxP_any p r
  rw [idxP,List.any_cons]
  cases p x
  ·simp only [Bool.false_eq_true,if_false,Bool.false_or]
   split
   ·exact ⟨by omega,fun h=>absurd h (by decide),fun h=>absurd (this.2.2 h) (by omega)⟩
   ·exact ⟨by omega,fun _=>this.2.1 (by omega),fun h=>by have:=this.2.2 h;omega⟩
  ·simp
theorem loop_idx {α:Type} {P:Int→Prop} {Q:Int→Prop} (p:α→Bool) (l:List α) (h1:Q (-1)→P (l.length:Int)) (h2 :∀(i:Nat) (hi:i<l.length),p l[i]=true→Q (i:Int)→P (i:Int)) (h3 :∀(i:Nat) (hi:i<l.length),p l[i]=false→P ((i+1:Nat):Int)→P (i:Int)) (hQ:Q (idxP p l)):P 0:=by
 have key :∀m i:Nat,i+m=l.length→Q (if idxP p (l.drop i) = -1 then -1 else i+idxP p (l.drop i))→P (i:Int):=by
  intro m
  induction m with
  | zero=>
   intro i hi hq
   have:l.drop i=[]:=List.drop_eq_nil_of_le (by omega)
   rw [this] at hq
   simp only [Nat.add_zero] at hi
   subst hi
   exact h1 (by simpa [idxP] using hq)
  | succ m ih=>
   intro i hi hq
   have hil:i<l.length:=by omega
   rw [List.drop_eq_getElem_cons hil,idxP] at hq
   have hb:=(idxP_any p (l.drop (i+1))).1
   cases hp:p l[i] with
   | true=>
    refine h2 i hil hp ?_
    rw [hp] at hq
    simpa using hq
   | false=>
    refine h3 i hil hp (ih (i+1) (by omega) ?_)
    rw [hp] at hq
    simp only [Bool.false_eq_true,if_false] at hq
    by_cases hn:idxP p (l.drop (i+1)) = -1
    ·rw [if_pos hn] at hq ⊢
     simpa using hq
    ·rw [if_neg hn] at hq ⊢
     rw [if_neg (by omega)] at hq
     rw [show ((i+1:Nat):Int)+idxP p (l.drop (i+1))=(i:Int)+(1+idxP p (l.drop (i+1))) by omega]
     exact hq
 refine key l.length 0 (by omega) ?_
 rw [List.drop_zero]
 split
 ·rename_i h;rw [h] at hQ;exact hQ
 ·simpa using hQ
theorem idxOf_P (v:Bytes) :∀l:List Bytes,idxOf v l=idxP (fun x=>decide (v=x)) l
 | []=>rfl
 | x::r=>by rw [idxOf,idxP,idxOf_P v r];simp
theorem modes4_get {n:Int} (h0:0≤n) (h1:n≤3):modes4[n.toNat]?=some (modeW n):=by
 have:n=0∨n=1∨n=2∨n=3:=by omega
 rcases this with rfl | rfl | rfl | rfl<;>rfl
theorem modeW_len {n:Int} (h0:0≤n) (h1:n≤3):(modeW n).length≤5:=by
 have:n=0∨n=1∨n=2∨n=3:=by omega
 rcases this with rfl | rfl | rfl | rfl<;>decide
section
variable {prog:Prog} (H:HasF prog)
include H
theorem c111 {n:Int} (h1:-9223372036854775808≤n) (h2:n<9223372036854775808):Pus prog 111 [.i .i64 n] (.s (num n)):=by
 obtain ⟨x,rfl,h⟩:=p111 H.f111 (n0:=n) (K:=fun x=>x=num n) (by
  unfold T111_0
  exact ⟨_,c15 H.toHas03 h1 h2,rfl⟩)
 exact h
theorem c112 {s:Bytes} (hs:s.length≤400):Pus prog 112 [.s s] (.s (quo s)):=by
 obtain ⟨x,rfl,h⟩:=p112 H.f112 (s0:=s) (K:=fun x=>x=quo s) (by
  unfold T112_0
  refine ⟨_,_,c11 H.toHas03 s,?_⟩
  rw [quoR_ok hs])
 exact h
theorem c113:Pus prog 113 [] (.ag (modes4.map AV.s)):=by
 obtain ⟨x,rfl,h⟩:=p113 H.f113 (K:=fun x=>x=modes4) (by unfold T113_0;rfl)
 exact h
theorem c116 (s:Bytes):PuN prog 116 [.s s] (fun r=>r=.b (decide (1400060<s.length))):=by
 refine (p116 H.f116 (s0:=s) (K:=fun x=>x=decide (1400060<s.length)) ?_).to ?_
 ·unfold T116_0
  exact decide_eq_decide.2 (by omega)
 ·rintro r ⟨x,rfl,rfl⟩;rfl
theorem c123 (s:Fld):PuN prog 123 [s.av] (fun r=>r=.b (decide (16<s.name.length))):=by
 refine (p123 H.f123 (s0:=s) (K:=fun x=>x=decide (16<s.name.length)) ?_).to ?_
 ·unfold T123_0
  exact decide_eq_decide.2 (by omega)
 ·rintro r ⟨x,rfl,rfl⟩;rfl
theorem c139 {l:List Bytes} {f:Nat × List AV} {p:Bytes→Bool} (hl:l.length≤9223372036854775807) (hf :∀x∈l,PuN prog f.1 ([.s x]++f.2) (fun r=>r=.b (p x))) (o:Own):PuN prog 139 [.sl o (l.map rowS),.fn f.1 f.2] (fun r=>r=.i .i64 (idxP p l)):=by
 refine (p139 H.f139 (s0:=l) (f1:=f) (K:=fun x=>x=idxP p l) ?_ o).to ?_
 ·unfold T139_0
  intro P hP
  refine loop_idx (Q:=fun x=>x=idxP p l) p l (fun h=>hP _ ?_) (fun i hi hp hq=>hP _ ?_) (fun i hi hp ih=>hP _ ?_) rfl
  ·unfold T139_1 T139_2
   exact ⟨fun h'=>absurd h' (by omega),fun _=>h⟩
  ·unfold T139_1
   refine ⟨fun _=>⟨by omega,_,get_at hi,_,hf _ (List.getElem_mem hi),fun _=>hq,fun h'=>?_⟩,fun h'=>absurd h' (by omega)⟩
   rw [hp] at h';cases h'
  ·unfold T139_1
   refine ⟨fun _=>⟨by omega,_,get_at hi,_,hf _ (List.getElem_mem hi),fun h'=>?_,fun _=>?_⟩,fun h'=>absurd h' (by omega)⟩
   ·rw [hp] at h';cases h'
   ·rw [wr_i64 (by omega) (by omega)];exact ih
 ·rintro r ⟨x,rfl,rfl⟩;rfl
theorem c144 {l:List Fld} {f:Nat × List AV} {p:Fld→Bool} (hl:l.length≤9223372036854775807) (hf :∀x∈l,PuN prog f.1 ([x.av]++f.2) (fun r=>r=.b (p x))) (o:Own):PuN prog 144 [.sl o (l.map Fld.row),.fn f.1 f.2] (fun r=>r=.i .i64 (idxP p l)):=by
 refine (p144 H.f144 (s0:=l) (f1:=f) (K:=fun x=>x=idxP p l) ?_ o).to ?_
 ·unfold T144_0
  intro P hP
  refine loop_idx (Q:=fun x=>x=idxP p l) p l (fun h=>hP _ ?_) (fun i hi hp hq=>hP _ ?_) (fun i hi hp ih=>hP _ ?_) rfl
  ·unfold T144_1 T144_2
   exact ⟨fun h'=>absurd h' (by omega),fun _=>h⟩
  ·unfold T144_1
   refine ⟨fun _=>⟨by omega,_,get_at hi,_,hf _ (List.getElem_mem hi),fun _=>hq,fun h'=>?_⟩,fun h'=>absurd h' (by omega)⟩
   rw [hp] at h';cases h'
  ·unfold T144_1
   refine ⟨fun _=>⟨by omega,_,get_at hi,_,hf _ (List.getElem_mem hi),fun h'=>?_,fun _=>?_⟩,fun h'=>absurd h' (by omega)⟩
   ·rw [hp] at h';cases h'
   ·rw [wr_i64 (by omega) (by omega)];exact ih
 ·rintro r ⟨x,rfl,rfl⟩;rfl
theorem c115 {l:List Bytes} {f:Nat × List AV} {p:Bytes→Bool} (hl:l.length≤9223372036854775807) (hf :∀x∈l,PuN prog f.1 ([.s x]++f.2) (fun r=>r=.b (p x))) (o:Own):PuN prog 115 [.sl o (l.map rowS),.fn f.1 f.2] (fun r=>r=.b (l.any p)):=by
 refine (p115 H.f115 (s0:=l) (f1:=f) (K:=fun x=>x=l.any p) ?_ o).to ?_
 ·unfold T115_0
  refine ⟨_,fun o=>c139 H hl hf o,?_⟩
  have:=(idxP_any p l).2
  cases h:l.any p
  ·exact decide_eq_false (by rw [h] at this;intro h';exact absurd (this.1 h') (by decide))
  ·exact decide_eq_true (this.2 h)
 ·rintro r ⟨x,rfl,rfl⟩;rfl
theorem c122 {l:List Fld} {f:Nat × List AV} {p:Fld→Bool} (hl:l.length≤9223372036854775807) (hf :∀x∈l,PuN prog f.1 ([x.av]++f.2) (fun r=>r=.b (p x))) (o:Own):PuN prog 122 [.sl o (l.map Fld.row),.fn f.1 f.2] (fun r=>r=.b (l.any p)):=by
 refine (p122 H.f122 (s0:=l) (f1:=f) (K:=fun x=>x=l.any p) ?_ o).to ?_
 ·unfold T122_0
  refine ⟨_,fun o=>c144 H hl hf o,?_⟩
  have:=(idxP_any p l).2
  cases h:l.any p
  ·exact decide_eq_false (by rw [h] at this;intro h';exact absurd (this.1 h') (by decide))
  ·exact decide_eq_true (this.2 h)
 ·rintro r ⟨x,rfl,rfl⟩;rfl
theorem c141 {l:List Bytes} (hl:l.length≤1000000) (v:Bytes):Pus prog 141 [.sl .ext (l.map rowS),.s v] (.i .i64 (idxOf v l)):=by
 obtain ⟨x,rfl,h⟩:=p141 H.f141 (s0:=l) (v1:=v) (K:=fun x=>x=idxOf v l) (by
  unfold T141_0
  intro P hP
  refine loop_idx (Q:=fun x=>x=idxOf v l) (fun x=>decide (v=x)) l (fun h=>hP _ ?_) (fun i hi hp hq=>hP _ ?_) (fun i hi hp ih=>hP _ ?_) (idxOf_P v l).symm
  ·unfold T141_1 T141_2
   exact ⟨fun h'=>absurd h' (by omega),fun _=>h⟩
  ·unfold T141_1
   exact ⟨fun _=>⟨by omega,_,get_at hi,fun _=>hq,fun h'=>absurd (by simpa using hp) h'⟩,fun h'=>absurd h' (by omega)⟩
  ·unfold T141_1
   refine ⟨fun _=>⟨by omega,_,get_at hi,fun h'=>absurd h' (by simpa using hp),fun _=>?_⟩,fun h'=>absurd h' (by omega)⟩
   rw [wr_i64 (by omega) (by omega)];exact ih)
 exact h
theorem c119 {a b:List Bytes} (ha:a.length≤9223372036854775807):Pus prog 119 [.sl .ext (a.map rowS),.sl .ext (b.map rowS)] (.b (decide (a=b))):=by
 obtain ⟨x,rfl,h⟩:=p119 H.f119 (s10:=a) (s21:=b) (K:=fun x=>x=decide (a=b)) (by
  unfold T119_0
  refine ⟨fun h=>(decide_eq_false fun e=>h (by rw [e])).symm,fun h P hP=>?_⟩
  have h5:a.length=b.length:=by omega
  refine loop_inv0 (P:=P) a.length (fun i=>a.take i=b.take i) (by simp) (fun hI=>hP _ ?_) (fun i hi hI ihP=>hP _ ?_)
  ·unfold T119_1 T119_2
   refine ⟨fun h=>absurd h (by omega),fun _=>?_⟩
   rw [List.take_length,h5,List.take_length] at hI
   exact (decide_eq_true hI).symm
  ·have hi2:i<b.length:=by omega
   unfold T119_1
   refine ⟨fun _=>⟨by omega,_,get_at hi,by omega,_,get_at hi2,fun h6=>?_,fun h6=>?_⟩,fun h=>absurd h (by omega)⟩
   ·refine (decide_eq_false fun e=>h6 ?_).symm
    subst e;rfl
   ·rw [wr_i64 (by omega) (by omega)]
    refine ihP ?_
    rw [List.take_succ_eq_append_getElem hi,List.take_succ_eq_append_getElem hi2,hI,Decidable.not_not.1 h6])
 exact h
end
end Go.AM

namespace Go.AM
open Go
theorem fitR_no {m:Img} {x:Frm} (h:fitb m x≠true):(8:Int)=fitR m x:=by unfold fitR;rw [if_neg h]
theorem fitR_yes {m:Img} {x:Frm} (h:fitb m x=true):(0:Int)=fitR m x:=by unfold fitR;rw [if_pos h]
theorem fun_at {m:Img} {n:Int} (h0:0≤n) (h1:n<m.funcs.length) :∃f,m.funcs[n.toNat]?=some f∧f∈m.funcs:=by
 have h:n.toNat<m.funcs.length:=by omega
 exact ⟨m.funcs[n.toNat],List.getElem?_eq_getElem h,List.getElem_mem h⟩
theorem asc_go {n:Int} {l:List Loc} {i:Nat} (hi:i<l.length):asc n (-1) (l.take (i+1))=(asc n (-1) (l.take i)&&decide (lastS (-1) (l.take i)<l[i].slot)&&decide (l[i].slot<n)&&fine l[i].value):=by
 rw [List.take_succ_eq_append_getElem hi,asc_snoc]
section
variable {prog:Prog} (H:HasF prog)
include H
theorem c86 {m:Img} {x:Frm} (hm:OkI m) (hx:WfX x):Pus prog 86 [m.av,x.av] (.i .i64 (fitR m x)):=by
 obtain ⟨y,rfl,h⟩:=p86 H.f86 (m0:=m) (x1:=x) (K:=fun y=>y=fitR m x) (by
  unfold T86_0 T86_1
  have no:¬(0≤x.func∧x.mode≤3∧∃f,m.funcs[x.func.toNat]?=some f∧fitF f x=true)→(8:Int)=fitR m x:=fun h=>fitR_no fun h'=>h (fitb_iff.1 h')
  refine ⟨fun h=>no (by omega),fun h0=>⟨fun h=>no ?_,fun h1=>⟨fun h=>no (by omega),fun h2=>?_⟩⟩⟩
  ·rintro ⟨_,_,f,hf,_⟩
   rw [List.getElem?_eq_none (by omega)] at hf
   cases hf
  obtain ⟨f,hf,hmem⟩:=fun_at (m:=m) (n:=x.func) (by omega) (by omega)
  obtain ⟨q1,q2,q3,q4⟩:=hm.f f hmem
  have no:fitF f x≠true→(8:Int)=fitR m x:=fun h=>no (by
   rintro ⟨_,_,g,hg,h'⟩
   rw [hf] at hg
   cases hg
   exact h h')
  have no:¬(f.slots.length≤16∧f.name.length≤16∧0≤x.pos∧x.pos<f.code.length∧(∀s∈f.slots,s.name.length≤16)∧asc f.slots.length (-1) x.locals=true)→(8:Int)=fitR m x:=fun h=>no fun h'=>h (fitF_iff.1 h')
  unfold T86_2 T86_3
  refine ⟨by omega,f,hf,fun h=>no (by omega),fun k1=>⟨fun h=>no (by omega),fun k2=>⟨fun h=>no (by omega),fun k3=>⟨fun h=>no (by omega),fun k4=>⟨_,fun o=>c122 H (l:=f.slots) (f:=(123,[])) (p:=fun s=>decide (16<s.name.length)) (by omega) (fun s _=>c123 H s) o,fun h=>no ?_,fun h=>?_⟩⟩⟩⟩⟩
  ·rintro ⟨_,_,_,_,h',_⟩
   rw [List.any_eq_true] at h
   obtain ⟨s,hs,h3⟩:=h
   have:=h' s hs
   simp only [decide_eq_true_eq] at h3
   omega
  have hs :∀s∈f.slots,s.name.length≤16:=by
   intro s hs
   rw [List.any_eq_false] at h
   simpa using h s hs
  have no:asc f.slots.length (-1) x.locals≠true→(8:Int)=fitR m x:=fun h=>no (by rintro ⟨_,_,_,_,_,h'⟩;exact h h')
  unfold T86_4
  intro P hP
  have hn:=hx.n
  have go :∀k i:Nat,i+k=x.locals.length→asc f.slots.length (-1) (x.locals.take i)=true→P (lastS (-1) (x.locals.take i)) (i:Int) f:=by
   intro k
   induction k with
   | zero=>
    intro i hi ha
    apply hP
    unfold T86_5 T86_6
    refine ⟨fun h=>absurd h (by omega),fun _=>fitR_yes ?_⟩
    rw [List.take_of_length_le (by omega)] at ha
    exact fitb_iff.2 ⟨by omega,by omega,f,hf,fitF_iff.2 ⟨by omega,by omega,by omega,by omega,hs,ha⟩⟩
   | succ k ih=>
    intro i hi ha
    have hil:i<x.locals.length:=by omega
    have e:=asc_go (n:=f.slots.length) hil
    have no:asc f.slots.length (-1) (x.locals.take (i+1))=false→(8:Int)=fitR m x:=fun h=>no (by rw [asc_no h];decide)
    rw [ha,Bool.true_and] at e
    apply hP
    unfold T86_5
    refine ⟨fun _=>⟨by omega,_,get_at hil,fun h=>no ?_,fun h3=>⟨fun h=>no ?_,fun h4=>⟨_,c76 H.toHas38 (hx.v _ (List.getElem_mem hil)),fun h=>no ?_,fun h5=>?_⟩⟩⟩,fun h=>absurd (show (i:Int)<x.locals.length by omega) h⟩
    ·rw [e,decide_eq_false (by omega)];rfl
    ·rw [e,decide_eq_false (p:=x.locals[i].slot<_) (by omega)];simp
    ·rw [e,show fine x.locals[i].value=false by rw [← Bool.not_eq_true];exact fun h'=>h (chk_fine.2 h')];simp
    ·rw [wr_i64 (by omega) (by omega)]
     have h6:=chk_fine.1 (Decidable.not_not.1 h5)
     have:=ih (i+1) (by omega) (by rw [e,h6,decide_eq_true (by omega),decide_eq_true (by omega)];rfl)
     rw [List.take_succ_eq_append_getElem hil,lastS_snoc] at this
     exact this
  exact go x.locals.length 0 (by omega) rfl)
 exact h
end
end Go.AM

namespace Go.AM
open Go
theorem slot_at {f:Fun} {n:Int} (h0:0≤n) (h1:n<f.slots.length) :∃s,f.slots[n.toNat]?=some s∧s∈f.slots∧slotN f n=s.name:=by
 have h:n.toNat<f.slots.length:=by omega
 refine ⟨f.slots[n.toNat],List.getElem?_eq_getElem h,List.getElem_mem h,?_⟩
 unfold slotN
 rw [List.getElem?_eq_getElem h]
 rfl
theorem map_take_snoc {α β:Type} (g:α→β) {l:List α} {i:Nat} (h:i<l.length):(l.take (i+1)).map g=(l.take i).map g++[g l[i]]:=by
 rw [List.take_succ_eq_append_getElem h,List.map_append]
 rfl
theorem frmL_eq {m:Img} {x:Frm} {f:Fun} (h:m.funcs[x.func.toNat]?=some f) (k:Int):frmL m k x=headL f k x::x.locals.map (locL f):=by
 unfold frmL
 rw [h]
theorem frR_bad {m:Img} {k:Int} {x:Frm} (h:k<0∨170≤k):frR m k x=([],2):=by unfold frR;rw [if_pos h]
theorem frR_no {m:Img} {k:Int} {x:Frm} (h:¬(k<0∨170≤k)) (h1:fitb m x≠true):frR m k x=([],8):=by unfold frR;rw [if_neg h,if_neg h1]
theorem frR_yes {m:Img} {k:Int} {x:Frm} (h:¬(k<0∨170≤k)) (h1:fitb m x=true):frR m k x=(frmL m k x,0):=by unfold frR;rw [if_neg h,if_pos h1]
noncomputable def sameX (a b:Frm):Bool:=@decide (a=b) (Classical.propDecidable _)
theorem sameX_true {v w:Frm}:sameX v w=true↔v=w:=by unfold sameX;simp
theorem sameX_false {v w:Frm}:sameX v w=false↔v≠w:=by rw [← Bool.not_eq_true,sameX_true]
noncomputable def sameLs (a b:List Loc):Bool:=@decide (a=b) (Classical.propDecidable _)
theorem sameLs_true {v w:List Loc}:sameLs v w=true↔v=w:=by unfold sameLs;simp
theorem sameLs_false {v w:List Loc}:sameLs v w=false↔v≠w:=by rw [← Bool.not_eq_true,sameLs_true]
section
variable {prog:Prog} (H:HasF prog)
include H
theorem c82 {m:Img} {k:Int} {x:Frm} (hm:OkI m) (hx:WfX x):Pus prog 82 [m.av,.i .i64 k,x.av] (.tup [.sl .ext ((frR m k x).1.map rowS),.i .i64 (frR m k x).2]):=by
 obtain ⟨y,z,⟨rfl,rfl⟩,h⟩:=p82 H.f82 (m0:=m) (k1:=k) (x2:=x) (K:=fun y z=>y=(frR m k x).1∧z=(frR m k x).2) (by
  unfold T82_0 T82_1
  refine ⟨fun h=>by rw [frR_bad (.inl h)];exact ⟨rfl,rfl⟩,fun h0=>⟨fun h=>by rw [frR_bad (.inr h)];exact ⟨rfl,rfl⟩,fun h1=>?_⟩⟩
  unfold T82_2
  refine ⟨_,c86 H hm hx,fun h=>?_,fun h=>?_⟩
  ·by_cases hb:fitb m x=true
   ·rw [← fitR_yes hb] at h;exact absurd rfl h
   ·rw [frR_no (by omega) hb,← fitR_no hb];exact ⟨rfl,rfl⟩
  have hb:fitb m x=true:=by
   by_cases hb:fitb m x=true
   ·exact hb
   ·rw [← fitR_no hb] at h;exact absurd (by decide) h
  rw [frR_yes (by omega) hb]
  obtain ⟨f0,f1,f,hf,hF⟩:=fitb_iff.1 hb
  obtain ⟨g1,g2,g3,g4,g5,g6⟩:=fitF_iff.1 hF
  have hmem:=List.mem_of_getElem? hf
  obtain ⟨q1,q2,q3,q4⟩:=hm.f f hmem
  have hn:=hm.n
  have hfl:x.func<m.funcs.length:=by
   have:=(List.getElem?_eq_some_iff.1 hf).1
   omega
  have l1:=num_len k
  have l2:=num_len x.func
  have l3:=num_len x.pos
  have l4:=quo_len f.name
  have l5:=modeW_len hx.m f1
  rw [frmL_eq hf]
  unfold T82_3
  refine ⟨f0,f,hf,?_⟩
  unfold T82_4
  refine ⟨_,c111 H (by omega) (by omega),?_,?_,_,c111 H (by omega) (by omega),?_,?_,_,c112 H (by omega),?_,?_,_,c111 H (by omega) (by omega),?_,?_,_,c113 H,rfl,hx.m,_,modes4_get hx.m f1,?_,fun P hP=>?_⟩
  all_goals try (rw [maxStr_eq];simp only [List.length_append,List.length_cons,List.length_nil];omega)
  have len:=asc_len g6
  have hn2:x.locals.length≤16:=by
   rcases len with h | h
   ·rw [h];exact Nat.zero_le _
   ·omega
  refine loop_up (P:=fun o i=>P o i f) (fun i=>headL f k x::(x.locals.take i).map (locL f)) x.locals.length (hP _ _ _ ?_) fun i hi ih=>hP _ _ _ ?_
  ·unfold T82_5 T82_6
   rw [List.take_length]
   exact ⟨fun h=>absurd h (by omega),fun _=>⟨rfl,rfl⟩⟩
  ·obtain ⟨a1,a2,a3⟩:=asc_mem g6 _ (List.getElem_mem hi)
   obtain ⟨s,b1,b2,b3⟩:=slot_at (f:=f) (n:=x.locals[i].slot) (by omega) (by omega)
   have c1:=num_len x.locals[i].slot
   have c2:=quo_len s.name
   have c3:=q4 s b2
   have c4:=fine_len a3
   unfold T82_5
   refine ⟨fun _=>⟨by omega,_,get_at hi,_,_,c72 H.toHas38 (hx.v _ (List.getElem_mem hi)),fun h=>absurd (chk_fine.2 a3) h,fun _=>?_⟩,fun h=>absurd (show (i:Int)<x.locals.length by omega) h⟩
   rw [if_pos a3]
   refine ⟨_,c111 H (by omega) (by omega),?_,?_,by omega,s,b1,_,c112 H (by omega),?_,?_,?_,⟨?_,?_⟩,?_⟩
   all_goals try (rw [maxStr_eq];simp only [List.length_append,List.length_cons,List.length_nil];omega)
   all_goals try (rw [maxBytes_eq];simp only [List.length_append,List.length_cons,List.length_nil,List.length_map,List.length_take];omega)
   rw [wr_i64 (by omega) (by omega)]
   rw [map_take_snoc (locL f) hi] at ih
   unfold locL at ih ⊢
   rw [b3] at ih
   exact ih)
 exact h
theorem c124 {a b:List Loc} (ha:a.length≤9223372036854775807) (hw :∀l∈a,Wf l.value):Pus prog 124 [.sl .ext (a.map Loc.row),.sl .ext (b.map Loc.row)] (.b (sameLs a b)):=by
 obtain ⟨x,rfl,h⟩:=p124 H.f124 (a0:=a) (b1:=b) (K:=fun x=>x=sameLs a b) (by
  have no :∀{p:Prop},(a=b→p)→¬p→false=sameLs a b:=fun h1 h2=>(sameLs_false.2 fun h=>h2 (h1 h)).symm
  unfold T124_0
  refine ⟨fun h=>no (fun e=>by rw [e]) h,fun h P hP=>?_⟩
  have h5:a.length=b.length:=by omega
  refine loop_inv0 (P:=P) a.length (fun i=>a.take i=b.take i) (by simp) (fun hI=>hP _ ?_) (fun i hi hI ihP=>hP _ ?_)
  ·unfold T124_1 T124_2
   refine ⟨fun h=>absurd h (by omega),fun _=>?_⟩
   rw [List.take_length,h5,List.take_length] at hI
   exact (sameLs_true.2 hI).symm
  ·have hi2:i<b.length:=by omega
   unfold T124_1
   refine ⟨fun _=>⟨by omega,_,get_at hi,by omega,_,get_at hi2,fun h6=>no (p:=a[i].slot=b[i].slot) (fun e=>by subst e;rfl) h6,fun h6=>⟨by omega,_,get_at hi,by omega,_,get_at hi2,_,c78 H.toHas38 (hw _ (List.getElem_mem hi)) _,fun h7=>no (p:=a[i].value=b[i].value) (fun e=>by subst e;rfl) (sameV_false.1 (by simpa using h7)),fun h7=>?_⟩⟩,fun h=>absurd (show (i:Int)<a.length by omega) h⟩
   rw [wr_i64 (by omega) (by omega)]
   refine ihP ?_
   have e1:a[i].slot=b[i].slot:=Decidable.not_not.1 h6
   have e2:a[i].value=b[i].value:=sameV_true.1 (by simpa using h7)
   have e:a[i]=b[i]:=by
    cases ha:a[i];cases hb:b[i]
    rw [ha,hb] at e1 e2
    simp only at e1 e2
    rw [e1,e2]
   rw [List.take_succ_eq_append_getElem hi,List.take_succ_eq_append_getElem hi2,hI,e])
 exact h
theorem c88 {a b:Frm} (ha:WfX a):Pus prog 88 [a.av,b.av] (.b (sameX a b)):=by
 obtain ⟨x,rfl,h⟩:=p88 H.f88 (a0:=a) (b1:=b) (K:=fun x=>x=sameX a b) (by
  have no :∀{p:Prop},(a=b→p)→¬p→false=sameX a b:=fun h1 h2=>(sameX_false.2 fun h=>h2 (h1 h)).symm
  unfold T88_0
  refine ⟨fun h1=>⟨fun h2=>⟨fun h3=>⟨_,c124 H ha.n ha.v,?_⟩,fun h=>no (fun e=>by rw [e]) h⟩,fun h=>no (fun e=>by rw [e]) h⟩,fun h=>no (fun e=>by rw [e]) h⟩
  cases a;cases b
  simp only at h1 h2 h3 ⊢
  subst h1;subst h2;subst h3
  unfold sameLs sameX
  simp)
 exact h
end
end Go.AM

namespace Go.AM
open Go
structure HasG (prog:Prog):Prop extends HasF prog where
 f84:prog.fn 84=some pf84
 f117:prog.fn 117=some pf117
 f118:prog.fn 118=some pf118
 f140:prog.fn 140=some pf140
theorem nameAt_eq {m:Img} {n:Int} {f:Fun} (h:m.funcs[n.toNat]?=some f):nameAt m n=f.name:=by unfold nameAt;rw [h];rfl
theorem codeAt_eq {m:Img} {n:Int} {f:Fun} (h:m.funcs[n.toNat]?=some f):codeAt m n=(f.code.length:Int):=by unfold codeAt;rw [h];rfl
theorem max0 (a:Int):(if 0<a then a else 0)=max 0 a:=by
 by_cases h:0<a
 ·rw [if_pos h];omega
 ·rw [if_neg h];omega
theorem scI_len (n:Int) (s:Bytes):(scI n s).2.2.length≤s.length:=scNum_len s
section
variable {prog:Prog} (H:HasG prog)
include H
theorem c140 {n:Int} {s:Bytes} (hs:s.length≤1000000000):PuX prog 140 (Bx [.s s]) [.i .i64 n] (fun r=>r=.tup [.i .i64 (scI n s).1,.b (scI n s).2.1]) (Bx [.s (scI n s).2.2]):=by
 refine (p140 H.f140 (n1:=n) (mP:=⟨s⟩) (K:=fun x y b=>x=(scI n s).1∧y=(scI n s).2.1∧b=⟨(scI n s).2.2⟩) ?_).to (b:=⟨(scI n s).2.2⟩) fun r b' hk=>?_
 ·unfold T140_0
  refine ⟨_,_,⟨_⟩,c131 H.toHas38 hs,fun h=>⟨fun h1=>⟨rfl,?_,rfl⟩,fun h1=>⟨rfl,?_,rfl⟩⟩,fun h=>⟨rfl,?_,rfl⟩⟩
  ·unfold scI;simp only [h,decide_eq_true (show 0≤(scNum s).1 by omega),Bool.true_and]
  ·unfold scI;simp only [h,decide_eq_false (show ¬0≤(scNum s).1 by omega),Bool.true_and,Bool.false_and]
  ·unfold scI;simp only [h,Bool.false_and]
 ·obtain ⟨x0,x1,h1,rfl,rfl,rfl⟩:=hk
  exact ⟨h1,rfl⟩
abbrev FrA (r:Int × Frm × Bool):AV:=.tup [.i .i64 r.1,r.2.1.avo .full,.b r.2.2]
theorem c117 {m:Img} (hm:OkI m) {s:Bytes} (hs:s.length≤1000000000):PuN prog 117 [m.av,.s s] (fun r=>r=FrA (frP m s)):=by
 refine (p117 H.f117 (m0:=m) (line1:=s) (K:=fun x y z=>x=(frP m s).1∧y=(frP m s).2.1∧z=(frP m s).2.2) ?_).to ?_
 ·have hn:=hm.n
  unfold T117_0 T117_1 T117_2 T117_3
  refine ⟨_,⟨(cutp [35] s).1⟩,c128 H.toHas38 [35] s,fun h=>?_,fun h=>?_⟩
  ·unfold frP
   rw [if_pos (by simpa using h)]
   exact ⟨rfl,rfl,rfl⟩
  have e:frP m s=frP1 m (cutp [35] s).1:=by unfold frP;rw [if_neg (by simpa using h)]
  rw [e]
  have hl:(cutp [35] s).1.length≤1000000000:=Nat.le_trans (cutp_len _ _) hs
  clear e h hs
  generalize (cutp [35] s).1=t at hl ⊢
  unfold T117_4 T117_5 T117_6
  refine ⟨_,_,⟨(scI 170 t).2.2⟩,c140 H hl,fun h=>⟨fun _=>?_,fun h'=>(by cases h')⟩,fun h=>⟨_,⟨(cutp [32] (scI 170 t).2.2).1⟩,c128 H.toHas38 [32] _,fun h2=>?_,fun h2=>?_⟩⟩
  ·unfold frP1
   rw [if_pos (by simpa using h)]
   exact ⟨rfl,rfl,rfl⟩
  ·unfold frP1
   rw [if_neg (by simpa using h),if_pos (by simpa using h2)]
   exact ⟨rfl,rfl,rfl⟩
  have e:frP1 m t=frP2 m (scI 170 t).1 (cutp [32] (scI 170 t).2.2).1:=by unfold frP1;rw [if_neg (by simpa using h),if_neg (by simpa using h2)]
  rw [e]
  have hl:(cutp [32] (scI 170 t).2.2).1.length≤1000000000:=Nat.le_trans (cutp_len _ _) (Nat.le_trans (scI_len _ _) hl)
  clear e h h2
  generalize (cutp [32] (scI 170 t).2.2).1=u at hl ⊢
  generalize (scI 170 t).1=k
  unfold T117_7 T117_8 T117_9
  refine ⟨_,_,⟨(scI m.funcs.length u).2.2⟩,c140 H hl,fun h=>⟨fun _=>?_,fun h'=>(by cases h')⟩,fun h=>?_⟩
  ·unfold frP2
   rw [if_pos (by simpa using h)]
   exact ⟨rfl,rfl,rfl⟩
  have h:(scI m.funcs.length u).2.1=true:=by simpa using h
  have hr:=scI_rng _ _ h
  obtain ⟨f,hf,hmem⟩:=fun_at hr.1 hr.2
  obtain ⟨q1,q2,q3,q4⟩:=hm.f f hmem
  have q5:=quo_len f.name
  refine ⟨hr.1,f,hf,_,c112 H.toHasF (by omega),?_,?_,_,⟨(cutp ([32]++quo f.name++[32,97,116,32]) (scI m.funcs.length u).2.2).1⟩,c128 H.toHas38 _ _,fun h2=>?_,fun h2=>?_⟩
  ·rw [maxStr_eq];simp only [List.length_append,List.length_cons,List.length_nil];omega
  ·rw [maxStr_eq];simp only [List.length_append,List.length_cons,List.length_nil];omega
  ·unfold frP2
   rw [if_neg (by rw [h];decide),nameAt_eq hf,if_pos (by simpa using h2)]
   exact ⟨rfl,rfl,rfl⟩
  have e:frP2 m k u=frP3 m k (scI m.funcs.length u).1 (cutp ([32]++quo f.name++[32,97,116,32]) (scI m.funcs.length u).2.2).1:=by
   unfold frP2
   rw [if_neg (by rw [h];decide),nameAt_eq hf,if_neg (by simpa using h2)]
  rw [e]
  have hl:(cutp ([32]++quo f.name++[32,97,116,32]) (scI m.funcs.length u).2.2).1.length≤1000000000:=Nat.le_trans (cutp_len _ _) (Nat.le_trans (scI_len _ _) hl)
  clear e h h2 q5
  generalize (cutp ([32]++quo f.name++[32,97,116,32]) (scI m.funcs.length u).2.2).1=v at hl ⊢
  generalize (scI m.funcs.length u).1=fi at hr hf ⊢
  have hc:=codeAt_eq hf
  unfold T117_10 T117_11
  refine ⟨hr.1,f,hf,_,_,⟨(scI (codeAt m fi) v).2.2⟩,by rw [hc];exact c140 H hl,fun h=>⟨fun _=>?_,fun h'=>(by cases h')⟩,fun h=>⟨_,⟨(cutp [32] (scI (codeAt m fi) v).2.2).1⟩,c128 H.toHas38 [32] _,fun h2=>?_,fun h2=>?_⟩⟩
  ·unfold frP3
   rw [if_pos (by rw [hc];simpa using h),hc]
   exact ⟨rfl,rfl,rfl⟩
  ·unfold frP3
   rw [if_neg (by rw [hc];simpa using h),if_pos (by simpa using h2),hc]
   exact ⟨rfl,rfl,rfl⟩
  have e:frP3 m k fi v=frP4 k fi (scI (codeAt m fi) v).1 (cutp [32] (scI (codeAt m fi) v).2.2).1:=by
   unfold frP3
   rw [if_neg (by rw [hc];simpa using h),if_neg (by simpa using h2)]
  rw [e]
  unfold T117_12 frP4
  have hb:=modeI_rng (cutp [32] (scI (codeAt m fi) v).2.2).1
  refine ⟨_,c113 H.toHasF,rfl,rfl,_,c141 H.toHasF (l:=modes4) (by decide) _,rfl,?_,rfl⟩
  rw [max0,← hc]
  congr 1
  exact wr_u64 (show 0≤max 0 (modeI (cutp [32] (scI (codeAt m fi) v).2.2).1) by omega) (show max 0 (modeI (cutp [32] (scI (codeAt m fi) v).2.2).1)<_ by omega)
 ·rintro r ⟨x,y,z,rfl,rfl,rfl,rfl⟩
  rfl
theorem c118 {f:Fun} (hf:f.slots.length≤30∧∀s∈f.slots,s.name.length≤40) {s:Bytes} (hs:s.length≤1000000000) :∃y ok,(ok=(loP f s).isSome∧(ok=true→loP f s=some y))∧Pus prog 118 [f.av,.s s] (.tup [y.av,.b ok]):=by
 refine p118 H.f118 (f0:=f) (line1:=s) (K:=fun y ok=>ok=(loP f s).isSome∧(ok=true→loP f s=some y)) ?_
 unfold T118_0
 have no:loP f s=none→∀y:Loc,false=(loP f s).isSome∧(false=true→loP f s=some y):=fun h y=>by rw [h];exact ⟨rfl,fun h=>by cases h⟩
 refine ⟨_,⟨(cutp [32,32] s).1⟩,c128 H.toHas38 [32,32] s,fun h=>no ?_ _,fun h=>?_⟩
 ·unfold loP;rw [if_pos (by simpa using h)]
 have hl:(cutp [32,32] s).1.length≤1000000000:=Nat.le_trans (cutp_len _ _) hs
 refine ⟨_,_,⟨(scI f.slots.length (cutp [32,32] s).1).2.2⟩,c140 H hl,fun h2=>no ?_ _,fun h2=>?_⟩
 ·unfold loP;rw [if_neg (by simpa using h),if_pos (by simpa using h2)]
 have h2':(scI f.slots.length (cutp [32,32] s).1).2.1=true:=by simpa using h2
 have hr:=scI_rng _ _ h2'
 obtain ⟨sl,k1,k2,k3⟩:=slot_at hr.1 hr.2
 have q4:=hf.2 sl k2
 have q5:=quo_len sl.name
 refine ⟨hr.1,sl,k1,_,c112 H.toHasF (by omega),?_,?_,_,⟨(cutp ([32]++quo sl.name++[32,61,32]) (scI f.slots.length (cutp [32,32] s).1).2.2).1⟩,c128 H.toHas38 _ _,fun h3=>no ?_ _,fun h3=>?_⟩
 ·rw [maxStr_eq];simp only [List.length_append,List.length_cons,List.length_nil];omega
 ·rw [maxStr_eq];simp only [List.length_append,List.length_cons,List.length_nil];omega
 ·unfold loP;rw [if_neg (by simpa using h),if_neg (by simpa using h2),k3,if_pos (by simpa using h3)]
 unfold T118_1
 refine ⟨_,_,c74 H.toHas38 (Nat.le_trans (cutp_len _ _) (Nat.le_trans (scI_len _ _) hl)),?_⟩
 unfold loP
 rw [if_neg (by simpa using h),if_neg (by simpa using h2),k3,if_neg (by simpa using h3)]
 split
 ·rename_i h4;exact ⟨by rw [decide_eq_true h4];rfl,fun _=>rfl⟩
 ·rename_i h4;exact ⟨by rw [decide_eq_false h4];rfl,fun h5=>by simp only [decide_eq_true_eq] at h5;exact absurd h5 h4⟩
end
end Go.AM

namespace Go.AM
open Go
section
variable {prog:Prog} (H:HasG prog)
include H
end
end Go.AM

namespace Go.AM
open Go
theorem long_len {n:Nat} {l:List Bytes} (h:long n l=false) :∀s∈l,s.length≤n:=not_long.1 h
theorem loPs_snoc (f:Fun) :∀(l:List Bytes) (s:Bytes),loPs f (l++[s])=(match loPs f l with | none=>none | some ys=>match loP f s with | none=>none | some y=>some (ys++[y]))
 | [],s=>by
  simp only [List.nil_append,loPs]
  try (cases loP f s<;>rfl)
 | x::r,s=>by
  simp only [List.cons_append,loPs,loPs_snoc f r s]
  cases loP f x with
  | none=>rfl
  | some y=>
   cases loPs f r with
   | none=>rfl
   | some ys=>cases loP f s<;>rfl
theorem loPs_take {f:Fun} {l:List Bytes} {i:Nat} (hi:i<l.length):loPs f (l.take (i+1))=(match loPs f (l.take i) with | none=>none | some ys=>match loP f l[i] with | none=>none | some y=>some (ys++[y])):=by
 rw [List.take_succ_eq_append_getElem hi,loPs_snoc]
theorem loPs_none {f:Fun} :∀{l:List Bytes} {i:Nat},loPs f (l.take i)=none→loPs f l=none
 | [],i,h=>by rw [List.take_nil] at h;exact h
 | x::r,0,h=>by cases h
 | x::r,i+1,h=>by
  simp only [List.take_succ_cons,loPs] at h ⊢
  cases hx:loP f x with
  | none=>rfl
  | some y=>
   rw [hx] at h
   simp only at h ⊢
   cases hr:loPs f (r.take i) with
   | none=>rw [loPs_none hr]
   | some ys=>rw [hr] at h;cases h
theorem loP_wf {f:Fun} {s:Bytes} {y:Loc} (h:loP f s=some y):Wf y.value:=by
 unfold loP at h
 repeat' split at h
 all_goals first | (cases h;done) | (cases h;exact rvs_wf _)
theorem loPs_wf {f:Fun} :∀{l:List Bytes} {ys:List Loc},loPs f l=some ys→ys.length=l.length∧∀y∈ys,Wf y.value
 | [],ys,h=>by cases h;exact ⟨rfl,by simp⟩
 | s::r,ys,h=>by
  rw [loPs] at h
  cases hx:loP f s with
  | none=>rw [hx] at h;cases h
  | some y=>
   rw [hx] at h
   simp only at h
   cases hr:loPs f r with
   | none=>rw [hr] at h;cases h
   | some zs=>
    rw [hr] at h
    cases h
    obtain ⟨h1,h2⟩:=loPs_wf hr
    exact ⟨by simp [h1],fun y hy=>by rcases List.mem_cons.1 hy with rfl | hy;exact loP_wf hx;exact h2 y hy⟩
def rfT (m:Img) (l:List Bytes) (k:Int) (x:Frm) (f:Fun):Int × Frm × Int:=match loPs f (l.drop 1) with
 | none=>(0,fz,12)
 | some ys=>if frR m k { x with locals:=ys }=(l,0) then (k,{ x with locals:=ys },0) else (0,fz,12)
theorem rfR_many {m:Img} {l:List Bytes} (h:17<l.length∨long 1400060 l=true):rfR m l=(0,fz,4):=by unfold rfR;rw [if_pos h]
theorem rfR_nil {m:Img}:rfR m []=(0,fz,12):=by unfold rfR;rw [if_neg (by decide)]
theorem rfR_no {m:Img} {l:List Bytes} {s:Bytes} (h:¬(17<l.length∨long 1400060 l=true)) (hs:l[0]?=some s) (hf:(frP m s).2.2=false):rfR m l=(0,fz,12):=by
 cases l with
 | nil=>cases hs
 | cons t r=>
  injection hs with hs
  subst hs
  unfold rfR
  rw [if_neg h]
  simp only
  rw [if_pos hf]
theorem rfR_yes {m:Img} {l:List Bytes} {s:Bytes} {f:Fun} (h:¬(17<l.length∨long 1400060 l=true)) (hs:l[0]?=some s) (hf:(frP m s).2.2=true) (hm:m.funcs[(frP m s).2.1.func.toNat]?=some f):rfR m l=rfT m l (frP m s).1 (frP m s).2.1 f:=by
 cases l with
 | nil=>cases hs
 | cons t r=>
  injection hs with hs
  subst hs
  unfold rfR rfT
  rw [if_neg h]
  simp only
  rw [if_neg (by rw [hf];decide),hm]
  rfl
theorem any_long {l:List Bytes}:l.any (fun s=>decide (1400060<s.length))=long 1400060 l:=rfl
section
variable {prog:Prog} (H:HasG prog)
include H
theorem c84 {m:Img} (hm:OkI m) {l:List Bytes} (hl:l.length≤9223372036854775807):Pus prog 84 [m.av,.sl .ext (l.map rowS)] (.tup [.i .i64 (rfR m l).1,(rfR m l).2.1.av,.i .i64 (rfR m l).2.2]):=by
 obtain ⟨x,y,z,⟨rfl,rfl,rfl⟩,h⟩:=p84 H.f84 (m0:=m) (l1:=l) (K:=fun x y z=>x=(rfR m l).1∧y=(rfR m l).2.1∧z=(rfR m l).2.2) (by
  unfold T84_0 T84_1 T84_2
  refine ⟨fun h=>⟨fun _=>?_,fun h'=>(by cases h')⟩,fun h=>⟨_,fun o=>c115 H.toHasF (l:=l) (f:=(116,[])) (p:=fun s=>decide (1400060<s.length)) hl (fun s _=>c116 H.toHasF s) o,fun h2=>?_,fun h2=>?_⟩⟩
  ·rw [rfR_many (.inl (by omega))];exact ⟨rfl,rfl,rfl⟩
  ·rw [rfR_many (.inr h2)];exact ⟨rfl,rfl,rfl⟩
  have hok:¬(17<l.length∨long 1400060 l=true):=by
   rintro (h3 | h3)
   ·omega
   ·rw [any_long,h3] at h2;cases h2
  have hlen:=long_len (n:=1400060) (l:=l) h2
  unfold T84_3
  refine ⟨fun h3=>?_,fun h3=>?_⟩
  ·have:l=[]:=len0 (by omega)
   subst this
   rw [rfR_nil];exact ⟨rfl,rfl,rfl⟩
  have h0:0<l.length:=by omega
  have hs:l[0]?=some l[0]:=List.getElem?_eq_getElem h0
  have hs0:=hlen _ (List.getElem_mem h0)
  unfold T84_4 T84_5
  refine ⟨_,hs,_,_,_,c117 H hm (by omega),fun h4=>?_,fun h4=>?_⟩
  ·rw [rfR_no hok hs (by simpa using h4)];exact ⟨rfl,rfl,rfl⟩
  have h4:(frP m l[0]).2.2=true:=by simpa using h4
  obtain ⟨g1,g2,g3,g4⟩:=frP_ok h4
  obtain ⟨f,hf,hmem⟩:=fun_at g1 g2
  obtain ⟨q1,q2,q3,q4⟩:=hm.f f hmem
  rw [rfR_yes hok hs h4 hf]
  have g5:=frP_mode m l[0]
  have g6:=frP_locals m l[0]
  generalize (frP m l[0]).1=k at g3 g4 ⊢
  generalize (frP m l[0]).2.1=x at g1 g2 g5 g6 hf ⊢
  unfold T84_6
  refine ⟨by omega,fun P hP=>?_⟩
  have go :∀n i:Nat,i+n=(l.drop 1).length→∀ys,loPs f ((l.drop 1).take i)=some ys→P (i:Int) m fz { x with locals:=ys }:=by
   intro n
   induction n with
   | zero=>
    intro i hi ys hys
    apply hP
    rw [List.take_of_length_le (by omega)] at hys
    obtain ⟨a1,a2⟩:=loPs_wf hys
    have hx:WfX { x with locals:=ys }:=⟨g5,by rw [a1];simp;omega,a2⟩
    have e:rfT m l k x f=if frR m k { x with locals:=ys }=(l,0) then (k,{ x with locals:=ys },0) else (0,fz,12):=by unfold rfT;rw [hys]
    unfold T84_7 T84_8
    refine ⟨fun h=>absurd h (by omega),fun _=>⟨_,_,c82 H.toHasF hm hx,fun h5=>?_,fun h5=>?_⟩⟩
    ·unfold T84_9
     rw [e,if_neg (fun h6=>h5 (by rw [h6]))]
     exact ⟨fun _=>⟨rfl,rfl,rfl⟩,fun h'=>(by cases h')⟩
    ·have hb:(frR m k { x with locals:=ys }).1.length≤9223372036854775807:=by
      unfold frR
      split
      ·exact Nat.zero_le _
      ·split
       ·rw [frmL_eq (x:={ x with locals:=ys }) (f:=f) hf];simp [a1];omega
       ·exact Nat.zero_le _
     refine ⟨_,c119 H.toHasF hb,?_⟩
     unfold T84_9 T84_10
     refine ⟨fun h6=>?_,fun h6=>?_⟩
     ·rw [e,if_neg (fun h7=>by rw [h7] at h6;simp at h6)];exact ⟨rfl,rfl,rfl⟩
     ·have h6:(frR m k { x with locals:=ys }).1=l:=by simpa using h6
      rw [e,if_pos (by rw [← h6];exact Prod.ext rfl (Decidable.not_not.1 h5))];exact ⟨rfl,rfl,rfl⟩
   | succ n ih=>
    intro i hi ys hys
    have hd:(l.drop 1).length=l.length-1:=by simp
    have hil:i<(l.drop 1).length:=by omega
    apply hP
    have hsl:=hlen _ (List.mem_of_mem_drop (List.getElem_mem hil))
    obtain ⟨y,ok,⟨b1,b2⟩,b3⟩:=c118 H (f:=f) ⟨q2,q4⟩ (s:=(l.drop 1)[i]) (by omega)
    obtain ⟨a1,a2⟩:=loPs_wf hys
    have hyl:ys.length≤20:=by rw [a1];simp;omega
    have e:=loPs_take (f:=f) hil
    rw [hys] at e
    unfold T84_7
    refine ⟨fun _=>⟨by omega,_,get_at hil,g1,f,hf,y,ok,b3,fun h5=>?_,fun h5=>⟨⟨?_,?_⟩,?_⟩⟩,fun h=>absurd (show (i:Int)<((l.drop 1).length:Int) by omega) h⟩
    ·have:loP f (l.drop 1)[i]=none:=by
      rw [← Option.not_isSome_iff_eq_none,← b1]
      simpa using h5
     rw [this] at e
     have:rfT m l k x f=(0,fz,12):=by unfold rfT;rw [loPs_none e]
     rw [this];exact ⟨rfl,rfl,rfl⟩
    ·simp only [List.length_cons,List.length_nil,maxBytes_eq];omega
    ·simp only [List.length_cons,List.length_nil,maxBytes_eq];omega
    ·rw [wr_i64 (by omega) (by omega)]
     rw [b2 (by simpa using h5)] at e
     exact ih (i+1) (by omega) _ e
  have:=go (l.drop 1).length 0 (by omega) [] rfl
  rw [← g6] at this
  exact this)
 exact h
omit H in
theorem sameX_rfl (a:Frm):sameX a a=true:=sameX_true.2 rfl
end
end Go.AM

namespace Go.AM
open Go
structure HasL (prog:Prog):Prop extends HasG prog where
 f89:prog.fn 89=some pf89
 f90:prog.fn 90=some pf90
 f91:prog.fn 91=some pf91
 f92:prog.fn 92=some pf92
 f93:prog.fn 93=some pf93
 f98:prog.fn 98=some pf98
 f99:prog.fn 99=some pf99
 f101:prog.fn 101=some pf101
 f125:prog.fn 125=some pf125
theorem Wf.of {k n:Int} {s:Bytes} {l:List Val} {c:Bool} (hk:0≤k∧k<256) (hn:-9223372036854775808≤n∧n<9223372036854775808) (hl:l.length≤9223372036854775807) (h :∀x∈l,Wf x):Wf (.mk k n s l c):=.mk hk hn hl h
noncomputable def isB (v:Val) (s:Bytes):Bool:=@decide (fine v=true∧txt v=s) (Classical.propDecidable _)
theorem isB_true {v:Val} {s:Bytes}:isB v s=true↔fine v=true∧txt v=s:=by unfold isB;simp
theorem isB_false {v:Val} {s:Bytes}:isB v s=false↔¬(fine v=true∧txt v=s):=by rw [← Bool.not_eq_true,isB_true]
def tGiven:Bytes:=[123,116,114,117,101,44,32,45,53,44,32,38,60,34,97,34,44,32,34,34,62,125]
def vNum (n:Int):Val:=Val.mk 2 n [] [] false
def vTxt (s:Bytes):Val:=Val.mk 3 0 s [] false
def vYes:Val:=Val.mk 1 1 [] [] false
def vOf (k:Int) (l:List Val):Val:=Val.mk k 0 [] l false
def vGiven:Val:=vOf 5 [vYes,vNum (-5),vOf 4 [vOf 7 [vTxt [97],vTxt []]]]
def iProg:Img:=Img.mk [] [] [Fun.mk [109,97,105,110] 0 0 [] (rep 9 Ins.zero) [] [],Fun.mk [102] 0 0 [] (rep 9 Ins.zero) [] [],Fun.mk [102] 0 0 [Fld.mk [97] 0,Fld.mk [120] 0,Fld.mk [122] 0] (rep 9 Ins.zero) [] []]
def xLive:Frm:=Frm.mk 2 7 1 [Loc.mk 1 (vNum 3)]
def lLive:List Bytes:=[[35,48,32,50,32,34,102,34,32,97,116,32,55,32,100,101,102,101,114],[32,32,49,32,34,120,34,32,61,32,51]]
theorem wfNum {n:Int} (h:-9223372036854775808≤n∧n<9223372036854775808):Wf (vNum n):=.mk (by decide) h (by decide) (by simp)
theorem wfTxt (s:Bytes):Wf (vTxt s):=.mk (by decide) (by decide) (by decide) (by simp)
theorem wfYes:Wf vYes:=.mk (by decide) (by decide) (by decide) (by simp)
theorem wfOf {k:Int} {l:List Val} (hk:0≤k∧k<256) (hl:l.length≤9223372036854775807) (h :∀x∈l,Wf x):Wf (vOf k l):=.mk hk (by decide) hl h
theorem wfGiven:Wf vGiven:=by
 refine wfOf (by decide) (by simp) fun x hx=>?_
 simp only [List.mem_cons,List.not_mem_nil,or_false] at hx
 rcases hx with rfl | rfl | rfl
 ·exact wfYes
 ·exact wfNum (by decide)
 ·refine wfOf (by decide) (by simp) fun x hx=>?_
  rw [List.mem_singleton.1 hx]
  refine wfOf (by decide) (by simp) fun x hx=>?_
  simp only [List.mem_cons,List.not_mem_nil,or_false] at hx
  rcases hx with rfl | rfl<;>exact wfTxt _
theorem given_ok:fine vGiven=true∧txt vGiven=tGiven:=by decide +kernel
theorem cutpv_ok:fine (Val.mk 4 0 [] [] true)=true∧txt (Val.mk 4 0 [] [] true)=tCutP:=by decide +kernel
theorem emptys_ok:fine (vOf 7 [])=true∧txt (vOf 7 [])=[60,62]:=by decide +kernel
theorem none1:(rvs [91,93]).2=12:=by decide +kernel
theorem none2:(rvs [123,116,114,117,101,44,102,97,108,115,101,125]).2=12:=by decide +kernel
theorem frLive:frR iProg 0 xLive=(lLive,0):=by decide +kernel
theorem rvs_bad {s:Bytes} (h:(rvs s).2=12):(rvs s).1=vz:=by
 unfold rvs at h ⊢
 split
 ·rfl
 ·rename_i h1
  rw [if_neg h1] at h
  split
  ·rename_i h2;rw [if_pos h2] at h;cases h
  ·rfl
theorem okProg:OkI iProg:=OkI.of (by decide +kernel)
theorem wxLive:WfX xLive:=⟨by decide,by decide,fun l hl=>by rw [List.mem_singleton.1 hl];exact wfNum (by decide)⟩
theorem live_fr:frP iProg [35,48,32,50,32,34,102,34,32,97,116,32,55,32,100,101,102,101,114]=(0,{ xLive with locals:=[] },true):=by kernel_rfl
theorem live_lo:loPs (Fun.mk [102] 0 0 [Fld.mk [97] 0,Fld.mk [120] 0,Fld.mk [122] 0] (rep 9 Ins.zero) [] []) (lLive.drop 1)=some [Loc.mk 1 (vNum 3)]:=by kernel_rfl
theorem rfLive:rfR iProg lLive=(0,xLive,0):=by
 rw [rfR_yes (s:=[35,48,32,50,32,34,102,34,32,97,116,32,55,32,100,101,102,101,114]) (f:=Fun.mk [102] 0 0 [Fld.mk [97] 0,Fld.mk [120] 0,Fld.mk [122] 0] (rep 9 Ins.zero) [] []) (by decide +kernel) rfl (by rw [live_fr]) (by rw [live_fr];rfl),live_fr]
 unfold rfT
 rw [live_lo]
 exact if_pos frLive
section
variable {prog:Prog} (H:HasL prog)
include H
theorem c89 (k:Int) (l:List Val):PuN prog 89 [.i .u8 k,.sl .full (l.map Val.row)] (fun r=>r=(vOf k l).avo .full):=by
 refine (p89 H.f89 (kind0:=k) (l1:=l) (K:=fun v=>v=vOf k l) rfl).to fun r ⟨v,h1,h2⟩=>?_
 rw [h1,h2]
theorem c90:Pus prog 90 [] vYes.av:=by
 obtain ⟨v,rfl,h⟩:=p90 H.f90 (K:=fun v=>v=vYes) rfl
 exact h
theorem c92 (n:Int):Pus prog 92 [.i .i64 n] (vNum n).av:=by
 obtain ⟨v,rfl,h⟩:=p92 H.f92 (n0:=n) (K:=fun v=>v=vNum n) rfl
 exact h
theorem c93 (s:Bytes):Pus prog 93 [.s s] (vTxt s).av:=by
 obtain ⟨v,rfl,h⟩:=p93 H.f93 (s0:=s) (K:=fun v=>v=vTxt s) rfl
 exact h
theorem c99:Pus prog 99 [] iProg.av:=by
 obtain ⟨v,rfl,h⟩:=p99 H.f99 (K:=fun v=>v=iProg) rfl
 exact h
theorem c91 {v:Val} (hw:Wf v) {s:Bytes} (hs:s.length≤1000000000):Pus prog 91 [v.av,.s s] (.b (isB v s)):=by
 obtain ⟨x,rfl,h⟩:=p91 H.f91 (v0:=v) (want1:=s) (K:=fun x=>x=isB v s) (by
  unfold T91_0
  refine ⟨_,_,c72 H.toHas38 hw,_,_,c74 H.toHas38 hs,fun h1=>?_,fun h1=>?_⟩
  ·have h1:=chk_fine.1 h1
   rw [if_pos h1]
   refine ⟨fun h2=>?_,fun h2=>?_⟩
   ·subst h2
    rw [rvs_txt h1 hw]
    exact ⟨fun _=>⟨_,c78 H.toHas38 hw _,by rw [sameV_rfl,isB_true.2 ⟨h1,rfl⟩]⟩,fun h=>absurd rfl h⟩
   ·rw [isB_false.2 fun h=>h2 h.2]
  ·rw [isB_false.2 fun h=>h1 (chk_fine.2 h.1)])
 exact h
theorem c98 {s:Bytes} (hs:s.length≤1000000000) (h12:(rvs s).2=12):Pus prog 98 [.s s] (.b true):=by
 obtain ⟨x,rfl,h⟩:=p98 H.f98 (s0:=s) (K:=fun x=>x=true) (by
  unfold T98_0
  refine ⟨_,_,c74 H.toHas38 hs,fun _=>⟨_,c78 H.toHas38 (rvs_wf s) vz,?_⟩,fun h=>absurd h12 h⟩
  rw [rvs_bad h12,sameV_rfl])
 exact h
theorem c125:Pus prog 125 [] vGiven.av:=by
 obtain ⟨v,rfl,h⟩:=p125 H.f125 (K:=fun v=>v=vGiven) (by
  unfold T125_0
  exact ⟨_,c90 H,_,c92 H _,_,c93 H _,_,c93 H _,_,c89 H _ _,_,c89 H _ _,_,c89 H _ _,rfl⟩)
 exact h
theorem c101:Pus prog 101 [] (.b true):=by
 obtain ⟨v,rfl,h⟩:=p101 H.f101 (K:=fun v=>v=true) (by
  unfold T101_0 T101_1
  have k82:=c82 H.toHasF (k:=0) okProg wxLive
  rw [frLive] at k82
  have k84:=c84 H.toHasG okProg (l:=lLive) (by decide)
  rw [rfLive] at k84
  have k1:=c91 H wfGiven (s:=tGiven) (by decide)
  rw [isB_true.2 given_ok] at k1
  have k2:=c91 H (v:=Val.mk 4 0 [] [] true) (.mk (by decide) (by decide) (by decide) (by simp)) (s:=tCutP) (by decide)
  rw [isB_true.2 cutpv_ok] at k2
  have k3:=c91 H (v:=vOf 7 []) (wfOf (by decide) (by decide) (by simp)) (s:=[60,62]) (by decide)
  rw [isB_true.2 emptys_ok] at k3
  have k4:=c29 H.toHas03 (a:=lLive) (b:=lLive) (by decide)
  rw [decide_eq_true rfl] at k4
  have k5:=c88 H.toHasF (a:=xLive) (b:=xLive) wxLive
  rw [sameX_rfl] at k5
  exact ⟨_,c92 H 3,_,c99 H,_,_,k82,_,c99 H,_,_,_,k84,_,c125 H,_,k1,fun _=>⟨_,k2,fun _=>⟨_,c89 H 7 [],_,k3,fun _=>⟨_,c98 H (by decide) none1,fun _=>⟨_,c98 H (by decide) none2,fun _=>⟨fun _=>⟨_,k4,fun _=>⟨fun _=>⟨fun _=>⟨_,k5,rfl⟩,fun h=>absurd rfl h⟩,fun h=>absurd rfl h⟩,fun h=>(by cases h)⟩,fun h=>absurd rfl h⟩,fun h=>(by cases h)⟩,fun h=>(by cases h)⟩,fun h=>(by cases h)⟩,fun h=>(by cases h)⟩,fun h=>(by cases h)⟩)
 exact h
end
end Go.AM
