/- MADE BY PROGRAM (tl.py). -/
import Derived.Test.YtdfkdendkdbnkaaS0
set_option linter.all false
namespace Go.AM
open Go
set_option linter.unusedVariables false
set_option linter.unusedSimpArgs false
set_option maxRecDepth 4000
attribute [local irreducible] WO fillCells fillRows

/-! wreckage/wreckagelaw03.TextWrites -/
def r3_0 : List AI := [⟨(some 8), .mv (.c (.b false)), none⟩]
def r3_1 : List AI := [⟨(some 17), .mv (.t 2), none⟩,
  ⟨(some 18), .len true (.t 17), none⟩,
  ⟨(some 19), .bin .gtr (.t 18) (.c (.i .i64 500)), none⟩,
  ⟨(some 20), .mv (.t 19), none⟩,
  ⟨(some 21), .mv (.t 3), (some (20, false))⟩,
  ⟨(some 22), .call false 10 [(.t 21)], (some (20, false))⟩,
  ⟨(some 23), .pick (.t 20) (.c (.b true)) (.t 22), none⟩]
def r3_2 : List AI := [⟨(some 8), .mv (.c (.b true)), none⟩]
def r3_3 : List AI := [⟨(some 25), .mv (.t 2), none⟩,
  ⟨(some 26), .call false 11 [(.t 25)], none⟩,
  ⟨(some 24), .mv (.t 26), none⟩,
  ⟨(some 27), .ext 0 (.t 24), none⟩,
  ⟨(some 28), .ext 1 (.t 24), none⟩,
  ⟨(some 9), .mv (.t 27), none⟩,
  ⟨(some 10), .mv (.t 28), none⟩]
def r3_4 : List AI := [⟨(some 30), .mv (.t 2), none⟩,
  ⟨(some 31), .call false 12 [(.t 30)], none⟩,
  ⟨(some 29), .mv (.t 31), none⟩,
  ⟨(some 32), .ext 0 (.t 29), none⟩,
  ⟨(some 33), .ext 1 (.t 29), none⟩,
  ⟨(some 11), .mv (.t 32), none⟩,
  ⟨(some 12), .mv (.t 33), none⟩]
def r3_5 : List AI := [⟨(some 35), .mv (.t 3), none⟩,
  ⟨(some 36), .call false 13 [(.t 35)], none⟩,
  ⟨(some 34), .mv (.t 36), none⟩,
  ⟨(some 37), .ext 0 (.t 34), none⟩,
  ⟨(some 38), .ext 1 (.t 34), none⟩,
  ⟨(some 13), .mv (.t 37), none⟩,
  ⟨(some 14), .mv (.t 38), none⟩]
def r3_6 : List AI := [⟨(some 40), .mv (.t 3), none⟩,
  ⟨(some 41), .call false 14 [(.t 40)], none⟩,
  ⟨(some 39), .mv (.t 41), none⟩,
  ⟨(some 42), .ext 0 (.t 39), none⟩,
  ⟨(some 43), .ext 1 (.t 39), none⟩,
  ⟨(some 15), .mv (.t 42), none⟩,
  ⟨(some 16), .mv (.t 43), none⟩]
def r3_7 : List AI := [⟨(some 44), .mv (.t 0), none⟩,
  ⟨(some 45), .call false 15 [(.t 44)], none⟩,
  ⟨(some 46), .mv (.t 0), none⟩,
  ⟨(some 47), .call false 16 [(.t 46)], none⟩,
  ⟨(some 48), .bin .eql (.t 45) (.t 47), none⟩,
  ⟨(some 49), .mv (.t 48), none⟩,
  ⟨(some 50), .mv (.t 1), (some (49, true))⟩,
  ⟨(some 51), .call false 17 [(.t 50)], (some (49, true))⟩,
  ⟨(some 52), .mv (.t 1), (some (49, true))⟩,
  ⟨(some 53), .call false 18 [(.t 52)], (some (49, true))⟩,
  ⟨(some 54), .bin .eql (.t 51) (.t 53), (some (49, true))⟩,
  ⟨(some 55), .pick (.t 49) (.t 54) (.c (.b false)), none⟩,
  ⟨(some 56), .mv (.t 55), none⟩,
  ⟨(some 57), .mv (.t 9), (some (56, true))⟩,
  ⟨(some 58), .mv (.t 11), (some (56, true))⟩,
  ⟨(some 59), .bin .eql (.t 57) (.t 58), (some (56, true))⟩,
  ⟨(some 60), .pick (.t 56) (.t 59) (.c (.b false)), none⟩,
  ⟨(some 61), .mv (.t 60), none⟩,
  ⟨(some 62), .mv (.t 10), (some (61, true))⟩,
  ⟨(some 63), .mv (.t 12), (some (61, true))⟩,
  ⟨(some 64), .bin .eql (.t 62) (.t 63), (some (61, true))⟩,
  ⟨(some 65), .pick (.t 61) (.t 64) (.c (.b false)), none⟩,
  ⟨(some 66), .mv (.t 65), none⟩,
  ⟨(some 67), .mv (.t 13), (some (66, true))⟩,
  ⟨(some 68), .mv (.t 15), (some (66, true))⟩,
  ⟨(some 69), .bin .eql (.t 67) (.t 68), (some (66, true))⟩,
  ⟨(some 70), .pick (.t 66) (.t 69) (.c (.b false)), none⟩,
  ⟨(some 71), .mv (.t 70), none⟩,
  ⟨(some 72), .mv (.t 14), (some (71, true))⟩,
  ⟨(some 73), .mv (.t 16), (some (71, true))⟩,
  ⟨(some 74), .bin .eql (.t 72) (.t 73), (some (71, true))⟩,
  ⟨(some 75), .pick (.t 71) (.t 74) (.c (.b false)), none⟩,
  ⟨(some 8), .mv (.t 75), none⟩]
abbrev c3_0 : AC := (.seq (.reg 3 r3_3) (.seq (.reg 4 r3_4) (.seq (.reg 5 r3_5) (.seq (.reg 6 r3_6) (.seq (.reg 7 r3_7) .ret)))))
abbrev c3_1 : AC := (.seq (.seq (.reg 1 r3_1) (.cond (.t 23) (.seq (.reg 2 r3_2) .ret) .skip)) c3_0)
abbrev b3 : AC := (.seq (.reg 0 r3_0) c3_1)
def pf3 : AF := { nt := 76, res := [.tmp 8], body := b3 }
def T3_2 (prog : Prog) (K : Bool → Prop) (i0 : Int) (n1 : Int) (s2 : List UInt8) (l3 : List (List UInt8)) : Prop :=
  ∃ r'1 : List UInt8, ∃ r'2 : Int, Pus prog 11 [.s s2] (.tup [.s r'1, .i .i64 r'2]) ∧ ∃ r'4 : List UInt8, ∃ r'5 : Int, Pus prog 12 [.s s2] (.tup [.s r'4, .i .i64 r'5]) ∧ ∃ r'7 : List UInt8, ∃ r'8 : Int, Pus prog 13 [.sl .ext (List.map rowS l3)] (.tup [.s r'7, .i .i64 r'8]) ∧ ∃ r'10 : List UInt8, ∃ r'11 : Int, Pus prog 14 [.sl .ext (List.map rowS l3)] (.tup [.s r'10, .i .i64 r'11]) ∧ ∃ r'13 : List UInt8, Pus prog 15 [.i .i64 i0] (.s r'13) ∧ ∃ r'15 : List UInt8, Pus prog 16 [.i .i64 i0] (.s r'15) ∧ (r'13 = r'15 → ∃ r'18 : List UInt8, Pus prog 17 [.i .u64 n1] (.s r'18) ∧ ∃ r'20 : List UInt8, Pus prog 18 [.i .u64 n1] (.s r'20) ∧ (r'18 = r'20 → (r'1 = r'4 → (r'2 = r'5 → (r'7 = r'10 → K (decide (r'8 = r'11))) ∧ (¬(r'7 = r'10) → K false)) ∧ (¬(r'2 = r'5) → K false)) ∧ (¬(r'1 = r'4) → K false)) ∧ (¬(r'18 = r'20) → K false)) ∧ (¬(r'13 = r'15) → K false)
theorem w3_2 {prog : Prog} {d : Nat} {Q : AE → Sl → St → Prop} {K : Bool → Prop} (hQ : ∀ (σ : Sl) (st : St) (x0 : Bool), σ 8 = .b x0 → K x0 → Q .ret σ st) {i0 : Int} {n1 : Int} {s2 : List UInt8} {l3 : List (List UInt8)}   {σ : Sl} {st : St} {o_l3 : Own} (H0 : σ 0 = .i .i64 i0) (H1 : σ 1 = .i .u64 n1) (H2 : σ 2 = .s s2) (H3 : σ 3 = .sl o_l3 (List.map rowS l3)) (h : T3_2 prog K i0 n1 s2 l3) : W prog d c3_0 σ st Q :=
  W.seq (W.reg0 rfl fun _ _ => s_mvS H2 (h.elim fun r'1 e'29 => e'29.elim fun r'2 e'3 => s_call (sc rfl rfl sn) e'3.1 (s_mvT rfl (s_ext rfl rfl (s_ext rfl rfl (s_mvS rfl (s_mvI rfl (s_nil (W.seq (W.reg0 rfl fun _ _ => s_mvS H2 (e'3.2.elim fun r'4 e'28 => e'28.elim fun r'5 e'6 => s_call (sc rfl rfl sn) e'6.1 (s_mvT rfl (s_ext rfl rfl (s_ext rfl rfl (s_mvS rfl (s_mvI rfl (s_nil (W.seq (W.reg0 rfl fun _ _ => s_mvL H3 (e'6.2.elim fun r'7 e'27 => e'27.elim fun r'8 e'9 => s_call (sc rfl rfl sn) e'9.1 (s_mvT rfl (s_ext rfl rfl (s_ext rfl rfl (s_mvS rfl (s_mvI rfl (s_nil (W.seq (W.reg0 rfl fun _ _ => s_mvL H3 (e'9.2.elim fun r'10 e'26 => e'26.elim fun r'11 e'12 => s_call (sc rfl rfl sn) e'12.1 (s_mvT rfl (s_ext rfl rfl (s_ext rfl rfl (s_mvS rfl (s_mvI rfl (s_nil (W.seq (W.reg0 rfl fun _ _ => s_mvI H0 (e'12.2.elim fun r'13 e'14 => s_call (sc rfl rfl sn) e'14.1 (s_mvI H0 (e'14.2.elim fun r'15 e'16 => s_call (sc rfl rfl sn) e'16.1 (s_bin rfl rfl (abin_seq _ _) (s_mvB rfl (s_em (g := 49) rfl (fun g'17 => s_gy rfl (s_mvI H1 (s_gy rfl ((e'16.2.1 g'17).elim fun r'18 e'19 => s_call (sc rfl rfl sn) e'19.1 (s_gy rfl (s_mvI H1 (s_gy rfl (e'19.2.elim fun r'20 e'21 => s_call (sc rfl rfl sn) e'21.1 (s_gy rfl (s_bin rfl rfl (abin_seq _ _) (s_pickTB rfl rfl (s_mvB rfl (s_em (g := 56) rfl (fun g'22 => s_gy rfl (s_mvS rfl (s_gy rfl (s_mvS rfl (s_gy rfl (s_bin rfl rfl (abin_seq _ _) (s_pickTB rfl rfl (s_mvB rfl (s_em (g := 61) rfl (fun g'23 => s_gy rfl (s_mvI rfl (s_gy rfl (s_mvI rfl (s_gy rfl (s_bin rfl rfl (abin_eql _ _ _) (s_pickTB rfl rfl (s_mvB rfl (s_em (g := 66) rfl (fun g'24 => s_gy rfl (s_mvS rfl (s_gy rfl (s_mvS rfl (s_gy rfl (s_bin rfl rfl (abin_seq _ _) (s_pickTB rfl rfl (s_mvB rfl (s_em (g := 71) rfl (fun g'25 => s_gy rfl (s_mvI rfl (s_gy rfl (s_mvI rfl (s_gy rfl (s_bin rfl rfl (abin_eql _ _ _) (s_pickTB rfl rfl (s_mvB rfl (s_nil (W.ret (hQ _ _  _ rfl  ((((e'21.2.1 g'22).1 g'23).1 g'24).1 g'25)))))))))))) (fun g'25 => s_gn (b := false) rfl rfl (s_gn (b := false) rfl rfl (s_gn (b := false) rfl rfl (s_pickFB rfl rfl (s_mvB rfl (s_nil (W.ret (hQ _ _  _ rfl  ((((e'21.2.1 g'22).1 g'23).1 g'24).2 g'25)))))))))))))))))) (fun g'24 => s_gn (b := false) rfl rfl (s_gn (b := false) rfl rfl (s_gn (b := false) rfl rfl (s_pickFB rfl rfl (s_mvB rfl (s_gn (b := false) rfl rfl (s_gn (b := false) rfl rfl (s_gn (b := false) rfl rfl (s_pickFB rfl rfl (s_mvB rfl (s_nil (W.ret (hQ _ _  _ rfl  (((e'21.2.1 g'22).1 g'23).2 g'24))))))))))))))))))))))) (fun g'23 => s_gn (b := false) rfl rfl (s_gn (b := false) rfl rfl (s_gn (b := false) rfl rfl (s_pickFB rfl rfl (s_mvB rfl (s_gn (b := false) rfl rfl (s_gn (b := false) rfl rfl (s_gn (b := false) rfl rfl (s_pickFB rfl rfl (s_mvB rfl (s_gn (b := false) rfl rfl (s_gn (b := false) rfl rfl (s_gn (b := false) rfl rfl (s_pickFB rfl rfl (s_mvB rfl (s_nil (W.ret (hQ _ _  _ rfl  ((e'21.2.1 g'22).2 g'23)))))))))))))))))))))))))))) (fun g'22 => s_gn (b := false) rfl rfl (s_gn (b := false) rfl rfl (s_gn (b := false) rfl rfl (s_pickFB rfl rfl (s_mvB rfl (s_gn (b := false) rfl rfl (s_gn (b := false) rfl rfl (s_gn (b := false) rfl rfl (s_pickFB rfl rfl (s_mvB rfl (s_gn (b := false) rfl rfl (s_gn (b := false) rfl rfl (s_gn (b := false) rfl rfl (s_pickFB rfl rfl (s_mvB rfl (s_gn (b := false) rfl rfl (s_gn (b := false) rfl rfl (s_gn (b := false) rfl rfl (s_pickFB rfl rfl (s_mvB rfl (s_nil (W.ret (hQ _ _  _ rfl  (e'21.2.2 g'22))))))))))))))))))))))))))))))))))))) (fun g'17 => s_gn (b := false) rfl rfl (s_gn (b := false) rfl rfl (s_gn (b := false) rfl rfl (s_gn (b := false) rfl rfl (s_gn (b := false) rfl rfl (s_pickFB rfl rfl (s_mvB rfl (s_gn (b := false) rfl rfl (s_gn (b := false) rfl rfl (s_gn (b := false) rfl rfl (s_pickFB rfl rfl (s_mvB rfl (s_gn (b := false) rfl rfl (s_gn (b := false) rfl rfl (s_gn (b := false) rfl rfl (s_pickFB rfl rfl (s_mvB rfl (s_gn (b := false) rfl rfl (s_gn (b := false) rfl rfl (s_gn (b := false) rfl rfl (s_pickFB rfl rfl (s_mvB rfl (s_gn (b := false) rfl rfl (s_gn (b := false) rfl rfl (s_gn (b := false) rfl rfl (s_pickFB rfl rfl (s_mvB rfl (s_nil (W.ret (hQ _ _  _ rfl  (e'16.2.2 g'17))))))))))))))))))))))))))))))))))))))))))))))))))))))))))))))))))))))))))
def T3_1 (prog : Prog) (K : Bool → Prop) (i0 : Int) (n1 : Int) (s2 : List UInt8) (l3 : List (List UInt8)) : Prop :=
  ((s2.length : Int) > 500 → K true) ∧ (¬((s2.length : Int) > 500) → ∃ r'2 : Bool, Pus prog 10 [.sl .ext (List.map rowS l3)] (.b r'2) ∧ (r'2 = true → K true) ∧ (r'2 = false → T3_2 prog K i0 n1 s2 l3))
theorem w3_1 {prog : Prog} {d : Nat} {Q : AE → Sl → St → Prop} {K : Bool → Prop} (hQ : ∀ (σ : Sl) (st : St) (x0 : Bool), σ 8 = .b x0 → K x0 → Q .ret σ st) {i0 : Int} {n1 : Int} {s2 : List UInt8} {l3 : List (List UInt8)}   {σ : Sl} {st : St} {o_l3 : Own} (H0 : σ 0 = .i .i64 i0) (H1 : σ 1 = .i .u64 n1) (H2 : σ 2 = .s s2) (H3 : σ 3 = .sl o_l3 (List.map rowS l3)) (h : T3_1 prog K i0 n1 s2 l3) : W prog d c3_1 σ st Q :=
  W.seq (W.seq (W.reg0 rfl fun _ _ => s_mvS H2 (s_lenS rfl (s_bin rfl rfl (abin_gtr _ _ _) (s_mvB rfl (s_em (g := 20) rfl (fun g'1 => s_gn (b := true) rfl rfl (s_gn (b := true) rfl rfl (s_pickTB rfl rfl (s_nil (c_tt rfl (W.seq (W.reg0 rfl fun _ _ => s_mvB rfl (s_nil (W.ret (hQ _ _  _ rfl  (h.1 g'1))))))))))) (fun g'1 => s_gy rfl (s_mvL H3 (s_gy rfl ((h.2 g'1).elim fun r'2 e'3 => s_call (sc rfl rfl sn) e'3.1 (s_pickFB rfl rfl (s_nil (c_bool rfl (fun g'4 => W.seq (W.reg0 rfl fun _ _ => s_mvB rfl (s_nil (W.ret (hQ _ _  _ rfl  (e'3.2.1 g'4)))))) (fun g'4 => W.skip (w3_2 hQ  H0 H1 H2 H3 (e'3.2.2 g'4))))))))))))))))
def T3_0 (prog : Prog) (K : Bool → Prop) (i0 : Int) (n1 : Int) (s2 : List UInt8) (l3 : List (List UInt8)) : Prop :=
  T3_1 prog K i0 n1 s2 l3
theorem w3_0 {prog : Prog} {d : Nat} {Q : AE → Sl → St → Prop} {K : Bool → Prop} (hQ : ∀ (σ : Sl) (st : St) (x0 : Bool), σ 8 = .b x0 → K x0 → Q .ret σ st) {i0 : Int} {n1 : Int} {s2 : List UInt8} {l3 : List (List UInt8)}   {σ : Sl} {st : St} {o_l3 : Own} (H0 : σ 0 = .i .i64 i0) (H1 : σ 1 = .i .u64 n1) (H2 : σ 2 = .s s2) (H3 : σ 3 = .sl o_l3 (List.map rowS l3)) (h : T3_0 prog K i0 n1 s2 l3) : W prog d (.seq (.reg 0 r3_0) c3_1) σ st Q :=
  W.seq (W.reg0 rfl fun _ _ => s_mvB rfl (s_nil (w3_1 hQ  H0 H1 H2 H3 h)))
theorem p3 {prog : Prog} (hf : prog.fn 3 = some pf3) {i0 : Int} {n1 : Int} {s2 : List UInt8} {l3 : List (List UInt8)} {K : Bool → Prop} (h : T3_0 prog K i0 n1 s2 l3) : ∃ x0 : Bool, K x0 ∧ Pus prog 3 [.i .i64 i0, .i .u64 n1, .s s2, .sl .ext (List.map rowS l3)] (.b x0) := by
  obtain ⟨v, hv, x0, hk, rfl⟩ := Pus.of (K := fun v => ∃ x0 : Bool, K x0 ∧ v = .b x0) hf rfl (w3_0 (σ := sl0 [.i .i64 i0, .i .u64 n1, .s s2, .sl .ext (List.map rowS l3)]) (fun σ st  x0 H8 hk => ⟨.b x0, by simp only [pf3, ares, aresL, ares1, Option.map_some, H8], _, rfl, x0, hk, rfl⟩) rfl rfl rfl rfl h)
  exact ⟨x0, hk, hv⟩

/-! wreckage/wreckagelaw03.TextPlain -/
def r4_0 : List AI := [⟨(some 6), .mv (.c (.b false)), none⟩]
def r4_1 : List AI := [⟨(some 13), .mv (.t 2), none⟩,
  ⟨(some 14), .len true (.t 13), none⟩,
  ⟨(some 15), .bin .gtr (.t 14) (.c (.i .i64 400)), none⟩]
def r4_2 : List AI := [⟨(some 16), .call false 19 [], none⟩,
  ⟨(some 6), .mv (.t 16), none⟩]
def r4_3 : List AI := [⟨(some 18), .mv (.t 2), none⟩,
  ⟨(some 19), .call false 11 [(.t 18)], none⟩,
  ⟨(some 17), .mv (.t 19), none⟩,
  ⟨(some 20), .ext 0 (.t 17), none⟩,
  ⟨(some 21), .ext 1 (.t 17), none⟩,
  ⟨(some 7), .mv (.t 20), none⟩,
  ⟨(some 8), .mv (.t 21), none⟩]
def r4_4 : List AI := [⟨(some 22), .mv (.t 8), none⟩,
  ⟨(some 23), .bin .neq (.t 22) (.c (.i .i64 0)), none⟩,
  ⟨(some 24), .mv (.t 23), none⟩,
  ⟨(some 25), .mv (.t 7), (some (24, false))⟩,
  ⟨(some 26), .len true (.t 25), (some (24, false))⟩,
  ⟨(some 27), .bin .lss (.t 26) (.c (.i .i64 2)), (some (24, false))⟩,
  ⟨(some 28), .pick (.t 24) (.c (.b true)) (.t 27), none⟩,
  ⟨(some 29), .mv (.t 28), none⟩,
  ⟨(some 30), .mv (.t 7), (some (29, false))⟩,
  ⟨(some 31), .ixS (.t 30) (.c (.i .i64 0)), (some (29, false))⟩,
  ⟨(some 32), .bin .neq (.t 31) (.c (.i .u8 34)), (some (29, false))⟩,
  ⟨(some 33), .pick (.t 29) (.c (.b true)) (.t 32), none⟩,
  ⟨(some 34), .mv (.t 33), none⟩,
  ⟨(some 35), .mv (.t 7), (some (34, false))⟩,
  ⟨(some 36), .mv (.t 7), (some (34, false))⟩,
  ⟨(some 37), .len true (.t 36), (some (34, false))⟩,
  ⟨(some 38), .bin .sub (.t 37) (.c (.i .i64 1)), (some (34, false))⟩,
  ⟨(some 39), .ixS (.t 35) (.t 38), (some (34, false))⟩,
  ⟨(some 40), .bin .neq (.t 39) (.c (.i .u8 34)), (some (34, false))⟩,
  ⟨(some 41), .pick (.t 34) (.c (.b true)) (.t 40), none⟩]
def r4_5 : List AI := [⟨(some 6), .mv (.c (.b false)), none⟩]
def r4_6 : List AI := [⟨(some 42), .mv (.t 0), none⟩,
  ⟨(some 43), .call false 15 [(.t 42)], none⟩,
  ⟨(some 44), .mv (.t 1), none⟩,
  ⟨(some 45), .call false 17 [(.t 44)], none⟩,
  ⟨(some 46), .bin .add (.t 43) (.t 45), none⟩,
  ⟨(some 47), .mv (.t 7), none⟩,
  ⟨(some 48), .bin .add (.t 46) (.t 47), none⟩,
  ⟨(some 9), .mv (.t 48), none⟩]
def r4_7 : List AI := [⟨(some 10), .mv (.c (.i .i64 0)), none⟩]
def r4_8 : List AI := [⟨(some 49), .mv (.t 10), none⟩,
  ⟨(some 50), .mv (.t 9), none⟩,
  ⟨(some 51), .len true (.t 50), none⟩,
  ⟨(some 52), .bin .lss (.t 49) (.t 51), none⟩]
def r4_9 : List AI := [⟨(some 55), .mv (.t 9), none⟩,
  ⟨(some 56), .mv (.t 10), none⟩,
  ⟨(some 57), .ixS (.t 55) (.t 56), none⟩,
  ⟨(some 58), .bin .lss (.t 57) (.c (.i .u8 32)), none⟩,
  ⟨(some 59), .mv (.t 58), none⟩,
  ⟨(some 60), .mv (.t 9), (some (59, false))⟩,
  ⟨(some 61), .mv (.t 10), (some (59, false))⟩,
  ⟨(some 62), .ixS (.t 60) (.t 61), (some (59, false))⟩,
  ⟨(some 63), .bin .gtr (.t 62) (.c (.i .u8 126)), (some (59, false))⟩,
  ⟨(some 64), .pick (.t 59) (.c (.b true)) (.t 63), none⟩]
def r4_10 : List AI := [⟨(some 6), .mv (.c (.b false)), none⟩]
def r4_11 : List AI := [⟨(some 53), .mv (.t 10), none⟩,
  ⟨(some 54), .bin .add (.t 53) (.c (.i .i64 1)), none⟩,
  ⟨(some 10), .mv (.t 54), none⟩]
def r4_12 : List AI := [⟨(some 11), .mv (.c (.i .i64 0)), none⟩]
def r4_13 : List AI := [⟨(some 12), .mv (.c (.i .i64 1)), none⟩]
def r4_14 : List AI := [⟨(some 65), .mv (.t 12), none⟩,
  ⟨(some 66), .mv (.t 7), none⟩,
  ⟨(some 67), .len true (.t 66), none⟩,
  ⟨(some 68), .bin .lss (.t 65) (.t 67), none⟩]
def r4_15 : List AI := [⟨(some 71), .mv (.t 7), none⟩,
  ⟨(some 72), .mv (.t 12), none⟩,
  ⟨(some 73), .ixS (.t 71) (.t 72), none⟩,
  ⟨(some 74), .bin .eql (.t 73) (.c (.i .u8 34)), none⟩,
  ⟨(some 75), .mv (.t 74), none⟩,
  ⟨(some 76), .mv (.t 11), (some (75, true))⟩,
  ⟨(some 77), .bin .rem (.t 76) (.c (.i .i64 2)), (some (75, true))⟩,
  ⟨(some 78), .bin .eql (.t 77) (.c (.i .i64 1)), (some (75, true))⟩,
  ⟨(some 79), .mv (.t 12), (some (75, true))⟩,
  ⟨(some 80), .mv (.t 7), (some (75, true))⟩,
  ⟨(some 81), .len true (.t 80), (some (75, true))⟩,
  ⟨(some 82), .bin .sub (.t 81) (.c (.i .i64 1)), (some (75, true))⟩,
  ⟨(some 83), .bin .eql (.t 79) (.t 82), (some (75, true))⟩,
  ⟨(some 84), .beq false (.t 78) (.t 83), (some (75, true))⟩,
  ⟨(some 85), .pick (.t 75) (.t 84) (.c (.b false)), none⟩]
def r4_16 : List AI := [⟨(some 6), .mv (.c (.b false)), none⟩]
def r4_17 : List AI := [⟨(some 86), .mv (.t 7), none⟩,
  ⟨(some 87), .mv (.t 12), none⟩,
  ⟨(some 88), .ixS (.t 86) (.t 87), none⟩,
  ⟨(some 89), .bin .eql (.t 88) (.c (.i .u8 92)), none⟩]
def r4_18 : List AI := [⟨(some 90), .mv (.t 11), none⟩,
  ⟨(some 91), .bin .add (.t 90) (.c (.i .i64 1)), none⟩,
  ⟨(some 11), .mv (.t 91), none⟩]
def r4_19 : List AI := [⟨(some 11), .mv (.c (.i .i64 0)), none⟩]
def r4_20 : List AI := [⟨(some 69), .mv (.t 12), none⟩,
  ⟨(some 70), .bin .add (.t 69) (.c (.i .i64 1)), none⟩,
  ⟨(some 12), .mv (.t 70), none⟩]
def r4_21 : List AI := [⟨(some 92), .call false 19 [], none⟩,
  ⟨(some 6), .mv (.t 92), none⟩]
abbrev l4_0 : AC := (.seq (.seq (.reg 8 r4_8) (.cond (.t 52) .skip (.exit 0))) (.seq (.block 1 (.seq (.reg 10 r4_9) (.cond (.t 64) (.seq (.reg 11 r4_10) .ret) .skip))) (.reg 9 r4_11)))
abbrev c4_1 : AC := (.reg 15 r4_20)
abbrev l4_1 : AC := (.seq (.seq (.reg 14 r4_14) (.cond (.t 68) .skip (.exit 2))) (.seq (.block 3 (.seq (.seq (.reg 16 r4_15) (.cond (.t 85) (.seq (.reg 17 r4_16) .ret) .skip)) (.seq (.reg 18 r4_17) (.cond (.t 89) (.reg 19 r4_18) (.reg 20 r4_19))))) c4_1))
abbrev c4_3 : AC := (.seq (.reg 21 r4_21) .ret)
abbrev c4_4 : AC := (.seq (.reg 12 r4_12) (.seq (.seq (.reg 13 r4_13) (.block 2 (.loop l4_1))) c4_3))
abbrev c4_5 : AC := (.seq (.reg 6 r4_6) (.seq (.seq (.reg 7 r4_7) (.block 0 (.loop l4_0))) c4_4))
abbrev c4_6 : AC := (.seq (.seq (.reg 4 r4_4) (.cond (.t 41) (.seq (.reg 5 r4_5) .ret) .skip)) c4_5)
abbrev c4_7 : AC := (.seq (.reg 3 r4_3) c4_6)
abbrev c4_8 : AC := (.seq (.seq (.reg 1 r4_1) (.cond (.t 15) (.seq (.reg 2 r4_2) .ret) .skip)) c4_7)
abbrev b4 : AC := (.seq (.reg 0 r4_0) c4_8)
def pf4 : AF := { nt := 93, res := [.tmp 6], body := b4 }
abbrev I4_0 (prog : Prog) (d : Nat) (Q : AE → Sl → St → Prop) (q7 : List UInt8) (all9 : List UInt8) (k10 : Int) : Prop :=
  ∀ (σ : Sl) (st : St), σ 7 = .s q7 → σ 9 = .s all9 → σ 10 = .i .i64 k10 → W prog d (.loop l4_0) σ st (blockW 0 (thenW prog d c4_4 Q))
abbrev I4_1 (prog : Prog) (d : Nat) (Q : AE → Sl → St → Prop) (q7 : List UInt8) (slashes11 : Int) (k12 : Int) : Prop :=
  ∀ (σ : Sl) (st : St), σ 7 = .s q7 → σ 11 = .i .i64 slashes11 → σ 12 = .i .i64 k12 → W prog d (.loop l4_1) σ st (blockW 2 (thenW prog d c4_3 Q))
def T4_8 (prog : Prog) (K : Bool → Prop) (P1 : Int → Int → Prop) (q7 : List UInt8) (slashes11 : Int) (k12 : Int) : Prop :=
  P1 slashes11 (IntKind.i64.wrap (k12 + 1))
theorem w4_8 {prog : Prog} {d : Nat} {Q : AE → Sl → St → Prop} {K : Bool → Prop} (hQ : ∀ (σ : Sl) (st : St) (x0 : Bool), σ 6 = .b x0 → K x0 → Q .ret σ st) {q7 : List UInt8} {slashes11 : Int} {k12 : Int} {P1 : Int → Int → Prop} (kP1 : ∀ (slashes11 : Int) (k12 : Int), P1 slashes11 k12 → I4_1 prog d Q q7 slashes11 k12) {σ : Sl} {st : St} (H7 : σ 7 = .s q7) (H11 : σ 11 = .i .i64 slashes11) (H12 : σ 12 = .i .i64 k12) (h : T4_8 prog K P1 q7 slashes11 k12) : W prog d c4_1 σ st (thenW prog d (.loop l4_1) (blockW 2 (thenW prog d c4_3 Q))) :=
  W.reg0 rfl fun _ _ => s_mvI H12 (s_bin rfl rfl (abin_add _ _ _) (s_mvI rfl (s_nil (kP1 _ _ h _ _  H7 H11 rfl))))
def T4_9 (prog : Prog) (K : Bool → Prop)  : Prop :=
  ∃ r'1 : Bool, Pus prog 19 [] (.b r'1) ∧ K r'1
theorem w4_9 {prog : Prog} {d : Nat} {Q : AE → Sl → St → Prop} {K : Bool → Prop} (hQ : ∀ (σ : Sl) (st : St) (x0 : Bool), σ 6 = .b x0 → K x0 → Q .ret σ st)    {σ : Sl} {st : St}  (h : T4_9 prog K ) : W prog d c4_3 σ st Q :=
  W.seq (W.reg0 rfl fun _ _ => h.elim fun r'1 e'2 => s_call sn e'2.1 (s_mvB rfl (s_nil (W.ret (hQ _ _  _ rfl  e'2.2)))))
def T4_7 (prog : Prog) (K : Bool → Prop) (P1 : Int → Int → Prop) (q7 : List UInt8) (slashes11 : Int) (k12 : Int) : Prop :=
  (k12 < (q7.length : Int) → 0 ≤ k12 ∧ ∃ c'2 : UInt8, q7[(k12).toNat]? = some c'2 ∧ ((c'2.toNat : Int) = 34 → ((decide (((slashes11 : Int).tmod 2) = 1)) = (decide (k12 = (IntKind.i64.wrap ((q7.length : Int) - 1)))) → K false) ∧ (¬((decide (((slashes11 : Int).tmod 2) = 1)) = (decide (k12 = (IntKind.i64.wrap ((q7.length : Int) - 1))))) → 0 ≤ k12 ∧ ∃ c'6 : UInt8, q7[(k12).toNat]? = some c'6 ∧ ((c'6.toNat : Int) = 92 → T4_8 prog K P1 q7 (IntKind.i64.wrap (slashes11 + 1)) k12) ∧ (¬((c'6.toNat : Int) = 92) → T4_8 prog K P1 q7 0 k12))) ∧ (¬((c'2.toNat : Int) = 34) → 0 ≤ k12 ∧ ∃ c'9 : UInt8, q7[(k12).toNat]? = some c'9 ∧ ((c'9.toNat : Int) = 92 → T4_8 prog K P1 q7 (IntKind.i64.wrap (slashes11 + 1)) k12) ∧ (¬((c'9.toNat : Int) = 92) → T4_8 prog K P1 q7 0 k12))) ∧ (¬(k12 < (q7.length : Int)) → T4_9 prog K )
theorem w4_7 {prog : Prog} {d : Nat} {Q : AE → Sl → St → Prop} {K : Bool → Prop} (hQ : ∀ (σ : Sl) (st : St) (x0 : Bool), σ 6 = .b x0 → K x0 → Q .ret σ st) {q7 : List UInt8} {slashes11 : Int} {k12 : Int} {P1 : Int → Int → Prop} (kP1 : ∀ (slashes11 : Int) (k12 : Int), P1 slashes11 k12 → I4_1 prog d Q q7 slashes11 k12) {σ : Sl} {st : St} (H7 : σ 7 = .s q7) (H11 : σ 11 = .i .i64 slashes11) (H12 : σ 12 = .i .i64 k12) (h : T4_7 prog K P1 q7 slashes11 k12) : W prog d l4_1 σ st (thenW prog d (.loop l4_1) (blockW 2 (thenW prog d c4_3 Q))) :=
  W.seq (W.seq (W.reg0 rfl fun _ _ => s_mvI H12 (s_mvS H7 (s_lenS rfl (s_bin rfl rfl (abin_lss _ _ _) (s_nil (c_split rfl (fun g'1 => W.skip (W.seq (W.block (W.seq (W.seq (W.reg0 rfl fun _ _ => s_mvS H7 (s_mvI H12 ((h.1 g'1).2.elim fun c'2 e'3 => s_ixS rfl rfl (h.1 g'1).1 e'3.1 (s_bin rfl rfl (abin_eql _ _ _) (s_mvB rfl (s_em (g := 75) rfl (fun g'4 => s_gy rfl (s_mvI H11 (s_gy rfl (s_bin rfl rfl (abin_rem' (by decide)) (s_gy rfl (s_bin rfl rfl (abin_eql _ _ _) (s_gy rfl (s_mvI H12 (s_gy rfl (s_mvS H7 (s_gy rfl (s_lenS rfl (s_gy rfl (s_bin rfl rfl (abin_sub _ _ _) (s_gy rfl (s_bin rfl rfl (abin_eql _ _ _) (s_gy rfl (s_beq rfl rfl (s_pickTB rfl rfl (s_nil (c_split rfl (fun g'5 => W.seq (W.reg0 rfl fun _ _ => s_mvB rfl (s_nil (W.ret (hQ _ _  _ rfl  ((e'3.2.1 g'4).1 g'5)))))) (fun g'5 => W.skip (W.seq (W.reg0 rfl fun _ _ => s_mvS H7 (s_mvI H12 (((e'3.2.1 g'4).2 g'5).2.elim fun c'6 e'7 => s_ixS rfl rfl ((e'3.2.1 g'4).2 g'5).1 e'7.1 (s_bin rfl rfl (abin_eql _ _ _) (s_nil (c_split rfl (fun g'8 => W.reg0 rfl fun _ _ => s_mvI H11 (s_bin rfl rfl (abin_add _ _ _) (s_mvI rfl (s_nil (w4_8 hQ kP1 H7 rfl H12 (e'7.2.1 g'8)))))) (fun g'8 => W.reg0 rfl fun _ _ => s_mvI rfl (s_nil (w4_8 hQ kP1 H7 rfl H12 (e'7.2.2 g'8))))))))))))))))))))))))))))))))) (fun g'4 => s_gn (b := false) rfl rfl (s_gn (b := false) rfl rfl (s_gn (b := false) rfl rfl (s_gn (b := false) rfl rfl (s_gn (b := false) rfl rfl (s_gn (b := false) rfl rfl (s_gn (b := false) rfl rfl (s_gn (b := false) rfl rfl (s_gn (b := false) rfl rfl (s_pickFB rfl rfl (s_nil (c_ff rfl (W.skip (W.seq (W.reg0 rfl fun _ _ => s_mvS H7 (s_mvI H12 ((e'3.2.2 g'4).2.elim fun c'9 e'10 => s_ixS rfl rfl (e'3.2.2 g'4).1 e'10.1 (s_bin rfl rfl (abin_eql _ _ _) (s_nil (c_split rfl (fun g'11 => W.reg0 rfl fun _ _ => s_mvI H11 (s_bin rfl rfl (abin_add _ _ _) (s_mvI rfl (s_nil (w4_8 hQ kP1 H7 rfl H12 (e'10.2.1 g'11)))))) (fun g'11 => W.reg0 rfl fun _ _ => s_mvI rfl (s_nil (w4_8 hQ kP1 H7 rfl H12 (e'10.2.2 g'11))))))))))))))))))))))))))))))))))) (fun g'1 => W.exit (w4_9 hQ   (h.2 g'1))))))))))
def T4_6 (prog : Prog) (K : Bool → Prop) (q7 : List UInt8) : Prop :=
  ∀ P1 : Int → Int → Prop, (∀ (slashes11 : Int) (k12 : Int), T4_7 prog K P1 q7 slashes11 k12 → P1 slashes11 k12) → P1 0 1
theorem w4_6 {prog : Prog} {d : Nat} {Q : AE → Sl → St → Prop} {K : Bool → Prop} (hQ : ∀ (σ : Sl) (st : St) (x0 : Bool), σ 6 = .b x0 → K x0 → Q .ret σ st) {q7 : List UInt8}   {σ : Sl} {st : St} (H7 : σ 7 = .s q7) (h : T4_6 prog K q7) : W prog d c4_4 σ st Q :=
  W.seq (W.reg0 rfl fun _ _ => s_mvI rfl (s_nil (W.seq (W.seq (W.reg0 rfl fun _ _ => s_mvI rfl (s_nil (W.block (h (I4_1 prog d Q q7) (fun _ _ hb _ _  H7 H11 H12 => W.loop (w4_7 hQ (fun _ _ x => x) H7 H11 H12 hb)) _ _  H7 rfl rfl))))))))
def T4_5 (prog : Prog) (K : Bool → Prop) (P0 : Int → Prop) (q7 : List UInt8) (all9 : List UInt8) (k10 : Int) : Prop :=
  (k10 < (all9.length : Int) → 0 ≤ k10 ∧ ∃ c'2 : UInt8, all9[(k10).toNat]? = some c'2 ∧ ((c'2.toNat : Int) < 32 → K false) ∧ (¬((c'2.toNat : Int) < 32) → 0 ≤ k10 ∧ ∃ c'5 : UInt8, all9[(k10).toNat]? = some c'5 ∧ ((c'5.toNat : Int) > 126 → K false) ∧ (¬((c'5.toNat : Int) > 126) → P0 (IntKind.i64.wrap (k10 + 1))))) ∧ (¬(k10 < (all9.length : Int)) → T4_6 prog K q7)
theorem w4_5 {prog : Prog} {d : Nat} {Q : AE → Sl → St → Prop} {K : Bool → Prop} (hQ : ∀ (σ : Sl) (st : St) (x0 : Bool), σ 6 = .b x0 → K x0 → Q .ret σ st) {q7 : List UInt8} {all9 : List UInt8} {k10 : Int} {P0 : Int → Prop} (kP0 : ∀ (k10 : Int), P0 k10 → I4_0 prog d Q q7 all9 k10) {σ : Sl} {st : St} (H7 : σ 7 = .s q7) (H9 : σ 9 = .s all9) (H10 : σ 10 = .i .i64 k10) (h : T4_5 prog K P0 q7 all9 k10) : W prog d l4_0 σ st (thenW prog d (.loop l4_0) (blockW 0 (thenW prog d c4_4 Q))) :=
  W.seq (W.seq (W.reg0 rfl fun _ _ => s_mvI H10 (s_mvS H9 (s_lenS rfl (s_bin rfl rfl (abin_lss _ _ _) (s_nil (c_split rfl (fun g'1 => W.skip (W.seq (W.block (W.seq (W.reg0 rfl fun _ _ => s_mvS H9 (s_mvI H10 ((h.1 g'1).2.elim fun c'2 e'3 => s_ixS rfl rfl (h.1 g'1).1 e'3.1 (s_bin rfl rfl (abin_lss _ _ _) (s_mvB rfl (s_em (g := 59) rfl (fun g'4 => s_gn (b := true) rfl rfl (s_gn (b := true) rfl rfl (s_gn (b := true) rfl rfl (s_gn (b := true) rfl rfl (s_pickTB rfl rfl (s_nil (c_tt rfl (W.seq (W.reg0 rfl fun _ _ => s_mvB rfl (s_nil (W.ret (hQ _ _  _ rfl  (e'3.2.1 g'4))))))))))))) (fun g'4 => s_gy rfl (s_mvS H9 (s_gy rfl (s_mvI H10 (s_gy rfl ((e'3.2.2 g'4).2.elim fun c'5 e'6 => s_ixS rfl rfl (e'3.2.2 g'4).1 e'6.1 (s_gy rfl (s_bin rfl rfl (abin_gtr _ _ _) (s_pickFB rfl rfl (s_nil (c_split rfl (fun g'7 => W.seq (W.reg0 rfl fun _ _ => s_mvB rfl (s_nil (W.ret (hQ _ _  _ rfl  (e'6.2.1 g'7)))))) (fun g'7 => W.skip (W.reg0 rfl fun _ _ => s_mvI H10 (s_bin rfl rfl (abin_add _ _ _) (s_mvI rfl (s_nil (kP0 _ (e'6.2.2 g'7) _ _  H7 H9 rfl))))))))))))))))))))))))))) (fun g'1 => W.exit (w4_6 hQ  H7 (h.2 g'1))))))))))
def T4_4 (prog : Prog) (K : Bool → Prop) (i0 : Int) (n1 : Int) (q7 : List UInt8) : Prop :=
  ∃ r'1 : List UInt8, Pus prog 15 [.i .i64 i0] (.s r'1) ∧ ∃ r'3 : List UInt8, Pus prog 17 [.i .u64 n1] (.s r'3) ∧ r'1.length + r'3.length ≤ maxStr ∧ (r'1 ++ r'3).length + q7.length ≤ maxStr ∧ ∀ P0 : Int → Prop, (∀ (k10 : Int), T4_5 prog K P0 q7 ((r'1 ++ r'3) ++ q7) k10 → P0 k10) → P0 0
theorem w4_4 {prog : Prog} {d : Nat} {Q : AE → Sl → St → Prop} {K : Bool → Prop} (hQ : ∀ (σ : Sl) (st : St) (x0 : Bool), σ 6 = .b x0 → K x0 → Q .ret σ st) {i0 : Int} {n1 : Int} {q7 : List UInt8}   {σ : Sl} {st : St} (H0 : σ 0 = .i .i64 i0) (H1 : σ 1 = .i .u64 n1) (H7 : σ 7 = .s q7) (h : T4_4 prog K i0 n1 q7) : W prog d c4_5 σ st Q :=
  W.seq (W.reg0 rfl fun _ _ => s_mvI H0 (h.elim fun r'1 e'2 => s_call (sc rfl rfl sn) e'2.1 (s_mvI H1 (e'2.2.elim fun r'3 e'4 => s_call (sc rfl rfl sn) e'4.1 (s_bin rfl rfl (abin_cat' e'4.2.1) (s_mvS H7 (s_bin rfl rfl (abin_cat' e'4.2.2.1) (s_mvS rfl (s_nil (W.seq (W.seq (W.reg0 rfl fun _ _ => s_mvI rfl (s_nil (W.block (e'4.2.2.2 (I4_0 prog d Q q7 ((r'1 ++ r'3) ++ q7)) (fun _ hb _ _  H7 H9 H10 => W.loop (w4_5 hQ (fun _ x => x) H7 H9 H10 hb)) _ _  H7 rfl rfl)))))))))))))))
def T4_3 (prog : Prog) (K : Bool → Prop) (i0 : Int) (n1 : Int) (q7 : List UInt8) (e8 : Int) : Prop :=
  (e8 ≠ 0 → K false) ∧ (¬(e8 ≠ 0) → ((q7.length : Int) < 2 → K false) ∧ (¬((q7.length : Int) < 2) → ∃ c'3 : UInt8, q7[0]? = some c'3 ∧ ((c'3.toNat : Int) ≠ 34 → K false) ∧ (¬((c'3.toNat : Int) ≠ 34) → 0 ≤ (IntKind.i64.wrap ((q7.length : Int) - 1)) ∧ ∃ c'6 : UInt8, q7[(IntKind.i64.wrap ((q7.length : Int) - 1)).toNat]? = some c'6 ∧ ((c'6.toNat : Int) ≠ 34 → K false) ∧ (¬((c'6.toNat : Int) ≠ 34) → T4_4 prog K i0 n1 q7))))
theorem w4_3 {prog : Prog} {d : Nat} {Q : AE → Sl → St → Prop} {K : Bool → Prop} (hQ : ∀ (σ : Sl) (st : St) (x0 : Bool), σ 6 = .b x0 → K x0 → Q .ret σ st) {i0 : Int} {n1 : Int} {q7 : List UInt8} {e8 : Int}   {σ : Sl} {st : St} (H0 : σ 0 = .i .i64 i0) (H1 : σ 1 = .i .u64 n1) (H7 : σ 7 = .s q7) (H8 : σ 8 = .i .i64 e8) (h : T4_3 prog K i0 n1 q7 e8) : W prog d c4_6 σ st Q :=
  W.seq (W.seq (W.reg0 rfl fun _ _ => s_mvI H8 (s_bin rfl rfl (abin_neq _ _ _) (s_mvB rfl (s_em (g := 24) rfl (fun g'1 => s_gn (b := true) rfl rfl (s_gn (b := true) rfl rfl (s_gn (b := true) rfl rfl (s_pickTB rfl rfl (s_mvB rfl (s_gn (b := true) rfl rfl (s_gn (b := true) rfl rfl (s_gn (b := true) rfl rfl (s_pickTB rfl rfl (s_mvB rfl (s_gn (b := true) rfl rfl (s_gn (b := true) rfl rfl (s_gn (b := true) rfl rfl (s_gn (b := true) rfl rfl (s_gn (b := true) rfl rfl (s_gn (b := true) rfl rfl (s_pickTB rfl rfl (s_nil (c_tt rfl (W.seq (W.reg0 rfl fun _ _ => s_mvB rfl (s_nil (W.ret (hQ _ _  _ rfl  (h.1 g'1))))))))))))))))))))))))) (fun g'1 => s_gy rfl (s_mvS H7 (s_gy rfl (s_lenS rfl (s_gy rfl (s_bin rfl rfl (abin_lss _ _ _) (s_pickFB rfl rfl (s_mvB rfl (s_em (g := 29) rfl (fun g'2 => s_gn (b := true) rfl rfl (s_gn (b := true) rfl rfl (s_gn (b := true) rfl rfl (s_pickTB rfl rfl (s_mvB rfl (s_gn (b := true) rfl rfl (s_gn (b := true) rfl rfl (s_gn (b := true) rfl rfl (s_gn (b := true) rfl rfl (s_gn (b := true) rfl rfl (s_gn (b := true) rfl rfl (s_pickTB rfl rfl (s_nil (c_tt rfl (W.seq (W.reg0 rfl fun _ _ => s_mvB rfl (s_nil (W.ret (hQ _ _  _ rfl  ((h.2 g'1).1 g'2)))))))))))))))))))) (fun g'2 => s_gy rfl (s_mvS H7 (s_gy rfl (((h.2 g'1).2 g'2).elim fun c'3 e'4 => s_ixS rfl rfl (by decide) e'4.1 (s_gy rfl (s_bin rfl rfl (abin_neq _ _ _) (s_pickFB rfl rfl (s_mvB rfl (s_em (g := 34) rfl (fun g'5 => s_gn (b := true) rfl rfl (s_gn (b := true) rfl rfl (s_gn (b := true) rfl rfl (s_gn (b := true) rfl rfl (s_gn (b := true) rfl rfl (s_gn (b := true) rfl rfl (s_pickTB rfl rfl (s_nil (c_tt rfl (W.seq (W.reg0 rfl fun _ _ => s_mvB rfl (s_nil (W.ret (hQ _ _  _ rfl  (e'4.2.1 g'5))))))))))))))) (fun g'5 => s_gy rfl (s_mvS H7 (s_gy rfl (s_mvS H7 (s_gy rfl (s_lenS rfl (s_gy rfl (s_bin rfl rfl (abin_sub _ _ _) (s_gy rfl ((e'4.2.2 g'5).2.elim fun c'6 e'7 => s_ixS rfl rfl (e'4.2.2 g'5).1 e'7.1 (s_gy rfl (s_bin rfl rfl (abin_neq _ _ _) (s_pickFB rfl rfl (s_nil (c_split rfl (fun g'8 => W.seq (W.reg0 rfl fun _ _ => s_mvB rfl (s_nil (W.ret (hQ _ _  _ rfl  (e'7.2.1 g'8)))))) (fun g'8 => W.skip (w4_4 hQ  H0 H1 H7 (e'7.2.2 g'8)))))))))))))))))))))))))))))))))))))))))
def T4_2 (prog : Prog) (K : Bool → Prop) (i0 : Int) (n1 : Int) (s2 : List UInt8) : Prop :=
  ∃ r'1 : List UInt8, ∃ r'2 : Int, Pus prog 11 [.s s2] (.tup [.s r'1, .i .i64 r'2]) ∧ T4_3 prog K i0 n1 r'1 r'2
theorem w4_2 {prog : Prog} {d : Nat} {Q : AE → Sl → St → Prop} {K : Bool → Prop} (hQ : ∀ (σ : Sl) (st : St) (x0 : Bool), σ 6 = .b x0 → K x0 → Q .ret σ st) {i0 : Int} {n1 : Int} {s2 : List UInt8}   {σ : Sl} {st : St} (H0 : σ 0 = .i .i64 i0) (H1 : σ 1 = .i .u64 n1) (H2 : σ 2 = .s s2) (h : T4_2 prog K i0 n1 s2) : W prog d c4_7 σ st Q :=
  W.seq (W.reg0 rfl fun _ _ => s_mvS H2 (h.elim fun r'1 e'4 => e'4.elim fun r'2 e'3 => s_call (sc rfl rfl sn) e'3.1 (s_mvT rfl (s_ext rfl rfl (s_ext rfl rfl (s_mvS rfl (s_mvI rfl (s_nil (w4_3 hQ  H0 H1 rfl rfl e'3.2)))))))))
def T4_1 (prog : Prog) (K : Bool → Prop) (i0 : Int) (n1 : Int) (s2 : List UInt8) : Prop :=
  ((s2.length : Int) > 400 → ∃ r'2 : Bool, Pus prog 19 [] (.b r'2) ∧ K r'2) ∧ (¬((s2.length : Int) > 400) → T4_2 prog K i0 n1 s2)
theorem w4_1 {prog : Prog} {d : Nat} {Q : AE → Sl → St → Prop} {K : Bool → Prop} (hQ : ∀ (σ : Sl) (st : St) (x0 : Bool), σ 6 = .b x0 → K x0 → Q .ret σ st) {i0 : Int} {n1 : Int} {s2 : List UInt8}   {σ : Sl} {st : St} (H0 : σ 0 = .i .i64 i0) (H1 : σ 1 = .i .u64 n1) (H2 : σ 2 = .s s2) (h : T4_1 prog K i0 n1 s2) : W prog d c4_8 σ st Q :=
  W.seq (W.seq (W.reg0 rfl fun _ _ => s_mvS H2 (s_lenS rfl (s_bin rfl rfl (abin_gtr _ _ _) (s_nil (c_split rfl (fun g'1 => W.seq (W.reg0 rfl fun _ _ => (h.1 g'1).elim fun r'2 e'3 => s_call sn e'3.1 (s_mvB rfl (s_nil (W.ret (hQ _ _  _ rfl  e'3.2)))))) (fun g'1 => W.skip (w4_2 hQ  H0 H1 H2 (h.2 g'1)))))))))
def T4_0 (prog : Prog) (K : Bool → Prop) (i0 : Int) (n1 : Int) (s2 : List UInt8) : Prop :=
  T4_1 prog K i0 n1 s2
theorem w4_0 {prog : Prog} {d : Nat} {Q : AE → Sl → St → Prop} {K : Bool → Prop} (hQ : ∀ (σ : Sl) (st : St) (x0 : Bool), σ 6 = .b x0 → K x0 → Q .ret σ st) {i0 : Int} {n1 : Int} {s2 : List UInt8}   {σ : Sl} {st : St} (H0 : σ 0 = .i .i64 i0) (H1 : σ 1 = .i .u64 n1) (H2 : σ 2 = .s s2) (h : T4_0 prog K i0 n1 s2) : W prog d (.seq (.reg 0 r4_0) c4_8) σ st Q :=
  W.seq (W.reg0 rfl fun _ _ => s_mvB rfl (s_nil (w4_1 hQ  H0 H1 H2 h)))
theorem p4 {prog : Prog} (hf : prog.fn 4 = some pf4) {i0 : Int} {n1 : Int} {s2 : List UInt8} {K : Bool → Prop} (h : T4_0 prog K i0 n1 s2) : ∃ x0 : Bool, K x0 ∧ Pus prog 4 [.i .i64 i0, .i .u64 n1, .s s2] (.b x0) := by
  obtain ⟨v, hv, x0, hk, rfl⟩ := Pus.of (K := fun v => ∃ x0 : Bool, K x0 ∧ v = .b x0) hf rfl (w4_0 (σ := sl0 [.i .i64 i0, .i .u64 n1, .s s2]) (fun σ st  x0 H6 hk => ⟨.b x0, by simp only [pf4, ares, aresL, ares1, Option.map_some, H6], _, rfl, x0, hk, rfl⟩) rfl rfl rfl h)
  exact ⟨x0, hk, hv⟩

/-! wreckage/wreckagelaw03.TextLists -/
def r5_0 : List AI := [⟨(some 4), .mv (.c (.b false)), none⟩]
def r5_1 : List AI := [⟨(some 12), .mv (.t 0), none⟩,
  ⟨(some 13), .len false (.t 12), none⟩,
  ⟨(some 14), .bin .gtr (.t 13) (.c (.i .i64 64)), none⟩,
  ⟨(some 15), .mv (.t 14), none⟩,
  ⟨(some 16), .mv (.t 1), (some (15, false))⟩,
  ⟨(some 17), .len false (.t 16), (some (15, false))⟩,
  ⟨(some 18), .bin .gtr (.t 17) (.c (.i .i64 64)), (some (15, false))⟩,
  ⟨(some 19), .pick (.t 15) (.c (.b true)) (.t 18), none⟩,
  ⟨(some 20), .mv (.t 19), none⟩,
  ⟨(some 21), .bslice [.s []] 0 [], (some (20, false))⟩,
  ⟨(some 22), .mv (.t 0), (some (20, false))⟩,
  ⟨(some 23), .app 1 16 (.t 21) (.t 22), (some (20, false))⟩,
  ⟨(some 24), .mv (.t 1), (some (20, false))⟩,
  ⟨(some 25), .app 1 16 (.t 23) (.t 24), (some (20, false))⟩,
  ⟨(some 26), .call false 20 [(.t 25)], (some (20, false))⟩,
  ⟨(some 27), .un .not (.t 26), (some (20, false))⟩,
  ⟨(some 28), .pick (.t 20) (.c (.b true)) (.t 27), none⟩]
def r5_2 : List AI := [⟨(some 29), .call false 19 [], none⟩,
  ⟨(some 4), .mv (.t 29), none⟩]
def r5_3 : List AI := [⟨(some 31), .mv (.t 0), none⟩,
  ⟨(some 32), .call false 13 [(.t 31)], none⟩,
  ⟨(some 30), .mv (.t 32), none⟩,
  ⟨(some 33), .ext 0 (.t 30), none⟩,
  ⟨(some 34), .ext 1 (.t 30), none⟩,
  ⟨(some 5), .mv (.t 33), none⟩,
  ⟨(some 6), .mv (.t 34), none⟩]
def r5_4 : List AI := [⟨(some 36), .mv (.t 1), none⟩,
  ⟨(some 37), .call false 13 [(.t 36)], none⟩,
  ⟨(some 35), .mv (.t 37), none⟩,
  ⟨(some 38), .ext 0 (.t 35), none⟩,
  ⟨(some 39), .ext 1 (.t 35), none⟩,
  ⟨(some 7), .mv (.t 38), none⟩,
  ⟨(some 8), .mv (.t 39), none⟩]
def r5_5 : List AI := [⟨(some 41), .bslice [.s []] 0 [], none⟩,
  ⟨(some 42), .mv (.t 0), none⟩,
  ⟨(some 43), .app 1 16 (.t 41) (.t 42), none⟩,
  ⟨(some 44), .mv (.t 1), none⟩,
  ⟨(some 45), .app 1 16 (.t 43) (.t 44), none⟩,
  ⟨(some 46), .call false 13 [(.t 45)], none⟩,
  ⟨(some 40), .mv (.t 46), none⟩,
  ⟨(some 47), .ext 0 (.t 40), none⟩,
  ⟨(some 48), .ext 1 (.t 40), none⟩,
  ⟨(some 9), .mv (.t 47), none⟩,
  ⟨(some 10), .mv (.t 48), none⟩]
def r5_6 : List AI := [⟨(some 49), .mv (.t 6), none⟩,
  ⟨(some 50), .bin .neq (.t 49) (.c (.i .i64 0)), none⟩,
  ⟨(some 51), .mv (.t 50), none⟩,
  ⟨(some 52), .mv (.t 8), (some (51, false))⟩,
  ⟨(some 53), .bin .neq (.t 52) (.c (.i .i64 0)), (some (51, false))⟩,
  ⟨(some 54), .pick (.t 51) (.c (.b true)) (.t 53), none⟩,
  ⟨(some 55), .mv (.t 54), none⟩,
  ⟨(some 56), .mv (.t 10), (some (55, false))⟩,
  ⟨(some 57), .bin .neq (.t 56) (.c (.i .i64 0)), (some (55, false))⟩,
  ⟨(some 58), .pick (.t 55) (.c (.b true)) (.t 57), none⟩,
  ⟨(some 59), .mv (.t 58), none⟩,
  ⟨(some 60), .mv (.t 5), (some (59, false))⟩,
  ⟨(some 61), .len true (.t 60), (some (59, false))⟩,
  ⟨(some 62), .bin .lss (.t 61) (.c (.i .i64 2)), (some (59, false))⟩,
  ⟨(some 63), .pick (.t 59) (.c (.b true)) (.t 62), none⟩,
  ⟨(some 64), .mv (.t 63), none⟩,
  ⟨(some 65), .mv (.t 7), (some (64, false))⟩,
  ⟨(some 66), .len true (.t 65), (some (64, false))⟩,
  ⟨(some 67), .bin .lss (.t 66) (.c (.i .i64 2)), (some (64, false))⟩,
  ⟨(some 68), .pick (.t 64) (.c (.b true)) (.t 67), none⟩]
def r5_7 : List AI := [⟨(some 4), .mv (.c (.b false)), none⟩]
def r5_8 : List AI := [⟨(some 11), .mv (.c (.s [])), none⟩]
def r5_9 : List AI := [⟨(some 69), .mv (.t 0), none⟩,
  ⟨(some 70), .len false (.t 69), none⟩,
  ⟨(some 71), .bin .gtr (.t 70) (.c (.i .i64 0)), none⟩,
  ⟨(some 72), .mv (.t 71), none⟩,
  ⟨(some 73), .mv (.t 1), (some (72, true))⟩,
  ⟨(some 74), .len false (.t 73), (some (72, true))⟩,
  ⟨(some 75), .bin .gtr (.t 74) (.c (.i .i64 0)), (some (72, true))⟩,
  ⟨(some 76), .pick (.t 72) (.t 75) (.c (.b false)), none⟩]
def r5_10 : List AI := [⟨(some 11), .mv (.c (.s [44, 32])), none⟩]
def r5_11 : List AI := [⟨(some 77), .mv (.t 9), none⟩,
  ⟨(some 78), .mv (.t 5), none⟩,
  ⟨(some 79), .mv (.t 5), none⟩,
  ⟨(some 80), .len true (.t 79), none⟩,
  ⟨(some 81), .bin .sub (.t 80) (.c (.i .i64 1)), none⟩,
  ⟨(some 82), .slS (.t 78) none (some (.t 81)), none⟩,
  ⟨(some 83), .mv (.t 11), none⟩,
  ⟨(some 84), .bin .add (.t 82) (.t 83), none⟩,
  ⟨(some 85), .mv (.t 7), none⟩,
  ⟨(some 86), .slS (.t 85) (some (.c (.i .i64 1))) none, none⟩,
  ⟨(some 87), .bin .add (.t 84) (.t 86), none⟩,
  ⟨(some 88), .bin .eql (.t 77) (.t 87), none⟩,
  ⟨(some 89), .mv (.t 88), none⟩,
  ⟨(some 90), .call false 19 [], (some (89, true))⟩,
  ⟨(some 91), .pick (.t 89) (.t 90) (.c (.b false)), none⟩,
  ⟨(some 4), .mv (.t 91), none⟩]
abbrev c5_0 : AC := (.seq (.reg 11 r5_11) .ret)
abbrev c5_1 : AC := (.seq (.reg 4 r5_4) (.seq (.reg 5 r5_5) (.seq (.seq (.reg 6 r5_6) (.cond (.t 68) (.seq (.reg 7 r5_7) .ret) .skip)) (.seq (.reg 8 r5_8) (.seq (.seq (.reg 9 r5_9) (.cond (.t 76) (.reg 10 r5_10) .skip)) c5_0)))))
abbrev c5_2 : AC := (.seq (.reg 3 r5_3) c5_1)
abbrev c5_3 : AC := (.seq (.seq (.reg 1 r5_1) (.cond (.t 28) (.seq (.reg 2 r5_2) .ret) .skip)) c5_2)
abbrev b5 : AC := (.seq (.reg 0 r5_0) c5_3)
def pf5 : AF := { nt := 92, res := [.tmp 4], body := b5 }
def T5_4 (prog : Prog) (K : Bool → Prop) (a5 : List UInt8) (b7 : List UInt8) (c9 : List UInt8) (between11 : List UInt8) : Prop :=
  0 ≤ (IntKind.i64.wrap ((a5.length : Int) - 1)) ∧ (IntKind.i64.wrap ((a5.length : Int) - 1)).toNat ≤ a5.length ∧ (a5.take (IntKind.i64.wrap ((a5.length : Int) - 1)).toNat).length + between11.length ≤ maxStr ∧ 1 ≤ b7.length ∧ ((a5.take (IntKind.i64.wrap ((a5.length : Int) - 1)).toNat) ++ between11).length + (b7.drop 1).length ≤ maxStr ∧ (c9 = (((a5.take (IntKind.i64.wrap ((a5.length : Int) - 1)).toNat) ++ between11) ++ (b7.drop 1)) → ∃ r'2 : Bool, Pus prog 19 [] (.b r'2) ∧ K r'2) ∧ (¬(c9 = (((a5.take (IntKind.i64.wrap ((a5.length : Int) - 1)).toNat) ++ between11) ++ (b7.drop 1))) → K false)
theorem w5_4 {prog : Prog} {d : Nat} {Q : AE → Sl → St → Prop} {K : Bool → Prop} (hQ : ∀ (σ : Sl) (st : St) (x0 : Bool), σ 4 = .b x0 → K x0 → Q .ret σ st) {a5 : List UInt8} {b7 : List UInt8} {c9 : List UInt8} {between11 : List UInt8}   {σ : Sl} {st : St} (H5 : σ 5 = .s a5) (H7 : σ 7 = .s b7) (H9 : σ 9 = .s c9) (H11 : σ 11 = .s between11) (h : T5_4 prog K a5 b7 c9 between11) : W prog d c5_0 σ st Q :=
  W.seq (W.reg0 rfl fun _ _ => s_mvS H9 (s_mvS H5 (s_mvS H5 (s_lenS rfl (s_bin rfl rfl (abin_sub _ _ _) (s_slS_hi rfl rfl h.1 h.2.1 (s_mvS H11 (s_bin rfl rfl (abin_cat' h.2.2.1) (s_mvS H7 (s_slS_lo rfl rfl (by decide) h.2.2.2.1 (s_bin rfl rfl (abin_cat' h.2.2.2.2.1) (s_bin rfl rfl (abin_seq _ _) (s_mvB rfl (s_em (g := 89) rfl (fun g'1 => s_gy rfl ((h.2.2.2.2.2.1 g'1).elim fun r'2 e'3 => s_call sn e'3.1 (s_pickTB rfl rfl (s_mvB rfl (s_nil (W.ret (hQ _ _  _ rfl  e'3.2))))))) (fun g'1 => s_gn (b := false) rfl rfl (s_pickFB rfl rfl (s_mvB rfl (s_nil (W.ret (hQ _ _  _ rfl  (h.2.2.2.2.2.2 g'1)))))))))))))))))))))
def T5_3 (prog : Prog) (K : Bool → Prop) (l0 : List (List UInt8)) (m1 : List (List UInt8)) (a5 : List UInt8) (e6 : Int) : Prop :=
  ∃ r'1 : List UInt8, ∃ r'2 : Int, Pus prog 13 [.sl .ext (List.map rowS m1)] (.tup [.s r'1, .i .i64 r'2]) ∧ Fit (([] : List (List UInt8)).length + l0.length) 16 ∧ Fit ((([] : List (List UInt8)) ++ l0).length + m1.length) 16 ∧ ∃ r'14 : List UInt8, ∃ r'15 : Int, Pus prog 13 [.sl .ext (List.map rowS ((([] : List (List UInt8)) ++ l0) ++ m1))] (.tup [.s r'14, .i .i64 r'15]) ∧ (e6 ≠ 0 → K false) ∧ (¬(e6 ≠ 0) → (r'2 ≠ 0 → K false) ∧ (¬(r'2 ≠ 0) → (r'15 ≠ 0 → K false) ∧ (¬(r'15 ≠ 0) → ((a5.length : Int) < 2 → K false) ∧ (¬((a5.length : Int) < 2) → ((r'1.length : Int) < 2 → K false) ∧ (¬((r'1.length : Int) < 2) → ((l0.length : Int) > 0 → ((m1.length : Int) > 0 → T5_4 prog K a5 r'1 r'14 ([44, 32] : List UInt8)) ∧ (¬((m1.length : Int) > 0) → T5_4 prog K a5 r'1 r'14 ([] : List UInt8))) ∧ (¬((l0.length : Int) > 0) → T5_4 prog K a5 r'1 r'14 ([] : List UInt8)))))))
theorem w5_3 {prog : Prog} {d : Nat} {Q : AE → Sl → St → Prop} {K : Bool → Prop} (hQ : ∀ (σ : Sl) (st : St) (x0 : Bool), σ 4 = .b x0 → K x0 → Q .ret σ st) {l0 : List (List UInt8)} {m1 : List (List UInt8)} {a5 : List UInt8} {e6 : Int}   {σ : Sl} {st : St} {o_l0 o_m1 : Own} (H0 : σ 0 = .sl o_l0 (List.map rowS l0)) (H1 : σ 1 = .sl o_m1 (List.map rowS m1)) (H5 : σ 5 = .s a5) (H6 : σ 6 = .i .i64 e6) (h : T5_3 prog K l0 m1 a5 e6) : W prog d c5_1 σ st Q :=
  W.seq (W.reg0 rfl fun _ _ => s_mvL H1 (h.elim fun r'1 e'25 => e'25.elim fun r'2 e'3 => s_call (sc rfl rfl sn) e'3.1 (s_mvT rfl (s_ext rfl rfl (s_ext rfl rfl (s_mvS rfl (s_mvI rfl (s_nil (W.seq (W.reg0 rfl fun _ _ => s_bslM (f := rowS) (l := ([] : List (List UInt8))) rfl rfl g_nil rfl (s_mvL H0 (s_app rowS_len rfl (show _ = AV.sl .full (List.map rowS []) from rfl) rfl App.full e'3.2.1 (fun o'4 ow'7 a'5 fr'6 on'8 => s_mvL H1 (s_app rowS_len rfl rfl rfl a'5 e'3.2.2.1 (fun o'9 ow'12 a'10 fr'11 on'13 => e'3.2.2.2.elim fun r'14 e'24 => e'24.elim fun r'15 e'16 => s_call (sc rfl rfl sn) e'16.1 (s_mvT rfl (s_ext rfl rfl (s_ext rfl rfl (s_mvS rfl (s_mvI rfl (s_nil (W.seq (W.seq (W.reg0 rfl fun _ _ => s_mvI H6 (s_bin rfl rfl (abin_neq _ _ _) (s_mvB rfl (s_em (g := 51) rfl (fun g'17 => s_gn (b := true) rfl rfl (s_gn (b := true) rfl rfl (s_pickTB rfl rfl (s_mvB rfl (s_gn (b := true) rfl rfl (s_gn (b := true) rfl rfl (s_pickTB rfl rfl (s_mvB rfl (s_gn (b := true) rfl rfl (s_gn (b := true) rfl rfl (s_gn (b := true) rfl rfl (s_pickTB rfl rfl (s_mvB rfl (s_gn (b := true) rfl rfl (s_gn (b := true) rfl rfl (s_gn (b := true) rfl rfl (s_pickTB rfl rfl (s_nil (c_tt rfl (W.seq (W.reg0 rfl fun _ _ => s_mvB rfl (s_nil (W.ret (hQ _ _  _ rfl  (e'16.2.1 g'17))))))))))))))))))))))))) (fun g'17 => s_gy rfl (s_mvI rfl (s_gy rfl (s_bin rfl rfl (abin_neq _ _ _) (s_pickFB rfl rfl (s_mvB rfl (s_em (g := 55) rfl (fun g'18 => s_gn (b := true) rfl rfl (s_gn (b := true) rfl rfl (s_pickTB rfl rfl (s_mvB rfl (s_gn (b := true) rfl rfl (s_gn (b := true) rfl rfl (s_gn (b := true) rfl rfl (s_pickTB rfl rfl (s_mvB rfl (s_gn (b := true) rfl rfl (s_gn (b := true) rfl rfl (s_gn (b := true) rfl rfl (s_pickTB rfl rfl (s_nil (c_tt rfl (W.seq (W.reg0 rfl fun _ _ => s_mvB rfl (s_nil (W.ret (hQ _ _  _ rfl  ((e'16.2.2 g'17).1 g'18))))))))))))))))))))) (fun g'18 => s_gy rfl (s_mvI rfl (s_gy rfl (s_bin rfl rfl (abin_neq _ _ _) (s_pickFB rfl rfl (s_mvB rfl (s_em (g := 59) rfl (fun g'19 => s_gn (b := true) rfl rfl (s_gn (b := true) rfl rfl (s_gn (b := true) rfl rfl (s_pickTB rfl rfl (s_mvB rfl (s_gn (b := true) rfl rfl (s_gn (b := true) rfl rfl (s_gn (b := true) rfl rfl (s_pickTB rfl rfl (s_nil (c_tt rfl (W.seq (W.reg0 rfl fun _ _ => s_mvB rfl (s_nil (W.ret (hQ _ _  _ rfl  (((e'16.2.2 g'17).2 g'18).1 g'19))))))))))))))))) (fun g'19 => s_gy rfl (s_mvS H5 (s_gy rfl (s_lenS rfl (s_gy rfl (s_bin rfl rfl (abin_lss _ _ _) (s_pickFB rfl rfl (s_mvB rfl (s_em (g := 64) rfl (fun g'20 => s_gn (b := true) rfl rfl (s_gn (b := true) rfl rfl (s_gn (b := true) rfl rfl (s_pickTB rfl rfl (s_nil (c_tt rfl (W.seq (W.reg0 rfl fun _ _ => s_mvB rfl (s_nil (W.ret (hQ _ _  _ rfl  ((((e'16.2.2 g'17).2 g'18).2 g'19).1 g'20)))))))))))) (fun g'20 => s_gy rfl (s_mvS rfl (s_gy rfl (s_lenS rfl (s_gy rfl (s_bin rfl rfl (abin_lss _ _ _) (s_pickFB rfl rfl (s_nil (c_split rfl (fun g'21 => W.seq (W.reg0 rfl fun _ _ => s_mvB rfl (s_nil (W.ret (hQ _ _  _ rfl  (((((e'16.2.2 g'17).2 g'18).2 g'19).2 g'20).1 g'21)))))) (fun g'21 => W.skip (W.seq (W.reg0 rfl fun _ _ => s_mvS rfl (s_nil (W.seq (W.seq (W.reg0 rfl fun _ _ => s_mvL H0 (s_lenL rfl (s_bin rfl rfl (abin_gtr _ _ _) (s_mvB rfl (s_em (g := 72) rfl (fun g'22 => s_gy rfl (s_mvL H1 (s_gy rfl (s_lenL rfl (s_gy rfl (s_bin rfl rfl (abin_gtr _ _ _) (s_pickTB rfl rfl (s_nil (c_split rfl (fun g'23 => W.reg0 rfl fun _ _ => s_mvS rfl (s_nil (w5_4 hQ  H5 rfl rfl rfl (((((((e'16.2.2 g'17).2 g'18).2 g'19).2 g'20).2 g'21).1 g'22).1 g'23)))) (fun g'23 => W.skip (w5_4 hQ  H5 rfl rfl rfl (((((((e'16.2.2 g'17).2 g'18).2 g'19).2 g'20).2 g'21).1 g'22).2 g'23)))))))))))) (fun g'22 => s_gn (b := false) rfl rfl (s_gn (b := false) rfl rfl (s_gn (b := false) rfl rfl (s_pickFB rfl rfl (s_nil (c_ff rfl (W.skip (w5_4 hQ  H5 rfl rfl rfl ((((((e'16.2.2 g'17).2 g'18).2 g'19).2 g'20).2 g'21).2 g'22)))))))))))))))))))))))))))))))))))))))))))))))))))))))))))))))))))))))))))))))
def T5_2 (prog : Prog) (K : Bool → Prop) (l0 : List (List UInt8)) (m1 : List (List UInt8)) : Prop :=
  ∃ r'1 : List UInt8, ∃ r'2 : Int, Pus prog 13 [.sl .ext (List.map rowS l0)] (.tup [.s r'1, .i .i64 r'2]) ∧ T5_3 prog K l0 m1 r'1 r'2
theorem w5_2 {prog : Prog} {d : Nat} {Q : AE → Sl → St → Prop} {K : Bool → Prop} (hQ : ∀ (σ : Sl) (st : St) (x0 : Bool), σ 4 = .b x0 → K x0 → Q .ret σ st) {l0 : List (List UInt8)} {m1 : List (List UInt8)}   {σ : Sl} {st : St} {o_l0 o_m1 : Own} (H0 : σ 0 = .sl o_l0 (List.map rowS l0)) (H1 : σ 1 = .sl o_m1 (List.map rowS m1)) (h : T5_2 prog K l0 m1) : W prog d c5_2 σ st Q :=
  W.seq (W.reg0 rfl fun _ _ => s_mvL H0 (h.elim fun r'1 e'4 => e'4.elim fun r'2 e'3 => s_call (sc rfl rfl sn) e'3.1 (s_mvT rfl (s_ext rfl rfl (s_ext rfl rfl (s_mvS rfl (s_mvI rfl (s_nil (w5_3 hQ  H0 H1 rfl rfl e'3.2)))))))))
def T5_1 (prog : Prog) (K : Bool → Prop) (l0 : List (List UInt8)) (m1 : List (List UInt8)) : Prop :=
  ((l0.length : Int) > 64 → ∃ r'2 : Bool, Pus prog 19 [] (.b r'2) ∧ K r'2) ∧ (¬((l0.length : Int) > 64) → ((m1.length : Int) > 64 → ∃ r'5 : Bool, Pus prog 19 [] (.b r'5) ∧ K r'5) ∧ (¬((m1.length : Int) > 64) → Fit (([] : List (List UInt8)).length + l0.length) 16 ∧ Fit ((([] : List (List UInt8)) ++ l0).length + m1.length) 16 ∧ ∃ r'17 : Bool, Pus prog 20 [.sl .ext (List.map rowS ((([] : List (List UInt8)) ++ l0) ++ m1))] (.b r'17) ∧ ((!r'17) = true → ∃ r'20 : Bool, Pus prog 19 [] (.b r'20) ∧ K r'20) ∧ ((!r'17) = false → T5_2 prog K l0 m1)))
theorem w5_1 {prog : Prog} {d : Nat} {Q : AE → Sl → St → Prop} {K : Bool → Prop} (hQ : ∀ (σ : Sl) (st : St) (x0 : Bool), σ 4 = .b x0 → K x0 → Q .ret σ st) {l0 : List (List UInt8)} {m1 : List (List UInt8)}   {σ : Sl} {st : St} {o_l0 o_m1 : Own} (H0 : σ 0 = .sl o_l0 (List.map rowS l0)) (H1 : σ 1 = .sl o_m1 (List.map rowS m1)) (h : T5_1 prog K l0 m1) : W prog d c5_3 σ st Q :=
  W.seq (W.seq (W.reg0 rfl fun _ _ => s_mvL H0 (s_lenL rfl (s_bin rfl rfl (abin_gtr _ _ _) (s_mvB rfl (s_em (g := 15) rfl (fun g'1 => s_gn (b := true) rfl rfl (s_gn (b := true) rfl rfl (s_gn (b := true) rfl rfl (s_pickTB rfl rfl (s_mvB rfl (s_gn (b := true) rfl rfl (s_gn (b := true) rfl rfl (s_gn (b := true) rfl rfl (s_gn (b := true) rfl rfl (s_gn (b := true) rfl rfl (s_gn (b := true) rfl rfl (s_gn (b := true) rfl rfl (s_pickTB rfl rfl (s_nil (c_tt rfl (W.seq (W.reg0 rfl fun _ _ => (h.1 g'1).elim fun r'2 e'3 => s_call sn e'3.1 (s_mvB rfl (s_nil (W.ret (hQ _ _  _ rfl  e'3.2))))))))))))))))))))) (fun g'1 => s_gy rfl (s_mvL H1 (s_gy rfl (s_lenL rfl (s_gy rfl (s_bin rfl rfl (abin_gtr _ _ _) (s_pickFB rfl rfl (s_mvB rfl (s_em (g := 20) rfl (fun g'4 => s_gn (b := true) rfl rfl (s_gn (b := true) rfl rfl (s_gn (b := true) rfl rfl (s_gn (b := true) rfl rfl (s_gn (b := true) rfl rfl (s_gn (b := true) rfl rfl (s_gn (b := true) rfl rfl (s_pickTB rfl rfl (s_nil (c_tt rfl (W.seq (W.reg0 rfl fun _ _ => ((h.2 g'1).1 g'4).elim fun r'5 e'6 => s_call sn e'6.1 (s_mvB rfl (s_nil (W.ret (hQ _ _  _ rfl  e'6.2)))))))))))))))) (fun g'4 => s_gy rfl (s_bslM (f := rowS) (l := ([] : List (List UInt8))) rfl rfl g_nil rfl (s_gy rfl (s_mvL H0 (s_gy rfl (s_app rowS_len rfl (show _ = AV.sl .full (List.map rowS []) from rfl) rfl App.full ((h.2 g'1).2 g'4).1 (fun o'7 ow'10 a'8 fr'9 on'11 => s_gy rfl (s_mvL H1 (s_gy rfl (s_app rowS_len rfl rfl rfl a'8 ((h.2 g'1).2 g'4).2.1 (fun o'12 ow'15 a'13 fr'14 on'16 => s_gy rfl (((h.2 g'1).2 g'4).2.2.elim fun r'17 e'18 => s_call (sc rfl rfl sn) e'18.1 (s_gy rfl (s_not rfl (s_pickFB rfl rfl (s_nil (c_bool rfl (fun g'19 => W.seq (W.reg0 rfl fun _ _ => (e'18.2.1 g'19).elim fun r'20 e'21 => s_call sn e'21.1 (s_mvB rfl (s_nil (W.ret (hQ _ _  _ rfl  e'21.2)))))) (fun g'19 => W.skip (w5_2 hQ  H0 H1 (e'18.2.2 g'19)))))))))))))))))))))))))))))))))))
def T5_0 (prog : Prog) (K : Bool → Prop) (l0 : List (List UInt8)) (m1 : List (List UInt8)) : Prop :=
  T5_1 prog K l0 m1
theorem w5_0 {prog : Prog} {d : Nat} {Q : AE → Sl → St → Prop} {K : Bool → Prop} (hQ : ∀ (σ : Sl) (st : St) (x0 : Bool), σ 4 = .b x0 → K x0 → Q .ret σ st) {l0 : List (List UInt8)} {m1 : List (List UInt8)}   {σ : Sl} {st : St} {o_l0 o_m1 : Own} (H0 : σ 0 = .sl o_l0 (List.map rowS l0)) (H1 : σ 1 = .sl o_m1 (List.map rowS m1)) (h : T5_0 prog K l0 m1) : W prog d (.seq (.reg 0 r5_0) c5_3) σ st Q :=
  W.seq (W.reg0 rfl fun _ _ => s_mvB rfl (s_nil (w5_1 hQ  H0 H1 h)))
theorem p5 {prog : Prog} (hf : prog.fn 5 = some pf5) {l0 : List (List UInt8)} {m1 : List (List UInt8)} {K : Bool → Prop} (h : T5_0 prog K l0 m1) : ∃ x0 : Bool, K x0 ∧ Pus prog 5 [.sl .ext (List.map rowS l0), .sl .ext (List.map rowS m1)] (.b x0) := by
  obtain ⟨v, hv, x0, hk, rfl⟩ := Pus.of (K := fun v => ∃ x0 : Bool, K x0 ∧ v = .b x0) hf rfl (w5_0 (σ := sl0 [.sl .ext (List.map rowS l0), .sl .ext (List.map rowS m1)]) (fun σ st  x0 H4 hk => ⟨.b x0, by simp only [pf5, ares, aresL, ares1, Option.map_some, H4], _, rfl, x0, hk, rfl⟩) rfl rfl h)
  exact ⟨x0, hk, hv⟩

/-! wreckage/wreckagelaw03.TextReads -/
def r6_0 : List AI := [⟨(some 2), .mv (.c (.b false)), none⟩]
def r6_1 : List AI := [⟨(some 19), .mv (.t 0), none⟩,
  ⟨(some 20), .len true (.t 19), none⟩,
  ⟨(some 21), .bin .gtr (.t 20) (.c (.i .i64 2100)), none⟩]
def r6_2 : List AI := [⟨(some 2), .mv (.c (.b true)), none⟩]
def r6_3 : List AI := [⟨(some 23), .mv (.t 0), none⟩,
  ⟨(some 24), .call false 21 [(.t 23)], none⟩,
  ⟨(some 22), .mv (.t 24), none⟩,
  ⟨(some 25), .ext 0 (.t 22), none⟩,
  ⟨(some 26), .ext 1 (.t 22), none⟩,
  ⟨(some 3), .mv (.t 25), none⟩,
  ⟨(some 4), .mv (.t 26), none⟩]
def r6_4 : List AI := [⟨(some 28), .mv (.t 0), none⟩,
  ⟨(some 29), .call false 22 [(.t 28)], none⟩,
  ⟨(some 27), .mv (.t 29), none⟩,
  ⟨(some 30), .ext 0 (.t 27), none⟩,
  ⟨(some 31), .ext 1 (.t 27), none⟩,
  ⟨(some 5), .mv (.t 30), none⟩,
  ⟨(some 6), .mv (.t 31), none⟩]
def r6_5 : List AI := [⟨(some 33), .mv (.t 0), none⟩,
  ⟨(some 34), .call false 23 [(.t 33)], none⟩,
  ⟨(some 32), .mv (.t 34), none⟩,
  ⟨(some 35), .ext 0 (.t 32), none⟩,
  ⟨(some 36), .ext 1 (.t 32), none⟩,
  ⟨(some 7), .mv (.t 35), none⟩,
  ⟨(some 8), .mv (.t 36), none⟩]
def r6_6 : List AI := [⟨(some 38), .mv (.t 0), none⟩,
  ⟨(some 39), .call false 24 [(.t 38)], none⟩,
  ⟨(some 37), .mv (.t 39), none⟩,
  ⟨(some 40), .ext 0 (.t 37), none⟩,
  ⟨(some 41), .ext 1 (.t 37), none⟩,
  ⟨(some 9), .mv (.t 40), none⟩,
  ⟨(some 10), .mv (.t 41), none⟩]
def r6_7 : List AI := [⟨(some 43), .mv (.t 0), none⟩,
  ⟨(some 44), .call false 25 [(.t 43)], none⟩,
  ⟨(some 42), .mv (.t 44), none⟩,
  ⟨(some 45), .ext 0 (.t 42), none⟩,
  ⟨(some 46), .ext 1 (.t 42), none⟩,
  ⟨(some 11), .mv (.t 45), none⟩,
  ⟨(some 12), .mv (.t 46), none⟩]
def r6_8 : List AI := [⟨(some 48), .mv (.t 0), none⟩,
  ⟨(some 49), .call false 26 [(.t 48)], none⟩,
  ⟨(some 47), .mv (.t 49), none⟩,
  ⟨(some 50), .ext 0 (.t 47), none⟩,
  ⟨(some 51), .ext 1 (.t 47), none⟩,
  ⟨(some 13), .mv (.t 50), none⟩,
  ⟨(some 14), .mv (.t 51), none⟩]
def r6_9 : List AI := [⟨(some 53), .mv (.t 0), none⟩,
  ⟨(some 54), .call false 27 [(.t 53)], none⟩,
  ⟨(some 52), .mv (.t 54), none⟩,
  ⟨(some 55), .ext 0 (.t 52), none⟩,
  ⟨(some 56), .ext 1 (.t 52), none⟩,
  ⟨(some 15), .mv (.t 55), none⟩,
  ⟨(some 16), .mv (.t 56), none⟩]
def r6_10 : List AI := [⟨(some 58), .mv (.t 0), none⟩,
  ⟨(some 59), .call false 28 [(.t 58)], none⟩,
  ⟨(some 57), .mv (.t 59), none⟩,
  ⟨(some 60), .ext 0 (.t 57), none⟩,
  ⟨(some 61), .ext 1 (.t 57), none⟩,
  ⟨(some 17), .mv (.t 60), none⟩,
  ⟨(some 18), .mv (.t 61), none⟩]
def r6_11 : List AI := [⟨(some 62), .mv (.t 3), none⟩,
  ⟨(some 63), .mv (.t 5), none⟩,
  ⟨(some 64), .bin .eql (.t 62) (.t 63), none⟩,
  ⟨(some 65), .mv (.t 64), none⟩,
  ⟨(some 66), .mv (.t 4), (some (65, true))⟩,
  ⟨(some 67), .mv (.t 6), (some (65, true))⟩,
  ⟨(some 68), .bin .eql (.t 66) (.t 67), (some (65, true))⟩,
  ⟨(some 69), .pick (.t 65) (.t 68) (.c (.b false)), none⟩,
  ⟨(some 70), .mv (.t 69), none⟩,
  ⟨(some 71), .mv (.t 7), (some (70, true))⟩,
  ⟨(some 72), .mv (.t 9), (some (70, true))⟩,
  ⟨(some 73), .bin .eql (.t 71) (.t 72), (some (70, true))⟩,
  ⟨(some 74), .pick (.t 70) (.t 73) (.c (.b false)), none⟩,
  ⟨(some 75), .mv (.t 74), none⟩,
  ⟨(some 76), .mv (.t 8), (some (75, true))⟩,
  ⟨(some 77), .mv (.t 10), (some (75, true))⟩,
  ⟨(some 78), .bin .eql (.t 76) (.t 77), (some (75, true))⟩,
  ⟨(some 79), .pick (.t 75) (.t 78) (.c (.b false)), none⟩,
  ⟨(some 80), .mv (.t 79), none⟩,
  ⟨(some 81), .mv (.t 11), (some (80, true))⟩,
  ⟨(some 82), .mv (.t 13), (some (80, true))⟩,
  ⟨(some 83), .bin .eql (.t 81) (.t 82), (some (80, true))⟩,
  ⟨(some 84), .pick (.t 80) (.t 83) (.c (.b false)), none⟩,
  ⟨(some 85), .mv (.t 84), none⟩,
  ⟨(some 86), .mv (.t 12), (some (85, true))⟩,
  ⟨(some 87), .mv (.t 14), (some (85, true))⟩,
  ⟨(some 88), .bin .eql (.t 86) (.t 87), (some (85, true))⟩,
  ⟨(some 89), .pick (.t 85) (.t 88) (.c (.b false)), none⟩,
  ⟨(some 90), .mv (.t 89), none⟩,
  ⟨(some 91), .mv (.t 15), (some (90, true))⟩,
  ⟨(some 92), .mv (.t 17), (some (90, true))⟩,
  ⟨(some 93), .call false 29 [(.t 91), (.t 92)], (some (90, true))⟩,
  ⟨(some 94), .pick (.t 90) (.t 93) (.c (.b false)), none⟩,
  ⟨(some 95), .mv (.t 94), none⟩,
  ⟨(some 96), .mv (.t 16), (some (95, true))⟩,
  ⟨(some 97), .mv (.t 18), (some (95, true))⟩,
  ⟨(some 98), .bin .eql (.t 96) (.t 97), (some (95, true))⟩,
  ⟨(some 99), .pick (.t 95) (.t 98) (.c (.b false)), none⟩,
  ⟨(some 2), .mv (.t 99), none⟩]
abbrev c6_0 : AC := (.seq (.reg 7 r6_7) (.seq (.reg 8 r6_8) (.seq (.reg 9 r6_9) (.seq (.reg 10 r6_10) (.seq (.reg 11 r6_11) .ret)))))
abbrev c6_1 : AC := (.seq (.reg 6 r6_6) c6_0)
abbrev c6_2 : AC := (.seq (.reg 5 r6_5) c6_1)
abbrev c6_3 : AC := (.seq (.reg 4 r6_4) c6_2)
abbrev c6_4 : AC := (.seq (.reg 3 r6_3) c6_3)
abbrev c6_5 : AC := (.seq (.seq (.reg 1 r6_1) (.cond (.t 21) (.seq (.reg 2 r6_2) .ret) .skip)) c6_4)
abbrev b6 : AC := (.seq (.reg 0 r6_0) c6_5)
def pf6 : AF := { nt := 100, res := [.tmp 2], body := b6 }
def T6_6 (prog : Prog) (K : Bool → Prop) (s0 : List UInt8) (a3 : Int) (e4 : Int) (b5 : Int) (f6 : Int) (c7 : Int) (g8 : Int) (d9 : Int) (h10 : Int) : Prop :=
  ∃ r'1 : List UInt8, ∃ r'2 : Int, Pus prog 25 [.s s0] (.tup [.s r'1, .i .i64 r'2]) ∧ ∃ r'4 : List UInt8, ∃ r'5 : Int, Pus prog 26 [.s s0] (.tup [.s r'4, .i .i64 r'5]) ∧ ∃ r'7 : List (List UInt8), ∃ r'8 : Int, Pus prog 27 [.s s0] (.tup [.sl .ext (List.map rowS r'7), .i .i64 r'8]) ∧ ∃ r'10 : List (List UInt8), ∃ r'11 : Int, Pus prog 28 [.s s0] (.tup [.sl .ext (List.map rowS r'10), .i .i64 r'11]) ∧ (a3 = b5 → (e4 = f6 → (c7 = d9 → (g8 = h10 → (r'1 = r'4 → (r'2 = r'5 → ∃ r'19 : Bool, Pus prog 29 [.sl .ext (List.map rowS r'7), .sl .ext (List.map rowS r'10)] (.b r'19) ∧ (r'19 = true → K (decide (r'8 = r'11))) ∧ (r'19 = false → K false)) ∧ (¬(r'2 = r'5) → K false)) ∧ (¬(r'1 = r'4) → K false)) ∧ (¬(g8 = h10) → K false)) ∧ (¬(c7 = d9) → K false)) ∧ (¬(e4 = f6) → K false)) ∧ (¬(a3 = b5) → K false)
theorem w6_6 {prog : Prog} {d : Nat} {Q : AE → Sl → St → Prop} {K : Bool → Prop} (hQ : ∀ (σ : Sl) (st : St) (x0 : Bool), σ 2 = .b x0 → K x0 → Q .ret σ st) {s0 : List UInt8} {a3 : Int} {e4 : Int} {b5 : Int} {f6 : Int} {c7 : Int} {g8 : Int} {d9 : Int} {h10 : Int}   {σ : Sl} {st : St} (H0 : σ 0 = .s s0) (H3 : σ 3 = .i .i64 a3) (H4 : σ 4 = .i .i64 e4) (H5 : σ 5 = .i .i64 b5) (H6 : σ 6 = .i .i64 f6) (H7 : σ 7 = .i .u64 c7) (H8 : σ 8 = .i .i64 g8) (H9 : σ 9 = .i .u64 d9) (H10 : σ 10 = .i .i64 h10) (h : T6_6 prog K s0 a3 e4 b5 f6 c7 g8 d9 h10) : W prog d c6_0 σ st Q :=
  W.seq (W.reg0 rfl fun _ _ => s_mvS H0 (h.elim fun r'1 e'25 => e'25.elim fun r'2 e'3 => s_call (sc rfl rfl sn) e'3.1 (s_mvT rfl (s_ext rfl rfl (s_ext rfl rfl (s_mvS rfl (s_mvI rfl (s_nil (W.seq (W.reg0 rfl fun _ _ => s_mvS H0 (e'3.2.elim fun r'4 e'24 => e'24.elim fun r'5 e'6 => s_call (sc rfl rfl sn) e'6.1 (s_mvT rfl (s_ext rfl rfl (s_ext rfl rfl (s_mvS rfl (s_mvI rfl (s_nil (W.seq (W.reg0 rfl fun _ _ => s_mvS H0 (e'6.2.elim fun r'7 e'23 => e'23.elim fun r'8 e'9 => s_call (sc rfl rfl sn) e'9.1 (s_mvT rfl (s_ext rfl rfl (s_ext rfl rfl (s_mvL rfl (s_mvI rfl (s_nil (W.seq (W.reg0 rfl fun _ _ => s_mvS H0 (e'9.2.elim fun r'10 e'22 => e'22.elim fun r'11 e'12 => s_call (sc rfl rfl sn) e'12.1 (s_mvT rfl (s_ext rfl rfl (s_ext rfl rfl (s_mvL rfl (s_mvI rfl (s_nil (W.seq (W.reg0 rfl fun _ _ => s_mvI H3 (s_mvI H5 (s_bin rfl rfl (abin_eql _ _ _) (s_mvB rfl (s_em (g := 65) rfl (fun g'13 => s_gy rfl (s_mvI H4 (s_gy rfl (s_mvI H6 (s_gy rfl (s_bin rfl rfl (abin_eql _ _ _) (s_pickTB rfl rfl (s_mvB rfl (s_em (g := 70) rfl (fun g'14 => s_gy rfl (s_mvI H7 (s_gy rfl (s_mvI H9 (s_gy rfl (s_bin rfl rfl (abin_eql _ _ _) (s_pickTB rfl rfl (s_mvB rfl (s_em (g := 75) rfl (fun g'15 => s_gy rfl (s_mvI H8 (s_gy rfl (s_mvI H10 (s_gy rfl (s_bin rfl rfl (abin_eql _ _ _) (s_pickTB rfl rfl (s_mvB rfl (s_em (g := 80) rfl (fun g'16 => s_gy rfl (s_mvS rfl (s_gy rfl (s_mvS rfl (s_gy rfl (s_bin rfl rfl (abin_seq _ _) (s_pickTB rfl rfl (s_mvB rfl (s_em (g := 85) rfl (fun g'17 => s_gy rfl (s_mvI rfl (s_gy rfl (s_mvI rfl (s_gy rfl (s_bin rfl rfl (abin_eql _ _ _) (s_pickTB rfl rfl (s_mvB rfl (s_em (g := 90) rfl (fun g'18 => s_gy rfl (s_mvL rfl (s_gy rfl (s_mvL rfl (s_gy rfl (((((((e'12.2.1 g'13).1 g'14).1 g'15).1 g'16).1 g'17).1 g'18).elim fun r'19 e'20 => s_call (sc rfl rfl (sc rfl rfl sn)) e'20.1 (s_pickTB rfl rfl (s_mvB rfl (s_emb (g := 95) rfl (fun g'21 => s_gy rfl (s_mvI rfl (s_gy rfl (s_mvI rfl (s_gy rfl (s_bin rfl rfl (abin_eql _ _ _) (s_pickTB rfl rfl (s_mvB rfl (s_nil (W.ret (hQ _ _  _ rfl  (e'20.2.1 g'21)))))))))))) (fun g'21 => s_gn (b := false) rfl rfl (s_gn (b := false) rfl rfl (s_gn (b := false) rfl rfl (s_pickFB rfl rfl (s_mvB rfl (s_nil (W.ret (hQ _ _  _ rfl  (e'20.2.2 g'21)))))))))))))))))) (fun g'18 => s_gn (b := false) rfl rfl (s_gn (b := false) rfl rfl (s_gn (b := false) rfl rfl (s_pickFB rfl rfl (s_mvB rfl (s_gn (b := false) rfl rfl (s_gn (b := false) rfl rfl (s_gn (b := false) rfl rfl (s_pickFB rfl rfl (s_mvB rfl (s_nil (W.ret (hQ _ _  _ rfl  ((((((e'12.2.1 g'13).1 g'14).1 g'15).1 g'16).1 g'17).2 g'18))))))))))))))))))))))) (fun g'17 => s_gn (b := false) rfl rfl (s_gn (b := false) rfl rfl (s_gn (b := false) rfl rfl (s_pickFB rfl rfl (s_mvB rfl (s_gn (b := false) rfl rfl (s_gn (b := false) rfl rfl (s_gn (b := false) rfl rfl (s_pickFB rfl rfl (s_mvB rfl (s_gn (b := false) rfl rfl (s_gn (b := false) rfl rfl (s_gn (b := false) rfl rfl (s_pickFB rfl rfl (s_mvB rfl (s_nil (W.ret (hQ _ _  _ rfl  (((((e'12.2.1 g'13).1 g'14).1 g'15).1 g'16).2 g'17)))))))))))))))))))))))))))) (fun g'16 => s_gn (b := false) rfl rfl (s_gn (b := false) rfl rfl (s_gn (b := false) rfl rfl (s_pickFB rfl rfl (s_mvB rfl (s_gn (b := false) rfl rfl (s_gn (b := false) rfl rfl (s_gn (b := false) rfl rfl (s_pickFB rfl rfl (s_mvB rfl (s_gn (b := false) rfl rfl (s_gn (b := false) rfl rfl (s_gn (b := false) rfl rfl (s_pickFB rfl rfl (s_mvB rfl (s_gn (b := false) rfl rfl (s_gn (b := false) rfl rfl (s_gn (b := false) rfl rfl (s_pickFB rfl rfl (s_mvB rfl (s_nil (W.ret (hQ _ _  _ rfl  ((((e'12.2.1 g'13).1 g'14).1 g'15).2 g'16))))))))))))))))))))))))))))))))) (fun g'15 => s_gn (b := false) rfl rfl (s_gn (b := false) rfl rfl (s_gn (b := false) rfl rfl (s_pickFB rfl rfl (s_mvB rfl (s_gn (b := false) rfl rfl (s_gn (b := false) rfl rfl (s_gn (b := false) rfl rfl (s_pickFB rfl rfl (s_mvB rfl (s_gn (b := false) rfl rfl (s_gn (b := false) rfl rfl (s_gn (b := false) rfl rfl (s_pickFB rfl rfl (s_mvB rfl (s_gn (b := false) rfl rfl (s_gn (b := false) rfl rfl (s_gn (b := false) rfl rfl (s_pickFB rfl rfl (s_mvB rfl (s_gn (b := false) rfl rfl (s_gn (b := false) rfl rfl (s_gn (b := false) rfl rfl (s_pickFB rfl rfl (s_mvB rfl (s_nil (W.ret (hQ _ _  _ rfl  (((e'12.2.1 g'13).1 g'14).2 g'15)))))))))))))))))))))))))))))))))))))) (fun g'14 => s_gn (b := false) rfl rfl (s_gn (b := false) rfl rfl (s_gn (b := false) rfl rfl (s_pickFB rfl rfl (s_mvB rfl (s_gn (b := false) rfl rfl (s_gn (b := false) rfl rfl (s_gn (b := false) rfl rfl (s_pickFB rfl rfl (s_mvB rfl (s_gn (b := false) rfl rfl (s_gn (b := false) rfl rfl (s_gn (b := false) rfl rfl (s_pickFB rfl rfl (s_mvB rfl (s_gn (b := false) rfl rfl (s_gn (b := false) rfl rfl (s_gn (b := false) rfl rfl (s_pickFB rfl rfl (s_mvB rfl (s_gn (b := false) rfl rfl (s_gn (b := false) rfl rfl (s_gn (b := false) rfl rfl (s_pickFB rfl rfl (s_mvB rfl (s_gn (b := false) rfl rfl (s_gn (b := false) rfl rfl (s_gn (b := false) rfl rfl (s_pickFB rfl rfl (s_mvB rfl (s_nil (W.ret (hQ _ _  _ rfl  ((e'12.2.1 g'13).2 g'14))))))))))))))))))))))))))))))))))))))))))) (fun g'13 => s_gn (b := false) rfl rfl (s_gn (b := false) rfl rfl (s_gn (b := false) rfl rfl (s_pickFB rfl rfl (s_mvB rfl (s_gn (b := false) rfl rfl (s_gn (b := false) rfl rfl (s_gn (b := false) rfl rfl (s_pickFB rfl rfl (s_mvB rfl (s_gn (b := false) rfl rfl (s_gn (b := false) rfl rfl (s_gn (b := false) rfl rfl (s_pickFB rfl rfl (s_mvB rfl (s_gn (b := false) rfl rfl (s_gn (b := false) rfl rfl (s_gn (b := false) rfl rfl (s_pickFB rfl rfl (s_mvB rfl (s_gn (b := false) rfl rfl (s_gn (b := false) rfl rfl (s_gn (b := false) rfl rfl (s_pickFB rfl rfl (s_mvB rfl (s_gn (b := false) rfl rfl (s_gn (b := false) rfl rfl (s_gn (b := false) rfl rfl (s_pickFB rfl rfl (s_mvB rfl (s_gn (b := false) rfl rfl (s_gn (b := false) rfl rfl (s_gn (b := false) rfl rfl (s_pickFB rfl rfl (s_mvB rfl (s_nil (W.ret (hQ _ _  _ rfl  (e'12.2.2 g'13))))))))))))))))))))))))))))))))))))))))))))))))))))))))))))))))))))))))))))))))
def T6_5 (prog : Prog) (K : Bool → Prop) (s0 : List UInt8) (a3 : Int) (e4 : Int) (b5 : Int) (f6 : Int) (c7 : Int) (g8 : Int) : Prop :=
  ∃ r'1 : Int, ∃ r'2 : Int, Pus prog 24 [.s s0] (.tup [.i .u64 r'1, .i .i64 r'2]) ∧ T6_6 prog K s0 a3 e4 b5 f6 c7 g8 r'1 r'2
theorem w6_5 {prog : Prog} {d : Nat} {Q : AE → Sl → St → Prop} {K : Bool → Prop} (hQ : ∀ (σ : Sl) (st : St) (x0 : Bool), σ 2 = .b x0 → K x0 → Q .ret σ st) {s0 : List UInt8} {a3 : Int} {e4 : Int} {b5 : Int} {f6 : Int} {c7 : Int} {g8 : Int}   {σ : Sl} {st : St} (H0 : σ 0 = .s s0) (H3 : σ 3 = .i .i64 a3) (H4 : σ 4 = .i .i64 e4) (H5 : σ 5 = .i .i64 b5) (H6 : σ 6 = .i .i64 f6) (H7 : σ 7 = .i .u64 c7) (H8 : σ 8 = .i .i64 g8) (h : T6_5 prog K s0 a3 e4 b5 f6 c7 g8) : W prog d c6_1 σ st Q :=
  W.seq (W.reg0 rfl fun _ _ => s_mvS H0 (h.elim fun r'1 e'4 => e'4.elim fun r'2 e'3 => s_call (sc rfl rfl sn) e'3.1 (s_mvT rfl (s_ext rfl rfl (s_ext rfl rfl (s_mvI rfl (s_mvI rfl (s_nil (w6_6 hQ  H0 H3 H4 H5 H6 H7 H8 rfl rfl e'3.2)))))))))
def T6_4 (prog : Prog) (K : Bool → Prop) (s0 : List UInt8) (a3 : Int) (e4 : Int) (b5 : Int) (f6 : Int) : Prop :=
  ∃ r'1 : Int, ∃ r'2 : Int, Pus prog 23 [.s s0] (.tup [.i .u64 r'1, .i .i64 r'2]) ∧ T6_5 prog K s0 a3 e4 b5 f6 r'1 r'2
theorem w6_4 {prog : Prog} {d : Nat} {Q : AE → Sl → St → Prop} {K : Bool → Prop} (hQ : ∀ (σ : Sl) (st : St) (x0 : Bool), σ 2 = .b x0 → K x0 → Q .ret σ st) {s0 : List UInt8} {a3 : Int} {e4 : Int} {b5 : Int} {f6 : Int}   {σ : Sl} {st : St} (H0 : σ 0 = .s s0) (H3 : σ 3 = .i .i64 a3) (H4 : σ 4 = .i .i64 e4) (H5 : σ 5 = .i .i64 b5) (H6 : σ 6 = .i .i64 f6) (h : T6_4 prog K s0 a3 e4 b5 f6) : W prog d c6_2 σ st Q :=
  W.seq (W.reg0 rfl fun _ _ => s_mvS H0 (h.elim fun r'1 e'4 => e'4.elim fun r'2 e'3 => s_call (sc rfl rfl sn) e'3.1 (s_mvT rfl (s_ext rfl rfl (s_ext rfl rfl (s_mvI rfl (s_mvI rfl (s_nil (w6_5 hQ  H0 H3 H4 H5 H6 rfl rfl e'3.2)))))))))
def T6_3 (prog : Prog) (K : Bool → Prop) (s0 : List UInt8) (a3 : Int) (e4 : Int) : Prop :=
  ∃ r'1 : Int, ∃ r'2 : Int, Pus prog 22 [.s s0] (.tup [.i .i64 r'1, .i .i64 r'2]) ∧ T6_4 prog K s0 a3 e4 r'1 r'2
theorem w6_3 {prog : Prog} {d : Nat} {Q : AE → Sl → St → Prop} {K : Bool → Prop} (hQ : ∀ (σ : Sl) (st : St) (x0 : Bool), σ 2 = .b x0 → K x0 → Q .ret σ st) {s0 : List UInt8} {a3 : Int} {e4 : Int}   {σ : Sl} {st : St} (H0 : σ 0 = .s s0) (H3 : σ 3 = .i .i64 a3) (H4 : σ 4 = .i .i64 e4) (h : T6_3 prog K s0 a3 e4) : W prog d c6_3 σ st Q :=
  W.seq (W.reg0 rfl fun _ _ => s_mvS H0 (h.elim fun r'1 e'4 => e'4.elim fun r'2 e'3 => s_call (sc rfl rfl sn) e'3.1 (s_mvT rfl (s_ext rfl rfl (s_ext rfl rfl (s_mvI rfl (s_mvI rfl (s_nil (w6_4 hQ  H0 H3 H4 rfl rfl e'3.2)))))))))
def T6_2 (prog : Prog) (K : Bool → Prop) (s0 : List UInt8) : Prop :=
  ∃ r'1 : Int, ∃ r'2 : Int, Pus prog 21 [.s s0] (.tup [.i .i64 r'1, .i .i64 r'2]) ∧ T6_3 prog K s0 r'1 r'2
theorem w6_2 {prog : Prog} {d : Nat} {Q : AE → Sl → St → Prop} {K : Bool → Prop} (hQ : ∀ (σ : Sl) (st : St) (x0 : Bool), σ 2 = .b x0 → K x0 → Q .ret σ st) {s0 : List UInt8}   {σ : Sl} {st : St} (H0 : σ 0 = .s s0) (h : T6_2 prog K s0) : W prog d c6_4 σ st Q :=
  W.seq (W.reg0 rfl fun _ _ => s_mvS H0 (h.elim fun r'1 e'4 => e'4.elim fun r'2 e'3 => s_call (sc rfl rfl sn) e'3.1 (s_mvT rfl (s_ext rfl rfl (s_ext rfl rfl (s_mvI rfl (s_mvI rfl (s_nil (w6_3 hQ  H0 rfl rfl e'3.2)))))))))
def T6_1 (prog : Prog) (K : Bool → Prop) (s0 : List UInt8) : Prop :=
  ((s0.length : Int) > 2100 → K true) ∧ (¬((s0.length : Int) > 2100) → T6_2 prog K s0)
theorem w6_1 {prog : Prog} {d : Nat} {Q : AE → Sl → St → Prop} {K : Bool → Prop} (hQ : ∀ (σ : Sl) (st : St) (x0 : Bool), σ 2 = .b x0 → K x0 → Q .ret σ st) {s0 : List UInt8}   {σ : Sl} {st : St} (H0 : σ 0 = .s s0) (h : T6_1 prog K s0) : W prog d c6_5 σ st Q :=
  W.seq (W.seq (W.reg0 rfl fun _ _ => s_mvS H0 (s_lenS rfl (s_bin rfl rfl (abin_gtr _ _ _) (s_nil (c_split rfl (fun g'1 => W.seq (W.reg0 rfl fun _ _ => s_mvB rfl (s_nil (W.ret (hQ _ _  _ rfl  (h.1 g'1)))))) (fun g'1 => W.skip (w6_2 hQ  H0 (h.2 g'1)))))))))
def T6_0 (prog : Prog) (K : Bool → Prop) (s0 : List UInt8) : Prop :=
  T6_1 prog K s0
theorem w6_0 {prog : Prog} {d : Nat} {Q : AE → Sl → St → Prop} {K : Bool → Prop} (hQ : ∀ (σ : Sl) (st : St) (x0 : Bool), σ 2 = .b x0 → K x0 → Q .ret σ st) {s0 : List UInt8}   {σ : Sl} {st : St} (H0 : σ 0 = .s s0) (h : T6_0 prog K s0) : W prog d (.seq (.reg 0 r6_0) c6_5) σ st Q :=
  W.seq (W.reg0 rfl fun _ _ => s_mvB rfl (s_nil (w6_1 hQ  H0 h)))
theorem p6 {prog : Prog} (hf : prog.fn 6 = some pf6) {s0 : List UInt8} {K : Bool → Prop} (h : T6_0 prog K s0) : ∃ x0 : Bool, K x0 ∧ Pus prog 6 [.s s0] (.b x0) := by
  obtain ⟨v, hv, x0, hk, rfl⟩ := Pus.of (K := fun v => ∃ x0 : Bool, K x0 ∧ v = .b x0) hf rfl (w6_0 (σ := sl0 [.s s0]) (fun σ st  x0 H2 hk => ⟨.b x0, by simp only [pf6, ares, aresL, ares1, Option.map_some, H2], _, rfl, x0, hk, rfl⟩) rfl h)
  exact ⟨x0, hk, hv⟩

end Go.AM
