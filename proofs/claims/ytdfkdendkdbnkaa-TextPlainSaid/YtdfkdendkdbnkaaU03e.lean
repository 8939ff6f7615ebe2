/- MADE BY PROGRAM (tl.py). -/
import Derived.Test.YtdfkdendkdbnkaaS0
set_option linter.all false
namespace Go.AM
open Go
set_option linter.unusedVariables false
set_option linter.unusedSimpArgs false
set_option maxRecDepth 4000
attribute [local irreducible] WO fillCells fillRows

/-! wreckage/wreckagelaw03.TextBack -/
def r8_0 : List AI := [⟨(some 8), .mv (.c (.b false)), none⟩]
def r8_1 : List AI := [⟨(some 21), .mv (.t 2), none⟩,
  ⟨(some 22), .len true (.t 21), none⟩,
  ⟨(some 23), .bin .gtr (.t 22) (.c (.i .i64 400)), none⟩,
  ⟨(some 24), .mv (.t 23), none⟩,
  ⟨(some 25), .mv (.t 3), (some (24, false))⟩,
  ⟨(some 26), .call false 20 [(.t 25)], (some (24, false))⟩,
  ⟨(some 27), .un .not (.t 26), (some (24, false))⟩,
  ⟨(some 28), .pick (.t 24) (.c (.b true)) (.t 27), none⟩]
def r8_2 : List AI := [⟨(some 29), .call false 19 [], none⟩,
  ⟨(some 8), .mv (.t 29), none⟩]
def r8_3 : List AI := [⟨(some 31), .mv (.t 0), none⟩,
  ⟨(some 32), .call false 15 [(.t 31)], none⟩,
  ⟨(some 33), .call false 21 [(.t 32)], none⟩,
  ⟨(some 30), .mv (.t 33), none⟩,
  ⟨(some 34), .ext 0 (.t 30), none⟩,
  ⟨(some 35), .ext 1 (.t 30), none⟩,
  ⟨(some 9), .mv (.t 34), none⟩,
  ⟨(some 10), .mv (.t 35), none⟩]
def r8_4 : List AI := [⟨(some 37), .mv (.t 1), none⟩,
  ⟨(some 38), .call false 17 [(.t 37)], none⟩,
  ⟨(some 39), .call false 23 [(.t 38)], none⟩,
  ⟨(some 36), .mv (.t 39), none⟩,
  ⟨(some 40), .ext 0 (.t 36), none⟩,
  ⟨(some 41), .ext 1 (.t 36), none⟩,
  ⟨(some 11), .mv (.t 40), none⟩,
  ⟨(some 12), .mv (.t 41), none⟩]
def r8_5 : List AI := [⟨(some 43), .mv (.t 2), none⟩,
  ⟨(some 44), .call false 11 [(.t 43)], none⟩,
  ⟨(some 42), .mv (.t 44), none⟩,
  ⟨(some 45), .ext 0 (.t 42), none⟩,
  ⟨(some 46), .ext 1 (.t 42), none⟩,
  ⟨(some 13), .mv (.t 45), none⟩,
  ⟨(some 14), .mv (.t 46), none⟩]
def r8_6 : List AI := [⟨(some 48), .mv (.t 13), none⟩,
  ⟨(some 49), .call false 25 [(.t 48)], none⟩,
  ⟨(some 47), .mv (.t 49), none⟩,
  ⟨(some 50), .ext 0 (.t 47), none⟩,
  ⟨(some 51), .ext 1 (.t 47), none⟩,
  ⟨(some 15), .mv (.t 50), none⟩,
  ⟨(some 16), .mv (.t 51), none⟩]
def r8_7 : List AI := [⟨(some 53), .mv (.t 3), none⟩,
  ⟨(some 54), .call false 13 [(.t 53)], none⟩,
  ⟨(some 52), .mv (.t 54), none⟩,
  ⟨(some 55), .ext 0 (.t 52), none⟩,
  ⟨(some 56), .ext 1 (.t 52), none⟩,
  ⟨(some 17), .mv (.t 55), none⟩,
  ⟨(some 18), .mv (.t 56), none⟩]
def r8_8 : List AI := [⟨(some 58), .mv (.t 17), none⟩,
  ⟨(some 59), .call false 27 [(.t 58)], none⟩,
  ⟨(some 57), .mv (.t 59), none⟩,
  ⟨(some 60), .ext 0 (.t 57), none⟩,
  ⟨(some 61), .ext 1 (.t 57), none⟩,
  ⟨(some 19), .mv (.t 60), none⟩,
  ⟨(some 20), .mv (.t 61), none⟩]
def r8_9 : List AI := [⟨(some 62), .mv (.t 10), none⟩,
  ⟨(some 63), .bin .eql (.t 62) (.c (.i .i64 0)), none⟩,
  ⟨(some 64), .mv (.t 63), none⟩,
  ⟨(some 65), .mv (.t 9), (some (64, true))⟩,
  ⟨(some 66), .mv (.t 0), (some (64, true))⟩,
  ⟨(some 67), .bin .eql (.t 65) (.t 66), (some (64, true))⟩,
  ⟨(some 68), .pick (.t 64) (.t 67) (.c (.b false)), none⟩,
  ⟨(some 69), .mv (.t 68), none⟩,
  ⟨(some 70), .mv (.t 12), (some (69, true))⟩,
  ⟨(some 71), .bin .eql (.t 70) (.c (.i .i64 0)), (some (69, true))⟩,
  ⟨(some 72), .pick (.t 69) (.t 71) (.c (.b false)), none⟩,
  ⟨(some 73), .mv (.t 72), none⟩,
  ⟨(some 74), .mv (.t 11), (some (73, true))⟩,
  ⟨(some 75), .mv (.t 1), (some (73, true))⟩,
  ⟨(some 76), .bin .eql (.t 74) (.t 75), (some (73, true))⟩,
  ⟨(some 77), .pick (.t 73) (.t 76) (.c (.b false)), none⟩,
  ⟨(some 78), .mv (.t 77), none⟩,
  ⟨(some 79), .mv (.t 14), (some (78, true))⟩,
  ⟨(some 80), .bin .eql (.t 79) (.c (.i .i64 0)), (some (78, true))⟩,
  ⟨(some 81), .pick (.t 78) (.t 80) (.c (.b false)), none⟩,
  ⟨(some 82), .mv (.t 81), none⟩,
  ⟨(some 83), .mv (.t 16), (some (82, true))⟩,
  ⟨(some 84), .bin .eql (.t 83) (.c (.i .i64 0)), (some (82, true))⟩,
  ⟨(some 85), .pick (.t 82) (.t 84) (.c (.b false)), none⟩,
  ⟨(some 86), .mv (.t 85), none⟩,
  ⟨(some 87), .mv (.t 15), (some (86, true))⟩,
  ⟨(some 88), .mv (.t 2), (some (86, true))⟩,
  ⟨(some 89), .bin .eql (.t 87) (.t 88), (some (86, true))⟩,
  ⟨(some 90), .pick (.t 86) (.t 89) (.c (.b false)), none⟩,
  ⟨(some 91), .mv (.t 90), none⟩,
  ⟨(some 92), .mv (.t 18), (some (91, true))⟩,
  ⟨(some 93), .bin .eql (.t 92) (.c (.i .i64 0)), (some (91, true))⟩,
  ⟨(some 94), .pick (.t 91) (.t 93) (.c (.b false)), none⟩,
  ⟨(some 95), .mv (.t 94), none⟩,
  ⟨(some 96), .mv (.t 20), (some (95, true))⟩,
  ⟨(some 97), .bin .eql (.t 96) (.c (.i .i64 0)), (some (95, true))⟩,
  ⟨(some 98), .pick (.t 95) (.t 97) (.c (.b false)), none⟩,
  ⟨(some 99), .mv (.t 98), none⟩,
  ⟨(some 100), .mv (.t 19), (some (99, true))⟩,
  ⟨(some 101), .mv (.t 3), (some (99, true))⟩,
  ⟨(some 102), .call false 29 [(.t 100), (.t 101)], (some (99, true))⟩,
  ⟨(some 103), .pick (.t 99) (.t 102) (.c (.b false)), none⟩,
  ⟨(some 104), .mv (.t 103), none⟩,
  ⟨(some 105), .call false 19 [], (some (104, true))⟩,
  ⟨(some 106), .pick (.t 104) (.t 105) (.c (.b false)), none⟩,
  ⟨(some 8), .mv (.t 106), none⟩]
abbrev c8_0 : AC := (.seq (.reg 6 r8_6) (.seq (.reg 7 r8_7) (.seq (.reg 8 r8_8) (.seq (.reg 9 r8_9) .ret))))
abbrev c8_1 : AC := (.seq (.reg 5 r8_5) c8_0)
abbrev c8_2 : AC := (.seq (.reg 4 r8_4) c8_1)
abbrev c8_3 : AC := (.seq (.reg 3 r8_3) c8_2)
abbrev c8_4 : AC := (.seq (.seq (.reg 1 r8_1) (.cond (.t 28) (.seq (.reg 2 r8_2) .ret) .skip)) c8_3)
abbrev b8 : AC := (.seq (.reg 0 r8_0) c8_4)
def pf8 : AF := { nt := 107, res := [.tmp 8], body := b8 }
def T8_5 (prog : Prog) (K : Bool → Prop) (i0 : Int) (n1 : Int) (s2 : List UInt8) (l3 : List (List UInt8)) (a9 : Int) (e10 : Int) (b11 : Int) (f12 : Int) (q13 : List UInt8) (g14 : Int) : Prop :=
  ∃ r'1 : List UInt8, ∃ r'2 : Int, Pus prog 25 [.s q13] (.tup [.s r'1, .i .i64 r'2]) ∧ ∃ r'4 : List UInt8, ∃ r'5 : Int, Pus prog 13 [.sl .ext (List.map rowS l3)] (.tup [.s r'4, .i .i64 r'5]) ∧ ∃ r'7 : List (List UInt8), ∃ r'8 : Int, Pus prog 27 [.s r'4] (.tup [.sl .ext (List.map rowS r'7), .i .i64 r'8]) ∧ (e10 = 0 → (a9 = i0 → (f12 = 0 → (b11 = n1 → (g14 = 0 → (r'2 = 0 → (r'1 = s2 → (r'5 = 0 → (r'8 = 0 → ∃ r'19 : Bool, Pus prog 29 [.sl .ext (List.map rowS r'7), .sl .ext (List.map rowS l3)] (.b r'19) ∧ (r'19 = true → ∃ r'22 : Bool, Pus prog 19 [] (.b r'22) ∧ K r'22) ∧ (r'19 = false → K false)) ∧ (¬(r'8 = 0) → K false)) ∧ (¬(r'5 = 0) → K false)) ∧ (¬(r'1 = s2) → K false)) ∧ (¬(r'2 = 0) → K false)) ∧ (¬(g14 = 0) → K false)) ∧ (¬(b11 = n1) → K false)) ∧ (¬(f12 = 0) → K false)) ∧ (¬(a9 = i0) → K false)) ∧ (¬(e10 = 0) → K false)
theorem w8_5 {prog : Prog} {d : Nat} {Q : AE → Sl → St → Prop} {K : Bool → Prop} (hQ : ∀ (σ : Sl) (st : St) (x0 : Bool), σ 8 = .b x0 → K x0 → Q .ret σ st) {i0 : Int} {n1 : Int} {s2 : List UInt8} {l3 : List (List UInt8)} {a9 : Int} {e10 : Int} {b11 : Int} {f12 : Int} {q13 : List UInt8} {g14 : Int}   {σ : Sl} {st : St} {o_l3 : Own} (H0 : σ 0 = .i .i64 i0) (H1 : σ 1 = .i .u64 n1) (H2 : σ 2 = .s s2) (H3 : σ 3 = .sl o_l3 (List.map rowS l3)) (H9 : σ 9 = .i .i64 a9) (H10 : σ 10 = .i .i64 e10) (H11 : σ 11 = .i .u64 b11) (H12 : σ 12 = .i .i64 f12) (H13 : σ 13 = .s q13) (H14 : σ 14 = .i .i64 g14) (h : T8_5 prog K i0 n1 s2 l3 a9 e10 b11 f12 q13 g14) : W prog d c8_0 σ st Q :=
  W.seq (W.reg0 rfl fun _ _ => s_mvS H13 (h.elim fun r'1 e'26 => e'26.elim fun r'2 e'3 => s_call (sc rfl rfl sn) e'3.1 (s_mvT rfl (s_ext rfl rfl (s_ext rfl rfl (s_mvS rfl (s_mvI rfl (s_nil (W.seq (W.reg0 rfl fun _ _ => s_mvL H3 (e'3.2.elim fun r'4 e'25 => e'25.elim fun r'5 e'6 => s_call (sc rfl rfl sn) e'6.1 (s_mvT rfl (s_ext rfl rfl (s_ext rfl rfl (s_mvS rfl (s_mvI rfl (s_nil (W.seq (W.reg0 rfl fun _ _ => s_mvS rfl (e'6.2.elim fun r'7 e'24 => e'24.elim fun r'8 e'9 => s_call (sc rfl rfl sn) e'9.1 (s_mvT rfl (s_ext rfl rfl (s_ext rfl rfl (s_mvL rfl (s_mvI rfl (s_nil (W.seq (W.reg0 rfl fun _ _ => s_mvI H10 (s_bin rfl rfl (abin_eql _ _ _) (s_mvB rfl (s_em (g := 64) rfl (fun g'10 => s_gy rfl (s_mvI H9 (s_gy rfl (s_mvI H0 (s_gy rfl (s_bin rfl rfl (abin_eql _ _ _) (s_pickTB rfl rfl (s_mvB rfl (s_em (g := 69) rfl (fun g'11 => s_gy rfl (s_mvI H12 (s_gy rfl (s_bin rfl rfl (abin_eql _ _ _) (s_pickTB rfl rfl (s_mvB rfl (s_em (g := 73) rfl (fun g'12 => s_gy rfl (s_mvI H11 (s_gy rfl (s_mvI H1 (s_gy rfl (s_bin rfl rfl (abin_eql _ _ _) (s_pickTB rfl rfl (s_mvB rfl (s_em (g := 78) rfl (fun g'13 => s_gy rfl (s_mvI H14 (s_gy rfl (s_bin rfl rfl (abin_eql _ _ _) (s_pickTB rfl rfl (s_mvB rfl (s_em (g := 82) rfl (fun g'14 => s_gy rfl (s_mvI rfl (s_gy rfl (s_bin rfl rfl (abin_eql _ _ _) (s_pickTB rfl rfl (s_mvB rfl (s_em (g := 86) rfl (fun g'15 => s_gy rfl (s_mvS rfl (s_gy rfl (s_mvS H2 (s_gy rfl (s_bin rfl rfl (abin_seq _ _) (s_pickTB rfl rfl (s_mvB rfl (s_em (g := 91) rfl (fun g'16 => s_gy rfl (s_mvI rfl (s_gy rfl (s_bin rfl rfl (abin_eql _ _ _) (s_pickTB rfl rfl (s_mvB rfl (s_em (g := 95) rfl (fun g'17 => s_gy rfl (s_mvI rfl (s_gy rfl (s_bin rfl rfl (abin_eql _ _ _) (s_pickTB rfl rfl (s_mvB rfl (s_em (g := 99) rfl (fun g'18 => s_gy rfl (s_mvL rfl (s_gy rfl (s_mvL H3 (s_gy rfl ((((((((((e'9.2.1 g'10).1 g'11).1 g'12).1 g'13).1 g'14).1 g'15).1 g'16).1 g'17).1 g'18).elim fun r'19 e'20 => s_call (sc rfl rfl (sc rfl rfl sn)) e'20.1 (s_pickTB rfl rfl (s_mvB rfl (s_emb (g := 104) rfl (fun g'21 => s_gy rfl ((e'20.2.1 g'21).elim fun r'22 e'23 => s_call sn e'23.1 (s_pickTB rfl rfl (s_mvB rfl (s_nil (W.ret (hQ _ _  _ rfl  e'23.2))))))) (fun g'21 => s_gn (b := false) rfl rfl (s_pickFB rfl rfl (s_mvB rfl (s_nil (W.ret (hQ _ _  _ rfl  (e'20.2.2 g'21)))))))))))))))) (fun g'18 => s_gn (b := false) rfl rfl (s_gn (b := false) rfl rfl (s_gn (b := false) rfl rfl (s_pickFB rfl rfl (s_mvB rfl (s_gn (b := false) rfl rfl (s_pickFB rfl rfl (s_mvB rfl (s_nil (W.ret (hQ _ _  _ rfl  (((((((((e'9.2.1 g'10).1 g'11).1 g'12).1 g'13).1 g'14).1 g'15).1 g'16).1 g'17).2 g'18))))))))))))))))))) (fun g'17 => s_gn (b := false) rfl rfl (s_gn (b := false) rfl rfl (s_pickFB rfl rfl (s_mvB rfl (s_gn (b := false) rfl rfl (s_gn (b := false) rfl rfl (s_gn (b := false) rfl rfl (s_pickFB rfl rfl (s_mvB rfl (s_gn (b := false) rfl rfl (s_pickFB rfl rfl (s_mvB rfl (s_nil (W.ret (hQ _ _  _ rfl  ((((((((e'9.2.1 g'10).1 g'11).1 g'12).1 g'13).1 g'14).1 g'15).1 g'16).2 g'17))))))))))))))))))))))) (fun g'16 => s_gn (b := false) rfl rfl (s_gn (b := false) rfl rfl (s_pickFB rfl rfl (s_mvB rfl (s_gn (b := false) rfl rfl (s_gn (b := false) rfl rfl (s_pickFB rfl rfl (s_mvB rfl (s_gn (b := false) rfl rfl (s_gn (b := false) rfl rfl (s_gn (b := false) rfl rfl (s_pickFB rfl rfl (s_mvB rfl (s_gn (b := false) rfl rfl (s_pickFB rfl rfl (s_mvB rfl (s_nil (W.ret (hQ _ _  _ rfl  (((((((e'9.2.1 g'10).1 g'11).1 g'12).1 g'13).1 g'14).1 g'15).2 g'16))))))))))))))))))))))))))))) (fun g'15 => s_gn (b := false) rfl rfl (s_gn (b := false) rfl rfl (s_gn (b := false) rfl rfl (s_pickFB rfl rfl (s_mvB rfl (s_gn (b := false) rfl rfl (s_gn (b := false) rfl rfl (s_pickFB rfl rfl (s_mvB rfl (s_gn (b := false) rfl rfl (s_gn (b := false) rfl rfl (s_pickFB rfl rfl (s_mvB rfl (s_gn (b := false) rfl rfl (s_gn (b := false) rfl rfl (s_gn (b := false) rfl rfl (s_pickFB rfl rfl (s_mvB rfl (s_gn (b := false) rfl rfl (s_pickFB rfl rfl (s_mvB rfl (s_nil (W.ret (hQ _ _  _ rfl  ((((((e'9.2.1 g'10).1 g'11).1 g'12).1 g'13).1 g'14).2 g'15)))))))))))))))))))))))))))))))) (fun g'14 => s_gn (b := false) rfl rfl (s_gn (b := false) rfl rfl (s_pickFB rfl rfl (s_mvB rfl (s_gn (b := false) rfl rfl (s_gn (b := false) rfl rfl (s_gn (b := false) rfl rfl (s_pickFB rfl rfl (s_mvB rfl (s_gn (b := false) rfl rfl (s_gn (b := false) rfl rfl (s_pickFB rfl rfl (s_mvB rfl (s_gn (b := false) rfl rfl (s_gn (b := false) rfl rfl (s_pickFB rfl rfl (s_mvB rfl (s_gn (b := false) rfl rfl (s_gn (b := false) rfl rfl (s_gn (b := false) rfl rfl (s_pickFB rfl rfl (s_mvB rfl (s_gn (b := false) rfl rfl (s_pickFB rfl rfl (s_mvB rfl (s_nil (W.ret (hQ _ _  _ rfl  (((((e'9.2.1 g'10).1 g'11).1 g'12).1 g'13).2 g'14)))))))))))))))))))))))))))))))))))) (fun g'13 => s_gn (b := false) rfl rfl (s_gn (b := false) rfl rfl (s_pickFB rfl rfl (s_mvB rfl (s_gn (b := false) rfl rfl (s_gn (b := false) rfl rfl (s_pickFB rfl rfl (s_mvB rfl (s_gn (b := false) rfl rfl (s_gn (b := false) rfl rfl (s_gn (b := false) rfl rfl (s_pickFB rfl rfl (s_mvB rfl (s_gn (b := false) rfl rfl (s_gn (b := false) rfl rfl (s_pickFB rfl rfl (s_mvB rfl (s_gn (b := false) rfl rfl (s_gn (b := false) rfl rfl (s_pickFB rfl rfl (s_mvB rfl (s_gn (b := false) rfl rfl (s_gn (b := false) rfl rfl (s_gn (b := false) rfl rfl (s_pickFB rfl rfl (s_mvB rfl (s_gn (b := false) rfl rfl (s_pickFB rfl rfl (s_mvB rfl (s_nil (W.ret (hQ _ _  _ rfl  ((((e'9.2.1 g'10).1 g'11).1 g'12).2 g'13)))))))))))))))))))))))))))))))))))))))))) (fun g'12 => s_gn (b := false) rfl rfl (s_gn (b := false) rfl rfl (s_gn (b := false) rfl rfl (s_pickFB rfl rfl (s_mvB rfl (s_gn (b := false) rfl rfl (s_gn (b := false) rfl rfl (s_pickFB rfl rfl (s_mvB rfl (s_gn (b := false) rfl rfl (s_gn (b := false) rfl rfl (s_pickFB rfl rfl (s_mvB rfl (s_gn (b := false) rfl rfl (s_gn (b := false) rfl rfl (s_gn (b := false) rfl rfl (s_pickFB rfl rfl (s_mvB rfl (s_gn (b := false) rfl rfl (s_gn (b := false) rfl rfl (s_pickFB rfl rfl (s_mvB rfl (s_gn (b := false) rfl rfl (s_gn (b := false) rfl rfl (s_pickFB rfl rfl (s_mvB rfl (s_gn (b := false) rfl rfl (s_gn (b := false) rfl rfl (s_gn (b := false) rfl rfl (s_pickFB rfl rfl (s_mvB rfl (s_gn (b := false) rfl rfl (s_pickFB rfl rfl (s_mvB rfl (s_nil (W.ret (hQ _ _  _ rfl  (((e'9.2.1 g'10).1 g'11).2 g'12))))))))))))))))))))))))))))))))))))))))))))) (fun g'11 => s_gn (b := false) rfl rfl (s_gn (b := false) rfl rfl (s_pickFB rfl rfl (s_mvB rfl (s_gn (b := false) rfl rfl (s_gn (b := false) rfl rfl (s_gn (b := false) rfl rfl (s_pickFB rfl rfl (s_mvB rfl (s_gn (b := false) rfl rfl (s_gn (b := false) rfl rfl (s_pickFB rfl rfl (s_mvB rfl (s_gn (b := false) rfl rfl (s_gn (b := false) rfl rfl (s_pickFB rfl rfl (s_mvB rfl (s_gn (b := false) rfl rfl (s_gn (b := false) rfl rfl (s_gn (b := false) rfl rfl (s_pickFB rfl rfl (s_mvB rfl (s_gn (b := false) rfl rfl (s_gn (b := false) rfl rfl (s_pickFB rfl rfl (s_mvB rfl (s_gn (b := false) rfl rfl (s_gn (b := false) rfl rfl (s_pickFB rfl rfl (s_mvB rfl (s_gn (b := false) rfl rfl (s_gn (b := false) rfl rfl (s_gn (b := false) rfl rfl (s_pickFB rfl rfl (s_mvB rfl (s_gn (b := false) rfl rfl (s_pickFB rfl rfl (s_mvB rfl (s_nil (W.ret (hQ _ _  _ rfl  ((e'9.2.1 g'10).2 g'11))))))))))))))))))))))))))))))))))))))))))))))))))) (fun g'10 => s_gn (b := false) rfl rfl (s_gn (b := false) rfl rfl (s_gn (b := false) rfl rfl (s_pickFB rfl rfl (s_mvB rfl (s_gn (b := false) rfl rfl (s_gn (b := false) rfl rfl (s_pickFB rfl rfl (s_mvB rfl (s_gn (b := false) rfl rfl (s_gn (b := false) rfl rfl (s_gn (b := false) rfl rfl (s_pickFB rfl rfl (s_mvB rfl (s_gn (b := false) rfl rfl (s_gn (b := false) rfl rfl (s_pickFB rfl rfl (s_mvB rfl (s_gn (b := false) rfl rfl (s_gn (b := false) rfl rfl (s_pickFB rfl rfl (s_mvB rfl (s_gn (b := false) rfl rfl (s_gn (b := false) rfl rfl (s_gn (b := false) rfl rfl (s_pickFB rfl rfl (s_mvB rfl (s_gn (b := false) rfl rfl (s_gn (b := false) rfl rfl (s_pickFB rfl rfl (s_mvB rfl (s_gn (b := false) rfl rfl (s_gn (b := false) rfl rfl (s_pickFB rfl rfl (s_mvB rfl (s_gn (b := false) rfl rfl (s_gn (b := false) rfl rfl (s_gn (b := false) rfl rfl (s_pickFB rfl rfl (s_mvB rfl (s_gn (b := false) rfl rfl (s_pickFB rfl rfl (s_mvB rfl (s_nil (W.ret (hQ _ _  _ rfl  (e'9.2.2 g'10))))))))))))))))))))))))))))))))))))))))))))))))))))))))))))))))))))))))))))))
def T8_4 (prog : Prog) (K : Bool → Prop) (i0 : Int) (n1 : Int) (s2 : List UInt8) (l3 : List (List UInt8)) (a9 : Int) (e10 : Int) (b11 : Int) (f12 : Int) : Prop :=
  ∃ r'1 : List UInt8, ∃ r'2 : Int, Pus prog 11 [.s s2] (.tup [.s r'1, .i .i64 r'2]) ∧ T8_5 prog K i0 n1 s2 l3 a9 e10 b11 f12 r'1 r'2
theorem w8_4 {prog : Prog} {d : Nat} {Q : AE → Sl → St → Prop} {K : Bool → Prop} (hQ : ∀ (σ : Sl) (st : St) (x0 : Bool), σ 8 = .b x0 → K x0 → Q .ret σ st) {i0 : Int} {n1 : Int} {s2 : List UInt8} {l3 : List (List UInt8)} {a9 : Int} {e10 : Int} {b11 : Int} {f12 : Int}   {σ : Sl} {st : St} {o_l3 : Own} (H0 : σ 0 = .i .i64 i0) (H1 : σ 1 = .i .u64 n1) (H2 : σ 2 = .s s2) (H3 : σ 3 = .sl o_l3 (List.map rowS l3)) (H9 : σ 9 = .i .i64 a9) (H10 : σ 10 = .i .i64 e10) (H11 : σ 11 = .i .u64 b11) (H12 : σ 12 = .i .i64 f12) (h : T8_4 prog K i0 n1 s2 l3 a9 e10 b11 f12) : W prog d c8_1 σ st Q :=
  W.seq (W.reg0 rfl fun _ _ => s_mvS H2 (h.elim fun r'1 e'4 => e'4.elim fun r'2 e'3 => s_call (sc rfl rfl sn) e'3.1 (s_mvT rfl (s_ext rfl rfl (s_ext rfl rfl (s_mvS rfl (s_mvI rfl (s_nil (w8_5 hQ  H0 H1 H2 H3 H9 H10 H11 H12 rfl rfl e'3.2)))))))))
def T8_3 (prog : Prog) (K : Bool → Prop) (i0 : Int) (n1 : Int) (s2 : List UInt8) (l3 : List (List UInt8)) (a9 : Int) (e10 : Int) : Prop :=
  ∃ r'1 : List UInt8, Pus prog 17 [.i .u64 n1] (.s r'1) ∧ ∃ r'3 : Int, ∃ r'4 : Int, Pus prog 23 [.s r'1] (.tup [.i .u64 r'3, .i .i64 r'4]) ∧ T8_4 prog K i0 n1 s2 l3 a9 e10 r'3 r'4
theorem w8_3 {prog : Prog} {d : Nat} {Q : AE → Sl → St → Prop} {K : Bool → Prop} (hQ : ∀ (σ : Sl) (st : St) (x0 : Bool), σ 8 = .b x0 → K x0 → Q .ret σ st) {i0 : Int} {n1 : Int} {s2 : List UInt8} {l3 : List (List UInt8)} {a9 : Int} {e10 : Int}   {σ : Sl} {st : St} {o_l3 : Own} (H0 : σ 0 = .i .i64 i0) (H1 : σ 1 = .i .u64 n1) (H2 : σ 2 = .s s2) (H3 : σ 3 = .sl o_l3 (List.map rowS l3)) (H9 : σ 9 = .i .i64 a9) (H10 : σ 10 = .i .i64 e10) (h : T8_3 prog K i0 n1 s2 l3 a9 e10) : W prog d c8_2 σ st Q :=
  W.seq (W.reg0 rfl fun _ _ => s_mvI H1 (h.elim fun r'1 e'2 => s_call (sc rfl rfl sn) e'2.1 (e'2.2.elim fun r'3 e'6 => e'6.elim fun r'4 e'5 => s_call (sc rfl rfl sn) e'5.1 (s_mvT rfl (s_ext rfl rfl (s_ext rfl rfl (s_mvI rfl (s_mvI rfl (s_nil (w8_4 hQ  H0 H1 H2 H3 H9 H10 rfl rfl e'5.2))))))))))
def T8_2 (prog : Prog) (K : Bool → Prop) (i0 : Int) (n1 : Int) (s2 : List UInt8) (l3 : List (List UInt8)) : Prop :=
  ∃ r'1 : List UInt8, Pus prog 15 [.i .i64 i0] (.s r'1) ∧ ∃ r'3 : Int, ∃ r'4 : Int, Pus prog 21 [.s r'1] (.tup [.i .i64 r'3, .i .i64 r'4]) ∧ T8_3 prog K i0 n1 s2 l3 r'3 r'4
theorem w8_2 {prog : Prog} {d : Nat} {Q : AE → Sl → St → Prop} {K : Bool → Prop} (hQ : ∀ (σ : Sl) (st : St) (x0 : Bool), σ 8 = .b x0 → K x0 → Q .ret σ st) {i0 : Int} {n1 : Int} {s2 : List UInt8} {l3 : List (List UInt8)}   {σ : Sl} {st : St} {o_l3 : Own} (H0 : σ 0 = .i .i64 i0) (H1 : σ 1 = .i .u64 n1) (H2 : σ 2 = .s s2) (H3 : σ 3 = .sl o_l3 (List.map rowS l3)) (h : T8_2 prog K i0 n1 s2 l3) : W prog d c8_3 σ st Q :=
  W.seq (W.reg0 rfl fun _ _ => s_mvI H0 (h.elim fun r'1 e'2 => s_call (sc rfl rfl sn) e'2.1 (e'2.2.elim fun r'3 e'6 => e'6.elim fun r'4 e'5 => s_call (sc rfl rfl sn) e'5.1 (s_mvT rfl (s_ext rfl rfl (s_ext rfl rfl (s_mvI rfl (s_mvI rfl (s_nil (w8_3 hQ  H0 H1 H2 H3 rfl rfl e'5.2))))))))))
def T8_1 (prog : Prog) (K : Bool → Prop) (i0 : Int) (n1 : Int) (s2 : List UInt8) (l3 : List (List UInt8)) : Prop :=
  ((s2.length : Int) > 400 → ∃ r'2 : Bool, Pus prog 19 [] (.b r'2) ∧ K r'2) ∧ (¬((s2.length : Int) > 400) → ∃ r'4 : Bool, Pus prog 20 [.sl .ext (List.map rowS l3)] (.b r'4) ∧ ((!r'4) = true → ∃ r'7 : Bool, Pus prog 19 [] (.b r'7) ∧ K r'7) ∧ ((!r'4) = false → T8_2 prog K i0 n1 s2 l3))
theorem w8_1 {prog : Prog} {d : Nat} {Q : AE → Sl → St → Prop} {K : Bool → Prop} (hQ : ∀ (σ : Sl) (st : St) (x0 : Bool), σ 8 = .b x0 → K x0 → Q .ret σ st) {i0 : Int} {n1 : Int} {s2 : List UInt8} {l3 : List (List UInt8)}   {σ : Sl} {st : St} {o_l3 : Own} (H0 : σ 0 = .i .i64 i0) (H1 : σ 1 = .i .u64 n1) (H2 : σ 2 = .s s2) (H3 : σ 3 = .sl o_l3 (List.map rowS l3)) (h : T8_1 prog K i0 n1 s2 l3) : W prog d c8_4 σ st Q :=
  W.seq (W.seq (W.reg0 rfl fun _ _ => s_mvS H2 (s_lenS rfl (s_bin rfl rfl (abin_gtr _ _ _) (s_mvB rfl (s_em (g := 24) rfl (fun g'1 => s_gn (b := true) rfl rfl (s_gn (b := true) rfl rfl (s_gn (b := true) rfl rfl (s_pickTB rfl rfl (s_nil (c_tt rfl (W.seq (W.reg0 rfl fun _ _ => (h.1 g'1).elim fun r'2 e'3 => s_call sn e'3.1 (s_mvB rfl (s_nil (W.ret (hQ _ _  _ rfl  e'3.2)))))))))))) (fun g'1 => s_gy rfl (s_mvL H3 (s_gy rfl ((h.2 g'1).elim fun r'4 e'5 => s_call (sc rfl rfl sn) e'5.1 (s_gy rfl (s_not rfl (s_pickFB rfl rfl (s_nil (c_bool rfl (fun g'6 => W.seq (W.reg0 rfl fun _ _ => (e'5.2.1 g'6).elim fun r'7 e'8 => s_call sn e'8.1 (s_mvB rfl (s_nil (W.ret (hQ _ _  _ rfl  e'8.2)))))) (fun g'6 => W.skip (w8_2 hQ  H0 H1 H2 H3 (e'5.2.2 g'6))))))))))))))))))
def T8_0 (prog : Prog) (K : Bool → Prop) (i0 : Int) (n1 : Int) (s2 : List UInt8) (l3 : List (List UInt8)) : Prop :=
  T8_1 prog K i0 n1 s2 l3
theorem w8_0 {prog : Prog} {d : Nat} {Q : AE → Sl → St → Prop} {K : Bool → Prop} (hQ : ∀ (σ : Sl) (st : St) (x0 : Bool), σ 8 = .b x0 → K x0 → Q .ret σ st) {i0 : Int} {n1 : Int} {s2 : List UInt8} {l3 : List (List UInt8)}   {σ : Sl} {st : St} {o_l3 : Own} (H0 : σ 0 = .i .i64 i0) (H1 : σ 1 = .i .u64 n1) (H2 : σ 2 = .s s2) (H3 : σ 3 = .sl o_l3 (List.map rowS l3)) (h : T8_0 prog K i0 n1 s2 l3) : W prog d (.seq (.reg 0 r8_0) c8_4) σ st Q :=
  W.seq (W.reg0 rfl fun _ _ => s_mvB rfl (s_nil (w8_1 hQ  H0 H1 H2 H3 h)))
theorem p8 {prog : Prog} (hf : prog.fn 8 = some pf8) {i0 : Int} {n1 : Int} {s2 : List UInt8} {l3 : List (List UInt8)} {K : Bool → Prop} (h : T8_0 prog K i0 n1 s2 l3) : ∃ x0 : Bool, K x0 ∧ Pus prog 8 [.i .i64 i0, .i .u64 n1, .s s2, .sl .ext (List.map rowS l3)] (.b x0) := by
  obtain ⟨v, hv, x0, hk, rfl⟩ := Pus.of (K := fun v => ∃ x0 : Bool, K x0 ∧ v = .b x0) hf rfl (w8_0 (σ := sl0 [.i .i64 i0, .i .u64 n1, .s s2, .sl .ext (List.map rowS l3)]) (fun σ st  x0 H8 hk => ⟨.b x0, by simp only [pf8, ares, aresL, ares1, Option.map_some, H8], _, rfl, x0, hk, rfl⟩) rfl rfl rfl rfl h)
  exact ⟨x0, hk, hv⟩

/-! wreckage/wreckagelaw03.TextOne -/
def r9_0 : List AI := [⟨(some 2), .mv (.c (.b false)), none⟩]
def r9_1 : List AI := [⟨(some 15), .mv (.t 0), none⟩,
  ⟨(some 16), .len true (.t 15), none⟩,
  ⟨(some 17), .bin .gtr (.t 16) (.c (.i .i64 2000)), none⟩]
def r9_2 : List AI := [⟨(some 18), .call false 19 [], none⟩,
  ⟨(some 2), .mv (.t 18), none⟩]
def r9_3 : List AI := [⟨(some 20), .mv (.t 0), none⟩,
  ⟨(some 21), .call false 21 [(.t 20)], none⟩,
  ⟨(some 19), .mv (.t 21), none⟩,
  ⟨(some 22), .ext 0 (.t 19), none⟩,
  ⟨(some 23), .ext 1 (.t 19), none⟩,
  ⟨(some 3), .mv (.t 22), none⟩,
  ⟨(some 4), .mv (.t 23), none⟩]
def r9_4 : List AI := [⟨(some 25), .mv (.t 0), none⟩,
  ⟨(some 26), .call false 23 [(.t 25)], none⟩,
  ⟨(some 24), .mv (.t 26), none⟩,
  ⟨(some 27), .ext 0 (.t 24), none⟩,
  ⟨(some 28), .ext 1 (.t 24), none⟩,
  ⟨(some 5), .mv (.t 27), none⟩,
  ⟨(some 6), .mv (.t 28), none⟩]
def r9_5 : List AI := [⟨(some 30), .mv (.t 0), none⟩,
  ⟨(some 31), .call false 25 [(.t 30)], none⟩,
  ⟨(some 29), .mv (.t 31), none⟩,
  ⟨(some 32), .ext 0 (.t 29), none⟩,
  ⟨(some 33), .ext 1 (.t 29), none⟩,
  ⟨(some 7), .mv (.t 32), none⟩,
  ⟨(some 8), .mv (.t 33), none⟩]
def r9_6 : List AI := [⟨(some 35), .mv (.t 0), none⟩,
  ⟨(some 36), .call false 27 [(.t 35)], none⟩,
  ⟨(some 34), .mv (.t 36), none⟩,
  ⟨(some 37), .ext 0 (.t 34), none⟩,
  ⟨(some 38), .ext 1 (.t 34), none⟩,
  ⟨(some 9), .mv (.t 37), none⟩,
  ⟨(some 10), .mv (.t 38), none⟩]
def r9_7 : List AI := [⟨(some 39), .mv (.t 4), none⟩,
  ⟨(some 40), .bin .eql (.t 39) (.c (.i .i64 0)), none⟩,
  ⟨(some 41), .mv (.t 40), none⟩,
  ⟨(some 42), .mv (.t 3), (some (41, true))⟩,
  ⟨(some 43), .call false 15 [(.t 42)], (some (41, true))⟩,
  ⟨(some 44), .mv (.t 0), (some (41, true))⟩,
  ⟨(some 45), .bin .neq (.t 43) (.t 44), (some (41, true))⟩,
  ⟨(some 46), .pick (.t 41) (.t 45) (.c (.b false)), none⟩,
  ⟨(some 47), .mv (.t 46), none⟩,
  ⟨(some 48), .mv (.t 6), (some (47, false))⟩,
  ⟨(some 49), .bin .eql (.t 48) (.c (.i .i64 0)), (some (47, false))⟩,
  ⟨(some 50), .mv (.t 49), (some (47, false))⟩,
  ⟨(some 51), .mv (.t 5), (some (50, true))⟩,
  ⟨(some 52), .call false 17 [(.t 51)], (some (50, true))⟩,
  ⟨(some 53), .mv (.t 0), (some (50, true))⟩,
  ⟨(some 54), .bin .neq (.t 52) (.t 53), (some (50, true))⟩,
  ⟨(some 55), .pick (.t 50) (.t 54) (.c (.b false)), (some (47, false))⟩,
  ⟨(some 56), .pick (.t 47) (.c (.b true)) (.t 55), none⟩]
def r9_8 : List AI := [⟨(some 2), .mv (.c (.b false)), none⟩]
def r9_9 : List AI := [⟨(some 57), .mv (.t 8), none⟩,
  ⟨(some 58), .bin .eql (.t 57) (.c (.i .i64 0)), none⟩]
def r9_10 : List AI := [⟨(some 60), .mv (.t 7), none⟩,
  ⟨(some 61), .call false 11 [(.t 60)], none⟩,
  ⟨(some 59), .mv (.t 61), none⟩,
  ⟨(some 62), .ext 0 (.t 59), none⟩,
  ⟨(some 63), .ext 1 (.t 59), none⟩,
  ⟨(some 11), .mv (.t 62), none⟩,
  ⟨(some 12), .mv (.t 63), none⟩]
def r9_11 : List AI := [⟨(some 64), .mv (.t 12), none⟩,
  ⟨(some 65), .bin .neq (.t 64) (.c (.i .i64 0)), none⟩,
  ⟨(some 66), .mv (.t 65), none⟩,
  ⟨(some 67), .mv (.t 11), (some (66, false))⟩,
  ⟨(some 68), .mv (.t 0), (some (66, false))⟩,
  ⟨(some 69), .bin .neq (.t 67) (.t 68), (some (66, false))⟩,
  ⟨(some 70), .pick (.t 66) (.c (.b true)) (.t 69), none⟩]
def r9_12 : List AI := [⟨(some 2), .mv (.c (.b false)), none⟩]
def r9_13 : List AI := [⟨(some 71), .mv (.t 10), none⟩,
  ⟨(some 72), .bin .eql (.t 71) (.c (.i .i64 0)), none⟩]
def r9_14 : List AI := [⟨(some 74), .mv (.t 9), none⟩,
  ⟨(some 75), .call false 13 [(.t 74)], none⟩,
  ⟨(some 73), .mv (.t 75), none⟩,
  ⟨(some 76), .ext 0 (.t 73), none⟩,
  ⟨(some 77), .ext 1 (.t 73), none⟩,
  ⟨(some 13), .mv (.t 76), none⟩,
  ⟨(some 14), .mv (.t 77), none⟩]
def r9_15 : List AI := [⟨(some 78), .mv (.t 14), none⟩,
  ⟨(some 79), .bin .neq (.t 78) (.c (.i .i64 0)), none⟩,
  ⟨(some 80), .mv (.t 79), none⟩,
  ⟨(some 81), .mv (.t 13), (some (80, false))⟩,
  ⟨(some 82), .mv (.t 0), (some (80, false))⟩,
  ⟨(some 83), .bin .neq (.t 81) (.t 82), (some (80, false))⟩,
  ⟨(some 84), .pick (.t 80) (.c (.b true)) (.t 83), none⟩]
def r9_16 : List AI := [⟨(some 2), .mv (.c (.b false)), none⟩]
def r9_17 : List AI := [⟨(some 85), .call false 19 [], none⟩,
  ⟨(some 2), .mv (.t 85), none⟩]
abbrev c9_0 : AC := (.seq (.reg 17 r9_17) .ret)
abbrev c9_1 : AC := (.seq (.seq (.reg 13 r9_13) (.cond (.t 72) (.seq (.reg 14 r9_14) (.seq (.reg 15 r9_15) (.cond (.t 84) (.seq (.reg 16 r9_16) .ret) .skip))) .skip)) c9_0)
abbrev c9_2 : AC := (.seq (.reg 6 r9_6) (.seq (.seq (.reg 7 r9_7) (.cond (.t 56) (.seq (.reg 8 r9_8) .ret) .skip)) (.seq (.seq (.reg 9 r9_9) (.cond (.t 58) (.seq (.reg 10 r9_10) (.seq (.reg 11 r9_11) (.cond (.t 70) (.seq (.reg 12 r9_12) .ret) .skip))) .skip)) c9_1)))
abbrev c9_3 : AC := (.seq (.reg 5 r9_5) c9_2)
abbrev c9_4 : AC := (.seq (.reg 4 r9_4) c9_3)
abbrev c9_5 : AC := (.seq (.reg 3 r9_3) c9_4)
abbrev c9_6 : AC := (.seq (.seq (.reg 1 r9_1) (.cond (.t 17) (.seq (.reg 2 r9_2) .ret) .skip)) c9_5)
abbrev b9 : AC := (.seq (.reg 0 r9_0) c9_6)
def pf9 : AF := { nt := 86, res := [.tmp 2], body := b9 }
def T9_7 (prog : Prog) (K : Bool → Prop)  : Prop :=
  ∃ r'1 : Bool, Pus prog 19 [] (.b r'1) ∧ K r'1
theorem w9_7 {prog : Prog} {d : Nat} {Q : AE → Sl → St → Prop} {K : Bool → Prop} (hQ : ∀ (σ : Sl) (st : St) (x0 : Bool), σ 2 = .b x0 → K x0 → Q .ret σ st)    {σ : Sl} {st : St}  (h : T9_7 prog K ) : W prog d c9_0 σ st Q :=
  W.seq (W.reg0 rfl fun _ _ => h.elim fun r'1 e'2 => s_call sn e'2.1 (s_mvB rfl (s_nil (W.ret (hQ _ _  _ rfl  e'2.2)))))
def T9_6 (prog : Prog) (K : Bool → Prop) (s0 : List UInt8) (l9 : List (List UInt8)) (h10 : Int) : Prop :=
  (h10 = 0 → ∃ r'2 : List UInt8, ∃ r'3 : Int, Pus prog 13 [.sl .ext (List.map rowS l9)] (.tup [.s r'2, .i .i64 r'3]) ∧ (r'3 ≠ 0 → K false) ∧ (¬(r'3 ≠ 0) → (r'2 ≠ s0 → K false) ∧ (¬(r'2 ≠ s0) → T9_7 prog K ))) ∧ (¬(h10 = 0) → T9_7 prog K )
theorem w9_6 {prog : Prog} {d : Nat} {Q : AE → Sl → St → Prop} {K : Bool → Prop} (hQ : ∀ (σ : Sl) (st : St) (x0 : Bool), σ 2 = .b x0 → K x0 → Q .ret σ st) {s0 : List UInt8} {l9 : List (List UInt8)} {h10 : Int}   {σ : Sl} {st : St} {o_l9 : Own} (H0 : σ 0 = .s s0) (H9 : σ 9 = .sl o_l9 (List.map rowS l9)) (H10 : σ 10 = .i .i64 h10) (h : T9_6 prog K s0 l9 h10) : W prog d c9_1 σ st Q :=
  W.seq (W.seq (W.reg0 rfl fun _ _ => s_mvI H10 (s_bin rfl rfl (abin_eql _ _ _) (s_nil (c_split rfl (fun g'1 => W.seq (W.reg0 rfl fun _ _ => s_mvL H9 ((h.1 g'1).elim fun r'2 e'7 => e'7.elim fun r'3 e'4 => s_call (sc rfl rfl sn) e'4.1 (s_mvT rfl (s_ext rfl rfl (s_ext rfl rfl (s_mvS rfl (s_mvI rfl (s_nil (W.seq (W.reg0 rfl fun _ _ => s_mvI rfl (s_bin rfl rfl (abin_neq _ _ _) (s_mvB rfl (s_em (g := 80) rfl (fun g'5 => s_gn (b := true) rfl rfl (s_gn (b := true) rfl rfl (s_gn (b := true) rfl rfl (s_pickTB rfl rfl (s_nil (c_tt rfl (W.seq (W.reg0 rfl fun _ _ => s_mvB rfl (s_nil (W.ret (hQ _ _  _ rfl  (e'4.2.1 g'5)))))))))))) (fun g'5 => s_gy rfl (s_mvS rfl (s_gy rfl (s_mvS H0 (s_gy rfl (s_bin rfl rfl (abin_sne _ _) (s_pickFB rfl rfl (s_nil (c_split rfl (fun g'6 => W.seq (W.reg0 rfl fun _ _ => s_mvB rfl (s_nil (W.ret (hQ _ _  _ rfl  ((e'4.2.2 g'5).1 g'6)))))) (fun g'6 => W.skip (w9_7 hQ   ((e'4.2.2 g'5).2 g'6)))))))))))))))))))))))))) (fun g'1 => W.skip (w9_7 hQ   (h.2 g'1))))))))
def T9_5 (prog : Prog) (K : Bool → Prop) (s0 : List UInt8) (a3 : Int) (e4 : Int) (b5 : Int) (f6 : Int) (c7 : List UInt8) (g8 : Int) : Prop :=
  ∃ r'1 : List (List UInt8), ∃ r'2 : Int, Pus prog 27 [.s s0] (.tup [.sl .ext (List.map rowS r'1), .i .i64 r'2]) ∧ (e4 = 0 → ∃ r'5 : List UInt8, Pus prog 15 [.i .i64 a3] (.s r'5) ∧ (r'5 ≠ s0 → K false) ∧ (¬(r'5 ≠ s0) → (f6 = 0 → ∃ r'9 : List UInt8, Pus prog 17 [.i .u64 b5] (.s r'9) ∧ (r'9 ≠ s0 → K false) ∧ (¬(r'9 ≠ s0) → (g8 = 0 → ∃ r'13 : List UInt8, ∃ r'14 : Int, Pus prog 11 [.s c7] (.tup [.s r'13, .i .i64 r'14]) ∧ (r'14 ≠ 0 → K false) ∧ (¬(r'14 ≠ 0) → (r'13 ≠ s0 → K false) ∧ (¬(r'13 ≠ s0) → T9_6 prog K s0 r'1 r'2))) ∧ (¬(g8 = 0) → T9_6 prog K s0 r'1 r'2))) ∧ (¬(f6 = 0) → (g8 = 0 → ∃ r'20 : List UInt8, ∃ r'21 : Int, Pus prog 11 [.s c7] (.tup [.s r'20, .i .i64 r'21]) ∧ (r'21 ≠ 0 → K false) ∧ (¬(r'21 ≠ 0) → (r'20 ≠ s0 → K false) ∧ (¬(r'20 ≠ s0) → T9_6 prog K s0 r'1 r'2))) ∧ (¬(g8 = 0) → T9_6 prog K s0 r'1 r'2)))) ∧ (¬(e4 = 0) → (f6 = 0 → ∃ r'27 : List UInt8, Pus prog 17 [.i .u64 b5] (.s r'27) ∧ (r'27 ≠ s0 → K false) ∧ (¬(r'27 ≠ s0) → (g8 = 0 → ∃ r'31 : List UInt8, ∃ r'32 : Int, Pus prog 11 [.s c7] (.tup [.s r'31, .i .i64 r'32]) ∧ (r'32 ≠ 0 → K false) ∧ (¬(r'32 ≠ 0) → (r'31 ≠ s0 → K false) ∧ (¬(r'31 ≠ s0) → T9_6 prog K s0 r'1 r'2))) ∧ (¬(g8 = 0) → T9_6 prog K s0 r'1 r'2))) ∧ (¬(f6 = 0) → (g8 = 0 → ∃ r'38 : List UInt8, ∃ r'39 : Int, Pus prog 11 [.s c7] (.tup [.s r'38, .i .i64 r'39]) ∧ (r'39 ≠ 0 → K false) ∧ (¬(r'39 ≠ 0) → (r'38 ≠ s0 → K false) ∧ (¬(r'38 ≠ s0) → T9_6 prog K s0 r'1 r'2))) ∧ (¬(g8 = 0) → T9_6 prog K s0 r'1 r'2)))
theorem w9_5 {prog : Prog} {d : Nat} {Q : AE → Sl → St → Prop} {K : Bool → Prop} (hQ : ∀ (σ : Sl) (st : St) (x0 : Bool), σ 2 = .b x0 → K x0 → Q .ret σ st) {s0 : List UInt8} {a3 : Int} {e4 : Int} {b5 : Int} {f6 : Int} {c7 : List UInt8} {g8 : Int}   {σ : Sl} {st : St} (H0 : σ 0 = .s s0) (H3 : σ 3 = .i .i64 a3) (H4 : σ 4 = .i .i64 e4) (H5 : σ 5 = .i .u64 b5) (H6 : σ 6 = .i .i64 f6) (H7 : σ 7 = .s c7) (H8 : σ 8 = .i .i64 g8) (h : T9_5 prog K s0 a3 e4 b5 f6 c7 g8) : W prog d c9_2 σ st Q :=
  W.seq (W.reg0 rfl fun _ _ => s_mvS H0 (h.elim fun r'1 e'44 => e'44.elim fun r'2 e'3 => s_call (sc rfl rfl sn) e'3.1 (s_mvT rfl (s_ext rfl rfl (s_ext rfl rfl (s_mvL rfl (s_mvI rfl (s_nil (W.seq (W.seq (W.reg0 rfl fun _ _ => s_mvI H4 (s_bin rfl rfl (abin_eql _ _ _) (s_mvB rfl (s_em (g := 41) rfl (fun g'4 => s_gy rfl (s_mvI H3 (s_gy rfl ((e'3.2.1 g'4).elim fun r'5 e'6 => s_call (sc rfl rfl sn) e'6.1 (s_gy rfl (s_mvS H0 (s_gy rfl (s_bin rfl rfl (abin_sne _ _) (s_pickTB rfl rfl (s_mvB rfl (s_em (g := 47) rfl (fun g'7 => s_gn (b := true) rfl rfl (s_gn (b := true) rfl rfl (s_gn (b := true) rfl rfl (s_gt rfl (s_gt rfl (s_gt rfl (s_gt rfl (s_gn (b := true) rfl rfl (s_pickTB rfl rfl (s_nil (c_tt rfl (W.seq (W.reg0 rfl fun _ _ => s_mvB rfl (s_nil (W.ret (hQ _ _  _ rfl  (e'6.2.1 g'7))))))))))))))))) (fun g'7 => s_gy rfl (s_mvI H6 (s_gy rfl (s_bin rfl rfl (abin_eql _ _ _) (s_gy rfl (s_mvB rfl (s_em (g := 50) rfl (fun g'8 => s_gy rfl (s_mvI H5 (s_gy rfl (((e'6.2.2 g'7).1 g'8).elim fun r'9 e'10 => s_call (sc rfl rfl sn) e'10.1 (s_gy rfl (s_mvS H0 (s_gy rfl (s_bin rfl rfl (abin_sne _ _) (s_gy rfl (s_pickTB rfl rfl (s_pickFB rfl rfl (s_nil (c_split rfl (fun g'11 => W.seq (W.reg0 rfl fun _ _ => s_mvB rfl (s_nil (W.ret (hQ _ _  _ rfl  (e'10.2.1 g'11)))))) (fun g'11 => W.skip (W.seq (W.seq (W.reg0 rfl fun _ _ => s_mvI H8 (s_bin rfl rfl (abin_eql _ _ _) (s_nil (c_split rfl (fun g'12 => W.seq (W.reg0 rfl fun _ _ => s_mvS H7 (((e'10.2.2 g'11).1 g'12).elim fun r'13 e'18 => e'18.elim fun r'14 e'15 => s_call (sc rfl rfl sn) e'15.1 (s_mvT rfl (s_ext rfl rfl (s_ext rfl rfl (s_mvS rfl (s_mvI rfl (s_nil (W.seq (W.reg0 rfl fun _ _ => s_mvI rfl (s_bin rfl rfl (abin_neq _ _ _) (s_mvB rfl (s_em (g := 66) rfl (fun g'16 => s_gn (b := true) rfl rfl (s_gn (b := true) rfl rfl (s_gn (b := true) rfl rfl (s_pickTB rfl rfl (s_nil (c_tt rfl (W.seq (W.reg0 rfl fun _ _ => s_mvB rfl (s_nil (W.ret (hQ _ _  _ rfl  (e'15.2.1 g'16)))))))))))) (fun g'16 => s_gy rfl (s_mvS rfl (s_gy rfl (s_mvS H0 (s_gy rfl (s_bin rfl rfl (abin_sne _ _) (s_pickFB rfl rfl (s_nil (c_split rfl (fun g'17 => W.seq (W.reg0 rfl fun _ _ => s_mvB rfl (s_nil (W.ret (hQ _ _  _ rfl  ((e'15.2.2 g'16).1 g'17)))))) (fun g'17 => W.skip (w9_6 hQ  H0 rfl rfl ((e'15.2.2 g'16).2 g'17)))))))))))))))))))))))))) (fun g'12 => W.skip (w9_6 hQ  H0 rfl rfl ((e'10.2.2 g'11).2 g'12))))))))))))))))))))))) (fun g'8 => s_gn (b := false) rfl rfl (s_gn (b := false) rfl rfl (s_gn (b := false) rfl rfl (s_gn (b := false) rfl rfl (s_gy rfl (s_pickFB rfl rfl (s_pickFB rfl rfl (s_nil (c_ff rfl (W.skip (W.seq (W.seq (W.reg0 rfl fun _ _ => s_mvI H8 (s_bin rfl rfl (abin_eql _ _ _) (s_nil (c_split rfl (fun g'19 => W.seq (W.reg0 rfl fun _ _ => s_mvS H7 ((((e'6.2.2 g'7).2 g'8).1 g'19).elim fun r'20 e'25 => e'25.elim fun r'21 e'22 => s_call (sc rfl rfl sn) e'22.1 (s_mvT rfl (s_ext rfl rfl (s_ext rfl rfl (s_mvS rfl (s_mvI rfl (s_nil (W.seq (W.reg0 rfl fun _ _ => s_mvI rfl (s_bin rfl rfl (abin_neq _ _ _) (s_mvB rfl (s_em (g := 66) rfl (fun g'23 => s_gn (b := true) rfl rfl (s_gn (b := true) rfl rfl (s_gn (b := true) rfl rfl (s_pickTB rfl rfl (s_nil (c_tt rfl (W.seq (W.reg0 rfl fun _ _ => s_mvB rfl (s_nil (W.ret (hQ _ _  _ rfl  (e'22.2.1 g'23)))))))))))) (fun g'23 => s_gy rfl (s_mvS rfl (s_gy rfl (s_mvS H0 (s_gy rfl (s_bin rfl rfl (abin_sne _ _) (s_pickFB rfl rfl (s_nil (c_split rfl (fun g'24 => W.seq (W.reg0 rfl fun _ _ => s_mvB rfl (s_nil (W.ret (hQ _ _  _ rfl  ((e'22.2.2 g'23).1 g'24)))))) (fun g'24 => W.skip (w9_6 hQ  H0 rfl rfl ((e'22.2.2 g'23).2 g'24)))))))))))))))))))))))))) (fun g'19 => W.skip (w9_6 hQ  H0 rfl rfl (((e'6.2.2 g'7).2 g'8).2 g'19))))))))))))))))))))))))))))))))))))) (fun g'4 => s_gn (b := false) rfl rfl (s_gn (b := false) rfl rfl (s_gn (b := false) rfl rfl (s_gn (b := false) rfl rfl (s_pickFB rfl rfl (s_mvB rfl (s_gy rfl (s_mvI H6 (s_gy rfl (s_bin rfl rfl (abin_eql _ _ _) (s_gy rfl (s_mvB rfl (s_em (g := 50) rfl (fun g'26 => s_gy rfl (s_mvI H5 (s_gy rfl (((e'3.2.2 g'4).1 g'26).elim fun r'27 e'28 => s_call (sc rfl rfl sn) e'28.1 (s_gy rfl (s_mvS H0 (s_gy rfl (s_bin rfl rfl (abin_sne _ _) (s_gy rfl (s_pickTB rfl rfl (s_pickFB rfl rfl (s_nil (c_split rfl (fun g'29 => W.seq (W.reg0 rfl fun _ _ => s_mvB rfl (s_nil (W.ret (hQ _ _  _ rfl  (e'28.2.1 g'29)))))) (fun g'29 => W.skip (W.seq (W.seq (W.reg0 rfl fun _ _ => s_mvI H8 (s_bin rfl rfl (abin_eql _ _ _) (s_nil (c_split rfl (fun g'30 => W.seq (W.reg0 rfl fun _ _ => s_mvS H7 (((e'28.2.2 g'29).1 g'30).elim fun r'31 e'36 => e'36.elim fun r'32 e'33 => s_call (sc rfl rfl sn) e'33.1 (s_mvT rfl (s_ext rfl rfl (s_ext rfl rfl (s_mvS rfl (s_mvI rfl (s_nil (W.seq (W.reg0 rfl fun _ _ => s_mvI rfl (s_bin rfl rfl (abin_neq _ _ _) (s_mvB rfl (s_em (g := 66) rfl (fun g'34 => s_gn (b := true) rfl rfl (s_gn (b := true) rfl rfl (s_gn (b := true) rfl rfl (s_pickTB rfl rfl (s_nil (c_tt rfl (W.seq (W.reg0 rfl fun _ _ => s_mvB rfl (s_nil (W.ret (hQ _ _  _ rfl  (e'33.2.1 g'34)))))))))))) (fun g'34 => s_gy rfl (s_mvS rfl (s_gy rfl (s_mvS H0 (s_gy rfl (s_bin rfl rfl (abin_sne _ _) (s_pickFB rfl rfl (s_nil (c_split rfl (fun g'35 => W.seq (W.reg0 rfl fun _ _ => s_mvB rfl (s_nil (W.ret (hQ _ _  _ rfl  ((e'33.2.2 g'34).1 g'35)))))) (fun g'35 => W.skip (w9_6 hQ  H0 rfl rfl ((e'33.2.2 g'34).2 g'35)))))))))))))))))))))))))) (fun g'30 => W.skip (w9_6 hQ  H0 rfl rfl ((e'28.2.2 g'29).2 g'30))))))))))))))))))))))) (fun g'26 => s_gn (b := false) rfl rfl (s_gn (b := false) rfl rfl (s_gn (b := false) rfl rfl (s_gn (b := false) rfl rfl (s_gy rfl (s_pickFB rfl rfl (s_pickFB rfl rfl (s_nil (c_ff rfl (W.skip (W.seq (W.seq (W.reg0 rfl fun _ _ => s_mvI H8 (s_bin rfl rfl (abin_eql _ _ _) (s_nil (c_split rfl (fun g'37 => W.seq (W.reg0 rfl fun _ _ => s_mvS H7 ((((e'3.2.2 g'4).2 g'26).1 g'37).elim fun r'38 e'43 => e'43.elim fun r'39 e'40 => s_call (sc rfl rfl sn) e'40.1 (s_mvT rfl (s_ext rfl rfl (s_ext rfl rfl (s_mvS rfl (s_mvI rfl (s_nil (W.seq (W.reg0 rfl fun _ _ => s_mvI rfl (s_bin rfl rfl (abin_neq _ _ _) (s_mvB rfl (s_em (g := 66) rfl (fun g'41 => s_gn (b := true) rfl rfl (s_gn (b := true) rfl rfl (s_gn (b := true) rfl rfl (s_pickTB rfl rfl (s_nil (c_tt rfl (W.seq (W.reg0 rfl fun _ _ => s_mvB rfl (s_nil (W.ret (hQ _ _  _ rfl  (e'40.2.1 g'41)))))))))))) (fun g'41 => s_gy rfl (s_mvS rfl (s_gy rfl (s_mvS H0 (s_gy rfl (s_bin rfl rfl (abin_sne _ _) (s_pickFB rfl rfl (s_nil (c_split rfl (fun g'42 => W.seq (W.reg0 rfl fun _ _ => s_mvB rfl (s_nil (W.ret (hQ _ _  _ rfl  ((e'40.2.2 g'41).1 g'42)))))) (fun g'42 => W.skip (w9_6 hQ  H0 rfl rfl ((e'40.2.2 g'41).2 g'42)))))))))))))))))))))))))) (fun g'37 => W.skip (w9_6 hQ  H0 rfl rfl (((e'3.2.2 g'4).2 g'26).2 g'37))))))))))))))))))))))))))))))))))))))))))))))
def T9_4 (prog : Prog) (K : Bool → Prop) (s0 : List UInt8) (a3 : Int) (e4 : Int) (b5 : Int) (f6 : Int) : Prop :=
  ∃ r'1 : List UInt8, ∃ r'2 : Int, Pus prog 25 [.s s0] (.tup [.s r'1, .i .i64 r'2]) ∧ T9_5 prog K s0 a3 e4 b5 f6 r'1 r'2
theorem w9_4 {prog : Prog} {d : Nat} {Q : AE → Sl → St → Prop} {K : Bool → Prop} (hQ : ∀ (σ : Sl) (st : St) (x0 : Bool), σ 2 = .b x0 → K x0 → Q .ret σ st) {s0 : List UInt8} {a3 : Int} {e4 : Int} {b5 : Int} {f6 : Int}   {σ : Sl} {st : St} (H0 : σ 0 = .s s0) (H3 : σ 3 = .i .i64 a3) (H4 : σ 4 = .i .i64 e4) (H5 : σ 5 = .i .u64 b5) (H6 : σ 6 = .i .i64 f6) (h : T9_4 prog K s0 a3 e4 b5 f6) : W prog d c9_3 σ st Q :=
  W.seq (W.reg0 rfl fun _ _ => s_mvS H0 (h.elim fun r'1 e'4 => e'4.elim fun r'2 e'3 => s_call (sc rfl rfl sn) e'3.1 (s_mvT rfl (s_ext rfl rfl (s_ext rfl rfl (s_mvS rfl (s_mvI rfl (s_nil (w9_5 hQ  H0 H3 H4 H5 H6 rfl rfl e'3.2)))))))))
def T9_3 (prog : Prog) (K : Bool → Prop) (s0 : List UInt8) (a3 : Int) (e4 : Int) : Prop :=
  ∃ r'1 : Int, ∃ r'2 : Int, Pus prog 23 [.s s0] (.tup [.i .u64 r'1, .i .i64 r'2]) ∧ T9_4 prog K s0 a3 e4 r'1 r'2
theorem w9_3 {prog : Prog} {d : Nat} {Q : AE → Sl → St → Prop} {K : Bool → Prop} (hQ : ∀ (σ : Sl) (st : St) (x0 : Bool), σ 2 = .b x0 → K x0 → Q .ret σ st) {s0 : List UInt8} {a3 : Int} {e4 : Int}   {σ : Sl} {st : St} (H0 : σ 0 = .s s0) (H3 : σ 3 = .i .i64 a3) (H4 : σ 4 = .i .i64 e4) (h : T9_3 prog K s0 a3 e4) : W prog d c9_4 σ st Q :=
  W.seq (W.reg0 rfl fun _ _ => s_mvS H0 (h.elim fun r'1 e'4 => e'4.elim fun r'2 e'3 => s_call (sc rfl rfl sn) e'3.1 (s_mvT rfl (s_ext rfl rfl (s_ext rfl rfl (s_mvI rfl (s_mvI rfl (s_nil (w9_4 hQ  H0 H3 H4 rfl rfl e'3.2)))))))))
def T9_2 (prog : Prog) (K : Bool → Prop) (s0 : List UInt8) : Prop :=
  ∃ r'1 : Int, ∃ r'2 : Int, Pus prog 21 [.s s0] (.tup [.i .i64 r'1, .i .i64 r'2]) ∧ T9_3 prog K s0 r'1 r'2
theorem w9_2 {prog : Prog} {d : Nat} {Q : AE → Sl → St → Prop} {K : Bool → Prop} (hQ : ∀ (σ : Sl) (st : St) (x0 : Bool), σ 2 = .b x0 → K x0 → Q .ret σ st) {s0 : List UInt8}   {σ : Sl} {st : St} (H0 : σ 0 = .s s0) (h : T9_2 prog K s0) : W prog d c9_5 σ st Q :=
  W.seq (W.reg0 rfl fun _ _ => s_mvS H0 (h.elim fun r'1 e'4 => e'4.elim fun r'2 e'3 => s_call (sc rfl rfl sn) e'3.1 (s_mvT rfl (s_ext rfl rfl (s_ext rfl rfl (s_mvI rfl (s_mvI rfl (s_nil (w9_3 hQ  H0 rfl rfl e'3.2)))))))))
def T9_1 (prog : Prog) (K : Bool → Prop) (s0 : List UInt8) : Prop :=
  ((s0.length : Int) > 2000 → ∃ r'2 : Bool, Pus prog 19 [] (.b r'2) ∧ K r'2) ∧ (¬((s0.length : Int) > 2000) → T9_2 prog K s0)
theorem w9_1 {prog : Prog} {d : Nat} {Q : AE → Sl → St → Prop} {K : Bool → Prop} (hQ : ∀ (σ : Sl) (st : St) (x0 : Bool), σ 2 = .b x0 → K x0 → Q .ret σ st) {s0 : List UInt8}   {σ : Sl} {st : St} (H0 : σ 0 = .s s0) (h : T9_1 prog K s0) : W prog d c9_6 σ st Q :=
  W.seq (W.seq (W.reg0 rfl fun _ _ => s_mvS H0 (s_lenS rfl (s_bin rfl rfl (abin_gtr _ _ _) (s_nil (c_split rfl (fun g'1 => W.seq (W.reg0 rfl fun _ _ => (h.1 g'1).elim fun r'2 e'3 => s_call sn e'3.1 (s_mvB rfl (s_nil (W.ret (hQ _ _  _ rfl  e'3.2)))))) (fun g'1 => W.skip (w9_2 hQ  H0 (h.2 g'1)))))))))
def T9_0 (prog : Prog) (K : Bool → Prop) (s0 : List UInt8) : Prop :=
  T9_1 prog K s0
theorem w9_0 {prog : Prog} {d : Nat} {Q : AE → Sl → St → Prop} {K : Bool → Prop} (hQ : ∀ (σ : Sl) (st : St) (x0 : Bool), σ 2 = .b x0 → K x0 → Q .ret σ st) {s0 : List UInt8}   {σ : Sl} {st : St} (H0 : σ 0 = .s s0) (h : T9_0 prog K s0) : W prog d (.seq (.reg 0 r9_0) c9_6) σ st Q :=
  W.seq (W.reg0 rfl fun _ _ => s_mvB rfl (s_nil (w9_1 hQ  H0 h)))
theorem p9 {prog : Prog} (hf : prog.fn 9 = some pf9) {s0 : List UInt8} {K : Bool → Prop} (h : T9_0 prog K s0) : ∃ x0 : Bool, K x0 ∧ Pus prog 9 [.s s0] (.b x0) := by
  obtain ⟨v, hv, x0, hk, rfl⟩ := Pus.of (K := fun v => ∃ x0 : Bool, K x0 ∧ v = .b x0) hf rfl (w9_0 (σ := sl0 [.s s0]) (fun σ st  x0 H2 hk => ⟨.b x0, by simp only [pf9, ares, aresL, ares1, Option.map_some, H2], _, rfl, x0, hk, rfl⟩) rfl h)
  exact ⟨x0, hk, hv⟩

/-! wreckage/wreckagelaw03.alive -/
def r19_0 : List AI := [⟨(some 0), .mv (.c (.b false)), none⟩]
def r19_1 : List AI := [⟨(some 12), .call false 21 [(.c (.s [45, 48]))], none⟩,
  ⟨(some 11), .mv (.t 12), none⟩,
  ⟨(some 13), .ext 0 (.t 11), none⟩,
  ⟨(some 14), .ext 1 (.t 11), none⟩,
  ⟨(some 1), .mv (.t 13), none⟩,
  ⟨(some 2), .mv (.t 14), none⟩]
def r19_2 : List AI := [⟨(some 16), .call false 21 [(.c (.s [48, 48, 55]))], none⟩,
  ⟨(some 15), .mv (.t 16), none⟩,
  ⟨(some 17), .ext 0 (.t 15), none⟩,
  ⟨(some 18), .ext 1 (.t 15), none⟩,
  ⟨(some 3), .mv (.t 17), none⟩,
  ⟨(some 4), .mv (.t 18), none⟩]
def r19_3 : List AI := [⟨(some 20), .bslice [.i .u8 0] 4 [(0, (.c (.i .u8 97))), (1, (.c (.i .u8 34))), (2, (.c (.i .u8 10))), (3, (.c (.i .u8 0)))], none⟩,
  ⟨(some 21), .b2s (.t 20), none⟩,
  ⟨(some 22), .call false 11 [(.t 21)], none⟩,
  ⟨(some 19), .mv (.t 22), none⟩,
  ⟨(some 23), .ext 0 (.t 19), none⟩,
  ⟨(some 24), .ext 1 (.t 19), none⟩,
  ⟨(some 5), .mv (.t 23), none⟩,
  ⟨(some 6), .mv (.t 24), none⟩]
def r19_4 : List AI := [⟨(some 26), .bslice [.s []] 2 [(0, (.c (.s [97]))), (1, (.c (.s [])))], none⟩,
  ⟨(some 27), .call false 13 [(.t 26)], none⟩,
  ⟨(some 25), .mv (.t 27), none⟩,
  ⟨(some 28), .ext 0 (.t 25), none⟩,
  ⟨(some 29), .ext 1 (.t 25), none⟩,
  ⟨(some 7), .mv (.t 28), none⟩,
  ⟨(some 8), .mv (.t 29), none⟩]
def r19_5 : List AI := [⟨(some 31), .call false 13 [(.c (.sl .full []))], none⟩,
  ⟨(some 30), .mv (.t 31), none⟩,
  ⟨(some 32), .ext 0 (.t 30), none⟩,
  ⟨(some 33), .ext 1 (.t 30), none⟩,
  ⟨(some 9), .mv (.t 32), none⟩,
  ⟨(some 10), .mv (.t 33), none⟩]
def r19_6 : List AI := [⟨(some 34), .call false 15 [(.c (.i .i64 (-9223372036854775808)))], none⟩,
  ⟨(some 35), .bin .eql (.t 34) (.c (.s [45, 57, 50, 50, 51, 51, 55, 50, 48, 51, 54, 56, 53, 52, 55, 55, 53, 56, 48, 56])), none⟩,
  ⟨(some 36), .mv (.t 35), none⟩,
  ⟨(some 37), .mv (.t 2), (some (36, true))⟩,
  ⟨(some 38), .bin .eql (.t 37) (.c (.i .i64 12)), (some (36, true))⟩,
  ⟨(some 39), .pick (.t 36) (.t 38) (.c (.b false)), none⟩,
  ⟨(some 40), .mv (.t 39), none⟩,
  ⟨(some 41), .mv (.t 4), (some (40, true))⟩,
  ⟨(some 42), .bin .eql (.t 41) (.c (.i .i64 12)), (some (40, true))⟩,
  ⟨(some 43), .pick (.t 40) (.t 42) (.c (.b false)), none⟩,
  ⟨(some 44), .mv (.t 43), none⟩,
  ⟨(some 45), .call false 17 [(.c (.i .u64 255))], (some (44, true))⟩,
  ⟨(some 46), .bin .eql (.t 45) (.c (.s [48, 120, 102, 102])), (some (44, true))⟩,
  ⟨(some 47), .pick (.t 44) (.t 46) (.c (.b false)), none⟩,
  ⟨(some 48), .mv (.t 47), none⟩,
  ⟨(some 49), .mv (.t 6), (some (48, true))⟩,
  ⟨(some 50), .bin .eql (.t 49) (.c (.i .i64 0)), (some (48, true))⟩,
  ⟨(some 51), .pick (.t 48) (.t 50) (.c (.b false)), none⟩,
  ⟨(some 52), .mv (.t 51), none⟩,
  ⟨(some 53), .mv (.t 5), (some (52, true))⟩,
  ⟨(some 54), .bin .eql (.t 53) (.c (.s [34, 97, 92, 34, 92, 110, 92, 120, 48, 48, 34])), (some (52, true))⟩,
  ⟨(some 55), .pick (.t 52) (.t 54) (.c (.b false)), none⟩,
  ⟨(some 56), .mv (.t 55), none⟩,
  ⟨(some 57), .mv (.t 5), (some (56, true))⟩,
  ⟨(some 58), .len true (.t 57), (some (56, true))⟩,
  ⟨(some 59), .bin .eql (.t 58) (.c (.i .i64 11)), (some (56, true))⟩,
  ⟨(some 60), .pick (.t 56) (.t 59) (.c (.b false)), none⟩,
  ⟨(some 61), .mv (.t 60), none⟩,
  ⟨(some 62), .mv (.t 8), (some (61, true))⟩,
  ⟨(some 63), .bin .eql (.t 62) (.c (.i .i64 0)), (some (61, true))⟩,
  ⟨(some 64), .pick (.t 61) (.t 63) (.c (.b false)), none⟩,
  ⟨(some 65), .mv (.t 64), none⟩,
  ⟨(some 66), .mv (.t 7), (some (65, true))⟩,
  ⟨(some 67), .bin .eql (.t 66) (.c (.s [91, 34, 97, 34, 44, 32, 34, 34, 93])), (some (65, true))⟩,
  ⟨(some 68), .pick (.t 65) (.t 67) (.c (.b false)), none⟩,
  ⟨(some 69), .mv (.t 68), none⟩,
  ⟨(some 70), .mv (.t 10), (some (69, true))⟩,
  ⟨(some 71), .bin .eql (.t 70) (.c (.i .i64 0)), (some (69, true))⟩,
  ⟨(some 72), .pick (.t 69) (.t 71) (.c (.b false)), none⟩,
  ⟨(some 73), .mv (.t 72), none⟩,
  ⟨(some 74), .mv (.t 9), (some (73, true))⟩,
  ⟨(some 75), .bin .eql (.t 74) (.c (.s [91, 93])), (some (73, true))⟩,
  ⟨(some 76), .pick (.t 73) (.t 75) (.c (.b false)), none⟩,
  ⟨(some 0), .mv (.t 76), none⟩]
abbrev c19_0 : AC := (.seq (.reg 3 r19_3) (.seq (.reg 4 r19_4) (.seq (.reg 5 r19_5) (.seq (.reg 6 r19_6) .ret))))
abbrev c19_1 : AC := (.seq (.reg 2 r19_2) c19_0)
abbrev c19_2 : AC := (.seq (.reg 1 r19_1) c19_1)
abbrev b19 : AC := (.seq (.reg 0 r19_0) c19_2)
def pf19 : AF := { nt := 77, res := [.tmp 0], body := b19 }
def T19_3 (prog : Prog) (K : Bool → Prop) (a2 : Int) (b4 : Int) : Prop :=
  ∃ r'1 : List UInt8, ∃ r'2 : Int, Pus prog 11 [.s [(97 : UInt8), (34 : UInt8), (10 : UInt8), (0 : UInt8)]] (.tup [.s r'1, .i .i64 r'2]) ∧ ∃ r'4 : List UInt8, ∃ r'5 : Int, Pus prog 13 [.sl .ext (List.map rowS [([97] : List UInt8), ([] : List UInt8)])] (.tup [.s r'4, .i .i64 r'5]) ∧ ∃ r'7 : List UInt8, ∃ r'8 : Int, Pus prog 13 [.sl .ext (List.map rowS ([] : List (List UInt8)))] (.tup [.s r'7, .i .i64 r'8]) ∧ ∃ r'10 : List UInt8, Pus prog 15 [.i .i64 (-9223372036854775808)] (.s r'10) ∧ (r'10 = ([45, 57, 50, 50, 51, 51, 55, 50, 48, 51, 54, 56, 53, 52, 55, 55, 53, 56, 48, 56] : List UInt8) → (a2 = 12 → (b4 = 12 → ∃ r'15 : List UInt8, Pus prog 17 [.i .u64 255] (.s r'15) ∧ (r'15 = ([48, 120, 102, 102] : List UInt8) → (r'2 = 0 → (r'1 = ([34, 97, 92, 34, 92, 110, 92, 120, 48, 48, 34] : List UInt8) → ((r'1.length : Int) = 11 → (r'5 = 0 → (r'4 = ([91, 34, 97, 34, 44, 32, 34, 34, 93] : List UInt8) → (r'8 = 0 → K (decide (r'7 = ([91, 93] : List UInt8)))) ∧ (¬(r'8 = 0) → K false)) ∧ (¬(r'4 = ([91, 34, 97, 34, 44, 32, 34, 34, 93] : List UInt8)) → K false)) ∧ (¬(r'5 = 0) → K false)) ∧ (¬((r'1.length : Int) = 11) → K false)) ∧ (¬(r'1 = ([34, 97, 92, 34, 92, 110, 92, 120, 48, 48, 34] : List UInt8)) → K false)) ∧ (¬(r'2 = 0) → K false)) ∧ (¬(r'15 = ([48, 120, 102, 102] : List UInt8)) → K false)) ∧ (¬(b4 = 12) → K false)) ∧ (¬(a2 = 12) → K false)) ∧ (¬(r'10 = ([45, 57, 50, 50, 51, 51, 55, 50, 48, 51, 54, 56, 53, 52, 55, 55, 53, 56, 48, 56] : List UInt8)) → K false)
theorem w19_3 {prog : Prog} {d : Nat} {Q : AE → Sl → St → Prop} {K : Bool → Prop} (hQ : ∀ (σ : Sl) (st : St) (x0 : Bool), σ 0 = .b x0 → K x0 → Q .ret σ st) {a2 : Int} {b4 : Int}   {σ : Sl} {st : St} (H2 : σ 2 = .i .i64 a2) (H4 : σ 4 = .i .i64 b4) (h : T19_3 prog K a2 b4) : W prog d c19_0 σ st Q :=
  W.seq (W.reg0 rfl fun _ _ => s_bslM (f := row8) (l := [(97 : UInt8), (34 : UInt8), (10 : UInt8), (0 : UInt8)]) rfl rfl (g_cons rfl rfl rfl (g_cons rfl rfl rfl (g_cons rfl rfl rfl (g_cons rfl rfl rfl g_nil)))) rfl (s_b2s rfl (h.elim fun r'1 e'26 => e'26.elim fun r'2 e'3 => s_call (sc rfl rfl sn) e'3.1 (s_mvT rfl (s_ext rfl rfl (s_ext rfl rfl (s_mvS rfl (s_mvI rfl (s_nil (W.seq (W.reg0 rfl fun _ _ => s_bslM (f := rowS) (l := [([97] : List UInt8), ([] : List UInt8)]) rfl rfl (g_cons rfl rfl rfl (g_cons rfl rfl rfl g_nil)) rfl (e'3.2.elim fun r'4 e'25 => e'25.elim fun r'5 e'6 => s_call (sc rfl rfl sn) e'6.1 (s_mvT rfl (s_ext rfl rfl (s_ext rfl rfl (s_mvS rfl (s_mvI rfl (s_nil (W.seq (W.reg0 rfl fun _ _ => e'6.2.elim fun r'7 e'24 => e'24.elim fun r'8 e'9 => s_call (sc (show _ = AV.sl .full (List.map rowS []) from rfl) rfl sn) e'9.1 (s_mvT rfl (s_ext rfl rfl (s_ext rfl rfl (s_mvS rfl (s_mvI rfl (s_nil (W.seq (W.reg0 rfl fun _ _ => e'9.2.elim fun r'10 e'11 => s_call (sc rfl rfl sn) e'11.1 (s_bin rfl rfl (abin_seq _ _) (s_mvB rfl (s_em (g := 36) rfl (fun g'12 => s_gy rfl (s_mvI H2 (s_gy rfl (s_bin rfl rfl (abin_eql _ _ _) (s_pickTB rfl rfl (s_mvB rfl (s_em (g := 40) rfl (fun g'13 => s_gy rfl (s_mvI H4 (s_gy rfl (s_bin rfl rfl (abin_eql _ _ _) (s_pickTB rfl rfl (s_mvB rfl (s_em (g := 44) rfl (fun g'14 => s_gy rfl ((((e'11.2.1 g'12).1 g'13).1 g'14).elim fun r'15 e'16 => s_call (sc rfl rfl sn) e'16.1 (s_gy rfl (s_bin rfl rfl (abin_seq _ _) (s_pickTB rfl rfl (s_mvB rfl (s_em (g := 48) rfl (fun g'17 => s_gy rfl (s_mvI rfl (s_gy rfl (s_bin rfl rfl (abin_eql _ _ _) (s_pickTB rfl rfl (s_mvB rfl (s_em (g := 52) rfl (fun g'18 => s_gy rfl (s_mvS rfl (s_gy rfl (s_bin rfl rfl (abin_seq _ _) (s_pickTB rfl rfl (s_mvB rfl (s_em (g := 56) rfl (fun g'19 => s_gy rfl (s_mvS rfl (s_gy rfl (s_lenS rfl (s_gy rfl (s_bin rfl rfl (abin_eql _ _ _) (s_pickTB rfl rfl (s_mvB rfl (s_em (g := 61) rfl (fun g'20 => s_gy rfl (s_mvI rfl (s_gy rfl (s_bin rfl rfl (abin_eql _ _ _) (s_pickTB rfl rfl (s_mvB rfl (s_em (g := 65) rfl (fun g'21 => s_gy rfl (s_mvS rfl (s_gy rfl (s_bin rfl rfl (abin_seq _ _) (s_pickTB rfl rfl (s_mvB rfl (s_em (g := 69) rfl (fun g'22 => s_gy rfl (s_mvI rfl (s_gy rfl (s_bin rfl rfl (abin_eql _ _ _) (s_pickTB rfl rfl (s_mvB rfl (s_em (g := 73) rfl (fun g'23 => s_gy rfl (s_mvS rfl (s_gy rfl (s_bin rfl rfl (abin_seq _ _) (s_pickTB rfl rfl (s_mvB rfl (s_nil (W.ret (hQ _ _  _ rfl  (((((((e'16.2.1 g'17).1 g'18).1 g'19).1 g'20).1 g'21).1 g'22).1 g'23)))))))))) (fun g'23 => s_gn (b := false) rfl rfl (s_gn (b := false) rfl rfl (s_pickFB rfl rfl (s_mvB rfl (s_nil (W.ret (hQ _ _  _ rfl  (((((((e'16.2.1 g'17).1 g'18).1 g'19).1 g'20).1 g'21).1 g'22).2 g'23))))))))))))))) (fun g'22 => s_gn (b := false) rfl rfl (s_gn (b := false) rfl rfl (s_pickFB rfl rfl (s_mvB rfl (s_gn (b := false) rfl rfl (s_gn (b := false) rfl rfl (s_pickFB rfl rfl (s_mvB rfl (s_nil (W.ret (hQ _ _  _ rfl  ((((((e'16.2.1 g'17).1 g'18).1 g'19).1 g'20).1 g'21).2 g'22))))))))))))))))))) (fun g'21 => s_gn (b := false) rfl rfl (s_gn (b := false) rfl rfl (s_pickFB rfl rfl (s_mvB rfl (s_gn (b := false) rfl rfl (s_gn (b := false) rfl rfl (s_pickFB rfl rfl (s_mvB rfl (s_gn (b := false) rfl rfl (s_gn (b := false) rfl rfl (s_pickFB rfl rfl (s_mvB rfl (s_nil (W.ret (hQ _ _  _ rfl  (((((e'16.2.1 g'17).1 g'18).1 g'19).1 g'20).2 g'21))))))))))))))))))))))) (fun g'20 => s_gn (b := false) rfl rfl (s_gn (b := false) rfl rfl (s_pickFB rfl rfl (s_mvB rfl (s_gn (b := false) rfl rfl (s_gn (b := false) rfl rfl (s_pickFB rfl rfl (s_mvB rfl (s_gn (b := false) rfl rfl (s_gn (b := false) rfl rfl (s_pickFB rfl rfl (s_mvB rfl (s_gn (b := false) rfl rfl (s_gn (b := false) rfl rfl (s_pickFB rfl rfl (s_mvB rfl (s_nil (W.ret (hQ _ _  _ rfl  ((((e'16.2.1 g'17).1 g'18).1 g'19).2 g'20))))))))))))))))))))))))))))) (fun g'19 => s_gn (b := false) rfl rfl (s_gn (b := false) rfl rfl (s_gn (b := false) rfl rfl (s_pickFB rfl rfl (s_mvB rfl (s_gn (b := false) rfl rfl (s_gn (b := false) rfl rfl (s_pickFB rfl rfl (s_mvB rfl (s_gn (b := false) rfl rfl (s_gn (b := false) rfl rfl (s_pickFB rfl rfl (s_mvB rfl (s_gn (b := false) rfl rfl (s_gn (b := false) rfl rfl (s_pickFB rfl rfl (s_mvB rfl (s_gn (b := false) rfl rfl (s_gn (b := false) rfl rfl (s_pickFB rfl rfl (s_mvB rfl (s_nil (W.ret (hQ _ _  _ rfl  (((e'16.2.1 g'17).1 g'18).2 g'19)))))))))))))))))))))))))))))))) (fun g'18 => s_gn (b := false) rfl rfl (s_gn (b := false) rfl rfl (s_pickFB rfl rfl (s_mvB rfl (s_gn (b := false) rfl rfl (s_gn (b := false) rfl rfl (s_gn (b := false) rfl rfl (s_pickFB rfl rfl (s_mvB rfl (s_gn (b := false) rfl rfl (s_gn (b := false) rfl rfl (s_pickFB rfl rfl (s_mvB rfl (s_gn (b := false) rfl rfl (s_gn (b := false) rfl rfl (s_pickFB rfl rfl (s_mvB rfl (s_gn (b := false) rfl rfl (s_gn (b := false) rfl rfl (s_pickFB rfl rfl (s_mvB rfl (s_gn (b := false) rfl rfl (s_gn (b := false) rfl rfl (s_pickFB rfl rfl (s_mvB rfl (s_nil (W.ret (hQ _ _  _ rfl  ((e'16.2.1 g'17).2 g'18)))))))))))))))))))))))))))))))))))) (fun g'17 => s_gn (b := false) rfl rfl (s_gn (b := false) rfl rfl (s_pickFB rfl rfl (s_mvB rfl (s_gn (b := false) rfl rfl (s_gn (b := false) rfl rfl (s_pickFB rfl rfl (s_mvB rfl (s_gn (b := false) rfl rfl (s_gn (b := false) rfl rfl (s_gn (b := false) rfl rfl (s_pickFB rfl rfl (s_mvB rfl (s_gn (b := false) rfl rfl (s_gn (b := false) rfl rfl (s_pickFB rfl rfl (s_mvB rfl (s_gn (b := false) rfl rfl (s_gn (b := false) rfl rfl (s_pickFB rfl rfl (s_mvB rfl (s_gn (b := false) rfl rfl (s_gn (b := false) rfl rfl (s_pickFB rfl rfl (s_mvB rfl (s_gn (b := false) rfl rfl (s_gn (b := false) rfl rfl (s_pickFB rfl rfl (s_mvB rfl (s_nil (W.ret (hQ _ _  _ rfl  (e'16.2.2 g'17)))))))))))))))))))))))))))))))))))))))) (fun g'14 => s_gn (b := false) rfl rfl (s_gn (b := false) rfl rfl (s_pickFB rfl rfl (s_mvB rfl (s_gn (b := false) rfl rfl (s_gn (b := false) rfl rfl (s_pickFB rfl rfl (s_mvB rfl (s_gn (b := false) rfl rfl (s_gn (b := false) rfl rfl (s_pickFB rfl rfl (s_mvB rfl (s_gn (b := false) rfl rfl (s_gn (b := false) rfl rfl (s_gn (b := false) rfl rfl (s_pickFB rfl rfl (s_mvB rfl (s_gn (b := false) rfl rfl (s_gn (b := false) rfl rfl (s_pickFB rfl rfl (s_mvB rfl (s_gn (b := false) rfl rfl (s_gn (b := false) rfl rfl (s_pickFB rfl rfl (s_mvB rfl (s_gn (b := false) rfl rfl (s_gn (b := false) rfl rfl (s_pickFB rfl rfl (s_mvB rfl (s_gn (b := false) rfl rfl (s_gn (b := false) rfl rfl (s_pickFB rfl rfl (s_mvB rfl (s_nil (W.ret (hQ _ _  _ rfl  (((e'11.2.1 g'12).1 g'13).2 g'14)))))))))))))))))))))))))))))))))))))))))))) (fun g'13 => s_gn (b := false) rfl rfl (s_gn (b := false) rfl rfl (s_pickFB rfl rfl (s_mvB rfl (s_gn (b := false) rfl rfl (s_gn (b := false) rfl rfl (s_pickFB rfl rfl (s_mvB rfl (s_gn (b := false) rfl rfl (s_gn (b := false) rfl rfl (s_pickFB rfl rfl (s_mvB rfl (s_gn (b := false) rfl rfl (s_gn (b := false) rfl rfl (s_pickFB rfl rfl (s_mvB rfl (s_gn (b := false) rfl rfl (s_gn (b := false) rfl rfl (s_gn (b := false) rfl rfl (s_pickFB rfl rfl (s_mvB rfl (s_gn (b := false) rfl rfl (s_gn (b := false) rfl rfl (s_pickFB rfl rfl (s_mvB rfl (s_gn (b := false) rfl rfl (s_gn (b := false) rfl rfl (s_pickFB rfl rfl (s_mvB rfl (s_gn (b := false) rfl rfl (s_gn (b := false) rfl rfl (s_pickFB rfl rfl (s_mvB rfl (s_gn (b := false) rfl rfl (s_gn (b := false) rfl rfl (s_pickFB rfl rfl (s_mvB rfl (s_nil (W.ret (hQ _ _  _ rfl  ((e'11.2.1 g'12).2 g'13)))))))))))))))))))))))))))))))))))))))))))))))) (fun g'12 => s_gn (b := false) rfl rfl (s_gn (b := false) rfl rfl (s_pickFB rfl rfl (s_mvB rfl (s_gn (b := false) rfl rfl (s_gn (b := false) rfl rfl (s_pickFB rfl rfl (s_mvB rfl (s_gn (b := false) rfl rfl (s_gn (b := false) rfl rfl (s_pickFB rfl rfl (s_mvB rfl (s_gn (b := false) rfl rfl (s_gn (b := false) rfl rfl (s_pickFB rfl rfl (s_mvB rfl (s_gn (b := false) rfl rfl (s_gn (b := false) rfl rfl (s_pickFB rfl rfl (s_mvB rfl (s_gn (b := false) rfl rfl (s_gn (b := false) rfl rfl (s_gn (b := false) rfl rfl (s_pickFB rfl rfl (s_mvB rfl (s_gn (b := false) rfl rfl (s_gn (b := false) rfl rfl (s_pickFB rfl rfl (s_mvB rfl (s_gn (b := false) rfl rfl (s_gn (b := false) rfl rfl (s_pickFB rfl rfl (s_mvB rfl (s_gn (b := false) rfl rfl (s_gn (b := false) rfl rfl (s_pickFB rfl rfl (s_mvB rfl (s_gn (b := false) rfl rfl (s_gn (b := false) rfl rfl (s_pickFB rfl rfl (s_mvB rfl (s_nil (W.ret (hQ _ _  _ rfl  (e'11.2.2 g'12))))))))))))))))))))))))))))))))))))))))))))))))))))))))))))))))))))))))))))
def T19_2 (prog : Prog) (K : Bool → Prop) (a2 : Int) : Prop :=
  ∃ r'1 : Int, ∃ r'2 : Int, Pus prog 21 [.s ([48, 48, 55] : List UInt8)] (.tup [.i .i64 r'1, .i .i64 r'2]) ∧ T19_3 prog K a2 r'2
theorem w19_2 {prog : Prog} {d : Nat} {Q : AE → Sl → St → Prop} {K : Bool → Prop} (hQ : ∀ (σ : Sl) (st : St) (x0 : Bool), σ 0 = .b x0 → K x0 → Q .ret σ st) {a2 : Int}   {σ : Sl} {st : St} (H2 : σ 2 = .i .i64 a2) (h : T19_2 prog K a2) : W prog d c19_1 σ st Q :=
  W.seq (W.reg0 rfl fun _ _ => h.elim fun r'1 e'4 => e'4.elim fun r'2 e'3 => s_call (sc rfl rfl sn) e'3.1 (s_mvT rfl (s_ext rfl rfl (s_ext rfl rfl (s_mvI rfl (s_mvI rfl (s_nil (w19_3 hQ  H2 rfl e'3.2))))))))
def T19_1 (prog : Prog) (K : Bool → Prop)  : Prop :=
  ∃ r'1 : Int, ∃ r'2 : Int, Pus prog 21 [.s ([45, 48] : List UInt8)] (.tup [.i .i64 r'1, .i .i64 r'2]) ∧ T19_2 prog K r'2
theorem w19_1 {prog : Prog} {d : Nat} {Q : AE → Sl → St → Prop} {K : Bool → Prop} (hQ : ∀ (σ : Sl) (st : St) (x0 : Bool), σ 0 = .b x0 → K x0 → Q .ret σ st)    {σ : Sl} {st : St}  (h : T19_1 prog K ) : W prog d c19_2 σ st Q :=
  W.seq (W.reg0 rfl fun _ _ => h.elim fun r'1 e'4 => e'4.elim fun r'2 e'3 => s_call (sc rfl rfl sn) e'3.1 (s_mvT rfl (s_ext rfl rfl (s_ext rfl rfl (s_mvI rfl (s_mvI rfl (s_nil (w19_2 hQ  rfl e'3.2))))))))
def T19_0 (prog : Prog) (K : Bool → Prop)  : Prop :=
  T19_1 prog K 
theorem w19_0 {prog : Prog} {d : Nat} {Q : AE → Sl → St → Prop} {K : Bool → Prop} (hQ : ∀ (σ : Sl) (st : St) (x0 : Bool), σ 0 = .b x0 → K x0 → Q .ret σ st)    {σ : Sl} {st : St}  (h : T19_0 prog K ) : W prog d (.seq (.reg 0 r19_0) c19_2) σ st Q :=
  W.seq (W.reg0 rfl fun _ _ => s_mvB rfl (s_nil (w19_1 hQ   h)))
theorem p19 {prog : Prog} (hf : prog.fn 19 = some pf19)  {K : Bool → Prop} (h : T19_0 prog K ) : ∃ x0 : Bool, K x0 ∧ Pus prog 19 [] (.b x0) := by
  obtain ⟨v, hv, x0, hk, rfl⟩ := Pus.of (K := fun v => ∃ x0 : Bool, K x0 ∧ v = .b x0) hf rfl (w19_0 (σ := sl0 []) (fun σ st  x0 H0 hk => ⟨.b x0, by simp only [pf19, ares, aresL, ares1, Option.map_some, H0], _, rfl, x0, hk, rfl⟩)  h)
  exact ⟨x0, hk, hv⟩

end Go.AM
