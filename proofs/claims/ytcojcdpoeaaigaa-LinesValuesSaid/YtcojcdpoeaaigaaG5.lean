/- Parts of the proof: U38a. -/
import Derived.Test.YtcojcdpoeaaigaaG4
set_option linter.all false
/- MADE BY PROGRAM (tl.py). -/
namespace Go.AM
open Go
set_option linter.unusedVariables false
set_option linter.unusedSimpArgs false
set_option maxRecDepth 4000
attribute [local irreducible] WO fillCells fillRows

/-! wreckage/wreckageref38.Great -/
def r71_0 : List AI := [⟨(some 1), .box 5 (.t 0), none⟩,
  ⟨(some 2), .mv (.c (.b false)), none⟩]
def r71_1 : List AI := [⟨(some 3), .load 5 true (.t 1), none⟩,
  ⟨(some 4), .call false 102 [(.t 3), (.c (.i .i64 14))], none⟩,
  ⟨(some 5), .mv (.t 4), none⟩,
  ⟨(some 6), .load 5 true (.t 1), (some (5, false))⟩,
  ⟨(some 7), .call false 103 [(.t 6)], (some (5, false))⟩,
  ⟨(some 8), .bin .gtr (.t 7) (.c (.i .i64 400)), (some (5, false))⟩,
  ⟨(some 9), .pick (.t 5) (.c (.b true)) (.t 8), none⟩,
  ⟨(some 2), .mv (.t 9), none⟩]
abbrev b71 : AC := (.seq (.reg 0 r71_0) (.seq (.reg 1 r71_1) .ret))
def pf71 : AF := { nt := 10, res := [.tmp 2], body := b71 }
def T71_0 (prog : Prog) (K : Bool → Prop) (v0 : Val) : Prop :=
  ∃ r'1 : Bool, Pus prog 102 [.ag [.i .u8 v0.kind, .i .i64 v0.int, .s v0.text, .sl .ext (List.map Val.row v0.list), .b v0.cut], .i .i64 14] (.b r'1) ∧ (r'1 = true → K true) ∧ (r'1 = false → ∃ r'4 : Int, Pus prog 103 [.ag [.i .u8 v0.kind, .i .i64 v0.int, .s v0.text, .sl .ext (List.map Val.row v0.list), .b v0.cut]] (.i .i64 r'4) ∧ K (decide (r'4 > 400)))
theorem w71_0 {prog : Prog} {d : Nat} {Q : AE → Sl → St → Prop} {K : Bool → Prop} (hQ : ∀ (σ : Sl) (st : St) (x0 : Bool), σ 2 = .b x0 → K x0 → Q .ret σ st) {v0 : Val}   {σ : Sl} {st : St} (H0 : σ 0 = .ag [.i .u8 v0.kind, .i .i64 v0.int, .s v0.text, .sl .ext (List.map Val.row v0.list), .b v0.cut]) (h : T71_0 prog K v0) : W prog d (.seq (.reg 0 r71_0) (.seq (.reg 1 r71_1) .ret)) σ st Q :=
  W.seq (W.reg0 rfl fun _ _ => s_box H0 rfl (s_mvB rfl (s_nil (W.seq (W.reg0 rfl fun _ _ => s_loadP rfl lk_here rfl rfl (h.elim fun r'1 e'2 => s_call (sc rfl rfl (sc rfl rfl sn)) e'2.1 (s_mvB rfl (s_emb (g := 5) rfl (fun g'3 => s_gn (b := true) rfl rfl (s_gn (b := true) rfl rfl (s_gn (b := true) rfl rfl (s_pickTB rfl rfl (s_mvB rfl (s_nil (W.ret (hQ _ _   _ rfl  (e'2.2.1 g'3))))))))) (fun g'3 => s_gy rfl (s_loadP rfl lk_here rfl rfl (s_gy rfl ((e'2.2.2 g'3).elim fun r'4 e'5 => s_call (sc rfl rfl sn) e'5.1 (s_gy rfl (s_bin rfl rfl (abin_gtr _ _ _) (s_pickFB rfl rfl (s_mvB rfl (s_nil (W.ret (hQ _ _   _ rfl  e'5.2)))))))))))))))))))
theorem p71 {prog : Prog} (hf : prog.fn 71 = some pf71) {v0 : Val} {K : Bool → Prop} (h : T71_0 prog K v0) : ∃ x0 : Bool, K x0 ∧ Pus prog 71 [.ag [.i .u8 v0.kind, .i .i64 v0.int, .s v0.text, .sl .ext (List.map Val.row v0.list), .b v0.cut]] (.b x0) := by
  obtain ⟨v, hv, x0, hk, rfl⟩ := Pus.of (K := fun v => ∃ x0 : Bool, K x0 ∧ v = .b x0) hf rfl (w71_0 (σ := sl0 [.ag [.i .u8 v0.kind, .i .i64 v0.int, .s v0.text, .sl .ext (List.map Val.row v0.list), .b v0.cut]]) (fun σ st   x0 H2 hk => ⟨.b x0, by simp only [pf71, ares, aresL, H2, ares1, Option.map_some], _, rfl, x0, hk, rfl⟩) rfl h)
  exact ⟨x0, hk, hv⟩

/-! wreckage/lines.Value -/
def r72_0 : List AI := [⟨(some 1), .box 5 (.t 0), none⟩,
  ⟨(some 2), .mv (.c (.s [])), none⟩,
  ⟨(some 3), .mv (.c (.i .i64 0)), none⟩]
def r72_1 : List AI := [⟨(some 7), .load 5 true (.t 1), none⟩,
  ⟨(some 8), .call false 76 [(.t 7)], none⟩,
  ⟨(some 4), .mv (.t 8), none⟩]
def r72_2 : List AI := [⟨(some 9), .mv (.t 4), none⟩,
  ⟨(some 10), .bin .neq (.t 9) (.c (.i .i64 0)), none⟩]
def r72_3 : List AI := [⟨(some 11), .mv (.t 4), none⟩,
  ⟨(some 2), .mv (.c (.s [])), none⟩,
  ⟨(some 3), .mv (.t 11), none⟩]
def r72_4 : List AI := [⟨(some 5), .alloc [.np, .sl .full []], none⟩]
def r72_5 : List AI := [⟨(some 12), .load 5 true (.t 1), none⟩,
  ⟨(some 13), .call true 104 [(.t 5), (.t 12)], none⟩,
  ⟨(some 6), .mv (.t 13), none⟩]
def r72_6 : List AI := [⟨(some 14), .mv (.t 6), none⟩,
  ⟨(some 15), .bin .neq (.t 14) (.c (.i .i64 0)), none⟩]
def r72_7 : List AI := [⟨(some 16), .mv (.t 6), none⟩,
  ⟨(some 2), .mv (.c (.s [])), none⟩,
  ⟨(some 3), .mv (.t 16), none⟩]
def r72_8 : List AI := [⟨(some 17), .call true 105 [(.t 5)], none⟩,
  ⟨(some 2), .mv (.t 17), none⟩,
  ⟨(some 3), .mv (.c (.i .i64 0)), none⟩]
abbrev b72 : AC := (.seq (.reg 0 r72_0) (.seq (.seq (.reg 1 r72_1) (.seq (.reg 2 r72_2) (.cond (.t 10) (.seq (.reg 3 r72_3) .ret) .skip))) (.seq (.reg 1000004 r72_4) (.seq (.seq (.reg 5 r72_5) (.seq (.reg 6 r72_6) (.cond (.t 15) (.seq (.reg 7 r72_7) .ret) .skip))) (.seq (.reg 8 r72_8) .ret)))))
def pf72 : AF := { nt := 18, res := [.tmp 2, .tmp 3], body := b72 }
def T72_0 (prog : Prog) (K : List UInt8 → Int → Prop) (v0 : Val) : Prop :=
  ∃ r'1 : Int, Pus prog 76 [.ag [.i .u8 v0.kind, .i .i64 v0.int, .s v0.text, .sl .ext (List.map Val.row v0.list), .b v0.cut]] (.i .i64 r'1) ∧ (r'1 ≠ 0 → K ([] : List UInt8) r'1) ∧ (¬(r'1 ≠ 0) → ∃ r'9 : Int, ∃ b'15 : List UInt8, PuX prog 104 (Bl ([] : List UInt8)) [.ag [.i .u8 v0.kind, .i .i64 v0.int, .s v0.text, .sl .ext (List.map Val.row v0.list), .b v0.cut]] (fun r => r = .i .i64 r'9) ((Bl b'15)) ∧ (r'9 ≠ 0 → K ([] : List UInt8) r'9) ∧ (¬(r'9 ≠ 0) → ∃ r'17 : List UInt8, PuX prog 105 (Bl b'15) [] (fun r => r = .s r'17) (fun _ _ _ _ => True) ∧ K r'17 0))
theorem w72_0 {prog : Prog} {d : Nat} {Q : AE → Sl → St → Prop} {K : List UInt8 → Int → Prop} (hQ : ∀ (σ : Sl) (st : St) (x0 : List UInt8) (x1 : Int), σ 2 = .s x0 → σ 3 = .i .i64 x1 → K x0 x1 → Q .ret σ st) {v0 : Val}   {σ : Sl} {st : St} (H0 : σ 0 = .ag [.i .u8 v0.kind, .i .i64 v0.int, .s v0.text, .sl .ext (List.map Val.row v0.list), .b v0.cut]) (h : T72_0 prog K v0) : W prog d (.seq (.reg 0 r72_0) (.seq (.seq (.reg 1 r72_1) (.seq (.reg 2 r72_2) (.cond (.t 10) (.seq (.reg 3 r72_3) .ret) .skip))) (.seq (.reg 1000004 r72_4) (.seq (.seq (.reg 5 r72_5) (.seq (.reg 6 r72_6) (.cond (.t 15) (.seq (.reg 7 r72_7) .ret) .skip))) (.seq (.reg 8 r72_8) .ret))))) σ st Q :=
  W.seq (W.reg0 rfl fun _ _ => s_box H0 rfl (s_mvS rfl (s_mvI rfl (s_nil (W.seq (W.seq (W.reg0 rfl fun _ _ => s_loadP rfl lk_here rfl rfl (h.elim fun r'1 e'2 => s_call (sc rfl rfl sn) e'2.1 (s_mvI rfl (s_nil (W.seq (W.reg0 rfl fun _ _ => s_mvI rfl (s_bin rfl rfl (abin_neq _ _ _) (s_nil (c_split rfl (fun g'3 => W.seq (W.reg0 rfl fun _ _ => s_mvI rfl (s_mvS rfl (s_mvI rfl (s_nil (W.ret (hQ _ _   _ _ rfl rfl  (e'2.2.1 g'3)))))))) (fun g'3 => W.skip (W.seq (W.regB rfl (fun nx'6 v'7 bx'8 hb'4 hx'5 => W.seq (W.seq (W.reg0 rfl fun _ _ => s_loadP rfl ((hx'5 (d, 0) (key_LL rfl)).trans lk_here) rfl rfl ((e'2.2.2 g'3).elim fun r'9 e'23 => e'23.elim fun b'15 e'11 => s_callX (sec rfl (sec rfl sen)) e'11.1 (Nat.lt_succ_self d) hb'4 (fun st'12 hb'13 hf'14 => s_mvI rfl (s_nil (W.seq (W.reg0 rfl fun _ _ => s_mvI rfl (s_bin rfl rfl (abin_neq _ _ _) (s_nil (c_split rfl (fun g'16 => W.seq (W.reg0 rfl fun _ _ => s_mvI rfl (s_mvS rfl (s_mvI rfl (s_nil (W.ret (hQ _ _   _ _ rfl rfl  (e'11.2.1 g'16)))))))) (fun g'16 => W.skip (W.seq (W.reg0 rfl fun _ _ => (e'11.2.2 g'16).elim fun r'17 e'19 => s_callX (sec rfl sen) e'19.1 (Nat.lt_succ_self d) hb'13 (fun st'20 hb'21 hf'22 => s_mvS rfl (s_mvI rfl (s_nil (W.ret (hQ _ _   _ _ rfl rfl  e'19.2)))))))))))))))))))))))))))))))))))))
theorem p72 {prog : Prog} (hf : prog.fn 72 = some pf72) {v0 : Val} {K : List UInt8 → Int → Prop} (h : T72_0 prog K v0) : ∃ x0 : List UInt8, ∃ x1 : Int, K x0 x1 ∧ Pus prog 72 [.ag [.i .u8 v0.kind, .i .i64 v0.int, .s v0.text, .sl .ext (List.map Val.row v0.list), .b v0.cut]] (.tup [.s x0, .i .i64 x1]) := by
  obtain ⟨v, hv, x0, x1, hk, rfl⟩ := Pus.of (K := fun v => ∃ x0 : List UInt8, ∃ x1 : Int, K x0 x1 ∧ v = .tup [.s x0, .i .i64 x1]) hf rfl (w72_0 (σ := sl0 [.ag [.i .u8 v0.kind, .i .i64 v0.int, .s v0.text, .sl .ext (List.map Val.row v0.list), .b v0.cut]]) (fun σ st   x0 x1 H2 H3 hk => ⟨.tup [.s x0, .i .i64 x1], by simp only [pf72, ares, aresL, H2, H3, ares1, Option.map_some], _, rfl, x0, x1, hk, rfl⟩) rfl h)
  exact ⟨x0, x1, hk, hv⟩

/-! wreckage/wreckageref38.Value -/
def r73_0 : List AI := [⟨(some 1), .box 5 (.t 0), none⟩,
  ⟨(some 2), .mv (.c (.s [])), none⟩,
  ⟨(some 3), .mv (.c (.i .i64 0)), none⟩]
def r73_1 : List AI := [⟨(some 5), .load 5 true (.t 1), none⟩,
  ⟨(some 6), .call false 77 [(.t 5)], none⟩,
  ⟨(some 4), .mv (.t 6), none⟩]
def r73_2 : List AI := [⟨(some 7), .mv (.t 4), none⟩,
  ⟨(some 8), .bin .neq (.t 7) (.c (.i .i64 0)), none⟩]
def r73_3 : List AI := [⟨(some 9), .mv (.t 4), none⟩,
  ⟨(some 2), .mv (.c (.s [])), none⟩,
  ⟨(some 3), .mv (.t 9), none⟩]
def r73_4 : List AI := [⟨(some 10), .load 5 true (.t 1), none⟩,
  ⟨(some 11), .call false 106 [(.t 10)], none⟩,
  ⟨(some 2), .mv (.t 11), none⟩,
  ⟨(some 3), .mv (.c (.i .i64 0)), none⟩]
abbrev b73 : AC := (.seq (.reg 0 r73_0) (.seq (.seq (.reg 1 r73_1) (.seq (.reg 2 r73_2) (.cond (.t 8) (.seq (.reg 3 r73_3) .ret) .skip))) (.seq (.reg 4 r73_4) .ret)))
def pf73 : AF := { nt := 12, res := [.tmp 2, .tmp 3], body := b73 }
def T73_0 (prog : Prog) (K : List UInt8 → Int → Prop) (v0 : Val) : Prop :=
  ∃ r'1 : Int, Pus prog 77 [.ag [.i .u8 v0.kind, .i .i64 v0.int, .s v0.text, .sl .ext (List.map Val.row v0.list), .b v0.cut]] (.i .i64 r'1) ∧ (r'1 ≠ 0 → K ([] : List UInt8) r'1) ∧ (¬(r'1 ≠ 0) → ∃ r'4 : List UInt8, Pus prog 106 [.ag [.i .u8 v0.kind, .i .i64 v0.int, .s v0.text, .sl .ext (List.map Val.row v0.list), .b v0.cut]] (.s r'4) ∧ K r'4 0)
theorem w73_0 {prog : Prog} {d : Nat} {Q : AE → Sl → St → Prop} {K : List UInt8 → Int → Prop} (hQ : ∀ (σ : Sl) (st : St) (x0 : List UInt8) (x1 : Int), σ 2 = .s x0 → σ 3 = .i .i64 x1 → K x0 x1 → Q .ret σ st) {v0 : Val}   {σ : Sl} {st : St} (H0 : σ 0 = .ag [.i .u8 v0.kind, .i .i64 v0.int, .s v0.text, .sl .ext (List.map Val.row v0.list), .b v0.cut]) (h : T73_0 prog K v0) : W prog d (.seq (.reg 0 r73_0) (.seq (.seq (.reg 1 r73_1) (.seq (.reg 2 r73_2) (.cond (.t 8) (.seq (.reg 3 r73_3) .ret) .skip))) (.seq (.reg 4 r73_4) .ret))) σ st Q :=
  W.seq (W.reg0 rfl fun _ _ => s_box H0 rfl (s_mvS rfl (s_mvI rfl (s_nil (W.seq (W.seq (W.reg0 rfl fun _ _ => s_loadP rfl lk_here rfl rfl (h.elim fun r'1 e'2 => s_call (sc rfl rfl sn) e'2.1 (s_mvI rfl (s_nil (W.seq (W.reg0 rfl fun _ _ => s_mvI rfl (s_bin rfl rfl (abin_neq _ _ _) (s_nil (c_split rfl (fun g'3 => W.seq (W.reg0 rfl fun _ _ => s_mvI rfl (s_mvS rfl (s_mvI rfl (s_nil (W.ret (hQ _ _   _ _ rfl rfl  (e'2.2.1 g'3)))))))) (fun g'3 => W.skip (W.seq (W.reg0 rfl fun _ _ => s_loadP rfl lk_here rfl rfl ((e'2.2.2 g'3).elim fun r'4 e'5 => s_call (sc rfl rfl sn) e'5.1 (s_mvS rfl (s_mvI rfl (s_nil (W.ret (hQ _ _   _ _ rfl rfl  e'5.2))))))))))))))))))))))))
theorem p73 {prog : Prog} (hf : prog.fn 73 = some pf73) {v0 : Val} {K : List UInt8 → Int → Prop} (h : T73_0 prog K v0) : ∃ x0 : List UInt8, ∃ x1 : Int, K x0 x1 ∧ Pus prog 73 [.ag [.i .u8 v0.kind, .i .i64 v0.int, .s v0.text, .sl .ext (List.map Val.row v0.list), .b v0.cut]] (.tup [.s x0, .i .i64 x1]) := by
  obtain ⟨v, hv, x0, x1, hk, rfl⟩ := Pus.of (K := fun v => ∃ x0 : List UInt8, ∃ x1 : Int, K x0 x1 ∧ v = .tup [.s x0, .i .i64 x1]) hf rfl (w73_0 (σ := sl0 [.ag [.i .u8 v0.kind, .i .i64 v0.int, .s v0.text, .sl .ext (List.map Val.row v0.list), .b v0.cut]]) (fun σ st   x0 x1 H2 H3 hk => ⟨.tup [.s x0, .i .i64 x1], by simp only [pf73, ares, aresL, H2, H3, ares1, Option.map_some], _, rfl, x0, x1, hk, rfl⟩) rfl h)
  exact ⟨x0, x1, hk, hv⟩

/-! wreckage/lines.Check -/
def r76_0 : List AI := [⟨(some 1), .box 5 (.t 0), none⟩,
  ⟨(some 2), .mv (.c (.i .i64 0)), none⟩]
def r76_1 : List AI := [⟨(some 6), .load 5 true (.t 1), none⟩,
  ⟨(some 7), .call false 109 [(.t 6), (.c (.i .i64 130))], none⟩,
  ⟨(some 5), .mv (.t 7), none⟩,
  ⟨(some 8), .ext 0 (.t 5), none⟩,
  ⟨(some 9), .ext 1 (.t 5), none⟩,
  ⟨(some 3), .mv (.t 8), none⟩,
  ⟨(some 4), .mv (.t 9), none⟩]
def r76_2 : List AI := [⟨(some 10), .mv (.t 4), none⟩,
  ⟨(some 11), .un .not (.t 10), none⟩]
def r76_3 : List AI := [⟨(some 2), .mv (.c (.i .i64 8)), none⟩]
def r76_4 : List AI := [⟨(some 2), .mv (.c (.i .i64 0)), none⟩]
abbrev b76 : AC := (.seq (.reg 0 r76_0) (.seq (.seq (.reg 1 r76_1) (.seq (.reg 2 r76_2) (.cond (.t 11) (.seq (.reg 3 r76_3) .ret) .skip))) (.seq (.reg 4 r76_4) .ret)))
def pf76 : AF := { nt := 12, res := [.tmp 2], body := b76 }
def T76_0 (prog : Prog) (K : Int → Prop) (v0 : Val) : Prop :=
  ∃ r'1 : Int, ∃ r'2 : Bool, Pus prog 109 [.ag [.i .u8 v0.kind, .i .i64 v0.int, .s v0.text, .sl .ext (List.map Val.row v0.list), .b v0.cut], .i .i64 130] (.tup [.i .i64 r'1, .b r'2]) ∧ ((!r'2) = true → K 8) ∧ ((!r'2) = false → K 0)
theorem w76_0 {prog : Prog} {d : Nat} {Q : AE → Sl → St → Prop} {K : Int → Prop} (hQ : ∀ (σ : Sl) (st : St) (x0 : Int), σ 2 = .i .i64 x0 → K x0 → Q .ret σ st) {v0 : Val}   {σ : Sl} {st : St} (H0 : σ 0 = .ag [.i .u8 v0.kind, .i .i64 v0.int, .s v0.text, .sl .ext (List.map Val.row v0.list), .b v0.cut]) (h : T76_0 prog K v0) : W prog d (.seq (.reg 0 r76_0) (.seq (.seq (.reg 1 r76_1) (.seq (.reg 2 r76_2) (.cond (.t 11) (.seq (.reg 3 r76_3) .ret) .skip))) (.seq (.reg 4 r76_4) .ret))) σ st Q :=
  W.seq (W.reg0 rfl fun _ _ => s_box H0 rfl (s_mvI rfl (s_nil (W.seq (W.seq (W.reg0 rfl fun _ _ => s_loadP rfl lk_here rfl rfl (h.elim fun r'1 e'5 => e'5.elim fun r'2 e'3 => s_call (sc rfl rfl (sc rfl rfl sn)) e'3.1 (s_mvT rfl (s_ext rfl rfl (s_ext rfl rfl (s_mvI rfl (s_mvB rfl (s_nil (W.seq (W.reg0 rfl fun _ _ => s_mvB rfl (s_not rfl (s_nil (c_bool rfl (fun g'4 => W.seq (W.reg0 rfl fun _ _ => s_mvI rfl (s_nil (W.ret (hQ _ _   _ rfl  (e'3.2.1 g'4)))))) (fun g'4 => W.skip (W.seq (W.reg0 rfl fun _ _ => s_mvI rfl (s_nil (W.ret (hQ _ _   _ rfl  (e'3.2.2 g'4)))))))))))))))))))))))))
theorem p76 {prog : Prog} (hf : prog.fn 76 = some pf76) {v0 : Val} {K : Int → Prop} (h : T76_0 prog K v0) : ∃ x0 : Int, K x0 ∧ Pus prog 76 [.ag [.i .u8 v0.kind, .i .i64 v0.int, .s v0.text, .sl .ext (List.map Val.row v0.list), .b v0.cut]] (.i .i64 x0) := by
  obtain ⟨v, hv, x0, hk, rfl⟩ := Pus.of (K := fun v => ∃ x0 : Int, K x0 ∧ v = .i .i64 x0) hf rfl (w76_0 (σ := sl0 [.ag [.i .u8 v0.kind, .i .i64 v0.int, .s v0.text, .sl .ext (List.map Val.row v0.list), .b v0.cut]]) (fun σ st   x0 H2 hk => ⟨.i .i64 x0, by simp only [pf76, ares, aresL, H2, ares1, Option.map_some], _, rfl, x0, hk, rfl⟩) rfl h)
  exact ⟨x0, hk, hv⟩

/-! wreckage/wreckageref38.Check -/
def r77_0 : List AI := [⟨(some 1), .box 5 (.t 0), none⟩,
  ⟨(some 2), .mv (.c (.i .i64 0)), none⟩]
def r77_1 : List AI := [⟨(some 3), .load 5 true (.t 1), none⟩,
  ⟨(some 4), .call false 110 [(.t 3), (.c (.i .i64 130))], none⟩,
  ⟨(some 5), .un .not (.t 4), none⟩,
  ⟨(some 6), .mv (.t 5), none⟩,
  ⟨(some 7), .load 5 true (.t 1), (some (6, false))⟩,
  ⟨(some 8), .call false 103 [(.t 7)], (some (6, false))⟩,
  ⟨(some 9), .bin .gtr (.t 8) (.c (.i .i64 5000)), (some (6, false))⟩,
  ⟨(some 10), .pick (.t 6) (.c (.b true)) (.t 9), none⟩]
def r77_2 : List AI := [⟨(some 2), .mv (.c (.i .i64 8)), none⟩]
def r77_3 : List AI := [⟨(some 2), .mv (.c (.i .i64 0)), none⟩]
abbrev b77 : AC := (.seq (.reg 0 r77_0) (.seq (.seq (.reg 1 r77_1) (.cond (.t 10) (.seq (.reg 2 r77_2) .ret) .skip)) (.seq (.reg 3 r77_3) .ret)))
def pf77 : AF := { nt := 11, res := [.tmp 2], body := b77 }
def T77_0 (prog : Prog) (K : Int → Prop) (v0 : Val) : Prop :=
  ∃ r'1 : Bool, Pus prog 110 [.ag [.i .u8 v0.kind, .i .i64 v0.int, .s v0.text, .sl .ext (List.map Val.row v0.list), .b v0.cut], .i .i64 130] (.b r'1) ∧ ((!r'1) = true → K 8) ∧ ((!r'1) = false → ∃ r'4 : Int, Pus prog 103 [.ag [.i .u8 v0.kind, .i .i64 v0.int, .s v0.text, .sl .ext (List.map Val.row v0.list), .b v0.cut]] (.i .i64 r'4) ∧ (r'4 > 5000 → K 8) ∧ (¬(r'4 > 5000) → K 0))
theorem w77_0 {prog : Prog} {d : Nat} {Q : AE → Sl → St → Prop} {K : Int → Prop} (hQ : ∀ (σ : Sl) (st : St) (x0 : Int), σ 2 = .i .i64 x0 → K x0 → Q .ret σ st) {v0 : Val}   {σ : Sl} {st : St} (H0 : σ 0 = .ag [.i .u8 v0.kind, .i .i64 v0.int, .s v0.text, .sl .ext (List.map Val.row v0.list), .b v0.cut]) (h : T77_0 prog K v0) : W prog d (.seq (.reg 0 r77_0) (.seq (.seq (.reg 1 r77_1) (.cond (.t 10) (.seq (.reg 2 r77_2) .ret) .skip)) (.seq (.reg 3 r77_3) .ret))) σ st Q :=
  W.seq (W.reg0 rfl fun _ _ => s_box H0 rfl (s_mvI rfl (s_nil (W.seq (W.seq (W.reg0 rfl fun _ _ => s_loadP rfl lk_here rfl rfl (h.elim fun r'1 e'2 => s_call (sc rfl rfl (sc rfl rfl sn)) e'2.1 (s_not rfl (s_mvB rfl (s_emb (g := 6) rfl (fun g'3 => s_gn (b := true) rfl rfl (s_gn (b := true) rfl rfl (s_gn (b := true) rfl rfl (s_pickTB rfl rfl (s_nil (c_tt rfl (W.seq (W.reg0 rfl fun _ _ => s_mvI rfl (s_nil (W.ret (hQ _ _   _ rfl  (e'2.2.1 g'3)))))))))))) (fun g'3 => s_gy rfl (s_loadP rfl lk_here rfl rfl (s_gy rfl ((e'2.2.2 g'3).elim fun r'4 e'5 => s_call (sc rfl rfl sn) e'5.1 (s_gy rfl (s_bin rfl rfl (abin_gtr _ _ _) (s_pickFB rfl rfl (s_nil (c_split rfl (fun g'6 => W.seq (W.reg0 rfl fun _ _ => s_mvI rfl (s_nil (W.ret (hQ _ _   _ rfl  (e'5.2.1 g'6)))))) (fun g'6 => W.skip (W.seq (W.reg0 rfl fun _ _ => s_mvI rfl (s_nil (W.ret (hQ _ _   _ rfl  (e'5.2.2 g'6))))))))))))))))))))))))))
theorem p77 {prog : Prog} (hf : prog.fn 77 = some pf77) {v0 : Val} {K : Int → Prop} (h : T77_0 prog K v0) : ∃ x0 : Int, K x0 ∧ Pus prog 77 [.ag [.i .u8 v0.kind, .i .i64 v0.int, .s v0.text, .sl .ext (List.map Val.row v0.list), .b v0.cut]] (.i .i64 x0) := by
  obtain ⟨v, hv, x0, hk, rfl⟩ := Pus.of (K := fun v => ∃ x0 : Int, K x0 ∧ v = .i .i64 x0) hf rfl (w77_0 (σ := sl0 [.ag [.i .u8 v0.kind, .i .i64 v0.int, .s v0.text, .sl .ext (List.map Val.row v0.list), .b v0.cut]]) (fun σ st   x0 H2 hk => ⟨.i .i64 x0, by simp only [pf77, ares, aresL, H2, ares1, Option.map_some], _, rfl, x0, hk, rfl⟩) rfl h)
  exact ⟨x0, hk, hv⟩

/-! wreckage/wreckageref38.deep -/
def r102_0 : List AI := [⟨(some 2), .box 5 (.t 0), none⟩,
  ⟨(some 4), .mv (.c (.b false)), none⟩]
def r102_1 : List AI := [⟨(some 6), .mv (.t 1), none⟩,
  ⟨(some 7), .bin .eql (.t 6) (.c (.i .i64 0)), none⟩,
  ⟨(some 8), .mv (.t 7), none⟩,
  ⟨(some 9), .fad 2 (.t 2), (some (8, false))⟩,
  ⟨(some 10), .load 1 false (.t 9), (some (8, false))⟩,
  ⟨(some 11), .len true (.t 10), (some (8, false))⟩,
  ⟨(some 12), .bin .gtr (.t 11) (.c (.i .i64 100)), (some (8, false))⟩,
  ⟨(some 13), .pick (.t 8) (.c (.b true)) (.t 12), none⟩,
  ⟨(some 14), .mv (.t 13), none⟩,
  ⟨(some 15), .fad 3 (.t 2), (some (14, false))⟩,
  ⟨(some 16), .load 1 false (.t 15), (some (14, false))⟩,
  ⟨(some 17), .len false (.t 16), (some (14, false))⟩,
  ⟨(some 18), .bin .gtr (.t 17) (.c (.i .i64 400)), (some (14, false))⟩,
  ⟨(some 19), .pick (.t 14) (.c (.b true)) (.t 18), none⟩]
def r102_2 : List AI := [⟨(some 4), .mv (.c (.b true)), none⟩]
def r102_3 : List AI := [⟨(some 5), .mv (.c (.i .i64 0)), none⟩]
def r102_4 : List AI := [⟨(some 20), .mv (.t 5), none⟩,
  ⟨(some 21), .fad 3 (.t 2), none⟩,
  ⟨(some 22), .load 1 false (.t 21), none⟩,
  ⟨(some 23), .len false (.t 22), none⟩,
  ⟨(some 24), .bin .lss (.t 20) (.t 23), none⟩]
def r102_5 : List AI := [⟨(some 27), .fad 3 (.t 2), none⟩,
  ⟨(some 28), .load 1 false (.t 27), none⟩,
  ⟨(some 29), .mv (.t 5), none⟩,
  ⟨(some 30), .iaL 5 (.t 28) (.t 29), none⟩,
  ⟨(some 31), .load 5 true (.t 30), none⟩,
  ⟨(some 32), .mv (.t 1), none⟩,
  ⟨(some 33), .bin .sub (.t 32) (.c (.i .i64 1)), none⟩,
  ⟨(some 34), .call false 102 [(.t 31), (.t 33)], none⟩]
def r102_6 : List AI := [⟨(some 4), .mv (.c (.b true)), none⟩]
def r102_7 : List AI := [⟨(some 25), .mv (.t 5), none⟩,
  ⟨(some 26), .bin .add (.t 25) (.c (.i .i64 1)), none⟩,
  ⟨(some 5), .mv (.t 26), none⟩]
def r102_8 : List AI := [⟨(some 4), .mv (.c (.b false)), none⟩]
abbrev l102_0 : AC := (.seq (.seq (.reg 4 r102_4) (.cond (.t 24) .skip (.exit 0))) (.seq (.block 1 (.seq (.reg 6 r102_5) (.cond (.t 34) (.seq (.reg 7 r102_6) .ret) .skip))) (.reg 5 r102_7)))
abbrev c102_1 : AC := (.seq (.reg 8 r102_8) .ret)
abbrev b102 : AC := (.seq (.reg 0 r102_0) (.seq (.seq (.reg 1 r102_1) (.cond (.t 19) (.seq (.reg 2 r102_2) .ret) .skip)) (.seq (.seq (.reg 3 r102_3) (.block 0 (.loop l102_0))) c102_1)))
def pf102 : AF := { nt := 35, res := [.tmp 4], body := b102 }
abbrev I102_0 (prog : Prog) (d : Nat) (Q : AE → Sl → St → Prop) (most1 : Int) (i5 : Int) (m0 : Val) : Prop :=
  ∀ (σ : Sl) (st : St) (v0 : Nat), σ 1 = .i .i64 most1 → σ 2 = .p (d, 0) v0 0 → σ 5 = .i .i64 i5 → lk st.bx (d, 0) = some (v0, [.i .u8 m0.kind, .i .i64 m0.int, .s m0.text, .sl .ext (List.map Val.row m0.list), .b m0.cut]) → W prog d (.loop l102_0) σ st (blockW 0 (thenW prog d c102_1 Q))
def T102_2 (prog : Prog) (K : Bool → Prop)  : Prop :=
  K false
theorem w102_2 {prog : Prog} {d : Nat} {Q : AE → Sl → St → Prop} {K : Bool → Prop} (hQ : ∀ (σ : Sl) (st : St) (x0 : Bool), σ 4 = .b x0 → K x0 → Q .ret σ st)    {σ : Sl} {st : St}  (h : T102_2 prog K ) : W prog d c102_1 σ st Q :=
  W.seq (W.reg0 rfl fun _ _ => s_mvB rfl (s_nil (W.ret (hQ _ _   _ rfl  h))))
def T102_1 (prog : Prog) (K : Bool → Prop) (P0 : Int → Val → Prop) (most1 : Int) (i5 : Int) (m0 : Val) : Prop :=
  (i5 < (m0.list.length : Int) → 0 ≤ i5 ∧ ∃ c'2 : Val, m0.list[(i5).toNat]? = some c'2 ∧ ∃ r'4 : Bool, Pus prog 102 [.ag [.i .u8 c'2.kind, .i .i64 c'2.int, .s c'2.text, .sl .ext (List.map Val.row c'2.list), .b c'2.cut], .i .i64 (IntKind.i64.wrap (most1 - 1))] (.b r'4) ∧ (r'4 = true → K true) ∧ (r'4 = false → P0 (IntKind.i64.wrap (i5 + 1)) m0)) ∧ (¬(i5 < (m0.list.length : Int)) → T102_2 prog K )
theorem w102_1 {prog : Prog} {d : Nat} {Q : AE → Sl → St → Prop} {K : Bool → Prop} (hQ : ∀ (σ : Sl) (st : St) (x0 : Bool), σ 4 = .b x0 → K x0 → Q .ret σ st) {most1 : Int} {i5 : Int} {m0 : Val} {P0 : Int → Val → Prop} (kP0 : ∀ (i5 : Int) (m0 : Val), P0 i5 m0 → I102_0 prog d Q most1 i5 m0) {σ : Sl} {st : St} {v0 : Nat} (H1 : σ 1 = .i .i64 most1) (H2 : σ 2 = .p (d, 0) v0 0) (H5 : σ 5 = .i .i64 i5) (B0 : lk st.bx (d, 0) = some (v0, [.i .u8 m0.kind, .i .i64 m0.int, .s m0.text, .sl .ext (List.map Val.row m0.list), .b m0.cut])) (h : T102_1 prog K P0 most1 i5 m0) : W prog d l102_0 σ st (thenW prog d (.loop l102_0) (blockW 0 (thenW prog d c102_1 Q))) :=
  W.seq (W.seq (W.reg0 rfl fun _ _ => s_mvI H5 (s_fadP H2 (s_loadP rfl B0 rfl rfl (s_lenL rfl (s_bin rfl rfl (abin_lss _ _ _) (s_nil (c_split rfl (fun g'1 => W.skip (W.seq (W.block (W.seq (W.reg0 rfl fun _ _ => s_fadP H2 (s_loadP rfl B0 rfl rfl (s_mvI H5 ((h.1 g'1).2.elim fun c'2 e'3 => s_iaL rfl rfl (h.1 g'1).1 e'3.1 (Val.row_eq c'2) rfl (s_loadF rfl rfl rfl (s_mvI H1 (s_bin rfl rfl (abin_sub _ _ _) (e'3.2.elim fun r'4 e'5 => s_call (sc rfl rfl (sc rfl rfl sn)) e'5.1 (s_nil (c_bool rfl (fun g'6 => W.seq (W.reg0 rfl fun _ _ => s_mvB rfl (s_nil (W.ret (hQ _ _   _ rfl  (e'5.2.1 g'6)))))) (fun g'6 => W.skip (W.reg0 rfl fun _ _ => s_mvI H5 (s_bin rfl rfl (abin_add _ _ _) (s_mvI rfl (s_nil (kP0 _ _ (e'5.2.2 g'6) _ _ _ H1 H2 rfl B0)))))))))))))))))))) (fun g'1 => W.exit (w102_2  hQ   (h.2 g'1)))))))))))
def T102_0 (prog : Prog) (K : Bool → Prop) (v0 : Val) (most1 : Int) : Prop :=
  (most1 = 0 → K true) ∧ (¬(most1 = 0) → ((v0.text.length : Int) > 100 → K true) ∧ (¬((v0.text.length : Int) > 100) → ((v0.list.length : Int) > 400 → K true) ∧ (¬((v0.list.length : Int) > 400) → ∀ P0 : Int → Val → Prop, (∀ (i5 : Int) (m0 : Val), T102_1 prog K P0 most1 i5 m0 → P0 i5 m0) → P0 0 v0)))
theorem w102_0 {prog : Prog} {d : Nat} {Q : AE → Sl → St → Prop} {K : Bool → Prop} (hQ : ∀ (σ : Sl) (st : St) (x0 : Bool), σ 4 = .b x0 → K x0 → Q .ret σ st) {v0 : Val} {most1 : Int}   {σ : Sl} {st : St} (H0 : σ 0 = .ag [.i .u8 v0.kind, .i .i64 v0.int, .s v0.text, .sl .ext (List.map Val.row v0.list), .b v0.cut]) (H1 : σ 1 = .i .i64 most1) (h : T102_0 prog K v0 most1) : W prog d (.seq (.reg 0 r102_0) (.seq (.seq (.reg 1 r102_1) (.cond (.t 19) (.seq (.reg 2 r102_2) .ret) .skip)) (.seq (.seq (.reg 3 r102_3) (.block 0 (.loop l102_0))) c102_1))) σ st Q :=
  W.seq (W.reg0 rfl fun _ _ => s_box H0 rfl (s_mvB rfl (s_nil (W.seq (W.seq (W.reg0 rfl fun _ _ => s_mvI H1 (s_bin rfl rfl (abin_eql _ _ _) (s_mvB rfl (s_em (g := 8) rfl (fun g'1 => s_gn (b := true) rfl rfl (s_gn (b := true) rfl rfl (s_gn (b := true) rfl rfl (s_gn (b := true) rfl rfl (s_pickTB rfl rfl (s_mvB rfl (s_gn (b := true) rfl rfl (s_gn (b := true) rfl rfl (s_gn (b := true) rfl rfl (s_gn (b := true) rfl rfl (s_pickTB rfl rfl (s_nil (c_tt rfl (W.seq (W.reg0 rfl fun _ _ => s_mvB rfl (s_nil (W.ret (hQ _ _   _ rfl  (h.1 g'1))))))))))))))))))) (fun g'1 => s_gy rfl (s_fadP rfl (s_gy rfl (s_loadP rfl lk_here rfl rfl (s_gy rfl (s_lenS rfl (s_gy rfl (s_bin rfl rfl (abin_gtr _ _ _) (s_pickFB rfl rfl (s_mvB rfl (s_em (g := 14) rfl (fun g'2 => s_gn (b := true) rfl rfl (s_gn (b := true) rfl rfl (s_gn (b := true) rfl rfl (s_gn (b := true) rfl rfl (s_pickTB rfl rfl (s_nil (c_tt rfl (W.seq (W.reg0 rfl fun _ _ => s_mvB rfl (s_nil (W.ret (hQ _ _   _ rfl  ((h.2 g'1).1 g'2))))))))))))) (fun g'2 => s_gy rfl (s_fadP rfl (s_gy rfl (s_loadP rfl lk_here rfl rfl (s_gy rfl (s_lenL rfl (s_gy rfl (s_bin rfl rfl (abin_gtr _ _ _) (s_pickFB rfl rfl (s_nil (c_split rfl (fun g'3 => W.seq (W.reg0 rfl fun _ _ => s_mvB rfl (s_nil (W.ret (hQ _ _   _ rfl  (((h.2 g'1).2 g'2).1 g'3)))))) (fun g'3 => W.skip (W.seq (W.seq (W.reg0 rfl fun _ _ => s_mvI rfl (s_nil (W.block ((((h.2 g'1).2 g'2).2 g'3) (I102_0 prog d Q most1) (fun _ _ hb _ _ _ H1 H2 H5 B0 => W.loop (w102_1 hQ (fun _ _ x => x) H1 H2 H5 B0 hb)) _ _ _ H1 rfl rfl lk_here))))))))))))))))))))))))))))))))))))))
theorem p102 {prog : Prog} (hf : prog.fn 102 = some pf102) {v0 : Val} {most1 : Int} {K : Bool → Prop} (h : T102_0 prog K v0 most1) : ∃ x0 : Bool, K x0 ∧ Pus prog 102 [.ag [.i .u8 v0.kind, .i .i64 v0.int, .s v0.text, .sl .ext (List.map Val.row v0.list), .b v0.cut], .i .i64 most1] (.b x0) := by
  obtain ⟨v, hv, x0, hk, rfl⟩ := Pus.of (K := fun v => ∃ x0 : Bool, K x0 ∧ v = .b x0) hf rfl (w102_0 (σ := sl0 [.ag [.i .u8 v0.kind, .i .i64 v0.int, .s v0.text, .sl .ext (List.map Val.row v0.list), .b v0.cut], .i .i64 most1]) (fun σ st   x0 H4 hk => ⟨.b x0, by simp only [pf102, ares, aresL, H4, ares1, Option.map_some], _, rfl, x0, hk, rfl⟩) rfl rfl h)
  exact ⟨x0, hk, hv⟩

/-! wreckage/wreckageref38.Nodes -/
def r103_0 : List AI := [⟨(some 1), .box 5 (.t 0), none⟩,
  ⟨(some 2), .mv (.c (.i .i64 0)), none⟩]
def r103_1 : List AI := [⟨(some 3), .mv (.c (.i .i64 1)), none⟩]
def r103_2 : List AI := [⟨(some 4), .mv (.c (.i .i64 0)), none⟩]
def r103_3 : List AI := [⟨(some 5), .mv (.t 4), none⟩,
  ⟨(some 6), .fad 3 (.t 1), none⟩,
  ⟨(some 7), .load 1 false (.t 6), none⟩,
  ⟨(some 8), .len false (.t 7), none⟩,
  ⟨(some 9), .bin .lss (.t 5) (.t 8), none⟩,
  ⟨(some 10), .mv (.t 9), none⟩,
  ⟨(some 11), .mv (.t 3), (some (10, true))⟩,
  ⟨(some 12), .bin .leq (.t 11) (.c (.i .i64 5000)), (some (10, true))⟩,
  ⟨(some 13), .pick (.t 10) (.t 12) (.c (.b false)), none⟩]
def r103_4 : List AI := [⟨(some 16), .mv (.t 3), none⟩,
  ⟨(some 17), .fad 3 (.t 1), none⟩,
  ⟨(some 18), .load 1 false (.t 17), none⟩,
  ⟨(some 19), .mv (.t 4), none⟩,
  ⟨(some 20), .iaL 5 (.t 18) (.t 19), none⟩,
  ⟨(some 21), .load 5 true (.t 20), none⟩,
  ⟨(some 22), .call false 103 [(.t 21)], none⟩,
  ⟨(some 23), .bin .add (.t 16) (.t 22), none⟩,
  ⟨(some 3), .mv (.t 23), none⟩]
def r103_5 : List AI := [⟨(some 14), .mv (.t 4), none⟩,
  ⟨(some 15), .bin .add (.t 14) (.c (.i .i64 1)), none⟩,
  ⟨(some 4), .mv (.t 15), none⟩]
def r103_6 : List AI := [⟨(some 24), .mv (.t 3), none⟩,
  ⟨(some 2), .mv (.t 24), none⟩]
abbrev l103_0 : AC := (.seq (.seq (.reg 3 r103_3) (.cond (.t 13) .skip (.exit 0))) (.seq (.block 1 (.reg 5 r103_4)) (.reg 4 r103_5)))
abbrev c103_1 : AC := (.seq (.reg 6 r103_6) .ret)
abbrev b103 : AC := (.seq (.reg 0 r103_0) (.seq (.reg 1 r103_1) (.seq (.seq (.reg 2 r103_2) (.block 0 (.loop l103_0))) c103_1)))
def pf103 : AF := { nt := 25, res := [.tmp 2], body := b103 }
abbrev I103_0 (prog : Prog) (d : Nat) (Q : AE → Sl → St → Prop) (n3 : Int) (i4 : Int) (m0 : Val) : Prop :=
  ∀ (σ : Sl) (st : St) (v0 : Nat), σ 1 = .p (d, 0) v0 0 → σ 3 = .i .i64 n3 → σ 4 = .i .i64 i4 → lk st.bx (d, 0) = some (v0, [.i .u8 m0.kind, .i .i64 m0.int, .s m0.text, .sl .ext (List.map Val.row m0.list), .b m0.cut]) → W prog d (.loop l103_0) σ st (blockW 0 (thenW prog d c103_1 Q))
def T103_2 (prog : Prog) (K : Int → Prop) (n3 : Int) : Prop :=
  K n3
theorem w103_2 {prog : Prog} {d : Nat} {Q : AE → Sl → St → Prop} {K : Int → Prop} (hQ : ∀ (σ : Sl) (st : St) (x0 : Int), σ 2 = .i .i64 x0 → K x0 → Q .ret σ st) {n3 : Int}   {σ : Sl} {st : St} (H3 : σ 3 = .i .i64 n3) (h : T103_2 prog K n3) : W prog d c103_1 σ st Q :=
  W.seq (W.reg0 rfl fun _ _ => s_mvI H3 (s_mvI rfl (s_nil (W.ret (hQ _ _   _ rfl  h)))))
def T103_1 (prog : Prog) (K : Int → Prop) (P0 : Int → Int → Val → Prop) (n3 : Int) (i4 : Int) (m0 : Val) : Prop :=
  (i4 < (m0.list.length : Int) → (n3 ≤ 5000 → 0 ≤ i4 ∧ ∃ c'3 : Val, m0.list[(i4).toNat]? = some c'3 ∧ ∃ r'5 : Int, Pus prog 103 [.ag [.i .u8 c'3.kind, .i .i64 c'3.int, .s c'3.text, .sl .ext (List.map Val.row c'3.list), .b c'3.cut]] (.i .i64 r'5) ∧ P0 (IntKind.i64.wrap (n3 + r'5)) (IntKind.i64.wrap (i4 + 1)) m0) ∧ (¬(n3 ≤ 5000) → T103_2 prog K n3)) ∧ (¬(i4 < (m0.list.length : Int)) → T103_2 prog K n3)
theorem w103_1 {prog : Prog} {d : Nat} {Q : AE → Sl → St → Prop} {K : Int → Prop} (hQ : ∀ (σ : Sl) (st : St) (x0 : Int), σ 2 = .i .i64 x0 → K x0 → Q .ret σ st) {n3 : Int} {i4 : Int} {m0 : Val} {P0 : Int → Int → Val → Prop} (kP0 : ∀ (n3 : Int) (i4 : Int) (m0 : Val), P0 n3 i4 m0 → I103_0 prog d Q  n3 i4 m0) {σ : Sl} {st : St} {v0 : Nat} (H1 : σ 1 = .p (d, 0) v0 0) (H3 : σ 3 = .i .i64 n3) (H4 : σ 4 = .i .i64 i4) (B0 : lk st.bx (d, 0) = some (v0, [.i .u8 m0.kind, .i .i64 m0.int, .s m0.text, .sl .ext (List.map Val.row m0.list), .b m0.cut])) (h : T103_1 prog K P0 n3 i4 m0) : W prog d l103_0 σ st (thenW prog d (.loop l103_0) (blockW 0 (thenW prog d c103_1 Q))) :=
  W.seq (W.seq (W.reg0 rfl fun _ _ => s_mvI H4 (s_fadP H1 (s_loadP rfl B0 rfl rfl (s_lenL rfl (s_bin rfl rfl (abin_lss _ _ _) (s_mvB rfl (s_em (g := 10) rfl (fun g'1 => s_gy rfl (s_mvI H3 (s_gy rfl (s_bin rfl rfl (abin_leq _ _ _) (s_pickTB rfl rfl (s_nil (c_split rfl (fun g'2 => W.skip (W.seq (W.block (W.reg0 rfl fun _ _ => s_mvI H3 (s_fadP H1 (s_loadP rfl B0 rfl rfl (s_mvI H4 (((h.1 g'1).1 g'2).2.elim fun c'3 e'4 => s_iaL rfl rfl ((h.1 g'1).1 g'2).1 e'4.1 (Val.row_eq c'3) rfl (s_loadF rfl rfl rfl (e'4.2.elim fun r'5 e'6 => s_call (sc rfl rfl sn) e'6.1 (s_bin rfl rfl (abin_add _ _ _) (s_mvI rfl (s_nil (W.reg0 rfl fun _ _ => s_mvI H4 (s_bin rfl rfl (abin_add _ _ _) (s_mvI rfl (s_nil (kP0 _ _ _ e'6.2 _ _ _ H1 rfl rfl B0)))))))))))))))))) (fun g'2 => W.exit (w103_2  hQ  H3 ((h.1 g'1).2 g'2)))))))))) (fun g'1 => s_gn (b := false) rfl rfl (s_gn (b := false) rfl rfl (s_pickFB rfl rfl (s_nil (c_ff rfl (W.exit (w103_2  hQ  H3 (h.2 g'1))))))))))))))))
def T103_0 (prog : Prog) (K : Int → Prop) (v0 : Val) : Prop :=
  ∀ P0 : Int → Int → Val → Prop, (∀ (n3 : Int) (i4 : Int) (m0 : Val), T103_1 prog K P0 n3 i4 m0 → P0 n3 i4 m0) → P0 1 0 v0
theorem w103_0 {prog : Prog} {d : Nat} {Q : AE → Sl → St → Prop} {K : Int → Prop} (hQ : ∀ (σ : Sl) (st : St) (x0 : Int), σ 2 = .i .i64 x0 → K x0 → Q .ret σ st) {v0 : Val}   {σ : Sl} {st : St} (H0 : σ 0 = .ag [.i .u8 v0.kind, .i .i64 v0.int, .s v0.text, .sl .ext (List.map Val.row v0.list), .b v0.cut]) (h : T103_0 prog K v0) : W prog d (.seq (.reg 0 r103_0) (.seq (.reg 1 r103_1) (.seq (.seq (.reg 2 r103_2) (.block 0 (.loop l103_0))) c103_1))) σ st Q :=
  W.seq (W.reg0 rfl fun _ _ => s_box H0 rfl (s_mvI rfl (s_nil (W.seq (W.reg0 rfl fun _ _ => s_mvI rfl (s_nil (W.seq (W.seq (W.reg0 rfl fun _ _ => s_mvI rfl (s_nil (W.block (h (I103_0 prog d Q ) (fun _ _ _ hb _ _ _ H1 H3 H4 B0 => W.loop (w103_1 hQ (fun _ _ _ x => x) H1 H3 H4 B0 hb)) _ _ _ rfl rfl rfl lk_here))))))))))))
theorem p103 {prog : Prog} (hf : prog.fn 103 = some pf103) {v0 : Val} {K : Int → Prop} (h : T103_0 prog K v0) : ∃ x0 : Int, K x0 ∧ Pus prog 103 [.ag [.i .u8 v0.kind, .i .i64 v0.int, .s v0.text, .sl .ext (List.map Val.row v0.list), .b v0.cut]] (.i .i64 x0) := by
  obtain ⟨v, hv, x0, hk, rfl⟩ := Pus.of (K := fun v => ∃ x0 : Int, K x0 ∧ v = .i .i64 x0) hf rfl (w103_0 (σ := sl0 [.ag [.i .u8 v0.kind, .i .i64 v0.int, .s v0.text, .sl .ext (List.map Val.row v0.list), .b v0.cut]]) (fun σ st   x0 H2 hk => ⟨.i .i64 x0, by simp only [pf103, ares, aresL, H2, ares1, Option.map_some], _, rfl, x0, hk, rfl⟩) rfl h)
  exact ⟨x0, hk, hv⟩

/-! wreckage/lines.show -/
def r104_0 : List AI := [⟨(some 3), .box 5 (.t 1), none⟩,
  ⟨(some 4), .mv (.c (.i .i64 0)), none⟩]
def r104_1 : List AI := [⟨(some 11), .build [.s [], .s [], .s [], .s [], .s [], .s [], .s [], .s []] [(5, 1, (.c (.s [123, 125]))), (6, 1, (.c (.s [91, 93]))), (7, 1, (.c (.s [60, 62])))], none⟩,
  ⟨(some 12), .fad 0 (.t 3), none⟩,
  ⟨(some 13), .load 1 false (.t 12), none⟩,
  ⟨(some 14), .ixA 8 1 false (.t 11) (.t 13), none⟩,
  ⟨(some 5), .mv (.t 14), none⟩]
def r104_2 : List AI := [⟨(some 43), .fad 0 (.t 3), none⟩,
  ⟨(some 44), .load 1 false (.t 43), none⟩,
  ⟨(some 45), .bin .eql (.t 44) (.c (.i .u8 1)), none⟩,
  ⟨(some 46), .mv (.t 45), none⟩,
  ⟨(some 47), .fad 1 (.t 3), (some (46, true))⟩,
  ⟨(some 48), .load 1 false (.t 47), (some (46, true))⟩,
  ⟨(some 49), .bin .eql (.t 48) (.c (.i .i64 1)), (some (46, true))⟩,
  ⟨(some 50), .pick (.t 46) (.t 49) (.c (.b false)), none⟩,
  ⟨(some 42), .mv (.t 50), none⟩]
def r104_3 : List AI := [⟨(some 51), .mv (.t 0), none⟩,
  ⟨(some 52), .call true 126 [(.t 51), (.c (.s [116, 114, 117, 101]))], none⟩]
def r104_4 : List AI := [⟨(some 54), .fad 0 (.t 3), none⟩,
  ⟨(some 55), .load 1 false (.t 54), none⟩,
  ⟨(some 56), .bin .eql (.t 55) (.c (.i .u8 1)), none⟩,
  ⟨(some 53), .mv (.t 56), none⟩]
def r104_5 : List AI := [⟨(some 57), .mv (.t 0), none⟩,
  ⟨(some 58), .call true 126 [(.t 57), (.c (.s [102, 97, 108, 115, 101]))], none⟩]
def r104_6 : List AI := [⟨(some 60), .fad 0 (.t 3), none⟩,
  ⟨(some 61), .load 1 false (.t 60), none⟩,
  ⟨(some 62), .bin .eql (.t 61) (.c (.i .u8 2)), none⟩,
  ⟨(some 59), .mv (.t 62), none⟩]
def r104_7 : List AI := [⟨(some 63), .mv (.t 0), none⟩,
  ⟨(some 64), .fad 1 (.t 3), none⟩,
  ⟨(some 65), .load 1 false (.t 64), none⟩,
  ⟨(some 66), .call false 15 [(.t 65)], none⟩,
  ⟨(some 67), .call true 126 [(.t 63), (.t 66)], none⟩]
def r104_8 : List AI := [⟨(some 69), .fad 0 (.t 3), none⟩,
  ⟨(some 70), .load 1 false (.t 69), none⟩,
  ⟨(some 71), .bin .eql (.t 70) (.c (.i .u8 3)), none⟩,
  ⟨(some 68), .mv (.t 71), none⟩]
def r104_9 : List AI := [⟨(some 73), .fad 2 (.t 3), none⟩,
  ⟨(some 74), .load 1 false (.t 73), none⟩,
  ⟨(some 75), .call false 11 [(.t 74)], none⟩,
  ⟨(some 72), .mv (.t 75), none⟩,
  ⟨(some 76), .ext 0 (.t 72), none⟩,
  ⟨(some 77), .ext 1 (.t 72), none⟩,
  ⟨(some 6), .mv (.t 76), none⟩,
  ⟨(some 7), .mv (.t 77), none⟩]
def r104_10 : List AI := [⟨(some 78), .mv (.t 0), none⟩,
  ⟨(some 79), .mv (.t 6), none⟩,
  ⟨(some 80), .call true 126 [(.t 78), (.t 79)], none⟩]
def r104_11 : List AI := [⟨(some 81), .mv (.t 7), none⟩,
  ⟨(some 4), .mv (.t 81), none⟩]
def r104_12 : List AI := [⟨(some 83), .fad 0 (.t 3), none⟩,
  ⟨(some 84), .load 1 false (.t 83), none⟩,
  ⟨(some 85), .bin .eql (.t 84) (.c (.i .u8 4)), none⟩,
  ⟨(some 86), .mv (.t 85), none⟩,
  ⟨(some 87), .fad 4 (.t 3), (some (86, true))⟩,
  ⟨(some 88), .load 1 false (.t 87), (some (86, true))⟩,
  ⟨(some 89), .pick (.t 86) (.t 88) (.c (.b false)), none⟩,
  ⟨(some 82), .mv (.t 89), none⟩]
def r104_13 : List AI := [⟨(some 90), .mv (.t 0), none⟩,
  ⟨(some 91), .call true 126 [(.t 90), (.c (.s [38, 46, 46, 46]))], none⟩]
def r104_14 : List AI := [⟨(some 93), .fad 0 (.t 3), none⟩,
  ⟨(some 94), .load 1 false (.t 93), none⟩,
  ⟨(some 95), .bin .eql (.t 94) (.c (.i .u8 4)), none⟩,
  ⟨(some 96), .mv (.t 95), none⟩,
  ⟨(some 97), .fad 3 (.t 3), (some (96, true))⟩,
  ⟨(some 98), .load 1 false (.t 97), (some (96, true))⟩,
  ⟨(some 99), .len false (.t 98), (some (96, true))⟩,
  ⟨(some 100), .bin .eql (.t 99) (.c (.i .i64 0)), (some (96, true))⟩,
  ⟨(some 101), .pick (.t 96) (.t 100) (.c (.b false)), none⟩,
  ⟨(some 92), .mv (.t 101), none⟩]
def r104_15 : List AI := [⟨(some 102), .mv (.t 0), none⟩,
  ⟨(some 103), .call true 126 [(.t 102), (.c (.s [110, 105, 108]))], none⟩]
def r104_16 : List AI := [⟨(some 105), .fad 0 (.t 3), none⟩,
  ⟨(some 106), .load 1 false (.t 105), none⟩,
  ⟨(some 107), .bin .eql (.t 106) (.c (.i .u8 4)), none⟩,
  ⟨(some 104), .mv (.t 107), none⟩]
def r104_17 : List AI := [⟨(some 108), .mv (.t 0), none⟩,
  ⟨(some 109), .call true 126 [(.t 108), (.c (.s [38]))], none⟩]
def r104_18 : List AI := [⟨(some 110), .mv (.t 0), none⟩,
  ⟨(some 111), .fad 3 (.t 3), none⟩,
  ⟨(some 112), .load 1 false (.t 111), none⟩,
  ⟨(some 113), .iaL 5 (.t 112) (.c (.i .i64 0)), none⟩,
  ⟨(some 114), .load 5 true (.t 113), none⟩,
  ⟨(some 115), .call true 104 [(.t 110), (.t 114)], none⟩,
  ⟨(some 4), .mv (.t 115), none⟩]
def r104_19 : List AI := [⟨(some 117), .fad 4 (.t 3), none⟩,
  ⟨(some 118), .load 1 false (.t 117), none⟩,
  ⟨(some 116), .mv (.t 118), none⟩]
def r104_20 : List AI := [⟨(some 119), .mv (.t 0), none⟩,
  ⟨(some 120), .call true 126 [(.t 119), (.c (.s [60, 46, 46, 46, 62]))], none⟩]
def r104_21 : List AI := [⟨(some 15), .mv (.t 0), none⟩,
  ⟨(some 16), .mv (.t 5), none⟩,
  ⟨(some 17), .slS (.t 16) none (some (.c (.i .i64 1))), none⟩,
  ⟨(some 18), .call true 126 [(.t 15), (.t 17)], none⟩]
def r104_22 : List AI := [⟨(some 19), .fad 3 (.t 3), none⟩,
  ⟨(some 20), .load 1 false (.t 19), none⟩,
  ⟨(some 21), .len false (.t 20), none⟩,
  ⟨(some 22), .mv (.c (.i .i64 0)), none⟩]
def r104_23 : List AI := [⟨(some 23), .bin .lss (.t 22) (.t 21), none⟩]
def r104_24 : List AI := [⟨(some 24), .mv (.t 22), none⟩,
  ⟨(some 25), .iaL 5 (.t 20) (.t 22), none⟩,
  ⟨(some 26), .load 5 true (.t 25), none⟩,
  ⟨(some 9), .alloc [.i .u8 0, .i .i64 0, .s [], .sl .full [], .b false], none⟩,
  ⟨(some 8), .mv (.t 24), none⟩,
  ⟨none, .store 5 (.t 9) (.t 26), none⟩]
def r104_25 : List AI := [⟨(some 27), .mv (.t 8), none⟩,
  ⟨(some 28), .bin .gtr (.t 27) (.c (.i .i64 0)), none⟩]
def r104_26 : List AI := [⟨(some 29), .mv (.t 0), none⟩,
  ⟨(some 30), .call true 126 [(.t 29), (.c (.s [44, 32]))], none⟩]
def r104_27 : List AI := [⟨(some 31), .mv (.t 0), none⟩,
  ⟨(some 32), .load 5 true (.t 9), none⟩,
  ⟨(some 33), .call true 104 [(.t 31), (.t 32)], none⟩,
  ⟨(some 10), .mv (.t 33), none⟩]
def r104_28 : List AI := [⟨(some 34), .mv (.t 10), none⟩,
  ⟨(some 35), .bin .neq (.t 34) (.c (.i .i64 0)), none⟩]
def r104_29 : List AI := [⟨(some 36), .mv (.t 10), none⟩,
  ⟨(some 4), .mv (.t 36), none⟩]
def r104_30 : List AI := [⟨(some 37), .bin .add (.t 22) (.c (.i .i64 1)), none⟩,
  ⟨(some 22), .mv (.t 37), none⟩]
def r104_31 : List AI := [⟨(some 38), .mv (.t 0), none⟩,
  ⟨(some 39), .mv (.t 5), none⟩,
  ⟨(some 40), .slS (.t 39) (some (.c (.i .i64 1))) none, none⟩,
  ⟨(some 41), .call true 126 [(.t 38), (.t 40)], none⟩]
def r104_32 : List AI := [⟨(some 4), .mv (.c (.i .i64 0)), none⟩]
abbrev c104_0 : AC := (.seq (.reg 8 r104_27) (.seq (.reg 9 r104_28) (.cond (.t 35) (.seq (.reg 10 r104_29) .ret) .skip)))
abbrev l104_0 : AC := (.seq (.reg 4 r104_23) (.seq (.cond (.t 23) .skip (.exit 1)) (.seq (.block 2 (.seq (.reg 5 r104_24) (.seq (.seq (.reg 6 r104_25) (.cond (.t 28) (.reg 7 r104_26) .skip)) c104_0))) (.reg 11 r104_30))))
abbrev c104_2 : AC := (.reg 12 r104_31)
abbrev c104_3 : AC := (.cond (.t 82) (.reg 24 r104_13) (.seq (.reg 25 r104_14) (.cond (.t 92) (.reg 26 r104_15) (.seq (.reg 27 r104_16) (.cond (.t 104) (.seq (.reg 28 r104_17) (.seq (.reg 29 r104_18) .ret)) (.seq (.reg 30 r104_19) (.cond (.t 116) (.reg 31 r104_20) (.seq (.reg 2 r104_21) (.seq (.seq (.reg 3 r104_22) (.block 1 (.loop l104_0))) c104_2)))))))))
abbrev c104_4 : AC := (.cond (.t 68) (.seq (.reg 20 r104_9) (.seq (.reg 21 r104_10) (.seq (.reg 22 r104_11) .ret))) (.seq (.reg 23 r104_12) c104_3))
abbrev c104_5 : AC := (.cond (.t 59) (.reg 18 r104_7) (.seq (.reg 19 r104_8) c104_4))
abbrev c104_6 : AC := (.cond (.t 53) (.reg 16 r104_5) (.seq (.reg 17 r104_6) c104_5))
abbrev c104_7 : AC := (.cond (.t 42) (.reg 14 r104_3) (.seq (.reg 15 r104_4) c104_6))
abbrev c104_8 : AC := (.seq (.reg 32 r104_32) .ret)
abbrev c104_9 : AC := (.seq (.block 0 (.seq (.reg 13 r104_2) c104_7)) c104_8)
abbrev c104_10 : AC := (.seq (.reg 1 r104_1) c104_9)
abbrev b104 : AC := (.seq (.reg 0 r104_0) c104_10)
def pf104 : AF := { nt := 121, res := [.tmp 4], body := b104 }
def T104_4 (prog : Prog) (K : Int → List UInt8 → Prop) (mP : List UInt8) : Prop :=
  K 0 mP
theorem w104_4 {prog : Prog} {d : Nat} {Q : AE → Sl → St → Prop} {K : Int → List UInt8 → Prop} {st0 : St} {kp : Key} {vp : Nat} (hQ : ∀ (σ : Sl) (st : St) (x0 : Int) (b_ : List UInt8), σ 4 = .i .i64 x0 → Bl b_ st.bx st.ow kp vp → Fr d kp st0.bx st0.ow st.bx st.ow → K x0 b_ → Q .ret σ st) (hkp : kp.1 < d) {mP : List UInt8}   {σ : Sl} {st : St} (BP : Bl mP st.bx st.ow kp vp) (FR : Fr d kp st0.bx st0.ow st.bx st.ow) (h : T104_4 prog K mP) : W prog d c104_8 σ st Q :=
  W.seq (W.reg0 rfl fun _ _ => s_mvI rfl (s_nil (W.ret (hQ _ _   _ _ rfl BP FR  h))))
abbrev I104_0 (prog : Prog) (d : Nat) (Q : AE → Sl → St → Prop) (st0 : St) (kp : Key) (vp : Nat) (ends5 : List UInt8) (t20 : List Val) (t21 : Int) (t22 : Int) (mP : List UInt8) : Prop :=
  ∀ (σ : Sl) (st : St) (o_t20 : Own), σ 0 = .p kp vp 0 → σ 5 = .s ends5 → σ 20 = .sl o_t20 (List.map Val.row t20) → σ 21 = .i .i64 t21 → σ 22 = .i .i64 t22 → Bl mP st.bx st.ow kp vp → Fr d kp st0.bx st0.ow st.bx st.ow → W prog d (.loop l104_0) σ st (blockW 1 (thenW prog d c104_2 (blockW 0 (thenW prog d c104_8 Q))))
def T104_10 (prog : Prog) (K : Int → List UInt8 → Prop) (P0 : Int → List UInt8 → Prop) (ends5 : List UInt8) (t20 : List Val) (t21 : Int) (t22 : Int) (m20483 : Val) (mP : List UInt8) : Prop :=
  ∃ r'1 : Int, ∃ b'7 : List UInt8, PuX prog 104 (Bl mP) [.ag [.i .u8 m20483.kind, .i .i64 m20483.int, .s m20483.text, .sl .ext (List.map Val.row m20483.list), .b m20483.cut]] (fun r => r = .i .i64 r'1) ((Bl b'7)) ∧ (r'1 ≠ 0 → K r'1 b'7) ∧ (¬(r'1 ≠ 0) → P0 (IntKind.i64.wrap (t22 + 1)) b'7)
theorem w104_10 {prog : Prog} {d : Nat} {Q : AE → Sl → St → Prop} {K : Int → List UInt8 → Prop} {st0 : St} {kp : Key} {vp : Nat} (hQ : ∀ (σ : Sl) (st : St) (x0 : Int) (b_ : List UInt8), σ 4 = .i .i64 x0 → Bl b_ st.bx st.ow kp vp → Fr d kp st0.bx st0.ow st.bx st.ow → K x0 b_ → Q .ret σ st) (hkp : kp.1 < d) {ends5 : List UInt8} {t20 : List Val} {t21 : Int} {t22 : Int} {m20483 : Val} {mP : List UInt8} {P0 : Int → List UInt8 → Prop} (kP0 : ∀ (t22 : Int) (mP : List UInt8), P0 t22 mP → I104_0 prog d Q st0 kp vp ends5 t20 t21 t22 mP) {σ : Sl} {st : St} {o_t20 : Own} {v20483 : Nat} (H0 : σ 0 = .p kp vp 0) (H5 : σ 5 = .s ends5) (H9 : σ 9 = .p (d, 20483) v20483 0) (H20 : σ 20 = .sl o_t20 (List.map Val.row t20)) (H21 : σ 21 = .i .i64 t21) (H22 : σ 22 = .i .i64 t22) (B20483 : lk st.bx (d, 20483) = some (v20483, [.i .u8 m20483.kind, .i .i64 m20483.int, .s m20483.text, .sl .ext (List.map Val.row m20483.list), .b m20483.cut])) (BP : Bl mP st.bx st.ow kp vp) (FR : Fr d kp st0.bx st0.ow st.bx st.ow) (h : T104_10 prog K P0 ends5 t20 t21 t22 m20483 mP) : W prog d c104_0 σ st (blockW 2 (thenW prog d (.reg 11 r104_30) (thenW prog d (.loop l104_0) (blockW 1 (thenW prog d c104_2 (blockW 0 (thenW prog d c104_8 Q))))))) :=
  W.seq (W.reg0 rfl fun _ _ => s_mv H0 (s_loadP H9 B20483 rfl rfl (h.elim fun r'1 e'9 => e'9.elim fun b'7 e'3 => s_callX (sec rfl (sec rfl sen)) e'3.1 (Nat.lt_succ_of_lt hkp) BP (fun st'4 hb'5 hf'6 => s_mvI rfl (s_nil (W.seq (W.reg0 rfl fun _ _ => s_mvI rfl (s_bin rfl rfl (abin_neq _ _ _) (s_nil (c_split rfl (fun g'8 => W.seq (W.reg0 rfl fun _ _ => s_mvI rfl (s_mvI rfl (s_nil (W.ret (hQ _ _   _ _ rfl hb'5 (Fr.pass FR hf'6)  (e'3.2.1 g'8))))))) (fun g'8 => W.skip (W.reg0 rfl fun _ _ => s_bin H22 rfl (abin_add _ _ _) (s_mvI rfl (s_nil (kP0 _ _ (e'3.2.2 g'8) _ _ _ H0 H5 H20 H21 rfl hb'5 (Fr.pass FR hf'6))))))))))))))))
def T104_11 (prog : Prog) (K : Int → List UInt8 → Prop) (ends5 : List UInt8) (mP : List UInt8) : Prop :=
  1 ≤ ends5.length ∧ ∃ r'1 : Int, ∃ b'7 : List UInt8, PuX prog 126 (Bl mP) [.s (ends5.drop 1)] (fun r => r = .tup [.i .i64 r'1, .ni]) ((Bl b'7)) ∧ T104_4 prog K b'7
theorem w104_11 {prog : Prog} {d : Nat} {Q : AE → Sl → St → Prop} {K : Int → List UInt8 → Prop} {st0 : St} {kp : Key} {vp : Nat} (hQ : ∀ (σ : Sl) (st : St) (x0 : Int) (b_ : List UInt8), σ 4 = .i .i64 x0 → Bl b_ st.bx st.ow kp vp → Fr d kp st0.bx st0.ow st.bx st.ow → K x0 b_ → Q .ret σ st) (hkp : kp.1 < d) {ends5 : List UInt8} {mP : List UInt8}   {σ : Sl} {st : St} (H0 : σ 0 = .p kp vp 0) (H5 : σ 5 = .s ends5) (BP : Bl mP st.bx st.ow kp vp) (FR : Fr d kp st0.bx st0.ow st.bx st.ow) (h : T104_11 prog K ends5 mP) : W prog d c104_2 σ st (blockW 0 (thenW prog d c104_8 Q)) :=
  W.reg0 rfl fun _ _ => s_mv H0 (s_mvS H5 (s_slS_lo rfl rfl (by decide) h.1 (h.2.elim fun r'1 e'8 => e'8.elim fun b'7 e'3 => s_callX (sec rfl (sec rfl sen)) e'3.1 (Nat.lt_succ_of_lt hkp) BP (fun st'4 hb'5 hf'6 => s_nil (w104_4  hQ hkp  hb'5 (Fr.pass FR hf'6) e'3.2)))))
def T104_9 (prog : Prog) (K : Int → List UInt8 → Prop) (P0 : Int → List UInt8 → Prop) (ends5 : List UInt8) (t20 : List Val) (t21 : Int) (t22 : Int) (mP : List UInt8) : Prop :=
  (t22 < t21 → 0 ≤ t22 ∧ ∃ c'2 : Val, t20[(t22).toNat]? = some c'2 ∧ (t22 > 0 → ∃ r'5 : Int, ∃ b'11 : List UInt8, PuX prog 126 (Bl mP) [.s ([44, 32] : List UInt8)] (fun r => r = .tup [.i .i64 r'5, .ni]) ((Bl b'11)) ∧ T104_10 prog K P0 ends5 t20 t21 t22 c'2 b'11) ∧ (¬(t22 > 0) → T104_10 prog K P0 ends5 t20 t21 t22 c'2 mP)) ∧ (¬(t22 < t21) → T104_11 prog K ends5 mP)
theorem w104_9 {prog : Prog} {d : Nat} {Q : AE → Sl → St → Prop} {K : Int → List UInt8 → Prop} {st0 : St} {kp : Key} {vp : Nat} (hQ : ∀ (σ : Sl) (st : St) (x0 : Int) (b_ : List UInt8), σ 4 = .i .i64 x0 → Bl b_ st.bx st.ow kp vp → Fr d kp st0.bx st0.ow st.bx st.ow → K x0 b_ → Q .ret σ st) (hkp : kp.1 < d) {ends5 : List UInt8} {t20 : List Val} {t21 : Int} {t22 : Int} {mP : List UInt8} {P0 : Int → List UInt8 → Prop} (kP0 : ∀ (t22 : Int) (mP : List UInt8), P0 t22 mP → I104_0 prog d Q st0 kp vp ends5 t20 t21 t22 mP) {σ : Sl} {st : St} {o_t20 : Own} (H0 : σ 0 = .p kp vp 0) (H5 : σ 5 = .s ends5) (H20 : σ 20 = .sl o_t20 (List.map Val.row t20)) (H21 : σ 21 = .i .i64 t21) (H22 : σ 22 = .i .i64 t22) (BP : Bl mP st.bx st.ow kp vp) (FR : Fr d kp st0.bx st0.ow st.bx st.ow) (h : T104_9 prog K P0 ends5 t20 t21 t22 mP) : W prog d l104_0 σ st (thenW prog d (.loop l104_0) (blockW 1 (thenW prog d c104_2 (blockW 0 (thenW prog d c104_8 Q))))) :=
  W.seq (W.reg0 rfl fun _ _ => s_bin H22 H21 (abin_lss _ _ _) (s_nil (W.seq (c_split rfl (fun g'1 => W.skip (W.seq (W.block (W.seq (W.reg (s_mvI H22 ((h.1 g'1).2.elim fun c'2 e'3 => s_iaL H20 H22 (h.1 g'1).1 e'3.1 (Val.row_eq c'2) rfl (s_loadF rfl rfl rfl (s_alloc (s_mvI rfl (s_storeP rfl (show lk _ (d, 20483) = some (_, ([.i .u8 0, .i .i64 0, .s [], .sl .full (List.map Val.row ([] : List Val)), .b false] : List AV)) from lk_here) rfl rfl rfl (s_nil (W.seq (W.seq (W.reg0 rfl fun _ _ => s_mvI rfl (s_bin rfl rfl (abin_gtr _ _ _) (s_nil (c_split rfl (fun g'4 => W.reg0 rfl fun _ _ => s_mv H0 ((e'3.2.1 g'4).elim fun r'5 e'12 => e'12.elim fun b'11 e'7 => s_callX (sec rfl (sec rfl sen)) e'7.1 (Nat.lt_succ_of_lt hkp) (Bl.other (key_LP hkp) (Bl.other (key_LP hkp) BP)) (fun st'8 hb'9 hf'10 => s_nil (w104_10  hQ hkp kP0 H0 H5 rfl H20 H21 H22 ((hf'10.1 (d, 20483) (Nat.lt_succ_self d) (key_LP hkp)).trans lk_here) hb'9 (Fr.pass (Fr.box (Fr.box FR)) hf'10) e'7.2)))) (fun g'4 => W.skip (w104_10  hQ hkp kP0 H0 H5 rfl H20 H21 H22 lk_here (Bl.other (key_LP hkp) (Bl.other (key_LP hkp) BP)) (Fr.box (Fr.box FR)) (e'3.2.2 g'4))))))))))))))))))))) (fun g'1 => W.exit (w104_11  hQ hkp  H0 H5 BP FR (h.2 g'1)))))))
def T104_8 (prog : Prog) (K : Int → List UInt8 → Prop) (ends5 : List UInt8) (t82 : Bool) (m0 : Val) (mP : List UInt8) : Prop :=
  (t82 = true → ∃ r'2 : Int, ∃ b'8 : List UInt8, PuX prog 126 (Bl mP) [.s ([38, 46, 46, 46] : List UInt8)] (fun r => r = .tup [.i .i64 r'2, .ni]) ((Bl b'8)) ∧ T104_4 prog K b'8) ∧ (t82 = false → (m0.kind = 4 → ((m0.list.length : Int) = 0 → ∃ r'12 : Int, ∃ b'18 : List UInt8, PuX prog 126 (Bl mP) [.s ([110, 105, 108] : List UInt8)] (fun r => r = .tup [.i .i64 r'12, .ni]) ((Bl b'18)) ∧ T104_4 prog K b'18) ∧ (¬((m0.list.length : Int) = 0) → (m0.kind = 4 → ∃ r'21 : Int, ∃ b'27 : List UInt8, PuX prog 126 (Bl mP) [.s ([38] : List UInt8)] (fun r => r = .tup [.i .i64 r'21, .ni]) ((Bl b'27)) ∧ ∃ c'28 : Val, m0.list[0]? = some c'28 ∧ ∃ r'30 : Int, ∃ b'36 : List UInt8, PuX prog 104 (Bl b'27) [.ag [.i .u8 c'28.kind, .i .i64 c'28.int, .s c'28.text, .sl .ext (List.map Val.row c'28.list), .b c'28.cut]] (fun r => r = .i .i64 r'30) ((Bl b'36)) ∧ K r'30 b'36) ∧ (¬(m0.kind = 4) → (m0.cut = true → ∃ r'40 : Int, ∃ b'46 : List UInt8, PuX prog 126 (Bl mP) [.s ([60, 46, 46, 46, 62] : List UInt8)] (fun r => r = .tup [.i .i64 r'40, .ni]) ((Bl b'46)) ∧ T104_4 prog K b'46) ∧ (m0.cut = false → 1 ≤ ends5.length ∧ ∃ r'48 : Int, ∃ b'54 : List UInt8, PuX prog 126 (Bl mP) [.s (ends5.take 1)] (fun r => r = .tup [.i .i64 r'48, .ni]) ((Bl b'54)) ∧ ∀ P0 : Int → List UInt8 → Prop, (∀ (t22 : Int) (mP : List UInt8), T104_9 prog K P0 ends5 m0.list (m0.list.length : Int) t22 mP → P0 t22 mP) → P0 0 b'54)))) ∧ (¬(m0.kind = 4) → (m0.kind = 4 → ∃ r'57 : Int, ∃ b'63 : List UInt8, PuX prog 126 (Bl mP) [.s ([38] : List UInt8)] (fun r => r = .tup [.i .i64 r'57, .ni]) ((Bl b'63)) ∧ ∃ c'64 : Val, m0.list[0]? = some c'64 ∧ ∃ r'66 : Int, ∃ b'72 : List UInt8, PuX prog 104 (Bl b'63) [.ag [.i .u8 c'64.kind, .i .i64 c'64.int, .s c'64.text, .sl .ext (List.map Val.row c'64.list), .b c'64.cut]] (fun r => r = .i .i64 r'66) ((Bl b'72)) ∧ K r'66 b'72) ∧ (¬(m0.kind = 4) → (m0.cut = true → ∃ r'76 : Int, ∃ b'82 : List UInt8, PuX prog 126 (Bl mP) [.s ([60, 46, 46, 46, 62] : List UInt8)] (fun r => r = .tup [.i .i64 r'76, .ni]) ((Bl b'82)) ∧ T104_4 prog K b'82) ∧ (m0.cut = false → 1 ≤ ends5.length ∧ ∃ r'84 : Int, ∃ b'90 : List UInt8, PuX prog 126 (Bl mP) [.s (ends5.take 1)] (fun r => r = .tup [.i .i64 r'84, .ni]) ((Bl b'90)) ∧ ∀ P0 : Int → List UInt8 → Prop, (∀ (t22 : Int) (mP : List UInt8), T104_9 prog K P0 ends5 m0.list (m0.list.length : Int) t22 mP → P0 t22 mP) → P0 0 b'90))))
theorem w104_8 {prog : Prog} {d : Nat} {Q : AE → Sl → St → Prop} {K : Int → List UInt8 → Prop} {st0 : St} {kp : Key} {vp : Nat} (hQ : ∀ (σ : Sl) (st : St) (x0 : Int) (b_ : List UInt8), σ 4 = .i .i64 x0 → Bl b_ st.bx st.ow kp vp → Fr d kp st0.bx st0.ow st.bx st.ow → K x0 b_ → Q .ret σ st) (hkp : kp.1 < d) {ends5 : List UInt8} {t82 : Bool} {m0 : Val} {mP : List UInt8}   {σ : Sl} {st : St} {v0 : Nat} (H0 : σ 0 = .p kp vp 0) (H3 : σ 3 = .p (d, 0) v0 0) (H5 : σ 5 = .s ends5) (H82 : σ 82 = .b t82) (B0 : lk st.bx (d, 0) = some (v0, [.i .u8 m0.kind, .i .i64 m0.int, .s m0.text, .sl .ext (List.map Val.row m0.list), .b m0.cut])) (BP : Bl mP st.bx st.ow kp vp) (FR : Fr d kp st0.bx st0.ow st.bx st.ow) (h : T104_8 prog K ends5 t82 m0 mP) : W prog d c104_3 σ st (blockW 0 (thenW prog d c104_8 Q)) :=
  c_bool H82 (fun g'1 => W.reg0 rfl fun _ _ => s_mv H0 ((h.1 g'1).elim fun r'2 e'9 => e'9.elim fun b'8 e'4 => s_callX (sec rfl (sec rfl sen)) e'4.1 (Nat.lt_succ_of_lt hkp) BP (fun st'5 hb'6 hf'7 => s_nil (w104_4  hQ hkp  hb'6 (Fr.pass FR hf'7) e'4.2)))) (fun g'1 => W.seq (W.reg0 rfl fun _ _ => s_fadP H3 (s_loadP rfl B0 rfl rfl (s_bin rfl rfl (abin_eql _ _ _) (s_mvB rfl (s_em (g := 96) rfl (fun g'10 => s_gy rfl (s_fadP H3 (s_gy rfl (s_loadP rfl B0 rfl rfl (s_gy rfl (s_lenL rfl (s_gy rfl (s_bin rfl rfl (abin_eql _ _ _) (s_pickTB rfl rfl (s_mvB rfl (s_nil (c_split rfl (fun g'11 => W.reg0 rfl fun _ _ => s_mv H0 ((((h.2 g'1).1 g'10).1 g'11).elim fun r'12 e'19 => e'19.elim fun b'18 e'14 => s_callX (sec rfl (sec rfl sen)) e'14.1 (Nat.lt_succ_of_lt hkp) BP (fun st'15 hb'16 hf'17 => s_nil (w104_4  hQ hkp  hb'16 (Fr.pass FR hf'17) e'14.2)))) (fun g'11 => W.seq (W.reg0 rfl fun _ _ => s_fadP H3 (s_loadP rfl B0 rfl rfl (s_bin rfl rfl (abin_eql _ _ _) (s_mvB rfl (s_nil (c_split rfl (fun g'20 => W.seq (W.reg0 rfl fun _ _ => s_mv H0 (((((h.2 g'1).1 g'10).2 g'11).1 g'20).elim fun r'21 e'38 => e'38.elim fun b'27 e'23 => s_callX (sec rfl (sec rfl sen)) e'23.1 (Nat.lt_succ_of_lt hkp) BP (fun st'24 hb'25 hf'26 => s_nil (W.seq (W.reg0 rfl fun _ _ => s_mv H0 (s_fadP H3 (s_loadP rfl ((hf'26.1 (d, 0) (Nat.lt_succ_self d) (key_LP hkp)).trans B0) rfl rfl (e'23.2.elim fun c'28 e'29 => s_iaL rfl rfl (by decide) e'29.1 (Val.row_eq c'28) rfl (s_loadF rfl rfl rfl (e'29.2.elim fun r'30 e'37 => e'37.elim fun b'36 e'32 => s_callX (sec rfl (sec rfl sen)) e'32.1 (Nat.lt_succ_of_lt hkp) hb'25 (fun st'33 hb'34 hf'35 => s_mvI rfl (s_nil (W.ret (hQ _ _   _ _ rfl hb'34 (Fr.pass (Fr.pass FR hf'26) hf'35)  e'32.2))))))))))))))) (fun g'20 => W.seq (W.reg0 rfl fun _ _ => s_fadP H3 (s_loadP rfl B0 rfl rfl (s_mvB rfl (s_nil (c_bool rfl (fun g'39 => W.reg0 rfl fun _ _ => s_mv H0 ((((((h.2 g'1).1 g'10).2 g'11).2 g'20).1 g'39).elim fun r'40 e'47 => e'47.elim fun b'46 e'42 => s_callX (sec rfl (sec rfl sen)) e'42.1 (Nat.lt_succ_of_lt hkp) BP (fun st'43 hb'44 hf'45 => s_nil (w104_4  hQ hkp  hb'44 (Fr.pass FR hf'45) e'42.2)))) (fun g'39 => W.seq (W.reg0 rfl fun _ _ => s_mv H0 (s_mvS H5 (s_slS_hi rfl rfl (by decide) (((((h.2 g'1).1 g'10).2 g'11).2 g'20).2 g'39).1 ((((((h.2 g'1).1 g'10).2 g'11).2 g'20).2 g'39).2.elim fun r'48 e'55 => e'55.elim fun b'54 e'50 => s_callX (sec rfl (sec rfl sen)) e'50.1 (Nat.lt_succ_of_lt hkp) BP (fun st'51 hb'52 hf'53 => s_nil (W.seq (W.seq (W.reg0 rfl fun _ _ => s_fadP H3 (s_loadP rfl ((hf'53.1 (d, 0) (Nat.lt_succ_self d) (key_LP hkp)).trans B0) rfl rfl (s_lenL rfl (s_mvI rfl (s_nil (W.block (e'50.2 (I104_0 prog d Q st0 kp vp ends5 m0.list (m0.list.length : Int)) (fun _ _ hb _ _ _ H0 H5 H20 H21 H22 BP FR => W.loop (w104_9 hQ hkp (fun _ _ x => x) H0 H5 H20 H21 H22 BP FR hb)) _ _ _ H0 H5 rfl rfl rfl hb'52 (Fr.pass FR hf'53))))))))))))))))))))))))))))))))))))))))) (fun g'10 => s_gn (b := false) rfl rfl (s_gn (b := false) rfl rfl (s_gn (b := false) rfl rfl (s_gn (b := false) rfl rfl (s_pickFB rfl rfl (s_mvB rfl (s_nil (c_ff rfl (W.seq (W.reg0 rfl fun _ _ => s_fadP H3 (s_loadP rfl B0 rfl rfl (s_bin rfl rfl (abin_eql _ _ _) (s_mvB rfl (s_nil (c_split rfl (fun g'56 => W.seq (W.reg0 rfl fun _ _ => s_mv H0 ((((h.2 g'1).2 g'10).1 g'56).elim fun r'57 e'74 => e'74.elim fun b'63 e'59 => s_callX (sec rfl (sec rfl sen)) e'59.1 (Nat.lt_succ_of_lt hkp) BP (fun st'60 hb'61 hf'62 => s_nil (W.seq (W.reg0 rfl fun _ _ => s_mv H0 (s_fadP H3 (s_loadP rfl ((hf'62.1 (d, 0) (Nat.lt_succ_self d) (key_LP hkp)).trans B0) rfl rfl (e'59.2.elim fun c'64 e'65 => s_iaL rfl rfl (by decide) e'65.1 (Val.row_eq c'64) rfl (s_loadF rfl rfl rfl (e'65.2.elim fun r'66 e'73 => e'73.elim fun b'72 e'68 => s_callX (sec rfl (sec rfl sen)) e'68.1 (Nat.lt_succ_of_lt hkp) hb'61 (fun st'69 hb'70 hf'71 => s_mvI rfl (s_nil (W.ret (hQ _ _   _ _ rfl hb'70 (Fr.pass (Fr.pass FR hf'62) hf'71)  e'68.2))))))))))))))) (fun g'56 => W.seq (W.reg0 rfl fun _ _ => s_fadP H3 (s_loadP rfl B0 rfl rfl (s_mvB rfl (s_nil (c_bool rfl (fun g'75 => W.reg0 rfl fun _ _ => s_mv H0 (((((h.2 g'1).2 g'10).2 g'56).1 g'75).elim fun r'76 e'83 => e'83.elim fun b'82 e'78 => s_callX (sec rfl (sec rfl sen)) e'78.1 (Nat.lt_succ_of_lt hkp) BP (fun st'79 hb'80 hf'81 => s_nil (w104_4  hQ hkp  hb'80 (Fr.pass FR hf'81) e'78.2)))) (fun g'75 => W.seq (W.reg0 rfl fun _ _ => s_mv H0 (s_mvS H5 (s_slS_hi rfl rfl (by decide) ((((h.2 g'1).2 g'10).2 g'56).2 g'75).1 (((((h.2 g'1).2 g'10).2 g'56).2 g'75).2.elim fun r'84 e'91 => e'91.elim fun b'90 e'86 => s_callX (sec rfl (sec rfl sen)) e'86.1 (Nat.lt_succ_of_lt hkp) BP (fun st'87 hb'88 hf'89 => s_nil (W.seq (W.seq (W.reg0 rfl fun _ _ => s_fadP H3 (s_loadP rfl ((hf'89.1 (d, 0) (Nat.lt_succ_self d) (key_LP hkp)).trans B0) rfl rfl (s_lenL rfl (s_mvI rfl (s_nil (W.block (e'86.2 (I104_0 prog d Q st0 kp vp ends5 m0.list (m0.list.length : Int)) (fun _ _ hb _ _ _ H0 H5 H20 H21 H22 BP FR => W.loop (w104_9 hQ hkp (fun _ _ x => x) H0 H5 H20 H21 H22 BP FR hb)) _ _ _ H0 H5 rfl rfl rfl hb'88 (Fr.pass FR hf'89)))))))))))))))))))))))))))))))))))))))))))
def T104_7 (prog : Prog) (K : Int → List UInt8 → Prop) (ends5 : List UInt8) (t68 : Bool) (m0 : Val) (mP : List UInt8) : Prop :=
  (t68 = true → ∃ r'2 : List UInt8, ∃ r'3 : Int, Pus prog 11 [.s m0.text] (.tup [.s r'2, .i .i64 r'3]) ∧ ∃ r'5 : Int, ∃ b'11 : List UInt8, PuX prog 126 (Bl mP) [.s r'2] (fun r => r = .tup [.i .i64 r'5, .ni]) ((Bl b'11)) ∧ K r'3 b'11) ∧ (t68 = false → (m0.kind = 4 → T104_8 prog K ends5 m0.cut m0 mP) ∧ (¬(m0.kind = 4) → T104_8 prog K ends5 false m0 mP))
theorem w104_7 {prog : Prog} {d : Nat} {Q : AE → Sl → St → Prop} {K : Int → List UInt8 → Prop} {st0 : St} {kp : Key} {vp : Nat} (hQ : ∀ (σ : Sl) (st : St) (x0 : Int) (b_ : List UInt8), σ 4 = .i .i64 x0 → Bl b_ st.bx st.ow kp vp → Fr d kp st0.bx st0.ow st.bx st.ow → K x0 b_ → Q .ret σ st) (hkp : kp.1 < d) {ends5 : List UInt8} {t68 : Bool} {m0 : Val} {mP : List UInt8}   {σ : Sl} {st : St} {v0 : Nat} (H0 : σ 0 = .p kp vp 0) (H3 : σ 3 = .p (d, 0) v0 0) (H5 : σ 5 = .s ends5) (H68 : σ 68 = .b t68) (B0 : lk st.bx (d, 0) = some (v0, [.i .u8 m0.kind, .i .i64 m0.int, .s m0.text, .sl .ext (List.map Val.row m0.list), .b m0.cut])) (BP : Bl mP st.bx st.ow kp vp) (FR : Fr d kp st0.bx st0.ow st.bx st.ow) (h : T104_7 prog K ends5 t68 m0 mP) : W prog d c104_4 σ st (blockW 0 (thenW prog d c104_8 Q)) :=
  c_bool H68 (fun g'1 => W.seq (W.reg0 rfl fun _ _ => s_fadP H3 (s_loadP rfl B0 rfl rfl ((h.1 g'1).elim fun r'2 e'13 => e'13.elim fun r'3 e'4 => s_call (sc rfl rfl sn) e'4.1 (s_mvT rfl (s_ext rfl rfl (s_ext rfl rfl (s_mvS rfl (s_mvI rfl (s_nil (W.seq (W.reg0 rfl fun _ _ => s_mv H0 (s_mvS rfl (e'4.2.elim fun r'5 e'12 => e'12.elim fun b'11 e'7 => s_callX (sec rfl (sec rfl sen)) e'7.1 (Nat.lt_succ_of_lt hkp) BP (fun st'8 hb'9 hf'10 => s_nil (W.seq (W.reg0 rfl fun _ _ => s_mvI rfl (s_mvI rfl (s_nil (W.ret (hQ _ _   _ _ rfl hb'9 (Fr.pass FR hf'10)  e'7.2))))))))))))))))))))) (fun g'1 => W.seq (W.reg0 rfl fun _ _ => s_fadP H3 (s_loadP rfl B0 rfl rfl (s_bin rfl rfl (abin_eql _ _ _) (s_mvB rfl (s_em (g := 86) rfl (fun g'14 => s_gy rfl (s_fadP H3 (s_gy rfl (s_loadP rfl B0 rfl rfl (s_pickTB rfl rfl (s_mvB rfl (s_nil (w104_8  hQ hkp  H0 H3 H5 rfl B0 BP FR ((h.2 g'1).1 g'14))))))))) (fun g'14 => s_gn (b := false) rfl rfl (s_gn (b := false) rfl rfl (s_pickFB rfl rfl (s_mvB rfl (s_nil (w104_8  hQ hkp  H0 H3 H5 rfl B0 BP FR ((h.2 g'1).2 g'14)))))))))))))
def T104_6 (prog : Prog) (K : Int → List UInt8 → Prop) (ends5 : List UInt8) (t59 : Bool) (m0 : Val) (mP : List UInt8) : Prop :=
  (t59 = true → ∃ r'2 : List UInt8, Pus prog 15 [.i .i64 m0.int] (.s r'2) ∧ ∃ r'4 : Int, ∃ b'10 : List UInt8, PuX prog 126 (Bl mP) [.s r'2] (fun r => r = .tup [.i .i64 r'4, .ni]) ((Bl b'10)) ∧ T104_4 prog K b'10) ∧ (t59 = false → T104_7 prog K ends5 (decide (m0.kind = 3)) m0 mP)
theorem w104_6 {prog : Prog} {d : Nat} {Q : AE → Sl → St → Prop} {K : Int → List UInt8 → Prop} {st0 : St} {kp : Key} {vp : Nat} (hQ : ∀ (σ : Sl) (st : St) (x0 : Int) (b_ : List UInt8), σ 4 = .i .i64 x0 → Bl b_ st.bx st.ow kp vp → Fr d kp st0.bx st0.ow st.bx st.ow → K x0 b_ → Q .ret σ st) (hkp : kp.1 < d) {ends5 : List UInt8} {t59 : Bool} {m0 : Val} {mP : List UInt8}   {σ : Sl} {st : St} {v0 : Nat} (H0 : σ 0 = .p kp vp 0) (H3 : σ 3 = .p (d, 0) v0 0) (H5 : σ 5 = .s ends5) (H59 : σ 59 = .b t59) (B0 : lk st.bx (d, 0) = some (v0, [.i .u8 m0.kind, .i .i64 m0.int, .s m0.text, .sl .ext (List.map Val.row m0.list), .b m0.cut])) (BP : Bl mP st.bx st.ow kp vp) (FR : Fr d kp st0.bx st0.ow st.bx st.ow) (h : T104_6 prog K ends5 t59 m0 mP) : W prog d c104_5 σ st (blockW 0 (thenW prog d c104_8 Q)) :=
  c_bool H59 (fun g'1 => W.reg0 rfl fun _ _ => s_mv H0 (s_fadP H3 (s_loadP rfl B0 rfl rfl ((h.1 g'1).elim fun r'2 e'3 => s_call (sc rfl rfl sn) e'3.1 (e'3.2.elim fun r'4 e'11 => e'11.elim fun b'10 e'6 => s_callX (sec rfl (sec rfl sen)) e'6.1 (Nat.lt_succ_of_lt hkp) BP (fun st'7 hb'8 hf'9 => s_nil (w104_4  hQ hkp  hb'8 (Fr.pass FR hf'9) e'6.2))))))) (fun g'1 => W.seq (W.reg0 rfl fun _ _ => s_fadP H3 (s_loadP rfl B0 rfl rfl (s_bin rfl rfl (abin_eql _ _ _) (s_mvB rfl (s_nil (w104_7  hQ hkp  H0 H3 H5 rfl B0 BP FR (h.2 g'1))))))))
def T104_5 (prog : Prog) (K : Int → List UInt8 → Prop) (ends5 : List UInt8) (t53 : Bool) (m0 : Val) (mP : List UInt8) : Prop :=
  (t53 = true → ∃ r'2 : Int, ∃ b'8 : List UInt8, PuX prog 126 (Bl mP) [.s ([102, 97, 108, 115, 101] : List UInt8)] (fun r => r = .tup [.i .i64 r'2, .ni]) ((Bl b'8)) ∧ T104_4 prog K b'8) ∧ (t53 = false → T104_6 prog K ends5 (decide (m0.kind = 2)) m0 mP)
theorem w104_5 {prog : Prog} {d : Nat} {Q : AE → Sl → St → Prop} {K : Int → List UInt8 → Prop} {st0 : St} {kp : Key} {vp : Nat} (hQ : ∀ (σ : Sl) (st : St) (x0 : Int) (b_ : List UInt8), σ 4 = .i .i64 x0 → Bl b_ st.bx st.ow kp vp → Fr d kp st0.bx st0.ow st.bx st.ow → K x0 b_ → Q .ret σ st) (hkp : kp.1 < d) {ends5 : List UInt8} {t53 : Bool} {m0 : Val} {mP : List UInt8}   {σ : Sl} {st : St} {v0 : Nat} (H0 : σ 0 = .p kp vp 0) (H3 : σ 3 = .p (d, 0) v0 0) (H5 : σ 5 = .s ends5) (H53 : σ 53 = .b t53) (B0 : lk st.bx (d, 0) = some (v0, [.i .u8 m0.kind, .i .i64 m0.int, .s m0.text, .sl .ext (List.map Val.row m0.list), .b m0.cut])) (BP : Bl mP st.bx st.ow kp vp) (FR : Fr d kp st0.bx st0.ow st.bx st.ow) (h : T104_5 prog K ends5 t53 m0 mP) : W prog d c104_6 σ st (blockW 0 (thenW prog d c104_8 Q)) :=
  c_bool H53 (fun g'1 => W.reg0 rfl fun _ _ => s_mv H0 ((h.1 g'1).elim fun r'2 e'9 => e'9.elim fun b'8 e'4 => s_callX (sec rfl (sec rfl sen)) e'4.1 (Nat.lt_succ_of_lt hkp) BP (fun st'5 hb'6 hf'7 => s_nil (w104_4  hQ hkp  hb'6 (Fr.pass FR hf'7) e'4.2)))) (fun g'1 => W.seq (W.reg0 rfl fun _ _ => s_fadP H3 (s_loadP rfl B0 rfl rfl (s_bin rfl rfl (abin_eql _ _ _) (s_mvB rfl (s_nil (w104_6  hQ hkp  H0 H3 H5 rfl B0 BP FR (h.2 g'1))))))))
def T104_3 (prog : Prog) (K : Int → List UInt8 → Prop) (ends5 : List UInt8) (t42 : Bool) (m0 : Val) (mP : List UInt8) : Prop :=
  (t42 = true → ∃ r'2 : Int, ∃ b'8 : List UInt8, PuX prog 126 (Bl mP) [.s ([116, 114, 117, 101] : List UInt8)] (fun r => r = .tup [.i .i64 r'2, .ni]) ((Bl b'8)) ∧ T104_4 prog K b'8) ∧ (t42 = false → T104_5 prog K ends5 (decide (m0.kind = 1)) m0 mP)
theorem w104_3 {prog : Prog} {d : Nat} {Q : AE → Sl → St → Prop} {K : Int → List UInt8 → Prop} {st0 : St} {kp : Key} {vp : Nat} (hQ : ∀ (σ : Sl) (st : St) (x0 : Int) (b_ : List UInt8), σ 4 = .i .i64 x0 → Bl b_ st.bx st.ow kp vp → Fr d kp st0.bx st0.ow st.bx st.ow → K x0 b_ → Q .ret σ st) (hkp : kp.1 < d) {ends5 : List UInt8} {t42 : Bool} {m0 : Val} {mP : List UInt8}   {σ : Sl} {st : St} {v0 : Nat} (H0 : σ 0 = .p kp vp 0) (H3 : σ 3 = .p (d, 0) v0 0) (H5 : σ 5 = .s ends5) (H42 : σ 42 = .b t42) (B0 : lk st.bx (d, 0) = some (v0, [.i .u8 m0.kind, .i .i64 m0.int, .s m0.text, .sl .ext (List.map Val.row m0.list), .b m0.cut])) (BP : Bl mP st.bx st.ow kp vp) (FR : Fr d kp st0.bx st0.ow st.bx st.ow) (h : T104_3 prog K ends5 t42 m0 mP) : W prog d c104_7 σ st (blockW 0 (thenW prog d c104_8 Q)) :=
  c_bool H42 (fun g'1 => W.reg0 rfl fun _ _ => s_mv H0 ((h.1 g'1).elim fun r'2 e'9 => e'9.elim fun b'8 e'4 => s_callX (sec rfl (sec rfl sen)) e'4.1 (Nat.lt_succ_of_lt hkp) BP (fun st'5 hb'6 hf'7 => s_nil (w104_4  hQ hkp  hb'6 (Fr.pass FR hf'7) e'4.2)))) (fun g'1 => W.seq (W.reg0 rfl fun _ _ => s_fadP H3 (s_loadP rfl B0 rfl rfl (s_bin rfl rfl (abin_eql _ _ _) (s_mvB rfl (s_nil (w104_5  hQ hkp  H0 H3 H5 rfl B0 BP FR (h.2 g'1))))))))
def T104_2 (prog : Prog) (K : Int → List UInt8 → Prop) (ends5 : List UInt8) (m0 : Val) (mP : List UInt8) : Prop :=
  (m0.kind = 1 → T104_3 prog K ends5 (decide (m0.int = 1)) m0 mP) ∧ (¬(m0.kind = 1) → T104_3 prog K ends5 false m0 mP)
theorem w104_2 {prog : Prog} {d : Nat} {Q : AE → Sl → St → Prop} {K : Int → List UInt8 → Prop} {st0 : St} {kp : Key} {vp : Nat} (hQ : ∀ (σ : Sl) (st : St) (x0 : Int) (b_ : List UInt8), σ 4 = .i .i64 x0 → Bl b_ st.bx st.ow kp vp → Fr d kp st0.bx st0.ow st.bx st.ow → K x0 b_ → Q .ret σ st) (hkp : kp.1 < d) {ends5 : List UInt8} {m0 : Val} {mP : List UInt8}   {σ : Sl} {st : St} {v0 : Nat} (H0 : σ 0 = .p kp vp 0) (H3 : σ 3 = .p (d, 0) v0 0) (H5 : σ 5 = .s ends5) (B0 : lk st.bx (d, 0) = some (v0, [.i .u8 m0.kind, .i .i64 m0.int, .s m0.text, .sl .ext (List.map Val.row m0.list), .b m0.cut])) (BP : Bl mP st.bx st.ow kp vp) (FR : Fr d kp st0.bx st0.ow st.bx st.ow) (h : T104_2 prog K ends5 m0 mP) : W prog d c104_9 σ st Q :=
  W.seq (W.block (W.seq (W.reg0 rfl fun _ _ => s_fadP H3 (s_loadP rfl B0 rfl rfl (s_bin rfl rfl (abin_eql _ _ _) (s_mvB rfl (s_em (g := 46) rfl (fun g'1 => s_gy rfl (s_fadP H3 (s_gy rfl (s_loadP rfl B0 rfl rfl (s_gy rfl (s_bin rfl rfl (abin_eql _ _ _) (s_pickTB rfl rfl (s_mvB rfl (s_nil (w104_3  hQ hkp  H0 H3 H5 rfl B0 BP FR (h.1 g'1))))))))))) (fun g'1 => s_gn (b := false) rfl rfl (s_gn (b := false) rfl rfl (s_gn (b := false) rfl rfl (s_pickFB rfl rfl (s_mvB rfl (s_nil (w104_3  hQ hkp  H0 H3 H5 rfl B0 BP FR (h.2 g'1)))))))))))))))
def T104_1 (prog : Prog) (K : Int → List UInt8 → Prop) (m0 : Val) (mP : List UInt8) : Prop :=
  0 ≤ m0.kind ∧ ∃ c'1 : List UInt8, ([[], [], [], [], [], ([123, 125] : List UInt8), ([91, 93] : List UInt8), ([60, 62] : List UInt8)] : List (List UInt8))[(m0.kind).toNat]? = some c'1 ∧ T104_2 prog K c'1 m0 mP
theorem w104_1 {prog : Prog} {d : Nat} {Q : AE → Sl → St → Prop} {K : Int → List UInt8 → Prop} {st0 : St} {kp : Key} {vp : Nat} (hQ : ∀ (σ : Sl) (st : St) (x0 : Int) (b_ : List UInt8), σ 4 = .i .i64 x0 → Bl b_ st.bx st.ow kp vp → Fr d kp st0.bx st0.ow st.bx st.ow → K x0 b_ → Q .ret σ st) (hkp : kp.1 < d) {m0 : Val} {mP : List UInt8}   {σ : Sl} {st : St} {v0 : Nat} (H0 : σ 0 = .p kp vp 0) (H3 : σ 3 = .p (d, 0) v0 0) (B0 : lk st.bx (d, 0) = some (v0, [.i .u8 m0.kind, .i .i64 m0.int, .s m0.text, .sl .ext (List.map Val.row m0.list), .b m0.cut])) (BP : Bl mP st.bx st.ow kp vp) (FR : Fr d kp st0.bx st0.ow st.bx st.ow) (h : T104_1 prog K m0 mP) : W prog d c104_10 σ st Q :=
  W.seq (W.reg0 rfl fun _ _ => s_buildM (f := AV.s) (l := [[], [], [], [], [], ([123, 125] : List UInt8), ([91, 93] : List UInt8), ([60, 62] : List UInt8)]) (f_cons rfl rfl (f_cons rfl rfl (f_cons rfl rfl f_nil))) rfl (s_fadP H3 (s_loadP rfl B0 rfl rfl (h.2.elim fun c'1 e'2 => s_ixA (f := AV.s) rfl rfl rfl h.1 e'2.1 (s_mvS rfl (s_nil (w104_2  hQ hkp  H0 H3 rfl B0 BP FR e'2.2)))))))
def T104_0 (prog : Prog) (K : Int → List UInt8 → Prop) (v1 : Val) (mP : List UInt8) : Prop :=
  T104_1 prog K v1 mP
theorem w104_0 {prog : Prog} {d : Nat} {Q : AE → Sl → St → Prop} {K : Int → List UInt8 → Prop} {st0 : St} {kp : Key} {vp : Nat} (hQ : ∀ (σ : Sl) (st : St) (x0 : Int) (b_ : List UInt8), σ 4 = .i .i64 x0 → Bl b_ st.bx st.ow kp vp → Fr d kp st0.bx st0.ow st.bx st.ow → K x0 b_ → Q .ret σ st) (hkp : kp.1 < d) {v1 : Val} {mP : List UInt8}   {σ : Sl} {st : St} (H0 : σ 0 = .p kp vp 0) (H1 : σ 1 = .ag [.i .u8 v1.kind, .i .i64 v1.int, .s v1.text, .sl .ext (List.map Val.row v1.list), .b v1.cut]) (BP : Bl mP st.bx st.ow kp vp) (FR : Fr d kp st0.bx st0.ow st.bx st.ow) (h : T104_0 prog K v1 mP) : W prog d (.seq (.reg 0 r104_0) c104_10) σ st Q :=
  W.seq (W.reg0 rfl fun _ _ => s_box H1 rfl (s_mvI rfl (s_nil (w104_1  hQ hkp  H0 rfl lk_here (Bl.other (key_LP hkp) BP) (Fr.box FR) h))))
theorem p104 {prog : Prog} (hf : prog.fn 104 = some pf104) {v1 : Val} {mP : List UInt8} {K : Int → List UInt8 → Prop} (h : T104_0 prog K v1 mP) : PuXK prog 104 (Bl mP) [.ag [.i .u8 v1.kind, .i .i64 v1.int, .s v1.text, .sl .ext (List.map Val.row v1.list), .b v1.cut]] (fun r (b_ : List UInt8) => ∃ x0 : Int, (r = .i .i64 x0) ∧ K x0 b_) (fun b_ => (Bl b_)) :=
  PuXK.of hf rfl (fun _ => Bl.out) fun d st kp vp hkp hB => w104_0 (st0 := st) (Q := fun e σ st' => (e = .normal ∨ e = .ret) ∧ ∃ r b_, ares σ st' pf104.res = some r ∧ _ ∧ _ ∧ Fr d kp st.bx st.ow st'.bx st'.ow) (fun σ st'   x0 b_ H4 hb hf hk => ⟨.inr rfl, .i .i64 x0, b_, by simp only [pf104, ares, aresL, H4, ares1, Option.map_some, H4], ⟨x0, rfl, hk⟩, hb, hf⟩) hkp (σ := sl0 [.p kp vp 0, .ag [.i .u8 v1.kind, .i .i64 v1.int, .s v1.text, .sl .ext (List.map Val.row v1.list), .b v1.cut]]) rfl rfl hB Fr.refl h

/-! wreckage/wreckageref38.Text -/
def r106_0 : List AI := [⟨(some 1), .box 5 (.t 0), none⟩,
  ⟨(some 2), .mv (.c (.s [])), none⟩]
def r106_1 : List AI := [⟨(some 3), .fad 0 (.t 1), none⟩,
  ⟨(some 4), .load 1 false (.t 3), none⟩]
def r106_2 : List AI := [⟨(some 6), .bin .eql (.t 4) (.c (.i .u8 1)), none⟩,
  ⟨(some 5), .mv (.t 6), none⟩]
def r106_3 : List AI := [⟨(some 7), .fad 1 (.t 1), none⟩,
  ⟨(some 8), .load 1 false (.t 7), none⟩,
  ⟨(some 9), .bin .eql (.t 8) (.c (.i .i64 1)), none⟩]
def r106_4 : List AI := [⟨(some 2), .mv (.c (.s [116, 114, 117, 101])), none⟩]
def r106_5 : List AI := [⟨(some 2), .mv (.c (.s [102, 97, 108, 115, 101])), none⟩]
def r106_6 : List AI := [⟨(some 11), .bin .eql (.t 4) (.c (.i .u8 2)), none⟩,
  ⟨(some 10), .mv (.t 11), none⟩]
def r106_7 : List AI := [⟨(some 12), .fad 1 (.t 1), none⟩,
  ⟨(some 13), .load 1 false (.t 12), none⟩,
  ⟨(some 14), .call false 16 [(.t 13)], none⟩,
  ⟨(some 2), .mv (.t 14), none⟩]
def r106_8 : List AI := [⟨(some 16), .bin .eql (.t 4) (.c (.i .u8 3)), none⟩,
  ⟨(some 15), .mv (.t 16), none⟩]
def r106_9 : List AI := [⟨(some 17), .fad 2 (.t 1), none⟩,
  ⟨(some 18), .load 1 false (.t 17), none⟩,
  ⟨(some 19), .call false 31 [(.t 18)], none⟩,
  ⟨(some 2), .mv (.t 19), none⟩]
def r106_10 : List AI := [⟨(some 21), .bin .eql (.t 4) (.c (.i .u8 5)), none⟩,
  ⟨(some 20), .mv (.t 21), none⟩]
def r106_11 : List AI := [⟨(some 22), .fad 3 (.t 1), none⟩,
  ⟨(some 23), .load 1 false (.t 22), none⟩,
  ⟨(some 24), .call false 127 [(.t 23)], none⟩,
  ⟨(some 25), .bin .add (.c (.s [123])) (.t 24), none⟩,
  ⟨(some 26), .bin .add (.t 25) (.c (.s [125])), none⟩,
  ⟨(some 2), .mv (.t 26), none⟩]
def r106_12 : List AI := [⟨(some 28), .bin .eql (.t 4) (.c (.i .u8 6)), none⟩,
  ⟨(some 27), .mv (.t 28), none⟩]
def r106_13 : List AI := [⟨(some 29), .fad 3 (.t 1), none⟩,
  ⟨(some 30), .load 1 false (.t 29), none⟩,
  ⟨(some 31), .call false 127 [(.t 30)], none⟩,
  ⟨(some 32), .bin .add (.c (.s [91])) (.t 31), none⟩,
  ⟨(some 33), .bin .add (.t 32) (.c (.s [93])), none⟩,
  ⟨(some 2), .mv (.t 33), none⟩]
def r106_14 : List AI := [⟨(some 35), .bin .eql (.t 4) (.c (.i .u8 7)), none⟩,
  ⟨(some 34), .mv (.t 35), none⟩]
def r106_15 : List AI := [⟨(some 36), .fad 4 (.t 1), none⟩,
  ⟨(some 37), .load 1 false (.t 36), none⟩]
def r106_16 : List AI := [⟨(some 2), .mv (.c (.s [60, 46, 46, 46, 62])), none⟩]
def r106_17 : List AI := [⟨(some 38), .fad 3 (.t 1), none⟩,
  ⟨(some 39), .load 1 false (.t 38), none⟩,
  ⟨(some 40), .call false 127 [(.t 39)], none⟩,
  ⟨(some 41), .bin .add (.c (.s [60])) (.t 40), none⟩,
  ⟨(some 42), .bin .add (.t 41) (.c (.s [62])), none⟩,
  ⟨(some 2), .mv (.t 42), none⟩]
def r106_18 : List AI := [⟨(some 43), .fad 4 (.t 1), none⟩,
  ⟨(some 44), .load 1 false (.t 43), none⟩]
def r106_19 : List AI := [⟨(some 2), .mv (.c (.s [38, 46, 46, 46])), none⟩]
def r106_20 : List AI := [⟨(some 45), .fad 3 (.t 1), none⟩,
  ⟨(some 46), .load 1 false (.t 45), none⟩,
  ⟨(some 47), .len false (.t 46), none⟩,
  ⟨(some 48), .bin .eql (.t 47) (.c (.i .i64 0)), none⟩]
def r106_21 : List AI := [⟨(some 2), .mv (.c (.s [110, 105, 108])), none⟩]
def r106_22 : List AI := [⟨(some 49), .fad 3 (.t 1), none⟩,
  ⟨(some 50), .load 1 false (.t 49), none⟩,
  ⟨(some 51), .iaL 5 (.t 50) (.c (.i .i64 0)), none⟩,
  ⟨(some 52), .load 5 true (.t 51), none⟩,
  ⟨(some 53), .call false 106 [(.t 52)], none⟩,
  ⟨(some 54), .bin .add (.c (.s [38])) (.t 53), none⟩,
  ⟨(some 2), .mv (.t 54), none⟩]
abbrev c106_0 : AC := (.seq (.seq (.reg 1 r106_1) (.block 0 (.seq (.reg 2 r106_2) (.cond (.t 5) (.seq (.seq (.reg 3 r106_3) (.cond (.t 9) (.seq (.reg 4 r106_4) .ret) .skip)) (.seq (.reg 5 r106_5) .ret)) (.seq (.reg 6 r106_6) (.cond (.t 10) (.seq (.reg 7 r106_7) .ret) (.seq (.reg 8 r106_8) (.cond (.t 15) (.seq (.reg 9 r106_9) .ret) (.seq (.reg 10 r106_10) (.cond (.t 20) (.seq (.reg 11 r106_11) .ret) (.seq (.reg 12 r106_12) (.cond (.t 27) (.seq (.reg 13 r106_13) .ret) (.seq (.reg 14 r106_14) (.cond (.t 34) (.seq (.seq (.reg 15 r106_15) (.cond (.t 37) (.seq (.reg 16 r106_16) .ret) .skip)) (.seq (.reg 17 r106_17) .ret)) .skip)))))))))))))) (.seq (.seq (.reg 18 r106_18) (.cond (.t 44) (.seq (.reg 19 r106_19) .ret) .skip)) (.seq (.seq (.reg 20 r106_20) (.cond (.t 48) (.seq (.reg 21 r106_21) .ret) .skip)) (.seq (.reg 22 r106_22) .ret))))
abbrev b106 : AC := (.seq (.reg 0 r106_0) c106_0)
def pf106 : AF := { nt := 55, res := [.tmp 2], body := b106 }
def T106_1 (prog : Prog) (K : List UInt8 → Prop) (m0 : Val) : Prop :=
  (m0.kind = 1 → (m0.int = 1 → K ([116, 114, 117, 101] : List UInt8)) ∧ (¬(m0.int = 1) → K ([102, 97, 108, 115, 101] : List UInt8))) ∧ (¬(m0.kind = 1) → (m0.kind = 2 → ∃ r'4 : List UInt8, Pus prog 16 [.i .i64 m0.int] (.s r'4) ∧ K r'4) ∧ (¬(m0.kind = 2) → (m0.kind = 3 → ∃ r'7 : List UInt8, Pus prog 31 [.s m0.text] (.s r'7) ∧ K r'7) ∧ (¬(m0.kind = 3) → (m0.kind = 5 → ∃ r'10 : List UInt8, Pus prog 127 [.sl .ext (List.map Val.row m0.list)] (.s r'10) ∧ ([123] : List UInt8).length + r'10.length ≤ maxStr ∧ (([123] : List UInt8) ++ r'10).length + ([125] : List UInt8).length ≤ maxStr ∧ K ((([123] : List UInt8) ++ r'10) ++ ([125] : List UInt8))) ∧ (¬(m0.kind = 5) → (m0.kind = 6 → ∃ r'13 : List UInt8, Pus prog 127 [.sl .ext (List.map Val.row m0.list)] (.s r'13) ∧ ([91] : List UInt8).length + r'13.length ≤ maxStr ∧ (([91] : List UInt8) ++ r'13).length + ([93] : List UInt8).length ≤ maxStr ∧ K ((([91] : List UInt8) ++ r'13) ++ ([93] : List UInt8))) ∧ (¬(m0.kind = 6) → (m0.kind = 7 → (m0.cut = true → K ([60, 46, 46, 46, 62] : List UInt8)) ∧ (m0.cut = false → ∃ r'17 : List UInt8, Pus prog 127 [.sl .ext (List.map Val.row m0.list)] (.s r'17) ∧ ([60] : List UInt8).length + r'17.length ≤ maxStr ∧ (([60] : List UInt8) ++ r'17).length + ([62] : List UInt8).length ≤ maxStr ∧ K ((([60] : List UInt8) ++ r'17) ++ ([62] : List UInt8)))) ∧ (¬(m0.kind = 7) → (m0.cut = true → K ([38, 46, 46, 46] : List UInt8)) ∧ (m0.cut = false → ((m0.list.length : Int) = 0 → K ([110, 105, 108] : List UInt8)) ∧ (¬((m0.list.length : Int) = 0) → ∃ c'21 : Val, m0.list[0]? = some c'21 ∧ ∃ r'23 : List UInt8, Pus prog 106 [.ag [.i .u8 c'21.kind, .i .i64 c'21.int, .s c'21.text, .sl .ext (List.map Val.row c'21.list), .b c'21.cut]] (.s r'23) ∧ ([38] : List UInt8).length + r'23.length ≤ maxStr ∧ K (([38] : List UInt8) ++ r'23)))))))))
theorem w106_1 {prog : Prog} {d : Nat} {Q : AE → Sl → St → Prop} {K : List UInt8 → Prop} (hQ : ∀ (σ : Sl) (st : St) (x0 : List UInt8), σ 2 = .s x0 → K x0 → Q .ret σ st) {m0 : Val}   {σ : Sl} {st : St} {v0 : Nat} (H1 : σ 1 = .p (d, 0) v0 0) (B0 : lk st.bx (d, 0) = some (v0, [.i .u8 m0.kind, .i .i64 m0.int, .s m0.text, .sl .ext (List.map Val.row m0.list), .b m0.cut])) (h : T106_1 prog K m0) : W prog d c106_0 σ st Q :=
  W.seq (W.seq (W.reg0 rfl fun _ _ => s_fadP H1 (s_loadP rfl B0 rfl rfl (s_nil (W.block (W.seq (W.reg0 rfl fun _ _ => s_bin rfl rfl (abin_eql _ _ _) (s_mvB rfl (s_nil (c_split rfl (fun g'1 => W.seq (W.seq (W.reg0 rfl fun _ _ => s_fadP H1 (s_loadP rfl B0 rfl rfl (s_bin rfl rfl (abin_eql _ _ _) (s_nil (c_split rfl (fun g'2 => W.seq (W.reg0 rfl fun _ _ => s_mvS rfl (s_nil (W.ret (hQ _ _   _ rfl  ((h.1 g'1).1 g'2)))))) (fun g'2 => W.skip (W.seq (W.reg0 rfl fun _ _ => s_mvS rfl (s_nil (W.ret (hQ _ _   _ rfl  ((h.1 g'1).2 g'2)))))))))))))) (fun g'1 => W.seq (W.reg0 rfl fun _ _ => s_bin rfl rfl (abin_eql _ _ _) (s_mvB rfl (s_nil (c_split rfl (fun g'3 => W.seq (W.reg0 rfl fun _ _ => s_fadP H1 (s_loadP rfl B0 rfl rfl (((h.2 g'1).1 g'3).elim fun r'4 e'5 => s_call (sc rfl rfl sn) e'5.1 (s_mvS rfl (s_nil (W.ret (hQ _ _   _ rfl  e'5.2)))))))) (fun g'3 => W.seq (W.reg0 rfl fun _ _ => s_bin rfl rfl (abin_eql _ _ _) (s_mvB rfl (s_nil (c_split rfl (fun g'6 => W.seq (W.reg0 rfl fun _ _ => s_fadP H1 (s_loadP rfl B0 rfl rfl ((((h.2 g'1).2 g'3).1 g'6).elim fun r'7 e'8 => s_call (sc rfl rfl sn) e'8.1 (s_mvS rfl (s_nil (W.ret (hQ _ _   _ rfl  e'8.2)))))))) (fun g'6 => W.seq (W.reg0 rfl fun _ _ => s_bin rfl rfl (abin_eql _ _ _) (s_mvB rfl (s_nil (c_split rfl (fun g'9 => W.seq (W.reg0 rfl fun _ _ => s_fadP H1 (s_loadP rfl B0 rfl rfl (((((h.2 g'1).2 g'3).2 g'6).1 g'9).elim fun r'10 e'11 => s_call (sc rfl rfl sn) e'11.1 (s_bin rfl rfl (abin_cat' e'11.2.1) (s_bin rfl rfl (abin_cat' e'11.2.2.1) (s_mvS rfl (s_nil (W.ret (hQ _ _   _ rfl  e'11.2.2.2)))))))))) (fun g'9 => W.seq (W.reg0 rfl fun _ _ => s_bin rfl rfl (abin_eql _ _ _) (s_mvB rfl (s_nil (c_split rfl (fun g'12 => W.seq (W.reg0 rfl fun _ _ => s_fadP H1 (s_loadP rfl B0 rfl rfl ((((((h.2 g'1).2 g'3).2 g'6).2 g'9).1 g'12).elim fun r'13 e'14 => s_call (sc rfl rfl sn) e'14.1 (s_bin rfl rfl (abin_cat' e'14.2.1) (s_bin rfl rfl (abin_cat' e'14.2.2.1) (s_mvS rfl (s_nil (W.ret (hQ _ _   _ rfl  e'14.2.2.2)))))))))) (fun g'12 => W.seq (W.reg0 rfl fun _ _ => s_bin rfl rfl (abin_eql _ _ _) (s_mvB rfl (s_nil (c_split rfl (fun g'15 => W.seq (W.seq (W.reg0 rfl fun _ _ => s_fadP H1 (s_loadP rfl B0 rfl rfl (s_nil (c_bool rfl (fun g'16 => W.seq (W.reg0 rfl fun _ _ => s_mvS rfl (s_nil (W.ret (hQ _ _   _ rfl  (((((((h.2 g'1).2 g'3).2 g'6).2 g'9).2 g'12).1 g'15).1 g'16)))))) (fun g'16 => W.skip (W.seq (W.reg0 rfl fun _ _ => s_fadP H1 (s_loadP rfl B0 rfl rfl ((((((((h.2 g'1).2 g'3).2 g'6).2 g'9).2 g'12).1 g'15).2 g'16).elim fun r'17 e'18 => s_call (sc rfl rfl sn) e'18.1 (s_bin rfl rfl (abin_cat' e'18.2.1) (s_bin rfl rfl (abin_cat' e'18.2.2.1) (s_mvS rfl (s_nil (W.ret (hQ _ _   _ rfl  e'18.2.2.2))))))))))))))))) (fun g'15 => W.skip (W.seq (W.seq (W.reg0 rfl fun _ _ => s_fadP H1 (s_loadP rfl B0 rfl rfl (s_nil (c_bool rfl (fun g'19 => W.seq (W.reg0 rfl fun _ _ => s_mvS rfl (s_nil (W.ret (hQ _ _   _ rfl  (((((((h.2 g'1).2 g'3).2 g'6).2 g'9).2 g'12).2 g'15).1 g'19)))))) (fun g'19 => W.skip (W.seq (W.seq (W.reg0 rfl fun _ _ => s_fadP H1 (s_loadP rfl B0 rfl rfl (s_lenL rfl (s_bin rfl rfl (abin_eql _ _ _) (s_nil (c_split rfl (fun g'20 => W.seq (W.reg0 rfl fun _ _ => s_mvS rfl (s_nil (W.ret (hQ _ _   _ rfl  ((((((((h.2 g'1).2 g'3).2 g'6).2 g'9).2 g'12).2 g'15).2 g'19).1 g'20)))))) (fun g'20 => W.skip (W.seq (W.reg0 rfl fun _ _ => s_fadP H1 (s_loadP rfl B0 rfl rfl (((((((((h.2 g'1).2 g'3).2 g'6).2 g'9).2 g'12).2 g'15).2 g'19).2 g'20).elim fun c'21 e'22 => s_iaL rfl rfl (by decide) e'22.1 (Val.row_eq c'21) rfl (s_loadF rfl rfl rfl (e'22.2.elim fun r'23 e'24 => s_call (sc rfl rfl sn) e'24.1 (s_bin rfl rfl (abin_cat' e'24.2.1) (s_mvS rfl (s_nil (W.ret (hQ _ _   _ rfl  e'24.2.2)))))))))))))))))))))))))))))))))))))))))))))))))))))))))))))))
def T106_0 (prog : Prog) (K : List UInt8 → Prop) (v0 : Val) : Prop :=
  T106_1 prog K v0
theorem w106_0 {prog : Prog} {d : Nat} {Q : AE → Sl → St → Prop} {K : List UInt8 → Prop} (hQ : ∀ (σ : Sl) (st : St) (x0 : List UInt8), σ 2 = .s x0 → K x0 → Q .ret σ st) {v0 : Val}   {σ : Sl} {st : St} (H0 : σ 0 = .ag [.i .u8 v0.kind, .i .i64 v0.int, .s v0.text, .sl .ext (List.map Val.row v0.list), .b v0.cut]) (h : T106_0 prog K v0) : W prog d (.seq (.reg 0 r106_0) c106_0) σ st Q :=
  W.seq (W.reg0 rfl fun _ _ => s_box H0 rfl (s_mvS rfl (s_nil (w106_1  hQ  rfl lk_here h))))
theorem p106 {prog : Prog} (hf : prog.fn 106 = some pf106) {v0 : Val} {K : List UInt8 → Prop} (h : T106_0 prog K v0) : ∃ x0 : List UInt8, K x0 ∧ Pus prog 106 [.ag [.i .u8 v0.kind, .i .i64 v0.int, .s v0.text, .sl .ext (List.map Val.row v0.list), .b v0.cut]] (.s x0) := by
  obtain ⟨v, hv, x0, hk, rfl⟩ := Pus.of (K := fun v => ∃ x0 : List UInt8, K x0 ∧ v = .s x0) hf rfl (w106_0 (σ := sl0 [.ag [.i .u8 v0.kind, .i .i64 v0.int, .s v0.text, .sl .ext (List.map Val.row v0.list), .b v0.cut]]) (fun σ st   x0 H2 hk => ⟨.s x0, by simp only [pf106, ares, aresL, H2, ares1, Option.map_some], _, rfl, x0, hk, rfl⟩) rfl h)
  exact ⟨x0, hk, hv⟩

/-! wreckage/lines.count -/
def r109_0 : List AI := [⟨(some 2), .box 5 (.t 0), none⟩,
  ⟨(some 4), .mv (.c (.i .i64 0)), none⟩,
  ⟨(some 5), .mv (.c (.b false)), none⟩]
def r109_1 : List AI := [⟨(some 15), .fad 0 (.t 2), none⟩,
  ⟨(some 16), .load 1 false (.t 15), none⟩,
  ⟨(some 17), .build [.i .u8 0, .i .i64 0, .s [], .sl .full [], .b false] [(0, 1, (.t 16))], none⟩,
  ⟨(some 6), .alloc [.i .u8 0, .i .i64 0, .s [], .sl .full [], .b false], none⟩,
  ⟨none, .store 5 (.t 6) (.t 17), none⟩,
  ⟨(some 7), .mv (.c (.i .i64 0)), none⟩,
  ⟨(some 8), .mv (.c (.i .i64 0)), none⟩]
def r109_2 : List AI := [⟨(some 18), .fad 0 (.t 2), none⟩,
  ⟨(some 19), .load 1 false (.t 18), none⟩]
def r109_3 : List AI := [⟨(some 21), .bin .eql (.t 19) (.c (.i .u8 1)), none⟩,
  ⟨(some 20), .mv (.t 21), none⟩]
def r109_4 : List AI := [⟨(some 22), .fad 1 (.t 2), none⟩,
  ⟨(some 23), .load 1 false (.t 22), none⟩,
  ⟨(some 24), .bin .and (.t 23) (.c (.i .i64 1)), none⟩,
  ⟨(some 25), .fad 1 (.t 6), none⟩,
  ⟨none, .store 1 (.t 25) (.t 24), none⟩]
def r109_5 : List AI := [⟨(some 27), .bin .eql (.t 19) (.c (.i .u8 2)), none⟩,
  ⟨(some 26), .mv (.t 27), none⟩]
def r109_6 : List AI := [⟨(some 28), .fad 1 (.t 2), none⟩,
  ⟨(some 29), .load 1 false (.t 28), none⟩,
  ⟨(some 30), .fad 1 (.t 6), none⟩,
  ⟨none, .store 1 (.t 30) (.t 29), none⟩]
def r109_7 : List AI := [⟨(some 32), .bin .eql (.t 19) (.c (.i .u8 3)), none⟩,
  ⟨(some 31), .mv (.t 32), none⟩]
def r109_8 : List AI := [⟨(some 33), .fad 2 (.t 2), none⟩,
  ⟨(some 34), .load 1 false (.t 33), none⟩,
  ⟨(some 35), .fad 2 (.t 6), none⟩,
  ⟨none, .store 1 (.t 35) (.t 34), none⟩]
def r109_9 : List AI := [⟨(some 37), .bin .eql (.t 19) (.c (.i .u8 4)), none⟩,
  ⟨(some 36), .mv (.t 37), none⟩]
def r109_10 : List AI := [⟨(some 38), .fad 4 (.t 2), none⟩,
  ⟨(some 39), .load 1 false (.t 38), none⟩,
  ⟨(some 40), .fad 4 (.t 6), none⟩,
  ⟨none, .store 1 (.t 40) (.t 39), none⟩,
  ⟨(some 7), .mv (.c (.i .i64 1)), none⟩]
def r109_11 : List AI := [⟨(some 42), .bin .eql (.t 19) (.c (.i .u8 5)), none⟩,
  ⟨(some 41), .mv (.t 42), none⟩]
def r109_12 : List AI := [⟨(some 7), .mv (.c (.i .i64 8)), none⟩]
def r109_13 : List AI := [⟨(some 44), .bin .eql (.t 19) (.c (.i .u8 6)), none⟩,
  ⟨(some 43), .mv (.t 44), none⟩]
def r109_14 : List AI := [⟨(some 7), .mv (.c (.i .i64 16)), none⟩,
  ⟨(some 8), .mv (.c (.i .i64 1)), none⟩]
def r109_15 : List AI := [⟨(some 46), .bin .eql (.t 19) (.c (.i .u8 7)), none⟩,
  ⟨(some 45), .mv (.t 46), none⟩]
def r109_16 : List AI := [⟨(some 47), .fad 4 (.t 2), none⟩,
  ⟨(some 48), .load 1 false (.t 47), none⟩,
  ⟨(some 49), .fad 4 (.t 6), none⟩,
  ⟨none, .store 1 (.t 49) (.t 48), none⟩,
  ⟨(some 7), .mv (.c (.i .i64 16)), none⟩]
def r109_17 : List AI := [⟨(some 4), .mv (.c (.i .i64 0)), none⟩,
  ⟨(some 5), .mv (.c (.b false)), none⟩]
def r109_18 : List AI := [⟨(some 50), .fad 3 (.t 2), none⟩,
  ⟨(some 51), .load 1 false (.t 50), none⟩,
  ⟨(some 52), .len false (.t 51), none⟩,
  ⟨(some 9), .mv (.t 52), none⟩]
def r109_19 : List AI := [⟨(some 53), .mv (.t 1), none⟩,
  ⟨(some 54), .bin .eql (.t 53) (.c (.i .i64 0)), none⟩,
  ⟨(some 55), .mv (.t 54), none⟩,
  ⟨(some 56), .fad 1 (.t 6), (some (55, false))⟩,
  ⟨(some 57), .load 1 false (.t 56), (some (55, false))⟩,
  ⟨(some 58), .fad 1 (.t 2), (some (55, false))⟩,
  ⟨(some 59), .load 1 false (.t 58), (some (55, false))⟩,
  ⟨(some 60), .bin .neq (.t 57) (.t 59), (some (55, false))⟩,
  ⟨(some 61), .pick (.t 55) (.c (.b true)) (.t 60), none⟩,
  ⟨(some 62), .mv (.t 61), none⟩,
  ⟨(some 63), .fad 2 (.t 6), (some (62, false))⟩,
  ⟨(some 64), .load 1 false (.t 63), (some (62, false))⟩,
  ⟨(some 65), .fad 2 (.t 2), (some (62, false))⟩,
  ⟨(some 66), .load 1 false (.t 65), (some (62, false))⟩,
  ⟨(some 67), .bin .neq (.t 64) (.t 66), (some (62, false))⟩,
  ⟨(some 68), .pick (.t 62) (.c (.b true)) (.t 67), none⟩,
  ⟨(some 69), .mv (.t 68), none⟩,
  ⟨(some 70), .fad 2 (.t 2), (some (69, false))⟩,
  ⟨(some 71), .load 1 false (.t 70), (some (69, false))⟩,
  ⟨(some 72), .len true (.t 71), (some (69, false))⟩,
  ⟨(some 73), .bin .gtr (.t 72) (.c (.i .i64 64)), (some (69, false))⟩,
  ⟨(some 74), .pick (.t 69) (.c (.b true)) (.t 73), none⟩,
  ⟨(some 75), .mv (.t 74), none⟩,
  ⟨(some 76), .fad 4 (.t 6), (some (75, false))⟩,
  ⟨(some 77), .load 1 false (.t 76), (some (75, false))⟩,
  ⟨(some 78), .fad 4 (.t 2), (some (75, false))⟩,
  ⟨(some 79), .load 1 false (.t 78), (some (75, false))⟩,
  ⟨(some 80), .beq true (.t 77) (.t 79), (some (75, false))⟩,
  ⟨(some 81), .pick (.t 75) (.c (.b true)) (.t 80), none⟩,
  ⟨(some 82), .mv (.t 81), none⟩,
  ⟨(some 83), .fad 4 (.t 2), (some (82, false))⟩,
  ⟨(some 84), .load 1 false (.t 83), (some (82, false))⟩,
  ⟨(some 85), .mv (.t 84), (some (82, false))⟩,
  ⟨(some 86), .mv (.t 9), (some (85, true))⟩,
  ⟨(some 87), .bin .gtr (.t 86) (.c (.i .i64 0)), (some (85, true))⟩,
  ⟨(some 88), .pick (.t 85) (.t 87) (.c (.b false)), (some (82, false))⟩,
  ⟨(some 89), .pick (.t 82) (.c (.b true)) (.t 88), none⟩,
  ⟨(some 90), .mv (.t 89), none⟩,
  ⟨(some 91), .mv (.t 9), (some (90, false))⟩,
  ⟨(some 92), .mv (.t 7), (some (90, false))⟩,
  ⟨(some 93), .bin .gtr (.t 91) (.t 92), (some (90, false))⟩,
  ⟨(some 94), .pick (.t 90) (.c (.b true)) (.t 93), none⟩,
  ⟨(some 95), .mv (.t 94), none⟩,
  ⟨(some 96), .mv (.t 9), (some (95, false))⟩,
  ⟨(some 97), .mv (.t 8), (some (95, false))⟩,
  ⟨(some 98), .bin .lss (.t 96) (.t 97), (some (95, false))⟩,
  ⟨(some 99), .pick (.t 95) (.c (.b true)) (.t 98), none⟩]
def r109_20 : List AI := [⟨(some 4), .mv (.c (.i .i64 0)), none⟩,
  ⟨(some 5), .mv (.c (.b false)), none⟩]
def r109_21 : List AI := [⟨(some 10), .mv (.c (.i .i64 1)), none⟩]
def r109_22 : List AI := [⟨(some 100), .fad 3 (.t 2), none⟩,
  ⟨(some 101), .load 1 false (.t 100), none⟩,
  ⟨(some 102), .len false (.t 101), none⟩,
  ⟨(some 103), .mv (.c (.i .i64 0)), none⟩]
def r109_23 : List AI := [⟨(some 104), .bin .lss (.t 103) (.t 102), none⟩]
def r109_24 : List AI := [⟨(some 105), .iaL 5 (.t 101) (.t 103), none⟩,
  ⟨(some 106), .load 5 true (.t 105), none⟩,
  ⟨(some 12), .alloc [.i .u8 0, .i .i64 0, .s [], .sl .full [], .b false], none⟩,
  ⟨none, .store 5 (.t 12) (.t 106), none⟩]
def r109_25 : List AI := [⟨(some 108), .load 5 true (.t 12), none⟩,
  ⟨(some 109), .mv (.t 1), none⟩,
  ⟨(some 110), .bin .sub (.t 109) (.c (.i .i64 1)), none⟩,
  ⟨(some 111), .call false 109 [(.t 108), (.t 110)], none⟩,
  ⟨(some 107), .mv (.t 111), none⟩,
  ⟨(some 112), .ext 0 (.t 107), none⟩,
  ⟨(some 113), .ext 1 (.t 107), none⟩,
  ⟨(some 13), .mv (.t 112), none⟩,
  ⟨(some 14), .mv (.t 113), none⟩]
def r109_26 : List AI := [⟨(some 114), .mv (.t 10), none⟩,
  ⟨(some 115), .mv (.t 13), none⟩,
  ⟨(some 116), .bin .add (.t 114) (.t 115), none⟩,
  ⟨(some 10), .mv (.t 116), none⟩]
def r109_27 : List AI := [⟨(some 117), .mv (.t 14), none⟩,
  ⟨(some 118), .un .not (.t 117), none⟩,
  ⟨(some 119), .mv (.t 118), none⟩,
  ⟨(some 120), .mv (.t 10), (some (119, false))⟩,
  ⟨(some 121), .bin .gtr (.t 120) (.c (.i .i64 5000)), (some (119, false))⟩,
  ⟨(some 122), .pick (.t 119) (.c (.b true)) (.t 121), none⟩]
def r109_28 : List AI := [⟨(some 4), .mv (.c (.i .i64 0)), none⟩,
  ⟨(some 5), .mv (.c (.b false)), none⟩]
def r109_29 : List AI := [⟨(some 123), .bin .add (.t 103) (.c (.i .i64 1)), none⟩,
  ⟨(some 103), .mv (.t 123), none⟩]
def r109_30 : List AI := [⟨(some 124), .mv (.t 10), none⟩,
  ⟨(some 4), .mv (.t 124), none⟩,
  ⟨(some 5), .mv (.c (.b true)), none⟩]
abbrev l109_0 : AC := (.seq (.reg 23 r109_23) (.seq (.cond (.t 104) .skip (.exit 1)) (.seq (.block 2 (.seq (.reg 24 r109_24) (.seq (.reg 25 r109_25) (.seq (.reg 26 r109_26) (.seq (.reg 27 r109_27) (.cond (.t 122) (.seq (.reg 28 r109_28) .ret) .skip)))))) (.reg 29 r109_29))))
abbrev c109_1 : AC := (.seq (.reg 30 r109_30) .ret)
abbrev c109_2 : AC := (.seq (.seq (.reg 19 r109_19) (.cond (.t 99) (.seq (.reg 20 r109_20) .ret) .skip)) (.seq (.reg 21 r109_21) (.seq (.seq (.reg 22 r109_22) (.block 1 (.loop l109_0))) c109_1)))
abbrev c109_3 : AC := (.seq (.reg 18 r109_18) c109_2)
abbrev c109_4 : AC := (.seq (.seq (.reg 2 r109_2) (.block 0 (.seq (.reg 4 r109_3) (.cond (.t 20) (.reg 5 r109_4) (.seq (.reg 6 r109_5) (.cond (.t 26) (.reg 7 r109_6) (.seq (.reg 8 r109_7) (.cond (.t 31) (.reg 9 r109_8) (.seq (.reg 10 r109_9) (.cond (.t 36) (.reg 11 r109_10) (.seq (.reg 12 r109_11) (.cond (.t 41) (.reg 13 r109_12) (.seq (.reg 14 r109_13) (.cond (.t 43) (.reg 15 r109_14) (.seq (.reg 16 r109_15) (.cond (.t 45) (.reg 17 r109_16) (.seq (.reg 3 r109_17) .ret))))))))))))))))) c109_3)
abbrev c109_5 : AC := (.seq (.reg 1 r109_1) c109_4)
abbrev b109 : AC := (.seq (.reg 0 r109_0) c109_5)
def pf109 : AF := { nt := 125, res := [.tmp 4, .tmp 5], body := b109 }
abbrev I109_0 (prog : Prog) (d : Nat) (Q : AE → Sl → St → Prop) (nest1 : Int) (t101 : List Val) (t102 : Int) (sum10 : Int) (t103 : Int) : Prop :=
  ∀ (σ : Sl) (st : St) (o_t101 : Own), σ 1 = .i .i64 nest1 → σ 10 = .i .i64 sum10 → σ 101 = .sl o_t101 (List.map Val.row t101) → σ 102 = .i .i64 t102 → σ 103 = .i .i64 t103 → W prog d (.loop l109_0) σ st (blockW 1 (thenW prog d c109_1 Q))
def T109_6 (prog : Prog) (K : Int → Bool → Prop) (sum10 : Int) : Prop :=
  K sum10 true
theorem w109_6 {prog : Prog} {d : Nat} {Q : AE → Sl → St → Prop} {K : Int → Bool → Prop} (hQ : ∀ (σ : Sl) (st : St) (x0 : Int) (x1 : Bool), σ 4 = .i .i64 x0 → σ 5 = .b x1 → K x0 x1 → Q .ret σ st) {sum10 : Int}   {σ : Sl} {st : St} (H10 : σ 10 = .i .i64 sum10) (h : T109_6 prog K sum10) : W prog d c109_1 σ st Q :=
  W.seq (W.reg0 rfl fun _ _ => s_mvI H10 (s_mvI rfl (s_mvB rfl (s_nil (W.ret (hQ _ _   _ _ rfl rfl  h))))))
def T109_5 (prog : Prog) (K : Int → Bool → Prop) (P0 : Int → Int → Prop) (nest1 : Int) (sum10 : Int) (t101 : List Val) (t102 : Int) (t103 : Int) : Prop :=
  (t103 < t102 → 0 ≤ t103 ∧ ∃ c'2 : Val, t101[(t103).toNat]? = some c'2 ∧ ∃ r'4 : Int, ∃ r'5 : Bool, Pus prog 109 [.ag [.i .u8 c'2.kind, .i .i64 c'2.int, .s c'2.text, .sl .ext (List.map Val.row c'2.list), .b c'2.cut], .i .i64 (IntKind.i64.wrap (nest1 - 1))] (.tup [.i .i64 r'4, .b r'5]) ∧ ((!r'5) = true → K 0 false) ∧ ((!r'5) = false → ((IntKind.i64.wrap (sum10 + r'4)) > 5000 → K 0 false) ∧ (¬((IntKind.i64.wrap (sum10 + r'4)) > 5000) → P0 (IntKind.i64.wrap (sum10 + r'4)) (IntKind.i64.wrap (t103 + 1))))) ∧ (¬(t103 < t102) → T109_6 prog K sum10)
theorem w109_5 {prog : Prog} {d : Nat} {Q : AE → Sl → St → Prop} {K : Int → Bool → Prop} (hQ : ∀ (σ : Sl) (st : St) (x0 : Int) (x1 : Bool), σ 4 = .i .i64 x0 → σ 5 = .b x1 → K x0 x1 → Q .ret σ st) {nest1 : Int} {sum10 : Int} {t101 : List Val} {t102 : Int} {t103 : Int} {P0 : Int → Int → Prop} (kP0 : ∀ (sum10 : Int) (t103 : Int), P0 sum10 t103 → I109_0 prog d Q nest1 t101 t102 sum10 t103) {σ : Sl} {st : St} {o_t101 : Own} (H1 : σ 1 = .i .i64 nest1) (H10 : σ 10 = .i .i64 sum10) (H101 : σ 101 = .sl o_t101 (List.map Val.row t101)) (H102 : σ 102 = .i .i64 t102) (H103 : σ 103 = .i .i64 t103) (h : T109_5 prog K P0 nest1 sum10 t101 t102 t103) : W prog d l109_0 σ st (thenW prog d (.loop l109_0) (blockW 1 (thenW prog d c109_1 Q))) :=
  W.seq (W.reg0 rfl fun _ _ => s_bin H103 H102 (abin_lss _ _ _) (s_nil (W.seq (c_split rfl (fun g'1 => W.skip (W.seq (W.block (W.seq (W.reg ((h.1 g'1).2.elim fun c'2 e'3 => s_iaL H101 H103 (h.1 g'1).1 e'3.1 (Val.row_eq c'2) rfl (s_loadF rfl rfl rfl (s_alloc (s_storeP rfl (show lk _ (d, 98306) = some (_, ([.i .u8 0, .i .i64 0, .s [], .sl .full (List.map Val.row ([] : List Val)), .b false] : List AV)) from lk_here) rfl rfl rfl (s_nil (W.seq (W.reg0 rfl fun _ _ => s_loadP rfl lk_here rfl rfl (s_mvI H1 (s_bin rfl rfl (abin_sub _ _ _) (e'3.2.elim fun r'4 e'9 => e'9.elim fun r'5 e'6 => s_call (sc rfl rfl (sc rfl rfl sn)) e'6.1 (s_mvT rfl (s_ext rfl rfl (s_ext rfl rfl (s_mvI rfl (s_mvB rfl (s_nil (W.seq (W.reg0 rfl fun _ _ => s_mvI H10 (s_mvI rfl (s_bin rfl rfl (abin_add _ _ _) (s_mvI rfl (s_nil (W.seq (W.reg0 rfl fun _ _ => s_mvB rfl (s_not rfl (s_mvB rfl (s_emb (g := 119) rfl (fun g'7 => s_gn (b := true) rfl rfl (s_gn (b := true) rfl rfl (s_pickTB rfl rfl (s_nil (c_tt rfl (W.seq (W.reg0 rfl fun _ _ => s_mvI rfl (s_mvB rfl (s_nil (W.ret (hQ _ _   _ _ rfl rfl  (e'6.2.1 g'7)))))))))))) (fun g'7 => s_gy rfl (s_mvI rfl (s_gy rfl (s_bin rfl rfl (abin_gtr _ _ _) (s_pickFB rfl rfl (s_nil (c_split rfl (fun g'8 => W.seq (W.reg0 rfl fun _ _ => s_mvI rfl (s_mvB rfl (s_nil (W.ret (hQ _ _   _ _ rfl rfl  ((e'6.2.2 g'7).1 g'8))))))) (fun g'8 => W.skip (W.reg0 rfl fun _ _ => s_bin H103 rfl (abin_add _ _ _) (s_mvI rfl (s_nil (kP0 _ _ ((e'6.2.2 g'7).2 g'8) _ _ _ H1 rfl H101 H102 rfl)))))))))))))))))))))))))))))))))))))))))))) (fun g'1 => W.exit (w109_6  hQ  H10 (h.2 g'1)))))))
def T109_4 (prog : Prog) (K : Int → Bool → Prop) (nest1 : Int) (most7 : Int) (least8 : Int) (n9 : Int) (m0 : Val) (m4099 : Val) : Prop :=
  (nest1 = 0 → K 0 false) ∧ (¬(nest1 = 0) → (m4099.int ≠ m0.int → K 0 false) ∧ (¬(m4099.int ≠ m0.int) → (m4099.text ≠ m0.text → K 0 false) ∧ (¬(m4099.text ≠ m0.text) → ((m0.text.length : Int) > 64 → K 0 false) ∧ (¬((m0.text.length : Int) > 64) → (m4099.cut ≠ m0.cut → K 0 false) ∧ (¬(m4099.cut ≠ m0.cut) → (m0.cut = true → (n9 > 0 → K 0 false) ∧ (¬(n9 > 0) → (n9 > most7 → K 0 false) ∧ (¬(n9 > most7) → (n9 < least8 → K 0 false) ∧ (¬(n9 < least8) → ∀ P0 : Int → Int → Prop, (∀ (sum10 : Int) (t103 : Int), T109_5 prog K P0 nest1 sum10 m0.list (m0.list.length : Int) t103 → P0 sum10 t103) → P0 1 0)))) ∧ (m0.cut = false → (n9 > most7 → K 0 false) ∧ (¬(n9 > most7) → (n9 < least8 → K 0 false) ∧ (¬(n9 < least8) → ∀ P0 : Int → Int → Prop, (∀ (sum10 : Int) (t103 : Int), T109_5 prog K P0 nest1 sum10 m0.list (m0.list.length : Int) t103 → P0 sum10 t103) → P0 1 0))))))))
theorem w109_4 {prog : Prog} {d : Nat} {Q : AE → Sl → St → Prop} {K : Int → Bool → Prop} (hQ : ∀ (σ : Sl) (st : St) (x0 : Int) (x1 : Bool), σ 4 = .i .i64 x0 → σ 5 = .b x1 → K x0 x1 → Q .ret σ st) {nest1 : Int} {most7 : Int} {least8 : Int} {n9 : Int} {m0 : Val} {m4099 : Val}   {σ : Sl} {st : St} {o_m4099_3 : Own} {v0 : Nat} {v4099 : Nat} (H1 : σ 1 = .i .i64 nest1) (H2 : σ 2 = .p (d, 0) v0 0) (H6 : σ 6 = .p (d, 4099) v4099 0) (H7 : σ 7 = .i .i64 most7) (H8 : σ 8 = .i .i64 least8) (H9 : σ 9 = .i .i64 n9) (Ab4099 : ApM d st.ow o_m4099_3 m4099.list.length) (B0 : lk st.bx (d, 0) = some (v0, [.i .u8 m0.kind, .i .i64 m0.int, .s m0.text, .sl .ext (List.map Val.row m0.list), .b m0.cut])) (B4099 : lk st.bx (d, 4099) = some (v4099, [.i .u8 m4099.kind, .i .i64 m4099.int, .s m4099.text, .sl o_m4099_3 (List.map Val.row m4099.list), .b m4099.cut])) (h : T109_4 prog K nest1 most7 least8 n9 m0 m4099) : W prog d c109_2 σ st Q :=
  W.seq (W.seq (W.reg0 rfl fun _ _ => s_mvI H1 (s_bin rfl rfl (abin_eql _ _ _) (s_mvB rfl (s_em (g := 55) rfl (fun g'1 => s_gn (b := true) rfl rfl (s_gn (b := true) rfl rfl (s_gn (b := true) rfl rfl (s_gn (b := true) rfl rfl (s_gn (b := true) rfl rfl (s_pickTB rfl rfl (s_mvB rfl (s_gn (b := true) rfl rfl (s_gn (b := true) rfl rfl (s_gn (b := true) rfl rfl (s_gn (b := true) rfl rfl (s_gn (b := true) rfl rfl (s_pickTB rfl rfl (s_mvB rfl (s_gn (b := true) rfl rfl (s_gn (b := true) rfl rfl (s_gn (b := true) rfl rfl (s_gn (b := true) rfl rfl (s_pickTB rfl rfl (s_mvB rfl (s_gn (b := true) rfl rfl (s_gn (b := true) rfl rfl (s_gn (b := true) rfl rfl (s_gn (b := true) rfl rfl (s_gn (b := true) rfl rfl (s_pickTB rfl rfl (s_mvB rfl (s_gn (b := true) rfl rfl (s_gn (b := true) rfl rfl (s_gn (b := true) rfl rfl (s_gt rfl (s_gt rfl (s_gn (b := true) rfl rfl (s_pickTB rfl rfl (s_mvB rfl (s_gn (b := true) rfl rfl (s_gn (b := true) rfl rfl (s_gn (b := true) rfl rfl (s_pickTB rfl rfl (s_mvB rfl (s_gn (b := true) rfl rfl (s_gn (b := true) rfl rfl (s_gn (b := true) rfl rfl (s_pickTB rfl rfl (s_nil (c_tt rfl (W.seq (W.reg0 rfl fun _ _ => s_mvI rfl (s_mvB rfl (s_nil (W.ret (hQ _ _   _ _ rfl rfl  (h.1 g'1))))))))))))))))))))))))))))))))))))))))))))))))))))) (fun g'1 => s_gy rfl (s_fadP H6 (s_gy rfl (s_loadP rfl B4099 rfl rfl (s_gy rfl (s_fadP H2 (s_gy rfl (s_loadP rfl B0 rfl rfl (s_gy rfl (s_bin rfl rfl (abin_neq _ _ _) (s_pickFB rfl rfl (s_mvB rfl (s_em (g := 62) rfl (fun g'2 => s_gn (b := true) rfl rfl (s_gn (b := true) rfl rfl (s_gn (b := true) rfl rfl (s_gn (b := true) rfl rfl (s_gn (b := true) rfl rfl (s_pickTB rfl rfl (s_mvB rfl (s_gn (b := true) rfl rfl (s_gn (b := true) rfl rfl (s_gn (b := true) rfl rfl (s_gn (b := true) rfl rfl (s_pickTB rfl rfl (s_mvB rfl (s_gn (b := true) rfl rfl (s_gn (b := true) rfl rfl (s_gn (b := true) rfl rfl (s_gn (b := true) rfl rfl (s_gn (b := true) rfl rfl (s_pickTB rfl rfl (s_mvB rfl (s_gn (b := true) rfl rfl (s_gn (b := true) rfl rfl (s_gn (b := true) rfl rfl (s_gt rfl (s_gt rfl (s_gn (b := true) rfl rfl (s_pickTB rfl rfl (s_mvB rfl (s_gn (b := true) rfl rfl (s_gn (b := true) rfl rfl (s_gn (b := true) rfl rfl (s_pickTB rfl rfl (s_mvB rfl (s_gn (b := true) rfl rfl (s_gn (b := true) rfl rfl (s_gn (b := true) rfl rfl (s_pickTB rfl rfl (s_nil (c_tt rfl (W.seq (W.reg0 rfl fun _ _ => s_mvI rfl (s_mvB rfl (s_nil (W.ret (hQ _ _   _ _ rfl rfl  ((h.2 g'1).1 g'2)))))))))))))))))))))))))))))))))))))))))))))) (fun g'2 => s_gy rfl (s_fadP H6 (s_gy rfl (s_loadP rfl B4099 rfl rfl (s_gy rfl (s_fadP H2 (s_gy rfl (s_loadP rfl B0 rfl rfl (s_gy rfl (s_bin rfl rfl (abin_sne _ _) (s_pickFB rfl rfl (s_mvB rfl (s_em (g := 69) rfl (fun g'3 => s_gn (b := true) rfl rfl (s_gn (b := true) rfl rfl (s_gn (b := true) rfl rfl (s_gn (b := true) rfl rfl (s_pickTB rfl rfl (s_mvB rfl (s_gn (b := true) rfl rfl (s_gn (b := true) rfl rfl (s_gn (b := true) rfl rfl (s_gn (b := true) rfl rfl (s_gn (b := true) rfl rfl (s_pickTB rfl rfl (s_mvB rfl (s_gn (b := true) rfl rfl (s_gn (b := true) rfl rfl (s_gn (b := true) rfl rfl (s_gt rfl (s_gt rfl (s_gn (b := true) rfl rfl (s_pickTB rfl rfl (s_mvB rfl (s_gn (b := true) rfl rfl (s_gn (b := true) rfl rfl (s_gn (b := true) rfl rfl (s_pickTB rfl rfl (s_mvB rfl (s_gn (b := true) rfl rfl (s_gn (b := true) rfl rfl (s_gn (b := true) rfl rfl (s_pickTB rfl rfl (s_nil (c_tt rfl (W.seq (W.reg0 rfl fun _ _ => s_mvI rfl (s_mvB rfl (s_nil (W.ret (hQ _ _   _ _ rfl rfl  (((h.2 g'1).2 g'2).1 g'3))))))))))))))))))))))))))))))))))))))) (fun g'3 => s_gy rfl (s_fadP H2 (s_gy rfl (s_loadP rfl B0 rfl rfl (s_gy rfl (s_lenS rfl (s_gy rfl (s_bin rfl rfl (abin_gtr _ _ _) (s_pickFB rfl rfl (s_mvB rfl (s_em (g := 75) rfl (fun g'4 => s_gn (b := true) rfl rfl (s_gn (b := true) rfl rfl (s_gn (b := true) rfl rfl (s_gn (b := true) rfl rfl (s_gn (b := true) rfl rfl (s_pickTB rfl rfl (s_mvB rfl (s_gn (b := true) rfl rfl (s_gn (b := true) rfl rfl (s_gn (b := true) rfl rfl (s_gt rfl (s_gt rfl (s_gn (b := true) rfl rfl (s_pickTB rfl rfl (s_mvB rfl (s_gn (b := true) rfl rfl (s_gn (b := true) rfl rfl (s_gn (b := true) rfl rfl (s_pickTB rfl rfl (s_mvB rfl (s_gn (b := true) rfl rfl (s_gn (b := true) rfl rfl (s_gn (b := true) rfl rfl (s_pickTB rfl rfl (s_nil (c_tt rfl (W.seq (W.reg0 rfl fun _ _ => s_mvI rfl (s_mvB rfl (s_nil (W.ret (hQ _ _   _ _ rfl rfl  ((((h.2 g'1).2 g'2).2 g'3).1 g'4))))))))))))))))))))))))))))))))) (fun g'4 => s_gy rfl (s_fadP H6 (s_gy rfl (s_loadP rfl B4099 rfl rfl (s_gy rfl (s_fadP H2 (s_gy rfl (s_loadP rfl B0 rfl rfl (s_gy rfl (s_bne rfl rfl (s_pickFB rfl rfl (s_mvB rfl (s_em (g := 82) rfl (fun g'5 => s_gn (b := true) rfl rfl (s_gn (b := true) rfl rfl (s_gn (b := true) rfl rfl (s_gt rfl (s_gt rfl (s_gn (b := true) rfl rfl (s_pickTB rfl rfl (s_mvB rfl (s_gn (b := true) rfl rfl (s_gn (b := true) rfl rfl (s_gn (b := true) rfl rfl (s_pickTB rfl rfl (s_mvB rfl (s_gn (b := true) rfl rfl (s_gn (b := true) rfl rfl (s_gn (b := true) rfl rfl (s_pickTB rfl rfl (s_nil (c_tt rfl (W.seq (W.reg0 rfl fun _ _ => s_mvI rfl (s_mvB rfl (s_nil (W.ret (hQ _ _   _ _ rfl rfl  (((((h.2 g'1).2 g'2).2 g'3).2 g'4).1 g'5)))))))))))))))))))))))))) (fun g'5 => s_gy rfl (s_fadP H2 (s_gy rfl (s_loadP rfl B0 rfl rfl (s_gy rfl (s_mvB rfl (s_emb (g := 85) rfl (fun g'6 => s_gy rfl (s_mvI H9 (s_gy rfl (s_bin rfl rfl (abin_gtr _ _ _) (s_gy rfl (s_pickTB rfl rfl (s_pickFB rfl rfl (s_mvB rfl (s_em (g := 90) rfl (fun g'7 => s_gn (b := true) rfl rfl (s_gn (b := true) rfl rfl (s_gn (b := true) rfl rfl (s_pickTB rfl rfl (s_mvB rfl (s_gn (b := true) rfl rfl (s_gn (b := true) rfl rfl (s_gn (b := true) rfl rfl (s_pickTB rfl rfl (s_nil (c_tt rfl (W.seq (W.reg0 rfl fun _ _ => s_mvI rfl (s_mvB rfl (s_nil (W.ret (hQ _ _   _ _ rfl rfl  (((((((h.2 g'1).2 g'2).2 g'3).2 g'4).2 g'5).1 g'6).1 g'7)))))))))))))))))) (fun g'7 => s_gy rfl (s_mvI H9 (s_gy rfl (s_mvI H7 (s_gy rfl (s_bin rfl rfl (abin_gtr _ _ _) (s_pickFB rfl rfl (s_mvB rfl (s_em (g := 95) rfl (fun g'8 => s_gn (b := true) rfl rfl (s_gn (b := true) rfl rfl (s_gn (b := true) rfl rfl (s_pickTB rfl rfl (s_nil (c_tt rfl (W.seq (W.reg0 rfl fun _ _ => s_mvI rfl (s_mvB rfl (s_nil (W.ret (hQ _ _   _ _ rfl rfl  ((((((((h.2 g'1).2 g'2).2 g'3).2 g'4).2 g'5).1 g'6).2 g'7).1 g'8))))))))))))) (fun g'8 => s_gy rfl (s_mvI H9 (s_gy rfl (s_mvI H8 (s_gy rfl (s_bin rfl rfl (abin_lss _ _ _) (s_pickFB rfl rfl (s_nil (c_split rfl (fun g'9 => W.seq (W.reg0 rfl fun _ _ => s_mvI rfl (s_mvB rfl (s_nil (W.ret (hQ _ _   _ _ rfl rfl  (((((((((h.2 g'1).2 g'2).2 g'3).2 g'4).2 g'5).1 g'6).2 g'7).2 g'8).1 g'9))))))) (fun g'9 => W.skip (W.seq (W.reg0 rfl fun _ _ => s_mvI rfl (s_nil (W.seq (W.seq (W.reg0 rfl fun _ _ => s_fadP H2 (s_loadP rfl B0 rfl rfl (s_lenL rfl (s_mvI rfl (s_nil (W.block ((((((((((h.2 g'1).2 g'2).2 g'3).2 g'4).2 g'5).1 g'6).2 g'7).2 g'8).2 g'9) (I109_0 prog d Q nest1 m0.list (m0.list.length : Int)) (fun _ _ hb _ _ _ H1 H10 H101 H102 H103 => W.loop (w109_5 hQ (fun _ _ x => x) H1 H10 H101 H102 H103 hb)) _ _ _ H1 rfl rfl rfl rfl)))))))))))))))))))))))))))))))))))))))) (fun g'6 => s_gn (b := false) rfl rfl (s_gn (b := false) rfl rfl (s_gy rfl (s_pickFB rfl rfl (s_pickFB rfl rfl (s_mvB rfl (s_gy rfl (s_mvI H9 (s_gy rfl (s_mvI H7 (s_gy rfl (s_bin rfl rfl (abin_gtr _ _ _) (s_pickFB rfl rfl (s_mvB rfl (s_em (g := 95) rfl (fun g'10 => s_gn (b := true) rfl rfl (s_gn (b := true) rfl rfl (s_gn (b := true) rfl rfl (s_pickTB rfl rfl (s_nil (c_tt rfl (W.seq (W.reg0 rfl fun _ _ => s_mvI rfl (s_mvB rfl (s_nil (W.ret (hQ _ _   _ _ rfl rfl  (((((((h.2 g'1).2 g'2).2 g'3).2 g'4).2 g'5).2 g'6).1 g'10))))))))))))) (fun g'10 => s_gy rfl (s_mvI H9 (s_gy rfl (s_mvI H8 (s_gy rfl (s_bin rfl rfl (abin_lss _ _ _) (s_pickFB rfl rfl (s_nil (c_split rfl (fun g'11 => W.seq (W.reg0 rfl fun _ _ => s_mvI rfl (s_mvB rfl (s_nil (W.ret (hQ _ _   _ _ rfl rfl  ((((((((h.2 g'1).2 g'2).2 g'3).2 g'4).2 g'5).2 g'6).2 g'10).1 g'11))))))) (fun g'11 => W.skip (W.seq (W.reg0 rfl fun _ _ => s_mvI rfl (s_nil (W.seq (W.seq (W.reg0 rfl fun _ _ => s_fadP H2 (s_loadP rfl B0 rfl rfl (s_lenL rfl (s_mvI rfl (s_nil (W.block (((((((((h.2 g'1).2 g'2).2 g'3).2 g'4).2 g'5).2 g'6).2 g'10).2 g'11) (I109_0 prog d Q nest1 m0.list (m0.list.length : Int)) (fun _ _ hb _ _ _ H1 H10 H101 H102 H103 => W.loop (w109_5 hQ (fun _ _ x => x) H1 H10 H101 H102 H103 hb)) _ _ _ H1 rfl rfl rfl rfl)))))))))))))))))))))))))))))))))))))))))))))))))))))))))))))))))))))))))))))))))))))))))))))))))))
def T109_3 (prog : Prog) (K : Int → Bool → Prop) (nest1 : Int) (most7 : Int) (least8 : Int) (m0 : Val) (m4099 : Val) : Prop :=
  T109_4 prog K nest1 most7 least8 (m0.list.length : Int) m0 m4099
theorem w109_3 {prog : Prog} {d : Nat} {Q : AE → Sl → St → Prop} {K : Int → Bool → Prop} (hQ : ∀ (σ : Sl) (st : St) (x0 : Int) (x1 : Bool), σ 4 = .i .i64 x0 → σ 5 = .b x1 → K x0 x1 → Q .ret σ st) {nest1 : Int} {most7 : Int} {least8 : Int} {m0 : Val} {m4099 : Val}   {σ : Sl} {st : St} {o_m4099_3 : Own} {v0 : Nat} {v4099 : Nat} (H1 : σ 1 = .i .i64 nest1) (H2 : σ 2 = .p (d, 0) v0 0) (H6 : σ 6 = .p (d, 4099) v4099 0) (H7 : σ 7 = .i .i64 most7) (H8 : σ 8 = .i .i64 least8) (Ab4099 : ApM d st.ow o_m4099_3 m4099.list.length) (B0 : lk st.bx (d, 0) = some (v0, [.i .u8 m0.kind, .i .i64 m0.int, .s m0.text, .sl .ext (List.map Val.row m0.list), .b m0.cut])) (B4099 : lk st.bx (d, 4099) = some (v4099, [.i .u8 m4099.kind, .i .i64 m4099.int, .s m4099.text, .sl o_m4099_3 (List.map Val.row m4099.list), .b m4099.cut])) (h : T109_3 prog K nest1 most7 least8 m0 m4099) : W prog d c109_3 σ st Q :=
  W.seq (W.reg0 rfl fun _ _ => s_fadP H2 (s_loadP rfl B0 rfl rfl (s_lenL rfl (s_mvI rfl (s_nil (w109_4 (nest1 := nest1) (most7 := most7) (least8 := least8) (n9 := (m0.list.length : Int)) (m0 := m0) (m4099 := m4099) hQ  H1 H2 H6 H7 H8 rfl Ab4099 B0 B4099 h))))))
def T109_2 (prog : Prog) (K : Int → Bool → Prop) (nest1 : Int) (most7 : Int) (least8 : Int) (m0 : Val) (m4099 : Val) : Prop :=
  (m0.kind = 1 → T109_3 prog K nest1 most7 least8 m0 (Val.mk m4099.kind (bAnd .i64 m0.int 1) m4099.text m4099.list m4099.cut)) ∧ (¬(m0.kind = 1) → (m0.kind = 2 → T109_3 prog K nest1 most7 least8 m0 (Val.mk m4099.kind m0.int m4099.text m4099.list m4099.cut)) ∧ (¬(m0.kind = 2) → (m0.kind = 3 → T109_3 prog K nest1 most7 least8 m0 (Val.mk m4099.kind m4099.int m0.text m4099.list m4099.cut)) ∧ (¬(m0.kind = 3) → (m0.kind = 4 → T109_3 prog K nest1 1 least8 m0 (Val.mk m4099.kind m4099.int m4099.text m4099.list m0.cut)) ∧ (¬(m0.kind = 4) → (m0.kind = 5 → T109_3 prog K nest1 8 least8 m0 m4099) ∧ (¬(m0.kind = 5) → (m0.kind = 6 → T109_3 prog K nest1 16 1 m0 m4099) ∧ (¬(m0.kind = 6) → (m0.kind = 7 → T109_3 prog K nest1 16 least8 m0 (Val.mk m4099.kind m4099.int m4099.text m4099.list m0.cut)) ∧ (¬(m0.kind = 7) → K 0 false)))))))
theorem w109_2 {prog : Prog} {d : Nat} {Q : AE → Sl → St → Prop} {K : Int → Bool → Prop} (hQ : ∀ (σ : Sl) (st : St) (x0 : Int) (x1 : Bool), σ 4 = .i .i64 x0 → σ 5 = .b x1 → K x0 x1 → Q .ret σ st) {nest1 : Int} {most7 : Int} {least8 : Int} {m0 : Val} {m4099 : Val}   {σ : Sl} {st : St} {o_m4099_3 : Own} {v0 : Nat} {v4099 : Nat} (H1 : σ 1 = .i .i64 nest1) (H2 : σ 2 = .p (d, 0) v0 0) (H6 : σ 6 = .p (d, 4099) v4099 0) (H7 : σ 7 = .i .i64 most7) (H8 : σ 8 = .i .i64 least8) (Ab4099 : ApM d st.ow o_m4099_3 m4099.list.length) (B0 : lk st.bx (d, 0) = some (v0, [.i .u8 m0.kind, .i .i64 m0.int, .s m0.text, .sl .ext (List.map Val.row m0.list), .b m0.cut])) (B4099 : lk st.bx (d, 4099) = some (v4099, [.i .u8 m4099.kind, .i .i64 m4099.int, .s m4099.text, .sl o_m4099_3 (List.map Val.row m4099.list), .b m4099.cut])) (h : T109_2 prog K nest1 most7 least8 m0 m4099) : W prog d c109_4 σ st Q :=
  W.seq (W.seq (W.reg0 rfl fun _ _ => s_fadP H2 (s_loadP rfl B0 rfl rfl (s_nil (W.block (W.seq (W.reg0 rfl fun _ _ => s_bin rfl rfl (abin_eql _ _ _) (s_mvB rfl (s_nil (c_split rfl (fun g'1 => W.reg0 rfl fun _ _ => s_fadP H2 (s_loadP rfl B0 rfl rfl (s_bin rfl rfl (abin_and _ _ _) (s_fadP H6 (s_storeP rfl B4099 rfl rfl rfl (s_nil (w109_3 (nest1 := nest1) (most7 := most7) (least8 := least8) (m0 := m0) (m4099 := (Val.mk m4099.kind (bAnd .i64 m0.int 1) m4099.text m4099.list m4099.cut)) hQ  H1 H2 H6 H7 H8 Ab4099 (lk_other rfl B0) lk_here (h.1 g'1)))))))) (fun g'1 => W.seq (W.reg0 rfl fun _ _ => s_bin rfl rfl (abin_eql _ _ _) (s_mvB rfl (s_nil (c_split rfl (fun g'2 => W.reg0 rfl fun _ _ => s_fadP H2 (s_loadP rfl B0 rfl rfl (s_fadP H6 (s_storeP rfl B4099 rfl rfl rfl (s_nil (w109_3 (nest1 := nest1) (most7 := most7) (least8 := least8) (m0 := m0) (m4099 := (Val.mk m4099.kind m0.int m4099.text m4099.list m4099.cut)) hQ  H1 H2 H6 H7 H8 Ab4099 (lk_other rfl B0) lk_here ((h.2 g'1).1 g'2))))))) (fun g'2 => W.seq (W.reg0 rfl fun _ _ => s_bin rfl rfl (abin_eql _ _ _) (s_mvB rfl (s_nil (c_split rfl (fun g'3 => W.reg0 rfl fun _ _ => s_fadP H2 (s_loadP rfl B0 rfl rfl (s_fadP H6 (s_storeP rfl B4099 rfl rfl rfl (s_nil (w109_3 (nest1 := nest1) (most7 := most7) (least8 := least8) (m0 := m0) (m4099 := (Val.mk m4099.kind m4099.int m0.text m4099.list m4099.cut)) hQ  H1 H2 H6 H7 H8 Ab4099 (lk_other rfl B0) lk_here (((h.2 g'1).2 g'2).1 g'3))))))) (fun g'3 => W.seq (W.reg0 rfl fun _ _ => s_bin rfl rfl (abin_eql _ _ _) (s_mvB rfl (s_nil (c_split rfl (fun g'4 => W.reg0 rfl fun _ _ => s_fadP H2 (s_loadP rfl B0 rfl rfl (s_fadP H6 (s_storeP rfl B4099 rfl rfl rfl (s_mvI rfl (s_nil (w109_3 (nest1 := nest1) (most7 := 1) (least8 := least8) (m0 := m0) (m4099 := (Val.mk m4099.kind m4099.int m4099.text m4099.list m0.cut)) hQ  H1 H2 H6 rfl H8 Ab4099 (lk_other rfl B0) lk_here ((((h.2 g'1).2 g'2).2 g'3).1 g'4)))))))) (fun g'4 => W.seq (W.reg0 rfl fun _ _ => s_bin rfl rfl (abin_eql _ _ _) (s_mvB rfl (s_nil (c_split rfl (fun g'5 => W.reg0 rfl fun _ _ => s_mvI rfl (s_nil (w109_3 (nest1 := nest1) (most7 := 8) (least8 := least8) (m0 := m0) (m4099 := m4099) hQ  H1 H2 H6 rfl H8 Ab4099 B0 B4099 (((((h.2 g'1).2 g'2).2 g'3).2 g'4).1 g'5)))) (fun g'5 => W.seq (W.reg0 rfl fun _ _ => s_bin rfl rfl (abin_eql _ _ _) (s_mvB rfl (s_nil (c_split rfl (fun g'6 => W.reg0 rfl fun _ _ => s_mvI rfl (s_mvI rfl (s_nil (w109_3 (nest1 := nest1) (most7 := 16) (least8 := 1) (m0 := m0) (m4099 := m4099) hQ  H1 H2 H6 rfl rfl Ab4099 B0 B4099 ((((((h.2 g'1).2 g'2).2 g'3).2 g'4).2 g'5).1 g'6))))) (fun g'6 => W.seq (W.reg0 rfl fun _ _ => s_bin rfl rfl (abin_eql _ _ _) (s_mvB rfl (s_nil (c_split rfl (fun g'7 => W.reg0 rfl fun _ _ => s_fadP H2 (s_loadP rfl B0 rfl rfl (s_fadP H6 (s_storeP rfl B4099 rfl rfl rfl (s_mvI rfl (s_nil (w109_3 (nest1 := nest1) (most7 := 16) (least8 := least8) (m0 := m0) (m4099 := (Val.mk m4099.kind m4099.int m4099.text m4099.list m0.cut)) hQ  H1 H2 H6 rfl H8 Ab4099 (lk_other rfl B0) lk_here (((((((h.2 g'1).2 g'2).2 g'3).2 g'4).2 g'5).2 g'6).1 g'7)))))))) (fun g'7 => W.seq (W.reg0 rfl fun _ _ => s_mvI rfl (s_mvB rfl (s_nil (W.ret (hQ _ _   _ _ rfl rfl  (((((((h.2 g'1).2 g'2).2 g'3).2 g'4).2 g'5).2 g'6).2 g'7)))))))))))))))))))))))))))))))))))))))))))))))
def T109_1 (prog : Prog) (K : Int → Bool → Prop) (nest1 : Int) (m0 : Val) : Prop :=
  T109_2 prog K nest1 0 0 m0 (Val.mk m0.kind 0 [] ([] : List Val) false)
theorem w109_1 {prog : Prog} {d : Nat} {Q : AE → Sl → St → Prop} {K : Int → Bool → Prop} (hQ : ∀ (σ : Sl) (st : St) (x0 : Int) (x1 : Bool), σ 4 = .i .i64 x0 → σ 5 = .b x1 → K x0 x1 → Q .ret σ st) {nest1 : Int} {m0 : Val}   {σ : Sl} {st : St} {v0 : Nat} (H1 : σ 1 = .i .i64 nest1) (H2 : σ 2 = .p (d, 0) v0 0) (B0 : lk st.bx (d, 0) = some (v0, [.i .u8 m0.kind, .i .i64 m0.int, .s m0.text, .sl .ext (List.map Val.row m0.list), .b m0.cut])) (h : T109_1 prog K nest1 m0) : W prog d c109_5 σ st Q :=
  W.seq (W.reg (s_fadP H2 (s_loadP rfl (lk_other rfl B0) rfl rfl (s_build (f_cons rfl rfl f_nil) (s_alloc (s_storeP rfl (show lk _ (d, 4099) = some (_, ([.i .u8 0, .i .i64 0, .s [], .sl .full (List.map Val.row ([] : List Val)), .b false] : List AV)) from lk_here) rfl rfl rfl (s_mvI rfl (s_mvI rfl (s_nil (w109_2 (nest1 := nest1) (most7 := 0) (least8 := 0) (m0 := m0) (m4099 := (Val.mk m0.kind 0 [] ([] : List Val) false)) hQ  H1 H2 rfl rfl rfl ApM.full (lk_other rfl (lk_other rfl B0)) lk_here h))))))))))
def T109_0 (prog : Prog) (K : Int → Bool → Prop) (v0 : Val) (nest1 : Int) : Prop :=
  T109_1 prog K nest1 v0
theorem w109_0 {prog : Prog} {d : Nat} {Q : AE → Sl → St → Prop} {K : Int → Bool → Prop} (hQ : ∀ (σ : Sl) (st : St) (x0 : Int) (x1 : Bool), σ 4 = .i .i64 x0 → σ 5 = .b x1 → K x0 x1 → Q .ret σ st) {v0 : Val} {nest1 : Int}   {σ : Sl} {st : St} (H0 : σ 0 = .ag [.i .u8 v0.kind, .i .i64 v0.int, .s v0.text, .sl .ext (List.map Val.row v0.list), .b v0.cut]) (H1 : σ 1 = .i .i64 nest1) (h : T109_0 prog K v0 nest1) : W prog d (.seq (.reg 0 r109_0) c109_5) σ st Q :=
  W.seq (W.reg0 rfl fun _ _ => s_box H0 rfl (s_mvI rfl (s_mvB rfl (s_nil (w109_1  hQ  H1 rfl lk_here h)))))
theorem p109 {prog : Prog} (hf : prog.fn 109 = some pf109) {v0 : Val} {nest1 : Int} {K : Int → Bool → Prop} (h : T109_0 prog K v0 nest1) : ∃ x0 : Int, ∃ x1 : Bool, K x0 x1 ∧ Pus prog 109 [.ag [.i .u8 v0.kind, .i .i64 v0.int, .s v0.text, .sl .ext (List.map Val.row v0.list), .b v0.cut], .i .i64 nest1] (.tup [.i .i64 x0, .b x1]) := by
  obtain ⟨v, hv, x0, x1, hk, rfl⟩ := Pus.of (K := fun v => ∃ x0 : Int, ∃ x1 : Bool, K x0 x1 ∧ v = .tup [.i .i64 x0, .b x1]) hf rfl (w109_0 (σ := sl0 [.ag [.i .u8 v0.kind, .i .i64 v0.int, .s v0.text, .sl .ext (List.map Val.row v0.list), .b v0.cut], .i .i64 nest1]) (fun σ st   x0 x1 H4 H5 hk => ⟨.tup [.i .i64 x0, .b x1], by simp only [pf109, ares, aresL, H4, H5, ares1, Option.map_some], _, rfl, x0, x1, hk, rfl⟩) rfl rfl h)
  exact ⟨x0, x1, hk, hv⟩

/-! wreckage/wreckageref38.valid -/
def r110_0 : List AI := [⟨(some 2), .box 5 (.t 0), none⟩,
  ⟨(some 4), .mv (.c (.b false)), none⟩]
def r110_1 : List AI := [⟨(some 7), .mv (.t 1), none⟩,
  ⟨(some 8), .bin .eql (.t 7) (.c (.i .i64 0)), none⟩]
def r110_2 : List AI := [⟨(some 4), .mv (.c (.b false)), none⟩]
def r110_3 : List AI := [⟨(some 9), .fad 0 (.t 2), none⟩,
  ⟨(some 10), .load 1 false (.t 9), none⟩]
def r110_4 : List AI := [⟨(some 12), .bin .eql (.t 10) (.c (.i .u8 1)), none⟩,
  ⟨(some 11), .mv (.t 12), none⟩]
def r110_5 : List AI := [⟨(some 13), .load 5 true (.t 2), none⟩,
  ⟨(some 14), .call false 136 [(.t 13)], none⟩,
  ⟨(some 15), .mv (.t 14), none⟩,
  ⟨(some 16), .fad 2 (.t 2), (some (15, true))⟩,
  ⟨(some 17), .load 1 false (.t 16), (some (15, true))⟩,
  ⟨(some 18), .bin .eql (.t 17) (.c (.s [])), (some (15, true))⟩,
  ⟨(some 19), .pick (.t 15) (.t 18) (.c (.b false)), none⟩,
  ⟨(some 20), .mv (.t 19), none⟩,
  ⟨(some 21), .fad 1 (.t 2), (some (20, true))⟩,
  ⟨(some 22), .load 1 false (.t 21), (some (20, true))⟩,
  ⟨(some 23), .bin .eql (.t 22) (.c (.i .i64 0)), (some (20, true))⟩,
  ⟨(some 24), .mv (.t 23), (some (20, true))⟩,
  ⟨(some 25), .fad 1 (.t 2), (some (24, false))⟩,
  ⟨(some 26), .load 1 false (.t 25), (some (24, false))⟩,
  ⟨(some 27), .bin .eql (.t 26) (.c (.i .i64 1)), (some (24, false))⟩,
  ⟨(some 28), .pick (.t 24) (.c (.b true)) (.t 27), (some (20, true))⟩,
  ⟨(some 29), .pick (.t 20) (.t 28) (.c (.b false)), none⟩,
  ⟨(some 4), .mv (.t 29), none⟩]
def r110_6 : List AI := [⟨(some 31), .bin .eql (.t 10) (.c (.i .u8 2)), none⟩,
  ⟨(some 30), .mv (.t 31), none⟩]
def r110_7 : List AI := [⟨(some 32), .load 5 true (.t 2), none⟩,
  ⟨(some 33), .call false 136 [(.t 32)], none⟩,
  ⟨(some 34), .mv (.t 33), none⟩,
  ⟨(some 35), .fad 2 (.t 2), (some (34, true))⟩,
  ⟨(some 36), .load 1 false (.t 35), (some (34, true))⟩,
  ⟨(some 37), .bin .eql (.t 36) (.c (.s [])), (some (34, true))⟩,
  ⟨(some 38), .pick (.t 34) (.t 37) (.c (.b false)), none⟩,
  ⟨(some 4), .mv (.t 38), none⟩]
def r110_8 : List AI := [⟨(some 40), .bin .eql (.t 10) (.c (.i .u8 3)), none⟩,
  ⟨(some 39), .mv (.t 40), none⟩]
def r110_9 : List AI := [⟨(some 41), .load 5 true (.t 2), none⟩,
  ⟨(some 42), .call false 136 [(.t 41)], none⟩,
  ⟨(some 43), .mv (.t 42), none⟩,
  ⟨(some 44), .fad 1 (.t 2), (some (43, true))⟩,
  ⟨(some 45), .load 1 false (.t 44), (some (43, true))⟩,
  ⟨(some 46), .bin .eql (.t 45) (.c (.i .i64 0)), (some (43, true))⟩,
  ⟨(some 47), .pick (.t 43) (.t 46) (.c (.b false)), none⟩,
  ⟨(some 48), .mv (.t 47), none⟩,
  ⟨(some 49), .fad 2 (.t 2), (some (48, true))⟩,
  ⟨(some 50), .load 1 false (.t 49), (some (48, true))⟩,
  ⟨(some 51), .len true (.t 50), (some (48, true))⟩,
  ⟨(some 52), .bin .leq (.t 51) (.c (.i .i64 64)), (some (48, true))⟩,
  ⟨(some 53), .pick (.t 48) (.t 52) (.c (.b false)), none⟩,
  ⟨(some 4), .mv (.t 53), none⟩]
def r110_10 : List AI := [⟨(some 54), .fad 0 (.t 2), none⟩,
  ⟨(some 55), .load 1 false (.t 54), none⟩,
  ⟨(some 56), .bin .lss (.t 55) (.c (.i .u8 4)), none⟩,
  ⟨(some 57), .mv (.t 56), none⟩,
  ⟨(some 58), .fad 0 (.t 2), (some (57, false))⟩,
  ⟨(some 59), .load 1 false (.t 58), (some (57, false))⟩,
  ⟨(some 60), .bin .gtr (.t 59) (.c (.i .u8 7)), (some (57, false))⟩,
  ⟨(some 61), .pick (.t 57) (.c (.b true)) (.t 60), none⟩,
  ⟨(some 62), .mv (.t 61), none⟩,
  ⟨(some 63), .fad 1 (.t 2), (some (62, false))⟩,
  ⟨(some 64), .load 1 false (.t 63), (some (62, false))⟩,
  ⟨(some 65), .bin .neq (.t 64) (.c (.i .i64 0)), (some (62, false))⟩,
  ⟨(some 66), .pick (.t 62) (.c (.b true)) (.t 65), none⟩,
  ⟨(some 67), .mv (.t 66), none⟩,
  ⟨(some 68), .fad 2 (.t 2), (some (67, false))⟩,
  ⟨(some 69), .load 1 false (.t 68), (some (67, false))⟩,
  ⟨(some 70), .bin .neq (.t 69) (.c (.s [])), (some (67, false))⟩,
  ⟨(some 71), .pick (.t 67) (.c (.b true)) (.t 70), none⟩]
def r110_11 : List AI := [⟨(some 4), .mv (.c (.b false)), none⟩]
def r110_12 : List AI := [⟨(some 5), .mv (.c (.i .i64 16)), none⟩]
def r110_13 : List AI := [⟨(some 72), .fad 0 (.t 2), none⟩,
  ⟨(some 73), .load 1 false (.t 72), none⟩,
  ⟨(some 74), .bin .eql (.t 73) (.c (.i .u8 4)), none⟩]
def r110_14 : List AI := [⟨(some 5), .mv (.c (.i .i64 1)), none⟩]
def r110_15 : List AI := [⟨(some 75), .fad 0 (.t 2), none⟩,
  ⟨(some 76), .load 1 false (.t 75), none⟩,
  ⟨(some 77), .bin .eql (.t 76) (.c (.i .u8 5)), none⟩]
def r110_16 : List AI := [⟨(some 5), .mv (.c (.i .i64 8)), none⟩]
def r110_17 : List AI := [⟨(some 78), .fad 3 (.t 2), none⟩,
  ⟨(some 79), .load 1 false (.t 78), none⟩,
  ⟨(some 80), .len false (.t 79), none⟩,
  ⟨(some 81), .mv (.t 5), none⟩,
  ⟨(some 82), .bin .gtr (.t 80) (.t 81), none⟩,
  ⟨(some 83), .mv (.t 82), none⟩,
  ⟨(some 84), .fad 0 (.t 2), (some (83, false))⟩,
  ⟨(some 85), .load 1 false (.t 84), (some (83, false))⟩,
  ⟨(some 86), .bin .eql (.t 85) (.c (.i .u8 6)), (some (83, false))⟩,
  ⟨(some 87), .mv (.t 86), (some (83, false))⟩,
  ⟨(some 88), .fad 3 (.t 2), (some (87, true))⟩,
  ⟨(some 89), .load 1 false (.t 88), (some (87, true))⟩,
  ⟨(some 90), .len false (.t 89), (some (87, true))⟩,
  ⟨(some 91), .bin .eql (.t 90) (.c (.i .i64 0)), (some (87, true))⟩,
  ⟨(some 92), .pick (.t 87) (.t 91) (.c (.b false)), (some (83, false))⟩,
  ⟨(some 93), .pick (.t 83) (.c (.b true)) (.t 92), none⟩]
def r110_18 : List AI := [⟨(some 4), .mv (.c (.b false)), none⟩]
def r110_19 : List AI := [⟨(some 94), .fad 4 (.t 2), none⟩,
  ⟨(some 95), .load 1 false (.t 94), none⟩,
  ⟨(some 96), .mv (.t 95), none⟩,
  ⟨(some 97), .fad 3 (.t 2), (some (96, true))⟩,
  ⟨(some 98), .load 1 false (.t 97), (some (96, true))⟩,
  ⟨(some 99), .len false (.t 98), (some (96, true))⟩,
  ⟨(some 100), .bin .gtr (.t 99) (.c (.i .i64 0)), (some (96, true))⟩,
  ⟨(some 101), .mv (.t 100), (some (96, true))⟩,
  ⟨(some 102), .fad 0 (.t 2), (some (101, false))⟩,
  ⟨(some 103), .load 1 false (.t 102), (some (101, false))⟩,
  ⟨(some 104), .bin .neq (.t 103) (.c (.i .u8 4)), (some (101, false))⟩,
  ⟨(some 105), .mv (.t 104), (some (101, false))⟩,
  ⟨(some 106), .fad 0 (.t 2), (some (105, true))⟩,
  ⟨(some 107), .load 1 false (.t 106), (some (105, true))⟩,
  ⟨(some 108), .bin .neq (.t 107) (.c (.i .u8 7)), (some (105, true))⟩,
  ⟨(some 109), .pick (.t 105) (.t 108) (.c (.b false)), (some (101, false))⟩,
  ⟨(some 110), .pick (.t 101) (.c (.b true)) (.t 109), (some (96, true))⟩,
  ⟨(some 111), .pick (.t 96) (.t 110) (.c (.b false)), none⟩]
def r110_20 : List AI := [⟨(some 4), .mv (.c (.b false)), none⟩]
def r110_21 : List AI := [⟨(some 6), .mv (.c (.i .i64 0)), none⟩]
def r110_22 : List AI := [⟨(some 112), .mv (.t 6), none⟩,
  ⟨(some 113), .fad 3 (.t 2), none⟩,
  ⟨(some 114), .load 1 false (.t 113), none⟩,
  ⟨(some 115), .len false (.t 114), none⟩,
  ⟨(some 116), .bin .lss (.t 112) (.t 115), none⟩]
def r110_23 : List AI := [⟨(some 119), .fad 3 (.t 2), none⟩,
  ⟨(some 120), .load 1 false (.t 119), none⟩,
  ⟨(some 121), .mv (.t 6), none⟩,
  ⟨(some 122), .iaL 5 (.t 120) (.t 121), none⟩,
  ⟨(some 123), .load 5 true (.t 122), none⟩,
  ⟨(some 124), .mv (.t 1), none⟩,
  ⟨(some 125), .bin .sub (.t 124) (.c (.i .i64 1)), none⟩,
  ⟨(some 126), .call false 110 [(.t 123), (.t 125)], none⟩,
  ⟨(some 127), .un .not (.t 126), none⟩]
def r110_24 : List AI := [⟨(some 4), .mv (.c (.b false)), none⟩]
def r110_25 : List AI := [⟨(some 117), .mv (.t 6), none⟩,
  ⟨(some 118), .bin .add (.t 117) (.c (.i .i64 1)), none⟩,
  ⟨(some 6), .mv (.t 118), none⟩]
def r110_26 : List AI := [⟨(some 4), .mv (.c (.b true)), none⟩]
abbrev l110_0 : AC := (.seq (.seq (.reg 22 r110_22) (.cond (.t 116) .skip (.exit 1))) (.seq (.block 2 (.seq (.reg 24 r110_23) (.cond (.t 127) (.seq (.reg 25 r110_24) .ret) .skip))) (.reg 23 r110_25)))
abbrev c110_1 : AC := (.seq (.reg 26 r110_26) .ret)
abbrev c110_2 : AC := (.seq (.seq (.reg 17 r110_17) (.cond (.t 93) (.seq (.reg 18 r110_18) .ret) .skip)) (.seq (.seq (.reg 19 r110_19) (.cond (.t 111) (.seq (.reg 20 r110_20) .ret) .skip)) (.seq (.seq (.reg 21 r110_21) (.block 1 (.loop l110_0))) c110_1)))
abbrev c110_3 : AC := (.seq (.seq (.reg 15 r110_15) (.cond (.t 77) (.reg 16 r110_16) .skip)) c110_2)
abbrev c110_4 : AC := (.seq (.seq (.reg 13 r110_13) (.cond (.t 74) (.reg 14 r110_14) .skip)) c110_3)
abbrev c110_5 : AC := (.seq (.reg 12 r110_12) c110_4)
abbrev c110_6 : AC := (.seq (.seq (.reg 10 r110_10) (.cond (.t 71) (.seq (.reg 11 r110_11) .ret) .skip)) c110_5)
abbrev c110_7 : AC := (.seq (.seq (.reg 3 r110_3) (.block 0 (.seq (.reg 4 r110_4) (.cond (.t 11) (.seq (.reg 5 r110_5) .ret) (.seq (.reg 6 r110_6) (.cond (.t 30) (.seq (.reg 7 r110_7) .ret) (.seq (.reg 8 r110_8) (.cond (.t 39) (.seq (.reg 9 r110_9) .ret) .skip)))))))) c110_6)
abbrev c110_8 : AC := (.seq (.seq (.reg 1 r110_1) (.cond (.t 8) (.seq (.reg 2 r110_2) .ret) .skip)) c110_7)
abbrev b110 : AC := (.seq (.reg 0 r110_0) c110_8)
def pf110 : AF := { nt := 128, res := [.tmp 4], body := b110 }
abbrev I110_0 (prog : Prog) (d : Nat) (Q : AE → Sl → St → Prop) (deep1 : Int) (i6 : Int) (m0 : Val) : Prop :=
  ∀ (σ : Sl) (st : St) (v0 : Nat), σ 1 = .i .i64 deep1 → σ 2 = .p (d, 0) v0 0 → σ 6 = .i .i64 i6 → lk st.bx (d, 0) = some (v0, [.i .u8 m0.kind, .i .i64 m0.int, .s m0.text, .sl .ext (List.map Val.row m0.list), .b m0.cut]) → W prog d (.loop l110_0) σ st (blockW 1 (thenW prog d c110_1 Q))
def T110_9 (prog : Prog) (K : Bool → Prop)  : Prop :=
  K true
theorem w110_9 {prog : Prog} {d : Nat} {Q : AE → Sl → St → Prop} {K : Bool → Prop} (hQ : ∀ (σ : Sl) (st : St) (x0 : Bool), σ 4 = .b x0 → K x0 → Q .ret σ st)    {σ : Sl} {st : St}  (h : T110_9 prog K ) : W prog d c110_1 σ st Q :=
  W.seq (W.reg0 rfl fun _ _ => s_mvB rfl (s_nil (W.ret (hQ _ _   _ rfl  h))))
def T110_8 (prog : Prog) (K : Bool → Prop) (P0 : Int → Val → Prop) (deep1 : Int) (i6 : Int) (m0 : Val) : Prop :=
  (i6 < (m0.list.length : Int) → 0 ≤ i6 ∧ ∃ c'2 : Val, m0.list[(i6).toNat]? = some c'2 ∧ ∃ r'4 : Bool, Pus prog 110 [.ag [.i .u8 c'2.kind, .i .i64 c'2.int, .s c'2.text, .sl .ext (List.map Val.row c'2.list), .b c'2.cut], .i .i64 (IntKind.i64.wrap (deep1 - 1))] (.b r'4) ∧ ((!r'4) = true → K false) ∧ ((!r'4) = false → P0 (IntKind.i64.wrap (i6 + 1)) m0)) ∧ (¬(i6 < (m0.list.length : Int)) → T110_9 prog K )
theorem w110_8 {prog : Prog} {d : Nat} {Q : AE → Sl → St → Prop} {K : Bool → Prop} (hQ : ∀ (σ : Sl) (st : St) (x0 : Bool), σ 4 = .b x0 → K x0 → Q .ret σ st) {deep1 : Int} {i6 : Int} {m0 : Val} {P0 : Int → Val → Prop} (kP0 : ∀ (i6 : Int) (m0 : Val), P0 i6 m0 → I110_0 prog d Q deep1 i6 m0) {σ : Sl} {st : St} {v0 : Nat} (H1 : σ 1 = .i .i64 deep1) (H2 : σ 2 = .p (d, 0) v0 0) (H6 : σ 6 = .i .i64 i6) (B0 : lk st.bx (d, 0) = some (v0, [.i .u8 m0.kind, .i .i64 m0.int, .s m0.text, .sl .ext (List.map Val.row m0.list), .b m0.cut])) (h : T110_8 prog K P0 deep1 i6 m0) : W prog d l110_0 σ st (thenW prog d (.loop l110_0) (blockW 1 (thenW prog d c110_1 Q))) :=
  W.seq (W.seq (W.reg0 rfl fun _ _ => s_mvI H6 (s_fadP H2 (s_loadP rfl B0 rfl rfl (s_lenL rfl (s_bin rfl rfl (abin_lss _ _ _) (s_nil (c_split rfl (fun g'1 => W.skip (W.seq (W.block (W.seq (W.reg0 rfl fun _ _ => s_fadP H2 (s_loadP rfl B0 rfl rfl (s_mvI H6 ((h.1 g'1).2.elim fun c'2 e'3 => s_iaL rfl rfl (h.1 g'1).1 e'3.1 (Val.row_eq c'2) rfl (s_loadF rfl rfl rfl (s_mvI H1 (s_bin rfl rfl (abin_sub _ _ _) (e'3.2.elim fun r'4 e'5 => s_call (sc rfl rfl (sc rfl rfl sn)) e'5.1 (s_not rfl (s_nil (c_bool rfl (fun g'6 => W.seq (W.reg0 rfl fun _ _ => s_mvB rfl (s_nil (W.ret (hQ _ _   _ rfl  (e'5.2.1 g'6)))))) (fun g'6 => W.skip (W.reg0 rfl fun _ _ => s_mvI H6 (s_bin rfl rfl (abin_add _ _ _) (s_mvI rfl (s_nil (kP0 _ _ (e'5.2.2 g'6) _ _ _ H1 H2 rfl B0))))))))))))))))))))) (fun g'1 => W.exit (w110_9  hQ   (h.2 g'1)))))))))))
def T110_7 (prog : Prog) (K : Bool → Prop) (deep1 : Int) (most5 : Int) (m0 : Val) : Prop :=
  ((m0.list.length : Int) > most5 → K false) ∧ (¬((m0.list.length : Int) > most5) → (m0.kind = 6 → ((m0.list.length : Int) = 0 → K false) ∧ (¬((m0.list.length : Int) = 0) → (m0.cut = true → ((m0.list.length : Int) > 0 → K false) ∧ (¬((m0.list.length : Int) > 0) → (m0.kind ≠ 4 → (m0.kind ≠ 7 → K false) ∧ (¬(m0.kind ≠ 7) → ∀ P0 : Int → Val → Prop, (∀ (i6 : Int) (m0 : Val), T110_8 prog K P0 deep1 i6 m0 → P0 i6 m0) → P0 0 m0)) ∧ (¬(m0.kind ≠ 4) → ∀ P0 : Int → Val → Prop, (∀ (i6 : Int) (m0 : Val), T110_8 prog K P0 deep1 i6 m0 → P0 i6 m0) → P0 0 m0))) ∧ (m0.cut = false → ∀ P0 : Int → Val → Prop, (∀ (i6 : Int) (m0 : Val), T110_8 prog K P0 deep1 i6 m0 → P0 i6 m0) → P0 0 m0))) ∧ (¬(m0.kind = 6) → (m0.cut = true → ((m0.list.length : Int) > 0 → K false) ∧ (¬((m0.list.length : Int) > 0) → (m0.kind ≠ 4 → (m0.kind ≠ 7 → K false) ∧ (¬(m0.kind ≠ 7) → ∀ P0 : Int → Val → Prop, (∀ (i6 : Int) (m0 : Val), T110_8 prog K P0 deep1 i6 m0 → P0 i6 m0) → P0 0 m0)) ∧ (¬(m0.kind ≠ 4) → ∀ P0 : Int → Val → Prop, (∀ (i6 : Int) (m0 : Val), T110_8 prog K P0 deep1 i6 m0 → P0 i6 m0) → P0 0 m0))) ∧ (m0.cut = false → ∀ P0 : Int → Val → Prop, (∀ (i6 : Int) (m0 : Val), T110_8 prog K P0 deep1 i6 m0 → P0 i6 m0) → P0 0 m0)))
theorem w110_7 {prog : Prog} {d : Nat} {Q : AE → Sl → St → Prop} {K : Bool → Prop} (hQ : ∀ (σ : Sl) (st : St) (x0 : Bool), σ 4 = .b x0 → K x0 → Q .ret σ st) {deep1 : Int} {most5 : Int} {m0 : Val}   {σ : Sl} {st : St} {v0 : Nat} (H1 : σ 1 = .i .i64 deep1) (H2 : σ 2 = .p (d, 0) v0 0) (H5 : σ 5 = .i .i64 most5) (B0 : lk st.bx (d, 0) = some (v0, [.i .u8 m0.kind, .i .i64 m0.int, .s m0.text, .sl .ext (List.map Val.row m0.list), .b m0.cut])) (h : T110_7 prog K deep1 most5 m0) : W prog d c110_2 σ st Q :=
  W.seq (W.seq (W.reg0 rfl fun _ _ => s_fadP H2 (s_loadP rfl B0 rfl rfl (s_lenL rfl (s_mvI H5 (s_bin rfl rfl (abin_gtr _ _ _) (s_mvB rfl (s_em (g := 83) rfl (fun g'1 => s_gn (b := true) rfl rfl (s_gn (b := true) rfl rfl (s_gn (b := true) rfl rfl (s_gn (b := true) rfl rfl (s_gt rfl (s_gt rfl (s_gt rfl (s_gt rfl (s_gn (b := true) rfl rfl (s_pickTB rfl rfl (s_nil (c_tt rfl (W.seq (W.reg0 rfl fun _ _ => s_mvB rfl (s_nil (W.ret (hQ _ _   _ rfl  (h.1 g'1)))))))))))))))))) (fun g'1 => s_gy rfl (s_fadP H2 (s_gy rfl (s_loadP rfl B0 rfl rfl (s_gy rfl (s_bin rfl rfl (abin_eql _ _ _) (s_gy rfl (s_mvB rfl (s_em (g := 87) rfl (fun g'2 => s_gy rfl (s_fadP H2 (s_gy rfl (s_loadP rfl B0 rfl rfl (s_gy rfl (s_lenL rfl (s_gy rfl (s_bin rfl rfl (abin_eql _ _ _) (s_gy rfl (s_pickTB rfl rfl (s_pickFB rfl rfl (s_nil (c_split rfl (fun g'3 => W.seq (W.reg0 rfl fun _ _ => s_mvB rfl (s_nil (W.ret (hQ _ _   _ rfl  (((h.2 g'1).1 g'2).1 g'3)))))) (fun g'3 => W.skip (W.seq (W.seq (W.reg0 rfl fun _ _ => s_fadP H2 (s_loadP rfl B0 rfl rfl (s_mvB rfl (s_emb (g := 96) rfl (fun g'4 => s_gy rfl (s_fadP H2 (s_gy rfl (s_loadP rfl B0 rfl rfl (s_gy rfl (s_lenL rfl (s_gy rfl (s_bin rfl rfl (abin_gtr _ _ _) (s_gy rfl (s_mvB rfl (s_em (g := 101) rfl (fun g'5 => s_gn (b := true) rfl rfl (s_gn (b := true) rfl rfl (s_gn (b := true) rfl rfl (s_gn (b := true) rfl rfl (s_gt rfl (s_gt rfl (s_gt rfl (s_gn (b := true) rfl rfl (s_gy rfl (s_pickTB rfl rfl (s_pickTB rfl rfl (s_nil (c_tt rfl (W.seq (W.reg0 rfl fun _ _ => s_mvB rfl (s_nil (W.ret (hQ _ _   _ rfl  (((((h.2 g'1).1 g'2).2 g'3).1 g'4).1 g'5))))))))))))))))))) (fun g'5 => s_gy rfl (s_fadP H2 (s_gy rfl (s_loadP rfl B0 rfl rfl (s_gy rfl (s_bin rfl rfl (abin_neq _ _ _) (s_gy rfl (s_mvB rfl (s_em (g := 105) rfl (fun g'6 => s_gy rfl (s_fadP H2 (s_gy rfl (s_loadP rfl B0 rfl rfl (s_gy rfl (s_bin rfl rfl (abin_neq _ _ _) (s_gy rfl (s_pickTB rfl rfl (s_gy rfl (s_pickFB rfl rfl (s_pickTB rfl rfl (s_nil (c_split rfl (fun g'7 => W.seq (W.reg0 rfl fun _ _ => s_mvB rfl (s_nil (W.ret (hQ _ _   _ rfl  (((((((h.2 g'1).1 g'2).2 g'3).1 g'4).2 g'5).1 g'6).1 g'7)))))) (fun g'7 => W.skip (W.seq (W.seq (W.reg0 rfl fun _ _ => s_mvI rfl (s_nil (W.block ((((((((h.2 g'1).1 g'2).2 g'3).1 g'4).2 g'5).1 g'6).2 g'7) (I110_0 prog d Q deep1) (fun _ _ hb _ _ _ H1 H2 H6 B0 => W.loop (w110_8 hQ (fun _ _ x => x) H1 H2 H6 B0 hb)) _ _ _ H1 H2 rfl B0)))))))))))))))))))) (fun g'6 => s_gn (b := false) rfl rfl (s_gn (b := false) rfl rfl (s_gn (b := false) rfl rfl (s_gy rfl (s_pickFB rfl rfl (s_gy rfl (s_pickFB rfl rfl (s_pickTB rfl rfl (s_nil (c_ff rfl (W.skip (W.seq (W.seq (W.reg0 rfl fun _ _ => s_mvI rfl (s_nil (W.block (((((((h.2 g'1).1 g'2).2 g'3).1 g'4).2 g'5).2 g'6) (I110_0 prog d Q deep1) (fun _ _ hb _ _ _ H1 H2 H6 B0 => W.loop (w110_8 hQ (fun _ _ x => x) H1 H2 H6 B0 hb)) _ _ _ H1 H2 rfl B0))))))))))))))))))))))))))))))))))))) (fun g'4 => s_gn (b := false) rfl rfl (s_gn (b := false) rfl rfl (s_gn (b := false) rfl rfl (s_gn (b := false) rfl rfl (s_gn (b := false) rfl rfl (s_gt rfl (s_gt rfl (s_gt rfl (s_gt rfl (s_gt rfl (s_gt rfl (s_gt rfl (s_gt rfl (s_gn (b := false) rfl rfl (s_pickFB rfl rfl (s_nil (c_ff rfl (W.skip (W.seq (W.seq (W.reg0 rfl fun _ _ => s_mvI rfl (s_nil (W.block (((((h.2 g'1).1 g'2).2 g'3).2 g'4) (I110_0 prog d Q deep1) (fun _ _ hb _ _ _ H1 H2 H6 B0 => W.loop (w110_8 hQ (fun _ _ x => x) H1 H2 H6 B0 hb)) _ _ _ H1 H2 rfl B0)))))))))))))))))))))))))))))))))))))))))))) (fun g'2 => s_gn (b := false) rfl rfl (s_gn (b := false) rfl rfl (s_gn (b := false) rfl rfl (s_gn (b := false) rfl rfl (s_gy rfl (s_pickFB rfl rfl (s_pickFB rfl rfl (s_nil (c_ff rfl (W.skip (W.seq (W.seq (W.reg0 rfl fun _ _ => s_fadP H2 (s_loadP rfl B0 rfl rfl (s_mvB rfl (s_emb (g := 96) rfl (fun g'8 => s_gy rfl (s_fadP H2 (s_gy rfl (s_loadP rfl B0 rfl rfl (s_gy rfl (s_lenL rfl (s_gy rfl (s_bin rfl rfl (abin_gtr _ _ _) (s_gy rfl (s_mvB rfl (s_em (g := 101) rfl (fun g'9 => s_gn (b := true) rfl rfl (s_gn (b := true) rfl rfl (s_gn (b := true) rfl rfl (s_gn (b := true) rfl rfl (s_gt rfl (s_gt rfl (s_gt rfl (s_gn (b := true) rfl rfl (s_gy rfl (s_pickTB rfl rfl (s_pickTB rfl rfl (s_nil (c_tt rfl (W.seq (W.reg0 rfl fun _ _ => s_mvB rfl (s_nil (W.ret (hQ _ _   _ rfl  ((((h.2 g'1).2 g'2).1 g'8).1 g'9))))))))))))))))))) (fun g'9 => s_gy rfl (s_fadP H2 (s_gy rfl (s_loadP rfl B0 rfl rfl (s_gy rfl (s_bin rfl rfl (abin_neq _ _ _) (s_gy rfl (s_mvB rfl (s_em (g := 105) rfl (fun g'10 => s_gy rfl (s_fadP H2 (s_gy rfl (s_loadP rfl B0 rfl rfl (s_gy rfl (s_bin rfl rfl (abin_neq _ _ _) (s_gy rfl (s_pickTB rfl rfl (s_gy rfl (s_pickFB rfl rfl (s_pickTB rfl rfl (s_nil (c_split rfl (fun g'11 => W.seq (W.reg0 rfl fun _ _ => s_mvB rfl (s_nil (W.ret (hQ _ _   _ rfl  ((((((h.2 g'1).2 g'2).1 g'8).2 g'9).1 g'10).1 g'11)))))) (fun g'11 => W.skip (W.seq (W.seq (W.reg0 rfl fun _ _ => s_mvI rfl (s_nil (W.block (((((((h.2 g'1).2 g'2).1 g'8).2 g'9).1 g'10).2 g'11) (I110_0 prog d Q deep1) (fun _ _ hb _ _ _ H1 H2 H6 B0 => W.loop (w110_8 hQ (fun _ _ x => x) H1 H2 H6 B0 hb)) _ _ _ H1 H2 rfl B0)))))))))))))))))))) (fun g'10 => s_gn (b := false) rfl rfl (s_gn (b := false) rfl rfl (s_gn (b := false) rfl rfl (s_gy rfl (s_pickFB rfl rfl (s_gy rfl (s_pickFB rfl rfl (s_pickTB rfl rfl (s_nil (c_ff rfl (W.skip (W.seq (W.seq (W.reg0 rfl fun _ _ => s_mvI rfl (s_nil (W.block ((((((h.2 g'1).2 g'2).1 g'8).2 g'9).2 g'10) (I110_0 prog d Q deep1) (fun _ _ hb _ _ _ H1 H2 H6 B0 => W.loop (w110_8 hQ (fun _ _ x => x) H1 H2 H6 B0 hb)) _ _ _ H1 H2 rfl B0))))))))))))))))))))))))))))))))))))) (fun g'8 => s_gn (b := false) rfl rfl (s_gn (b := false) rfl rfl (s_gn (b := false) rfl rfl (s_gn (b := false) rfl rfl (s_gn (b := false) rfl rfl (s_gt rfl (s_gt rfl (s_gt rfl (s_gt rfl (s_gt rfl (s_gt rfl (s_gt rfl (s_gt rfl (s_gn (b := false) rfl rfl (s_pickFB rfl rfl (s_nil (c_ff rfl (W.skip (W.seq (W.seq (W.reg0 rfl fun _ _ => s_mvI rfl (s_nil (W.block ((((h.2 g'1).2 g'2).2 g'8) (I110_0 prog d Q deep1) (fun _ _ hb _ _ _ H1 H2 H6 B0 => W.loop (w110_8 hQ (fun _ _ x => x) H1 H2 H6 B0 hb)) _ _ _ H1 H2 rfl B0)))))))))))))))))))))))))))))))))))))))))))))))))))))))))
def T110_6 (prog : Prog) (K : Bool → Prop) (deep1 : Int) (most5 : Int) (m0 : Val) : Prop :=
  (m0.kind = 5 → T110_7 prog K deep1 8 m0) ∧ (¬(m0.kind = 5) → T110_7 prog K deep1 most5 m0)
theorem w110_6 {prog : Prog} {d : Nat} {Q : AE → Sl → St → Prop} {K : Bool → Prop} (hQ : ∀ (σ : Sl) (st : St) (x0 : Bool), σ 4 = .b x0 → K x0 → Q .ret σ st) {deep1 : Int} {most5 : Int} {m0 : Val}   {σ : Sl} {st : St} {v0 : Nat} (H1 : σ 1 = .i .i64 deep1) (H2 : σ 2 = .p (d, 0) v0 0) (H5 : σ 5 = .i .i64 most5) (B0 : lk st.bx (d, 0) = some (v0, [.i .u8 m0.kind, .i .i64 m0.int, .s m0.text, .sl .ext (List.map Val.row m0.list), .b m0.cut])) (h : T110_6 prog K deep1 most5 m0) : W prog d c110_3 σ st Q :=
  W.seq (W.seq (W.reg0 rfl fun _ _ => s_fadP H2 (s_loadP rfl B0 rfl rfl (s_bin rfl rfl (abin_eql _ _ _) (s_nil (c_split rfl (fun g'1 => W.reg0 rfl fun _ _ => s_mvI rfl (s_nil (w110_7  hQ  H1 H2 rfl B0 (h.1 g'1)))) (fun g'1 => W.skip (w110_7  hQ  H1 H2 H5 B0 (h.2 g'1)))))))))
def T110_5 (prog : Prog) (K : Bool → Prop) (deep1 : Int) (most5 : Int) (m0 : Val) : Prop :=
  (m0.kind = 4 → T110_6 prog K deep1 1 m0) ∧ (¬(m0.kind = 4) → T110_6 prog K deep1 most5 m0)
theorem w110_5 {prog : Prog} {d : Nat} {Q : AE → Sl → St → Prop} {K : Bool → Prop} (hQ : ∀ (σ : Sl) (st : St) (x0 : Bool), σ 4 = .b x0 → K x0 → Q .ret σ st) {deep1 : Int} {most5 : Int} {m0 : Val}   {σ : Sl} {st : St} {v0 : Nat} (H1 : σ 1 = .i .i64 deep1) (H2 : σ 2 = .p (d, 0) v0 0) (H5 : σ 5 = .i .i64 most5) (B0 : lk st.bx (d, 0) = some (v0, [.i .u8 m0.kind, .i .i64 m0.int, .s m0.text, .sl .ext (List.map Val.row m0.list), .b m0.cut])) (h : T110_5 prog K deep1 most5 m0) : W prog d c110_4 σ st Q :=
  W.seq (W.seq (W.reg0 rfl fun _ _ => s_fadP H2 (s_loadP rfl B0 rfl rfl (s_bin rfl rfl (abin_eql _ _ _) (s_nil (c_split rfl (fun g'1 => W.reg0 rfl fun _ _ => s_mvI rfl (s_nil (w110_6  hQ  H1 H2 rfl B0 (h.1 g'1)))) (fun g'1 => W.skip (w110_6  hQ  H1 H2 H5 B0 (h.2 g'1)))))))))
def T110_4 (prog : Prog) (K : Bool → Prop) (deep1 : Int) (m0 : Val) : Prop :=
  T110_5 prog K deep1 16 m0
theorem w110_4 {prog : Prog} {d : Nat} {Q : AE → Sl → St → Prop} {K : Bool → Prop} (hQ : ∀ (σ : Sl) (st : St) (x0 : Bool), σ 4 = .b x0 → K x0 → Q .ret σ st) {deep1 : Int} {m0 : Val}   {σ : Sl} {st : St} {v0 : Nat} (H1 : σ 1 = .i .i64 deep1) (H2 : σ 2 = .p (d, 0) v0 0) (B0 : lk st.bx (d, 0) = some (v0, [.i .u8 m0.kind, .i .i64 m0.int, .s m0.text, .sl .ext (List.map Val.row m0.list), .b m0.cut])) (h : T110_4 prog K deep1 m0) : W prog d c110_5 σ st Q :=
  W.seq (W.reg0 rfl fun _ _ => s_mvI rfl (s_nil (w110_5  hQ  H1 H2 rfl B0 h)))
def T110_3 (prog : Prog) (K : Bool → Prop) (deep1 : Int) (m0 : Val) : Prop :=
  (m0.kind < 4 → K false) ∧ (¬(m0.kind < 4) → (m0.kind > 7 → K false) ∧ (¬(m0.kind > 7) → (m0.int ≠ 0 → K false) ∧ (¬(m0.int ≠ 0) → (m0.text ≠ ([] : List UInt8) → K false) ∧ (¬(m0.text ≠ ([] : List UInt8)) → T110_4 prog K deep1 m0))))
theorem w110_3 {prog : Prog} {d : Nat} {Q : AE → Sl → St → Prop} {K : Bool → Prop} (hQ : ∀ (σ : Sl) (st : St) (x0 : Bool), σ 4 = .b x0 → K x0 → Q .ret σ st) {deep1 : Int} {m0 : Val}   {σ : Sl} {st : St} {v0 : Nat} (H1 : σ 1 = .i .i64 deep1) (H2 : σ 2 = .p (d, 0) v0 0) (B0 : lk st.bx (d, 0) = some (v0, [.i .u8 m0.kind, .i .i64 m0.int, .s m0.text, .sl .ext (List.map Val.row m0.list), .b m0.cut])) (h : T110_3 prog K deep1 m0) : W prog d c110_6 σ st Q :=
  W.seq (W.seq (W.reg0 rfl fun _ _ => s_fadP H2 (s_loadP rfl B0 rfl rfl (s_bin rfl rfl (abin_lss _ _ _) (s_mvB rfl (s_em (g := 57) rfl (fun g'1 => s_gn (b := true) rfl rfl (s_gn (b := true) rfl rfl (s_gn (b := true) rfl rfl (s_pickTB rfl rfl (s_mvB rfl (s_gn (b := true) rfl rfl (s_gn (b := true) rfl rfl (s_gn (b := true) rfl rfl (s_pickTB rfl rfl (s_mvB rfl (s_gn (b := true) rfl rfl (s_gn (b := true) rfl rfl (s_gn (b := true) rfl rfl (s_pickTB rfl rfl (s_nil (c_tt rfl (W.seq (W.reg0 rfl fun _ _ => s_mvB rfl (s_nil (W.ret (hQ _ _   _ rfl  (h.1 g'1)))))))))))))))))))))) (fun g'1 => s_gy rfl (s_fadP H2 (s_gy rfl (s_loadP rfl B0 rfl rfl (s_gy rfl (s_bin rfl rfl (abin_gtr _ _ _) (s_pickFB rfl rfl (s_mvB rfl (s_em (g := 62) rfl (fun g'2 => s_gn (b := true) rfl rfl (s_gn (b := true) rfl rfl (s_gn (b := true) rfl rfl (s_pickTB rfl rfl (s_mvB rfl (s_gn (b := true) rfl rfl (s_gn (b := true) rfl rfl (s_gn (b := true) rfl rfl (s_pickTB rfl rfl (s_nil (c_tt rfl (W.seq (W.reg0 rfl fun _ _ => s_mvB rfl (s_nil (W.ret (hQ _ _   _ rfl  ((h.2 g'1).1 g'2))))))))))))))))) (fun g'2 => s_gy rfl (s_fadP H2 (s_gy rfl (s_loadP rfl B0 rfl rfl (s_gy rfl (s_bin rfl rfl (abin_neq _ _ _) (s_pickFB rfl rfl (s_mvB rfl (s_em (g := 67) rfl (fun g'3 => s_gn (b := true) rfl rfl (s_gn (b := true) rfl rfl (s_gn (b := true) rfl rfl (s_pickTB rfl rfl (s_nil (c_tt rfl (W.seq (W.reg0 rfl fun _ _ => s_mvB rfl (s_nil (W.ret (hQ _ _   _ rfl  (((h.2 g'1).2 g'2).1 g'3)))))))))))) (fun g'3 => s_gy rfl (s_fadP H2 (s_gy rfl (s_loadP rfl B0 rfl rfl (s_gy rfl (s_bin rfl rfl (abin_sne _ _) (s_pickFB rfl rfl (s_nil (c_split rfl (fun g'4 => W.seq (W.reg0 rfl fun _ _ => s_mvB rfl (s_nil (W.ret (hQ _ _   _ rfl  ((((h.2 g'1).2 g'2).2 g'3).1 g'4)))))) (fun g'4 => W.skip (w110_4  hQ  H1 H2 B0 ((((h.2 g'1).2 g'2).2 g'3).2 g'4))))))))))))))))))))))))))))))))))))
def T110_2 (prog : Prog) (K : Bool → Prop) (deep1 : Int) (m0 : Val) : Prop :=
  (m0.kind = 1 → ∃ r'2 : Bool, Pus prog 136 [.ag [.i .u8 m0.kind, .i .i64 m0.int, .s m0.text, .sl .ext (List.map Val.row m0.list), .b m0.cut]] (.b r'2) ∧ (r'2 = true → (m0.text = ([] : List UInt8) → (m0.int = 0 → K true) ∧ (¬(m0.int = 0) → K (decide (m0.int = 1)))) ∧ (¬(m0.text = ([] : List UInt8)) → K false)) ∧ (r'2 = false → K false)) ∧ (¬(m0.kind = 1) → (m0.kind = 2 → ∃ r'8 : Bool, Pus prog 136 [.ag [.i .u8 m0.kind, .i .i64 m0.int, .s m0.text, .sl .ext (List.map Val.row m0.list), .b m0.cut]] (.b r'8) ∧ (r'8 = true → K (decide (m0.text = ([] : List UInt8)))) ∧ (r'8 = false → K false)) ∧ (¬(m0.kind = 2) → (m0.kind = 3 → ∃ r'12 : Bool, Pus prog 136 [.ag [.i .u8 m0.kind, .i .i64 m0.int, .s m0.text, .sl .ext (List.map Val.row m0.list), .b m0.cut]] (.b r'12) ∧ (r'12 = true → (m0.int = 0 → K (decide ((m0.text.length : Int) ≤ 64))) ∧ (¬(m0.int = 0) → K false)) ∧ (r'12 = false → K false)) ∧ (¬(m0.kind = 3) → T110_3 prog K deep1 m0)))
theorem w110_2 {prog : Prog} {d : Nat} {Q : AE → Sl → St → Prop} {K : Bool → Prop} (hQ : ∀ (σ : Sl) (st : St) (x0 : Bool), σ 4 = .b x0 → K x0 → Q .ret σ st) {deep1 : Int} {m0 : Val}   {σ : Sl} {st : St} {v0 : Nat} (H1 : σ 1 = .i .i64 deep1) (H2 : σ 2 = .p (d, 0) v0 0) (B0 : lk st.bx (d, 0) = some (v0, [.i .u8 m0.kind, .i .i64 m0.int, .s m0.text, .sl .ext (List.map Val.row m0.list), .b m0.cut])) (h : T110_2 prog K deep1 m0) : W prog d c110_7 σ st Q :=
  W.seq (W.seq (W.reg0 rfl fun _ _ => s_fadP H2 (s_loadP rfl B0 rfl rfl (s_nil (W.block (W.seq (W.reg0 rfl fun _ _ => s_bin rfl rfl (abin_eql _ _ _) (s_mvB rfl (s_nil (c_split rfl (fun g'1 => W.seq (W.reg0 rfl fun _ _ => s_loadP H2 B0 rfl rfl ((h.1 g'1).elim fun r'2 e'3 => s_call (sc rfl rfl sn) e'3.1 (s_mvB rfl (s_emb (g := 15) rfl (fun g'4 => s_gy rfl (s_fadP H2 (s_gy rfl (s_loadP rfl B0 rfl rfl (s_gy rfl (s_bin rfl rfl (abin_seq _ _) (s_pickTB rfl rfl (s_mvB rfl (s_em (g := 20) rfl (fun g'5 => s_gy rfl (s_fadP H2 (s_gy rfl (s_loadP rfl B0 rfl rfl (s_gy rfl (s_bin rfl rfl (abin_eql _ _ _) (s_gy rfl (s_mvB rfl (s_em (g := 24) rfl (fun g'6 => s_gn (b := true) rfl rfl (s_gn (b := true) rfl rfl (s_gn (b := true) rfl rfl (s_gy rfl (s_pickTB rfl rfl (s_pickTB rfl rfl (s_mvB rfl (s_nil (W.ret (hQ _ _   _ rfl  (((e'3.2.1 g'4).1 g'5).1 g'6))))))))))) (fun g'6 => s_gy rfl (s_fadP H2 (s_gy rfl (s_loadP rfl B0 rfl rfl (s_gy rfl (s_bin rfl rfl (abin_eql _ _ _) (s_gy rfl (s_pickFB rfl rfl (s_pickTB rfl rfl (s_mvB rfl (s_nil (W.ret (hQ _ _   _ rfl  (((e'3.2.1 g'4).1 g'5).2 g'6))))))))))))))))))))))) (fun g'5 => s_gn (b := false) rfl rfl (s_gn (b := false) rfl rfl (s_gn (b := false) rfl rfl (s_gn (b := false) rfl rfl (s_gt rfl (s_gt rfl (s_gt rfl (s_gn (b := false) rfl rfl (s_pickFB rfl rfl (s_mvB rfl (s_nil (W.ret (hQ _ _   _ rfl  ((e'3.2.1 g'4).2 g'5))))))))))))))))))))))) (fun g'4 => s_gn (b := false) rfl rfl (s_gn (b := false) rfl rfl (s_gn (b := false) rfl rfl (s_pickFB rfl rfl (s_mvB rfl (s_gn (b := false) rfl rfl (s_gn (b := false) rfl rfl (s_gn (b := false) rfl rfl (s_gn (b := false) rfl rfl (s_gt rfl (s_gt rfl (s_gt rfl (s_gn (b := false) rfl rfl (s_pickFB rfl rfl (s_mvB rfl (s_nil (W.ret (hQ _ _   _ rfl  (e'3.2.2 g'4)))))))))))))))))))))))) (fun g'1 => W.seq (W.reg0 rfl fun _ _ => s_bin rfl rfl (abin_eql _ _ _) (s_mvB rfl (s_nil (c_split rfl (fun g'7 => W.seq (W.reg0 rfl fun _ _ => s_loadP H2 B0 rfl rfl (((h.2 g'1).1 g'7).elim fun r'8 e'9 => s_call (sc rfl rfl sn) e'9.1 (s_mvB rfl (s_emb (g := 34) rfl (fun g'10 => s_gy rfl (s_fadP H2 (s_gy rfl (s_loadP rfl B0 rfl rfl (s_gy rfl (s_bin rfl rfl (abin_seq _ _) (s_pickTB rfl rfl (s_mvB rfl (s_nil (W.ret (hQ _ _   _ rfl  (e'9.2.1 g'10)))))))))))) (fun g'10 => s_gn (b := false) rfl rfl (s_gn (b := false) rfl rfl (s_gn (b := false) rfl rfl (s_pickFB rfl rfl (s_mvB rfl (s_nil (W.ret (hQ _ _   _ rfl  (e'9.2.2 g'10)))))))))))))) (fun g'7 => W.seq (W.reg0 rfl fun _ _ => s_bin rfl rfl (abin_eql _ _ _) (s_mvB rfl (s_nil (c_split rfl (fun g'11 => W.seq (W.reg0 rfl fun _ _ => s_loadP H2 B0 rfl rfl ((((h.2 g'1).2 g'7).1 g'11).elim fun r'12 e'13 => s_call (sc rfl rfl sn) e'13.1 (s_mvB rfl (s_emb (g := 43) rfl (fun g'14 => s_gy rfl (s_fadP H2 (s_gy rfl (s_loadP rfl B0 rfl rfl (s_gy rfl (s_bin rfl rfl (abin_eql _ _ _) (s_pickTB rfl rfl (s_mvB rfl (s_em (g := 48) rfl (fun g'15 => s_gy rfl (s_fadP H2 (s_gy rfl (s_loadP rfl B0 rfl rfl (s_gy rfl (s_lenS rfl (s_gy rfl (s_bin rfl rfl (abin_leq _ _ _) (s_pickTB rfl rfl (s_mvB rfl (s_nil (W.ret (hQ _ _   _ rfl  ((e'13.2.1 g'14).1 g'15)))))))))))))) (fun g'15 => s_gn (b := false) rfl rfl (s_gn (b := false) rfl rfl (s_gn (b := false) rfl rfl (s_gn (b := false) rfl rfl (s_pickFB rfl rfl (s_mvB rfl (s_nil (W.ret (hQ _ _   _ rfl  ((e'13.2.1 g'14).2 g'15))))))))))))))))))) (fun g'14 => s_gn (b := false) rfl rfl (s_gn (b := false) rfl rfl (s_gn (b := false) rfl rfl (s_pickFB rfl rfl (s_mvB rfl (s_gn (b := false) rfl rfl (s_gn (b := false) rfl rfl (s_gn (b := false) rfl rfl (s_gn (b := false) rfl rfl (s_pickFB rfl rfl (s_mvB rfl (s_nil (W.ret (hQ _ _   _ rfl  (e'13.2.2 g'14)))))))))))))))))))) (fun g'11 => W.skip (w110_3  hQ  H1 H2 B0 (((h.2 g'1).2 g'7).2 g'11)))))))))))))))))))))))
def T110_1 (prog : Prog) (K : Bool → Prop) (deep1 : Int) (m0 : Val) : Prop :=
  (deep1 = 0 → K false) ∧ (¬(deep1 = 0) → T110_2 prog K deep1 m0)
theorem w110_1 {prog : Prog} {d : Nat} {Q : AE → Sl → St → Prop} {K : Bool → Prop} (hQ : ∀ (σ : Sl) (st : St) (x0 : Bool), σ 4 = .b x0 → K x0 → Q .ret σ st) {deep1 : Int} {m0 : Val}   {σ : Sl} {st : St} {v0 : Nat} (H1 : σ 1 = .i .i64 deep1) (H2 : σ 2 = .p (d, 0) v0 0) (B0 : lk st.bx (d, 0) = some (v0, [.i .u8 m0.kind, .i .i64 m0.int, .s m0.text, .sl .ext (List.map Val.row m0.list), .b m0.cut])) (h : T110_1 prog K deep1 m0) : W prog d c110_8 σ st Q :=
  W.seq (W.seq (W.reg0 rfl fun _ _ => s_mvI H1 (s_bin rfl rfl (abin_eql _ _ _) (s_nil (c_split rfl (fun g'1 => W.seq (W.reg0 rfl fun _ _ => s_mvB rfl (s_nil (W.ret (hQ _ _   _ rfl  (h.1 g'1)))))) (fun g'1 => W.skip (w110_2  hQ  H1 H2 B0 (h.2 g'1))))))))
def T110_0 (prog : Prog) (K : Bool → Prop) (v0 : Val) (deep1 : Int) : Prop :=
  T110_1 prog K deep1 v0
theorem w110_0 {prog : Prog} {d : Nat} {Q : AE → Sl → St → Prop} {K : Bool → Prop} (hQ : ∀ (σ : Sl) (st : St) (x0 : Bool), σ 4 = .b x0 → K x0 → Q .ret σ st) {v0 : Val} {deep1 : Int}   {σ : Sl} {st : St} (H0 : σ 0 = .ag [.i .u8 v0.kind, .i .i64 v0.int, .s v0.text, .sl .ext (List.map Val.row v0.list), .b v0.cut]) (H1 : σ 1 = .i .i64 deep1) (h : T110_0 prog K v0 deep1) : W prog d (.seq (.reg 0 r110_0) c110_8) σ st Q :=
  W.seq (W.reg0 rfl fun _ _ => s_box H0 rfl (s_mvB rfl (s_nil (w110_1  hQ  H1 rfl lk_here h))))
theorem p110 {prog : Prog} (hf : prog.fn 110 = some pf110) {v0 : Val} {deep1 : Int} {K : Bool → Prop} (h : T110_0 prog K v0 deep1) : ∃ x0 : Bool, K x0 ∧ Pus prog 110 [.ag [.i .u8 v0.kind, .i .i64 v0.int, .s v0.text, .sl .ext (List.map Val.row v0.list), .b v0.cut], .i .i64 deep1] (.b x0) := by
  obtain ⟨v, hv, x0, hk, rfl⟩ := Pus.of (K := fun v => ∃ x0 : Bool, K x0 ∧ v = .b x0) hf rfl (w110_0 (σ := sl0 [.ag [.i .u8 v0.kind, .i .i64 v0.int, .s v0.text, .sl .ext (List.map Val.row v0.list), .b v0.cut], .i .i64 deep1]) (fun σ st   x0 H4 hk => ⟨.b x0, by simp only [pf110, ares, aresL, H4, ares1, Option.map_some], _, rfl, x0, hk, rfl⟩) rfl rfl h)
  exact ⟨x0, hk, hv⟩

/-! wreckage/wreckageref38.listed -/
def r127_0 : List AI := [⟨(some 2), .mv (.c (.s [])), none⟩]
def r127_1 : List AI := [⟨(some 3), .mv (.c (.s [])), none⟩]
def r127_2 : List AI := [⟨(some 4), .mv (.c (.i .i64 0)), none⟩]
def r127_3 : List AI := [⟨(some 5), .mv (.t 4), none⟩,
  ⟨(some 6), .mv (.t 0), none⟩,
  ⟨(some 7), .len false (.t 6), none⟩,
  ⟨(some 8), .bin .lss (.t 5) (.t 7), none⟩]
def r127_4 : List AI := [⟨(some 11), .mv (.t 4), none⟩,
  ⟨(some 12), .bin .gtr (.t 11) (.c (.i .i64 0)), none⟩]
def r127_5 : List AI := [⟨(some 13), .mv (.t 3), none⟩,
  ⟨(some 14), .bin .add (.t 13) (.c (.s [44, 32])), none⟩,
  ⟨(some 3), .mv (.t 14), none⟩]
def r127_6 : List AI := [⟨(some 15), .mv (.t 3), none⟩,
  ⟨(some 16), .mv (.t 0), none⟩,
  ⟨(some 17), .mv (.t 4), none⟩,
  ⟨(some 18), .iaL 5 (.t 16) (.t 17), none⟩,
  ⟨(some 19), .load 5 true (.t 18), none⟩,
  ⟨(some 20), .call false 106 [(.t 19)], none⟩,
  ⟨(some 21), .bin .add (.t 15) (.t 20), none⟩,
  ⟨(some 3), .mv (.t 21), none⟩]
def r127_7 : List AI := [⟨(some 9), .mv (.t 4), none⟩,
  ⟨(some 10), .bin .add (.t 9) (.c (.i .i64 1)), none⟩,
  ⟨(some 4), .mv (.t 10), none⟩]
def r127_8 : List AI := [⟨(some 22), .mv (.t 3), none⟩,
  ⟨(some 2), .mv (.t 22), none⟩]
abbrev c127_0 : AC := (.reg 7 r127_6)
abbrev l127_0 : AC := (.seq (.seq (.reg 3 r127_3) (.cond (.t 8) .skip (.exit 0))) (.seq (.block 1 (.seq (.seq (.reg 5 r127_4) (.cond (.t 12) (.reg 6 r127_5) .skip)) c127_0)) (.reg 4 r127_7)))
abbrev c127_2 : AC := (.seq (.reg 8 r127_8) .ret)
abbrev b127 : AC := (.seq (.reg 0 r127_0) (.seq (.reg 1 r127_1) (.seq (.seq (.reg 2 r127_2) (.block 0 (.loop l127_0))) c127_2)))
def pf127 : AF := { nt := 23, res := [.tmp 2], body := b127 }
abbrev I127_0 (prog : Prog) (d : Nat) (Q : AE → Sl → St → Prop) (l0 : List Val) (s3 : List UInt8) (i4 : Int) : Prop :=
  ∀ (σ : Sl) (st : St) (o_l0 : Own), σ 0 = .sl o_l0 (List.map Val.row l0) → σ 3 = .s s3 → σ 4 = .i .i64 i4 → W prog d (.loop l127_0) σ st (blockW 0 (thenW prog d c127_2 Q))
def T127_2 (prog : Prog) (K : List UInt8 → Prop) (P0 : List UInt8 → Int → Prop) (l0 : List Val) (s3 : List UInt8) (i4 : Int) : Prop :=
  0 ≤ i4 ∧ ∃ c'1 : Val, l0[(i4).toNat]? = some c'1 ∧ ∃ r'3 : List UInt8, Pus prog 106 [.ag [.i .u8 c'1.kind, .i .i64 c'1.int, .s c'1.text, .sl .ext (List.map Val.row c'1.list), .b c'1.cut]] (.s r'3) ∧ s3.length + r'3.length ≤ maxStr ∧ P0 (s3 ++ r'3) (IntKind.i64.wrap (i4 + 1))
theorem w127_2 {prog : Prog} {d : Nat} {Q : AE → Sl → St → Prop} {K : List UInt8 → Prop} (hQ : ∀ (σ : Sl) (st : St) (x0 : List UInt8), σ 2 = .s x0 → K x0 → Q .ret σ st) {l0 : List Val} {s3 : List UInt8} {i4 : Int} {P0 : List UInt8 → Int → Prop} (kP0 : ∀ (s3 : List UInt8) (i4 : Int), P0 s3 i4 → I127_0 prog d Q l0 s3 i4) {σ : Sl} {st : St} {o_l0 : Own} (H0 : σ 0 = .sl o_l0 (List.map Val.row l0)) (H3 : σ 3 = .s s3) (H4 : σ 4 = .i .i64 i4) (h : T127_2 prog K P0 l0 s3 i4) : W prog d c127_0 σ st (blockW 1 (thenW prog d (.reg 4 r127_7) (thenW prog d (.loop l127_0) (blockW 0 (thenW prog d c127_2 Q))))) :=
  W.reg0 rfl fun _ _ => s_mvS H3 (s_mvL H0 (s_mvI H4 (h.2.elim fun c'1 e'2 => s_iaL rfl rfl h.1 e'2.1 (Val.row_eq c'1) rfl (s_loadF rfl rfl rfl (e'2.2.elim fun r'3 e'4 => s_call (sc rfl rfl sn) e'4.1 (s_bin rfl rfl (abin_cat' e'4.2.1) (s_mvS rfl (s_nil (W.reg0 rfl fun _ _ => s_mvI H4 (s_bin rfl rfl (abin_add _ _ _) (s_mvI rfl (s_nil (kP0 _ _ e'4.2.2 _ _ _ H0 rfl rfl)))))))))))))
def T127_3 (prog : Prog) (K : List UInt8 → Prop) (s3 : List UInt8) : Prop :=
  K s3
theorem w127_3 {prog : Prog} {d : Nat} {Q : AE → Sl → St → Prop} {K : List UInt8 → Prop} (hQ : ∀ (σ : Sl) (st : St) (x0 : List UInt8), σ 2 = .s x0 → K x0 → Q .ret σ st) {s3 : List UInt8}   {σ : Sl} {st : St} (H3 : σ 3 = .s s3) (h : T127_3 prog K s3) : W prog d c127_2 σ st Q :=
  W.seq (W.reg0 rfl fun _ _ => s_mvS H3 (s_mvS rfl (s_nil (W.ret (hQ _ _   _ rfl  h)))))
def T127_1 (prog : Prog) (K : List UInt8 → Prop) (P0 : List UInt8 → Int → Prop) (l0 : List Val) (s3 : List UInt8) (i4 : Int) : Prop :=
  (i4 < (l0.length : Int) → (i4 > 0 → s3.length + ([44, 32] : List UInt8).length ≤ maxStr ∧ T127_2 prog K P0 l0 (s3 ++ ([44, 32] : List UInt8)) i4) ∧ (¬(i4 > 0) → T127_2 prog K P0 l0 s3 i4)) ∧ (¬(i4 < (l0.length : Int)) → T127_3 prog K s3)
theorem w127_1 {prog : Prog} {d : Nat} {Q : AE → Sl → St → Prop} {K : List UInt8 → Prop} (hQ : ∀ (σ : Sl) (st : St) (x0 : List UInt8), σ 2 = .s x0 → K x0 → Q .ret σ st) {l0 : List Val} {s3 : List UInt8} {i4 : Int} {P0 : List UInt8 → Int → Prop} (kP0 : ∀ (s3 : List UInt8) (i4 : Int), P0 s3 i4 → I127_0 prog d Q l0 s3 i4) {σ : Sl} {st : St} {o_l0 : Own} (H0 : σ 0 = .sl o_l0 (List.map Val.row l0)) (H3 : σ 3 = .s s3) (H4 : σ 4 = .i .i64 i4) (h : T127_1 prog K P0 l0 s3 i4) : W prog d l127_0 σ st (thenW prog d (.loop l127_0) (blockW 0 (thenW prog d c127_2 Q))) :=
  W.seq (W.seq (W.reg0 rfl fun _ _ => s_mvI H4 (s_mvL H0 (s_lenL rfl (s_bin rfl rfl (abin_lss _ _ _) (s_nil (c_split rfl (fun g'1 => W.skip (W.seq (W.block (W.seq (W.seq (W.reg0 rfl fun _ _ => s_mvI H4 (s_bin rfl rfl (abin_gtr _ _ _) (s_nil (c_split rfl (fun g'2 => W.reg0 rfl fun _ _ => s_mvS H3 (s_bin rfl rfl (abin_cat' ((h.1 g'1).1 g'2).1) (s_mvS rfl (s_nil (w127_2  hQ kP0 H0 rfl H4 ((h.1 g'1).1 g'2).2))))) (fun g'2 => W.skip (w127_2  hQ kP0 H0 H3 H4 ((h.1 g'1).2 g'2)))))))))))) (fun g'1 => W.exit (w127_3  hQ  H3 (h.2 g'1))))))))))
def T127_0 (prog : Prog) (K : List UInt8 → Prop) (l0 : List Val) : Prop :=
  ∀ P0 : List UInt8 → Int → Prop, (∀ (s3 : List UInt8) (i4 : Int), T127_1 prog K P0 l0 s3 i4 → P0 s3 i4) → P0 ([] : List UInt8) 0
theorem w127_0 {prog : Prog} {d : Nat} {Q : AE → Sl → St → Prop} {K : List UInt8 → Prop} (hQ : ∀ (σ : Sl) (st : St) (x0 : List UInt8), σ 2 = .s x0 → K x0 → Q .ret σ st) {l0 : List Val}   {σ : Sl} {st : St} {o_l0 : Own} (H0 : σ 0 = .sl o_l0 (List.map Val.row l0)) (h : T127_0 prog K l0) : W prog d (.seq (.reg 0 r127_0) (.seq (.reg 1 r127_1) (.seq (.seq (.reg 2 r127_2) (.block 0 (.loop l127_0))) c127_2))) σ st Q :=
  W.seq (W.reg0 rfl fun _ _ => s_mvS rfl (s_nil (W.seq (W.reg0 rfl fun _ _ => s_mvS rfl (s_nil (W.seq (W.seq (W.reg0 rfl fun _ _ => s_mvI rfl (s_nil (W.block (h (I127_0 prog d Q l0) (fun _ _ hb _ _ _ H0 H3 H4 => W.loop (w127_1 hQ (fun _ _ x => x) H0 H3 H4 hb)) _ _ _ H0 rfl rfl)))))))))))
theorem p127 {prog : Prog} (hf : prog.fn 127 = some pf127) {l0 : List Val} {K : List UInt8 → Prop} (h : T127_0 prog K l0) : ∃ x0 : List UInt8, K x0 ∧ Pus prog 127 [.sl .ext (List.map Val.row l0)] (.s x0) := by
  obtain ⟨v, hv, x0, hk, rfl⟩ := Pus.of (K := fun v => ∃ x0 : List UInt8, K x0 ∧ v = .s x0) hf rfl (w127_0 (σ := sl0 [.sl .ext (List.map Val.row l0)]) (fun σ st   x0 H2 hk => ⟨.s x0, by simp only [pf127, ares, aresL, H2, ares1, Option.map_some], _, rfl, x0, hk, rfl⟩) rfl h)
  exact ⟨x0, hk, hv⟩

/-! wreckage/wreckageref38.plain -/
def r136_0 : List AI := [⟨(some 1), .box 5 (.t 0), none⟩,
  ⟨(some 2), .mv (.c (.b false)), none⟩]
def r136_1 : List AI := [⟨(some 3), .fad 3 (.t 1), none⟩,
  ⟨(some 4), .load 1 false (.t 3), none⟩,
  ⟨(some 5), .len false (.t 4), none⟩,
  ⟨(some 6), .bin .eql (.t 5) (.c (.i .i64 0)), none⟩,
  ⟨(some 7), .mv (.t 6), none⟩,
  ⟨(some 8), .fad 4 (.t 1), (some (7, true))⟩,
  ⟨(some 9), .load 1 false (.t 8), (some (7, true))⟩,
  ⟨(some 10), .un .not (.t 9), (some (7, true))⟩,
  ⟨(some 11), .pick (.t 7) (.t 10) (.c (.b false)), none⟩,
  ⟨(some 2), .mv (.t 11), none⟩]
abbrev b136 : AC := (.seq (.reg 0 r136_0) (.seq (.reg 1 r136_1) .ret))
def pf136 : AF := { nt := 12, res := [.tmp 2], body := b136 }
def T136_0 (prog : Prog) (K : Bool → Prop) (v0 : Val) : Prop :=
  ((v0.list.length : Int) = 0 → K (!v0.cut)) ∧ (¬((v0.list.length : Int) = 0) → K false)
theorem w136_0 {prog : Prog} {d : Nat} {Q : AE → Sl → St → Prop} {K : Bool → Prop} (hQ : ∀ (σ : Sl) (st : St) (x0 : Bool), σ 2 = .b x0 → K x0 → Q .ret σ st) {v0 : Val}   {σ : Sl} {st : St} (H0 : σ 0 = .ag [.i .u8 v0.kind, .i .i64 v0.int, .s v0.text, .sl .ext (List.map Val.row v0.list), .b v0.cut]) (h : T136_0 prog K v0) : W prog d (.seq (.reg 0 r136_0) (.seq (.reg 1 r136_1) .ret)) σ st Q :=
  W.seq (W.reg0 rfl fun _ _ => s_box H0 rfl (s_mvB rfl (s_nil (W.seq (W.reg0 rfl fun _ _ => s_fadP rfl (s_loadP rfl lk_here rfl rfl (s_lenL rfl (s_bin rfl rfl (abin_eql _ _ _) (s_mvB rfl (s_em (g := 7) rfl (fun g'1 => s_gy rfl (s_fadP rfl (s_gy rfl (s_loadP rfl lk_here rfl rfl (s_gy rfl (s_not rfl (s_pickTB rfl rfl (s_mvB rfl (s_nil (W.ret (hQ _ _   _ rfl  (h.1 g'1)))))))))))) (fun g'1 => s_gn (b := false) rfl rfl (s_gn (b := false) rfl rfl (s_gn (b := false) rfl rfl (s_pickFB rfl rfl (s_mvB rfl (s_nil (W.ret (hQ _ _   _ rfl  (h.2 g'1)))))))))))))))))))
theorem p136 {prog : Prog} (hf : prog.fn 136 = some pf136) {v0 : Val} {K : Bool → Prop} (h : T136_0 prog K v0) : ∃ x0 : Bool, K x0 ∧ Pus prog 136 [.ag [.i .u8 v0.kind, .i .i64 v0.int, .s v0.text, .sl .ext (List.map Val.row v0.list), .b v0.cut]] (.b x0) := by
  obtain ⟨v, hv, x0, hk, rfl⟩ := Pus.of (K := fun v => ∃ x0 : Bool, K x0 ∧ v = .b x0) hf rfl (w136_0 (σ := sl0 [.ag [.i .u8 v0.kind, .i .i64 v0.int, .s v0.text, .sl .ext (List.map Val.row v0.list), .b v0.cut]]) (fun σ st   x0 H2 hk => ⟨.b x0, by simp only [pf136, ares, aresL, H2, ares1, Option.map_some], _, rfl, x0, hk, rfl⟩) rfl h)
  exact ⟨x0, hk, hv⟩

end Go.AM
