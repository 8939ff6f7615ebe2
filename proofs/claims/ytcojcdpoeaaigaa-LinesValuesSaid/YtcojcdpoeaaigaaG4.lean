/- Parts of the proof: U03b, B0, D38. -/
import Derived.Test.YtcojcdpoeaaigaaG2
set_option linter.all false
/- MADE BY PROGRAM (tl.py). -/
namespace Go.AM
open Go
set_option linter.unusedVariables false
set_option linter.unusedSimpArgs false
set_option maxRecDepth 4000
attribute [local irreducible] WO fillCells fillRows

/-! wreckage/wreckageref03.Great -/
def r10_0 : List AI := [⟨(some 2), .mv (.c (.b false)), none⟩]
def r10_1 : List AI := [⟨(some 4), .mv (.t 0), none⟩,
  ⟨(some 5), .len false (.t 4), none⟩,
  ⟨(some 6), .bin .gtr (.t 5) (.c (.i .i64 70)), none⟩]
def r10_2 : List AI := [⟨(some 2), .mv (.c (.b true)), none⟩]
def r10_3 : List AI := [⟨(some 3), .mv (.c (.i .i64 0)), none⟩]
def r10_4 : List AI := [⟨(some 7), .mv (.t 3), none⟩,
  ⟨(some 8), .mv (.t 0), none⟩,
  ⟨(some 9), .len false (.t 8), none⟩,
  ⟨(some 10), .bin .lss (.t 7) (.t 9), none⟩]
def r10_5 : List AI := [⟨(some 13), .mv (.t 0), none⟩,
  ⟨(some 14), .mv (.t 3), none⟩,
  ⟨(some 15), .iaL 1 (.t 13) (.t 14), none⟩,
  ⟨(some 16), .load 1 false (.t 15), none⟩,
  ⟨(some 17), .len true (.t 16), none⟩,
  ⟨(some 18), .bin .gtr (.t 17) (.c (.i .i64 500)), none⟩]
def r10_6 : List AI := [⟨(some 2), .mv (.c (.b true)), none⟩]
def r10_7 : List AI := [⟨(some 11), .mv (.t 3), none⟩,
  ⟨(some 12), .bin .add (.t 11) (.c (.i .i64 1)), none⟩,
  ⟨(some 3), .mv (.t 12), none⟩]
def r10_8 : List AI := [⟨(some 2), .mv (.c (.b false)), none⟩]
abbrev l10_0 : AC := (.seq (.seq (.reg 4 r10_4) (.cond (.t 10) .skip (.exit 0))) (.seq (.block 1 (.seq (.reg 6 r10_5) (.cond (.t 18) (.seq (.reg 7 r10_6) .ret) .skip))) (.reg 5 r10_7)))
abbrev c10_1 : AC := (.seq (.reg 8 r10_8) .ret)
abbrev b10 : AC := (.seq (.reg 0 r10_0) (.seq (.seq (.reg 1 r10_1) (.cond (.t 6) (.seq (.reg 2 r10_2) .ret) .skip)) (.seq (.seq (.reg 3 r10_3) (.block 0 (.loop l10_0))) c10_1)))
def pf10 : AF := { nt := 19, res := [.tmp 2], body := b10 }
abbrev I10_0 (prog : Prog) (d : Nat) (Q : AE → Sl → St → Prop) (l0 : List (List UInt8)) (i3 : Int) : Prop :=
  ∀ (σ : Sl) (st : St) (o_l0 : Own), σ 0 = .sl o_l0 (List.map rowS l0) → σ 3 = .i .i64 i3 → W prog d (.loop l10_0) σ st (blockW 0 (thenW prog d c10_1 Q))
def T10_2 (prog : Prog) (K : Bool → Prop)  : Prop :=
  K false
theorem w10_2 {prog : Prog} {d : Nat} {Q : AE → Sl → St → Prop} {K : Bool → Prop} (hQ : ∀ (σ : Sl) (st : St) (x0 : Bool), σ 2 = .b x0 → K x0 → Q .ret σ st)    {σ : Sl} {st : St}  (h : T10_2 prog K ) : W prog d c10_1 σ st Q :=
  W.seq (W.reg0 rfl fun _ _ => s_mvB rfl (s_nil (W.ret (hQ _ _   _ rfl  h))))
def T10_1 (prog : Prog) (K : Bool → Prop) (P0 : Int → Prop) (l0 : List (List UInt8)) (i3 : Int) : Prop :=
  (i3 < (l0.length : Int) → 0 ≤ i3 ∧ ∃ c'2 : List UInt8, l0[(i3).toNat]? = some c'2 ∧ ((c'2.length : Int) > 500 → K true) ∧ (¬((c'2.length : Int) > 500) → P0 (IntKind.i64.wrap (i3 + 1)))) ∧ (¬(i3 < (l0.length : Int)) → T10_2 prog K )
theorem w10_1 {prog : Prog} {d : Nat} {Q : AE → Sl → St → Prop} {K : Bool → Prop} (hQ : ∀ (σ : Sl) (st : St) (x0 : Bool), σ 2 = .b x0 → K x0 → Q .ret σ st) {l0 : List (List UInt8)} {i3 : Int} {P0 : Int → Prop} (kP0 : ∀ (i3 : Int), P0 i3 → I10_0 prog d Q l0 i3) {σ : Sl} {st : St} {o_l0 : Own} (H0 : σ 0 = .sl o_l0 (List.map rowS l0)) (H3 : σ 3 = .i .i64 i3) (h : T10_1 prog K P0 l0 i3) : W prog d l10_0 σ st (thenW prog d (.loop l10_0) (blockW 0 (thenW prog d c10_1 Q))) :=
  W.seq (W.seq (W.reg0 rfl fun _ _ => s_mvI H3 (s_mvL H0 (s_lenL rfl (s_bin rfl rfl (abin_lss _ _ _) (s_nil (c_split rfl (fun g'1 => W.skip (W.seq (W.block (W.seq (W.reg0 rfl fun _ _ => s_mvL H0 (s_mvI H3 ((h.1 g'1).2.elim fun c'2 e'3 => s_iaL rfl rfl (h.1 g'1).1 e'3.1 rfl rfl (s_loadF rfl rfl rfl (s_lenS rfl (s_bin rfl rfl (abin_gtr _ _ _) (s_nil (c_split rfl (fun g'4 => W.seq (W.reg0 rfl fun _ _ => s_mvB rfl (s_nil (W.ret (hQ _ _   _ rfl  (e'3.2.1 g'4)))))) (fun g'4 => W.skip (W.reg0 rfl fun _ _ => s_mvI H3 (s_bin rfl rfl (abin_add _ _ _) (s_mvI rfl (s_nil (kP0 _ (e'3.2.2 g'4) _ _ _ H0 rfl)))))))))))))))))) (fun g'1 => W.exit (w10_2  hQ   (h.2 g'1))))))))))
def T10_0 (prog : Prog) (K : Bool → Prop) (l0 : List (List UInt8)) : Prop :=
  ((l0.length : Int) > 70 → K true) ∧ (¬((l0.length : Int) > 70) → ∀ P0 : Int → Prop, (∀ (i3 : Int), T10_1 prog K P0 l0 i3 → P0 i3) → P0 0)
theorem w10_0 {prog : Prog} {d : Nat} {Q : AE → Sl → St → Prop} {K : Bool → Prop} (hQ : ∀ (σ : Sl) (st : St) (x0 : Bool), σ 2 = .b x0 → K x0 → Q .ret σ st) {l0 : List (List UInt8)}   {σ : Sl} {st : St} {o_l0 : Own} (H0 : σ 0 = .sl o_l0 (List.map rowS l0)) (h : T10_0 prog K l0) : W prog d (.seq (.reg 0 r10_0) (.seq (.seq (.reg 1 r10_1) (.cond (.t 6) (.seq (.reg 2 r10_2) .ret) .skip)) (.seq (.seq (.reg 3 r10_3) (.block 0 (.loop l10_0))) c10_1))) σ st Q :=
  W.seq (W.reg0 rfl fun _ _ => s_mvB rfl (s_nil (W.seq (W.seq (W.reg0 rfl fun _ _ => s_mvL H0 (s_lenL rfl (s_bin rfl rfl (abin_gtr _ _ _) (s_nil (c_split rfl (fun g'1 => W.seq (W.reg0 rfl fun _ _ => s_mvB rfl (s_nil (W.ret (hQ _ _   _ rfl  (h.1 g'1)))))) (fun g'1 => W.skip (W.seq (W.seq (W.reg0 rfl fun _ _ => s_mvI rfl (s_nil (W.block ((h.2 g'1) (I10_0 prog d Q l0) (fun _ hb _ _ _ H0 H3 => W.loop (w10_1 hQ (fun _ x => x) H0 H3 hb)) _ _ _ H0 rfl))))))))))))))))
theorem p10 {prog : Prog} (hf : prog.fn 10 = some pf10) {l0 : List (List UInt8)} {K : Bool → Prop} (h : T10_0 prog K l0) : ∃ x0 : Bool, K x0 ∧ Pus prog 10 [.sl .ext (List.map rowS l0)] (.b x0) := by
  obtain ⟨v, hv, x0, hk, rfl⟩ := Pus.of (K := fun v => ∃ x0 : Bool, K x0 ∧ v = .b x0) hf rfl (w10_0 (σ := sl0 [.sl .ext (List.map rowS l0)]) (fun σ st   x0 H2 hk => ⟨.b x0, by simp only [pf10, ares, aresL, H2, ares1, Option.map_some], _, rfl, x0, hk, rfl⟩) rfl h)
  exact ⟨x0, hk, hv⟩

/-! wreckage/wreckageref03.Quote -/
def r12_0 : List AI := [⟨(some 2), .mv (.c (.s [])), none⟩,
  ⟨(some 3), .mv (.c (.i .i64 0)), none⟩]
def r12_1 : List AI := [⟨(some 4), .mv (.t 0), none⟩,
  ⟨(some 5), .len true (.t 4), none⟩,
  ⟨(some 6), .bin .gtr (.t 5) (.c (.i .i64 400)), none⟩]
def r12_2 : List AI := [⟨(some 2), .mv (.c (.s [])), none⟩,
  ⟨(some 3), .mv (.c (.i .i64 4)), none⟩]
def r12_3 : List AI := [⟨(some 7), .mv (.t 0), none⟩,
  ⟨(some 8), .call false 31 [(.t 7)], none⟩,
  ⟨(some 2), .mv (.t 8), none⟩,
  ⟨(some 3), .mv (.c (.i .i64 0)), none⟩]
abbrev b12 : AC := (.seq (.reg 0 r12_0) (.seq (.seq (.reg 1 r12_1) (.cond (.t 6) (.seq (.reg 2 r12_2) .ret) .skip)) (.seq (.reg 3 r12_3) .ret)))
def pf12 : AF := { nt := 9, res := [.tmp 2, .tmp 3], body := b12 }
def T12_0 (prog : Prog) (K : List UInt8 → Int → Prop) (s0 : List UInt8) : Prop :=
  ((s0.length : Int) > 400 → K ([] : List UInt8) 4) ∧ (¬((s0.length : Int) > 400) → ∃ r'2 : List UInt8, Pus prog 31 [.s s0] (.s r'2) ∧ K r'2 0)
theorem w12_0 {prog : Prog} {d : Nat} {Q : AE → Sl → St → Prop} {K : List UInt8 → Int → Prop} (hQ : ∀ (σ : Sl) (st : St) (x0 : List UInt8) (x1 : Int), σ 2 = .s x0 → σ 3 = .i .i64 x1 → K x0 x1 → Q .ret σ st) {s0 : List UInt8}   {σ : Sl} {st : St} (H0 : σ 0 = .s s0) (h : T12_0 prog K s0) : W prog d (.seq (.reg 0 r12_0) (.seq (.seq (.reg 1 r12_1) (.cond (.t 6) (.seq (.reg 2 r12_2) .ret) .skip)) (.seq (.reg 3 r12_3) .ret))) σ st Q :=
  W.seq (W.reg0 rfl fun _ _ => s_mvS rfl (s_mvI rfl (s_nil (W.seq (W.seq (W.reg0 rfl fun _ _ => s_mvS H0 (s_lenS rfl (s_bin rfl rfl (abin_gtr _ _ _) (s_nil (c_split rfl (fun g'1 => W.seq (W.reg0 rfl fun _ _ => s_mvS rfl (s_mvI rfl (s_nil (W.ret (hQ _ _   _ _ rfl rfl  (h.1 g'1))))))) (fun g'1 => W.skip (W.seq (W.reg0 rfl fun _ _ => s_mvS H0 ((h.2 g'1).elim fun r'2 e'3 => s_call (sc rfl rfl sn) e'3.1 (s_mvS rfl (s_mvI rfl (s_nil (W.ret (hQ _ _   _ _ rfl rfl  e'3.2)))))))))))))))))))
theorem p12 {prog : Prog} (hf : prog.fn 12 = some pf12) {s0 : List UInt8} {K : List UInt8 → Int → Prop} (h : T12_0 prog K s0) : ∃ x0 : List UInt8, ∃ x1 : Int, K x0 x1 ∧ Pus prog 12 [.s s0] (.tup [.s x0, .i .i64 x1]) := by
  obtain ⟨v, hv, x0, x1, hk, rfl⟩ := Pus.of (K := fun v => ∃ x0 : List UInt8, ∃ x1 : Int, K x0 x1 ∧ v = .tup [.s x0, .i .i64 x1]) hf rfl (w12_0 (σ := sl0 [.s s0]) (fun σ st   x0 x1 H2 H3 hk => ⟨.tup [.s x0, .i .i64 x1], by simp only [pf12, ares, aresL, H2, H3, ares1, Option.map_some], _, rfl, x0, x1, hk, rfl⟩) rfl h)
  exact ⟨x0, x1, hk, hv⟩

/-! wreckage/wreckageref03.List -/
def r14_0 : List AI := [⟨(some 2), .mv (.c (.s [])), none⟩,
  ⟨(some 3), .mv (.c (.i .i64 0)), none⟩]
def r14_1 : List AI := [⟨(some 4), .mv (.t 0), none⟩,
  ⟨(some 5), .call false 20 [(.t 4)], none⟩,
  ⟨(some 6), .un .not (.t 5), none⟩]
def r14_2 : List AI := [⟨(some 2), .mv (.c (.s [])), none⟩,
  ⟨(some 3), .mv (.c (.i .i64 4)), none⟩]
def r14_3 : List AI := [⟨(some 7), .mv (.t 0), none⟩,
  ⟨(some 8), .call false 33 [(.t 7)], none⟩,
  ⟨(some 2), .mv (.t 8), none⟩,
  ⟨(some 3), .mv (.c (.i .i64 0)), none⟩]
abbrev b14 : AC := (.seq (.reg 0 r14_0) (.seq (.seq (.reg 1 r14_1) (.cond (.t 6) (.seq (.reg 2 r14_2) .ret) .skip)) (.seq (.reg 3 r14_3) .ret)))
def pf14 : AF := { nt := 9, res := [.tmp 2, .tmp 3], body := b14 }
def T14_0 (prog : Prog) (K : List UInt8 → Int → Prop) (l0 : List (List UInt8)) : Prop :=
  ∃ r'1 : Bool, Pus prog 20 [.sl .ext (List.map rowS l0)] (.b r'1) ∧ ((!r'1) = true → K ([] : List UInt8) 4) ∧ ((!r'1) = false → ∃ r'4 : List UInt8, Pus prog 33 [.sl .ext (List.map rowS l0)] (.s r'4) ∧ K r'4 0)
theorem w14_0 {prog : Prog} {d : Nat} {Q : AE → Sl → St → Prop} {K : List UInt8 → Int → Prop} (hQ : ∀ (σ : Sl) (st : St) (x0 : List UInt8) (x1 : Int), σ 2 = .s x0 → σ 3 = .i .i64 x1 → K x0 x1 → Q .ret σ st) {l0 : List (List UInt8)}   {σ : Sl} {st : St} {o_l0 : Own} (H0 : σ 0 = .sl o_l0 (List.map rowS l0)) (h : T14_0 prog K l0) : W prog d (.seq (.reg 0 r14_0) (.seq (.seq (.reg 1 r14_1) (.cond (.t 6) (.seq (.reg 2 r14_2) .ret) .skip)) (.seq (.reg 3 r14_3) .ret))) σ st Q :=
  W.seq (W.reg0 rfl fun _ _ => s_mvS rfl (s_mvI rfl (s_nil (W.seq (W.seq (W.reg0 rfl fun _ _ => s_mvL H0 (h.elim fun r'1 e'2 => s_call (sc rfl rfl sn) e'2.1 (s_not rfl (s_nil (c_bool rfl (fun g'3 => W.seq (W.reg0 rfl fun _ _ => s_mvS rfl (s_mvI rfl (s_nil (W.ret (hQ _ _   _ _ rfl rfl  (e'2.2.1 g'3))))))) (fun g'3 => W.skip (W.seq (W.reg0 rfl fun _ _ => s_mvL H0 ((e'2.2.2 g'3).elim fun r'4 e'5 => s_call (sc rfl rfl sn) e'5.1 (s_mvS rfl (s_mvI rfl (s_nil (W.ret (hQ _ _   _ _ rfl rfl  e'5.2)))))))))))))))))))
theorem p14 {prog : Prog} (hf : prog.fn 14 = some pf14) {l0 : List (List UInt8)} {K : List UInt8 → Int → Prop} (h : T14_0 prog K l0) : ∃ x0 : List UInt8, ∃ x1 : Int, K x0 x1 ∧ Pus prog 14 [.sl .ext (List.map rowS l0)] (.tup [.s x0, .i .i64 x1]) := by
  obtain ⟨v, hv, x0, x1, hk, rfl⟩ := Pus.of (K := fun v => ∃ x0 : List UInt8, ∃ x1 : Int, K x0 x1 ∧ v = .tup [.s x0, .i .i64 x1]) hf rfl (w14_0 (σ := sl0 [.sl .ext (List.map rowS l0)]) (fun σ st   x0 x1 H2 H3 hk => ⟨.tup [.s x0, .i .i64 x1], by simp only [pf14, ares, aresL, H2, H3, ares1, Option.map_some], _, rfl, x0, x1, hk, rfl⟩) rfl h)
  exact ⟨x0, x1, hk, hv⟩

/-! wreckage/wreckageref03.Number -/
def r16_0 : List AI := [⟨(some 2), .mv (.c (.s [])), none⟩]
def r16_1 : List AI := [⟨(some 3), .mv (.t 0), none⟩,
  ⟨(some 4), .bin .geq (.t 3) (.c (.i .i64 0)), none⟩]
def r16_2 : List AI := [⟨(some 5), .mv (.t 0), none⟩,
  ⟨(some 6), .cvi .u64 (.t 5), none⟩,
  ⟨(some 7), .call false 35 [(.t 6), (.c (.i .u64 10))], none⟩,
  ⟨(some 2), .mv (.t 7), none⟩]
def r16_3 : List AI := [⟨(some 8), .mv (.t 0), none⟩,
  ⟨(some 9), .bin .add (.t 8) (.c (.i .i64 1)), none⟩,
  ⟨(some 10), .un .neg (.t 9), none⟩,
  ⟨(some 11), .cvi .u64 (.t 10), none⟩,
  ⟨(some 12), .bin .add (.t 11) (.c (.i .u64 1)), none⟩,
  ⟨(some 13), .call false 35 [(.t 12), (.c (.i .u64 10))], none⟩,
  ⟨(some 14), .bin .add (.c (.s [45])) (.t 13), none⟩,
  ⟨(some 2), .mv (.t 14), none⟩]
abbrev b16 : AC := (.seq (.reg 0 r16_0) (.seq (.seq (.reg 1 r16_1) (.cond (.t 4) (.seq (.reg 2 r16_2) .ret) .skip)) (.seq (.reg 3 r16_3) .ret)))
def pf16 : AF := { nt := 15, res := [.tmp 2], body := b16 }
def T16_0 (prog : Prog) (K : List UInt8 → Prop) (n0 : Int) : Prop :=
  (n0 ≥ 0 → ∃ r'2 : List UInt8, Pus prog 35 [.i .u64 (IntKind.u64.wrap n0), .i .u64 10] (.s r'2) ∧ K r'2) ∧ (¬(n0 ≥ 0) → ∃ r'4 : List UInt8, Pus prog 35 [.i .u64 (IntKind.u64.wrap ((IntKind.u64.wrap (IntKind.i64.wrap (0 - (IntKind.i64.wrap (n0 + 1))))) + 1)), .i .u64 10] (.s r'4) ∧ ([45] : List UInt8).length + r'4.length ≤ maxStr ∧ K (([45] : List UInt8) ++ r'4))
theorem w16_0 {prog : Prog} {d : Nat} {Q : AE → Sl → St → Prop} {K : List UInt8 → Prop} (hQ : ∀ (σ : Sl) (st : St) (x0 : List UInt8), σ 2 = .s x0 → K x0 → Q .ret σ st) {n0 : Int}   {σ : Sl} {st : St} (H0 : σ 0 = .i .i64 n0) (h : T16_0 prog K n0) : W prog d (.seq (.reg 0 r16_0) (.seq (.seq (.reg 1 r16_1) (.cond (.t 4) (.seq (.reg 2 r16_2) .ret) .skip)) (.seq (.reg 3 r16_3) .ret))) σ st Q :=
  W.seq (W.reg0 rfl fun _ _ => s_mvS rfl (s_nil (W.seq (W.seq (W.reg0 rfl fun _ _ => s_mvI H0 (s_bin rfl rfl (abin_geq _ _ _) (s_nil (c_split rfl (fun g'1 => W.seq (W.reg0 rfl fun _ _ => s_mvI H0 (s_cvi rfl ((h.1 g'1).elim fun r'2 e'3 => s_call (sc rfl rfl (sc rfl rfl sn)) e'3.1 (s_mvS rfl (s_nil (W.ret (hQ _ _   _ rfl  e'3.2)))))))) (fun g'1 => W.skip (W.seq (W.reg0 rfl fun _ _ => s_mvI H0 (s_bin rfl rfl (abin_add _ _ _) (s_neg rfl (s_cvi rfl (s_bin rfl rfl (abin_add _ _ _) ((h.2 g'1).elim fun r'4 e'5 => s_call (sc rfl rfl (sc rfl rfl sn)) e'5.1 (s_bin rfl rfl (abin_cat' e'5.2.1) (s_mvS rfl (s_nil (W.ret (hQ _ _   _ rfl  e'5.2.2)))))))))))))))))))))
theorem p16 {prog : Prog} (hf : prog.fn 16 = some pf16) {n0 : Int} {K : List UInt8 → Prop} (h : T16_0 prog K n0) : ∃ x0 : List UInt8, K x0 ∧ Pus prog 16 [.i .i64 n0] (.s x0) := by
  obtain ⟨v, hv, x0, hk, rfl⟩ := Pus.of (K := fun v => ∃ x0 : List UInt8, K x0 ∧ v = .s x0) hf rfl (w16_0 (σ := sl0 [.i .i64 n0]) (fun σ st   x0 H2 hk => ⟨.s x0, by simp only [pf16, ares, aresL, H2, ares1, Option.map_some], _, rfl, x0, hk, rfl⟩) rfl h)
  exact ⟨x0, hk, hv⟩

/-! wreckage/wreckageref03.Hex -/
def r18_0 : List AI := [⟨(some 2), .mv (.c (.s [])), none⟩]
def r18_1 : List AI := [⟨(some 3), .mv (.t 0), none⟩,
  ⟨(some 4), .call false 35 [(.t 3), (.c (.i .u64 16))], none⟩,
  ⟨(some 5), .bin .add (.c (.s [48, 120])) (.t 4), none⟩,
  ⟨(some 2), .mv (.t 5), none⟩]
abbrev b18 : AC := (.seq (.reg 0 r18_0) (.seq (.reg 1 r18_1) .ret))
def pf18 : AF := { nt := 6, res := [.tmp 2], body := b18 }
def T18_0 (prog : Prog) (K : List UInt8 → Prop) (n0 : Int) : Prop :=
  ∃ r'1 : List UInt8, Pus prog 35 [.i .u64 n0, .i .u64 16] (.s r'1) ∧ ([48, 120] : List UInt8).length + r'1.length ≤ maxStr ∧ K (([48, 120] : List UInt8) ++ r'1)
theorem w18_0 {prog : Prog} {d : Nat} {Q : AE → Sl → St → Prop} {K : List UInt8 → Prop} (hQ : ∀ (σ : Sl) (st : St) (x0 : List UInt8), σ 2 = .s x0 → K x0 → Q .ret σ st) {n0 : Int}   {σ : Sl} {st : St} (H0 : σ 0 = .i .u64 n0) (h : T18_0 prog K n0) : W prog d (.seq (.reg 0 r18_0) (.seq (.reg 1 r18_1) .ret)) σ st Q :=
  W.seq (W.reg0 rfl fun _ _ => s_mvS rfl (s_nil (W.seq (W.reg0 rfl fun _ _ => s_mvI H0 (h.elim fun r'1 e'2 => s_call (sc rfl rfl (sc rfl rfl sn)) e'2.1 (s_bin rfl rfl (abin_cat' e'2.2.1) (s_mvS rfl (s_nil (W.ret (hQ _ _   _ rfl  e'2.2.2))))))))))
theorem p18 {prog : Prog} (hf : prog.fn 18 = some pf18) {n0 : Int} {K : List UInt8 → Prop} (h : T18_0 prog K n0) : ∃ x0 : List UInt8, K x0 ∧ Pus prog 18 [.i .u64 n0] (.s x0) := by
  obtain ⟨v, hv, x0, hk, rfl⟩ := Pus.of (K := fun v => ∃ x0 : List UInt8, K x0 ∧ v = .s x0) hf rfl (w18_0 (σ := sl0 [.i .u64 n0]) (fun σ st   x0 H2 hk => ⟨.s x0, by simp only [pf18, ares, aresL, H2, ares1, Option.map_some], _, rfl, x0, hk, rfl⟩) rfl h)
  exact ⟨x0, hk, hv⟩

/-! wreckage/wreckageref03.Short -/
def r20_0 : List AI := [⟨(some 2), .mv (.c (.b false)), none⟩]
def r20_1 : List AI := [⟨(some 3), .mv (.c (.i .i64 0)), none⟩]
def r20_2 : List AI := [⟨(some 4), .mv (.t 3), none⟩,
  ⟨(some 5), .mv (.t 0), none⟩,
  ⟨(some 6), .len false (.t 5), none⟩,
  ⟨(some 7), .bin .lss (.t 4) (.t 6), none⟩]
def r20_3 : List AI := [⟨(some 10), .mv (.t 0), none⟩,
  ⟨(some 11), .mv (.t 3), none⟩,
  ⟨(some 12), .iaL 1 (.t 10) (.t 11), none⟩,
  ⟨(some 13), .load 1 false (.t 12), none⟩,
  ⟨(some 14), .len true (.t 13), none⟩,
  ⟨(some 15), .bin .gtr (.t 14) (.c (.i .i64 400)), none⟩]
def r20_4 : List AI := [⟨(some 2), .mv (.c (.b false)), none⟩]
def r20_5 : List AI := [⟨(some 8), .mv (.t 3), none⟩,
  ⟨(some 9), .bin .add (.t 8) (.c (.i .i64 1)), none⟩,
  ⟨(some 3), .mv (.t 9), none⟩]
def r20_6 : List AI := [⟨(some 16), .mv (.t 0), none⟩,
  ⟨(some 17), .len false (.t 16), none⟩,
  ⟨(some 18), .bin .leq (.t 17) (.c (.i .i64 64)), none⟩,
  ⟨(some 2), .mv (.t 18), none⟩]
abbrev l20_0 : AC := (.seq (.seq (.reg 2 r20_2) (.cond (.t 7) .skip (.exit 0))) (.seq (.block 1 (.seq (.reg 4 r20_3) (.cond (.t 15) (.seq (.reg 5 r20_4) .ret) .skip))) (.reg 3 r20_5)))
abbrev c20_1 : AC := (.seq (.reg 6 r20_6) .ret)
abbrev b20 : AC := (.seq (.reg 0 r20_0) (.seq (.seq (.reg 1 r20_1) (.block 0 (.loop l20_0))) c20_1))
def pf20 : AF := { nt := 19, res := [.tmp 2], body := b20 }
abbrev I20_0 (prog : Prog) (d : Nat) (Q : AE → Sl → St → Prop) (l0 : List (List UInt8)) (i3 : Int) : Prop :=
  ∀ (σ : Sl) (st : St) (o_l0 : Own), σ 0 = .sl o_l0 (List.map rowS l0) → σ 3 = .i .i64 i3 → W prog d (.loop l20_0) σ st (blockW 0 (thenW prog d c20_1 Q))
def T20_2 (prog : Prog) (K : Bool → Prop) (l0 : List (List UInt8)) : Prop :=
  K (decide ((l0.length : Int) ≤ 64))
theorem w20_2 {prog : Prog} {d : Nat} {Q : AE → Sl → St → Prop} {K : Bool → Prop} (hQ : ∀ (σ : Sl) (st : St) (x0 : Bool), σ 2 = .b x0 → K x0 → Q .ret σ st) {l0 : List (List UInt8)}   {σ : Sl} {st : St} {o_l0 : Own} (H0 : σ 0 = .sl o_l0 (List.map rowS l0)) (h : T20_2 prog K l0) : W prog d c20_1 σ st Q :=
  W.seq (W.reg0 rfl fun _ _ => s_mvL H0 (s_lenL rfl (s_bin rfl rfl (abin_leq _ _ _) (s_mvB rfl (s_nil (W.ret (hQ _ _   _ rfl  h)))))))
def T20_1 (prog : Prog) (K : Bool → Prop) (P0 : Int → Prop) (l0 : List (List UInt8)) (i3 : Int) : Prop :=
  (i3 < (l0.length : Int) → 0 ≤ i3 ∧ ∃ c'2 : List UInt8, l0[(i3).toNat]? = some c'2 ∧ ((c'2.length : Int) > 400 → K false) ∧ (¬((c'2.length : Int) > 400) → P0 (IntKind.i64.wrap (i3 + 1)))) ∧ (¬(i3 < (l0.length : Int)) → T20_2 prog K l0)
theorem w20_1 {prog : Prog} {d : Nat} {Q : AE → Sl → St → Prop} {K : Bool → Prop} (hQ : ∀ (σ : Sl) (st : St) (x0 : Bool), σ 2 = .b x0 → K x0 → Q .ret σ st) {l0 : List (List UInt8)} {i3 : Int} {P0 : Int → Prop} (kP0 : ∀ (i3 : Int), P0 i3 → I20_0 prog d Q l0 i3) {σ : Sl} {st : St} {o_l0 : Own} (H0 : σ 0 = .sl o_l0 (List.map rowS l0)) (H3 : σ 3 = .i .i64 i3) (h : T20_1 prog K P0 l0 i3) : W prog d l20_0 σ st (thenW prog d (.loop l20_0) (blockW 0 (thenW prog d c20_1 Q))) :=
  W.seq (W.seq (W.reg0 rfl fun _ _ => s_mvI H3 (s_mvL H0 (s_lenL rfl (s_bin rfl rfl (abin_lss _ _ _) (s_nil (c_split rfl (fun g'1 => W.skip (W.seq (W.block (W.seq (W.reg0 rfl fun _ _ => s_mvL H0 (s_mvI H3 ((h.1 g'1).2.elim fun c'2 e'3 => s_iaL rfl rfl (h.1 g'1).1 e'3.1 rfl rfl (s_loadF rfl rfl rfl (s_lenS rfl (s_bin rfl rfl (abin_gtr _ _ _) (s_nil (c_split rfl (fun g'4 => W.seq (W.reg0 rfl fun _ _ => s_mvB rfl (s_nil (W.ret (hQ _ _   _ rfl  (e'3.2.1 g'4)))))) (fun g'4 => W.skip (W.reg0 rfl fun _ _ => s_mvI H3 (s_bin rfl rfl (abin_add _ _ _) (s_mvI rfl (s_nil (kP0 _ (e'3.2.2 g'4) _ _ _ H0 rfl)))))))))))))))))) (fun g'1 => W.exit (w20_2  hQ  H0 (h.2 g'1))))))))))
def T20_0 (prog : Prog) (K : Bool → Prop) (l0 : List (List UInt8)) : Prop :=
  ∀ P0 : Int → Prop, (∀ (i3 : Int), T20_1 prog K P0 l0 i3 → P0 i3) → P0 0
theorem w20_0 {prog : Prog} {d : Nat} {Q : AE → Sl → St → Prop} {K : Bool → Prop} (hQ : ∀ (σ : Sl) (st : St) (x0 : Bool), σ 2 = .b x0 → K x0 → Q .ret σ st) {l0 : List (List UInt8)}   {σ : Sl} {st : St} {o_l0 : Own} (H0 : σ 0 = .sl o_l0 (List.map rowS l0)) (h : T20_0 prog K l0) : W prog d (.seq (.reg 0 r20_0) (.seq (.seq (.reg 1 r20_1) (.block 0 (.loop l20_0))) c20_1)) σ st Q :=
  W.seq (W.reg0 rfl fun _ _ => s_mvB rfl (s_nil (W.seq (W.seq (W.reg0 rfl fun _ _ => s_mvI rfl (s_nil (W.block (h (I20_0 prog d Q l0) (fun _ hb _ _ _ H0 H3 => W.loop (w20_1 hQ (fun _ x => x) H0 H3 hb)) _ _ _ H0 rfl))))))))
theorem p20 {prog : Prog} (hf : prog.fn 20 = some pf20) {l0 : List (List UInt8)} {K : Bool → Prop} (h : T20_0 prog K l0) : ∃ x0 : Bool, K x0 ∧ Pus prog 20 [.sl .ext (List.map rowS l0)] (.b x0) := by
  obtain ⟨v, hv, x0, hk, rfl⟩ := Pus.of (K := fun v => ∃ x0 : Bool, K x0 ∧ v = .b x0) hf rfl (w20_0 (σ := sl0 [.sl .ext (List.map rowS l0)]) (fun σ st   x0 H2 hk => ⟨.b x0, by simp only [pf20, ares, aresL, H2, ares1, Option.map_some], _, rfl, x0, hk, rfl⟩) rfl h)
  exact ⟨x0, hk, hv⟩

/-! wreckage/wreckageref03.Unnumber -/
def r22_0 : List AI := [⟨(some 2), .mv (.c (.i .i64 0)), none⟩,
  ⟨(some 3), .mv (.c (.i .i64 0)), none⟩]
def r22_1 : List AI := [⟨(some 8), .mv (.t 0), none⟩,
  ⟨(some 9), .len true (.t 8), none⟩,
  ⟨(some 10), .bin .gtr (.t 9) (.c (.i .i64 2000)), none⟩]
def r22_2 : List AI := [⟨(some 2), .mv (.c (.i .i64 0)), none⟩,
  ⟨(some 3), .mv (.c (.i .i64 4)), none⟩]
def r22_3 : List AI := [⟨(some 11), .mv (.t 0), none⟩,
  ⟨(some 12), .len true (.t 11), none⟩,
  ⟨(some 13), .bin .gtr (.t 12) (.c (.i .i64 0)), none⟩,
  ⟨(some 14), .mv (.t 13), none⟩,
  ⟨(some 15), .mv (.t 0), (some (14, true))⟩,
  ⟨(some 16), .ixS (.t 15) (.c (.i .i64 0)), (some (14, true))⟩,
  ⟨(some 17), .bin .eql (.t 16) (.c (.i .u8 45)), (some (14, true))⟩,
  ⟨(some 18), .pick (.t 14) (.t 17) (.c (.b false)), none⟩]
def r22_4 : List AI := [⟨(some 19), .mv (.t 0), none⟩,
  ⟨(some 20), .bin .eql (.t 19) (.c (.s [45, 48])), none⟩]
def r22_5 : List AI := [⟨(some 2), .mv (.c (.i .i64 0)), none⟩,
  ⟨(some 3), .mv (.c (.i .i64 12)), none⟩]
def r22_6 : List AI := [⟨(some 22), .mv (.t 0), none⟩,
  ⟨(some 23), .slS (.t 22) (some (.c (.i .i64 1))) none, none⟩,
  ⟨(some 24), .call false 38 [(.t 23), (.c (.i .u64 10)), (.c (.i .u64 9223372036854775808))], none⟩,
  ⟨(some 21), .mv (.t 24), none⟩,
  ⟨(some 25), .ext 0 (.t 21), none⟩,
  ⟨(some 26), .ext 1 (.t 21), none⟩,
  ⟨(some 4), .mv (.t 25), none⟩,
  ⟨(some 5), .mv (.t 26), none⟩]
def r22_7 : List AI := [⟨(some 27), .mv (.t 5), none⟩,
  ⟨(some 28), .bin .neq (.t 27) (.c (.i .i64 0)), none⟩]
def r22_8 : List AI := [⟨(some 29), .mv (.t 5), none⟩,
  ⟨(some 2), .mv (.c (.i .i64 0)), none⟩,
  ⟨(some 3), .mv (.t 29), none⟩]
def r22_9 : List AI := [⟨(some 30), .mv (.t 4), none⟩,
  ⟨(some 31), .bin .sub (.t 30) (.c (.i .u64 1)), none⟩,
  ⟨(some 32), .cvi .i64 (.t 31), none⟩,
  ⟨(some 33), .un .neg (.t 32), none⟩,
  ⟨(some 34), .bin .sub (.t 33) (.c (.i .i64 1)), none⟩,
  ⟨(some 2), .mv (.t 34), none⟩,
  ⟨(some 3), .mv (.c (.i .i64 0)), none⟩]
def r22_10 : List AI := [⟨(some 36), .mv (.t 0), none⟩,
  ⟨(some 37), .call false 38 [(.t 36), (.c (.i .u64 10)), (.c (.i .u64 9223372036854775807))], none⟩,
  ⟨(some 35), .mv (.t 37), none⟩,
  ⟨(some 38), .ext 0 (.t 35), none⟩,
  ⟨(some 39), .ext 1 (.t 35), none⟩,
  ⟨(some 6), .mv (.t 38), none⟩,
  ⟨(some 7), .mv (.t 39), none⟩]
def r22_11 : List AI := [⟨(some 40), .mv (.t 7), none⟩,
  ⟨(some 41), .bin .neq (.t 40) (.c (.i .i64 0)), none⟩]
def r22_12 : List AI := [⟨(some 42), .mv (.t 7), none⟩,
  ⟨(some 2), .mv (.c (.i .i64 0)), none⟩,
  ⟨(some 3), .mv (.t 42), none⟩]
def r22_13 : List AI := [⟨(some 43), .mv (.t 6), none⟩,
  ⟨(some 44), .cvi .i64 (.t 43), none⟩,
  ⟨(some 2), .mv (.t 44), none⟩,
  ⟨(some 3), .mv (.c (.i .i64 0)), none⟩]
abbrev b22 : AC := (.seq (.reg 0 r22_0) (.seq (.seq (.reg 1 r22_1) (.cond (.t 10) (.seq (.reg 2 r22_2) .ret) .skip)) (.seq (.seq (.reg 3 r22_3) (.cond (.t 18) (.seq (.seq (.reg 4 r22_4) (.cond (.t 20) (.seq (.reg 5 r22_5) .ret) .skip)) (.seq (.reg 6 r22_6) (.seq (.seq (.reg 7 r22_7) (.cond (.t 28) (.seq (.reg 8 r22_8) .ret) .skip)) (.seq (.reg 9 r22_9) .ret)))) .skip)) (.seq (.reg 10 r22_10) (.seq (.seq (.reg 11 r22_11) (.cond (.t 41) (.seq (.reg 12 r22_12) .ret) .skip)) (.seq (.reg 13 r22_13) .ret))))))
def pf22 : AF := { nt := 45, res := [.tmp 2, .tmp 3], body := b22 }
def T22_0 (prog : Prog) (K : Int → Int → Prop) (s0 : List UInt8) : Prop :=
  ((s0.length : Int) > 2000 → K 0 4) ∧ (¬((s0.length : Int) > 2000) → ((s0.length : Int) > 0 → ∃ c'3 : UInt8, s0[0]? = some c'3 ∧ ((c'3.toNat : Int) = 45 → (s0 = ([45, 48] : List UInt8) → K 0 12) ∧ (¬(s0 = ([45, 48] : List UInt8)) → 1 ≤ s0.length ∧ ∃ r'7 : Int, ∃ r'8 : Int, Pus prog 38 [.s (s0.drop 1), .i .u64 10, .i .u64 9223372036854775808] (.tup [.i .u64 r'7, .i .i64 r'8]) ∧ (r'8 ≠ 0 → K 0 r'8) ∧ (¬(r'8 ≠ 0) → K (IntKind.i64.wrap ((IntKind.i64.wrap (0 - (IntKind.i64.wrap (IntKind.u64.wrap (r'7 - 1))))) - 1)) 0))) ∧ (¬((c'3.toNat : Int) = 45) → ∃ r'12 : Int, ∃ r'13 : Int, Pus prog 38 [.s s0, .i .u64 10, .i .u64 9223372036854775807] (.tup [.i .u64 r'12, .i .i64 r'13]) ∧ (r'13 ≠ 0 → K 0 r'13) ∧ (¬(r'13 ≠ 0) → K (IntKind.i64.wrap r'12) 0))) ∧ (¬((s0.length : Int) > 0) → ∃ r'17 : Int, ∃ r'18 : Int, Pus prog 38 [.s s0, .i .u64 10, .i .u64 9223372036854775807] (.tup [.i .u64 r'17, .i .i64 r'18]) ∧ (r'18 ≠ 0 → K 0 r'18) ∧ (¬(r'18 ≠ 0) → K (IntKind.i64.wrap r'17) 0)))
theorem w22_0 {prog : Prog} {d : Nat} {Q : AE → Sl → St → Prop} {K : Int → Int → Prop} (hQ : ∀ (σ : Sl) (st : St) (x0 : Int) (x1 : Int), σ 2 = .i .i64 x0 → σ 3 = .i .i64 x1 → K x0 x1 → Q .ret σ st) {s0 : List UInt8}   {σ : Sl} {st : St} (H0 : σ 0 = .s s0) (h : T22_0 prog K s0) : W prog d (.seq (.reg 0 r22_0) (.seq (.seq (.reg 1 r22_1) (.cond (.t 10) (.seq (.reg 2 r22_2) .ret) .skip)) (.seq (.seq (.reg 3 r22_3) (.cond (.t 18) (.seq (.seq (.reg 4 r22_4) (.cond (.t 20) (.seq (.reg 5 r22_5) .ret) .skip)) (.seq (.reg 6 r22_6) (.seq (.seq (.reg 7 r22_7) (.cond (.t 28) (.seq (.reg 8 r22_8) .ret) .skip)) (.seq (.reg 9 r22_9) .ret)))) .skip)) (.seq (.reg 10 r22_10) (.seq (.seq (.reg 11 r22_11) (.cond (.t 41) (.seq (.reg 12 r22_12) .ret) .skip)) (.seq (.reg 13 r22_13) .ret)))))) σ st Q :=
  W.seq (W.reg0 rfl fun _ _ => s_mvI rfl (s_mvI rfl (s_nil (W.seq (W.seq (W.reg0 rfl fun _ _ => s_mvS H0 (s_lenS rfl (s_bin rfl rfl (abin_gtr _ _ _) (s_nil (c_split rfl (fun g'1 => W.seq (W.reg0 rfl fun _ _ => s_mvI rfl (s_mvI rfl (s_nil (W.ret (hQ _ _   _ _ rfl rfl  (h.1 g'1))))))) (fun g'1 => W.skip (W.seq (W.seq (W.reg0 rfl fun _ _ => s_mvS H0 (s_lenS rfl (s_bin rfl rfl (abin_gtr _ _ _) (s_mvB rfl (s_em (g := 14) rfl (fun g'2 => s_gy rfl (s_mvS H0 (s_gy rfl (((h.2 g'1).1 g'2).elim fun c'3 e'4 => s_ixS rfl rfl (by decide) e'4.1 (s_gy rfl (s_bin rfl rfl (abin_eql _ _ _) (s_pickTB rfl rfl (s_nil (c_split rfl (fun g'5 => W.seq (W.seq (W.reg0 rfl fun _ _ => s_mvS H0 (s_bin rfl rfl (abin_seq _ _) (s_nil (c_split rfl (fun g'6 => W.seq (W.reg0 rfl fun _ _ => s_mvI rfl (s_mvI rfl (s_nil (W.ret (hQ _ _   _ _ rfl rfl  ((e'4.2.1 g'5).1 g'6))))))) (fun g'6 => W.skip (W.seq (W.reg0 rfl fun _ _ => s_mvS H0 (s_slS_lo rfl rfl (by decide) ((e'4.2.1 g'5).2 g'6).1 (((e'4.2.1 g'5).2 g'6).2.elim fun r'7 e'11 => e'11.elim fun r'8 e'9 => s_call (sc rfl rfl (sc rfl rfl (sc rfl rfl sn))) e'9.1 (s_mvT rfl (s_ext rfl rfl (s_ext rfl rfl (s_mvI rfl (s_mvI rfl (s_nil (W.seq (W.seq (W.reg0 rfl fun _ _ => s_mvI rfl (s_bin rfl rfl (abin_neq _ _ _) (s_nil (c_split rfl (fun g'10 => W.seq (W.reg0 rfl fun _ _ => s_mvI rfl (s_mvI rfl (s_mvI rfl (s_nil (W.ret (hQ _ _   _ _ rfl rfl  (e'9.2.1 g'10)))))))) (fun g'10 => W.skip (W.seq (W.reg0 rfl fun _ _ => s_mvI rfl (s_bin rfl rfl (abin_sub _ _ _) (s_cvi rfl (s_neg rfl (s_bin rfl rfl (abin_sub _ _ _) (s_mvI rfl (s_mvI rfl (s_nil (W.ret (hQ _ _   _ _ rfl rfl  (e'9.2.2 g'10)))))))))))))))))))))))))))))))))))) (fun g'5 => W.skip (W.seq (W.reg0 rfl fun _ _ => s_mvS H0 ((e'4.2.2 g'5).elim fun r'12 e'16 => e'16.elim fun r'13 e'14 => s_call (sc rfl rfl (sc rfl rfl (sc rfl rfl sn))) e'14.1 (s_mvT rfl (s_ext rfl rfl (s_ext rfl rfl (s_mvI rfl (s_mvI rfl (s_nil (W.seq (W.seq (W.reg0 rfl fun _ _ => s_mvI rfl (s_bin rfl rfl (abin_neq _ _ _) (s_nil (c_split rfl (fun g'15 => W.seq (W.reg0 rfl fun _ _ => s_mvI rfl (s_mvI rfl (s_mvI rfl (s_nil (W.ret (hQ _ _   _ _ rfl rfl  (e'14.2.1 g'15)))))))) (fun g'15 => W.skip (W.seq (W.reg0 rfl fun _ _ => s_mvI rfl (s_cvi rfl (s_mvI rfl (s_mvI rfl (s_nil (W.ret (hQ _ _   _ _ rfl rfl  (e'14.2.2 g'15))))))))))))))))))))))))))))))))))) (fun g'2 => s_gn (b := false) rfl rfl (s_gn (b := false) rfl rfl (s_gn (b := false) rfl rfl (s_pickFB rfl rfl (s_nil (c_ff rfl (W.skip (W.seq (W.reg0 rfl fun _ _ => s_mvS H0 (((h.2 g'1).2 g'2).elim fun r'17 e'21 => e'21.elim fun r'18 e'19 => s_call (sc rfl rfl (sc rfl rfl (sc rfl rfl sn))) e'19.1 (s_mvT rfl (s_ext rfl rfl (s_ext rfl rfl (s_mvI rfl (s_mvI rfl (s_nil (W.seq (W.seq (W.reg0 rfl fun _ _ => s_mvI rfl (s_bin rfl rfl (abin_neq _ _ _) (s_nil (c_split rfl (fun g'20 => W.seq (W.reg0 rfl fun _ _ => s_mvI rfl (s_mvI rfl (s_mvI rfl (s_nil (W.ret (hQ _ _   _ _ rfl rfl  (e'19.2.1 g'20)))))))) (fun g'20 => W.skip (W.seq (W.reg0 rfl fun _ _ => s_mvI rfl (s_cvi rfl (s_mvI rfl (s_mvI rfl (s_nil (W.ret (hQ _ _   _ _ rfl rfl  (e'19.2.2 g'20))))))))))))))))))))))))))))))))))))))))))))))))))
theorem p22 {prog : Prog} (hf : prog.fn 22 = some pf22) {s0 : List UInt8} {K : Int → Int → Prop} (h : T22_0 prog K s0) : ∃ x0 : Int, ∃ x1 : Int, K x0 x1 ∧ Pus prog 22 [.s s0] (.tup [.i .i64 x0, .i .i64 x1]) := by
  obtain ⟨v, hv, x0, x1, hk, rfl⟩ := Pus.of (K := fun v => ∃ x0 : Int, ∃ x1 : Int, K x0 x1 ∧ v = .tup [.i .i64 x0, .i .i64 x1]) hf rfl (w22_0 (σ := sl0 [.s s0]) (fun σ st   x0 x1 H2 H3 hk => ⟨.tup [.i .i64 x0, .i .i64 x1], by simp only [pf22, ares, aresL, H2, H3, ares1, Option.map_some], _, rfl, x0, x1, hk, rfl⟩) rfl h)
  exact ⟨x0, x1, hk, hv⟩

/-! wreckage/wreckageref03.Unhex -/
def r24_0 : List AI := [⟨(some 2), .mv (.c (.i .u64 0)), none⟩,
  ⟨(some 3), .mv (.c (.i .i64 0)), none⟩]
def r24_1 : List AI := [⟨(some 4), .mv (.t 0), none⟩,
  ⟨(some 5), .len true (.t 4), none⟩,
  ⟨(some 6), .bin .gtr (.t 5) (.c (.i .i64 2000)), none⟩]
def r24_2 : List AI := [⟨(some 2), .mv (.c (.i .u64 0)), none⟩,
  ⟨(some 3), .mv (.c (.i .i64 4)), none⟩]
def r24_3 : List AI := [⟨(some 7), .mv (.t 0), none⟩,
  ⟨(some 8), .len true (.t 7), none⟩,
  ⟨(some 9), .bin .lss (.t 8) (.c (.i .i64 2)), none⟩,
  ⟨(some 10), .mv (.t 9), none⟩,
  ⟨(some 11), .mv (.t 0), (some (10, false))⟩,
  ⟨(some 12), .slS (.t 11) none (some (.c (.i .i64 2))), (some (10, false))⟩,
  ⟨(some 13), .bin .neq (.t 12) (.c (.s [48, 120])), (some (10, false))⟩,
  ⟨(some 14), .pick (.t 10) (.c (.b true)) (.t 13), none⟩]
def r24_4 : List AI := [⟨(some 2), .mv (.c (.i .u64 0)), none⟩,
  ⟨(some 3), .mv (.c (.i .i64 12)), none⟩]
def r24_5 : List AI := [⟨(some 15), .mv (.t 0), none⟩,
  ⟨(some 16), .slS (.t 15) (some (.c (.i .i64 2))) none, none⟩,
  ⟨(some 17), .call false 38 [(.t 16), (.c (.i .u64 16)), (.c (.i .u64 18446744073709551615))], none⟩,
  ⟨(some 18), .ext 0 (.t 17), none⟩,
  ⟨(some 19), .ext 1 (.t 17), none⟩,
  ⟨(some 2), .mv (.t 18), none⟩,
  ⟨(some 3), .mv (.t 19), none⟩]
abbrev b24 : AC := (.seq (.reg 0 r24_0) (.seq (.seq (.reg 1 r24_1) (.cond (.t 6) (.seq (.reg 2 r24_2) .ret) .skip)) (.seq (.seq (.reg 3 r24_3) (.cond (.t 14) (.seq (.reg 4 r24_4) .ret) .skip)) (.seq (.reg 5 r24_5) .ret))))
def pf24 : AF := { nt := 20, res := [.tmp 2, .tmp 3], body := b24 }
def T24_0 (prog : Prog) (K : Int → Int → Prop) (s0 : List UInt8) : Prop :=
  ((s0.length : Int) > 2000 → K 0 4) ∧ (¬((s0.length : Int) > 2000) → ((s0.length : Int) < 2 → K 0 12) ∧ (¬((s0.length : Int) < 2) → 2 ≤ s0.length ∧ ((s0.take 2) ≠ ([48, 120] : List UInt8) → K 0 12) ∧ (¬((s0.take 2) ≠ ([48, 120] : List UInt8)) → 2 ≤ s0.length ∧ ∃ r'4 : Int, ∃ r'5 : Int, Pus prog 38 [.s (s0.drop 2), .i .u64 16, .i .u64 18446744073709551615] (.tup [.i .u64 r'4, .i .i64 r'5]) ∧ K r'4 r'5)))
theorem w24_0 {prog : Prog} {d : Nat} {Q : AE → Sl → St → Prop} {K : Int → Int → Prop} (hQ : ∀ (σ : Sl) (st : St) (x0 : Int) (x1 : Int), σ 2 = .i .u64 x0 → σ 3 = .i .i64 x1 → K x0 x1 → Q .ret σ st) {s0 : List UInt8}   {σ : Sl} {st : St} (H0 : σ 0 = .s s0) (h : T24_0 prog K s0) : W prog d (.seq (.reg 0 r24_0) (.seq (.seq (.reg 1 r24_1) (.cond (.t 6) (.seq (.reg 2 r24_2) .ret) .skip)) (.seq (.seq (.reg 3 r24_3) (.cond (.t 14) (.seq (.reg 4 r24_4) .ret) .skip)) (.seq (.reg 5 r24_5) .ret)))) σ st Q :=
  W.seq (W.reg0 rfl fun _ _ => s_mvI rfl (s_mvI rfl (s_nil (W.seq (W.seq (W.reg0 rfl fun _ _ => s_mvS H0 (s_lenS rfl (s_bin rfl rfl (abin_gtr _ _ _) (s_nil (c_split rfl (fun g'1 => W.seq (W.reg0 rfl fun _ _ => s_mvI rfl (s_mvI rfl (s_nil (W.ret (hQ _ _   _ _ rfl rfl  (h.1 g'1))))))) (fun g'1 => W.skip (W.seq (W.seq (W.reg0 rfl fun _ _ => s_mvS H0 (s_lenS rfl (s_bin rfl rfl (abin_lss _ _ _) (s_mvB rfl (s_em (g := 10) rfl (fun g'2 => s_gn (b := true) rfl rfl (s_gn (b := true) rfl rfl (s_gn (b := true) rfl rfl (s_pickTB rfl rfl (s_nil (c_tt rfl (W.seq (W.reg0 rfl fun _ _ => s_mvI rfl (s_mvI rfl (s_nil (W.ret (hQ _ _   _ _ rfl rfl  ((h.2 g'1).1 g'2))))))))))))) (fun g'2 => s_gy rfl (s_mvS H0 (s_gy rfl (s_slS_hi rfl rfl (by decide) ((h.2 g'1).2 g'2).1 (s_gy rfl (s_bin rfl rfl (abin_sne _ _) (s_pickFB rfl rfl (s_nil (c_split rfl (fun g'3 => W.seq (W.reg0 rfl fun _ _ => s_mvI rfl (s_mvI rfl (s_nil (W.ret (hQ _ _   _ _ rfl rfl  (((h.2 g'1).2 g'2).2.1 g'3))))))) (fun g'3 => W.skip (W.seq (W.reg0 rfl fun _ _ => s_mvS H0 (s_slS_lo rfl rfl (by decide) (((h.2 g'1).2 g'2).2.2 g'3).1 ((((h.2 g'1).2 g'2).2.2 g'3).2.elim fun r'4 e'7 => e'7.elim fun r'5 e'6 => s_call (sc rfl rfl (sc rfl rfl (sc rfl rfl sn))) e'6.1 (s_ext rfl rfl (s_ext rfl rfl (s_mvI rfl (s_mvI rfl (s_nil (W.ret (hQ _ _   _ _ rfl rfl  e'6.2)))))))))))))))))))))))))))))))))))))))
theorem p24 {prog : Prog} (hf : prog.fn 24 = some pf24) {s0 : List UInt8} {K : Int → Int → Prop} (h : T24_0 prog K s0) : ∃ x0 : Int, ∃ x1 : Int, K x0 x1 ∧ Pus prog 24 [.s s0] (.tup [.i .u64 x0, .i .i64 x1]) := by
  obtain ⟨v, hv, x0, x1, hk, rfl⟩ := Pus.of (K := fun v => ∃ x0 : Int, ∃ x1 : Int, K x0 x1 ∧ v = .tup [.i .u64 x0, .i .i64 x1]) hf rfl (w24_0 (σ := sl0 [.s s0]) (fun σ st   x0 x1 H2 H3 hk => ⟨.tup [.i .u64 x0, .i .i64 x1], by simp only [pf24, ares, aresL, H2, H3, ares1, Option.map_some], _, rfl, x0, x1, hk, rfl⟩) rfl h)
  exact ⟨x0, x1, hk, hv⟩

/-! wreckage/wreckageref03.Unquote -/
def r26_0 : List AI := [⟨(some 2), .mv (.c (.s [])), none⟩,
  ⟨(some 3), .mv (.c (.i .i64 0)), none⟩]
def r26_1 : List AI := [⟨(some 7), .mv (.t 0), none⟩,
  ⟨(some 8), .len true (.t 7), none⟩,
  ⟨(some 9), .bin .gtr (.t 8) (.c (.i .i64 2000)), none⟩]
def r26_2 : List AI := [⟨(some 2), .mv (.c (.s [])), none⟩,
  ⟨(some 3), .mv (.c (.i .i64 4)), none⟩]
def r26_3 : List AI := [⟨(some 11), .mv (.t 0), none⟩,
  ⟨(some 12), .call false 40 [(.t 11)], none⟩,
  ⟨(some 10), .mv (.t 12), none⟩,
  ⟨(some 13), .ext 0 (.t 10), none⟩,
  ⟨(some 14), .ext 1 (.t 10), none⟩,
  ⟨(some 15), .ext 2 (.t 10), none⟩,
  ⟨(some 4), .mv (.t 13), none⟩,
  ⟨(some 5), .mv (.t 14), none⟩,
  ⟨(some 6), .mv (.t 15), none⟩]
def r26_4 : List AI := [⟨(some 16), .mv (.t 6), none⟩,
  ⟨(some 17), .un .not (.t 16), none⟩,
  ⟨(some 18), .mv (.t 17), none⟩,
  ⟨(some 19), .mv (.t 5), (some (18, false))⟩,
  ⟨(some 20), .bin .neq (.t 19) (.c (.s [])), (some (18, false))⟩,
  ⟨(some 21), .pick (.t 18) (.c (.b true)) (.t 20), none⟩]
def r26_5 : List AI := [⟨(some 2), .mv (.c (.s [])), none⟩,
  ⟨(some 3), .mv (.c (.i .i64 12)), none⟩]
def r26_6 : List AI := [⟨(some 22), .mv (.t 4), none⟩,
  ⟨(some 23), .len true (.t 22), none⟩,
  ⟨(some 24), .bin .gtr (.t 23) (.c (.i .i64 400)), none⟩]
def r26_7 : List AI := [⟨(some 2), .mv (.c (.s [])), none⟩,
  ⟨(some 3), .mv (.c (.i .i64 4)), none⟩]
def r26_8 : List AI := [⟨(some 25), .mv (.t 4), none⟩,
  ⟨(some 2), .mv (.t 25), none⟩,
  ⟨(some 3), .mv (.c (.i .i64 0)), none⟩]
abbrev b26 : AC := (.seq (.reg 0 r26_0) (.seq (.seq (.reg 1 r26_1) (.cond (.t 9) (.seq (.reg 2 r26_2) .ret) .skip)) (.seq (.reg 3 r26_3) (.seq (.seq (.reg 4 r26_4) (.cond (.t 21) (.seq (.reg 5 r26_5) .ret) .skip)) (.seq (.seq (.reg 6 r26_6) (.cond (.t 24) (.seq (.reg 7 r26_7) .ret) .skip)) (.seq (.reg 8 r26_8) .ret))))))
def pf26 : AF := { nt := 26, res := [.tmp 2, .tmp 3], body := b26 }
def T26_0 (prog : Prog) (K : List UInt8 → Int → Prop) (s0 : List UInt8) : Prop :=
  ((s0.length : Int) > 2000 → K ([] : List UInt8) 4) ∧ (¬((s0.length : Int) > 2000) → ∃ r'2 : List UInt8, ∃ r'3 : List UInt8, ∃ r'4 : Bool, Pus prog 40 [.s s0] (.tup [.s r'2, .s r'3, .b r'4]) ∧ ((!r'4) = true → K ([] : List UInt8) 12) ∧ ((!r'4) = false → (r'3 ≠ ([] : List UInt8) → K ([] : List UInt8) 12) ∧ (¬(r'3 ≠ ([] : List UInt8)) → ((r'2.length : Int) > 400 → K ([] : List UInt8) 4) ∧ (¬((r'2.length : Int) > 400) → K r'2 0))))
theorem w26_0 {prog : Prog} {d : Nat} {Q : AE → Sl → St → Prop} {K : List UInt8 → Int → Prop} (hQ : ∀ (σ : Sl) (st : St) (x0 : List UInt8) (x1 : Int), σ 2 = .s x0 → σ 3 = .i .i64 x1 → K x0 x1 → Q .ret σ st) {s0 : List UInt8}   {σ : Sl} {st : St} (H0 : σ 0 = .s s0) (h : T26_0 prog K s0) : W prog d (.seq (.reg 0 r26_0) (.seq (.seq (.reg 1 r26_1) (.cond (.t 9) (.seq (.reg 2 r26_2) .ret) .skip)) (.seq (.reg 3 r26_3) (.seq (.seq (.reg 4 r26_4) (.cond (.t 21) (.seq (.reg 5 r26_5) .ret) .skip)) (.seq (.seq (.reg 6 r26_6) (.cond (.t 24) (.seq (.reg 7 r26_7) .ret) .skip)) (.seq (.reg 8 r26_8) .ret)))))) σ st Q :=
  W.seq (W.reg0 rfl fun _ _ => s_mvS rfl (s_mvI rfl (s_nil (W.seq (W.seq (W.reg0 rfl fun _ _ => s_mvS H0 (s_lenS rfl (s_bin rfl rfl (abin_gtr _ _ _) (s_nil (c_split rfl (fun g'1 => W.seq (W.reg0 rfl fun _ _ => s_mvS rfl (s_mvI rfl (s_nil (W.ret (hQ _ _   _ _ rfl rfl  (h.1 g'1))))))) (fun g'1 => W.skip (W.seq (W.reg0 rfl fun _ _ => s_mvS H0 ((h.2 g'1).elim fun r'2 e'9 => e'9.elim fun r'3 e'10 => e'10.elim fun r'4 e'5 => s_call (sc rfl rfl sn) e'5.1 (s_mvT rfl (s_ext rfl rfl (s_ext rfl rfl (s_ext rfl rfl (s_mvS rfl (s_mvS rfl (s_mvB rfl (s_nil (W.seq (W.seq (W.reg0 rfl fun _ _ => s_mvB rfl (s_not rfl (s_mvB rfl (s_emb (g := 18) rfl (fun g'6 => s_gn (b := true) rfl rfl (s_gn (b := true) rfl rfl (s_pickTB rfl rfl (s_nil (c_tt rfl (W.seq (W.reg0 rfl fun _ _ => s_mvS rfl (s_mvI rfl (s_nil (W.ret (hQ _ _   _ _ rfl rfl  (e'5.2.1 g'6)))))))))))) (fun g'6 => s_gy rfl (s_mvS rfl (s_gy rfl (s_bin rfl rfl (abin_sne _ _) (s_pickFB rfl rfl (s_nil (c_split rfl (fun g'7 => W.seq (W.reg0 rfl fun _ _ => s_mvS rfl (s_mvI rfl (s_nil (W.ret (hQ _ _   _ _ rfl rfl  ((e'5.2.2 g'6).1 g'7))))))) (fun g'7 => W.skip (W.seq (W.seq (W.reg0 rfl fun _ _ => s_mvS rfl (s_lenS rfl (s_bin rfl rfl (abin_gtr _ _ _) (s_nil (c_split rfl (fun g'8 => W.seq (W.reg0 rfl fun _ _ => s_mvS rfl (s_mvI rfl (s_nil (W.ret (hQ _ _   _ _ rfl rfl  (((e'5.2.2 g'6).2 g'7).1 g'8))))))) (fun g'8 => W.skip (W.seq (W.reg0 rfl fun _ _ => s_mvS rfl (s_mvS rfl (s_mvI rfl (s_nil (W.ret (hQ _ _   _ _ rfl rfl  (((e'5.2.2 g'6).2 g'7).2 g'8))))))))))))))))))))))))))))))))))))))))))))))))))))
theorem p26 {prog : Prog} (hf : prog.fn 26 = some pf26) {s0 : List UInt8} {K : List UInt8 → Int → Prop} (h : T26_0 prog K s0) : ∃ x0 : List UInt8, ∃ x1 : Int, K x0 x1 ∧ Pus prog 26 [.s s0] (.tup [.s x0, .i .i64 x1]) := by
  obtain ⟨v, hv, x0, x1, hk, rfl⟩ := Pus.of (K := fun v => ∃ x0 : List UInt8, ∃ x1 : Int, K x0 x1 ∧ v = .tup [.s x0, .i .i64 x1]) hf rfl (w26_0 (σ := sl0 [.s s0]) (fun σ st   x0 x1 H2 H3 hk => ⟨.tup [.s x0, .i .i64 x1], by simp only [pf26, ares, aresL, H2, H3, ares1, Option.map_some], _, rfl, x0, x1, hk, rfl⟩) rfl h)
  exact ⟨x0, x1, hk, hv⟩

/-! wreckage/wreckageref03.Unlist -/
def r28_0 : List AI := [⟨(some 2), .mv (.c (.sl .full [])), none⟩,
  ⟨(some 3), .mv (.c (.i .i64 0)), none⟩]
def r28_1 : List AI := [⟨(some 10), .mv (.t 0), none⟩,
  ⟨(some 11), .len true (.t 10), none⟩,
  ⟨(some 12), .bin .gtr (.t 11) (.c (.i .i64 200000)), none⟩]
def r28_2 : List AI := [⟨(some 2), .mv (.c (.sl .full [])), none⟩,
  ⟨(some 3), .mv (.c (.i .i64 4)), none⟩]
def r28_3 : List AI := [⟨(some 13), .mv (.t 0), none⟩,
  ⟨(some 14), .bin .eql (.t 13) (.c (.s [91, 93])), none⟩]
def r28_4 : List AI := [⟨(some 2), .mv (.c (.sl .full [])), none⟩,
  ⟨(some 3), .mv (.c (.i .i64 0)), none⟩]
def r28_5 : List AI := [⟨(some 4), .mv (.c (.sl .full [])), none⟩]
def r28_6 : List AI := [⟨(some 5), .mv (.c (.b true)), none⟩]
def r28_7 : List AI := [⟨(some 6), .mv (.c (.s [44, 32])), none⟩]
def r28_8 : List AI := [⟨(some 15), .mv (.t 5), none⟩]
def r28_9 : List AI := [⟨(some 6), .mv (.c (.s [91])), none⟩]
def r28_10 : List AI := [⟨(some 16), .mv (.t 0), none⟩,
  ⟨(some 17), .len true (.t 16), none⟩,
  ⟨(some 18), .mv (.t 6), none⟩,
  ⟨(some 19), .len true (.t 18), none⟩,
  ⟨(some 20), .bin .lss (.t 17) (.t 19), none⟩,
  ⟨(some 21), .mv (.t 20), none⟩,
  ⟨(some 22), .mv (.t 0), (some (21, false))⟩,
  ⟨(some 23), .mv (.t 6), (some (21, false))⟩,
  ⟨(some 24), .len true (.t 23), (some (21, false))⟩,
  ⟨(some 25), .slS (.t 22) none (some (.t 24)), (some (21, false))⟩,
  ⟨(some 26), .mv (.t 6), (some (21, false))⟩,
  ⟨(some 27), .bin .neq (.t 25) (.t 26), (some (21, false))⟩,
  ⟨(some 28), .pick (.t 21) (.c (.b true)) (.t 27), none⟩]
def r28_11 : List AI := [⟨(some 2), .mv (.c (.sl .full [])), none⟩,
  ⟨(some 3), .mv (.c (.i .i64 12)), none⟩]
def r28_12 : List AI := [⟨(some 30), .mv (.t 0), none⟩,
  ⟨(some 31), .mv (.t 6), none⟩,
  ⟨(some 32), .len true (.t 31), none⟩,
  ⟨(some 33), .slS (.t 30) (some (.t 32)) none, none⟩,
  ⟨(some 34), .call false 40 [(.t 33)], none⟩,
  ⟨(some 29), .mv (.t 34), none⟩,
  ⟨(some 35), .ext 0 (.t 29), none⟩,
  ⟨(some 36), .ext 1 (.t 29), none⟩,
  ⟨(some 37), .ext 2 (.t 29), none⟩,
  ⟨(some 7), .mv (.t 35), none⟩,
  ⟨(some 8), .mv (.t 36), none⟩,
  ⟨(some 9), .mv (.t 37), none⟩]
def r28_13 : List AI := [⟨(some 38), .mv (.t 9), none⟩,
  ⟨(some 39), .un .not (.t 38), none⟩]
def r28_14 : List AI := [⟨(some 2), .mv (.c (.sl .full [])), none⟩,
  ⟨(some 3), .mv (.c (.i .i64 12)), none⟩]
def r28_15 : List AI := [⟨(some 40), .mv (.t 4), none⟩,
  ⟨(some 41), .mv (.t 7), none⟩,
  ⟨(some 42), .bslice [.s []] 1 [(0, (.t 41))], none⟩,
  ⟨(some 43), .app 1 16 (.t 40) (.t 42), none⟩,
  ⟨(some 4), .mv (.t 43), none⟩]
def r28_16 : List AI := [⟨(some 44), .mv (.t 8), none⟩,
  ⟨(some 0), .mv (.t 44), none⟩]
def r28_17 : List AI := [⟨(some 45), .mv (.t 0), none⟩,
  ⟨(some 46), .bin .eql (.t 45) (.c (.s [93])), none⟩]
def r28_18 : List AI := [⟨(some 5), .mv (.c (.b false)), none⟩]
def r28_19 : List AI := [⟨(some 47), .mv (.t 4), none⟩,
  ⟨(some 48), .call false 20 [(.t 47)], none⟩,
  ⟨(some 49), .un .not (.t 48), none⟩]
def r28_20 : List AI := [⟨(some 2), .mv (.c (.sl .full [])), none⟩,
  ⟨(some 3), .mv (.c (.i .i64 4)), none⟩]
def r28_21 : List AI := [⟨(some 50), .mv (.t 4), none⟩,
  ⟨(some 2), .mv (.t 50), none⟩,
  ⟨(some 3), .mv (.c (.i .i64 0)), none⟩]
abbrev c28_0 : AC := (.seq (.seq (.reg 11 r28_10) (.cond (.t 28) (.seq (.reg 12 r28_11) .ret) .skip)) (.seq (.reg 13 r28_12) (.seq (.seq (.reg 14 r28_13) (.cond (.t 39) (.seq (.reg 15 r28_14) .ret) .skip)) (.seq (.reg 16 r28_15) (.seq (.reg 17 r28_16) (.seq (.reg 18 r28_17) (.cond (.t 46) (.exit 0) .skip)))))))
abbrev l28_0 : AC := (.seq (.block 1 (.seq (.reg 8 r28_7) (.seq (.seq (.reg 9 r28_8) (.cond (.t 15) (.reg 10 r28_9) .skip)) c28_0))) (.reg 7 r28_18))
abbrev c28_2 : AC := (.seq (.seq (.reg 19 r28_19) (.cond (.t 49) (.seq (.reg 20 r28_20) .ret) .skip)) (.seq (.reg 21 r28_21) .ret))
abbrev c28_3 : AC := (.seq (.seq (.reg 1 r28_1) (.cond (.t 12) (.seq (.reg 2 r28_2) .ret) .skip)) (.seq (.seq (.reg 3 r28_3) (.cond (.t 14) (.seq (.reg 4 r28_4) .ret) .skip)) (.seq (.reg 5 r28_5) (.seq (.seq (.reg 6 r28_6) (.block 0 (.loop l28_0))) c28_2))))
abbrev b28 : AC := (.seq (.reg 0 r28_0) c28_3)
def pf28 : AF := { nt := 51, res := [.tmp 2, .tmp 3], body := b28 }
abbrev I28_0 (prog : Prog) (d : Nat) (Q : AE → Sl → St → Prop) (s0 : List UInt8) (out4 : List (List UInt8)) (first5 : Bool) : Prop :=
  ∀ (σ : Sl) (st : St) (o_out4 : Own), σ 0 = .s s0 → σ 4 = .sl o_out4 (List.map rowS out4) → σ 5 = .b first5 → ApM d st.ow o_out4 out4.length → W prog d (.loop l28_0) σ st (blockW 0 (thenW prog d c28_2 Q))
def T28_4 (prog : Prog) (K : List (List UInt8) → Int → Prop) (out4 : List (List UInt8)) : Prop :=
  ∃ r'1 : Bool, Pus prog 20 [.sl .ext (List.map rowS out4)] (.b r'1) ∧ ((!r'1) = true → K ([] : List (List UInt8)) 4) ∧ ((!r'1) = false → K out4 0)
theorem w28_4 {prog : Prog} {d : Nat} {Q : AE → Sl → St → Prop} {K : List (List UInt8) → Int → Prop} (hQ : ∀ (σ : Sl) (st : St) (o0 : Own) (x0 : List (List UInt8)) (x1 : Int), σ 2 = .sl o0 (List.map rowS x0) → σ 3 = .i .i64 x1 → K x0 x1 → Q .ret σ st) {out4 : List (List UInt8)}   {σ : Sl} {st : St} {o_out4 : Own} (H4 : σ 4 = .sl o_out4 (List.map rowS out4)) (A4 : ApM d st.ow o_out4 out4.length) (h : T28_4 prog K out4) : W prog d c28_2 σ st Q :=
  W.seq (W.seq (W.reg0 rfl fun _ _ => s_mvL H4 (h.elim fun r'1 e'2 => s_call (sc rfl rfl sn) e'2.1 (s_not rfl (s_nil (c_bool rfl (fun g'3 => W.seq (W.reg0 rfl fun _ _ => s_mvL (f := rowS) (l := []) rfl (s_mvI rfl (s_nil (W.ret (hQ _ _  _ _ _ rfl rfl  (e'2.2.1 g'3))))))) (fun g'3 => W.skip (W.seq (W.reg0 rfl fun _ _ => s_mvL H4 (s_mvL rfl (s_mvI rfl (s_nil (W.ret (hQ _ _  _ _ _ rfl rfl  (e'2.2.2 g'3)))))))))))))))
def T28_3 (prog : Prog) (K : List (List UInt8) → Int → Prop) (P0 : List UInt8 → List (List UInt8) → Bool → Prop) (s0 : List UInt8) (out4 : List (List UInt8)) (lead6 : List UInt8) : Prop :=
  ((s0.length : Int) < (lead6.length : Int) → K ([] : List (List UInt8)) 12) ∧ (¬((s0.length : Int) < (lead6.length : Int)) → 0 ≤ (lead6.length : Int) ∧ (lead6.length : Int).toNat ≤ s0.length ∧ ((s0.take (lead6.length : Int).toNat) ≠ lead6 → K ([] : List (List UInt8)) 12) ∧ (¬((s0.take (lead6.length : Int).toNat) ≠ lead6) → 0 ≤ (lead6.length : Int) ∧ (lead6.length : Int).toNat ≤ s0.length ∧ ∃ r'3 : List UInt8, ∃ r'4 : List UInt8, ∃ r'5 : Bool, Pus prog 40 [.s (s0.drop (lead6.length : Int).toNat)] (.tup [.s r'3, .s r'4, .b r'5]) ∧ ((!r'5) = true → K ([] : List (List UInt8)) 12) ∧ ((!r'5) = false → Fit (out4.length + [r'3].length) 16 ∧ (r'4 = ([93] : List UInt8) → T28_4 prog K (out4 ++ [r'3])) ∧ (¬(r'4 = ([93] : List UInt8)) → P0 r'4 (out4 ++ [r'3]) false))))
theorem w28_3 {prog : Prog} {d : Nat} {Q : AE → Sl → St → Prop} {K : List (List UInt8) → Int → Prop} (hQ : ∀ (σ : Sl) (st : St) (o0 : Own) (x0 : List (List UInt8)) (x1 : Int), σ 2 = .sl o0 (List.map rowS x0) → σ 3 = .i .i64 x1 → K x0 x1 → Q .ret σ st) {s0 : List UInt8} {out4 : List (List UInt8)} {lead6 : List UInt8} {P0 : List UInt8 → List (List UInt8) → Bool → Prop} (kP0 : ∀ (s0 : List UInt8) (out4 : List (List UInt8)) (first5 : Bool), P0 s0 out4 first5 → I28_0 prog d Q  s0 out4 first5) {σ : Sl} {st : St} {o_out4 : Own} (H0 : σ 0 = .s s0) (H4 : σ 4 = .sl o_out4 (List.map rowS out4)) (H6 : σ 6 = .s lead6) (A4 : ApM d st.ow o_out4 out4.length) (h : T28_3 prog K P0 s0 out4 lead6) : W prog d c28_0 σ st (blockW 1 (thenW prog d (.reg 7 r28_18) (thenW prog d (.loop l28_0) (blockW 0 (thenW prog d c28_2 Q))))) :=
  W.seq (W.seq (W.reg0 rfl fun _ _ => s_mvS H0 (s_lenS rfl (s_mvS H6 (s_lenS rfl (s_bin rfl rfl (abin_lss _ _ _) (s_mvB rfl (s_em (g := 21) rfl (fun g'1 => s_gn (b := true) rfl rfl (s_gn (b := true) rfl rfl (s_gn (b := true) rfl rfl (s_gn (b := true) rfl rfl (s_gn (b := true) rfl rfl (s_gn (b := true) rfl rfl (s_pickTB rfl rfl (s_nil (c_tt rfl (W.seq (W.reg0 rfl fun _ _ => s_mvL (f := rowS) (l := []) rfl (s_mvI rfl (s_nil (W.ret (hQ _ _  _ _ _ rfl rfl  (h.1 g'1)))))))))))))))) (fun g'1 => s_gy rfl (s_mvS H0 (s_gy rfl (s_mvS H6 (s_gy rfl (s_lenS rfl (s_gy rfl (s_slS_hi rfl rfl (h.2 g'1).1 (h.2 g'1).2.1 (s_gy rfl (s_mvS H6 (s_gy rfl (s_bin rfl rfl (abin_sne _ _) (s_pickFB rfl rfl (s_nil (c_split rfl (fun g'2 => W.seq (W.reg0 rfl fun _ _ => s_mvL (f := rowS) (l := []) rfl (s_mvI rfl (s_nil (W.ret (hQ _ _  _ _ _ rfl rfl  ((h.2 g'1).2.2.1 g'2))))))) (fun g'2 => W.skip (W.seq (W.reg0 rfl fun _ _ => s_mvS H0 (s_mvS H6 (s_lenS rfl (s_slS_lo rfl rfl ((h.2 g'1).2.2.2 g'2).1 ((h.2 g'1).2.2.2 g'2).2.1 (((h.2 g'1).2.2.2 g'2).2.2.elim fun r'3 e'14 => e'14.elim fun r'4 e'15 => e'15.elim fun r'5 e'6 => s_call (sc rfl rfl sn) e'6.1 (s_mvT rfl (s_ext rfl rfl (s_ext rfl rfl (s_ext rfl rfl (s_mvS rfl (s_mvS rfl (s_mvB rfl (s_nil (W.seq (W.seq (W.reg0 rfl fun _ _ => s_mvB rfl (s_not rfl (s_nil (c_bool rfl (fun g'7 => W.seq (W.reg0 rfl fun _ _ => s_mvL (f := rowS) (l := []) rfl (s_mvI rfl (s_nil (W.ret (hQ _ _  _ _ _ rfl rfl  (e'6.2.1 g'7))))))) (fun g'7 => W.skip (W.seq (W.reg0 rfl fun _ _ => s_mvL H4 (s_mvS rfl (s_bslM (f := rowS) (l := [r'3]) rfl rfl (g_cons rfl rfl rfl g_nil) rfl (s_app rowS_len rfl rfl rfl A4.1 (e'6.2.2 g'7).1 rfl (fun o'8 ow'11 a'9 fr'10 on'12 => s_mvL rfl (s_nil (W.seq (W.reg0 rfl fun _ _ => s_mvS rfl (s_mvS rfl (s_nil (W.seq (W.reg0 rfl fun _ _ => s_mvS rfl (s_bin rfl rfl (abin_seq _ _) (s_nil (c_split rfl (fun g'13 => W.exit (w28_4  hQ  rfl (ApM.mk a'9 (Mine.app A4.2 rfl on'12)) ((e'6.2.2 g'7).2.1 g'13))) (fun g'13 => W.skip (W.reg0 rfl fun _ _ => s_mvB rfl (s_nil (kP0 _ _ _ ((e'6.2.2 g'7).2.2 g'13) _ _ _ rfl rfl rfl (ApM.mk a'9 (Mine.app A4.2 rfl on'12)))))))))))))))))))))))))))))))))))))))))))))))))))))))))))))))))))
def T28_2 (prog : Prog) (K : List (List UInt8) → Int → Prop) (P0 : List UInt8 → List (List UInt8) → Bool → Prop) (s0 : List UInt8) (out4 : List (List UInt8)) (first5 : Bool) : Prop :=
  (first5 = true → T28_3 prog K P0 s0 out4 ([91] : List UInt8)) ∧ (first5 = false → T28_3 prog K P0 s0 out4 ([44, 32] : List UInt8))
theorem w28_2 {prog : Prog} {d : Nat} {Q : AE → Sl → St → Prop} {K : List (List UInt8) → Int → Prop} (hQ : ∀ (σ : Sl) (st : St) (o0 : Own) (x0 : List (List UInt8)) (x1 : Int), σ 2 = .sl o0 (List.map rowS x0) → σ 3 = .i .i64 x1 → K x0 x1 → Q .ret σ st) {s0 : List UInt8} {out4 : List (List UInt8)} {first5 : Bool} {P0 : List UInt8 → List (List UInt8) → Bool → Prop} (kP0 : ∀ (s0 : List UInt8) (out4 : List (List UInt8)) (first5 : Bool), P0 s0 out4 first5 → I28_0 prog d Q  s0 out4 first5) {σ : Sl} {st : St} {o_out4 : Own} (H0 : σ 0 = .s s0) (H4 : σ 4 = .sl o_out4 (List.map rowS out4)) (H5 : σ 5 = .b first5) (A4 : ApM d st.ow o_out4 out4.length) (h : T28_2 prog K P0 s0 out4 first5) : W prog d l28_0 σ st (thenW prog d (.loop l28_0) (blockW 0 (thenW prog d c28_2 Q))) :=
  W.seq (W.block (W.seq (W.reg0 rfl fun _ _ => s_mvS rfl (s_nil (W.seq (W.seq (W.reg0 rfl fun _ _ => s_mvB H5 (s_nil (c_bool rfl (fun g'1 => W.reg0 rfl fun _ _ => s_mvS rfl (s_nil (w28_3  hQ kP0 H0 H4 rfl A4 (h.1 g'1)))) (fun g'1 => W.skip (w28_3  hQ kP0 H0 H4 rfl A4 (h.2 g'1))))))))))))
def T28_1 (prog : Prog) (K : List (List UInt8) → Int → Prop) (s0 : List UInt8) : Prop :=
  ((s0.length : Int) > 200000 → K ([] : List (List UInt8)) 4) ∧ (¬((s0.length : Int) > 200000) → (s0 = ([91, 93] : List UInt8) → K ([] : List (List UInt8)) 0) ∧ (¬(s0 = ([91, 93] : List UInt8)) → ∀ P0 : List UInt8 → List (List UInt8) → Bool → Prop, (∀ (s0 : List UInt8) (out4 : List (List UInt8)) (first5 : Bool), T28_2 prog K P0 s0 out4 first5 → P0 s0 out4 first5) → P0 s0 ([] : List (List UInt8)) true))
theorem w28_1 {prog : Prog} {d : Nat} {Q : AE → Sl → St → Prop} {K : List (List UInt8) → Int → Prop} (hQ : ∀ (σ : Sl) (st : St) (o0 : Own) (x0 : List (List UInt8)) (x1 : Int), σ 2 = .sl o0 (List.map rowS x0) → σ 3 = .i .i64 x1 → K x0 x1 → Q .ret σ st) {s0 : List UInt8}   {σ : Sl} {st : St} (H0 : σ 0 = .s s0) (h : T28_1 prog K s0) : W prog d c28_3 σ st Q :=
  W.seq (W.seq (W.reg0 rfl fun _ _ => s_mvS H0 (s_lenS rfl (s_bin rfl rfl (abin_gtr _ _ _) (s_nil (c_split rfl (fun g'1 => W.seq (W.reg0 rfl fun _ _ => s_mvL (f := rowS) (l := []) rfl (s_mvI rfl (s_nil (W.ret (hQ _ _  _ _ _ rfl rfl  (h.1 g'1))))))) (fun g'1 => W.skip (W.seq (W.seq (W.reg0 rfl fun _ _ => s_mvS H0 (s_bin rfl rfl (abin_seq _ _) (s_nil (c_split rfl (fun g'2 => W.seq (W.reg0 rfl fun _ _ => s_mvL (f := rowS) (l := []) rfl (s_mvI rfl (s_nil (W.ret (hQ _ _  _ _ _ rfl rfl  ((h.2 g'1).1 g'2))))))) (fun g'2 => W.skip (W.seq (W.reg0 rfl fun _ _ => s_mvL (f := rowS) (l := []) rfl (s_nil (W.seq (W.seq (W.reg0 rfl fun _ _ => s_mvB rfl (s_nil (W.block (((h.2 g'1).2 g'2) (I28_0 prog d Q ) (fun _ _ _ hb _ _ _ H0 H4 H5 A4 => W.loop (w28_2 hQ (fun _ _ _ x => x) H0 H4 H5 A4 hb)) _ _ _ H0 rfl rfl ApM.full)))))))))))))))))))))))
def T28_0 (prog : Prog) (K : List (List UInt8) → Int → Prop) (s0 : List UInt8) : Prop :=
  T28_1 prog K s0
theorem w28_0 {prog : Prog} {d : Nat} {Q : AE → Sl → St → Prop} {K : List (List UInt8) → Int → Prop} (hQ : ∀ (σ : Sl) (st : St) (o0 : Own) (x0 : List (List UInt8)) (x1 : Int), σ 2 = .sl o0 (List.map rowS x0) → σ 3 = .i .i64 x1 → K x0 x1 → Q .ret σ st) {s0 : List UInt8}   {σ : Sl} {st : St} (H0 : σ 0 = .s s0) (h : T28_0 prog K s0) : W prog d (.seq (.reg 0 r28_0) c28_3) σ st Q :=
  W.seq (W.reg0 rfl fun _ _ => s_mvL (f := rowS) (l := []) rfl (s_mvI rfl (s_nil (w28_1  hQ  H0 h))))
theorem p28 {prog : Prog} (hf : prog.fn 28 = some pf28) {s0 : List UInt8} {K : List (List UInt8) → Int → Prop} (h : T28_0 prog K s0) : ∃ x0 : List (List UInt8), ∃ x1 : Int, K x0 x1 ∧ Pus prog 28 [.s s0] (.tup [.sl .ext (List.map rowS x0), .i .i64 x1]) := by
  obtain ⟨v, hv, x0, x1, hk, rfl⟩ := Pus.of (K := fun v => ∃ x0 : List (List UInt8), ∃ x1 : Int, K x0 x1 ∧ v = .tup [.sl .ext (List.map rowS x0), .i .i64 x1]) hf rfl (w28_0 (σ := sl0 [.s s0]) (fun σ st  o0 x0 x1 H2 H3 hk => ⟨.tup [.sl o0 (List.map rowS x0), .i .i64 x1], by simp only [pf28, ares, aresL, H2, H3, ares1, Option.map_some], _, rfl, x0, x1, hk, rfl⟩) rfl h)
  exact ⟨x0, x1, hk, hv⟩

/-! wreckage/wreckageref03.Same -/
def r29_0 : List AI := [⟨(some 4), .mv (.c (.b false)), none⟩]
def r29_1 : List AI := [⟨(some 6), .mv (.t 0), none⟩,
  ⟨(some 7), .len false (.t 6), none⟩,
  ⟨(some 8), .mv (.t 1), none⟩,
  ⟨(some 9), .len false (.t 8), none⟩,
  ⟨(some 10), .bin .neq (.t 7) (.t 9), none⟩]
def r29_2 : List AI := [⟨(some 4), .mv (.c (.b false)), none⟩]
def r29_3 : List AI := [⟨(some 5), .mv (.c (.i .i64 0)), none⟩]
def r29_4 : List AI := [⟨(some 11), .mv (.t 5), none⟩,
  ⟨(some 12), .mv (.t 0), none⟩,
  ⟨(some 13), .len false (.t 12), none⟩,
  ⟨(some 14), .bin .lss (.t 11) (.t 13), none⟩]
def r29_5 : List AI := [⟨(some 17), .mv (.t 0), none⟩,
  ⟨(some 18), .mv (.t 5), none⟩,
  ⟨(some 19), .iaL 1 (.t 17) (.t 18), none⟩,
  ⟨(some 20), .load 1 false (.t 19), none⟩,
  ⟨(some 21), .mv (.t 1), none⟩,
  ⟨(some 22), .mv (.t 5), none⟩,
  ⟨(some 23), .iaL 1 (.t 21) (.t 22), none⟩,
  ⟨(some 24), .load 1 false (.t 23), none⟩,
  ⟨(some 25), .bin .neq (.t 20) (.t 24), none⟩]
def r29_6 : List AI := [⟨(some 4), .mv (.c (.b false)), none⟩]
def r29_7 : List AI := [⟨(some 15), .mv (.t 5), none⟩,
  ⟨(some 16), .bin .add (.t 15) (.c (.i .i64 1)), none⟩,
  ⟨(some 5), .mv (.t 16), none⟩]
def r29_8 : List AI := [⟨(some 4), .mv (.c (.b true)), none⟩]
abbrev l29_0 : AC := (.seq (.seq (.reg 4 r29_4) (.cond (.t 14) .skip (.exit 0))) (.seq (.block 1 (.seq (.reg 6 r29_5) (.cond (.t 25) (.seq (.reg 7 r29_6) .ret) .skip))) (.reg 5 r29_7)))
abbrev c29_1 : AC := (.seq (.reg 8 r29_8) .ret)
abbrev b29 : AC := (.seq (.reg 0 r29_0) (.seq (.seq (.reg 1 r29_1) (.cond (.t 10) (.seq (.reg 2 r29_2) .ret) .skip)) (.seq (.seq (.reg 3 r29_3) (.block 0 (.loop l29_0))) c29_1)))
def pf29 : AF := { nt := 26, res := [.tmp 4], body := b29 }
abbrev I29_0 (prog : Prog) (d : Nat) (Q : AE → Sl → St → Prop) (a0 : List (List UInt8)) (b1 : List (List UInt8)) (i5 : Int) : Prop :=
  ∀ (σ : Sl) (st : St) (o_a0 o_b1 : Own), σ 0 = .sl o_a0 (List.map rowS a0) → σ 1 = .sl o_b1 (List.map rowS b1) → σ 5 = .i .i64 i5 → W prog d (.loop l29_0) σ st (blockW 0 (thenW prog d c29_1 Q))
def T29_2 (prog : Prog) (K : Bool → Prop)  : Prop :=
  K true
theorem w29_2 {prog : Prog} {d : Nat} {Q : AE → Sl → St → Prop} {K : Bool → Prop} (hQ : ∀ (σ : Sl) (st : St) (x0 : Bool), σ 4 = .b x0 → K x0 → Q .ret σ st)    {σ : Sl} {st : St}  (h : T29_2 prog K ) : W prog d c29_1 σ st Q :=
  W.seq (W.reg0 rfl fun _ _ => s_mvB rfl (s_nil (W.ret (hQ _ _   _ rfl  h))))
def T29_1 (prog : Prog) (K : Bool → Prop) (P0 : Int → Prop) (a0 : List (List UInt8)) (b1 : List (List UInt8)) (i5 : Int) : Prop :=
  (i5 < (a0.length : Int) → 0 ≤ i5 ∧ ∃ c'2 : List UInt8, a0[(i5).toNat]? = some c'2 ∧ 0 ≤ i5 ∧ ∃ c'4 : List UInt8, b1[(i5).toNat]? = some c'4 ∧ (c'2 ≠ c'4 → K false) ∧ (¬(c'2 ≠ c'4) → P0 (IntKind.i64.wrap (i5 + 1)))) ∧ (¬(i5 < (a0.length : Int)) → T29_2 prog K )
theorem w29_1 {prog : Prog} {d : Nat} {Q : AE → Sl → St → Prop} {K : Bool → Prop} (hQ : ∀ (σ : Sl) (st : St) (x0 : Bool), σ 4 = .b x0 → K x0 → Q .ret σ st) {a0 : List (List UInt8)} {b1 : List (List UInt8)} {i5 : Int} {P0 : Int → Prop} (kP0 : ∀ (i5 : Int), P0 i5 → I29_0 prog d Q a0 b1 i5) {σ : Sl} {st : St} {o_a0 o_b1 : Own} (H0 : σ 0 = .sl o_a0 (List.map rowS a0)) (H1 : σ 1 = .sl o_b1 (List.map rowS b1)) (H5 : σ 5 = .i .i64 i5) (h : T29_1 prog K P0 a0 b1 i5) : W prog d l29_0 σ st (thenW prog d (.loop l29_0) (blockW 0 (thenW prog d c29_1 Q))) :=
  W.seq (W.seq (W.reg0 rfl fun _ _ => s_mvI H5 (s_mvL H0 (s_lenL rfl (s_bin rfl rfl (abin_lss _ _ _) (s_nil (c_split rfl (fun g'1 => W.skip (W.seq (W.block (W.seq (W.reg0 rfl fun _ _ => s_mvL H0 (s_mvI H5 ((h.1 g'1).2.elim fun c'2 e'3 => s_iaL rfl rfl (h.1 g'1).1 e'3.1 rfl rfl (s_loadF rfl rfl rfl (s_mvL H1 (s_mvI H5 (e'3.2.2.elim fun c'4 e'5 => s_iaL rfl rfl e'3.2.1 e'5.1 rfl rfl (s_loadF rfl rfl rfl (s_bin rfl rfl (abin_sne _ _) (s_nil (c_split rfl (fun g'6 => W.seq (W.reg0 rfl fun _ _ => s_mvB rfl (s_nil (W.ret (hQ _ _   _ rfl  (e'5.2.1 g'6)))))) (fun g'6 => W.skip (W.reg0 rfl fun _ _ => s_mvI H5 (s_bin rfl rfl (abin_add _ _ _) (s_mvI rfl (s_nil (kP0 _ (e'5.2.2 g'6) _ _ _ _ H0 H1 rfl))))))))))))))))))))) (fun g'1 => W.exit (w29_2  hQ   (h.2 g'1))))))))))
def T29_0 (prog : Prog) (K : Bool → Prop) (a0 : List (List UInt8)) (b1 : List (List UInt8)) : Prop :=
  ((a0.length : Int) ≠ (b1.length : Int) → K false) ∧ (¬((a0.length : Int) ≠ (b1.length : Int)) → ∀ P0 : Int → Prop, (∀ (i5 : Int), T29_1 prog K P0 a0 b1 i5 → P0 i5) → P0 0)
theorem w29_0 {prog : Prog} {d : Nat} {Q : AE → Sl → St → Prop} {K : Bool → Prop} (hQ : ∀ (σ : Sl) (st : St) (x0 : Bool), σ 4 = .b x0 → K x0 → Q .ret σ st) {a0 : List (List UInt8)} {b1 : List (List UInt8)}   {σ : Sl} {st : St} {o_a0 o_b1 : Own} (H0 : σ 0 = .sl o_a0 (List.map rowS a0)) (H1 : σ 1 = .sl o_b1 (List.map rowS b1)) (h : T29_0 prog K a0 b1) : W prog d (.seq (.reg 0 r29_0) (.seq (.seq (.reg 1 r29_1) (.cond (.t 10) (.seq (.reg 2 r29_2) .ret) .skip)) (.seq (.seq (.reg 3 r29_3) (.block 0 (.loop l29_0))) c29_1))) σ st Q :=
  W.seq (W.reg0 rfl fun _ _ => s_mvB rfl (s_nil (W.seq (W.seq (W.reg0 rfl fun _ _ => s_mvL H0 (s_lenL rfl (s_mvL H1 (s_lenL rfl (s_bin rfl rfl (abin_neq _ _ _) (s_nil (c_split rfl (fun g'1 => W.seq (W.reg0 rfl fun _ _ => s_mvB rfl (s_nil (W.ret (hQ _ _   _ rfl  (h.1 g'1)))))) (fun g'1 => W.skip (W.seq (W.seq (W.reg0 rfl fun _ _ => s_mvI rfl (s_nil (W.block ((h.2 g'1) (I29_0 prog d Q a0 b1) (fun _ hb _ _ _ _ H0 H1 H5 => W.loop (w29_1 hQ (fun _ x => x) H0 H1 H5 hb)) _ _ _ _ H0 H1 rfl))))))))))))))))))
theorem p29 {prog : Prog} (hf : prog.fn 29 = some pf29) {a0 : List (List UInt8)} {b1 : List (List UInt8)} {K : Bool → Prop} (h : T29_0 prog K a0 b1) : ∃ x0 : Bool, K x0 ∧ Pus prog 29 [.sl .ext (List.map rowS a0), .sl .ext (List.map rowS b1)] (.b x0) := by
  obtain ⟨v, hv, x0, hk, rfl⟩ := Pus.of (K := fun v => ∃ x0 : Bool, K x0 ∧ v = .b x0) hf rfl (w29_0 (σ := sl0 [.sl .ext (List.map rowS a0), .sl .ext (List.map rowS b1)]) (fun σ st   x0 H4 hk => ⟨.b x0, by simp only [pf29, ares, aresL, H4, ares1, Option.map_some], _, rfl, x0, hk, rfl⟩) rfl rfl h)
  exact ⟨x0, hk, hv⟩

/-! wreckage/wreckageref03.Quoted -/
def r31_0 : List AI := [⟨(some 2), .mv (.c (.s [])), none⟩]
def r31_1 : List AI := [⟨(some 3), .mv (.c (.s [34])), none⟩]
def r31_2 : List AI := [⟨(some 4), .mv (.c (.i .i64 0)), none⟩]
def r31_3 : List AI := [⟨(some 5), .mv (.t 4), none⟩,
  ⟨(some 6), .mv (.t 0), none⟩,
  ⟨(some 7), .len true (.t 6), none⟩,
  ⟨(some 8), .bin .lss (.t 5) (.t 7), none⟩]
def r31_4 : List AI := [⟨(some 11), .mv (.t 3), none⟩,
  ⟨(some 12), .mv (.t 0), none⟩,
  ⟨(some 13), .mv (.t 4), none⟩,
  ⟨(some 14), .ixS (.t 12) (.t 13), none⟩,
  ⟨(some 15), .call false 41 [(.t 14)], none⟩,
  ⟨(some 16), .bin .add (.t 11) (.t 15), none⟩,
  ⟨(some 3), .mv (.t 16), none⟩]
def r31_5 : List AI := [⟨(some 9), .mv (.t 4), none⟩,
  ⟨(some 10), .bin .add (.t 9) (.c (.i .i64 1)), none⟩,
  ⟨(some 4), .mv (.t 10), none⟩]
def r31_6 : List AI := [⟨(some 17), .mv (.t 3), none⟩,
  ⟨(some 18), .bin .add (.t 17) (.c (.s [34])), none⟩,
  ⟨(some 2), .mv (.t 18), none⟩]
abbrev l31_0 : AC := (.seq (.seq (.reg 3 r31_3) (.cond (.t 8) .skip (.exit 0))) (.seq (.block 1 (.reg 5 r31_4)) (.reg 4 r31_5)))
abbrev c31_1 : AC := (.seq (.reg 6 r31_6) .ret)
abbrev b31 : AC := (.seq (.reg 0 r31_0) (.seq (.reg 1 r31_1) (.seq (.seq (.reg 2 r31_2) (.block 0 (.loop l31_0))) c31_1)))
def pf31 : AF := { nt := 19, res := [.tmp 2], body := b31 }
abbrev I31_0 (prog : Prog) (d : Nat) (Q : AE → Sl → St → Prop) (s0 : List UInt8) (out3 : List UInt8) (i4 : Int) : Prop :=
  ∀ (σ : Sl) (st : St), σ 0 = .s s0 → σ 3 = .s out3 → σ 4 = .i .i64 i4 → W prog d (.loop l31_0) σ st (blockW 0 (thenW prog d c31_1 Q))
def T31_2 (prog : Prog) (K : List UInt8 → Prop) (out3 : List UInt8) : Prop :=
  out3.length + ([34] : List UInt8).length ≤ maxStr ∧ K (out3 ++ ([34] : List UInt8))
theorem w31_2 {prog : Prog} {d : Nat} {Q : AE → Sl → St → Prop} {K : List UInt8 → Prop} (hQ : ∀ (σ : Sl) (st : St) (x0 : List UInt8), σ 2 = .s x0 → K x0 → Q .ret σ st) {out3 : List UInt8}   {σ : Sl} {st : St} (H3 : σ 3 = .s out3) (h : T31_2 prog K out3) : W prog d c31_1 σ st Q :=
  W.seq (W.reg0 rfl fun _ _ => s_mvS H3 (s_bin rfl rfl (abin_cat' h.1) (s_mvS rfl (s_nil (W.ret (hQ _ _   _ rfl  h.2))))))
def T31_1 (prog : Prog) (K : List UInt8 → Prop) (P0 : List UInt8 → Int → Prop) (s0 : List UInt8) (out3 : List UInt8) (i4 : Int) : Prop :=
  (i4 < (s0.length : Int) → 0 ≤ i4 ∧ ∃ c'2 : UInt8, s0[(i4).toNat]? = some c'2 ∧ ∃ r'4 : List UInt8, Pus prog 41 [.i .u8 (c'2.toNat : Int)] (.s r'4) ∧ out3.length + r'4.length ≤ maxStr ∧ P0 (out3 ++ r'4) (IntKind.i64.wrap (i4 + 1))) ∧ (¬(i4 < (s0.length : Int)) → T31_2 prog K out3)
theorem w31_1 {prog : Prog} {d : Nat} {Q : AE → Sl → St → Prop} {K : List UInt8 → Prop} (hQ : ∀ (σ : Sl) (st : St) (x0 : List UInt8), σ 2 = .s x0 → K x0 → Q .ret σ st) {s0 : List UInt8} {out3 : List UInt8} {i4 : Int} {P0 : List UInt8 → Int → Prop} (kP0 : ∀ (out3 : List UInt8) (i4 : Int), P0 out3 i4 → I31_0 prog d Q s0 out3 i4) {σ : Sl} {st : St} (H0 : σ 0 = .s s0) (H3 : σ 3 = .s out3) (H4 : σ 4 = .i .i64 i4) (h : T31_1 prog K P0 s0 out3 i4) : W prog d l31_0 σ st (thenW prog d (.loop l31_0) (blockW 0 (thenW prog d c31_1 Q))) :=
  W.seq (W.seq (W.reg0 rfl fun _ _ => s_mvI H4 (s_mvS H0 (s_lenS rfl (s_bin rfl rfl (abin_lss _ _ _) (s_nil (c_split rfl (fun g'1 => W.skip (W.seq (W.block (W.reg0 rfl fun _ _ => s_mvS H3 (s_mvS H0 (s_mvI H4 ((h.1 g'1).2.elim fun c'2 e'3 => s_ixS rfl rfl (h.1 g'1).1 e'3.1 (e'3.2.elim fun r'4 e'5 => s_call (sc rfl rfl sn) e'5.1 (s_bin rfl rfl (abin_cat' e'5.2.1) (s_mvS rfl (s_nil (W.reg0 rfl fun _ _ => s_mvI H4 (s_bin rfl rfl (abin_add _ _ _) (s_mvI rfl (s_nil (kP0 _ _ e'5.2.2 _ _  H0 rfl rfl)))))))))))))))) (fun g'1 => W.exit (w31_2  hQ  H3 (h.2 g'1))))))))))
def T31_0 (prog : Prog) (K : List UInt8 → Prop) (s0 : List UInt8) : Prop :=
  ∀ P0 : List UInt8 → Int → Prop, (∀ (out3 : List UInt8) (i4 : Int), T31_1 prog K P0 s0 out3 i4 → P0 out3 i4) → P0 ([34] : List UInt8) 0
theorem w31_0 {prog : Prog} {d : Nat} {Q : AE → Sl → St → Prop} {K : List UInt8 → Prop} (hQ : ∀ (σ : Sl) (st : St) (x0 : List UInt8), σ 2 = .s x0 → K x0 → Q .ret σ st) {s0 : List UInt8}   {σ : Sl} {st : St} (H0 : σ 0 = .s s0) (h : T31_0 prog K s0) : W prog d (.seq (.reg 0 r31_0) (.seq (.reg 1 r31_1) (.seq (.seq (.reg 2 r31_2) (.block 0 (.loop l31_0))) c31_1))) σ st Q :=
  W.seq (W.reg0 rfl fun _ _ => s_mvS rfl (s_nil (W.seq (W.reg0 rfl fun _ _ => s_mvS rfl (s_nil (W.seq (W.seq (W.reg0 rfl fun _ _ => s_mvI rfl (s_nil (W.block (h (I31_0 prog d Q s0) (fun _ _ hb _ _  H0 H3 H4 => W.loop (w31_1 hQ (fun _ _ x => x) H0 H3 H4 hb)) _ _  H0 rfl rfl)))))))))))
theorem p31 {prog : Prog} (hf : prog.fn 31 = some pf31) {s0 : List UInt8} {K : List UInt8 → Prop} (h : T31_0 prog K s0) : ∃ x0 : List UInt8, K x0 ∧ Pus prog 31 [.s s0] (.s x0) := by
  obtain ⟨v, hv, x0, hk, rfl⟩ := Pus.of (K := fun v => ∃ x0 : List UInt8, K x0 ∧ v = .s x0) hf rfl (w31_0 (σ := sl0 [.s s0]) (fun σ st   x0 H2 hk => ⟨.s x0, by simp only [pf31, ares, aresL, H2, ares1, Option.map_some], _, rfl, x0, hk, rfl⟩) rfl h)
  exact ⟨x0, hk, hv⟩

/-! wreckage/wreckageref03.Listed -/
def r33_0 : List AI := [⟨(some 2), .mv (.c (.s [])), none⟩]
def r33_1 : List AI := [⟨(some 3), .mv (.c (.s [91])), none⟩]
def r33_2 : List AI := [⟨(some 4), .mv (.c (.i .i64 0)), none⟩]
def r33_3 : List AI := [⟨(some 5), .mv (.t 4), none⟩,
  ⟨(some 6), .mv (.t 0), none⟩,
  ⟨(some 7), .len false (.t 6), none⟩,
  ⟨(some 8), .bin .lss (.t 5) (.t 7), none⟩]
def r33_4 : List AI := [⟨(some 11), .mv (.t 4), none⟩,
  ⟨(some 12), .bin .gtr (.t 11) (.c (.i .i64 0)), none⟩]
def r33_5 : List AI := [⟨(some 13), .mv (.t 3), none⟩,
  ⟨(some 14), .bin .add (.t 13) (.c (.s [44, 32])), none⟩,
  ⟨(some 3), .mv (.t 14), none⟩]
def r33_6 : List AI := [⟨(some 15), .mv (.t 3), none⟩,
  ⟨(some 16), .mv (.t 0), none⟩,
  ⟨(some 17), .mv (.t 4), none⟩,
  ⟨(some 18), .iaL 1 (.t 16) (.t 17), none⟩,
  ⟨(some 19), .load 1 false (.t 18), none⟩,
  ⟨(some 20), .call false 31 [(.t 19)], none⟩,
  ⟨(some 21), .bin .add (.t 15) (.t 20), none⟩,
  ⟨(some 3), .mv (.t 21), none⟩]
def r33_7 : List AI := [⟨(some 9), .mv (.t 4), none⟩,
  ⟨(some 10), .bin .add (.t 9) (.c (.i .i64 1)), none⟩,
  ⟨(some 4), .mv (.t 10), none⟩]
def r33_8 : List AI := [⟨(some 22), .mv (.t 3), none⟩,
  ⟨(some 23), .bin .add (.t 22) (.c (.s [93])), none⟩,
  ⟨(some 2), .mv (.t 23), none⟩]
abbrev c33_0 : AC := (.reg 7 r33_6)
abbrev l33_0 : AC := (.seq (.seq (.reg 3 r33_3) (.cond (.t 8) .skip (.exit 0))) (.seq (.block 1 (.seq (.seq (.reg 5 r33_4) (.cond (.t 12) (.reg 6 r33_5) .skip)) c33_0)) (.reg 4 r33_7)))
abbrev c33_2 : AC := (.seq (.reg 8 r33_8) .ret)
abbrev b33 : AC := (.seq (.reg 0 r33_0) (.seq (.reg 1 r33_1) (.seq (.seq (.reg 2 r33_2) (.block 0 (.loop l33_0))) c33_2)))
def pf33 : AF := { nt := 24, res := [.tmp 2], body := b33 }
abbrev I33_0 (prog : Prog) (d : Nat) (Q : AE → Sl → St → Prop) (l0 : List (List UInt8)) (out3 : List UInt8) (i4 : Int) : Prop :=
  ∀ (σ : Sl) (st : St) (o_l0 : Own), σ 0 = .sl o_l0 (List.map rowS l0) → σ 3 = .s out3 → σ 4 = .i .i64 i4 → W prog d (.loop l33_0) σ st (blockW 0 (thenW prog d c33_2 Q))
def T33_2 (prog : Prog) (K : List UInt8 → Prop) (P0 : List UInt8 → Int → Prop) (l0 : List (List UInt8)) (out3 : List UInt8) (i4 : Int) : Prop :=
  0 ≤ i4 ∧ ∃ c'1 : List UInt8, l0[(i4).toNat]? = some c'1 ∧ ∃ r'3 : List UInt8, Pus prog 31 [.s c'1] (.s r'3) ∧ out3.length + r'3.length ≤ maxStr ∧ P0 (out3 ++ r'3) (IntKind.i64.wrap (i4 + 1))
theorem w33_2 {prog : Prog} {d : Nat} {Q : AE → Sl → St → Prop} {K : List UInt8 → Prop} (hQ : ∀ (σ : Sl) (st : St) (x0 : List UInt8), σ 2 = .s x0 → K x0 → Q .ret σ st) {l0 : List (List UInt8)} {out3 : List UInt8} {i4 : Int} {P0 : List UInt8 → Int → Prop} (kP0 : ∀ (out3 : List UInt8) (i4 : Int), P0 out3 i4 → I33_0 prog d Q l0 out3 i4) {σ : Sl} {st : St} {o_l0 : Own} (H0 : σ 0 = .sl o_l0 (List.map rowS l0)) (H3 : σ 3 = .s out3) (H4 : σ 4 = .i .i64 i4) (h : T33_2 prog K P0 l0 out3 i4) : W prog d c33_0 σ st (blockW 1 (thenW prog d (.reg 4 r33_7) (thenW prog d (.loop l33_0) (blockW 0 (thenW prog d c33_2 Q))))) :=
  W.reg0 rfl fun _ _ => s_mvS H3 (s_mvL H0 (s_mvI H4 (h.2.elim fun c'1 e'2 => s_iaL rfl rfl h.1 e'2.1 rfl rfl (s_loadF rfl rfl rfl (e'2.2.elim fun r'3 e'4 => s_call (sc rfl rfl sn) e'4.1 (s_bin rfl rfl (abin_cat' e'4.2.1) (s_mvS rfl (s_nil (W.reg0 rfl fun _ _ => s_mvI H4 (s_bin rfl rfl (abin_add _ _ _) (s_mvI rfl (s_nil (kP0 _ _ e'4.2.2 _ _ _ H0 rfl rfl)))))))))))))
def T33_3 (prog : Prog) (K : List UInt8 → Prop) (out3 : List UInt8) : Prop :=
  out3.length + ([93] : List UInt8).length ≤ maxStr ∧ K (out3 ++ ([93] : List UInt8))
theorem w33_3 {prog : Prog} {d : Nat} {Q : AE → Sl → St → Prop} {K : List UInt8 → Prop} (hQ : ∀ (σ : Sl) (st : St) (x0 : List UInt8), σ 2 = .s x0 → K x0 → Q .ret σ st) {out3 : List UInt8}   {σ : Sl} {st : St} (H3 : σ 3 = .s out3) (h : T33_3 prog K out3) : W prog d c33_2 σ st Q :=
  W.seq (W.reg0 rfl fun _ _ => s_mvS H3 (s_bin rfl rfl (abin_cat' h.1) (s_mvS rfl (s_nil (W.ret (hQ _ _   _ rfl  h.2))))))
def T33_1 (prog : Prog) (K : List UInt8 → Prop) (P0 : List UInt8 → Int → Prop) (l0 : List (List UInt8)) (out3 : List UInt8) (i4 : Int) : Prop :=
  (i4 < (l0.length : Int) → (i4 > 0 → out3.length + ([44, 32] : List UInt8).length ≤ maxStr ∧ T33_2 prog K P0 l0 (out3 ++ ([44, 32] : List UInt8)) i4) ∧ (¬(i4 > 0) → T33_2 prog K P0 l0 out3 i4)) ∧ (¬(i4 < (l0.length : Int)) → T33_3 prog K out3)
theorem w33_1 {prog : Prog} {d : Nat} {Q : AE → Sl → St → Prop} {K : List UInt8 → Prop} (hQ : ∀ (σ : Sl) (st : St) (x0 : List UInt8), σ 2 = .s x0 → K x0 → Q .ret σ st) {l0 : List (List UInt8)} {out3 : List UInt8} {i4 : Int} {P0 : List UInt8 → Int → Prop} (kP0 : ∀ (out3 : List UInt8) (i4 : Int), P0 out3 i4 → I33_0 prog d Q l0 out3 i4) {σ : Sl} {st : St} {o_l0 : Own} (H0 : σ 0 = .sl o_l0 (List.map rowS l0)) (H3 : σ 3 = .s out3) (H4 : σ 4 = .i .i64 i4) (h : T33_1 prog K P0 l0 out3 i4) : W prog d l33_0 σ st (thenW prog d (.loop l33_0) (blockW 0 (thenW prog d c33_2 Q))) :=
  W.seq (W.seq (W.reg0 rfl fun _ _ => s_mvI H4 (s_mvL H0 (s_lenL rfl (s_bin rfl rfl (abin_lss _ _ _) (s_nil (c_split rfl (fun g'1 => W.skip (W.seq (W.block (W.seq (W.seq (W.reg0 rfl fun _ _ => s_mvI H4 (s_bin rfl rfl (abin_gtr _ _ _) (s_nil (c_split rfl (fun g'2 => W.reg0 rfl fun _ _ => s_mvS H3 (s_bin rfl rfl (abin_cat' ((h.1 g'1).1 g'2).1) (s_mvS rfl (s_nil (w33_2  hQ kP0 H0 rfl H4 ((h.1 g'1).1 g'2).2))))) (fun g'2 => W.skip (w33_2  hQ kP0 H0 H3 H4 ((h.1 g'1).2 g'2)))))))))))) (fun g'1 => W.exit (w33_3  hQ  H3 (h.2 g'1))))))))))
def T33_0 (prog : Prog) (K : List UInt8 → Prop) (l0 : List (List UInt8)) : Prop :=
  ∀ P0 : List UInt8 → Int → Prop, (∀ (out3 : List UInt8) (i4 : Int), T33_1 prog K P0 l0 out3 i4 → P0 out3 i4) → P0 ([91] : List UInt8) 0
theorem w33_0 {prog : Prog} {d : Nat} {Q : AE → Sl → St → Prop} {K : List UInt8 → Prop} (hQ : ∀ (σ : Sl) (st : St) (x0 : List UInt8), σ 2 = .s x0 → K x0 → Q .ret σ st) {l0 : List (List UInt8)}   {σ : Sl} {st : St} {o_l0 : Own} (H0 : σ 0 = .sl o_l0 (List.map rowS l0)) (h : T33_0 prog K l0) : W prog d (.seq (.reg 0 r33_0) (.seq (.reg 1 r33_1) (.seq (.seq (.reg 2 r33_2) (.block 0 (.loop l33_0))) c33_2))) σ st Q :=
  W.seq (W.reg0 rfl fun _ _ => s_mvS rfl (s_nil (W.seq (W.reg0 rfl fun _ _ => s_mvS rfl (s_nil (W.seq (W.seq (W.reg0 rfl fun _ _ => s_mvI rfl (s_nil (W.block (h (I33_0 prog d Q l0) (fun _ _ hb _ _ _ H0 H3 H4 => W.loop (w33_1 hQ (fun _ _ x => x) H0 H3 H4 hb)) _ _ _ H0 rfl rfl)))))))))))
theorem p33 {prog : Prog} (hf : prog.fn 33 = some pf33) {l0 : List (List UInt8)} {K : List UInt8 → Prop} (h : T33_0 prog K l0) : ∃ x0 : List UInt8, K x0 ∧ Pus prog 33 [.sl .ext (List.map rowS l0)] (.s x0) := by
  obtain ⟨v, hv, x0, hk, rfl⟩ := Pus.of (K := fun v => ∃ x0 : List UInt8, K x0 ∧ v = .s x0) hf rfl (w33_0 (σ := sl0 [.sl .ext (List.map rowS l0)]) (fun σ st   x0 H2 hk => ⟨.s x0, by simp only [pf33, ares, aresL, H2, ares1, Option.map_some], _, rfl, x0, hk, rfl⟩) rfl h)
  exact ⟨x0, hk, hv⟩

/-! wreckage/wreckageref03.Digits -/
def r35_0 : List AI := [⟨(some 4), .mv (.c (.s [])), none⟩]
def r35_1 : List AI := [⟨(some 5), .mv (.c (.s [])), none⟩]
def r35_2 : List AI := [⟨(some 6), .mv (.t 0), none⟩,
  ⟨(some 7), .mv (.t 1), none⟩,
  ⟨(some 8), .bin .geq (.t 6) (.t 7), none⟩]
def r35_3 : List AI := [⟨(some 9), .mv (.t 0), none⟩,
  ⟨(some 10), .mv (.t 1), none⟩,
  ⟨(some 11), .bin .rem (.t 9) (.t 10), none⟩,
  ⟨(some 12), .mv (.t 0), none⟩,
  ⟨(some 13), .mv (.t 1), none⟩,
  ⟨(some 14), .bin .rem (.t 12) (.t 13), none⟩,
  ⟨(some 15), .bin .add (.t 14) (.c (.i .u64 1)), none⟩,
  ⟨(some 16), .slS (.c (.s [48, 49, 50, 51, 52, 53, 54, 55, 56, 57, 97, 98, 99, 100, 101, 102])) (some (.t 11)) (some (.t 15)), none⟩,
  ⟨(some 17), .mv (.t 5), none⟩,
  ⟨(some 18), .bin .add (.t 16) (.t 17), none⟩,
  ⟨(some 5), .mv (.t 18), none⟩]
def r35_4 : List AI := [⟨(some 19), .mv (.t 0), none⟩,
  ⟨(some 20), .mv (.t 1), none⟩,
  ⟨(some 21), .bin .quo (.t 19) (.t 20), none⟩,
  ⟨(some 0), .mv (.t 21), none⟩]
def r35_5 : List AI := [⟨(some 22), .mv (.t 0), none⟩,
  ⟨(some 23), .mv (.t 0), none⟩,
  ⟨(some 24), .bin .add (.t 23) (.c (.i .u64 1)), none⟩,
  ⟨(some 25), .slS (.c (.s [48, 49, 50, 51, 52, 53, 54, 55, 56, 57, 97, 98, 99, 100, 101, 102])) (some (.t 22)) (some (.t 24)), none⟩,
  ⟨(some 26), .mv (.t 5), none⟩,
  ⟨(some 27), .bin .add (.t 25) (.t 26), none⟩,
  ⟨(some 4), .mv (.t 27), none⟩]
abbrev l35_0 : AC := (.seq (.seq (.reg 2 r35_2) (.cond (.t 8) .skip (.exit 0))) (.block 1 (.seq (.reg 3 r35_3) (.reg 4 r35_4))))
abbrev c35_1 : AC := (.seq (.reg 5 r35_5) .ret)
abbrev b35 : AC := (.seq (.reg 0 r35_0) (.seq (.reg 1 r35_1) (.seq (.block 0 (.loop l35_0)) c35_1)))
def pf35 : AF := { nt := 28, res := [.tmp 4], body := b35 }
abbrev I35_0 (prog : Prog) (d : Nat) (Q : AE → Sl → St → Prop) (base1 : Int) (n0 : Int) (s5 : List UInt8) : Prop :=
  ∀ (σ : Sl) (st : St), σ 0 = .i .u64 n0 → σ 1 = .i .u64 base1 → σ 5 = .s s5 → W prog d (.loop l35_0) σ st (blockW 0 (thenW prog d c35_1 Q))
def T35_2 (prog : Prog) (K : List UInt8 → Prop) (n0 : Int) (s5 : List UInt8) : Prop :=
  0 ≤ n0 ∧ n0 ≤ (IntKind.u64.wrap (n0 + 1)) ∧ (IntKind.u64.wrap (n0 + 1)).toNat ≤ ([48, 49, 50, 51, 52, 53, 54, 55, 56, 57, 97, 98, 99, 100, 101, 102] : List UInt8).length ∧ ((([48, 49, 50, 51, 52, 53, 54, 55, 56, 57, 97, 98, 99, 100, 101, 102] : List UInt8).drop (n0).toNat).take ((IntKind.u64.wrap (n0 + 1)).toNat - (n0).toNat)).length + s5.length ≤ maxStr ∧ K (((([48, 49, 50, 51, 52, 53, 54, 55, 56, 57, 97, 98, 99, 100, 101, 102] : List UInt8).drop (n0).toNat).take ((IntKind.u64.wrap (n0 + 1)).toNat - (n0).toNat)) ++ s5)
theorem w35_2 {prog : Prog} {d : Nat} {Q : AE → Sl → St → Prop} {K : List UInt8 → Prop} (hQ : ∀ (σ : Sl) (st : St) (x0 : List UInt8), σ 4 = .s x0 → K x0 → Q .ret σ st) {n0 : Int} {s5 : List UInt8}   {σ : Sl} {st : St} (H0 : σ 0 = .i .u64 n0) (H5 : σ 5 = .s s5) (h : T35_2 prog K n0 s5) : W prog d c35_1 σ st Q :=
  W.seq (W.reg0 rfl fun _ _ => s_mvI H0 (s_mvI H0 (s_bin rfl rfl (abin_add _ _ _) (s_slS rfl rfl rfl h.1 h.2.1 h.2.2.1 (s_mvS H5 (s_bin rfl rfl (abin_cat' h.2.2.2.1) (s_mvS rfl (s_nil (W.ret (hQ _ _   _ rfl  h.2.2.2.2))))))))))
def T35_1 (prog : Prog) (K : List UInt8 → Prop) (P0 : Int → List UInt8 → Prop) (n0 : Int) (base1 : Int) (s5 : List UInt8) : Prop :=
  (n0 ≥ base1 → base1 ≠ 0 ∧ base1 ≠ 0 ∧ 0 ≤ ((n0 : Int).tmod base1) ∧ ((n0 : Int).tmod base1) ≤ (IntKind.u64.wrap (((n0 : Int).tmod base1) + 1)) ∧ (IntKind.u64.wrap (((n0 : Int).tmod base1) + 1)).toNat ≤ ([48, 49, 50, 51, 52, 53, 54, 55, 56, 57, 97, 98, 99, 100, 101, 102] : List UInt8).length ∧ ((([48, 49, 50, 51, 52, 53, 54, 55, 56, 57, 97, 98, 99, 100, 101, 102] : List UInt8).drop ((n0 : Int).tmod base1).toNat).take ((IntKind.u64.wrap (((n0 : Int).tmod base1) + 1)).toNat - ((n0 : Int).tmod base1).toNat)).length + s5.length ≤ maxStr ∧ base1 ≠ 0 ∧ P0 (IntKind.u64.wrap ((n0 : Int).tdiv base1)) (((([48, 49, 50, 51, 52, 53, 54, 55, 56, 57, 97, 98, 99, 100, 101, 102] : List UInt8).drop ((n0 : Int).tmod base1).toNat).take ((IntKind.u64.wrap (((n0 : Int).tmod base1) + 1)).toNat - ((n0 : Int).tmod base1).toNat)) ++ s5)) ∧ (¬(n0 ≥ base1) → T35_2 prog K n0 s5)
theorem w35_1 {prog : Prog} {d : Nat} {Q : AE → Sl → St → Prop} {K : List UInt8 → Prop} (hQ : ∀ (σ : Sl) (st : St) (x0 : List UInt8), σ 4 = .s x0 → K x0 → Q .ret σ st) {n0 : Int} {base1 : Int} {s5 : List UInt8} {P0 : Int → List UInt8 → Prop} (kP0 : ∀ (n0 : Int) (s5 : List UInt8), P0 n0 s5 → I35_0 prog d Q base1 n0 s5) {σ : Sl} {st : St} (H0 : σ 0 = .i .u64 n0) (H1 : σ 1 = .i .u64 base1) (H5 : σ 5 = .s s5) (h : T35_1 prog K P0 n0 base1 s5) : W prog d l35_0 σ st (thenW prog d (.loop l35_0) (blockW 0 (thenW prog d c35_1 Q))) :=
  W.seq (W.seq (W.reg0 rfl fun _ _ => s_mvI H0 (s_mvI H1 (s_bin rfl rfl (abin_geq _ _ _) (s_nil (c_split rfl (fun g'1 => W.skip (W.block (W.seq (W.reg0 rfl fun _ _ => s_mvI H0 (s_mvI H1 (s_bin rfl rfl (abin_rem' (h.1 g'1).1) (s_mvI H0 (s_mvI H1 (s_bin rfl rfl (abin_rem' (h.1 g'1).2.1) (s_bin rfl rfl (abin_add _ _ _) (s_slS rfl rfl rfl (h.1 g'1).2.2.1 (h.1 g'1).2.2.2.1 (h.1 g'1).2.2.2.2.1 (s_mvS H5 (s_bin rfl rfl (abin_cat' (h.1 g'1).2.2.2.2.2.1) (s_mvS rfl (s_nil (W.reg0 rfl fun _ _ => s_mvI H0 (s_mvI H1 (s_bin rfl rfl (abin_quo' (h.1 g'1).2.2.2.2.2.2.1) (s_mvI rfl (s_nil (kP0 _ _ (h.1 g'1).2.2.2.2.2.2.2 _ _  rfl H1 rfl))))))))))))))))))))) (fun g'1 => W.exit (w35_2  hQ  H0 H5 (h.2 g'1)))))))))
def T35_0 (prog : Prog) (K : List UInt8 → Prop) (n0 : Int) (base1 : Int) : Prop :=
  ∀ P0 : Int → List UInt8 → Prop, (∀ (n0 : Int) (s5 : List UInt8), T35_1 prog K P0 n0 base1 s5 → P0 n0 s5) → P0 n0 ([] : List UInt8)
theorem w35_0 {prog : Prog} {d : Nat} {Q : AE → Sl → St → Prop} {K : List UInt8 → Prop} (hQ : ∀ (σ : Sl) (st : St) (x0 : List UInt8), σ 4 = .s x0 → K x0 → Q .ret σ st) {n0 : Int} {base1 : Int}   {σ : Sl} {st : St} (H0 : σ 0 = .i .u64 n0) (H1 : σ 1 = .i .u64 base1) (h : T35_0 prog K n0 base1) : W prog d (.seq (.reg 0 r35_0) (.seq (.reg 1 r35_1) (.seq (.block 0 (.loop l35_0)) c35_1))) σ st Q :=
  W.seq (W.reg0 rfl fun _ _ => s_mvS rfl (s_nil (W.seq (W.reg0 rfl fun _ _ => s_mvS rfl (s_nil (W.seq (W.block (h (I35_0 prog d Q base1) (fun _ _ hb _ _  H0 H1 H5 => W.loop (w35_1 hQ (fun _ _ x => x) H0 H1 H5 hb)) _ _  H0 H1 rfl))))))))
theorem p35 {prog : Prog} (hf : prog.fn 35 = some pf35) {n0 : Int} {base1 : Int} {K : List UInt8 → Prop} (h : T35_0 prog K n0 base1) : ∃ x0 : List UInt8, K x0 ∧ Pus prog 35 [.i .u64 n0, .i .u64 base1] (.s x0) := by
  obtain ⟨v, hv, x0, hk, rfl⟩ := Pus.of (K := fun v => ∃ x0 : List UInt8, K x0 ∧ v = .s x0) hf rfl (w35_0 (σ := sl0 [.i .u64 n0, .i .u64 base1]) (fun σ st   x0 H4 hk => ⟨.s x0, by simp only [pf35, ares, aresL, H4, ares1, Option.map_some], _, rfl, x0, hk, rfl⟩) rfl rfl h)
  exact ⟨x0, hk, hv⟩

/-! wreckage/wreckageref03.read -/
def r38_0 : List AI := [⟨(some 6), .mv (.c (.i .u64 0)), none⟩,
  ⟨(some 7), .mv (.c (.i .i64 0)), none⟩]
def r38_1 : List AI := [⟨(some 12), .mv (.t 0), none⟩,
  ⟨(some 13), .len true (.t 12), none⟩,
  ⟨(some 14), .bin .eql (.t 13) (.c (.i .i64 0)), none⟩,
  ⟨(some 15), .mv (.t 14), none⟩,
  ⟨(some 16), .mv (.t 0), (some (15, false))⟩,
  ⟨(some 17), .ixS (.t 16) (.c (.i .i64 0)), (some (15, false))⟩,
  ⟨(some 18), .bin .eql (.t 17) (.c (.i .u8 48)), (some (15, false))⟩,
  ⟨(some 19), .mv (.t 18), (some (15, false))⟩,
  ⟨(some 20), .mv (.t 0), (some (19, true))⟩,
  ⟨(some 21), .len true (.t 20), (some (19, true))⟩,
  ⟨(some 22), .bin .gtr (.t 21) (.c (.i .i64 1)), (some (19, true))⟩,
  ⟨(some 23), .pick (.t 19) (.t 22) (.c (.b false)), (some (15, false))⟩,
  ⟨(some 24), .pick (.t 15) (.c (.b true)) (.t 23), none⟩]
def r38_2 : List AI := [⟨(some 6), .mv (.c (.i .u64 0)), none⟩,
  ⟨(some 7), .mv (.c (.i .i64 12)), none⟩]
def r38_3 : List AI := [⟨(some 8), .mv (.c (.i .i64 0)), none⟩]
def r38_4 : List AI := [⟨(some 25), .mv (.t 8), none⟩,
  ⟨(some 26), .mv (.t 0), none⟩,
  ⟨(some 27), .len true (.t 26), none⟩,
  ⟨(some 28), .bin .lss (.t 25) (.t 27), none⟩]
def r38_5 : List AI := [⟨(some 31), .mv (.t 0), none⟩,
  ⟨(some 32), .mv (.t 8), none⟩,
  ⟨(some 33), .ixS (.t 31) (.t 32), none⟩,
  ⟨(some 34), .mv (.t 1), none⟩,
  ⟨(some 35), .cvi .i64 (.t 34), none⟩,
  ⟨(some 36), .call false 44 [(.t 33), (.t 35)], none⟩,
  ⟨(some 37), .bin .lss (.t 36) (.c (.i .i64 0)), none⟩]
def r38_6 : List AI := [⟨(some 6), .mv (.c (.i .u64 0)), none⟩,
  ⟨(some 7), .mv (.c (.i .i64 12)), none⟩]
def r38_7 : List AI := [⟨(some 29), .mv (.t 8), none⟩,
  ⟨(some 30), .bin .add (.t 29) (.c (.i .i64 1)), none⟩,
  ⟨(some 8), .mv (.t 30), none⟩]
def r38_8 : List AI := [⟨(some 9), .mv (.c (.i .u64 0)), none⟩]
def r38_9 : List AI := [⟨(some 10), .mv (.c (.i .i64 0)), none⟩]
def r38_10 : List AI := [⟨(some 38), .mv (.t 10), none⟩,
  ⟨(some 39), .mv (.t 0), none⟩,
  ⟨(some 40), .len true (.t 39), none⟩,
  ⟨(some 41), .bin .lss (.t 38) (.t 40), none⟩]
def r38_11 : List AI := [⟨(some 44), .mv (.t 0), none⟩,
  ⟨(some 45), .mv (.t 10), none⟩,
  ⟨(some 46), .ixS (.t 44) (.t 45), none⟩,
  ⟨(some 47), .mv (.t 1), none⟩,
  ⟨(some 48), .cvi .i64 (.t 47), none⟩,
  ⟨(some 49), .call false 44 [(.t 46), (.t 48)], none⟩,
  ⟨(some 50), .cvi .u64 (.t 49), none⟩,
  ⟨(some 11), .mv (.t 50), none⟩]
def r38_12 : List AI := [⟨(some 51), .mv (.t 9), none⟩,
  ⟨(some 52), .mv (.t 2), none⟩,
  ⟨(some 53), .mv (.t 11), none⟩,
  ⟨(some 54), .bin .sub (.t 52) (.t 53), none⟩,
  ⟨(some 55), .mv (.t 1), none⟩,
  ⟨(some 56), .bin .quo (.t 54) (.t 55), none⟩,
  ⟨(some 57), .bin .gtr (.t 51) (.t 56), none⟩]
def r38_13 : List AI := [⟨(some 6), .mv (.c (.i .u64 0)), none⟩,
  ⟨(some 7), .mv (.c (.i .i64 16)), none⟩]
def r38_14 : List AI := [⟨(some 58), .mv (.t 9), none⟩,
  ⟨(some 59), .mv (.t 1), none⟩,
  ⟨(some 60), .bin .mul (.t 58) (.t 59), none⟩,
  ⟨(some 61), .mv (.t 11), none⟩,
  ⟨(some 62), .bin .add (.t 60) (.t 61), none⟩,
  ⟨(some 9), .mv (.t 62), none⟩]
def r38_15 : List AI := [⟨(some 42), .mv (.t 10), none⟩,
  ⟨(some 43), .bin .add (.t 42) (.c (.i .i64 1)), none⟩,
  ⟨(some 10), .mv (.t 43), none⟩]
def r38_16 : List AI := [⟨(some 63), .mv (.t 9), none⟩,
  ⟨(some 6), .mv (.t 63), none⟩,
  ⟨(some 7), .mv (.c (.i .i64 0)), none⟩]
abbrev l38_0 : AC := (.seq (.seq (.reg 4 r38_4) (.cond (.t 28) .skip (.exit 0))) (.seq (.block 1 (.seq (.reg 6 r38_5) (.cond (.t 37) (.seq (.reg 7 r38_6) .ret) .skip))) (.reg 5 r38_7)))
abbrev l38_1 : AC := (.seq (.seq (.reg 10 r38_10) (.cond (.t 41) .skip (.exit 2))) (.seq (.block 3 (.seq (.reg 12 r38_11) (.seq (.seq (.reg 13 r38_12) (.cond (.t 57) (.seq (.reg 14 r38_13) .ret) .skip)) (.reg 15 r38_14)))) (.reg 11 r38_15)))
abbrev c38_2 : AC := (.seq (.reg 16 r38_16) .ret)
abbrev c38_3 : AC := (.seq (.reg 8 r38_8) (.seq (.seq (.reg 9 r38_9) (.block 2 (.loop l38_1))) c38_2))
abbrev c38_4 : AC := (.seq (.seq (.reg 1 r38_1) (.cond (.t 24) (.seq (.reg 2 r38_2) .ret) .skip)) (.seq (.seq (.reg 3 r38_3) (.block 0 (.loop l38_0))) c38_3))
abbrev b38 : AC := (.seq (.reg 0 r38_0) c38_4)
def pf38 : AF := { nt := 64, res := [.tmp 6, .tmp 7], body := b38 }
abbrev I38_0 (prog : Prog) (d : Nat) (Q : AE → Sl → St → Prop) (s0 : List UInt8) (base1 : Int) (most2 : Int) (i8 : Int) : Prop :=
  ∀ (σ : Sl) (st : St), σ 0 = .s s0 → σ 1 = .i .u64 base1 → σ 2 = .i .u64 most2 → σ 8 = .i .i64 i8 → W prog d (.loop l38_0) σ st (blockW 0 (thenW prog d c38_3 Q))
abbrev I38_1 (prog : Prog) (d : Nat) (Q : AE → Sl → St → Prop) (s0 : List UInt8) (base1 : Int) (most2 : Int) (n9 : Int) (i10 : Int) : Prop :=
  ∀ (σ : Sl) (st : St), σ 0 = .s s0 → σ 1 = .i .u64 base1 → σ 2 = .i .u64 most2 → σ 9 = .i .u64 n9 → σ 10 = .i .i64 i10 → W prog d (.loop l38_1) σ st (blockW 2 (thenW prog d c38_2 Q))
def T38_5 (prog : Prog) (K : Int → Int → Prop) (n9 : Int) : Prop :=
  K n9 0
theorem w38_5 {prog : Prog} {d : Nat} {Q : AE → Sl → St → Prop} {K : Int → Int → Prop} (hQ : ∀ (σ : Sl) (st : St) (x0 : Int) (x1 : Int), σ 6 = .i .u64 x0 → σ 7 = .i .i64 x1 → K x0 x1 → Q .ret σ st) {n9 : Int}   {σ : Sl} {st : St} (H9 : σ 9 = .i .u64 n9) (h : T38_5 prog K n9) : W prog d c38_2 σ st Q :=
  W.seq (W.reg0 rfl fun _ _ => s_mvI H9 (s_mvI rfl (s_mvI rfl (s_nil (W.ret (hQ _ _   _ _ rfl rfl  h))))))
def T38_4 (prog : Prog) (K : Int → Int → Prop) (P1 : Int → Int → Prop) (s0 : List UInt8) (base1 : Int) (most2 : Int) (n9 : Int) (i10 : Int) : Prop :=
  (i10 < (s0.length : Int) → 0 ≤ i10 ∧ ∃ c'2 : UInt8, s0[(i10).toNat]? = some c'2 ∧ ∃ r'4 : Int, Pus prog 44 [.i .u8 (c'2.toNat : Int), .i .i64 (IntKind.i64.wrap base1)] (.i .i64 r'4) ∧ base1 ≠ 0 ∧ (n9 > (IntKind.u64.wrap (((IntKind.u64.wrap (most2 - (IntKind.u64.wrap r'4))) : Int).tdiv base1)) → K 0 16) ∧ (¬(n9 > (IntKind.u64.wrap (((IntKind.u64.wrap (most2 - (IntKind.u64.wrap r'4))) : Int).tdiv base1))) → P1 (IntKind.u64.wrap ((IntKind.u64.wrap (n9 * base1)) + (IntKind.u64.wrap r'4))) (IntKind.i64.wrap (i10 + 1)))) ∧ (¬(i10 < (s0.length : Int)) → T38_5 prog K n9)
theorem w38_4 {prog : Prog} {d : Nat} {Q : AE → Sl → St → Prop} {K : Int → Int → Prop} (hQ : ∀ (σ : Sl) (st : St) (x0 : Int) (x1 : Int), σ 6 = .i .u64 x0 → σ 7 = .i .i64 x1 → K x0 x1 → Q .ret σ st) {s0 : List UInt8} {base1 : Int} {most2 : Int} {n9 : Int} {i10 : Int} {P1 : Int → Int → Prop} (kP1 : ∀ (n9 : Int) (i10 : Int), P1 n9 i10 → I38_1 prog d Q s0 base1 most2 n9 i10) {σ : Sl} {st : St} (H0 : σ 0 = .s s0) (H1 : σ 1 = .i .u64 base1) (H2 : σ 2 = .i .u64 most2) (H9 : σ 9 = .i .u64 n9) (H10 : σ 10 = .i .i64 i10) (h : T38_4 prog K P1 s0 base1 most2 n9 i10) : W prog d l38_1 σ st (thenW prog d (.loop l38_1) (blockW 2 (thenW prog d c38_2 Q))) :=
  W.seq (W.seq (W.reg0 rfl fun _ _ => s_mvI H10 (s_mvS H0 (s_lenS rfl (s_bin rfl rfl (abin_lss _ _ _) (s_nil (c_split rfl (fun g'1 => W.skip (W.seq (W.block (W.seq (W.reg0 rfl fun _ _ => s_mvS H0 (s_mvI H10 ((h.1 g'1).2.elim fun c'2 e'3 => s_ixS rfl rfl (h.1 g'1).1 e'3.1 (s_mvI H1 (s_cvi rfl (e'3.2.elim fun r'4 e'5 => s_call (sc rfl rfl (sc rfl rfl sn)) e'5.1 (s_cvi rfl (s_mvI rfl (s_nil (W.seq (W.seq (W.reg0 rfl fun _ _ => s_mvI H9 (s_mvI H2 (s_mvI rfl (s_bin rfl rfl (abin_sub _ _ _) (s_mvI H1 (s_bin rfl rfl (abin_quo' e'5.2.1) (s_bin rfl rfl (abin_gtr _ _ _) (s_nil (c_split rfl (fun g'6 => W.seq (W.reg0 rfl fun _ _ => s_mvI rfl (s_mvI rfl (s_nil (W.ret (hQ _ _   _ _ rfl rfl  (e'5.2.2.1 g'6))))))) (fun g'6 => W.skip (W.reg0 rfl fun _ _ => s_mvI H9 (s_mvI H1 (s_bin rfl rfl (abin_mul _ _ _) (s_mvI rfl (s_bin rfl rfl (abin_add _ _ _) (s_mvI rfl (s_nil (W.reg0 rfl fun _ _ => s_mvI H10 (s_bin rfl rfl (abin_add _ _ _) (s_mvI rfl (s_nil (kP1 _ _ (e'5.2.2.2 g'6) _ _  H0 H1 H2 rfl rfl))))))))))))))))))))))))))))))))))))) (fun g'1 => W.exit (w38_5  hQ  H9 (h.2 g'1))))))))))
def T38_3 (prog : Prog) (K : Int → Int → Prop) (s0 : List UInt8) (base1 : Int) (most2 : Int) : Prop :=
  ∀ P1 : Int → Int → Prop, (∀ (n9 : Int) (i10 : Int), T38_4 prog K P1 s0 base1 most2 n9 i10 → P1 n9 i10) → P1 0 0
theorem w38_3 {prog : Prog} {d : Nat} {Q : AE → Sl → St → Prop} {K : Int → Int → Prop} (hQ : ∀ (σ : Sl) (st : St) (x0 : Int) (x1 : Int), σ 6 = .i .u64 x0 → σ 7 = .i .i64 x1 → K x0 x1 → Q .ret σ st) {s0 : List UInt8} {base1 : Int} {most2 : Int}   {σ : Sl} {st : St} (H0 : σ 0 = .s s0) (H1 : σ 1 = .i .u64 base1) (H2 : σ 2 = .i .u64 most2) (h : T38_3 prog K s0 base1 most2) : W prog d c38_3 σ st Q :=
  W.seq (W.reg0 rfl fun _ _ => s_mvI rfl (s_nil (W.seq (W.seq (W.reg0 rfl fun _ _ => s_mvI rfl (s_nil (W.block (h (I38_1 prog d Q s0 base1 most2) (fun _ _ hb _ _  H0 H1 H2 H9 H10 => W.loop (w38_4 hQ (fun _ _ x => x) H0 H1 H2 H9 H10 hb)) _ _  H0 H1 H2 rfl rfl))))))))
def T38_2 (prog : Prog) (K : Int → Int → Prop) (P0 : Int → Prop) (s0 : List UInt8) (base1 : Int) (most2 : Int) (i8 : Int) : Prop :=
  (i8 < (s0.length : Int) → 0 ≤ i8 ∧ ∃ c'2 : UInt8, s0[(i8).toNat]? = some c'2 ∧ ∃ r'4 : Int, Pus prog 44 [.i .u8 (c'2.toNat : Int), .i .i64 (IntKind.i64.wrap base1)] (.i .i64 r'4) ∧ (r'4 < 0 → K 0 12) ∧ (¬(r'4 < 0) → P0 (IntKind.i64.wrap (i8 + 1)))) ∧ (¬(i8 < (s0.length : Int)) → T38_3 prog K s0 base1 most2)
theorem w38_2 {prog : Prog} {d : Nat} {Q : AE → Sl → St → Prop} {K : Int → Int → Prop} (hQ : ∀ (σ : Sl) (st : St) (x0 : Int) (x1 : Int), σ 6 = .i .u64 x0 → σ 7 = .i .i64 x1 → K x0 x1 → Q .ret σ st) {s0 : List UInt8} {base1 : Int} {most2 : Int} {i8 : Int} {P0 : Int → Prop} (kP0 : ∀ (i8 : Int), P0 i8 → I38_0 prog d Q s0 base1 most2 i8) {σ : Sl} {st : St} (H0 : σ 0 = .s s0) (H1 : σ 1 = .i .u64 base1) (H2 : σ 2 = .i .u64 most2) (H8 : σ 8 = .i .i64 i8) (h : T38_2 prog K P0 s0 base1 most2 i8) : W prog d l38_0 σ st (thenW prog d (.loop l38_0) (blockW 0 (thenW prog d c38_3 Q))) :=
  W.seq (W.seq (W.reg0 rfl fun _ _ => s_mvI H8 (s_mvS H0 (s_lenS rfl (s_bin rfl rfl (abin_lss _ _ _) (s_nil (c_split rfl (fun g'1 => W.skip (W.seq (W.block (W.seq (W.reg0 rfl fun _ _ => s_mvS H0 (s_mvI H8 ((h.1 g'1).2.elim fun c'2 e'3 => s_ixS rfl rfl (h.1 g'1).1 e'3.1 (s_mvI H1 (s_cvi rfl (e'3.2.elim fun r'4 e'5 => s_call (sc rfl rfl (sc rfl rfl sn)) e'5.1 (s_bin rfl rfl (abin_lss _ _ _) (s_nil (c_split rfl (fun g'6 => W.seq (W.reg0 rfl fun _ _ => s_mvI rfl (s_mvI rfl (s_nil (W.ret (hQ _ _   _ _ rfl rfl  (e'5.2.1 g'6))))))) (fun g'6 => W.skip (W.reg0 rfl fun _ _ => s_mvI H8 (s_bin rfl rfl (abin_add _ _ _) (s_mvI rfl (s_nil (kP0 _ (e'5.2.2 g'6) _ _  H0 H1 H2 rfl))))))))))))))))))) (fun g'1 => W.exit (w38_3  hQ  H0 H1 H2 (h.2 g'1))))))))))
def T38_1 (prog : Prog) (K : Int → Int → Prop) (s0 : List UInt8) (base1 : Int) (most2 : Int) : Prop :=
  ((s0.length : Int) = 0 → K 0 12) ∧ (¬((s0.length : Int) = 0) → ∃ c'2 : UInt8, s0[0]? = some c'2 ∧ ((c'2.toNat : Int) = 48 → ((s0.length : Int) > 1 → K 0 12) ∧ (¬((s0.length : Int) > 1) → ∀ P0 : Int → Prop, (∀ (i8 : Int), T38_2 prog K P0 s0 base1 most2 i8 → P0 i8) → P0 0)) ∧ (¬((c'2.toNat : Int) = 48) → ∀ P0 : Int → Prop, (∀ (i8 : Int), T38_2 prog K P0 s0 base1 most2 i8 → P0 i8) → P0 0))
theorem w38_1 {prog : Prog} {d : Nat} {Q : AE → Sl → St → Prop} {K : Int → Int → Prop} (hQ : ∀ (σ : Sl) (st : St) (x0 : Int) (x1 : Int), σ 6 = .i .u64 x0 → σ 7 = .i .i64 x1 → K x0 x1 → Q .ret σ st) {s0 : List UInt8} {base1 : Int} {most2 : Int}   {σ : Sl} {st : St} (H0 : σ 0 = .s s0) (H1 : σ 1 = .i .u64 base1) (H2 : σ 2 = .i .u64 most2) (h : T38_1 prog K s0 base1 most2) : W prog d c38_4 σ st Q :=
  W.seq (W.seq (W.reg0 rfl fun _ _ => s_mvS H0 (s_lenS rfl (s_bin rfl rfl (abin_eql _ _ _) (s_mvB rfl (s_em (g := 15) rfl (fun g'1 => s_gn (b := true) rfl rfl (s_gn (b := true) rfl rfl (s_gn (b := true) rfl rfl (s_gn (b := true) rfl rfl (s_gt rfl (s_gt rfl (s_gt rfl (s_gn (b := true) rfl rfl (s_pickTB rfl rfl (s_nil (c_tt rfl (W.seq (W.reg0 rfl fun _ _ => s_mvI rfl (s_mvI rfl (s_nil (W.ret (hQ _ _   _ _ rfl rfl  (h.1 g'1)))))))))))))))))) (fun g'1 => s_gy rfl (s_mvS H0 (s_gy rfl ((h.2 g'1).elim fun c'2 e'3 => s_ixS rfl rfl (by decide) e'3.1 (s_gy rfl (s_bin rfl rfl (abin_eql _ _ _) (s_gy rfl (s_mvB rfl (s_em (g := 19) rfl (fun g'4 => s_gy rfl (s_mvS H0 (s_gy rfl (s_lenS rfl (s_gy rfl (s_bin rfl rfl (abin_gtr _ _ _) (s_gy rfl (s_pickTB rfl rfl (s_pickFB rfl rfl (s_nil (c_split rfl (fun g'5 => W.seq (W.reg0 rfl fun _ _ => s_mvI rfl (s_mvI rfl (s_nil (W.ret (hQ _ _   _ _ rfl rfl  ((e'3.2.1 g'4).1 g'5))))))) (fun g'5 => W.skip (W.seq (W.seq (W.reg0 rfl fun _ _ => s_mvI rfl (s_nil (W.block (((e'3.2.1 g'4).2 g'5) (I38_0 prog d Q s0 base1 most2) (fun _ hb _ _  H0 H1 H2 H8 => W.loop (w38_2 hQ (fun _ x => x) H0 H1 H2 H8 hb)) _ _  H0 H1 H2 rfl)))))))))))))))))) (fun g'4 => s_gn (b := false) rfl rfl (s_gn (b := false) rfl rfl (s_gn (b := false) rfl rfl (s_gy rfl (s_pickFB rfl rfl (s_pickFB rfl rfl (s_nil (c_ff rfl (W.skip (W.seq (W.seq (W.reg0 rfl fun _ _ => s_mvI rfl (s_nil (W.block ((e'3.2.2 g'4) (I38_0 prog d Q s0 base1 most2) (fun _ hb _ _  H0 H1 H2 H8 => W.loop (w38_2 hQ (fun _ x => x) H0 H1 H2 H8 hb)) _ _  H0 H1 H2 rfl))))))))))))))))))))))))))))))
def T38_0 (prog : Prog) (K : Int → Int → Prop) (s0 : List UInt8) (base1 : Int) (most2 : Int) : Prop :=
  T38_1 prog K s0 base1 most2
theorem w38_0 {prog : Prog} {d : Nat} {Q : AE → Sl → St → Prop} {K : Int → Int → Prop} (hQ : ∀ (σ : Sl) (st : St) (x0 : Int) (x1 : Int), σ 6 = .i .u64 x0 → σ 7 = .i .i64 x1 → K x0 x1 → Q .ret σ st) {s0 : List UInt8} {base1 : Int} {most2 : Int}   {σ : Sl} {st : St} (H0 : σ 0 = .s s0) (H1 : σ 1 = .i .u64 base1) (H2 : σ 2 = .i .u64 most2) (h : T38_0 prog K s0 base1 most2) : W prog d (.seq (.reg 0 r38_0) c38_4) σ st Q :=
  W.seq (W.reg0 rfl fun _ _ => s_mvI rfl (s_mvI rfl (s_nil (w38_1  hQ  H0 H1 H2 h))))
theorem p38 {prog : Prog} (hf : prog.fn 38 = some pf38) {s0 : List UInt8} {base1 : Int} {most2 : Int} {K : Int → Int → Prop} (h : T38_0 prog K s0 base1 most2) : ∃ x0 : Int, ∃ x1 : Int, K x0 x1 ∧ Pus prog 38 [.s s0, .i .u64 base1, .i .u64 most2] (.tup [.i .u64 x0, .i .i64 x1]) := by
  obtain ⟨v, hv, x0, x1, hk, rfl⟩ := Pus.of (K := fun v => ∃ x0 : Int, ∃ x1 : Int, K x0 x1 ∧ v = .tup [.i .u64 x0, .i .i64 x1]) hf rfl (w38_0 (σ := sl0 [.s s0, .i .u64 base1, .i .u64 most2]) (fun σ st   x0 x1 H6 H7 hk => ⟨.tup [.i .u64 x0, .i .i64 x1], by simp only [pf38, ares, aresL, H6, H7, ares1, Option.map_some], _, rfl, x0, x1, hk, rfl⟩) rfl rfl rfl h)
  exact ⟨x0, x1, hk, hv⟩

/-! wreckage/wreckageref03.Next -/
def r40_0 : List AI := [⟨(some 2), .mv (.c (.s [])), none⟩,
  ⟨(some 3), .mv (.c (.s [])), none⟩,
  ⟨(some 4), .mv (.c (.b false)), none⟩]
def r40_1 : List AI := [⟨(some 9), .mv (.t 0), none⟩,
  ⟨(some 10), .len true (.t 9), none⟩,
  ⟨(some 11), .bin .eql (.t 10) (.c (.i .i64 0)), none⟩,
  ⟨(some 12), .mv (.t 11), none⟩,
  ⟨(some 13), .mv (.t 0), (some (12, false))⟩,
  ⟨(some 14), .ixS (.t 13) (.c (.i .i64 0)), (some (12, false))⟩,
  ⟨(some 15), .bin .neq (.t 14) (.c (.i .u8 34)), (some (12, false))⟩,
  ⟨(some 16), .pick (.t 12) (.c (.b true)) (.t 15), none⟩]
def r40_2 : List AI := [⟨(some 2), .mv (.c (.s [])), none⟩,
  ⟨(some 3), .mv (.c (.s [])), none⟩,
  ⟨(some 4), .mv (.c (.b false)), none⟩]
def r40_3 : List AI := [⟨(some 17), .mv (.t 0), none⟩,
  ⟨(some 18), .slS (.t 17) (some (.c (.i .i64 1))) none, none⟩,
  ⟨(some 0), .mv (.t 18), none⟩]
def r40_4 : List AI := [⟨(some 5), .mv (.c (.s [])), none⟩]
def r40_5 : List AI := [⟨(some 19), .mv (.t 0), none⟩,
  ⟨(some 20), .len true (.t 19), none⟩,
  ⟨(some 21), .bin .gtr (.t 20) (.c (.i .i64 0)), none⟩,
  ⟨(some 22), .mv (.t 21), none⟩,
  ⟨(some 23), .mv (.t 0), (some (22, true))⟩,
  ⟨(some 24), .ixS (.t 23) (.c (.i .i64 0)), (some (22, true))⟩,
  ⟨(some 25), .bin .neq (.t 24) (.c (.i .u8 34)), (some (22, true))⟩,
  ⟨(some 26), .pick (.t 22) (.t 25) (.c (.b false)), none⟩]
def r40_6 : List AI := [⟨(some 6), .mv (.c (.b false)), none⟩]
def r40_7 : List AI := [⟨(some 7), .mv (.c (.i .i64 0)), none⟩]
def r40_8 : List AI := [⟨(some 27), .mv (.t 7), none⟩,
  ⟨(some 28), .bin .lss (.t 27) (.c (.i .i64 256)), none⟩,
  ⟨(some 29), .mv (.t 28), none⟩,
  ⟨(some 30), .mv (.t 6), (some (29, true))⟩,
  ⟨(some 31), .un .not (.t 30), (some (29, true))⟩,
  ⟨(some 32), .pick (.t 29) (.t 31) (.c (.b false)), none⟩]
def r40_9 : List AI := [⟨(some 35), .mv (.t 7), none⟩,
  ⟨(some 36), .cvi .u8 (.t 35), none⟩,
  ⟨(some 37), .call false 41 [(.t 36)], none⟩,
  ⟨(some 8), .mv (.t 37), none⟩]
def r40_10 : List AI := [⟨(some 38), .mv (.t 0), none⟩,
  ⟨(some 39), .len true (.t 38), none⟩,
  ⟨(some 40), .mv (.t 8), none⟩,
  ⟨(some 41), .len true (.t 40), none⟩,
  ⟨(some 42), .bin .geq (.t 39) (.t 41), none⟩,
  ⟨(some 43), .mv (.t 42), none⟩,
  ⟨(some 44), .mv (.t 0), (some (43, true))⟩,
  ⟨(some 45), .mv (.t 8), (some (43, true))⟩,
  ⟨(some 46), .len true (.t 45), (some (43, true))⟩,
  ⟨(some 47), .slS (.t 44) none (some (.t 46)), (some (43, true))⟩,
  ⟨(some 48), .mv (.t 8), (some (43, true))⟩,
  ⟨(some 49), .bin .eql (.t 47) (.t 48), (some (43, true))⟩,
  ⟨(some 50), .pick (.t 43) (.t 49) (.c (.b false)), none⟩]
def r40_11 : List AI := [⟨(some 51), .mv (.t 5), none⟩,
  ⟨(some 52), .mv (.t 7), none⟩,
  ⟨(some 53), .cvi .u8 (.t 52), none⟩,
  ⟨(some 54), .bslice [.i .u8 0] 1 [(0, (.t 53))], none⟩,
  ⟨(some 55), .b2s (.t 54), none⟩,
  ⟨(some 56), .bin .add (.t 51) (.t 55), none⟩,
  ⟨(some 5), .mv (.t 56), none⟩]
def r40_12 : List AI := [⟨(some 57), .mv (.t 0), none⟩,
  ⟨(some 58), .mv (.t 8), none⟩,
  ⟨(some 59), .len true (.t 58), none⟩,
  ⟨(some 60), .slS (.t 57) (some (.t 59)) none, none⟩,
  ⟨(some 0), .mv (.t 60), none⟩]
def r40_13 : List AI := [⟨(some 6), .mv (.c (.b true)), none⟩]
def r40_14 : List AI := [⟨(some 33), .mv (.t 7), none⟩,
  ⟨(some 34), .bin .add (.t 33) (.c (.i .i64 1)), none⟩,
  ⟨(some 7), .mv (.t 34), none⟩]
def r40_15 : List AI := [⟨(some 61), .mv (.t 6), none⟩,
  ⟨(some 62), .un .not (.t 61), none⟩]
def r40_16 : List AI := [⟨(some 2), .mv (.c (.s [])), none⟩,
  ⟨(some 3), .mv (.c (.s [])), none⟩,
  ⟨(some 4), .mv (.c (.b false)), none⟩]
def r40_17 : List AI := [⟨(some 63), .mv (.t 0), none⟩,
  ⟨(some 64), .len true (.t 63), none⟩,
  ⟨(some 65), .bin .eql (.t 64) (.c (.i .i64 0)), none⟩]
def r40_18 : List AI := [⟨(some 2), .mv (.c (.s [])), none⟩,
  ⟨(some 3), .mv (.c (.s [])), none⟩,
  ⟨(some 4), .mv (.c (.b false)), none⟩]
def r40_19 : List AI := [⟨(some 66), .mv (.t 5), none⟩,
  ⟨(some 67), .mv (.t 0), none⟩,
  ⟨(some 68), .slS (.t 67) (some (.c (.i .i64 1))) none, none⟩,
  ⟨(some 2), .mv (.t 66), none⟩,
  ⟨(some 3), .mv (.t 68), none⟩,
  ⟨(some 4), .mv (.c (.b true)), none⟩]
abbrev c40_0 : AC := (.reg 9 r40_14)
abbrev l40_1 : AC := (.seq (.seq (.reg 8 r40_8) (.cond (.t 32) .skip (.exit 2))) (.seq (.block 3 (.seq (.reg 10 r40_9) (.seq (.reg 11 r40_10) (.cond (.t 50) (.seq (.reg 12 r40_11) (.seq (.reg 13 r40_12) (.reg 14 r40_13))) .skip)))) c40_0))
abbrev c40_2 : AC := (.seq (.reg 15 r40_15) (.cond (.t 62) (.seq (.reg 16 r40_16) .ret) .skip))
abbrev l40_0 : AC := (.seq (.seq (.reg 5 r40_5) (.cond (.t 26) .skip (.exit 0))) (.block 1 (.seq (.reg 6 r40_6) (.seq (.seq (.reg 7 r40_7) (.block 2 (.loop l40_1))) c40_2))))
abbrev c40_4 : AC := (.seq (.seq (.reg 17 r40_17) (.cond (.t 65) (.seq (.reg 18 r40_18) .ret) .skip)) (.seq (.reg 19 r40_19) .ret))
abbrev c40_5 : AC := (.seq (.block 0 (.loop l40_0)) c40_4)
abbrev c40_6 : AC := (.seq (.reg 4 r40_4) c40_5)
abbrev c40_7 : AC := (.seq (.reg 3 r40_3) c40_6)
abbrev c40_8 : AC := (.seq (.seq (.reg 1 r40_1) (.cond (.t 16) (.seq (.reg 2 r40_2) .ret) .skip)) c40_7)
abbrev b40 : AC := (.seq (.reg 0 r40_0) c40_8)
def pf40 : AF := { nt := 69, res := [.tmp 2, .tmp 3, .tmp 4], body := b40 }
abbrev I40_0 (prog : Prog) (d : Nat) (Q : AE → Sl → St → Prop) (s0 : List UInt8) (out5 : List UInt8) : Prop :=
  ∀ (σ : Sl) (st : St), σ 0 = .s s0 → σ 5 = .s out5 → W prog d (.loop l40_0) σ st (blockW 0 (thenW prog d c40_4 Q))
abbrev I40_1 (prog : Prog) (d : Nat) (Q : AE → Sl → St → Prop) (s0 : List UInt8) (out5 : List UInt8) (found6 : Bool) (c7 : Int) : Prop :=
  ∀ (σ : Sl) (st : St), σ 0 = .s s0 → σ 5 = .s out5 → σ 6 = .b found6 → σ 7 = .i .i64 c7 → W prog d (.loop l40_1) σ st (blockW 2 (thenW prog d c40_2 (blockW 1 (thenW prog d (.loop l40_0) (blockW 0 (thenW prog d c40_4 Q))))))
def T40_7 (prog : Prog) (K : List UInt8 → List UInt8 → Bool → Prop) (P1 : List UInt8 → List UInt8 → Bool → Int → Prop) (P0 : List UInt8 → List UInt8 → Prop) (s0 : List UInt8) (out5 : List UInt8) (found6 : Bool) (c7 : Int) : Prop :=
  P1 s0 out5 found6 (IntKind.i64.wrap (c7 + 1))
theorem w40_7 {prog : Prog} {d : Nat} {Q : AE → Sl → St → Prop} {K : List UInt8 → List UInt8 → Bool → Prop} (hQ : ∀ (σ : Sl) (st : St) (x0 : List UInt8) (x1 : List UInt8) (x2 : Bool), σ 2 = .s x0 → σ 3 = .s x1 → σ 4 = .b x2 → K x0 x1 x2 → Q .ret σ st) {s0 : List UInt8} {out5 : List UInt8} {found6 : Bool} {c7 : Int} {P1 : List UInt8 → List UInt8 → Bool → Int → Prop} {P0 : List UInt8 → List UInt8 → Prop} (kP1 : ∀ (s0 : List UInt8) (out5 : List UInt8) (found6 : Bool) (c7 : Int), P1 s0 out5 found6 c7 → I40_1 prog d Q  s0 out5 found6 c7) (kP0 : ∀ (s0 : List UInt8) (out5 : List UInt8), P0 s0 out5 → I40_0 prog d Q  s0 out5) {σ : Sl} {st : St} (H0 : σ 0 = .s s0) (H5 : σ 5 = .s out5) (H6 : σ 6 = .b found6) (H7 : σ 7 = .i .i64 c7) (h : T40_7 prog K P1 P0 s0 out5 found6 c7) : W prog d c40_0 σ st (thenW prog d (.loop l40_1) (blockW 2 (thenW prog d c40_2 (blockW 1 (thenW prog d (.loop l40_0) (blockW 0 (thenW prog d c40_4 Q))))))) :=
  W.reg0 rfl fun _ _ => s_mvI H7 (s_bin rfl rfl (abin_add _ _ _) (s_mvI rfl (s_nil (kP1 _ _ _ _ h _ _  H0 H5 H6 rfl))))
def T40_8 (prog : Prog) (K : List UInt8 → List UInt8 → Bool → Prop) (P0 : List UInt8 → List UInt8 → Prop) (s0 : List UInt8) (out5 : List UInt8) (found6 : Bool) : Prop :=
  ((!found6) = true → K ([] : List UInt8) ([] : List UInt8) false) ∧ ((!found6) = false → P0 s0 out5)
theorem w40_8 {prog : Prog} {d : Nat} {Q : AE → Sl → St → Prop} {K : List UInt8 → List UInt8 → Bool → Prop} (hQ : ∀ (σ : Sl) (st : St) (x0 : List UInt8) (x1 : List UInt8) (x2 : Bool), σ 2 = .s x0 → σ 3 = .s x1 → σ 4 = .b x2 → K x0 x1 x2 → Q .ret σ st) {s0 : List UInt8} {out5 : List UInt8} {found6 : Bool} {P0 : List UInt8 → List UInt8 → Prop} (kP0 : ∀ (s0 : List UInt8) (out5 : List UInt8), P0 s0 out5 → I40_0 prog d Q  s0 out5) {σ : Sl} {st : St} (H0 : σ 0 = .s s0) (H5 : σ 5 = .s out5) (H6 : σ 6 = .b found6) (h : T40_8 prog K P0 s0 out5 found6) : W prog d c40_2 σ st (blockW 1 (thenW prog d (.loop l40_0) (blockW 0 (thenW prog d c40_4 Q)))) :=
  W.seq (W.reg0 rfl fun _ _ => s_mvB H6 (s_not rfl (s_nil (c_bool rfl (fun g'1 => W.seq (W.reg0 rfl fun _ _ => s_mvS rfl (s_mvS rfl (s_mvB rfl (s_nil (W.ret (hQ _ _   _ _ _ rfl rfl rfl  (h.1 g'1)))))))) (fun g'1 => W.skip (kP0 _ _ (h.2 g'1) _ _  H0 H5))))))
def T40_6 (prog : Prog) (K : List UInt8 → List UInt8 → Bool → Prop) (P1 : List UInt8 → List UInt8 → Bool → Int → Prop) (P0 : List UInt8 → List UInt8 → Prop) (s0 : List UInt8) (out5 : List UInt8) (found6 : Bool) (c7 : Int) : Prop :=
  (c7 < 256 → ((!found6) = true → ∃ r'3 : List UInt8, Pus prog 41 [.i .u8 (IntKind.u8.wrap c7)] (.s r'3) ∧ ((s0.length : Int) ≥ (r'3.length : Int) → 0 ≤ (r'3.length : Int) ∧ (r'3.length : Int).toNat ≤ s0.length ∧ ((s0.take (r'3.length : Int).toNat) = r'3 → ∃ c'7 : UInt8, (IntKind.u8.wrap c7) = (c'7.toNat : Int) ∧ out5.length + [c'7].length ≤ maxStr ∧ 0 ≤ (r'3.length : Int) ∧ (r'3.length : Int).toNat ≤ s0.length ∧ T40_7 prog K P1 P0 (s0.drop (r'3.length : Int).toNat) (out5 ++ [c'7]) true c7) ∧ (¬((s0.take (r'3.length : Int).toNat) = r'3) → T40_7 prog K P1 P0 s0 out5 found6 c7)) ∧ (¬((s0.length : Int) ≥ (r'3.length : Int)) → T40_7 prog K P1 P0 s0 out5 found6 c7)) ∧ ((!found6) = false → T40_8 prog K P0 s0 out5 found6)) ∧ (¬(c7 < 256) → T40_8 prog K P0 s0 out5 found6)
theorem w40_6 {prog : Prog} {d : Nat} {Q : AE → Sl → St → Prop} {K : List UInt8 → List UInt8 → Bool → Prop} (hQ : ∀ (σ : Sl) (st : St) (x0 : List UInt8) (x1 : List UInt8) (x2 : Bool), σ 2 = .s x0 → σ 3 = .s x1 → σ 4 = .b x2 → K x0 x1 x2 → Q .ret σ st) {s0 : List UInt8} {out5 : List UInt8} {found6 : Bool} {c7 : Int} {P1 : List UInt8 → List UInt8 → Bool → Int → Prop} {P0 : List UInt8 → List UInt8 → Prop} (kP1 : ∀ (s0 : List UInt8) (out5 : List UInt8) (found6 : Bool) (c7 : Int), P1 s0 out5 found6 c7 → I40_1 prog d Q  s0 out5 found6 c7) (kP0 : ∀ (s0 : List UInt8) (out5 : List UInt8), P0 s0 out5 → I40_0 prog d Q  s0 out5) {σ : Sl} {st : St} (H0 : σ 0 = .s s0) (H5 : σ 5 = .s out5) (H6 : σ 6 = .b found6) (H7 : σ 7 = .i .i64 c7) (h : T40_6 prog K P1 P0 s0 out5 found6 c7) : W prog d l40_1 σ st (thenW prog d (.loop l40_1) (blockW 2 (thenW prog d c40_2 (blockW 1 (thenW prog d (.loop l40_0) (blockW 0 (thenW prog d c40_4 Q))))))) :=
  W.seq (W.seq (W.reg0 rfl fun _ _ => s_mvI H7 (s_bin rfl rfl (abin_lss _ _ _) (s_mvB rfl (s_em (g := 29) rfl (fun g'1 => s_gy rfl (s_mvB H6 (s_gy rfl (s_not rfl (s_pickTB rfl rfl (s_nil (c_bool rfl (fun g'2 => W.skip (W.seq (W.block (W.seq (W.reg0 rfl fun _ _ => s_mvI H7 (s_cvi rfl (((h.1 g'1).1 g'2).elim fun r'3 e'4 => s_call (sc rfl rfl sn) e'4.1 (s_mvS rfl (s_nil (W.seq (W.reg0 rfl fun _ _ => s_mvS H0 (s_lenS rfl (s_mvS rfl (s_lenS rfl (s_bin rfl rfl (abin_geq _ _ _) (s_mvB rfl (s_em (g := 43) rfl (fun g'5 => s_gy rfl (s_mvS H0 (s_gy rfl (s_mvS rfl (s_gy rfl (s_lenS rfl (s_gy rfl (s_slS_hi rfl rfl (e'4.2.1 g'5).1 (e'4.2.1 g'5).2.1 (s_gy rfl (s_mvS rfl (s_gy rfl (s_bin rfl rfl (abin_seq _ _) (s_pickTB rfl rfl (s_nil (c_split rfl (fun g'6 => W.seq (W.reg0 rfl fun _ _ => s_mvS H5 (s_mvI H7 (s_cvi rfl (((e'4.2.1 g'5).2.2.1 g'6).elim fun c'7 e'8 => s_bslM (f := row8) (l := [c'7]) rfl rfl (g_cons (g_u8 rfl e'8.1) rfl rfl g_nil) rfl (s_b2s rfl (s_bin rfl rfl (abin_cat' e'8.2.1) (s_mvS rfl (s_nil (W.seq (W.reg0 rfl fun _ _ => s_mvS H0 (s_mvS rfl (s_lenS rfl (s_slS_lo rfl rfl e'8.2.2.1 e'8.2.2.2.1 (s_mvS rfl (s_nil (W.reg0 rfl fun _ _ => s_mvB rfl (s_nil (w40_7  hQ kP1 kP0 rfl rfl rfl H7 e'8.2.2.2.2))))))))))))))))))) (fun g'6 => W.skip (w40_7  hQ kP1 kP0 H0 H5 H6 H7 ((e'4.2.1 g'5).2.2.2 g'6)))))))))))))))))) (fun g'5 => s_gn (b := false) rfl rfl (s_gn (b := false) rfl rfl (s_gn (b := false) rfl rfl (s_gn (b := false) rfl rfl (s_gn (b := false) rfl rfl (s_gn (b := false) rfl rfl (s_pickFB rfl rfl (s_nil (c_ff rfl (W.skip (w40_7  hQ kP1 kP0 H0 H5 H6 H7 (e'4.2.2 g'5))))))))))))))))))))))))))))) (fun g'2 => W.exit (w40_8  hQ kP0 H0 H5 H6 ((h.1 g'1).2 g'2)))))))))) (fun g'1 => s_gn (b := false) rfl rfl (s_gn (b := false) rfl rfl (s_pickFB rfl rfl (s_nil (c_ff rfl (W.exit (w40_8  hQ kP0 H0 H5 H6 (h.2 g'1)))))))))))))
def T40_9 (prog : Prog) (K : List UInt8 → List UInt8 → Bool → Prop) (s0 : List UInt8) (out5 : List UInt8) : Prop :=
  ((s0.length : Int) = 0 → K ([] : List UInt8) ([] : List UInt8) false) ∧ (¬((s0.length : Int) = 0) → 1 ≤ s0.length ∧ K out5 (s0.drop 1) true)
theorem w40_9 {prog : Prog} {d : Nat} {Q : AE → Sl → St → Prop} {K : List UInt8 → List UInt8 → Bool → Prop} (hQ : ∀ (σ : Sl) (st : St) (x0 : List UInt8) (x1 : List UInt8) (x2 : Bool), σ 2 = .s x0 → σ 3 = .s x1 → σ 4 = .b x2 → K x0 x1 x2 → Q .ret σ st) {s0 : List UInt8} {out5 : List UInt8}   {σ : Sl} {st : St} (H0 : σ 0 = .s s0) (H5 : σ 5 = .s out5) (h : T40_9 prog K s0 out5) : W prog d c40_4 σ st Q :=
  W.seq (W.seq (W.reg0 rfl fun _ _ => s_mvS H0 (s_lenS rfl (s_bin rfl rfl (abin_eql _ _ _) (s_nil (c_split rfl (fun g'1 => W.seq (W.reg0 rfl fun _ _ => s_mvS rfl (s_mvS rfl (s_mvB rfl (s_nil (W.ret (hQ _ _   _ _ _ rfl rfl rfl  (h.1 g'1)))))))) (fun g'1 => W.skip (W.seq (W.reg0 rfl fun _ _ => s_mvS H5 (s_mvS H0 (s_slS_lo rfl rfl (by decide) (h.2 g'1).1 (s_mvS rfl (s_mvS rfl (s_mvB rfl (s_nil (W.ret (hQ _ _   _ _ _ rfl rfl rfl  (h.2 g'1).2)))))))))))))))))
def T40_5 (prog : Prog) (K : List UInt8 → List UInt8 → Bool → Prop) (P0 : List UInt8 → List UInt8 → Prop) (s0 : List UInt8) (out5 : List UInt8) : Prop :=
  ((s0.length : Int) > 0 → ∃ c'2 : UInt8, s0[0]? = some c'2 ∧ ((c'2.toNat : Int) ≠ 34 → ∀ P1 : List UInt8 → List UInt8 → Bool → Int → Prop, (∀ (s0 : List UInt8) (out5 : List UInt8) (found6 : Bool) (c7 : Int), T40_6 prog K P1 P0 s0 out5 found6 c7 → P1 s0 out5 found6 c7) → P1 s0 out5 false 0) ∧ (¬((c'2.toNat : Int) ≠ 34) → T40_9 prog K s0 out5)) ∧ (¬((s0.length : Int) > 0) → T40_9 prog K s0 out5)
theorem w40_5 {prog : Prog} {d : Nat} {Q : AE → Sl → St → Prop} {K : List UInt8 → List UInt8 → Bool → Prop} (hQ : ∀ (σ : Sl) (st : St) (x0 : List UInt8) (x1 : List UInt8) (x2 : Bool), σ 2 = .s x0 → σ 3 = .s x1 → σ 4 = .b x2 → K x0 x1 x2 → Q .ret σ st) {s0 : List UInt8} {out5 : List UInt8} {P0 : List UInt8 → List UInt8 → Prop} (kP0 : ∀ (s0 : List UInt8) (out5 : List UInt8), P0 s0 out5 → I40_0 prog d Q  s0 out5) {σ : Sl} {st : St} (H0 : σ 0 = .s s0) (H5 : σ 5 = .s out5) (h : T40_5 prog K P0 s0 out5) : W prog d l40_0 σ st (thenW prog d (.loop l40_0) (blockW 0 (thenW prog d c40_4 Q))) :=
  W.seq (W.seq (W.reg0 rfl fun _ _ => s_mvS H0 (s_lenS rfl (s_bin rfl rfl (abin_gtr _ _ _) (s_mvB rfl (s_em (g := 22) rfl (fun g'1 => s_gy rfl (s_mvS H0 (s_gy rfl ((h.1 g'1).elim fun c'2 e'3 => s_ixS rfl rfl (by decide) e'3.1 (s_gy rfl (s_bin rfl rfl (abin_neq _ _ _) (s_pickTB rfl rfl (s_nil (c_split rfl (fun g'4 => W.skip (W.block (W.seq (W.reg0 rfl fun _ _ => s_mvB rfl (s_nil (W.seq (W.seq (W.reg0 rfl fun _ _ => s_mvI rfl (s_nil (W.block ((e'3.2.1 g'4) (I40_1 prog d Q ) (fun _ _ _ _ hb _ _  H0 H5 H6 H7 => W.loop (w40_6 hQ (fun _ _ _ _ x => x) kP0 H0 H5 H6 H7 hb)) _ _  H0 H5 rfl rfl))))))))))) (fun g'4 => W.exit (w40_9  hQ  H0 H5 (e'3.2.2 g'4)))))))))))) (fun g'1 => s_gn (b := false) rfl rfl (s_gn (b := false) rfl rfl (s_gn (b := false) rfl rfl (s_pickFB rfl rfl (s_nil (c_ff rfl (W.exit (w40_9  hQ  H0 H5 (h.2 g'1)))))))))))))))
def T40_4 (prog : Prog) (K : List UInt8 → List UInt8 → Bool → Prop) (s0 : List UInt8) (out5 : List UInt8) : Prop :=
  ∀ P0 : List UInt8 → List UInt8 → Prop, (∀ (s0 : List UInt8) (out5 : List UInt8), T40_5 prog K P0 s0 out5 → P0 s0 out5) → P0 s0 out5
theorem w40_4 {prog : Prog} {d : Nat} {Q : AE → Sl → St → Prop} {K : List UInt8 → List UInt8 → Bool → Prop} (hQ : ∀ (σ : Sl) (st : St) (x0 : List UInt8) (x1 : List UInt8) (x2 : Bool), σ 2 = .s x0 → σ 3 = .s x1 → σ 4 = .b x2 → K x0 x1 x2 → Q .ret σ st) {s0 : List UInt8} {out5 : List UInt8}   {σ : Sl} {st : St} (H0 : σ 0 = .s s0) (H5 : σ 5 = .s out5) (h : T40_4 prog K s0 out5) : W prog d c40_5 σ st Q :=
  W.seq (W.block (h (I40_0 prog d Q ) (fun _ _ hb _ _  H0 H5 => W.loop (w40_5 hQ (fun _ _ x => x) H0 H5 hb)) _ _  H0 H5))
def T40_3 (prog : Prog) (K : List UInt8 → List UInt8 → Bool → Prop) (s0 : List UInt8) : Prop :=
  T40_4 prog K s0 ([] : List UInt8)
theorem w40_3 {prog : Prog} {d : Nat} {Q : AE → Sl → St → Prop} {K : List UInt8 → List UInt8 → Bool → Prop} (hQ : ∀ (σ : Sl) (st : St) (x0 : List UInt8) (x1 : List UInt8) (x2 : Bool), σ 2 = .s x0 → σ 3 = .s x1 → σ 4 = .b x2 → K x0 x1 x2 → Q .ret σ st) {s0 : List UInt8}   {σ : Sl} {st : St} (H0 : σ 0 = .s s0) (h : T40_3 prog K s0) : W prog d c40_6 σ st Q :=
  W.seq (W.reg0 rfl fun _ _ => s_mvS rfl (s_nil (w40_4  hQ  H0 rfl h)))
def T40_2 (prog : Prog) (K : List UInt8 → List UInt8 → Bool → Prop) (s0 : List UInt8) : Prop :=
  1 ≤ s0.length ∧ T40_3 prog K (s0.drop 1)
theorem w40_2 {prog : Prog} {d : Nat} {Q : AE → Sl → St → Prop} {K : List UInt8 → List UInt8 → Bool → Prop} (hQ : ∀ (σ : Sl) (st : St) (x0 : List UInt8) (x1 : List UInt8) (x2 : Bool), σ 2 = .s x0 → σ 3 = .s x1 → σ 4 = .b x2 → K x0 x1 x2 → Q .ret σ st) {s0 : List UInt8}   {σ : Sl} {st : St} (H0 : σ 0 = .s s0) (h : T40_2 prog K s0) : W prog d c40_7 σ st Q :=
  W.seq (W.reg0 rfl fun _ _ => s_mvS H0 (s_slS_lo rfl rfl (by decide) h.1 (s_mvS rfl (s_nil (w40_3  hQ  rfl h.2)))))
def T40_1 (prog : Prog) (K : List UInt8 → List UInt8 → Bool → Prop) (s0 : List UInt8) : Prop :=
  ((s0.length : Int) = 0 → K ([] : List UInt8) ([] : List UInt8) false) ∧ (¬((s0.length : Int) = 0) → ∃ c'2 : UInt8, s0[0]? = some c'2 ∧ ((c'2.toNat : Int) ≠ 34 → K ([] : List UInt8) ([] : List UInt8) false) ∧ (¬((c'2.toNat : Int) ≠ 34) → T40_2 prog K s0))
theorem w40_1 {prog : Prog} {d : Nat} {Q : AE → Sl → St → Prop} {K : List UInt8 → List UInt8 → Bool → Prop} (hQ : ∀ (σ : Sl) (st : St) (x0 : List UInt8) (x1 : List UInt8) (x2 : Bool), σ 2 = .s x0 → σ 3 = .s x1 → σ 4 = .b x2 → K x0 x1 x2 → Q .ret σ st) {s0 : List UInt8}   {σ : Sl} {st : St} (H0 : σ 0 = .s s0) (h : T40_1 prog K s0) : W prog d c40_8 σ st Q :=
  W.seq (W.seq (W.reg0 rfl fun _ _ => s_mvS H0 (s_lenS rfl (s_bin rfl rfl (abin_eql _ _ _) (s_mvB rfl (s_em (g := 12) rfl (fun g'1 => s_gn (b := true) rfl rfl (s_gn (b := true) rfl rfl (s_gn (b := true) rfl rfl (s_pickTB rfl rfl (s_nil (c_tt rfl (W.seq (W.reg0 rfl fun _ _ => s_mvS rfl (s_mvS rfl (s_mvB rfl (s_nil (W.ret (hQ _ _   _ _ _ rfl rfl rfl  (h.1 g'1)))))))))))))) (fun g'1 => s_gy rfl (s_mvS H0 (s_gy rfl ((h.2 g'1).elim fun c'2 e'3 => s_ixS rfl rfl (by decide) e'3.1 (s_gy rfl (s_bin rfl rfl (abin_neq _ _ _) (s_pickFB rfl rfl (s_nil (c_split rfl (fun g'4 => W.seq (W.reg0 rfl fun _ _ => s_mvS rfl (s_mvS rfl (s_mvB rfl (s_nil (W.ret (hQ _ _   _ _ _ rfl rfl rfl  (e'3.2.1 g'4)))))))) (fun g'4 => W.skip (w40_2  hQ  H0 (e'3.2.2 g'4))))))))))))))))))
def T40_0 (prog : Prog) (K : List UInt8 → List UInt8 → Bool → Prop) (s0 : List UInt8) : Prop :=
  T40_1 prog K s0
theorem w40_0 {prog : Prog} {d : Nat} {Q : AE → Sl → St → Prop} {K : List UInt8 → List UInt8 → Bool → Prop} (hQ : ∀ (σ : Sl) (st : St) (x0 : List UInt8) (x1 : List UInt8) (x2 : Bool), σ 2 = .s x0 → σ 3 = .s x1 → σ 4 = .b x2 → K x0 x1 x2 → Q .ret σ st) {s0 : List UInt8}   {σ : Sl} {st : St} (H0 : σ 0 = .s s0) (h : T40_0 prog K s0) : W prog d (.seq (.reg 0 r40_0) c40_8) σ st Q :=
  W.seq (W.reg0 rfl fun _ _ => s_mvS rfl (s_mvS rfl (s_mvB rfl (s_nil (w40_1  hQ  H0 h)))))
theorem p40 {prog : Prog} (hf : prog.fn 40 = some pf40) {s0 : List UInt8} {K : List UInt8 → List UInt8 → Bool → Prop} (h : T40_0 prog K s0) : ∃ x0 : List UInt8, ∃ x1 : List UInt8, ∃ x2 : Bool, K x0 x1 x2 ∧ Pus prog 40 [.s s0] (.tup [.s x0, .s x1, .b x2]) := by
  obtain ⟨v, hv, x0, x1, x2, hk, rfl⟩ := Pus.of (K := fun v => ∃ x0 : List UInt8, ∃ x1 : List UInt8, ∃ x2 : Bool, K x0 x1 x2 ∧ v = .tup [.s x0, .s x1, .b x2]) hf rfl (w40_0 (σ := sl0 [.s s0]) (fun σ st   x0 x1 x2 H2 H3 H4 hk => ⟨.tup [.s x0, .s x1, .b x2], by simp only [pf40, ares, aresL, H2, H3, H4, ares1, Option.map_some], _, rfl, x0, x1, x2, hk, rfl⟩) rfl h)
  exact ⟨x0, x1, x2, hk, hv⟩

/-! wreckage/wreckageref03.Char -/
def r41_0 : List AI := [⟨(some 2), .mv (.c (.s [])), none⟩]
def r41_1 : List AI := [⟨(some 3), .mv (.t 0), none⟩,
  ⟨(some 4), .bin .eql (.t 3) (.c (.i .u8 34)), none⟩,
  ⟨(some 5), .mv (.t 4), none⟩,
  ⟨(some 6), .mv (.t 0), (some (5, false))⟩,
  ⟨(some 7), .bin .eql (.t 6) (.c (.i .u8 92)), (some (5, false))⟩,
  ⟨(some 8), .pick (.t 5) (.c (.b true)) (.t 7), none⟩]
def r41_2 : List AI := [⟨(some 9), .mv (.t 0), none⟩,
  ⟨(some 10), .bslice [.i .u8 0] 2 [(0, (.c (.i .u8 92))), (1, (.t 9))], none⟩,
  ⟨(some 11), .b2s (.t 10), none⟩,
  ⟨(some 2), .mv (.t 11), none⟩]
def r41_3 : List AI := [⟨(some 12), .mv (.t 0), none⟩,
  ⟨(some 13), .bin .eql (.t 12) (.c (.i .u8 10)), none⟩]
def r41_4 : List AI := [⟨(some 2), .mv (.c (.s [92, 110])), none⟩]
def r41_5 : List AI := [⟨(some 14), .mv (.t 0), none⟩,
  ⟨(some 15), .bin .geq (.t 14) (.c (.i .u8 32)), none⟩,
  ⟨(some 16), .mv (.t 15), none⟩,
  ⟨(some 17), .mv (.t 0), (some (16, true))⟩,
  ⟨(some 18), .bin .leq (.t 17) (.c (.i .u8 126)), (some (16, true))⟩,
  ⟨(some 19), .pick (.t 16) (.t 18) (.c (.b false)), none⟩]
def r41_6 : List AI := [⟨(some 20), .mv (.t 0), none⟩,
  ⟨(some 21), .bslice [.i .u8 0] 1 [(0, (.t 20))], none⟩,
  ⟨(some 22), .b2s (.t 21), none⟩,
  ⟨(some 2), .mv (.t 22), none⟩]
def r41_7 : List AI := [⟨(some 23), .mv (.t 0), none⟩,
  ⟨(some 24), .bin .quo (.t 23) (.c (.i .u8 16)), none⟩,
  ⟨(some 25), .mv (.t 0), none⟩,
  ⟨(some 26), .bin .quo (.t 25) (.c (.i .u8 16)), none⟩,
  ⟨(some 27), .bin .add (.t 26) (.c (.i .u8 1)), none⟩,
  ⟨(some 28), .slS (.c (.s [48, 49, 50, 51, 52, 53, 54, 55, 56, 57, 97, 98, 99, 100, 101, 102])) (some (.t 24)) (some (.t 27)), none⟩,
  ⟨(some 29), .bin .add (.c (.s [92, 120])) (.t 28), none⟩,
  ⟨(some 30), .mv (.t 0), none⟩,
  ⟨(some 31), .bin .rem (.t 30) (.c (.i .u8 16)), none⟩,
  ⟨(some 32), .mv (.t 0), none⟩,
  ⟨(some 33), .bin .rem (.t 32) (.c (.i .u8 16)), none⟩,
  ⟨(some 34), .bin .add (.t 33) (.c (.i .u8 1)), none⟩,
  ⟨(some 35), .slS (.c (.s [48, 49, 50, 51, 52, 53, 54, 55, 56, 57, 97, 98, 99, 100, 101, 102])) (some (.t 31)) (some (.t 34)), none⟩,
  ⟨(some 36), .bin .add (.t 29) (.t 35), none⟩,
  ⟨(some 2), .mv (.t 36), none⟩]
abbrev b41 : AC := (.seq (.reg 0 r41_0) (.seq (.seq (.reg 1 r41_1) (.cond (.t 8) (.seq (.reg 2 r41_2) .ret) .skip)) (.seq (.seq (.reg 3 r41_3) (.cond (.t 13) (.seq (.reg 4 r41_4) .ret) .skip)) (.seq (.seq (.reg 5 r41_5) (.cond (.t 19) (.seq (.reg 6 r41_6) .ret) .skip)) (.seq (.reg 7 r41_7) .ret)))))
def pf41 : AF := { nt := 37, res := [.tmp 2], body := b41 }
def T41_0 (prog : Prog) (K : List UInt8 → Prop) (c0 : Int) : Prop :=
  (c0 = 34 → ∃ c'2 : UInt8, c0 = (c'2.toNat : Int) ∧ K [(92 : UInt8), c'2]) ∧ (¬(c0 = 34) → (c0 = 92 → ∃ c'5 : UInt8, c0 = (c'5.toNat : Int) ∧ K [(92 : UInt8), c'5]) ∧ (¬(c0 = 92) → (c0 = 10 → K ([92, 110] : List UInt8)) ∧ (¬(c0 = 10) → (c0 ≥ 32 → (c0 ≤ 126 → ∃ c'10 : UInt8, c0 = (c'10.toNat : Int) ∧ K [c'10]) ∧ (¬(c0 ≤ 126) → 0 ≤ (IntKind.u8.wrap ((c0 : Int).tdiv 16)) ∧ (IntKind.u8.wrap ((c0 : Int).tdiv 16)) ≤ (IntKind.u8.wrap ((IntKind.u8.wrap ((c0 : Int).tdiv 16)) + 1)) ∧ (IntKind.u8.wrap ((IntKind.u8.wrap ((c0 : Int).tdiv 16)) + 1)).toNat ≤ ([48, 49, 50, 51, 52, 53, 54, 55, 56, 57, 97, 98, 99, 100, 101, 102] : List UInt8).length ∧ ([92, 120] : List UInt8).length + ((([48, 49, 50, 51, 52, 53, 54, 55, 56, 57, 97, 98, 99, 100, 101, 102] : List UInt8).drop (IntKind.u8.wrap ((c0 : Int).tdiv 16)).toNat).take ((IntKind.u8.wrap ((IntKind.u8.wrap ((c0 : Int).tdiv 16)) + 1)).toNat - (IntKind.u8.wrap ((c0 : Int).tdiv 16)).toNat)).length ≤ maxStr ∧ 0 ≤ ((c0 : Int).tmod 16) ∧ ((c0 : Int).tmod 16) ≤ (IntKind.u8.wrap (((c0 : Int).tmod 16) + 1)) ∧ (IntKind.u8.wrap (((c0 : Int).tmod 16) + 1)).toNat ≤ ([48, 49, 50, 51, 52, 53, 54, 55, 56, 57, 97, 98, 99, 100, 101, 102] : List UInt8).length ∧ (([92, 120] : List UInt8) ++ ((([48, 49, 50, 51, 52, 53, 54, 55, 56, 57, 97, 98, 99, 100, 101, 102] : List UInt8).drop (IntKind.u8.wrap ((c0 : Int).tdiv 16)).toNat).take ((IntKind.u8.wrap ((IntKind.u8.wrap ((c0 : Int).tdiv 16)) + 1)).toNat - (IntKind.u8.wrap ((c0 : Int).tdiv 16)).toNat))).length + ((([48, 49, 50, 51, 52, 53, 54, 55, 56, 57, 97, 98, 99, 100, 101, 102] : List UInt8).drop ((c0 : Int).tmod 16).toNat).take ((IntKind.u8.wrap (((c0 : Int).tmod 16) + 1)).toNat - ((c0 : Int).tmod 16).toNat)).length ≤ maxStr ∧ K ((([92, 120] : List UInt8) ++ ((([48, 49, 50, 51, 52, 53, 54, 55, 56, 57, 97, 98, 99, 100, 101, 102] : List UInt8).drop (IntKind.u8.wrap ((c0 : Int).tdiv 16)).toNat).take ((IntKind.u8.wrap ((IntKind.u8.wrap ((c0 : Int).tdiv 16)) + 1)).toNat - (IntKind.u8.wrap ((c0 : Int).tdiv 16)).toNat))) ++ ((([48, 49, 50, 51, 52, 53, 54, 55, 56, 57, 97, 98, 99, 100, 101, 102] : List UInt8).drop ((c0 : Int).tmod 16).toNat).take ((IntKind.u8.wrap (((c0 : Int).tmod 16) + 1)).toNat - ((c0 : Int).tmod 16).toNat))))) ∧ (¬(c0 ≥ 32) → 0 ≤ (IntKind.u8.wrap ((c0 : Int).tdiv 16)) ∧ (IntKind.u8.wrap ((c0 : Int).tdiv 16)) ≤ (IntKind.u8.wrap ((IntKind.u8.wrap ((c0 : Int).tdiv 16)) + 1)) ∧ (IntKind.u8.wrap ((IntKind.u8.wrap ((c0 : Int).tdiv 16)) + 1)).toNat ≤ ([48, 49, 50, 51, 52, 53, 54, 55, 56, 57, 97, 98, 99, 100, 101, 102] : List UInt8).length ∧ ([92, 120] : List UInt8).length + ((([48, 49, 50, 51, 52, 53, 54, 55, 56, 57, 97, 98, 99, 100, 101, 102] : List UInt8).drop (IntKind.u8.wrap ((c0 : Int).tdiv 16)).toNat).take ((IntKind.u8.wrap ((IntKind.u8.wrap ((c0 : Int).tdiv 16)) + 1)).toNat - (IntKind.u8.wrap ((c0 : Int).tdiv 16)).toNat)).length ≤ maxStr ∧ 0 ≤ ((c0 : Int).tmod 16) ∧ ((c0 : Int).tmod 16) ≤ (IntKind.u8.wrap (((c0 : Int).tmod 16) + 1)) ∧ (IntKind.u8.wrap (((c0 : Int).tmod 16) + 1)).toNat ≤ ([48, 49, 50, 51, 52, 53, 54, 55, 56, 57, 97, 98, 99, 100, 101, 102] : List UInt8).length ∧ (([92, 120] : List UInt8) ++ ((([48, 49, 50, 51, 52, 53, 54, 55, 56, 57, 97, 98, 99, 100, 101, 102] : List UInt8).drop (IntKind.u8.wrap ((c0 : Int).tdiv 16)).toNat).take ((IntKind.u8.wrap ((IntKind.u8.wrap ((c0 : Int).tdiv 16)) + 1)).toNat - (IntKind.u8.wrap ((c0 : Int).tdiv 16)).toNat))).length + ((([48, 49, 50, 51, 52, 53, 54, 55, 56, 57, 97, 98, 99, 100, 101, 102] : List UInt8).drop ((c0 : Int).tmod 16).toNat).take ((IntKind.u8.wrap (((c0 : Int).tmod 16) + 1)).toNat - ((c0 : Int).tmod 16).toNat)).length ≤ maxStr ∧ K ((([92, 120] : List UInt8) ++ ((([48, 49, 50, 51, 52, 53, 54, 55, 56, 57, 97, 98, 99, 100, 101, 102] : List UInt8).drop (IntKind.u8.wrap ((c0 : Int).tdiv 16)).toNat).take ((IntKind.u8.wrap ((IntKind.u8.wrap ((c0 : Int).tdiv 16)) + 1)).toNat - (IntKind.u8.wrap ((c0 : Int).tdiv 16)).toNat))) ++ ((([48, 49, 50, 51, 52, 53, 54, 55, 56, 57, 97, 98, 99, 100, 101, 102] : List UInt8).drop ((c0 : Int).tmod 16).toNat).take ((IntKind.u8.wrap (((c0 : Int).tmod 16) + 1)).toNat - ((c0 : Int).tmod 16).toNat)))))))
theorem w41_0 {prog : Prog} {d : Nat} {Q : AE → Sl → St → Prop} {K : List UInt8 → Prop} (hQ : ∀ (σ : Sl) (st : St) (x0 : List UInt8), σ 2 = .s x0 → K x0 → Q .ret σ st) {c0 : Int}   {σ : Sl} {st : St} (H0 : σ 0 = .i .u8 c0) (h : T41_0 prog K c0) : W prog d (.seq (.reg 0 r41_0) (.seq (.seq (.reg 1 r41_1) (.cond (.t 8) (.seq (.reg 2 r41_2) .ret) .skip)) (.seq (.seq (.reg 3 r41_3) (.cond (.t 13) (.seq (.reg 4 r41_4) .ret) .skip)) (.seq (.seq (.reg 5 r41_5) (.cond (.t 19) (.seq (.reg 6 r41_6) .ret) .skip)) (.seq (.reg 7 r41_7) .ret))))) σ st Q :=
  W.seq (W.reg0 rfl fun _ _ => s_mvS rfl (s_nil (W.seq (W.seq (W.reg0 rfl fun _ _ => s_mvI H0 (s_bin rfl rfl (abin_eql _ _ _) (s_mvB rfl (s_em (g := 5) rfl (fun g'1 => s_gn (b := true) rfl rfl (s_gn (b := true) rfl rfl (s_pickTB rfl rfl (s_nil (c_tt rfl (W.seq (W.reg0 rfl fun _ _ => s_mvI H0 ((h.1 g'1).elim fun c'2 e'3 => s_bslM (f := row8) (l := [(92 : UInt8), c'2]) rfl rfl (g_cons rfl rfl rfl (g_cons (g_u8 rfl e'3.1) rfl rfl g_nil)) rfl (s_b2s rfl (s_mvS rfl (s_nil (W.ret (hQ _ _   _ rfl  e'3.2))))))))))))) (fun g'1 => s_gy rfl (s_mvI H0 (s_gy rfl (s_bin rfl rfl (abin_eql _ _ _) (s_pickFB rfl rfl (s_nil (c_split rfl (fun g'4 => W.seq (W.reg0 rfl fun _ _ => s_mvI H0 (((h.2 g'1).1 g'4).elim fun c'5 e'6 => s_bslM (f := row8) (l := [(92 : UInt8), c'5]) rfl rfl (g_cons rfl rfl rfl (g_cons (g_u8 rfl e'6.1) rfl rfl g_nil)) rfl (s_b2s rfl (s_mvS rfl (s_nil (W.ret (hQ _ _   _ rfl  e'6.2)))))))) (fun g'4 => W.skip (W.seq (W.seq (W.reg0 rfl fun _ _ => s_mvI H0 (s_bin rfl rfl (abin_eql _ _ _) (s_nil (c_split rfl (fun g'7 => W.seq (W.reg0 rfl fun _ _ => s_mvS rfl (s_nil (W.ret (hQ _ _   _ rfl  (((h.2 g'1).2 g'4).1 g'7)))))) (fun g'7 => W.skip (W.seq (W.seq (W.reg0 rfl fun _ _ => s_mvI H0 (s_bin rfl rfl (abin_geq _ _ _) (s_mvB rfl (s_em (g := 16) rfl (fun g'8 => s_gy rfl (s_mvI H0 (s_gy rfl (s_bin rfl rfl (abin_leq _ _ _) (s_pickTB rfl rfl (s_nil (c_split rfl (fun g'9 => W.seq (W.reg0 rfl fun _ _ => s_mvI H0 ((((((h.2 g'1).2 g'4).2 g'7).1 g'8).1 g'9).elim fun c'10 e'11 => s_bslM (f := row8) (l := [c'10]) rfl rfl (g_cons (g_u8 rfl e'11.1) rfl rfl g_nil) rfl (s_b2s rfl (s_mvS rfl (s_nil (W.ret (hQ _ _   _ rfl  e'11.2)))))))) (fun g'9 => W.skip (W.seq (W.reg0 rfl fun _ _ => s_mvI H0 (s_bin rfl rfl (abin_quo' (by decide)) (s_mvI H0 (s_bin rfl rfl (abin_quo' (by decide)) (s_bin rfl rfl (abin_add _ _ _) (s_slS rfl rfl rfl (((((h.2 g'1).2 g'4).2 g'7).1 g'8).2 g'9).1 (((((h.2 g'1).2 g'4).2 g'7).1 g'8).2 g'9).2.1 (((((h.2 g'1).2 g'4).2 g'7).1 g'8).2 g'9).2.2.1 (s_bin rfl rfl (abin_cat' (((((h.2 g'1).2 g'4).2 g'7).1 g'8).2 g'9).2.2.2.1) (s_mvI H0 (s_bin rfl rfl (abin_rem' (by decide)) (s_mvI H0 (s_bin rfl rfl (abin_rem' (by decide)) (s_bin rfl rfl (abin_add _ _ _) (s_slS rfl rfl rfl (((((h.2 g'1).2 g'4).2 g'7).1 g'8).2 g'9).2.2.2.2.1 (((((h.2 g'1).2 g'4).2 g'7).1 g'8).2 g'9).2.2.2.2.2.1 (((((h.2 g'1).2 g'4).2 g'7).1 g'8).2 g'9).2.2.2.2.2.2.1 (s_bin rfl rfl (abin_cat' (((((h.2 g'1).2 g'4).2 g'7).1 g'8).2 g'9).2.2.2.2.2.2.2.1) (s_mvS rfl (s_nil (W.ret (hQ _ _   _ rfl  (((((h.2 g'1).2 g'4).2 g'7).1 g'8).2 g'9).2.2.2.2.2.2.2.2))))))))))))))))))))))))))) (fun g'8 => s_gn (b := false) rfl rfl (s_gn (b := false) rfl rfl (s_pickFB rfl rfl (s_nil (c_ff rfl (W.skip (W.seq (W.reg0 rfl fun _ _ => s_mvI H0 (s_bin rfl rfl (abin_quo' (by decide)) (s_mvI H0 (s_bin rfl rfl (abin_quo' (by decide)) (s_bin rfl rfl (abin_add _ _ _) (s_slS rfl rfl rfl ((((h.2 g'1).2 g'4).2 g'7).2 g'8).1 ((((h.2 g'1).2 g'4).2 g'7).2 g'8).2.1 ((((h.2 g'1).2 g'4).2 g'7).2 g'8).2.2.1 (s_bin rfl rfl (abin_cat' ((((h.2 g'1).2 g'4).2 g'7).2 g'8).2.2.2.1) (s_mvI H0 (s_bin rfl rfl (abin_rem' (by decide)) (s_mvI H0 (s_bin rfl rfl (abin_rem' (by decide)) (s_bin rfl rfl (abin_add _ _ _) (s_slS rfl rfl rfl ((((h.2 g'1).2 g'4).2 g'7).2 g'8).2.2.2.2.1 ((((h.2 g'1).2 g'4).2 g'7).2 g'8).2.2.2.2.2.1 ((((h.2 g'1).2 g'4).2 g'7).2 g'8).2.2.2.2.2.2.1 (s_bin rfl rfl (abin_cat' ((((h.2 g'1).2 g'4).2 g'7).2 g'8).2.2.2.2.2.2.2.1) (s_mvS rfl (s_nil (W.ret (hQ _ _   _ rfl  ((((h.2 g'1).2 g'4).2 g'7).2 g'8).2.2.2.2.2.2.2.2))))))))))))))))))))))))))))))))))))))))))))))))))))))
theorem p41 {prog : Prog} (hf : prog.fn 41 = some pf41) {c0 : Int} {K : List UInt8 → Prop} (h : T41_0 prog K c0) : ∃ x0 : List UInt8, K x0 ∧ Pus prog 41 [.i .u8 c0] (.s x0) := by
  obtain ⟨v, hv, x0, hk, rfl⟩ := Pus.of (K := fun v => ∃ x0 : List UInt8, K x0 ∧ v = .s x0) hf rfl (w41_0 (σ := sl0 [.i .u8 c0]) (fun σ st   x0 H2 hk => ⟨.s x0, by simp only [pf41, ares, aresL, H2, ares1, Option.map_some], _, rfl, x0, hk, rfl⟩) rfl h)
  exact ⟨x0, hk, hv⟩

/-! wreckage/wreckageref03.Digit -/
def r44_0 : List AI := [⟨(some 4), .mv (.c (.i .i64 0)), none⟩]
def r44_1 : List AI := [⟨(some 5), .mv (.c (.i .i64 0)), none⟩]
def r44_2 : List AI := [⟨(some 6), .mv (.t 5), none⟩,
  ⟨(some 7), .mv (.t 1), none⟩,
  ⟨(some 8), .bin .lss (.t 6) (.t 7), none⟩]
def r44_3 : List AI := [⟨(some 11), .mv (.t 5), none⟩,
  ⟨(some 12), .ixS (.c (.s [48, 49, 50, 51, 52, 53, 54, 55, 56, 57, 97, 98, 99, 100, 101, 102])) (.t 11), none⟩,
  ⟨(some 13), .mv (.t 0), none⟩,
  ⟨(some 14), .bin .eql (.t 12) (.t 13), none⟩]
def r44_4 : List AI := [⟨(some 15), .mv (.t 5), none⟩,
  ⟨(some 4), .mv (.t 15), none⟩]
def r44_5 : List AI := [⟨(some 9), .mv (.t 5), none⟩,
  ⟨(some 10), .bin .add (.t 9) (.c (.i .i64 1)), none⟩,
  ⟨(some 5), .mv (.t 10), none⟩]
def r44_6 : List AI := [⟨(some 4), .mv (.c (.i .i64 (-1))), none⟩]
abbrev l44_0 : AC := (.seq (.seq (.reg 2 r44_2) (.cond (.t 8) .skip (.exit 0))) (.seq (.block 1 (.seq (.reg 4 r44_3) (.cond (.t 14) (.seq (.reg 5 r44_4) .ret) .skip))) (.reg 3 r44_5)))
abbrev c44_1 : AC := (.seq (.reg 6 r44_6) .ret)
abbrev b44 : AC := (.seq (.reg 0 r44_0) (.seq (.seq (.reg 1 r44_1) (.block 0 (.loop l44_0))) c44_1))
def pf44 : AF := { nt := 16, res := [.tmp 4], body := b44 }
abbrev I44_0 (prog : Prog) (d : Nat) (Q : AE → Sl → St → Prop) (c0 : Int) (base1 : Int) (i5 : Int) : Prop :=
  ∀ (σ : Sl) (st : St), σ 0 = .i .u8 c0 → σ 1 = .i .i64 base1 → σ 5 = .i .i64 i5 → W prog d (.loop l44_0) σ st (blockW 0 (thenW prog d c44_1 Q))
def T44_2 (prog : Prog) (K : Int → Prop)  : Prop :=
  K (-1)
theorem w44_2 {prog : Prog} {d : Nat} {Q : AE → Sl → St → Prop} {K : Int → Prop} (hQ : ∀ (σ : Sl) (st : St) (x0 : Int), σ 4 = .i .i64 x0 → K x0 → Q .ret σ st)    {σ : Sl} {st : St}  (h : T44_2 prog K ) : W prog d c44_1 σ st Q :=
  W.seq (W.reg0 rfl fun _ _ => s_mvI rfl (s_nil (W.ret (hQ _ _   _ rfl  h))))
def T44_1 (prog : Prog) (K : Int → Prop) (P0 : Int → Prop) (c0 : Int) (base1 : Int) (i5 : Int) : Prop :=
  (i5 < base1 → 0 ≤ i5 ∧ ∃ c'2 : UInt8, ([48, 49, 50, 51, 52, 53, 54, 55, 56, 57, 97, 98, 99, 100, 101, 102] : List UInt8)[(i5).toNat]? = some c'2 ∧ ((c'2.toNat : Int) = c0 → K i5) ∧ (¬((c'2.toNat : Int) = c0) → P0 (IntKind.i64.wrap (i5 + 1)))) ∧ (¬(i5 < base1) → T44_2 prog K )
theorem w44_1 {prog : Prog} {d : Nat} {Q : AE → Sl → St → Prop} {K : Int → Prop} (hQ : ∀ (σ : Sl) (st : St) (x0 : Int), σ 4 = .i .i64 x0 → K x0 → Q .ret σ st) {c0 : Int} {base1 : Int} {i5 : Int} {P0 : Int → Prop} (kP0 : ∀ (i5 : Int), P0 i5 → I44_0 prog d Q c0 base1 i5) {σ : Sl} {st : St} (H0 : σ 0 = .i .u8 c0) (H1 : σ 1 = .i .i64 base1) (H5 : σ 5 = .i .i64 i5) (h : T44_1 prog K P0 c0 base1 i5) : W prog d l44_0 σ st (thenW prog d (.loop l44_0) (blockW 0 (thenW prog d c44_1 Q))) :=
  W.seq (W.seq (W.reg0 rfl fun _ _ => s_mvI H5 (s_mvI H1 (s_bin rfl rfl (abin_lss _ _ _) (s_nil (c_split rfl (fun g'1 => W.skip (W.seq (W.block (W.seq (W.reg0 rfl fun _ _ => s_mvI H5 ((h.1 g'1).2.elim fun c'2 e'3 => s_ixS rfl rfl (h.1 g'1).1 e'3.1 (s_mvI H0 (s_bin rfl rfl (abin_eql _ _ _) (s_nil (c_split rfl (fun g'4 => W.seq (W.reg0 rfl fun _ _ => s_mvI H5 (s_mvI rfl (s_nil (W.ret (hQ _ _   _ rfl  (e'3.2.1 g'4))))))) (fun g'4 => W.skip (W.reg0 rfl fun _ _ => s_mvI H5 (s_bin rfl rfl (abin_add _ _ _) (s_mvI rfl (s_nil (kP0 _ (e'3.2.2 g'4) _ _  H0 H1 rfl)))))))))))))))) (fun g'1 => W.exit (w44_2  hQ   (h.2 g'1)))))))))
def T44_0 (prog : Prog) (K : Int → Prop) (c0 : Int) (base1 : Int) : Prop :=
  ∀ P0 : Int → Prop, (∀ (i5 : Int), T44_1 prog K P0 c0 base1 i5 → P0 i5) → P0 0
theorem w44_0 {prog : Prog} {d : Nat} {Q : AE → Sl → St → Prop} {K : Int → Prop} (hQ : ∀ (σ : Sl) (st : St) (x0 : Int), σ 4 = .i .i64 x0 → K x0 → Q .ret σ st) {c0 : Int} {base1 : Int}   {σ : Sl} {st : St} (H0 : σ 0 = .i .u8 c0) (H1 : σ 1 = .i .i64 base1) (h : T44_0 prog K c0 base1) : W prog d (.seq (.reg 0 r44_0) (.seq (.seq (.reg 1 r44_1) (.block 0 (.loop l44_0))) c44_1)) σ st Q :=
  W.seq (W.reg0 rfl fun _ _ => s_mvI rfl (s_nil (W.seq (W.seq (W.reg0 rfl fun _ _ => s_mvI rfl (s_nil (W.block (h (I44_0 prog d Q c0 base1) (fun _ hb _ _  H0 H1 H5 => W.loop (w44_1 hQ (fun _ x => x) H0 H1 H5 hb)) _ _  H0 H1 rfl))))))))
theorem p44 {prog : Prog} (hf : prog.fn 44 = some pf44) {c0 : Int} {base1 : Int} {K : Int → Prop} (h : T44_0 prog K c0 base1) : ∃ x0 : Int, K x0 ∧ Pus prog 44 [.i .u8 c0, .i .i64 base1] (.i .i64 x0) := by
  obtain ⟨v, hv, x0, hk, rfl⟩ := Pus.of (K := fun v => ∃ x0 : Int, K x0 ∧ v = .i .i64 x0) hf rfl (w44_0 (σ := sl0 [.i .u8 c0, .i .i64 base1]) (fun σ st   x0 H4 hk => ⟨.i .i64 x0, by simp only [pf44, ares, aresL, H4, ares1, Option.map_some], _, rfl, x0, hk, rfl⟩) rfl rfl h)
  exact ⟨x0, hk, hv⟩

end Go.AM

/- strings.Builder on the abstract machine: what its functions do to a box. -/
namespace Go.AM
open Go

/-- A box's content outlives the boxes of the function that ends. -/
def Out (B : BC) : Prop := ∀ (d : Nat) (bx : Bxs) (ow : Ows) (k : Key) (v : Nat), k.1 < d → B bx ow k v → B (bx.filter fun x => x.1.1 < d) ow k v
theorem lk_out {bx : Bxs} {d : Nat} {k : Key} (hk : k.1 < d) : lk (bx.filter fun x => x.1.1 < d) k = lk bx k := by
  have := lk_filter' bx (fun k => decide (k.1 < d)) k
  rw [this, if_pos (by simpa using hk)]
theorem Bx.out {cs : List AV} : Out (Bx cs) := fun d bx ow k v hk h => by
  show lk _ k = _
  rw [lk_out hk]
  exact h
theorem Bl.out {b : List UInt8} : Out (Bl b) := fun d bx ow k v hk ⟨c0, o, h1, h2⟩ => ⟨c0, o, by rw [lk_out hk]; exact h1, h2⟩

theorem PuX.of {prog : Prog} {f : Nat} {F : AF} {B B' : BC} {args : List AV} {RR : AV → Prop} (hf : prog.fn f = some F) (hn : Nat.ble (args.length + 1) F.nt = true) (ho : Out B')
    (h : ∀ (d : Nat) (st : St) (k : Key) (v : Nat), k.1 < d → B st.bx st.ow k v → W prog d F.body (sl0 (.p k v 0 :: args)) st fun e σ st' => (e = .normal ∨ e = .ret) ∧ ∃ r, ares σ st' F.res = some r ∧ RR r ∧ B' st'.bx st'.ow k v ∧ Fr d k st.bx st.ow st'.bx st'.ow) : PuX prog f B args RR B' := by
  intro d st k v hk hB
  obtain ⟨r, st', h1, h2⟩ := Fn.of' (prog := prog) (K := fun r st' => RR r ∧ B' st'.bx st'.ow k v ∧ Fr d k st.bx st.ow st'.bx st'.ow) hf (by simpa using Nat.le_of_ble_eq_true hn) ((h d st k v hk hB).mono fun e σ st' hq => by
    obtain ⟨he, r, h1, h2, h3, h4⟩ := hq
    rcases he with rfl | rfl
    · exact ⟨r, h1, h2, ho d _ _ k v hk h3, h4.out⟩
    · exact ⟨r, h1, h2, ho d _ _ k v hk h3, h4.out⟩)
  exact ⟨r, st', h1, h2⟩

theorem PuXK.of {β : Type} {prog : Prog} {f : Nat} {F : AF} {B : BC} {B' : β → BC} {args : List AV} {KK : AV → β → Prop} (hf : prog.fn f = some F) (hn : Nat.ble (args.length + 1) F.nt = true) (ho : ∀ b, Out (B' b))
    (h : ∀ (d : Nat) (st : St) (k : Key) (v : Nat), k.1 < d → B st.bx st.ow k v → W prog d F.body (sl0 (.p k v 0 :: args)) st fun e σ st' => (e = .normal ∨ e = .ret) ∧ ∃ r b, ares σ st' F.res = some r ∧ KK r b ∧ B' b st'.bx st'.ow k v ∧ Fr d k st.bx st.ow st'.bx st'.ow) : PuXK prog f B args KK B' := by
  intro d st k v hk hB
  obtain ⟨r, st', h1, b, h2, h3, h4⟩ := Fn.of' (prog := prog) (K := fun r st' => ∃ b, KK r b ∧ B' b st'.bx st'.ow k v ∧ Fr d k st.bx st.ow st'.bx st'.ow) hf (by simpa using Nat.le_of_ble_eq_true hn) ((h d st k v hk hB).mono fun e σ st' hq => by
    obtain ⟨he, r, b, h1, h2, h3, h4⟩ := hq
    rcases he with rfl | rfl
    · exact ⟨r, h1, b, h2, ho b d _ _ k v hk h3, h4.out⟩
    · exact ⟨r, h1, b, h2, ho b d _ _ k v hk h3, h4.out⟩)
  exact ⟨r, st', b, h1, h2, h3, h4⟩
section
variable {prog : Prog} {d id base i : Nat} {σ : Sl} {st : St} {K : Sl → St → Prop} {r : List AI} {t : Option Nat} {x y : Opd}
theorem s_peq {neg : Bool} {a b v : AV} (hx : x.ev σ = a) (hy : y.ev σ = b) (hv : apeq neg a b = some v) (h : WO prog d id base (i + 1) r (upO σ t v) st K) : WO prog d id base i (⟨t, .peq neg x y, none⟩ :: r) σ st K :=
  s_pure (fun K => by simp only [WOp, aexec, apure, hx, hy, hv, Option.map_some, onO_some]) h
theorem s_cvp {n v : Nat} {k : Key} {cs : List AV} (hx : x.ev σ = .p k v 0) (hb : lk st.bx k = some (v, cs)) (hk : bigSite ≤ k.2) (hn : cs.length = n) (h : WO prog d id base (i + 1) r (upO σ t (.p k v 0)) st K) : WO prog d id base i (⟨t, .cvp n x, none⟩ :: r) σ st K :=
  s_pure (fun K => by
    simp only [WOp, aexec, acvp, hx, hb]
    rw [if_pos ⟨trivial, hk, hn⟩]
    simp only [Option.map_some, onO_some]) h
theorem s_callO {f : Nat} {args : List Opd} {vs : List AV} {v : AV} (hf : prog.fn f = none) (hs : evs σ args = vs) (ho : prog.orac f vs = some v) (h : WO prog d id base (i + 1) r (upO σ t v) st K) : WO prog d id base i (⟨t, .call true f args, none⟩ :: r) σ st K := by
  refine s_one ?_
  rw [WOp_callp, hs]
  exact ⟨_, _, ⟨1, by simp only [acall, hf, ho]⟩, h⟩
theorem c_W {c : AC} {Q : AE → Sl → St → Prop} (h : W prog d c σ st Q) : W prog d c σ st Q := h
end

/-- A Builder is made. -/
theorem W.regB {prog : Prog} {d id t : Nat} {σ : Sl} {st : St} {Q : AE → Sl → St → Prop} (hid : Nat.ble 1000000 id = true)
    (h : ∀ (nx v : Nat) (bx' : Bxs), Bl [] bx' st.ow (d, id * 4096 + 0) v → (∀ k' : Key, (d, id * 4096 + 0) ≠ k' → lk bx' k' = lk st.bx k') → Q .normal (upO σ (some t) (.p (d, id * 4096 + 0) v 0)) ⟨nx, bx', st.ow⟩) : W prog d (.reg id [⟨some t, .alloc [.np, .sl .full []], none⟩]) σ st Q := by
  refine W.reg (s_alloc (s_nil (h _ _ _ ?_ ?_)))
  · refine ⟨.np, .full, lk_here, .inl rfl, rfl, ?_⟩
    have := Nat.le_of_ble_eq_true hid
    show 4096000000 ≤ id * 4096 + 0
    omega
  · intro k' hk
    exact lk_ne hk
theorem Fr.new {d s : Nat} {k : Key} {bx bx' bx2 : Bxs} {ow ow' : Ows} (hx : ∀ k' : Key, (d, s) ≠ k' → lk bx2 k' = lk bx' k') (h : Fr d k bx ow bx' ow') : Fr d k bx ow bx2 ow' :=
  ⟨fun k' h1 h2 => (hx k' (by rintro rfl; exact Nat.lt_irrefl _ h1)).trans (h.1 k' h1 h2), h.2⟩

def pf145 : AF := { nt := 20, res := [], body :=
  (.seq (.reg 1000000 [⟨(some 2), .mv (.t 0), none⟩,
    ⟨(some 3), .nilc (.t 2), none⟩,
    ⟨(some 4), .fad 0 (.t 3), none⟩,
    ⟨(some 5), .load 1 false (.t 4), none⟩,
    ⟨(some 6), .peq false (.t 5) (.c (.np)), none⟩])
  (.cond (.t 6)
    (.reg 1000001 [⟨(some 7), .mv (.t 0), none⟩,
      ⟨(some 8), .mv (.t 0), none⟩,
      ⟨(some 9), .cvp 2 (.t 8), none⟩,
      ⟨(some 10), .call true 146 [(.t 9)], none⟩,
      ⟨(some 11), .cvp 2 (.t 10), none⟩,
      ⟨(some 12), .nilc (.t 7), none⟩,
      ⟨(some 13), .fad 0 (.t 12), none⟩,
      ⟨none, .store 1 (.t 13) (.t 11), none⟩])
    (.seq (.reg 1000002 [⟨(some 14), .mv (.t 0), none⟩,
      ⟨(some 15), .nilc (.t 14), none⟩,
      ⟨(some 16), .fad 0 (.t 15), none⟩,
      ⟨(some 17), .load 1 false (.t 16), none⟩,
      ⟨(some 18), .mv (.t 0), none⟩,
      ⟨(some 19), .peq true (.t 17) (.t 18), none⟩])
    (.cond (.t 19)
      (.cond (.c .u) .skip .skip)
      .skip)))) }
def pf126 : AF := { nt := 19, res := [.tmp 4, .tmp 5], body :=
  (.seq (.reg 0 [⟨(some 4), .mv (.c (.i .i64 0)), none⟩,
    ⟨(some 5), .mv (.c (.ni)), none⟩])
  (.seq (.reg 1 [⟨(some 6), .mv (.t 0), none⟩,
    ⟨(some 7), .call true 145 [(.t 6)], none⟩])
  (.seq (.reg 1000002 [⟨(some 8), .mv (.t 0), none⟩,
    ⟨(some 9), .mv (.t 0), none⟩,
    ⟨(some 10), .nilc (.t 9), none⟩,
    ⟨(some 11), .fad 1 (.t 10), none⟩,
    ⟨(some 12), .load 1 false (.t 11), none⟩,
    ⟨(some 13), .mv (.t 1), none⟩,
    ⟨(some 14), .appS (.t 12) (.t 13), none⟩,
    ⟨(some 15), .nilc (.t 8), none⟩,
    ⟨(some 16), .fad 1 (.t 15), none⟩,
    ⟨none, .store 1 (.t 16) (.t 14), none⟩])
  (.seq (.reg 3 [⟨(some 17), .mv (.t 1), none⟩,
    ⟨(some 18), .len true (.t 17), none⟩,
    ⟨(some 4), .mv (.t 18), none⟩,
    ⟨(some 5), .mv (.c (.ni)), none⟩])
  .ret)))) }

theorem aapp_B {key : Key} {ver : Nat} {o : Own} {l m : List UInt8} {st : St} (ha : AppB st.ow o l.length) (hk : bigSite ≤ key.2) (hs : l.length + m.length ≤ maxBytes)
    {K : AV → St → Prop} (hK : ∀ o' ow', AppB ow' o' (l ++ m).length → (∀ k' : Key, k'.2 < bigSite → lk ow' k' = lk st.ow k') → K (.sl o' ((l ++ m).map row8)) ⟨st.nx, st.bx, ow'⟩) : onO (aapp key ver 1 1 (.sl o (l.map row8)) (m.map row8) st) fun r => K r.1 r.2 := by
  simp only [aapp]
  rw [if_pos ⟨by simpa using hs, by simpa using hs, Nat.one_pos, by simp [row8], by simp [row8]⟩]
  cases m with
  | nil =>
    rw [if_pos (show (List.map row8 []).isEmpty = true from rfl), onO_some]
    have := hK o st.ow (by rw [List.append_nil]; exact ha) (fun _ _ => rfl)
    rwa [List.append_nil] at this
  | cons c m =>
    rw [if_neg (by simp)]
    have hpos : 0 < (l ++ c :: m).length := by simp; omega
    cases o with
    | ext => exact ha.elim
    | full =>
      simp only [onO_some]
      rw [← List.map_append]
      refine hK (.id key ver) _ ⟨by rw [lk_st', if_pos rfl]; simp, hpos, hk⟩ (fun k' h => ?_)
      rw [lk_st', if_neg (by rintro rfl; exact absurd h (Nat.not_lt.2 hk))]
    | id k v =>
      obtain ⟨ha1, ha2, ha3⟩ := ha
      simp only [ha1]
      rw [if_pos ⟨trivial, by simp, by simpa using ha2, .inr ha3⟩]
      simp only [onO_some]
      rw [← List.map_append]
      refine hK (.id key ver) _ ⟨by rw [lk_st', if_pos rfl]; simp, hpos, hk⟩ (fun k' h => ?_)
      rw [lk_st', if_neg (by rintro rfl; exact absurd h (Nat.not_lt.2 hk)), lk_del', if_neg (by rintro rfl; exact absurd h (Nat.not_lt.2 ha3))]
theorem WOp_appB {prog : Prog} {d site ver : Nat} {σ : Sl} {st : St} {s x : Opd} {o : Own} {l m : List UInt8} (hs : s.ev σ = .sl o (l.map row8)) (hx : x.ev σ = .s m) (ha : AppB st.ow o l.length) (hb : bigSite ≤ site) (h2 : l.length + m.length ≤ maxBytes)
    {K : AV → St → Prop} (hK : ∀ o' ow', AppB ow' o' (l ++ m).length → (∀ k' : Key, k'.2 < bigSite → lk ow' k' = lk st.ow k') → K (.sl o' ((l ++ m).map row8)) ⟨st.nx, st.bx, ow'⟩) : WOp prog d site ver σ st K (.appS s x) := by
  rw [WOp_appS, hx, onS_s, hs]
  exact aapp_B ha hb h2 hK

/-- What a program needs to work with strings.Builder. -/
structure HasB (prog : Prog) : Prop where
  f145 : prog.fn 145 = some pf145
  f126 : prog.fn 126 = some pf126
  f146 : prog.fn 146 = none
  f105 : prog.fn 105 = none
  o146 : ∀ k v, prog.orac 146 [.p k v 0] = some (.p k v 0)
  o105 : ∀ args, prog.orac 105 args = none
  s105 : ∀ args st, prog.oracS 105 args st = bStr args st

/-- .. behind copyCheck. -/
def Bl1 (b : List UInt8) : BC := fun bx ow k v => ∃ o, lk bx k = some (v, [.p k v 0, .sl o (b.map row8)]) ∧ AppB ow o b.length ∧ bigSite ≤ k.2
theorem Bl1.out {b : List UInt8} : Out (Bl1 b) := fun d bx ow k v hk ⟨o, h1, h2⟩ => ⟨o, by rw [lk_out hk]; exact h1, h2⟩
theorem Bl1.bl {b : List UInt8} {bx : Bxs} {ow : Ows} {k : Key} {v : Nat} (h : Bl1 b bx ow k v) : Bl b bx ow k v := by
  obtain ⟨o, h1, h2, h3⟩ := h
  exact ⟨_, o, h1, .inr rfl, h2, h3⟩
section
variable {prog : Prog} (H : HasB prog)
include H
theorem c145 (b : List UInt8) : PuX prog 145 (Bl b) [] (fun r => r = .tup []) (Bl1 b) := by
  refine PuX.of H.f145 rfl Bl1.out fun d st k v hk hB => ?_
  obtain ⟨c0, o, hb, hc0, hap, hbig⟩ := hB
  refine W.seq (W.reg0 rfl fun nx _ => ?_)
  rcases hc0 with rfl | rfl
  · refine s_mv (v := .p k v 0) rfl (s_nilP rfl (s_fadP rfl (s_loadP (w := .np) rfl hb rfl rfl (s_peq (v := .b true) rfl rfl rfl (s_nil (W.tt rfl (W.reg0 rfl fun nx2 _ => ?_)))))))
    refine s_mv (v := .p k v 0) rfl (s_mv (v := .p k v 0) rfl (s_cvp rfl hb hbig rfl (s_callO H.f146 rfl (H.o146 k v) (s_cvp rfl hb hbig rfl (s_nilP rfl (s_fadP rfl (s_storeP rfl hb (w := .p k v 0) rfl rfl rfl (s_nil ?_))))))))
    exact ⟨.inl rfl, _, rfl, rfl, ⟨o, lk_here, hap, hbig⟩, Fr.refl.own⟩
  · refine s_mv (v := .p k v 0) rfl (s_nilP rfl (s_fadP rfl (s_loadP (w := .p k v 0) rfl hb rfl rfl (s_peq (v := .b false) rfl rfl rfl (s_nil (W.ff rfl (W.seq (W.reg0 rfl fun nx2 _ => ?_))))))))
    refine s_mv (v := .p k v 0) rfl (s_nilP rfl (s_fadP rfl (s_loadP (w := .p k v 0) rfl hb rfl rfl (s_mv (v := .p k v 0) rfl (s_peq (a := .p k v 0) (b := .p k v 0) (v := .b false) rfl rfl (by simp [apeq]) (s_nil (W.ff rfl (W.skip ?_))))))))
    exact ⟨.inl rfl, _, rfl, rfl, ⟨o, hb, hap, hbig⟩, Fr.refl⟩
theorem c126 {b s : List UInt8} (hs : b.length + s.length ≤ maxBytes) : PuX prog 126 (Bl b) [.s s] (fun r => r = .tup [.i .i64 (s.length : Int), .ni]) (Bl (b ++ s)) := by
  refine PuX.of H.f126 rfl Bl.out fun d st k v hk hB => ?_
  refine W.seq (W.reg0 rfl fun nx _ => s_mv rfl (s_mv rfl (s_nil (W.seq (W.reg0 rfl fun nx2 _ => ?_)))))
  refine s_mv (v := .p k v 0) rfl (s_callX (F := .tup []) (sec rfl sen) (c145 H b) (Nat.lt_succ_of_lt hk) hB fun st1 hB1 hF1 => s_nil (W.seq (W.reg0 rfl fun nx3 _ => ?_)))
  obtain ⟨o, hb, hap, hbig⟩ := hB1
  refine s_mv (v := .p k v 0) rfl (s_mv (v := .p k v 0) rfl (s_nilP rfl (s_fadP rfl (s_loadP (w := .sl o (b.map row8)) rfl hb rfl rfl (s_mv (v := .s s) rfl (s_one ?_))))))
  refine WOp_appB (st := ⟨nx3, st1.bx, st1.ow⟩) (o := o) (l := b) (m := s) ?_ ?_ hap ?_ hs fun o' ow' h1 h2 => ?_
  · rfl
  · rfl
  · exact Nat.le_of_ble_eq_true rfl
  refine s_nilP rfl (s_fadP rfl (s_storeP rfl hb (w := .sl o' ((b ++ s).map row8)) rfl rfl rfl (s_nil (W.seq (W.reg0 rfl fun nx4 _ => ?_)))))
  refine s_mv (v := .s s) rfl (s_lenS rfl (s_mv rfl (s_mv rfl (s_nil (W.ret ?_)))))
  refine ⟨.inr rfl, _, rfl, rfl, ⟨_, o', lk_here, .inr rfl, h1, hbig⟩, ?_⟩
  refine (Fr.own ⟨fun k' q1 q2 => ?_, fun k' q1 q2 => ?_⟩)
  · exact hF1.1 k' (Nat.lt_succ_of_lt q1) q2
  · exact (h2 k' q2).trans (hF1.2 k' (Nat.lt_succ_of_lt q1) q2)
/-- String gives the bytes: of a Builder that holds some. -/
theorem c105 {b : List UInt8} (hb : b ≠ []) (hs : b.length ≤ maxBytes) : PuX prog 105 (Bl b) [] (fun r => r = .s b) fun _ _ _ _ => True := by
  intro d st k v hk ⟨c0, o, h1, h2, h3, h4⟩
  cases o with
  | ext => exact h3.elim
  | full => exact absurd (List.length_eq_zero_iff.1 h3) hb
  | id q w =>
    obtain ⟨h5, h6, h7⟩ := h3
    refine ⟨.s b, { st with ow := del st.ow q }, ⟨1, ?_⟩, rfl, trivial, fun _ _ _ => rfl, fun k' _ h8 => ?_⟩
    · simp only [acall, H.f105, H.o105, H.s105, bStr, h1, bytesOf_row8, h5]
      rw [if_pos ⟨trivial, h4, trivial, by simp, h6, h7, hs⟩]
    · show lk (del st.ow q) k' = _
      rw [lk_del', if_neg (by rintro rfl; exact absurd h8 (Nat.not_lt.2 h7))]
end
end Go.AM

/- Chapter 38: the program's types as plain types, and their rows of cells. -/
namespace Go.AM
open Go
/-- api.Value. -/
inductive Val where
  | mk (kind int : Int) (text : List UInt8) (list : List Val) (cut : Bool)
def Val.kind : Val → Int | .mk k _ _ _ _ => k
def Val.int : Val → Int | .mk _ n _ _ _ => n
def Val.text : Val → List UInt8 | .mk _ _ s _ _ => s
def Val.list : Val → List Val | .mk _ _ _ l _ => l
def Val.cut : Val → Bool | .mk _ _ _ _ c => c
def Val.zero : Val := .mk 0 0 [] [] false
mutual
def Val.row : Val → List AV
  | .mk k n s l c => [.i .u8 k, .i .i64 n, .s s, .sl .ext (Val.rows l), .b c]
def Val.rows : List Val → List (List AV)
  | [] => []
  | v :: l => Val.row v :: Val.rows l
end
theorem Val.rows_eq : ∀ l : List Val, Val.rows l = l.map Val.row
  | [] => rfl
  | v :: l => by rw [Val.rows, Val.rows_eq l]; rfl
theorem Val.row_eq (v : Val) : v.row = [.i .u8 v.kind, .i .i64 v.int, .s v.text, .sl .ext (v.list.map Val.row), .b v.cut] := by
  cases v with
  | mk k n s l c => rw [Val.row, Val.rows_eq]; rfl
theorem Val.row_len (v : Val) : v.row.length = 5 := by rw [Val.row_eq]; rfl
/-- lines.scanner. -/
structure Sc where
  left : List UInt8
def Sc.row (x : Sc) : List AV := [.s x.left]
theorem Sc.row_eq (x : Sc) : x.row = [.s x.left] := rfl
theorem Sc.row_len (x : Sc) : x.row.length = 1 := rfl
def Sc.zero : Sc := ⟨[]⟩
end Go.AM
