/- Parts of the proof: U03a. -/
import Derived.Test.YtcojcdpoeaaigaaG2
set_option linter.all false
/- MADE BY PROGRAM (tl.py). -/
namespace Go.AM
open Go
set_option linter.unusedVariables false
set_option linter.unusedSimpArgs false
set_option maxRecDepth 4000
attribute [local irreducible] WO fillCells fillRows

/-! internal/stringslite.CutPrefix -/
def r42_0 : List AI := [⟨(some 4), .mv (.c (.s [])), none⟩,
  ⟨(some 5), .mv (.c (.b false)), none⟩]
def r42_1 : List AI := [⟨(some 6), .mv (.t 0), none⟩,
  ⟨(some 7), .mv (.t 1), none⟩,
  ⟨(some 8), .call false 46 [(.t 6), (.t 7)], none⟩,
  ⟨(some 9), .un .not (.t 8), none⟩]
def r42_2 : List AI := [⟨(some 10), .mv (.t 0), none⟩,
  ⟨(some 4), .mv (.t 10), none⟩,
  ⟨(some 5), .mv (.c (.b false)), none⟩]
def r42_3 : List AI := [⟨(some 11), .mv (.t 0), none⟩,
  ⟨(some 12), .mv (.t 1), none⟩,
  ⟨(some 13), .len true (.t 12), none⟩,
  ⟨(some 14), .slS (.t 11) (some (.t 13)) none, none⟩,
  ⟨(some 4), .mv (.t 14), none⟩,
  ⟨(some 5), .mv (.c (.b true)), none⟩]
abbrev b42 : AC := (.seq (.reg 0 r42_0) (.seq (.seq (.reg 1 r42_1) (.cond (.t 9) (.seq (.reg 2 r42_2) .ret) .skip)) (.seq (.reg 3 r42_3) .ret)))
def pf42 : AF := { nt := 15, res := [.tmp 4, .tmp 5], body := b42 }
def T42_0 (prog : Prog) (K : List UInt8 → Bool → Prop) (s0 : List UInt8) (prefix1 : List UInt8) : Prop :=
  ∃ r'1 : Bool, Pus prog 46 [.s s0, .s prefix1] (.b r'1) ∧ ((!r'1) = true → K s0 false) ∧ ((!r'1) = false → 0 ≤ (prefix1.length : Int) ∧ (prefix1.length : Int).toNat ≤ s0.length ∧ K (s0.drop (prefix1.length : Int).toNat) true)
theorem w42_0 {prog : Prog} {d : Nat} {Q : AE → Sl → St → Prop} {K : List UInt8 → Bool → Prop} (hQ : ∀ (σ : Sl) (st : St) (x0 : List UInt8) (x1 : Bool), σ 4 = .s x0 → σ 5 = .b x1 → K x0 x1 → Q .ret σ st) {s0 : List UInt8} {prefix1 : List UInt8}   {σ : Sl} {st : St} (H0 : σ 0 = .s s0) (H1 : σ 1 = .s prefix1) (h : T42_0 prog K s0 prefix1) : W prog d (.seq (.reg 0 r42_0) (.seq (.seq (.reg 1 r42_1) (.cond (.t 9) (.seq (.reg 2 r42_2) .ret) .skip)) (.seq (.reg 3 r42_3) .ret))) σ st Q :=
  W.seq (W.reg0 rfl fun _ _ => s_mvS rfl (s_mvB rfl (s_nil (W.seq (W.seq (W.reg0 rfl fun _ _ => s_mvS H0 (s_mvS H1 (h.elim fun r'1 e'2 => s_call (sc rfl rfl (sc rfl rfl sn)) e'2.1 (s_not rfl (s_nil (c_bool rfl (fun g'3 => W.seq (W.reg0 rfl fun _ _ => s_mvS H0 (s_mvS rfl (s_mvB rfl (s_nil (W.ret (hQ _ _   _ _ rfl rfl  (e'2.2.1 g'3)))))))) (fun g'3 => W.skip (W.seq (W.reg0 rfl fun _ _ => s_mvS H0 (s_mvS H1 (s_lenS rfl (s_slS_lo rfl rfl (e'2.2.2 g'3).1 (e'2.2.2 g'3).2.1 (s_mvS rfl (s_mvB rfl (s_nil (W.ret (hQ _ _   _ _ rfl rfl  (e'2.2.2 g'3).2.2))))))))))))))))))))))
theorem p42 {prog : Prog} (hf : prog.fn 42 = some pf42) {s0 : List UInt8} {prefix1 : List UInt8} {K : List UInt8 → Bool → Prop} (h : T42_0 prog K s0 prefix1) : ∃ x0 : List UInt8, ∃ x1 : Bool, K x0 x1 ∧ Pus prog 42 [.s s0, .s prefix1] (.tup [.s x0, .b x1]) := by
  obtain ⟨v, hv, x0, x1, hk, rfl⟩ := Pus.of (K := fun v => ∃ x0 : List UInt8, ∃ x1 : Bool, K x0 x1 ∧ v = .tup [.s x0, .b x1]) hf rfl (w42_0 (σ := sl0 [.s s0, .s prefix1]) (fun σ st   x0 x1 H4 H5 hk => ⟨.tup [.s x0, .b x1], by simp only [pf42, ares, aresL, H4, H5, ares1, Option.map_some], _, rfl, x0, x1, hk, rfl⟩) rfl rfl h)
  exact ⟨x0, x1, hk, hv⟩

/-! internal/stringslite.HasPrefix -/
def r46_0 : List AI := [⟨(some 4), .mv (.c (.b false)), none⟩]
def r46_1 : List AI := [⟨(some 5), .mv (.t 0), none⟩,
  ⟨(some 6), .len true (.t 5), none⟩,
  ⟨(some 7), .mv (.t 1), none⟩,
  ⟨(some 8), .len true (.t 7), none⟩,
  ⟨(some 9), .bin .geq (.t 6) (.t 8), none⟩,
  ⟨(some 10), .mv (.t 9), none⟩,
  ⟨(some 11), .mv (.t 0), (some (10, true))⟩,
  ⟨(some 12), .mv (.t 1), (some (10, true))⟩,
  ⟨(some 13), .len true (.t 12), (some (10, true))⟩,
  ⟨(some 14), .slS (.t 11) none (some (.t 13)), (some (10, true))⟩,
  ⟨(some 15), .mv (.t 1), (some (10, true))⟩,
  ⟨(some 16), .bin .eql (.t 14) (.t 15), (some (10, true))⟩,
  ⟨(some 17), .pick (.t 10) (.t 16) (.c (.b false)), none⟩,
  ⟨(some 4), .mv (.t 17), none⟩]
abbrev b46 : AC := (.seq (.reg 0 r46_0) (.seq (.reg 1 r46_1) .ret))
def pf46 : AF := { nt := 18, res := [.tmp 4], body := b46 }
def T46_0 (prog : Prog) (K : Bool → Prop) (s0 : List UInt8) (prefix1 : List UInt8) : Prop :=
  ((s0.length : Int) ≥ (prefix1.length : Int) → 0 ≤ (prefix1.length : Int) ∧ (prefix1.length : Int).toNat ≤ s0.length ∧ K (decide ((s0.take (prefix1.length : Int).toNat) = prefix1))) ∧ (¬((s0.length : Int) ≥ (prefix1.length : Int)) → K false)
theorem w46_0 {prog : Prog} {d : Nat} {Q : AE → Sl → St → Prop} {K : Bool → Prop} (hQ : ∀ (σ : Sl) (st : St) (x0 : Bool), σ 4 = .b x0 → K x0 → Q .ret σ st) {s0 : List UInt8} {prefix1 : List UInt8}   {σ : Sl} {st : St} (H0 : σ 0 = .s s0) (H1 : σ 1 = .s prefix1) (h : T46_0 prog K s0 prefix1) : W prog d (.seq (.reg 0 r46_0) (.seq (.reg 1 r46_1) .ret)) σ st Q :=
  W.seq (W.reg0 rfl fun _ _ => s_mvB rfl (s_nil (W.seq (W.reg0 rfl fun _ _ => s_mvS H0 (s_lenS rfl (s_mvS H1 (s_lenS rfl (s_bin rfl rfl (abin_geq _ _ _) (s_mvB rfl (s_em (g := 10) rfl (fun g'1 => s_gy rfl (s_mvS H0 (s_gy rfl (s_mvS H1 (s_gy rfl (s_lenS rfl (s_gy rfl (s_slS_hi rfl rfl (h.1 g'1).1 (h.1 g'1).2.1 (s_gy rfl (s_mvS H1 (s_gy rfl (s_bin rfl rfl (abin_seq _ _) (s_pickTB rfl rfl (s_mvB rfl (s_nil (W.ret (hQ _ _   _ rfl  (h.1 g'1).2.2))))))))))))))))) (fun g'1 => s_gn (b := false) rfl rfl (s_gn (b := false) rfl rfl (s_gn (b := false) rfl rfl (s_gn (b := false) rfl rfl (s_gn (b := false) rfl rfl (s_gn (b := false) rfl rfl (s_pickFB rfl rfl (s_mvB rfl (s_nil (W.ret (hQ _ _   _ rfl  (h.2 g'1))))))))))))))))))))))
theorem p46 {prog : Prog} (hf : prog.fn 46 = some pf46) {s0 : List UInt8} {prefix1 : List UInt8} {K : Bool → Prop} (h : T46_0 prog K s0 prefix1) : ∃ x0 : Bool, K x0 ∧ Pus prog 46 [.s s0, .s prefix1] (.b x0) := by
  obtain ⟨v, hv, x0, hk, rfl⟩ := Pus.of (K := fun v => ∃ x0 : Bool, K x0 ∧ v = .b x0) hf rfl (w46_0 (σ := sl0 [.s s0, .s prefix1]) (fun σ st   x0 H4 hk => ⟨.b x0, by simp only [pf46, ares, aresL, H4, ares1, Option.map_some], _, rfl, x0, hk, rfl⟩) rfl rfl h)
  exact ⟨x0, hk, hv⟩

/-! strings.CutPrefix -/
def r36_0 : List AI := [⟨(some 4), .mv (.c (.s [])), none⟩,
  ⟨(some 5), .mv (.c (.b false)), none⟩]
def r36_1 : List AI := [⟨(some 6), .mv (.t 0), none⟩,
  ⟨(some 7), .mv (.t 1), none⟩,
  ⟨(some 8), .call false 42 [(.t 6), (.t 7)], none⟩,
  ⟨(some 9), .ext 0 (.t 8), none⟩,
  ⟨(some 10), .ext 1 (.t 8), none⟩,
  ⟨(some 4), .mv (.t 9), none⟩,
  ⟨(some 5), .mv (.t 10), none⟩]
abbrev b36 : AC := (.seq (.reg 0 r36_0) (.seq (.reg 1 r36_1) .ret))
def pf36 : AF := { nt := 11, res := [.tmp 4, .tmp 5], body := b36 }
def T36_0 (prog : Prog) (K : List UInt8 → Bool → Prop) (s0 : List UInt8) (prefix1 : List UInt8) : Prop :=
  ∃ r'1 : List UInt8, ∃ r'2 : Bool, Pus prog 42 [.s s0, .s prefix1] (.tup [.s r'1, .b r'2]) ∧ K r'1 r'2
theorem w36_0 {prog : Prog} {d : Nat} {Q : AE → Sl → St → Prop} {K : List UInt8 → Bool → Prop} (hQ : ∀ (σ : Sl) (st : St) (x0 : List UInt8) (x1 : Bool), σ 4 = .s x0 → σ 5 = .b x1 → K x0 x1 → Q .ret σ st) {s0 : List UInt8} {prefix1 : List UInt8}   {σ : Sl} {st : St} (H0 : σ 0 = .s s0) (H1 : σ 1 = .s prefix1) (h : T36_0 prog K s0 prefix1) : W prog d (.seq (.reg 0 r36_0) (.seq (.reg 1 r36_1) .ret)) σ st Q :=
  W.seq (W.reg0 rfl fun _ _ => s_mvS rfl (s_mvB rfl (s_nil (W.seq (W.reg0 rfl fun _ _ => s_mvS H0 (s_mvS H1 (h.elim fun r'1 e'4 => e'4.elim fun r'2 e'3 => s_call (sc rfl rfl (sc rfl rfl sn)) e'3.1 (s_ext rfl rfl (s_ext rfl rfl (s_mvS rfl (s_mvB rfl (s_nil (W.ret (hQ _ _   _ _ rfl rfl  e'3.2))))))))))))))
theorem p36 {prog : Prog} (hf : prog.fn 36 = some pf36) {s0 : List UInt8} {prefix1 : List UInt8} {K : List UInt8 → Bool → Prop} (h : T36_0 prog K s0 prefix1) : ∃ x0 : List UInt8, ∃ x1 : Bool, K x0 x1 ∧ Pus prog 36 [.s s0, .s prefix1] (.tup [.s x0, .b x1]) := by
  obtain ⟨v, hv, x0, x1, hk, rfl⟩ := Pus.of (K := fun v => ∃ x0 : List UInt8, ∃ x1 : Bool, K x0 x1 ∧ v = .tup [.s x0, .b x1]) hf rfl (w36_0 (σ := sl0 [.s s0, .s prefix1]) (fun σ st   x0 x1 H4 H5 hk => ⟨.tup [.s x0, .b x1], by simp only [pf36, ares, aresL, H4, H5, ares1, Option.map_some], _, rfl, x0, x1, hk, rfl⟩) rfl rfl h)
  exact ⟨x0, x1, hk, hv⟩

/-! strings.IndexByte -/
def r43_0 : List AI := [⟨(some 4), .mv (.c (.i .i64 0)), none⟩]
def r43_1 : List AI := [⟨(some 5), .mv (.t 0), none⟩,
  ⟨(some 6), .mv (.t 1), none⟩,
  ⟨(some 7), .call false 47 [(.t 5), (.t 6)], none⟩,
  ⟨(some 4), .mv (.t 7), none⟩]
abbrev b43 : AC := (.seq (.reg 0 r43_0) (.seq (.reg 1 r43_1) .ret))
def pf43 : AF := { nt := 8, res := [.tmp 4], body := b43 }
def T43_0 (prog : Prog) (K : Int → Prop) (s0 : List UInt8) (c1 : Int) : Prop :=
  ∃ r'1 : Int, Pus prog 47 [.s s0, .i .u8 c1] (.i .i64 r'1) ∧ K r'1
theorem w43_0 {prog : Prog} {d : Nat} {Q : AE → Sl → St → Prop} {K : Int → Prop} (hQ : ∀ (σ : Sl) (st : St) (x0 : Int), σ 4 = .i .i64 x0 → K x0 → Q .ret σ st) {s0 : List UInt8} {c1 : Int}   {σ : Sl} {st : St} (H0 : σ 0 = .s s0) (H1 : σ 1 = .i .u8 c1) (h : T43_0 prog K s0 c1) : W prog d (.seq (.reg 0 r43_0) (.seq (.reg 1 r43_1) .ret)) σ st Q :=
  W.seq (W.reg0 rfl fun _ _ => s_mvI rfl (s_nil (W.seq (W.reg0 rfl fun _ _ => s_mvS H0 (s_mvI H1 (h.elim fun r'1 e'2 => s_call (sc rfl rfl (sc rfl rfl sn)) e'2.1 (s_mvI rfl (s_nil (W.ret (hQ _ _   _ rfl  e'2.2))))))))))
theorem p43 {prog : Prog} (hf : prog.fn 43 = some pf43) {s0 : List UInt8} {c1 : Int} {K : Int → Prop} (h : T43_0 prog K s0 c1) : ∃ x0 : Int, K x0 ∧ Pus prog 43 [.s s0, .i .u8 c1] (.i .i64 x0) := by
  obtain ⟨v, hv, x0, hk, rfl⟩ := Pus.of (K := fun v => ∃ x0 : Int, K x0 ∧ v = .i .i64 x0) hf rfl (w43_0 (σ := sl0 [.s s0, .i .u8 c1]) (fun σ st   x0 H4 hk => ⟨.i .i64 x0, by simp only [pf43, ares, aresL, H4, ares1, Option.map_some], _, rfl, x0, hk, rfl⟩) rfl rfl h)
  exact ⟨x0, hk, hv⟩

/-! internal/stringslite.IndexByte -/
def r47_0 : List AI := [⟨(some 4), .mv (.c (.i .i64 0)), none⟩]
def r47_1 : List AI := [⟨(some 5), .mv (.t 0), none⟩,
  ⟨(some 6), .mv (.t 1), none⟩,
  ⟨(some 7), .call false 48 [(.t 5), (.t 6)], none⟩,
  ⟨(some 4), .mv (.t 7), none⟩]
abbrev b47 : AC := (.seq (.reg 0 r47_0) (.seq (.reg 1 r47_1) .ret))
def pf47 : AF := { nt := 8, res := [.tmp 4], body := b47 }
def T47_0 (prog : Prog) (K : Int → Prop) (s0 : List UInt8) (c1 : Int) : Prop :=
  ∃ r'1 : Int, Pus prog 48 [.s s0, .i .u8 c1] (.i .i64 r'1) ∧ K r'1
theorem w47_0 {prog : Prog} {d : Nat} {Q : AE → Sl → St → Prop} {K : Int → Prop} (hQ : ∀ (σ : Sl) (st : St) (x0 : Int), σ 4 = .i .i64 x0 → K x0 → Q .ret σ st) {s0 : List UInt8} {c1 : Int}   {σ : Sl} {st : St} (H0 : σ 0 = .s s0) (H1 : σ 1 = .i .u8 c1) (h : T47_0 prog K s0 c1) : W prog d (.seq (.reg 0 r47_0) (.seq (.reg 1 r47_1) .ret)) σ st Q :=
  W.seq (W.reg0 rfl fun _ _ => s_mvI rfl (s_nil (W.seq (W.reg0 rfl fun _ _ => s_mvS H0 (s_mvI H1 (h.elim fun r'1 e'2 => s_call (sc rfl rfl (sc rfl rfl sn)) e'2.1 (s_mvI rfl (s_nil (W.ret (hQ _ _   _ rfl  e'2.2))))))))))
theorem p47 {prog : Prog} (hf : prog.fn 47 = some pf47) {s0 : List UInt8} {c1 : Int} {K : Int → Prop} (h : T47_0 prog K s0 c1) : ∃ x0 : Int, K x0 ∧ Pus prog 47 [.s s0, .i .u8 c1] (.i .i64 x0) := by
  obtain ⟨v, hv, x0, hk, rfl⟩ := Pus.of (K := fun v => ∃ x0 : Int, K x0 ∧ v = .i .i64 x0) hf rfl (w47_0 (σ := sl0 [.s s0, .i .u8 c1]) (fun σ st   x0 H4 hk => ⟨.i .i64 x0, by simp only [pf47, ares, aresL, H4, ares1, Option.map_some], _, rfl, x0, hk, rfl⟩) rfl rfl h)
  exact ⟨x0, hk, hv⟩

/-! wreckage/text.Quote -/
def r11_0 : List AI := [⟨(some 2), .mv (.c (.s [])), none⟩,
  ⟨(some 3), .mv (.c (.i .i64 0)), none⟩]
def r11_1 : List AI := [⟨(some 4), .mv (.t 0), none⟩,
  ⟨(some 5), .len true (.t 4), none⟩,
  ⟨(some 6), .bin .gtr (.t 5) (.c (.i .i64 400)), none⟩]
def r11_2 : List AI := [⟨(some 2), .mv (.c (.s [])), none⟩,
  ⟨(some 3), .mv (.c (.i .i64 4)), none⟩]
def r11_3 : List AI := [⟨(some 7), .mv (.t 0), none⟩,
  ⟨(some 8), .call true 30 [(.c (.sl .full [])), (.t 7)], none⟩,
  ⟨(some 9), .b2s (.t 8), none⟩,
  ⟨(some 2), .mv (.t 9), none⟩,
  ⟨(some 3), .mv (.c (.i .i64 0)), none⟩]
abbrev b11 : AC := (.seq (.reg 0 r11_0) (.seq (.seq (.reg 1 r11_1) (.cond (.t 6) (.seq (.reg 2 r11_2) .ret) .skip)) (.seq (.reg 3 r11_3) .ret)))
def pf11 : AF := { nt := 10, res := [.tmp 2, .tmp 3], body := b11 }
def T11_0 (prog : Prog) (K : List UInt8 → Int → Prop) (s0 : List UInt8) : Prop :=
  ((s0.length : Int) > 400 → K ([] : List UInt8) 4) ∧ (¬((s0.length : Int) > 400) → ∃ r'2 : List UInt8, PuA prog 30 (List.map row8 ([] : List UInt8)) [.s s0] (List.map row8 r'2) ∧ K r'2 0)
theorem w11_0 {prog : Prog} {d : Nat} {Q : AE → Sl → St → Prop} {K : List UInt8 → Int → Prop} (hQ : ∀ (σ : Sl) (st : St) (x0 : List UInt8) (x1 : Int), σ 2 = .s x0 → σ 3 = .i .i64 x1 → K x0 x1 → Q .ret σ st) {s0 : List UInt8}   {σ : Sl} {st : St} (H0 : σ 0 = .s s0) (h : T11_0 prog K s0) : W prog d (.seq (.reg 0 r11_0) (.seq (.seq (.reg 1 r11_1) (.cond (.t 6) (.seq (.reg 2 r11_2) .ret) .skip)) (.seq (.reg 3 r11_3) .ret))) σ st Q :=
  W.seq (W.reg0 rfl fun _ _ => s_mvS rfl (s_mvI rfl (s_nil (W.seq (W.seq (W.reg0 rfl fun _ _ => s_mvS H0 (s_lenS rfl (s_bin rfl rfl (abin_gtr _ _ _) (s_nil (c_split rfl (fun g'1 => W.seq (W.reg0 rfl fun _ _ => s_mvS rfl (s_mvI rfl (s_nil (W.ret (hQ _ _   _ _ rfl rfl  (h.1 g'1))))))) (fun g'1 => W.skip (W.seq (W.reg0 rfl fun _ _ => s_mvS H0 ((h.2 g'1).elim fun r'2 e'3 => s_callA (sec (show _ = AV.sl .full (List.map row8 []) from rfl) (sec rfl sen)) e'3.1 (by simpa using App.full) (fun o'4 st'6 a'5 => s_b2s rfl (s_mvS rfl (s_mvI rfl (s_nil (W.ret (hQ _ _   _ _ rfl rfl  e'3.2))))))))))))))))))))
theorem p11 {prog : Prog} (hf : prog.fn 11 = some pf11) {s0 : List UInt8} {K : List UInt8 → Int → Prop} (h : T11_0 prog K s0) : ∃ x0 : List UInt8, ∃ x1 : Int, K x0 x1 ∧ Pus prog 11 [.s s0] (.tup [.s x0, .i .i64 x1]) := by
  obtain ⟨v, hv, x0, x1, hk, rfl⟩ := Pus.of (K := fun v => ∃ x0 : List UInt8, ∃ x1 : Int, K x0 x1 ∧ v = .tup [.s x0, .i .i64 x1]) hf rfl (w11_0 (σ := sl0 [.s s0]) (fun σ st   x0 x1 H2 H3 hk => ⟨.tup [.s x0, .i .i64 x1], by simp only [pf11, ares, aresL, H2, H3, ares1, Option.map_some], _, rfl, x0, x1, hk, rfl⟩) rfl h)
  exact ⟨x0, x1, hk, hv⟩

/-! wreckage/text.List -/
def r13_0 : List AI := [⟨(some 2), .mv (.c (.s [])), none⟩,
  ⟨(some 3), .mv (.c (.i .i64 0)), none⟩]
def r13_1 : List AI := [⟨(some 7), .mv (.t 0), none⟩,
  ⟨(some 8), .call false 32 [(.t 7)], none⟩]
def r13_2 : List AI := [⟨(some 2), .mv (.c (.s [])), none⟩,
  ⟨(some 3), .mv (.c (.i .i64 4)), none⟩]
def r13_3 : List AI := [⟨(some 9), .bslice [.i .u8 0] 1 [(0, (.c (.i .u8 91)))], none⟩,
  ⟨(some 10), .mv (.t 9), none⟩,
  ⟨(some 4), .mv (.t 10), none⟩]
def r13_4 : List AI := [⟨(some 11), .mv (.t 0), none⟩,
  ⟨(some 12), .len false (.t 11), none⟩,
  ⟨(some 13), .mv (.c (.i .i64 0)), none⟩]
def r13_5 : List AI := [⟨(some 14), .bin .lss (.t 13) (.t 12), none⟩]
def r13_6 : List AI := [⟨(some 15), .mv (.t 13), none⟩,
  ⟨(some 16), .iaL 1 (.t 11) (.t 13), none⟩,
  ⟨(some 17), .load 1 false (.t 16), none⟩,
  ⟨(some 5), .mv (.t 15), none⟩,
  ⟨(some 6), .mv (.t 17), none⟩]
def r13_7 : List AI := [⟨(some 18), .mv (.t 5), none⟩,
  ⟨(some 19), .bin .gtr (.t 18) (.c (.i .i64 0)), none⟩]
def r13_8 : List AI := [⟨(some 20), .mv (.t 4), none⟩,
  ⟨(some 21), .appS (.t 20) (.c (.s [44, 32])), none⟩,
  ⟨(some 4), .mv (.t 21), none⟩]
def r13_9 : List AI := [⟨(some 22), .mv (.t 4), none⟩,
  ⟨(some 23), .mv (.t 6), none⟩,
  ⟨(some 24), .call true 30 [(.t 22), (.t 23)], none⟩,
  ⟨(some 4), .mv (.t 24), none⟩]
def r13_10 : List AI := [⟨(some 25), .bin .add (.t 13) (.c (.i .i64 1)), none⟩,
  ⟨(some 13), .mv (.t 25), none⟩]
def r13_11 : List AI := [⟨(some 26), .mv (.t 4), none⟩,
  ⟨(some 27), .bslice [.i .u8 0] 1 [(0, (.c (.i .u8 93)))], none⟩,
  ⟨(some 28), .app 1 1 (.t 26) (.t 27), none⟩,
  ⟨(some 29), .b2s (.t 28), none⟩,
  ⟨(some 2), .mv (.t 29), none⟩,
  ⟨(some 3), .mv (.c (.i .i64 0)), none⟩]
abbrev c13_0 : AC := (.reg 9 r13_9)
abbrev l13_0 : AC := (.seq (.reg 5 r13_5) (.seq (.cond (.t 14) .skip (.exit 0)) (.seq (.block 1 (.seq (.reg 6 r13_6) (.seq (.seq (.reg 7 r13_7) (.cond (.t 19) (.reg 8 r13_8) .skip)) c13_0))) (.reg 10 r13_10))))
abbrev c13_2 : AC := (.seq (.reg 11 r13_11) .ret)
abbrev b13 : AC := (.seq (.reg 0 r13_0) (.seq (.seq (.reg 1 r13_1) (.cond (.t 8) (.seq (.reg 2 r13_2) .ret) .skip)) (.seq (.reg 3 r13_3) (.seq (.seq (.reg 4 r13_4) (.block 0 (.loop l13_0))) c13_2))))
def pf13 : AF := { nt := 30, res := [.tmp 2, .tmp 3], body := b13 }
abbrev I13_0 (prog : Prog) (d : Nat) (Q : AE → Sl → St → Prop) (t11 : List (List UInt8)) (t12 : Int) (b4 : List UInt8) (t13 : Int) : Prop :=
  ∀ (σ : Sl) (st : St) (o_b4 o_t11 : Own), σ 4 = .sl o_b4 (List.map row8 b4) → σ 11 = .sl o_t11 (List.map rowS t11) → σ 12 = .i .i64 t12 → σ 13 = .i .i64 t13 → App st.ow o_b4 b4.length → W prog d (.loop l13_0) σ st (blockW 0 (thenW prog d c13_2 Q))
def T13_2 (prog : Prog) (K : List UInt8 → Int → Prop) (P0 : List UInt8 → Int → Prop) (b4 : List UInt8) (s6 : List UInt8) (t11 : List (List UInt8)) (t12 : Int) (t13 : Int) : Prop :=
  ∃ r'1 : List UInt8, PuA prog 30 (List.map row8 b4) [.s s6] (List.map row8 r'1) ∧ P0 r'1 (IntKind.i64.wrap (t13 + 1))
theorem w13_2 {prog : Prog} {d : Nat} {Q : AE → Sl → St → Prop} {K : List UInt8 → Int → Prop} (hQ : ∀ (σ : Sl) (st : St) (x0 : List UInt8) (x1 : Int), σ 2 = .s x0 → σ 3 = .i .i64 x1 → K x0 x1 → Q .ret σ st) {b4 : List UInt8} {s6 : List UInt8} {t11 : List (List UInt8)} {t12 : Int} {t13 : Int} {P0 : List UInt8 → Int → Prop} (kP0 : ∀ (b4 : List UInt8) (t13 : Int), P0 b4 t13 → I13_0 prog d Q t11 t12 b4 t13) {σ : Sl} {st : St} {o_b4 o_t11 : Own} (H4 : σ 4 = .sl o_b4 (List.map row8 b4)) (H6 : σ 6 = .s s6) (H11 : σ 11 = .sl o_t11 (List.map rowS t11)) (H12 : σ 12 = .i .i64 t12) (H13 : σ 13 = .i .i64 t13) (A4 : App st.ow o_b4 b4.length) (h : T13_2 prog K P0 b4 s6 t11 t12 t13) : W prog d c13_0 σ st (blockW 1 (thenW prog d (.reg 10 r13_10) (thenW prog d (.loop l13_0) (blockW 0 (thenW prog d c13_2 Q))))) :=
  W.reg0 rfl fun _ _ => s_mvL H4 (s_mvS H6 (h.elim fun r'1 e'2 => s_callA (sec rfl (sec rfl sen)) e'2.1 (by simpa using A4) (fun o'3 st'5 a'4 => s_mvL rfl (s_nil (W.reg0 rfl fun _ _ => s_bin H13 rfl (abin_add _ _ _) (s_mvI rfl (s_nil (kP0 _ _ e'2.2 _ _ _ _ rfl H11 H12 rfl (by simpa using a'4)))))))))
def T13_3 (prog : Prog) (K : List UInt8 → Int → Prop) (b4 : List UInt8) : Prop :=
  Fit (b4.length + [(93 : UInt8)].length) 1 ∧ K (b4 ++ [(93 : UInt8)]) 0
theorem w13_3 {prog : Prog} {d : Nat} {Q : AE → Sl → St → Prop} {K : List UInt8 → Int → Prop} (hQ : ∀ (σ : Sl) (st : St) (x0 : List UInt8) (x1 : Int), σ 2 = .s x0 → σ 3 = .i .i64 x1 → K x0 x1 → Q .ret σ st) {b4 : List UInt8}   {σ : Sl} {st : St} {o_b4 : Own} (H4 : σ 4 = .sl o_b4 (List.map row8 b4)) (A4 : App st.ow o_b4 b4.length) (h : T13_3 prog K b4) : W prog d c13_2 σ st Q :=
  W.seq (W.reg0 rfl fun _ _ => s_mvL H4 (s_bslM (f := row8) (l := [(93 : UInt8)]) rfl rfl (g_cons rfl rfl rfl g_nil) rfl (s_app row8_len rfl rfl rfl A4 h.1 rfl (fun o'1 ow'4 a'2 fr'3 on'5 => s_b2s rfl (s_mvS rfl (s_mvI rfl (s_nil (W.ret (hQ _ _   _ _ rfl rfl  h.2)))))))))
def T13_1 (prog : Prog) (K : List UInt8 → Int → Prop) (P0 : List UInt8 → Int → Prop) (b4 : List UInt8) (t11 : List (List UInt8)) (t12 : Int) (t13 : Int) : Prop :=
  (t13 < t12 → 0 ≤ t13 ∧ ∃ c'2 : List UInt8, t11[(t13).toNat]? = some c'2 ∧ (t13 > 0 → Fit (b4.length + ([44, 32] : List UInt8).length) 1 ∧ T13_2 prog K P0 (b4 ++ ([44, 32] : List UInt8)) c'2 t11 t12 t13) ∧ (¬(t13 > 0) → T13_2 prog K P0 b4 c'2 t11 t12 t13)) ∧ (¬(t13 < t12) → T13_3 prog K b4)
theorem w13_1 {prog : Prog} {d : Nat} {Q : AE → Sl → St → Prop} {K : List UInt8 → Int → Prop} (hQ : ∀ (σ : Sl) (st : St) (x0 : List UInt8) (x1 : Int), σ 2 = .s x0 → σ 3 = .i .i64 x1 → K x0 x1 → Q .ret σ st) {b4 : List UInt8} {t11 : List (List UInt8)} {t12 : Int} {t13 : Int} {P0 : List UInt8 → Int → Prop} (kP0 : ∀ (b4 : List UInt8) (t13 : Int), P0 b4 t13 → I13_0 prog d Q t11 t12 b4 t13) {σ : Sl} {st : St} {o_b4 o_t11 : Own} (H4 : σ 4 = .sl o_b4 (List.map row8 b4)) (H11 : σ 11 = .sl o_t11 (List.map rowS t11)) (H12 : σ 12 = .i .i64 t12) (H13 : σ 13 = .i .i64 t13) (A4 : App st.ow o_b4 b4.length) (h : T13_1 prog K P0 b4 t11 t12 t13) : W prog d l13_0 σ st (thenW prog d (.loop l13_0) (blockW 0 (thenW prog d c13_2 Q))) :=
  W.seq (W.reg0 rfl fun _ _ => s_bin H13 H12 (abin_lss _ _ _) (s_nil (W.seq (c_split rfl (fun g'1 => W.skip (W.seq (W.block (W.seq (W.reg0 rfl fun _ _ => s_mvI H13 ((h.1 g'1).2.elim fun c'2 e'3 => s_iaL H11 H13 (h.1 g'1).1 e'3.1 rfl rfl (s_loadF rfl rfl rfl (s_mvI rfl (s_mvS rfl (s_nil (W.seq (W.seq (W.reg0 rfl fun _ _ => s_mvI rfl (s_bin rfl rfl (abin_gtr _ _ _) (s_nil (c_split rfl (fun g'4 => W.reg0 rfl fun _ _ => s_mvL H4 (s_appS rfl rfl A4 (e'3.2.1 g'4).1 rfl (fun o'5 ow'8 a'6 fr'7 on'9 => s_mvL rfl (s_nil (w13_2  hQ kP0 rfl rfl H11 H12 H13 a'6 (e'3.2.1 g'4).2))))) (fun g'4 => W.skip (w13_2  hQ kP0 H4 rfl H11 H12 H13 A4 (e'3.2.2 g'4))))))))))))))))))) (fun g'1 => W.exit (w13_3  hQ  H4 A4 (h.2 g'1)))))))
def T13_0 (prog : Prog) (K : List UInt8 → Int → Prop) (l0 : List (List UInt8)) : Prop :=
  ∃ r'1 : Bool, Pus prog 32 [.sl .ext (List.map rowS l0)] (.b r'1) ∧ (r'1 = true → K ([] : List UInt8) 4) ∧ (r'1 = false → ∀ P0 : List UInt8 → Int → Prop, (∀ (b4 : List UInt8) (t13 : Int), T13_1 prog K P0 b4 l0 (l0.length : Int) t13 → P0 b4 t13) → P0 [(91 : UInt8)] 0)
theorem w13_0 {prog : Prog} {d : Nat} {Q : AE → Sl → St → Prop} {K : List UInt8 → Int → Prop} (hQ : ∀ (σ : Sl) (st : St) (x0 : List UInt8) (x1 : Int), σ 2 = .s x0 → σ 3 = .i .i64 x1 → K x0 x1 → Q .ret σ st) {l0 : List (List UInt8)}   {σ : Sl} {st : St} {o_l0 : Own} (H0 : σ 0 = .sl o_l0 (List.map rowS l0)) (h : T13_0 prog K l0) : W prog d (.seq (.reg 0 r13_0) (.seq (.seq (.reg 1 r13_1) (.cond (.t 8) (.seq (.reg 2 r13_2) .ret) .skip)) (.seq (.reg 3 r13_3) (.seq (.seq (.reg 4 r13_4) (.block 0 (.loop l13_0))) c13_2)))) σ st Q :=
  W.seq (W.reg0 rfl fun _ _ => s_mvS rfl (s_mvI rfl (s_nil (W.seq (W.seq (W.reg0 rfl fun _ _ => s_mvL H0 (h.elim fun r'1 e'2 => s_call (sc rfl rfl sn) e'2.1 (s_nil (c_bool rfl (fun g'3 => W.seq (W.reg0 rfl fun _ _ => s_mvS rfl (s_mvI rfl (s_nil (W.ret (hQ _ _   _ _ rfl rfl  (e'2.2.1 g'3))))))) (fun g'3 => W.skip (W.seq (W.reg0 rfl fun _ _ => s_bslM (f := row8) (l := [(91 : UInt8)]) rfl rfl (g_cons rfl rfl rfl g_nil) rfl (s_mvL rfl (s_mvL rfl (s_nil (W.seq (W.seq (W.reg0 rfl fun _ _ => s_mvL H0 (s_lenL rfl (s_mvI rfl (s_nil (W.block ((e'2.2.2 g'3) (I13_0 prog d Q l0 (l0.length : Int)) (fun _ _ hb _ _ _ _ H4 H11 H12 H13 A4 => W.loop (w13_1 hQ (fun _ _ x => x) H4 H11 H12 H13 A4 hb)) _ _ _ _ rfl rfl rfl rfl App.full)))))))))))))))))))))))
theorem p13 {prog : Prog} (hf : prog.fn 13 = some pf13) {l0 : List (List UInt8)} {K : List UInt8 → Int → Prop} (h : T13_0 prog K l0) : ∃ x0 : List UInt8, ∃ x1 : Int, K x0 x1 ∧ Pus prog 13 [.sl .ext (List.map rowS l0)] (.tup [.s x0, .i .i64 x1]) := by
  obtain ⟨v, hv, x0, x1, hk, rfl⟩ := Pus.of (K := fun v => ∃ x0 : List UInt8, ∃ x1 : Int, K x0 x1 ∧ v = .tup [.s x0, .i .i64 x1]) hf rfl (w13_0 (σ := sl0 [.sl .ext (List.map rowS l0)]) (fun σ st   x0 x1 H2 H3 hk => ⟨.tup [.s x0, .i .i64 x1], by simp only [pf13, ares, aresL, H2, H3, ares1, Option.map_some], _, rfl, x0, x1, hk, rfl⟩) rfl h)
  exact ⟨x0, x1, hk, hv⟩

/-! wreckage/text.Number -/
def r15_0 : List AI := [⟨(some 2), .mv (.c (.s [])), none⟩]
def r15_1 : List AI := [⟨(some 3), .mv (.t 0), none⟩,
  ⟨(some 4), .bin .lss (.t 3) (.c (.i .i64 0)), none⟩]
def r15_2 : List AI := [⟨(some 5), .mv (.t 0), none⟩,
  ⟨(some 6), .cvi .u64 (.t 5), none⟩,
  ⟨(some 7), .un .neg (.t 6), none⟩,
  ⟨(some 8), .call false 34 [(.t 7), (.c (.i .u64 10))], none⟩,
  ⟨(some 9), .bin .add (.c (.s [45])) (.t 8), none⟩,
  ⟨(some 2), .mv (.t 9), none⟩]
def r15_3 : List AI := [⟨(some 10), .mv (.t 0), none⟩,
  ⟨(some 11), .cvi .u64 (.t 10), none⟩,
  ⟨(some 12), .call false 34 [(.t 11), (.c (.i .u64 10))], none⟩,
  ⟨(some 2), .mv (.t 12), none⟩]
abbrev b15 : AC := (.seq (.reg 0 r15_0) (.seq (.seq (.reg 1 r15_1) (.cond (.t 4) (.seq (.reg 2 r15_2) .ret) .skip)) (.seq (.reg 3 r15_3) .ret)))
def pf15 : AF := { nt := 13, res := [.tmp 2], body := b15 }
def T15_0 (prog : Prog) (K : List UInt8 → Prop) (n0 : Int) : Prop :=
  (n0 < 0 → ∃ r'2 : List UInt8, Pus prog 34 [.i .u64 (IntKind.u64.wrap (0 - (IntKind.u64.wrap n0))), .i .u64 10] (.s r'2) ∧ ([45] : List UInt8).length + r'2.length ≤ maxStr ∧ K (([45] : List UInt8) ++ r'2)) ∧ (¬(n0 < 0) → ∃ r'4 : List UInt8, Pus prog 34 [.i .u64 (IntKind.u64.wrap n0), .i .u64 10] (.s r'4) ∧ K r'4)
theorem w15_0 {prog : Prog} {d : Nat} {Q : AE → Sl → St → Prop} {K : List UInt8 → Prop} (hQ : ∀ (σ : Sl) (st : St) (x0 : List UInt8), σ 2 = .s x0 → K x0 → Q .ret σ st) {n0 : Int}   {σ : Sl} {st : St} (H0 : σ 0 = .i .i64 n0) (h : T15_0 prog K n0) : W prog d (.seq (.reg 0 r15_0) (.seq (.seq (.reg 1 r15_1) (.cond (.t 4) (.seq (.reg 2 r15_2) .ret) .skip)) (.seq (.reg 3 r15_3) .ret))) σ st Q :=
  W.seq (W.reg0 rfl fun _ _ => s_mvS rfl (s_nil (W.seq (W.seq (W.reg0 rfl fun _ _ => s_mvI H0 (s_bin rfl rfl (abin_lss _ _ _) (s_nil (c_split rfl (fun g'1 => W.seq (W.reg0 rfl fun _ _ => s_mvI H0 (s_cvi rfl (s_neg rfl ((h.1 g'1).elim fun r'2 e'3 => s_call (sc rfl rfl (sc rfl rfl sn)) e'3.1 (s_bin rfl rfl (abin_cat' e'3.2.1) (s_mvS rfl (s_nil (W.ret (hQ _ _   _ rfl  e'3.2.2)))))))))) (fun g'1 => W.skip (W.seq (W.reg0 rfl fun _ _ => s_mvI H0 (s_cvi rfl ((h.2 g'1).elim fun r'4 e'5 => s_call (sc rfl rfl (sc rfl rfl sn)) e'5.1 (s_mvS rfl (s_nil (W.ret (hQ _ _   _ rfl  e'5.2)))))))))))))))))
theorem p15 {prog : Prog} (hf : prog.fn 15 = some pf15) {n0 : Int} {K : List UInt8 → Prop} (h : T15_0 prog K n0) : ∃ x0 : List UInt8, K x0 ∧ Pus prog 15 [.i .i64 n0] (.s x0) := by
  obtain ⟨v, hv, x0, hk, rfl⟩ := Pus.of (K := fun v => ∃ x0 : List UInt8, K x0 ∧ v = .s x0) hf rfl (w15_0 (σ := sl0 [.i .i64 n0]) (fun σ st   x0 H2 hk => ⟨.s x0, by simp only [pf15, ares, aresL, H2, ares1, Option.map_some], _, rfl, x0, hk, rfl⟩) rfl h)
  exact ⟨x0, hk, hv⟩

/-! wreckage/text.Hex -/
def r17_0 : List AI := [⟨(some 2), .mv (.c (.s [])), none⟩]
def r17_1 : List AI := [⟨(some 3), .mv (.t 0), none⟩,
  ⟨(some 4), .call false 34 [(.t 3), (.c (.i .u64 16))], none⟩,
  ⟨(some 5), .bin .add (.c (.s [48, 120])) (.t 4), none⟩,
  ⟨(some 2), .mv (.t 5), none⟩]
abbrev b17 : AC := (.seq (.reg 0 r17_0) (.seq (.reg 1 r17_1) .ret))
def pf17 : AF := { nt := 6, res := [.tmp 2], body := b17 }
def T17_0 (prog : Prog) (K : List UInt8 → Prop) (n0 : Int) : Prop :=
  ∃ r'1 : List UInt8, Pus prog 34 [.i .u64 n0, .i .u64 16] (.s r'1) ∧ ([48, 120] : List UInt8).length + r'1.length ≤ maxStr ∧ K (([48, 120] : List UInt8) ++ r'1)
theorem w17_0 {prog : Prog} {d : Nat} {Q : AE → Sl → St → Prop} {K : List UInt8 → Prop} (hQ : ∀ (σ : Sl) (st : St) (x0 : List UInt8), σ 2 = .s x0 → K x0 → Q .ret σ st) {n0 : Int}   {σ : Sl} {st : St} (H0 : σ 0 = .i .u64 n0) (h : T17_0 prog K n0) : W prog d (.seq (.reg 0 r17_0) (.seq (.reg 1 r17_1) .ret)) σ st Q :=
  W.seq (W.reg0 rfl fun _ _ => s_mvS rfl (s_nil (W.seq (W.reg0 rfl fun _ _ => s_mvI H0 (h.elim fun r'1 e'2 => s_call (sc rfl rfl (sc rfl rfl sn)) e'2.1 (s_bin rfl rfl (abin_cat' e'2.2.1) (s_mvS rfl (s_nil (W.ret (hQ _ _   _ rfl  e'2.2.2))))))))))
theorem p17 {prog : Prog} (hf : prog.fn 17 = some pf17) {n0 : Int} {K : List UInt8 → Prop} (h : T17_0 prog K n0) : ∃ x0 : List UInt8, K x0 ∧ Pus prog 17 [.i .u64 n0] (.s x0) := by
  obtain ⟨v, hv, x0, hk, rfl⟩ := Pus.of (K := fun v => ∃ x0 : List UInt8, K x0 ∧ v = .s x0) hf rfl (w17_0 (σ := sl0 [.i .u64 n0]) (fun σ st   x0 H2 hk => ⟨.s x0, by simp only [pf17, ares, aresL, H2, ares1, Option.map_some], _, rfl, x0, hk, rfl⟩) rfl h)
  exact ⟨x0, hk, hv⟩

/-! wreckage/text.Unnumber -/
def r21_0 : List AI := [⟨(some 2), .mv (.c (.i .i64 0)), none⟩,
  ⟨(some 3), .mv (.c (.i .i64 0)), none⟩]
def r21_1 : List AI := [⟨(some 10), .mv (.t 0), none⟩,
  ⟨(some 11), .len true (.t 10), none⟩,
  ⟨(some 12), .bin .gtr (.t 11) (.c (.i .i64 2000)), none⟩]
def r21_2 : List AI := [⟨(some 2), .mv (.c (.i .i64 0)), none⟩,
  ⟨(some 3), .mv (.c (.i .i64 4)), none⟩]
def r21_3 : List AI := [⟨(some 14), .mv (.t 0), none⟩,
  ⟨(some 15), .call false 36 [(.t 14), (.c (.s [45]))], none⟩,
  ⟨(some 13), .mv (.t 15), none⟩,
  ⟨(some 16), .ext 0 (.t 13), none⟩,
  ⟨(some 17), .ext 1 (.t 13), none⟩,
  ⟨(some 4), .mv (.t 16), none⟩,
  ⟨(some 5), .mv (.t 17), none⟩]
def r21_4 : List AI := [⟨(some 18), .mv (.t 5), none⟩,
  ⟨(some 19), .un .not (.t 18), none⟩]
def r21_5 : List AI := [⟨(some 21), .mv (.t 0), none⟩,
  ⟨(some 22), .call false 37 [(.t 21), (.c (.i .u64 10)), (.c (.i .u64 9223372036854775807))], none⟩,
  ⟨(some 20), .mv (.t 22), none⟩,
  ⟨(some 23), .ext 0 (.t 20), none⟩,
  ⟨(some 24), .ext 1 (.t 20), none⟩,
  ⟨(some 6), .mv (.t 23), none⟩,
  ⟨(some 7), .mv (.t 24), none⟩]
def r21_6 : List AI := [⟨(some 25), .mv (.t 6), none⟩,
  ⟨(some 26), .cvi .i64 (.t 25), none⟩,
  ⟨(some 27), .mv (.t 7), none⟩,
  ⟨(some 2), .mv (.t 26), none⟩,
  ⟨(some 3), .mv (.t 27), none⟩]
def r21_7 : List AI := [⟨(some 29), .mv (.t 4), none⟩,
  ⟨(some 30), .call false 37 [(.t 29), (.c (.i .u64 10)), (.c (.i .u64 9223372036854775808))], none⟩,
  ⟨(some 28), .mv (.t 30), none⟩,
  ⟨(some 31), .ext 0 (.t 28), none⟩,
  ⟨(some 32), .ext 1 (.t 28), none⟩,
  ⟨(some 8), .mv (.t 31), none⟩,
  ⟨(some 9), .mv (.t 32), none⟩]
def r21_8 : List AI := [⟨(some 33), .mv (.t 9), none⟩,
  ⟨(some 34), .bin .eql (.t 33) (.c (.i .i64 0)), none⟩,
  ⟨(some 35), .mv (.t 34), none⟩,
  ⟨(some 36), .mv (.t 8), (some (35, true))⟩,
  ⟨(some 37), .bin .eql (.t 36) (.c (.i .u64 0)), (some (35, true))⟩,
  ⟨(some 38), .pick (.t 35) (.t 37) (.c (.b false)), none⟩]
def r21_9 : List AI := [⟨(some 9), .mv (.c (.i .i64 12)), none⟩]
def r21_10 : List AI := [⟨(some 39), .mv (.t 8), none⟩,
  ⟨(some 40), .un .neg (.t 39), none⟩,
  ⟨(some 41), .cvi .i64 (.t 40), none⟩,
  ⟨(some 42), .mv (.t 9), none⟩,
  ⟨(some 2), .mv (.t 41), none⟩,
  ⟨(some 3), .mv (.t 42), none⟩]
abbrev c21_0 : AC := (.seq (.reg 10 r21_10) .ret)
abbrev b21 : AC := (.seq (.reg 0 r21_0) (.seq (.seq (.reg 1 r21_1) (.cond (.t 12) (.seq (.reg 2 r21_2) .ret) .skip)) (.seq (.reg 3 r21_3) (.seq (.seq (.reg 4 r21_4) (.cond (.t 19) (.seq (.reg 5 r21_5) (.seq (.reg 6 r21_6) .ret)) .skip)) (.seq (.reg 7 r21_7) (.seq (.seq (.reg 8 r21_8) (.cond (.t 38) (.reg 9 r21_9) .skip)) c21_0))))))
def pf21 : AF := { nt := 43, res := [.tmp 2, .tmp 3], body := b21 }
def T21_1 (prog : Prog) (K : Int → Int → Prop) (n8 : Int) (e9 : Int) : Prop :=
  K (IntKind.i64.wrap (IntKind.u64.wrap (0 - n8))) e9
theorem w21_1 {prog : Prog} {d : Nat} {Q : AE → Sl → St → Prop} {K : Int → Int → Prop} (hQ : ∀ (σ : Sl) (st : St) (x0 : Int) (x1 : Int), σ 2 = .i .i64 x0 → σ 3 = .i .i64 x1 → K x0 x1 → Q .ret σ st) {n8 : Int} {e9 : Int}   {σ : Sl} {st : St} (H8 : σ 8 = .i .u64 n8) (H9 : σ 9 = .i .i64 e9) (h : T21_1 prog K n8 e9) : W prog d c21_0 σ st Q :=
  W.seq (W.reg0 rfl fun _ _ => s_mvI H8 (s_neg rfl (s_cvi rfl (s_mvI H9 (s_mvI rfl (s_mvI rfl (s_nil (W.ret (hQ _ _   _ _ rfl rfl  h)))))))))
def T21_0 (prog : Prog) (K : Int → Int → Prop) (s0 : List UInt8) : Prop :=
  ((s0.length : Int) > 2000 → K 0 4) ∧ (¬((s0.length : Int) > 2000) → ∃ r'2 : List UInt8, ∃ r'3 : Bool, Pus prog 36 [.s s0, .s ([45] : List UInt8)] (.tup [.s r'2, .b r'3]) ∧ ((!r'3) = true → ∃ r'6 : Int, ∃ r'7 : Int, Pus prog 37 [.s s0, .i .u64 10, .i .u64 9223372036854775807] (.tup [.i .u64 r'6, .i .i64 r'7]) ∧ K (IntKind.i64.wrap r'6) r'7) ∧ ((!r'3) = false → ∃ r'10 : Int, ∃ r'11 : Int, Pus prog 37 [.s r'2, .i .u64 10, .i .u64 9223372036854775808] (.tup [.i .u64 r'10, .i .i64 r'11]) ∧ (r'11 = 0 → (r'10 = 0 → T21_1 prog K r'10 12) ∧ (¬(r'10 = 0) → T21_1 prog K r'10 r'11)) ∧ (¬(r'11 = 0) → T21_1 prog K r'10 r'11)))
theorem w21_0 {prog : Prog} {d : Nat} {Q : AE → Sl → St → Prop} {K : Int → Int → Prop} (hQ : ∀ (σ : Sl) (st : St) (x0 : Int) (x1 : Int), σ 2 = .i .i64 x0 → σ 3 = .i .i64 x1 → K x0 x1 → Q .ret σ st) {s0 : List UInt8}   {σ : Sl} {st : St} (H0 : σ 0 = .s s0) (h : T21_0 prog K s0) : W prog d (.seq (.reg 0 r21_0) (.seq (.seq (.reg 1 r21_1) (.cond (.t 12) (.seq (.reg 2 r21_2) .ret) .skip)) (.seq (.reg 3 r21_3) (.seq (.seq (.reg 4 r21_4) (.cond (.t 19) (.seq (.reg 5 r21_5) (.seq (.reg 6 r21_6) .ret)) .skip)) (.seq (.reg 7 r21_7) (.seq (.seq (.reg 8 r21_8) (.cond (.t 38) (.reg 9 r21_9) .skip)) c21_0)))))) σ st Q :=
  W.seq (W.reg0 rfl fun _ _ => s_mvI rfl (s_mvI rfl (s_nil (W.seq (W.seq (W.reg0 rfl fun _ _ => s_mvS H0 (s_lenS rfl (s_bin rfl rfl (abin_gtr _ _ _) (s_nil (c_split rfl (fun g'1 => W.seq (W.reg0 rfl fun _ _ => s_mvI rfl (s_mvI rfl (s_nil (W.ret (hQ _ _   _ _ rfl rfl  (h.1 g'1))))))) (fun g'1 => W.skip (W.seq (W.reg0 rfl fun _ _ => s_mvS H0 ((h.2 g'1).elim fun r'2 e'16 => e'16.elim fun r'3 e'4 => s_call (sc rfl rfl (sc rfl rfl sn)) e'4.1 (s_mvT rfl (s_ext rfl rfl (s_ext rfl rfl (s_mvS rfl (s_mvB rfl (s_nil (W.seq (W.seq (W.reg0 rfl fun _ _ => s_mvB rfl (s_not rfl (s_nil (c_bool rfl (fun g'5 => W.seq (W.reg0 rfl fun _ _ => s_mvS H0 ((e'4.2.1 g'5).elim fun r'6 e'9 => e'9.elim fun r'7 e'8 => s_call (sc rfl rfl (sc rfl rfl (sc rfl rfl sn))) e'8.1 (s_mvT rfl (s_ext rfl rfl (s_ext rfl rfl (s_mvI rfl (s_mvI rfl (s_nil (W.seq (W.reg0 rfl fun _ _ => s_mvI rfl (s_cvi rfl (s_mvI rfl (s_mvI rfl (s_mvI rfl (s_nil (W.ret (hQ _ _   _ _ rfl rfl  e'8.2)))))))))))))))))) (fun g'5 => W.skip (W.seq (W.reg0 rfl fun _ _ => s_mvS rfl ((e'4.2.2 g'5).elim fun r'10 e'15 => e'15.elim fun r'11 e'12 => s_call (sc rfl rfl (sc rfl rfl (sc rfl rfl sn))) e'12.1 (s_mvT rfl (s_ext rfl rfl (s_ext rfl rfl (s_mvI rfl (s_mvI rfl (s_nil (W.seq (W.seq (W.reg0 rfl fun _ _ => s_mvI rfl (s_bin rfl rfl (abin_eql _ _ _) (s_mvB rfl (s_em (g := 35) rfl (fun g'13 => s_gy rfl (s_mvI rfl (s_gy rfl (s_bin rfl rfl (abin_eql _ _ _) (s_pickTB rfl rfl (s_nil (c_split rfl (fun g'14 => W.reg0 rfl fun _ _ => s_mvI rfl (s_nil (w21_1  hQ  rfl rfl ((e'12.2.1 g'13).1 g'14)))) (fun g'14 => W.skip (w21_1  hQ  rfl rfl ((e'12.2.1 g'13).2 g'14)))))))))) (fun g'13 => s_gn (b := false) rfl rfl (s_gn (b := false) rfl rfl (s_pickFB rfl rfl (s_nil (c_ff rfl (W.skip (w21_1  hQ  rfl rfl (e'12.2.2 g'13))))))))))))))))))))))))))))))))))))))))))))))))))
theorem p21 {prog : Prog} (hf : prog.fn 21 = some pf21) {s0 : List UInt8} {K : Int → Int → Prop} (h : T21_0 prog K s0) : ∃ x0 : Int, ∃ x1 : Int, K x0 x1 ∧ Pus prog 21 [.s s0] (.tup [.i .i64 x0, .i .i64 x1]) := by
  obtain ⟨v, hv, x0, x1, hk, rfl⟩ := Pus.of (K := fun v => ∃ x0 : Int, ∃ x1 : Int, K x0 x1 ∧ v = .tup [.i .i64 x0, .i .i64 x1]) hf rfl (w21_0 (σ := sl0 [.s s0]) (fun σ st   x0 x1 H2 H3 hk => ⟨.tup [.i .i64 x0, .i .i64 x1], by simp only [pf21, ares, aresL, H2, H3, ares1, Option.map_some], _, rfl, x0, x1, hk, rfl⟩) rfl h)
  exact ⟨x0, x1, hk, hv⟩

/-! wreckage/text.Unhex -/
def r23_0 : List AI := [⟨(some 2), .mv (.c (.i .u64 0)), none⟩,
  ⟨(some 3), .mv (.c (.i .i64 0)), none⟩]
def r23_1 : List AI := [⟨(some 6), .mv (.t 0), none⟩,
  ⟨(some 7), .len true (.t 6), none⟩,
  ⟨(some 8), .bin .gtr (.t 7) (.c (.i .i64 2000)), none⟩]
def r23_2 : List AI := [⟨(some 2), .mv (.c (.i .u64 0)), none⟩,
  ⟨(some 3), .mv (.c (.i .i64 4)), none⟩]
def r23_3 : List AI := [⟨(some 10), .mv (.t 0), none⟩,
  ⟨(some 11), .call false 36 [(.t 10), (.c (.s [48, 120]))], none⟩,
  ⟨(some 9), .mv (.t 11), none⟩,
  ⟨(some 12), .ext 0 (.t 9), none⟩,
  ⟨(some 13), .ext 1 (.t 9), none⟩,
  ⟨(some 4), .mv (.t 12), none⟩,
  ⟨(some 5), .mv (.t 13), none⟩]
def r23_4 : List AI := [⟨(some 14), .mv (.t 5), none⟩,
  ⟨(some 15), .un .not (.t 14), none⟩]
def r23_5 : List AI := [⟨(some 2), .mv (.c (.i .u64 0)), none⟩,
  ⟨(some 3), .mv (.c (.i .i64 12)), none⟩]
def r23_6 : List AI := [⟨(some 16), .mv (.t 4), none⟩,
  ⟨(some 17), .call false 37 [(.t 16), (.c (.i .u64 16)), (.c (.i .u64 18446744073709551615))], none⟩,
  ⟨(some 18), .ext 0 (.t 17), none⟩,
  ⟨(some 19), .ext 1 (.t 17), none⟩,
  ⟨(some 2), .mv (.t 18), none⟩,
  ⟨(some 3), .mv (.t 19), none⟩]
abbrev b23 : AC := (.seq (.reg 0 r23_0) (.seq (.seq (.reg 1 r23_1) (.cond (.t 8) (.seq (.reg 2 r23_2) .ret) .skip)) (.seq (.reg 3 r23_3) (.seq (.seq (.reg 4 r23_4) (.cond (.t 15) (.seq (.reg 5 r23_5) .ret) .skip)) (.seq (.reg 6 r23_6) .ret)))))
def pf23 : AF := { nt := 20, res := [.tmp 2, .tmp 3], body := b23 }
def T23_0 (prog : Prog) (K : Int → Int → Prop) (s0 : List UInt8) : Prop :=
  ((s0.length : Int) > 2000 → K 0 4) ∧ (¬((s0.length : Int) > 2000) → ∃ r'2 : List UInt8, ∃ r'3 : Bool, Pus prog 36 [.s s0, .s ([48, 120] : List UInt8)] (.tup [.s r'2, .b r'3]) ∧ ((!r'3) = true → K 0 12) ∧ ((!r'3) = false → ∃ r'6 : Int, ∃ r'7 : Int, Pus prog 37 [.s r'2, .i .u64 16, .i .u64 18446744073709551615] (.tup [.i .u64 r'6, .i .i64 r'7]) ∧ K r'6 r'7))
theorem w23_0 {prog : Prog} {d : Nat} {Q : AE → Sl → St → Prop} {K : Int → Int → Prop} (hQ : ∀ (σ : Sl) (st : St) (x0 : Int) (x1 : Int), σ 2 = .i .u64 x0 → σ 3 = .i .i64 x1 → K x0 x1 → Q .ret σ st) {s0 : List UInt8}   {σ : Sl} {st : St} (H0 : σ 0 = .s s0) (h : T23_0 prog K s0) : W prog d (.seq (.reg 0 r23_0) (.seq (.seq (.reg 1 r23_1) (.cond (.t 8) (.seq (.reg 2 r23_2) .ret) .skip)) (.seq (.reg 3 r23_3) (.seq (.seq (.reg 4 r23_4) (.cond (.t 15) (.seq (.reg 5 r23_5) .ret) .skip)) (.seq (.reg 6 r23_6) .ret))))) σ st Q :=
  W.seq (W.reg0 rfl fun _ _ => s_mvI rfl (s_mvI rfl (s_nil (W.seq (W.seq (W.reg0 rfl fun _ _ => s_mvS H0 (s_lenS rfl (s_bin rfl rfl (abin_gtr _ _ _) (s_nil (c_split rfl (fun g'1 => W.seq (W.reg0 rfl fun _ _ => s_mvI rfl (s_mvI rfl (s_nil (W.ret (hQ _ _   _ _ rfl rfl  (h.1 g'1))))))) (fun g'1 => W.skip (W.seq (W.reg0 rfl fun _ _ => s_mvS H0 ((h.2 g'1).elim fun r'2 e'10 => e'10.elim fun r'3 e'4 => s_call (sc rfl rfl (sc rfl rfl sn)) e'4.1 (s_mvT rfl (s_ext rfl rfl (s_ext rfl rfl (s_mvS rfl (s_mvB rfl (s_nil (W.seq (W.seq (W.reg0 rfl fun _ _ => s_mvB rfl (s_not rfl (s_nil (c_bool rfl (fun g'5 => W.seq (W.reg0 rfl fun _ _ => s_mvI rfl (s_mvI rfl (s_nil (W.ret (hQ _ _   _ _ rfl rfl  (e'4.2.1 g'5))))))) (fun g'5 => W.skip (W.seq (W.reg0 rfl fun _ _ => s_mvS rfl ((e'4.2.2 g'5).elim fun r'6 e'9 => e'9.elim fun r'7 e'8 => s_call (sc rfl rfl (sc rfl rfl (sc rfl rfl sn))) e'8.1 (s_ext rfl rfl (s_ext rfl rfl (s_mvI rfl (s_mvI rfl (s_nil (W.ret (hQ _ _   _ _ rfl rfl  e'8.2)))))))))))))))))))))))))))))))))))))
theorem p23 {prog : Prog} (hf : prog.fn 23 = some pf23) {s0 : List UInt8} {K : Int → Int → Prop} (h : T23_0 prog K s0) : ∃ x0 : Int, ∃ x1 : Int, K x0 x1 ∧ Pus prog 23 [.s s0] (.tup [.i .u64 x0, .i .i64 x1]) := by
  obtain ⟨v, hv, x0, x1, hk, rfl⟩ := Pus.of (K := fun v => ∃ x0 : Int, ∃ x1 : Int, K x0 x1 ∧ v = .tup [.i .u64 x0, .i .i64 x1]) hf rfl (w23_0 (σ := sl0 [.s s0]) (fun σ st   x0 x1 H2 H3 hk => ⟨.tup [.i .u64 x0, .i .i64 x1], by simp only [pf23, ares, aresL, H2, H3, ares1, Option.map_some], _, rfl, x0, x1, hk, rfl⟩) rfl h)
  exact ⟨x0, x1, hk, hv⟩

/-! wreckage/text.Unquote -/
def r25_0 : List AI := [⟨(some 2), .mv (.c (.s [])), none⟩,
  ⟨(some 3), .mv (.c (.i .i64 0)), none⟩]
def r25_1 : List AI := [⟨(some 7), .mv (.t 0), none⟩,
  ⟨(some 8), .len true (.t 7), none⟩,
  ⟨(some 9), .bin .gtr (.t 8) (.c (.i .i64 2000)), none⟩]
def r25_2 : List AI := [⟨(some 2), .mv (.c (.s [])), none⟩,
  ⟨(some 3), .mv (.c (.i .i64 4)), none⟩]
def r25_3 : List AI := [⟨(some 11), .mv (.t 0), none⟩,
  ⟨(some 12), .call false 39 [(.t 11)], none⟩,
  ⟨(some 10), .mv (.t 12), none⟩,
  ⟨(some 13), .ext 0 (.t 10), none⟩,
  ⟨(some 14), .ext 1 (.t 10), none⟩,
  ⟨(some 15), .ext 2 (.t 10), none⟩,
  ⟨(some 4), .mv (.t 13), none⟩,
  ⟨(some 5), .mv (.t 14), none⟩,
  ⟨(some 6), .mv (.t 15), none⟩]
def r25_4 : List AI := [⟨(some 17), .mv (.t 6), none⟩,
  ⟨(some 18), .un .not (.t 17), none⟩,
  ⟨(some 19), .mv (.t 18), none⟩,
  ⟨(some 20), .mv (.t 5), (some (19, false))⟩,
  ⟨(some 21), .bin .neq (.t 20) (.c (.s [])), (some (19, false))⟩,
  ⟨(some 22), .pick (.t 19) (.c (.b true)) (.t 21), none⟩,
  ⟨(some 16), .mv (.t 22), none⟩]
def r25_5 : List AI := [⟨(some 2), .mv (.c (.s [])), none⟩,
  ⟨(some 3), .mv (.c (.i .i64 12)), none⟩]
def r25_6 : List AI := [⟨(some 24), .mv (.t 4), none⟩,
  ⟨(some 25), .len true (.t 24), none⟩,
  ⟨(some 26), .bin .gtr (.t 25) (.c (.i .i64 400)), none⟩,
  ⟨(some 23), .mv (.t 26), none⟩]
def r25_7 : List AI := [⟨(some 2), .mv (.c (.s [])), none⟩,
  ⟨(some 3), .mv (.c (.i .i64 4)), none⟩]
def r25_8 : List AI := [⟨(some 27), .mv (.t 4), none⟩,
  ⟨(some 2), .mv (.t 27), none⟩,
  ⟨(some 3), .mv (.c (.i .i64 0)), none⟩]
abbrev b25 : AC := (.seq (.reg 0 r25_0) (.seq (.seq (.reg 1 r25_1) (.cond (.t 9) (.seq (.reg 2 r25_2) .ret) .skip)) (.seq (.reg 3 r25_3) (.seq (.block 0 (.seq (.reg 4 r25_4) (.cond (.t 16) (.seq (.reg 5 r25_5) .ret) (.seq (.reg 6 r25_6) (.cond (.t 23) (.seq (.reg 7 r25_7) .ret) .skip))))) (.seq (.reg 8 r25_8) .ret)))))
def pf25 : AF := { nt := 28, res := [.tmp 2, .tmp 3], body := b25 }
def T25_0 (prog : Prog) (K : List UInt8 → Int → Prop) (s0 : List UInt8) : Prop :=
  ((s0.length : Int) > 2000 → K ([] : List UInt8) 4) ∧ (¬((s0.length : Int) > 2000) → ∃ r'2 : List UInt8, ∃ r'3 : List UInt8, ∃ r'4 : Bool, Pus prog 39 [.s s0] (.tup [.s r'2, .s r'3, .b r'4]) ∧ ((!r'4) = true → K ([] : List UInt8) 12) ∧ ((!r'4) = false → (r'3 ≠ ([] : List UInt8) → K ([] : List UInt8) 12) ∧ (¬(r'3 ≠ ([] : List UInt8)) → ((r'2.length : Int) > 400 → K ([] : List UInt8) 4) ∧ (¬((r'2.length : Int) > 400) → K r'2 0))))
theorem w25_0 {prog : Prog} {d : Nat} {Q : AE → Sl → St → Prop} {K : List UInt8 → Int → Prop} (hQ : ∀ (σ : Sl) (st : St) (x0 : List UInt8) (x1 : Int), σ 2 = .s x0 → σ 3 = .i .i64 x1 → K x0 x1 → Q .ret σ st) {s0 : List UInt8}   {σ : Sl} {st : St} (H0 : σ 0 = .s s0) (h : T25_0 prog K s0) : W prog d (.seq (.reg 0 r25_0) (.seq (.seq (.reg 1 r25_1) (.cond (.t 9) (.seq (.reg 2 r25_2) .ret) .skip)) (.seq (.reg 3 r25_3) (.seq (.block 0 (.seq (.reg 4 r25_4) (.cond (.t 16) (.seq (.reg 5 r25_5) .ret) (.seq (.reg 6 r25_6) (.cond (.t 23) (.seq (.reg 7 r25_7) .ret) .skip))))) (.seq (.reg 8 r25_8) .ret))))) σ st Q :=
  W.seq (W.reg0 rfl fun _ _ => s_mvS rfl (s_mvI rfl (s_nil (W.seq (W.seq (W.reg0 rfl fun _ _ => s_mvS H0 (s_lenS rfl (s_bin rfl rfl (abin_gtr _ _ _) (s_nil (c_split rfl (fun g'1 => W.seq (W.reg0 rfl fun _ _ => s_mvS rfl (s_mvI rfl (s_nil (W.ret (hQ _ _   _ _ rfl rfl  (h.1 g'1))))))) (fun g'1 => W.skip (W.seq (W.reg0 rfl fun _ _ => s_mvS H0 ((h.2 g'1).elim fun r'2 e'9 => e'9.elim fun r'3 e'10 => e'10.elim fun r'4 e'5 => s_call (sc rfl rfl sn) e'5.1 (s_mvT rfl (s_ext rfl rfl (s_ext rfl rfl (s_ext rfl rfl (s_mvS rfl (s_mvS rfl (s_mvB rfl (s_nil (W.seq (W.block (W.seq (W.reg0 rfl fun _ _ => s_mvB rfl (s_not rfl (s_mvB rfl (s_emb (g := 19) rfl (fun g'6 => s_gn (b := true) rfl rfl (s_gn (b := true) rfl rfl (s_pickTB rfl rfl (s_mvB rfl (s_nil (c_tt rfl (W.seq (W.reg0 rfl fun _ _ => s_mvS rfl (s_mvI rfl (s_nil (W.ret (hQ _ _   _ _ rfl rfl  (e'5.2.1 g'6))))))))))))) (fun g'6 => s_gy rfl (s_mvS rfl (s_gy rfl (s_bin rfl rfl (abin_sne _ _) (s_pickFB rfl rfl (s_mvB rfl (s_nil (c_split rfl (fun g'7 => W.seq (W.reg0 rfl fun _ _ => s_mvS rfl (s_mvI rfl (s_nil (W.ret (hQ _ _   _ _ rfl rfl  ((e'5.2.2 g'6).1 g'7))))))) (fun g'7 => W.seq (W.reg0 rfl fun _ _ => s_mvS rfl (s_lenS rfl (s_bin rfl rfl (abin_gtr _ _ _) (s_mvB rfl (s_nil (c_split rfl (fun g'8 => W.seq (W.reg0 rfl fun _ _ => s_mvS rfl (s_mvI rfl (s_nil (W.ret (hQ _ _   _ _ rfl rfl  (((e'5.2.2 g'6).2 g'7).1 g'8))))))) (fun g'8 => W.skip (W.seq (W.reg0 rfl fun _ _ => s_mvS rfl (s_mvS rfl (s_mvI rfl (s_nil (W.ret (hQ _ _   _ _ rfl rfl  (((e'5.2.2 g'6).2 g'7).2 g'8)))))))))))))))))))))))))))))))))))))))))))))))))))))
theorem p25 {prog : Prog} (hf : prog.fn 25 = some pf25) {s0 : List UInt8} {K : List UInt8 → Int → Prop} (h : T25_0 prog K s0) : ∃ x0 : List UInt8, ∃ x1 : Int, K x0 x1 ∧ Pus prog 25 [.s s0] (.tup [.s x0, .i .i64 x1]) := by
  obtain ⟨v, hv, x0, x1, hk, rfl⟩ := Pus.of (K := fun v => ∃ x0 : List UInt8, ∃ x1 : Int, K x0 x1 ∧ v = .tup [.s x0, .i .i64 x1]) hf rfl (w25_0 (σ := sl0 [.s s0]) (fun σ st   x0 x1 H2 H3 hk => ⟨.tup [.s x0, .i .i64 x1], by simp only [pf25, ares, aresL, H2, H3, ares1, Option.map_some], _, rfl, x0, x1, hk, rfl⟩) rfl h)
  exact ⟨x0, x1, hk, hv⟩

/-! wreckage/text.Unlist -/
def r27_0 : List AI := [⟨(some 2), .mv (.c (.sl .full [])), none⟩,
  ⟨(some 3), .mv (.c (.i .i64 0)), none⟩]
def r27_1 : List AI := [⟨(some 8), .mv (.t 0), none⟩,
  ⟨(some 9), .len true (.t 8), none⟩,
  ⟨(some 10), .bin .gtr (.t 9) (.c (.i .i64 200000)), none⟩]
def r27_2 : List AI := [⟨(some 2), .mv (.c (.sl .full [])), none⟩,
  ⟨(some 3), .mv (.c (.i .i64 4)), none⟩]
def r27_3 : List AI := [⟨(some 11), .mv (.t 0), none⟩,
  ⟨(some 12), .bin .eql (.t 11) (.c (.s [91, 93])), none⟩]
def r27_4 : List AI := [⟨(some 2), .mv (.c (.sl .full [])), none⟩,
  ⟨(some 3), .mv (.c (.i .i64 0)), none⟩]
def r27_5 : List AI := [⟨(some 4), .mv (.c (.sl .full [])), none⟩]
def r27_6 : List AI := [⟨(some 14), .mv (.t 0), none⟩,
  ⟨(some 15), .call false 36 [(.t 14), (.c (.s [91]))], none⟩,
  ⟨(some 13), .mv (.t 15), none⟩,
  ⟨(some 16), .ext 0 (.t 13), none⟩,
  ⟨(some 17), .ext 1 (.t 13), none⟩,
  ⟨(some 5), .mv (.t 16), none⟩,
  ⟨(some 6), .mv (.t 17), none⟩]
def r27_7 : List AI := [⟨(some 18), .mv (.t 6), none⟩]
def r27_8 : List AI := [⟨(some 7), .mv (.c (.s [])), none⟩]
def r27_9 : List AI := [⟨(some 20), .mv (.t 5), none⟩,
  ⟨(some 21), .call false 39 [(.t 20)], none⟩,
  ⟨(some 19), .mv (.t 21), none⟩,
  ⟨(some 22), .ext 0 (.t 19), none⟩,
  ⟨(some 23), .ext 1 (.t 19), none⟩,
  ⟨(some 24), .ext 2 (.t 19), none⟩,
  ⟨(some 7), .mv (.t 22), none⟩,
  ⟨(some 5), .mv (.t 23), none⟩,
  ⟨(some 6), .mv (.t 24), none⟩]
def r27_10 : List AI := [⟨(some 25), .mv (.t 6), none⟩,
  ⟨(some 26), .un .not (.t 25), none⟩]
def r27_11 : List AI := [⟨(some 27), .mv (.t 4), none⟩,
  ⟨(some 28), .mv (.t 7), none⟩,
  ⟨(some 29), .bslice [.s []] 1 [(0, (.t 28))], none⟩,
  ⟨(some 30), .app 1 16 (.t 27) (.t 29), none⟩,
  ⟨(some 4), .mv (.t 30), none⟩]
def r27_12 : List AI := [⟨(some 31), .mv (.t 5), none⟩,
  ⟨(some 32), .bin .eql (.t 31) (.c (.s [93])), none⟩]
def r27_13 : List AI := [⟨(some 33), .mv (.t 4), none⟩,
  ⟨(some 34), .call false 32 [(.t 33)], none⟩]
def r27_14 : List AI := [⟨(some 2), .mv (.c (.sl .full [])), none⟩,
  ⟨(some 3), .mv (.c (.i .i64 4)), none⟩]
def r27_15 : List AI := [⟨(some 35), .mv (.t 4), none⟩,
  ⟨(some 2), .mv (.t 35), none⟩,
  ⟨(some 3), .mv (.c (.i .i64 0)), none⟩]
def r27_16 : List AI := [⟨(some 37), .mv (.t 5), none⟩,
  ⟨(some 38), .call false 36 [(.t 37), (.c (.s [44, 32]))], none⟩,
  ⟨(some 36), .mv (.t 38), none⟩,
  ⟨(some 39), .ext 0 (.t 36), none⟩,
  ⟨(some 40), .ext 1 (.t 36), none⟩,
  ⟨(some 5), .mv (.t 39), none⟩,
  ⟨(some 6), .mv (.t 40), none⟩]
def r27_17 : List AI := [⟨(some 2), .mv (.c (.sl .full [])), none⟩,
  ⟨(some 3), .mv (.c (.i .i64 12)), none⟩]
abbrev l27_0 : AC := (.seq (.seq (.reg 7 r27_7) (.cond (.t 18) .skip (.exit 0))) (.block 1 (.seq (.reg 8 r27_8) (.seq (.seq (.reg 9 r27_9) (.seq (.reg 10 r27_10) (.cond (.t 26) (.exit 0) .skip))) (.seq (.reg 11 r27_11) (.seq (.seq (.reg 12 r27_12) (.cond (.t 32) (.seq (.seq (.reg 13 r27_13) (.cond (.t 34) (.seq (.reg 14 r27_14) .ret) .skip)) (.seq (.reg 15 r27_15) .ret)) .skip)) (.reg 16 r27_16)))))))
abbrev c27_1 : AC := (.seq (.reg 17 r27_17) .ret)
abbrev b27 : AC := (.seq (.reg 0 r27_0) (.seq (.seq (.reg 1 r27_1) (.cond (.t 10) (.seq (.reg 2 r27_2) .ret) .skip)) (.seq (.seq (.reg 3 r27_3) (.cond (.t 12) (.seq (.reg 4 r27_4) .ret) .skip)) (.seq (.reg 5 r27_5) (.seq (.reg 6 r27_6) (.seq (.block 0 (.loop l27_0)) c27_1))))))
def pf27 : AF := { nt := 41, res := [.tmp 2, .tmp 3], body := b27 }
abbrev I27_0 (prog : Prog) (d : Nat) (Q : AE → Sl → St → Prop) (l4 : List (List UInt8)) (rest5 : List UInt8) (is6 : Bool) : Prop :=
  ∀ (σ : Sl) (st : St) (o_l4 : Own), σ 4 = .sl o_l4 (List.map rowS l4) → σ 5 = .s rest5 → σ 6 = .b is6 → ApM d st.ow o_l4 l4.length → W prog d (.loop l27_0) σ st (blockW 0 (thenW prog d c27_1 Q))
def T27_2 (prog : Prog) (K : List (List UInt8) → Int → Prop)  : Prop :=
  K ([] : List (List UInt8)) 12
theorem w27_2 {prog : Prog} {d : Nat} {Q : AE → Sl → St → Prop} {K : List (List UInt8) → Int → Prop} (hQ : ∀ (σ : Sl) (st : St) (o0 : Own) (x0 : List (List UInt8)) (x1 : Int), σ 2 = .sl o0 (List.map rowS x0) → σ 3 = .i .i64 x1 → K x0 x1 → Q .ret σ st)    {σ : Sl} {st : St}  (h : T27_2 prog K ) : W prog d c27_1 σ st Q :=
  W.seq (W.reg0 rfl fun _ _ => s_mvL (f := rowS) (l := []) rfl (s_mvI rfl (s_nil (W.ret (hQ _ _  _ _ _ rfl rfl  h)))))
def T27_1 (prog : Prog) (K : List (List UInt8) → Int → Prop) (P0 : List (List UInt8) → List UInt8 → Bool → Prop) (l4 : List (List UInt8)) (rest5 : List UInt8) (is6 : Bool) : Prop :=
  (is6 = true → ∃ r'2 : List UInt8, ∃ r'3 : List UInt8, ∃ r'4 : Bool, Pus prog 39 [.s rest5] (.tup [.s r'2, .s r'3, .b r'4]) ∧ ((!r'4) = true → T27_2 prog K ) ∧ ((!r'4) = false → Fit (l4.length + [r'2].length) 16 ∧ (r'3 = ([93] : List UInt8) → ∃ r'13 : Bool, Pus prog 32 [.sl .ext (List.map rowS (l4 ++ [r'2]))] (.b r'13) ∧ (r'13 = true → K ([] : List (List UInt8)) 4) ∧ (r'13 = false → K (l4 ++ [r'2]) 0)) ∧ (¬(r'3 = ([93] : List UInt8)) → ∃ r'16 : List UInt8, ∃ r'17 : Bool, Pus prog 36 [.s r'3, .s ([44, 32] : List UInt8)] (.tup [.s r'16, .b r'17]) ∧ P0 (l4 ++ [r'2]) r'16 r'17))) ∧ (is6 = false → T27_2 prog K )
theorem w27_1 {prog : Prog} {d : Nat} {Q : AE → Sl → St → Prop} {K : List (List UInt8) → Int → Prop} (hQ : ∀ (σ : Sl) (st : St) (o0 : Own) (x0 : List (List UInt8)) (x1 : Int), σ 2 = .sl o0 (List.map rowS x0) → σ 3 = .i .i64 x1 → K x0 x1 → Q .ret σ st) {l4 : List (List UInt8)} {rest5 : List UInt8} {is6 : Bool} {P0 : List (List UInt8) → List UInt8 → Bool → Prop} (kP0 : ∀ (l4 : List (List UInt8)) (rest5 : List UInt8) (is6 : Bool), P0 l4 rest5 is6 → I27_0 prog d Q  l4 rest5 is6) {σ : Sl} {st : St} {o_l4 : Own} (H4 : σ 4 = .sl o_l4 (List.map rowS l4)) (H5 : σ 5 = .s rest5) (H6 : σ 6 = .b is6) (A4 : ApM d st.ow o_l4 l4.length) (h : T27_1 prog K P0 l4 rest5 is6) : W prog d l27_0 σ st (thenW prog d (.loop l27_0) (blockW 0 (thenW prog d c27_1 Q))) :=
  W.seq (W.seq (W.reg0 rfl fun _ _ => s_mvB H6 (s_nil (c_bool rfl (fun g'1 => W.skip (W.block (W.seq (W.reg0 rfl fun _ _ => s_mvS rfl (s_nil (W.seq (W.seq (W.reg0 rfl fun _ _ => s_mvS H5 ((h.1 g'1).elim fun r'2 e'20 => e'20.elim fun r'3 e'21 => e'21.elim fun r'4 e'5 => s_call (sc rfl rfl sn) e'5.1 (s_mvT rfl (s_ext rfl rfl (s_ext rfl rfl (s_ext rfl rfl (s_mvS rfl (s_mvS rfl (s_mvB rfl (s_nil (W.seq (W.reg0 rfl fun _ _ => s_mvB rfl (s_not rfl (s_nil (c_bool rfl (fun g'6 => W.exit (w27_2  hQ   (e'5.2.1 g'6))) (fun g'6 => W.skip (W.seq (W.reg0 rfl fun _ _ => s_mvL H4 (s_mvS rfl (s_bslM (f := rowS) (l := [r'2]) rfl rfl (g_cons rfl rfl rfl g_nil) rfl (s_app rowS_len rfl rfl rfl A4.1 (e'5.2.2 g'6).1 rfl (fun o'7 ow'10 a'8 fr'9 on'11 => s_mvL rfl (s_nil (W.seq (W.seq (W.reg0 rfl fun _ _ => s_mvS rfl (s_bin rfl rfl (abin_seq _ _) (s_nil (c_split rfl (fun g'12 => W.seq (W.seq (W.reg0 rfl fun _ _ => s_mvL rfl (((e'5.2.2 g'6).2.1 g'12).elim fun r'13 e'14 => s_call (sc rfl rfl sn) e'14.1 (s_nil (c_bool rfl (fun g'15 => W.seq (W.reg0 rfl fun _ _ => s_mvL (f := rowS) (l := []) rfl (s_mvI rfl (s_nil (W.ret (hQ _ _  _ _ _ rfl rfl  (e'14.2.1 g'15))))))) (fun g'15 => W.skip (W.seq (W.reg0 rfl fun _ _ => s_mvL rfl (s_mvL rfl (s_mvI rfl (s_nil (W.ret (hQ _ _  _ _ _ rfl rfl  (e'14.2.2 g'15))))))))))))))) (fun g'12 => W.skip (W.reg0 rfl fun _ _ => s_mvS rfl (((e'5.2.2 g'6).2.2 g'12).elim fun r'16 e'19 => e'19.elim fun r'17 e'18 => s_call (sc rfl rfl (sc rfl rfl sn)) e'18.1 (s_mvT rfl (s_ext rfl rfl (s_ext rfl rfl (s_mvS rfl (s_mvB rfl (s_nil (kP0 _ _ _ e'18.2 _ _ _ rfl rfl rfl (ApM.mk a'8 (Mine.app A4.2 rfl on'11)))))))))))))))))))))))))))))))))))))))))))))))) (fun g'1 => W.exit (w27_2  hQ   (h.2 g'1)))))))
def T27_0 (prog : Prog) (K : List (List UInt8) → Int → Prop) (s0 : List UInt8) : Prop :=
  ((s0.length : Int) > 200000 → K ([] : List (List UInt8)) 4) ∧ (¬((s0.length : Int) > 200000) → (s0 = ([91, 93] : List UInt8) → K ([] : List (List UInt8)) 0) ∧ (¬(s0 = ([91, 93] : List UInt8)) → ∃ r'3 : List UInt8, ∃ r'4 : Bool, Pus prog 36 [.s s0, .s ([91] : List UInt8)] (.tup [.s r'3, .b r'4]) ∧ ∀ P0 : List (List UInt8) → List UInt8 → Bool → Prop, (∀ (l4 : List (List UInt8)) (rest5 : List UInt8) (is6 : Bool), T27_1 prog K P0 l4 rest5 is6 → P0 l4 rest5 is6) → P0 ([] : List (List UInt8)) r'3 r'4))
theorem w27_0 {prog : Prog} {d : Nat} {Q : AE → Sl → St → Prop} {K : List (List UInt8) → Int → Prop} (hQ : ∀ (σ : Sl) (st : St) (o0 : Own) (x0 : List (List UInt8)) (x1 : Int), σ 2 = .sl o0 (List.map rowS x0) → σ 3 = .i .i64 x1 → K x0 x1 → Q .ret σ st) {s0 : List UInt8}   {σ : Sl} {st : St} (H0 : σ 0 = .s s0) (h : T27_0 prog K s0) : W prog d (.seq (.reg 0 r27_0) (.seq (.seq (.reg 1 r27_1) (.cond (.t 10) (.seq (.reg 2 r27_2) .ret) .skip)) (.seq (.seq (.reg 3 r27_3) (.cond (.t 12) (.seq (.reg 4 r27_4) .ret) .skip)) (.seq (.reg 5 r27_5) (.seq (.reg 6 r27_6) (.seq (.block 0 (.loop l27_0)) c27_1)))))) σ st Q :=
  W.seq (W.reg0 rfl fun _ _ => s_mvL (f := rowS) (l := []) rfl (s_mvI rfl (s_nil (W.seq (W.seq (W.reg0 rfl fun _ _ => s_mvS H0 (s_lenS rfl (s_bin rfl rfl (abin_gtr _ _ _) (s_nil (c_split rfl (fun g'1 => W.seq (W.reg0 rfl fun _ _ => s_mvL (f := rowS) (l := []) rfl (s_mvI rfl (s_nil (W.ret (hQ _ _  _ _ _ rfl rfl  (h.1 g'1))))))) (fun g'1 => W.skip (W.seq (W.seq (W.reg0 rfl fun _ _ => s_mvS H0 (s_bin rfl rfl (abin_seq _ _) (s_nil (c_split rfl (fun g'2 => W.seq (W.reg0 rfl fun _ _ => s_mvL (f := rowS) (l := []) rfl (s_mvI rfl (s_nil (W.ret (hQ _ _  _ _ _ rfl rfl  ((h.2 g'1).1 g'2))))))) (fun g'2 => W.skip (W.seq (W.reg0 rfl fun _ _ => s_mvL (f := rowS) (l := []) rfl (s_nil (W.seq (W.reg0 rfl fun _ _ => s_mvS H0 (((h.2 g'1).2 g'2).elim fun r'3 e'6 => e'6.elim fun r'4 e'5 => s_call (sc rfl rfl (sc rfl rfl sn)) e'5.1 (s_mvT rfl (s_ext rfl rfl (s_ext rfl rfl (s_mvS rfl (s_mvB rfl (s_nil (W.seq (W.block (e'5.2 (I27_0 prog d Q ) (fun _ _ _ hb _ _ _ H4 H5 H6 A4 => W.loop (w27_1 hQ (fun _ _ _ x => x) H4 H5 H6 A4 hb)) _ _ _ rfl rfl rfl ApM.full)))))))))))))))))))))))))))))))))
theorem p27 {prog : Prog} (hf : prog.fn 27 = some pf27) {s0 : List UInt8} {K : List (List UInt8) → Int → Prop} (h : T27_0 prog K s0) : ∃ x0 : List (List UInt8), ∃ x1 : Int, K x0 x1 ∧ Pus prog 27 [.s s0] (.tup [.sl .ext (List.map rowS x0), .i .i64 x1]) := by
  obtain ⟨v, hv, x0, x1, hk, rfl⟩ := Pus.of (K := fun v => ∃ x0 : List (List UInt8), ∃ x1 : Int, K x0 x1 ∧ v = .tup [.sl .ext (List.map rowS x0), .i .i64 x1]) hf rfl (w27_0 (σ := sl0 [.s s0]) (fun σ st  o0 x0 x1 H2 H3 hk => ⟨.tup [.sl o0 (List.map rowS x0), .i .i64 x1], by simp only [pf27, ares, aresL, H2, H3, ares1, Option.map_some], _, rfl, x0, x1, hk, rfl⟩) rfl h)
  exact ⟨x0, x1, hk, hv⟩

/-! wreckage/text.quoted -/
def r30_0 : List AI := [⟨(some 4), .mv (.c (.sl .full [])), none⟩]
def r30_1 : List AI := [⟨(some 7), .mv (.t 0), none⟩,
  ⟨(some 8), .bslice [.i .u8 0] 1 [(0, (.c (.i .u8 34)))], none⟩,
  ⟨(some 9), .app 1 1 (.t 7) (.t 8), none⟩,
  ⟨(some 0), .mv (.t 9), none⟩]
def r30_2 : List AI := [⟨(some 10), .mv (.t 1), none⟩,
  ⟨(some 11), .len true (.t 10), none⟩,
  ⟨(some 12), .mv (.c (.i .i64 0)), none⟩]
def r30_3 : List AI := [⟨(some 13), .bin .lss (.t 12) (.t 11), none⟩]
def r30_4 : List AI := [⟨(some 14), .mv (.t 12), none⟩,
  ⟨(some 5), .mv (.t 14), none⟩]
def r30_5 : List AI := [⟨(some 15), .mv (.t 1), none⟩,
  ⟨(some 16), .mv (.t 5), none⟩,
  ⟨(some 17), .ixS (.t 15) (.t 16), none⟩,
  ⟨(some 6), .mv (.t 17), none⟩]
def r30_6 : List AI := [⟨(some 23), .mv (.t 6), none⟩,
  ⟨(some 24), .bin .eql (.t 23) (.c (.i .u8 34)), none⟩,
  ⟨(some 25), .mv (.t 24), none⟩,
  ⟨(some 26), .mv (.t 6), (some (25, false))⟩,
  ⟨(some 27), .bin .eql (.t 26) (.c (.i .u8 92)), (some (25, false))⟩,
  ⟨(some 28), .pick (.t 25) (.c (.b true)) (.t 27), none⟩,
  ⟨(some 22), .mv (.t 28), none⟩]
def r30_7 : List AI := [⟨(some 29), .mv (.t 0), none⟩,
  ⟨(some 30), .mv (.t 6), none⟩,
  ⟨(some 31), .bslice [.i .u8 0] 2 [(0, (.c (.i .u8 92))), (1, (.t 30))], none⟩,
  ⟨(some 32), .app 1 1 (.t 29) (.t 31), none⟩,
  ⟨(some 0), .mv (.t 32), none⟩]
def r30_8 : List AI := [⟨(some 34), .mv (.t 6), none⟩,
  ⟨(some 35), .bin .eql (.t 34) (.c (.i .u8 10)), none⟩,
  ⟨(some 33), .mv (.t 35), none⟩]
def r30_9 : List AI := [⟨(some 36), .mv (.t 0), none⟩,
  ⟨(some 37), .bslice [.i .u8 0] 2 [(0, (.c (.i .u8 92))), (1, (.c (.i .u8 110)))], none⟩,
  ⟨(some 38), .app 1 1 (.t 36) (.t 37), none⟩,
  ⟨(some 0), .mv (.t 38), none⟩]
def r30_10 : List AI := [⟨(some 40), .mv (.t 6), none⟩,
  ⟨(some 41), .bin .lss (.t 40) (.c (.i .u8 32)), none⟩,
  ⟨(some 42), .mv (.t 41), none⟩,
  ⟨(some 43), .mv (.t 6), (some (42, false))⟩,
  ⟨(some 44), .bin .gtr (.t 43) (.c (.i .u8 126)), (some (42, false))⟩,
  ⟨(some 45), .pick (.t 42) (.c (.b true)) (.t 44), none⟩,
  ⟨(some 39), .mv (.t 45), none⟩]
def r30_11 : List AI := [⟨(some 46), .mv (.t 0), none⟩,
  ⟨(some 47), .mv (.t 6), none⟩,
  ⟨(some 48), .bin .shr (.t 47) (.c (.i .u64 4)), none⟩,
  ⟨(some 49), .ixS (.c (.s [48, 49, 50, 51, 52, 53, 54, 55, 56, 57, 97, 98, 99, 100, 101, 102])) (.t 48), none⟩,
  ⟨(some 50), .mv (.t 6), none⟩,
  ⟨(some 51), .bin .and (.t 50) (.c (.i .u8 15)), none⟩,
  ⟨(some 52), .ixS (.c (.s [48, 49, 50, 51, 52, 53, 54, 55, 56, 57, 97, 98, 99, 100, 101, 102])) (.t 51), none⟩,
  ⟨(some 53), .bslice [.i .u8 0] 4 [(0, (.c (.i .u8 92))), (1, (.c (.i .u8 120))), (2, (.t 49)), (3, (.t 52))], none⟩,
  ⟨(some 54), .app 1 1 (.t 46) (.t 53), none⟩,
  ⟨(some 0), .mv (.t 54), none⟩]
def r30_12 : List AI := [⟨(some 18), .mv (.t 0), none⟩,
  ⟨(some 19), .mv (.t 6), none⟩,
  ⟨(some 20), .bslice [.i .u8 0] 1 [(0, (.t 19))], none⟩,
  ⟨(some 21), .app 1 1 (.t 18) (.t 20), none⟩,
  ⟨(some 0), .mv (.t 21), none⟩]
def r30_13 : List AI := [⟨(some 55), .bin .add (.t 12) (.c (.i .i64 1)), none⟩,
  ⟨(some 12), .mv (.t 55), none⟩]
def r30_14 : List AI := [⟨(some 56), .mv (.t 0), none⟩,
  ⟨(some 57), .bslice [.i .u8 0] 1 [(0, (.c (.i .u8 34)))], none⟩,
  ⟨(some 58), .app 1 1 (.t 56) (.t 57), none⟩,
  ⟨(some 4), .mv (.t 58), none⟩]
abbrev c30_0 : AC := (.reg 13 r30_13)
abbrev l30_0 : AC := (.seq (.reg 3 r30_3) (.seq (.cond (.t 13) .skip (.exit 0)) (.seq (.block 1 (.seq (.reg 4 r30_4) (.seq (.reg 5 r30_5) (.block 2 (.seq (.reg 7 r30_6) (.cond (.t 22) (.reg 8 r30_7) (.seq (.reg 9 r30_8) (.cond (.t 33) (.reg 10 r30_9) (.seq (.reg 11 r30_10) (.cond (.t 39) (.reg 12 r30_11) (.reg 6 r30_12))))))))))) c30_0)))
abbrev c30_2 : AC := (.seq (.reg 14 r30_14) .ret)
abbrev c30_3 : AC := (.seq (.reg 1 r30_1) (.seq (.seq (.reg 2 r30_2) (.block 0 (.loop l30_0))) c30_2))
abbrev b30 : AC := (.seq (.reg 0 r30_0) c30_3)
def pf30 : AF := { nt := 59, res := [.tmp 4], body := b30 }
abbrev I30_0 (prog : Prog) (d : Nat) (Q : AE → Sl → St → Prop) (s1 : List UInt8) (t11 : Int) (b0 : List UInt8) (t12 : Int) : Prop :=
  ∀ (σ : Sl) (st : St) (o_b0 : Own), σ 0 = .sl o_b0 (List.map row8 b0) → σ 1 = .s s1 → σ 11 = .i .i64 t11 → σ 12 = .i .i64 t12 → App st.ow o_b0 b0.length → W prog d (.loop l30_0) σ st (blockW 0 (thenW prog d c30_2 Q))
def T30_3 (prog : Prog) (K : List UInt8 → Prop) (P0 : List UInt8 → Int → Prop) (b0 : List UInt8) (s1 : List UInt8) (t11 : Int) (t12 : Int) : Prop :=
  P0 b0 (IntKind.i64.wrap (t12 + 1))
theorem w30_3 {prog : Prog} {d : Nat} {Q : AE → Sl → St → Prop} {K : List UInt8 → Prop} (hQ : ∀ (σ : Sl) (st : St) (o0 : Own) (x0 : List UInt8), σ 4 = .sl o0 (List.map row8 x0) → App st.ow o0 x0.length → K x0 → Q .ret σ st) {b0 : List UInt8} {s1 : List UInt8} {t11 : Int} {t12 : Int} {P0 : List UInt8 → Int → Prop} (kP0 : ∀ (b0 : List UInt8) (t12 : Int), P0 b0 t12 → I30_0 prog d Q s1 t11 b0 t12) {σ : Sl} {st : St} {o_b0 : Own} (H0 : σ 0 = .sl o_b0 (List.map row8 b0)) (H1 : σ 1 = .s s1) (H11 : σ 11 = .i .i64 t11) (H12 : σ 12 = .i .i64 t12) (A0 : App st.ow o_b0 b0.length) (h : T30_3 prog K P0 b0 s1 t11 t12) : W prog d c30_0 σ st (thenW prog d (.loop l30_0) (blockW 0 (thenW prog d c30_2 Q))) :=
  W.reg0 rfl fun _ _ => s_bin H12 rfl (abin_add _ _ _) (s_mvI rfl (s_nil (kP0 _ _ h _ _ _ H0 H1 H11 rfl A0)))
def T30_4 (prog : Prog) (K : List UInt8 → Prop) (b0 : List UInt8) : Prop :=
  Fit (b0.length + [(34 : UInt8)].length) 1 ∧ K (b0 ++ [(34 : UInt8)])
theorem w30_4 {prog : Prog} {d : Nat} {Q : AE → Sl → St → Prop} {K : List UInt8 → Prop} (hQ : ∀ (σ : Sl) (st : St) (o0 : Own) (x0 : List UInt8), σ 4 = .sl o0 (List.map row8 x0) → App st.ow o0 x0.length → K x0 → Q .ret σ st) {b0 : List UInt8}   {σ : Sl} {st : St} {o_b0 : Own} (H0 : σ 0 = .sl o_b0 (List.map row8 b0)) (A0 : App st.ow o_b0 b0.length) (h : T30_4 prog K b0) : W prog d c30_2 σ st Q :=
  W.seq (W.reg0 rfl fun _ _ => s_mvL H0 (s_bslM (f := row8) (l := [(34 : UInt8)]) rfl rfl (g_cons rfl rfl rfl g_nil) rfl (s_app row8_len rfl rfl rfl A0 h.1 rfl (fun o'1 ow'4 a'2 fr'3 on'5 => s_mvL rfl (s_nil (W.ret (hQ _ _  _ _ rfl a'2 h.2)))))))
def T30_2 (prog : Prog) (K : List UInt8 → Prop) (P0 : List UInt8 → Int → Prop) (b0 : List UInt8) (s1 : List UInt8) (t11 : Int) (t12 : Int) : Prop :=
  (t12 < t11 → 0 ≤ t12 ∧ ∃ c'2 : UInt8, s1[(t12).toNat]? = some c'2 ∧ ((c'2.toNat : Int) = 34 → Fit (b0.length + [(92 : UInt8), c'2].length) 1 ∧ T30_3 prog K P0 (b0 ++ [(92 : UInt8), c'2]) s1 t11 t12) ∧ (¬((c'2.toNat : Int) = 34) → ((c'2.toNat : Int) = 92 → Fit (b0.length + [(92 : UInt8), c'2].length) 1 ∧ T30_3 prog K P0 (b0 ++ [(92 : UInt8), c'2]) s1 t11 t12) ∧ (¬((c'2.toNat : Int) = 92) → ((c'2.toNat : Int) = 10 → Fit (b0.length + [(92 : UInt8), (110 : UInt8)].length) 1 ∧ T30_3 prog K P0 (b0 ++ [(92 : UInt8), (110 : UInt8)]) s1 t11 t12) ∧ (¬((c'2.toNat : Int) = 10) → ((c'2.toNat : Int) < 32 → 0 ≤ (bShr .u8 (c'2.toNat : Int) 4) ∧ ∃ c'23 : UInt8, ([48, 49, 50, 51, 52, 53, 54, 55, 56, 57, 97, 98, 99, 100, 101, 102] : List UInt8)[(bShr .u8 (c'2.toNat : Int) 4).toNat]? = some c'23 ∧ 0 ≤ (bAnd .u8 (c'2.toNat : Int) 15) ∧ ∃ c'25 : UInt8, ([48, 49, 50, 51, 52, 53, 54, 55, 56, 57, 97, 98, 99, 100, 101, 102] : List UInt8)[(bAnd .u8 (c'2.toNat : Int) 15).toNat]? = some c'25 ∧ Fit (b0.length + [(92 : UInt8), (120 : UInt8), c'23, c'25].length) 1 ∧ T30_3 prog K P0 (b0 ++ [(92 : UInt8), (120 : UInt8), c'23, c'25]) s1 t11 t12) ∧ (¬((c'2.toNat : Int) < 32) → ((c'2.toNat : Int) > 126 → 0 ≤ (bShr .u8 (c'2.toNat : Int) 4) ∧ ∃ c'33 : UInt8, ([48, 49, 50, 51, 52, 53, 54, 55, 56, 57, 97, 98, 99, 100, 101, 102] : List UInt8)[(bShr .u8 (c'2.toNat : Int) 4).toNat]? = some c'33 ∧ 0 ≤ (bAnd .u8 (c'2.toNat : Int) 15) ∧ ∃ c'35 : UInt8, ([48, 49, 50, 51, 52, 53, 54, 55, 56, 57, 97, 98, 99, 100, 101, 102] : List UInt8)[(bAnd .u8 (c'2.toNat : Int) 15).toNat]? = some c'35 ∧ Fit (b0.length + [(92 : UInt8), (120 : UInt8), c'33, c'35].length) 1 ∧ T30_3 prog K P0 (b0 ++ [(92 : UInt8), (120 : UInt8), c'33, c'35]) s1 t11 t12) ∧ (¬((c'2.toNat : Int) > 126) → Fit (b0.length + [c'2].length) 1 ∧ T30_3 prog K P0 (b0 ++ [c'2]) s1 t11 t12)))))) ∧ (¬(t12 < t11) → T30_4 prog K b0)
theorem w30_2 {prog : Prog} {d : Nat} {Q : AE → Sl → St → Prop} {K : List UInt8 → Prop} (hQ : ∀ (σ : Sl) (st : St) (o0 : Own) (x0 : List UInt8), σ 4 = .sl o0 (List.map row8 x0) → App st.ow o0 x0.length → K x0 → Q .ret σ st) {b0 : List UInt8} {s1 : List UInt8} {t11 : Int} {t12 : Int} {P0 : List UInt8 → Int → Prop} (kP0 : ∀ (b0 : List UInt8) (t12 : Int), P0 b0 t12 → I30_0 prog d Q s1 t11 b0 t12) {σ : Sl} {st : St} {o_b0 : Own} (H0 : σ 0 = .sl o_b0 (List.map row8 b0)) (H1 : σ 1 = .s s1) (H11 : σ 11 = .i .i64 t11) (H12 : σ 12 = .i .i64 t12) (A0 : App st.ow o_b0 b0.length) (h : T30_2 prog K P0 b0 s1 t11 t12) : W prog d l30_0 σ st (thenW prog d (.loop l30_0) (blockW 0 (thenW prog d c30_2 Q))) :=
  W.seq (W.reg0 rfl fun _ _ => s_bin H12 H11 (abin_lss _ _ _) (s_nil (W.seq (c_split rfl (fun g'1 => W.skip (W.seq (W.block (W.seq (W.reg0 rfl fun _ _ => s_mvI H12 (s_mvI rfl (s_nil (W.seq (W.reg0 rfl fun _ _ => s_mvS H1 (s_mvI rfl ((h.1 g'1).2.elim fun c'2 e'3 => s_ixS rfl rfl (h.1 g'1).1 e'3.1 (s_mvI rfl (s_nil (W.block (W.seq (W.reg0 rfl fun _ _ => s_mvI rfl (s_bin rfl rfl (abin_eql _ _ _) (s_mvB rfl (s_em (g := 25) rfl (fun g'4 => s_gn (b := true) rfl rfl (s_gn (b := true) rfl rfl (s_pickTB rfl rfl (s_mvB rfl (s_nil (c_tt rfl (W.reg0 rfl fun _ _ => s_mvL H0 (s_mvI rfl (s_bslM (f := row8) (l := [(92 : UInt8), c'2]) rfl rfl (g_cons rfl rfl rfl (g_cons rfl rfl rfl g_nil)) rfl (s_app row8_len rfl rfl rfl A0 (e'3.2.1 g'4).1 rfl (fun o'5 ow'8 a'6 fr'7 on'9 => s_mvL rfl (s_nil (w30_3  hQ kP0 rfl H1 H11 H12 a'6 (e'3.2.1 g'4).2))))))))))))) (fun g'4 => s_gy rfl (s_mvI rfl (s_gy rfl (s_bin rfl rfl (abin_eql _ _ _) (s_pickFB rfl rfl (s_mvB rfl (s_nil (c_split rfl (fun g'10 => W.reg0 rfl fun _ _ => s_mvL H0 (s_mvI rfl (s_bslM (f := row8) (l := [(92 : UInt8), c'2]) rfl rfl (g_cons rfl rfl rfl (g_cons rfl rfl rfl g_nil)) rfl (s_app row8_len rfl rfl rfl A0 ((e'3.2.2 g'4).1 g'10).1 rfl (fun o'11 ow'14 a'12 fr'13 on'15 => s_mvL rfl (s_nil (w30_3  hQ kP0 rfl H1 H11 H12 a'12 ((e'3.2.2 g'4).1 g'10).2))))))) (fun g'10 => W.seq (W.reg0 rfl fun _ _ => s_mvI rfl (s_bin rfl rfl (abin_eql _ _ _) (s_mvB rfl (s_nil (c_split rfl (fun g'16 => W.reg0 rfl fun _ _ => s_mvL H0 (s_bslM (f := row8) (l := [(92 : UInt8), (110 : UInt8)]) rfl rfl (g_cons rfl rfl rfl (g_cons rfl rfl rfl g_nil)) rfl (s_app row8_len rfl rfl rfl A0 (((e'3.2.2 g'4).2 g'10).1 g'16).1 rfl (fun o'17 ow'20 a'18 fr'19 on'21 => s_mvL rfl (s_nil (w30_3  hQ kP0 rfl H1 H11 H12 a'18 (((e'3.2.2 g'4).2 g'10).1 g'16).2)))))) (fun g'16 => W.seq (W.reg0 rfl fun _ _ => s_mvI rfl (s_bin rfl rfl (abin_lss _ _ _) (s_mvB rfl (s_em (g := 42) rfl (fun g'22 => s_gn (b := true) rfl rfl (s_gn (b := true) rfl rfl (s_pickTB rfl rfl (s_mvB rfl (s_nil (c_tt rfl (W.reg0 rfl fun _ _ => s_mvL H0 (s_mvI rfl (s_bin rfl rfl (abin_shr' (by decide)) (((((e'3.2.2 g'4).2 g'10).2 g'16).1 g'22).2.elim fun c'23 e'24 => s_ixS rfl rfl ((((e'3.2.2 g'4).2 g'10).2 g'16).1 g'22).1 e'24.1 (s_mvI rfl (s_bin rfl rfl (abin_and _ _ _) (e'24.2.2.elim fun c'25 e'26 => s_ixS rfl rfl e'24.2.1 e'26.1 (s_bslM (f := row8) (l := [(92 : UInt8), (120 : UInt8), c'23, c'25]) rfl rfl (g_cons rfl rfl rfl (g_cons rfl rfl rfl (g_cons rfl rfl rfl (g_cons rfl rfl rfl g_nil)))) rfl (s_app row8_len rfl rfl rfl A0 e'26.2.1 rfl (fun o'27 ow'30 a'28 fr'29 on'31 => s_mvL rfl (s_nil (w30_3  hQ kP0 rfl H1 H11 H12 a'28 e'26.2.2)))))))))))))))))) (fun g'22 => s_gy rfl (s_mvI rfl (s_gy rfl (s_bin rfl rfl (abin_gtr _ _ _) (s_pickFB rfl rfl (s_mvB rfl (s_nil (c_split rfl (fun g'32 => W.reg0 rfl fun _ _ => s_mvL H0 (s_mvI rfl (s_bin rfl rfl (abin_shr' (by decide)) ((((((e'3.2.2 g'4).2 g'10).2 g'16).2 g'22).1 g'32).2.elim fun c'33 e'34 => s_ixS rfl rfl (((((e'3.2.2 g'4).2 g'10).2 g'16).2 g'22).1 g'32).1 e'34.1 (s_mvI rfl (s_bin rfl rfl (abin_and _ _ _) (e'34.2.2.elim fun c'35 e'36 => s_ixS rfl rfl e'34.2.1 e'36.1 (s_bslM (f := row8) (l := [(92 : UInt8), (120 : UInt8), c'33, c'35]) rfl rfl (g_cons rfl rfl rfl (g_cons rfl rfl rfl (g_cons rfl rfl rfl (g_cons rfl rfl rfl g_nil)))) rfl (s_app row8_len rfl rfl rfl A0 e'36.2.1 rfl (fun o'37 ow'40 a'38 fr'39 on'41 => s_mvL rfl (s_nil (w30_3  hQ kP0 rfl H1 H11 H12 a'38 e'36.2.2)))))))))))) (fun g'32 => W.reg0 rfl fun _ _ => s_mvL H0 (s_mvI rfl (s_bslM (f := row8) (l := [c'2]) rfl rfl (g_cons rfl rfl rfl g_nil) rfl (s_app row8_len rfl rfl rfl A0 (((((e'3.2.2 g'4).2 g'10).2 g'16).2 g'22).2 g'32).1 rfl (fun o'42 ow'45 a'43 fr'44 on'46 => s_mvL rfl (s_nil (w30_3  hQ kP0 rfl H1 H11 H12 a'43 (((((e'3.2.2 g'4).2 g'10).2 g'16).2 g'22).2 g'32).2))))))))))))))))))))))))))))))))))))))))))))))))))))) (fun g'1 => W.exit (w30_4  hQ  H0 A0 (h.2 g'1)))))))
def T30_1 (prog : Prog) (K : List UInt8 → Prop) (b0 : List UInt8) (s1 : List UInt8) : Prop :=
  Fit (b0.length + [(34 : UInt8)].length) 1 ∧ ∀ P0 : List UInt8 → Int → Prop, (∀ (b0 : List UInt8) (t12 : Int), T30_2 prog K P0 b0 s1 (s1.length : Int) t12 → P0 b0 t12) → P0 (b0 ++ [(34 : UInt8)]) 0
theorem w30_1 {prog : Prog} {d : Nat} {Q : AE → Sl → St → Prop} {K : List UInt8 → Prop} (hQ : ∀ (σ : Sl) (st : St) (o0 : Own) (x0 : List UInt8), σ 4 = .sl o0 (List.map row8 x0) → App st.ow o0 x0.length → K x0 → Q .ret σ st) {b0 : List UInt8} {s1 : List UInt8}   {σ : Sl} {st : St} {o_b0 : Own} (H0 : σ 0 = .sl o_b0 (List.map row8 b0)) (H1 : σ 1 = .s s1) (A0 : App st.ow o_b0 b0.length) (h : T30_1 prog K b0 s1) : W prog d c30_3 σ st Q :=
  W.seq (W.reg0 rfl fun _ _ => s_mvL H0 (s_bslM (f := row8) (l := [(34 : UInt8)]) rfl rfl (g_cons rfl rfl rfl g_nil) rfl (s_app row8_len rfl rfl rfl A0 h.1 rfl (fun o'1 ow'4 a'2 fr'3 on'5 => s_mvL rfl (s_nil (W.seq (W.seq (W.reg0 rfl fun _ _ => s_mvS H1 (s_lenS rfl (s_mvI rfl (s_nil (W.block (h.2 (I30_0 prog d Q s1 (s1.length : Int)) (fun _ _ hb _ _ _ H0 H1 H11 H12 A0 => W.loop (w30_2 hQ (fun _ _ x => x) H0 H1 H11 H12 A0 hb)) _ _ _ rfl H1 rfl rfl a'2)))))))))))))
def T30_0 (prog : Prog) (K : List UInt8 → Prop) (b0 : List UInt8) (s1 : List UInt8) : Prop :=
  T30_1 prog K b0 s1
theorem w30_0 {prog : Prog} {d : Nat} {Q : AE → Sl → St → Prop} {K : List UInt8 → Prop} (hQ : ∀ (σ : Sl) (st : St) (o0 : Own) (x0 : List UInt8), σ 4 = .sl o0 (List.map row8 x0) → App st.ow o0 x0.length → K x0 → Q .ret σ st) {b0 : List UInt8} {s1 : List UInt8}   {σ : Sl} {st : St} {o_b0 : Own} (H0 : σ 0 = .sl o_b0 (List.map row8 b0)) (H1 : σ 1 = .s s1) (A0 : App st.ow o_b0 b0.length) (h : T30_0 prog K b0 s1) : W prog d (.seq (.reg 0 r30_0) c30_3) σ st Q :=
  W.seq (W.reg0 rfl fun _ _ => s_mvL (f := row8) (l := []) rfl (s_nil (w30_1  hQ  H0 H1 A0 h)))
theorem p30 {prog : Prog} (hf : prog.fn 30 = some pf30) {b0 : List UInt8} {s1 : List UInt8} {K : List UInt8 → Prop} (h : T30_0 prog K b0 s1) : PuAK prog 30 (List.map row8 b0) [.s s1] fun rows => ∃ x : List UInt8, K x ∧ rows = List.map row8 x :=
  PuAK.of hf rfl fun d st o ha => w30_0 (Q := endW d _ (appK _)) (fun σ st' o' x h2 ha' hk => ⟨.sl o' (List.map row8 x), by simp only [pf30, ares, ares1, h2], _, _, rfl, by simpa using ha', ⟨_, hk, rfl⟩⟩) rfl rfl (by simpa using ha) h

/-! wreckage/text.many -/
def r32_0 : List AI := [⟨(some 2), .mv (.c (.b false)), none⟩]
def r32_1 : List AI := [⟨(some 5), .mv (.t 0), none⟩,
  ⟨(some 6), .len false (.t 5), none⟩,
  ⟨(some 7), .mv (.c (.i .i64 0)), none⟩]
def r32_2 : List AI := [⟨(some 8), .bin .lss (.t 7) (.t 6), none⟩]
def r32_3 : List AI := [⟨(some 9), .iaL 1 (.t 5) (.t 7), none⟩,
  ⟨(some 10), .load 1 false (.t 9), none⟩,
  ⟨(some 4), .mv (.t 10), none⟩]
def r32_4 : List AI := [⟨(some 11), .mv (.t 4), none⟩,
  ⟨(some 12), .len true (.t 11), none⟩,
  ⟨(some 13), .bin .gtr (.t 12) (.c (.i .i64 400)), none⟩]
def r32_5 : List AI := [⟨(some 2), .mv (.c (.b true)), none⟩]
def r32_6 : List AI := [⟨(some 14), .bin .add (.t 7) (.c (.i .i64 1)), none⟩,
  ⟨(some 7), .mv (.t 14), none⟩]
def r32_7 : List AI := [⟨(some 15), .mv (.t 0), none⟩,
  ⟨(some 16), .len false (.t 15), none⟩,
  ⟨(some 17), .bin .gtr (.t 16) (.c (.i .i64 64)), none⟩,
  ⟨(some 2), .mv (.t 17), none⟩]
abbrev l32_0 : AC := (.seq (.reg 2 r32_2) (.seq (.cond (.t 8) .skip (.exit 0)) (.seq (.block 1 (.seq (.reg 3 r32_3) (.seq (.reg 4 r32_4) (.cond (.t 13) (.seq (.reg 5 r32_5) .ret) .skip)))) (.reg 6 r32_6))))
abbrev c32_1 : AC := (.seq (.reg 7 r32_7) .ret)
abbrev b32 : AC := (.seq (.reg 0 r32_0) (.seq (.seq (.reg 1 r32_1) (.block 0 (.loop l32_0))) c32_1))
def pf32 : AF := { nt := 18, res := [.tmp 2], body := b32 }
abbrev I32_0 (prog : Prog) (d : Nat) (Q : AE → Sl → St → Prop) (l0 : List (List UInt8)) (t5 : List (List UInt8)) (t6 : Int) (t7 : Int) : Prop :=
  ∀ (σ : Sl) (st : St) (o_l0 o_t5 : Own), σ 0 = .sl o_l0 (List.map rowS l0) → σ 5 = .sl o_t5 (List.map rowS t5) → σ 6 = .i .i64 t6 → σ 7 = .i .i64 t7 → W prog d (.loop l32_0) σ st (blockW 0 (thenW prog d c32_1 Q))
def T32_2 (prog : Prog) (K : Bool → Prop) (l0 : List (List UInt8)) : Prop :=
  K (decide ((l0.length : Int) > 64))
theorem w32_2 {prog : Prog} {d : Nat} {Q : AE → Sl → St → Prop} {K : Bool → Prop} (hQ : ∀ (σ : Sl) (st : St) (x0 : Bool), σ 2 = .b x0 → K x0 → Q .ret σ st) {l0 : List (List UInt8)}   {σ : Sl} {st : St} {o_l0 : Own} (H0 : σ 0 = .sl o_l0 (List.map rowS l0)) (h : T32_2 prog K l0) : W prog d c32_1 σ st Q :=
  W.seq (W.reg0 rfl fun _ _ => s_mvL H0 (s_lenL rfl (s_bin rfl rfl (abin_gtr _ _ _) (s_mvB rfl (s_nil (W.ret (hQ _ _   _ rfl  h)))))))
def T32_1 (prog : Prog) (K : Bool → Prop) (P0 : Int → Prop) (l0 : List (List UInt8)) (t5 : List (List UInt8)) (t6 : Int) (t7 : Int) : Prop :=
  (t7 < t6 → 0 ≤ t7 ∧ ∃ c'2 : List UInt8, t5[(t7).toNat]? = some c'2 ∧ ((c'2.length : Int) > 400 → K true) ∧ (¬((c'2.length : Int) > 400) → P0 (IntKind.i64.wrap (t7 + 1)))) ∧ (¬(t7 < t6) → T32_2 prog K l0)
theorem w32_1 {prog : Prog} {d : Nat} {Q : AE → Sl → St → Prop} {K : Bool → Prop} (hQ : ∀ (σ : Sl) (st : St) (x0 : Bool), σ 2 = .b x0 → K x0 → Q .ret σ st) {l0 : List (List UInt8)} {t5 : List (List UInt8)} {t6 : Int} {t7 : Int} {P0 : Int → Prop} (kP0 : ∀ (t7 : Int), P0 t7 → I32_0 prog d Q l0 t5 t6 t7) {σ : Sl} {st : St} {o_l0 o_t5 : Own} (H0 : σ 0 = .sl o_l0 (List.map rowS l0)) (H5 : σ 5 = .sl o_t5 (List.map rowS t5)) (H6 : σ 6 = .i .i64 t6) (H7 : σ 7 = .i .i64 t7) (h : T32_1 prog K P0 l0 t5 t6 t7) : W prog d l32_0 σ st (thenW prog d (.loop l32_0) (blockW 0 (thenW prog d c32_1 Q))) :=
  W.seq (W.reg0 rfl fun _ _ => s_bin H7 H6 (abin_lss _ _ _) (s_nil (W.seq (c_split rfl (fun g'1 => W.skip (W.seq (W.block (W.seq (W.reg0 rfl fun _ _ => (h.1 g'1).2.elim fun c'2 e'3 => s_iaL H5 H7 (h.1 g'1).1 e'3.1 rfl rfl (s_loadF rfl rfl rfl (s_mvS rfl (s_nil (W.seq (W.reg0 rfl fun _ _ => s_mvS rfl (s_lenS rfl (s_bin rfl rfl (abin_gtr _ _ _) (s_nil (c_split rfl (fun g'4 => W.seq (W.reg0 rfl fun _ _ => s_mvB rfl (s_nil (W.ret (hQ _ _   _ rfl  (e'3.2.1 g'4)))))) (fun g'4 => W.skip (W.reg0 rfl fun _ _ => s_bin H7 rfl (abin_add _ _ _) (s_mvI rfl (s_nil (kP0 _ (e'3.2.2 g'4) _ _ _ _ H0 H5 H6 rfl))))))))))))))))))) (fun g'1 => W.exit (w32_2  hQ  H0 (h.2 g'1)))))))
def T32_0 (prog : Prog) (K : Bool → Prop) (l0 : List (List UInt8)) : Prop :=
  ∀ P0 : Int → Prop, (∀ (t7 : Int), T32_1 prog K P0 l0 l0 (l0.length : Int) t7 → P0 t7) → P0 0
theorem w32_0 {prog : Prog} {d : Nat} {Q : AE → Sl → St → Prop} {K : Bool → Prop} (hQ : ∀ (σ : Sl) (st : St) (x0 : Bool), σ 2 = .b x0 → K x0 → Q .ret σ st) {l0 : List (List UInt8)}   {σ : Sl} {st : St} {o_l0 : Own} (H0 : σ 0 = .sl o_l0 (List.map rowS l0)) (h : T32_0 prog K l0) : W prog d (.seq (.reg 0 r32_0) (.seq (.seq (.reg 1 r32_1) (.block 0 (.loop l32_0))) c32_1)) σ st Q :=
  W.seq (W.reg0 rfl fun _ _ => s_mvB rfl (s_nil (W.seq (W.seq (W.reg0 rfl fun _ _ => s_mvL H0 (s_lenL rfl (s_mvI rfl (s_nil (W.block (h (I32_0 prog d Q l0 l0 (l0.length : Int)) (fun _ hb _ _ _ _ H0 H5 H6 H7 => W.loop (w32_1 hQ (fun _ x => x) H0 H5 H6 H7 hb)) _ _ _ _ H0 rfl rfl rfl))))))))))
theorem p32 {prog : Prog} (hf : prog.fn 32 = some pf32) {l0 : List (List UInt8)} {K : Bool → Prop} (h : T32_0 prog K l0) : ∃ x0 : Bool, K x0 ∧ Pus prog 32 [.sl .ext (List.map rowS l0)] (.b x0) := by
  obtain ⟨v, hv, x0, hk, rfl⟩ := Pus.of (K := fun v => ∃ x0 : Bool, K x0 ∧ v = .b x0) hf rfl (w32_0 (σ := sl0 [.sl .ext (List.map rowS l0)]) (fun σ st   x0 H2 hk => ⟨.b x0, by simp only [pf32, ares, aresL, H2, ares1, Option.map_some], _, rfl, x0, hk, rfl⟩) rfl h)
  exact ⟨x0, hk, hv⟩

/-! wreckage/text.in -/
def r34_0 : List AI := [⟨(some 4), .mv (.c (.s [])), none⟩]
def r34_1 : List AI := [⟨(some 5), .alloc [.i .u8 0, .i .u8 0, .i .u8 0, .i .u8 0, .i .u8 0, .i .u8 0, .i .u8 0, .i .u8 0, .i .u8 0, .i .u8 0, .i .u8 0, .i .u8 0, .i .u8 0, .i .u8 0, .i .u8 0, .i .u8 0, .i .u8 0, .i .u8 0, .i .u8 0, .i .u8 0, .i .u8 0, .i .u8 0, .i .u8 0, .i .u8 0, .i .u8 0, .i .u8 0, .i .u8 0, .i .u8 0, .i .u8 0, .i .u8 0, .i .u8 0, .i .u8 0, .i .u8 0, .i .u8 0, .i .u8 0, .i .u8 0, .i .u8 0, .i .u8 0, .i .u8 0, .i .u8 0, .i .u8 0, .i .u8 0, .i .u8 0, .i .u8 0, .i .u8 0, .i .u8 0, .i .u8 0, .i .u8 0, .i .u8 0, .i .u8 0, .i .u8 0, .i .u8 0, .i .u8 0, .i .u8 0, .i .u8 0, .i .u8 0, .i .u8 0, .i .u8 0, .i .u8 0, .i .u8 0, .i .u8 0, .i .u8 0, .i .u8 0, .i .u8 0], none⟩]
def r34_2 : List AI := [⟨(some 6), .mv (.c (.i .i64 64)), none⟩]
def r34_3 : List AI := [⟨(some 7), .mv (.t 6), none⟩,
  ⟨(some 8), .bin .sub (.t 7) (.c (.i .i64 1)), none⟩,
  ⟨(some 6), .mv (.t 8), none⟩]
def r34_4 : List AI := [⟨(some 9), .mv (.t 6), none⟩,
  ⟨(some 10), .mv (.t 0), none⟩,
  ⟨(some 11), .mv (.t 1), none⟩,
  ⟨(some 12), .bin .rem (.t 10) (.t 11), none⟩,
  ⟨(some 13), .ixS (.c (.s [48, 49, 50, 51, 52, 53, 54, 55, 56, 57, 97, 98, 99, 100, 101, 102])) (.t 12), none⟩,
  ⟨(some 14), .iaA 64 1 (.t 5) (.t 9), none⟩,
  ⟨none, .store 1 (.t 14) (.t 13), none⟩]
def r34_5 : List AI := [⟨(some 15), .mv (.t 0), none⟩,
  ⟨(some 16), .mv (.t 1), none⟩,
  ⟨(some 17), .bin .quo (.t 15) (.t 16), none⟩,
  ⟨(some 0), .mv (.t 17), none⟩]
def r34_6 : List AI := [⟨(some 18), .mv (.t 0), none⟩,
  ⟨(some 19), .bin .eql (.t 18) (.c (.i .u64 0)), none⟩]
def r34_7 : List AI := [⟨(some 20), .mv (.t 6), none⟩,
  ⟨(some 21), .slA 64 1 (.t 5) (some (.t 20)) none, none⟩,
  ⟨(some 22), .b2s (.t 21), none⟩,
  ⟨(some 4), .mv (.t 22), none⟩]
abbrev l34_0 : AC := (.block 1 (.seq (.reg 3 r34_3) (.seq (.reg 4 r34_4) (.seq (.reg 5 r34_5) (.seq (.reg 6 r34_6) (.cond (.t 19) (.seq (.reg 7 r34_7) .ret) .skip))))))
abbrev b34 : AC := (.seq (.reg 0 r34_0) (.seq (.reg 1 r34_1) (.seq (.reg 2 r34_2) (.block 0 (.loop l34_0)))))
def pf34 : AF := { nt := 23, res := [.tmp 4], body := b34 }
abbrev I34_0 (prog : Prog) (d : Nat) (Q : AE → Sl → St → Prop) (base1 : Int) (n0 : Int) (at6 : Int) (m4096 : List (UInt8)) : Prop :=
  ∀ (σ : Sl) (st : St) (v4096 : Nat), σ 0 = .i .u64 n0 → σ 1 = .i .u64 base1 → σ 5 = .p (d, 4096) v4096 0 → σ 6 = .i .i64 at6 → lk st.bx (d, 4096) = some (v4096, List.map c8 m4096) → W prog d (.loop l34_0) σ st (blockW 0 Q)
def T34_1 (prog : Prog) (K : List UInt8 → Prop) (P0 : Int → Int → List (UInt8) → Prop) (n0 : Int) (base1 : Int) (at6 : Int) (m4096 : List (UInt8)) : Prop :=
  base1 ≠ 0 ∧ 0 ≤ ((n0 : Int).tmod base1) ∧ ∃ c'1 : UInt8, ([48, 49, 50, 51, 52, 53, 54, 55, 56, 57, 97, 98, 99, 100, 101, 102] : List UInt8)[((n0 : Int).tmod base1).toNat]? = some c'1 ∧ 0 ≤ (IntKind.i64.wrap (at6 - 1)) ∧ (IntKind.i64.wrap (at6 - 1)).toNat < 64 ∧ (IntKind.i64.wrap (at6 - 1)).toNat < m4096.length ∧ base1 ≠ 0 ∧ ((IntKind.u64.wrap ((n0 : Int).tdiv base1)) = 0 → (m4096.set ((IntKind.i64.wrap (at6 - 1)).toNat) c'1).length = 64 ∧ 0 ≤ (IntKind.i64.wrap (at6 - 1)) ∧ (IntKind.i64.wrap (at6 - 1)).toNat ≤ 64 ∧ K ((m4096.set ((IntKind.i64.wrap (at6 - 1)).toNat) c'1).drop (IntKind.i64.wrap (at6 - 1)).toNat)) ∧ (¬((IntKind.u64.wrap ((n0 : Int).tdiv base1)) = 0) → P0 (IntKind.u64.wrap ((n0 : Int).tdiv base1)) (IntKind.i64.wrap (at6 - 1)) (m4096.set ((IntKind.i64.wrap (at6 - 1)).toNat) c'1))
theorem w34_1 {prog : Prog} {d : Nat} {Q : AE → Sl → St → Prop} {K : List UInt8 → Prop} (hQ : ∀ (σ : Sl) (st : St) (x0 : List UInt8), σ 4 = .s x0 → K x0 → Q .ret σ st) {n0 : Int} {base1 : Int} {at6 : Int} {m4096 : List (UInt8)} {P0 : Int → Int → List (UInt8) → Prop} (kP0 : ∀ (n0 : Int) (at6 : Int) (m4096 : List (UInt8)), P0 n0 at6 m4096 → I34_0 prog d Q base1 n0 at6 m4096) {σ : Sl} {st : St} {v4096 : Nat} (H0 : σ 0 = .i .u64 n0) (H1 : σ 1 = .i .u64 base1) (H5 : σ 5 = .p (d, 4096) v4096 0) (H6 : σ 6 = .i .i64 at6) (B4096 : lk st.bx (d, 4096) = some (v4096, List.map c8 m4096)) (h : T34_1 prog K P0 n0 base1 at6 m4096) : W prog d l34_0 σ st (thenW prog d (.loop l34_0) (blockW 0 Q)) :=
  W.block (W.seq (W.reg0 rfl fun _ _ => s_mvI H6 (s_bin rfl rfl (abin_sub _ _ _) (s_mvI rfl (s_nil (W.seq (W.reg0 rfl fun _ _ => s_mvI rfl (s_mvI H0 (s_mvI H1 (s_bin rfl rfl (abin_rem' h.1) (h.2.2.elim fun c'1 e'2 => s_ixS rfl rfl h.2.1 e'2.1 (s_iaP1 H5 rfl e'2.2.1 e'2.2.2.1 (s_storeA (f := c8) (a := c'1) c8_one rfl B4096 rfl e'2.2.2.2.1 (s_nil (W.seq (W.reg0 rfl fun _ _ => s_mvI H0 (s_mvI H1 (s_bin rfl rfl (abin_quo' e'2.2.2.2.2.1) (s_mvI rfl (s_nil (W.seq (W.reg0 rfl fun _ _ => s_mvI rfl (s_bin rfl rfl (abin_eql _ _ _) (s_nil (c_split rfl (fun g'3 => W.seq (W.reg0 rfl fun _ _ => s_mvI rfl (s_slA_lo H5 lk_here (e'2.2.2.2.2.2.1 g'3).1 rfl rfl (e'2.2.2.2.2.2.1 g'3).2.1 (e'2.2.2.2.2.2.1 g'3).2.2.1 (s_b2s rfl (s_mvS rfl (s_nil (W.ret (hQ _ _   _ rfl  (e'2.2.2.2.2.2.1 g'3).2.2.2)))))))) (fun g'3 => W.skip (kP0 _ _ _ (e'2.2.2.2.2.2.2 g'3) _ _ _ rfl H1 H5 rfl lk_here)))))))))))))))))))))))))))
def T34_0 (prog : Prog) (K : List UInt8 → Prop) (n0 : Int) (base1 : Int) : Prop :=
  ∀ P0 : Int → Int → List (UInt8) → Prop, (∀ (n0 : Int) (at6 : Int) (m4096 : List (UInt8)), T34_1 prog K P0 n0 base1 at6 m4096 → P0 n0 at6 m4096) → P0 n0 64 (List.replicate 64 0)
theorem w34_0 {prog : Prog} {d : Nat} {Q : AE → Sl → St → Prop} {K : List UInt8 → Prop} (hQ : ∀ (σ : Sl) (st : St) (x0 : List UInt8), σ 4 = .s x0 → K x0 → Q .ret σ st) {n0 : Int} {base1 : Int}   {σ : Sl} {st : St} (H0 : σ 0 = .i .u64 n0) (H1 : σ 1 = .i .u64 base1) (h : T34_0 prog K n0 base1) : W prog d (.seq (.reg 0 r34_0) (.seq (.reg 1 r34_1) (.seq (.reg 2 r34_2) (.block 0 (.loop l34_0))))) σ st Q :=
  W.seq (W.reg0 rfl fun _ _ => s_mvS rfl (s_nil (W.seq (W.reg (s_alloc (s_nil (W.seq (W.reg0 rfl fun _ _ => s_mvI rfl (s_nil (W.block (h (I34_0 prog d Q base1) (fun _ _ _ hb _ _ _ H0 H1 H5 H6 B4096 => W.loop (w34_1 hQ (fun _ _ _ x => x) H0 H1 H5 H6 B4096 hb)) _ _ _ H0 H1 rfl rfl (show lk _ (d, 4096) = some (_, (List.map c8 (List.replicate 64 0) : List AV)) from lk_here))))))))))))
theorem p34 {prog : Prog} (hf : prog.fn 34 = some pf34) {n0 : Int} {base1 : Int} {K : List UInt8 → Prop} (h : T34_0 prog K n0 base1) : ∃ x0 : List UInt8, K x0 ∧ Pus prog 34 [.i .u64 n0, .i .u64 base1] (.s x0) := by
  obtain ⟨v, hv, x0, hk, rfl⟩ := Pus.of (K := fun v => ∃ x0 : List UInt8, K x0 ∧ v = .s x0) hf rfl (w34_0 (σ := sl0 [.i .u64 n0, .i .u64 base1]) (fun σ st   x0 H4 hk => ⟨.s x0, by simp only [pf34, ares, aresL, H4, ares1, Option.map_some], _, rfl, x0, hk, rfl⟩) rfl rfl h)
  exact ⟨x0, hk, hv⟩

/-! wreckage/text.out -/
def r37_0 : List AI := [⟨(some 6), .mv (.c (.i .u64 0)), none⟩,
  ⟨(some 7), .mv (.c (.i .i64 0)), none⟩]
def r37_1 : List AI := [⟨(some 8), .mv (.c (.i .u64 0)), none⟩,
  ⟨(some 9), .mv (.c (.b false)), none⟩]
def r37_2 : List AI := [⟨(some 12), .mv (.t 0), none⟩,
  ⟨(some 13), .len true (.t 12), none⟩,
  ⟨(some 14), .mv (.c (.i .i64 0)), none⟩]
def r37_3 : List AI := [⟨(some 15), .bin .lss (.t 14) (.t 13), none⟩]
def r37_4 : List AI := [⟨(some 16), .mv (.t 14), none⟩,
  ⟨(some 10), .mv (.t 16), none⟩]
def r37_5 : List AI := [⟨(some 17), .mv (.t 1), none⟩,
  ⟨(some 18), .slS (.c (.s [48, 49, 50, 51, 52, 53, 54, 55, 56, 57, 97, 98, 99, 100, 101, 102])) none (some (.t 17)), none⟩,
  ⟨(some 19), .mv (.t 0), none⟩,
  ⟨(some 20), .mv (.t 10), none⟩,
  ⟨(some 21), .ixS (.t 19) (.t 20), none⟩,
  ⟨(some 22), .call false 43 [(.t 18), (.t 21)], none⟩,
  ⟨(some 11), .mv (.t 22), none⟩]
def r37_6 : List AI := [⟨(some 23), .mv (.t 11), none⟩,
  ⟨(some 24), .bin .lss (.t 23) (.c (.i .i64 0)), none⟩,
  ⟨(some 25), .mv (.t 24), none⟩,
  ⟨(some 26), .mv (.t 10), (some (25, false))⟩,
  ⟨(some 27), .bin .eql (.t 26) (.c (.i .i64 1)), (some (25, false))⟩,
  ⟨(some 28), .mv (.t 27), (some (25, false))⟩,
  ⟨(some 29), .mv (.t 0), (some (28, true))⟩,
  ⟨(some 30), .ixS (.t 29) (.c (.i .i64 0)), (some (28, true))⟩,
  ⟨(some 31), .bin .eql (.t 30) (.c (.i .u8 48)), (some (28, true))⟩,
  ⟨(some 32), .pick (.t 28) (.t 31) (.c (.b false)), (some (25, false))⟩,
  ⟨(some 33), .pick (.t 25) (.c (.b true)) (.t 32), none⟩]
def r37_7 : List AI := [⟨(some 6), .mv (.c (.i .u64 0)), none⟩,
  ⟨(some 7), .mv (.c (.i .i64 12)), none⟩]
def r37_8 : List AI := [⟨(some 34), .mv (.t 9), none⟩,
  ⟨(some 35), .mv (.t 34), none⟩,
  ⟨(some 36), .mv (.t 8), (some (35, false))⟩,
  ⟨(some 37), .mv (.t 2), (some (35, false))⟩,
  ⟨(some 38), .mv (.t 11), (some (35, false))⟩,
  ⟨(some 39), .cvi .u64 (.t 38), (some (35, false))⟩,
  ⟨(some 40), .bin .sub (.t 37) (.t 39), (some (35, false))⟩,
  ⟨(some 41), .mv (.t 1), (some (35, false))⟩,
  ⟨(some 42), .bin .quo (.t 40) (.t 41), (some (35, false))⟩,
  ⟨(some 43), .bin .gtr (.t 36) (.t 42), (some (35, false))⟩,
  ⟨(some 44), .pick (.t 35) (.c (.b true)) (.t 43), none⟩,
  ⟨(some 9), .mv (.t 44), none⟩]
def r37_9 : List AI := [⟨(some 45), .mv (.t 9), none⟩,
  ⟨(some 46), .un .not (.t 45), none⟩]
def r37_10 : List AI := [⟨(some 47), .mv (.t 8), none⟩,
  ⟨(some 48), .mv (.t 1), none⟩,
  ⟨(some 49), .bin .mul (.t 47) (.t 48), none⟩,
  ⟨(some 50), .mv (.t 11), none⟩,
  ⟨(some 51), .cvi .u64 (.t 50), none⟩,
  ⟨(some 52), .bin .add (.t 49) (.t 51), none⟩,
  ⟨(some 8), .mv (.t 52), none⟩]
def r37_11 : List AI := [⟨(some 53), .bin .add (.t 14) (.c (.i .i64 1)), none⟩,
  ⟨(some 14), .mv (.t 53), none⟩]
def r37_12 : List AI := [⟨(some 55), .mv (.t 0), none⟩,
  ⟨(some 56), .bin .eql (.t 55) (.c (.s [])), none⟩,
  ⟨(some 54), .mv (.t 56), none⟩]
def r37_13 : List AI := [⟨(some 6), .mv (.c (.i .u64 0)), none⟩,
  ⟨(some 7), .mv (.c (.i .i64 12)), none⟩]
def r37_14 : List AI := [⟨(some 58), .mv (.t 9), none⟩,
  ⟨(some 57), .mv (.t 58), none⟩]
def r37_15 : List AI := [⟨(some 6), .mv (.c (.i .u64 0)), none⟩,
  ⟨(some 7), .mv (.c (.i .i64 16)), none⟩]
def r37_16 : List AI := [⟨(some 59), .mv (.t 8), none⟩,
  ⟨(some 6), .mv (.t 59), none⟩,
  ⟨(some 7), .mv (.c (.i .i64 0)), none⟩]
abbrev c37_0 : AC := (.reg 11 r37_11)
abbrev l37_0 : AC := (.seq (.reg 3 r37_3) (.seq (.cond (.t 15) .skip (.exit 0)) (.seq (.block 1 (.seq (.reg 4 r37_4) (.seq (.reg 5 r37_5) (.seq (.seq (.reg 6 r37_6) (.cond (.t 33) (.seq (.reg 7 r37_7) .ret) .skip)) (.seq (.reg 8 r37_8) (.seq (.reg 9 r37_9) (.cond (.t 46) (.reg 10 r37_10) .skip))))))) c37_0)))
abbrev c37_2 : AC := (.seq (.block 2 (.seq (.reg 12 r37_12) (.cond (.t 54) (.seq (.reg 13 r37_13) .ret) (.seq (.reg 14 r37_14) (.cond (.t 57) (.seq (.reg 15 r37_15) .ret) .skip))))) (.seq (.reg 16 r37_16) .ret))
abbrev c37_3 : AC := (.seq (.seq (.reg 2 r37_2) (.block 0 (.loop l37_0))) c37_2)
abbrev c37_4 : AC := (.seq (.reg 1 r37_1) c37_3)
abbrev b37 : AC := (.seq (.reg 0 r37_0) c37_4)
def pf37 : AF := { nt := 60, res := [.tmp 6, .tmp 7], body := b37 }
abbrev I37_0 (prog : Prog) (d : Nat) (Q : AE → Sl → St → Prop) (s0 : List UInt8) (base1 : Int) (most2 : Int) (t13 : Int) (n8 : Int) (far9 : Bool) (t14 : Int) : Prop :=
  ∀ (σ : Sl) (st : St), σ 0 = .s s0 → σ 1 = .i .u64 base1 → σ 2 = .i .u64 most2 → σ 8 = .i .u64 n8 → σ 9 = .b far9 → σ 13 = .i .i64 t13 → σ 14 = .i .i64 t14 → W prog d (.loop l37_0) σ st (blockW 0 (thenW prog d c37_2 Q))
def T37_4 (prog : Prog) (K : Int → Int → Prop) (P0 : Int → Bool → Int → Prop) (s0 : List UInt8) (base1 : Int) (most2 : Int) (n8 : Int) (far9 : Bool) (t13 : Int) (t14 : Int) : Prop :=
  P0 n8 far9 (IntKind.i64.wrap (t14 + 1))
theorem w37_4 {prog : Prog} {d : Nat} {Q : AE → Sl → St → Prop} {K : Int → Int → Prop} (hQ : ∀ (σ : Sl) (st : St) (x0 : Int) (x1 : Int), σ 6 = .i .u64 x0 → σ 7 = .i .i64 x1 → K x0 x1 → Q .ret σ st) {s0 : List UInt8} {base1 : Int} {most2 : Int} {n8 : Int} {far9 : Bool} {t13 : Int} {t14 : Int} {P0 : Int → Bool → Int → Prop} (kP0 : ∀ (n8 : Int) (far9 : Bool) (t14 : Int), P0 n8 far9 t14 → I37_0 prog d Q s0 base1 most2 t13 n8 far9 t14) {σ : Sl} {st : St} (H0 : σ 0 = .s s0) (H1 : σ 1 = .i .u64 base1) (H2 : σ 2 = .i .u64 most2) (H8 : σ 8 = .i .u64 n8) (H9 : σ 9 = .b far9) (H13 : σ 13 = .i .i64 t13) (H14 : σ 14 = .i .i64 t14) (h : T37_4 prog K P0 s0 base1 most2 n8 far9 t13 t14) : W prog d c37_0 σ st (thenW prog d (.loop l37_0) (blockW 0 (thenW prog d c37_2 Q))) :=
  W.reg0 rfl fun _ _ => s_bin H14 rfl (abin_add _ _ _) (s_mvI rfl (s_nil (kP0 _ _ _ h _ _  H0 H1 H2 H8 H9 H13 rfl)))
def T37_5 (prog : Prog) (K : Int → Int → Prop) (s0 : List UInt8) (n8 : Int) (far9 : Bool) : Prop :=
  (s0 = ([] : List UInt8) → K 0 12) ∧ (¬(s0 = ([] : List UInt8)) → (far9 = true → K 0 16) ∧ (far9 = false → K n8 0))
theorem w37_5 {prog : Prog} {d : Nat} {Q : AE → Sl → St → Prop} {K : Int → Int → Prop} (hQ : ∀ (σ : Sl) (st : St) (x0 : Int) (x1 : Int), σ 6 = .i .u64 x0 → σ 7 = .i .i64 x1 → K x0 x1 → Q .ret σ st) {s0 : List UInt8} {n8 : Int} {far9 : Bool}   {σ : Sl} {st : St} (H0 : σ 0 = .s s0) (H8 : σ 8 = .i .u64 n8) (H9 : σ 9 = .b far9) (h : T37_5 prog K s0 n8 far9) : W prog d c37_2 σ st Q :=
  W.seq (W.block (W.seq (W.reg0 rfl fun _ _ => s_mvS H0 (s_bin rfl rfl (abin_seq _ _) (s_mvB rfl (s_nil (c_split rfl (fun g'1 => W.seq (W.reg0 rfl fun _ _ => s_mvI rfl (s_mvI rfl (s_nil (W.ret (hQ _ _   _ _ rfl rfl  (h.1 g'1))))))) (fun g'1 => W.seq (W.reg0 rfl fun _ _ => s_mvB H9 (s_mvB rfl (s_nil (c_bool rfl (fun g'2 => W.seq (W.reg0 rfl fun _ _ => s_mvI rfl (s_mvI rfl (s_nil (W.ret (hQ _ _   _ _ rfl rfl  ((h.2 g'1).1 g'2))))))) (fun g'2 => W.skip (W.seq (W.reg0 rfl fun _ _ => s_mvI H8 (s_mvI rfl (s_mvI rfl (s_nil (W.ret (hQ _ _   _ _ rfl rfl  ((h.2 g'1).2 g'2)))))))))))))))))))))
def T37_3 (prog : Prog) (K : Int → Int → Prop) (P0 : Int → Bool → Int → Prop) (s0 : List UInt8) (base1 : Int) (most2 : Int) (n8 : Int) (far9 : Bool) (t13 : Int) (t14 : Int) : Prop :=
  (t14 < t13 → 0 ≤ base1 ∧ (base1).toNat ≤ ([48, 49, 50, 51, 52, 53, 54, 55, 56, 57, 97, 98, 99, 100, 101, 102] : List UInt8).length ∧ 0 ≤ t14 ∧ ∃ c'2 : UInt8, s0[(t14).toNat]? = some c'2 ∧ ∃ r'4 : Int, Pus prog 43 [.s (([48, 49, 50, 51, 52, 53, 54, 55, 56, 57, 97, 98, 99, 100, 101, 102] : List UInt8).take (base1).toNat), .i .u8 (c'2.toNat : Int)] (.i .i64 r'4) ∧ (r'4 < 0 → K 0 12) ∧ (¬(r'4 < 0) → (t14 = 1 → ∃ c'8 : UInt8, s0[0]? = some c'8 ∧ ((c'8.toNat : Int) = 48 → K 0 12) ∧ (¬((c'8.toNat : Int) = 48) → (far9 = true → T37_4 prog K P0 s0 base1 most2 n8 true t13 t14) ∧ (far9 = false → base1 ≠ 0 ∧ (¬(n8 > (IntKind.u64.wrap (((IntKind.u64.wrap (most2 - (IntKind.u64.wrap r'4))) : Int).tdiv base1))) → T37_4 prog K P0 s0 base1 most2 (IntKind.u64.wrap ((IntKind.u64.wrap (n8 * base1)) + (IntKind.u64.wrap r'4))) (decide (n8 > (IntKind.u64.wrap (((IntKind.u64.wrap (most2 - (IntKind.u64.wrap r'4))) : Int).tdiv base1)))) t13 t14) ∧ (¬(¬(n8 > (IntKind.u64.wrap (((IntKind.u64.wrap (most2 - (IntKind.u64.wrap r'4))) : Int).tdiv base1)))) → T37_4 prog K P0 s0 base1 most2 n8 (decide (n8 > (IntKind.u64.wrap (((IntKind.u64.wrap (most2 - (IntKind.u64.wrap r'4))) : Int).tdiv base1)))) t13 t14)))) ∧ (¬(t14 = 1) → (far9 = true → T37_4 prog K P0 s0 base1 most2 n8 true t13 t14) ∧ (far9 = false → base1 ≠ 0 ∧ (¬(n8 > (IntKind.u64.wrap (((IntKind.u64.wrap (most2 - (IntKind.u64.wrap r'4))) : Int).tdiv base1))) → T37_4 prog K P0 s0 base1 most2 (IntKind.u64.wrap ((IntKind.u64.wrap (n8 * base1)) + (IntKind.u64.wrap r'4))) (decide (n8 > (IntKind.u64.wrap (((IntKind.u64.wrap (most2 - (IntKind.u64.wrap r'4))) : Int).tdiv base1)))) t13 t14) ∧ (¬(¬(n8 > (IntKind.u64.wrap (((IntKind.u64.wrap (most2 - (IntKind.u64.wrap r'4))) : Int).tdiv base1)))) → T37_4 prog K P0 s0 base1 most2 n8 (decide (n8 > (IntKind.u64.wrap (((IntKind.u64.wrap (most2 - (IntKind.u64.wrap r'4))) : Int).tdiv base1)))) t13 t14))))) ∧ (¬(t14 < t13) → T37_5 prog K s0 n8 far9)
theorem w37_3 {prog : Prog} {d : Nat} {Q : AE → Sl → St → Prop} {K : Int → Int → Prop} (hQ : ∀ (σ : Sl) (st : St) (x0 : Int) (x1 : Int), σ 6 = .i .u64 x0 → σ 7 = .i .i64 x1 → K x0 x1 → Q .ret σ st) {s0 : List UInt8} {base1 : Int} {most2 : Int} {n8 : Int} {far9 : Bool} {t13 : Int} {t14 : Int} {P0 : Int → Bool → Int → Prop} (kP0 : ∀ (n8 : Int) (far9 : Bool) (t14 : Int), P0 n8 far9 t14 → I37_0 prog d Q s0 base1 most2 t13 n8 far9 t14) {σ : Sl} {st : St} (H0 : σ 0 = .s s0) (H1 : σ 1 = .i .u64 base1) (H2 : σ 2 = .i .u64 most2) (H8 : σ 8 = .i .u64 n8) (H9 : σ 9 = .b far9) (H13 : σ 13 = .i .i64 t13) (H14 : σ 14 = .i .i64 t14) (h : T37_3 prog K P0 s0 base1 most2 n8 far9 t13 t14) : W prog d l37_0 σ st (thenW prog d (.loop l37_0) (blockW 0 (thenW prog d c37_2 Q))) :=
  W.seq (W.reg0 rfl fun _ _ => s_bin H14 H13 (abin_lss _ _ _) (s_nil (W.seq (c_split rfl (fun g'1 => W.skip (W.seq (W.block (W.seq (W.reg0 rfl fun _ _ => s_mvI H14 (s_mvI rfl (s_nil (W.seq (W.reg0 rfl fun _ _ => s_mvI H1 (s_slS_hi rfl rfl (h.1 g'1).1 (h.1 g'1).2.1 (s_mvS H0 (s_mvI rfl ((h.1 g'1).2.2.2.elim fun c'2 e'3 => s_ixS rfl rfl (h.1 g'1).2.2.1 e'3.1 (e'3.2.elim fun r'4 e'5 => s_call (sc rfl rfl (sc rfl rfl sn)) e'5.1 (s_mvI rfl (s_nil (W.seq (W.seq (W.reg0 rfl fun _ _ => s_mvI rfl (s_bin rfl rfl (abin_lss _ _ _) (s_mvB rfl (s_em (g := 25) rfl (fun g'6 => s_gn (b := true) rfl rfl (s_gn (b := true) rfl rfl (s_gn (b := true) rfl rfl (s_gt rfl (s_gt rfl (s_gt rfl (s_gn (b := true) rfl rfl (s_pickTB rfl rfl (s_nil (c_tt rfl (W.seq (W.reg0 rfl fun _ _ => s_mvI rfl (s_mvI rfl (s_nil (W.ret (hQ _ _   _ _ rfl rfl  (e'5.2.1 g'6))))))))))))))))) (fun g'6 => s_gy rfl (s_mvI rfl (s_gy rfl (s_bin rfl rfl (abin_eql _ _ _) (s_gy rfl (s_mvB rfl (s_em (g := 28) rfl (fun g'7 => s_gy rfl (s_mvS H0 (s_gy rfl (((e'5.2.2 g'6).1 g'7).elim fun c'8 e'9 => s_ixS rfl rfl (by decide) e'9.1 (s_gy rfl (s_bin rfl rfl (abin_eql _ _ _) (s_gy rfl (s_pickTB rfl rfl (s_pickFB rfl rfl (s_nil (c_split rfl (fun g'10 => W.seq (W.reg0 rfl fun _ _ => s_mvI rfl (s_mvI rfl (s_nil (W.ret (hQ _ _   _ _ rfl rfl  (e'9.2.1 g'10))))))) (fun g'10 => W.skip (W.seq (W.reg0 rfl fun _ _ => s_mvB H9 (s_mvB rfl (s_emb (g := 35) rfl (fun g'11 => s_gn (b := true) rfl rfl (s_gn (b := true) rfl rfl (s_gn (b := true) rfl rfl (s_gn (b := true) rfl rfl (s_gn (b := true) rfl rfl (s_gn (b := true) rfl rfl (s_gn (b := true) rfl rfl (s_gn (b := true) rfl rfl (s_pickTB rfl rfl (s_mvB rfl (s_nil (W.seq (W.reg0 rfl fun _ _ => s_mvB rfl (s_not rfl (s_nil (c_ff rfl (W.skip (w37_4  hQ kP0 H0 H1 H2 H8 rfl H13 H14 ((e'9.2.2 g'10).1 g'11))))))))))))))))))) (fun g'11 => s_gy rfl (s_mvI H8 (s_gy rfl (s_mvI H2 (s_gy rfl (s_mvI rfl (s_gy rfl (s_cvi rfl (s_gy rfl (s_bin rfl rfl (abin_sub _ _ _) (s_gy rfl (s_mvI H1 (s_gy rfl (s_bin rfl rfl (abin_quo' ((e'9.2.2 g'10).2 g'11).1) (s_gy rfl (s_bin rfl rfl (abin_gtr _ _ _) (s_pickFB rfl rfl (s_mvB rfl (s_nil (W.seq (W.reg0 rfl fun _ _ => s_mvB rfl (s_notp rfl (s_nil (c_split rfl (fun g'12 => W.reg0 rfl fun _ _ => s_mvI H8 (s_mvI H1 (s_bin rfl rfl (abin_mul _ _ _) (s_mvI rfl (s_cvi rfl (s_bin rfl rfl (abin_add _ _ _) (s_mvI rfl (s_nil (w37_4  hQ kP0 H0 H1 H2 rfl rfl H13 H14 (((e'9.2.2 g'10).2 g'11).2.1 g'12)))))))))) (fun g'12 => W.skip (w37_4  hQ kP0 H0 H1 H2 H8 rfl H13 H14 (((e'9.2.2 g'10).2 g'11).2.2 g'12))))))))))))))))))))))))))))))))))))))))))) (fun g'7 => s_gn (b := false) rfl rfl (s_gn (b := false) rfl rfl (s_gn (b := false) rfl rfl (s_gy rfl (s_pickFB rfl rfl (s_pickFB rfl rfl (s_nil (c_ff rfl (W.skip (W.seq (W.reg0 rfl fun _ _ => s_mvB H9 (s_mvB rfl (s_emb (g := 35) rfl (fun g'13 => s_gn (b := true) rfl rfl (s_gn (b := true) rfl rfl (s_gn (b := true) rfl rfl (s_gn (b := true) rfl rfl (s_gn (b := true) rfl rfl (s_gn (b := true) rfl rfl (s_gn (b := true) rfl rfl (s_gn (b := true) rfl rfl (s_pickTB rfl rfl (s_mvB rfl (s_nil (W.seq (W.reg0 rfl fun _ _ => s_mvB rfl (s_not rfl (s_nil (c_ff rfl (W.skip (w37_4  hQ kP0 H0 H1 H2 H8 rfl H13 H14 (((e'5.2.2 g'6).2 g'7).1 g'13))))))))))))))))))) (fun g'13 => s_gy rfl (s_mvI H8 (s_gy rfl (s_mvI H2 (s_gy rfl (s_mvI rfl (s_gy rfl (s_cvi rfl (s_gy rfl (s_bin rfl rfl (abin_sub _ _ _) (s_gy rfl (s_mvI H1 (s_gy rfl (s_bin rfl rfl (abin_quo' (((e'5.2.2 g'6).2 g'7).2 g'13).1) (s_gy rfl (s_bin rfl rfl (abin_gtr _ _ _) (s_pickFB rfl rfl (s_mvB rfl (s_nil (W.seq (W.reg0 rfl fun _ _ => s_mvB rfl (s_notp rfl (s_nil (c_split rfl (fun g'14 => W.reg0 rfl fun _ _ => s_mvI H8 (s_mvI H1 (s_bin rfl rfl (abin_mul _ _ _) (s_mvI rfl (s_cvi rfl (s_bin rfl rfl (abin_add _ _ _) (s_mvI rfl (s_nil (w37_4  hQ kP0 H0 H1 H2 rfl rfl H13 H14 ((((e'5.2.2 g'6).2 g'7).2 g'13).2.1 g'14)))))))))) (fun g'14 => W.skip (w37_4  hQ kP0 H0 H1 H2 H8 rfl H13 H14 ((((e'5.2.2 g'6).2 g'7).2 g'13).2.2 g'14))))))))))))))))))))))))))))))))))))))))))))))))))))))))))))))))))))) (fun g'1 => W.exit (w37_5  hQ  H0 H8 H9 (h.2 g'1)))))))
def T37_2 (prog : Prog) (K : Int → Int → Prop) (s0 : List UInt8) (base1 : Int) (most2 : Int) (n8 : Int) (far9 : Bool) : Prop :=
  ∀ P0 : Int → Bool → Int → Prop, (∀ (n8 : Int) (far9 : Bool) (t14 : Int), T37_3 prog K P0 s0 base1 most2 n8 far9 (s0.length : Int) t14 → P0 n8 far9 t14) → P0 n8 far9 0
theorem w37_2 {prog : Prog} {d : Nat} {Q : AE → Sl → St → Prop} {K : Int → Int → Prop} (hQ : ∀ (σ : Sl) (st : St) (x0 : Int) (x1 : Int), σ 6 = .i .u64 x0 → σ 7 = .i .i64 x1 → K x0 x1 → Q .ret σ st) {s0 : List UInt8} {base1 : Int} {most2 : Int} {n8 : Int} {far9 : Bool}   {σ : Sl} {st : St} (H0 : σ 0 = .s s0) (H1 : σ 1 = .i .u64 base1) (H2 : σ 2 = .i .u64 most2) (H8 : σ 8 = .i .u64 n8) (H9 : σ 9 = .b far9) (h : T37_2 prog K s0 base1 most2 n8 far9) : W prog d c37_3 σ st Q :=
  W.seq (W.seq (W.reg0 rfl fun _ _ => s_mvS H0 (s_lenS rfl (s_mvI rfl (s_nil (W.block (h (I37_0 prog d Q s0 base1 most2 (s0.length : Int)) (fun _ _ _ hb _ _  H0 H1 H2 H8 H9 H13 H14 => W.loop (w37_3 hQ (fun _ _ _ x => x) H0 H1 H2 H8 H9 H13 H14 hb)) _ _  H0 H1 H2 H8 H9 rfl rfl)))))))
def T37_1 (prog : Prog) (K : Int → Int → Prop) (s0 : List UInt8) (base1 : Int) (most2 : Int) : Prop :=
  T37_2 prog K s0 base1 most2 0 false
theorem w37_1 {prog : Prog} {d : Nat} {Q : AE → Sl → St → Prop} {K : Int → Int → Prop} (hQ : ∀ (σ : Sl) (st : St) (x0 : Int) (x1 : Int), σ 6 = .i .u64 x0 → σ 7 = .i .i64 x1 → K x0 x1 → Q .ret σ st) {s0 : List UInt8} {base1 : Int} {most2 : Int}   {σ : Sl} {st : St} (H0 : σ 0 = .s s0) (H1 : σ 1 = .i .u64 base1) (H2 : σ 2 = .i .u64 most2) (h : T37_1 prog K s0 base1 most2) : W prog d c37_4 σ st Q :=
  W.seq (W.reg0 rfl fun _ _ => s_mvI rfl (s_mvB rfl (s_nil (w37_2  hQ  H0 H1 H2 rfl rfl h))))
def T37_0 (prog : Prog) (K : Int → Int → Prop) (s0 : List UInt8) (base1 : Int) (most2 : Int) : Prop :=
  T37_1 prog K s0 base1 most2
theorem w37_0 {prog : Prog} {d : Nat} {Q : AE → Sl → St → Prop} {K : Int → Int → Prop} (hQ : ∀ (σ : Sl) (st : St) (x0 : Int) (x1 : Int), σ 6 = .i .u64 x0 → σ 7 = .i .i64 x1 → K x0 x1 → Q .ret σ st) {s0 : List UInt8} {base1 : Int} {most2 : Int}   {σ : Sl} {st : St} (H0 : σ 0 = .s s0) (H1 : σ 1 = .i .u64 base1) (H2 : σ 2 = .i .u64 most2) (h : T37_0 prog K s0 base1 most2) : W prog d (.seq (.reg 0 r37_0) c37_4) σ st Q :=
  W.seq (W.reg0 rfl fun _ _ => s_mvI rfl (s_mvI rfl (s_nil (w37_1  hQ  H0 H1 H2 h))))
theorem p37 {prog : Prog} (hf : prog.fn 37 = some pf37) {s0 : List UInt8} {base1 : Int} {most2 : Int} {K : Int → Int → Prop} (h : T37_0 prog K s0 base1 most2) : ∃ x0 : Int, ∃ x1 : Int, K x0 x1 ∧ Pus prog 37 [.s s0, .i .u64 base1, .i .u64 most2] (.tup [.i .u64 x0, .i .i64 x1]) := by
  obtain ⟨v, hv, x0, x1, hk, rfl⟩ := Pus.of (K := fun v => ∃ x0 : Int, ∃ x1 : Int, K x0 x1 ∧ v = .tup [.i .u64 x0, .i .i64 x1]) hf rfl (w37_0 (σ := sl0 [.s s0, .i .u64 base1, .i .u64 most2]) (fun σ st   x0 x1 H6 H7 hk => ⟨.tup [.i .u64 x0, .i .i64 x1], by simp only [pf37, ares, aresL, H6, H7, ares1, Option.map_some], _, rfl, x0, x1, hk, rfl⟩) rfl rfl rfl h)
  exact ⟨x0, x1, hk, hv⟩

/-! wreckage/text.next -/
def r39_0 : List AI := [⟨(some 2), .mv (.c (.s [])), none⟩,
  ⟨(some 3), .mv (.c (.s [])), none⟩,
  ⟨(some 4), .mv (.c (.b false)), none⟩]
def r39_1 : List AI := [⟨(some 11), .mv (.t 0), none⟩,
  ⟨(some 12), .call false 36 [(.t 11), (.c (.s [34]))], none⟩,
  ⟨(some 10), .mv (.t 12), none⟩,
  ⟨(some 13), .ext 0 (.t 10), none⟩,
  ⟨(some 14), .ext 1 (.t 10), none⟩,
  ⟨(some 5), .mv (.t 13), none⟩,
  ⟨(some 6), .mv (.t 14), none⟩]
def r39_2 : List AI := [⟨(some 15), .mv (.t 6), none⟩,
  ⟨(some 16), .un .not (.t 15), none⟩]
def r39_3 : List AI := [⟨(some 2), .mv (.c (.s [])), none⟩,
  ⟨(some 3), .mv (.c (.s [])), none⟩,
  ⟨(some 4), .mv (.c (.b false)), none⟩]
def r39_4 : List AI := [⟨(some 7), .mv (.c (.sl .full [])), none⟩]
def r39_5 : List AI := [⟨(some 17), .mv (.t 5), none⟩,
  ⟨(some 18), .bin .neq (.t 17) (.c (.s [])), none⟩]
def r39_6 : List AI := [⟨(some 19), .mv (.t 5), none⟩,
  ⟨(some 20), .ixS (.t 19) (.c (.i .i64 0)), none⟩,
  ⟨(some 8), .mv (.t 20), none⟩]
def r39_7 : List AI := [⟨(some 21), .mv (.t 5), none⟩,
  ⟨(some 22), .slS (.t 21) (some (.c (.i .i64 1))) none, none⟩,
  ⟨(some 5), .mv (.t 22), none⟩]
def r39_8 : List AI := [⟨(some 24), .mv (.t 8), none⟩,
  ⟨(some 25), .bin .eql (.t 24) (.c (.i .u8 34)), none⟩,
  ⟨(some 23), .mv (.t 25), none⟩]
def r39_9 : List AI := [⟨(some 26), .mv (.t 7), none⟩,
  ⟨(some 27), .b2s (.t 26), none⟩,
  ⟨(some 28), .mv (.t 5), none⟩,
  ⟨(some 2), .mv (.t 27), none⟩,
  ⟨(some 3), .mv (.t 28), none⟩,
  ⟨(some 4), .mv (.c (.b true)), none⟩]
def r39_10 : List AI := [⟨(some 30), .mv (.t 8), none⟩,
  ⟨(some 31), .bin .lss (.t 30) (.c (.i .u8 32)), none⟩,
  ⟨(some 32), .mv (.t 31), none⟩,
  ⟨(some 33), .mv (.t 8), (some (32, false))⟩,
  ⟨(some 34), .bin .gtr (.t 33) (.c (.i .u8 126)), (some (32, false))⟩,
  ⟨(some 35), .pick (.t 32) (.c (.b true)) (.t 34), none⟩,
  ⟨(some 29), .mv (.t 35), none⟩]
def r39_11 : List AI := [⟨(some 2), .mv (.c (.s [])), none⟩,
  ⟨(some 3), .mv (.c (.s [])), none⟩,
  ⟨(some 4), .mv (.c (.b false)), none⟩]
def r39_12 : List AI := [⟨(some 37), .mv (.t 8), none⟩,
  ⟨(some 38), .bin .eql (.t 37) (.c (.i .u8 92)), none⟩,
  ⟨(some 36), .mv (.t 38), none⟩]
def r39_13 : List AI := [⟨(some 9), .mv (.c (.b false)), none⟩]
def r39_14 : List AI := [⟨(some 40), .mv (.t 5), none⟩,
  ⟨(some 41), .call false 45 [(.t 40)], none⟩,
  ⟨(some 39), .mv (.t 41), none⟩,
  ⟨(some 42), .ext 0 (.t 39), none⟩,
  ⟨(some 43), .ext 1 (.t 39), none⟩,
  ⟨(some 44), .ext 2 (.t 39), none⟩,
  ⟨(some 8), .mv (.t 42), none⟩,
  ⟨(some 5), .mv (.t 43), none⟩,
  ⟨(some 9), .mv (.t 44), none⟩]
def r39_15 : List AI := [⟨(some 45), .mv (.t 9), none⟩,
  ⟨(some 46), .un .not (.t 45), none⟩]
def r39_16 : List AI := [⟨(some 2), .mv (.c (.s [])), none⟩,
  ⟨(some 3), .mv (.c (.s [])), none⟩,
  ⟨(some 4), .mv (.c (.b false)), none⟩]
def r39_17 : List AI := [⟨(some 47), .mv (.t 7), none⟩,
  ⟨(some 48), .mv (.t 8), none⟩,
  ⟨(some 49), .bslice [.i .u8 0] 1 [(0, (.t 48))], none⟩,
  ⟨(some 50), .app 1 1 (.t 47) (.t 49), none⟩,
  ⟨(some 7), .mv (.t 50), none⟩]
def r39_18 : List AI := [⟨(some 2), .mv (.c (.s [])), none⟩,
  ⟨(some 3), .mv (.c (.s [])), none⟩,
  ⟨(some 4), .mv (.c (.b false)), none⟩]
abbrev c39_0 : AC := (.reg 17 r39_17)
abbrev l39_0 : AC := (.seq (.seq (.reg 5 r39_5) (.cond (.t 18) .skip (.exit 0))) (.block 1 (.seq (.reg 6 r39_6) (.seq (.reg 7 r39_7) (.seq (.block 2 (.seq (.reg 8 r39_8) (.cond (.t 23) (.seq (.reg 9 r39_9) .ret) (.seq (.reg 10 r39_10) (.cond (.t 29) (.seq (.reg 11 r39_11) .ret) (.seq (.reg 12 r39_12) (.cond (.t 36) (.seq (.reg 13 r39_13) (.seq (.reg 14 r39_14) (.seq (.reg 15 r39_15) (.cond (.t 46) (.seq (.reg 16 r39_16) .ret) .skip)))) .skip))))))) c39_0)))))
abbrev c39_2 : AC := (.seq (.reg 18 r39_18) .ret)
abbrev c39_3 : AC := (.seq (.reg 1 r39_1) (.seq (.seq (.reg 2 r39_2) (.cond (.t 16) (.seq (.reg 3 r39_3) .ret) .skip)) (.seq (.reg 4 r39_4) (.seq (.block 0 (.loop l39_0)) c39_2))))
abbrev b39 : AC := (.seq (.reg 0 r39_0) c39_3)
def pf39 : AF := { nt := 51, res := [.tmp 2, .tmp 3, .tmp 4], body := b39 }
abbrev I39_0 (prog : Prog) (d : Nat) (Q : AE → Sl → St → Prop) (rest5 : List UInt8) (b7 : List UInt8) : Prop :=
  ∀ (σ : Sl) (st : St) (o_b7 : Own), σ 5 = .s rest5 → σ 7 = .sl o_b7 (List.map row8 b7) → ApM d st.ow o_b7 b7.length → W prog d (.loop l39_0) σ st (blockW 0 (thenW prog d c39_2 Q))
def T39_3 (prog : Prog) (K : List UInt8 → List UInt8 → Bool → Prop) (P0 : List UInt8 → List UInt8 → Prop) (rest5 : List UInt8) (b7 : List UInt8) (c8 : Int) : Prop :=
  ∃ c'1 : UInt8, c8 = (c'1.toNat : Int) ∧ Fit (b7.length + [c'1].length) 1 ∧ P0 rest5 (b7 ++ [c'1])
theorem w39_3 {prog : Prog} {d : Nat} {Q : AE → Sl → St → Prop} {K : List UInt8 → List UInt8 → Bool → Prop} (hQ : ∀ (σ : Sl) (st : St) (x0 : List UInt8) (x1 : List UInt8) (x2 : Bool), σ 2 = .s x0 → σ 3 = .s x1 → σ 4 = .b x2 → K x0 x1 x2 → Q .ret σ st) {rest5 : List UInt8} {b7 : List UInt8} {c8 : Int} {P0 : List UInt8 → List UInt8 → Prop} (kP0 : ∀ (rest5 : List UInt8) (b7 : List UInt8), P0 rest5 b7 → I39_0 prog d Q  rest5 b7) {σ : Sl} {st : St} {o_b7 : Own} (H5 : σ 5 = .s rest5) (H7 : σ 7 = .sl o_b7 (List.map row8 b7)) (H8 : σ 8 = .i .u8 c8) (A7 : ApM d st.ow o_b7 b7.length) (h : T39_3 prog K P0 rest5 b7 c8) : W prog d c39_0 σ st (blockW 1 (thenW prog d (.loop l39_0) (blockW 0 (thenW prog d c39_2 Q)))) :=
  W.reg0 rfl fun _ _ => s_mvL H7 (s_mvI H8 (h.elim fun c'1 e'2 => s_bslM (f := row8) (l := [c'1]) rfl rfl (g_cons (g_u8 rfl e'2.1) rfl rfl g_nil) rfl (s_app row8_len rfl rfl rfl A7.1 e'2.2.1 rfl (fun o'3 ow'6 a'4 fr'5 on'7 => s_mvL rfl (s_nil (kP0 _ _ e'2.2.2 _ _ _ H5 rfl (ApM.mk a'4 (Mine.app A7.2 rfl on'7))))))))
def T39_4 (prog : Prog) (K : List UInt8 → List UInt8 → Bool → Prop)  : Prop :=
  K ([] : List UInt8) ([] : List UInt8) false
theorem w39_4 {prog : Prog} {d : Nat} {Q : AE → Sl → St → Prop} {K : List UInt8 → List UInt8 → Bool → Prop} (hQ : ∀ (σ : Sl) (st : St) (x0 : List UInt8) (x1 : List UInt8) (x2 : Bool), σ 2 = .s x0 → σ 3 = .s x1 → σ 4 = .b x2 → K x0 x1 x2 → Q .ret σ st)    {σ : Sl} {st : St}  (h : T39_4 prog K ) : W prog d c39_2 σ st Q :=
  W.seq (W.reg0 rfl fun _ _ => s_mvS rfl (s_mvS rfl (s_mvB rfl (s_nil (W.ret (hQ _ _   _ _ _ rfl rfl rfl  h))))))
def T39_2 (prog : Prog) (K : List UInt8 → List UInt8 → Bool → Prop) (P0 : List UInt8 → List UInt8 → Prop) (rest5 : List UInt8) (b7 : List UInt8) : Prop :=
  (rest5 ≠ ([] : List UInt8) → ∃ c'2 : UInt8, rest5[0]? = some c'2 ∧ 1 ≤ rest5.length ∧ ((c'2.toNat : Int) = 34 → K b7 (rest5.drop 1) true) ∧ (¬((c'2.toNat : Int) = 34) → ((c'2.toNat : Int) < 32 → K ([] : List UInt8) ([] : List UInt8) false) ∧ (¬((c'2.toNat : Int) < 32) → ((c'2.toNat : Int) > 126 → K ([] : List UInt8) ([] : List UInt8) false) ∧ (¬((c'2.toNat : Int) > 126) → ((c'2.toNat : Int) = 92 → ∃ r'8 : Int, ∃ r'9 : List UInt8, ∃ r'10 : Bool, Pus prog 45 [.s (rest5.drop 1)] (.tup [.i .u8 r'8, .s r'9, .b r'10]) ∧ ((!r'10) = true → K ([] : List UInt8) ([] : List UInt8) false) ∧ ((!r'10) = false → T39_3 prog K P0 r'9 b7 r'8)) ∧ (¬((c'2.toNat : Int) = 92) → T39_3 prog K P0 (rest5.drop 1) b7 (c'2.toNat : Int)))))) ∧ (¬(rest5 ≠ ([] : List UInt8)) → T39_4 prog K )
theorem w39_2 {prog : Prog} {d : Nat} {Q : AE → Sl → St → Prop} {K : List UInt8 → List UInt8 → Bool → Prop} (hQ : ∀ (σ : Sl) (st : St) (x0 : List UInt8) (x1 : List UInt8) (x2 : Bool), σ 2 = .s x0 → σ 3 = .s x1 → σ 4 = .b x2 → K x0 x1 x2 → Q .ret σ st) {rest5 : List UInt8} {b7 : List UInt8} {P0 : List UInt8 → List UInt8 → Prop} (kP0 : ∀ (rest5 : List UInt8) (b7 : List UInt8), P0 rest5 b7 → I39_0 prog d Q  rest5 b7) {σ : Sl} {st : St} {o_b7 : Own} (H5 : σ 5 = .s rest5) (H7 : σ 7 = .sl o_b7 (List.map row8 b7)) (A7 : ApM d st.ow o_b7 b7.length) (h : T39_2 prog K P0 rest5 b7) : W prog d l39_0 σ st (thenW prog d (.loop l39_0) (blockW 0 (thenW prog d c39_2 Q))) :=
  W.seq (W.seq (W.reg0 rfl fun _ _ => s_mvS H5 (s_bin rfl rfl (abin_sne _ _) (s_nil (c_split rfl (fun g'1 => W.skip (W.block (W.seq (W.reg0 rfl fun _ _ => s_mvS H5 ((h.1 g'1).elim fun c'2 e'3 => s_ixS rfl rfl (by decide) e'3.1 (s_mvI rfl (s_nil (W.seq (W.reg0 rfl fun _ _ => s_mvS H5 (s_slS_lo rfl rfl (by decide) e'3.2.1 (s_mvS rfl (s_nil (W.seq (W.block (W.seq (W.reg0 rfl fun _ _ => s_mvI rfl (s_bin rfl rfl (abin_eql _ _ _) (s_mvB rfl (s_nil (c_split rfl (fun g'4 => W.seq (W.reg0 rfl fun _ _ => s_mvL H7 (s_b2s rfl (s_mvS rfl (s_mvS rfl (s_mvS rfl (s_mvB rfl (s_nil (W.ret (hQ _ _   _ _ _ rfl rfl rfl  (e'3.2.2.1 g'4))))))))))) (fun g'4 => W.seq (W.reg0 rfl fun _ _ => s_mvI rfl (s_bin rfl rfl (abin_lss _ _ _) (s_mvB rfl (s_em (g := 32) rfl (fun g'5 => s_gn (b := true) rfl rfl (s_gn (b := true) rfl rfl (s_pickTB rfl rfl (s_mvB rfl (s_nil (c_tt rfl (W.seq (W.reg0 rfl fun _ _ => s_mvS rfl (s_mvS rfl (s_mvB rfl (s_nil (W.ret (hQ _ _   _ _ _ rfl rfl rfl  ((e'3.2.2.2 g'4).1 g'5)))))))))))))) (fun g'5 => s_gy rfl (s_mvI rfl (s_gy rfl (s_bin rfl rfl (abin_gtr _ _ _) (s_pickFB rfl rfl (s_mvB rfl (s_nil (c_split rfl (fun g'6 => W.seq (W.reg0 rfl fun _ _ => s_mvS rfl (s_mvS rfl (s_mvB rfl (s_nil (W.ret (hQ _ _   _ _ _ rfl rfl rfl  (((e'3.2.2.2 g'4).2 g'5).1 g'6)))))))) (fun g'6 => W.seq (W.reg0 rfl fun _ _ => s_mvI rfl (s_bin rfl rfl (abin_eql _ _ _) (s_mvB rfl (s_nil (c_split rfl (fun g'7 => W.seq (W.reg0 rfl fun _ _ => s_mvB rfl (s_nil (W.seq (W.reg0 rfl fun _ _ => s_mvS rfl (((((e'3.2.2.2 g'4).2 g'5).2 g'6).1 g'7).elim fun r'8 e'13 => e'13.elim fun r'9 e'14 => e'14.elim fun r'10 e'11 => s_call (sc rfl rfl sn) e'11.1 (s_mvT rfl (s_ext rfl rfl (s_ext rfl rfl (s_ext rfl rfl (s_mvI rfl (s_mvS rfl (s_mvB rfl (s_nil (W.seq (W.reg0 rfl fun _ _ => s_mvB rfl (s_not rfl (s_nil (c_bool rfl (fun g'12 => W.seq (W.reg0 rfl fun _ _ => s_mvS rfl (s_mvS rfl (s_mvB rfl (s_nil (W.ret (hQ _ _   _ _ _ rfl rfl rfl  (e'11.2.1 g'12)))))))) (fun g'12 => W.skip (w39_3  hQ kP0 rfl H7 rfl A7 (e'11.2.2 g'12)))))))))))))))))))))) (fun g'7 => W.skip (w39_3  hQ kP0 rfl H7 rfl A7 ((((e'3.2.2.2 g'4).2 g'5).2 g'6).2 g'7)))))))))))))))))))))))))))))))))))))))))) (fun g'1 => W.exit (w39_4  hQ   (h.2 g'1))))))))
def T39_1 (prog : Prog) (K : List UInt8 → List UInt8 → Bool → Prop) (s0 : List UInt8) : Prop :=
  ∃ r'1 : List UInt8, ∃ r'2 : Bool, Pus prog 36 [.s s0, .s ([34] : List UInt8)] (.tup [.s r'1, .b r'2]) ∧ ((!r'2) = true → K ([] : List UInt8) ([] : List UInt8) false) ∧ ((!r'2) = false → ∀ P0 : List UInt8 → List UInt8 → Prop, (∀ (rest5 : List UInt8) (b7 : List UInt8), T39_2 prog K P0 rest5 b7 → P0 rest5 b7) → P0 r'1 ([] : List UInt8))
theorem w39_1 {prog : Prog} {d : Nat} {Q : AE → Sl → St → Prop} {K : List UInt8 → List UInt8 → Bool → Prop} (hQ : ∀ (σ : Sl) (st : St) (x0 : List UInt8) (x1 : List UInt8) (x2 : Bool), σ 2 = .s x0 → σ 3 = .s x1 → σ 4 = .b x2 → K x0 x1 x2 → Q .ret σ st) {s0 : List UInt8}   {σ : Sl} {st : St} (H0 : σ 0 = .s s0) (h : T39_1 prog K s0) : W prog d c39_3 σ st Q :=
  W.seq (W.reg0 rfl fun _ _ => s_mvS H0 (h.elim fun r'1 e'5 => e'5.elim fun r'2 e'3 => s_call (sc rfl rfl (sc rfl rfl sn)) e'3.1 (s_mvT rfl (s_ext rfl rfl (s_ext rfl rfl (s_mvS rfl (s_mvB rfl (s_nil (W.seq (W.seq (W.reg0 rfl fun _ _ => s_mvB rfl (s_not rfl (s_nil (c_bool rfl (fun g'4 => W.seq (W.reg0 rfl fun _ _ => s_mvS rfl (s_mvS rfl (s_mvB rfl (s_nil (W.ret (hQ _ _   _ _ _ rfl rfl rfl  (e'3.2.1 g'4)))))))) (fun g'4 => W.skip (W.seq (W.reg0 rfl fun _ _ => s_mvL (f := row8) (l := []) rfl (s_nil (W.seq (W.block ((e'3.2.2 g'4) (I39_0 prog d Q ) (fun _ _ hb _ _ _ H5 H7 A7 => W.loop (w39_2 hQ (fun _ _ x => x) H5 H7 A7 hb)) _ _ _ rfl rfl ApM.full)))))))))))))))))))))
def T39_0 (prog : Prog) (K : List UInt8 → List UInt8 → Bool → Prop) (s0 : List UInt8) : Prop :=
  T39_1 prog K s0
theorem w39_0 {prog : Prog} {d : Nat} {Q : AE → Sl → St → Prop} {K : List UInt8 → List UInt8 → Bool → Prop} (hQ : ∀ (σ : Sl) (st : St) (x0 : List UInt8) (x1 : List UInt8) (x2 : Bool), σ 2 = .s x0 → σ 3 = .s x1 → σ 4 = .b x2 → K x0 x1 x2 → Q .ret σ st) {s0 : List UInt8}   {σ : Sl} {st : St} (H0 : σ 0 = .s s0) (h : T39_0 prog K s0) : W prog d (.seq (.reg 0 r39_0) c39_3) σ st Q :=
  W.seq (W.reg0 rfl fun _ _ => s_mvS rfl (s_mvS rfl (s_mvB rfl (s_nil (w39_1  hQ  H0 h)))))
theorem p39 {prog : Prog} (hf : prog.fn 39 = some pf39) {s0 : List UInt8} {K : List UInt8 → List UInt8 → Bool → Prop} (h : T39_0 prog K s0) : ∃ x0 : List UInt8, ∃ x1 : List UInt8, ∃ x2 : Bool, K x0 x1 x2 ∧ Pus prog 39 [.s s0] (.tup [.s x0, .s x1, .b x2]) := by
  obtain ⟨v, hv, x0, x1, x2, hk, rfl⟩ := Pus.of (K := fun v => ∃ x0 : List UInt8, ∃ x1 : List UInt8, ∃ x2 : Bool, K x0 x1 x2 ∧ v = .tup [.s x0, .s x1, .b x2]) hf rfl (w39_0 (σ := sl0 [.s s0]) (fun σ st   x0 x1 x2 H2 H3 H4 hk => ⟨.tup [.s x0, .s x1, .b x2], by simp only [pf39, ares, aresL, H2, H3, H4, ares1, Option.map_some], _, rfl, x0, x1, x2, hk, rfl⟩) rfl h)
  exact ⟨x0, x1, x2, hk, hv⟩

/-! wreckage/text.escape -/
def r45_0 : List AI := [⟨(some 2), .mv (.c (.i .u8 0)), none⟩,
  ⟨(some 3), .mv (.c (.s [])), none⟩,
  ⟨(some 4), .mv (.c (.b false)), none⟩]
def r45_1 : List AI := [⟨(some 8), .mv (.t 0), none⟩,
  ⟨(some 9), .bin .eql (.t 8) (.c (.s [])), none⟩]
def r45_2 : List AI := [⟨(some 2), .mv (.c (.i .u8 0)), none⟩,
  ⟨(some 3), .mv (.c (.s [])), none⟩,
  ⟨(some 4), .mv (.c (.b false)), none⟩]
def r45_3 : List AI := [⟨(some 10), .mv (.t 0), none⟩,
  ⟨(some 11), .ixS (.t 10) (.c (.i .i64 0)), none⟩]
def r45_4 : List AI := [⟨(some 13), .bin .eql (.t 11) (.c (.i .u8 34)), none⟩,
  ⟨(some 12), .mv (.t 13), none⟩]
def r45_5 : List AI := [⟨(some 14), .bin .eql (.t 11) (.c (.i .u8 92)), none⟩,
  ⟨(some 12), .mv (.t 14), none⟩]
def r45_6 : List AI := [⟨(some 15), .mv (.t 0), none⟩,
  ⟨(some 16), .ixS (.t 15) (.c (.i .i64 0)), none⟩,
  ⟨(some 17), .mv (.t 0), none⟩,
  ⟨(some 18), .slS (.t 17) (some (.c (.i .i64 1))) none, none⟩,
  ⟨(some 2), .mv (.t 16), none⟩,
  ⟨(some 3), .mv (.t 18), none⟩,
  ⟨(some 4), .mv (.c (.b true)), none⟩]
def r45_7 : List AI := [⟨(some 20), .bin .eql (.t 11) (.c (.i .u8 110)), none⟩,
  ⟨(some 19), .mv (.t 20), none⟩]
def r45_8 : List AI := [⟨(some 21), .mv (.t 0), none⟩,
  ⟨(some 22), .slS (.t 21) (some (.c (.i .i64 1))) none, none⟩,
  ⟨(some 2), .mv (.c (.i .u8 10)), none⟩,
  ⟨(some 3), .mv (.t 22), none⟩,
  ⟨(some 4), .mv (.c (.b true)), none⟩]
def r45_9 : List AI := [⟨(some 24), .bin .eql (.t 11) (.c (.i .u8 120)), none⟩,
  ⟨(some 23), .mv (.t 24), none⟩]
def r45_10 : List AI := [⟨(some 25), .mv (.t 0), none⟩,
  ⟨(some 26), .len true (.t 25), none⟩,
  ⟨(some 27), .bin .lss (.t 26) (.c (.i .i64 3)), none⟩]
def r45_11 : List AI := [⟨(some 2), .mv (.c (.i .u8 0)), none⟩,
  ⟨(some 3), .mv (.c (.s [])), none⟩,
  ⟨(some 4), .mv (.c (.b false)), none⟩]
def r45_12 : List AI := [⟨(some 28), .mv (.t 0), none⟩,
  ⟨(some 29), .ixS (.t 28) (.c (.i .i64 1)), none⟩,
  ⟨(some 30), .call false 43 [(.c (.s [48, 49, 50, 51, 52, 53, 54, 55, 56, 57, 97, 98, 99, 100, 101, 102])), (.t 29)], none⟩,
  ⟨(some 31), .mv (.t 0), none⟩,
  ⟨(some 32), .ixS (.t 31) (.c (.i .i64 2)), none⟩,
  ⟨(some 33), .call false 43 [(.c (.s [48, 49, 50, 51, 52, 53, 54, 55, 56, 57, 97, 98, 99, 100, 101, 102])), (.t 32)], none⟩,
  ⟨(some 5), .mv (.t 30), none⟩,
  ⟨(some 6), .mv (.t 33), none⟩]
def r45_13 : List AI := [⟨(some 34), .mv (.t 5), none⟩,
  ⟨(some 35), .bin .mul (.c (.i .i64 16)) (.t 34), none⟩,
  ⟨(some 36), .mv (.t 6), none⟩,
  ⟨(some 37), .bin .add (.t 35) (.t 36), none⟩,
  ⟨(some 38), .cvi .u8 (.t 37), none⟩,
  ⟨(some 7), .mv (.t 38), none⟩]
def r45_14 : List AI := [⟨(some 39), .mv (.t 7), none⟩,
  ⟨(some 40), .mv (.t 0), none⟩,
  ⟨(some 41), .slS (.t 40) (some (.c (.i .i64 3))) none, none⟩,
  ⟨(some 42), .mv (.t 5), none⟩,
  ⟨(some 43), .bin .geq (.t 42) (.c (.i .i64 0)), none⟩,
  ⟨(some 44), .mv (.t 43), none⟩,
  ⟨(some 45), .mv (.t 6), (some (44, true))⟩,
  ⟨(some 46), .bin .geq (.t 45) (.c (.i .i64 0)), (some (44, true))⟩,
  ⟨(some 47), .pick (.t 44) (.t 46) (.c (.b false)), none⟩,
  ⟨(some 48), .mv (.t 47), none⟩,
  ⟨(some 49), .mv (.t 7), (some (48, true))⟩,
  ⟨(some 50), .bin .neq (.t 49) (.c (.i .u8 10)), (some (48, true))⟩,
  ⟨(some 51), .pick (.t 48) (.t 50) (.c (.b false)), none⟩,
  ⟨(some 52), .mv (.t 51), none⟩,
  ⟨(some 53), .mv (.t 7), (some (52, true))⟩,
  ⟨(some 54), .bin .lss (.t 53) (.c (.i .u8 32)), (some (52, true))⟩,
  ⟨(some 55), .mv (.t 54), (some (52, true))⟩,
  ⟨(some 56), .mv (.t 7), (some (55, false))⟩,
  ⟨(some 57), .bin .gtr (.t 56) (.c (.i .u8 126)), (some (55, false))⟩,
  ⟨(some 58), .pick (.t 55) (.c (.b true)) (.t 57), (some (52, true))⟩,
  ⟨(some 59), .pick (.t 52) (.t 58) (.c (.b false)), none⟩,
  ⟨(some 2), .mv (.t 39), none⟩,
  ⟨(some 3), .mv (.t 41), none⟩,
  ⟨(some 4), .mv (.t 59), none⟩]
def r45_15 : List AI := [⟨(some 2), .mv (.c (.i .u8 0)), none⟩,
  ⟨(some 3), .mv (.c (.s [])), none⟩,
  ⟨(some 4), .mv (.c (.b false)), none⟩]
abbrev c45_0 : AC := (.cond (.t 12) (.seq (.reg 6 r45_6) .ret) (.seq (.reg 7 r45_7) (.cond (.t 19) (.seq (.reg 8 r45_8) .ret) (.seq (.reg 9 r45_9) (.cond (.t 23) (.seq (.seq (.reg 10 r45_10) (.cond (.t 27) (.seq (.reg 11 r45_11) .ret) .skip)) (.seq (.reg 12 r45_12) (.seq (.reg 13 r45_13) (.seq (.reg 14 r45_14) .ret)))) .skip)))))
abbrev c45_1 : AC := (.block 0 (.seq (.seq (.reg 4 r45_4) (.cond (.t 12) .skip (.reg 5 r45_5))) c45_0))
abbrev c45_2 : AC := (.seq (.seq (.reg 3 r45_3) c45_1) (.seq (.reg 15 r45_15) .ret))
abbrev c45_3 : AC := (.seq (.seq (.reg 1 r45_1) (.cond (.t 9) (.seq (.reg 2 r45_2) .ret) .skip)) c45_2)
abbrev b45 : AC := (.seq (.reg 0 r45_0) c45_3)
def pf45 : AF := { nt := 60, res := [.tmp 2, .tmp 3, .tmp 4], body := b45 }
def T45_4 (prog : Prog) (K : Int → List UInt8 → Bool → Prop) (s0 : List UInt8) (t11 : Int) (t12 : Bool) : Prop :=
  (t12 = true → ∃ c'2 : UInt8, s0[0]? = some c'2 ∧ 1 ≤ s0.length ∧ K (c'2.toNat : Int) (s0.drop 1) true) ∧ (t12 = false → (t11 = 110 → 1 ≤ s0.length ∧ K 10 (s0.drop 1) true) ∧ (¬(t11 = 110) → (t11 = 120 → ((s0.length : Int) < 3 → K 0 ([] : List UInt8) false) ∧ (¬((s0.length : Int) < 3) → ∃ c'7 : UInt8, s0[1]? = some c'7 ∧ ∃ r'9 : Int, Pus prog 43 [.s ([48, 49, 50, 51, 52, 53, 54, 55, 56, 57, 97, 98, 99, 100, 101, 102] : List UInt8), .i .u8 (c'7.toNat : Int)] (.i .i64 r'9) ∧ ∃ c'11 : UInt8, s0[2]? = some c'11 ∧ ∃ r'13 : Int, Pus prog 43 [.s ([48, 49, 50, 51, 52, 53, 54, 55, 56, 57, 97, 98, 99, 100, 101, 102] : List UInt8), .i .u8 (c'11.toNat : Int)] (.i .i64 r'13) ∧ 3 ≤ s0.length ∧ (r'9 ≥ 0 → (r'13 ≥ 0 → ((IntKind.u8.wrap (IntKind.i64.wrap ((IntKind.i64.wrap (16 * r'9)) + r'13))) ≠ 10 → ((IntKind.u8.wrap (IntKind.i64.wrap ((IntKind.i64.wrap (16 * r'9)) + r'13))) < 32 → K (IntKind.u8.wrap (IntKind.i64.wrap ((IntKind.i64.wrap (16 * r'9)) + r'13))) (s0.drop 3) true) ∧ (¬((IntKind.u8.wrap (IntKind.i64.wrap ((IntKind.i64.wrap (16 * r'9)) + r'13))) < 32) → K (IntKind.u8.wrap (IntKind.i64.wrap ((IntKind.i64.wrap (16 * r'9)) + r'13))) (s0.drop 3) (decide ((IntKind.u8.wrap (IntKind.i64.wrap ((IntKind.i64.wrap (16 * r'9)) + r'13))) > 126)))) ∧ (¬((IntKind.u8.wrap (IntKind.i64.wrap ((IntKind.i64.wrap (16 * r'9)) + r'13))) ≠ 10) → K (IntKind.u8.wrap (IntKind.i64.wrap ((IntKind.i64.wrap (16 * r'9)) + r'13))) (s0.drop 3) false)) ∧ (¬(r'13 ≥ 0) → K (IntKind.u8.wrap (IntKind.i64.wrap ((IntKind.i64.wrap (16 * r'9)) + r'13))) (s0.drop 3) false)) ∧ (¬(r'9 ≥ 0) → K (IntKind.u8.wrap (IntKind.i64.wrap ((IntKind.i64.wrap (16 * r'9)) + r'13))) (s0.drop 3) false))) ∧ (¬(t11 = 120) → K 0 ([] : List UInt8) false)))
theorem w45_4 {prog : Prog} {d : Nat} {Q : AE → Sl → St → Prop} {K : Int → List UInt8 → Bool → Prop} (hQ : ∀ (σ : Sl) (st : St) (x0 : Int) (x1 : List UInt8) (x2 : Bool), σ 2 = .i .u8 x0 → σ 3 = .s x1 → σ 4 = .b x2 → K x0 x1 x2 → Q .ret σ st) {s0 : List UInt8} {t11 : Int} {t12 : Bool}   {σ : Sl} {st : St} (H0 : σ 0 = .s s0) (H11 : σ 11 = .i .u8 t11) (H12 : σ 12 = .b t12) (h : T45_4 prog K s0 t11 t12) : W prog d c45_0 σ st (blockW 0 (thenW prog d (.seq (.reg 15 r45_15) .ret) Q)) :=
  c_bool H12 (fun g'1 => W.seq (W.reg0 rfl fun _ _ => s_mvS H0 ((h.1 g'1).elim fun c'2 e'3 => s_ixS rfl rfl (by decide) e'3.1 (s_mvS H0 (s_slS_lo rfl rfl (by decide) e'3.2.1 (s_mvI rfl (s_mvS rfl (s_mvB rfl (s_nil (W.ret (hQ _ _   _ _ _ rfl rfl rfl  e'3.2.2))))))))))) (fun g'1 => W.seq (W.reg0 rfl fun _ _ => s_bin H11 rfl (abin_eql _ _ _) (s_mvB rfl (s_nil (c_split rfl (fun g'4 => W.seq (W.reg0 rfl fun _ _ => s_mvS H0 (s_slS_lo rfl rfl (by decide) ((h.2 g'1).1 g'4).1 (s_mvI rfl (s_mvS rfl (s_mvB rfl (s_nil (W.ret (hQ _ _   _ _ _ rfl rfl rfl  ((h.2 g'1).1 g'4).2))))))))) (fun g'4 => W.seq (W.reg0 rfl fun _ _ => s_bin H11 rfl (abin_eql _ _ _) (s_mvB rfl (s_nil (c_split rfl (fun g'5 => W.seq (W.seq (W.reg0 rfl fun _ _ => s_mvS H0 (s_lenS rfl (s_bin rfl rfl (abin_lss _ _ _) (s_nil (c_split rfl (fun g'6 => W.seq (W.reg0 rfl fun _ _ => s_mvI rfl (s_mvS rfl (s_mvB rfl (s_nil (W.ret (hQ _ _   _ _ _ rfl rfl rfl  ((((h.2 g'1).2 g'4).1 g'5).1 g'6)))))))) (fun g'6 => W.skip (W.seq (W.reg0 rfl fun _ _ => s_mvS H0 (((((h.2 g'1).2 g'4).1 g'5).2 g'6).elim fun c'7 e'8 => s_ixS rfl rfl (by decide) e'8.1 (e'8.2.elim fun r'9 e'10 => s_call (sc rfl rfl (sc rfl rfl sn)) e'10.1 (s_mvS H0 (e'10.2.elim fun c'11 e'12 => s_ixS rfl rfl (by decide) e'12.1 (e'12.2.elim fun r'13 e'14 => s_call (sc rfl rfl (sc rfl rfl sn)) e'14.1 (s_mvI rfl (s_mvI rfl (s_nil (W.seq (W.reg0 rfl fun _ _ => s_mvI rfl (s_bin rfl rfl (abin_mul _ _ _) (s_mvI rfl (s_bin rfl rfl (abin_add _ _ _) (s_cvi rfl (s_mvI rfl (s_nil (W.seq (W.reg0 rfl fun _ _ => s_mvI rfl (s_mvS H0 (s_slS_lo rfl rfl (by decide) e'14.2.1 (s_mvI rfl (s_bin rfl rfl (abin_geq _ _ _) (s_mvB rfl (s_em (g := 44) rfl (fun g'15 => s_gy rfl (s_mvI rfl (s_gy rfl (s_bin rfl rfl (abin_geq _ _ _) (s_pickTB rfl rfl (s_mvB rfl (s_em (g := 48) rfl (fun g'16 => s_gy rfl (s_mvI rfl (s_gy rfl (s_bin rfl rfl (abin_neq _ _ _) (s_pickTB rfl rfl (s_mvB rfl (s_em (g := 52) rfl (fun g'17 => s_gy rfl (s_mvI rfl (s_gy rfl (s_bin rfl rfl (abin_lss _ _ _) (s_gy rfl (s_mvB rfl (s_em (g := 55) rfl (fun g'18 => s_gn (b := true) rfl rfl (s_gn (b := true) rfl rfl (s_gy rfl (s_pickTB rfl rfl (s_pickTB rfl rfl (s_mvI rfl (s_mvS rfl (s_mvB rfl (s_nil (W.ret (hQ _ _   _ _ _ rfl rfl rfl  ((((e'14.2.2.1 g'15).1 g'16).1 g'17).1 g'18)))))))))))) (fun g'18 => s_gy rfl (s_mvI rfl (s_gy rfl (s_bin rfl rfl (abin_gtr _ _ _) (s_gy rfl (s_pickFB rfl rfl (s_pickTB rfl rfl (s_mvI rfl (s_mvS rfl (s_mvB rfl (s_nil (W.ret (hQ _ _   _ _ _ rfl rfl rfl  ((((e'14.2.2.1 g'15).1 g'16).1 g'17).2 g'18))))))))))))))))))))) (fun g'17 => s_gn (b := false) rfl rfl (s_gn (b := false) rfl rfl (s_gn (b := false) rfl rfl (s_gt rfl (s_gt rfl (s_gn (b := false) rfl rfl (s_pickFB rfl rfl (s_mvI rfl (s_mvS rfl (s_mvB rfl (s_nil (W.ret (hQ _ _   _ _ _ rfl rfl rfl  (((e'14.2.2.1 g'15).1 g'16).2 g'17))))))))))))))))))))) (fun g'16 => s_gn (b := false) rfl rfl (s_gn (b := false) rfl rfl (s_pickFB rfl rfl (s_mvB rfl (s_gn (b := false) rfl rfl (s_gn (b := false) rfl rfl (s_gn (b := false) rfl rfl (s_gt rfl (s_gt rfl (s_gn (b := false) rfl rfl (s_pickFB rfl rfl (s_mvI rfl (s_mvS rfl (s_mvB rfl (s_nil (W.ret (hQ _ _   _ _ _ rfl rfl rfl  ((e'14.2.2.1 g'15).2 g'16))))))))))))))))))))))))) (fun g'15 => s_gn (b := false) rfl rfl (s_gn (b := false) rfl rfl (s_pickFB rfl rfl (s_mvB rfl (s_gn (b := false) rfl rfl (s_gn (b := false) rfl rfl (s_pickFB rfl rfl (s_mvB rfl (s_gn (b := false) rfl rfl (s_gn (b := false) rfl rfl (s_gn (b := false) rfl rfl (s_gt rfl (s_gt rfl (s_gn (b := false) rfl rfl (s_pickFB rfl rfl (s_mvI rfl (s_mvS rfl (s_mvB rfl (s_nil (W.ret (hQ _ _   _ _ _ rfl rfl rfl  (e'14.2.2.2 g'15)))))))))))))))))))))))))))))))))))))))))))))))))))))))) (fun g'5 => W.skip (W.seq (W.reg0 rfl fun _ _ => s_mvI rfl (s_mvS rfl (s_mvB rfl (s_nil (W.ret (hQ _ _   _ _ _ rfl rfl rfl  (((h.2 g'1).2 g'4).2 g'5)))))))))))))))))))
def T45_3 (prog : Prog) (K : Int → List UInt8 → Bool → Prop) (s0 : List UInt8) (t11 : Int) : Prop :=
  (t11 = 34 → T45_4 prog K s0 t11 (decide (t11 = 34))) ∧ (¬(t11 = 34) → T45_4 prog K s0 t11 (decide (t11 = 92)))
theorem w45_3 {prog : Prog} {d : Nat} {Q : AE → Sl → St → Prop} {K : Int → List UInt8 → Bool → Prop} (hQ : ∀ (σ : Sl) (st : St) (x0 : Int) (x1 : List UInt8) (x2 : Bool), σ 2 = .i .u8 x0 → σ 3 = .s x1 → σ 4 = .b x2 → K x0 x1 x2 → Q .ret σ st) {s0 : List UInt8} {t11 : Int}   {σ : Sl} {st : St} (H0 : σ 0 = .s s0) (H11 : σ 11 = .i .u8 t11) (h : T45_3 prog K s0 t11) : W prog d c45_1 σ st (thenW prog d (.seq (.reg 15 r45_15) .ret) Q) :=
  W.block (W.seq (W.seq (W.reg0 rfl fun _ _ => s_bin H11 rfl (abin_eql _ _ _) (s_mvB rfl (s_nil (c_split rfl (fun g'1 => W.skip (w45_4  hQ  H0 H11 rfl (h.1 g'1))) (fun g'1 => W.reg0 rfl fun _ _ => s_bin H11 rfl (abin_eql _ _ _) (s_mvB rfl (s_nil (w45_4  hQ  H0 H11 rfl (h.2 g'1)))))))))))
def T45_2 (prog : Prog) (K : Int → List UInt8 → Bool → Prop) (s0 : List UInt8) : Prop :=
  ∃ c'1 : UInt8, s0[0]? = some c'1 ∧ T45_3 prog K s0 (c'1.toNat : Int)
theorem w45_2 {prog : Prog} {d : Nat} {Q : AE → Sl → St → Prop} {K : Int → List UInt8 → Bool → Prop} (hQ : ∀ (σ : Sl) (st : St) (x0 : Int) (x1 : List UInt8) (x2 : Bool), σ 2 = .i .u8 x0 → σ 3 = .s x1 → σ 4 = .b x2 → K x0 x1 x2 → Q .ret σ st) {s0 : List UInt8}   {σ : Sl} {st : St} (H0 : σ 0 = .s s0) (h : T45_2 prog K s0) : W prog d c45_2 σ st Q :=
  W.seq (W.seq (W.reg0 rfl fun _ _ => s_mvS H0 (h.elim fun c'1 e'2 => s_ixS rfl rfl (by decide) e'2.1 (s_nil (w45_3  hQ  H0 rfl e'2.2)))))
def T45_1 (prog : Prog) (K : Int → List UInt8 → Bool → Prop) (s0 : List UInt8) : Prop :=
  (s0 = ([] : List UInt8) → K 0 ([] : List UInt8) false) ∧ (¬(s0 = ([] : List UInt8)) → T45_2 prog K s0)
theorem w45_1 {prog : Prog} {d : Nat} {Q : AE → Sl → St → Prop} {K : Int → List UInt8 → Bool → Prop} (hQ : ∀ (σ : Sl) (st : St) (x0 : Int) (x1 : List UInt8) (x2 : Bool), σ 2 = .i .u8 x0 → σ 3 = .s x1 → σ 4 = .b x2 → K x0 x1 x2 → Q .ret σ st) {s0 : List UInt8}   {σ : Sl} {st : St} (H0 : σ 0 = .s s0) (h : T45_1 prog K s0) : W prog d c45_3 σ st Q :=
  W.seq (W.seq (W.reg0 rfl fun _ _ => s_mvS H0 (s_bin rfl rfl (abin_seq _ _) (s_nil (c_split rfl (fun g'1 => W.seq (W.reg0 rfl fun _ _ => s_mvI rfl (s_mvS rfl (s_mvB rfl (s_nil (W.ret (hQ _ _   _ _ _ rfl rfl rfl  (h.1 g'1)))))))) (fun g'1 => W.skip (w45_2  hQ  H0 (h.2 g'1))))))))
def T45_0 (prog : Prog) (K : Int → List UInt8 → Bool → Prop) (s0 : List UInt8) : Prop :=
  T45_1 prog K s0
theorem w45_0 {prog : Prog} {d : Nat} {Q : AE → Sl → St → Prop} {K : Int → List UInt8 → Bool → Prop} (hQ : ∀ (σ : Sl) (st : St) (x0 : Int) (x1 : List UInt8) (x2 : Bool), σ 2 = .i .u8 x0 → σ 3 = .s x1 → σ 4 = .b x2 → K x0 x1 x2 → Q .ret σ st) {s0 : List UInt8}   {σ : Sl} {st : St} (H0 : σ 0 = .s s0) (h : T45_0 prog K s0) : W prog d (.seq (.reg 0 r45_0) c45_3) σ st Q :=
  W.seq (W.reg0 rfl fun _ _ => s_mvI rfl (s_mvS rfl (s_mvB rfl (s_nil (w45_1  hQ  H0 h)))))
theorem p45 {prog : Prog} (hf : prog.fn 45 = some pf45) {s0 : List UInt8} {K : Int → List UInt8 → Bool → Prop} (h : T45_0 prog K s0) : ∃ x0 : Int, ∃ x1 : List UInt8, ∃ x2 : Bool, K x0 x1 x2 ∧ Pus prog 45 [.s s0] (.tup [.i .u8 x0, .s x1, .b x2]) := by
  obtain ⟨v, hv, x0, x1, x2, hk, rfl⟩ := Pus.of (K := fun v => ∃ x0 : Int, ∃ x1 : List UInt8, ∃ x2 : Bool, K x0 x1 x2 ∧ v = .tup [.i .u8 x0, .s x1, .b x2]) hf rfl (w45_0 (σ := sl0 [.s s0]) (fun σ st   x0 x1 x2 H2 H3 H4 hk => ⟨.tup [.i .u8 x0, .s x1, .b x2], by simp only [pf45, ares, aresL, H2, H3, H4, ares1, Option.map_some], _, rfl, x0, x1, x2, hk, rfl⟩) rfl h)
  exact ⟨x0, x1, x2, hk, hv⟩

end Go.AM
