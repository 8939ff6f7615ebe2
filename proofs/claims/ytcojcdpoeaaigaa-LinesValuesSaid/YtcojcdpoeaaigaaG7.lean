/- Parts of the proof: U38c, K38, V03, V03b, V03c, V38, R4. -/
import Derived.Test.YtcojcdpoeaaigaaG4
import Derived.Test.YtcojcdpoeaaigaaRows
import Derived.Test.YtcojcdpoeaaigaaG2
import Derived.Test.YtcojcdpoeaaigaaG3
import Derived.Test.YtcojcdpoeaaigaaG5
import Derived.Test.YtcojcdpoeaaigaaG6
import Derived.Shelf.Strings.Builder1
import Derived.Lib.Bytealg
set_option linter.all false
/- MADE BY PROGRAM (tl.py). -/
namespace Go.AM
open Go
set_option linter.unusedVariables false
set_option linter.unusedSimpArgs false
set_option maxRecDepth 4000
attribute [local irreducible] WO fillCells fillRows

/-! (*wreckage/lines.scanner).quoted -/
def r130_0 : List AI := [⟨(some 2), .mv (.c (.s [])), none⟩,
  ⟨(some 3), .mv (.c (.b false)), none⟩]
def r130_1 : List AI := [⟨(some 4), .mv (.c (.i .i64 1)), none⟩]
def r130_2 : List AI := [⟨(some 8), .mv (.t 4), none⟩,
  ⟨(some 9), .mv (.t 0), none⟩,
  ⟨(some 10), .nilc (.t 9), none⟩,
  ⟨(some 11), .fad 0 (.t 10), none⟩,
  ⟨(some 12), .load 1 false (.t 11), none⟩,
  ⟨(some 13), .len true (.t 12), none⟩,
  ⟨(some 14), .bin .geq (.t 8) (.t 13), none⟩,
  ⟨(some 7), .mv (.t 14), none⟩]
def r130_3 : List AI := [⟨(some 2), .mv (.c (.s [])), none⟩,
  ⟨(some 3), .mv (.c (.b false)), none⟩]
def r130_4 : List AI := [⟨(some 16), .mv (.t 0), none⟩,
  ⟨(some 17), .nilc (.t 16), none⟩,
  ⟨(some 18), .fad 0 (.t 17), none⟩,
  ⟨(some 19), .load 1 false (.t 18), none⟩,
  ⟨(some 20), .mv (.t 4), none⟩,
  ⟨(some 21), .ixS (.t 19) (.t 20), none⟩,
  ⟨(some 22), .bin .eql (.t 21) (.c (.i .u8 92)), none⟩,
  ⟨(some 15), .mv (.t 22), none⟩]
def r130_5 : List AI := [⟨(some 23), .mv (.t 4), none⟩,
  ⟨(some 24), .bin .add (.t 23) (.c (.i .i64 2)), none⟩,
  ⟨(some 4), .mv (.t 24), none⟩]
def r130_6 : List AI := [⟨(some 26), .mv (.t 0), none⟩,
  ⟨(some 27), .nilc (.t 26), none⟩,
  ⟨(some 28), .fad 0 (.t 27), none⟩,
  ⟨(some 29), .load 1 false (.t 28), none⟩,
  ⟨(some 30), .mv (.t 4), none⟩,
  ⟨(some 31), .ixS (.t 29) (.t 30), none⟩,
  ⟨(some 32), .bin .neq (.t 31) (.c (.i .u8 34)), none⟩,
  ⟨(some 25), .mv (.t 32), none⟩]
def r130_7 : List AI := [⟨(some 33), .mv (.t 4), none⟩,
  ⟨(some 34), .bin .add (.t 33) (.c (.i .i64 1)), none⟩,
  ⟨(some 4), .mv (.t 34), none⟩]
def r130_8 : List AI := [⟨(some 36), .mv (.t 0), none⟩,
  ⟨(some 37), .nilc (.t 36), none⟩,
  ⟨(some 38), .fad 0 (.t 37), none⟩,
  ⟨(some 39), .load 1 false (.t 38), none⟩,
  ⟨(some 40), .mv (.t 4), none⟩,
  ⟨(some 41), .bin .add (.t 40) (.c (.i .i64 1)), none⟩,
  ⟨(some 42), .slS (.t 39) none (some (.t 41)), none⟩,
  ⟨(some 43), .call false 25 [(.t 42)], none⟩,
  ⟨(some 35), .mv (.t 43), none⟩,
  ⟨(some 44), .ext 0 (.t 35), none⟩,
  ⟨(some 45), .ext 1 (.t 35), none⟩,
  ⟨(some 5), .mv (.t 44), none⟩,
  ⟨(some 6), .mv (.t 45), none⟩]
def r130_9 : List AI := [⟨(some 46), .mv (.t 0), none⟩,
  ⟨(some 47), .mv (.t 0), none⟩,
  ⟨(some 48), .nilc (.t 47), none⟩,
  ⟨(some 49), .fad 0 (.t 48), none⟩,
  ⟨(some 50), .load 1 false (.t 49), none⟩,
  ⟨(some 51), .mv (.t 4), none⟩,
  ⟨(some 52), .bin .add (.t 51) (.c (.i .i64 1)), none⟩,
  ⟨(some 53), .slS (.t 50) (some (.t 52)) none, none⟩,
  ⟨(some 54), .nilc (.t 46), none⟩,
  ⟨(some 55), .fad 0 (.t 54), none⟩,
  ⟨none, .store 1 (.t 55) (.t 53), none⟩]
def r130_10 : List AI := [⟨(some 56), .mv (.t 5), none⟩,
  ⟨(some 57), .mv (.t 6), none⟩,
  ⟨(some 58), .bin .eql (.t 57) (.c (.i .i64 0)), none⟩,
  ⟨(some 2), .mv (.t 56), none⟩,
  ⟨(some 3), .mv (.t 58), none⟩]
abbrev l130_0 : AC := (.seq (.block 0 (.seq (.reg 2 r130_2) (.cond (.t 7) (.seq (.reg 3 r130_3) .ret) (.seq (.reg 4 r130_4) (.cond (.t 15) (.seq (.reg 5 r130_5) (.goto 0)) (.seq (.reg 6 r130_6) (.cond (.t 25) (.seq (.reg 7 r130_7) (.goto 0)) .skip))))))) (.seq (.reg 8 r130_8) (.seq (.reg 9 r130_9) (.seq (.reg 10 r130_10) .ret))))
abbrev c130_1 : AC := (.gscope 0 (.reg 1 r130_1) l130_0)
abbrev b130 : AC := (.seq (.reg 0 r130_0) c130_1)
def pf130 : AF := { nt := 59, res := [.tmp 2, .tmp 3], body := b130 }
abbrev I130_0 (prog : Prog) (d : Nat) (Q : AE → Sl → St → Prop) (st0 : St) (kp : Key) (vp : Nat) (n4 : Int) (mP : Sc) : Prop :=
  ∀ (σ : Sl) (st : St), σ 0 = .p kp vp 0 → σ 4 = .i .i64 n4 → lk st.bx kp = some (vp, [.s mP.left]) → Fr d kp st0.bx st0.ow st.bx st.ow → WG prog d 0 l130_0 σ st Q
def T130_2 (prog : Prog) (K : List UInt8 → Bool → Sc → Prop) (P0 : Int → Sc → Prop) (n4 : Int) (mP : Sc) : Prop :=
  (n4 ≥ (mP.left.length : Int) → K ([] : List UInt8) false mP) ∧ (¬(n4 ≥ (mP.left.length : Int)) → 0 ≤ n4 ∧ ∃ c'2 : UInt8, mP.left[(n4).toNat]? = some c'2 ∧ ((c'2.toNat : Int) = 92 → P0 (IntKind.i64.wrap (n4 + 2)) mP) ∧ (¬((c'2.toNat : Int) = 92) → 0 ≤ n4 ∧ ∃ c'5 : UInt8, mP.left[(n4).toNat]? = some c'5 ∧ ((c'5.toNat : Int) ≠ 34 → P0 (IntKind.i64.wrap (n4 + 1)) mP) ∧ (¬((c'5.toNat : Int) ≠ 34) → 0 ≤ (IntKind.i64.wrap (n4 + 1)) ∧ (IntKind.i64.wrap (n4 + 1)).toNat ≤ mP.left.length ∧ ∃ r'8 : List UInt8, ∃ r'9 : Int, Pus prog 25 [.s (mP.left.take (IntKind.i64.wrap (n4 + 1)).toNat)] (.tup [.s r'8, .i .i64 r'9]) ∧ 0 ≤ (IntKind.i64.wrap (n4 + 1)) ∧ (IntKind.i64.wrap (n4 + 1)).toNat ≤ mP.left.length ∧ K r'8 (decide (r'9 = 0)) (Sc.mk (mP.left.drop (IntKind.i64.wrap (n4 + 1)).toNat)))))
theorem w130_2 {prog : Prog} {d : Nat} {Q : AE → Sl → St → Prop} {K : List UInt8 → Bool → Sc → Prop} {st0 : St} {kp : Key} {vp : Nat} (hQ : ∀ (σ : Sl) (st : St) (x0 : List UInt8) (x1 : Bool) (b_ : Sc), σ 2 = .s x0 → σ 3 = .b x1 → lk st.bx kp = some (vp, [.s b_.left]) → Fr d kp st0.bx st0.ow st.bx st.ow → K x0 x1 b_ → Q .ret σ st) (hkp : kp.1 < d) {n4 : Int} {mP : Sc} {P0 : Int → Sc → Prop} (kP0 : ∀ (n4 : Int) (mP : Sc), P0 n4 mP → I130_0 prog d Q st0 kp vp  n4 mP) {σ : Sl} {st : St} (H0 : σ 0 = .p kp vp 0) (H4 : σ 4 = .i .i64 n4) (BP : lk st.bx kp = some (vp, [.s mP.left])) (FR : Fr d kp st0.bx st0.ow st.bx st.ow) (h : T130_2 prog K P0 n4 mP) : W prog d l130_0 σ st (jumpW prog d 0 l130_0 Q) :=
  W.seq (W.block (W.seq (W.reg0 rfl fun _ _ => s_mvI H4 (s_mv H0 (s_nilP rfl (s_fadP rfl (s_loadP rfl BP rfl rfl (s_lenS rfl (s_bin rfl rfl (abin_geq _ _ _) (s_mvB rfl (s_nil (c_split rfl (fun g'1 => W.seq (W.reg0 rfl fun _ _ => s_mvS rfl (s_mvB rfl (s_nil (W.ret (hQ _ _   _ _ _ rfl rfl BP FR  (h.1 g'1))))))) (fun g'1 => W.seq (W.reg0 rfl fun _ _ => s_mv H0 (s_nilP rfl (s_fadP rfl (s_loadP rfl BP rfl rfl (s_mvI H4 ((h.2 g'1).2.elim fun c'2 e'3 => s_ixS rfl rfl (h.2 g'1).1 e'3.1 (s_bin rfl rfl (abin_eql _ _ _) (s_mvB rfl (s_nil (c_split rfl (fun g'4 => W.seq (W.reg0 rfl fun _ _ => s_mvI H4 (s_bin rfl rfl (abin_add _ _ _) (s_mvI rfl (s_nil (W.goto ⟨rfl, kP0 _ _ (e'3.2.1 g'4) _ _  H0 rfl BP FR⟩)))))) (fun g'4 => W.seq (W.reg0 rfl fun _ _ => s_mv H0 (s_nilP rfl (s_fadP rfl (s_loadP rfl BP rfl rfl (s_mvI H4 ((e'3.2.2 g'4).2.elim fun c'5 e'6 => s_ixS rfl rfl (e'3.2.2 g'4).1 e'6.1 (s_bin rfl rfl (abin_neq _ _ _) (s_mvB rfl (s_nil (c_split rfl (fun g'7 => W.seq (W.reg0 rfl fun _ _ => s_mvI H4 (s_bin rfl rfl (abin_add _ _ _) (s_mvI rfl (s_nil (W.goto ⟨rfl, kP0 _ _ (e'6.2.1 g'7) _ _  H0 rfl BP FR⟩)))))) (fun g'7 => W.skip (W.seq (W.reg0 rfl fun _ _ => s_mv H0 (s_nilP rfl (s_fadP rfl (s_loadP rfl BP rfl rfl (s_mvI H4 (s_bin rfl rfl (abin_add _ _ _) (s_slS_hi rfl rfl (e'6.2.2 g'7).1 (e'6.2.2 g'7).2.1 ((e'6.2.2 g'7).2.2.elim fun r'8 e'11 => e'11.elim fun r'9 e'10 => s_call (sc rfl rfl sn) e'10.1 (s_mvT rfl (s_ext rfl rfl (s_ext rfl rfl (s_mvS rfl (s_mvI rfl (s_nil (W.seq (W.reg0 rfl fun _ _ => s_mv H0 (s_mv H0 (s_nilP rfl (s_fadP rfl (s_loadP rfl BP rfl rfl (s_mvI H4 (s_bin rfl rfl (abin_add _ _ _) (s_slS_lo rfl rfl e'10.2.1 e'10.2.2.1 (s_nilP rfl (s_fadP rfl (s_storeP rfl BP rfl rfl rfl (s_nil (W.seq (W.reg0 rfl fun _ _ => s_mvS rfl (s_mvI rfl (s_bin rfl rfl (abin_eql _ _ _) (s_mvS rfl (s_mvB rfl (s_nil (W.ret (hQ _ _   _ _ _ rfl rfl lk_here (Fr.own FR)  e'10.2.2.2))))))))))))))))))))))))))))))))))))))))))))))))))))))))))))))))))))))))
def T130_1 (prog : Prog) (K : List UInt8 → Bool → Sc → Prop) (mP : Sc) : Prop :=
  ∀ P0 : Int → Sc → Prop, (∀ (n4 : Int) (mP : Sc), T130_2 prog K P0 n4 mP → P0 n4 mP) → P0 1 mP
theorem w130_1 {prog : Prog} {d : Nat} {Q : AE → Sl → St → Prop} {K : List UInt8 → Bool → Sc → Prop} {st0 : St} {kp : Key} {vp : Nat} (hQ : ∀ (σ : Sl) (st : St) (x0 : List UInt8) (x1 : Bool) (b_ : Sc), σ 2 = .s x0 → σ 3 = .b x1 → lk st.bx kp = some (vp, [.s b_.left]) → Fr d kp st0.bx st0.ow st.bx st.ow → K x0 x1 b_ → Q .ret σ st) (hkp : kp.1 < d) {mP : Sc}   {σ : Sl} {st : St} (H0 : σ 0 = .p kp vp 0) (BP : lk st.bx kp = some (vp, [.s mP.left])) (FR : Fr d kp st0.bx st0.ow st.bx st.ow) (h : T130_1 prog K mP) : W prog d c130_1 σ st Q :=
  W.gscope' (W.reg0 rfl fun _ _ => s_mvI rfl (s_nil (h (I130_0 prog d Q st0 kp vp ) (fun _ _ hb _ _  H0 H4 BP FR => WG.step (w130_2 hQ hkp (fun _ _ x => x) H0 H4 BP FR hb)) _ _  H0 rfl BP FR)))
def T130_0 (prog : Prog) (K : List UInt8 → Bool → Sc → Prop) (mP : Sc) : Prop :=
  T130_1 prog K mP
theorem w130_0 {prog : Prog} {d : Nat} {Q : AE → Sl → St → Prop} {K : List UInt8 → Bool → Sc → Prop} {st0 : St} {kp : Key} {vp : Nat} (hQ : ∀ (σ : Sl) (st : St) (x0 : List UInt8) (x1 : Bool) (b_ : Sc), σ 2 = .s x0 → σ 3 = .b x1 → lk st.bx kp = some (vp, [.s b_.left]) → Fr d kp st0.bx st0.ow st.bx st.ow → K x0 x1 b_ → Q .ret σ st) (hkp : kp.1 < d) {mP : Sc}   {σ : Sl} {st : St} (H0 : σ 0 = .p kp vp 0) (BP : lk st.bx kp = some (vp, [.s mP.left])) (FR : Fr d kp st0.bx st0.ow st.bx st.ow) (h : T130_0 prog K mP) : W prog d (.seq (.reg 0 r130_0) c130_1) σ st Q :=
  W.seq (W.reg0 rfl fun _ _ => s_mvS rfl (s_mvB rfl (s_nil (w130_1  hQ hkp  H0 BP FR h))))
theorem p130 {prog : Prog} (hf : prog.fn 130 = some pf130) {mP : Sc} {K : List UInt8 → Bool → Sc → Prop} (h : T130_0 prog K mP) : PuXK prog 130 (Bx [.s mP.left]) [] (fun r (b_ : Sc) => ∃ x0 : List UInt8, ∃ x1 : Bool, (r = .tup [.s x0, .b x1]) ∧ K x0 x1 b_) (fun b_ => (Bx [.s b_.left])) :=
  PuXK.of hf rfl (fun _ => Bx.out) fun d st kp vp hkp hB => w130_0 (st0 := st) (Q := fun e σ st' => (e = .normal ∨ e = .ret) ∧ ∃ r b_, ares σ st' pf130.res = some r ∧ _ ∧ _ ∧ Fr d kp st.bx st.ow st'.bx st'.ow) (fun σ st'   x0 x1 b_ H2 H3 hb hf hk => ⟨.inr rfl, .tup [.s x0, .b x1], b_, by simp only [pf130, ares, aresL, H2, H3, ares1, Option.map_some, H2, H3], ⟨x0, x1, rfl, hk⟩, hb, hf⟩) hkp (σ := sl0 [.p kp vp 0]) rfl hB Fr.refl h

/-! (*wreckage/lines.scanner).number -/
def r131_0 : List AI := [⟨(some 2), .mv (.c (.i .i64 0)), none⟩,
  ⟨(some 3), .mv (.c (.b false)), none⟩]
def r131_1 : List AI := [⟨(some 4), .mv (.c (.i .i64 0)), none⟩]
def r131_2 : List AI := [⟨(some 7), .mv (.t 4), none⟩,
  ⟨(some 8), .mv (.t 0), none⟩,
  ⟨(some 9), .nilc (.t 8), none⟩,
  ⟨(some 10), .fad 0 (.t 9), none⟩,
  ⟨(some 11), .load 1 false (.t 10), none⟩,
  ⟨(some 12), .len true (.t 11), none⟩,
  ⟨(some 13), .bin .lss (.t 7) (.t 12), none⟩,
  ⟨(some 14), .mv (.t 13), none⟩,
  ⟨(some 15), .mv (.t 0), (some (14, true))⟩,
  ⟨(some 16), .nilc (.t 15), (some (14, true))⟩,
  ⟨(some 17), .fad 0 (.t 16), (some (14, true))⟩,
  ⟨(some 18), .load 1 false (.t 17), (some (14, true))⟩,
  ⟨(some 19), .mv (.t 4), (some (14, true))⟩,
  ⟨(some 20), .ixS (.t 18) (.t 19), (some (14, true))⟩,
  ⟨(some 21), .bin .geq (.t 20) (.c (.i .u8 48)), (some (14, true))⟩,
  ⟨(some 22), .mv (.t 21), (some (14, true))⟩,
  ⟨(some 23), .mv (.t 0), (some (22, true))⟩,
  ⟨(some 24), .nilc (.t 23), (some (22, true))⟩,
  ⟨(some 25), .fad 0 (.t 24), (some (22, true))⟩,
  ⟨(some 26), .load 1 false (.t 25), (some (22, true))⟩,
  ⟨(some 27), .mv (.t 4), (some (22, true))⟩,
  ⟨(some 28), .ixS (.t 26) (.t 27), (some (22, true))⟩,
  ⟨(some 29), .bin .leq (.t 28) (.c (.i .u8 57)), (some (22, true))⟩,
  ⟨(some 30), .pick (.t 22) (.t 29) (.c (.b false)), (some (14, true))⟩,
  ⟨(some 31), .mv (.t 30), (some (14, true))⟩,
  ⟨(some 32), .mv (.t 4), (some (31, false))⟩,
  ⟨(some 33), .bin .eql (.t 32) (.c (.i .i64 0)), (some (31, false))⟩,
  ⟨(some 34), .mv (.t 33), (some (31, false))⟩,
  ⟨(some 35), .mv (.t 0), (some (34, true))⟩,
  ⟨(some 36), .nilc (.t 35), (some (34, true))⟩,
  ⟨(some 37), .fad 0 (.t 36), (some (34, true))⟩,
  ⟨(some 38), .load 1 false (.t 37), (some (34, true))⟩,
  ⟨(some 39), .mv (.t 4), (some (34, true))⟩,
  ⟨(some 40), .ixS (.t 38) (.t 39), (some (34, true))⟩,
  ⟨(some 41), .bin .eql (.t 40) (.c (.i .u8 45)), (some (34, true))⟩,
  ⟨(some 42), .pick (.t 34) (.t 41) (.c (.b false)), (some (31, false))⟩,
  ⟨(some 43), .pick (.t 31) (.c (.b true)) (.t 42), (some (14, true))⟩,
  ⟨(some 44), .pick (.t 14) (.t 43) (.c (.b false)), none⟩]
def r131_3 : List AI := [⟨(some 45), .mv (.t 4), none⟩,
  ⟨(some 46), .bin .add (.t 45) (.c (.i .i64 1)), none⟩,
  ⟨(some 4), .mv (.t 46), none⟩]
def r131_4 : List AI := [⟨(some 48), .mv (.t 0), none⟩,
  ⟨(some 49), .nilc (.t 48), none⟩,
  ⟨(some 50), .fad 0 (.t 49), none⟩,
  ⟨(some 51), .load 1 false (.t 50), none⟩,
  ⟨(some 52), .mv (.t 4), none⟩,
  ⟨(some 53), .slS (.t 51) none (some (.t 52)), none⟩,
  ⟨(some 54), .call false 21 [(.t 53)], none⟩,
  ⟨(some 47), .mv (.t 54), none⟩,
  ⟨(some 55), .ext 0 (.t 47), none⟩,
  ⟨(some 56), .ext 1 (.t 47), none⟩,
  ⟨(some 5), .mv (.t 55), none⟩,
  ⟨(some 6), .mv (.t 56), none⟩]
def r131_5 : List AI := [⟨(some 57), .mv (.t 0), none⟩,
  ⟨(some 58), .mv (.t 0), none⟩,
  ⟨(some 59), .nilc (.t 58), none⟩,
  ⟨(some 60), .fad 0 (.t 59), none⟩,
  ⟨(some 61), .load 1 false (.t 60), none⟩,
  ⟨(some 62), .mv (.t 4), none⟩,
  ⟨(some 63), .slS (.t 61) (some (.t 62)) none, none⟩,
  ⟨(some 64), .nilc (.t 57), none⟩,
  ⟨(some 65), .fad 0 (.t 64), none⟩,
  ⟨none, .store 1 (.t 65) (.t 63), none⟩]
def r131_6 : List AI := [⟨(some 66), .mv (.t 5), none⟩,
  ⟨(some 67), .mv (.t 6), none⟩,
  ⟨(some 68), .bin .eql (.t 67) (.c (.i .i64 0)), none⟩,
  ⟨(some 2), .mv (.t 66), none⟩,
  ⟨(some 3), .mv (.t 68), none⟩]
abbrev l131_0 : AC := (.seq (.seq (.reg 2 r131_2) (.cond (.t 44) (.seq (.reg 3 r131_3) (.goto 0)) .skip)) (.seq (.reg 4 r131_4) (.seq (.reg 5 r131_5) (.seq (.reg 6 r131_6) .ret))))
abbrev c131_1 : AC := (.gscope 0 (.reg 1 r131_1) l131_0)
abbrev b131 : AC := (.seq (.reg 0 r131_0) c131_1)
def pf131 : AF := { nt := 69, res := [.tmp 2, .tmp 3], body := b131 }
abbrev I131_0 (prog : Prog) (d : Nat) (Q : AE → Sl → St → Prop) (st0 : St) (kp : Key) (vp : Nat) (n4 : Int) (mP : Sc) : Prop :=
  ∀ (σ : Sl) (st : St), σ 0 = .p kp vp 0 → σ 4 = .i .i64 n4 → lk st.bx kp = some (vp, [.s mP.left]) → Fr d kp st0.bx st0.ow st.bx st.ow → WG prog d 0 l131_0 σ st Q
def T131_2 (prog : Prog) (K : Int → Bool → Sc → Prop) (P0 : Int → Sc → Prop) (n4 : Int) (mP : Sc) : Prop :=
  (n4 < (mP.left.length : Int) → 0 ≤ n4 ∧ ∃ c'2 : UInt8, mP.left[(n4).toNat]? = some c'2 ∧ ((c'2.toNat : Int) ≥ 48 → 0 ≤ n4 ∧ ∃ c'5 : UInt8, mP.left[(n4).toNat]? = some c'5 ∧ ((c'5.toNat : Int) ≤ 57 → P0 (IntKind.i64.wrap (n4 + 1)) mP) ∧ (¬((c'5.toNat : Int) ≤ 57) → (n4 = 0 → 0 ≤ n4 ∧ ∃ c'9 : UInt8, mP.left[(n4).toNat]? = some c'9 ∧ ((c'9.toNat : Int) = 45 → P0 (IntKind.i64.wrap (n4 + 1)) mP) ∧ (¬((c'9.toNat : Int) = 45) → 0 ≤ n4 ∧ (n4).toNat ≤ mP.left.length ∧ ∃ r'12 : Int, ∃ r'13 : Int, Pus prog 21 [.s (mP.left.take (n4).toNat)] (.tup [.i .i64 r'12, .i .i64 r'13]) ∧ 0 ≤ n4 ∧ (n4).toNat ≤ mP.left.length ∧ K r'12 (decide (r'13 = 0)) (Sc.mk (mP.left.drop (n4).toNat)))) ∧ (¬(n4 = 0) → 0 ≤ n4 ∧ (n4).toNat ≤ mP.left.length ∧ ∃ r'16 : Int, ∃ r'17 : Int, Pus prog 21 [.s (mP.left.take (n4).toNat)] (.tup [.i .i64 r'16, .i .i64 r'17]) ∧ 0 ≤ n4 ∧ (n4).toNat ≤ mP.left.length ∧ K r'16 (decide (r'17 = 0)) (Sc.mk (mP.left.drop (n4).toNat))))) ∧ (¬((c'2.toNat : Int) ≥ 48) → (n4 = 0 → 0 ≤ n4 ∧ ∃ c'21 : UInt8, mP.left[(n4).toNat]? = some c'21 ∧ ((c'21.toNat : Int) = 45 → P0 (IntKind.i64.wrap (n4 + 1)) mP) ∧ (¬((c'21.toNat : Int) = 45) → 0 ≤ n4 ∧ (n4).toNat ≤ mP.left.length ∧ ∃ r'24 : Int, ∃ r'25 : Int, Pus prog 21 [.s (mP.left.take (n4).toNat)] (.tup [.i .i64 r'24, .i .i64 r'25]) ∧ 0 ≤ n4 ∧ (n4).toNat ≤ mP.left.length ∧ K r'24 (decide (r'25 = 0)) (Sc.mk (mP.left.drop (n4).toNat)))) ∧ (¬(n4 = 0) → 0 ≤ n4 ∧ (n4).toNat ≤ mP.left.length ∧ ∃ r'28 : Int, ∃ r'29 : Int, Pus prog 21 [.s (mP.left.take (n4).toNat)] (.tup [.i .i64 r'28, .i .i64 r'29]) ∧ 0 ≤ n4 ∧ (n4).toNat ≤ mP.left.length ∧ K r'28 (decide (r'29 = 0)) (Sc.mk (mP.left.drop (n4).toNat))))) ∧ (¬(n4 < (mP.left.length : Int)) → 0 ≤ n4 ∧ (n4).toNat ≤ mP.left.length ∧ ∃ r'32 : Int, ∃ r'33 : Int, Pus prog 21 [.s (mP.left.take (n4).toNat)] (.tup [.i .i64 r'32, .i .i64 r'33]) ∧ 0 ≤ n4 ∧ (n4).toNat ≤ mP.left.length ∧ K r'32 (decide (r'33 = 0)) (Sc.mk (mP.left.drop (n4).toNat)))
theorem w131_2 {prog : Prog} {d : Nat} {Q : AE → Sl → St → Prop} {K : Int → Bool → Sc → Prop} {st0 : St} {kp : Key} {vp : Nat} (hQ : ∀ (σ : Sl) (st : St) (x0 : Int) (x1 : Bool) (b_ : Sc), σ 2 = .i .i64 x0 → σ 3 = .b x1 → lk st.bx kp = some (vp, [.s b_.left]) → Fr d kp st0.bx st0.ow st.bx st.ow → K x0 x1 b_ → Q .ret σ st) (hkp : kp.1 < d) {n4 : Int} {mP : Sc} {P0 : Int → Sc → Prop} (kP0 : ∀ (n4 : Int) (mP : Sc), P0 n4 mP → I131_0 prog d Q st0 kp vp  n4 mP) {σ : Sl} {st : St} (H0 : σ 0 = .p kp vp 0) (H4 : σ 4 = .i .i64 n4) (BP : lk st.bx kp = some (vp, [.s mP.left])) (FR : Fr d kp st0.bx st0.ow st.bx st.ow) (h : T131_2 prog K P0 n4 mP) : W prog d l131_0 σ st (jumpW prog d 0 l131_0 Q) :=
  W.seq (W.seq (W.reg0 rfl fun _ _ => s_mvI H4 (s_mv H0 (s_nilP rfl (s_fadP rfl (s_loadP rfl BP rfl rfl (s_lenS rfl (s_bin rfl rfl (abin_lss _ _ _) (s_mvB rfl (s_em (g := 14) rfl (fun g'1 => s_gy rfl (s_mv H0 (s_gy rfl (s_nilP rfl (s_gy rfl (s_fadP rfl (s_gy rfl (s_loadP rfl BP rfl rfl (s_gy rfl (s_mvI H4 (s_gy rfl ((h.1 g'1).2.elim fun c'2 e'3 => s_ixS rfl rfl (h.1 g'1).1 e'3.1 (s_gy rfl (s_bin rfl rfl (abin_geq _ _ _) (s_gy rfl (s_mvB rfl (s_em (g := 22) rfl (fun g'4 => s_gy rfl (s_mv H0 (s_gy rfl (s_nilP rfl (s_gy rfl (s_fadP rfl (s_gy rfl (s_loadP rfl BP rfl rfl (s_gy rfl (s_mvI H4 (s_gy rfl ((e'3.2.1 g'4).2.elim fun c'5 e'6 => s_ixS rfl rfl (e'3.2.1 g'4).1 e'6.1 (s_gy rfl (s_bin rfl rfl (abin_leq _ _ _) (s_gy rfl (s_pickTB rfl rfl (s_gy rfl (s_mvB rfl (s_em (g := 31) rfl (fun g'7 => s_gn (b := true) rfl rfl (s_gn (b := true) rfl rfl (s_gn (b := true) rfl rfl (s_gt rfl (s_gt rfl (s_gt rfl (s_gt rfl (s_gt rfl (s_gt rfl (s_gt rfl (s_gn (b := true) rfl rfl (s_gy rfl (s_pickTB rfl rfl (s_pickTB rfl rfl (s_nil (c_tt rfl (W.seq (W.reg0 rfl fun _ _ => s_mvI H4 (s_bin rfl rfl (abin_add _ _ _) (s_mvI rfl (s_nil (W.goto ⟨rfl, kP0 _ _ (e'6.2.1 g'7) _ _  H0 rfl BP FR⟩)))))))))))))))))))))) (fun g'7 => s_gy rfl (s_mvI H4 (s_gy rfl (s_bin rfl rfl (abin_eql _ _ _) (s_gy rfl (s_mvB rfl (s_em (g := 34) rfl (fun g'8 => s_gy rfl (s_mv H0 (s_gy rfl (s_nilP rfl (s_gy rfl (s_fadP rfl (s_gy rfl (s_loadP rfl BP rfl rfl (s_gy rfl (s_mvI H4 (s_gy rfl (((e'6.2.2 g'7).1 g'8).2.elim fun c'9 e'10 => s_ixS rfl rfl ((e'6.2.2 g'7).1 g'8).1 e'10.1 (s_gy rfl (s_bin rfl rfl (abin_eql _ _ _) (s_gy rfl (s_pickTB rfl rfl (s_gy rfl (s_pickFB rfl rfl (s_pickTB rfl rfl (s_nil (c_split rfl (fun g'11 => W.seq (W.reg0 rfl fun _ _ => s_mvI H4 (s_bin rfl rfl (abin_add _ _ _) (s_mvI rfl (s_nil (W.goto ⟨rfl, kP0 _ _ (e'10.2.1 g'11) _ _  H0 rfl BP FR⟩)))))) (fun g'11 => W.skip (W.seq (W.reg0 rfl fun _ _ => s_mv H0 (s_nilP rfl (s_fadP rfl (s_loadP rfl BP rfl rfl (s_mvI H4 (s_slS_hi rfl rfl (e'10.2.2 g'11).1 (e'10.2.2 g'11).2.1 ((e'10.2.2 g'11).2.2.elim fun r'12 e'15 => e'15.elim fun r'13 e'14 => s_call (sc rfl rfl sn) e'14.1 (s_mvT rfl (s_ext rfl rfl (s_ext rfl rfl (s_mvI rfl (s_mvI rfl (s_nil (W.seq (W.reg0 rfl fun _ _ => s_mv H0 (s_mv H0 (s_nilP rfl (s_fadP rfl (s_loadP rfl BP rfl rfl (s_mvI H4 (s_slS_lo rfl rfl e'14.2.1 e'14.2.2.1 (s_nilP rfl (s_fadP rfl (s_storeP rfl BP rfl rfl rfl (s_nil (W.seq (W.reg0 rfl fun _ _ => s_mvI rfl (s_mvI rfl (s_bin rfl rfl (abin_eql _ _ _) (s_mvI rfl (s_mvB rfl (s_nil (W.ret (hQ _ _   _ _ _ rfl rfl lk_here (Fr.own FR)  e'14.2.2.2))))))))))))))))))))))))))))))))))))))))))))))))))))))))) (fun g'8 => s_gn (b := false) rfl rfl (s_gn (b := false) rfl rfl (s_gn (b := false) rfl rfl (s_gn (b := false) rfl rfl (s_gn (b := false) rfl rfl (s_gn (b := false) rfl rfl (s_gn (b := false) rfl rfl (s_gy rfl (s_pickFB rfl rfl (s_gy rfl (s_pickFB rfl rfl (s_pickTB rfl rfl (s_nil (c_ff rfl (W.skip (W.seq (W.reg0 rfl fun _ _ => s_mv H0 (s_nilP rfl (s_fadP rfl (s_loadP rfl BP rfl rfl (s_mvI H4 (s_slS_hi rfl rfl ((e'6.2.2 g'7).2 g'8).1 ((e'6.2.2 g'7).2 g'8).2.1 (((e'6.2.2 g'7).2 g'8).2.2.elim fun r'16 e'19 => e'19.elim fun r'17 e'18 => s_call (sc rfl rfl sn) e'18.1 (s_mvT rfl (s_ext rfl rfl (s_ext rfl rfl (s_mvI rfl (s_mvI rfl (s_nil (W.seq (W.reg0 rfl fun _ _ => s_mv H0 (s_mv H0 (s_nilP rfl (s_fadP rfl (s_loadP rfl BP rfl rfl (s_mvI H4 (s_slS_lo rfl rfl e'18.2.1 e'18.2.2.1 (s_nilP rfl (s_fadP rfl (s_storeP rfl BP rfl rfl rfl (s_nil (W.seq (W.reg0 rfl fun _ _ => s_mvI rfl (s_mvI rfl (s_bin rfl rfl (abin_eql _ _ _) (s_mvI rfl (s_mvB rfl (s_nil (W.ret (hQ _ _   _ _ _ rfl rfl lk_here (Fr.own FR)  e'18.2.2.2)))))))))))))))))))))))))))))))))))))))))))))))))))))))))))))))))))))))))))) (fun g'4 => s_gn (b := false) rfl rfl (s_gn (b := false) rfl rfl (s_gn (b := false) rfl rfl (s_gn (b := false) rfl rfl (s_gn (b := false) rfl rfl (s_gn (b := false) rfl rfl (s_gn (b := false) rfl rfl (s_gy rfl (s_pickFB rfl rfl (s_gy rfl (s_mvB rfl (s_gy rfl (s_mvI H4 (s_gy rfl (s_bin rfl rfl (abin_eql _ _ _) (s_gy rfl (s_mvB rfl (s_em (g := 34) rfl (fun g'20 => s_gy rfl (s_mv H0 (s_gy rfl (s_nilP rfl (s_gy rfl (s_fadP rfl (s_gy rfl (s_loadP rfl BP rfl rfl (s_gy rfl (s_mvI H4 (s_gy rfl (((e'3.2.2 g'4).1 g'20).2.elim fun c'21 e'22 => s_ixS rfl rfl ((e'3.2.2 g'4).1 g'20).1 e'22.1 (s_gy rfl (s_bin rfl rfl (abin_eql _ _ _) (s_gy rfl (s_pickTB rfl rfl (s_gy rfl (s_pickFB rfl rfl (s_pickTB rfl rfl (s_nil (c_split rfl (fun g'23 => W.seq (W.reg0 rfl fun _ _ => s_mvI H4 (s_bin rfl rfl (abin_add _ _ _) (s_mvI rfl (s_nil (W.goto ⟨rfl, kP0 _ _ (e'22.2.1 g'23) _ _  H0 rfl BP FR⟩)))))) (fun g'23 => W.skip (W.seq (W.reg0 rfl fun _ _ => s_mv H0 (s_nilP rfl (s_fadP rfl (s_loadP rfl BP rfl rfl (s_mvI H4 (s_slS_hi rfl rfl (e'22.2.2 g'23).1 (e'22.2.2 g'23).2.1 ((e'22.2.2 g'23).2.2.elim fun r'24 e'27 => e'27.elim fun r'25 e'26 => s_call (sc rfl rfl sn) e'26.1 (s_mvT rfl (s_ext rfl rfl (s_ext rfl rfl (s_mvI rfl (s_mvI rfl (s_nil (W.seq (W.reg0 rfl fun _ _ => s_mv H0 (s_mv H0 (s_nilP rfl (s_fadP rfl (s_loadP rfl BP rfl rfl (s_mvI H4 (s_slS_lo rfl rfl e'26.2.1 e'26.2.2.1 (s_nilP rfl (s_fadP rfl (s_storeP rfl BP rfl rfl rfl (s_nil (W.seq (W.reg0 rfl fun _ _ => s_mvI rfl (s_mvI rfl (s_bin rfl rfl (abin_eql _ _ _) (s_mvI rfl (s_mvB rfl (s_nil (W.ret (hQ _ _   _ _ _ rfl rfl lk_here (Fr.own FR)  e'26.2.2.2))))))))))))))))))))))))))))))))))))))))))))))))))))))))) (fun g'20 => s_gn (b := false) rfl rfl (s_gn (b := false) rfl rfl (s_gn (b := false) rfl rfl (s_gn (b := false) rfl rfl (s_gn (b := false) rfl rfl (s_gn (b := false) rfl rfl (s_gn (b := false) rfl rfl (s_gy rfl (s_pickFB rfl rfl (s_gy rfl (s_pickFB rfl rfl (s_pickTB rfl rfl (s_nil (c_ff rfl (W.skip (W.seq (W.reg0 rfl fun _ _ => s_mv H0 (s_nilP rfl (s_fadP rfl (s_loadP rfl BP rfl rfl (s_mvI H4 (s_slS_hi rfl rfl ((e'3.2.2 g'4).2 g'20).1 ((e'3.2.2 g'4).2 g'20).2.1 (((e'3.2.2 g'4).2 g'20).2.2.elim fun r'28 e'31 => e'31.elim fun r'29 e'30 => s_call (sc rfl rfl sn) e'30.1 (s_mvT rfl (s_ext rfl rfl (s_ext rfl rfl (s_mvI rfl (s_mvI rfl (s_nil (W.seq (W.reg0 rfl fun _ _ => s_mv H0 (s_mv H0 (s_nilP rfl (s_fadP rfl (s_loadP rfl BP rfl rfl (s_mvI H4 (s_slS_lo rfl rfl e'30.2.1 e'30.2.2.1 (s_nilP rfl (s_fadP rfl (s_storeP rfl BP rfl rfl rfl (s_nil (W.seq (W.reg0 rfl fun _ _ => s_mvI rfl (s_mvI rfl (s_bin rfl rfl (abin_eql _ _ _) (s_mvI rfl (s_mvB rfl (s_nil (W.ret (hQ _ _   _ _ _ rfl rfl lk_here (Fr.own FR)  e'30.2.2.2))))))))))))))))))))))))))))))))))))))))))))))))))))))))))))))))))))))))))))))))))))) (fun g'1 => s_gn (b := false) rfl rfl (s_gn (b := false) rfl rfl (s_gn (b := false) rfl rfl (s_gn (b := false) rfl rfl (s_gn (b := false) rfl rfl (s_gn (b := false) rfl rfl (s_gn (b := false) rfl rfl (s_gn (b := false) rfl rfl (s_gt rfl (s_gt rfl (s_gt rfl (s_gt rfl (s_gt rfl (s_gt rfl (s_gt rfl (s_gn (b := false) rfl rfl (s_gn (b := false) rfl rfl (s_gt rfl (s_gt rfl (s_gt rfl (s_gt rfl (s_gt rfl (s_gt rfl (s_gt rfl (s_gt rfl (s_gt rfl (s_gt rfl (s_gt rfl (s_gn (b := false) rfl rfl (s_pickFB rfl rfl (s_nil (c_ff rfl (W.skip (W.seq (W.reg0 rfl fun _ _ => s_mv H0 (s_nilP rfl (s_fadP rfl (s_loadP rfl BP rfl rfl (s_mvI H4 (s_slS_hi rfl rfl (h.2 g'1).1 (h.2 g'1).2.1 ((h.2 g'1).2.2.elim fun r'32 e'35 => e'35.elim fun r'33 e'34 => s_call (sc rfl rfl sn) e'34.1 (s_mvT rfl (s_ext rfl rfl (s_ext rfl rfl (s_mvI rfl (s_mvI rfl (s_nil (W.seq (W.reg0 rfl fun _ _ => s_mv H0 (s_mv H0 (s_nilP rfl (s_fadP rfl (s_loadP rfl BP rfl rfl (s_mvI H4 (s_slS_lo rfl rfl e'34.2.1 e'34.2.2.1 (s_nilP rfl (s_fadP rfl (s_storeP rfl BP rfl rfl rfl (s_nil (W.seq (W.reg0 rfl fun _ _ => s_mvI rfl (s_mvI rfl (s_bin rfl rfl (abin_eql _ _ _) (s_mvI rfl (s_mvB rfl (s_nil (W.ret (hQ _ _   _ _ _ rfl rfl lk_here (Fr.own FR)  e'34.2.2.2))))))))))))))))))))))))))))))))))))))))))))))))))))))))))))))))))))))))))))))
def T131_1 (prog : Prog) (K : Int → Bool → Sc → Prop) (mP : Sc) : Prop :=
  ∀ P0 : Int → Sc → Prop, (∀ (n4 : Int) (mP : Sc), T131_2 prog K P0 n4 mP → P0 n4 mP) → P0 0 mP
theorem w131_1 {prog : Prog} {d : Nat} {Q : AE → Sl → St → Prop} {K : Int → Bool → Sc → Prop} {st0 : St} {kp : Key} {vp : Nat} (hQ : ∀ (σ : Sl) (st : St) (x0 : Int) (x1 : Bool) (b_ : Sc), σ 2 = .i .i64 x0 → σ 3 = .b x1 → lk st.bx kp = some (vp, [.s b_.left]) → Fr d kp st0.bx st0.ow st.bx st.ow → K x0 x1 b_ → Q .ret σ st) (hkp : kp.1 < d) {mP : Sc}   {σ : Sl} {st : St} (H0 : σ 0 = .p kp vp 0) (BP : lk st.bx kp = some (vp, [.s mP.left])) (FR : Fr d kp st0.bx st0.ow st.bx st.ow) (h : T131_1 prog K mP) : W prog d c131_1 σ st Q :=
  W.gscope' (W.reg0 rfl fun _ _ => s_mvI rfl (s_nil (h (I131_0 prog d Q st0 kp vp ) (fun _ _ hb _ _  H0 H4 BP FR => WG.step (w131_2 hQ hkp (fun _ _ x => x) H0 H4 BP FR hb)) _ _  H0 rfl BP FR)))
def T131_0 (prog : Prog) (K : Int → Bool → Sc → Prop) (mP : Sc) : Prop :=
  T131_1 prog K mP
theorem w131_0 {prog : Prog} {d : Nat} {Q : AE → Sl → St → Prop} {K : Int → Bool → Sc → Prop} {st0 : St} {kp : Key} {vp : Nat} (hQ : ∀ (σ : Sl) (st : St) (x0 : Int) (x1 : Bool) (b_ : Sc), σ 2 = .i .i64 x0 → σ 3 = .b x1 → lk st.bx kp = some (vp, [.s b_.left]) → Fr d kp st0.bx st0.ow st.bx st.ow → K x0 x1 b_ → Q .ret σ st) (hkp : kp.1 < d) {mP : Sc}   {σ : Sl} {st : St} (H0 : σ 0 = .p kp vp 0) (BP : lk st.bx kp = some (vp, [.s mP.left])) (FR : Fr d kp st0.bx st0.ow st.bx st.ow) (h : T131_0 prog K mP) : W prog d (.seq (.reg 0 r131_0) c131_1) σ st Q :=
  W.seq (W.reg0 rfl fun _ _ => s_mvI rfl (s_mvB rfl (s_nil (w131_1  hQ hkp  H0 BP FR h))))
theorem p131 {prog : Prog} (hf : prog.fn 131 = some pf131) {mP : Sc} {K : Int → Bool → Sc → Prop} (h : T131_0 prog K mP) : PuXK prog 131 (Bx [.s mP.left]) [] (fun r (b_ : Sc) => ∃ x0 : Int, ∃ x1 : Bool, (r = .tup [.i .i64 x0, .b x1]) ∧ K x0 x1 b_) (fun b_ => (Bx [.s b_.left])) :=
  PuXK.of hf rfl (fun _ => Bx.out) fun d st kp vp hkp hB => w131_0 (st0 := st) (Q := fun e σ st' => (e = .normal ∨ e = .ret) ∧ ∃ r b_, ares σ st' pf131.res = some r ∧ _ ∧ _ ∧ Fr d kp st.bx st.ow st'.bx st'.ow) (fun σ st'   x0 x1 b_ H2 H3 hb hf hk => ⟨.inr rfl, .tup [.i .i64 x0, .b x1], b_, by simp only [pf131, ares, aresL, H2, H3, ares1, Option.map_some, H2, H3], ⟨x0, x1, rfl, hk⟩, hb, hf⟩) hkp (σ := sl0 [.p kp vp 0]) rfl hB Fr.refl h

/-! wreckage/wreckagelaw38.LinesValues -/
def r66_0 : List AI := [⟨(some 2), .box 5 (.t 0), none⟩,
  ⟨(some 4), .mv (.c (.b false)), none⟩]
def r66_1 : List AI := [⟨(some 13), .load 5 true (.t 2), none⟩,
  ⟨(some 14), .call false 71 [(.t 13)], none⟩,
  ⟨(some 15), .mv (.t 14), none⟩,
  ⟨(some 16), .mv (.t 1), (some (15, false))⟩,
  ⟨(some 17), .len true (.t 16), (some (15, false))⟩,
  ⟨(some 18), .bin .gtr (.t 17) (.c (.i .i64 3000)), (some (15, false))⟩,
  ⟨(some 19), .mv (.t 18), (some (15, false))⟩,
  ⟨(some 20), .mv (.t 1), (some (19, true))⟩,
  ⟨(some 21), .len true (.t 20), (some (19, true))⟩,
  ⟨(some 22), .bin .leq (.t 21) (.c (.i .i64 1400000)), (some (19, true))⟩,
  ⟨(some 23), .pick (.t 19) (.t 22) (.c (.b false)), (some (15, false))⟩,
  ⟨(some 24), .pick (.t 15) (.c (.b true)) (.t 23), none⟩,
  ⟨(some 25), .mv (.t 24), none⟩,
  ⟨(some 26), .mv (.t 1), (some (25, false))⟩,
  ⟨(some 27), .len true (.t 26), (some (25, false))⟩,
  ⟨(some 28), .bin .gtr (.t 27) (.c (.i .i64 1400200)), (some (25, false))⟩,
  ⟨(some 29), .pick (.t 25) (.c (.b true)) (.t 28), none⟩]
def r66_2 : List AI := [⟨(some 4), .mv (.c (.b true)), none⟩]
def r66_3 : List AI := [⟨(some 31), .load 5 true (.t 2), none⟩,
  ⟨(some 32), .call false 72 [(.t 31)], none⟩,
  ⟨(some 30), .mv (.t 32), none⟩,
  ⟨(some 33), .ext 0 (.t 30), none⟩,
  ⟨(some 34), .ext 1 (.t 30), none⟩,
  ⟨(some 5), .mv (.t 33), none⟩,
  ⟨(some 6), .mv (.t 34), none⟩]
def r66_4 : List AI := [⟨(some 36), .load 5 true (.t 2), none⟩,
  ⟨(some 37), .call false 73 [(.t 36)], none⟩,
  ⟨(some 35), .mv (.t 37), none⟩,
  ⟨(some 38), .ext 0 (.t 35), none⟩,
  ⟨(some 39), .ext 1 (.t 35), none⟩,
  ⟨(some 7), .mv (.t 38), none⟩,
  ⟨(some 8), .mv (.t 39), none⟩]
def r66_5 : List AI := [⟨(some 41), .mv (.t 1), none⟩,
  ⟨(some 42), .call false 74 [(.t 41)], none⟩,
  ⟨(some 40), .mv (.t 42), none⟩,
  ⟨(some 43), .ext 0 (.t 40), none⟩,
  ⟨(some 44), .ext 1 (.t 40), none⟩,
  ⟨(some 9), .alloc [.i .u8 0, .i .i64 0, .s [], .sl .full [], .b false], none⟩,
  ⟨none, .store 5 (.t 9) (.t 43), none⟩,
  ⟨(some 10), .mv (.t 44), none⟩]
def r66_6 : List AI := [⟨(some 46), .mv (.t 1), none⟩,
  ⟨(some 47), .call false 75 [(.t 46)], none⟩,
  ⟨(some 45), .mv (.t 47), none⟩,
  ⟨(some 48), .ext 0 (.t 45), none⟩,
  ⟨(some 49), .ext 1 (.t 45), none⟩,
  ⟨(some 11), .alloc [.i .u8 0, .i .i64 0, .s [], .sl .full [], .b false], none⟩,
  ⟨none, .store 5 (.t 11) (.t 48), none⟩,
  ⟨(some 12), .mv (.t 49), none⟩]
def r66_7 : List AI := [⟨(some 50), .load 5 true (.t 2), none⟩,
  ⟨(some 51), .call false 76 [(.t 50)], none⟩,
  ⟨(some 52), .load 5 true (.t 2), none⟩,
  ⟨(some 53), .call false 77 [(.t 52)], none⟩,
  ⟨(some 54), .bin .eql (.t 51) (.t 53), none⟩,
  ⟨(some 55), .mv (.t 54), none⟩,
  ⟨(some 56), .mv (.t 5), (some (55, true))⟩,
  ⟨(some 57), .mv (.t 7), (some (55, true))⟩,
  ⟨(some 58), .bin .eql (.t 56) (.t 57), (some (55, true))⟩,
  ⟨(some 59), .pick (.t 55) (.t 58) (.c (.b false)), none⟩,
  ⟨(some 60), .mv (.t 59), none⟩,
  ⟨(some 61), .mv (.t 6), (some (60, true))⟩,
  ⟨(some 62), .mv (.t 8), (some (60, true))⟩,
  ⟨(some 63), .bin .eql (.t 61) (.t 62), (some (60, true))⟩,
  ⟨(some 64), .pick (.t 60) (.t 63) (.c (.b false)), none⟩,
  ⟨(some 65), .mv (.t 64), none⟩,
  ⟨(some 66), .load 5 true (.t 9), (some (65, true))⟩,
  ⟨(some 67), .load 5 true (.t 11), (some (65, true))⟩,
  ⟨(some 68), .call false 78 [(.t 66), (.t 67)], (some (65, true))⟩,
  ⟨(some 69), .pick (.t 65) (.t 68) (.c (.b false)), none⟩,
  ⟨(some 70), .mv (.t 69), none⟩,
  ⟨(some 71), .mv (.t 10), (some (70, true))⟩,
  ⟨(some 72), .mv (.t 12), (some (70, true))⟩,
  ⟨(some 73), .bin .eql (.t 71) (.t 72), (some (70, true))⟩,
  ⟨(some 74), .pick (.t 70) (.t 73) (.c (.b false)), none⟩,
  ⟨(some 4), .mv (.t 74), none⟩]
abbrev c66_0 : AC := (.seq (.seq (.reg 1 r66_1) (.cond (.t 29) (.seq (.reg 2 r66_2) .ret) .skip)) (.seq (.reg 3 r66_3) (.seq (.reg 4 r66_4) (.seq (.reg 5 r66_5) (.seq (.reg 6 r66_6) (.seq (.reg 7 r66_7) .ret))))))
abbrev b66 : AC := (.seq (.reg 0 r66_0) c66_0)
def pf66 : AF := { nt := 75, res := [.tmp 4], body := b66 }
def T66_1 (prog : Prog) (K : Bool → Prop) (s1 : List UInt8) (m0 : Val) : Prop :=
  ∃ r'1 : Bool, Pus prog 71 [.ag [.i .u8 m0.kind, .i .i64 m0.int, .s m0.text, .sl .ext (List.map Val.row m0.list), .b m0.cut]] (.b r'1) ∧ (r'1 = true → K true) ∧ (r'1 = false → ((s1.length : Int) > 3000 → ((s1.length : Int) ≤ 1400000 → K true) ∧ (¬((s1.length : Int) ≤ 1400000) → ((s1.length : Int) > 1400200 → K true) ∧ (¬((s1.length : Int) > 1400200) → ∃ r'7 : List UInt8, ∃ r'8 : Int, Pus prog 72 [.ag [.i .u8 m0.kind, .i .i64 m0.int, .s m0.text, .sl .ext (List.map Val.row m0.list), .b m0.cut]] (.tup [.s r'7, .i .i64 r'8]) ∧ ∃ r'10 : List UInt8, ∃ r'11 : Int, Pus prog 73 [.ag [.i .u8 m0.kind, .i .i64 m0.int, .s m0.text, .sl .ext (List.map Val.row m0.list), .b m0.cut]] (.tup [.s r'10, .i .i64 r'11]) ∧ ∃ r'13 : Val, ∃ r'14 : Int, Pus prog 74 [.s s1] (.tup [.ag [.i .u8 r'13.kind, .i .i64 r'13.int, .s r'13.text, .sl .ext (List.map Val.row r'13.list), .b r'13.cut], .i .i64 r'14]) ∧ ∃ r'16 : Val, ∃ r'17 : Int, Pus prog 75 [.s s1] (.tup [.ag [.i .u8 r'16.kind, .i .i64 r'16.int, .s r'16.text, .sl .ext (List.map Val.row r'16.list), .b r'16.cut], .i .i64 r'17]) ∧ ∃ r'19 : Int, Pus prog 76 [.ag [.i .u8 m0.kind, .i .i64 m0.int, .s m0.text, .sl .ext (List.map Val.row m0.list), .b m0.cut]] (.i .i64 r'19) ∧ ∃ r'21 : Int, Pus prog 77 [.ag [.i .u8 m0.kind, .i .i64 m0.int, .s m0.text, .sl .ext (List.map Val.row m0.list), .b m0.cut]] (.i .i64 r'21) ∧ (r'19 = r'21 → (r'7 = r'10 → (r'8 = r'11 → ∃ r'26 : Bool, Pus prog 78 [.ag [.i .u8 r'13.kind, .i .i64 r'13.int, .s r'13.text, .sl .ext (List.map Val.row r'13.list), .b r'13.cut], .ag [.i .u8 r'16.kind, .i .i64 r'16.int, .s r'16.text, .sl .ext (List.map Val.row r'16.list), .b r'16.cut]] (.b r'26) ∧ (r'26 = true → K (decide (r'14 = r'17))) ∧ (r'26 = false → K false)) ∧ (¬(r'8 = r'11) → K false)) ∧ (¬(r'7 = r'10) → K false)) ∧ (¬(r'19 = r'21) → K false)))) ∧ (¬((s1.length : Int) > 3000) → ((s1.length : Int) > 1400200 → K true) ∧ (¬((s1.length : Int) > 1400200) → ∃ r'34 : List UInt8, ∃ r'35 : Int, Pus prog 72 [.ag [.i .u8 m0.kind, .i .i64 m0.int, .s m0.text, .sl .ext (List.map Val.row m0.list), .b m0.cut]] (.tup [.s r'34, .i .i64 r'35]) ∧ ∃ r'37 : List UInt8, ∃ r'38 : Int, Pus prog 73 [.ag [.i .u8 m0.kind, .i .i64 m0.int, .s m0.text, .sl .ext (List.map Val.row m0.list), .b m0.cut]] (.tup [.s r'37, .i .i64 r'38]) ∧ ∃ r'40 : Val, ∃ r'41 : Int, Pus prog 74 [.s s1] (.tup [.ag [.i .u8 r'40.kind, .i .i64 r'40.int, .s r'40.text, .sl .ext (List.map Val.row r'40.list), .b r'40.cut], .i .i64 r'41]) ∧ ∃ r'43 : Val, ∃ r'44 : Int, Pus prog 75 [.s s1] (.tup [.ag [.i .u8 r'43.kind, .i .i64 r'43.int, .s r'43.text, .sl .ext (List.map Val.row r'43.list), .b r'43.cut], .i .i64 r'44]) ∧ ∃ r'46 : Int, Pus prog 76 [.ag [.i .u8 m0.kind, .i .i64 m0.int, .s m0.text, .sl .ext (List.map Val.row m0.list), .b m0.cut]] (.i .i64 r'46) ∧ ∃ r'48 : Int, Pus prog 77 [.ag [.i .u8 m0.kind, .i .i64 m0.int, .s m0.text, .sl .ext (List.map Val.row m0.list), .b m0.cut]] (.i .i64 r'48) ∧ (r'46 = r'48 → (r'34 = r'37 → (r'35 = r'38 → ∃ r'53 : Bool, Pus prog 78 [.ag [.i .u8 r'40.kind, .i .i64 r'40.int, .s r'40.text, .sl .ext (List.map Val.row r'40.list), .b r'40.cut], .ag [.i .u8 r'43.kind, .i .i64 r'43.int, .s r'43.text, .sl .ext (List.map Val.row r'43.list), .b r'43.cut]] (.b r'53) ∧ (r'53 = true → K (decide (r'41 = r'44))) ∧ (r'53 = false → K false)) ∧ (¬(r'35 = r'38) → K false)) ∧ (¬(r'34 = r'37) → K false)) ∧ (¬(r'46 = r'48) → K false))))
theorem w66_1 {prog : Prog} {d : Nat} {Q : AE → Sl → St → Prop} {K : Bool → Prop} (hQ : ∀ (σ : Sl) (st : St) (x0 : Bool), σ 4 = .b x0 → K x0 → Q .ret σ st) {s1 : List UInt8} {m0 : Val}   {σ : Sl} {st : St} {v0 : Nat} (H1 : σ 1 = .s s1) (H2 : σ 2 = .p (d, 0) v0 0) (B0 : lk st.bx (d, 0) = some (v0, [.i .u8 m0.kind, .i .i64 m0.int, .s m0.text, .sl .ext (List.map Val.row m0.list), .b m0.cut])) (h : T66_1 prog K s1 m0) : W prog d c66_0 σ st Q :=
  W.seq (W.seq (W.reg0 rfl fun _ _ => s_loadP H2 B0 rfl rfl (h.elim fun r'1 e'2 => s_call (sc rfl rfl sn) e'2.1 (s_mvB rfl (s_emb (g := 15) rfl (fun g'3 => s_gn (b := true) rfl rfl (s_gn (b := true) rfl rfl (s_gn (b := true) rfl rfl (s_gn (b := true) rfl rfl (s_gt rfl (s_gt rfl (s_gt rfl (s_gn (b := true) rfl rfl (s_pickTB rfl rfl (s_mvB rfl (s_gn (b := true) rfl rfl (s_gn (b := true) rfl rfl (s_gn (b := true) rfl rfl (s_pickTB rfl rfl (s_nil (c_tt rfl (W.seq (W.reg0 rfl fun _ _ => s_mvB rfl (s_nil (W.ret (hQ _ _   _ rfl  (e'2.2.1 g'3)))))))))))))))))))))) (fun g'3 => s_gy rfl (s_mvS H1 (s_gy rfl (s_lenS rfl (s_gy rfl (s_bin rfl rfl (abin_gtr _ _ _) (s_gy rfl (s_mvB rfl (s_em (g := 19) rfl (fun g'4 => s_gy rfl (s_mvS H1 (s_gy rfl (s_lenS rfl (s_gy rfl (s_bin rfl rfl (abin_leq _ _ _) (s_gy rfl (s_pickTB rfl rfl (s_pickFB rfl rfl (s_mvB rfl (s_em (g := 25) rfl (fun g'5 => s_gn (b := true) rfl rfl (s_gn (b := true) rfl rfl (s_gn (b := true) rfl rfl (s_pickTB rfl rfl (s_nil (c_tt rfl (W.seq (W.reg0 rfl fun _ _ => s_mvB rfl (s_nil (W.ret (hQ _ _   _ rfl  (((e'2.2.2 g'3).1 g'4).1 g'5)))))))))))) (fun g'5 => s_gy rfl (s_mvS H1 (s_gy rfl (s_lenS rfl (s_gy rfl (s_bin rfl rfl (abin_gtr _ _ _) (s_pickFB rfl rfl (s_nil (c_split rfl (fun g'6 => W.seq (W.reg0 rfl fun _ _ => s_mvB rfl (s_nil (W.ret (hQ _ _   _ rfl  ((((e'2.2.2 g'3).1 g'4).2 g'5).1 g'6)))))) (fun g'6 => W.skip (W.seq (W.reg0 rfl fun _ _ => s_loadP H2 B0 rfl rfl (((((e'2.2.2 g'3).1 g'4).2 g'5).2 g'6).elim fun r'7 e'32 => e'32.elim fun r'8 e'9 => s_call (sc rfl rfl sn) e'9.1 (s_mvT rfl (s_ext rfl rfl (s_ext rfl rfl (s_mvS rfl (s_mvI rfl (s_nil (W.seq (W.reg0 rfl fun _ _ => s_loadP H2 B0 rfl rfl (e'9.2.elim fun r'10 e'31 => e'31.elim fun r'11 e'12 => s_call (sc rfl rfl sn) e'12.1 (s_mvT rfl (s_ext rfl rfl (s_ext rfl rfl (s_mvS rfl (s_mvI rfl (s_nil (W.seq (W.reg (s_mvS H1 (e'12.2.elim fun r'13 e'30 => e'30.elim fun r'14 e'15 => s_call (sc rfl rfl sn) e'15.1 (s_mvT rfl (s_ext rfl rfl (s_ext rfl rfl (s_alloc (s_storeP rfl (show lk _ (d, 20485) = some (_, ([.i .u8 0, .i .i64 0, .s [], .sl .full (List.map Val.row ([] : List Val)), .b false] : List AV)) from lk_here) rfl rfl rfl (s_mvI rfl (s_nil (W.seq (W.reg (s_mvS H1 (e'15.2.elim fun r'16 e'29 => e'29.elim fun r'17 e'18 => s_call (sc rfl rfl sn) e'18.1 (s_mvT rfl (s_ext rfl rfl (s_ext rfl rfl (s_alloc (s_storeP rfl (show lk _ (d, 24581) = some (_, ([.i .u8 0, .i .i64 0, .s [], .sl .full (List.map Val.row ([] : List Val)), .b false] : List AV)) from lk_here) rfl rfl rfl (s_mvI rfl (s_nil (W.seq (W.reg0 rfl fun _ _ => s_loadP H2 (lk_other rfl (lk_other rfl (lk_other rfl (lk_other rfl B0)))) rfl rfl (e'18.2.elim fun r'19 e'20 => s_call (sc rfl rfl sn) e'20.1 (s_loadP H2 (lk_other rfl (lk_other rfl (lk_other rfl (lk_other rfl B0)))) rfl rfl (e'20.2.elim fun r'21 e'22 => s_call (sc rfl rfl sn) e'22.1 (s_bin rfl rfl (abin_eql _ _ _) (s_mvB rfl (s_em (g := 55) rfl (fun g'23 => s_gy rfl (s_mvS rfl (s_gy rfl (s_mvS rfl (s_gy rfl (s_bin rfl rfl (abin_seq _ _) (s_pickTB rfl rfl (s_mvB rfl (s_em (g := 60) rfl (fun g'24 => s_gy rfl (s_mvI rfl (s_gy rfl (s_mvI rfl (s_gy rfl (s_bin rfl rfl (abin_eql _ _ _) (s_pickTB rfl rfl (s_mvB rfl (s_em (g := 65) rfl (fun g'25 => s_gy rfl (s_loadP rfl (lk_other rfl (lk_other rfl lk_here)) rfl rfl (s_gy rfl (s_loadP rfl lk_here rfl rfl (s_gy rfl ((((e'22.2.1 g'23).1 g'24).1 g'25).elim fun r'26 e'27 => s_call (sc rfl rfl (sc rfl rfl sn)) e'27.1 (s_pickTB rfl rfl (s_mvB rfl (s_emb (g := 70) rfl (fun g'28 => s_gy rfl (s_mvI rfl (s_gy rfl (s_mvI rfl (s_gy rfl (s_bin rfl rfl (abin_eql _ _ _) (s_pickTB rfl rfl (s_mvB rfl (s_nil (W.ret (hQ _ _   _ rfl  (e'27.2.1 g'28)))))))))))) (fun g'28 => s_gn (b := false) rfl rfl (s_gn (b := false) rfl rfl (s_gn (b := false) rfl rfl (s_pickFB rfl rfl (s_mvB rfl (s_nil (W.ret (hQ _ _   _ rfl  (e'27.2.2 g'28)))))))))))))))))) (fun g'25 => s_gn (b := false) rfl rfl (s_gn (b := false) rfl rfl (s_gn (b := false) rfl rfl (s_pickFB rfl rfl (s_mvB rfl (s_gn (b := false) rfl rfl (s_gn (b := false) rfl rfl (s_gn (b := false) rfl rfl (s_pickFB rfl rfl (s_mvB rfl (s_nil (W.ret (hQ _ _   _ rfl  (((e'22.2.1 g'23).1 g'24).2 g'25))))))))))))))))))))))) (fun g'24 => s_gn (b := false) rfl rfl (s_gn (b := false) rfl rfl (s_gn (b := false) rfl rfl (s_pickFB rfl rfl (s_mvB rfl (s_gn (b := false) rfl rfl (s_gn (b := false) rfl rfl (s_gn (b := false) rfl rfl (s_pickFB rfl rfl (s_mvB rfl (s_gn (b := false) rfl rfl (s_gn (b := false) rfl rfl (s_gn (b := false) rfl rfl (s_pickFB rfl rfl (s_mvB rfl (s_nil (W.ret (hQ _ _   _ rfl  ((e'22.2.1 g'23).2 g'24)))))))))))))))))))))))))))) (fun g'23 => s_gn (b := false) rfl rfl (s_gn (b := false) rfl rfl (s_gn (b := false) rfl rfl (s_pickFB rfl rfl (s_mvB rfl (s_gn (b := false) rfl rfl (s_gn (b := false) rfl rfl (s_gn (b := false) rfl rfl (s_pickFB rfl rfl (s_mvB rfl (s_gn (b := false) rfl rfl (s_gn (b := false) rfl rfl (s_gn (b := false) rfl rfl (s_pickFB rfl rfl (s_mvB rfl (s_gn (b := false) rfl rfl (s_gn (b := false) rfl rfl (s_gn (b := false) rfl rfl (s_pickFB rfl rfl (s_mvB rfl (s_nil (W.ret (hQ _ _   _ rfl  (e'22.2.2 g'23))))))))))))))))))))))))))))))))))))))))))))))))))))))))))))))))))))))))))))))))))))))))))))) (fun g'4 => s_gn (b := false) rfl rfl (s_gn (b := false) rfl rfl (s_gn (b := false) rfl rfl (s_gy rfl (s_pickFB rfl rfl (s_pickFB rfl rfl (s_mvB rfl (s_gy rfl (s_mvS H1 (s_gy rfl (s_lenS rfl (s_gy rfl (s_bin rfl rfl (abin_gtr _ _ _) (s_pickFB rfl rfl (s_nil (c_split rfl (fun g'33 => W.seq (W.reg0 rfl fun _ _ => s_mvB rfl (s_nil (W.ret (hQ _ _   _ rfl  (((e'2.2.2 g'3).2 g'4).1 g'33)))))) (fun g'33 => W.skip (W.seq (W.reg0 rfl fun _ _ => s_loadP H2 B0 rfl rfl ((((e'2.2.2 g'3).2 g'4).2 g'33).elim fun r'34 e'59 => e'59.elim fun r'35 e'36 => s_call (sc rfl rfl sn) e'36.1 (s_mvT rfl (s_ext rfl rfl (s_ext rfl rfl (s_mvS rfl (s_mvI rfl (s_nil (W.seq (W.reg0 rfl fun _ _ => s_loadP H2 B0 rfl rfl (e'36.2.elim fun r'37 e'58 => e'58.elim fun r'38 e'39 => s_call (sc rfl rfl sn) e'39.1 (s_mvT rfl (s_ext rfl rfl (s_ext rfl rfl (s_mvS rfl (s_mvI rfl (s_nil (W.seq (W.reg (s_mvS H1 (e'39.2.elim fun r'40 e'57 => e'57.elim fun r'41 e'42 => s_call (sc rfl rfl sn) e'42.1 (s_mvT rfl (s_ext rfl rfl (s_ext rfl rfl (s_alloc (s_storeP rfl (show lk _ (d, 20485) = some (_, ([.i .u8 0, .i .i64 0, .s [], .sl .full (List.map Val.row ([] : List Val)), .b false] : List AV)) from lk_here) rfl rfl rfl (s_mvI rfl (s_nil (W.seq (W.reg (s_mvS H1 (e'42.2.elim fun r'43 e'56 => e'56.elim fun r'44 e'45 => s_call (sc rfl rfl sn) e'45.1 (s_mvT rfl (s_ext rfl rfl (s_ext rfl rfl (s_alloc (s_storeP rfl (show lk _ (d, 24581) = some (_, ([.i .u8 0, .i .i64 0, .s [], .sl .full (List.map Val.row ([] : List Val)), .b false] : List AV)) from lk_here) rfl rfl rfl (s_mvI rfl (s_nil (W.seq (W.reg0 rfl fun _ _ => s_loadP H2 (lk_other rfl (lk_other rfl (lk_other rfl (lk_other rfl B0)))) rfl rfl (e'45.2.elim fun r'46 e'47 => s_call (sc rfl rfl sn) e'47.1 (s_loadP H2 (lk_other rfl (lk_other rfl (lk_other rfl (lk_other rfl B0)))) rfl rfl (e'47.2.elim fun r'48 e'49 => s_call (sc rfl rfl sn) e'49.1 (s_bin rfl rfl (abin_eql _ _ _) (s_mvB rfl (s_em (g := 55) rfl (fun g'50 => s_gy rfl (s_mvS rfl (s_gy rfl (s_mvS rfl (s_gy rfl (s_bin rfl rfl (abin_seq _ _) (s_pickTB rfl rfl (s_mvB rfl (s_em (g := 60) rfl (fun g'51 => s_gy rfl (s_mvI rfl (s_gy rfl (s_mvI rfl (s_gy rfl (s_bin rfl rfl (abin_eql _ _ _) (s_pickTB rfl rfl (s_mvB rfl (s_em (g := 65) rfl (fun g'52 => s_gy rfl (s_loadP rfl (lk_other rfl (lk_other rfl lk_here)) rfl rfl (s_gy rfl (s_loadP rfl lk_here rfl rfl (s_gy rfl ((((e'49.2.1 g'50).1 g'51).1 g'52).elim fun r'53 e'54 => s_call (sc rfl rfl (sc rfl rfl sn)) e'54.1 (s_pickTB rfl rfl (s_mvB rfl (s_emb (g := 70) rfl (fun g'55 => s_gy rfl (s_mvI rfl (s_gy rfl (s_mvI rfl (s_gy rfl (s_bin rfl rfl (abin_eql _ _ _) (s_pickTB rfl rfl (s_mvB rfl (s_nil (W.ret (hQ _ _   _ rfl  (e'54.2.1 g'55)))))))))))) (fun g'55 => s_gn (b := false) rfl rfl (s_gn (b := false) rfl rfl (s_gn (b := false) rfl rfl (s_pickFB rfl rfl (s_mvB rfl (s_nil (W.ret (hQ _ _   _ rfl  (e'54.2.2 g'55)))))))))))))))))) (fun g'52 => s_gn (b := false) rfl rfl (s_gn (b := false) rfl rfl (s_gn (b := false) rfl rfl (s_pickFB rfl rfl (s_mvB rfl (s_gn (b := false) rfl rfl (s_gn (b := false) rfl rfl (s_gn (b := false) rfl rfl (s_pickFB rfl rfl (s_mvB rfl (s_nil (W.ret (hQ _ _   _ rfl  (((e'49.2.1 g'50).1 g'51).2 g'52))))))))))))))))))))))) (fun g'51 => s_gn (b := false) rfl rfl (s_gn (b := false) rfl rfl (s_gn (b := false) rfl rfl (s_pickFB rfl rfl (s_mvB rfl (s_gn (b := false) rfl rfl (s_gn (b := false) rfl rfl (s_gn (b := false) rfl rfl (s_pickFB rfl rfl (s_mvB rfl (s_gn (b := false) rfl rfl (s_gn (b := false) rfl rfl (s_gn (b := false) rfl rfl (s_pickFB rfl rfl (s_mvB rfl (s_nil (W.ret (hQ _ _   _ rfl  ((e'49.2.1 g'50).2 g'51)))))))))))))))))))))))))))) (fun g'50 => s_gn (b := false) rfl rfl (s_gn (b := false) rfl rfl (s_gn (b := false) rfl rfl (s_pickFB rfl rfl (s_mvB rfl (s_gn (b := false) rfl rfl (s_gn (b := false) rfl rfl (s_gn (b := false) rfl rfl (s_pickFB rfl rfl (s_mvB rfl (s_gn (b := false) rfl rfl (s_gn (b := false) rfl rfl (s_gn (b := false) rfl rfl (s_pickFB rfl rfl (s_mvB rfl (s_gn (b := false) rfl rfl (s_gn (b := false) rfl rfl (s_gn (b := false) rfl rfl (s_pickFB rfl rfl (s_mvB rfl (s_nil (W.ret (hQ _ _   _ rfl  (e'49.2.2 g'50)))))))))))))))))))))))))))))))))))))))))))))))))))))))))))))))))))))))))))))))))))))))))))))))))))))))
def T66_0 (prog : Prog) (K : Bool → Prop) (v0 : Val) (s1 : List UInt8) : Prop :=
  T66_1 prog K s1 v0
theorem w66_0 {prog : Prog} {d : Nat} {Q : AE → Sl → St → Prop} {K : Bool → Prop} (hQ : ∀ (σ : Sl) (st : St) (x0 : Bool), σ 4 = .b x0 → K x0 → Q .ret σ st) {v0 : Val} {s1 : List UInt8}   {σ : Sl} {st : St} (H0 : σ 0 = .ag [.i .u8 v0.kind, .i .i64 v0.int, .s v0.text, .sl .ext (List.map Val.row v0.list), .b v0.cut]) (H1 : σ 1 = .s s1) (h : T66_0 prog K v0 s1) : W prog d (.seq (.reg 0 r66_0) c66_0) σ st Q :=
  W.seq (W.reg0 rfl fun _ _ => s_box H0 rfl (s_mvB rfl (s_nil (w66_1  hQ  H1 rfl lk_here h))))
theorem p66 {prog : Prog} (hf : prog.fn 66 = some pf66) {v0 : Val} {s1 : List UInt8} {K : Bool → Prop} (h : T66_0 prog K v0 s1) : ∃ x0 : Bool, K x0 ∧ Pus prog 66 [.ag [.i .u8 v0.kind, .i .i64 v0.int, .s v0.text, .sl .ext (List.map Val.row v0.list), .b v0.cut], .s s1] (.b x0) := by
  obtain ⟨v, hv, x0, hk, rfl⟩ := Pus.of (K := fun v => ∃ x0 : Bool, K x0 ∧ v = .b x0) hf rfl (w66_0 (σ := sl0 [.ag [.i .u8 v0.kind, .i .i64 v0.int, .s v0.text, .sl .ext (List.map Val.row v0.list), .b v0.cut], .s s1]) (fun σ st   x0 H4 hk => ⟨.b x0, by simp only [pf66, ares, aresL, H4, ares1, Option.map_some], _, rfl, x0, hk, rfl⟩) rfl rfl h)
  exact ⟨x0, hk, hv⟩

/-! wreckage/wreckagelaw38.LinesBack -/
def r69_0 : List AI := [⟨(some 2), .box 5 (.t 0), none⟩,
  ⟨(some 4), .mv (.c (.b false)), none⟩]
def r69_1 : List AI := [⟨(some 12), .call false 101 [], none⟩,
  ⟨(some 5), .mv (.t 12), none⟩]
def r69_2 : List AI := [⟨(some 13), .load 5 true (.t 2), none⟩,
  ⟨(some 14), .call false 71 [(.t 13)], none⟩,
  ⟨(some 15), .mv (.t 14), none⟩,
  ⟨(some 16), .mv (.t 1), (some (15, false))⟩,
  ⟨(some 17), .len true (.t 16), (some (15, false))⟩,
  ⟨(some 18), .bin .gtr (.t 17) (.c (.i .i64 3000)), (some (15, false))⟩,
  ⟨(some 19), .pick (.t 15) (.c (.b true)) (.t 18), none⟩,
  ⟨(some 20), .mv (.t 19), none⟩,
  ⟨(some 21), .mv (.t 5), (some (20, false))⟩,
  ⟨(some 22), .un .not (.t 21), (some (20, false))⟩,
  ⟨(some 23), .pick (.t 20) (.c (.b true)) (.t 22), none⟩]
def r69_3 : List AI := [⟨(some 24), .mv (.t 5), none⟩,
  ⟨(some 4), .mv (.t 24), none⟩]
def r69_4 : List AI := [⟨(some 26), .load 5 true (.t 2), none⟩,
  ⟨(some 27), .call false 72 [(.t 26)], none⟩,
  ⟨(some 25), .mv (.t 27), none⟩,
  ⟨(some 28), .ext 0 (.t 25), none⟩,
  ⟨(some 29), .ext 1 (.t 25), none⟩,
  ⟨(some 6), .mv (.t 28), none⟩,
  ⟨(some 7), .mv (.t 29), none⟩]
def r69_5 : List AI := [⟨(some 30), .mv (.t 7), none⟩,
  ⟨(some 31), .load 5 true (.t 2), none⟩,
  ⟨(some 32), .call false 76 [(.t 31)], none⟩,
  ⟨(some 33), .bin .neq (.t 30) (.t 32), none⟩,
  ⟨(some 34), .mv (.t 33), none⟩,
  ⟨(some 35), .mv (.t 7), (some (34, false))⟩,
  ⟨(some 36), .bin .eql (.t 35) (.c (.i .i64 0)), (some (34, false))⟩,
  ⟨(some 37), .load 5 true (.t 2), (some (34, false))⟩,
  ⟨(some 38), .call false 77 [(.t 37)], (some (34, false))⟩,
  ⟨(some 39), .bin .eql (.t 38) (.c (.i .i64 0)), (some (34, false))⟩,
  ⟨(some 40), .beq true (.t 36) (.t 39), (some (34, false))⟩,
  ⟨(some 41), .pick (.t 34) (.c (.b true)) (.t 40), none⟩]
def r69_6 : List AI := [⟨(some 4), .mv (.c (.b false)), none⟩]
def r69_7 : List AI := [⟨(some 42), .mv (.t 7), none⟩,
  ⟨(some 43), .bin .eql (.t 42) (.c (.i .i64 0)), none⟩,
  ⟨(some 44), .mv (.t 43), none⟩,
  ⟨(some 45), .load 5 true (.t 2), (some (44, true))⟩,
  ⟨(some 46), .mv (.t 6), (some (44, true))⟩,
  ⟨(some 47), .call false 91 [(.t 45), (.t 46)], (some (44, true))⟩,
  ⟨(some 48), .un .not (.t 47), (some (44, true))⟩,
  ⟨(some 49), .mv (.t 48), (some (44, true))⟩,
  ⟨(some 50), .mv (.t 6), (some (49, false))⟩,
  ⟨(some 51), .len true (.t 50), (some (49, false))⟩,
  ⟨(some 52), .bin .gtr (.t 51) (.c (.i .i64 1400000)), (some (49, false))⟩,
  ⟨(some 53), .pick (.t 49) (.c (.b true)) (.t 52), (some (44, true))⟩,
  ⟨(some 54), .pick (.t 44) (.t 53) (.c (.b false)), none⟩]
def r69_8 : List AI := [⟨(some 4), .mv (.c (.b false)), none⟩]
def r69_9 : List AI := [⟨(some 56), .mv (.t 1), none⟩,
  ⟨(some 57), .call false 74 [(.t 56)], none⟩,
  ⟨(some 55), .mv (.t 57), none⟩,
  ⟨(some 58), .ext 0 (.t 55), none⟩,
  ⟨(some 59), .ext 1 (.t 55), none⟩,
  ⟨(some 8), .alloc [.i .u8 0, .i .i64 0, .s [], .sl .full [], .b false], none⟩,
  ⟨none, .store 5 (.t 8) (.t 58), none⟩,
  ⟨(some 9), .mv (.t 59), none⟩]
def r69_10 : List AI := [⟨(some 60), .mv (.t 9), none⟩,
  ⟨(some 61), .bin .neq (.t 60) (.c (.i .i64 0)), none⟩]
def r69_11 : List AI := [⟨(some 62), .mv (.t 5), none⟩,
  ⟨(some 63), .mv (.t 62), none⟩,
  ⟨(some 64), .mv (.t 9), (some (63, true))⟩,
  ⟨(some 65), .bin .eql (.t 64) (.c (.i .i64 12)), (some (63, true))⟩,
  ⟨(some 66), .pick (.t 63) (.t 65) (.c (.b false)), none⟩,
  ⟨(some 4), .mv (.t 66), none⟩]
def r69_12 : List AI := [⟨(some 68), .load 5 true (.t 8), none⟩,
  ⟨(some 69), .call false 72 [(.t 68)], none⟩,
  ⟨(some 67), .mv (.t 69), none⟩,
  ⟨(some 70), .ext 0 (.t 67), none⟩,
  ⟨(some 71), .ext 1 (.t 67), none⟩,
  ⟨(some 10), .mv (.t 70), none⟩,
  ⟨(some 11), .mv (.t 71), none⟩]
def r69_13 : List AI := [⟨(some 72), .mv (.t 5), none⟩,
  ⟨(some 73), .mv (.t 72), none⟩,
  ⟨(some 74), .mv (.t 11), (some (73, true))⟩,
  ⟨(some 75), .bin .eql (.t 74) (.c (.i .i64 0)), (some (73, true))⟩,
  ⟨(some 76), .pick (.t 73) (.t 75) (.c (.b false)), none⟩,
  ⟨(some 77), .mv (.t 76), none⟩,
  ⟨(some 78), .mv (.t 10), (some (77, true))⟩,
  ⟨(some 79), .mv (.t 1), (some (77, true))⟩,
  ⟨(some 80), .bin .eql (.t 78) (.t 79), (some (77, true))⟩,
  ⟨(some 81), .pick (.t 77) (.t 80) (.c (.b false)), none⟩,
  ⟨(some 82), .mv (.t 81), none⟩,
  ⟨(some 83), .load 5 true (.t 8), (some (82, true))⟩,
  ⟨(some 84), .call false 76 [(.t 83)], (some (82, true))⟩,
  ⟨(some 85), .bin .eql (.t 84) (.c (.i .i64 0)), (some (82, true))⟩,
  ⟨(some 86), .pick (.t 82) (.t 85) (.c (.b false)), none⟩,
  ⟨(some 4), .mv (.t 86), none⟩]
abbrev c69_0 : AC := (.seq (.seq (.reg 5 r69_5) (.cond (.t 41) (.seq (.reg 6 r69_6) .ret) .skip)) (.seq (.seq (.reg 7 r69_7) (.cond (.t 54) (.seq (.reg 8 r69_8) .ret) .skip)) (.seq (.reg 9 r69_9) (.seq (.seq (.reg 10 r69_10) (.cond (.t 61) (.seq (.reg 11 r69_11) .ret) .skip)) (.seq (.reg 12 r69_12) (.seq (.reg 13 r69_13) .ret))))))
abbrev c69_1 : AC := (.seq (.reg 4 r69_4) c69_0)
abbrev c69_2 : AC := (.seq (.seq (.reg 2 r69_2) (.cond (.t 23) (.seq (.reg 3 r69_3) .ret) .skip)) c69_1)
abbrev c69_3 : AC := (.seq (.reg 1 r69_1) c69_2)
abbrev b69 : AC := (.seq (.reg 0 r69_0) c69_3)
def pf69 : AF := { nt := 87, res := [.tmp 4], body := b69 }
def T69_4 (prog : Prog) (K : Bool → Prop) (s1 : List UInt8) (ok5 : Bool) (a6 : List UInt8) (e7 : Int) (m0 : Val) : Prop :=
  ∃ r'1 : Int, Pus prog 76 [.ag [.i .u8 m0.kind, .i .i64 m0.int, .s m0.text, .sl .ext (List.map Val.row m0.list), .b m0.cut]] (.i .i64 r'1) ∧ (e7 ≠ r'1 → K false) ∧ (¬(e7 ≠ r'1) → ∃ r'4 : Int, Pus prog 77 [.ag [.i .u8 m0.kind, .i .i64 m0.int, .s m0.text, .sl .ext (List.map Val.row m0.list), .b m0.cut]] (.i .i64 r'4) ∧ ((decide (e7 = 0)) ≠ (decide (r'4 = 0)) → K false) ∧ (¬((decide (e7 = 0)) ≠ (decide (r'4 = 0))) → (e7 = 0 → ∃ r'8 : Bool, Pus prog 91 [.ag [.i .u8 m0.kind, .i .i64 m0.int, .s m0.text, .sl .ext (List.map Val.row m0.list), .b m0.cut], .s a6] (.b r'8) ∧ ((!r'8) = true → K false) ∧ ((!r'8) = false → ((a6.length : Int) > 1400000 → K false) ∧ (¬((a6.length : Int) > 1400000) → ∃ r'12 : Val, ∃ r'13 : Int, Pus prog 74 [.s s1] (.tup [.ag [.i .u8 r'12.kind, .i .i64 r'12.int, .s r'12.text, .sl .ext (List.map Val.row r'12.list), .b r'12.cut], .i .i64 r'13]) ∧ (r'13 ≠ 0 → (ok5 = true → K (decide (r'13 = 12))) ∧ (ok5 = false → K false)) ∧ (¬(r'13 ≠ 0) → ∃ r'17 : List UInt8, ∃ r'18 : Int, Pus prog 72 [.ag [.i .u8 r'12.kind, .i .i64 r'12.int, .s r'12.text, .sl .ext (List.map Val.row r'12.list), .b r'12.cut]] (.tup [.s r'17, .i .i64 r'18]) ∧ (ok5 = true → (r'18 = 0 → (r'17 = s1 → ∃ r'23 : Int, Pus prog 76 [.ag [.i .u8 r'12.kind, .i .i64 r'12.int, .s r'12.text, .sl .ext (List.map Val.row r'12.list), .b r'12.cut]] (.i .i64 r'23) ∧ K (decide (r'23 = 0))) ∧ (¬(r'17 = s1) → K false)) ∧ (¬(r'18 = 0) → K false)) ∧ (ok5 = false → K false))))) ∧ (¬(e7 = 0) → ∃ r'27 : Val, ∃ r'28 : Int, Pus prog 74 [.s s1] (.tup [.ag [.i .u8 r'27.kind, .i .i64 r'27.int, .s r'27.text, .sl .ext (List.map Val.row r'27.list), .b r'27.cut], .i .i64 r'28]) ∧ (r'28 ≠ 0 → (ok5 = true → K (decide (r'28 = 12))) ∧ (ok5 = false → K false)) ∧ (¬(r'28 ≠ 0) → ∃ r'32 : List UInt8, ∃ r'33 : Int, Pus prog 72 [.ag [.i .u8 r'27.kind, .i .i64 r'27.int, .s r'27.text, .sl .ext (List.map Val.row r'27.list), .b r'27.cut]] (.tup [.s r'32, .i .i64 r'33]) ∧ (ok5 = true → (r'33 = 0 → (r'32 = s1 → ∃ r'38 : Int, Pus prog 76 [.ag [.i .u8 r'27.kind, .i .i64 r'27.int, .s r'27.text, .sl .ext (List.map Val.row r'27.list), .b r'27.cut]] (.i .i64 r'38) ∧ K (decide (r'38 = 0))) ∧ (¬(r'32 = s1) → K false)) ∧ (¬(r'33 = 0) → K false)) ∧ (ok5 = false → K false)))))
theorem w69_4 {prog : Prog} {d : Nat} {Q : AE → Sl → St → Prop} {K : Bool → Prop} (hQ : ∀ (σ : Sl) (st : St) (x0 : Bool), σ 4 = .b x0 → K x0 → Q .ret σ st) {s1 : List UInt8} {ok5 : Bool} {a6 : List UInt8} {e7 : Int} {m0 : Val}   {σ : Sl} {st : St} {v0 : Nat} (H1 : σ 1 = .s s1) (H2 : σ 2 = .p (d, 0) v0 0) (H5 : σ 5 = .b ok5) (H6 : σ 6 = .s a6) (H7 : σ 7 = .i .i64 e7) (B0 : lk st.bx (d, 0) = some (v0, [.i .u8 m0.kind, .i .i64 m0.int, .s m0.text, .sl .ext (List.map Val.row m0.list), .b m0.cut])) (h : T69_4 prog K s1 ok5 a6 e7 m0) : W prog d c69_0 σ st Q :=
  W.seq (W.seq (W.reg0 rfl fun _ _ => s_mvI H7 (s_loadP H2 B0 rfl rfl (h.elim fun r'1 e'2 => s_call (sc rfl rfl sn) e'2.1 (s_bin rfl rfl (abin_neq _ _ _) (s_mvB rfl (s_em (g := 34) rfl (fun g'3 => s_gn (b := true) rfl rfl (s_gn (b := true) rfl rfl (s_gn (b := true) rfl rfl (s_gn (b := true) rfl rfl (s_gn (b := true) rfl rfl (s_gn (b := true) rfl rfl (s_pickTB rfl rfl (s_nil (c_tt rfl (W.seq (W.reg0 rfl fun _ _ => s_mvB rfl (s_nil (W.ret (hQ _ _   _ rfl  (e'2.2.1 g'3))))))))))))))) (fun g'3 => s_gy rfl (s_mvI H7 (s_gy rfl (s_bin rfl rfl (abin_eql _ _ _) (s_gy rfl (s_loadP H2 B0 rfl rfl (s_gy rfl ((e'2.2.2 g'3).elim fun r'4 e'5 => s_call (sc rfl rfl sn) e'5.1 (s_gy rfl (s_bin rfl rfl (abin_eql _ _ _) (s_gy rfl (s_bne rfl rfl (s_pickFB rfl rfl (s_nil (c_split rfl (fun g'6 => W.seq (W.reg0 rfl fun _ _ => s_mvB rfl (s_nil (W.ret (hQ _ _   _ rfl  (e'5.2.1 g'6)))))) (fun g'6 => W.skip (W.seq (W.seq (W.reg0 rfl fun _ _ => s_mvI H7 (s_bin rfl rfl (abin_eql _ _ _) (s_mvB rfl (s_em (g := 44) rfl (fun g'7 => s_gy rfl (s_loadP H2 B0 rfl rfl (s_gy rfl (s_mvS H6 (s_gy rfl (((e'5.2.2 g'6).1 g'7).elim fun r'8 e'9 => s_call (sc rfl rfl (sc rfl rfl sn)) e'9.1 (s_gy rfl (s_not rfl (s_gy rfl (s_mvB rfl (s_emb (g := 49) rfl (fun g'10 => s_gn (b := true) rfl rfl (s_gn (b := true) rfl rfl (s_gn (b := true) rfl rfl (s_gy rfl (s_pickTB rfl rfl (s_pickTB rfl rfl (s_nil (c_tt rfl (W.seq (W.reg0 rfl fun _ _ => s_mvB rfl (s_nil (W.ret (hQ _ _   _ rfl  (e'9.2.1 g'10)))))))))))))) (fun g'10 => s_gy rfl (s_mvS H6 (s_gy rfl (s_lenS rfl (s_gy rfl (s_bin rfl rfl (abin_gtr _ _ _) (s_gy rfl (s_pickFB rfl rfl (s_pickTB rfl rfl (s_nil (c_split rfl (fun g'11 => W.seq (W.reg0 rfl fun _ _ => s_mvB rfl (s_nil (W.ret (hQ _ _   _ rfl  ((e'9.2.2 g'10).1 g'11)))))) (fun g'11 => W.skip (W.seq (W.reg (s_mvS H1 (((e'9.2.2 g'10).2 g'11).elim fun r'12 e'26 => e'26.elim fun r'13 e'14 => s_call (sc rfl rfl sn) e'14.1 (s_mvT rfl (s_ext rfl rfl (s_ext rfl rfl (s_alloc (s_storeP rfl (show lk _ (d, 36869) = some (_, ([.i .u8 0, .i .i64 0, .s [], .sl .full (List.map Val.row ([] : List Val)), .b false] : List AV)) from lk_here) rfl rfl rfl (s_mvI rfl (s_nil (W.seq (W.seq (W.reg0 rfl fun _ _ => s_mvI rfl (s_bin rfl rfl (abin_neq _ _ _) (s_nil (c_split rfl (fun g'15 => W.seq (W.reg0 rfl fun _ _ => s_mvB H5 (s_mvB rfl (s_emb (g := 63) rfl (fun g'16 => s_gy rfl (s_mvI rfl (s_gy rfl (s_bin rfl rfl (abin_eql _ _ _) (s_pickTB rfl rfl (s_mvB rfl (s_nil (W.ret (hQ _ _   _ rfl  ((e'14.2.1 g'15).1 g'16)))))))))) (fun g'16 => s_gn (b := false) rfl rfl (s_gn (b := false) rfl rfl (s_pickFB rfl rfl (s_mvB rfl (s_nil (W.ret (hQ _ _   _ rfl  ((e'14.2.1 g'15).2 g'16)))))))))))) (fun g'15 => W.skip (W.seq (W.reg0 rfl fun _ _ => s_loadP rfl lk_here rfl rfl ((e'14.2.2 g'15).elim fun r'17 e'25 => e'25.elim fun r'18 e'19 => s_call (sc rfl rfl sn) e'19.1 (s_mvT rfl (s_ext rfl rfl (s_ext rfl rfl (s_mvS rfl (s_mvI rfl (s_nil (W.seq (W.reg0 rfl fun _ _ => s_mvB H5 (s_mvB rfl (s_emb (g := 73) rfl (fun g'20 => s_gy rfl (s_mvI rfl (s_gy rfl (s_bin rfl rfl (abin_eql _ _ _) (s_pickTB rfl rfl (s_mvB rfl (s_em (g := 77) rfl (fun g'21 => s_gy rfl (s_mvS rfl (s_gy rfl (s_mvS H1 (s_gy rfl (s_bin rfl rfl (abin_seq _ _) (s_pickTB rfl rfl (s_mvB rfl (s_em (g := 82) rfl (fun g'22 => s_gy rfl (s_loadP rfl lk_here rfl rfl (s_gy rfl ((((e'19.2.1 g'20).1 g'21).1 g'22).elim fun r'23 e'24 => s_call (sc rfl rfl sn) e'24.1 (s_gy rfl (s_bin rfl rfl (abin_eql _ _ _) (s_pickTB rfl rfl (s_mvB rfl (s_nil (W.ret (hQ _ _   _ rfl  e'24.2))))))))))) (fun g'22 => s_gn (b := false) rfl rfl (s_gn (b := false) rfl rfl (s_gn (b := false) rfl rfl (s_pickFB rfl rfl (s_mvB rfl (s_nil (W.ret (hQ _ _   _ rfl  (((e'19.2.1 g'20).1 g'21).2 g'22)))))))))))))))))) (fun g'21 => s_gn (b := false) rfl rfl (s_gn (b := false) rfl rfl (s_gn (b := false) rfl rfl (s_pickFB rfl rfl (s_mvB rfl (s_gn (b := false) rfl rfl (s_gn (b := false) rfl rfl (s_gn (b := false) rfl rfl (s_pickFB rfl rfl (s_mvB rfl (s_nil (W.ret (hQ _ _   _ rfl  ((e'19.2.1 g'20).2 g'21))))))))))))))))))))) (fun g'20 => s_gn (b := false) rfl rfl (s_gn (b := false) rfl rfl (s_pickFB rfl rfl (s_mvB rfl (s_gn (b := false) rfl rfl (s_gn (b := false) rfl rfl (s_gn (b := false) rfl rfl (s_pickFB rfl rfl (s_mvB rfl (s_gn (b := false) rfl rfl (s_gn (b := false) rfl rfl (s_gn (b := false) rfl rfl (s_pickFB rfl rfl (s_mvB rfl (s_nil (W.ret (hQ _ _   _ rfl  (e'19.2.2 g'20)))))))))))))))))))))))))))))))))))))))))))))))))))))))))))))))))))))))) (fun g'7 => s_gn (b := false) rfl rfl (s_gn (b := false) rfl rfl (s_gn (b := false) rfl rfl (s_gn (b := false) rfl rfl (s_gn (b := false) rfl rfl (s_gt rfl (s_gt rfl (s_gt rfl (s_gn (b := false) rfl rfl (s_pickFB rfl rfl (s_nil (c_ff rfl (W.skip (W.seq (W.reg (s_mvS H1 (((e'5.2.2 g'6).2 g'7).elim fun r'27 e'41 => e'41.elim fun r'28 e'29 => s_call (sc rfl rfl sn) e'29.1 (s_mvT rfl (s_ext rfl rfl (s_ext rfl rfl (s_alloc (s_storeP rfl (show lk _ (d, 36869) = some (_, ([.i .u8 0, .i .i64 0, .s [], .sl .full (List.map Val.row ([] : List Val)), .b false] : List AV)) from lk_here) rfl rfl rfl (s_mvI rfl (s_nil (W.seq (W.seq (W.reg0 rfl fun _ _ => s_mvI rfl (s_bin rfl rfl (abin_neq _ _ _) (s_nil (c_split rfl (fun g'30 => W.seq (W.reg0 rfl fun _ _ => s_mvB H5 (s_mvB rfl (s_emb (g := 63) rfl (fun g'31 => s_gy rfl (s_mvI rfl (s_gy rfl (s_bin rfl rfl (abin_eql _ _ _) (s_pickTB rfl rfl (s_mvB rfl (s_nil (W.ret (hQ _ _   _ rfl  ((e'29.2.1 g'30).1 g'31)))))))))) (fun g'31 => s_gn (b := false) rfl rfl (s_gn (b := false) rfl rfl (s_pickFB rfl rfl (s_mvB rfl (s_nil (W.ret (hQ _ _   _ rfl  ((e'29.2.1 g'30).2 g'31)))))))))))) (fun g'30 => W.skip (W.seq (W.reg0 rfl fun _ _ => s_loadP rfl lk_here rfl rfl ((e'29.2.2 g'30).elim fun r'32 e'40 => e'40.elim fun r'33 e'34 => s_call (sc rfl rfl sn) e'34.1 (s_mvT rfl (s_ext rfl rfl (s_ext rfl rfl (s_mvS rfl (s_mvI rfl (s_nil (W.seq (W.reg0 rfl fun _ _ => s_mvB H5 (s_mvB rfl (s_emb (g := 73) rfl (fun g'35 => s_gy rfl (s_mvI rfl (s_gy rfl (s_bin rfl rfl (abin_eql _ _ _) (s_pickTB rfl rfl (s_mvB rfl (s_em (g := 77) rfl (fun g'36 => s_gy rfl (s_mvS rfl (s_gy rfl (s_mvS H1 (s_gy rfl (s_bin rfl rfl (abin_seq _ _) (s_pickTB rfl rfl (s_mvB rfl (s_em (g := 82) rfl (fun g'37 => s_gy rfl (s_loadP rfl lk_here rfl rfl (s_gy rfl ((((e'34.2.1 g'35).1 g'36).1 g'37).elim fun r'38 e'39 => s_call (sc rfl rfl sn) e'39.1 (s_gy rfl (s_bin rfl rfl (abin_eql _ _ _) (s_pickTB rfl rfl (s_mvB rfl (s_nil (W.ret (hQ _ _   _ rfl  e'39.2))))))))))) (fun g'37 => s_gn (b := false) rfl rfl (s_gn (b := false) rfl rfl (s_gn (b := false) rfl rfl (s_pickFB rfl rfl (s_mvB rfl (s_nil (W.ret (hQ _ _   _ rfl  (((e'34.2.1 g'35).1 g'36).2 g'37)))))))))))))))))) (fun g'36 => s_gn (b := false) rfl rfl (s_gn (b := false) rfl rfl (s_gn (b := false) rfl rfl (s_pickFB rfl rfl (s_mvB rfl (s_gn (b := false) rfl rfl (s_gn (b := false) rfl rfl (s_gn (b := false) rfl rfl (s_pickFB rfl rfl (s_mvB rfl (s_nil (W.ret (hQ _ _   _ rfl  ((e'34.2.1 g'35).2 g'36))))))))))))))))))))) (fun g'35 => s_gn (b := false) rfl rfl (s_gn (b := false) rfl rfl (s_pickFB rfl rfl (s_mvB rfl (s_gn (b := false) rfl rfl (s_gn (b := false) rfl rfl (s_gn (b := false) rfl rfl (s_pickFB rfl rfl (s_mvB rfl (s_gn (b := false) rfl rfl (s_gn (b := false) rfl rfl (s_gn (b := false) rfl rfl (s_pickFB rfl rfl (s_mvB rfl (s_nil (W.ret (hQ _ _   _ rfl  (e'34.2.2 g'35)))))))))))))))))))))))))))))))))))))))))))))))))))))))))))))))))))))))))))))))))))))))))))
def T69_3 (prog : Prog) (K : Bool → Prop) (s1 : List UInt8) (ok5 : Bool) (m0 : Val) : Prop :=
  ∃ r'1 : List UInt8, ∃ r'2 : Int, Pus prog 72 [.ag [.i .u8 m0.kind, .i .i64 m0.int, .s m0.text, .sl .ext (List.map Val.row m0.list), .b m0.cut]] (.tup [.s r'1, .i .i64 r'2]) ∧ T69_4 prog K s1 ok5 r'1 r'2 m0
theorem w69_3 {prog : Prog} {d : Nat} {Q : AE → Sl → St → Prop} {K : Bool → Prop} (hQ : ∀ (σ : Sl) (st : St) (x0 : Bool), σ 4 = .b x0 → K x0 → Q .ret σ st) {s1 : List UInt8} {ok5 : Bool} {m0 : Val}   {σ : Sl} {st : St} {v0 : Nat} (H1 : σ 1 = .s s1) (H2 : σ 2 = .p (d, 0) v0 0) (H5 : σ 5 = .b ok5) (B0 : lk st.bx (d, 0) = some (v0, [.i .u8 m0.kind, .i .i64 m0.int, .s m0.text, .sl .ext (List.map Val.row m0.list), .b m0.cut])) (h : T69_3 prog K s1 ok5 m0) : W prog d c69_1 σ st Q :=
  W.seq (W.reg0 rfl fun _ _ => s_loadP H2 B0 rfl rfl (h.elim fun r'1 e'4 => e'4.elim fun r'2 e'3 => s_call (sc rfl rfl sn) e'3.1 (s_mvT rfl (s_ext rfl rfl (s_ext rfl rfl (s_mvS rfl (s_mvI rfl (s_nil (w69_4  hQ  H1 H2 H5 rfl rfl B0 e'3.2)))))))))
def T69_2 (prog : Prog) (K : Bool → Prop) (s1 : List UInt8) (ok5 : Bool) (m0 : Val) : Prop :=
  ∃ r'1 : Bool, Pus prog 71 [.ag [.i .u8 m0.kind, .i .i64 m0.int, .s m0.text, .sl .ext (List.map Val.row m0.list), .b m0.cut]] (.b r'1) ∧ (r'1 = true → K ok5) ∧ (r'1 = false → ((s1.length : Int) > 3000 → K ok5) ∧ (¬((s1.length : Int) > 3000) → ((!ok5) = true → K ok5) ∧ ((!ok5) = false → T69_3 prog K s1 ok5 m0)))
theorem w69_2 {prog : Prog} {d : Nat} {Q : AE → Sl → St → Prop} {K : Bool → Prop} (hQ : ∀ (σ : Sl) (st : St) (x0 : Bool), σ 4 = .b x0 → K x0 → Q .ret σ st) {s1 : List UInt8} {ok5 : Bool} {m0 : Val}   {σ : Sl} {st : St} {v0 : Nat} (H1 : σ 1 = .s s1) (H2 : σ 2 = .p (d, 0) v0 0) (H5 : σ 5 = .b ok5) (B0 : lk st.bx (d, 0) = some (v0, [.i .u8 m0.kind, .i .i64 m0.int, .s m0.text, .sl .ext (List.map Val.row m0.list), .b m0.cut])) (h : T69_2 prog K s1 ok5 m0) : W prog d c69_2 σ st Q :=
  W.seq (W.seq (W.reg0 rfl fun _ _ => s_loadP H2 B0 rfl rfl (h.elim fun r'1 e'2 => s_call (sc rfl rfl sn) e'2.1 (s_mvB rfl (s_emb (g := 15) rfl (fun g'3 => s_gn (b := true) rfl rfl (s_gn (b := true) rfl rfl (s_gn (b := true) rfl rfl (s_pickTB rfl rfl (s_mvB rfl (s_gn (b := true) rfl rfl (s_gn (b := true) rfl rfl (s_pickTB rfl rfl (s_nil (c_tt rfl (W.seq (W.reg0 rfl fun _ _ => s_mvB H5 (s_mvB rfl (s_nil (W.ret (hQ _ _   _ rfl  (e'2.2.1 g'3))))))))))))))))) (fun g'3 => s_gy rfl (s_mvS H1 (s_gy rfl (s_lenS rfl (s_gy rfl (s_bin rfl rfl (abin_gtr _ _ _) (s_pickFB rfl rfl (s_mvB rfl (s_em (g := 20) rfl (fun g'4 => s_gn (b := true) rfl rfl (s_gn (b := true) rfl rfl (s_pickTB rfl rfl (s_nil (c_tt rfl (W.seq (W.reg0 rfl fun _ _ => s_mvB H5 (s_mvB rfl (s_nil (W.ret (hQ _ _   _ rfl  ((e'2.2.2 g'3).1 g'4)))))))))))) (fun g'4 => s_gy rfl (s_mvB H5 (s_gy rfl (s_not rfl (s_pickFB rfl rfl (s_nil (c_bool rfl (fun g'5 => W.seq (W.reg0 rfl fun _ _ => s_mvB H5 (s_mvB rfl (s_nil (W.ret (hQ _ _   _ rfl  (((e'2.2.2 g'3).2 g'4).1 g'5))))))) (fun g'5 => W.skip (w69_3  hQ  H1 H2 H5 B0 (((e'2.2.2 g'3).2 g'4).2 g'5))))))))))))))))))))))))
def T69_1 (prog : Prog) (K : Bool → Prop) (s1 : List UInt8) (m0 : Val) : Prop :=
  ∃ r'1 : Bool, Pus prog 101 [] (.b r'1) ∧ T69_2 prog K s1 r'1 m0
theorem w69_1 {prog : Prog} {d : Nat} {Q : AE → Sl → St → Prop} {K : Bool → Prop} (hQ : ∀ (σ : Sl) (st : St) (x0 : Bool), σ 4 = .b x0 → K x0 → Q .ret σ st) {s1 : List UInt8} {m0 : Val}   {σ : Sl} {st : St} {v0 : Nat} (H1 : σ 1 = .s s1) (H2 : σ 2 = .p (d, 0) v0 0) (B0 : lk st.bx (d, 0) = some (v0, [.i .u8 m0.kind, .i .i64 m0.int, .s m0.text, .sl .ext (List.map Val.row m0.list), .b m0.cut])) (h : T69_1 prog K s1 m0) : W prog d c69_3 σ st Q :=
  W.seq (W.reg0 rfl fun _ _ => h.elim fun r'1 e'2 => s_call sn e'2.1 (s_mvB rfl (s_nil (w69_2  hQ  H1 H2 rfl B0 e'2.2))))
def T69_0 (prog : Prog) (K : Bool → Prop) (v0 : Val) (s1 : List UInt8) : Prop :=
  T69_1 prog K s1 v0
theorem w69_0 {prog : Prog} {d : Nat} {Q : AE → Sl → St → Prop} {K : Bool → Prop} (hQ : ∀ (σ : Sl) (st : St) (x0 : Bool), σ 4 = .b x0 → K x0 → Q .ret σ st) {v0 : Val} {s1 : List UInt8}   {σ : Sl} {st : St} (H0 : σ 0 = .ag [.i .u8 v0.kind, .i .i64 v0.int, .s v0.text, .sl .ext (List.map Val.row v0.list), .b v0.cut]) (H1 : σ 1 = .s s1) (h : T69_0 prog K v0 s1) : W prog d (.seq (.reg 0 r69_0) c69_3) σ st Q :=
  W.seq (W.reg0 rfl fun _ _ => s_box H0 rfl (s_mvB rfl (s_nil (w69_1  hQ  H1 rfl lk_here h))))
theorem p69 {prog : Prog} (hf : prog.fn 69 = some pf69) {v0 : Val} {s1 : List UInt8} {K : Bool → Prop} (h : T69_0 prog K v0 s1) : ∃ x0 : Bool, K x0 ∧ Pus prog 69 [.ag [.i .u8 v0.kind, .i .i64 v0.int, .s v0.text, .sl .ext (List.map Val.row v0.list), .b v0.cut], .s s1] (.b x0) := by
  obtain ⟨v, hv, x0, hk, rfl⟩ := Pus.of (K := fun v => ∃ x0 : Bool, K x0 ∧ v = .b x0) hf rfl (w69_0 (σ := sl0 [.ag [.i .u8 v0.kind, .i .i64 v0.int, .s v0.text, .sl .ext (List.map Val.row v0.list), .b v0.cut], .s s1]) (fun σ st   x0 H4 hk => ⟨.b x0, by simp only [pf69, ares, aresL, H4, ares1, Option.map_some], _, rfl, x0, hk, rfl⟩) rfl rfl h)
  exact ⟨x0, hk, hv⟩

/-! wreckage/wreckagelaw38.LinesOne -/
def r70_0 : List AI := [⟨(some 2), .box 5 (.t 0), none⟩,
  ⟨(some 3), .box 5 (.t 1), none⟩,
  ⟨(some 4), .mv (.c (.b false)), none⟩]
def r70_1 : List AI := [⟨(some 11), .call false 101 [], none⟩,
  ⟨(some 5), .mv (.t 11), none⟩]
def r70_2 : List AI := [⟨(some 12), .load 5 true (.t 2), none⟩,
  ⟨(some 13), .call false 71 [(.t 12)], none⟩,
  ⟨(some 14), .mv (.t 13), none⟩,
  ⟨(some 15), .load 5 true (.t 3), (some (14, false))⟩,
  ⟨(some 16), .call false 71 [(.t 15)], (some (14, false))⟩,
  ⟨(some 17), .pick (.t 14) (.c (.b true)) (.t 16), none⟩,
  ⟨(some 18), .mv (.t 17), none⟩,
  ⟨(some 19), .mv (.t 5), (some (18, false))⟩,
  ⟨(some 20), .un .not (.t 19), (some (18, false))⟩,
  ⟨(some 21), .pick (.t 18) (.c (.b true)) (.t 20), none⟩]
def r70_3 : List AI := [⟨(some 22), .mv (.t 5), none⟩,
  ⟨(some 4), .mv (.t 22), none⟩]
def r70_4 : List AI := [⟨(some 24), .load 5 true (.t 2), none⟩,
  ⟨(some 25), .call false 72 [(.t 24)], none⟩,
  ⟨(some 23), .mv (.t 25), none⟩,
  ⟨(some 26), .ext 0 (.t 23), none⟩,
  ⟨(some 27), .ext 1 (.t 23), none⟩,
  ⟨(some 6), .mv (.t 26), none⟩,
  ⟨(some 7), .mv (.t 27), none⟩]
def r70_5 : List AI := [⟨(some 29), .load 5 true (.t 3), none⟩,
  ⟨(some 30), .call false 72 [(.t 29)], none⟩,
  ⟨(some 28), .mv (.t 30), none⟩,
  ⟨(some 31), .ext 0 (.t 28), none⟩,
  ⟨(some 32), .ext 1 (.t 28), none⟩,
  ⟨(some 8), .mv (.t 31), none⟩,
  ⟨(some 9), .mv (.t 32), none⟩]
def r70_6 : List AI := [⟨(some 33), .mv (.t 7), none⟩,
  ⟨(some 34), .bin .neq (.t 33) (.c (.i .i64 0)), none⟩,
  ⟨(some 35), .mv (.t 34), none⟩,
  ⟨(some 36), .mv (.t 9), (some (35, false))⟩,
  ⟨(some 37), .bin .neq (.t 36) (.c (.i .i64 0)), (some (35, false))⟩,
  ⟨(some 38), .pick (.t 35) (.c (.b true)) (.t 37), none⟩]
def r70_7 : List AI := [⟨(some 39), .mv (.t 5), none⟩,
  ⟨(some 40), .mv (.t 39), none⟩,
  ⟨(some 41), .mv (.t 7), (some (40, true))⟩,
  ⟨(some 42), .bin .eql (.t 41) (.c (.i .i64 0)), (some (40, true))⟩,
  ⟨(some 43), .mv (.t 42), (some (40, true))⟩,
  ⟨(some 44), .mv (.t 7), (some (43, false))⟩,
  ⟨(some 45), .bin .eql (.t 44) (.c (.i .i64 8)), (some (43, false))⟩,
  ⟨(some 46), .pick (.t 43) (.c (.b true)) (.t 45), (some (40, true))⟩,
  ⟨(some 47), .pick (.t 40) (.t 46) (.c (.b false)), none⟩,
  ⟨(some 48), .mv (.t 47), none⟩,
  ⟨(some 49), .mv (.t 9), (some (48, true))⟩,
  ⟨(some 50), .bin .eql (.t 49) (.c (.i .i64 0)), (some (48, true))⟩,
  ⟨(some 51), .mv (.t 50), (some (48, true))⟩,
  ⟨(some 52), .mv (.t 9), (some (51, false))⟩,
  ⟨(some 53), .bin .eql (.t 52) (.c (.i .i64 8)), (some (51, false))⟩,
  ⟨(some 54), .pick (.t 51) (.c (.b true)) (.t 53), (some (48, true))⟩,
  ⟨(some 55), .pick (.t 48) (.t 54) (.c (.b false)), none⟩,
  ⟨(some 4), .mv (.t 55), none⟩]
def r70_8 : List AI := [⟨(some 56), .mv (.t 6), none⟩,
  ⟨(some 57), .mv (.t 8), none⟩,
  ⟨(some 58), .bin .eql (.t 56) (.t 57), none⟩,
  ⟨(some 59), .load 5 true (.t 2), none⟩,
  ⟨(some 60), .load 5 true (.t 3), none⟩,
  ⟨(some 61), .call false 78 [(.t 59), (.t 60)], none⟩,
  ⟨(some 62), .beq true (.t 58) (.t 61), none⟩]
def r70_9 : List AI := [⟨(some 4), .mv (.c (.b false)), none⟩]
def r70_10 : List AI := [⟨(some 63), .load 5 true (.t 2), none⟩,
  ⟨(some 64), .load 5 true (.t 3), none⟩,
  ⟨(some 65), .bslice [.i .u8 0, .i .i64 0, .s [], .sl .full [], .b false] 2 [(0, (.t 63)), (1, (.t 64))], none⟩,
  ⟨(some 66), .call false 89 [(.c (.i .u8 5)), (.t 65)], none⟩,
  ⟨(some 10), .alloc [.i .u8 0, .i .i64 0, .s [], .sl .full [], .b false], none⟩,
  ⟨none, .store 5 (.t 10) (.t 66), none⟩]
def r70_11 : List AI := [⟨(some 67), .load 5 true (.t 10), none⟩,
  ⟨(some 68), .call false 76 [(.t 67)], none⟩,
  ⟨(some 69), .bin .neq (.t 68) (.c (.i .i64 0)), none⟩]
def r70_12 : List AI := [⟨(some 70), .mv (.t 5), none⟩,
  ⟨(some 71), .mv (.t 70), none⟩,
  ⟨(some 72), .load 5 true (.t 10), (some (71, true))⟩,
  ⟨(some 73), .call false 77 [(.t 72)], (some (71, true))⟩,
  ⟨(some 74), .bin .neq (.t 73) (.c (.i .i64 0)), (some (71, true))⟩,
  ⟨(some 75), .pick (.t 71) (.t 74) (.c (.b false)), none⟩,
  ⟨(some 4), .mv (.t 75), none⟩]
def r70_13 : List AI := [⟨(some 76), .mv (.t 5), none⟩,
  ⟨(some 77), .mv (.t 76), none⟩,
  ⟨(some 78), .load 5 true (.t 10), (some (77, true))⟩,
  ⟨(some 79), .mv (.t 6), (some (77, true))⟩,
  ⟨(some 80), .bin .add (.c (.s [123])) (.t 79), (some (77, true))⟩,
  ⟨(some 81), .bin .add (.t 80) (.c (.s [44, 32])), (some (77, true))⟩,
  ⟨(some 82), .mv (.t 8), (some (77, true))⟩,
  ⟨(some 83), .bin .add (.t 81) (.t 82), (some (77, true))⟩,
  ⟨(some 84), .bin .add (.t 83) (.c (.s [125])), (some (77, true))⟩,
  ⟨(some 85), .call false 91 [(.t 78), (.t 84)], (some (77, true))⟩,
  ⟨(some 86), .pick (.t 77) (.t 85) (.c (.b false)), none⟩,
  ⟨(some 87), .mv (.t 86), none⟩,
  ⟨(some 88), .load 5 true (.t 3), (some (87, true))⟩,
  ⟨(some 89), .load 5 true (.t 2), (some (87, true))⟩,
  ⟨(some 90), .bslice [.i .u8 0, .i .i64 0, .s [], .sl .full [], .b false] 2 [(0, (.t 88)), (1, (.t 89))], (some (87, true))⟩,
  ⟨(some 91), .call false 89 [(.c (.i .u8 6)), (.t 90)], (some (87, true))⟩,
  ⟨(some 92), .mv (.t 8), (some (87, true))⟩,
  ⟨(some 93), .bin .add (.c (.s [91])) (.t 92), (some (87, true))⟩,
  ⟨(some 94), .bin .add (.t 93) (.c (.s [44, 32])), (some (87, true))⟩,
  ⟨(some 95), .mv (.t 6), (some (87, true))⟩,
  ⟨(some 96), .bin .add (.t 94) (.t 95), (some (87, true))⟩,
  ⟨(some 97), .bin .add (.t 96) (.c (.s [93])), (some (87, true))⟩,
  ⟨(some 98), .call false 91 [(.t 91), (.t 97)], (some (87, true))⟩,
  ⟨(some 99), .pick (.t 87) (.t 98) (.c (.b false)), none⟩,
  ⟨(some 100), .mv (.t 99), none⟩,
  ⟨(some 101), .load 5 true (.t 2), (some (100, true))⟩,
  ⟨(some 102), .bslice [.i .u8 0, .i .i64 0, .s [], .sl .full [], .b false] 1 [(0, (.t 101))], (some (100, true))⟩,
  ⟨(some 103), .call false 89 [(.c (.i .u8 7)), (.t 102)], (some (100, true))⟩,
  ⟨(some 104), .mv (.t 6), (some (100, true))⟩,
  ⟨(some 105), .bin .add (.c (.s [60])) (.t 104), (some (100, true))⟩,
  ⟨(some 106), .bin .add (.t 105) (.c (.s [62])), (some (100, true))⟩,
  ⟨(some 107), .call false 91 [(.t 103), (.t 106)], (some (100, true))⟩,
  ⟨(some 108), .pick (.t 100) (.t 107) (.c (.b false)), none⟩,
  ⟨(some 109), .mv (.t 108), none⟩,
  ⟨(some 110), .load 5 true (.t 3), (some (109, true))⟩,
  ⟨(some 111), .bslice [.i .u8 0, .i .i64 0, .s [], .sl .full [], .b false] 1 [(0, (.t 110))], (some (109, true))⟩,
  ⟨(some 112), .call false 89 [(.c (.i .u8 4)), (.t 111)], (some (109, true))⟩,
  ⟨(some 113), .mv (.t 8), (some (109, true))⟩,
  ⟨(some 114), .bin .add (.c (.s [38])) (.t 113), (some (109, true))⟩,
  ⟨(some 115), .call false 91 [(.t 112), (.t 114)], (some (109, true))⟩,
  ⟨(some 116), .pick (.t 109) (.t 115) (.c (.b false)), none⟩,
  ⟨(some 4), .mv (.t 116), none⟩]
abbrev c70_0 : AC := (.seq (.seq (.reg 8 r70_8) (.cond (.t 62) (.seq (.reg 9 r70_9) .ret) .skip)) (.seq (.reg 10 r70_10) (.seq (.seq (.reg 11 r70_11) (.cond (.t 69) (.seq (.reg 12 r70_12) .ret) .skip)) (.seq (.reg 13 r70_13) .ret))))
abbrev c70_1 : AC := (.seq (.seq (.reg 6 r70_6) (.cond (.t 38) (.seq (.reg 7 r70_7) .ret) .skip)) c70_0)
abbrev c70_2 : AC := (.seq (.reg 5 r70_5) c70_1)
abbrev c70_3 : AC := (.seq (.reg 4 r70_4) c70_2)
abbrev c70_4 : AC := (.seq (.seq (.reg 2 r70_2) (.cond (.t 21) (.seq (.reg 3 r70_3) .ret) .skip)) c70_3)
abbrev c70_5 : AC := (.seq (.reg 1 r70_1) c70_4)
abbrev b70 : AC := (.seq (.reg 0 r70_0) c70_5)
def pf70 : AF := { nt := 117, res := [.tmp 4], body := b70 }
def T70_6 (prog : Prog) (K : Bool → Prop) (ok5 : Bool) (a6 : List UInt8) (b8 : List UInt8) (m0 : Val) (m1 : Val) : Prop :=
  ∃ r'1 : Bool, Pus prog 78 [.ag [.i .u8 m0.kind, .i .i64 m0.int, .s m0.text, .sl .ext (List.map Val.row m0.list), .b m0.cut], .ag [.i .u8 m1.kind, .i .i64 m1.int, .s m1.text, .sl .ext (List.map Val.row m1.list), .b m1.cut]] (.b r'1) ∧ ((decide (a6 = b8)) ≠ r'1 → K false) ∧ (¬((decide (a6 = b8)) ≠ r'1) → ∃ r'4 : Val, Pus prog 89 [.i .u8 5, .sl .ext (List.map Val.row [m0, m1])] (.ag [.i .u8 r'4.kind, .i .i64 r'4.int, .s r'4.text, .sl .ext (List.map Val.row r'4.list), .b r'4.cut]) ∧ ∃ r'6 : Int, Pus prog 76 [.ag [.i .u8 r'4.kind, .i .i64 r'4.int, .s r'4.text, .sl .ext (List.map Val.row r'4.list), .b r'4.cut]] (.i .i64 r'6) ∧ (r'6 ≠ 0 → (ok5 = true → ∃ r'10 : Int, Pus prog 77 [.ag [.i .u8 r'4.kind, .i .i64 r'4.int, .s r'4.text, .sl .ext (List.map Val.row r'4.list), .b r'4.cut]] (.i .i64 r'10) ∧ K (decide (r'10 ≠ 0))) ∧ (ok5 = false → K false)) ∧ (¬(r'6 ≠ 0) → (ok5 = true → ([123] : List UInt8).length + a6.length ≤ maxStr ∧ (([123] : List UInt8) ++ a6).length + ([44, 32] : List UInt8).length ≤ maxStr ∧ ((([123] : List UInt8) ++ a6) ++ ([44, 32] : List UInt8)).length + b8.length ≤ maxStr ∧ (((([123] : List UInt8) ++ a6) ++ ([44, 32] : List UInt8)) ++ b8).length + ([125] : List UInt8).length ≤ maxStr ∧ ∃ r'13 : Bool, Pus prog 91 [.ag [.i .u8 r'4.kind, .i .i64 r'4.int, .s r'4.text, .sl .ext (List.map Val.row r'4.list), .b r'4.cut], .s ((((([123] : List UInt8) ++ a6) ++ ([44, 32] : List UInt8)) ++ b8) ++ ([125] : List UInt8))] (.b r'13) ∧ (r'13 = true → ∃ r'16 : Val, Pus prog 89 [.i .u8 6, .sl .ext (List.map Val.row [m1, m0])] (.ag [.i .u8 r'16.kind, .i .i64 r'16.int, .s r'16.text, .sl .ext (List.map Val.row r'16.list), .b r'16.cut]) ∧ ([91] : List UInt8).length + b8.length ≤ maxStr ∧ (([91] : List UInt8) ++ b8).length + ([44, 32] : List UInt8).length ≤ maxStr ∧ ((([91] : List UInt8) ++ b8) ++ ([44, 32] : List UInt8)).length + a6.length ≤ maxStr ∧ (((([91] : List UInt8) ++ b8) ++ ([44, 32] : List UInt8)) ++ a6).length + ([93] : List UInt8).length ≤ maxStr ∧ ∃ r'18 : Bool, Pus prog 91 [.ag [.i .u8 r'16.kind, .i .i64 r'16.int, .s r'16.text, .sl .ext (List.map Val.row r'16.list), .b r'16.cut], .s ((((([91] : List UInt8) ++ b8) ++ ([44, 32] : List UInt8)) ++ a6) ++ ([93] : List UInt8))] (.b r'18) ∧ (r'18 = true → ∃ r'21 : Val, Pus prog 89 [.i .u8 7, .sl .ext (List.map Val.row [m0])] (.ag [.i .u8 r'21.kind, .i .i64 r'21.int, .s r'21.text, .sl .ext (List.map Val.row r'21.list), .b r'21.cut]) ∧ ([60] : List UInt8).length + a6.length ≤ maxStr ∧ (([60] : List UInt8) ++ a6).length + ([62] : List UInt8).length ≤ maxStr ∧ ∃ r'23 : Bool, Pus prog 91 [.ag [.i .u8 r'21.kind, .i .i64 r'21.int, .s r'21.text, .sl .ext (List.map Val.row r'21.list), .b r'21.cut], .s ((([60] : List UInt8) ++ a6) ++ ([62] : List UInt8))] (.b r'23) ∧ (r'23 = true → ∃ r'26 : Val, Pus prog 89 [.i .u8 4, .sl .ext (List.map Val.row [m1])] (.ag [.i .u8 r'26.kind, .i .i64 r'26.int, .s r'26.text, .sl .ext (List.map Val.row r'26.list), .b r'26.cut]) ∧ ([38] : List UInt8).length + b8.length ≤ maxStr ∧ ∃ r'28 : Bool, Pus prog 91 [.ag [.i .u8 r'26.kind, .i .i64 r'26.int, .s r'26.text, .sl .ext (List.map Val.row r'26.list), .b r'26.cut], .s (([38] : List UInt8) ++ b8)] (.b r'28) ∧ K r'28) ∧ (r'23 = false → K false)) ∧ (r'18 = false → K false)) ∧ (r'13 = false → K false)) ∧ (ok5 = false → K false)))
theorem w70_6 {prog : Prog} {d : Nat} {Q : AE → Sl → St → Prop} {K : Bool → Prop} (hQ : ∀ (σ : Sl) (st : St) (x0 : Bool), σ 4 = .b x0 → K x0 → Q .ret σ st) {ok5 : Bool} {a6 : List UInt8} {b8 : List UInt8} {m0 : Val} {m1 : Val}   {σ : Sl} {st : St} {v0 : Nat} {v1 : Nat} (H2 : σ 2 = .p (d, 0) v0 0) (H3 : σ 3 = .p (d, 1) v1 0) (H5 : σ 5 = .b ok5) (H6 : σ 6 = .s a6) (H8 : σ 8 = .s b8) (B0 : lk st.bx (d, 0) = some (v0, [.i .u8 m0.kind, .i .i64 m0.int, .s m0.text, .sl .ext (List.map Val.row m0.list), .b m0.cut])) (B1 : lk st.bx (d, 1) = some (v1, [.i .u8 m1.kind, .i .i64 m1.int, .s m1.text, .sl .ext (List.map Val.row m1.list), .b m1.cut])) (h : T70_6 prog K ok5 a6 b8 m0 m1) : W prog d c70_0 σ st Q :=
  W.seq (W.seq (W.reg0 rfl fun _ _ => s_mvS H6 (s_mvS H8 (s_bin rfl rfl (abin_seq _ _) (s_loadP H2 B0 rfl rfl (s_loadP H3 B1 rfl rfl (h.elim fun r'1 e'2 => s_call (sc rfl rfl (sc rfl rfl sn)) e'2.1 (s_bne rfl rfl (s_nil (c_split rfl (fun g'3 => W.seq (W.reg0 rfl fun _ _ => s_mvB rfl (s_nil (W.ret (hQ _ _   _ rfl  (e'2.2.1 g'3)))))) (fun g'3 => W.skip (W.seq (W.reg (s_loadP H2 (lk_other rfl B0) rfl rfl (s_loadP H3 (lk_other rfl B1) rfl rfl (s_bslM (f := Val.row) (l := [m0, m1]) rfl rfl (g_cons rfl rfl rfl (g_cons rfl rfl rfl g_nil)) (by simp only [List.map_cons, List.map_nil, Val.row_eq]; rfl) ((e'2.2.2 g'3).elim fun r'4 e'5 => s_call (sc rfl rfl (sc rfl rfl sn)) e'5.1 (s_alloc (s_storeP rfl (show lk _ (d, 40964) = some (_, ([.i .u8 0, .i .i64 0, .s [], .sl .full (List.map Val.row ([] : List Val)), .b false] : List AV)) from lk_here) rfl rfl rfl (s_nil (W.seq (W.seq (W.reg0 rfl fun _ _ => s_loadP rfl lk_here rfl rfl (e'5.2.elim fun r'6 e'7 => s_call (sc rfl rfl sn) e'7.1 (s_bin rfl rfl (abin_neq _ _ _) (s_nil (c_split rfl (fun g'8 => W.seq (W.reg0 rfl fun _ _ => s_mvB H5 (s_mvB rfl (s_emb (g := 71) rfl (fun g'9 => s_gy rfl (s_loadP rfl lk_here rfl rfl (s_gy rfl (((e'7.2.1 g'8).1 g'9).elim fun r'10 e'11 => s_call (sc rfl rfl sn) e'11.1 (s_gy rfl (s_bin rfl rfl (abin_neq _ _ _) (s_pickTB rfl rfl (s_mvB rfl (s_nil (W.ret (hQ _ _   _ rfl  e'11.2))))))))))) (fun g'9 => s_gn (b := false) rfl rfl (s_gn (b := false) rfl rfl (s_gn (b := false) rfl rfl (s_pickFB rfl rfl (s_mvB rfl (s_nil (W.ret (hQ _ _   _ rfl  ((e'7.2.1 g'8).2 g'9))))))))))))) (fun g'8 => W.skip (W.seq (W.reg0 rfl fun _ _ => s_mvB H5 (s_mvB rfl (s_emb (g := 77) rfl (fun g'12 => s_gy rfl (s_loadP rfl lk_here rfl rfl (s_gy rfl (s_mvS H6 (s_gy rfl (s_bin rfl rfl (abin_cat' ((e'7.2.2 g'8).1 g'12).1) (s_gy rfl (s_bin rfl rfl (abin_cat' ((e'7.2.2 g'8).1 g'12).2.1) (s_gy rfl (s_mvS H8 (s_gy rfl (s_bin rfl rfl (abin_cat' ((e'7.2.2 g'8).1 g'12).2.2.1) (s_gy rfl (s_bin rfl rfl (abin_cat' ((e'7.2.2 g'8).1 g'12).2.2.2.1) (s_gy rfl (((e'7.2.2 g'8).1 g'12).2.2.2.2.elim fun r'13 e'14 => s_call (sc rfl rfl (sc rfl rfl sn)) e'14.1 (s_pickTB rfl rfl (s_mvB rfl (s_emb (g := 87) rfl (fun g'15 => s_gy rfl (s_loadP H3 (lk_other rfl (lk_other rfl B1)) rfl rfl (s_gy rfl (s_loadP H2 (lk_other rfl (lk_other rfl B0)) rfl rfl (s_gy rfl (s_bslM (f := Val.row) (l := [m1, m0]) rfl rfl (g_cons rfl rfl rfl (g_cons rfl rfl rfl g_nil)) (by simp only [List.map_cons, List.map_nil, Val.row_eq]; rfl) (s_gy rfl ((e'14.2.1 g'15).elim fun r'16 e'17 => s_call (sc rfl rfl (sc rfl rfl sn)) e'17.1 (s_gy rfl (s_mvS H8 (s_gy rfl (s_bin rfl rfl (abin_cat' e'17.2.1) (s_gy rfl (s_bin rfl rfl (abin_cat' e'17.2.2.1) (s_gy rfl (s_mvS H6 (s_gy rfl (s_bin rfl rfl (abin_cat' e'17.2.2.2.1) (s_gy rfl (s_bin rfl rfl (abin_cat' e'17.2.2.2.2.1) (s_gy rfl (e'17.2.2.2.2.2.elim fun r'18 e'19 => s_call (sc rfl rfl (sc rfl rfl sn)) e'19.1 (s_pickTB rfl rfl (s_mvB rfl (s_emb (g := 100) rfl (fun g'20 => s_gy rfl (s_loadP H2 (lk_other rfl (lk_other rfl B0)) rfl rfl (s_gy rfl (s_bslM (f := Val.row) (l := [m0]) rfl rfl (g_cons rfl rfl rfl g_nil) (by simp only [List.map_cons, List.map_nil, Val.row_eq]; rfl) (s_gy rfl ((e'19.2.1 g'20).elim fun r'21 e'22 => s_call (sc rfl rfl (sc rfl rfl sn)) e'22.1 (s_gy rfl (s_mvS H6 (s_gy rfl (s_bin rfl rfl (abin_cat' e'22.2.1) (s_gy rfl (s_bin rfl rfl (abin_cat' e'22.2.2.1) (s_gy rfl (e'22.2.2.2.elim fun r'23 e'24 => s_call (sc rfl rfl (sc rfl rfl sn)) e'24.1 (s_pickTB rfl rfl (s_mvB rfl (s_emb (g := 109) rfl (fun g'25 => s_gy rfl (s_loadP H3 (lk_other rfl (lk_other rfl B1)) rfl rfl (s_gy rfl (s_bslM (f := Val.row) (l := [m1]) rfl rfl (g_cons rfl rfl rfl g_nil) (by simp only [List.map_cons, List.map_nil, Val.row_eq]; rfl) (s_gy rfl ((e'24.2.1 g'25).elim fun r'26 e'27 => s_call (sc rfl rfl (sc rfl rfl sn)) e'27.1 (s_gy rfl (s_mvS H8 (s_gy rfl (s_bin rfl rfl (abin_cat' e'27.2.1) (s_gy rfl (e'27.2.2.elim fun r'28 e'29 => s_call (sc rfl rfl (sc rfl rfl sn)) e'29.1 (s_pickTB rfl rfl (s_mvB rfl (s_nil (W.ret (hQ _ _   _ rfl  e'29.2))))))))))))))))) (fun g'25 => s_gn (b := false) rfl rfl (s_gn (b := false) rfl rfl (s_gn (b := false) rfl rfl (s_gn (b := false) rfl rfl (s_gn (b := false) rfl rfl (s_gn (b := false) rfl rfl (s_pickFB rfl rfl (s_mvB rfl (s_nil (W.ret (hQ _ _   _ rfl  (e'24.2.2 g'25))))))))))))))))))))))))))))) (fun g'20 => s_gn (b := false) rfl rfl (s_gn (b := false) rfl rfl (s_gn (b := false) rfl rfl (s_gn (b := false) rfl rfl (s_gn (b := false) rfl rfl (s_gn (b := false) rfl rfl (s_gn (b := false) rfl rfl (s_pickFB rfl rfl (s_mvB rfl (s_gn (b := false) rfl rfl (s_gn (b := false) rfl rfl (s_gn (b := false) rfl rfl (s_gn (b := false) rfl rfl (s_gn (b := false) rfl rfl (s_gn (b := false) rfl rfl (s_pickFB rfl rfl (s_mvB rfl (s_nil (W.ret (hQ _ _   _ rfl  (e'19.2.2 g'20)))))))))))))))))))))))))))))))))))))))))))))) (fun g'15 => s_gn (b := false) rfl rfl (s_gn (b := false) rfl rfl (s_gn (b := false) rfl rfl (s_gn (b := false) rfl rfl (s_gn (b := false) rfl rfl (s_gn (b := false) rfl rfl (s_gn (b := false) rfl rfl (s_gn (b := false) rfl rfl (s_gn (b := false) rfl rfl (s_gn (b := false) rfl rfl (s_gn (b := false) rfl rfl (s_pickFB rfl rfl (s_mvB rfl (s_gn (b := false) rfl rfl (s_gn (b := false) rfl rfl (s_gn (b := false) rfl rfl (s_gn (b := false) rfl rfl (s_gn (b := false) rfl rfl (s_gn (b := false) rfl rfl (s_gn (b := false) rfl rfl (s_pickFB rfl rfl (s_mvB rfl (s_gn (b := false) rfl rfl (s_gn (b := false) rfl rfl (s_gn (b := false) rfl rfl (s_gn (b := false) rfl rfl (s_gn (b := false) rfl rfl (s_gn (b := false) rfl rfl (s_pickFB rfl rfl (s_mvB rfl (s_nil (W.ret (hQ _ _   _ rfl  (e'14.2.2 g'15))))))))))))))))))))))))))))))))))))))))))))))))))))) (fun g'12 => s_gn (b := false) rfl rfl (s_gn (b := false) rfl rfl (s_gn (b := false) rfl rfl (s_gn (b := false) rfl rfl (s_gn (b := false) rfl rfl (s_gn (b := false) rfl rfl (s_gn (b := false) rfl rfl (s_gn (b := false) rfl rfl (s_pickFB rfl rfl (s_mvB rfl (s_gn (b := false) rfl rfl (s_gn (b := false) rfl rfl (s_gn (b := false) rfl rfl (s_gn (b := false) rfl rfl (s_gn (b := false) rfl rfl (s_gn (b := false) rfl rfl (s_gn (b := false) rfl rfl (s_gn (b := false) rfl rfl (s_gn (b := false) rfl rfl (s_gn (b := false) rfl rfl (s_gn (b := false) rfl rfl (s_pickFB rfl rfl (s_mvB rfl (s_gn (b := false) rfl rfl (s_gn (b := false) rfl rfl (s_gn (b := false) rfl rfl (s_gn (b := false) rfl rfl (s_gn (b := false) rfl rfl (s_gn (b := false) rfl rfl (s_gn (b := false) rfl rfl (s_pickFB rfl rfl (s_mvB rfl (s_gn (b := false) rfl rfl (s_gn (b := false) rfl rfl (s_gn (b := false) rfl rfl (s_gn (b := false) rfl rfl (s_gn (b := false) rfl rfl (s_gn (b := false) rfl rfl (s_pickFB rfl rfl (s_mvB rfl (s_nil (W.ret (hQ _ _   _ rfl  ((e'7.2.2 g'8).2 g'12))))))))))))))))))))))))))))))))))))))))))))))))))))))))))))))))))))))))))))
def T70_5 (prog : Prog) (K : Bool → Prop) (ok5 : Bool) (a6 : List UInt8) (e7 : Int) (b8 : List UInt8) (f9 : Int) (m0 : Val) (m1 : Val) : Prop :=
  (e7 ≠ 0 → (ok5 = true → (e7 = 0 → (f9 = 0 → K true) ∧ (¬(f9 = 0) → K (decide (f9 = 8)))) ∧ (¬(e7 = 0) → (e7 = 8 → (f9 = 0 → K true) ∧ (¬(f9 = 0) → K (decide (f9 = 8)))) ∧ (¬(e7 = 8) → K false))) ∧ (ok5 = false → K false)) ∧ (¬(e7 ≠ 0) → (f9 ≠ 0 → (ok5 = true → (e7 = 0 → (f9 = 0 → K true) ∧ (¬(f9 = 0) → K (decide (f9 = 8)))) ∧ (¬(e7 = 0) → (e7 = 8 → (f9 = 0 → K true) ∧ (¬(f9 = 0) → K (decide (f9 = 8)))) ∧ (¬(e7 = 8) → K false))) ∧ (ok5 = false → K false)) ∧ (¬(f9 ≠ 0) → T70_6 prog K ok5 a6 b8 m0 m1))
theorem w70_5 {prog : Prog} {d : Nat} {Q : AE → Sl → St → Prop} {K : Bool → Prop} (hQ : ∀ (σ : Sl) (st : St) (x0 : Bool), σ 4 = .b x0 → K x0 → Q .ret σ st) {ok5 : Bool} {a6 : List UInt8} {e7 : Int} {b8 : List UInt8} {f9 : Int} {m0 : Val} {m1 : Val}   {σ : Sl} {st : St} {v0 : Nat} {v1 : Nat} (H2 : σ 2 = .p (d, 0) v0 0) (H3 : σ 3 = .p (d, 1) v1 0) (H5 : σ 5 = .b ok5) (H6 : σ 6 = .s a6) (H7 : σ 7 = .i .i64 e7) (H8 : σ 8 = .s b8) (H9 : σ 9 = .i .i64 f9) (B0 : lk st.bx (d, 0) = some (v0, [.i .u8 m0.kind, .i .i64 m0.int, .s m0.text, .sl .ext (List.map Val.row m0.list), .b m0.cut])) (B1 : lk st.bx (d, 1) = some (v1, [.i .u8 m1.kind, .i .i64 m1.int, .s m1.text, .sl .ext (List.map Val.row m1.list), .b m1.cut])) (h : T70_5 prog K ok5 a6 e7 b8 f9 m0 m1) : W prog d c70_1 σ st Q :=
  W.seq (W.seq (W.reg0 rfl fun _ _ => s_mvI H7 (s_bin rfl rfl (abin_neq _ _ _) (s_mvB rfl (s_em (g := 35) rfl (fun g'1 => s_gn (b := true) rfl rfl (s_gn (b := true) rfl rfl (s_pickTB rfl rfl (s_nil (c_tt rfl (W.seq (W.reg0 rfl fun _ _ => s_mvB H5 (s_mvB rfl (s_emb (g := 40) rfl (fun g'2 => s_gy rfl (s_mvI H7 (s_gy rfl (s_bin rfl rfl (abin_eql _ _ _) (s_gy rfl (s_mvB rfl (s_em (g := 43) rfl (fun g'3 => s_gn (b := true) rfl rfl (s_gn (b := true) rfl rfl (s_gy rfl (s_pickTB rfl rfl (s_pickTB rfl rfl (s_mvB rfl (s_gy rfl (s_mvI H9 (s_gy rfl (s_bin rfl rfl (abin_eql _ _ _) (s_gy rfl (s_mvB rfl (s_em (g := 51) rfl (fun g'4 => s_gn (b := true) rfl rfl (s_gn (b := true) rfl rfl (s_gy rfl (s_pickTB rfl rfl (s_pickTB rfl rfl (s_mvB rfl (s_nil (W.ret (hQ _ _   _ rfl  ((((h.1 g'1).1 g'2).1 g'3).1 g'4)))))))))) (fun g'4 => s_gy rfl (s_mvI H9 (s_gy rfl (s_bin rfl rfl (abin_eql _ _ _) (s_gy rfl (s_pickFB rfl rfl (s_pickTB rfl rfl (s_mvB rfl (s_nil (W.ret (hQ _ _   _ rfl  ((((h.1 g'1).1 g'2).1 g'3).2 g'4))))))))))))))))))))))))) (fun g'3 => s_gy rfl (s_mvI H7 (s_gy rfl (s_bin rfl rfl (abin_eql _ _ _) (s_gy rfl (s_pickFB rfl rfl (s_pickTB rfl rfl (s_mvB rfl (s_em (g := 48) rfl (fun g'5 => s_gy rfl (s_mvI H9 (s_gy rfl (s_bin rfl rfl (abin_eql _ _ _) (s_gy rfl (s_mvB rfl (s_em (g := 51) rfl (fun g'6 => s_gn (b := true) rfl rfl (s_gn (b := true) rfl rfl (s_gy rfl (s_pickTB rfl rfl (s_pickTB rfl rfl (s_mvB rfl (s_nil (W.ret (hQ _ _   _ rfl  (((((h.1 g'1).1 g'2).2 g'3).1 g'5).1 g'6)))))))))) (fun g'6 => s_gy rfl (s_mvI H9 (s_gy rfl (s_bin rfl rfl (abin_eql _ _ _) (s_gy rfl (s_pickFB rfl rfl (s_pickTB rfl rfl (s_mvB rfl (s_nil (W.ret (hQ _ _   _ rfl  (((((h.1 g'1).1 g'2).2 g'3).1 g'5).2 g'6))))))))))))))))))) (fun g'5 => s_gn (b := false) rfl rfl (s_gn (b := false) rfl rfl (s_gn (b := false) rfl rfl (s_gt rfl (s_gt rfl (s_gn (b := false) rfl rfl (s_pickFB rfl rfl (s_mvB rfl (s_nil (W.ret (hQ _ _   _ rfl  ((((h.1 g'1).1 g'2).2 g'3).2 g'5)))))))))))))))))))))))))))) (fun g'2 => s_gn (b := false) rfl rfl (s_gn (b := false) rfl rfl (s_gn (b := false) rfl rfl (s_gt rfl (s_gt rfl (s_gn (b := false) rfl rfl (s_pickFB rfl rfl (s_mvB rfl (s_gn (b := false) rfl rfl (s_gn (b := false) rfl rfl (s_gn (b := false) rfl rfl (s_gt rfl (s_gt rfl (s_gn (b := false) rfl rfl (s_pickFB rfl rfl (s_mvB rfl (s_nil (W.ret (hQ _ _   _ rfl  ((h.1 g'1).2 g'2))))))))))))))))))))))))))))) (fun g'1 => s_gy rfl (s_mvI H9 (s_gy rfl (s_bin rfl rfl (abin_neq _ _ _) (s_pickFB rfl rfl (s_nil (c_split rfl (fun g'7 => W.seq (W.reg0 rfl fun _ _ => s_mvB H5 (s_mvB rfl (s_emb (g := 40) rfl (fun g'8 => s_gy rfl (s_mvI H7 (s_gy rfl (s_bin rfl rfl (abin_eql _ _ _) (s_gy rfl (s_mvB rfl (s_em (g := 43) rfl (fun g'9 => s_gn (b := true) rfl rfl (s_gn (b := true) rfl rfl (s_gy rfl (s_pickTB rfl rfl (s_pickTB rfl rfl (s_mvB rfl (s_gy rfl (s_mvI H9 (s_gy rfl (s_bin rfl rfl (abin_eql _ _ _) (s_gy rfl (s_mvB rfl (s_em (g := 51) rfl (fun g'10 => s_gn (b := true) rfl rfl (s_gn (b := true) rfl rfl (s_gy rfl (s_pickTB rfl rfl (s_pickTB rfl rfl (s_mvB rfl (s_nil (W.ret (hQ _ _   _ rfl  (((((h.2 g'1).1 g'7).1 g'8).1 g'9).1 g'10)))))))))) (fun g'10 => s_gy rfl (s_mvI H9 (s_gy rfl (s_bin rfl rfl (abin_eql _ _ _) (s_gy rfl (s_pickFB rfl rfl (s_pickTB rfl rfl (s_mvB rfl (s_nil (W.ret (hQ _ _   _ rfl  (((((h.2 g'1).1 g'7).1 g'8).1 g'9).2 g'10))))))))))))))))))))))))) (fun g'9 => s_gy rfl (s_mvI H7 (s_gy rfl (s_bin rfl rfl (abin_eql _ _ _) (s_gy rfl (s_pickFB rfl rfl (s_pickTB rfl rfl (s_mvB rfl (s_em (g := 48) rfl (fun g'11 => s_gy rfl (s_mvI H9 (s_gy rfl (s_bin rfl rfl (abin_eql _ _ _) (s_gy rfl (s_mvB rfl (s_em (g := 51) rfl (fun g'12 => s_gn (b := true) rfl rfl (s_gn (b := true) rfl rfl (s_gy rfl (s_pickTB rfl rfl (s_pickTB rfl rfl (s_mvB rfl (s_nil (W.ret (hQ _ _   _ rfl  ((((((h.2 g'1).1 g'7).1 g'8).2 g'9).1 g'11).1 g'12)))))))))) (fun g'12 => s_gy rfl (s_mvI H9 (s_gy rfl (s_bin rfl rfl (abin_eql _ _ _) (s_gy rfl (s_pickFB rfl rfl (s_pickTB rfl rfl (s_mvB rfl (s_nil (W.ret (hQ _ _   _ rfl  ((((((h.2 g'1).1 g'7).1 g'8).2 g'9).1 g'11).2 g'12))))))))))))))))))) (fun g'11 => s_gn (b := false) rfl rfl (s_gn (b := false) rfl rfl (s_gn (b := false) rfl rfl (s_gt rfl (s_gt rfl (s_gn (b := false) rfl rfl (s_pickFB rfl rfl (s_mvB rfl (s_nil (W.ret (hQ _ _   _ rfl  (((((h.2 g'1).1 g'7).1 g'8).2 g'9).2 g'11)))))))))))))))))))))))))))) (fun g'8 => s_gn (b := false) rfl rfl (s_gn (b := false) rfl rfl (s_gn (b := false) rfl rfl (s_gt rfl (s_gt rfl (s_gn (b := false) rfl rfl (s_pickFB rfl rfl (s_mvB rfl (s_gn (b := false) rfl rfl (s_gn (b := false) rfl rfl (s_gn (b := false) rfl rfl (s_gt rfl (s_gt rfl (s_gn (b := false) rfl rfl (s_pickFB rfl rfl (s_mvB rfl (s_nil (W.ret (hQ _ _   _ rfl  (((h.2 g'1).1 g'7).2 g'8)))))))))))))))))))))))) (fun g'7 => W.skip (w70_6  hQ  H2 H3 H5 H6 H8 B0 B1 ((h.2 g'1).2 g'7)))))))))))))))
def T70_4 (prog : Prog) (K : Bool → Prop) (ok5 : Bool) (a6 : List UInt8) (e7 : Int) (m0 : Val) (m1 : Val) : Prop :=
  ∃ r'1 : List UInt8, ∃ r'2 : Int, Pus prog 72 [.ag [.i .u8 m1.kind, .i .i64 m1.int, .s m1.text, .sl .ext (List.map Val.row m1.list), .b m1.cut]] (.tup [.s r'1, .i .i64 r'2]) ∧ T70_5 prog K ok5 a6 e7 r'1 r'2 m0 m1
theorem w70_4 {prog : Prog} {d : Nat} {Q : AE → Sl → St → Prop} {K : Bool → Prop} (hQ : ∀ (σ : Sl) (st : St) (x0 : Bool), σ 4 = .b x0 → K x0 → Q .ret σ st) {ok5 : Bool} {a6 : List UInt8} {e7 : Int} {m0 : Val} {m1 : Val}   {σ : Sl} {st : St} {v0 : Nat} {v1 : Nat} (H2 : σ 2 = .p (d, 0) v0 0) (H3 : σ 3 = .p (d, 1) v1 0) (H5 : σ 5 = .b ok5) (H6 : σ 6 = .s a6) (H7 : σ 7 = .i .i64 e7) (B0 : lk st.bx (d, 0) = some (v0, [.i .u8 m0.kind, .i .i64 m0.int, .s m0.text, .sl .ext (List.map Val.row m0.list), .b m0.cut])) (B1 : lk st.bx (d, 1) = some (v1, [.i .u8 m1.kind, .i .i64 m1.int, .s m1.text, .sl .ext (List.map Val.row m1.list), .b m1.cut])) (h : T70_4 prog K ok5 a6 e7 m0 m1) : W prog d c70_2 σ st Q :=
  W.seq (W.reg0 rfl fun _ _ => s_loadP H3 B1 rfl rfl (h.elim fun r'1 e'4 => e'4.elim fun r'2 e'3 => s_call (sc rfl rfl sn) e'3.1 (s_mvT rfl (s_ext rfl rfl (s_ext rfl rfl (s_mvS rfl (s_mvI rfl (s_nil (w70_5  hQ  H2 H3 H5 H6 H7 rfl rfl B0 B1 e'3.2)))))))))
def T70_3 (prog : Prog) (K : Bool → Prop) (ok5 : Bool) (m0 : Val) (m1 : Val) : Prop :=
  ∃ r'1 : List UInt8, ∃ r'2 : Int, Pus prog 72 [.ag [.i .u8 m0.kind, .i .i64 m0.int, .s m0.text, .sl .ext (List.map Val.row m0.list), .b m0.cut]] (.tup [.s r'1, .i .i64 r'2]) ∧ T70_4 prog K ok5 r'1 r'2 m0 m1
theorem w70_3 {prog : Prog} {d : Nat} {Q : AE → Sl → St → Prop} {K : Bool → Prop} (hQ : ∀ (σ : Sl) (st : St) (x0 : Bool), σ 4 = .b x0 → K x0 → Q .ret σ st) {ok5 : Bool} {m0 : Val} {m1 : Val}   {σ : Sl} {st : St} {v0 : Nat} {v1 : Nat} (H2 : σ 2 = .p (d, 0) v0 0) (H3 : σ 3 = .p (d, 1) v1 0) (H5 : σ 5 = .b ok5) (B0 : lk st.bx (d, 0) = some (v0, [.i .u8 m0.kind, .i .i64 m0.int, .s m0.text, .sl .ext (List.map Val.row m0.list), .b m0.cut])) (B1 : lk st.bx (d, 1) = some (v1, [.i .u8 m1.kind, .i .i64 m1.int, .s m1.text, .sl .ext (List.map Val.row m1.list), .b m1.cut])) (h : T70_3 prog K ok5 m0 m1) : W prog d c70_3 σ st Q :=
  W.seq (W.reg0 rfl fun _ _ => s_loadP H2 B0 rfl rfl (h.elim fun r'1 e'4 => e'4.elim fun r'2 e'3 => s_call (sc rfl rfl sn) e'3.1 (s_mvT rfl (s_ext rfl rfl (s_ext rfl rfl (s_mvS rfl (s_mvI rfl (s_nil (w70_4  hQ  H2 H3 H5 rfl rfl B0 B1 e'3.2)))))))))
def T70_2 (prog : Prog) (K : Bool → Prop) (ok5 : Bool) (m0 : Val) (m1 : Val) : Prop :=
  ∃ r'1 : Bool, Pus prog 71 [.ag [.i .u8 m0.kind, .i .i64 m0.int, .s m0.text, .sl .ext (List.map Val.row m0.list), .b m0.cut]] (.b r'1) ∧ (r'1 = true → K ok5) ∧ (r'1 = false → ∃ r'4 : Bool, Pus prog 71 [.ag [.i .u8 m1.kind, .i .i64 m1.int, .s m1.text, .sl .ext (List.map Val.row m1.list), .b m1.cut]] (.b r'4) ∧ (r'4 = true → K ok5) ∧ (r'4 = false → ((!ok5) = true → K ok5) ∧ ((!ok5) = false → T70_3 prog K ok5 m0 m1)))
theorem w70_2 {prog : Prog} {d : Nat} {Q : AE → Sl → St → Prop} {K : Bool → Prop} (hQ : ∀ (σ : Sl) (st : St) (x0 : Bool), σ 4 = .b x0 → K x0 → Q .ret σ st) {ok5 : Bool} {m0 : Val} {m1 : Val}   {σ : Sl} {st : St} {v0 : Nat} {v1 : Nat} (H2 : σ 2 = .p (d, 0) v0 0) (H3 : σ 3 = .p (d, 1) v1 0) (H5 : σ 5 = .b ok5) (B0 : lk st.bx (d, 0) = some (v0, [.i .u8 m0.kind, .i .i64 m0.int, .s m0.text, .sl .ext (List.map Val.row m0.list), .b m0.cut])) (B1 : lk st.bx (d, 1) = some (v1, [.i .u8 m1.kind, .i .i64 m1.int, .s m1.text, .sl .ext (List.map Val.row m1.list), .b m1.cut])) (h : T70_2 prog K ok5 m0 m1) : W prog d c70_4 σ st Q :=
  W.seq (W.seq (W.reg0 rfl fun _ _ => s_loadP H2 B0 rfl rfl (h.elim fun r'1 e'2 => s_call (sc rfl rfl sn) e'2.1 (s_mvB rfl (s_emb (g := 14) rfl (fun g'3 => s_gn (b := true) rfl rfl (s_gn (b := true) rfl rfl (s_pickTB rfl rfl (s_mvB rfl (s_gn (b := true) rfl rfl (s_gn (b := true) rfl rfl (s_pickTB rfl rfl (s_nil (c_tt rfl (W.seq (W.reg0 rfl fun _ _ => s_mvB H5 (s_mvB rfl (s_nil (W.ret (hQ _ _   _ rfl  (e'2.2.1 g'3)))))))))))))))) (fun g'3 => s_gy rfl (s_loadP H3 B1 rfl rfl (s_gy rfl ((e'2.2.2 g'3).elim fun r'4 e'5 => s_call (sc rfl rfl sn) e'5.1 (s_pickFB rfl rfl (s_mvB rfl (s_emb (g := 18) rfl (fun g'6 => s_gn (b := true) rfl rfl (s_gn (b := true) rfl rfl (s_pickTB rfl rfl (s_nil (c_tt rfl (W.seq (W.reg0 rfl fun _ _ => s_mvB H5 (s_mvB rfl (s_nil (W.ret (hQ _ _   _ rfl  (e'5.2.1 g'6)))))))))))) (fun g'6 => s_gy rfl (s_mvB H5 (s_gy rfl (s_not rfl (s_pickFB rfl rfl (s_nil (c_bool rfl (fun g'7 => W.seq (W.reg0 rfl fun _ _ => s_mvB H5 (s_mvB rfl (s_nil (W.ret (hQ _ _   _ rfl  ((e'5.2.2 g'6).1 g'7))))))) (fun g'7 => W.skip (w70_3  hQ  H2 H3 H5 B0 B1 ((e'5.2.2 g'6).2 g'7))))))))))))))))))))))
def T70_1 (prog : Prog) (K : Bool → Prop) (m0 : Val) (m1 : Val) : Prop :=
  ∃ r'1 : Bool, Pus prog 101 [] (.b r'1) ∧ T70_2 prog K r'1 m0 m1
theorem w70_1 {prog : Prog} {d : Nat} {Q : AE → Sl → St → Prop} {K : Bool → Prop} (hQ : ∀ (σ : Sl) (st : St) (x0 : Bool), σ 4 = .b x0 → K x0 → Q .ret σ st) {m0 : Val} {m1 : Val}   {σ : Sl} {st : St} {v0 : Nat} {v1 : Nat} (H2 : σ 2 = .p (d, 0) v0 0) (H3 : σ 3 = .p (d, 1) v1 0) (B0 : lk st.bx (d, 0) = some (v0, [.i .u8 m0.kind, .i .i64 m0.int, .s m0.text, .sl .ext (List.map Val.row m0.list), .b m0.cut])) (B1 : lk st.bx (d, 1) = some (v1, [.i .u8 m1.kind, .i .i64 m1.int, .s m1.text, .sl .ext (List.map Val.row m1.list), .b m1.cut])) (h : T70_1 prog K m0 m1) : W prog d c70_5 σ st Q :=
  W.seq (W.reg0 rfl fun _ _ => h.elim fun r'1 e'2 => s_call sn e'2.1 (s_mvB rfl (s_nil (w70_2  hQ  H2 H3 rfl B0 B1 e'2.2))))
def T70_0 (prog : Prog) (K : Bool → Prop) (v0 : Val) (w1 : Val) : Prop :=
  T70_1 prog K v0 w1
theorem w70_0 {prog : Prog} {d : Nat} {Q : AE → Sl → St → Prop} {K : Bool → Prop} (hQ : ∀ (σ : Sl) (st : St) (x0 : Bool), σ 4 = .b x0 → K x0 → Q .ret σ st) {v0 : Val} {w1 : Val}   {σ : Sl} {st : St} (H0 : σ 0 = .ag [.i .u8 v0.kind, .i .i64 v0.int, .s v0.text, .sl .ext (List.map Val.row v0.list), .b v0.cut]) (H1 : σ 1 = .ag [.i .u8 w1.kind, .i .i64 w1.int, .s w1.text, .sl .ext (List.map Val.row w1.list), .b w1.cut]) (h : T70_0 prog K v0 w1) : W prog d (.seq (.reg 0 r70_0) c70_5) σ st Q :=
  W.seq (W.reg0 rfl fun _ _ => s_box H0 rfl (s_box H1 rfl (s_mvB rfl (s_nil (w70_1  hQ  rfl rfl (lk_other rfl lk_here) lk_here h)))))
theorem p70 {prog : Prog} (hf : prog.fn 70 = some pf70) {v0 : Val} {w1 : Val} {K : Bool → Prop} (h : T70_0 prog K v0 w1) : ∃ x0 : Bool, K x0 ∧ Pus prog 70 [.ag [.i .u8 v0.kind, .i .i64 v0.int, .s v0.text, .sl .ext (List.map Val.row v0.list), .b v0.cut], .ag [.i .u8 w1.kind, .i .i64 w1.int, .s w1.text, .sl .ext (List.map Val.row w1.list), .b w1.cut]] (.b x0) := by
  obtain ⟨v, hv, x0, hk, rfl⟩ := Pus.of (K := fun v => ∃ x0 : Bool, K x0 ∧ v = .b x0) hf rfl (w70_0 (σ := sl0 [.ag [.i .u8 v0.kind, .i .i64 v0.int, .s v0.text, .sl .ext (List.map Val.row v0.list), .b v0.cut], .ag [.i .u8 w1.kind, .i .i64 w1.int, .s w1.text, .sl .ext (List.map Val.row w1.list), .b w1.cut]]) (fun σ st   x0 H4 hk => ⟨.b x0, by simp only [pf70, ares, aresL, H4, ares1, Option.map_some], _, rfl, x0, hk, rfl⟩) rfl rfl h)
  exact ⟨x0, hk, hv⟩

end Go.AM

/- MADE BY PROGRAM (seat2.py): the types of the program, and that its code is the machine's. -/
namespace Go.Proofs
open Go.Shelf
def Try.lays169_ren : Go.Shelf.Ren := ⟨fun | 169 => 43 | n => n, fun | 70 => 85 | 9 => 9 | 0 => 0 | 72 => 87 | 37 => 66 | 127 => 120 | 3 => 3 | 5 => 5 | n => n, fun | n => n⟩
theorem Try.lays169 : Go.Proofs.Lays.n169 Try.prog Try.lays169_ren := {
  mixed := by kernel_rfl
  f169 := Try.func43.trans (congrArg some (by kernel_rfl))
  t0 := Try.underlying0
  a0 := Try.isAgg0
  z0 := Try.sizeOf0
  v0 := Try.zeroValue0
  t3 := Try.underlying3
  a3 := Try.isAgg3
  z3 := Try.sizeOf3
  v3 := Try.zeroValue3
  t9 := Try.underlying9
  a9 := Try.isAgg9
  z9 := Try.sizeOf9
  v9 := Try.zeroValue9
  t37 := Try.underlying66
  a37 := Try.isAgg66
  z37 := Try.sizeOf66
  v37 := Try.zeroValue66
  t70 := Try.underlying85
  a70 := Try.isAgg85
  z70 := Try.sizeOf85
  v70 := Try.zeroValue85
  t72 := Try.underlying87
  a72 := Try.isAgg87
  z72 := Try.sizeOf87
  v72 := Try.zeroValue87
  t127 := Try.underlying120
  a127 := Try.isAgg120
  z127 := Try.sizeOf120
  v127 := Try.zeroValue120 }

theorem Try.extraB : Builder.Extra Try.prog Try.lays169_ren := {
  sizeBuilder := by kernel_rfl
  liesBuilder := by kernel_rfl
  t5 := Try.underlying5
  a5 := Try.isAgg5
  z5 := Try.sizeOf5
  v5 := Try.zeroValue5
  infoByte := by kernel_rfl
  cellsByte := by kernel_rfl
  sizeByte := by kernel_rfl
  neB5 := by decide }
end Go.Proofs
namespace Go.Proofs.Ytcojcdpoeaaigaa
open Go Go.AM

def tys : List (Nat × TI) := [
(2, ⟨.int .i64, 1, 8, [.i .i64 0]⟩),
  (3, ⟨.int .i64, 1, 8, [.i .i64 0]⟩),
  (4, ⟨.bool, 1, 1, [.b false]⟩),
  (5, ⟨.int .u8, 1, 1, [.i .u8 0]⟩),
  (9, ⟨.str, 1, 16, [.s []]⟩),
  (22, ⟨.sl 24, 1, 24, [.sl .full []]⟩),
  (24, ⟨.st [(5, 0), (2, 1), (9, 2), (22, 3), (4, 4)], 5, 64, [.i .u8 0, .i .i64 0, .s [], .sl .full [], .b false]⟩),
  (26, ⟨.int .i64, 1, 8, [.i .i64 0]⟩),
  (39, ⟨.sl 175, 1, 24, [.sl .full []]⟩),
  (40, ⟨.sl 9, 1, 24, [.sl .full []]⟩),
  (41, ⟨.sl 81, 1, 24, [.sl .full []]⟩),
  (43, ⟨.st [(39, 0), (40, 1), (41, 2)], 3, 72, [.sl .full [], .sl .full [], .sl .full []]⟩),
  (44, ⟨.int .u64, 1, 8, [.i .u64 0]⟩),
  (45, ⟨.sl 74, 1, 24, [.sl .full []]⟩),
  (47, ⟨.st [(3, 0), (3, 1), (44, 2), (45, 3)], 4, 48, [.i .i64 0, .i .i64 0, .i .u64 0, .sl .full []]⟩),
  (66, ⟨.sl 5, 1, 24, [.sl .full []]⟩),
  (74, ⟨.st [(3, 0), (24, 1)], 6, 72, [.i .i64 0, .i .u8 0, .i .i64 0, .s [], .sl .full [], .b false]⟩),
  (76, ⟨.st [(9, 0), (3, 1)], 2, 24, [.s [], .i .i64 0]⟩),
  (77, ⟨.sl 76, 1, 24, [.sl .full []]⟩),
  (78, ⟨.sl 177, 1, 24, [.sl .full []]⟩),
  (79, ⟨.sl 179, 1, 24, [.sl .full []]⟩),
  (81, ⟨.st [(9, 0), (3, 1), (3, 2), (77, 3), (78, 4), (79, 5), (79, 6)], 7, 128, [.s [], .i .i64 0, .i .i64 0, .sl .full [], .sl .full [], .sl .full [], .sl .full []]⟩),
  (85, ⟨.ptr 87, 1, 8, [.np]⟩),
  (87, ⟨.st [(85, 0), (66, 1)], 2, 32, [.np, .sl .full []]⟩),
  (91, ⟨.ptr 93, 1, 8, [.np]⟩),
  (93, ⟨.st [(9, 0)], 1, 16, [.s []]⟩),
  (113, ⟨.arr 8 9, 8, 128, [.s [], .s [], .s [], .s [], .s [], .s [], .s [], .s []]⟩),
  (115, ⟨.other, 1, 16, [.ni]⟩),
  (150, ⟨.uptr, 1, 8, [.np]⟩),
  (152, ⟨.arr 64 5, 64, 64, [.i .u8 0, .i .u8 0, .i .u8 0, .i .u8 0, .i .u8 0, .i .u8 0, .i .u8 0, .i .u8 0, .i .u8 0, .i .u8 0, .i .u8 0, .i .u8 0, .i .u8 0, .i .u8 0, .i .u8 0, .i .u8 0, .i .u8 0, .i .u8 0, .i .u8 0, .i .u8 0, .i .u8 0, .i .u8 0, .i .u8 0, .i .u8 0, .i .u8 0, .i .u8 0, .i .u8 0, .i .u8 0, .i .u8 0, .i .u8 0, .i .u8 0, .i .u8 0, .i .u8 0, .i .u8 0, .i .u8 0, .i .u8 0, .i .u8 0, .i .u8 0, .i .u8 0, .i .u8 0, .i .u8 0, .i .u8 0, .i .u8 0, .i .u8 0, .i .u8 0, .i .u8 0, .i .u8 0, .i .u8 0, .i .u8 0, .i .u8 0, .i .u8 0, .i .u8 0, .i .u8 0, .i .u8 0, .i .u8 0, .i .u8 0, .i .u8 0, .i .u8 0, .i .u8 0, .i .u8 0, .i .u8 0, .i .u8 0, .i .u8 0, .i .u8 0]⟩),
  (175, ⟨.st [(5, 0), (3, 1), (3, 2), (77, 3)], 4, 48, [.i .u8 0, .i .i64 0, .i .i64 0, .sl .full []]⟩),
  (177, ⟨.st [(5, 0), (3, 1), (3, 2), (3, 3)], 4, 32, [.i .u8 0, .i .i64 0, .i .i64 0, .i .i64 0]⟩),
  (179, ⟨.st [(3, 0), (44, 1)], 2, 16, [.i .i64 0, .i .u64 0]⟩)]
theorem ty2 : TOk Try.prog 2 (((2, ⟨.int .i64, 1, 8, [.i .i64 0]⟩) : Nat × TI).2) := TOk.of (ti := Try.t2) (by kernel_rfl) (by kernel_rfl) (by kernel_rfl) (show Try.prog.underlying 2 = some (.int .i64) from by kernel_rfl)
theorem ty3 : TOk Try.prog 3 (((3, ⟨.int .i64, 1, 8, [.i .i64 0]⟩) : Nat × TI).2) := TOk.of (ti := Try.t3) (by kernel_rfl) (by kernel_rfl) (by kernel_rfl) (show Try.prog.underlying 3 = some (.int .i64) from by kernel_rfl)
theorem ty4 : TOk Try.prog 4 (((4, ⟨.bool, 1, 1, [.b false]⟩) : Nat × TI).2) := TOk.of (ti := Try.t4) (by kernel_rfl) (by kernel_rfl) (by kernel_rfl) (show Try.prog.underlying 4 = some (.bool) from by kernel_rfl)
theorem ty5 : TOk Try.prog 5 (((5, ⟨.int .u8, 1, 1, [.i .u8 0]⟩) : Nat × TI).2) := TOk.of (ti := Try.t5) (by kernel_rfl) (by kernel_rfl) (by kernel_rfl) (show Try.prog.underlying 5 = some (.int .u8) from by kernel_rfl)
theorem ty9 : TOk Try.prog 9 (((9, ⟨.str, 1, 16, [.s []]⟩) : Nat × TI).2) := TOk.of (ti := Try.t9) (by kernel_rfl) (by kernel_rfl) (by kernel_rfl) (show Try.prog.underlying 9 = some (.string) from by kernel_rfl)
theorem ty22 : TOk Try.prog 22 (((22, ⟨.sl 24, 1, 24, [.sl .full []]⟩) : Nat × TI).2) := TOk.of (ti := Try.t22) (by kernel_rfl) (by kernel_rfl) (by kernel_rfl) (show Try.prog.underlying 22 = some (.slice 24) from by kernel_rfl)
theorem ty24 : TOk Try.prog 24 (((24, ⟨.st [(5, 0), (2, 1), (9, 2), (22, 3), (4, 4)], 5, 64, [.i .u8 0, .i .i64 0, .s [], .sl .full [], .b false]⟩) : Nat × TI).2) := TOk.of (ti := Try.t24) (by kernel_rfl) (by kernel_rfl) (by kernel_rfl) (TK.ok_st (by kernel_rfl))
theorem ty26 : TOk Try.prog 26 (((26, ⟨.int .i64, 1, 8, [.i .i64 0]⟩) : Nat × TI).2) := TOk.of (ti := Try.t26) (by kernel_rfl) (by kernel_rfl) (by kernel_rfl) (show Try.prog.underlying 26 = some (.int .i64) from by kernel_rfl)
theorem ty39 : TOk Try.prog 39 (((39, ⟨.sl 175, 1, 24, [.sl .full []]⟩) : Nat × TI).2) := TOk.of (ti := Try.t39) (by kernel_rfl) (by kernel_rfl) (by kernel_rfl) (show Try.prog.underlying 39 = some (.slice 175) from by kernel_rfl)
theorem ty40 : TOk Try.prog 40 (((40, ⟨.sl 9, 1, 24, [.sl .full []]⟩) : Nat × TI).2) := TOk.of (ti := Try.t40) (by kernel_rfl) (by kernel_rfl) (by kernel_rfl) (show Try.prog.underlying 40 = some (.slice 9) from by kernel_rfl)
theorem ty41 : TOk Try.prog 41 (((41, ⟨.sl 81, 1, 24, [.sl .full []]⟩) : Nat × TI).2) := TOk.of (ti := Try.t41) (by kernel_rfl) (by kernel_rfl) (by kernel_rfl) (show Try.prog.underlying 41 = some (.slice 81) from by kernel_rfl)
theorem ty43 : TOk Try.prog 43 (((43, ⟨.st [(39, 0), (40, 1), (41, 2)], 3, 72, [.sl .full [], .sl .full [], .sl .full []]⟩) : Nat × TI).2) := TOk.of (ti := Try.t43) (by kernel_rfl) (by kernel_rfl) (by kernel_rfl) (TK.ok_st (by kernel_rfl))
theorem ty44 : TOk Try.prog 44 (((44, ⟨.int .u64, 1, 8, [.i .u64 0]⟩) : Nat × TI).2) := TOk.of (ti := Try.t44) (by kernel_rfl) (by kernel_rfl) (by kernel_rfl) (show Try.prog.underlying 44 = some (.int .u64) from by kernel_rfl)
theorem ty45 : TOk Try.prog 45 (((45, ⟨.sl 74, 1, 24, [.sl .full []]⟩) : Nat × TI).2) := TOk.of (ti := Try.t45) (by kernel_rfl) (by kernel_rfl) (by kernel_rfl) (show Try.prog.underlying 45 = some (.slice 74) from by kernel_rfl)
theorem ty47 : TOk Try.prog 47 (((47, ⟨.st [(3, 0), (3, 1), (44, 2), (45, 3)], 4, 48, [.i .i64 0, .i .i64 0, .i .u64 0, .sl .full []]⟩) : Nat × TI).2) := TOk.of (ti := Try.t47) (by kernel_rfl) (by kernel_rfl) (by kernel_rfl) (TK.ok_st (by kernel_rfl))
theorem ty66 : TOk Try.prog 66 (((66, ⟨.sl 5, 1, 24, [.sl .full []]⟩) : Nat × TI).2) := TOk.of (ti := Try.t66) (by kernel_rfl) (by kernel_rfl) (by kernel_rfl) (show Try.prog.underlying 66 = some (.slice 5) from by kernel_rfl)
theorem ty74 : TOk Try.prog 74 (((74, ⟨.st [(3, 0), (24, 1)], 6, 72, [.i .i64 0, .i .u8 0, .i .i64 0, .s [], .sl .full [], .b false]⟩) : Nat × TI).2) := TOk.of (ti := Try.t74) (by kernel_rfl) (by kernel_rfl) (by kernel_rfl) (TK.ok_st (by kernel_rfl))
theorem ty76 : TOk Try.prog 76 (((76, ⟨.st [(9, 0), (3, 1)], 2, 24, [.s [], .i .i64 0]⟩) : Nat × TI).2) := TOk.of (ti := Try.t76) (by kernel_rfl) (by kernel_rfl) (by kernel_rfl) (TK.ok_st (by kernel_rfl))
theorem ty77 : TOk Try.prog 77 (((77, ⟨.sl 76, 1, 24, [.sl .full []]⟩) : Nat × TI).2) := TOk.of (ti := Try.t77) (by kernel_rfl) (by kernel_rfl) (by kernel_rfl) (show Try.prog.underlying 77 = some (.slice 76) from by kernel_rfl)
theorem ty78 : TOk Try.prog 78 (((78, ⟨.sl 177, 1, 24, [.sl .full []]⟩) : Nat × TI).2) := TOk.of (ti := Try.t78) (by kernel_rfl) (by kernel_rfl) (by kernel_rfl) (show Try.prog.underlying 78 = some (.slice 177) from by kernel_rfl)
theorem ty79 : TOk Try.prog 79 (((79, ⟨.sl 179, 1, 24, [.sl .full []]⟩) : Nat × TI).2) := TOk.of (ti := Try.t79) (by kernel_rfl) (by kernel_rfl) (by kernel_rfl) (show Try.prog.underlying 79 = some (.slice 179) from by kernel_rfl)
theorem ty81 : TOk Try.prog 81 (((81, ⟨.st [(9, 0), (3, 1), (3, 2), (77, 3), (78, 4), (79, 5), (79, 6)], 7, 128, [.s [], .i .i64 0, .i .i64 0, .sl .full [], .sl .full [], .sl .full [], .sl .full []]⟩) : Nat × TI).2) := TOk.of (ti := Try.t81) (by kernel_rfl) (by kernel_rfl) (by kernel_rfl) (TK.ok_st (by kernel_rfl))
theorem ty85 : TOk Try.prog 85 (((85, ⟨.ptr 87, 1, 8, [.np]⟩) : Nat × TI).2) := TOk.of (ti := Try.t85) (by kernel_rfl) (by kernel_rfl) (by kernel_rfl) (And.intro (by kernel_rfl) (by kernel_rfl))
theorem ty87 : TOk Try.prog 87 (((87, ⟨.st [(85, 0), (66, 1)], 2, 32, [.np, .sl .full []]⟩) : Nat × TI).2) := TOk.of (ti := Try.t87) (by kernel_rfl) (by kernel_rfl) (by kernel_rfl) (TK.ok_st (by kernel_rfl))
theorem ty91 : TOk Try.prog 91 (((91, ⟨.ptr 93, 1, 8, [.np]⟩) : Nat × TI).2) := TOk.of (ti := Try.t91) (by kernel_rfl) (by kernel_rfl) (by kernel_rfl) (And.intro (by kernel_rfl) (by kernel_rfl))
theorem ty93 : TOk Try.prog 93 (((93, ⟨.st [(9, 0)], 1, 16, [.s []]⟩) : Nat × TI).2) := TOk.of (ti := Try.t93) (by kernel_rfl) (by kernel_rfl) (by kernel_rfl) (TK.ok_st (by kernel_rfl))
theorem ty113 : TOk Try.prog 113 (((113, ⟨.arr 8 9, 8, 128, [.s [], .s [], .s [], .s [], .s [], .s [], .s [], .s []]⟩) : Nat × TI).2) := TOk.of (ti := Try.t113) (by kernel_rfl) (by kernel_rfl) (by kernel_rfl) (show Try.prog.underlying 113 = some (.array 8 9) from by kernel_rfl)
theorem ty115 : TOk Try.prog 115 (((115, ⟨.other, 1, 16, [.ni]⟩) : Nat × TI).2) := TOk.of (ti := Try.t115) (by kernel_rfl) (by kernel_rfl) (by kernel_rfl) (TK.ok_other (by kernel_rfl))
theorem ty150 : TOk Try.prog 150 (((150, ⟨.uptr, 1, 8, [.np]⟩) : Nat × TI).2) := TOk.of (ti := Try.t150) (by kernel_rfl) (by kernel_rfl) (by kernel_rfl) (show Try.prog.underlying 150 = some (.unsafePointer) from by kernel_rfl)
theorem ty152 : TOk Try.prog 152 (((152, ⟨.arr 64 5, 64, 64, [.i .u8 0, .i .u8 0, .i .u8 0, .i .u8 0, .i .u8 0, .i .u8 0, .i .u8 0, .i .u8 0, .i .u8 0, .i .u8 0, .i .u8 0, .i .u8 0, .i .u8 0, .i .u8 0, .i .u8 0, .i .u8 0, .i .u8 0, .i .u8 0, .i .u8 0, .i .u8 0, .i .u8 0, .i .u8 0, .i .u8 0, .i .u8 0, .i .u8 0, .i .u8 0, .i .u8 0, .i .u8 0, .i .u8 0, .i .u8 0, .i .u8 0, .i .u8 0, .i .u8 0, .i .u8 0, .i .u8 0, .i .u8 0, .i .u8 0, .i .u8 0, .i .u8 0, .i .u8 0, .i .u8 0, .i .u8 0, .i .u8 0, .i .u8 0, .i .u8 0, .i .u8 0, .i .u8 0, .i .u8 0, .i .u8 0, .i .u8 0, .i .u8 0, .i .u8 0, .i .u8 0, .i .u8 0, .i .u8 0, .i .u8 0, .i .u8 0, .i .u8 0, .i .u8 0, .i .u8 0, .i .u8 0, .i .u8 0, .i .u8 0, .i .u8 0]⟩) : Nat × TI).2) := TOk.of (ti := Try.t152) (by kernel_rfl) (by kernel_rfl) (by kernel_rfl) (show Try.prog.underlying 152 = some (.array 64 5) from by kernel_rfl)
theorem ty175 : TOk Try.prog 175 (((175, ⟨.st [(5, 0), (3, 1), (3, 2), (77, 3)], 4, 48, [.i .u8 0, .i .i64 0, .i .i64 0, .sl .full []]⟩) : Nat × TI).2) := TOk.of (ti := Try.t175) (by kernel_rfl) (by kernel_rfl) (by kernel_rfl) (TK.ok_st (by kernel_rfl))
theorem ty177 : TOk Try.prog 177 (((177, ⟨.st [(5, 0), (3, 1), (3, 2), (3, 3)], 4, 32, [.i .u8 0, .i .i64 0, .i .i64 0, .i .i64 0]⟩) : Nat × TI).2) := TOk.of (ti := Try.t177) (by kernel_rfl) (by kernel_rfl) (by kernel_rfl) (TK.ok_st (by kernel_rfl))
theorem ty179 : TOk Try.prog 179 (((179, ⟨.st [(3, 0), (44, 1)], 2, 16, [.i .i64 0, .i .u64 0]⟩) : Nat × TI).2) := TOk.of (ti := Try.t179) (by kernel_rfl) (by kernel_rfl) (by kernel_rfl) (TK.ok_st (by kernel_rfl))
theorem tys_ok : ∀ x ∈ tys, TOk Try.prog x.1 x.2 := by
  unfold tys
  simp only [List.mem_cons, List.not_mem_nil, or_false, forall_eq_or_imp, forall_eq]
  exact ⟨ty2, ty3, ty4, ty5, ty9, ty22, ty24, ty26, ty39, ty40, ty41, ty43, ty44, ty45, ty47, ty66, ty74, ty76, ty77, ty78, ty79, ty81, ty85, ty87, ty91, ty93, ty113, ty115, ty150, ty152, ty175, ty177, ty179⟩
def fms : List (Nat × Nat) := [(2, 2), (3, 66), (4, 67), (5, 68), (6, 69), (7, 70), (8, 71), (9, 72), (10, 73), (11, 74), (12, 75), (13, 76), (14, 77), (15, 78), (16, 79), (17, 80), (18, 81), (19, 82), (20, 83), (21, 84), (22, 85), (23, 86), (24, 87), (25, 29), (26, 88), (27, 89), (28, 90), (29, 91), (30, 92), (31, 93), (32, 94), (33, 95), (34, 96), (35, 97), (36, 98), (37, 99), (38, 100), (39, 101), (40, 102), (41, 103), (42, 104), (43, 105), (44, 106), (45, 107), (46, 108), (47, 109), (48, 110), (49, 111), (50, 112), (51, 113), (52, 114), (53, 115), (54, 116), (55, 117), (56, 118), (57, 119), (58, 120), (59, 121), (60, 122), (61, 123), (62, 124), (63, 125), (64, 126), (65, 15), (66, 11), (67, 16), (68, 31), (69, 127), (70, 128), (71, 129), (72, 130), (73, 131), (74, 132), (75, 133), (76, 134), (77, 26), (78, 135), (79, 22), (80, 136), (81, 137), (82, 138), (83, 139), (84, 140), (85, 141), (86, 142), (87, 143), (88, 144), (89, 145), (90, 34), (91, 30), (92, 35), (93, 41), (94, 36), (95, 25), (96, 21), (97, 40), (98, 38), (99, 146), (100, 42), (101, 39), (102, 37), (103, 44), (104, 46), (105, 45), (106, 43), (107, 47), (108, 48), (1000000000000, 1000000087), (1000000000001, 1000000005)]
def X : Cx := ⟨tabOf tys, fmOf fms, fun c => [30, 104, 105, 107, 126, 128, 129, 130, 131, 140, 145, 146].contains c⟩
theorem ok42 : FnOk Try.prog X 100 pf42 := FnOk.of Try.func100 (by kernel_rfl) (by kernel_rfl) (by kernel_rfl) (by kernel_rfl) (by kernel_rfl)
theorem ok46 : FnOk Try.prog X 104 pf46 := FnOk.of Try.func104 (by kernel_rfl) (by kernel_rfl) (by kernel_rfl) (by kernel_rfl) (by kernel_rfl)
theorem ok36 : FnOk Try.prog X 94 pf36 := FnOk.of Try.func94 (by kernel_rfl) (by kernel_rfl) (by kernel_rfl) (by kernel_rfl) (by kernel_rfl)
theorem ok43 : FnOk Try.prog X 106 pf43 := FnOk.of Try.func106 (by kernel_rfl) (by kernel_rfl) (by kernel_rfl) (by kernel_rfl) (by kernel_rfl)
theorem ok47 : FnOk Try.prog X 107 pf47 := FnOk.of Try.func107 (by kernel_rfl) (by kernel_rfl) (by kernel_rfl) (by kernel_rfl) (by kernel_rfl)
theorem ok11 : FnOk Try.prog X 66 pf11 := FnOk.of Try.func66 (by kernel_rfl) (by kernel_rfl) (by kernel_rfl) (by kernel_rfl) (by kernel_rfl)
theorem ok15 : FnOk Try.prog X 65 pf15 := FnOk.of Try.func65 (by kernel_rfl) (by kernel_rfl) (by kernel_rfl) (by kernel_rfl) (by kernel_rfl)
theorem ok21 : FnOk Try.prog X 96 pf21 := FnOk.of Try.func96 (by kernel_rfl) (by kernel_rfl) (by kernel_rfl) (by kernel_rfl) (by kernel_rfl)
theorem ok25 : FnOk Try.prog X 95 pf25 := FnOk.of Try.func95 (by kernel_rfl) (by kernel_rfl) (by kernel_rfl) (by kernel_rfl) (by kernel_rfl)
theorem ok30 : FnOk Try.prog X 91 pf30 := FnOk.of Try.func91 (by kernel_rfl) (by kernel_rfl) (by kernel_rfl) (by kernel_rfl) (by kernel_rfl)
theorem ok34 : FnOk Try.prog X 90 pf34 := FnOk.of Try.func90 (by kernel_rfl) (by kernel_rfl) (by kernel_rfl) (by kernel_rfl) (by kernel_rfl)
theorem ok37 : FnOk Try.prog X 102 pf37 := FnOk.of Try.func102 (by kernel_rfl) (by kernel_rfl) (by kernel_rfl) (by kernel_rfl) (by kernel_rfl)
theorem ok39 : FnOk Try.prog X 101 pf39 := FnOk.of Try.func101 (by kernel_rfl) (by kernel_rfl) (by kernel_rfl) (by kernel_rfl) (by kernel_rfl)
theorem ok45 : FnOk Try.prog X 105 pf45 := FnOk.of Try.func105 (by kernel_rfl) (by kernel_rfl) (by kernel_rfl) (by kernel_rfl) (by kernel_rfl)
theorem ok16 : FnOk Try.prog X 67 pf16 := FnOk.of Try.func67 (by kernel_rfl) (by kernel_rfl) (by kernel_rfl) (by kernel_rfl) (by kernel_rfl)
theorem ok22 : FnOk Try.prog X 79 pf22 := FnOk.of Try.func79 (by kernel_rfl) (by kernel_rfl) (by kernel_rfl) (by kernel_rfl) (by kernel_rfl)
theorem ok26 : FnOk Try.prog X 77 pf26 := FnOk.of Try.func77 (by kernel_rfl) (by kernel_rfl) (by kernel_rfl) (by kernel_rfl) (by kernel_rfl)
theorem ok29 : FnOk Try.prog X 25 pf29 := FnOk.of Try.func25 (by kernel_rfl) (by kernel_rfl) (by kernel_rfl) (by kernel_rfl) (by kernel_rfl)
theorem ok31 : FnOk Try.prog X 68 pf31 := FnOk.of Try.func68 (by kernel_rfl) (by kernel_rfl) (by kernel_rfl) (by kernel_rfl) (by kernel_rfl)
theorem ok35 : FnOk Try.prog X 92 pf35 := FnOk.of Try.func92 (by kernel_rfl) (by kernel_rfl) (by kernel_rfl) (by kernel_rfl) (by kernel_rfl)
theorem ok38 : FnOk Try.prog X 98 pf38 := FnOk.of Try.func98 (by kernel_rfl) (by kernel_rfl) (by kernel_rfl) (by kernel_rfl) (by kernel_rfl)
theorem ok40 : FnOk Try.prog X 97 pf40 := FnOk.of Try.func97 (by kernel_rfl) (by kernel_rfl) (by kernel_rfl) (by kernel_rfl) (by kernel_rfl)
theorem ok41 : FnOk Try.prog X 93 pf41 := FnOk.of Try.func93 (by kernel_rfl) (by kernel_rfl) (by kernel_rfl) (by kernel_rfl) (by kernel_rfl)
theorem ok44 : FnOk Try.prog X 103 pf44 := FnOk.of Try.func103 (by kernel_rfl) (by kernel_rfl) (by kernel_rfl) (by kernel_rfl) (by kernel_rfl)
theorem ok145 : FnOk Try.prog X 89 pf145 := FnOk.of Try.func89 (by kernel_rfl) (by kernel_rfl) (by kernel_rfl) (by kernel_rfl) (by kernel_rfl)
theorem ok126 : FnOk Try.prog X 64 pf126 := FnOk.of Try.func64 (by kernel_rfl) (by kernel_rfl) (by kernel_rfl) (by kernel_rfl) (by kernel_rfl)
theorem ok71 : FnOk Try.prog X 8 pf71 := FnOk.of Try.func8 (by kernel_rfl) (by kernel_rfl) (by kernel_rfl) (by kernel_rfl) (by kernel_rfl)
theorem ok72 : FnOk Try.prog X 9 pf72 := FnOk.of Try.func9 (by kernel_rfl) (by kernel_rfl) (by kernel_rfl) (by kernel_rfl) (by kernel_rfl)
theorem ok73 : FnOk Try.prog X 10 pf73 := FnOk.of Try.func10 (by kernel_rfl) (by kernel_rfl) (by kernel_rfl) (by kernel_rfl) (by kernel_rfl)
theorem ok74 : FnOk Try.prog X 11 pf74 := FnOk.of Try.func11 (by kernel_rfl) (by kernel_rfl) (by kernel_rfl) (by kernel_rfl) (by kernel_rfl)
theorem ok75 : FnOk Try.prog X 12 pf75 := FnOk.of Try.func12 (by kernel_rfl) (by kernel_rfl) (by kernel_rfl) (by kernel_rfl) (by kernel_rfl)
theorem ok76 : FnOk Try.prog X 13 pf76 := FnOk.of Try.func13 (by kernel_rfl) (by kernel_rfl) (by kernel_rfl) (by kernel_rfl) (by kernel_rfl)
theorem ok77 : FnOk Try.prog X 14 pf77 := FnOk.of Try.func14 (by kernel_rfl) (by kernel_rfl) (by kernel_rfl) (by kernel_rfl) (by kernel_rfl)
theorem ok78 : FnOk Try.prog X 15 pf78 := FnOk.of Try.func15 (by kernel_rfl) (by kernel_rfl) (by kernel_rfl) (by kernel_rfl) (by kernel_rfl)
theorem ok102 : FnOk Try.prog X 40 pf102 := FnOk.of Try.func40 (by kernel_rfl) (by kernel_rfl) (by kernel_rfl) (by kernel_rfl) (by kernel_rfl)
theorem ok103 : FnOk Try.prog X 41 pf103 := FnOk.of Try.func41 (by kernel_rfl) (by kernel_rfl) (by kernel_rfl) (by kernel_rfl) (by kernel_rfl)
theorem ok104 : FnOk Try.prog X 42 pf104 := FnOk.of Try.func42 (by kernel_rfl) (by kernel_rfl) (by kernel_rfl) (by kernel_rfl) (by kernel_rfl)
theorem ok106 : FnOk Try.prog X 44 pf106 := FnOk.of Try.func44 (by kernel_rfl) (by kernel_rfl) (by kernel_rfl) (by kernel_rfl) (by kernel_rfl)
theorem ok107 : FnOk Try.prog X 45 pf107 := FnOk.of Try.func45 (by kernel_rfl) (by kernel_rfl) (by kernel_rfl) (by kernel_rfl) (by kernel_rfl)
theorem ok108 : FnOk Try.prog X 46 pf108 := FnOk.of Try.func46 (by kernel_rfl) (by kernel_rfl) (by kernel_rfl) (by kernel_rfl) (by kernel_rfl)
theorem ok109 : FnOk Try.prog X 47 pf109 := FnOk.of Try.func47 (by kernel_rfl) (by kernel_rfl) (by kernel_rfl) (by kernel_rfl) (by kernel_rfl)
theorem ok110 : FnOk Try.prog X 48 pf110 := FnOk.of Try.func48 (by kernel_rfl) (by kernel_rfl) (by kernel_rfl) (by kernel_rfl) (by kernel_rfl)
theorem ok127 : FnOk Try.prog X 69 pf127 := FnOk.of Try.func69 (by kernel_rfl) (by kernel_rfl) (by kernel_rfl) (by kernel_rfl) (by kernel_rfl)
theorem ok128 : FnOk Try.prog X 70 pf128 := FnOk.of Try.func70 (by kernel_rfl) (by kernel_rfl) (by kernel_rfl) (by kernel_rfl) (by kernel_rfl)
theorem ok129 : FnOk Try.prog X 71 pf129 := FnOk.of Try.func71 (by kernel_rfl) (by kernel_rfl) (by kernel_rfl) (by kernel_rfl) (by kernel_rfl)
theorem ok130 : FnOk Try.prog X 72 pf130 := FnOk.of Try.func72 (by kernel_rfl) (by kernel_rfl) (by kernel_rfl) (by kernel_rfl) (by kernel_rfl)
theorem ok131 : FnOk Try.prog X 73 pf131 := FnOk.of Try.func73 (by kernel_rfl) (by kernel_rfl) (by kernel_rfl) (by kernel_rfl) (by kernel_rfl)
theorem ok132 : FnOk Try.prog X 74 pf132 := FnOk.of Try.func74 (by kernel_rfl) (by kernel_rfl) (by kernel_rfl) (by kernel_rfl) (by kernel_rfl)
theorem ok133 : FnOk Try.prog X 75 pf133 := FnOk.of Try.func75 (by kernel_rfl) (by kernel_rfl) (by kernel_rfl) (by kernel_rfl) (by kernel_rfl)
theorem ok134 : FnOk Try.prog X 76 pf134 := FnOk.of Try.func76 (by kernel_rfl) (by kernel_rfl) (by kernel_rfl) (by kernel_rfl) (by kernel_rfl)
theorem ok135 : FnOk Try.prog X 78 pf135 := FnOk.of Try.func78 (by kernel_rfl) (by kernel_rfl) (by kernel_rfl) (by kernel_rfl) (by kernel_rfl)
theorem ok136 : FnOk Try.prog X 80 pf136 := FnOk.of Try.func80 (by kernel_rfl) (by kernel_rfl) (by kernel_rfl) (by kernel_rfl) (by kernel_rfl)
end Go.Proofs.Ytcojcdpoeaaigaa

/- Chapter 03: what the functions compute, in plain Lean. -/
namespace Go.AM
open Go
abbrev Bytes := List UInt8
abbrev DIG : Bytes := [48, 49, 50, 51, 52, 53, 54, 55, 56, 57, 97, 98, 99, 100, 101, 102]
theorem maxStr_eq : maxStr = 1099511627776 := rfl
theorem maxBytes_eq : maxBytes = 70368744177664 := rfl
theorem fit_iff {n b : Nat} : Fit n b ↔ n * b ≤ 70368744177664 ∧ n ≤ 70368744177664 := Iff.rfl

/-- A loop that counts up, its state given at each count. -/
theorem loop_up {α : Type} {P : α → Int → Prop} (A : Nat → α) (n : Nat) (h1 : P (A n) (n : Int)) (h2 : ∀ i : Nat, i < n → P (A (i + 1)) ((i + 1 : Nat) : Int) → P (A i) (i : Int)) : P (A 0) 0 := by
  have key : ∀ m i : Nat, i + m = n → P (A i) (i : Int) := by
    intro m
    induction m with
    | zero => intro i hi; simp only [Nat.add_zero] at hi; subst hi; exact h1
    | succ m ih => intro i hi; exact h2 i (by omega) (ih (i + 1) (by omega))
  exact key n 0 (by omega)
theorem loop_up0 {P : Int → Prop} (n : Nat) (h1 : P (n : Int)) (h2 : ∀ i : Nat, i < n → P ((i + 1 : Nat) : Int) → P (i : Int)) : P 0 :=
  loop_up (P := fun _ i => P i) (fun _ => ()) n h1 h2
theorem wr_succ {i : Nat} (h : i < 4611686018427387904) : IntKind.i64.wrap ((i : Int) + 1) = ((i + 1 : Nat) : Int) := by
  rw [wr_i64 (by omega) (by omega)]; omega
theorem toNat_cast (i : Nat) : ((i : Int)).toNat = i := rfl

def hexd (n : Nat) : UInt8 := DIG.getD n 0
theorem hexd_get {n : Nat} (h : n < 16) : DIG[n]? = some (hexd n) := by
  unfold hexd
  rw [List.getD_eq_getElem?_getD, List.getElem?_eq_getElem (by simpa using h)]
  rfl
theorem hexd_take {n m : Nat} (h : n < 16) (hm : m = n + 1) : (DIG.drop n).take (m - n) = [hexd n] := by
  subst hm
  rw [show n + 1 - n = 1 by omega, List.drop_eq_getElem_cons (by simpa using h)]
  simp only [List.take_succ_cons, List.take_zero]
  have := hexd_get h
  rw [List.getElem?_eq_getElem (by simpa using h)] at this
  injection this with this
  rw [this]
theorem DIG_len : DIG.length = 16 := rfl

/-! quotation -/
def chr (c : UInt8) : Bytes :=
  if c.toNat = 34 ∨ c.toNat = 92 then [92, c] else if c.toNat = 10 then [92, 110] else if c.toNat < 32 ∨ 126 < c.toNat then [92, 120, hexd (c.toNat / 16), hexd (c.toNat % 16)] else [c]
def chrs (s : Bytes) : Bytes := s.flatMap chr
def quo (s : Bytes) : Bytes := 34 :: (chrs s ++ [34])
theorem chr_len (c : UInt8) : 1 ≤ (chr c).length ∧ (chr c).length ≤ 4 := by
  unfold chr
  split
  · exact ⟨by simp, by simp⟩
  · split
    · exact ⟨by simp, by simp⟩
    · split <;> exact ⟨by simp, by simp⟩
theorem chrs_len (s : Bytes) : (chrs s).length ≤ 4 * s.length := by
  induction s with
  | nil => exact Nat.le_refl _
  | cons c s ih =>
    have h : chrs (c :: s) = chr c ++ chrs s := rfl
    rw [h, List.length_append, List.length_cons]
    have := chr_len c
    omega
theorem quo_len (s : Bytes) : (quo s).length ≤ 4 * s.length + 2 := by
  have := chrs_len s
  simp only [quo, List.length_cons, List.length_append, List.length_nil]
  omega
theorem chrs_take {s : Bytes} {i : Nat} (h : i < s.length) : chrs (s.take (i + 1)) = chrs (s.take i) ++ chr s[i] := by
  rw [List.take_succ_eq_append_getElem h]
  simp only [chrs, List.flatMap_append, List.flatMap_cons, List.flatMap_nil, List.append_nil]
/-! lists -/
def tailQ (l : List Bytes) : Bytes := l.flatMap fun x => 44 :: 32 :: quo x
def innerQ : List Bytes → Bytes
  | [] => []
  | x :: r => quo x ++ tailQ r
def listed (l : List Bytes) : Bytes := 91 :: (innerQ l ++ [93])
theorem innerQ_snoc (l : List Bytes) (x : Bytes) : innerQ (l ++ [x]) = innerQ l ++ (if l.length > 0 then [44, 32] else []) ++ quo x := by
  cases l with
  | nil => simp [innerQ, tailQ]
  | cons a l => simp [innerQ, tailQ]
theorem innerQ_take {l : List Bytes} {i : Nat} (h : i < l.length) : innerQ (l.take (i + 1)) = innerQ (l.take i) ++ (if i > 0 then [44, 32] else []) ++ quo l[i] := by
  rw [List.take_succ_eq_append_getElem h, innerQ_snoc]
  congr 2
  rw [List.length_take]
  congr 1
  rw [eq_iff_iff]
  omega
def tooMany (l : List Bytes) : Bool := l.any (fun x => decide (400 < x.length)) || decide (64 < l.length)
theorem innerQ_len {l : List Bytes} (h : ∀ x ∈ l, x.length ≤ 400) : (innerQ l).length ≤ 1604 * l.length := by
  have tl : ∀ l : List Bytes, (∀ x ∈ l, x.length ≤ 400) → (tailQ l).length ≤ 1604 * l.length := by
    intro l
    induction l with
    | nil => intro _; exact Nat.le_refl _
    | cons x l ih =>
      intro h
      have h1 := ih fun y hy => h y (List.mem_cons_of_mem _ hy)
      have h2 := quo_len x
      have h3 := h x List.mem_cons_self
      have e : tailQ (x :: l) = 44 :: 32 :: quo x ++ tailQ l := rfl
      rw [e]
      simp only [List.length_append, List.length_cons]
      omega
  cases l with
  | nil => exact Nat.le_refl _
  | cons x l =>
    have h1 := tl l fun y hy => h y (List.mem_cons_of_mem _ hy)
    have h2 := quo_len x
    have h3 := h x List.mem_cons_self
    simp only [innerQ, List.length_append, List.length_cons]
    omega

/-! numbers -/
def ds (b : Nat) : Nat → Nat → Bytes
  | 0, _ => []
  | f + 1, n => if n < b then [hexd n] else ds b f (n / b) ++ [hexd (n % b)]
theorem ds_len (b : Nat) : ∀ f n, (ds b f n).length ≤ f
  | 0, _ => Nat.le_refl _
  | f + 1, n => by
    have := ds_len b f (n / b)
    unfold ds
    split
    · simp
    · simp; omega
/-- Enough fuel is enough. -/
theorem ds_fuel {b : Nat} (hb : 2 ≤ b) : ∀ f g n, n < b ^ f → 0 < f → f ≤ g → ds b g n = ds b f n
  | 0, _, _, _, h, _ => absurd h (Nat.lt_irrefl _)
  | f + 1, g, n, h, _, hg => by
    match g, hg with
    | g + 1, hg =>
      unfold ds
      split
      · rfl
      · rename_i hn
        have h1 : n / b < b ^ f := by
          rw [Nat.div_lt_iff_lt_mul (by omega)]
          rw [Nat.pow_succ] at h
          exact h
        have h2 : 0 < f := by
          rcases Nat.eq_zero_or_pos f with rfl | h
          · simp at h; omega
          · exact h
        rw [ds_fuel hb f g (n / b) h1 h2 (by omega)]
def digs (b n : Nat) : Bytes := ds b 64 n
def num (n : Int) : Bytes := if n < 0 then 45 :: digs 10 (-n).toNat else digs 10 n.toNat
def hex (n : Nat) : Bytes := 48 :: 120 :: digs 16 n
def quoR (s : Bytes) : Bytes × Int := if 400 < s.length then ([], 4) else (quo s, 0)
/-- A loop that looks for a long text. -/
theorem anyLong_take {l : List Bytes} {n i : Nat} (hi : i < l.length) : (l.take (i + 1)).any (fun x => decide (n < x.length)) = ((l.take i).any (fun x => decide (n < x.length)) || decide (n < l[i].length)) := by
  rw [List.take_succ_eq_append_getElem hi, List.any_append]
  simp
def long (n : Nat) (l : List Bytes) : Bool := l.any fun x => decide (n < x.length)
theorem long_of {n : Nat} {l : List Bytes} {i : Nat} (hi : i < l.length) (h : n < l[i].length) : long n l = true := by
  unfold long
  rw [List.any_eq_true]
  exact ⟨l[i], List.getElem_mem hi, by simpa using h⟩
theorem not_long {n : Nat} {l : List Bytes} : long n l = false ↔ ∀ x ∈ l, x.length ≤ n := by
  unfold long
  rw [List.any_eq_false]
  simp
/-- A loop that leaves as soon as a text is too long. -/
theorem loop_long {P : Int → Prop} (n : Nat) (l : List Bytes) (h1 : long n l = true → ∀ i, i < l.length → n < (l.getD i []).length → P (i : Int)) (h2 : long n l = false → P (l.length : Int)) (h3 : ∀ i : Nat, i < l.length → (l.getD i []).length ≤ n → P ((i + 1 : Nat) : Int) → P (i : Int)) : P 0 := by
  have key : ∀ m i : Nat, i + m = l.length → long n (l.take i) = false → P (i : Int) := by
    intro m
    induction m with
    | zero =>
      intro i hi hl
      simp only [Nat.add_zero] at hi
      subst hi
      rw [List.take_length] at hl
      exact h2 hl
    | succ m ih =>
      intro i hi hl
      have hil : i < l.length := by omega
      have hg : l.getD i [] = l[i] := by rw [List.getD_eq_getElem?_getD, List.getElem?_eq_getElem hil]; rfl
      rcases Nat.lt_or_ge n (l[i]).length with h | h
      · exact h1 (long_of hil h) i hil (by rw [hg]; exact h)
      · refine h3 i hil (by rw [hg]; exact h) (ih (i + 1) (by omega) ?_)
        unfold long at hl ⊢
        rw [anyLong_take hil, hl]
        simpa using h
  exact key l.length 0 (by omega) rfl
theorem getD_get {l : List Bytes} {i : Nat} (h : i < l.length) : l[i]? = some (l.getD i []) := by
  rw [List.getD_eq_getElem?_getD, List.getElem?_eq_getElem h]; rfl
def many (l : List Bytes) : Bool := long 400 l || decide (64 < l.length)
def great (l : List Bytes) : Bool := long 500 l || decide (70 < l.length)

def listR (l : List Bytes) : Bytes × Int := if many l = true then ([], 4) else (listed l, 0)
theorem many_false {l : List Bytes} : many l = false ↔ (∀ x ∈ l, x.length ≤ 400) ∧ l.length ≤ 64 := by
  unfold many
  rw [Bool.or_eq_false_iff, not_long]
  simp
theorem wr_u64_nat {n : Nat} (h : n < 18446744073709551616) : IntKind.u64.wrap (n : Int) = (n : Int) := wr_u64 (by omega) (by omega)
end Go.AM

/- Chapter 03: reading, in plain Lean. -/
namespace Go.AM
open Go

/-! digits -/
def dv (b : Nat) (c : UInt8) : Int := Lib.indexByte (DIG.take b) c
theorem dv_lt {b : Nat} (hb : b ≤ 16) (c : UInt8) : -1 ≤ dv b c ∧ dv b c < b := by
  have key : ∀ (l : Bytes), -1 ≤ Lib.indexByte l c ∧ (Lib.indexByte l c < l.length ∨ Lib.indexByte l c = -1) := by
    intro l
    induction l with
    | nil => exact ⟨Int.le_refl _, .inr rfl⟩
    | cons x l ih =>
      unfold Lib.indexByte
      split
      · simp
      · split
        · exact ⟨Int.le_refl _, .inr rfl⟩
        · simp only [List.length_cons]
          omega
  have := key (DIG.take b)
  unfold dv
  have hl : (DIG.take b).length = b := by simp [hb]
  omega
/-- The sixteen digits, each at its place. -/
theorem dv_hexd : ∀ k : Fin 16, dv 16 (hexd k) = (k.val : Int) := by decide
theorem idx_get (c : UInt8) : ∀ (l : Bytes), 0 ≤ Lib.indexByte l c → l[(Lib.indexByte l c).toNat]? = some c
  | [], h => absurd h (show ¬ (0 : Int) ≤ -1 by decide)
  | x :: l, h => by
    have ih := idx_get c l
    unfold Lib.indexByte at h ⊢
    split
    · rename_i hx
      have : x = c := by simpa using hx
      subst this
      rfl
    · rename_i hx
      rw [if_neg hx] at h
      split
      · rename_i h1
        rw [if_pos h1] at h
        exact absurd h (by decide)
      · rename_i h1
        rw [if_neg h1] at h
        have h2 := Lib.indexByte_ge l c
        have h3 : Lib.indexByte l c ≠ -1 := by simpa using h1
        have h4 : 0 ≤ Lib.indexByte l c := by omega
        have h5 : (Lib.indexByte l c + 1).toNat = (Lib.indexByte l c).toNat + 1 := by omega
        rw [h5, List.getElem?_cons_succ]
        exact ih h4
theorem dv_inv {b : Nat} (c : UInt8) (h : 0 ≤ dv b c) : c = hexd (dv b c).toNat := by
  have h1 := idx_get c (DIG.take b) h
  have h2 : DIG[(dv b c).toNat]? = some c := by
    have := (List.getElem?_eq_some_iff.1 h1)
    obtain ⟨h3, h4⟩ := this
    rw [List.getElem_take] at h4
    exact List.getElem?_eq_some_iff.2 ⟨by rw [List.length_take] at h3; exact Nat.lt_of_lt_of_le h3 (Nat.min_le_right _ _), h4⟩
  unfold hexd
  rw [List.getD_eq_getElem?_getD, h2]
  rfl
theorem dv10_hexd : ∀ k : Fin 10, dv 10 (hexd k) = (k.val : Int) := by decide
def vals (b : Nat) (s : Bytes) : Nat := s.foldl (fun n c => n * b + (dv b c).toNat) 0
def okd (b : Nat) (s : Bytes) : Bool := s.all fun c => decide (0 ≤ dv b c)
def badn (b : Nat) (s : Bytes) : Bool := decide (s = []) || !okd b s || (decide (1 < s.length) && decide (s.head? = some 48))
def rd (b most : Nat) (s : Bytes) : Nat × Int := if badn b s = true then (0, 12) else if most < vals b s then (0, 16) else (vals b s, 0)
theorem vals_take {b : Nat} {s : Bytes} {i : Nat} (h : i < s.length) : vals b (s.take (i + 1)) = vals b (s.take i) * b + (dv b s[i]).toNat := by
  unfold vals
  rw [List.take_succ_eq_append_getElem h, List.foldl_append]
  rfl
theorem okd_take {b : Nat} {s : Bytes} {i : Nat} (h : i < s.length) : okd b (s.take (i + 1)) = (okd b (s.take i) && decide (0 ≤ dv b s[i])) := by
  unfold okd
  rw [List.take_succ_eq_append_getElem h, List.all_append]
  simp
theorem okd_of {b : Nat} {s : Bytes} {i : Nat} (h : i < s.length) (hd : dv b s[i] < 0) : okd b s = false := by
  unfold okd
  rw [List.all_eq_false]
  exact ⟨s[i], List.getElem_mem h, by simpa using hd⟩
theorem far_iff {b most n d : Nat} (hb : 0 < b) (hd : d ≤ most) : (most - d) / b < n ↔ most < n * b + d := by
  rw [Nat.div_lt_iff_lt_mul hb]
  omega

/-! one byte of a text in quotes -/
def esx : Bytes → Option (UInt8 × Bytes)
  | a :: b :: r => if 0 ≤ dv 16 a ∧ 0 ≤ dv 16 b ∧ (16 * dv 16 a + dv 16 b).toNat ≠ 10 ∧ ((16 * dv 16 a + dv 16 b).toNat < 32 ∨ 126 < (16 * dv 16 a + dv 16 b).toNat) then some (UInt8.ofNat (16 * dv 16 a + dv 16 b).toNat, r) else none
  | _ => none
def esc : Bytes → Option (UInt8 × Bytes)
  | [] => none
  | c :: r => if c.toNat = 34 ∨ c.toNat = 92 then some (c, r) else if c.toNat = 110 then some (10, r) else if c.toNat = 120 then esx r else none
def one : Bytes → Option (UInt8 × Bytes)
  | [] => none
  | c :: r => if c.toNat = 34 ∨ c.toNat < 32 ∨ 126 < c.toNat then none else if c.toNat = 92 then esc r else some (c, r)
theorem u8_eq {a b : UInt8} (h : a.toNat = b.toNat) : a = b := UInt8.toNat_inj.1 h
theorem dv_hex {k : Nat} (h : k < 16) : dv 16 (hexd k) = (k : Int) := dv_hexd ⟨k, h⟩
theorem one_chr (c : UInt8) (r : Bytes) (h : (chr c ++ r).head? ≠ some 34) : one (chr c ++ r) = some (c, r) := by
  have hc := c.toNat_lt
  unfold chr at h ⊢
  split
  · rename_i h1
    simp [one, esc, h1]
  · split
    · rename_i h1 h2
      have : c = 10 := u8_eq h2
      subst this
      rfl
    · split
      · rename_i h1 h2 h3
        have e1 := dv_hex (k := c.toNat / 16) (by omega)
        have e2 := dv_hex (k := c.toNat % 16) (by omega)
        have e3 : (16 * ((c.toNat / 16 : Nat) : Int) + ((c.toNat % 16 : Nat) : Int)).toNat = c.toNat := by omega
        simp only [List.cons_append, List.nil_append, one, esc, esx, e1, e2, e3]
        rw [if_neg (by decide), if_pos (by decide), if_neg (by decide), if_neg (by decide), if_pos (by decide), if_pos ⟨by omega, by omega, h2, h3⟩]
        simp
      · rename_i h1 h2 h3
        simp only [List.cons_append, List.nil_append, one]
        rw [if_neg (by omega), if_neg (by omega)]
theorem one_inv {s : Bytes} {c : UInt8} {r : Bytes} (h : one s = some (c, r)) : s = chr c ++ r := by
  cases s with
  | nil => cases h
  | cons x s =>
    simp only [one] at h
    split at h
    · cases h
    rename_i h1
    split at h
    · rename_i h2
      have hx : x = 92 := u8_eq h2
      subst hx
      cases s with
      | nil => cases h
      | cons y s =>
        simp only [esc] at h
        split at h
        · rename_i h3
          cases h
          unfold chr
          rw [if_pos h3]
          rfl
        · split at h
          · rename_i h3 h4
            cases h
            have hy : y = 110 := u8_eq h4
            subst hy
            rfl
          · split at h
            · rename_i h3 h4 h5
              have hy : y = 120 := u8_eq h5
              subst hy
              match s, h with
              | a :: b :: r', h =>
                simp only [esx] at h
                split at h
                · rename_i h6
                  obtain ⟨ha, hb, hv, hw⟩ := h6
                  cases h
                  have la := dv_lt (b := 16) (by omega) a
                  have lb := dv_lt (b := 16) (by omega) b
                  have hv256 : (16 * dv 16 a + dv 16 b).toNat < 256 := by omega
                  have en : (UInt8.ofNat (16 * dv 16 a + dv 16 b).toNat).toNat = (16 * dv 16 a + dv 16 b).toNat := by
                    simp; omega
                  unfold chr
                  rw [en, if_neg (by omega), if_neg hv, if_pos hw]
                  have e1 : (16 * dv 16 a + dv 16 b).toNat / 16 = (dv 16 a).toNat := by omega
                  have e2 : (16 * dv 16 a + dv 16 b).toNat % 16 = (dv 16 b).toNat := by omega
                  rw [e1, e2, ← dv_inv a ha, ← dv_inv b hb]
                  rfl
                · cases h
            · cases h
    · rename_i h2
      cases h
      unfold chr
      rw [if_neg (by omega), if_neg (by omega), if_neg (by omega)]
      rfl
theorem chr_head (c : UInt8) : (chr c).head? ≠ some 34 := by
  unfold chr
  split
  · simp
  · split
    · simp
    · split
      · simp
      · rename_i h _ _
        simp
        intro he
        subst he
        exact h (.inl rfl)
theorem chr_ne (c : UInt8) : chr c ≠ [] := by
  intro h
  have := (chr_len c).1
  rw [h] at this
  simp at this
theorem chr_app_head (c : UInt8) (r : Bytes) : (chr c ++ r).head? ≠ some 34 := by
  cases hc : chr c with
  | nil => exact absurd hc (chr_ne c)
  | cons x l => have := chr_head c; rw [hc] at this; simpa using this
theorem one_iff {s : Bytes} {c : UInt8} {r : Bytes} : one s = some (c, r) ↔ s = chr c ++ r :=
  ⟨one_inv, fun h => by subst h; exact one_chr c r (chr_app_head c r)⟩

/-! a text in quotes at the beginning of a string -/
def nxtB : Nat → Bytes → Bytes → Option (Bytes × Bytes)
  | 0, _, _ => none
  | n + 1, out, s => match s with
    | [] => none
    | c :: r => if c.toNat = 34 then some (out, r) else match one (c :: r) with
      | none => none
      | some (x, r') => nxtB n (out ++ [x]) r'
def nxt : Bytes → Option (Bytes × Bytes)
  | [] => none
  | c :: r => if c.toNat = 34 then nxtB (r.length + 1) [] r else none
theorem one_len {s : Bytes} {c : UInt8} {r : Bytes} (h : one s = some (c, r)) : r.length < s.length := by
  have h1 := one_inv h
  have h2 := (chr_len c).1
  rw [h1, List.length_append]
  omega
theorem nxtB_iff : ∀ (n : Nat) (out s x r : Bytes), s.length < n → (nxtB n out s = some (x, r) ↔ ∃ y, x = out ++ y ∧ s = chrs y ++ 34 :: r)
  | 0, _, _, _, _, h => absurd h (Nat.not_lt_zero _)
  | n + 1, out, [], x, r, h => by
    refine ⟨fun h => (by cases h), fun ⟨y, _, h2⟩ => ?_⟩
    have := congrArg List.length h2
    simp at this
  | n + 1, out, c :: s, x, r, h => by
    unfold nxtB
    simp only
    by_cases hc : c.toNat = 34
    · rw [if_pos hc]
      have hc' : c = 34 := u8_eq hc
      subst hc'
      refine ⟨fun h => ?_, fun ⟨y, h1, h2⟩ => ?_⟩
      · cases h
        exact ⟨[], by simp, rfl⟩
      · cases y with
        | nil =>
          have h2 : (34 : UInt8) :: s = 34 :: r := h2
          injection h2 with _ h2
          rw [h1, h2, List.append_nil]
        | cons a y =>
          have h2 : (34 : UInt8) :: s = chr a ++ chrs y ++ 34 :: r := h2
          rw [List.append_assoc] at h2
          have := chr_app_head a (chrs y ++ 34 :: r)
          rw [← h2] at this
          exact absurd rfl this
    · rw [if_neg hc]
      cases ho : one (c :: s) with
      | none =>
        refine ⟨fun h => (by cases h), fun ⟨y, h1, h2⟩ => ?_⟩
        cases y with
        | nil =>
          have h2 : c :: s = 34 :: r := h2
          injection h2 with h2
          subst h2
          exact absurd rfl hc
        | cons a y =>
          have h2 : c :: s = chr a ++ chrs y ++ 34 :: r := h2
          rw [List.append_assoc] at h2
          have := one_iff.2 h2
          rw [ho] at this
          cases this
      | some p =>
        obtain ⟨a, r'⟩ := p
        simp only
        have hl := one_len ho
        have ih := nxtB_iff n (out ++ [a]) r' x r (by simp at h hl; omega)
        rw [ih]
        have hs := one_inv ho
        refine ⟨fun ⟨y, h1, h2⟩ => ⟨a :: y, by rw [h1]; simp, ?_⟩, fun ⟨y, h1, h2⟩ => ?_⟩
        · rw [hs, h2]
          show _ = chr a ++ chrs y ++ 34 :: r
          rw [List.append_assoc]
        · cases y with
          | nil =>
            have h2 : c :: s = 34 :: r := h2
            injection h2 with h2
            subst h2
            exact absurd rfl hc
          | cons b y =>
            have h2 : c :: s = chr b ++ chrs y ++ 34 :: r := h2
            rw [List.append_assoc] at h2
            have := one_iff.2 h2
            rw [ho] at this
            cases this
            exact ⟨y, by rw [h1]; simp, rfl⟩
theorem nxt_iff {s x r : Bytes} : nxt s = some (x, r) ↔ s = quo x ++ r := by
  cases s with
  | nil =>
    refine ⟨fun h => (by cases h), fun h => ?_⟩
    have := congrArg List.length h
    simp [quo] at this
  | cons c s =>
    simp only [nxt, quo]
    by_cases hc : c.toNat = 34
    · have hc' : c = 34 := u8_eq hc
      subst hc'
      rw [if_pos hc, nxtB_iff _ _ _ _ _ (Nat.lt_succ_self _)]
      refine ⟨fun ⟨y, h1, h2⟩ => ?_, fun h => ⟨x, by simp, ?_⟩⟩
      · simp only [List.nil_append] at h1
        subst h1
        rw [h2]
        simp
      · simp only [List.cons_append, List.append_assoc, List.nil_append, List.cons.injEq, true_and] at h
        exact h
    · rw [if_neg hc]
      refine ⟨fun h => (by cases h), fun h => ?_⟩
      injection h with h
      subst h
      exact absurd rfl hc

/-! numbers read -/
def unnum (s : Bytes) : Int × Int :=
  if 2000 < s.length then (0, 4) else
  if s.take 1 = [45] then
    if (rd 10 9223372036854775808 (s.drop 1)).2 = 0 ∧ (rd 10 9223372036854775808 (s.drop 1)).1 = 0 then (0, 12) else (-((rd 10 9223372036854775808 (s.drop 1)).1 : Int), (rd 10 9223372036854775808 (s.drop 1)).2)
  else (((rd 10 9223372036854775807 s).1 : Int), (rd 10 9223372036854775807 s).2)
theorem rd_le (b most : Nat) (s : Bytes) : (rd b most s).1 ≤ most := by
  unfold rd
  split
  · exact Nat.zero_le _
  · split
    · exact Nat.zero_le _
    · simp only; omega
theorem rd_err {b most : Nat} {s : Bytes} (h : (rd b most s).2 ≠ 0) : (rd b most s).1 = 0 := by
  unfold rd at h ⊢
  split
  · rfl
  · rename_i h1
    rw [if_neg h1] at h
    split
    · rfl
    · rename_i h2
      rw [if_neg h2] at h
      exact absurd rfl h
theorem vals_mono {b : Nat} (hb : 0 < b) {s : Bytes} {i : Nat} : ∀ k, i + k ≤ s.length → vals b (s.take i) ≤ vals b (s.take (i + k))
  | 0, _ => Nat.le_refl _
  | k + 1, h => by
    have := vals_mono hb (s := s) (i := i) k (by omega)
    rw [show i + (k + 1) = (i + k) + 1 by omega, vals_take (by omega)]
    have h3 : vals b (s.take (i + k)) ≤ vals b (s.take (i + k)) * b := Nat.le_mul_of_pos_right _ hb
    omega
theorem rd_zero {b most : Nat} (hb : 0 < b) {s : Bytes} (h : (rd b most s).2 = 0) (h0 : (rd b most s).1 = 0) : s = [48] := by
  unfold rd at h h0
  split at h
  · exact absurd h (by decide)
  rename_i hbad
  rw [if_neg hbad] at h0
  split at h
  · exact absurd h (by decide)
  rename_i hm
  rw [if_neg hm] at h0
  simp only at h0
  have hbad : badn b s = false := by simpa using hbad
  unfold badn at hbad
  simp only [Bool.or_eq_false_iff, decide_eq_false_iff_not, Bool.not_eq_false', Bool.and_eq_false_iff] at hbad
  obtain ⟨⟨hne, hok⟩, h48⟩ := hbad
  have hpos : 0 < s.length := List.length_pos_iff.2 hne
  have hz : (dv b s[0]).toNat = 0 := by
    have h1 := vals_mono hb (s := s) (i := 0 + 1) (s.length - 1) (by omega)
    rw [vals_take hpos, show 0 + 1 + (s.length - 1) = s.length by omega, List.take_length] at h1
    omega
  have hd : 0 ≤ dv b s[0] := by
    unfold okd at hok
    rw [List.all_eq_true] at hok
    simpa using hok s[0] (List.getElem_mem hpos)
  have hs0 : s[0] = 48 := by
    have := dv_inv s[0] hd
    rw [hz] at this
    exact this
  have hh : s.head? = some 48 := by rw [List.head?_eq_getElem?, List.getElem?_eq_getElem hpos, hs0]
  have hl : s.length = 1 := by
    rcases h48 with h | h
    · omega
    · exact absurd hh h
  match s, hl with
  | [c], _ => simp at hs0; rw [hs0]
def unhex (s : Bytes) : Nat × Int :=
  if 2000 < s.length then (0, 4) else if s.take 2 = [48, 120] then rd 16 18446744073709551615 (s.drop 2) else (0, 12)
def unquo (s : Bytes) : Bytes × Int :=
  if 2000 < s.length then ([], 4) else
  match nxt s with
  | some (x, []) => if 400 < x.length then ([], 4) else (x, 0)
  | _ => ([], 12)
def ul : Nat → List Bytes → Bytes → Option (List Bytes)
  | 0, _, _ => none
  | n + 1, l, s => match nxt s with
    | none => none
    | some (x, r) => if r = [93] then some (l ++ [x]) else if r.take 2 = [44, 32] then ul n (l ++ [x]) (r.drop 2) else none
def unl (o : Option (List Bytes)) : List Bytes × Int := match o with | none => ([], 12) | some l => if many l = true then ([], 4) else (l, 0)
theorem unl_yes {l : List Bytes} (h : many l = true) : unl (some l) = ([], 4) := by unfold unl; simp only; rw [if_pos h]
theorem unl_no {l : List Bytes} (h : many l = false) : unl (some l) = (l, 0) := by unfold unl; simp only; rw [if_neg (by rw [h]; decide)]
/-- A list behind its lead. -/
def ulp (p s : Bytes) (l : List Bytes) (n : Nat) : Option (List Bytes) := if s.take p.length = p then ul n l (s.drop p.length) else none
def unlist (s : Bytes) : List Bytes × Int :=
  if 200000 < s.length then ([], 4) else if s = [91, 93] then ([], 0) else unl (ulp [91] s [] (s.length + 1))
def nxtR (s : Bytes) : Bytes × Bytes × Bool := match nxt s with | some (x, r) => (x, r, true) | none => ([], [], false)
theorem take_chr {s : Bytes} {c : UInt8} : s.take (chr c).length = chr c ↔ one s = some (c, s.drop (chr c).length) := by
  rw [one_iff]
  refine ⟨fun h => ?_, fun h => ?_⟩
  · have := List.take_append_drop (chr c).length s
    rw [h] at this
    exact this.symm
  · rw [h]
    simp
end Go.AM

/- Chapter 03: writing and reading are inverse, in plain Lean. -/
namespace Go.AM
open Go

theorem dv_hexd_b : ∀ b : Fin 17, ∀ k : Fin 16, k.val < b.val → dv b.val (hexd k.val) = (k.val : Int) := by decide
theorem dv_of {b k : Nat} (hb : b ≤ 16) (hk : k < b) : dv b (hexd k) = (k : Int) := dv_hexd_b ⟨b, by omega⟩ ⟨k, by omega⟩ hk
theorem hexd_48 {k : Nat} (hk : k < 16) (h : hexd k = 48) : k = 0 := by
  have h1 := dv_of (b := 16) (Nat.le_refl _) hk
  rw [h] at h1
  have h2 : dv 16 48 = 0 := rfl
  omega
theorem vals_snoc (b : Nat) (s : Bytes) (c : UInt8) : vals b (s ++ [c]) = vals b s * b + (dv b c).toNat := by
  unfold vals
  rw [List.foldl_append]
  rfl
theorem okd_snoc (b : Nat) (s : Bytes) (c : UInt8) : okd b (s ++ [c]) = (okd b s && decide (0 ≤ dv b c)) := by
  unfold okd
  rw [List.all_append]
  simp
/-- Digits written are read. -/
theorem ds_read {b : Nat} (hb : 2 ≤ b) (hb' : b ≤ 16) : ∀ f n, n < b ^ f → 0 < f → vals b (ds b f n) = n ∧ okd b (ds b f n) = true ∧ ds b f n ≠ [] ∧ ((ds b f n).head? = some 48 → n = 0) ∧ (n = 0 → ds b f n = [48])
  | 0, _, _, h => absurd h (Nat.lt_irrefl _)
  | f + 1, n, h, _ => by
    unfold ds
    by_cases hn : n < b
    · rw [if_pos hn]
      have hd := dv_of hb' hn
      refine ⟨?_, ?_, by simp, fun h1 => ?_, fun h1 => by subst h1; rfl⟩
      · show 0 * b + (dv b (hexd n)).toNat = n
        omega
      · show (decide (0 ≤ dv b (hexd n)) && true) = true
        rw [hd]
        simp
      · simp at h1
        exact hexd_48 (by omega) h1
    · rw [if_neg hn]
      have h1 : n / b < b ^ f := by
        rw [Nat.div_lt_iff_lt_mul (by omega)]
        rw [Nat.pow_succ] at h
        exact h
      have h2 : 0 < f := by
        rcases Nat.eq_zero_or_pos f with rfl | h
        · simp at h1
          have := Nat.div_pos (show b ≤ n by omega) (by omega)
          omega
        · exact h
      obtain ⟨i1, i2, i3, i4, i5⟩ := ds_read hb hb' f (n / b) h1 h2
      have hr : n % b < b := Nat.mod_lt _ (by omega)
      have hd := dv_of hb' hr
      have hq := Nat.div_pos (show b ≤ n by omega) (show 0 < b by omega)
      refine ⟨?_, ?_, by simp, fun h3 => ?_, fun h3 => absurd h3 (by omega)⟩
      · rw [vals_snoc, i1, hd]
        have := Nat.div_add_mod n b
        rw [Nat.mul_comm] at this
        omega
      · rw [okd_snoc, i2, hd, Bool.true_and]
        exact decide_eq_true (Int.natCast_nonneg _)
      · rw [List.head?_append] at h3
        cases hh : (ds b f (n / b)).head? with
        | none => exact absurd (List.head?_eq_none_iff.1 hh) i3
        | some c =>
          rw [hh] at h3
          simp at h3
          subst h3
          have := i4 hh
          omega
theorem pow64 {b n : Nat} (hb : 2 ≤ b) (hn : n < 18446744073709551616) : n < b ^ 64 :=
  Nat.lt_of_lt_of_le hn (Nat.pow_le_pow_left hb 64)
theorem rd_digs {b most n : Nat} (hb : 2 ≤ b) (hb' : b ≤ 16) (hn : n < 18446744073709551616) (hm : n ≤ most) : rd b most (digs b n) = (n, 0) := by
  obtain ⟨h1, h2, h3, h4, h5⟩ := ds_read hb hb' 64 n (pow64 hb hn) (by omega)
  have hbad : badn b (digs b n) = false := by
    unfold badn digs
    rw [decide_eq_false h3, h2]
    simp only [Bool.false_or, Bool.not_true]
    by_cases h6 : (ds b 64 n).head? = some 48
    · rw [h5 (h4 h6)]
      rfl
    · rw [decide_eq_false h6, Bool.and_false]
  unfold rd
  rw [if_neg (by rw [hbad]; decide)]
  unfold digs
  rw [h1, if_neg (by omega)]
/-- Digits read are written. -/
theorem ds_write {b : Nat} (hb : 2 ≤ b) (hb' : b ≤ 16) : ∀ (m : Nat) (s : Bytes), s.length = m → s ≠ [] → okd b s = true → ¬(1 < s.length ∧ s.head? = some 48) → ∀ f, vals b s < b ^ f → 0 < f → ds b f (vals b s) = s
  | 0, s, hm, hne, _, _, _, _, _ => absurd (List.length_eq_zero_iff.1 hm) hne
  | m + 1, s, hm, hne, hok, h48, f, hf, hf0 => by
    obtain ⟨l, c, rfl⟩ : ∃ l c, s = l ++ [c] := ⟨s.dropLast, s.getLast hne, (List.dropLast_concat_getLast hne).symm⟩
    rw [okd_snoc, Bool.and_eq_true, decide_eq_true_eq] at hok
    have hd := dv_lt hb' c
    have hc := dv_inv c hok.2
    rw [vals_snoc] at hf ⊢
    generalize hdd : (dv b c).toNat = d at *
    have hdb : d < b := by omega
    match f, hf0 with
    | f + 1, _ =>
      unfold ds
      by_cases hl : l = []
      · subst hl
        have hv : vals b [] * b + d = d := by show 0 * b + d = d; omega
        rw [hv, if_pos hdb, ← hc]
        rfl
      · have hpos : 0 < l.length := List.length_pos_iff.2 hl
        have hhead : l.head? ≠ some 48 := by
          intro h
          refine h48 ⟨by simp; omega, ?_⟩
          rw [List.head?_append, h]
          rfl
        have hv : 0 < vals b l := by
          rcases Nat.eq_zero_or_pos (vals b l) with h | h
          · exfalso
            have h1 := vals_mono (b := b) (by omega) (s := l) (i := 0 + 1) (l.length - 1) (by omega)
            rw [vals_take hpos, show 0 + 1 + (l.length - 1) = l.length by omega, List.take_length, h] at h1
            have h2 : 0 ≤ dv b l[0] := by
              have := hok.1
              unfold okd at this
              rw [List.all_eq_true] at this
              simpa using this l[0] (List.getElem_mem hpos)
            have h3 := dv_inv l[0] h2
            have h4 : (dv b l[0]).toNat = 0 := by omega
            rw [h4] at h3
            apply hhead
            rw [List.head?_eq_getElem?, List.getElem?_eq_getElem hpos, h3]
            rfl
          · exact h
        have hbig : ¬ vals b l * b + d < b := by
          have : b ≤ vals b l * b := Nat.le_mul_of_pos_left _ hv
          omega
        have hdiv : (vals b l * b + d) / b = vals b l := by
          rw [Nat.mul_comm, Nat.mul_add_div (by omega), Nat.div_eq_of_lt hdb, Nat.add_zero]
        have hmod : (vals b l * b + d) % b = d := by
          rw [Nat.mul_comm, Nat.mul_add_mod, Nat.mod_eq_of_lt hdb]
        rw [if_neg hbig, hdiv, hmod, ← hc]
        have hlt : vals b l < b ^ f := by
          rw [Nat.pow_succ] at hf
          exact Nat.lt_of_mul_lt_mul_right (a := b) (by omega)
        have hf1 : 0 < f := by
          rcases Nat.eq_zero_or_pos f with rfl | h
          · simp at hlt; omega
          · exact h
        rw [ds_write hb hb' m l (by simp at hm; exact hm) hl hok.1 (fun h => hhead h.2) f hlt hf1]
theorem digs_rd {b most : Nat} (hb : 2 ≤ b) (hb' : b ≤ 16) (hm : most < 18446744073709551616) {s : Bytes} (h : (rd b most s).2 = 0) : digs b (rd b most s).1 = s := by
  unfold rd at h ⊢
  split at h
  · exact absurd h (by decide)
  rename_i hbad
  rw [if_neg hbad]
  split at h
  · exact absurd h (by decide)
  rename_i hv
  rw [if_neg hv]
  have hbad : badn b s = false := by simpa using hbad
  unfold badn at hbad
  simp only [Bool.or_eq_false_iff, decide_eq_false_iff_not, Bool.not_eq_false', Bool.and_eq_false_iff] at hbad
  obtain ⟨⟨hne, hok⟩, h48⟩ := hbad
  exact ds_write hb hb' s.length s rfl hne hok (fun h => by rcases h48 with h1 | h1; exact h1 h.1; exact h1 h.2) 64 (pow64 hb (by omega)) (by omega)

theorem unnum_num {n : Int} (h1 : -9223372036854775808 ≤ n) (h2 : n < 9223372036854775808) : unnum (num n) = (n, 0) := by
  have hl : (num n).length ≤ 65 := by
    unfold num
    split
    · have := ds_len 10 64 (-n).toNat
      simp only [digs, List.length_cons]; omega
    · have := ds_len 10 64 n.toNat
      simp only [digs]; omega
  unfold unnum
  rw [if_neg (by omega)]
  by_cases hn : n < 0
  · have e : num n = 45 :: digs 10 (-n).toNat := by unfold num; rw [if_pos hn]
    have hr := rd_digs (b := 10) (most := 9223372036854775808) (n := (-n).toNat) (by omega) (by omega) (by omega) (by omega)
    rw [e, if_pos (show List.take 1 (45 :: digs 10 (-n).toNat) = [45] from rfl), List.drop_succ_cons, List.drop_zero, hr, if_neg (by simp only; omega)]
    simp only [Prod.mk.injEq, and_true]
    omega
  · have e : num n = digs 10 n.toNat := by unfold num; rw [if_neg hn]
    have hr := rd_digs (b := 10) (most := 9223372036854775807) (n := n.toNat) (by omega) (by omega) (by omega) (by omega)
    have h45 : ¬ (digs 10 n.toNat).take 1 = [45] := by
      intro h
      obtain ⟨_, k2, k3, _⟩ := ds_read (b := 10) (by omega) (by omega) 64 n.toNat (pow64 (by omega) (by omega)) (by omega)
      unfold digs at h
      cases hd : ds 10 64 n.toNat with
      | nil => exact k3 hd
      | cons c r =>
        rw [hd] at h k2
        simp at h
        subst h
        unfold okd at k2
        simp only [List.all_cons, Bool.and_eq_true, decide_eq_true_eq] at k2
        exact absurd k2.1 (by decide)
    rw [e, if_neg h45, hr]
    simp only [Prod.mk.injEq, and_true]
    omega
theorem num_unnum {s : Bytes} (h : (unnum s).2 = 0) : num (unnum s).1 = s ∧ -9223372036854775808 ≤ (unnum s).1 ∧ (unnum s).1 < 9223372036854775808 := by
  unfold unnum at h ⊢
  split at h
  · exact absurd h (by decide)
  rename_i hl
  rw [if_neg hl]
  split at h
  · rename_i hm
    rw [if_pos hm]
    split at h
    · exact absurd h (by decide)
    rename_i hz
    rw [if_neg hz]
    simp only at h ⊢
    have hle := rd_le 10 9223372036854775808 (s.drop 1)
    have hne : (rd 10 9223372036854775808 (s.drop 1)).1 ≠ 0 := fun h0 => hz ⟨h, h0⟩
    have hd := digs_rd (b := 10) (by omega) (by omega) (by omega) h
    refine ⟨?_, by omega, by omega⟩
    unfold num
    rw [if_pos (by omega), Int.neg_neg, Int.toNat_natCast, hd]
    have := List.take_append_drop 1 s
    rw [hm] at this
    exact this
  · rename_i hm
    rw [if_neg hm]
    simp only at h ⊢
    have hle := rd_le 10 9223372036854775807 s
    have hd := digs_rd (b := 10) (by omega) (by omega) (by omega) h
    refine ⟨?_, by omega, by omega⟩
    unfold num
    rw [if_neg (by omega), Int.toNat_natCast, hd]
theorem unhex_hex {n : Nat} (hn : n < 18446744073709551616) : unhex (hex n) = (n, 0) := by
  have hl := ds_len 16 64 n
  unfold unhex hex
  rw [if_neg (by simp only [digs, List.length_cons]; omega), if_pos (show List.take 2 (48 :: 120 :: digs 16 n) = [48, 120] from rfl)]
  exact rd_digs (by omega) (by omega) hn (by omega)
theorem hex_unhex {s : Bytes} (h : (unhex s).2 = 0) : hex (unhex s).1 = s ∧ (unhex s).1 < 18446744073709551616 := by
  unfold unhex at h ⊢
  split at h
  · exact absurd h (by decide)
  rename_i hl
  rw [if_neg hl]
  split at h
  · rename_i hm
    rw [if_pos hm]
    have hle := rd_le 16 18446744073709551615 (s.drop 2)
    have hd := digs_rd (b := 16) (by omega) (by omega) (by omega) h
    refine ⟨?_, by omega⟩
    unfold hex
    rw [hd]
    have := List.take_append_drop 2 s
    rw [hm] at this
    exact this
  · exact absurd h (by decide)
theorem unquo_quo {s : Bytes} (hs : s.length ≤ 400) : unquo (quo s) = (s, 0) := by
  have hl := quo_len s
  unfold unquo
  rw [if_neg (by omega), nxt_iff.2 (show quo s = quo s ++ [] by simp)]
  simp only
  rw [if_neg (by omega)]
theorem quo_unquo {s : Bytes} (h : (unquo s).2 = 0) : quo (unquo s).1 = s ∧ (unquo s).1.length ≤ 400 := by
  unfold unquo at h ⊢
  split at h
  · exact absurd h (by decide)
  rename_i hl
  rw [if_neg hl]
  cases hn : nxt s with
  | none => rw [hn] at h; exact absurd h (by decide)
  | some p =>
    obtain ⟨x, r⟩ := p
    rw [hn] at h
    cases r with
    | cons c r => exact absurd h (show ¬ (12 : Int) = 0 by decide)
    | nil =>
      simp only at h ⊢
      split at h
      · exact absurd h (by decide)
      rename_i hx
      rw [if_neg hx]
      have := nxt_iff.1 hn
      rw [List.append_nil] at this
      exact ⟨this.symm, by simp only; omega⟩
theorem innerQ_cons {x : Bytes} {l : List Bytes} (h : l ≠ []) : innerQ (x :: l) = quo x ++ 44 :: 32 :: innerQ l := by
  cases l with
  | nil => exact absurd rfl h
  | cons y l => simp [innerQ, tailQ]
theorem ul_yes : ∀ (n : Nat) (acc l : List Bytes), l ≠ [] → l.length ≤ n → ul n acc (innerQ l ++ [93]) = some (acc ++ l)
  | 0, acc, l, h, hn => absurd (List.length_eq_zero_iff.1 (by omega)) h
  | n + 1, acc, [], h, _ => absurd rfl h
  | n + 1, acc, x :: l, _, hn => by
    unfold ul
    by_cases hl : l = []
    · subst hl
      have e : nxt (innerQ [x] ++ [93]) = some (x, [93]) := nxt_iff.2 (by simp [innerQ, tailQ])
      rw [e]
      simp only
      rw [if_pos trivial]
    · have e : nxt (innerQ (x :: l) ++ [93]) = some (x, 44 :: 32 :: (innerQ l ++ [93])) := nxt_iff.2 (by rw [innerQ_cons hl]; simp)
      rw [e]
      simp only
      rw [if_neg (by simp), if_pos (show List.take 2 (44 :: 32 :: (innerQ l ++ [93])) = [44, 32] from rfl), List.drop_succ_cons, List.drop_succ_cons, List.drop_zero, ul_yes n (acc ++ [x]) l hl (by simp at hn; omega)]
      simp
theorem ul_inv : ∀ (n : Nat) (acc : List Bytes) (s : Bytes) (r : List Bytes), ul n acc s = some r → ∃ l, l ≠ [] ∧ r = acc ++ l ∧ s = innerQ l ++ [93]
  | 0, _, _, _, h => by cases h
  | n + 1, acc, s, r, h => by
    unfold ul at h
    cases hn : nxt s with
    | none => rw [hn] at h; cases h
    | some p =>
      obtain ⟨x, t⟩ := p
      rw [hn] at h
      simp only at h
      have hs := nxt_iff.1 hn
      split at h
      · rename_i ht
        cases h
        subst ht
        exact ⟨[x], by simp, rfl, by rw [hs]; simp [innerQ, tailQ]⟩
      · split at h
        · rename_i ht
          obtain ⟨l, h1, h2, h3⟩ := ul_inv n _ _ _ h
          refine ⟨x :: l, by simp, by rw [h2]; simp, ?_⟩
          have e := List.take_append_drop 2 t
          rw [ht, h3] at e
          rw [hs, innerQ_cons h1, ← e]
          simp
        · cases h
theorem listed_len {l : List Bytes} (h : many l = false) : (listed l).length ≤ 102700 := by
  obtain ⟨h1, h2⟩ := many_false.1 h
  have := innerQ_len h1
  unfold listed
  simp only [List.length_cons, List.length_append, List.length_nil]
  omega
theorem listed_ne {l : List Bytes} (h : l ≠ []) : listed l ≠ [91, 93] := by
  cases l with
  | nil => exact absurd rfl h
  | cons x l =>
    intro e
    have := congrArg List.length e
    simp only [listed, innerQ, quo, List.length_cons, List.length_append, List.length_nil] at this
    omega
theorem len_innerQ (l : List Bytes) : l.length ≤ (innerQ l).length := by
  cases l with
  | nil => exact Nat.le_refl _
  | cons x l =>
    have tl : ∀ l : List Bytes, l.length ≤ (tailQ l).length := by
      intro l
      induction l with
      | nil => exact Nat.le_refl _
      | cons y l ih =>
        have e : tailQ (y :: l) = 44 :: 32 :: quo y ++ tailQ l := rfl
        rw [e]
        simp only [List.length_append, List.length_cons]
        omega
    have := tl l
    simp only [innerQ, quo, List.length_append, List.length_cons]
    omega
theorem ulp_listed {l : List Bytes} (h : l ≠ []) : ulp [91] (listed l) [] ((listed l).length + 1) = some l := by
  unfold ulp
  rw [if_pos (show List.take ([91] : Bytes).length (listed l) = [91] from rfl)]
  have := ul_yes ((listed l).length + 1) [] l h (by have := len_innerQ l; unfold listed; simp only [List.length_cons, List.length_append]; omega)
  rw [List.nil_append] at this
  exact this
theorem unlist_listed {l : List Bytes} (h : many l = false) : unlist (listed l) = (l, 0) := by
  have hl := listed_len h
  unfold unlist
  rw [if_neg (by omega)]
  by_cases hn : l = []
  · subst hn
    rw [if_pos (show listed [] = [91, 93] from rfl)]
  · rw [if_neg (listed_ne hn), ulp_listed hn, unl_no h]
theorem listed_unlist {s : Bytes} (h : (unlist s).2 = 0) : listed (unlist s).1 = s ∧ many (unlist s).1 = false := by
  unfold unlist at h ⊢
  split at h
  · exact absurd h (by decide)
  rename_i hl
  rw [if_neg hl]
  split at h
  · rename_i hs
    rw [if_pos hs, hs]
    exact ⟨rfl, rfl⟩
  rename_i hs
  rw [if_neg hs]
  cases hu : ulp [91] s [] (s.length + 1) with
  | none => rw [hu] at h; exact absurd h (by decide)
  | some l =>
    rw [hu] at h
    cases hm : many l with
    | true => rw [unl_yes hm] at h; exact absurd h (by decide)
    | false =>
      rw [unl_no hm]
      refine ⟨?_, hm⟩
      unfold ulp at hu
      split at hu
      · rename_i ht
        obtain ⟨l', h1, h2, h3⟩ := ul_inv _ _ _ _ hu
        rw [List.nil_append] at h2
        subst h2
        have e := List.take_append_drop ([91] : Bytes).length s
        rw [ht, h3] at e
        exact e
      · cases hu
theorem innerQ_append (l m : List Bytes) : innerQ (l ++ m) = innerQ l ++ (if l.length > 0 ∧ m.length > 0 then [44, 32] else []) ++ innerQ m := by
  cases l with
  | nil => simp [innerQ]
  | cons x l =>
    cases m with
    | nil => simp [innerQ]
    | cons y m => simp [innerQ, tailQ]
end Go.AM

/- Chapter 38: values as text, what the functions compute, in plain Lean. -/
namespace Go.AM
open Go

/-! loops -/
/-- A loop that counts up, with what holds at each count. -/
theorem loop_inv {α : Type} {P : α → Int → Prop} (A : Nat → α) (n : Nat) (I : Nat → Prop) (h0 : I 0) (h1 : I n → P (A n) (n : Int)) (h2 : ∀ i : Nat, i < n → I i → (I (i + 1) → P (A (i + 1)) ((i + 1 : Nat) : Int)) → P (A i) (i : Int)) : P (A 0) 0 := by
  have key : ∀ m i : Nat, i + m = n → I i → P (A i) (i : Int) := by
    intro m
    induction m with
    | zero => intro i hi h; simp only [Nat.add_zero] at hi; subst hi; exact h1 h
    | succ m ih => intro i hi h; exact h2 i (by omega) h fun h' => ih (i + 1) (by omega) h'
  exact key n 0 (by omega) h0
theorem loop_inv0 {P : Int → Prop} (n : Nat) (I : Nat → Prop) (h0 : I 0) (h1 : I n → P (n : Int)) (h2 : ∀ i : Nat, i < n → I i → (I (i + 1) → P ((i + 1 : Nat) : Int)) → P (i : Int)) : P 0 :=
  loop_inv (P := fun _ i => P i) (fun _ => ()) n I h0 h1 h2
theorem get_at {α : Type} {l : List α} {i : Nat} (h : i < l.length) : l[((i : Int)).toNat]? = some l[i] := by rw [toNat_cast, List.getElem?_eq_getElem h]

/-! values -/
abbrev vz : Val := Val.mk 0 0 [] [] false
theorem Val.eta (v : Val) : v = Val.mk v.kind v.int v.text v.list v.cut := by cases v; rfl
@[simp] theorem Val.kind_mk (k n : Int) (s : Bytes) (l : List Val) (c : Bool) : (Val.mk k n s l c).kind = k := rfl
@[simp] theorem Val.int_mk (k n : Int) (s : Bytes) (l : List Val) (c : Bool) : (Val.mk k n s l c).int = n := rfl
@[simp] theorem Val.text_mk (k n : Int) (s : Bytes) (l : List Val) (c : Bool) : (Val.mk k n s l c).text = s := rfl
@[simp] theorem Val.list_mk (k n : Int) (s : Bytes) (l : List Val) (c : Bool) : (Val.mk k n s l c).list = l := rfl
@[simp] theorem Val.cut_mk (k n : Int) (s : Bytes) (l : List Val) (c : Bool) : (Val.mk k n s l c).cut = c := rfl

/-- What a value of the program is. -/
inductive Wf : Val → Prop
  | mk {k n : Int} {s : Bytes} {l : List Val} {c : Bool} (hk : 0 ≤ k ∧ k < 256) (hn : -9223372036854775808 ≤ n ∧ n < 9223372036854775808) (hl : l.length ≤ 9223372036854775807) (h : ∀ x ∈ l, Wf x) : Wf (.mk k n s l c)
theorem Wf.k {v : Val} (h : Wf v) : 0 ≤ v.kind ∧ v.kind < 256 := by cases h; assumption
theorem Wf.n {v : Val} (h : Wf v) : -9223372036854775808 ≤ v.int ∧ v.int < 9223372036854775808 := by cases h; assumption
theorem Wf.l {v : Val} (h : Wf v) : v.list.length ≤ 9223372036854775807 := by cases h; assumption
theorem Wf.e {v : Val} (h : Wf v) : ∀ x ∈ v.list, Wf x := by cases h; assumption
theorem Wf.zero : Wf vz := .mk (by decide) (by decide) (by decide) (by simp)

mutual
def Val.nodes : Val → Nat
  | .mk _ _ _ l _ => 1 + Val.nodesL l
def Val.nodesL : List Val → Nat
  | [] => 0
  | v :: l => Val.nodes v + Val.nodesL l
end
theorem nodes_eq (v : Val) : v.nodes = 1 + Val.nodesL v.list := by cases v; rw [Val.nodes]; rfl
theorem nodesL_app : ∀ l m : List Val, Val.nodesL (l ++ m) = Val.nodesL l + Val.nodesL m
  | [], m => by simp [Val.nodesL]
  | v :: l, m => by rw [List.cons_append, Val.nodesL, Val.nodesL, nodesL_app l m]; omega
theorem nodesL_take {l : List Val} {i : Nat} (h : i < l.length) : Val.nodesL (l.take (i + 1)) = Val.nodesL (l.take i) + l[i].nodes := by
  rw [List.take_succ_eq_append_getElem h, nodesL_app, Val.nodesL, Val.nodesL]; rfl
theorem nodesL_le {l : List Val} (i : Nat) : Val.nodesL (l.take i) ≤ Val.nodesL l := by
  have := nodesL_app (l.take i) (l.drop i)
  rw [List.take_append_drop] at this
  omega
theorem nodes_pos (v : Val) : 1 ≤ v.nodes := by rw [nodes_eq]; omega
theorem nodes_mem {l : List Val} {v : Val} (h : v ∈ l) : v.nodes ≤ Val.nodesL l := by
  obtain ⟨i, hi, rfl⟩ := List.getElem_of_mem h
  have h1 := nodesL_take hi
  have h2 := nodesL_le (l := l) (i + 1)
  omega

mutual
/-- The number that the reference counts. -/
def rN : Val → Nat
  | .mk _ _ _ l _ => rNs l 1
def rNs : List Val → Nat → Nat
  | [], n => n
  | v :: l, n => if n ≤ 5000 then rNs l (n + rN v) else n
end
theorem rN_eq (v : Val) : rN v = rNs v.list 1 := by cases v; rw [rN]; rfl

/-- At most so many within each other, and lists that are not long. -/
def Sm : Nat → Val → Prop
  | 0, _ => False
  | d + 1, v => v.list.length ≤ 400 ∧ ∀ x ∈ v.list, Sm d x
theorem rNs_le {B : Nat} : ∀ (l : List Val) (n : Nat), n ≤ 5000 + B → (∀ x ∈ l, rN x ≤ B) → rNs l n ≤ 5000 + B
  | [], n, hn, _ => by rw [rNs]; exact hn
  | v :: l, n, hn, h => by
    rw [rNs]
    split
    · exact rNs_le l _ (by have := h v List.mem_cons_self; omega) fun x hx => h x (List.mem_cons_of_mem _ hx)
    · exact hn
theorem rN_le : ∀ {d : Nat} {v : Val}, Sm d v → rN v ≤ 5001 * d
  | 0, v, h => h.elim
  | d + 1, v, h => by
    rw [rN_eq]
    have := rNs_le (B := 5001 * d) v.list 1 (by omega) fun x hx => rN_le (h.2 x hx)
    omega
mutual
theorem rN_spec : ∀ v : Val, (v.nodes ≤ 5000 → rN v = v.nodes) ∧ (5000 < v.nodes → 5000 < rN v)
  | .mk k n s l c => by
    rw [rN, Val.nodes]
    have := rNs_spec l 1 (by omega)
    exact this
theorem rNs_spec : ∀ (l : List Val) (n : Nat), n ≤ 5000 → (n + Val.nodesL l ≤ 5000 → rNs l n = n + Val.nodesL l) ∧ (5000 < n + Val.nodesL l → 5000 < rNs l n)
  | [], n, hn => by rw [rNs, Val.nodesL]; omega
  | v :: l, n, hn => by
    rw [rNs, Val.nodesL, if_pos hn]
    obtain ⟨h1, h2⟩ := rN_spec v
    by_cases h : n + rN v ≤ 5000
    · obtain ⟨h3, h4⟩ := rNs_spec l (n + rN v) h
      have hv : v.nodes ≤ 5000 := by
        rcases Nat.lt_or_ge 5000 v.nodes with h5 | h5
        · have := h2 h5; omega
        · exact h5
      have := h1 hv
      omega
    · have h5 : rNs l (n + rN v) = n + rN v := by
        cases l with
        | nil => rw [rNs]
        | cons w l => rw [rNs, if_neg h]
      rw [h5]
      have := nodes_pos v
      rcases Nat.lt_or_ge 5000 v.nodes with h6 | h6
      · have := h2 h6
        omega
      · have := h1 h6
        omega
end

def deepv : Nat → Val → Bool
  | 0, _ => true
  | d + 1, v => decide (100 < v.text.length) || decide (400 < v.list.length) || v.list.any (deepv d)
def greatv (v : Val) : Bool := deepv 14 v || decide (400 < rN v)
theorem deepv_sm : ∀ {d : Nat} {v : Val}, deepv d v = false → Sm d v
  | 0, v, h => by cases h
  | d + 1, v, h => by
    simp only [deepv, Bool.or_eq_false_iff, decide_eq_false_iff_not, List.any_eq_false] at h
    exact ⟨by omega, fun x hx => deepv_sm (by simpa using h.2 x hx)⟩

/-- What a value must be in itself. -/
def Okh (k n : Int) (tl ll c : Nat) : Prop :=
  (k = 1 ∧ ll = 0 ∧ c = 0 ∧ tl = 0 ∧ (n = 0 ∨ n = 1)) ∨ (k = 2 ∧ ll = 0 ∧ c = 0 ∧ tl = 0) ∨ (k = 3 ∧ ll = 0 ∧ c = 0 ∧ n = 0 ∧ tl ≤ 64) ∨
  (k = 4 ∧ n = 0 ∧ tl = 0 ∧ ll ≤ 1 ∧ (c = 0 ∨ ll = 0)) ∨ (k = 5 ∧ n = 0 ∧ tl = 0 ∧ ll ≤ 8 ∧ c = 0) ∨ (k = 6 ∧ n = 0 ∧ tl = 0 ∧ ll ≤ 16 ∧ 1 ≤ ll ∧ c = 0) ∨ (k = 7 ∧ n = 0 ∧ tl = 0 ∧ ll ≤ 16 ∧ (c = 0 ∨ ll = 0))
instance (k n : Int) (tl ll c : Nat) : Decidable (Okh k n tl ll c) := by unfold Okh; infer_instance
abbrev Val.okh (v : Val) : Prop := Okh v.kind v.int v.text.length v.list.length v.cut.toNat
def okv : Nat → Val → Bool
  | 0, _ => false
  | d + 1, v => decide v.okh && v.list.all (okv d)
theorem okv_head {d : Nat} {v : Val} (h : okv d v = true) : v.okh := by
  cases d with
  | zero => cases h
  | succ d => simp only [okv, Bool.and_eq_true, decide_eq_true_eq] at h; exact h.1
theorem okv_sub {d : Nat} {v : Val} (h : okv (d + 1) v = true) : ∀ x ∈ v.list, okv d x = true := by
  simp only [okv, Bool.and_eq_true, List.all_eq_true] at h
  exact h.2
theorem okv_sm : ∀ {d : Nat} {v : Val}, okv d v = true → Sm d v
  | 0, v, h => by cases h
  | d + 1, v, h => by
    have h1 := okv_head h
    refine ⟨?_, fun x hx => okv_sm (okv_sub h x hx)⟩
    unfold Val.okh Okh at h1
    omega
theorem okv_mono : ∀ {d e : Nat} {v : Val}, okv d v = true → d ≤ e → okv e v = true
  | 0, e, v, h, _ => by cases h
  | d + 1, 0, v, h, he => absurd he (by omega)
  | d + 1, e + 1, v, h, he => by
    have h1 := okv_head h
    have h2 := okv_sub h
    simp only [okv, Bool.and_eq_true, decide_eq_true_eq, List.all_eq_true]
    exact ⟨h1, fun x hx => okv_mono (h2 x hx) (by omega)⟩
/-- The value is valid. -/
def fine (v : Val) : Bool := okv 130 v && decide (v.nodes ≤ 5000)
def cntR (d : Nat) (v : Val) : Int × Bool := if okv d v = true ∧ v.nodes ≤ 5000 then ((v.nodes : Int), true) else (0, false)
def chkR (v : Val) : Int := if fine v = true then 0 else 8

/-! texts -/
def tTrue : Bytes := [116, 114, 117, 101]
def tFalse : Bytes := [102, 97, 108, 115, 101]
def tNil : Bytes := [110, 105, 108]
def tCutP : Bytes := [38, 46, 46, 46]
def tCutS : Bytes := [60, 46, 46, 46, 62]
mutual
def txt : Val → Bytes
  | .mk k n s l c => if k = 1 then (if n = 1 then tTrue else tFalse) else if k = 2 then num n else if k = 3 then quo s else
      if k = 5 then 123 :: (txts l ++ [125]) else if k = 6 then 91 :: (txts l ++ [93]) else if k = 7 then (if c = true then tCutS else 60 :: (txts l ++ [62])) else
      if c = true then tCutP else if l.length = 0 then tNil else 38 :: txts l
def txts : List Val → Bytes
  | [] => []
  | v :: l => txt v ++ txtl l
def txtl : List Val → Bytes
  | [] => []
  | v :: l => 44 :: 32 :: (txt v ++ txtl l)
end
theorem txt_eq (v : Val) : txt v = if v.kind = 1 then (if v.int = 1 then tTrue else tFalse) else if v.kind = 2 then num v.int else if v.kind = 3 then quo v.text else
      if v.kind = 5 then 123 :: (txts v.list ++ [125]) else if v.kind = 6 then 91 :: (txts v.list ++ [93]) else if v.kind = 7 then (if v.cut = true then tCutS else 60 :: (txts v.list ++ [62])) else
      if v.cut = true then tCutP else if v.list.length = 0 then tNil else 38 :: txts v.list := by cases v; rw [txt]; rfl
theorem txtl_app : ∀ l m : List Val, txtl (l ++ m) = txtl l ++ txtl m
  | [], m => by simp [txtl]
  | v :: l, m => by rw [List.cons_append, txtl, txtl, txtl_app l m]; simp
theorem txts_snoc (l : List Val) (v : Val) : txts (l ++ [v]) = txts l ++ (if l.length > 0 then [44, 32] else []) ++ txt v := by
  cases l with
  | nil => simp [txts, txtl]
  | cons a l => simp [txts, txtl_app, txtl]
theorem txts_take {l : List Val} {i : Nat} (h : i < l.length) : txts (l.take (i + 1)) = txts (l.take i) ++ (if i > 0 then [44, 32] else []) ++ txt l[i] := by
  rw [List.take_succ_eq_append_getElem h, txts_snoc]
  congr 2
  rw [List.length_take]
  congr 1
  rw [eq_iff_iff]
  omega
theorem txts_one (v : Val) : txts [v] = txt v := by simp [txts, txtl]
theorem num_len (n : Int) : (num n).length ≤ 65 := by
  unfold num
  split
  · have := ds_len 10 64 (-n).toNat; simp only [List.length_cons, digs]; omega
  · have := ds_len 10 64 n.toNat; simp only [digs]; omega
/-- How long a valid value's text is. -/
theorem txt_len : ∀ {d : Nat} {v : Val}, okv d v = true → (txt v).length + 2 ≤ 260 * v.nodes
  | 0, v, h => by cases h
  | d + 1, v, h => by
    have h1 := okv_head h
    have h2 := okv_sub h
    have hl : ∀ l : List Val, (∀ x ∈ l, okv d x = true) → (txtl l).length ≤ 260 * Val.nodesL l := by
      intro l
      induction l with
      | nil => intro _; simp [txtl]
      | cons x l ih =>
        intro hx
        have h3 := txt_len (hx x List.mem_cons_self)
        have h4 := ih fun y hy => hx y (List.mem_cons_of_mem _ hy)
        rw [txtl, Val.nodesL]
        simp only [List.length_cons, List.length_append]
        omega
    have hs : (txts v.list).length ≤ 260 * Val.nodesL v.list := by
      revert h2
      cases v.list with
      | nil => intro _; simp [txts]
      | cons x l =>
        intro hx
        have h3 := txt_len (hx x List.mem_cons_self)
        have h4 := hl l fun y hy => hx y (List.mem_cons_of_mem _ hy)
        rw [txts, Val.nodesL]
        simp only [List.length_append]
        omega
    have h5 := num_len v.int
    have h6 := quo_len v.text
    rw [nodes_eq, txt_eq]
    unfold Val.okh Okh at h1
    repeat' split
    all_goals try simp only [tTrue, tFalse, tNil, tCutP, tCutS, List.length_cons, List.length_append, List.length_nil]
    all_goals omega
theorem fine_len {v : Val} (h : fine v = true) : (txt v).length + 2 ≤ 1300000 := by
  simp only [fine, Bool.and_eq_true, decide_eq_true_eq] at h
  have := txt_len h.1
  omega
theorem digs_ne (b n : Nat) : digs b n ≠ [] := by
  unfold digs
  rw [show 64 = 63 + 1 from rfl, ds]
  split <;> simp
theorem num_ne (n : Int) : num n ≠ [] := by
  unfold num
  split
  · simp
  · exact digs_ne _ _
theorem txt_ne (v : Val) : txt v ≠ [] := by
  rw [txt_eq]
  repeat' split
  all_goals first | exact num_ne _ | simp [tTrue, tFalse, tNil, tCutP, tCutS, quo]
end Go.AM

/- Arguments of the laws, typed: values. -/
namespace Go.AM
open Go Go.RowKit
section
variable {T : TTab}
theorem rows_mapP {α : Type} {f : α → List AV} {p : α → Prop} : ∀ {rows : List (List AV)}, (∀ r ∈ rows, ∃ x, r = f x ∧ p x) → ∃ l : List α, rows = l.map f ∧ ∀ x ∈ l, p x
  | [], _ => ⟨[], rfl, by simp⟩
  | r :: rows, h => by
    obtain ⟨x, rfl, hx⟩ := h r List.mem_cons_self
    obtain ⟨l, rfl, hl⟩ := rows_mapP fun r hr => h r (List.mem_cons_of_mem _ hr)
    exact ⟨x :: l, rfl, fun y hy => by rcases List.mem_cons.1 hy with rfl | hy; exact hx; exact hl y hy⟩
theorem fld_of {f t t' off : Nat} {xs : List AV} {fs : List (Nat × Nat)} {i j : TI} (hi : T t = some i) (hk : i.kind = .st fs) (h : HasC T f t xs) (hf : ((t', off) : Nat × Nat) ∈ fs) (hj : T t' = some j) : ∃ g, f = g + 1 ∧ HasC T g t' ((xs.drop off).take j.size) := by
  obtain ⟨g, h1, h2⟩ := h.st hi hk
  obtain ⟨j', h3, h4⟩ := h2 _ hf
  rw [hj] at h3
  cases h3
  exact ⟨g, h1, h4⟩
/-- The types of a value's fields. -/
structure ValT (T : TTab) (t a b c d e : Nat) : Prop where
  ht : ∃ i, T t = some i ∧ i.kind = .st [(a, 0), (b, 1), (c, 2), (d, 3), (e, 4)] ∧ i.size = 5
  ha : ∃ i, T a = some i ∧ i.kind = .int .u8 ∧ i.size = 1
  hb : ∃ i, T b = some i ∧ i.kind = .int .i64 ∧ i.size = 1
  hc : ∃ i, T c = some i ∧ i.kind = .str ∧ i.size = 1
  hd : ∃ i, T d = some i ∧ i.kind = .sl t ∧ i.size = 1
  he : ∃ i, T e = some i ∧ i.kind = .bool ∧ i.size = 1
theorem HasC.val {t a b c d e : Nat} (V : ValT T t a b c d e) : ∀ (f : Nat) (xs : List AV), xs.length = 5 → HasC T f t xs → ∃ v : Val, xs = v.row ∧ Wf v := by
  obtain ⟨it, ht, kt, st⟩ := V.ht
  obtain ⟨ia, ha, ka, sa⟩ := V.ha
  obtain ⟨ib, hb, kb, sb⟩ := V.hb
  obtain ⟨ic, hc, kc, sc⟩ := V.hc
  obtain ⟨id, hd, kd, sd⟩ := V.hd
  obtain ⟨ie, he, ke, se⟩ := V.he
  intro f
  induction f using Nat.strongRecOn with
  | _ f ih =>
  intro xs hl h
  obtain ⟨g, rfl, h1⟩ := fld_of ht kt h (t' := a) (off := 0) (by simp) ha
  obtain ⟨g', e', h2⟩ := fld_of ht kt h (t' := b) (off := 1) (by simp) hb; cases e'
  obtain ⟨g', e', h3⟩ := fld_of ht kt h (t' := c) (off := 2) (by simp) hc; cases e'
  obtain ⟨g', e', h4⟩ := fld_of ht kt h (t' := d) (off := 3) (by simp) hd; cases e'
  obtain ⟨g', e', h5⟩ := fld_of ht kt h (t' := e) (off := 4) (by simp) he; cases e'
  rw [sa] at h1; rw [sb] at h2; rw [sc] at h3; rw [sd] at h4; rw [se] at h5
  match xs, hl with
  | [x0, x1, x2, x3, x4], _ =>
    obtain ⟨n, e1, q1⟩ := h1.int ha ka
    obtain ⟨m, e2, q2⟩ := h2.int hb kb
    obtain ⟨s, e3, q3⟩ := h3.str hc kc
    obtain ⟨g2, rows, e4, e5, q4, q5, q6⟩ := h4.sl hd kd
    obtain ⟨z, e6⟩ := h5.bool he ke
    simp at e1 e2 e3 e5 e6
    subst e1; subst e2; subst e3; subst e5; subst e6
    have hr : ∀ r ∈ rows, ∃ v : Val, r = v.row ∧ Wf v := fun r hr => ih g2 (by omega) r (by rw [q6 _ ht r hr, st]) (q5 r hr)
    obtain ⟨l, rfl, hl⟩ := rows_mapP hr
    refine ⟨Val.mk n m s l z, ?_, .mk (u8_bd q1) (i64_bd q2) (by simpa [maxLen] using q4) hl⟩
    rw [Val.row_eq]
    rfl
theorem ArgOk.val {t a b c d e : Nat} {x : AV} (V : ValT T t a b c d e) (h : ArgOk T t x) : ∃ v : Val, x = .ag [.i .u8 v.kind, .i .i64 v.int, .s v.text, .sl .ext (List.map Val.row v.list), .b v.cut] ∧ Wf v := by
  obtain ⟨i, hi, hk, hs⟩ := V.ht
  unfold ArgOk at h
  rw [hi] at h
  simp only [hk] at h
  obtain ⟨f, xs, rfl, h1, h2⟩ := h
  obtain ⟨v, rfl, hv⟩ := HasC.val V f xs (by rw [h1, hs]) h2
  exact ⟨v, by rw [Val.row_eq], hv⟩
end
end Go.AM
