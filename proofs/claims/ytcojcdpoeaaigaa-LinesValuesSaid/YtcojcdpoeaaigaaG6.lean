/- Parts of the proof: U38b. -/
import Derived.Test.YtcojcdpoeaaigaaG4
set_option linter.all false
/- MADE BY PROGRAM (tl.py). -/
namespace Go.AM
open Go
set_option linter.unusedVariables false
set_option linter.unusedSimpArgs false
set_option maxRecDepth 4000
attribute [local irreducible] WO fillCells fillRows

/-! (*wreckage/lines.scanner).take -/
def r128_0 : List AI := [⟨(some 4), .mv (.c (.b false)), none⟩]
def r128_1 : List AI := [⟨(some 8), .mv (.t 0), none⟩,
  ⟨(some 9), .nilc (.t 8), none⟩,
  ⟨(some 10), .fad 0 (.t 9), none⟩,
  ⟨(some 11), .load 1 false (.t 10), none⟩,
  ⟨(some 12), .mv (.t 1), none⟩,
  ⟨(some 13), .call false 36 [(.t 11), (.t 12)], none⟩,
  ⟨(some 7), .mv (.t 13), none⟩,
  ⟨(some 14), .ext 0 (.t 7), none⟩,
  ⟨(some 15), .ext 1 (.t 7), none⟩,
  ⟨(some 5), .mv (.t 14), none⟩,
  ⟨(some 6), .mv (.t 15), none⟩]
def r128_2 : List AI := [⟨(some 16), .mv (.t 0), none⟩,
  ⟨(some 17), .mv (.t 5), none⟩,
  ⟨(some 18), .nilc (.t 16), none⟩,
  ⟨(some 19), .fad 0 (.t 18), none⟩,
  ⟨none, .store 1 (.t 19) (.t 17), none⟩]
def r128_3 : List AI := [⟨(some 20), .mv (.t 6), none⟩,
  ⟨(some 4), .mv (.t 20), none⟩]
abbrev b128 : AC := (.seq (.reg 0 r128_0) (.seq (.reg 1 r128_1) (.seq (.reg 2 r128_2) (.seq (.reg 3 r128_3) .ret))))
def pf128 : AF := { nt := 21, res := [.tmp 4], body := b128 }
def T128_0 (prog : Prog) (K : Bool → Sc → Prop) (what1 : List UInt8) (mP : Sc) : Prop :=
  ∃ r'1 : List UInt8, ∃ r'2 : Bool, Pus prog 36 [.s mP.left, .s what1] (.tup [.s r'1, .b r'2]) ∧ K r'2 (Sc.mk r'1)
theorem w128_0 {prog : Prog} {d : Nat} {Q : AE → Sl → St → Prop} {K : Bool → Sc → Prop} {st0 : St} {kp : Key} {vp : Nat} (hQ : ∀ (σ : Sl) (st : St) (x0 : Bool) (b_ : Sc), σ 4 = .b x0 → lk st.bx kp = some (vp, [.s b_.left]) → Fr d kp st0.bx st0.ow st.bx st.ow → K x0 b_ → Q .ret σ st) (hkp : kp.1 < d) {what1 : List UInt8} {mP : Sc}   {σ : Sl} {st : St} (H0 : σ 0 = .p kp vp 0) (H1 : σ 1 = .s what1) (BP : lk st.bx kp = some (vp, [.s mP.left])) (FR : Fr d kp st0.bx st0.ow st.bx st.ow) (h : T128_0 prog K what1 mP) : W prog d (.seq (.reg 0 r128_0) (.seq (.reg 1 r128_1) (.seq (.reg 2 r128_2) (.seq (.reg 3 r128_3) .ret)))) σ st Q :=
  W.seq (W.reg0 rfl fun _ _ => s_mvB rfl (s_nil (W.seq (W.reg0 rfl fun _ _ => s_mv H0 (s_nilP rfl (s_fadP rfl (s_loadP rfl BP rfl rfl (s_mvS H1 (h.elim fun r'1 e'4 => e'4.elim fun r'2 e'3 => s_call (sc rfl rfl (sc rfl rfl sn)) e'3.1 (s_mvT rfl (s_ext rfl rfl (s_ext rfl rfl (s_mvS rfl (s_mvB rfl (s_nil (W.seq (W.reg0 rfl fun _ _ => s_mv H0 (s_mvS rfl (s_nilP rfl (s_fadP rfl (s_storeP rfl BP rfl rfl rfl (s_nil (W.seq (W.reg0 rfl fun _ _ => s_mvB rfl (s_mvB rfl (s_nil (W.ret (hQ _ _   _ _ rfl lk_here (Fr.own FR)  e'3.2))))))))))))))))))))))))))))
theorem p128 {prog : Prog} (hf : prog.fn 128 = some pf128) {what1 : List UInt8} {mP : Sc} {K : Bool → Sc → Prop} (h : T128_0 prog K what1 mP) : PuXK prog 128 (Bx [.s mP.left]) [.s what1] (fun r (b_ : Sc) => ∃ x0 : Bool, (r = .b x0) ∧ K x0 b_) (fun b_ => (Bx [.s b_.left])) :=
  PuXK.of hf rfl (fun _ => Bx.out) fun d st kp vp hkp hB => w128_0 (st0 := st) (Q := fun e σ st' => (e = .normal ∨ e = .ret) ∧ ∃ r b_, ares σ st' pf128.res = some r ∧ _ ∧ _ ∧ Fr d kp st.bx st.ow st'.bx st'.ow) (fun σ st'   x0 b_ H4 hb hf hk => ⟨.inr rfl, .b x0, b_, by simp only [pf128, ares, aresL, H4, ares1, Option.map_some, H4], ⟨x0, rfl, hk⟩, hb, hf⟩) hkp (σ := sl0 [.p kp vp 0, .s what1]) rfl rfl hB Fr.refl h

/-! (*wreckage/lines.scanner).list -/
def r129_0 : List AI := [⟨(some 8), .alloc [.i .u8 0, .i .i64 0, .s [], .sl .full [], .b false], none⟩,
  ⟨(some 9), .mv (.c (.b false)), none⟩]
def r129_1 : List AI := [⟨(some 13), .mv (.t 1), none⟩,
  ⟨(some 14), .build [.i .u8 0, .i .i64 0, .s [], .sl .full [], .b false] [(0, 1, (.t 13))], none⟩,
  ⟨(some 10), .alloc [.i .u8 0, .i .i64 0, .s [], .sl .full [], .b false], none⟩,
  ⟨none, .store 5 (.t 10) (.t 14), none⟩]
def r129_2 : List AI := [⟨(some 15), .mv (.t 0), none⟩,
  ⟨(some 16), .mv (.t 2), none⟩,
  ⟨(some 17), .call true 128 [(.t 15), (.t 16)], none⟩]
def r129_3 : List AI := [⟨(some 18), .load 5 true (.t 10), none⟩,
  ⟨none, .store 5 (.t 8) (.t 18), none⟩,
  ⟨(some 9), .mv (.c (.b true)), none⟩]
def r129_4 : List AI := [⟨(some 19), .fad 3 (.t 10), none⟩,
  ⟨(some 20), .load 1 false (.t 19), none⟩,
  ⟨(some 21), .len false (.t 20), none⟩,
  ⟨(some 22), .bin .leq (.t 21) (.c (.i .i64 16)), none⟩]
def r129_5 : List AI := [⟨(some 24), .mv (.t 0), none⟩,
  ⟨(some 25), .mv (.t 3), none⟩,
  ⟨(some 26), .call true 107 [(.t 24), (.t 25)], none⟩,
  ⟨(some 23), .mv (.t 26), none⟩,
  ⟨(some 27), .ext 0 (.t 23), none⟩,
  ⟨(some 28), .ext 1 (.t 23), none⟩,
  ⟨(some 11), .alloc [.i .u8 0, .i .i64 0, .s [], .sl .full [], .b false], none⟩,
  ⟨none, .store 5 (.t 11) (.t 27), none⟩,
  ⟨(some 12), .mv (.t 28), none⟩]
def r129_6 : List AI := [⟨(some 29), .mv (.t 12), none⟩,
  ⟨(some 30), .un .not (.t 29), none⟩]
def r129_7 : List AI := [⟨(some 31), .load 5 true (.t 10), none⟩,
  ⟨none, .store 5 (.t 8) (.t 31), none⟩,
  ⟨(some 9), .mv (.c (.b false)), none⟩]
def r129_8 : List AI := [⟨(some 32), .fad 3 (.t 10), none⟩,
  ⟨(some 33), .load 1 false (.t 32), none⟩,
  ⟨(some 34), .load 5 true (.t 11), none⟩,
  ⟨(some 35), .bslice [.i .u8 0, .i .i64 0, .s [], .sl .full [], .b false] 1 [(0, (.t 34))], none⟩,
  ⟨(some 36), .app 5 64 (.t 33) (.t 35), none⟩,
  ⟨(some 37), .fad 3 (.t 10), none⟩,
  ⟨none, .store 1 (.t 37) (.t 36), none⟩]
def r129_9 : List AI := [⟨(some 38), .mv (.t 0), none⟩,
  ⟨(some 39), .mv (.t 2), none⟩,
  ⟨(some 40), .call true 128 [(.t 38), (.t 39)], none⟩]
def r129_10 : List AI := [⟨(some 41), .load 5 true (.t 10), none⟩,
  ⟨none, .store 5 (.t 8) (.t 41), none⟩,
  ⟨(some 9), .mv (.c (.b true)), none⟩]
def r129_11 : List AI := [⟨(some 42), .mv (.t 0), none⟩,
  ⟨(some 43), .call true 128 [(.t 42), (.c (.s [44, 32]))], none⟩,
  ⟨(some 44), .un .not (.t 43), none⟩]
def r129_12 : List AI := [⟨(some 45), .load 5 true (.t 10), none⟩,
  ⟨none, .store 5 (.t 8) (.t 45), none⟩,
  ⟨(some 9), .mv (.c (.b false)), none⟩]
def r129_13 : List AI := [⟨(some 46), .load 5 true (.t 10), none⟩,
  ⟨none, .store 5 (.t 8) (.t 46), none⟩,
  ⟨(some 9), .mv (.c (.b false)), none⟩]
abbrev l129_0 : AC := (.seq (.seq (.reg 4 r129_4) (.cond (.t 22) .skip (.exit 0))) (.block 1 (.seq (.reg 5 r129_5) (.seq (.seq (.reg 6 r129_6) (.cond (.t 30) (.seq (.reg 7 r129_7) .ret) .skip)) (.seq (.reg 8 r129_8) (.seq (.seq (.reg 9 r129_9) (.cond (.t 40) (.seq (.reg 10 r129_10) .ret) .skip)) (.seq (.reg 11 r129_11) (.cond (.t 44) (.seq (.reg 12 r129_12) .ret) .skip))))))))
abbrev c129_1 : AC := (.seq (.reg 13 r129_13) .ret)
abbrev b129 : AC := (.seq (.reg 0 r129_0) (.seq (.reg 1 r129_1) (.seq (.seq (.reg 2 r129_2) (.cond (.t 17) (.seq (.reg 3 r129_3) .ret) .skip)) (.seq (.block 0 (.loop l129_0)) c129_1))))
def pf129 : AF := { nt := 47, res := [.cell 8 5 true, .tmp 9], body := b129 }
abbrev I129_0 (prog : Prog) (d : Nat) (Q : AE → Sl → St → Prop) (st0 : St) (kp : Key) (vp : Nat) (end2 : List UInt8) (nest3 : Int) (m0 : Val) (m4098 : Val) (mP : Sc) : Prop :=
  ∀ (σ : Sl) (st : St) (o_m0_3 o_m4098_3 : Own) (v0 v4098 : Nat), σ 0 = .p kp vp 0 → σ 2 = .s end2 → σ 3 = .i .i64 nest3 → σ 8 = .p (d, 0) v0 0 → σ 10 = .p (d, 4098) v4098 0 → ApM d st.ow o_m4098_3 m4098.list.length → lk st.bx (d, 0) = some (v0, [.i .u8 m0.kind, .i .i64 m0.int, .s m0.text, .sl o_m0_3 (List.map Val.row m0.list), .b m0.cut]) → lk st.bx (d, 4098) = some (v4098, [.i .u8 m4098.kind, .i .i64 m4098.int, .s m4098.text, .sl o_m4098_3 (List.map Val.row m4098.list), .b m4098.cut]) → lk st.bx kp = some (vp, [.s mP.left]) → Fr d kp st0.bx st0.ow st.bx st.ow → W prog d (.loop l129_0) σ st (blockW 0 (thenW prog d c129_1 Q))
def T129_2 (prog : Prog) (K : Val → Bool → Sc → Prop) (m0 : Val) (m4098 : Val) (mP : Sc) : Prop :=
  K m4098 false mP
theorem w129_2 {prog : Prog} {d : Nat} {Q : AE → Sl → St → Prop} {K : Val → Bool → Sc → Prop} {st0 : St} {kp : Key} {vp : Nat} (hQ : ∀ (σ : Sl) (st : St) (k0 : Key) (v0 : Nat) (o0_0 : Own) (x0 : Val) (x1 : Bool) (b_ : Sc), σ 8 = .p k0 v0 0 → lk st.bx k0 = some (v0, [.i .u8 x0.kind, .i .i64 x0.int, .s x0.text, .sl o0_0 (List.map Val.row x0.list), .b x0.cut]) → σ 9 = .b x1 → lk st.bx kp = some (vp, [.s b_.left]) → Fr d kp st0.bx st0.ow st.bx st.ow → K x0 x1 b_ → Q .ret σ st) (hkp : kp.1 < d) {m0 : Val} {m4098 : Val} {mP : Sc}   {σ : Sl} {st : St} {o_m0_3 o_m4098_3 : Own} {v0 : Nat} {v4098 : Nat} (H8 : σ 8 = .p (d, 0) v0 0) (H10 : σ 10 = .p (d, 4098) v4098 0) (Ab4098 : ApM d st.ow o_m4098_3 m4098.list.length) (B0 : lk st.bx (d, 0) = some (v0, [.i .u8 m0.kind, .i .i64 m0.int, .s m0.text, .sl o_m0_3 (List.map Val.row m0.list), .b m0.cut])) (B4098 : lk st.bx (d, 4098) = some (v4098, [.i .u8 m4098.kind, .i .i64 m4098.int, .s m4098.text, .sl o_m4098_3 (List.map Val.row m4098.list), .b m4098.cut])) (BP : lk st.bx kp = some (vp, [.s mP.left])) (FR : Fr d kp st0.bx st0.ow st.bx st.ow) (h : T129_2 prog K m0 m4098 mP) : W prog d c129_1 σ st Q :=
  W.seq (W.reg0 rfl fun _ _ => s_loadP H10 B4098 rfl rfl (s_storeP H8 B0 rfl rfl rfl (s_mvB rfl (s_nil (W.ret (hQ _ _ _ _ _ _ _ _ H8 lk_here rfl (lk_otherP hkp BP) (Fr.box FR)  h))))))
def T129_1 (prog : Prog) (K : Val → Bool → Sc → Prop) (P0 : Val → Val → Sc → Prop) (end2 : List UInt8) (nest3 : Int) (m0 : Val) (m4098 : Val) (mP : Sc) : Prop :=
  ((m4098.list.length : Int) ≤ 16 → ∃ r'2 : Val, ∃ r'3 : Bool, ∃ b'9 : Sc, PuX prog 107 (Bx [.s mP.left]) [.i .i64 nest3] (fun r => ∃ o'4_0 : Own, r = .tup [.ag [.i .u8 r'2.kind, .i .i64 r'2.int, .s r'2.text, .sl o'4_0 (List.map Val.row r'2.list), .b r'2.cut], .b r'3]) ((Bx [.s b'9.left])) ∧ ((!r'3) = true → K m4098 false b'9) ∧ ((!r'3) = false → Fit (m4098.list.length + [r'2].length) 64 ∧ ∃ r'16 : Bool, ∃ b'22 : Sc, PuX prog 128 (Bx [.s b'9.left]) [.s end2] (fun r => r = .b r'16) ((Bx [.s b'22.left])) ∧ (r'16 = true → K (Val.mk m4098.kind m4098.int m4098.text (m4098.list ++ [r'2]) m4098.cut) true b'22) ∧ (r'16 = false → ∃ r'24 : Bool, ∃ b'30 : Sc, PuX prog 128 (Bx [.s b'22.left]) [.s ([44, 32] : List UInt8)] (fun r => r = .b r'24) ((Bx [.s b'30.left])) ∧ ((!r'24) = true → K (Val.mk m4098.kind m4098.int m4098.text (m4098.list ++ [r'2]) m4098.cut) false b'30) ∧ ((!r'24) = false → P0 m0 (Val.mk m4098.kind m4098.int m4098.text (m4098.list ++ [r'2]) m4098.cut) b'30)))) ∧ (¬((m4098.list.length : Int) ≤ 16) → T129_2 prog K m0 m4098 mP)
theorem w129_1 {prog : Prog} {d : Nat} {Q : AE → Sl → St → Prop} {K : Val → Bool → Sc → Prop} {st0 : St} {kp : Key} {vp : Nat} (hQ : ∀ (σ : Sl) (st : St) (k0 : Key) (v0 : Nat) (o0_0 : Own) (x0 : Val) (x1 : Bool) (b_ : Sc), σ 8 = .p k0 v0 0 → lk st.bx k0 = some (v0, [.i .u8 x0.kind, .i .i64 x0.int, .s x0.text, .sl o0_0 (List.map Val.row x0.list), .b x0.cut]) → σ 9 = .b x1 → lk st.bx kp = some (vp, [.s b_.left]) → Fr d kp st0.bx st0.ow st.bx st.ow → K x0 x1 b_ → Q .ret σ st) (hkp : kp.1 < d) {end2 : List UInt8} {nest3 : Int} {m0 : Val} {m4098 : Val} {mP : Sc} {P0 : Val → Val → Sc → Prop} (kP0 : ∀ (m0 : Val) (m4098 : Val) (mP : Sc), P0 m0 m4098 mP → I129_0 prog d Q st0 kp vp end2 nest3 m0 m4098 mP) {σ : Sl} {st : St} {o_m0_3 o_m4098_3 : Own} {v0 : Nat} {v4098 : Nat} (H0 : σ 0 = .p kp vp 0) (H2 : σ 2 = .s end2) (H3 : σ 3 = .i .i64 nest3) (H8 : σ 8 = .p (d, 0) v0 0) (H10 : σ 10 = .p (d, 4098) v4098 0) (Ab4098 : ApM d st.ow o_m4098_3 m4098.list.length) (B0 : lk st.bx (d, 0) = some (v0, [.i .u8 m0.kind, .i .i64 m0.int, .s m0.text, .sl o_m0_3 (List.map Val.row m0.list), .b m0.cut])) (B4098 : lk st.bx (d, 4098) = some (v4098, [.i .u8 m4098.kind, .i .i64 m4098.int, .s m4098.text, .sl o_m4098_3 (List.map Val.row m4098.list), .b m4098.cut])) (BP : lk st.bx kp = some (vp, [.s mP.left])) (FR : Fr d kp st0.bx st0.ow st.bx st.ow) (h : T129_1 prog K P0 end2 nest3 m0 m4098 mP) : W prog d l129_0 σ st (thenW prog d (.loop l129_0) (blockW 0 (thenW prog d c129_1 Q))) :=
  W.seq (W.seq (W.reg0 rfl fun _ _ => s_fadP H10 (s_loadP rfl B4098 rfl rfl (s_lenL rfl (s_bin rfl rfl (abin_leq _ _ _) (s_nil (c_split rfl (fun g'1 => W.skip (W.block (W.seq (W.reg (s_mv H0 (s_mvI H3 ((h.1 g'1).elim fun r'2 e'34 => e'34.elim fun r'3 e'35 => e'35.elim fun b'9 e'5 => s_callX1 (sec rfl (sec rfl sen)) e'5.1 (Nat.lt_succ_of_lt hkp) (lk_otherP hkp BP) (fun o'4_0 st'6 hb'7 hf'8 => s_mvT rfl (s_ext rfl rfl (s_ext rfl rfl (s_alloc (s_storeP rfl ((hf'8.1 (d, 20486) (Nat.lt_succ_self d) (key_LP hkp)).trans (show lk _ (d, 20486) = some (_, ([.i .u8 0, .i .i64 0, .s [], .sl .full (List.map Val.row ([] : List Val)), .b false] : List AV)) from lk_here)) rfl rfl rfl (s_mvB rfl (s_nil (W.seq (W.seq (W.reg0 rfl fun _ _ => s_mvB rfl (s_not rfl (s_nil (c_bool rfl (fun g'10 => W.seq (W.reg0 rfl fun _ _ => s_loadP H10 (lk_other rfl ((hf'8.1 (d, 4098) (Nat.lt_succ_self d) (key_LP hkp)).trans (lk_other rfl B4098))) rfl rfl (s_storeP H8 (lk_other rfl ((hf'8.1 (d, 0) (Nat.lt_succ_self d) (key_LP hkp)).trans (lk_other rfl B0))) rfl rfl rfl (s_mvB rfl (s_nil (W.ret (hQ _ _ _ _ _ _ _ _ H8 lk_here rfl (lk_otherP hkp (lk_otherP hkp hb'7)) (Fr.box (Fr.box (Fr.pass (Fr.box FR) hf'8)))  (e'5.2.1 g'10)))))))) (fun g'10 => W.skip (W.seq (W.reg0 rfl fun _ _ => s_fadP H10 (s_loadP rfl (lk_other rfl ((hf'8.1 (d, 4098) (Nat.lt_succ_self d) (key_LP hkp)).trans (lk_other rfl B4098))) rfl rfl (s_loadP rfl lk_here rfl rfl (s_bslM (f := Val.row) (l := [r'2]) rfl rfl (g_cons rfl rfl rfl g_nil) (by simp only [List.map_cons, List.map_nil, Val.row_eq]; rfl) (s_app Val.row_len rfl rfl rfl ((ApM.call Ab4098 hf'8).1) (e'5.2.2 g'10).1 rfl (fun o'11 ow'14 a'12 fr'13 on'15 => s_fadP H10 (s_storeP rfl (lk_other rfl ((hf'8.1 (d, 4098) (Nat.lt_succ_self d) (key_LP hkp)).trans (lk_other rfl B4098))) rfl rfl rfl (s_nil (W.seq (W.seq (W.reg0 rfl fun _ _ => s_mv H0 (s_mvS H2 ((e'5.2.2 g'10).2.elim fun r'16 e'33 => e'33.elim fun b'22 e'18 => s_callX (sec rfl (sec rfl sen)) e'18.1 (Nat.lt_succ_of_lt hkp) (lk_otherP hkp (lk_otherP hkp hb'7)) (fun st'19 hb'20 hf'21 => s_nil (c_bool rfl (fun g'23 => W.seq (W.reg0 rfl fun _ _ => s_loadP H10 ((hf'21.1 (d, 4098) (Nat.lt_succ_self d) (key_LP hkp)).trans lk_here) rfl rfl (s_storeP H8 ((hf'21.1 (d, 0) (Nat.lt_succ_self d) (key_LP hkp)).trans (lk_other rfl (lk_other rfl ((hf'8.1 (d, 0) (Nat.lt_succ_self d) (key_LP hkp)).trans (lk_other rfl B0))))) rfl rfl rfl (s_mvB rfl (s_nil (W.ret (hQ _ _ _ _ _ _ _ _ H8 lk_here rfl (lk_otherP hkp hb'20) (Fr.box (Fr.pass (Fr.box (Fr.app (Fr.box (Fr.pass (Fr.box FR) hf'8)) (ApM.call Ab4098 hf'8).2 fr'13)) hf'21))  (e'18.2.1 g'23)))))))) (fun g'23 => W.skip (W.seq (W.reg0 rfl fun _ _ => s_mv H0 ((e'18.2.2 g'23).elim fun r'24 e'32 => e'32.elim fun b'30 e'26 => s_callX (sec rfl (sec rfl sen)) e'26.1 (Nat.lt_succ_of_lt hkp) hb'20 (fun st'27 hb'28 hf'29 => s_not rfl (s_nil (c_bool rfl (fun g'31 => W.seq (W.reg0 rfl fun _ _ => s_loadP H10 ((hf'29.1 (d, 4098) (Nat.lt_succ_self d) (key_LP hkp)).trans ((hf'21.1 (d, 4098) (Nat.lt_succ_self d) (key_LP hkp)).trans lk_here)) rfl rfl (s_storeP H8 ((hf'29.1 (d, 0) (Nat.lt_succ_self d) (key_LP hkp)).trans ((hf'21.1 (d, 0) (Nat.lt_succ_self d) (key_LP hkp)).trans (lk_other rfl (lk_other rfl ((hf'8.1 (d, 0) (Nat.lt_succ_self d) (key_LP hkp)).trans (lk_other rfl B0)))))) rfl rfl rfl (s_mvB rfl (s_nil (W.ret (hQ _ _ _ _ _ _ _ _ H8 lk_here rfl (lk_otherP hkp hb'28) (Fr.box (Fr.pass (Fr.pass (Fr.box (Fr.app (Fr.box (Fr.pass (Fr.box FR) hf'8)) (ApM.call Ab4098 hf'8).2 fr'13)) hf'21) hf'29))  (e'26.2.1 g'31)))))))) (fun g'31 => W.skip (kP0 _ _ _ (e'26.2.2 g'31) _ _ _ _ _ _ H0 H2 H3 H8 H10 (ApM.call (ApM.call (ApM.mk a'12 (Mine.app (ApM.call Ab4098 hf'8).2 rfl on'15)) hf'21) hf'29) ((hf'29.1 (d, 0) (Nat.lt_succ_self d) (key_LP hkp)).trans ((hf'21.1 (d, 0) (Nat.lt_succ_self d) (key_LP hkp)).trans (lk_other rfl (lk_other rfl ((hf'8.1 (d, 0) (Nat.lt_succ_self d) (key_LP hkp)).trans (lk_other rfl B0)))))) ((hf'29.1 (d, 4098) (Nat.lt_succ_self d) (key_LP hkp)).trans ((hf'21.1 (d, 4098) (Nat.lt_succ_self d) (key_LP hkp)).trans lk_here)) hb'28 (Fr.pass (Fr.pass (Fr.box (Fr.app (Fr.box (Fr.pass (Fr.box FR) hf'8)) (ApM.call Ab4098 hf'8).2 fr'13)) hf'21) hf'29))))))))))))))))))))))))))))))))))))))))))))))) (fun g'1 => W.exit (w129_2 (m0 := m0) (m4098 := m4098) (mP := mP) hQ hkp  H8 H10 Ab4098 B0 B4098 BP FR (h.2 g'1))))))))))
def T129_0 (prog : Prog) (K : Val → Bool → Sc → Prop) (kind1 : Int) (end2 : List UInt8) (nest3 : Int) (mP : Sc) : Prop :=
  ∃ r'1 : Bool, ∃ b'7 : Sc, PuX prog 128 (Bx [.s mP.left]) [.s end2] (fun r => r = .b r'1) ((Bx [.s b'7.left])) ∧ (r'1 = true → K (Val.mk kind1 0 [] ([] : List Val) false) true b'7) ∧ (r'1 = false → ∀ P0 : Val → Val → Sc → Prop, (∀ (m0 : Val) (m4098 : Val) (mP : Sc), T129_1 prog K P0 end2 nest3 m0 m4098 mP → P0 m0 m4098 mP) → P0 (Val.mk 0 0 [] ([] : List Val) false) (Val.mk kind1 0 [] ([] : List Val) false) b'7)
theorem w129_0 {prog : Prog} {d : Nat} {Q : AE → Sl → St → Prop} {K : Val → Bool → Sc → Prop} {st0 : St} {kp : Key} {vp : Nat} (hQ : ∀ (σ : Sl) (st : St) (k0 : Key) (v0 : Nat) (o0_0 : Own) (x0 : Val) (x1 : Bool) (b_ : Sc), σ 8 = .p k0 v0 0 → lk st.bx k0 = some (v0, [.i .u8 x0.kind, .i .i64 x0.int, .s x0.text, .sl o0_0 (List.map Val.row x0.list), .b x0.cut]) → σ 9 = .b x1 → lk st.bx kp = some (vp, [.s b_.left]) → Fr d kp st0.bx st0.ow st.bx st.ow → K x0 x1 b_ → Q .ret σ st) (hkp : kp.1 < d) {kind1 : Int} {end2 : List UInt8} {nest3 : Int} {mP : Sc}   {σ : Sl} {st : St} (H0 : σ 0 = .p kp vp 0) (H1 : σ 1 = .i .u8 kind1) (H2 : σ 2 = .s end2) (H3 : σ 3 = .i .i64 nest3) (BP : lk st.bx kp = some (vp, [.s mP.left])) (FR : Fr d kp st0.bx st0.ow st.bx st.ow) (h : T129_0 prog K kind1 end2 nest3 mP) : W prog d (.seq (.reg 0 r129_0) (.seq (.reg 1 r129_1) (.seq (.seq (.reg 2 r129_2) (.cond (.t 17) (.seq (.reg 3 r129_3) .ret) .skip)) (.seq (.block 0 (.loop l129_0)) c129_1)))) σ st Q :=
  W.seq (W.reg (s_alloc (s_mvB rfl (s_nil (W.seq (W.reg (s_mvI H1 (s_build (f_cons rfl rfl f_nil) (s_alloc (s_storeP rfl (show lk _ (d, 4098) = some (_, ([.i .u8 0, .i .i64 0, .s [], .sl .full (List.map Val.row ([] : List Val)), .b false] : List AV)) from lk_here) rfl rfl rfl (s_nil (W.seq (W.seq (W.reg0 rfl fun _ _ => s_mv H0 (s_mvS H2 (h.elim fun r'1 e'9 => e'9.elim fun b'7 e'3 => s_callX (sec rfl (sec rfl sen)) e'3.1 (Nat.lt_succ_of_lt hkp) (lk_otherP hkp (lk_otherP hkp (lk_otherP hkp BP))) (fun st'4 hb'5 hf'6 => s_nil (c_bool rfl (fun g'8 => W.seq (W.reg0 rfl fun _ _ => s_loadP rfl ((hf'6.1 (d, 4098) (Nat.lt_succ_self d) (key_LP hkp)).trans lk_here) rfl rfl (s_storeP rfl ((hf'6.1 (d, 0) (Nat.lt_succ_self d) (key_LP hkp)).trans (lk_other rfl (lk_other rfl (show lk _ (d, 0) = some (_, ([.i .u8 0, .i .i64 0, .s [], .sl .full (List.map Val.row ([] : List Val)), .b false] : List AV)) from lk_here)))) rfl rfl rfl (s_mvB rfl (s_nil (W.ret (hQ _ _ _ _ _ _ _ _ rfl lk_here rfl (lk_otherP hkp hb'5) (Fr.box (Fr.pass (Fr.box (Fr.box (Fr.box FR))) hf'6))  (e'3.2.1 g'8)))))))) (fun g'8 => W.skip (W.seq (W.block ((e'3.2.2 g'8) (I129_0 prog d Q st0 kp vp end2 nest3) (fun _ _ _ hb _ _ _ _ _ _ H0 H2 H3 H8 H10 Ab4098 B0 B4098 BP FR => W.loop (w129_1 hQ hkp (fun _ _ _ x => x) H0 H2 H3 H8 H10 Ab4098 B0 B4098 BP FR hb)) _ _ _ _ _ _ H0 H2 H3 rfl rfl ApM.full ((hf'6.1 (d, 0) (Nat.lt_succ_self d) (key_LP hkp)).trans (lk_other rfl (lk_other rfl (show lk _ (d, 0) = some (_, ([.i .u8 0, .i .i64 0, .s [], .sl .full (List.map Val.row ([] : List Val)), .b false] : List AV)) from lk_here)))) ((hf'6.1 (d, 4098) (Nat.lt_succ_self d) (key_LP hkp)).trans lk_here) hb'5 (Fr.pass (Fr.box (Fr.box (Fr.box FR))) hf'6)))))))))))))))))))))))
theorem p129 {prog : Prog} (hf : prog.fn 129 = some pf129) {kind1 : Int} {end2 : List UInt8} {nest3 : Int} {mP : Sc} {K : Val → Bool → Sc → Prop} (h : T129_0 prog K kind1 end2 nest3 mP) : PuXK prog 129 (Bx [.s mP.left]) [.i .u8 kind1, .s end2, .i .i64 nest3] (fun r (b_ : Sc) => ∃ x0 : Val, ∃ x1 : Bool, (∃ o_0 : Own, r = .tup [.ag [.i .u8 x0.kind, .i .i64 x0.int, .s x0.text, .sl o_0 (List.map Val.row x0.list), .b x0.cut], .b x1]) ∧ K x0 x1 b_) (fun b_ => (Bx [.s b_.left])) :=
  PuXK.of hf rfl (fun _ => Bx.out) fun d st kp vp hkp hB => w129_0 (st0 := st) (Q := fun e σ st' => (e = .normal ∨ e = .ret) ∧ ∃ r b_, ares σ st' pf129.res = some r ∧ _ ∧ _ ∧ Fr d kp st.bx st.ow st'.bx st'.ow) (fun σ st' k0 v0 o_0 x0 x1 b_ H8 HB8 H9 hb hf hk => ⟨.inr rfl, .tup [.ag [.i .u8 x0.kind, .i .i64 x0.int, .s x0.text, .sl o_0 (List.map Val.row x0.list), .b x0.cut], .b x1], b_, by simp only [pf129, ares, aresL, ares_cellA (n := 5) H8 HB8 rfl, H9, ares_tmp, Option.map_some, ares_cellA (n := 5) H8 HB8 rfl, H9], ⟨x0, x1, ⟨o_0, rfl⟩, hk⟩, hb, hf⟩) hkp (σ := sl0 [.p kp vp 0, .i .u8 kind1, .s end2, .i .i64 nest3]) rfl rfl rfl rfl hB Fr.refl h

/-! (*wreckage/lines.scanner).value -/
def r107_0 : List AI := [⟨(some 4), .alloc [.i .u8 0, .i .i64 0, .s [], .sl .full [], .b false], none⟩,
  ⟨(some 5), .mv (.c (.b false)), none⟩]
def r107_1 : List AI := [⟨(some 12), .mv (.t 1), none⟩,
  ⟨(some 13), .bin .eql (.t 12) (.c (.i .i64 0)), none⟩,
  ⟨(some 14), .mv (.t 13), none⟩,
  ⟨(some 15), .mv (.t 0), (some (14, false))⟩,
  ⟨(some 16), .nilc (.t 15), (some (14, false))⟩,
  ⟨(some 17), .fad 0 (.t 16), (some (14, false))⟩,
  ⟨(some 18), .load 1 false (.t 17), (some (14, false))⟩,
  ⟨(some 19), .bin .eql (.t 18) (.c (.s [])), (some (14, false))⟩,
  ⟨(some 20), .pick (.t 14) (.c (.b true)) (.t 19), none⟩]
def r107_2 : List AI := [⟨(some 21), .build [.i .u8 0, .i .i64 0, .s [], .sl .full [], .b false] [], none⟩,
  ⟨none, .store 5 (.t 4) (.t 21), none⟩,
  ⟨(some 5), .mv (.c (.b false)), none⟩]
def r107_3 : List AI := [⟨(some 23), .mv (.t 0), none⟩,
  ⟨(some 24), .call true 128 [(.t 23), (.c (.s [116, 114, 117, 101]))], none⟩,
  ⟨(some 22), .mv (.t 24), none⟩]
def r107_4 : List AI := [⟨(some 25), .build [.i .u8 0, .i .i64 0, .s [], .sl .full [], .b false] [(0, 1, (.c (.i .u8 1))), (1, 1, (.c (.i .i64 1)))], none⟩,
  ⟨none, .store 5 (.t 4) (.t 25), none⟩,
  ⟨(some 5), .mv (.c (.b true)), none⟩]
def r107_5 : List AI := [⟨(some 27), .mv (.t 0), none⟩,
  ⟨(some 28), .call true 128 [(.t 27), (.c (.s [102, 97, 108, 115, 101]))], none⟩,
  ⟨(some 26), .mv (.t 28), none⟩]
def r107_6 : List AI := [⟨(some 29), .build [.i .u8 0, .i .i64 0, .s [], .sl .full [], .b false] [(0, 1, (.c (.i .u8 1)))], none⟩,
  ⟨none, .store 5 (.t 4) (.t 29), none⟩,
  ⟨(some 5), .mv (.c (.b true)), none⟩]
def r107_7 : List AI := [⟨(some 31), .mv (.t 0), none⟩,
  ⟨(some 32), .call true 128 [(.t 31), (.c (.s [110, 105, 108]))], none⟩,
  ⟨(some 30), .mv (.t 32), none⟩]
def r107_8 : List AI := [⟨(some 33), .build [.i .u8 0, .i .i64 0, .s [], .sl .full [], .b false] [(0, 1, (.c (.i .u8 4)))], none⟩,
  ⟨none, .store 5 (.t 4) (.t 33), none⟩,
  ⟨(some 5), .mv (.c (.b true)), none⟩]
def r107_9 : List AI := [⟨(some 35), .mv (.t 0), none⟩,
  ⟨(some 36), .call true 128 [(.t 35), (.c (.s [38, 46, 46, 46]))], none⟩,
  ⟨(some 34), .mv (.t 36), none⟩]
def r107_10 : List AI := [⟨(some 37), .build [.i .u8 0, .i .i64 0, .s [], .sl .full [], .b false] [(0, 1, (.c (.i .u8 4))), (4, 1, (.c (.b true)))], none⟩,
  ⟨none, .store 5 (.t 4) (.t 37), none⟩,
  ⟨(some 5), .mv (.c (.b true)), none⟩]
def r107_11 : List AI := [⟨(some 39), .mv (.t 0), none⟩,
  ⟨(some 40), .call true 128 [(.t 39), (.c (.s [60, 46, 46, 46, 62]))], none⟩,
  ⟨(some 38), .mv (.t 40), none⟩]
def r107_12 : List AI := [⟨(some 41), .build [.i .u8 0, .i .i64 0, .s [], .sl .full [], .b false] [(0, 1, (.c (.i .u8 7))), (4, 1, (.c (.b true)))], none⟩,
  ⟨none, .store 5 (.t 4) (.t 41), none⟩,
  ⟨(some 5), .mv (.c (.b true)), none⟩]
def r107_13 : List AI := [⟨(some 43), .mv (.t 0), none⟩,
  ⟨(some 44), .call true 128 [(.t 43), (.c (.s [38]))], none⟩,
  ⟨(some 42), .mv (.t 44), none⟩]
def r107_14 : List AI := [⟨(some 46), .mv (.t 0), none⟩,
  ⟨(some 47), .mv (.t 1), none⟩,
  ⟨(some 48), .bin .sub (.t 47) (.c (.i .i64 1)), none⟩,
  ⟨(some 49), .call true 107 [(.t 46), (.t 48)], none⟩,
  ⟨(some 45), .mv (.t 49), none⟩,
  ⟨(some 50), .ext 0 (.t 45), none⟩,
  ⟨(some 51), .ext 1 (.t 45), none⟩,
  ⟨(some 6), .alloc [.i .u8 0, .i .i64 0, .s [], .sl .full [], .b false], none⟩,
  ⟨none, .store 5 (.t 6) (.t 50), none⟩,
  ⟨(some 7), .mv (.t 51), none⟩]
def r107_15 : List AI := [⟨(some 52), .load 5 true (.t 6), none⟩,
  ⟨(some 53), .bslice [.i .u8 0, .i .i64 0, .s [], .sl .full [], .b false] 1 [(0, (.t 52))], none⟩,
  ⟨(some 54), .build [.i .u8 0, .i .i64 0, .s [], .sl .full [], .b false] [(0, 1, (.c (.i .u8 4))), (3, 1, (.t 53))], none⟩,
  ⟨(some 55), .mv (.t 7), none⟩,
  ⟨none, .store 5 (.t 4) (.t 54), none⟩,
  ⟨(some 5), .mv (.t 55), none⟩]
def r107_16 : List AI := [⟨(some 57), .mv (.t 0), none⟩,
  ⟨(some 58), .call true 128 [(.t 57), (.c (.s [123]))], none⟩,
  ⟨(some 56), .mv (.t 58), none⟩]
def r107_17 : List AI := [⟨(some 59), .mv (.t 0), none⟩,
  ⟨(some 60), .mv (.t 1), none⟩,
  ⟨(some 61), .bin .sub (.t 60) (.c (.i .i64 1)), none⟩,
  ⟨(some 62), .call true 129 [(.t 59), (.c (.i .u8 5)), (.c (.s [125])), (.t 61)], none⟩,
  ⟨(some 63), .ext 0 (.t 62), none⟩,
  ⟨(some 64), .ext 1 (.t 62), none⟩,
  ⟨none, .store 5 (.t 4) (.t 63), none⟩,
  ⟨(some 5), .mv (.t 64), none⟩]
def r107_18 : List AI := [⟨(some 66), .mv (.t 0), none⟩,
  ⟨(some 67), .call true 128 [(.t 66), (.c (.s [91]))], none⟩,
  ⟨(some 65), .mv (.t 67), none⟩]
def r107_19 : List AI := [⟨(some 68), .mv (.t 0), none⟩,
  ⟨(some 69), .mv (.t 1), none⟩,
  ⟨(some 70), .bin .sub (.t 69) (.c (.i .i64 1)), none⟩,
  ⟨(some 71), .call true 129 [(.t 68), (.c (.i .u8 6)), (.c (.s [93])), (.t 70)], none⟩,
  ⟨(some 72), .ext 0 (.t 71), none⟩,
  ⟨(some 73), .ext 1 (.t 71), none⟩,
  ⟨none, .store 5 (.t 4) (.t 72), none⟩,
  ⟨(some 5), .mv (.t 73), none⟩]
def r107_20 : List AI := [⟨(some 75), .mv (.t 0), none⟩,
  ⟨(some 76), .call true 128 [(.t 75), (.c (.s [60]))], none⟩,
  ⟨(some 74), .mv (.t 76), none⟩]
def r107_21 : List AI := [⟨(some 77), .mv (.t 0), none⟩,
  ⟨(some 78), .mv (.t 1), none⟩,
  ⟨(some 79), .bin .sub (.t 78) (.c (.i .i64 1)), none⟩,
  ⟨(some 80), .call true 129 [(.t 77), (.c (.i .u8 7)), (.c (.s [62])), (.t 79)], none⟩,
  ⟨(some 81), .ext 0 (.t 80), none⟩,
  ⟨(some 82), .ext 1 (.t 80), none⟩,
  ⟨none, .store 5 (.t 4) (.t 81), none⟩,
  ⟨(some 5), .mv (.t 82), none⟩]
def r107_22 : List AI := [⟨(some 84), .mv (.t 0), none⟩,
  ⟨(some 85), .nilc (.t 84), none⟩,
  ⟨(some 86), .fad 0 (.t 85), none⟩,
  ⟨(some 87), .load 1 false (.t 86), none⟩,
  ⟨(some 88), .ixS (.t 87) (.c (.i .i64 0)), none⟩,
  ⟨(some 89), .bin .eql (.t 88) (.c (.i .u8 34)), none⟩,
  ⟨(some 83), .mv (.t 89), none⟩]
def r107_23 : List AI := [⟨(some 91), .mv (.t 0), none⟩,
  ⟨(some 92), .call true 130 [(.t 91)], none⟩,
  ⟨(some 90), .mv (.t 92), none⟩,
  ⟨(some 93), .ext 0 (.t 90), none⟩,
  ⟨(some 94), .ext 1 (.t 90), none⟩,
  ⟨(some 8), .mv (.t 93), none⟩,
  ⟨(some 9), .mv (.t 94), none⟩]
def r107_24 : List AI := [⟨(some 95), .mv (.t 8), none⟩,
  ⟨(some 96), .build [.i .u8 0, .i .i64 0, .s [], .sl .full [], .b false] [(0, 1, (.c (.i .u8 3))), (2, 1, (.t 95))], none⟩,
  ⟨(some 97), .mv (.t 9), none⟩,
  ⟨none, .store 5 (.t 4) (.t 96), none⟩,
  ⟨(some 5), .mv (.t 97), none⟩]
def r107_25 : List AI := [⟨(some 99), .mv (.t 0), none⟩,
  ⟨(some 100), .call true 131 [(.t 99)], none⟩,
  ⟨(some 98), .mv (.t 100), none⟩,
  ⟨(some 101), .ext 0 (.t 98), none⟩,
  ⟨(some 102), .ext 1 (.t 98), none⟩,
  ⟨(some 10), .mv (.t 101), none⟩,
  ⟨(some 11), .mv (.t 102), none⟩]
def r107_26 : List AI := [⟨(some 103), .mv (.t 10), none⟩,
  ⟨(some 104), .build [.i .u8 0, .i .i64 0, .s [], .sl .full [], .b false] [(0, 1, (.c (.i .u8 2))), (1, 1, (.t 103))], none⟩,
  ⟨(some 105), .mv (.t 11), none⟩,
  ⟨none, .store 5 (.t 4) (.t 104), none⟩,
  ⟨(some 5), .mv (.t 105), none⟩]
abbrev c107_0 : AC := (.cond (.t 42) (.seq (.reg 14 r107_14) (.seq (.reg 15 r107_15) .ret)) (.seq (.reg 16 r107_16) (.cond (.t 56) (.seq (.reg 17 r107_17) .ret) (.seq (.reg 18 r107_18) (.cond (.t 65) (.seq (.reg 19 r107_19) .ret) (.seq (.reg 20 r107_20) (.cond (.t 74) (.seq (.reg 21 r107_21) .ret) (.seq (.reg 22 r107_22) (.cond (.t 83) (.seq (.reg 23 r107_23) (.seq (.reg 24 r107_24) .ret)) .skip)))))))))
abbrev c107_1 : AC := (.cond (.t 38) (.seq (.reg 12 r107_12) .ret) (.seq (.reg 13 r107_13) c107_0))
abbrev c107_2 : AC := (.cond (.t 34) (.seq (.reg 10 r107_10) .ret) (.seq (.reg 11 r107_11) c107_1))
abbrev c107_3 : AC := (.cond (.t 30) (.seq (.reg 8 r107_8) .ret) (.seq (.reg 9 r107_9) c107_2))
abbrev c107_4 : AC := (.cond (.t 26) (.seq (.reg 6 r107_6) .ret) (.seq (.reg 7 r107_7) c107_3))
abbrev c107_5 : AC := (.cond (.t 22) (.seq (.reg 4 r107_4) .ret) (.seq (.reg 5 r107_5) c107_4))
abbrev c107_6 : AC := (.seq (.block 0 (.seq (.reg 3 r107_3) c107_5)) (.seq (.reg 25 r107_25) (.seq (.reg 26 r107_26) .ret)))
abbrev c107_7 : AC := (.seq (.seq (.reg 1 r107_1) (.cond (.t 20) (.seq (.reg 2 r107_2) .ret) .skip)) c107_6)
abbrev b107 : AC := (.seq (.reg 0 r107_0) c107_7)
def pf107 : AF := { nt := 106, res := [.cell 4 5 true, .tmp 5], body := b107 }
def T107_8 (prog : Prog) (K : Val → Bool → Sc → Prop) (nest1 : Int) (t42 : Bool) (m0 : Val) (mP : Sc) : Prop :=
  (t42 = true → ∃ r'2 : Val, ∃ r'3 : Bool, ∃ b'9 : Sc, PuX prog 107 (Bx [.s mP.left]) [.i .i64 (IntKind.i64.wrap (nest1 - 1))] (fun r => ∃ o'4_0 : Own, r = .tup [.ag [.i .u8 r'2.kind, .i .i64 r'2.int, .s r'2.text, .sl o'4_0 (List.map Val.row r'2.list), .b r'2.cut], .b r'3]) ((Bx [.s b'9.left])) ∧ K (Val.mk 4 0 [] [r'2] false) r'3 b'9) ∧ (t42 = false → ∃ r'12 : Bool, ∃ b'18 : Sc, PuX prog 128 (Bx [.s mP.left]) [.s ([123] : List UInt8)] (fun r => r = .b r'12) ((Bx [.s b'18.left])) ∧ (r'12 = true → ∃ r'20 : Val, ∃ r'21 : Bool, ∃ b'27 : Sc, PuX prog 129 (Bx [.s b'18.left]) [.i .u8 5, .s ([125] : List UInt8), .i .i64 (IntKind.i64.wrap (nest1 - 1))] (fun r => ∃ o'22_0 : Own, r = .tup [.ag [.i .u8 r'20.kind, .i .i64 r'20.int, .s r'20.text, .sl o'22_0 (List.map Val.row r'20.list), .b r'20.cut], .b r'21]) ((Bx [.s b'27.left])) ∧ K r'20 r'21 b'27) ∧ (r'12 = false → ∃ r'30 : Bool, ∃ b'36 : Sc, PuX prog 128 (Bx [.s b'18.left]) [.s ([91] : List UInt8)] (fun r => r = .b r'30) ((Bx [.s b'36.left])) ∧ (r'30 = true → ∃ r'38 : Val, ∃ r'39 : Bool, ∃ b'45 : Sc, PuX prog 129 (Bx [.s b'36.left]) [.i .u8 6, .s ([93] : List UInt8), .i .i64 (IntKind.i64.wrap (nest1 - 1))] (fun r => ∃ o'40_0 : Own, r = .tup [.ag [.i .u8 r'38.kind, .i .i64 r'38.int, .s r'38.text, .sl o'40_0 (List.map Val.row r'38.list), .b r'38.cut], .b r'39]) ((Bx [.s b'45.left])) ∧ K r'38 r'39 b'45) ∧ (r'30 = false → ∃ r'48 : Bool, ∃ b'54 : Sc, PuX prog 128 (Bx [.s b'36.left]) [.s ([60] : List UInt8)] (fun r => r = .b r'48) ((Bx [.s b'54.left])) ∧ (r'48 = true → ∃ r'56 : Val, ∃ r'57 : Bool, ∃ b'63 : Sc, PuX prog 129 (Bx [.s b'54.left]) [.i .u8 7, .s ([62] : List UInt8), .i .i64 (IntKind.i64.wrap (nest1 - 1))] (fun r => ∃ o'58_0 : Own, r = .tup [.ag [.i .u8 r'56.kind, .i .i64 r'56.int, .s r'56.text, .sl o'58_0 (List.map Val.row r'56.list), .b r'56.cut], .b r'57]) ((Bx [.s b'63.left])) ∧ K r'56 r'57 b'63) ∧ (r'48 = false → ∃ c'66 : UInt8, b'54.left[0]? = some c'66 ∧ ((c'66.toNat : Int) = 34 → ∃ r'69 : List UInt8, ∃ r'70 : Bool, ∃ b'76 : Sc, PuX prog 130 (Bx [.s b'54.left]) [] (fun r => r = .tup [.s r'69, .b r'70]) ((Bx [.s b'76.left])) ∧ K (Val.mk 3 0 r'69 ([] : List Val) false) r'70 b'76) ∧ (¬((c'66.toNat : Int) = 34) → ∃ r'79 : Int, ∃ r'80 : Bool, ∃ b'86 : Sc, PuX prog 131 (Bx [.s b'54.left]) [] (fun r => r = .tup [.i .i64 r'79, .b r'80]) ((Bx [.s b'86.left])) ∧ K (Val.mk 2 r'79 [] ([] : List Val) false) r'80 b'86)))))
theorem w107_8 {prog : Prog} {d : Nat} {Q : AE → Sl → St → Prop} {K : Val → Bool → Sc → Prop} {st0 : St} {kp : Key} {vp : Nat} (hQ : ∀ (σ : Sl) (st : St) (k0 : Key) (v0 : Nat) (o0_0 : Own) (x0 : Val) (x1 : Bool) (b_ : Sc), σ 4 = .p k0 v0 0 → lk st.bx k0 = some (v0, [.i .u8 x0.kind, .i .i64 x0.int, .s x0.text, .sl o0_0 (List.map Val.row x0.list), .b x0.cut]) → σ 5 = .b x1 → lk st.bx kp = some (vp, [.s b_.left]) → Fr d kp st0.bx st0.ow st.bx st.ow → K x0 x1 b_ → Q .ret σ st) (hkp : kp.1 < d) {nest1 : Int} {t42 : Bool} {m0 : Val} {mP : Sc}   {σ : Sl} {st : St} {o_m0_3 : Own} {v0 : Nat} (H0 : σ 0 = .p kp vp 0) (H1 : σ 1 = .i .i64 nest1) (H4 : σ 4 = .p (d, 0) v0 0) (H42 : σ 42 = .b t42) (B0 : lk st.bx (d, 0) = some (v0, [.i .u8 m0.kind, .i .i64 m0.int, .s m0.text, .sl o_m0_3 (List.map Val.row m0.list), .b m0.cut])) (BP : lk st.bx kp = some (vp, [.s mP.left])) (FR : Fr d kp st0.bx st0.ow st.bx st.ow) (h : T107_8 prog K nest1 t42 m0 mP) : W prog d c107_0 σ st (blockW 0 (thenW prog d (.seq (.reg 25 r107_25) (.seq (.reg 26 r107_26) .ret)) Q)) :=
  c_bool H42 (fun g'1 => W.seq (W.reg (s_mv H0 (s_mvI H1 (s_bin rfl rfl (abin_sub _ _ _) ((h.1 g'1).elim fun r'2 e'10 => e'10.elim fun r'3 e'11 => e'11.elim fun b'9 e'5 => s_callX1 (sec rfl (sec rfl sen)) e'5.1 (Nat.lt_succ_of_lt hkp) (lk_otherP hkp BP) (fun o'4_0 st'6 hb'7 hf'8 => s_mvT rfl (s_ext rfl rfl (s_ext rfl rfl (s_alloc (s_storeP rfl ((hf'8.1 (d, 57351) (Nat.lt_succ_self d) (key_LP hkp)).trans (show lk _ (d, 57351) = some (_, ([.i .u8 0, .i .i64 0, .s [], .sl .full (List.map Val.row ([] : List Val)), .b false] : List AV)) from lk_here)) rfl rfl rfl (s_mvB rfl (s_nil (W.seq (W.reg0 rfl fun _ _ => s_loadP rfl lk_here rfl rfl (s_bslM (f := Val.row) (l := [r'2]) rfl rfl (g_cons rfl rfl rfl g_nil) (by simp only [List.map_cons, List.map_nil, Val.row_eq]; rfl) (s_build (f_cons rfl rfl (f_cons rfl rfl f_nil)) (s_mvB rfl (s_storeP H4 (lk_other rfl ((hf'8.1 (d, 0) (Nat.lt_succ_self d) (key_LP hkp)).trans (lk_other rfl B0))) rfl rfl rfl (s_mvB rfl (s_nil (W.ret (hQ _ _ _ _ _ _ _ _ H4 lk_here rfl (lk_otherP hkp (lk_otherP hkp hb'7)) (Fr.box (Fr.box (Fr.pass (Fr.box FR) hf'8)))  e'5.2))))))))))))))))))))))) (fun g'1 => W.seq (W.reg0 rfl fun _ _ => s_mv H0 ((h.2 g'1).elim fun r'12 e'91 => e'91.elim fun b'18 e'14 => s_callX (sec rfl (sec rfl sen)) e'14.1 (Nat.lt_succ_of_lt hkp) BP (fun st'15 hb'16 hf'17 => s_mvB rfl (s_nil (c_bool rfl (fun g'19 => W.seq (W.reg0 rfl fun _ _ => s_mv H0 (s_mvI H1 (s_bin rfl rfl (abin_sub _ _ _) ((e'14.2.1 g'19).elim fun r'20 e'28 => e'28.elim fun r'21 e'29 => e'29.elim fun b'27 e'23 => s_callX1 (sec rfl (sec rfl (sec rfl (sec rfl sen)))) e'23.1 (Nat.lt_succ_of_lt hkp) hb'16 (fun o'22_0 st'24 hb'25 hf'26 => s_ext rfl rfl (s_ext rfl rfl (s_storeP H4 ((hf'26.1 (d, 0) (Nat.lt_succ_self d) (key_LP hkp)).trans ((hf'17.1 (d, 0) (Nat.lt_succ_self d) (key_LP hkp)).trans B0)) rfl rfl rfl (s_mvB rfl (s_nil (W.ret (hQ _ _ _ _ _ _ _ _ H4 lk_here rfl (lk_otherP hkp hb'25) (Fr.box (Fr.pass (Fr.pass FR hf'17) hf'26))  e'23.2)))))))))))) (fun g'19 => W.seq (W.reg0 rfl fun _ _ => s_mv H0 ((e'14.2.2 g'19).elim fun r'30 e'90 => e'90.elim fun b'36 e'32 => s_callX (sec rfl (sec rfl sen)) e'32.1 (Nat.lt_succ_of_lt hkp) hb'16 (fun st'33 hb'34 hf'35 => s_mvB rfl (s_nil (c_bool rfl (fun g'37 => W.seq (W.reg0 rfl fun _ _ => s_mv H0 (s_mvI H1 (s_bin rfl rfl (abin_sub _ _ _) ((e'32.2.1 g'37).elim fun r'38 e'46 => e'46.elim fun r'39 e'47 => e'47.elim fun b'45 e'41 => s_callX1 (sec rfl (sec rfl (sec rfl (sec rfl sen)))) e'41.1 (Nat.lt_succ_of_lt hkp) hb'34 (fun o'40_0 st'42 hb'43 hf'44 => s_ext rfl rfl (s_ext rfl rfl (s_storeP H4 ((hf'44.1 (d, 0) (Nat.lt_succ_self d) (key_LP hkp)).trans ((hf'35.1 (d, 0) (Nat.lt_succ_self d) (key_LP hkp)).trans ((hf'17.1 (d, 0) (Nat.lt_succ_self d) (key_LP hkp)).trans B0))) rfl rfl rfl (s_mvB rfl (s_nil (W.ret (hQ _ _ _ _ _ _ _ _ H4 lk_here rfl (lk_otherP hkp hb'43) (Fr.box (Fr.pass (Fr.pass (Fr.pass FR hf'17) hf'35) hf'44))  e'41.2)))))))))))) (fun g'37 => W.seq (W.reg0 rfl fun _ _ => s_mv H0 ((e'32.2.2 g'37).elim fun r'48 e'89 => e'89.elim fun b'54 e'50 => s_callX (sec rfl (sec rfl sen)) e'50.1 (Nat.lt_succ_of_lt hkp) hb'34 (fun st'51 hb'52 hf'53 => s_mvB rfl (s_nil (c_bool rfl (fun g'55 => W.seq (W.reg0 rfl fun _ _ => s_mv H0 (s_mvI H1 (s_bin rfl rfl (abin_sub _ _ _) ((e'50.2.1 g'55).elim fun r'56 e'64 => e'64.elim fun r'57 e'65 => e'65.elim fun b'63 e'59 => s_callX1 (sec rfl (sec rfl (sec rfl (sec rfl sen)))) e'59.1 (Nat.lt_succ_of_lt hkp) hb'52 (fun o'58_0 st'60 hb'61 hf'62 => s_ext rfl rfl (s_ext rfl rfl (s_storeP H4 ((hf'62.1 (d, 0) (Nat.lt_succ_self d) (key_LP hkp)).trans ((hf'53.1 (d, 0) (Nat.lt_succ_self d) (key_LP hkp)).trans ((hf'35.1 (d, 0) (Nat.lt_succ_self d) (key_LP hkp)).trans ((hf'17.1 (d, 0) (Nat.lt_succ_self d) (key_LP hkp)).trans B0)))) rfl rfl rfl (s_mvB rfl (s_nil (W.ret (hQ _ _ _ _ _ _ _ _ H4 lk_here rfl (lk_otherP hkp hb'61) (Fr.box (Fr.pass (Fr.pass (Fr.pass (Fr.pass FR hf'17) hf'35) hf'53) hf'62))  e'59.2)))))))))))) (fun g'55 => W.seq (W.reg0 rfl fun _ _ => s_mv H0 (s_nilP rfl (s_fadP rfl (s_loadP rfl hb'52 rfl rfl ((e'50.2.2 g'55).elim fun c'66 e'67 => s_ixS rfl rfl (by decide) e'67.1 (s_bin rfl rfl (abin_eql _ _ _) (s_mvB rfl (s_nil (c_split rfl (fun g'68 => W.seq (W.reg0 rfl fun _ _ => s_mv H0 ((e'67.2.1 g'68).elim fun r'69 e'77 => e'77.elim fun r'70 e'78 => e'78.elim fun b'76 e'72 => s_callX (sec rfl sen) e'72.1 (Nat.lt_succ_of_lt hkp) hb'52 (fun st'73 hb'74 hf'75 => s_mvT rfl (s_ext rfl rfl (s_ext rfl rfl (s_mvS rfl (s_mvB rfl (s_nil (W.seq (W.reg0 rfl fun _ _ => s_mvS rfl (s_build (f_cons rfl rfl (f_cons rfl rfl f_nil)) (s_mvB rfl (s_storeP H4 ((hf'75.1 (d, 0) (Nat.lt_succ_self d) (key_LP hkp)).trans ((hf'53.1 (d, 0) (Nat.lt_succ_self d) (key_LP hkp)).trans ((hf'35.1 (d, 0) (Nat.lt_succ_self d) (key_LP hkp)).trans ((hf'17.1 (d, 0) (Nat.lt_succ_self d) (key_LP hkp)).trans B0)))) rfl rfl rfl (s_mvB rfl (s_nil (W.ret (hQ _ _ _ _ _ _ _ _ H4 lk_here rfl (lk_otherP hkp hb'74) (Fr.box (Fr.pass (Fr.pass (Fr.pass (Fr.pass FR hf'17) hf'35) hf'53) hf'75))  e'72.2)))))))))))))))))) (fun g'68 => W.skip (W.seq (W.reg0 rfl fun _ _ => s_mv H0 ((e'67.2.2 g'68).elim fun r'79 e'87 => e'87.elim fun r'80 e'88 => e'88.elim fun b'86 e'82 => s_callX (sec rfl sen) e'82.1 (Nat.lt_succ_of_lt hkp) hb'52 (fun st'83 hb'84 hf'85 => s_mvT rfl (s_ext rfl rfl (s_ext rfl rfl (s_mvI rfl (s_mvB rfl (s_nil (W.seq (W.reg0 rfl fun _ _ => s_mvI rfl (s_build (f_cons rfl rfl (f_cons rfl rfl f_nil)) (s_mvB rfl (s_storeP H4 ((hf'85.1 (d, 0) (Nat.lt_succ_self d) (key_LP hkp)).trans ((hf'53.1 (d, 0) (Nat.lt_succ_self d) (key_LP hkp)).trans ((hf'35.1 (d, 0) (Nat.lt_succ_self d) (key_LP hkp)).trans ((hf'17.1 (d, 0) (Nat.lt_succ_self d) (key_LP hkp)).trans B0)))) rfl rfl rfl (s_mvB rfl (s_nil (W.ret (hQ _ _ _ _ _ _ _ _ H4 lk_here rfl (lk_otherP hkp hb'84) (Fr.box (Fr.pass (Fr.pass (Fr.pass (Fr.pass FR hf'17) hf'35) hf'53) hf'85))  e'82.2)))))))))))))))))))))))))))))))))))))))))))))))
def T107_7 (prog : Prog) (K : Val → Bool → Sc → Prop) (nest1 : Int) (t38 : Bool) (m0 : Val) (mP : Sc) : Prop :=
  (t38 = true → K (Val.mk 7 0 [] ([] : List Val) true) true mP) ∧ (t38 = false → ∃ r'2 : Bool, ∃ b'8 : Sc, PuX prog 128 (Bx [.s mP.left]) [.s ([38] : List UInt8)] (fun r => r = .b r'2) ((Bx [.s b'8.left])) ∧ T107_8 prog K nest1 r'2 m0 b'8)
theorem w107_7 {prog : Prog} {d : Nat} {Q : AE → Sl → St → Prop} {K : Val → Bool → Sc → Prop} {st0 : St} {kp : Key} {vp : Nat} (hQ : ∀ (σ : Sl) (st : St) (k0 : Key) (v0 : Nat) (o0_0 : Own) (x0 : Val) (x1 : Bool) (b_ : Sc), σ 4 = .p k0 v0 0 → lk st.bx k0 = some (v0, [.i .u8 x0.kind, .i .i64 x0.int, .s x0.text, .sl o0_0 (List.map Val.row x0.list), .b x0.cut]) → σ 5 = .b x1 → lk st.bx kp = some (vp, [.s b_.left]) → Fr d kp st0.bx st0.ow st.bx st.ow → K x0 x1 b_ → Q .ret σ st) (hkp : kp.1 < d) {nest1 : Int} {t38 : Bool} {m0 : Val} {mP : Sc}   {σ : Sl} {st : St} {o_m0_3 : Own} {v0 : Nat} (H0 : σ 0 = .p kp vp 0) (H1 : σ 1 = .i .i64 nest1) (H4 : σ 4 = .p (d, 0) v0 0) (H38 : σ 38 = .b t38) (B0 : lk st.bx (d, 0) = some (v0, [.i .u8 m0.kind, .i .i64 m0.int, .s m0.text, .sl o_m0_3 (List.map Val.row m0.list), .b m0.cut])) (BP : lk st.bx kp = some (vp, [.s mP.left])) (FR : Fr d kp st0.bx st0.ow st.bx st.ow) (h : T107_7 prog K nest1 t38 m0 mP) : W prog d c107_1 σ st (blockW 0 (thenW prog d (.seq (.reg 25 r107_25) (.seq (.reg 26 r107_26) .ret)) Q)) :=
  c_bool H38 (fun g'1 => W.seq (W.reg0 rfl fun _ _ => s_build (f_cons rfl rfl (f_cons rfl rfl f_nil)) (s_storeP H4 B0 rfl rfl rfl (s_mvB rfl (s_nil (W.ret (hQ _ _ _ _ _ _ _ _ H4 lk_here rfl (lk_otherP hkp BP) (Fr.box FR)  (h.1 g'1)))))))) (fun g'1 => W.seq (W.reg0 rfl fun _ _ => s_mv H0 ((h.2 g'1).elim fun r'2 e'9 => e'9.elim fun b'8 e'4 => s_callX (sec rfl (sec rfl sen)) e'4.1 (Nat.lt_succ_of_lt hkp) BP (fun st'5 hb'6 hf'7 => s_mvB rfl (s_nil (w107_8 (nest1 := nest1) (t42 := r'2) (m0 := m0) (mP := b'8) hQ hkp  H0 H1 H4 rfl ((hf'7.1 (d, 0) (Nat.lt_succ_self d) (key_LP hkp)).trans B0) hb'6 (Fr.pass FR hf'7) e'4.2))))))
def T107_6 (prog : Prog) (K : Val → Bool → Sc → Prop) (nest1 : Int) (t34 : Bool) (m0 : Val) (mP : Sc) : Prop :=
  (t34 = true → K (Val.mk 4 0 [] ([] : List Val) true) true mP) ∧ (t34 = false → ∃ r'2 : Bool, ∃ b'8 : Sc, PuX prog 128 (Bx [.s mP.left]) [.s ([60, 46, 46, 46, 62] : List UInt8)] (fun r => r = .b r'2) ((Bx [.s b'8.left])) ∧ T107_7 prog K nest1 r'2 m0 b'8)
theorem w107_6 {prog : Prog} {d : Nat} {Q : AE → Sl → St → Prop} {K : Val → Bool → Sc → Prop} {st0 : St} {kp : Key} {vp : Nat} (hQ : ∀ (σ : Sl) (st : St) (k0 : Key) (v0 : Nat) (o0_0 : Own) (x0 : Val) (x1 : Bool) (b_ : Sc), σ 4 = .p k0 v0 0 → lk st.bx k0 = some (v0, [.i .u8 x0.kind, .i .i64 x0.int, .s x0.text, .sl o0_0 (List.map Val.row x0.list), .b x0.cut]) → σ 5 = .b x1 → lk st.bx kp = some (vp, [.s b_.left]) → Fr d kp st0.bx st0.ow st.bx st.ow → K x0 x1 b_ → Q .ret σ st) (hkp : kp.1 < d) {nest1 : Int} {t34 : Bool} {m0 : Val} {mP : Sc}   {σ : Sl} {st : St} {o_m0_3 : Own} {v0 : Nat} (H0 : σ 0 = .p kp vp 0) (H1 : σ 1 = .i .i64 nest1) (H4 : σ 4 = .p (d, 0) v0 0) (H34 : σ 34 = .b t34) (B0 : lk st.bx (d, 0) = some (v0, [.i .u8 m0.kind, .i .i64 m0.int, .s m0.text, .sl o_m0_3 (List.map Val.row m0.list), .b m0.cut])) (BP : lk st.bx kp = some (vp, [.s mP.left])) (FR : Fr d kp st0.bx st0.ow st.bx st.ow) (h : T107_6 prog K nest1 t34 m0 mP) : W prog d c107_2 σ st (blockW 0 (thenW prog d (.seq (.reg 25 r107_25) (.seq (.reg 26 r107_26) .ret)) Q)) :=
  c_bool H34 (fun g'1 => W.seq (W.reg0 rfl fun _ _ => s_build (f_cons rfl rfl (f_cons rfl rfl f_nil)) (s_storeP H4 B0 rfl rfl rfl (s_mvB rfl (s_nil (W.ret (hQ _ _ _ _ _ _ _ _ H4 lk_here rfl (lk_otherP hkp BP) (Fr.box FR)  (h.1 g'1)))))))) (fun g'1 => W.seq (W.reg0 rfl fun _ _ => s_mv H0 ((h.2 g'1).elim fun r'2 e'9 => e'9.elim fun b'8 e'4 => s_callX (sec rfl (sec rfl sen)) e'4.1 (Nat.lt_succ_of_lt hkp) BP (fun st'5 hb'6 hf'7 => s_mvB rfl (s_nil (w107_7 (nest1 := nest1) (t38 := r'2) (m0 := m0) (mP := b'8) hQ hkp  H0 H1 H4 rfl ((hf'7.1 (d, 0) (Nat.lt_succ_self d) (key_LP hkp)).trans B0) hb'6 (Fr.pass FR hf'7) e'4.2))))))
def T107_5 (prog : Prog) (K : Val → Bool → Sc → Prop) (nest1 : Int) (t30 : Bool) (m0 : Val) (mP : Sc) : Prop :=
  (t30 = true → K (Val.mk 4 0 [] ([] : List Val) false) true mP) ∧ (t30 = false → ∃ r'2 : Bool, ∃ b'8 : Sc, PuX prog 128 (Bx [.s mP.left]) [.s ([38, 46, 46, 46] : List UInt8)] (fun r => r = .b r'2) ((Bx [.s b'8.left])) ∧ T107_6 prog K nest1 r'2 m0 b'8)
theorem w107_5 {prog : Prog} {d : Nat} {Q : AE → Sl → St → Prop} {K : Val → Bool → Sc → Prop} {st0 : St} {kp : Key} {vp : Nat} (hQ : ∀ (σ : Sl) (st : St) (k0 : Key) (v0 : Nat) (o0_0 : Own) (x0 : Val) (x1 : Bool) (b_ : Sc), σ 4 = .p k0 v0 0 → lk st.bx k0 = some (v0, [.i .u8 x0.kind, .i .i64 x0.int, .s x0.text, .sl o0_0 (List.map Val.row x0.list), .b x0.cut]) → σ 5 = .b x1 → lk st.bx kp = some (vp, [.s b_.left]) → Fr d kp st0.bx st0.ow st.bx st.ow → K x0 x1 b_ → Q .ret σ st) (hkp : kp.1 < d) {nest1 : Int} {t30 : Bool} {m0 : Val} {mP : Sc}   {σ : Sl} {st : St} {o_m0_3 : Own} {v0 : Nat} (H0 : σ 0 = .p kp vp 0) (H1 : σ 1 = .i .i64 nest1) (H4 : σ 4 = .p (d, 0) v0 0) (H30 : σ 30 = .b t30) (B0 : lk st.bx (d, 0) = some (v0, [.i .u8 m0.kind, .i .i64 m0.int, .s m0.text, .sl o_m0_3 (List.map Val.row m0.list), .b m0.cut])) (BP : lk st.bx kp = some (vp, [.s mP.left])) (FR : Fr d kp st0.bx st0.ow st.bx st.ow) (h : T107_5 prog K nest1 t30 m0 mP) : W prog d c107_3 σ st (blockW 0 (thenW prog d (.seq (.reg 25 r107_25) (.seq (.reg 26 r107_26) .ret)) Q)) :=
  c_bool H30 (fun g'1 => W.seq (W.reg0 rfl fun _ _ => s_build (f_cons rfl rfl f_nil) (s_storeP H4 B0 rfl rfl rfl (s_mvB rfl (s_nil (W.ret (hQ _ _ _ _ _ _ _ _ H4 lk_here rfl (lk_otherP hkp BP) (Fr.box FR)  (h.1 g'1)))))))) (fun g'1 => W.seq (W.reg0 rfl fun _ _ => s_mv H0 ((h.2 g'1).elim fun r'2 e'9 => e'9.elim fun b'8 e'4 => s_callX (sec rfl (sec rfl sen)) e'4.1 (Nat.lt_succ_of_lt hkp) BP (fun st'5 hb'6 hf'7 => s_mvB rfl (s_nil (w107_6 (nest1 := nest1) (t34 := r'2) (m0 := m0) (mP := b'8) hQ hkp  H0 H1 H4 rfl ((hf'7.1 (d, 0) (Nat.lt_succ_self d) (key_LP hkp)).trans B0) hb'6 (Fr.pass FR hf'7) e'4.2))))))
def T107_4 (prog : Prog) (K : Val → Bool → Sc → Prop) (nest1 : Int) (t26 : Bool) (m0 : Val) (mP : Sc) : Prop :=
  (t26 = true → K (Val.mk 1 0 [] ([] : List Val) false) true mP) ∧ (t26 = false → ∃ r'2 : Bool, ∃ b'8 : Sc, PuX prog 128 (Bx [.s mP.left]) [.s ([110, 105, 108] : List UInt8)] (fun r => r = .b r'2) ((Bx [.s b'8.left])) ∧ T107_5 prog K nest1 r'2 m0 b'8)
theorem w107_4 {prog : Prog} {d : Nat} {Q : AE → Sl → St → Prop} {K : Val → Bool → Sc → Prop} {st0 : St} {kp : Key} {vp : Nat} (hQ : ∀ (σ : Sl) (st : St) (k0 : Key) (v0 : Nat) (o0_0 : Own) (x0 : Val) (x1 : Bool) (b_ : Sc), σ 4 = .p k0 v0 0 → lk st.bx k0 = some (v0, [.i .u8 x0.kind, .i .i64 x0.int, .s x0.text, .sl o0_0 (List.map Val.row x0.list), .b x0.cut]) → σ 5 = .b x1 → lk st.bx kp = some (vp, [.s b_.left]) → Fr d kp st0.bx st0.ow st.bx st.ow → K x0 x1 b_ → Q .ret σ st) (hkp : kp.1 < d) {nest1 : Int} {t26 : Bool} {m0 : Val} {mP : Sc}   {σ : Sl} {st : St} {o_m0_3 : Own} {v0 : Nat} (H0 : σ 0 = .p kp vp 0) (H1 : σ 1 = .i .i64 nest1) (H4 : σ 4 = .p (d, 0) v0 0) (H26 : σ 26 = .b t26) (B0 : lk st.bx (d, 0) = some (v0, [.i .u8 m0.kind, .i .i64 m0.int, .s m0.text, .sl o_m0_3 (List.map Val.row m0.list), .b m0.cut])) (BP : lk st.bx kp = some (vp, [.s mP.left])) (FR : Fr d kp st0.bx st0.ow st.bx st.ow) (h : T107_4 prog K nest1 t26 m0 mP) : W prog d c107_4 σ st (blockW 0 (thenW prog d (.seq (.reg 25 r107_25) (.seq (.reg 26 r107_26) .ret)) Q)) :=
  c_bool H26 (fun g'1 => W.seq (W.reg0 rfl fun _ _ => s_build (f_cons rfl rfl f_nil) (s_storeP H4 B0 rfl rfl rfl (s_mvB rfl (s_nil (W.ret (hQ _ _ _ _ _ _ _ _ H4 lk_here rfl (lk_otherP hkp BP) (Fr.box FR)  (h.1 g'1)))))))) (fun g'1 => W.seq (W.reg0 rfl fun _ _ => s_mv H0 ((h.2 g'1).elim fun r'2 e'9 => e'9.elim fun b'8 e'4 => s_callX (sec rfl (sec rfl sen)) e'4.1 (Nat.lt_succ_of_lt hkp) BP (fun st'5 hb'6 hf'7 => s_mvB rfl (s_nil (w107_5 (nest1 := nest1) (t30 := r'2) (m0 := m0) (mP := b'8) hQ hkp  H0 H1 H4 rfl ((hf'7.1 (d, 0) (Nat.lt_succ_self d) (key_LP hkp)).trans B0) hb'6 (Fr.pass FR hf'7) e'4.2))))))
def T107_3 (prog : Prog) (K : Val → Bool → Sc → Prop) (nest1 : Int) (t22 : Bool) (m0 : Val) (mP : Sc) : Prop :=
  (t22 = true → K (Val.mk 1 1 [] ([] : List Val) false) true mP) ∧ (t22 = false → ∃ r'2 : Bool, ∃ b'8 : Sc, PuX prog 128 (Bx [.s mP.left]) [.s ([102, 97, 108, 115, 101] : List UInt8)] (fun r => r = .b r'2) ((Bx [.s b'8.left])) ∧ T107_4 prog K nest1 r'2 m0 b'8)
theorem w107_3 {prog : Prog} {d : Nat} {Q : AE → Sl → St → Prop} {K : Val → Bool → Sc → Prop} {st0 : St} {kp : Key} {vp : Nat} (hQ : ∀ (σ : Sl) (st : St) (k0 : Key) (v0 : Nat) (o0_0 : Own) (x0 : Val) (x1 : Bool) (b_ : Sc), σ 4 = .p k0 v0 0 → lk st.bx k0 = some (v0, [.i .u8 x0.kind, .i .i64 x0.int, .s x0.text, .sl o0_0 (List.map Val.row x0.list), .b x0.cut]) → σ 5 = .b x1 → lk st.bx kp = some (vp, [.s b_.left]) → Fr d kp st0.bx st0.ow st.bx st.ow → K x0 x1 b_ → Q .ret σ st) (hkp : kp.1 < d) {nest1 : Int} {t22 : Bool} {m0 : Val} {mP : Sc}   {σ : Sl} {st : St} {o_m0_3 : Own} {v0 : Nat} (H0 : σ 0 = .p kp vp 0) (H1 : σ 1 = .i .i64 nest1) (H4 : σ 4 = .p (d, 0) v0 0) (H22 : σ 22 = .b t22) (B0 : lk st.bx (d, 0) = some (v0, [.i .u8 m0.kind, .i .i64 m0.int, .s m0.text, .sl o_m0_3 (List.map Val.row m0.list), .b m0.cut])) (BP : lk st.bx kp = some (vp, [.s mP.left])) (FR : Fr d kp st0.bx st0.ow st.bx st.ow) (h : T107_3 prog K nest1 t22 m0 mP) : W prog d c107_5 σ st (blockW 0 (thenW prog d (.seq (.reg 25 r107_25) (.seq (.reg 26 r107_26) .ret)) Q)) :=
  c_bool H22 (fun g'1 => W.seq (W.reg0 rfl fun _ _ => s_build (f_cons rfl rfl (f_cons rfl rfl f_nil)) (s_storeP H4 B0 rfl rfl rfl (s_mvB rfl (s_nil (W.ret (hQ _ _ _ _ _ _ _ _ H4 lk_here rfl (lk_otherP hkp BP) (Fr.box FR)  (h.1 g'1)))))))) (fun g'1 => W.seq (W.reg0 rfl fun _ _ => s_mv H0 ((h.2 g'1).elim fun r'2 e'9 => e'9.elim fun b'8 e'4 => s_callX (sec rfl (sec rfl sen)) e'4.1 (Nat.lt_succ_of_lt hkp) BP (fun st'5 hb'6 hf'7 => s_mvB rfl (s_nil (w107_4 (nest1 := nest1) (t26 := r'2) (m0 := m0) (mP := b'8) hQ hkp  H0 H1 H4 rfl ((hf'7.1 (d, 0) (Nat.lt_succ_self d) (key_LP hkp)).trans B0) hb'6 (Fr.pass FR hf'7) e'4.2))))))
def T107_2 (prog : Prog) (K : Val → Bool → Sc → Prop) (nest1 : Int) (m0 : Val) (mP : Sc) : Prop :=
  ∃ r'1 : Bool, ∃ b'7 : Sc, PuX prog 128 (Bx [.s mP.left]) [.s ([116, 114, 117, 101] : List UInt8)] (fun r => r = .b r'1) ((Bx [.s b'7.left])) ∧ T107_3 prog K nest1 r'1 m0 b'7
theorem w107_2 {prog : Prog} {d : Nat} {Q : AE → Sl → St → Prop} {K : Val → Bool → Sc → Prop} {st0 : St} {kp : Key} {vp : Nat} (hQ : ∀ (σ : Sl) (st : St) (k0 : Key) (v0 : Nat) (o0_0 : Own) (x0 : Val) (x1 : Bool) (b_ : Sc), σ 4 = .p k0 v0 0 → lk st.bx k0 = some (v0, [.i .u8 x0.kind, .i .i64 x0.int, .s x0.text, .sl o0_0 (List.map Val.row x0.list), .b x0.cut]) → σ 5 = .b x1 → lk st.bx kp = some (vp, [.s b_.left]) → Fr d kp st0.bx st0.ow st.bx st.ow → K x0 x1 b_ → Q .ret σ st) (hkp : kp.1 < d) {nest1 : Int} {m0 : Val} {mP : Sc}   {σ : Sl} {st : St} {o_m0_3 : Own} {v0 : Nat} (H0 : σ 0 = .p kp vp 0) (H1 : σ 1 = .i .i64 nest1) (H4 : σ 4 = .p (d, 0) v0 0) (B0 : lk st.bx (d, 0) = some (v0, [.i .u8 m0.kind, .i .i64 m0.int, .s m0.text, .sl o_m0_3 (List.map Val.row m0.list), .b m0.cut])) (BP : lk st.bx kp = some (vp, [.s mP.left])) (FR : Fr d kp st0.bx st0.ow st.bx st.ow) (h : T107_2 prog K nest1 m0 mP) : W prog d c107_6 σ st Q :=
  W.seq (W.block (W.seq (W.reg0 rfl fun _ _ => s_mv H0 (h.elim fun r'1 e'8 => e'8.elim fun b'7 e'3 => s_callX (sec rfl (sec rfl sen)) e'3.1 (Nat.lt_succ_of_lt hkp) BP (fun st'4 hb'5 hf'6 => s_mvB rfl (s_nil (w107_3 (nest1 := nest1) (t22 := r'1) (m0 := m0) (mP := b'7) hQ hkp  H0 H1 H4 rfl ((hf'6.1 (d, 0) (Nat.lt_succ_self d) (key_LP hkp)).trans B0) hb'5 (Fr.pass FR hf'6) e'3.2)))))))
def T107_1 (prog : Prog) (K : Val → Bool → Sc → Prop) (nest1 : Int) (m0 : Val) (mP : Sc) : Prop :=
  (nest1 = 0 → K (Val.mk 0 0 [] ([] : List Val) false) false mP) ∧ (¬(nest1 = 0) → (mP.left = ([] : List UInt8) → K (Val.mk 0 0 [] ([] : List Val) false) false mP) ∧ (¬(mP.left = ([] : List UInt8)) → T107_2 prog K nest1 m0 mP))
theorem w107_1 {prog : Prog} {d : Nat} {Q : AE → Sl → St → Prop} {K : Val → Bool → Sc → Prop} {st0 : St} {kp : Key} {vp : Nat} (hQ : ∀ (σ : Sl) (st : St) (k0 : Key) (v0 : Nat) (o0_0 : Own) (x0 : Val) (x1 : Bool) (b_ : Sc), σ 4 = .p k0 v0 0 → lk st.bx k0 = some (v0, [.i .u8 x0.kind, .i .i64 x0.int, .s x0.text, .sl o0_0 (List.map Val.row x0.list), .b x0.cut]) → σ 5 = .b x1 → lk st.bx kp = some (vp, [.s b_.left]) → Fr d kp st0.bx st0.ow st.bx st.ow → K x0 x1 b_ → Q .ret σ st) (hkp : kp.1 < d) {nest1 : Int} {m0 : Val} {mP : Sc}   {σ : Sl} {st : St} {o_m0_3 : Own} {v0 : Nat} (H0 : σ 0 = .p kp vp 0) (H1 : σ 1 = .i .i64 nest1) (H4 : σ 4 = .p (d, 0) v0 0) (B0 : lk st.bx (d, 0) = some (v0, [.i .u8 m0.kind, .i .i64 m0.int, .s m0.text, .sl o_m0_3 (List.map Val.row m0.list), .b m0.cut])) (BP : lk st.bx kp = some (vp, [.s mP.left])) (FR : Fr d kp st0.bx st0.ow st.bx st.ow) (h : T107_1 prog K nest1 m0 mP) : W prog d c107_7 σ st Q :=
  W.seq (W.seq (W.reg0 rfl fun _ _ => s_mvI H1 (s_bin rfl rfl (abin_eql _ _ _) (s_mvB rfl (s_em (g := 14) rfl (fun g'1 => s_gn (b := true) rfl rfl (s_gn (b := true) rfl rfl (s_gn (b := true) rfl rfl (s_gn (b := true) rfl rfl (s_gn (b := true) rfl rfl (s_pickTB rfl rfl (s_nil (c_tt rfl (W.seq (W.reg0 rfl fun _ _ => s_build f_nil (s_storeP H4 B0 rfl rfl rfl (s_mvB rfl (s_nil (W.ret (hQ _ _ _ _ _ _ _ _ H4 lk_here rfl (lk_otherP hkp BP) (Fr.box FR)  (h.1 g'1)))))))))))))))) (fun g'1 => s_gy rfl (s_mv H0 (s_gy rfl (s_nilP rfl (s_gy rfl (s_fadP rfl (s_gy rfl (s_loadP rfl BP rfl rfl (s_gy rfl (s_bin rfl rfl (abin_seq _ _) (s_pickFB rfl rfl (s_nil (c_split rfl (fun g'2 => W.seq (W.reg0 rfl fun _ _ => s_build f_nil (s_storeP H4 B0 rfl rfl rfl (s_mvB rfl (s_nil (W.ret (hQ _ _ _ _ _ _ _ _ H4 lk_here rfl (lk_otherP hkp BP) (Fr.box FR)  ((h.2 g'1).1 g'2)))))))) (fun g'2 => W.skip (w107_2 (nest1 := nest1) (m0 := m0) (mP := mP) hQ hkp  H0 H1 H4 B0 BP FR ((h.2 g'1).2 g'2)))))))))))))))))))))
def T107_0 (prog : Prog) (K : Val → Bool → Sc → Prop) (nest1 : Int) (mP : Sc) : Prop :=
  T107_1 prog K nest1 (Val.mk 0 0 [] ([] : List Val) false) mP
theorem w107_0 {prog : Prog} {d : Nat} {Q : AE → Sl → St → Prop} {K : Val → Bool → Sc → Prop} {st0 : St} {kp : Key} {vp : Nat} (hQ : ∀ (σ : Sl) (st : St) (k0 : Key) (v0 : Nat) (o0_0 : Own) (x0 : Val) (x1 : Bool) (b_ : Sc), σ 4 = .p k0 v0 0 → lk st.bx k0 = some (v0, [.i .u8 x0.kind, .i .i64 x0.int, .s x0.text, .sl o0_0 (List.map Val.row x0.list), .b x0.cut]) → σ 5 = .b x1 → lk st.bx kp = some (vp, [.s b_.left]) → Fr d kp st0.bx st0.ow st.bx st.ow → K x0 x1 b_ → Q .ret σ st) (hkp : kp.1 < d) {nest1 : Int} {mP : Sc}   {σ : Sl} {st : St} (H0 : σ 0 = .p kp vp 0) (H1 : σ 1 = .i .i64 nest1) (BP : lk st.bx kp = some (vp, [.s mP.left])) (FR : Fr d kp st0.bx st0.ow st.bx st.ow) (h : T107_0 prog K nest1 mP) : W prog d (.seq (.reg 0 r107_0) c107_7) σ st Q :=
  W.seq (W.reg (s_alloc (s_mvB rfl (s_nil (w107_1 (nest1 := nest1) (m0 := (Val.mk 0 0 [] ([] : List Val) false)) (mP := mP) hQ hkp  H0 H1 rfl (show lk _ (d, 0) = some (_, ([.i .u8 0, .i .i64 0, .s [], .sl .full (List.map Val.row ([] : List Val)), .b false] : List AV)) from lk_here) (lk_otherP hkp BP) (Fr.box FR) h)))))
theorem p107 {prog : Prog} (hf : prog.fn 107 = some pf107) {nest1 : Int} {mP : Sc} {K : Val → Bool → Sc → Prop} (h : T107_0 prog K nest1 mP) : PuXK prog 107 (Bx [.s mP.left]) [.i .i64 nest1] (fun r (b_ : Sc) => ∃ x0 : Val, ∃ x1 : Bool, (∃ o_0 : Own, r = .tup [.ag [.i .u8 x0.kind, .i .i64 x0.int, .s x0.text, .sl o_0 (List.map Val.row x0.list), .b x0.cut], .b x1]) ∧ K x0 x1 b_) (fun b_ => (Bx [.s b_.left])) :=
  PuXK.of hf rfl (fun _ => Bx.out) fun d st kp vp hkp hB => w107_0 (st0 := st) (Q := fun e σ st' => (e = .normal ∨ e = .ret) ∧ ∃ r b_, ares σ st' pf107.res = some r ∧ _ ∧ _ ∧ Fr d kp st.bx st.ow st'.bx st'.ow) (fun σ st' k0 v0 o_0 x0 x1 b_ H4 HB4 H5 hb hf hk => ⟨.inr rfl, .tup [.ag [.i .u8 x0.kind, .i .i64 x0.int, .s x0.text, .sl o_0 (List.map Val.row x0.list), .b x0.cut], .b x1], b_, by simp only [pf107, ares, aresL, ares_cellA (n := 5) H4 HB4 rfl, H5, ares_tmp, Option.map_some, ares_cellA (n := 5) H4 HB4 rfl, H5], ⟨x0, x1, ⟨o_0, rfl⟩, hk⟩, hb, hf⟩) hkp (σ := sl0 [.p kp vp 0, .i .i64 nest1]) rfl rfl hB Fr.refl h

/-! wreckage/lines.ReadValue -/
def r74_0 : List AI := [⟨(some 2), .alloc [.i .u8 0, .i .i64 0, .s [], .sl .full [], .b false], none⟩,
  ⟨(some 3), .mv (.c (.i .i64 0)), none⟩]
def r74_1 : List AI := [⟨(some 9), .mv (.t 0), none⟩,
  ⟨(some 10), .len true (.t 9), none⟩,
  ⟨(some 11), .bin .gtr (.t 10) (.c (.i .i64 1400000)), none⟩]
def r74_2 : List AI := [⟨(some 12), .build [.i .u8 0, .i .i64 0, .s [], .sl .full [], .b false] [], none⟩,
  ⟨none, .store 5 (.t 2) (.t 12), none⟩,
  ⟨(some 3), .mv (.c (.i .i64 4)), none⟩]
def r74_3 : List AI := [⟨(some 13), .mv (.t 0), none⟩,
  ⟨(some 14), .build [.s []] [(0, 1, (.t 13))], none⟩,
  ⟨(some 15), .box 1 (.t 14), none⟩,
  ⟨(some 4), .mv (.t 15), none⟩]
def r74_4 : List AI := [⟨(some 17), .mv (.t 4), none⟩,
  ⟨(some 18), .call true 107 [(.t 17), (.c (.i .i64 130))], none⟩,
  ⟨(some 16), .mv (.t 18), none⟩,
  ⟨(some 19), .ext 0 (.t 16), none⟩,
  ⟨(some 20), .ext 1 (.t 16), none⟩,
  ⟨(some 5), .alloc [.i .u8 0, .i .i64 0, .s [], .sl .full [], .b false], none⟩,
  ⟨none, .store 5 (.t 5) (.t 19), none⟩,
  ⟨(some 6), .mv (.t 20), none⟩]
def r74_5 : List AI := [⟨(some 21), .mv (.t 6), none⟩,
  ⟨(some 22), .un .not (.t 21), none⟩,
  ⟨(some 23), .mv (.t 22), none⟩,
  ⟨(some 24), .mv (.t 4), (some (23, false))⟩,
  ⟨(some 25), .nilc (.t 24), (some (23, false))⟩,
  ⟨(some 26), .fad 0 (.t 25), (some (23, false))⟩,
  ⟨(some 27), .load 1 false (.t 26), (some (23, false))⟩,
  ⟨(some 28), .bin .neq (.t 27) (.c (.s [])), (some (23, false))⟩,
  ⟨(some 29), .pick (.t 23) (.c (.b true)) (.t 28), none⟩]
def r74_6 : List AI := [⟨(some 30), .build [.i .u8 0, .i .i64 0, .s [], .sl .full [], .b false] [], none⟩,
  ⟨none, .store 5 (.t 2) (.t 30), none⟩,
  ⟨(some 3), .mv (.c (.i .i64 12)), none⟩]
def r74_7 : List AI := [⟨(some 32), .load 5 true (.t 5), none⟩,
  ⟨(some 33), .call false 72 [(.t 32)], none⟩,
  ⟨(some 31), .mv (.t 33), none⟩,
  ⟨(some 34), .ext 0 (.t 31), none⟩,
  ⟨(some 35), .ext 1 (.t 31), none⟩,
  ⟨(some 7), .mv (.t 34), none⟩,
  ⟨(some 8), .mv (.t 35), none⟩]
def r74_8 : List AI := [⟨(some 36), .mv (.t 8), none⟩,
  ⟨(some 37), .bin .neq (.t 36) (.c (.i .i64 0)), none⟩,
  ⟨(some 38), .mv (.t 37), none⟩,
  ⟨(some 39), .mv (.t 7), (some (38, false))⟩,
  ⟨(some 40), .mv (.t 0), (some (38, false))⟩,
  ⟨(some 41), .bin .neq (.t 39) (.t 40), (some (38, false))⟩,
  ⟨(some 42), .pick (.t 38) (.c (.b true)) (.t 41), none⟩]
def r74_9 : List AI := [⟨(some 43), .build [.i .u8 0, .i .i64 0, .s [], .sl .full [], .b false] [], none⟩,
  ⟨none, .store 5 (.t 2) (.t 43), none⟩,
  ⟨(some 3), .mv (.c (.i .i64 12)), none⟩]
def r74_10 : List AI := [⟨(some 44), .load 5 true (.t 5), none⟩,
  ⟨none, .store 5 (.t 2) (.t 44), none⟩,
  ⟨(some 3), .mv (.c (.i .i64 0)), none⟩]
abbrev b74 : AC := (.seq (.reg 0 r74_0) (.seq (.seq (.reg 1 r74_1) (.cond (.t 11) (.seq (.reg 2 r74_2) .ret) .skip)) (.seq (.reg 3 r74_3) (.seq (.reg 4 r74_4) (.seq (.seq (.reg 5 r74_5) (.cond (.t 29) (.seq (.reg 6 r74_6) .ret) .skip)) (.seq (.seq (.reg 7 r74_7) (.seq (.reg 8 r74_8) (.cond (.t 42) (.seq (.reg 9 r74_9) .ret) .skip))) (.seq (.reg 10 r74_10) .ret)))))))
def pf74 : AF := { nt := 45, res := [.cell 2 5 true, .tmp 3], body := b74 }
def T74_0 (prog : Prog) (K : Val → Int → Prop) (s0 : List UInt8) : Prop :=
  ((s0.length : Int) > 1400000 → K (Val.mk 0 0 [] ([] : List Val) false) 4) ∧ (¬((s0.length : Int) > 1400000) → ∃ r'2 : Val, ∃ r'3 : Bool, ∃ b'9 : Sc, PuX prog 107 (Bx [.s s0]) [.i .i64 130] (fun r => ∃ o'4_0 : Own, r = .tup [.ag [.i .u8 r'2.kind, .i .i64 r'2.int, .s r'2.text, .sl o'4_0 (List.map Val.row r'2.list), .b r'2.cut], .b r'3]) ((Bx [.s b'9.left])) ∧ ((!r'3) = true → K (Val.mk 0 0 [] ([] : List Val) false) 12) ∧ ((!r'3) = false → (b'9.left ≠ ([] : List UInt8) → K (Val.mk 0 0 [] ([] : List Val) false) 12) ∧ (¬(b'9.left ≠ ([] : List UInt8)) → ∃ r'12 : List UInt8, ∃ r'13 : Int, Pus prog 72 [.ag [.i .u8 r'2.kind, .i .i64 r'2.int, .s r'2.text, .sl .ext (List.map Val.row r'2.list), .b r'2.cut]] (.tup [.s r'12, .i .i64 r'13]) ∧ (r'13 ≠ 0 → K (Val.mk 0 0 [] ([] : List Val) false) 12) ∧ (¬(r'13 ≠ 0) → (r'12 ≠ s0 → K (Val.mk 0 0 [] ([] : List Val) false) 12) ∧ (¬(r'12 ≠ s0) → K r'2 0)))))
theorem w74_0 {prog : Prog} {d : Nat} {Q : AE → Sl → St → Prop} {K : Val → Int → Prop} (hQ : ∀ (σ : Sl) (st : St) (k0 : Key) (v0 : Nat) (o0_0 : Own) (x0 : Val) (x1 : Int), σ 2 = .p k0 v0 0 → lk st.bx k0 = some (v0, [.i .u8 x0.kind, .i .i64 x0.int, .s x0.text, .sl o0_0 (List.map Val.row x0.list), .b x0.cut]) → σ 3 = .i .i64 x1 → K x0 x1 → Q .ret σ st) {s0 : List UInt8}   {σ : Sl} {st : St} (H0 : σ 0 = .s s0) (h : T74_0 prog K s0) : W prog d (.seq (.reg 0 r74_0) (.seq (.seq (.reg 1 r74_1) (.cond (.t 11) (.seq (.reg 2 r74_2) .ret) .skip)) (.seq (.reg 3 r74_3) (.seq (.reg 4 r74_4) (.seq (.seq (.reg 5 r74_5) (.cond (.t 29) (.seq (.reg 6 r74_6) .ret) .skip)) (.seq (.seq (.reg 7 r74_7) (.seq (.reg 8 r74_8) (.cond (.t 42) (.seq (.reg 9 r74_9) .ret) .skip))) (.seq (.reg 10 r74_10) .ret))))))) σ st Q :=
  W.seq (W.reg (s_alloc (s_mvI rfl (s_nil (W.seq (W.seq (W.reg0 rfl fun _ _ => s_mvS H0 (s_lenS rfl (s_bin rfl rfl (abin_gtr _ _ _) (s_nil (c_split rfl (fun g'1 => W.seq (W.reg0 rfl fun _ _ => s_build f_nil (s_storeP rfl (show lk _ (d, 0) = some (_, ([.i .u8 0, .i .i64 0, .s [], .sl .full (List.map Val.row ([] : List Val)), .b false] : List AV)) from lk_here) rfl rfl rfl (s_mvI rfl (s_nil (W.ret (hQ _ _ _ _ _ _ _ rfl lk_here rfl  (h.1 g'1)))))))) (fun g'1 => W.skip (W.seq (W.reg0 rfl fun _ _ => s_mvS H0 (s_build (f_cons rfl rfl f_nil) (s_box rfl rfl (s_mv rfl (s_nil (W.seq (W.reg (s_mv rfl ((h.2 g'1).elim fun r'2 e'18 => e'18.elim fun r'3 e'19 => e'19.elim fun b'9 e'5 => s_callX1 (sec rfl (sec rfl sen)) e'5.1 (Nat.lt_succ_self d) (lk_other rfl lk_here) (fun o'4_0 st'6 hb'7 hf'8 => s_mvT rfl (s_ext rfl rfl (s_ext rfl rfl (s_alloc (s_storeP rfl ((hf'8.1 (d, 16389) (Nat.lt_succ_self d) (key_LL rfl)).trans (show lk _ (d, 16389) = some (_, ([.i .u8 0, .i .i64 0, .s [], .sl .full (List.map Val.row ([] : List Val)), .b false] : List AV)) from lk_here)) rfl rfl rfl (s_mvB rfl (s_nil (W.seq (W.seq (W.reg0 rfl fun _ _ => s_mvB rfl (s_not rfl (s_mvB rfl (s_emb (g := 23) rfl (fun g'10 => s_gn (b := true) rfl rfl (s_gn (b := true) rfl rfl (s_gn (b := true) rfl rfl (s_gn (b := true) rfl rfl (s_gn (b := true) rfl rfl (s_pickTB rfl rfl (s_nil (c_tt rfl (W.seq (W.reg0 rfl fun _ _ => s_build f_nil (s_storeP rfl (lk_other rfl ((hf'8.1 (d, 0) (Nat.lt_succ_self d) (key_LL rfl)).trans (lk_other rfl (lk_other rfl (show lk _ (d, 0) = some (_, ([.i .u8 0, .i .i64 0, .s [], .sl .full (List.map Val.row ([] : List Val)), .b false] : List AV)) from lk_here))))) rfl rfl rfl (s_mvI rfl (s_nil (W.ret (hQ _ _ _ _ _ _ _ rfl lk_here rfl  (e'5.2.1 g'10)))))))))))))))) (fun g'10 => s_gy rfl (s_mv rfl (s_gy rfl (s_nilP rfl (s_gy rfl (s_fadP rfl (s_gy rfl (s_loadP rfl (lk_other rfl hb'7) rfl rfl (s_gy rfl (s_bin rfl rfl (abin_sne _ _) (s_pickFB rfl rfl (s_nil (c_split rfl (fun g'11 => W.seq (W.reg0 rfl fun _ _ => s_build f_nil (s_storeP rfl (lk_other rfl ((hf'8.1 (d, 0) (Nat.lt_succ_self d) (key_LL rfl)).trans (lk_other rfl (lk_other rfl (show lk _ (d, 0) = some (_, ([.i .u8 0, .i .i64 0, .s [], .sl .full (List.map Val.row ([] : List Val)), .b false] : List AV)) from lk_here))))) rfl rfl rfl (s_mvI rfl (s_nil (W.ret (hQ _ _ _ _ _ _ _ rfl lk_here rfl  ((e'5.2.2 g'10).1 g'11)))))))) (fun g'11 => W.skip (W.seq (W.seq (W.reg0 rfl fun _ _ => s_loadP rfl lk_here rfl rfl (((e'5.2.2 g'10).2 g'11).elim fun r'12 e'17 => e'17.elim fun r'13 e'14 => s_call (sc rfl rfl sn) e'14.1 (s_mvT rfl (s_ext rfl rfl (s_ext rfl rfl (s_mvS rfl (s_mvI rfl (s_nil (W.seq (W.reg0 rfl fun _ _ => s_mvI rfl (s_bin rfl rfl (abin_neq _ _ _) (s_mvB rfl (s_em (g := 38) rfl (fun g'15 => s_gn (b := true) rfl rfl (s_gn (b := true) rfl rfl (s_gn (b := true) rfl rfl (s_pickTB rfl rfl (s_nil (c_tt rfl (W.seq (W.reg0 rfl fun _ _ => s_build f_nil (s_storeP rfl (lk_other rfl ((hf'8.1 (d, 0) (Nat.lt_succ_self d) (key_LL rfl)).trans (lk_other rfl (lk_other rfl (show lk _ (d, 0) = some (_, ([.i .u8 0, .i .i64 0, .s [], .sl .full (List.map Val.row ([] : List Val)), .b false] : List AV)) from lk_here))))) rfl rfl rfl (s_mvI rfl (s_nil (W.ret (hQ _ _ _ _ _ _ _ rfl lk_here rfl  (e'14.2.1 g'15)))))))))))))) (fun g'15 => s_gy rfl (s_mvS rfl (s_gy rfl (s_mvS H0 (s_gy rfl (s_bin rfl rfl (abin_sne _ _) (s_pickFB rfl rfl (s_nil (c_split rfl (fun g'16 => W.seq (W.reg0 rfl fun _ _ => s_build f_nil (s_storeP rfl (lk_other rfl ((hf'8.1 (d, 0) (Nat.lt_succ_self d) (key_LL rfl)).trans (lk_other rfl (lk_other rfl (show lk _ (d, 0) = some (_, ([.i .u8 0, .i .i64 0, .s [], .sl .full (List.map Val.row ([] : List Val)), .b false] : List AV)) from lk_here))))) rfl rfl rfl (s_mvI rfl (s_nil (W.ret (hQ _ _ _ _ _ _ _ rfl lk_here rfl  ((e'14.2.2 g'15).1 g'16)))))))) (fun g'16 => W.skip (W.seq (W.reg0 rfl fun _ _ => s_loadP rfl lk_here rfl rfl (s_storeP rfl (lk_other rfl ((hf'8.1 (d, 0) (Nat.lt_succ_self d) (key_LL rfl)).trans (lk_other rfl (lk_other rfl (show lk _ (d, 0) = some (_, ([.i .u8 0, .i .i64 0, .s [], .sl .full (List.map Val.row ([] : List Val)), .b false] : List AV)) from lk_here))))) rfl rfl rfl (s_mvI rfl (s_nil (W.ret (hQ _ _ _ _ _ _ _ rfl lk_here rfl  ((e'14.2.2 g'15).2 g'16))))))))))))))))))))))))))))))))))))))))))))))))))))))))))))))))))))))))))))))))))
theorem p74 {prog : Prog} (hf : prog.fn 74 = some pf74) {s0 : List UInt8} {K : Val → Int → Prop} (h : T74_0 prog K s0) : ∃ x0 : Val, ∃ x1 : Int, K x0 x1 ∧ Pus prog 74 [.s s0] (.tup [.ag [.i .u8 x0.kind, .i .i64 x0.int, .s x0.text, .sl .ext (List.map Val.row x0.list), .b x0.cut], .i .i64 x1]) := by
  obtain ⟨v, hv, x0, x1, hk, rfl⟩ := Pus.of (K := fun v => ∃ x0 : Val, ∃ x1 : Int, K x0 x1 ∧ v = .tup [.ag [.i .u8 x0.kind, .i .i64 x0.int, .s x0.text, .sl .ext (List.map Val.row x0.list), .b x0.cut], .i .i64 x1]) hf rfl (w74_0 (σ := sl0 [.s s0]) (fun σ st k0 v0 o0_0 x0 x1 H2 HB2 H3 hk => ⟨.tup [.ag [.i .u8 x0.kind, .i .i64 x0.int, .s x0.text, .sl o0_0 (List.map Val.row x0.list), .b x0.cut], .i .i64 x1], by simp only [pf74, ares, aresL, ares_cellA (n := 5) H2 HB2 rfl, H3, ares_tmp, Option.map_some], _, rfl, x0, x1, hk, rfl⟩) rfl h)
  exact ⟨x0, x1, hk, hv⟩

/-! wreckage/wreckageref38.ReadValue -/
def r75_0 : List AI := [⟨(some 2), .alloc [.i .u8 0, .i .i64 0, .s [], .sl .full [], .b false], none⟩,
  ⟨(some 3), .mv (.c (.i .i64 0)), none⟩]
def r75_1 : List AI := [⟨(some 7), .mv (.t 0), none⟩,
  ⟨(some 8), .len true (.t 7), none⟩,
  ⟨(some 9), .bin .gtr (.t 8) (.c (.i .i64 1400000)), none⟩]
def r75_2 : List AI := [⟨(some 10), .build [.i .u8 0, .i .i64 0, .s [], .sl .full [], .b false] [], none⟩,
  ⟨none, .store 5 (.t 2) (.t 10), none⟩,
  ⟨(some 3), .mv (.c (.i .i64 4)), none⟩]
def r75_3 : List AI := [⟨(some 12), .mv (.t 0), none⟩,
  ⟨(some 13), .call false 108 [(.t 12), (.c (.i .i64 130))], none⟩,
  ⟨(some 11), .mv (.t 13), none⟩,
  ⟨(some 14), .ext 0 (.t 11), none⟩,
  ⟨(some 15), .ext 1 (.t 11), none⟩,
  ⟨(some 16), .ext 2 (.t 11), none⟩,
  ⟨(some 4), .alloc [.i .u8 0, .i .i64 0, .s [], .sl .full [], .b false], none⟩,
  ⟨none, .store 5 (.t 4) (.t 14), none⟩,
  ⟨(some 5), .mv (.t 15), none⟩,
  ⟨(some 6), .mv (.t 16), none⟩]
def r75_4 : List AI := [⟨(some 17), .mv (.t 6), none⟩,
  ⟨(some 18), .un .not (.t 17), none⟩,
  ⟨(some 19), .mv (.t 18), none⟩,
  ⟨(some 20), .mv (.t 5), (some (19, false))⟩,
  ⟨(some 21), .bin .neq (.t 20) (.c (.s [])), (some (19, false))⟩,
  ⟨(some 22), .pick (.t 19) (.c (.b true)) (.t 21), none⟩,
  ⟨(some 23), .mv (.t 22), none⟩,
  ⟨(some 24), .load 5 true (.t 4), (some (23, false))⟩,
  ⟨(some 25), .call false 77 [(.t 24)], (some (23, false))⟩,
  ⟨(some 26), .bin .neq (.t 25) (.c (.i .i64 0)), (some (23, false))⟩,
  ⟨(some 27), .pick (.t 23) (.c (.b true)) (.t 26), none⟩,
  ⟨(some 28), .mv (.t 27), none⟩,
  ⟨(some 29), .load 5 true (.t 4), (some (28, false))⟩,
  ⟨(some 30), .call false 106 [(.t 29)], (some (28, false))⟩,
  ⟨(some 31), .mv (.t 0), (some (28, false))⟩,
  ⟨(some 32), .bin .neq (.t 30) (.t 31), (some (28, false))⟩,
  ⟨(some 33), .pick (.t 28) (.c (.b true)) (.t 32), none⟩]
def r75_5 : List AI := [⟨(some 34), .build [.i .u8 0, .i .i64 0, .s [], .sl .full [], .b false] [], none⟩,
  ⟨none, .store 5 (.t 2) (.t 34), none⟩,
  ⟨(some 3), .mv (.c (.i .i64 12)), none⟩]
def r75_6 : List AI := [⟨(some 35), .load 5 true (.t 4), none⟩,
  ⟨none, .store 5 (.t 2) (.t 35), none⟩,
  ⟨(some 3), .mv (.c (.i .i64 0)), none⟩]
abbrev b75 : AC := (.seq (.reg 0 r75_0) (.seq (.seq (.reg 1 r75_1) (.cond (.t 9) (.seq (.reg 2 r75_2) .ret) .skip)) (.seq (.reg 3 r75_3) (.seq (.seq (.reg 4 r75_4) (.cond (.t 33) (.seq (.reg 5 r75_5) .ret) .skip)) (.seq (.reg 6 r75_6) .ret)))))
def pf75 : AF := { nt := 36, res := [.cell 2 5 true, .tmp 3], body := b75 }
def T75_0 (prog : Prog) (K : Val → Int → Prop) (s0 : List UInt8) : Prop :=
  ((s0.length : Int) > 1400000 → K (Val.mk 0 0 [] ([] : List Val) false) 4) ∧ (¬((s0.length : Int) > 1400000) → ∃ r'2 : Val, ∃ r'3 : List UInt8, ∃ r'4 : Bool, Pus prog 108 [.s s0, .i .i64 130] (.tup [.ag [.i .u8 r'2.kind, .i .i64 r'2.int, .s r'2.text, .sl .ext (List.map Val.row r'2.list), .b r'2.cut], .s r'3, .b r'4]) ∧ ((!r'4) = true → K (Val.mk 0 0 [] ([] : List Val) false) 12) ∧ ((!r'4) = false → (r'3 ≠ ([] : List UInt8) → K (Val.mk 0 0 [] ([] : List Val) false) 12) ∧ (¬(r'3 ≠ ([] : List UInt8)) → ∃ r'8 : Int, Pus prog 77 [.ag [.i .u8 r'2.kind, .i .i64 r'2.int, .s r'2.text, .sl .ext (List.map Val.row r'2.list), .b r'2.cut]] (.i .i64 r'8) ∧ (r'8 ≠ 0 → K (Val.mk 0 0 [] ([] : List Val) false) 12) ∧ (¬(r'8 ≠ 0) → ∃ r'11 : List UInt8, Pus prog 106 [.ag [.i .u8 r'2.kind, .i .i64 r'2.int, .s r'2.text, .sl .ext (List.map Val.row r'2.list), .b r'2.cut]] (.s r'11) ∧ (r'11 ≠ s0 → K (Val.mk 0 0 [] ([] : List Val) false) 12) ∧ (¬(r'11 ≠ s0) → K r'2 0)))))
theorem w75_0 {prog : Prog} {d : Nat} {Q : AE → Sl → St → Prop} {K : Val → Int → Prop} (hQ : ∀ (σ : Sl) (st : St) (k0 : Key) (v0 : Nat) (o0_0 : Own) (x0 : Val) (x1 : Int), σ 2 = .p k0 v0 0 → lk st.bx k0 = some (v0, [.i .u8 x0.kind, .i .i64 x0.int, .s x0.text, .sl o0_0 (List.map Val.row x0.list), .b x0.cut]) → σ 3 = .i .i64 x1 → K x0 x1 → Q .ret σ st) {s0 : List UInt8}   {σ : Sl} {st : St} (H0 : σ 0 = .s s0) (h : T75_0 prog K s0) : W prog d (.seq (.reg 0 r75_0) (.seq (.seq (.reg 1 r75_1) (.cond (.t 9) (.seq (.reg 2 r75_2) .ret) .skip)) (.seq (.reg 3 r75_3) (.seq (.seq (.reg 4 r75_4) (.cond (.t 33) (.seq (.reg 5 r75_5) .ret) .skip)) (.seq (.reg 6 r75_6) .ret))))) σ st Q :=
  W.seq (W.reg (s_alloc (s_mvI rfl (s_nil (W.seq (W.seq (W.reg0 rfl fun _ _ => s_mvS H0 (s_lenS rfl (s_bin rfl rfl (abin_gtr _ _ _) (s_nil (c_split rfl (fun g'1 => W.seq (W.reg0 rfl fun _ _ => s_build f_nil (s_storeP rfl (show lk _ (d, 0) = some (_, ([.i .u8 0, .i .i64 0, .s [], .sl .full (List.map Val.row ([] : List Val)), .b false] : List AV)) from lk_here) rfl rfl rfl (s_mvI rfl (s_nil (W.ret (hQ _ _ _ _ _ _ _ rfl lk_here rfl  (h.1 g'1)))))))) (fun g'1 => W.skip (W.seq (W.reg (s_mvS H0 ((h.2 g'1).elim fun r'2 e'14 => e'14.elim fun r'3 e'15 => e'15.elim fun r'4 e'5 => s_call (sc rfl rfl (sc rfl rfl sn)) e'5.1 (s_mvT rfl (s_ext rfl rfl (s_ext rfl rfl (s_ext rfl rfl (s_alloc (s_storeP rfl (show lk _ (d, 12294) = some (_, ([.i .u8 0, .i .i64 0, .s [], .sl .full (List.map Val.row ([] : List Val)), .b false] : List AV)) from lk_here) rfl rfl rfl (s_mvS rfl (s_mvB rfl (s_nil (W.seq (W.seq (W.reg0 rfl fun _ _ => s_mvB rfl (s_not rfl (s_mvB rfl (s_emb (g := 19) rfl (fun g'6 => s_gn (b := true) rfl rfl (s_gn (b := true) rfl rfl (s_pickTB rfl rfl (s_mvB rfl (s_gn (b := true) rfl rfl (s_gn (b := true) rfl rfl (s_gn (b := true) rfl rfl (s_pickTB rfl rfl (s_mvB rfl (s_gn (b := true) rfl rfl (s_gn (b := true) rfl rfl (s_gn (b := true) rfl rfl (s_gn (b := true) rfl rfl (s_pickTB rfl rfl (s_nil (c_tt rfl (W.seq (W.reg0 rfl fun _ _ => s_build f_nil (s_storeP rfl (lk_other rfl (lk_other rfl (show lk _ (d, 0) = some (_, ([.i .u8 0, .i .i64 0, .s [], .sl .full (List.map Val.row ([] : List Val)), .b false] : List AV)) from lk_here))) rfl rfl rfl (s_mvI rfl (s_nil (W.ret (hQ _ _ _ _ _ _ _ rfl lk_here rfl  (e'5.2.1 g'6)))))))))))))))))))))))) (fun g'6 => s_gy rfl (s_mvS rfl (s_gy rfl (s_bin rfl rfl (abin_sne _ _) (s_pickFB rfl rfl (s_mvB rfl (s_em (g := 23) rfl (fun g'7 => s_gn (b := true) rfl rfl (s_gn (b := true) rfl rfl (s_gn (b := true) rfl rfl (s_pickTB rfl rfl (s_mvB rfl (s_gn (b := true) rfl rfl (s_gn (b := true) rfl rfl (s_gn (b := true) rfl rfl (s_gn (b := true) rfl rfl (s_pickTB rfl rfl (s_nil (c_tt rfl (W.seq (W.reg0 rfl fun _ _ => s_build f_nil (s_storeP rfl (lk_other rfl (lk_other rfl (show lk _ (d, 0) = some (_, ([.i .u8 0, .i .i64 0, .s [], .sl .full (List.map Val.row ([] : List Val)), .b false] : List AV)) from lk_here))) rfl rfl rfl (s_mvI rfl (s_nil (W.ret (hQ _ _ _ _ _ _ _ rfl lk_here rfl  ((e'5.2.2 g'6).1 g'7)))))))))))))))))))) (fun g'7 => s_gy rfl (s_loadP rfl lk_here rfl rfl (s_gy rfl (((e'5.2.2 g'6).2 g'7).elim fun r'8 e'9 => s_call (sc rfl rfl sn) e'9.1 (s_gy rfl (s_bin rfl rfl (abin_neq _ _ _) (s_pickFB rfl rfl (s_mvB rfl (s_em (g := 28) rfl (fun g'10 => s_gn (b := true) rfl rfl (s_gn (b := true) rfl rfl (s_gn (b := true) rfl rfl (s_gn (b := true) rfl rfl (s_pickTB rfl rfl (s_nil (c_tt rfl (W.seq (W.reg0 rfl fun _ _ => s_build f_nil (s_storeP rfl (lk_other rfl (lk_other rfl (show lk _ (d, 0) = some (_, ([.i .u8 0, .i .i64 0, .s [], .sl .full (List.map Val.row ([] : List Val)), .b false] : List AV)) from lk_here))) rfl rfl rfl (s_mvI rfl (s_nil (W.ret (hQ _ _ _ _ _ _ _ rfl lk_here rfl  (e'9.2.1 g'10))))))))))))))) (fun g'10 => s_gy rfl (s_loadP rfl lk_here rfl rfl (s_gy rfl ((e'9.2.2 g'10).elim fun r'11 e'12 => s_call (sc rfl rfl sn) e'12.1 (s_gy rfl (s_mvS H0 (s_gy rfl (s_bin rfl rfl (abin_sne _ _) (s_pickFB rfl rfl (s_nil (c_split rfl (fun g'13 => W.seq (W.reg0 rfl fun _ _ => s_build f_nil (s_storeP rfl (lk_other rfl (lk_other rfl (show lk _ (d, 0) = some (_, ([.i .u8 0, .i .i64 0, .s [], .sl .full (List.map Val.row ([] : List Val)), .b false] : List AV)) from lk_here))) rfl rfl rfl (s_mvI rfl (s_nil (W.ret (hQ _ _ _ _ _ _ _ rfl lk_here rfl  (e'12.2.1 g'13)))))))) (fun g'13 => W.skip (W.seq (W.reg0 rfl fun _ _ => s_loadP rfl lk_here rfl rfl (s_storeP rfl (lk_other rfl (lk_other rfl (show lk _ (d, 0) = some (_, ([.i .u8 0, .i .i64 0, .s [], .sl .full (List.map Val.row ([] : List Val)), .b false] : List AV)) from lk_here))) rfl rfl rfl (s_mvI rfl (s_nil (W.ret (hQ _ _ _ _ _ _ _ rfl lk_here rfl  (e'12.2.2 g'13)))))))))))))))))))))))))))))))))))))))))))))))))))))))))))))))))))
theorem p75 {prog : Prog} (hf : prog.fn 75 = some pf75) {s0 : List UInt8} {K : Val → Int → Prop} (h : T75_0 prog K s0) : ∃ x0 : Val, ∃ x1 : Int, K x0 x1 ∧ Pus prog 75 [.s s0] (.tup [.ag [.i .u8 x0.kind, .i .i64 x0.int, .s x0.text, .sl .ext (List.map Val.row x0.list), .b x0.cut], .i .i64 x1]) := by
  obtain ⟨v, hv, x0, x1, hk, rfl⟩ := Pus.of (K := fun v => ∃ x0 : Val, ∃ x1 : Int, K x0 x1 ∧ v = .tup [.ag [.i .u8 x0.kind, .i .i64 x0.int, .s x0.text, .sl .ext (List.map Val.row x0.list), .b x0.cut], .i .i64 x1]) hf rfl (w75_0 (σ := sl0 [.s s0]) (fun σ st k0 v0 o0_0 x0 x1 H2 HB2 H3 hk => ⟨.tup [.ag [.i .u8 x0.kind, .i .i64 x0.int, .s x0.text, .sl o0_0 (List.map Val.row x0.list), .b x0.cut], .i .i64 x1], by simp only [pf75, ares, aresL, ares_cellA (n := 5) H2 HB2 rfl, H3, ares_tmp, Option.map_some], _, rfl, x0, x1, hk, rfl⟩) rfl h)
  exact ⟨x0, x1, hk, hv⟩

/-! wreckage/wreckageref38.read -/
def r108_0 : List AI := [⟨(some 4), .alloc [.i .u8 0, .i .i64 0, .s [], .sl .full [], .b false], none⟩,
  ⟨(some 5), .mv (.c (.s [])), none⟩,
  ⟨(some 6), .mv (.c (.b false)), none⟩]
def r108_1 : List AI := [⟨(some 19), .mv (.t 1), none⟩,
  ⟨(some 20), .bin .eql (.t 19) (.c (.i .i64 0)), none⟩,
  ⟨(some 21), .mv (.t 20), none⟩,
  ⟨(some 22), .mv (.t 0), (some (21, false))⟩,
  ⟨(some 23), .len true (.t 22), (some (21, false))⟩,
  ⟨(some 24), .bin .eql (.t 23) (.c (.i .i64 0)), (some (21, false))⟩,
  ⟨(some 25), .pick (.t 21) (.c (.b true)) (.t 24), none⟩]
def r108_2 : List AI := [⟨(some 26), .build [.i .u8 0, .i .i64 0, .s [], .sl .full [], .b false] [], none⟩,
  ⟨none, .store 5 (.t 4) (.t 26), none⟩,
  ⟨(some 5), .mv (.c (.s [])), none⟩,
  ⟨(some 6), .mv (.c (.b false)), none⟩]
def r108_3 : List AI := [⟨(some 27), .bslice [.s []] 5 [(0, (.c (.s [116, 114, 117, 101]))), (1, (.c (.s [102, 97, 108, 115, 101]))), (2, (.c (.s [110, 105, 108]))), (3, (.c (.s [38, 46, 46, 46]))), (4, (.c (.s [60, 46, 46, 46, 62])))], none⟩,
  ⟨(some 7), .mv (.t 27), none⟩]
def r108_4 : List AI := [⟨(some 28), .build [.i .u8 0, .i .i64 0, .s [], .sl .full [], .b false] [(0, 1, (.c (.i .u8 1))), (1, 1, (.c (.i .i64 1)))], none⟩,
  ⟨(some 29), .build [.i .u8 0, .i .i64 0, .s [], .sl .full [], .b false] [(0, 1, (.c (.i .u8 1)))], none⟩,
  ⟨(some 30), .build [.i .u8 0, .i .i64 0, .s [], .sl .full [], .b false] [(0, 1, (.c (.i .u8 4)))], none⟩,
  ⟨(some 31), .build [.i .u8 0, .i .i64 0, .s [], .sl .full [], .b false] [(0, 1, (.c (.i .u8 4))), (4, 1, (.c (.b true)))], none⟩,
  ⟨(some 32), .build [.i .u8 0, .i .i64 0, .s [], .sl .full [], .b false] [(0, 1, (.c (.i .u8 7))), (4, 1, (.c (.b true)))], none⟩,
  ⟨(some 33), .bslice [.i .u8 0, .i .i64 0, .s [], .sl .full [], .b false] 5 [(0, (.t 28)), (1, (.t 29)), (2, (.t 30)), (3, (.t 31)), (4, (.t 32))], none⟩,
  ⟨(some 8), .mv (.t 33), none⟩]
def r108_5 : List AI := [⟨(some 9), .mv (.c (.i .i64 0)), none⟩]
def r108_6 : List AI := [⟨(some 34), .mv (.t 9), none⟩,
  ⟨(some 35), .mv (.t 7), none⟩,
  ⟨(some 36), .len false (.t 35), none⟩,
  ⟨(some 37), .bin .lss (.t 34) (.t 36), none⟩]
def r108_7 : List AI := [⟨(some 40), .mv (.t 0), none⟩,
  ⟨(some 41), .mv (.t 7), none⟩,
  ⟨(some 42), .mv (.t 9), none⟩,
  ⟨(some 43), .iaL 1 (.t 41) (.t 42), none⟩,
  ⟨(some 44), .load 1 false (.t 43), none⟩,
  ⟨(some 45), .call false 132 [(.t 40), (.t 44)], none⟩]
def r108_8 : List AI := [⟨(some 46), .mv (.t 8), none⟩,
  ⟨(some 47), .mv (.t 9), none⟩,
  ⟨(some 48), .iaL 5 (.t 46) (.t 47), none⟩,
  ⟨(some 49), .ldf 5 true (.t 48), none⟩,
  ⟨(some 50), .mv (.t 0), none⟩,
  ⟨(some 51), .mv (.t 7), none⟩,
  ⟨(some 52), .mv (.t 9), none⟩,
  ⟨(some 53), .iaL 1 (.t 51) (.t 52), none⟩,
  ⟨(some 54), .ldf 1 false (.t 53), none⟩,
  ⟨(some 55), .len true (.t 54), none⟩,
  ⟨(some 56), .slS (.t 50) (some (.t 55)) none, none⟩,
  ⟨none, .store 5 (.t 4) (.t 49), none⟩,
  ⟨(some 5), .mv (.t 56), none⟩,
  ⟨(some 6), .mv (.c (.b true)), none⟩]
def r108_9 : List AI := [⟨(some 38), .mv (.t 9), none⟩,
  ⟨(some 39), .bin .add (.t 38) (.c (.i .i64 1)), none⟩,
  ⟨(some 9), .mv (.t 39), none⟩]
def r108_10 : List AI := [⟨(some 57), .mv (.t 0), none⟩,
  ⟨(some 58), .ixS (.t 57) (.c (.i .i64 0)), none⟩]
def r108_11 : List AI := [⟨(some 60), .bin .eql (.t 58) (.c (.i .u8 38)), none⟩,
  ⟨(some 59), .mv (.t 60), none⟩]
def r108_12 : List AI := [⟨(some 62), .mv (.t 0), none⟩,
  ⟨(some 63), .slS (.t 62) (some (.c (.i .i64 1))) none, none⟩,
  ⟨(some 64), .mv (.t 1), none⟩,
  ⟨(some 65), .bin .sub (.t 64) (.c (.i .i64 1)), none⟩,
  ⟨(some 66), .call false 108 [(.t 63), (.t 65)], none⟩,
  ⟨(some 61), .mv (.t 66), none⟩,
  ⟨(some 67), .ext 0 (.t 61), none⟩,
  ⟨(some 68), .ext 1 (.t 61), none⟩,
  ⟨(some 69), .ext 2 (.t 61), none⟩,
  ⟨(some 10), .alloc [.i .u8 0, .i .i64 0, .s [], .sl .full [], .b false], none⟩,
  ⟨none, .store 5 (.t 10) (.t 67), none⟩,
  ⟨(some 11), .mv (.t 68), none⟩,
  ⟨(some 12), .mv (.t 69), none⟩]
def r108_13 : List AI := [⟨(some 70), .load 5 true (.t 10), none⟩,
  ⟨(some 71), .bslice [.i .u8 0, .i .i64 0, .s [], .sl .full [], .b false] 1 [(0, (.t 70))], none⟩,
  ⟨(some 72), .build [.i .u8 0, .i .i64 0, .s [], .sl .full [], .b false] [(0, 1, (.c (.i .u8 4))), (3, 1, (.t 71))], none⟩,
  ⟨(some 73), .mv (.t 11), none⟩,
  ⟨(some 74), .mv (.t 12), none⟩,
  ⟨none, .store 5 (.t 4) (.t 72), none⟩,
  ⟨(some 5), .mv (.t 73), none⟩,
  ⟨(some 6), .mv (.t 74), none⟩]
def r108_14 : List AI := [⟨(some 76), .bin .eql (.t 58) (.c (.i .u8 123)), none⟩,
  ⟨(some 75), .mv (.t 76), none⟩]
def r108_15 : List AI := [⟨(some 77), .mv (.t 0), none⟩,
  ⟨(some 78), .slS (.t 77) (some (.c (.i .i64 1))) none, none⟩,
  ⟨(some 79), .mv (.t 1), none⟩,
  ⟨(some 80), .call false 133 [(.t 78), (.c (.i .u8 5)), (.c (.i .u8 125)), (.t 79)], none⟩,
  ⟨(some 81), .ext 0 (.t 80), none⟩,
  ⟨(some 82), .ext 1 (.t 80), none⟩,
  ⟨(some 83), .ext 2 (.t 80), none⟩,
  ⟨none, .store 5 (.t 4) (.t 81), none⟩,
  ⟨(some 5), .mv (.t 82), none⟩,
  ⟨(some 6), .mv (.t 83), none⟩]
def r108_16 : List AI := [⟨(some 85), .bin .eql (.t 58) (.c (.i .u8 91)), none⟩,
  ⟨(some 84), .mv (.t 85), none⟩]
def r108_17 : List AI := [⟨(some 86), .mv (.t 0), none⟩,
  ⟨(some 87), .slS (.t 86) (some (.c (.i .i64 1))) none, none⟩,
  ⟨(some 88), .mv (.t 1), none⟩,
  ⟨(some 89), .call false 133 [(.t 87), (.c (.i .u8 6)), (.c (.i .u8 93)), (.t 88)], none⟩,
  ⟨(some 90), .ext 0 (.t 89), none⟩,
  ⟨(some 91), .ext 1 (.t 89), none⟩,
  ⟨(some 92), .ext 2 (.t 89), none⟩,
  ⟨none, .store 5 (.t 4) (.t 90), none⟩,
  ⟨(some 5), .mv (.t 91), none⟩,
  ⟨(some 6), .mv (.t 92), none⟩]
def r108_18 : List AI := [⟨(some 94), .bin .eql (.t 58) (.c (.i .u8 60)), none⟩,
  ⟨(some 93), .mv (.t 94), none⟩]
def r108_19 : List AI := [⟨(some 95), .mv (.t 0), none⟩,
  ⟨(some 96), .slS (.t 95) (some (.c (.i .i64 1))) none, none⟩,
  ⟨(some 97), .mv (.t 1), none⟩,
  ⟨(some 98), .call false 133 [(.t 96), (.c (.i .u8 7)), (.c (.i .u8 62)), (.t 97)], none⟩,
  ⟨(some 99), .ext 0 (.t 98), none⟩,
  ⟨(some 100), .ext 1 (.t 98), none⟩,
  ⟨(some 101), .ext 2 (.t 98), none⟩,
  ⟨none, .store 5 (.t 4) (.t 99), none⟩,
  ⟨(some 5), .mv (.t 100), none⟩,
  ⟨(some 6), .mv (.t 101), none⟩]
def r108_20 : List AI := [⟨(some 103), .bin .eql (.t 58) (.c (.i .u8 34)), none⟩,
  ⟨(some 102), .mv (.t 103), none⟩]
def r108_21 : List AI := [⟨(some 104), .mv (.t 0), none⟩,
  ⟨(some 105), .call false 134 [(.t 104)], none⟩,
  ⟨(some 13), .mv (.t 105), none⟩]
def r108_22 : List AI := [⟨(some 107), .mv (.t 0), none⟩,
  ⟨(some 108), .mv (.t 13), none⟩,
  ⟨(some 109), .slS (.t 107) none (some (.t 108)), none⟩,
  ⟨(some 110), .call false 26 [(.t 109)], none⟩,
  ⟨(some 106), .mv (.t 110), none⟩,
  ⟨(some 111), .ext 0 (.t 106), none⟩,
  ⟨(some 112), .ext 1 (.t 106), none⟩,
  ⟨(some 14), .mv (.t 111), none⟩,
  ⟨(some 15), .mv (.t 112), none⟩]
def r108_23 : List AI := [⟨(some 113), .mv (.t 14), none⟩,
  ⟨(some 114), .build [.i .u8 0, .i .i64 0, .s [], .sl .full [], .b false] [(0, 1, (.c (.i .u8 3))), (2, 1, (.t 113))], none⟩,
  ⟨(some 115), .mv (.t 0), none⟩,
  ⟨(some 116), .mv (.t 13), none⟩,
  ⟨(some 117), .slS (.t 115) (some (.t 116)) none, none⟩,
  ⟨(some 118), .mv (.t 15), none⟩,
  ⟨(some 119), .bin .eql (.t 118) (.c (.i .i64 0)), none⟩,
  ⟨none, .store 5 (.t 4) (.t 114), none⟩,
  ⟨(some 5), .mv (.t 117), none⟩,
  ⟨(some 6), .mv (.t 119), none⟩]
def r108_24 : List AI := [⟨(some 120), .mv (.t 0), none⟩,
  ⟨(some 121), .call false 135 [(.t 120)], none⟩,
  ⟨(some 16), .mv (.t 121), none⟩]
def r108_25 : List AI := [⟨(some 123), .mv (.t 0), none⟩,
  ⟨(some 124), .mv (.t 16), none⟩,
  ⟨(some 125), .slS (.t 123) none (some (.t 124)), none⟩,
  ⟨(some 126), .call false 22 [(.t 125)], none⟩,
  ⟨(some 122), .mv (.t 126), none⟩,
  ⟨(some 127), .ext 0 (.t 122), none⟩,
  ⟨(some 128), .ext 1 (.t 122), none⟩,
  ⟨(some 17), .mv (.t 127), none⟩,
  ⟨(some 18), .mv (.t 128), none⟩]
def r108_26 : List AI := [⟨(some 129), .mv (.t 17), none⟩,
  ⟨(some 130), .build [.i .u8 0, .i .i64 0, .s [], .sl .full [], .b false] [(0, 1, (.c (.i .u8 2))), (1, 1, (.t 129))], none⟩,
  ⟨(some 131), .mv (.t 0), none⟩,
  ⟨(some 132), .mv (.t 16), none⟩,
  ⟨(some 133), .slS (.t 131) (some (.t 132)) none, none⟩,
  ⟨(some 134), .mv (.t 18), none⟩,
  ⟨(some 135), .bin .eql (.t 134) (.c (.i .i64 0)), none⟩,
  ⟨none, .store 5 (.t 4) (.t 130), none⟩,
  ⟨(some 5), .mv (.t 133), none⟩,
  ⟨(some 6), .mv (.t 135), none⟩]
abbrev l108_0 : AC := (.seq (.seq (.reg 6 r108_6) (.cond (.t 37) .skip (.exit 0))) (.seq (.block 1 (.seq (.reg 8 r108_7) (.cond (.t 45) (.seq (.reg 9 r108_8) .ret) .skip))) (.reg 7 r108_9)))
abbrev c108_1 : AC := (.cond (.t 59) (.seq (.reg 12 r108_12) (.seq (.reg 13 r108_13) .ret)) (.seq (.reg 14 r108_14) (.cond (.t 75) (.seq (.reg 15 r108_15) .ret) (.seq (.reg 16 r108_16) (.cond (.t 84) (.seq (.reg 17 r108_17) .ret) (.seq (.reg 18 r108_18) (.cond (.t 93) (.seq (.reg 19 r108_19) .ret) (.seq (.reg 20 r108_20) (.cond (.t 102) (.seq (.reg 21 r108_21) (.seq (.reg 22 r108_22) (.seq (.reg 23 r108_23) .ret))) .skip)))))))))
abbrev c108_2 : AC := (.block 2 (.seq (.reg 11 r108_11) c108_1))
abbrev c108_3 : AC := (.seq (.seq (.reg 10 r108_10) c108_2) (.seq (.reg 24 r108_24) (.seq (.reg 25 r108_25) (.seq (.reg 26 r108_26) .ret))))
abbrev c108_4 : AC := (.seq (.seq (.reg 5 r108_5) (.block 0 (.loop l108_0))) c108_3)
abbrev c108_5 : AC := (.seq (.reg 4 r108_4) c108_4)
abbrev c108_6 : AC := (.seq (.reg 3 r108_3) c108_5)
abbrev c108_7 : AC := (.seq (.seq (.reg 1 r108_1) (.cond (.t 25) (.seq (.reg 2 r108_2) .ret) .skip)) c108_6)
abbrev b108 : AC := (.seq (.reg 0 r108_0) c108_7)
def pf108 : AF := { nt := 136, res := [.cell 4 5 true, .tmp 5, .tmp 6], body := b108 }
abbrev I108_0 (prog : Prog) (d : Nat) (Q : AE → Sl → St → Prop) (s0 : List UInt8) (deep1 : Int) (words7 : List (List UInt8)) (values8 : List Val) (i9 : Int) (m0 : Val) : Prop :=
  ∀ (σ : Sl) (st : St) (o_words7 o_values8 o_m0_3 : Own) (v0 : Nat), σ 0 = .s s0 → σ 1 = .i .i64 deep1 → σ 4 = .p (d, 0) v0 0 → σ 7 = .sl o_words7 (List.map rowS words7) → σ 8 = .sl o_values8 (List.map Val.row values8) → σ 9 = .i .i64 i9 → ApM d st.ow o_words7 words7.length → ApM d st.ow o_values8 values8.length → lk st.bx (d, 0) = some (v0, [.i .u8 m0.kind, .i .i64 m0.int, .s m0.text, .sl o_m0_3 (List.map Val.row m0.list), .b m0.cut]) → W prog d (.loop l108_0) σ st (blockW 0 (thenW prog d c108_3 Q))
def T108_8 (prog : Prog) (K : Val → List UInt8 → Bool → Prop) (s0 : List UInt8) (deep1 : Int) (t58 : Int) (t59 : Bool) (m0 : Val) : Prop :=
  (t59 = true → 1 ≤ s0.length ∧ ∃ r'2 : Val, ∃ r'3 : List UInt8, ∃ r'4 : Bool, Pus prog 108 [.s (s0.drop 1), .i .i64 (IntKind.i64.wrap (deep1 - 1))] (.tup [.ag [.i .u8 r'2.kind, .i .i64 r'2.int, .s r'2.text, .sl .ext (List.map Val.row r'2.list), .b r'2.cut], .s r'3, .b r'4]) ∧ K (Val.mk 4 0 [] [r'2] false) r'3 r'4) ∧ (t59 = false → (t58 = 123 → 1 ≤ s0.length ∧ ∃ r'9 : Val, ∃ r'10 : List UInt8, ∃ r'11 : Bool, Pus prog 133 [.s (s0.drop 1), .i .u8 5, .i .u8 125, .i .i64 deep1] (.tup [.ag [.i .u8 r'9.kind, .i .i64 r'9.int, .s r'9.text, .sl .ext (List.map Val.row r'9.list), .b r'9.cut], .s r'10, .b r'11]) ∧ K r'9 r'10 r'11) ∧ (¬(t58 = 123) → (t58 = 91 → 1 ≤ s0.length ∧ ∃ r'16 : Val, ∃ r'17 : List UInt8, ∃ r'18 : Bool, Pus prog 133 [.s (s0.drop 1), .i .u8 6, .i .u8 93, .i .i64 deep1] (.tup [.ag [.i .u8 r'16.kind, .i .i64 r'16.int, .s r'16.text, .sl .ext (List.map Val.row r'16.list), .b r'16.cut], .s r'17, .b r'18]) ∧ K r'16 r'17 r'18) ∧ (¬(t58 = 91) → (t58 = 60 → 1 ≤ s0.length ∧ ∃ r'23 : Val, ∃ r'24 : List UInt8, ∃ r'25 : Bool, Pus prog 133 [.s (s0.drop 1), .i .u8 7, .i .u8 62, .i .i64 deep1] (.tup [.ag [.i .u8 r'23.kind, .i .i64 r'23.int, .s r'23.text, .sl .ext (List.map Val.row r'23.list), .b r'23.cut], .s r'24, .b r'25]) ∧ K r'23 r'24 r'25) ∧ (¬(t58 = 60) → (t58 = 34 → ∃ r'30 : Int, Pus prog 134 [.s s0] (.i .i64 r'30) ∧ 0 ≤ r'30 ∧ (r'30).toNat ≤ s0.length ∧ ∃ r'32 : List UInt8, ∃ r'33 : Int, Pus prog 26 [.s (s0.take (r'30).toNat)] (.tup [.s r'32, .i .i64 r'33]) ∧ 0 ≤ r'30 ∧ (r'30).toNat ≤ s0.length ∧ K (Val.mk 3 0 r'32 ([] : List Val) false) (s0.drop (r'30).toNat) (decide (r'33 = 0))) ∧ (¬(t58 = 34) → ∃ r'36 : Int, Pus prog 135 [.s s0] (.i .i64 r'36) ∧ 0 ≤ r'36 ∧ (r'36).toNat ≤ s0.length ∧ ∃ r'38 : Int, ∃ r'39 : Int, Pus prog 22 [.s (s0.take (r'36).toNat)] (.tup [.i .i64 r'38, .i .i64 r'39]) ∧ 0 ≤ r'36 ∧ (r'36).toNat ≤ s0.length ∧ K (Val.mk 2 r'38 [] ([] : List Val) false) (s0.drop (r'36).toNat) (decide (r'39 = 0)))))))
theorem w108_8 {prog : Prog} {d : Nat} {Q : AE → Sl → St → Prop} {K : Val → List UInt8 → Bool → Prop} (hQ : ∀ (σ : Sl) (st : St) (k0 : Key) (v0 : Nat) (o0_0 : Own) (x0 : Val) (x1 : List UInt8) (x2 : Bool), σ 4 = .p k0 v0 0 → lk st.bx k0 = some (v0, [.i .u8 x0.kind, .i .i64 x0.int, .s x0.text, .sl o0_0 (List.map Val.row x0.list), .b x0.cut]) → σ 5 = .s x1 → σ 6 = .b x2 → K x0 x1 x2 → Q .ret σ st) {s0 : List UInt8} {deep1 : Int} {t58 : Int} {t59 : Bool} {m0 : Val}   {σ : Sl} {st : St} {o_m0_3 : Own} {v0 : Nat} (H0 : σ 0 = .s s0) (H1 : σ 1 = .i .i64 deep1) (H4 : σ 4 = .p (d, 0) v0 0) (H58 : σ 58 = .i .u8 t58) (H59 : σ 59 = .b t59) (B0 : lk st.bx (d, 0) = some (v0, [.i .u8 m0.kind, .i .i64 m0.int, .s m0.text, .sl o_m0_3 (List.map Val.row m0.list), .b m0.cut])) (h : T108_8 prog K s0 deep1 t58 t59 m0) : W prog d c108_1 σ st (blockW 2 (thenW prog d (.seq (.reg 24 r108_24) (.seq (.reg 25 r108_25) (.seq (.reg 26 r108_26) .ret))) Q)) :=
  c_bool H59 (fun g'1 => W.seq (W.reg (s_mvS H0 (s_slS_lo rfl rfl (by decide) (h.1 g'1).1 (s_mvI H1 (s_bin rfl rfl (abin_sub _ _ _) ((h.1 g'1).2.elim fun r'2 e'6 => e'6.elim fun r'3 e'7 => e'7.elim fun r'4 e'5 => s_call (sc rfl rfl (sc rfl rfl sn)) e'5.1 (s_mvT rfl (s_ext rfl rfl (s_ext rfl rfl (s_ext rfl rfl (s_alloc (s_storeP rfl (show lk _ (d, 49161) = some (_, ([.i .u8 0, .i .i64 0, .s [], .sl .full (List.map Val.row ([] : List Val)), .b false] : List AV)) from lk_here) rfl rfl rfl (s_mvS rfl (s_mvB rfl (s_nil (W.seq (W.reg0 rfl fun _ _ => s_loadP rfl lk_here rfl rfl (s_bslM (f := Val.row) (l := [r'2]) rfl rfl (g_cons rfl rfl rfl g_nil) (by simp only [List.map_cons, List.map_nil, Val.row_eq]; rfl) (s_build (f_cons rfl rfl (f_cons rfl rfl f_nil)) (s_mvS rfl (s_mvB rfl (s_storeP H4 (lk_other rfl (lk_other rfl B0)) rfl rfl rfl (s_mvS rfl (s_mvB rfl (s_nil (W.ret (hQ _ _ _ _ _ _ _ _ H4 lk_here rfl rfl  e'5.2)))))))))))))))))))))))))))) (fun g'1 => W.seq (W.reg0 rfl fun _ _ => s_bin H58 rfl (abin_eql _ _ _) (s_mvB rfl (s_nil (c_split rfl (fun g'8 => W.seq (W.reg0 rfl fun _ _ => s_mvS H0 (s_slS_lo rfl rfl (by decide) ((h.2 g'1).1 g'8).1 (s_mvI H1 (((h.2 g'1).1 g'8).2.elim fun r'9 e'13 => e'13.elim fun r'10 e'14 => e'14.elim fun r'11 e'12 => s_call (sc rfl rfl (sc rfl rfl (sc rfl rfl (sc rfl rfl sn)))) e'12.1 (s_ext rfl rfl (s_ext rfl rfl (s_ext rfl rfl (s_storeP H4 B0 rfl rfl rfl (s_mvS rfl (s_mvB rfl (s_nil (W.ret (hQ _ _ _ _ _ _ _ _ H4 lk_here rfl rfl  e'12.2)))))))))))))) (fun g'8 => W.seq (W.reg0 rfl fun _ _ => s_bin H58 rfl (abin_eql _ _ _) (s_mvB rfl (s_nil (c_split rfl (fun g'15 => W.seq (W.reg0 rfl fun _ _ => s_mvS H0 (s_slS_lo rfl rfl (by decide) (((h.2 g'1).2 g'8).1 g'15).1 (s_mvI H1 ((((h.2 g'1).2 g'8).1 g'15).2.elim fun r'16 e'20 => e'20.elim fun r'17 e'21 => e'21.elim fun r'18 e'19 => s_call (sc rfl rfl (sc rfl rfl (sc rfl rfl (sc rfl rfl sn)))) e'19.1 (s_ext rfl rfl (s_ext rfl rfl (s_ext rfl rfl (s_storeP H4 B0 rfl rfl rfl (s_mvS rfl (s_mvB rfl (s_nil (W.ret (hQ _ _ _ _ _ _ _ _ H4 lk_here rfl rfl  e'19.2)))))))))))))) (fun g'15 => W.seq (W.reg0 rfl fun _ _ => s_bin H58 rfl (abin_eql _ _ _) (s_mvB rfl (s_nil (c_split rfl (fun g'22 => W.seq (W.reg0 rfl fun _ _ => s_mvS H0 (s_slS_lo rfl rfl (by decide) ((((h.2 g'1).2 g'8).2 g'15).1 g'22).1 (s_mvI H1 (((((h.2 g'1).2 g'8).2 g'15).1 g'22).2.elim fun r'23 e'27 => e'27.elim fun r'24 e'28 => e'28.elim fun r'25 e'26 => s_call (sc rfl rfl (sc rfl rfl (sc rfl rfl (sc rfl rfl sn)))) e'26.1 (s_ext rfl rfl (s_ext rfl rfl (s_ext rfl rfl (s_storeP H4 B0 rfl rfl rfl (s_mvS rfl (s_mvB rfl (s_nil (W.ret (hQ _ _ _ _ _ _ _ _ H4 lk_here rfl rfl  e'26.2)))))))))))))) (fun g'22 => W.seq (W.reg0 rfl fun _ _ => s_bin H58 rfl (abin_eql _ _ _) (s_mvB rfl (s_nil (c_split rfl (fun g'29 => W.seq (W.reg0 rfl fun _ _ => s_mvS H0 ((((((h.2 g'1).2 g'8).2 g'15).2 g'22).1 g'29).elim fun r'30 e'31 => s_call (sc rfl rfl sn) e'31.1 (s_mvI rfl (s_nil (W.seq (W.reg0 rfl fun _ _ => s_mvS H0 (s_mvI rfl (s_slS_hi rfl rfl e'31.2.1 e'31.2.2.1 (e'31.2.2.2.elim fun r'32 e'35 => e'35.elim fun r'33 e'34 => s_call (sc rfl rfl sn) e'34.1 (s_mvT rfl (s_ext rfl rfl (s_ext rfl rfl (s_mvS rfl (s_mvI rfl (s_nil (W.seq (W.reg0 rfl fun _ _ => s_mvS rfl (s_build (f_cons rfl rfl (f_cons rfl rfl f_nil)) (s_mvS H0 (s_mvI rfl (s_slS_lo rfl rfl e'34.2.1 e'34.2.2.1 (s_mvI rfl (s_bin rfl rfl (abin_eql _ _ _) (s_storeP H4 B0 rfl rfl rfl (s_mvS rfl (s_mvB rfl (s_nil (W.ret (hQ _ _ _ _ _ _ _ _ H4 lk_here rfl rfl  e'34.2.2.2)))))))))))))))))))))))))))))) (fun g'29 => W.skip (W.seq (W.reg0 rfl fun _ _ => s_mvS H0 ((((((h.2 g'1).2 g'8).2 g'15).2 g'22).2 g'29).elim fun r'36 e'37 => s_call (sc rfl rfl sn) e'37.1 (s_mvI rfl (s_nil (W.seq (W.reg0 rfl fun _ _ => s_mvS H0 (s_mvI rfl (s_slS_hi rfl rfl e'37.2.1 e'37.2.2.1 (e'37.2.2.2.elim fun r'38 e'41 => e'41.elim fun r'39 e'40 => s_call (sc rfl rfl sn) e'40.1 (s_mvT rfl (s_ext rfl rfl (s_ext rfl rfl (s_mvI rfl (s_mvI rfl (s_nil (W.seq (W.reg0 rfl fun _ _ => s_mvI rfl (s_build (f_cons rfl rfl (f_cons rfl rfl f_nil)) (s_mvS H0 (s_mvI rfl (s_slS_lo rfl rfl e'40.2.1 e'40.2.2.1 (s_mvI rfl (s_bin rfl rfl (abin_eql _ _ _) (s_storeP H4 B0 rfl rfl rfl (s_mvS rfl (s_mvB rfl (s_nil (W.ret (hQ _ _ _ _ _ _ _ _ H4 lk_here rfl rfl  e'40.2.2.2)))))))))))))))))))))))))))))))))))))))))))))))))))
def T108_7 (prog : Prog) (K : Val → List UInt8 → Bool → Prop) (s0 : List UInt8) (deep1 : Int) (t58 : Int) (m0 : Val) : Prop :=
  T108_8 prog K s0 deep1 t58 (decide (t58 = 38)) m0
theorem w108_7 {prog : Prog} {d : Nat} {Q : AE → Sl → St → Prop} {K : Val → List UInt8 → Bool → Prop} (hQ : ∀ (σ : Sl) (st : St) (k0 : Key) (v0 : Nat) (o0_0 : Own) (x0 : Val) (x1 : List UInt8) (x2 : Bool), σ 4 = .p k0 v0 0 → lk st.bx k0 = some (v0, [.i .u8 x0.kind, .i .i64 x0.int, .s x0.text, .sl o0_0 (List.map Val.row x0.list), .b x0.cut]) → σ 5 = .s x1 → σ 6 = .b x2 → K x0 x1 x2 → Q .ret σ st) {s0 : List UInt8} {deep1 : Int} {t58 : Int} {m0 : Val}   {σ : Sl} {st : St} {o_m0_3 : Own} {v0 : Nat} (H0 : σ 0 = .s s0) (H1 : σ 1 = .i .i64 deep1) (H4 : σ 4 = .p (d, 0) v0 0) (H58 : σ 58 = .i .u8 t58) (B0 : lk st.bx (d, 0) = some (v0, [.i .u8 m0.kind, .i .i64 m0.int, .s m0.text, .sl o_m0_3 (List.map Val.row m0.list), .b m0.cut])) (h : T108_7 prog K s0 deep1 t58 m0) : W prog d c108_2 σ st (thenW prog d (.seq (.reg 24 r108_24) (.seq (.reg 25 r108_25) (.seq (.reg 26 r108_26) .ret))) Q) :=
  W.block (W.seq (W.reg0 rfl fun _ _ => s_bin H58 rfl (abin_eql _ _ _) (s_mvB rfl (s_nil (w108_8 (s0 := s0) (deep1 := deep1) (t58 := t58) (t59 := decide (t58 = 38)) (m0 := m0) hQ  H0 H1 H4 H58 rfl B0 h)))))
def T108_6 (prog : Prog) (K : Val → List UInt8 → Bool → Prop) (s0 : List UInt8) (deep1 : Int) (m0 : Val) : Prop :=
  ∃ c'1 : UInt8, s0[0]? = some c'1 ∧ T108_7 prog K s0 deep1 (c'1.toNat : Int) m0
theorem w108_6 {prog : Prog} {d : Nat} {Q : AE → Sl → St → Prop} {K : Val → List UInt8 → Bool → Prop} (hQ : ∀ (σ : Sl) (st : St) (k0 : Key) (v0 : Nat) (o0_0 : Own) (x0 : Val) (x1 : List UInt8) (x2 : Bool), σ 4 = .p k0 v0 0 → lk st.bx k0 = some (v0, [.i .u8 x0.kind, .i .i64 x0.int, .s x0.text, .sl o0_0 (List.map Val.row x0.list), .b x0.cut]) → σ 5 = .s x1 → σ 6 = .b x2 → K x0 x1 x2 → Q .ret σ st) {s0 : List UInt8} {deep1 : Int} {m0 : Val}   {σ : Sl} {st : St} {o_m0_3 : Own} {v0 : Nat} (H0 : σ 0 = .s s0) (H1 : σ 1 = .i .i64 deep1) (H4 : σ 4 = .p (d, 0) v0 0) (B0 : lk st.bx (d, 0) = some (v0, [.i .u8 m0.kind, .i .i64 m0.int, .s m0.text, .sl o_m0_3 (List.map Val.row m0.list), .b m0.cut])) (h : T108_6 prog K s0 deep1 m0) : W prog d c108_3 σ st Q :=
  W.seq (W.seq (W.reg0 rfl fun _ _ => s_mvS H0 (h.elim fun c'1 e'2 => s_ixS rfl rfl (by decide) e'2.1 (s_nil (w108_7 (s0 := s0) (deep1 := deep1) (t58 := (c'1.toNat : Int)) (m0 := m0) hQ  H0 H1 H4 rfl B0 e'2.2)))))
def T108_5 (prog : Prog) (K : Val → List UInt8 → Bool → Prop) (P0 : Int → Val → Prop) (s0 : List UInt8) (deep1 : Int) (words7 : List (List UInt8)) (values8 : List Val) (i9 : Int) (m0 : Val) : Prop :=
  (i9 < (words7.length : Int) → 0 ≤ i9 ∧ ∃ c'2 : List UInt8, words7[(i9).toNat]? = some c'2 ∧ ∃ r'4 : Bool, Pus prog 132 [.s s0, .s c'2] (.b r'4) ∧ (r'4 = true → 0 ≤ i9 ∧ ∃ c'7 : Val, values8[(i9).toNat]? = some c'7 ∧ 0 ≤ i9 ∧ ∃ c'9 : List UInt8, words7[(i9).toNat]? = some c'9 ∧ 0 ≤ (c'9.length : Int) ∧ (c'9.length : Int).toNat ≤ s0.length ∧ K c'7 (s0.drop (c'9.length : Int).toNat) true) ∧ (r'4 = false → P0 (IntKind.i64.wrap (i9 + 1)) m0)) ∧ (¬(i9 < (words7.length : Int)) → T108_6 prog K s0 deep1 m0)
theorem w108_5 {prog : Prog} {d : Nat} {Q : AE → Sl → St → Prop} {K : Val → List UInt8 → Bool → Prop} (hQ : ∀ (σ : Sl) (st : St) (k0 : Key) (v0 : Nat) (o0_0 : Own) (x0 : Val) (x1 : List UInt8) (x2 : Bool), σ 4 = .p k0 v0 0 → lk st.bx k0 = some (v0, [.i .u8 x0.kind, .i .i64 x0.int, .s x0.text, .sl o0_0 (List.map Val.row x0.list), .b x0.cut]) → σ 5 = .s x1 → σ 6 = .b x2 → K x0 x1 x2 → Q .ret σ st) {s0 : List UInt8} {deep1 : Int} {words7 : List (List UInt8)} {values8 : List Val} {i9 : Int} {m0 : Val} {P0 : Int → Val → Prop} (kP0 : ∀ (i9 : Int) (m0 : Val), P0 i9 m0 → I108_0 prog d Q s0 deep1 words7 values8 i9 m0) {σ : Sl} {st : St} {o_words7 o_values8 o_m0_3 : Own} {v0 : Nat} (H0 : σ 0 = .s s0) (H1 : σ 1 = .i .i64 deep1) (H4 : σ 4 = .p (d, 0) v0 0) (H7 : σ 7 = .sl o_words7 (List.map rowS words7)) (H8 : σ 8 = .sl o_values8 (List.map Val.row values8)) (H9 : σ 9 = .i .i64 i9) (A7 : ApM d st.ow o_words7 words7.length) (A8 : ApM d st.ow o_values8 values8.length) (B0 : lk st.bx (d, 0) = some (v0, [.i .u8 m0.kind, .i .i64 m0.int, .s m0.text, .sl o_m0_3 (List.map Val.row m0.list), .b m0.cut])) (h : T108_5 prog K P0 s0 deep1 words7 values8 i9 m0) : W prog d l108_0 σ st (thenW prog d (.loop l108_0) (blockW 0 (thenW prog d c108_3 Q))) :=
  W.seq (W.seq (W.reg0 rfl fun _ _ => s_mvI H9 (s_mvL H7 (s_lenL rfl (s_bin rfl rfl (abin_lss _ _ _) (s_nil (c_split rfl (fun g'1 => W.skip (W.seq (W.block (W.seq (W.reg0 rfl fun _ _ => s_mvS H0 (s_mvL H7 (s_mvI H9 ((h.1 g'1).2.elim fun c'2 e'3 => s_iaL rfl rfl (h.1 g'1).1 e'3.1 rfl rfl (s_loadF rfl rfl rfl (e'3.2.elim fun r'4 e'5 => s_call (sc rfl rfl (sc rfl rfl sn)) e'5.1 (s_nil (c_bool rfl (fun g'6 => W.seq (W.reg0 rfl fun _ _ => s_mvL H8 (s_mvI H9 ((e'5.2.1 g'6).2.elim fun c'7 e'8 => s_iaL rfl rfl (e'5.2.1 g'6).1 e'8.1 (Val.row_eq c'7) rfl (s_ldf rfl rfl rfl (s_mvS H0 (s_mvL H7 (s_mvI H9 (e'8.2.2.elim fun c'9 e'10 => s_iaL rfl rfl e'8.2.1 e'10.1 rfl rfl (s_ldf rfl rfl rfl (s_lenS rfl (s_slS_lo rfl rfl e'10.2.1 e'10.2.2.1 (s_storeP H4 B0 rfl rfl rfl (s_mvS rfl (s_mvB rfl (s_nil (W.ret (hQ _ _ _ _ _ _ _ _ H4 lk_here rfl rfl  e'10.2.2.2)))))))))))))))))) (fun g'6 => W.skip (W.reg0 rfl fun _ _ => s_mvI H9 (s_bin rfl rfl (abin_add _ _ _) (s_mvI rfl (s_nil (kP0 _ _ (e'5.2.2 g'6) _ _ _ _ _ _ H0 H1 H4 H7 H8 rfl A7 A8 B0)))))))))))))))))) (fun g'1 => W.exit (w108_6 (s0 := s0) (deep1 := deep1) (m0 := m0) hQ  H0 H1 H4 B0 (h.2 g'1))))))))))
def T108_4 (prog : Prog) (K : Val → List UInt8 → Bool → Prop) (s0 : List UInt8) (deep1 : Int) (words7 : List (List UInt8)) (values8 : List Val) (m0 : Val) : Prop :=
  ∀ P0 : Int → Val → Prop, (∀ (i9 : Int) (m0 : Val), T108_5 prog K P0 s0 deep1 words7 values8 i9 m0 → P0 i9 m0) → P0 0 m0
theorem w108_4 {prog : Prog} {d : Nat} {Q : AE → Sl → St → Prop} {K : Val → List UInt8 → Bool → Prop} (hQ : ∀ (σ : Sl) (st : St) (k0 : Key) (v0 : Nat) (o0_0 : Own) (x0 : Val) (x1 : List UInt8) (x2 : Bool), σ 4 = .p k0 v0 0 → lk st.bx k0 = some (v0, [.i .u8 x0.kind, .i .i64 x0.int, .s x0.text, .sl o0_0 (List.map Val.row x0.list), .b x0.cut]) → σ 5 = .s x1 → σ 6 = .b x2 → K x0 x1 x2 → Q .ret σ st) {s0 : List UInt8} {deep1 : Int} {words7 : List (List UInt8)} {values8 : List Val} {m0 : Val}   {σ : Sl} {st : St} {o_words7 o_values8 o_m0_3 : Own} {v0 : Nat} (H0 : σ 0 = .s s0) (H1 : σ 1 = .i .i64 deep1) (H4 : σ 4 = .p (d, 0) v0 0) (H7 : σ 7 = .sl o_words7 (List.map rowS words7)) (H8 : σ 8 = .sl o_values8 (List.map Val.row values8)) (A7 : ApM d st.ow o_words7 words7.length) (A8 : ApM d st.ow o_values8 values8.length) (B0 : lk st.bx (d, 0) = some (v0, [.i .u8 m0.kind, .i .i64 m0.int, .s m0.text, .sl o_m0_3 (List.map Val.row m0.list), .b m0.cut])) (h : T108_4 prog K s0 deep1 words7 values8 m0) : W prog d c108_4 σ st Q :=
  W.seq (W.seq (W.reg0 rfl fun _ _ => s_mvI rfl (s_nil (W.block (h (I108_0 prog d Q s0 deep1 words7 values8) (fun _ _ hb _ _ _ _ _ _ H0 H1 H4 H7 H8 H9 A7 A8 B0 => W.loop (w108_5 hQ (fun _ _ x => x) H0 H1 H4 H7 H8 H9 A7 A8 B0 hb)) _ _ _ _ _ _ H0 H1 H4 H7 H8 rfl A7 A8 B0)))))
def T108_3 (prog : Prog) (K : Val → List UInt8 → Bool → Prop) (s0 : List UInt8) (deep1 : Int) (words7 : List (List UInt8)) (m0 : Val) : Prop :=
  T108_4 prog K s0 deep1 words7 [(Val.mk 1 1 [] ([] : List Val) false), (Val.mk 1 0 [] ([] : List Val) false), (Val.mk 4 0 [] ([] : List Val) false), (Val.mk 4 0 [] ([] : List Val) true), (Val.mk 7 0 [] ([] : List Val) true)] m0
theorem w108_3 {prog : Prog} {d : Nat} {Q : AE → Sl → St → Prop} {K : Val → List UInt8 → Bool → Prop} (hQ : ∀ (σ : Sl) (st : St) (k0 : Key) (v0 : Nat) (o0_0 : Own) (x0 : Val) (x1 : List UInt8) (x2 : Bool), σ 4 = .p k0 v0 0 → lk st.bx k0 = some (v0, [.i .u8 x0.kind, .i .i64 x0.int, .s x0.text, .sl o0_0 (List.map Val.row x0.list), .b x0.cut]) → σ 5 = .s x1 → σ 6 = .b x2 → K x0 x1 x2 → Q .ret σ st) {s0 : List UInt8} {deep1 : Int} {words7 : List (List UInt8)} {m0 : Val}   {σ : Sl} {st : St} {o_words7 o_m0_3 : Own} {v0 : Nat} (H0 : σ 0 = .s s0) (H1 : σ 1 = .i .i64 deep1) (H4 : σ 4 = .p (d, 0) v0 0) (H7 : σ 7 = .sl o_words7 (List.map rowS words7)) (A7 : ApM d st.ow o_words7 words7.length) (B0 : lk st.bx (d, 0) = some (v0, [.i .u8 m0.kind, .i .i64 m0.int, .s m0.text, .sl o_m0_3 (List.map Val.row m0.list), .b m0.cut])) (h : T108_3 prog K s0 deep1 words7 m0) : W prog d c108_5 σ st Q :=
  W.seq (W.reg0 rfl fun _ _ => s_build (f_cons rfl rfl (f_cons rfl rfl f_nil)) (s_build (f_cons rfl rfl f_nil) (s_build (f_cons rfl rfl f_nil) (s_build (f_cons rfl rfl (f_cons rfl rfl f_nil)) (s_build (f_cons rfl rfl (f_cons rfl rfl f_nil)) (s_bslM (f := Val.row) (l := [(Val.mk 1 1 [] ([] : List Val) false), (Val.mk 1 0 [] ([] : List Val) false), (Val.mk 4 0 [] ([] : List Val) false), (Val.mk 4 0 [] ([] : List Val) true), (Val.mk 7 0 [] ([] : List Val) true)]) rfl rfl (g_cons rfl rfl rfl (g_cons rfl rfl rfl (g_cons rfl rfl rfl (g_cons rfl rfl rfl (g_cons rfl rfl rfl g_nil))))) (by simp only [List.map_cons, List.map_nil, Val.row_eq]; rfl) (s_mvL rfl (s_nil (w108_4 (s0 := s0) (deep1 := deep1) (words7 := words7) (values8 := [(Val.mk 1 1 [] ([] : List Val) false), (Val.mk 1 0 [] ([] : List Val) false), (Val.mk 4 0 [] ([] : List Val) false), (Val.mk 4 0 [] ([] : List Val) true), (Val.mk 7 0 [] ([] : List Val) true)]) (m0 := m0) hQ  H0 H1 H4 H7 rfl A7 ApM.full B0 h)))))))))
def T108_2 (prog : Prog) (K : Val → List UInt8 → Bool → Prop) (s0 : List UInt8) (deep1 : Int) (m0 : Val) : Prop :=
  T108_3 prog K s0 deep1 [([116, 114, 117, 101] : List UInt8), ([102, 97, 108, 115, 101] : List UInt8), ([110, 105, 108] : List UInt8), ([38, 46, 46, 46] : List UInt8), ([60, 46, 46, 46, 62] : List UInt8)] m0
theorem w108_2 {prog : Prog} {d : Nat} {Q : AE → Sl → St → Prop} {K : Val → List UInt8 → Bool → Prop} (hQ : ∀ (σ : Sl) (st : St) (k0 : Key) (v0 : Nat) (o0_0 : Own) (x0 : Val) (x1 : List UInt8) (x2 : Bool), σ 4 = .p k0 v0 0 → lk st.bx k0 = some (v0, [.i .u8 x0.kind, .i .i64 x0.int, .s x0.text, .sl o0_0 (List.map Val.row x0.list), .b x0.cut]) → σ 5 = .s x1 → σ 6 = .b x2 → K x0 x1 x2 → Q .ret σ st) {s0 : List UInt8} {deep1 : Int} {m0 : Val}   {σ : Sl} {st : St} {o_m0_3 : Own} {v0 : Nat} (H0 : σ 0 = .s s0) (H1 : σ 1 = .i .i64 deep1) (H4 : σ 4 = .p (d, 0) v0 0) (B0 : lk st.bx (d, 0) = some (v0, [.i .u8 m0.kind, .i .i64 m0.int, .s m0.text, .sl o_m0_3 (List.map Val.row m0.list), .b m0.cut])) (h : T108_2 prog K s0 deep1 m0) : W prog d c108_6 σ st Q :=
  W.seq (W.reg0 rfl fun _ _ => s_bslM (f := rowS) (l := [([116, 114, 117, 101] : List UInt8), ([102, 97, 108, 115, 101] : List UInt8), ([110, 105, 108] : List UInt8), ([38, 46, 46, 46] : List UInt8), ([60, 46, 46, 46, 62] : List UInt8)]) rfl rfl (g_cons rfl rfl rfl (g_cons rfl rfl rfl (g_cons rfl rfl rfl (g_cons rfl rfl rfl (g_cons rfl rfl rfl g_nil))))) rfl (s_mvL rfl (s_nil (w108_3 (s0 := s0) (deep1 := deep1) (words7 := [([116, 114, 117, 101] : List UInt8), ([102, 97, 108, 115, 101] : List UInt8), ([110, 105, 108] : List UInt8), ([38, 46, 46, 46] : List UInt8), ([60, 46, 46, 46, 62] : List UInt8)]) (m0 := m0) hQ  H0 H1 H4 rfl ApM.full B0 h))))
def T108_1 (prog : Prog) (K : Val → List UInt8 → Bool → Prop) (s0 : List UInt8) (deep1 : Int) (m0 : Val) : Prop :=
  (deep1 = 0 → K (Val.mk 0 0 [] ([] : List Val) false) ([] : List UInt8) false) ∧ (¬(deep1 = 0) → ((s0.length : Int) = 0 → K (Val.mk 0 0 [] ([] : List Val) false) ([] : List UInt8) false) ∧ (¬((s0.length : Int) = 0) → T108_2 prog K s0 deep1 m0))
theorem w108_1 {prog : Prog} {d : Nat} {Q : AE → Sl → St → Prop} {K : Val → List UInt8 → Bool → Prop} (hQ : ∀ (σ : Sl) (st : St) (k0 : Key) (v0 : Nat) (o0_0 : Own) (x0 : Val) (x1 : List UInt8) (x2 : Bool), σ 4 = .p k0 v0 0 → lk st.bx k0 = some (v0, [.i .u8 x0.kind, .i .i64 x0.int, .s x0.text, .sl o0_0 (List.map Val.row x0.list), .b x0.cut]) → σ 5 = .s x1 → σ 6 = .b x2 → K x0 x1 x2 → Q .ret σ st) {s0 : List UInt8} {deep1 : Int} {m0 : Val}   {σ : Sl} {st : St} {o_m0_3 : Own} {v0 : Nat} (H0 : σ 0 = .s s0) (H1 : σ 1 = .i .i64 deep1) (H4 : σ 4 = .p (d, 0) v0 0) (B0 : lk st.bx (d, 0) = some (v0, [.i .u8 m0.kind, .i .i64 m0.int, .s m0.text, .sl o_m0_3 (List.map Val.row m0.list), .b m0.cut])) (h : T108_1 prog K s0 deep1 m0) : W prog d c108_7 σ st Q :=
  W.seq (W.seq (W.reg0 rfl fun _ _ => s_mvI H1 (s_bin rfl rfl (abin_eql _ _ _) (s_mvB rfl (s_em (g := 21) rfl (fun g'1 => s_gn (b := true) rfl rfl (s_gn (b := true) rfl rfl (s_gn (b := true) rfl rfl (s_pickTB rfl rfl (s_nil (c_tt rfl (W.seq (W.reg0 rfl fun _ _ => s_build f_nil (s_storeP H4 B0 rfl rfl rfl (s_mvS rfl (s_mvB rfl (s_nil (W.ret (hQ _ _ _ _ _ _ _ _ H4 lk_here rfl rfl  (h.1 g'1))))))))))))))) (fun g'1 => s_gy rfl (s_mvS H0 (s_gy rfl (s_lenS rfl (s_gy rfl (s_bin rfl rfl (abin_eql _ _ _) (s_pickFB rfl rfl (s_nil (c_split rfl (fun g'2 => W.seq (W.reg0 rfl fun _ _ => s_build f_nil (s_storeP H4 B0 rfl rfl rfl (s_mvS rfl (s_mvB rfl (s_nil (W.ret (hQ _ _ _ _ _ _ _ _ H4 lk_here rfl rfl  ((h.2 g'1).1 g'2))))))))) (fun g'2 => W.skip (w108_2 (s0 := s0) (deep1 := deep1) (m0 := m0) hQ  H0 H1 H4 B0 ((h.2 g'1).2 g'2)))))))))))))))))
def T108_0 (prog : Prog) (K : Val → List UInt8 → Bool → Prop) (s0 : List UInt8) (deep1 : Int) : Prop :=
  T108_1 prog K s0 deep1 (Val.mk 0 0 [] ([] : List Val) false)
theorem w108_0 {prog : Prog} {d : Nat} {Q : AE → Sl → St → Prop} {K : Val → List UInt8 → Bool → Prop} (hQ : ∀ (σ : Sl) (st : St) (k0 : Key) (v0 : Nat) (o0_0 : Own) (x0 : Val) (x1 : List UInt8) (x2 : Bool), σ 4 = .p k0 v0 0 → lk st.bx k0 = some (v0, [.i .u8 x0.kind, .i .i64 x0.int, .s x0.text, .sl o0_0 (List.map Val.row x0.list), .b x0.cut]) → σ 5 = .s x1 → σ 6 = .b x2 → K x0 x1 x2 → Q .ret σ st) {s0 : List UInt8} {deep1 : Int}   {σ : Sl} {st : St} (H0 : σ 0 = .s s0) (H1 : σ 1 = .i .i64 deep1) (h : T108_0 prog K s0 deep1) : W prog d (.seq (.reg 0 r108_0) c108_7) σ st Q :=
  W.seq (W.reg (s_alloc (s_mvS rfl (s_mvB rfl (s_nil (w108_1 (s0 := s0) (deep1 := deep1) (m0 := (Val.mk 0 0 [] ([] : List Val) false)) hQ  H0 H1 rfl (show lk _ (d, 0) = some (_, ([.i .u8 0, .i .i64 0, .s [], .sl .full (List.map Val.row ([] : List Val)), .b false] : List AV)) from lk_here) h))))))
theorem p108 {prog : Prog} (hf : prog.fn 108 = some pf108) {s0 : List UInt8} {deep1 : Int} {K : Val → List UInt8 → Bool → Prop} (h : T108_0 prog K s0 deep1) : ∃ x0 : Val, ∃ x1 : List UInt8, ∃ x2 : Bool, K x0 x1 x2 ∧ Pus prog 108 [.s s0, .i .i64 deep1] (.tup [.ag [.i .u8 x0.kind, .i .i64 x0.int, .s x0.text, .sl .ext (List.map Val.row x0.list), .b x0.cut], .s x1, .b x2]) := by
  obtain ⟨v, hv, x0, x1, x2, hk, rfl⟩ := Pus.of (K := fun v => ∃ x0 : Val, ∃ x1 : List UInt8, ∃ x2 : Bool, K x0 x1 x2 ∧ v = .tup [.ag [.i .u8 x0.kind, .i .i64 x0.int, .s x0.text, .sl .ext (List.map Val.row x0.list), .b x0.cut], .s x1, .b x2]) hf rfl (w108_0 (σ := sl0 [.s s0, .i .i64 deep1]) (fun σ st k0 v0 o0_0 x0 x1 x2 H4 HB4 H5 H6 hk => ⟨.tup [.ag [.i .u8 x0.kind, .i .i64 x0.int, .s x0.text, .sl o0_0 (List.map Val.row x0.list), .b x0.cut], .s x1, .b x2], by simp only [pf108, ares, aresL, ares_cellA (n := 5) H4 HB4 rfl, H5, H6, ares_tmp, Option.map_some], _, rfl, x0, x1, x2, hk, rfl⟩) rfl rfl h)
  exact ⟨x0, x1, x2, hk, hv⟩

/-! wreckage/wreckageref38.begins -/
def r132_0 : List AI := [⟨(some 4), .mv (.c (.b false)), none⟩]
def r132_1 : List AI := [⟨(some 5), .mv (.t 0), none⟩,
  ⟨(some 6), .len true (.t 5), none⟩,
  ⟨(some 7), .mv (.t 1), none⟩,
  ⟨(some 8), .len true (.t 7), none⟩,
  ⟨(some 9), .bin .geq (.t 6) (.t 8), none⟩,
  ⟨(some 10), .mv (.t 9), none⟩,
  ⟨(some 11), .mv (.t 0), (some (10, true))⟩,
  ⟨(some 12), .mv (.t 1), (some (10, true))⟩,
  ⟨(some 13), .len true (.t 12), (some (10, true))⟩,
  ⟨(some 14), .slS (.t 11) none (some (.t 13)), (some (10, true))⟩,
  ⟨(some 15), .mv (.t 1), (some (10, true))⟩,
  ⟨(some 16), .bin .eql (.t 14) (.t 15), (some (10, true))⟩,
  ⟨(some 17), .pick (.t 10) (.t 16) (.c (.b false)), none⟩,
  ⟨(some 4), .mv (.t 17), none⟩]
abbrev b132 : AC := (.seq (.reg 0 r132_0) (.seq (.reg 1 r132_1) .ret))
def pf132 : AF := { nt := 18, res := [.tmp 4], body := b132 }
def T132_0 (prog : Prog) (K : Bool → Prop) (s0 : List UInt8) (with1 : List UInt8) : Prop :=
  ((s0.length : Int) ≥ (with1.length : Int) → 0 ≤ (with1.length : Int) ∧ (with1.length : Int).toNat ≤ s0.length ∧ K (decide ((s0.take (with1.length : Int).toNat) = with1))) ∧ (¬((s0.length : Int) ≥ (with1.length : Int)) → K false)
theorem w132_0 {prog : Prog} {d : Nat} {Q : AE → Sl → St → Prop} {K : Bool → Prop} (hQ : ∀ (σ : Sl) (st : St) (x0 : Bool), σ 4 = .b x0 → K x0 → Q .ret σ st) {s0 : List UInt8} {with1 : List UInt8}   {σ : Sl} {st : St} (H0 : σ 0 = .s s0) (H1 : σ 1 = .s with1) (h : T132_0 prog K s0 with1) : W prog d (.seq (.reg 0 r132_0) (.seq (.reg 1 r132_1) .ret)) σ st Q :=
  W.seq (W.reg0 rfl fun _ _ => s_mvB rfl (s_nil (W.seq (W.reg0 rfl fun _ _ => s_mvS H0 (s_lenS rfl (s_mvS H1 (s_lenS rfl (s_bin rfl rfl (abin_geq _ _ _) (s_mvB rfl (s_em (g := 10) rfl (fun g'1 => s_gy rfl (s_mvS H0 (s_gy rfl (s_mvS H1 (s_gy rfl (s_lenS rfl (s_gy rfl (s_slS_hi rfl rfl (h.1 g'1).1 (h.1 g'1).2.1 (s_gy rfl (s_mvS H1 (s_gy rfl (s_bin rfl rfl (abin_seq _ _) (s_pickTB rfl rfl (s_mvB rfl (s_nil (W.ret (hQ _ _   _ rfl  (h.1 g'1).2.2))))))))))))))))) (fun g'1 => s_gn (b := false) rfl rfl (s_gn (b := false) rfl rfl (s_gn (b := false) rfl rfl (s_gn (b := false) rfl rfl (s_gn (b := false) rfl rfl (s_gn (b := false) rfl rfl (s_pickFB rfl rfl (s_mvB rfl (s_nil (W.ret (hQ _ _   _ rfl  (h.2 g'1))))))))))))))))))))))
theorem p132 {prog : Prog} (hf : prog.fn 132 = some pf132) {s0 : List UInt8} {with1 : List UInt8} {K : Bool → Prop} (h : T132_0 prog K s0 with1) : ∃ x0 : Bool, K x0 ∧ Pus prog 132 [.s s0, .s with1] (.b x0) := by
  obtain ⟨v, hv, x0, hk, rfl⟩ := Pus.of (K := fun v => ∃ x0 : Bool, K x0 ∧ v = .b x0) hf rfl (w132_0 (σ := sl0 [.s s0, .s with1]) (fun σ st   x0 H4 hk => ⟨.b x0, by simp only [pf132, ares, aresL, H4, ares1, Option.map_some], _, rfl, x0, hk, rfl⟩) rfl rfl h)
  exact ⟨x0, hk, hv⟩

/-! wreckage/wreckageref38.several -/
def r133_0 : List AI := [⟨(some 8), .alloc [.i .u8 0, .i .i64 0, .s [], .sl .full [], .b false], none⟩,
  ⟨(some 9), .mv (.c (.s [])), none⟩,
  ⟨(some 10), .mv (.c (.b false)), none⟩]
def r133_1 : List AI := [⟨(some 15), .mv (.t 1), none⟩,
  ⟨(some 16), .build [.i .u8 0, .i .i64 0, .s [], .sl .full [], .b false] [(0, 1, (.t 15))], none⟩,
  ⟨(some 11), .alloc [.i .u8 0, .i .i64 0, .s [], .sl .full [], .b false], none⟩,
  ⟨none, .store 5 (.t 11) (.t 16), none⟩]
def r133_2 : List AI := [⟨(some 17), .mv (.t 0), none⟩,
  ⟨(some 18), .len true (.t 17), none⟩,
  ⟨(some 19), .bin .gtr (.t 18) (.c (.i .i64 0)), none⟩,
  ⟨(some 20), .mv (.t 19), none⟩,
  ⟨(some 21), .mv (.t 0), (some (20, true))⟩,
  ⟨(some 22), .ixS (.t 21) (.c (.i .i64 0)), (some (20, true))⟩,
  ⟨(some 23), .mv (.t 2), (some (20, true))⟩,
  ⟨(some 24), .bin .eql (.t 22) (.t 23), (some (20, true))⟩,
  ⟨(some 25), .pick (.t 20) (.t 24) (.c (.b false)), none⟩]
def r133_3 : List AI := [⟨(some 26), .load 5 true (.t 11), none⟩,
  ⟨(some 27), .mv (.t 0), none⟩,
  ⟨(some 28), .slS (.t 27) (some (.c (.i .i64 1))) none, none⟩,
  ⟨none, .store 5 (.t 8) (.t 26), none⟩,
  ⟨(some 9), .mv (.t 28), none⟩,
  ⟨(some 10), .mv (.c (.b true)), none⟩]
def r133_4 : List AI := [⟨(some 29), .fad 3 (.t 11), none⟩,
  ⟨(some 30), .load 1 false (.t 29), none⟩,
  ⟨(some 31), .len false (.t 30), none⟩,
  ⟨(some 32), .bin .leq (.t 31) (.c (.i .i64 16)), none⟩]
def r133_5 : List AI := [⟨(some 34), .mv (.t 0), none⟩,
  ⟨(some 35), .mv (.t 3), none⟩,
  ⟨(some 36), .bin .sub (.t 35) (.c (.i .i64 1)), none⟩,
  ⟨(some 37), .call false 108 [(.t 34), (.t 36)], none⟩,
  ⟨(some 33), .mv (.t 37), none⟩,
  ⟨(some 38), .ext 0 (.t 33), none⟩,
  ⟨(some 39), .ext 1 (.t 33), none⟩,
  ⟨(some 40), .ext 2 (.t 33), none⟩,
  ⟨(some 12), .alloc [.i .u8 0, .i .i64 0, .s [], .sl .full [], .b false], none⟩,
  ⟨none, .store 5 (.t 12) (.t 38), none⟩,
  ⟨(some 13), .mv (.t 39), none⟩,
  ⟨(some 14), .mv (.t 40), none⟩]
def r133_6 : List AI := [⟨(some 41), .mv (.t 14), none⟩,
  ⟨(some 42), .un .not (.t 41), none⟩,
  ⟨(some 43), .mv (.t 42), none⟩,
  ⟨(some 44), .mv (.t 13), (some (43, false))⟩,
  ⟨(some 45), .len true (.t 44), (some (43, false))⟩,
  ⟨(some 46), .bin .eql (.t 45) (.c (.i .i64 0)), (some (43, false))⟩,
  ⟨(some 47), .pick (.t 43) (.c (.b true)) (.t 46), none⟩]
def r133_7 : List AI := [⟨(some 48), .build [.i .u8 0, .i .i64 0, .s [], .sl .full [], .b false] [], none⟩,
  ⟨none, .store 5 (.t 8) (.t 48), none⟩,
  ⟨(some 9), .mv (.c (.s [])), none⟩,
  ⟨(some 10), .mv (.c (.b false)), none⟩]
def r133_8 : List AI := [⟨(some 49), .fad 3 (.t 11), none⟩,
  ⟨(some 50), .load 1 false (.t 49), none⟩,
  ⟨(some 51), .load 5 true (.t 12), none⟩,
  ⟨(some 52), .bslice [.i .u8 0, .i .i64 0, .s [], .sl .full [], .b false] 1 [(0, (.t 51))], none⟩,
  ⟨(some 53), .app 5 64 (.t 50) (.t 52), none⟩,
  ⟨(some 54), .fad 3 (.t 11), none⟩,
  ⟨none, .store 1 (.t 54) (.t 53), none⟩]
def r133_9 : List AI := [⟨(some 55), .mv (.t 13), none⟩,
  ⟨(some 56), .ixS (.t 55) (.c (.i .i64 0)), none⟩,
  ⟨(some 57), .mv (.t 2), none⟩,
  ⟨(some 58), .bin .eql (.t 56) (.t 57), none⟩]
def r133_10 : List AI := [⟨(some 59), .load 5 true (.t 11), none⟩,
  ⟨(some 60), .mv (.t 13), none⟩,
  ⟨(some 61), .slS (.t 60) (some (.c (.i .i64 1))) none, none⟩,
  ⟨none, .store 5 (.t 8) (.t 59), none⟩,
  ⟨(some 9), .mv (.t 61), none⟩,
  ⟨(some 10), .mv (.c (.b true)), none⟩]
def r133_11 : List AI := [⟨(some 62), .mv (.t 13), none⟩,
  ⟨(some 63), .call false 132 [(.t 62), (.c (.s [44, 32]))], none⟩,
  ⟨(some 64), .un .not (.t 63), none⟩]
def r133_12 : List AI := [⟨(some 65), .build [.i .u8 0, .i .i64 0, .s [], .sl .full [], .b false] [], none⟩,
  ⟨none, .store 5 (.t 8) (.t 65), none⟩,
  ⟨(some 9), .mv (.c (.s [])), none⟩,
  ⟨(some 10), .mv (.c (.b false)), none⟩]
def r133_13 : List AI := [⟨(some 66), .mv (.t 13), none⟩,
  ⟨(some 67), .slS (.t 66) (some (.c (.i .i64 2))) none, none⟩,
  ⟨(some 0), .mv (.t 67), none⟩]
def r133_14 : List AI := [⟨(some 68), .build [.i .u8 0, .i .i64 0, .s [], .sl .full [], .b false] [], none⟩,
  ⟨none, .store 5 (.t 8) (.t 68), none⟩,
  ⟨(some 9), .mv (.c (.s [])), none⟩,
  ⟨(some 10), .mv (.c (.b false)), none⟩]
abbrev l133_0 : AC := (.seq (.seq (.reg 4 r133_4) (.cond (.t 32) .skip (.exit 0))) (.block 1 (.seq (.reg 5 r133_5) (.seq (.seq (.reg 6 r133_6) (.cond (.t 47) (.seq (.reg 7 r133_7) .ret) .skip)) (.seq (.reg 8 r133_8) (.seq (.seq (.reg 9 r133_9) (.cond (.t 58) (.seq (.reg 10 r133_10) .ret) .skip)) (.seq (.seq (.reg 11 r133_11) (.cond (.t 64) (.seq (.reg 12 r133_12) .ret) .skip)) (.reg 13 r133_13))))))))
abbrev c133_1 : AC := (.seq (.reg 14 r133_14) .ret)
abbrev c133_2 : AC := (.seq (.seq (.reg 2 r133_2) (.cond (.t 25) (.seq (.reg 3 r133_3) .ret) .skip)) (.seq (.block 0 (.loop l133_0)) c133_1))
abbrev c133_3 : AC := (.seq (.reg 1 r133_1) c133_2)
abbrev b133 : AC := (.seq (.reg 0 r133_0) c133_3)
def pf133 : AF := { nt := 69, res := [.cell 8 5 true, .tmp 9, .tmp 10], body := b133 }
abbrev I133_0 (prog : Prog) (d : Nat) (Q : AE → Sl → St → Prop) (end2 : Int) (deep3 : Int) (s0 : List UInt8) (m0 : Val) (m4098 : Val) : Prop :=
  ∀ (σ : Sl) (st : St) (o_m0_3 o_m4098_3 : Own) (v0 v4098 : Nat), σ 0 = .s s0 → σ 2 = .i .u8 end2 → σ 3 = .i .i64 deep3 → σ 8 = .p (d, 0) v0 0 → σ 11 = .p (d, 4098) v4098 0 → ApM d st.ow o_m4098_3 m4098.list.length → lk st.bx (d, 0) = some (v0, [.i .u8 m0.kind, .i .i64 m0.int, .s m0.text, .sl o_m0_3 (List.map Val.row m0.list), .b m0.cut]) → lk st.bx (d, 4098) = some (v4098, [.i .u8 m4098.kind, .i .i64 m4098.int, .s m4098.text, .sl o_m4098_3 (List.map Val.row m4098.list), .b m4098.cut]) → W prog d (.loop l133_0) σ st (blockW 0 (thenW prog d c133_1 Q))
def T133_4 (prog : Prog) (K : Val → List UInt8 → Bool → Prop) (m0 : Val) : Prop :=
  K (Val.mk 0 0 [] ([] : List Val) false) ([] : List UInt8) false
theorem w133_4 {prog : Prog} {d : Nat} {Q : AE → Sl → St → Prop} {K : Val → List UInt8 → Bool → Prop} (hQ : ∀ (σ : Sl) (st : St) (k0 : Key) (v0 : Nat) (o0_0 : Own) (x0 : Val) (x1 : List UInt8) (x2 : Bool), σ 8 = .p k0 v0 0 → lk st.bx k0 = some (v0, [.i .u8 x0.kind, .i .i64 x0.int, .s x0.text, .sl o0_0 (List.map Val.row x0.list), .b x0.cut]) → σ 9 = .s x1 → σ 10 = .b x2 → K x0 x1 x2 → Q .ret σ st) {m0 : Val}   {σ : Sl} {st : St} {o_m0_3 : Own} {v0 : Nat} (H8 : σ 8 = .p (d, 0) v0 0) (B0 : lk st.bx (d, 0) = some (v0, [.i .u8 m0.kind, .i .i64 m0.int, .s m0.text, .sl o_m0_3 (List.map Val.row m0.list), .b m0.cut])) (h : T133_4 prog K m0) : W prog d c133_1 σ st Q :=
  W.seq (W.reg0 rfl fun _ _ => s_build f_nil (s_storeP H8 B0 rfl rfl rfl (s_mvS rfl (s_mvB rfl (s_nil (W.ret (hQ _ _ _ _ _ _ _ _ H8 lk_here rfl rfl  h)))))))
def T133_3 (prog : Prog) (K : Val → List UInt8 → Bool → Prop) (P0 : List UInt8 → Val → Val → Prop) (s0 : List UInt8) (end2 : Int) (deep3 : Int) (m0 : Val) (m4098 : Val) : Prop :=
  ((m4098.list.length : Int) ≤ 16 → ∃ r'2 : Val, ∃ r'3 : List UInt8, ∃ r'4 : Bool, Pus prog 108 [.s s0, .i .i64 (IntKind.i64.wrap (deep3 - 1))] (.tup [.ag [.i .u8 r'2.kind, .i .i64 r'2.int, .s r'2.text, .sl .ext (List.map Val.row r'2.list), .b r'2.cut], .s r'3, .b r'4]) ∧ ((!r'4) = true → K (Val.mk 0 0 [] ([] : List Val) false) ([] : List UInt8) false) ∧ ((!r'4) = false → ((r'3.length : Int) = 0 → K (Val.mk 0 0 [] ([] : List Val) false) ([] : List UInt8) false) ∧ (¬((r'3.length : Int) = 0) → Fit (m4098.list.length + [r'2].length) 64 ∧ ∃ c'13 : UInt8, r'3[0]? = some c'13 ∧ ((c'13.toNat : Int) = end2 → 1 ≤ r'3.length ∧ K (Val.mk m4098.kind m4098.int m4098.text (m4098.list ++ [r'2]) m4098.cut) (r'3.drop 1) true) ∧ (¬((c'13.toNat : Int) = end2) → ∃ r'16 : Bool, Pus prog 132 [.s r'3, .s ([44, 32] : List UInt8)] (.b r'16) ∧ ((!r'16) = true → K (Val.mk 0 0 [] ([] : List Val) false) ([] : List UInt8) false) ∧ ((!r'16) = false → 2 ≤ r'3.length ∧ P0 (r'3.drop 2) m0 (Val.mk m4098.kind m4098.int m4098.text (m4098.list ++ [r'2]) m4098.cut)))))) ∧ (¬((m4098.list.length : Int) ≤ 16) → T133_4 prog K m0)
theorem w133_3 {prog : Prog} {d : Nat} {Q : AE → Sl → St → Prop} {K : Val → List UInt8 → Bool → Prop} (hQ : ∀ (σ : Sl) (st : St) (k0 : Key) (v0 : Nat) (o0_0 : Own) (x0 : Val) (x1 : List UInt8) (x2 : Bool), σ 8 = .p k0 v0 0 → lk st.bx k0 = some (v0, [.i .u8 x0.kind, .i .i64 x0.int, .s x0.text, .sl o0_0 (List.map Val.row x0.list), .b x0.cut]) → σ 9 = .s x1 → σ 10 = .b x2 → K x0 x1 x2 → Q .ret σ st) {s0 : List UInt8} {end2 : Int} {deep3 : Int} {m0 : Val} {m4098 : Val} {P0 : List UInt8 → Val → Val → Prop} (kP0 : ∀ (s0 : List UInt8) (m0 : Val) (m4098 : Val), P0 s0 m0 m4098 → I133_0 prog d Q end2 deep3 s0 m0 m4098) {σ : Sl} {st : St} {o_m0_3 o_m4098_3 : Own} {v0 : Nat} {v4098 : Nat} (H0 : σ 0 = .s s0) (H2 : σ 2 = .i .u8 end2) (H3 : σ 3 = .i .i64 deep3) (H8 : σ 8 = .p (d, 0) v0 0) (H11 : σ 11 = .p (d, 4098) v4098 0) (Ab4098 : ApM d st.ow o_m4098_3 m4098.list.length) (B0 : lk st.bx (d, 0) = some (v0, [.i .u8 m0.kind, .i .i64 m0.int, .s m0.text, .sl o_m0_3 (List.map Val.row m0.list), .b m0.cut])) (B4098 : lk st.bx (d, 4098) = some (v4098, [.i .u8 m4098.kind, .i .i64 m4098.int, .s m4098.text, .sl o_m4098_3 (List.map Val.row m4098.list), .b m4098.cut])) (h : T133_3 prog K P0 s0 end2 deep3 m0 m4098) : W prog d l133_0 σ st (thenW prog d (.loop l133_0) (blockW 0 (thenW prog d c133_1 Q))) :=
  W.seq (W.seq (W.reg0 rfl fun _ _ => s_fadP H11 (s_loadP rfl B4098 rfl rfl (s_lenL rfl (s_bin rfl rfl (abin_leq _ _ _) (s_nil (c_split rfl (fun g'1 => W.skip (W.block (W.seq (W.reg (s_mvS H0 (s_mvI H3 (s_bin rfl rfl (abin_sub _ _ _) ((h.1 g'1).elim fun r'2 e'19 => e'19.elim fun r'3 e'20 => e'20.elim fun r'4 e'5 => s_call (sc rfl rfl (sc rfl rfl sn)) e'5.1 (s_mvT rfl (s_ext rfl rfl (s_ext rfl rfl (s_ext rfl rfl (s_alloc (s_storeP rfl (show lk _ (d, 20488) = some (_, ([.i .u8 0, .i .i64 0, .s [], .sl .full (List.map Val.row ([] : List Val)), .b false] : List AV)) from lk_here) rfl rfl rfl (s_mvS rfl (s_mvB rfl (s_nil (W.seq (W.seq (W.reg0 rfl fun _ _ => s_mvB rfl (s_not rfl (s_mvB rfl (s_emb (g := 43) rfl (fun g'6 => s_gn (b := true) rfl rfl (s_gn (b := true) rfl rfl (s_gn (b := true) rfl rfl (s_pickTB rfl rfl (s_nil (c_tt rfl (W.seq (W.reg0 rfl fun _ _ => s_build f_nil (s_storeP H8 (lk_other rfl (lk_other rfl B0)) rfl rfl rfl (s_mvS rfl (s_mvB rfl (s_nil (W.ret (hQ _ _ _ _ _ _ _ _ H8 lk_here rfl rfl  (e'5.2.1 g'6))))))))))))))) (fun g'6 => s_gy rfl (s_mvS rfl (s_gy rfl (s_lenS rfl (s_gy rfl (s_bin rfl rfl (abin_eql _ _ _) (s_pickFB rfl rfl (s_nil (c_split rfl (fun g'7 => W.seq (W.reg0 rfl fun _ _ => s_build f_nil (s_storeP H8 (lk_other rfl (lk_other rfl B0)) rfl rfl rfl (s_mvS rfl (s_mvB rfl (s_nil (W.ret (hQ _ _ _ _ _ _ _ _ H8 lk_here rfl rfl  ((e'5.2.2 g'6).1 g'7))))))))) (fun g'7 => W.skip (W.seq (W.reg0 rfl fun _ _ => s_fadP H11 (s_loadP rfl (lk_other rfl (lk_other rfl B4098)) rfl rfl (s_loadP rfl lk_here rfl rfl (s_bslM (f := Val.row) (l := [r'2]) rfl rfl (g_cons rfl rfl rfl g_nil) (by simp only [List.map_cons, List.map_nil, Val.row_eq]; rfl) (s_app Val.row_len rfl rfl rfl Ab4098.1 ((e'5.2.2 g'6).2 g'7).1 rfl (fun o'8 ow'11 a'9 fr'10 on'12 => s_fadP H11 (s_storeP rfl (lk_other rfl (lk_other rfl B4098)) rfl rfl rfl (s_nil (W.seq (W.seq (W.reg0 rfl fun _ _ => s_mvS rfl (((e'5.2.2 g'6).2 g'7).2.elim fun c'13 e'14 => s_ixS rfl rfl (by decide) e'14.1 (s_mvI H2 (s_bin rfl rfl (abin_eql _ _ _) (s_nil (c_split rfl (fun g'15 => W.seq (W.reg0 rfl fun _ _ => s_loadP H11 lk_here rfl rfl (s_mvS rfl (s_slS_lo rfl rfl (by decide) (e'14.2.1 g'15).1 (s_storeP H8 (lk_other rfl (lk_other rfl (lk_other rfl B0))) rfl rfl rfl (s_mvS rfl (s_mvB rfl (s_nil (W.ret (hQ _ _ _ _ _ _ _ _ H8 lk_here rfl rfl  (e'14.2.1 g'15).2)))))))))) (fun g'15 => W.skip (W.seq (W.seq (W.reg0 rfl fun _ _ => s_mvS rfl ((e'14.2.2 g'15).elim fun r'16 e'17 => s_call (sc rfl rfl (sc rfl rfl sn)) e'17.1 (s_not rfl (s_nil (c_bool rfl (fun g'18 => W.seq (W.reg0 rfl fun _ _ => s_build f_nil (s_storeP H8 (lk_other rfl (lk_other rfl (lk_other rfl B0))) rfl rfl rfl (s_mvS rfl (s_mvB rfl (s_nil (W.ret (hQ _ _ _ _ _ _ _ _ H8 lk_here rfl rfl  (e'17.2.1 g'18))))))))) (fun g'18 => W.skip (W.reg0 rfl fun _ _ => s_mvS rfl (s_slS_lo rfl rfl (by decide) (e'17.2.2 g'18).1 (s_mvS rfl (s_nil (kP0 _ _ _ (e'17.2.2 g'18).2 _ _ _ _ _ _ rfl H2 H3 H8 H11 (ApM.mk a'9 (Mine.app Ab4098.2 rfl on'12)) (lk_other rfl (lk_other rfl (lk_other rfl B0))) lk_here)))))))))))))))))))))))))))))))))))))))))))))))))))))))))))))))) (fun g'1 => W.exit (w133_4 (m0 := m0) hQ  H8 B0 (h.2 g'1))))))))))
def T133_2 (prog : Prog) (K : Val → List UInt8 → Bool → Prop) (s0 : List UInt8) (end2 : Int) (deep3 : Int) (m0 : Val) (m4098 : Val) : Prop :=
  ((s0.length : Int) > 0 → ∃ c'2 : UInt8, s0[0]? = some c'2 ∧ ((c'2.toNat : Int) = end2 → 1 ≤ s0.length ∧ K m4098 (s0.drop 1) true) ∧ (¬((c'2.toNat : Int) = end2) → ∀ P0 : List UInt8 → Val → Val → Prop, (∀ (s0 : List UInt8) (m0 : Val) (m4098 : Val), T133_3 prog K P0 s0 end2 deep3 m0 m4098 → P0 s0 m0 m4098) → P0 s0 m0 m4098)) ∧ (¬((s0.length : Int) > 0) → ∀ P0 : List UInt8 → Val → Val → Prop, (∀ (s0 : List UInt8) (m0 : Val) (m4098 : Val), T133_3 prog K P0 s0 end2 deep3 m0 m4098 → P0 s0 m0 m4098) → P0 s0 m0 m4098)
theorem w133_2 {prog : Prog} {d : Nat} {Q : AE → Sl → St → Prop} {K : Val → List UInt8 → Bool → Prop} (hQ : ∀ (σ : Sl) (st : St) (k0 : Key) (v0 : Nat) (o0_0 : Own) (x0 : Val) (x1 : List UInt8) (x2 : Bool), σ 8 = .p k0 v0 0 → lk st.bx k0 = some (v0, [.i .u8 x0.kind, .i .i64 x0.int, .s x0.text, .sl o0_0 (List.map Val.row x0.list), .b x0.cut]) → σ 9 = .s x1 → σ 10 = .b x2 → K x0 x1 x2 → Q .ret σ st) {s0 : List UInt8} {end2 : Int} {deep3 : Int} {m0 : Val} {m4098 : Val}   {σ : Sl} {st : St} {o_m0_3 o_m4098_3 : Own} {v0 : Nat} {v4098 : Nat} (H0 : σ 0 = .s s0) (H2 : σ 2 = .i .u8 end2) (H3 : σ 3 = .i .i64 deep3) (H8 : σ 8 = .p (d, 0) v0 0) (H11 : σ 11 = .p (d, 4098) v4098 0) (Ab4098 : ApM d st.ow o_m4098_3 m4098.list.length) (B0 : lk st.bx (d, 0) = some (v0, [.i .u8 m0.kind, .i .i64 m0.int, .s m0.text, .sl o_m0_3 (List.map Val.row m0.list), .b m0.cut])) (B4098 : lk st.bx (d, 4098) = some (v4098, [.i .u8 m4098.kind, .i .i64 m4098.int, .s m4098.text, .sl o_m4098_3 (List.map Val.row m4098.list), .b m4098.cut])) (h : T133_2 prog K s0 end2 deep3 m0 m4098) : W prog d c133_2 σ st Q :=
  W.seq (W.seq (W.reg0 rfl fun _ _ => s_mvS H0 (s_lenS rfl (s_bin rfl rfl (abin_gtr _ _ _) (s_mvB rfl (s_em (g := 20) rfl (fun g'1 => s_gy rfl (s_mvS H0 (s_gy rfl ((h.1 g'1).elim fun c'2 e'3 => s_ixS rfl rfl (by decide) e'3.1 (s_gy rfl (s_mvI H2 (s_gy rfl (s_bin rfl rfl (abin_eql _ _ _) (s_pickTB rfl rfl (s_nil (c_split rfl (fun g'4 => W.seq (W.reg0 rfl fun _ _ => s_loadP H11 B4098 rfl rfl (s_mvS H0 (s_slS_lo rfl rfl (by decide) (e'3.2.1 g'4).1 (s_storeP H8 B0 rfl rfl rfl (s_mvS rfl (s_mvB rfl (s_nil (W.ret (hQ _ _ _ _ _ _ _ _ H8 lk_here rfl rfl  (e'3.2.1 g'4).2)))))))))) (fun g'4 => W.skip (W.seq (W.block ((e'3.2.2 g'4) (I133_0 prog d Q end2 deep3) (fun _ _ _ hb _ _ _ _ _ _ H0 H2 H3 H8 H11 Ab4098 B0 B4098 => W.loop (w133_3 hQ (fun _ _ _ x => x) H0 H2 H3 H8 H11 Ab4098 B0 B4098 hb)) _ _ _ _ _ _ H0 H2 H3 H8 H11 Ab4098 B0 B4098))))))))))))))) (fun g'1 => s_gn (b := false) rfl rfl (s_gn (b := false) rfl rfl (s_gn (b := false) rfl rfl (s_gn (b := false) rfl rfl (s_pickFB rfl rfl (s_nil (c_ff rfl (W.skip (W.seq (W.block ((h.2 g'1) (I133_0 prog d Q end2 deep3) (fun _ _ _ hb _ _ _ _ _ _ H0 H2 H3 H8 H11 Ab4098 B0 B4098 => W.loop (w133_3 hQ (fun _ _ _ x => x) H0 H2 H3 H8 H11 Ab4098 B0 B4098 hb)) _ _ _ _ _ _ H0 H2 H3 H8 H11 Ab4098 B0 B4098)))))))))))))))))
def T133_1 (prog : Prog) (K : Val → List UInt8 → Bool → Prop) (s0 : List UInt8) (kind1 : Int) (end2 : Int) (deep3 : Int) (m0 : Val) : Prop :=
  T133_2 prog K s0 end2 deep3 m0 (Val.mk kind1 0 [] ([] : List Val) false)
theorem w133_1 {prog : Prog} {d : Nat} {Q : AE → Sl → St → Prop} {K : Val → List UInt8 → Bool → Prop} (hQ : ∀ (σ : Sl) (st : St) (k0 : Key) (v0 : Nat) (o0_0 : Own) (x0 : Val) (x1 : List UInt8) (x2 : Bool), σ 8 = .p k0 v0 0 → lk st.bx k0 = some (v0, [.i .u8 x0.kind, .i .i64 x0.int, .s x0.text, .sl o0_0 (List.map Val.row x0.list), .b x0.cut]) → σ 9 = .s x1 → σ 10 = .b x2 → K x0 x1 x2 → Q .ret σ st) {s0 : List UInt8} {kind1 : Int} {end2 : Int} {deep3 : Int} {m0 : Val}   {σ : Sl} {st : St} {o_m0_3 : Own} {v0 : Nat} (H0 : σ 0 = .s s0) (H1 : σ 1 = .i .u8 kind1) (H2 : σ 2 = .i .u8 end2) (H3 : σ 3 = .i .i64 deep3) (H8 : σ 8 = .p (d, 0) v0 0) (B0 : lk st.bx (d, 0) = some (v0, [.i .u8 m0.kind, .i .i64 m0.int, .s m0.text, .sl o_m0_3 (List.map Val.row m0.list), .b m0.cut])) (h : T133_1 prog K s0 kind1 end2 deep3 m0) : W prog d c133_3 σ st Q :=
  W.seq (W.reg (s_mvI H1 (s_build (f_cons rfl rfl f_nil) (s_alloc (s_storeP rfl (show lk _ (d, 4098) = some (_, ([.i .u8 0, .i .i64 0, .s [], .sl .full (List.map Val.row ([] : List Val)), .b false] : List AV)) from lk_here) rfl rfl rfl (s_nil (w133_2 (s0 := s0) (end2 := end2) (deep3 := deep3) (m0 := m0) (m4098 := (Val.mk kind1 0 [] ([] : List Val) false)) hQ  H0 H2 H3 H8 rfl ApM.full (lk_other rfl (lk_other rfl B0)) lk_here h)))))))
def T133_0 (prog : Prog) (K : Val → List UInt8 → Bool → Prop) (s0 : List UInt8) (kind1 : Int) (end2 : Int) (deep3 : Int) : Prop :=
  T133_1 prog K s0 kind1 end2 deep3 (Val.mk 0 0 [] ([] : List Val) false)
theorem w133_0 {prog : Prog} {d : Nat} {Q : AE → Sl → St → Prop} {K : Val → List UInt8 → Bool → Prop} (hQ : ∀ (σ : Sl) (st : St) (k0 : Key) (v0 : Nat) (o0_0 : Own) (x0 : Val) (x1 : List UInt8) (x2 : Bool), σ 8 = .p k0 v0 0 → lk st.bx k0 = some (v0, [.i .u8 x0.kind, .i .i64 x0.int, .s x0.text, .sl o0_0 (List.map Val.row x0.list), .b x0.cut]) → σ 9 = .s x1 → σ 10 = .b x2 → K x0 x1 x2 → Q .ret σ st) {s0 : List UInt8} {kind1 : Int} {end2 : Int} {deep3 : Int}   {σ : Sl} {st : St} (H0 : σ 0 = .s s0) (H1 : σ 1 = .i .u8 kind1) (H2 : σ 2 = .i .u8 end2) (H3 : σ 3 = .i .i64 deep3) (h : T133_0 prog K s0 kind1 end2 deep3) : W prog d (.seq (.reg 0 r133_0) c133_3) σ st Q :=
  W.seq (W.reg (s_alloc (s_mvS rfl (s_mvB rfl (s_nil (w133_1 (s0 := s0) (kind1 := kind1) (end2 := end2) (deep3 := deep3) (m0 := (Val.mk 0 0 [] ([] : List Val) false)) hQ  H0 H1 H2 H3 rfl (show lk _ (d, 0) = some (_, ([.i .u8 0, .i .i64 0, .s [], .sl .full (List.map Val.row ([] : List Val)), .b false] : List AV)) from lk_here) h))))))
theorem p133 {prog : Prog} (hf : prog.fn 133 = some pf133) {s0 : List UInt8} {kind1 : Int} {end2 : Int} {deep3 : Int} {K : Val → List UInt8 → Bool → Prop} (h : T133_0 prog K s0 kind1 end2 deep3) : ∃ x0 : Val, ∃ x1 : List UInt8, ∃ x2 : Bool, K x0 x1 x2 ∧ Pus prog 133 [.s s0, .i .u8 kind1, .i .u8 end2, .i .i64 deep3] (.tup [.ag [.i .u8 x0.kind, .i .i64 x0.int, .s x0.text, .sl .ext (List.map Val.row x0.list), .b x0.cut], .s x1, .b x2]) := by
  obtain ⟨v, hv, x0, x1, x2, hk, rfl⟩ := Pus.of (K := fun v => ∃ x0 : Val, ∃ x1 : List UInt8, ∃ x2 : Bool, K x0 x1 x2 ∧ v = .tup [.ag [.i .u8 x0.kind, .i .i64 x0.int, .s x0.text, .sl .ext (List.map Val.row x0.list), .b x0.cut], .s x1, .b x2]) hf rfl (w133_0 (σ := sl0 [.s s0, .i .u8 kind1, .i .u8 end2, .i .i64 deep3]) (fun σ st k0 v0 o0_0 x0 x1 x2 H8 HB8 H9 H10 hk => ⟨.tup [.ag [.i .u8 x0.kind, .i .i64 x0.int, .s x0.text, .sl o0_0 (List.map Val.row x0.list), .b x0.cut], .s x1, .b x2], by simp only [pf133, ares, aresL, ares_cellA (n := 5) H8 HB8 rfl, H9, H10, ares_tmp, Option.map_some], _, rfl, x0, x1, x2, hk, rfl⟩) rfl rfl rfl rfl h)
  exact ⟨x0, x1, x2, hk, hv⟩

/-! wreckage/wreckageref38.quoted -/
def r134_0 : List AI := [⟨(some 2), .mv (.c (.i .i64 0)), none⟩]
def r134_1 : List AI := [⟨(some 3), .mv (.c (.i .i64 1)), none⟩]
def r134_2 : List AI := [⟨(some 4), .mv (.t 3), none⟩,
  ⟨(some 5), .mv (.t 0), none⟩,
  ⟨(some 6), .len true (.t 5), none⟩,
  ⟨(some 7), .bin .lss (.t 4) (.t 6), none⟩]
def r134_3 : List AI := [⟨(some 10), .mv (.t 0), none⟩,
  ⟨(some 11), .mv (.t 3), none⟩,
  ⟨(some 12), .ixS (.t 10) (.t 11), none⟩,
  ⟨(some 13), .bin .eql (.t 12) (.c (.i .u8 92)), none⟩]
def r134_4 : List AI := [⟨(some 14), .mv (.t 3), none⟩,
  ⟨(some 15), .bin .add (.t 14) (.c (.i .i64 1)), none⟩,
  ⟨(some 3), .mv (.t 15), none⟩]
def r134_5 : List AI := [⟨(some 16), .mv (.t 0), none⟩,
  ⟨(some 17), .mv (.t 3), none⟩,
  ⟨(some 18), .ixS (.t 16) (.t 17), none⟩,
  ⟨(some 19), .bin .eql (.t 18) (.c (.i .u8 34)), none⟩]
def r134_6 : List AI := [⟨(some 20), .mv (.t 3), none⟩,
  ⟨(some 21), .bin .add (.t 20) (.c (.i .i64 1)), none⟩,
  ⟨(some 2), .mv (.t 21), none⟩]
def r134_7 : List AI := [⟨(some 8), .mv (.t 3), none⟩,
  ⟨(some 9), .bin .add (.t 8) (.c (.i .i64 1)), none⟩,
  ⟨(some 3), .mv (.t 9), none⟩]
def r134_8 : List AI := [⟨(some 2), .mv (.c (.i .i64 0)), none⟩]
abbrev c134_0 : AC := (.reg 3 r134_7)
abbrev l134_0 : AC := (.seq (.seq (.reg 2 r134_2) (.cond (.t 7) .skip (.exit 0))) (.seq (.block 1 (.seq (.seq (.reg 4 r134_3) (.cond (.t 13) (.seq (.reg 5 r134_4) (.exit 1)) .skip)) (.seq (.reg 6 r134_5) (.cond (.t 19) (.seq (.reg 7 r134_6) .ret) .skip)))) c134_0))
abbrev c134_2 : AC := (.seq (.reg 8 r134_8) .ret)
abbrev b134 : AC := (.seq (.reg 0 r134_0) (.seq (.seq (.reg 1 r134_1) (.block 0 (.loop l134_0))) c134_2))
def pf134 : AF := { nt := 22, res := [.tmp 2], body := b134 }
abbrev I134_0 (prog : Prog) (d : Nat) (Q : AE → Sl → St → Prop) (s0 : List UInt8) (i3 : Int) : Prop :=
  ∀ (σ : Sl) (st : St), σ 0 = .s s0 → σ 3 = .i .i64 i3 → W prog d (.loop l134_0) σ st (blockW 0 (thenW prog d c134_2 Q))
def T134_2 (prog : Prog) (K : Int → Prop) (P0 : Int → Prop) (s0 : List UInt8) (i3 : Int) : Prop :=
  P0 (IntKind.i64.wrap (i3 + 1))
theorem w134_2 {prog : Prog} {d : Nat} {Q : AE → Sl → St → Prop} {K : Int → Prop} (hQ : ∀ (σ : Sl) (st : St) (x0 : Int), σ 2 = .i .i64 x0 → K x0 → Q .ret σ st) {s0 : List UInt8} {i3 : Int} {P0 : Int → Prop} (kP0 : ∀ (i3 : Int), P0 i3 → I134_0 prog d Q s0 i3) {σ : Sl} {st : St} (H0 : σ 0 = .s s0) (H3 : σ 3 = .i .i64 i3) (h : T134_2 prog K P0 s0 i3) : W prog d c134_0 σ st (thenW prog d (.loop l134_0) (blockW 0 (thenW prog d c134_2 Q))) :=
  W.reg0 rfl fun _ _ => s_mvI H3 (s_bin rfl rfl (abin_add _ _ _) (s_mvI rfl (s_nil (kP0 _ h _ _  H0 rfl))))
def T134_3 (prog : Prog) (K : Int → Prop)  : Prop :=
  K 0
theorem w134_3 {prog : Prog} {d : Nat} {Q : AE → Sl → St → Prop} {K : Int → Prop} (hQ : ∀ (σ : Sl) (st : St) (x0 : Int), σ 2 = .i .i64 x0 → K x0 → Q .ret σ st)    {σ : Sl} {st : St}  (h : T134_3 prog K ) : W prog d c134_2 σ st Q :=
  W.seq (W.reg0 rfl fun _ _ => s_mvI rfl (s_nil (W.ret (hQ _ _   _ rfl  h))))
def T134_1 (prog : Prog) (K : Int → Prop) (P0 : Int → Prop) (s0 : List UInt8) (i3 : Int) : Prop :=
  (i3 < (s0.length : Int) → 0 ≤ i3 ∧ ∃ c'2 : UInt8, s0[(i3).toNat]? = some c'2 ∧ ((c'2.toNat : Int) = 92 → T134_2 prog K P0 s0 (IntKind.i64.wrap (i3 + 1))) ∧ (¬((c'2.toNat : Int) = 92) → 0 ≤ i3 ∧ ∃ c'5 : UInt8, s0[(i3).toNat]? = some c'5 ∧ ((c'5.toNat : Int) = 34 → K (IntKind.i64.wrap (i3 + 1))) ∧ (¬((c'5.toNat : Int) = 34) → T134_2 prog K P0 s0 i3))) ∧ (¬(i3 < (s0.length : Int)) → T134_3 prog K )
theorem w134_1 {prog : Prog} {d : Nat} {Q : AE → Sl → St → Prop} {K : Int → Prop} (hQ : ∀ (σ : Sl) (st : St) (x0 : Int), σ 2 = .i .i64 x0 → K x0 → Q .ret σ st) {s0 : List UInt8} {i3 : Int} {P0 : Int → Prop} (kP0 : ∀ (i3 : Int), P0 i3 → I134_0 prog d Q s0 i3) {σ : Sl} {st : St} (H0 : σ 0 = .s s0) (H3 : σ 3 = .i .i64 i3) (h : T134_1 prog K P0 s0 i3) : W prog d l134_0 σ st (thenW prog d (.loop l134_0) (blockW 0 (thenW prog d c134_2 Q))) :=
  W.seq (W.seq (W.reg0 rfl fun _ _ => s_mvI H3 (s_mvS H0 (s_lenS rfl (s_bin rfl rfl (abin_lss _ _ _) (s_nil (c_split rfl (fun g'1 => W.skip (W.seq (W.block (W.seq (W.seq (W.reg0 rfl fun _ _ => s_mvS H0 (s_mvI H3 ((h.1 g'1).2.elim fun c'2 e'3 => s_ixS rfl rfl (h.1 g'1).1 e'3.1 (s_bin rfl rfl (abin_eql _ _ _) (s_nil (c_split rfl (fun g'4 => W.seq (W.reg0 rfl fun _ _ => s_mvI H3 (s_bin rfl rfl (abin_add _ _ _) (s_mvI rfl (s_nil (W.exit (w134_2  hQ kP0 H0 rfl (e'3.2.1 g'4)))))))) (fun g'4 => W.skip (W.seq (W.reg0 rfl fun _ _ => s_mvS H0 (s_mvI H3 ((e'3.2.2 g'4).2.elim fun c'5 e'6 => s_ixS rfl rfl (e'3.2.2 g'4).1 e'6.1 (s_bin rfl rfl (abin_eql _ _ _) (s_nil (c_split rfl (fun g'7 => W.seq (W.reg0 rfl fun _ _ => s_mvI H3 (s_bin rfl rfl (abin_add _ _ _) (s_mvI rfl (s_nil (W.ret (hQ _ _   _ rfl  (e'6.2.1 g'7)))))))) (fun g'7 => W.skip (w134_2  hQ kP0 H0 H3 (e'6.2.2 g'7)))))))))))))))))))))) (fun g'1 => W.exit (w134_3  hQ   (h.2 g'1))))))))))
def T134_0 (prog : Prog) (K : Int → Prop) (s0 : List UInt8) : Prop :=
  ∀ P0 : Int → Prop, (∀ (i3 : Int), T134_1 prog K P0 s0 i3 → P0 i3) → P0 1
theorem w134_0 {prog : Prog} {d : Nat} {Q : AE → Sl → St → Prop} {K : Int → Prop} (hQ : ∀ (σ : Sl) (st : St) (x0 : Int), σ 2 = .i .i64 x0 → K x0 → Q .ret σ st) {s0 : List UInt8}   {σ : Sl} {st : St} (H0 : σ 0 = .s s0) (h : T134_0 prog K s0) : W prog d (.seq (.reg 0 r134_0) (.seq (.seq (.reg 1 r134_1) (.block 0 (.loop l134_0))) c134_2)) σ st Q :=
  W.seq (W.reg0 rfl fun _ _ => s_mvI rfl (s_nil (W.seq (W.seq (W.reg0 rfl fun _ _ => s_mvI rfl (s_nil (W.block (h (I134_0 prog d Q s0) (fun _ hb _ _  H0 H3 => W.loop (w134_1 hQ (fun _ x => x) H0 H3 hb)) _ _  H0 rfl))))))))
theorem p134 {prog : Prog} (hf : prog.fn 134 = some pf134) {s0 : List UInt8} {K : Int → Prop} (h : T134_0 prog K s0) : ∃ x0 : Int, K x0 ∧ Pus prog 134 [.s s0] (.i .i64 x0) := by
  obtain ⟨v, hv, x0, hk, rfl⟩ := Pus.of (K := fun v => ∃ x0 : Int, K x0 ∧ v = .i .i64 x0) hf rfl (w134_0 (σ := sl0 [.s s0]) (fun σ st   x0 H2 hk => ⟨.i .i64 x0, by simp only [pf134, ares, aresL, H2, ares1, Option.map_some], _, rfl, x0, hk, rfl⟩) rfl h)
  exact ⟨x0, hk, hv⟩

/-! wreckage/wreckageref38.number -/
def r135_0 : List AI := [⟨(some 2), .mv (.c (.i .i64 0)), none⟩]
def r135_1 : List AI := [⟨(some 3), .mv (.c (.i .i64 0)), none⟩]
def r135_2 : List AI := [⟨(some 4), .mv (.t 0), none⟩,
  ⟨(some 5), .call false 132 [(.t 4), (.c (.s [45]))], none⟩]
def r135_3 : List AI := [⟨(some 3), .mv (.c (.i .i64 1)), none⟩]
def r135_4 : List AI := [⟨(some 6), .mv (.t 3), none⟩,
  ⟨(some 7), .mv (.t 0), none⟩,
  ⟨(some 8), .len true (.t 7), none⟩,
  ⟨(some 9), .bin .lss (.t 6) (.t 8), none⟩,
  ⟨(some 10), .mv (.t 9), none⟩,
  ⟨(some 11), .mv (.t 0), (some (10, true))⟩,
  ⟨(some 12), .mv (.t 3), (some (10, true))⟩,
  ⟨(some 13), .ixS (.t 11) (.t 12), (some (10, true))⟩,
  ⟨(some 14), .bin .geq (.t 13) (.c (.i .u8 48)), (some (10, true))⟩,
  ⟨(some 15), .pick (.t 10) (.t 14) (.c (.b false)), none⟩,
  ⟨(some 16), .mv (.t 15), none⟩,
  ⟨(some 17), .mv (.t 0), (some (16, true))⟩,
  ⟨(some 18), .mv (.t 3), (some (16, true))⟩,
  ⟨(some 19), .ixS (.t 17) (.t 18), (some (16, true))⟩,
  ⟨(some 20), .bin .leq (.t 19) (.c (.i .u8 57)), (some (16, true))⟩,
  ⟨(some 21), .pick (.t 16) (.t 20) (.c (.b false)), none⟩]
def r135_5 : List AI := [⟨(some 22), .mv (.t 3), none⟩,
  ⟨(some 23), .bin .add (.t 22) (.c (.i .i64 1)), none⟩,
  ⟨(some 3), .mv (.t 23), none⟩]
def r135_6 : List AI := [⟨(some 24), .mv (.t 3), none⟩,
  ⟨(some 2), .mv (.t 24), none⟩]
abbrev l135_0 : AC := (.seq (.seq (.reg 4 r135_4) (.cond (.t 21) .skip (.exit 0))) (.block 1 (.reg 5 r135_5)))
abbrev c135_1 : AC := (.seq (.reg 6 r135_6) .ret)
abbrev c135_2 : AC := (.seq (.block 0 (.loop l135_0)) c135_1)
abbrev b135 : AC := (.seq (.reg 0 r135_0) (.seq (.reg 1 r135_1) (.seq (.seq (.reg 2 r135_2) (.cond (.t 5) (.reg 3 r135_3) .skip)) c135_2)))
def pf135 : AF := { nt := 25, res := [.tmp 2], body := b135 }
abbrev I135_0 (prog : Prog) (d : Nat) (Q : AE → Sl → St → Prop) (s0 : List UInt8) (n3 : Int) : Prop :=
  ∀ (σ : Sl) (st : St), σ 0 = .s s0 → σ 3 = .i .i64 n3 → W prog d (.loop l135_0) σ st (blockW 0 (thenW prog d c135_1 Q))
def T135_3 (prog : Prog) (K : Int → Prop) (n3 : Int) : Prop :=
  K n3
theorem w135_3 {prog : Prog} {d : Nat} {Q : AE → Sl → St → Prop} {K : Int → Prop} (hQ : ∀ (σ : Sl) (st : St) (x0 : Int), σ 2 = .i .i64 x0 → K x0 → Q .ret σ st) {n3 : Int}   {σ : Sl} {st : St} (H3 : σ 3 = .i .i64 n3) (h : T135_3 prog K n3) : W prog d c135_1 σ st Q :=
  W.seq (W.reg0 rfl fun _ _ => s_mvI H3 (s_mvI rfl (s_nil (W.ret (hQ _ _   _ rfl  h)))))
def T135_2 (prog : Prog) (K : Int → Prop) (P0 : Int → Prop) (s0 : List UInt8) (n3 : Int) : Prop :=
  (n3 < (s0.length : Int) → 0 ≤ n3 ∧ ∃ c'2 : UInt8, s0[(n3).toNat]? = some c'2 ∧ ((c'2.toNat : Int) ≥ 48 → 0 ≤ n3 ∧ ∃ c'5 : UInt8, s0[(n3).toNat]? = some c'5 ∧ ((c'5.toNat : Int) ≤ 57 → P0 (IntKind.i64.wrap (n3 + 1))) ∧ (¬((c'5.toNat : Int) ≤ 57) → T135_3 prog K n3)) ∧ (¬((c'2.toNat : Int) ≥ 48) → T135_3 prog K n3)) ∧ (¬(n3 < (s0.length : Int)) → T135_3 prog K n3)
theorem w135_2 {prog : Prog} {d : Nat} {Q : AE → Sl → St → Prop} {K : Int → Prop} (hQ : ∀ (σ : Sl) (st : St) (x0 : Int), σ 2 = .i .i64 x0 → K x0 → Q .ret σ st) {s0 : List UInt8} {n3 : Int} {P0 : Int → Prop} (kP0 : ∀ (n3 : Int), P0 n3 → I135_0 prog d Q s0 n3) {σ : Sl} {st : St} (H0 : σ 0 = .s s0) (H3 : σ 3 = .i .i64 n3) (h : T135_2 prog K P0 s0 n3) : W prog d l135_0 σ st (thenW prog d (.loop l135_0) (blockW 0 (thenW prog d c135_1 Q))) :=
  W.seq (W.seq (W.reg0 rfl fun _ _ => s_mvI H3 (s_mvS H0 (s_lenS rfl (s_bin rfl rfl (abin_lss _ _ _) (s_mvB rfl (s_em (g := 10) rfl (fun g'1 => s_gy rfl (s_mvS H0 (s_gy rfl (s_mvI H3 (s_gy rfl ((h.1 g'1).2.elim fun c'2 e'3 => s_ixS rfl rfl (h.1 g'1).1 e'3.1 (s_gy rfl (s_bin rfl rfl (abin_geq _ _ _) (s_pickTB rfl rfl (s_mvB rfl (s_em (g := 16) rfl (fun g'4 => s_gy rfl (s_mvS H0 (s_gy rfl (s_mvI H3 (s_gy rfl ((e'3.2.1 g'4).2.elim fun c'5 e'6 => s_ixS rfl rfl (e'3.2.1 g'4).1 e'6.1 (s_gy rfl (s_bin rfl rfl (abin_leq _ _ _) (s_pickTB rfl rfl (s_nil (c_split rfl (fun g'7 => W.skip (W.block (W.reg0 rfl fun _ _ => s_mvI H3 (s_bin rfl rfl (abin_add _ _ _) (s_mvI rfl (s_nil (kP0 _ (e'6.2.1 g'7) _ _  H0 rfl))))))) (fun g'7 => W.exit (w135_3  hQ  H3 (e'6.2.2 g'7)))))))))))))) (fun g'4 => s_gn (b := false) rfl rfl (s_gn (b := false) rfl rfl (s_gn (b := false) rfl rfl (s_gn (b := false) rfl rfl (s_pickFB rfl rfl (s_nil (c_ff rfl (W.exit (w135_3  hQ  H3 (e'3.2.2 g'4))))))))))))))))))))) (fun g'1 => s_gn (b := false) rfl rfl (s_gn (b := false) rfl rfl (s_gn (b := false) rfl rfl (s_gn (b := false) rfl rfl (s_pickFB rfl rfl (s_mvB rfl (s_gn (b := false) rfl rfl (s_gn (b := false) rfl rfl (s_gn (b := false) rfl rfl (s_gn (b := false) rfl rfl (s_pickFB rfl rfl (s_nil (c_ff rfl (W.exit (w135_3  hQ  H3 (h.2 g'1)))))))))))))))))))))))
def T135_1 (prog : Prog) (K : Int → Prop) (s0 : List UInt8) (n3 : Int) : Prop :=
  ∀ P0 : Int → Prop, (∀ (n3 : Int), T135_2 prog K P0 s0 n3 → P0 n3) → P0 n3
theorem w135_1 {prog : Prog} {d : Nat} {Q : AE → Sl → St → Prop} {K : Int → Prop} (hQ : ∀ (σ : Sl) (st : St) (x0 : Int), σ 2 = .i .i64 x0 → K x0 → Q .ret σ st) {s0 : List UInt8} {n3 : Int}   {σ : Sl} {st : St} (H0 : σ 0 = .s s0) (H3 : σ 3 = .i .i64 n3) (h : T135_1 prog K s0 n3) : W prog d c135_2 σ st Q :=
  W.seq (W.block (h (I135_0 prog d Q s0) (fun _ hb _ _  H0 H3 => W.loop (w135_2 hQ (fun _ x => x) H0 H3 hb)) _ _  H0 H3))
def T135_0 (prog : Prog) (K : Int → Prop) (s0 : List UInt8) : Prop :=
  ∃ r'1 : Bool, Pus prog 132 [.s s0, .s ([45] : List UInt8)] (.b r'1) ∧ (r'1 = true → T135_1 prog K s0 1) ∧ (r'1 = false → T135_1 prog K s0 0)
theorem w135_0 {prog : Prog} {d : Nat} {Q : AE → Sl → St → Prop} {K : Int → Prop} (hQ : ∀ (σ : Sl) (st : St) (x0 : Int), σ 2 = .i .i64 x0 → K x0 → Q .ret σ st) {s0 : List UInt8}   {σ : Sl} {st : St} (H0 : σ 0 = .s s0) (h : T135_0 prog K s0) : W prog d (.seq (.reg 0 r135_0) (.seq (.reg 1 r135_1) (.seq (.seq (.reg 2 r135_2) (.cond (.t 5) (.reg 3 r135_3) .skip)) c135_2))) σ st Q :=
  W.seq (W.reg0 rfl fun _ _ => s_mvI rfl (s_nil (W.seq (W.reg0 rfl fun _ _ => s_mvI rfl (s_nil (W.seq (W.seq (W.reg0 rfl fun _ _ => s_mvS H0 (h.elim fun r'1 e'2 => s_call (sc rfl rfl (sc rfl rfl sn)) e'2.1 (s_nil (c_bool rfl (fun g'3 => W.reg0 rfl fun _ _ => s_mvI rfl (s_nil (w135_1  hQ  H0 rfl (e'2.2.1 g'3)))) (fun g'3 => W.skip (w135_1  hQ  H0 rfl (e'2.2.2 g'3))))))))))))))
theorem p135 {prog : Prog} (hf : prog.fn 135 = some pf135) {s0 : List UInt8} {K : Int → Prop} (h : T135_0 prog K s0) : ∃ x0 : Int, K x0 ∧ Pus prog 135 [.s s0] (.i .i64 x0) := by
  obtain ⟨v, hv, x0, hk, rfl⟩ := Pus.of (K := fun v => ∃ x0 : Int, K x0 ∧ v = .i .i64 x0) hf rfl (w135_0 (σ := sl0 [.s s0]) (fun σ st   x0 H2 hk => ⟨.i .i64 x0, by simp only [pf135, ares, aresL, H2, ares1, Option.map_some], _, rfl, x0, hk, rfl⟩) rfl h)
  exact ⟨x0, hk, hv⟩

/-! wreckage/wreckageref38.Same -/
def r78_0 : List AI := [⟨(some 2), .box 5 (.t 0), none⟩,
  ⟨(some 3), .box 5 (.t 1), none⟩,
  ⟨(some 4), .mv (.c (.b false)), none⟩]
def r78_1 : List AI := [⟨(some 6), .fad 0 (.t 2), none⟩,
  ⟨(some 7), .load 1 false (.t 6), none⟩,
  ⟨(some 8), .fad 0 (.t 3), none⟩,
  ⟨(some 9), .load 1 false (.t 8), none⟩,
  ⟨(some 10), .bin .neq (.t 7) (.t 9), none⟩,
  ⟨(some 11), .mv (.t 10), none⟩,
  ⟨(some 12), .fad 1 (.t 2), (some (11, false))⟩,
  ⟨(some 13), .load 1 false (.t 12), (some (11, false))⟩,
  ⟨(some 14), .fad 1 (.t 3), (some (11, false))⟩,
  ⟨(some 15), .load 1 false (.t 14), (some (11, false))⟩,
  ⟨(some 16), .bin .neq (.t 13) (.t 15), (some (11, false))⟩,
  ⟨(some 17), .pick (.t 11) (.c (.b true)) (.t 16), none⟩,
  ⟨(some 18), .mv (.t 17), none⟩,
  ⟨(some 19), .fad 2 (.t 2), (some (18, false))⟩,
  ⟨(some 20), .load 1 false (.t 19), (some (18, false))⟩,
  ⟨(some 21), .fad 2 (.t 3), (some (18, false))⟩,
  ⟨(some 22), .load 1 false (.t 21), (some (18, false))⟩,
  ⟨(some 23), .bin .neq (.t 20) (.t 22), (some (18, false))⟩,
  ⟨(some 24), .pick (.t 18) (.c (.b true)) (.t 23), none⟩,
  ⟨(some 25), .mv (.t 24), none⟩,
  ⟨(some 26), .fad 4 (.t 2), (some (25, false))⟩,
  ⟨(some 27), .load 1 false (.t 26), (some (25, false))⟩,
  ⟨(some 28), .fad 4 (.t 3), (some (25, false))⟩,
  ⟨(some 29), .load 1 false (.t 28), (some (25, false))⟩,
  ⟨(some 30), .beq true (.t 27) (.t 29), (some (25, false))⟩,
  ⟨(some 31), .pick (.t 25) (.c (.b true)) (.t 30), none⟩,
  ⟨(some 32), .mv (.t 31), none⟩,
  ⟨(some 33), .fad 3 (.t 2), (some (32, false))⟩,
  ⟨(some 34), .load 1 false (.t 33), (some (32, false))⟩,
  ⟨(some 35), .len false (.t 34), (some (32, false))⟩,
  ⟨(some 36), .fad 3 (.t 3), (some (32, false))⟩,
  ⟨(some 37), .load 1 false (.t 36), (some (32, false))⟩,
  ⟨(some 38), .len false (.t 37), (some (32, false))⟩,
  ⟨(some 39), .bin .neq (.t 35) (.t 38), (some (32, false))⟩,
  ⟨(some 40), .pick (.t 32) (.c (.b true)) (.t 39), none⟩]
def r78_2 : List AI := [⟨(some 4), .mv (.c (.b false)), none⟩]
def r78_3 : List AI := [⟨(some 5), .mv (.c (.i .i64 0)), none⟩]
def r78_4 : List AI := [⟨(some 41), .mv (.t 5), none⟩,
  ⟨(some 42), .fad 3 (.t 2), none⟩,
  ⟨(some 43), .load 1 false (.t 42), none⟩,
  ⟨(some 44), .len false (.t 43), none⟩,
  ⟨(some 45), .bin .lss (.t 41) (.t 44), none⟩]
def r78_5 : List AI := [⟨(some 48), .fad 3 (.t 2), none⟩,
  ⟨(some 49), .load 1 false (.t 48), none⟩,
  ⟨(some 50), .mv (.t 5), none⟩,
  ⟨(some 51), .iaL 5 (.t 49) (.t 50), none⟩,
  ⟨(some 52), .load 5 true (.t 51), none⟩,
  ⟨(some 53), .fad 3 (.t 3), none⟩,
  ⟨(some 54), .load 1 false (.t 53), none⟩,
  ⟨(some 55), .mv (.t 5), none⟩,
  ⟨(some 56), .iaL 5 (.t 54) (.t 55), none⟩,
  ⟨(some 57), .load 5 true (.t 56), none⟩,
  ⟨(some 58), .call false 78 [(.t 52), (.t 57)], none⟩,
  ⟨(some 59), .un .not (.t 58), none⟩]
def r78_6 : List AI := [⟨(some 4), .mv (.c (.b false)), none⟩]
def r78_7 : List AI := [⟨(some 46), .mv (.t 5), none⟩,
  ⟨(some 47), .bin .add (.t 46) (.c (.i .i64 1)), none⟩,
  ⟨(some 5), .mv (.t 47), none⟩]
def r78_8 : List AI := [⟨(some 4), .mv (.c (.b true)), none⟩]
abbrev l78_0 : AC := (.seq (.seq (.reg 4 r78_4) (.cond (.t 45) .skip (.exit 0))) (.seq (.block 1 (.seq (.reg 6 r78_5) (.cond (.t 59) (.seq (.reg 7 r78_6) .ret) .skip))) (.reg 5 r78_7)))
abbrev c78_1 : AC := (.seq (.reg 8 r78_8) .ret)
abbrev b78 : AC := (.seq (.reg 0 r78_0) (.seq (.seq (.reg 1 r78_1) (.cond (.t 40) (.seq (.reg 2 r78_2) .ret) .skip)) (.seq (.seq (.reg 3 r78_3) (.block 0 (.loop l78_0))) c78_1)))
def pf78 : AF := { nt := 60, res := [.tmp 4], body := b78 }
abbrev I78_0 (prog : Prog) (d : Nat) (Q : AE → Sl → St → Prop) (i5 : Int) (m0 : Val) (m1 : Val) : Prop :=
  ∀ (σ : Sl) (st : St) (v0 v1 : Nat), σ 2 = .p (d, 0) v0 0 → σ 3 = .p (d, 1) v1 0 → σ 5 = .i .i64 i5 → lk st.bx (d, 0) = some (v0, [.i .u8 m0.kind, .i .i64 m0.int, .s m0.text, .sl .ext (List.map Val.row m0.list), .b m0.cut]) → lk st.bx (d, 1) = some (v1, [.i .u8 m1.kind, .i .i64 m1.int, .s m1.text, .sl .ext (List.map Val.row m1.list), .b m1.cut]) → W prog d (.loop l78_0) σ st (blockW 0 (thenW prog d c78_1 Q))
def T78_2 (prog : Prog) (K : Bool → Prop)  : Prop :=
  K true
theorem w78_2 {prog : Prog} {d : Nat} {Q : AE → Sl → St → Prop} {K : Bool → Prop} (hQ : ∀ (σ : Sl) (st : St) (x0 : Bool), σ 4 = .b x0 → K x0 → Q .ret σ st)    {σ : Sl} {st : St}  (h : T78_2 prog K ) : W prog d c78_1 σ st Q :=
  W.seq (W.reg0 rfl fun _ _ => s_mvB rfl (s_nil (W.ret (hQ _ _   _ rfl  h))))
def T78_1 (prog : Prog) (K : Bool → Prop) (P0 : Int → Val → Val → Prop) (i5 : Int) (m0 : Val) (m1 : Val) : Prop :=
  (i5 < (m0.list.length : Int) → 0 ≤ i5 ∧ ∃ c'2 : Val, m0.list[(i5).toNat]? = some c'2 ∧ 0 ≤ i5 ∧ ∃ c'4 : Val, m1.list[(i5).toNat]? = some c'4 ∧ ∃ r'6 : Bool, Pus prog 78 [.ag [.i .u8 c'2.kind, .i .i64 c'2.int, .s c'2.text, .sl .ext (List.map Val.row c'2.list), .b c'2.cut], .ag [.i .u8 c'4.kind, .i .i64 c'4.int, .s c'4.text, .sl .ext (List.map Val.row c'4.list), .b c'4.cut]] (.b r'6) ∧ ((!r'6) = true → K false) ∧ ((!r'6) = false → P0 (IntKind.i64.wrap (i5 + 1)) m0 m1)) ∧ (¬(i5 < (m0.list.length : Int)) → T78_2 prog K )
theorem w78_1 {prog : Prog} {d : Nat} {Q : AE → Sl → St → Prop} {K : Bool → Prop} (hQ : ∀ (σ : Sl) (st : St) (x0 : Bool), σ 4 = .b x0 → K x0 → Q .ret σ st) {i5 : Int} {m0 : Val} {m1 : Val} {P0 : Int → Val → Val → Prop} (kP0 : ∀ (i5 : Int) (m0 : Val) (m1 : Val), P0 i5 m0 m1 → I78_0 prog d Q  i5 m0 m1) {σ : Sl} {st : St} {v0 : Nat} {v1 : Nat} (H2 : σ 2 = .p (d, 0) v0 0) (H3 : σ 3 = .p (d, 1) v1 0) (H5 : σ 5 = .i .i64 i5) (B0 : lk st.bx (d, 0) = some (v0, [.i .u8 m0.kind, .i .i64 m0.int, .s m0.text, .sl .ext (List.map Val.row m0.list), .b m0.cut])) (B1 : lk st.bx (d, 1) = some (v1, [.i .u8 m1.kind, .i .i64 m1.int, .s m1.text, .sl .ext (List.map Val.row m1.list), .b m1.cut])) (h : T78_1 prog K P0 i5 m0 m1) : W prog d l78_0 σ st (thenW prog d (.loop l78_0) (blockW 0 (thenW prog d c78_1 Q))) :=
  W.seq (W.seq (W.reg0 rfl fun _ _ => s_mvI H5 (s_fadP H2 (s_loadP rfl B0 rfl rfl (s_lenL rfl (s_bin rfl rfl (abin_lss _ _ _) (s_nil (c_split rfl (fun g'1 => W.skip (W.seq (W.block (W.seq (W.reg0 rfl fun _ _ => s_fadP H2 (s_loadP rfl B0 rfl rfl (s_mvI H5 ((h.1 g'1).2.elim fun c'2 e'3 => s_iaL rfl rfl (h.1 g'1).1 e'3.1 (Val.row_eq c'2) rfl (s_loadF rfl rfl rfl (s_fadP H3 (s_loadP rfl B1 rfl rfl (s_mvI H5 (e'3.2.2.elim fun c'4 e'5 => s_iaL rfl rfl e'3.2.1 e'5.1 (Val.row_eq c'4) rfl (s_loadF rfl rfl rfl (e'5.2.elim fun r'6 e'7 => s_call (sc rfl rfl (sc rfl rfl sn)) e'7.1 (s_not rfl (s_nil (c_bool rfl (fun g'8 => W.seq (W.reg0 rfl fun _ _ => s_mvB rfl (s_nil (W.ret (hQ _ _   _ rfl  (e'7.2.1 g'8)))))) (fun g'8 => W.skip (W.reg0 rfl fun _ _ => s_mvI H5 (s_bin rfl rfl (abin_add _ _ _) (s_mvI rfl (s_nil (kP0 _ _ _ (e'7.2.2 g'8) _ _ _ _ H2 H3 rfl B0 B1)))))))))))))))))))))))) (fun g'1 => W.exit (w78_2  hQ   (h.2 g'1)))))))))))
def T78_0 (prog : Prog) (K : Bool → Prop) (a0 : Val) (b1 : Val) : Prop :=
  (a0.kind ≠ b1.kind → K false) ∧ (¬(a0.kind ≠ b1.kind) → (a0.int ≠ b1.int → K false) ∧ (¬(a0.int ≠ b1.int) → (a0.text ≠ b1.text → K false) ∧ (¬(a0.text ≠ b1.text) → (a0.cut ≠ b1.cut → K false) ∧ (¬(a0.cut ≠ b1.cut) → ((a0.list.length : Int) ≠ (b1.list.length : Int) → K false) ∧ (¬((a0.list.length : Int) ≠ (b1.list.length : Int)) → ∀ P0 : Int → Val → Val → Prop, (∀ (i5 : Int) (m0 : Val) (m1 : Val), T78_1 prog K P0 i5 m0 m1 → P0 i5 m0 m1) → P0 0 a0 b1)))))
theorem w78_0 {prog : Prog} {d : Nat} {Q : AE → Sl → St → Prop} {K : Bool → Prop} (hQ : ∀ (σ : Sl) (st : St) (x0 : Bool), σ 4 = .b x0 → K x0 → Q .ret σ st) {a0 : Val} {b1 : Val}   {σ : Sl} {st : St} (H0 : σ 0 = .ag [.i .u8 a0.kind, .i .i64 a0.int, .s a0.text, .sl .ext (List.map Val.row a0.list), .b a0.cut]) (H1 : σ 1 = .ag [.i .u8 b1.kind, .i .i64 b1.int, .s b1.text, .sl .ext (List.map Val.row b1.list), .b b1.cut]) (h : T78_0 prog K a0 b1) : W prog d (.seq (.reg 0 r78_0) (.seq (.seq (.reg 1 r78_1) (.cond (.t 40) (.seq (.reg 2 r78_2) .ret) .skip)) (.seq (.seq (.reg 3 r78_3) (.block 0 (.loop l78_0))) c78_1))) σ st Q :=
  W.seq (W.reg0 rfl fun _ _ => s_box H0 rfl (s_box H1 rfl (s_mvB rfl (s_nil (W.seq (W.seq (W.reg0 rfl fun _ _ => s_fadP rfl (s_loadP rfl (lk_other rfl lk_here) rfl rfl (s_fadP rfl (s_loadP rfl lk_here rfl rfl (s_bin rfl rfl (abin_neq _ _ _) (s_mvB rfl (s_em (g := 11) rfl (fun g'1 => s_gn (b := true) rfl rfl (s_gn (b := true) rfl rfl (s_gn (b := true) rfl rfl (s_gn (b := true) rfl rfl (s_gn (b := true) rfl rfl (s_pickTB rfl rfl (s_mvB rfl (s_gn (b := true) rfl rfl (s_gn (b := true) rfl rfl (s_gn (b := true) rfl rfl (s_gn (b := true) rfl rfl (s_gn (b := true) rfl rfl (s_pickTB rfl rfl (s_mvB rfl (s_gn (b := true) rfl rfl (s_gn (b := true) rfl rfl (s_gn (b := true) rfl rfl (s_gn (b := true) rfl rfl (s_gn (b := true) rfl rfl (s_pickTB rfl rfl (s_mvB rfl (s_gn (b := true) rfl rfl (s_gn (b := true) rfl rfl (s_gn (b := true) rfl rfl (s_gn (b := true) rfl rfl (s_gn (b := true) rfl rfl (s_gn (b := true) rfl rfl (s_gn (b := true) rfl rfl (s_pickTB rfl rfl (s_nil (c_tt rfl (W.seq (W.reg0 rfl fun _ _ => s_mvB rfl (s_nil (W.ret (hQ _ _   _ rfl  (h.1 g'1))))))))))))))))))))))))))))))))))))) (fun g'1 => s_gy rfl (s_fadP rfl (s_gy rfl (s_loadP rfl (lk_other rfl lk_here) rfl rfl (s_gy rfl (s_fadP rfl (s_gy rfl (s_loadP rfl lk_here rfl rfl (s_gy rfl (s_bin rfl rfl (abin_neq _ _ _) (s_pickFB rfl rfl (s_mvB rfl (s_em (g := 18) rfl (fun g'2 => s_gn (b := true) rfl rfl (s_gn (b := true) rfl rfl (s_gn (b := true) rfl rfl (s_gn (b := true) rfl rfl (s_gn (b := true) rfl rfl (s_pickTB rfl rfl (s_mvB rfl (s_gn (b := true) rfl rfl (s_gn (b := true) rfl rfl (s_gn (b := true) rfl rfl (s_gn (b := true) rfl rfl (s_gn (b := true) rfl rfl (s_pickTB rfl rfl (s_mvB rfl (s_gn (b := true) rfl rfl (s_gn (b := true) rfl rfl (s_gn (b := true) rfl rfl (s_gn (b := true) rfl rfl (s_gn (b := true) rfl rfl (s_gn (b := true) rfl rfl (s_gn (b := true) rfl rfl (s_pickTB rfl rfl (s_nil (c_tt rfl (W.seq (W.reg0 rfl fun _ _ => s_mvB rfl (s_nil (W.ret (hQ _ _   _ rfl  ((h.2 g'1).1 g'2)))))))))))))))))))))))))))))) (fun g'2 => s_gy rfl (s_fadP rfl (s_gy rfl (s_loadP rfl (lk_other rfl lk_here) rfl rfl (s_gy rfl (s_fadP rfl (s_gy rfl (s_loadP rfl lk_here rfl rfl (s_gy rfl (s_bin rfl rfl (abin_sne _ _) (s_pickFB rfl rfl (s_mvB rfl (s_em (g := 25) rfl (fun g'3 => s_gn (b := true) rfl rfl (s_gn (b := true) rfl rfl (s_gn (b := true) rfl rfl (s_gn (b := true) rfl rfl (s_gn (b := true) rfl rfl (s_pickTB rfl rfl (s_mvB rfl (s_gn (b := true) rfl rfl (s_gn (b := true) rfl rfl (s_gn (b := true) rfl rfl (s_gn (b := true) rfl rfl (s_gn (b := true) rfl rfl (s_gn (b := true) rfl rfl (s_gn (b := true) rfl rfl (s_pickTB rfl rfl (s_nil (c_tt rfl (W.seq (W.reg0 rfl fun _ _ => s_mvB rfl (s_nil (W.ret (hQ _ _   _ rfl  (((h.2 g'1).2 g'2).1 g'3))))))))))))))))))))))) (fun g'3 => s_gy rfl (s_fadP rfl (s_gy rfl (s_loadP rfl (lk_other rfl lk_here) rfl rfl (s_gy rfl (s_fadP rfl (s_gy rfl (s_loadP rfl lk_here rfl rfl (s_gy rfl (s_bne rfl rfl (s_pickFB rfl rfl (s_mvB rfl (s_em (g := 32) rfl (fun g'4 => s_gn (b := true) rfl rfl (s_gn (b := true) rfl rfl (s_gn (b := true) rfl rfl (s_gn (b := true) rfl rfl (s_gn (b := true) rfl rfl (s_gn (b := true) rfl rfl (s_gn (b := true) rfl rfl (s_pickTB rfl rfl (s_nil (c_tt rfl (W.seq (W.reg0 rfl fun _ _ => s_mvB rfl (s_nil (W.ret (hQ _ _   _ rfl  ((((h.2 g'1).2 g'2).2 g'3).1 g'4)))))))))))))))) (fun g'4 => s_gy rfl (s_fadP rfl (s_gy rfl (s_loadP rfl (lk_other rfl lk_here) rfl rfl (s_gy rfl (s_lenL rfl (s_gy rfl (s_fadP rfl (s_gy rfl (s_loadP rfl lk_here rfl rfl (s_gy rfl (s_lenL rfl (s_gy rfl (s_bin rfl rfl (abin_neq _ _ _) (s_pickFB rfl rfl (s_nil (c_split rfl (fun g'5 => W.seq (W.reg0 rfl fun _ _ => s_mvB rfl (s_nil (W.ret (hQ _ _   _ rfl  (((((h.2 g'1).2 g'2).2 g'3).2 g'4).1 g'5)))))) (fun g'5 => W.skip (W.seq (W.seq (W.reg0 rfl fun _ _ => s_mvI rfl (s_nil (W.block ((((((h.2 g'1).2 g'2).2 g'3).2 g'4).2 g'5) (I78_0 prog d Q ) (fun _ _ _ hb _ _ _ _ H2 H3 H5 B0 B1 => W.loop (w78_1 hQ (fun _ _ _ x => x) H2 H3 H5 B0 B1 hb)) _ _ _ _ rfl rfl rfl (lk_other rfl lk_here) lk_here))))))))))))))))))))))))))))))))))))))))))))))))))))))))))))))))))))))))))))
theorem p78 {prog : Prog} (hf : prog.fn 78 = some pf78) {a0 : Val} {b1 : Val} {K : Bool → Prop} (h : T78_0 prog K a0 b1) : ∃ x0 : Bool, K x0 ∧ Pus prog 78 [.ag [.i .u8 a0.kind, .i .i64 a0.int, .s a0.text, .sl .ext (List.map Val.row a0.list), .b a0.cut], .ag [.i .u8 b1.kind, .i .i64 b1.int, .s b1.text, .sl .ext (List.map Val.row b1.list), .b b1.cut]] (.b x0) := by
  obtain ⟨v, hv, x0, hk, rfl⟩ := Pus.of (K := fun v => ∃ x0 : Bool, K x0 ∧ v = .b x0) hf rfl (w78_0 (σ := sl0 [.ag [.i .u8 a0.kind, .i .i64 a0.int, .s a0.text, .sl .ext (List.map Val.row a0.list), .b a0.cut], .ag [.i .u8 b1.kind, .i .i64 b1.int, .s b1.text, .sl .ext (List.map Val.row b1.list), .b b1.cut]]) (fun σ st   x0 H4 hk => ⟨.b x0, by simp only [pf78, ares, aresL, H4, ares1, Option.map_some], _, rfl, x0, hk, rfl⟩) rfl rfl h)
  exact ⟨x0, hk, hv⟩

end Go.AM
