/- The abstract machine without fuel: monotony. -/
import Derived.Test.YtdfkdendkdbnkaaAm1
set_option linter.all false
namespace Go.AM
open Go

def CLe (C C' : CallF) : Prop := ∀ d f a st r, C d f a st = some r → C' d f a st = some r

theorem aexec_mono {C C' : CallF} (h : CLe C C') {d site ver : Nat} {σ : Sl} {st : St} {op : AOp} {r : AV × St} (he : aexec C d site ver σ st op = some r) : aexec C' d site ver σ st op = some r := by
  cases op with
  | call p f args =>
    cases p with
    | false =>
      simp only [aexec] at he ⊢
      split at he
      · rename_i vs hvs
        split at he
        · rename_i r' st' hr
          rw [h _ _ _ _ _ hr]
          exact he
        · cases he
      · cases he
    | true => simp only [aexec] at he ⊢; exact h _ _ _ _ _ he
  | callv f args =>
    simp only [aexec] at he ⊢
    split at he
    · exact h _ _ _ _ _ he
    · cases he
  | _ => exact he

theorem aai_mono {C C' : CallF} (h : CLe C C') {d site ver : Nat} {o : AI} {σ : Sl} {st : St} {r : Sl × St} (he : aai C d site ver o σ st = some r) : aai C' d site ver o σ st = some r := by
  unfold aai at he ⊢
  have key : (aexec C d site ver σ st o.op).map (fun (v, st') => (updO σ o.dst v, st')) = some r → (aexec C' d site ver σ st o.op).map (fun (v, st') => (updO σ o.dst v, st')) = some r := by
    intro h1
    rw [Option.map_eq_some_iff] at h1 ⊢
    obtain ⟨x, h2, h3⟩ := h1
    exact ⟨x, aexec_mono h h2, h3⟩
  split at he
  · exact key he
  · split at he
    · split at he
      · rename_i h1 h2
        simp only [h2, if_true] at he ⊢
        exact key he
      · rename_i h1 h2
        simp only [h2, if_false] at he ⊢
        exact he
    · exact he
    · cases he

theorem aregL_mono {C C' : CallF} (h : CLe C C') {d id base : Nat} : ∀ {ops : List AI} {i : Nat} {σ : Sl} {st : St} {r : Sl × St}, aregL C d id base i ops σ st = some r → aregL C' d id base i ops σ st = some r
  | [], _, _, _, _, he => he
  | o :: l, i, σ, st, r, he => by
    unfold aregL at he ⊢
    split at he
    · rename_i σ' st' h1
      rw [aai_mono h h1]
      exact aregL_mono h he
    · cases he

theorem iter_mono {f f' : Sl → St → Option (AE × Sl × St)} (h : ∀ σ st r, f σ st = some r → f' σ st = some r) : ∀ {n n' : Nat} (_ : n ≤ n') {σ : Sl} {st : St} {r : AE × Sl × St}, iter f n σ st = some r → iter f' n' σ st = some r
  | 0, _, _, _, _, _, he => by cases he
  | n + 1, 0, hn, _, _, _, _ => absurd hn (Nat.not_succ_le_zero _)
  | n + 1, n' + 1, hn, σ, st, r, he => by
    unfold iter at he ⊢
    split at he
    · rename_i σ' st' h1
      rw [h _ _ _ h1]
      exact iter_mono h (Nat.le_of_succ_le_succ hn) he
    · rename_i hne
      rw [h _ _ _ he]
      split
      · rename_i σ' st' heq
        injection heq with heq
        subst heq
        exact absurd he (hne _ _)
      · rfl

theorem iterG_mono {l : Nat} {f f' : Sl → St → Option (AE × Sl × St)} (h : ∀ σ st r, f σ st = some r → f' σ st = some r) : ∀ {n n' : Nat} (_ : n ≤ n') {σ : Sl} {st : St} {r : AE × Sl × St}, iterG l f n σ st = some r → iterG l f' n' σ st = some r
  | 0, _, _, _, _, _, he => by cases he
  | n + 1, 0, hn, _, _, _, _ => absurd hn (Nat.not_succ_le_zero _)
  | n + 1, n' + 1, hn, σ, st, r, he => by
    unfold iterG at he ⊢
    split at he
    · rename_i l' σ' st' h1
      rw [h _ _ _ h1]
      split at he
      · rename_i hl
        simp only [hl, if_true]
        exact iterG_mono h (Nat.le_of_succ_le_succ hn) he
      · cases he
    · rename_i hne
      rw [h _ _ _ he]
      split
      · rename_i l' σ' st' heq
        injection heq with heq
        subst heq
        exact absurd he (hne _ _ _)
      · rfl

theorem acode_mono {C C' : CallF} (h : CLe C C') {n n' : Nat} (hn : n ≤ n') {d : Nat} : ∀ {c : AC} {σ : Sl} {st : St} {r : AE × Sl × St}, acode C n d c σ st = some r → acode C' n' d c σ st = some r
  | .skip, _, _, _, he => he
  | .exit _, _, _, _, he => he
  | .ret, _, _, _, he => he
  | .goto _, _, _, _, he => he
  | .reg id ops, σ, st, r, he => by
    simp only [acode, areg] at he ⊢
    rw [Option.map_eq_some_iff] at he ⊢
    obtain ⟨x, h1, h2⟩ := he
    exact ⟨x, aregL_mono h h1, h2⟩
  | .seq a b, σ, st, r, he => by
    simp only [acode] at he ⊢
    split at he
    · rename_i σ' st' h1
      rw [acode_mono h hn h1]
      exact acode_mono h hn he
    · rename_i hne
      rw [acode_mono h hn he]
      split
      · rename_i σ' st' heq
        injection heq with heq
        subst heq
        exact absurd he (hne _ _)
      · rfl
  | .cond c a b, σ, st, r, he => by
    simp only [acode] at he ⊢
    split at he
    · exact acode_mono h hn he
    · exact acode_mono h hn he
    · cases he
  | .block id c, σ, st, r, he => by
    simp only [acode] at he ⊢
    split at he
    · rename_i id' σ' st' h1
      rw [acode_mono h hn h1]
      exact he
    · rename_i hne
      rw [acode_mono h hn he]
      split
      · rename_i id' σ' st' heq
        injection heq with heq
        subst heq
        exact absurd he (hne _ _ _)
      · rfl
  | .loop c, σ, st, r, he => by
    simp only [acode] at he ⊢
    exact iter_mono (fun _ _ _ h1 => acode_mono h hn h1) hn he
  | .gscope l a b, σ, st, r, he => by
    simp only [acode] at he ⊢
    split at he
    · rename_i σ' st' h1
      rw [acode_mono h hn h1]
      exact iterG_mono (fun _ _ _ h2 => acode_mono h hn h2) hn he
    · cases he

theorem acall_mono {prog : Prog} : ∀ {n m : Nat}, n ≤ m → CLe (acall prog n) (acall prog m)
  | 0, _, _, _, _, _, _, _, he => by cases he
  | n + 1, 0, hn, _, _, _, _, _, _ => absurd hn (Nat.not_succ_le_zero _)
  | n + 1, m + 1, hn, d, f, a, st, r, he => by
    have ih := acall_mono (prog := prog) (Nat.le_of_succ_le_succ hn)
    unfold acall at he ⊢
    cases hf : prog.fn f with
    | none => rw [hf] at he; exact he
    | some F =>
      rw [hf] at he
      simp only at he ⊢
      split at he
      · rename_i hl
        rw [if_pos hl]
        split at he
        · rename_i σ st' h1
          rw [acode_mono ih (Nat.le_of_succ_le_succ hn) h1]
          exact he
        · rename_i σ st' h1
          rw [acode_mono ih (Nat.le_of_succ_le_succ hn) h1]
          exact he
        · cases he
      · cases he

/-! ### Without fuel -/
/-- A call's result. -/
def Fn (prog : Prog) (d f : Nat) (args : List AV) (st : St) (r : AV) (st' : St) : Prop := ∃ n, acall prog n d f args st = some (r, st')

/-- The result of a call that shares no memory. -/
def Pu (prog : Prog) (f : Nat) (args : List AV) (r : AV) : Prop := ∃ st', Fn prog 0 f args st0 r st'

theorem Fn.det {prog : Prog} {d f : Nat} {args : List AV} {st : St} {r r' : AV} {st1 st2 : St} (h : Fn prog d f args st r st1) (k : Fn prog d f args st r' st2) : r = r' ∧ st1 = st2 := by
  obtain ⟨n, h⟩ := h
  obtain ⟨m, k⟩ := k
  have h1 := acall_mono (prog := prog) (Nat.le_max_left n m) _ _ _ _ _ h
  have h2 := acall_mono (prog := prog) (Nat.le_max_right n m) _ _ _ _ _ k
  rw [h1] at h2
  injection h2 with h2
  injection h2 with h2 h3
  exact ⟨h2, h3⟩

theorem Pu.det {prog : Prog} {f : Nat} {args : List AV} {r r' : AV} (h : Pu prog f args r) (k : Pu prog f args r') : r = r' := by
  obtain ⟨_, h⟩ := h
  obtain ⟨_, k⟩ := k
  exact (h.det k).1

def noC : CallF := fun _ _ _ _ => none

def onO {α : Type} (x : Option α) (K : α → Prop) : Prop :=
  match x with
  | some v => K v
  | none => False

/-- A call that shares no memory, and what is asked of its result. -/
def WC (prog : Prog) (f : Nat) (vs : List AV) (K : AV → Prop) : Prop := ∃ r, Pu prog f vs r ∧ K r

/-- A call, and what is asked of its result and the state. -/
def WF (prog : Prog) (d f : Nat) (vs : List AV) (st : St) (K : AV → St → Prop) : Prop := ∃ r st', Fn prog d f vs st r st' ∧ K r st'

def onFn (v : AV) (K : Nat → List AV → Prop) : Prop :=
  match v with
  | .fn g cap => K g cap
  | _ => False

def evs (σ : Sl) : List Opd → List AV
  | [] => []
  | x :: r => x.ev σ :: evs σ r

theorem evs_map {σ : Sl} : ∀ {l : List Opd}, evs σ l = l.map (·.ev σ)
  | [] => rfl
  | x :: r => by simp [evs, evs_map]

/-- An operation, and what is asked of its result. -/
def WOp (prog : Prog) (d site ver : Nat) (σ : Sl) (st : St) (K : AV → St → Prop) : AOp → Prop
  | .call false f args => onO (AV.strips (evs σ args)) fun vs => WC prog f vs fun r => onO r.strip fun r' => K r' st
  | .call true f args => WF prog (d + 1) f (evs σ args) st K
  | .callv f args => onFn (f.ev σ) fun g cap => WF prog (d + 1) g (evs σ args ++ cap) st K
  | op => onO (aexec noC d site ver σ st op) fun r => K r.1 r.2

theorem onO_iff {α : Type} {x : Option α} {K : α → Prop} : onO x K ↔ ∃ v, x = some v ∧ K v := by
  unfold onO
  split
  · exact ⟨fun h => ⟨_, rfl, h⟩, fun ⟨v, h, hk⟩ => by cases h; exact hk⟩
  · exact ⟨fun h => h.elim, fun ⟨v, h, _⟩ => by cases h⟩

theorem WOp.run {prog : Prog} {d site ver : Nat} {σ : Sl} {st : St} {K : AV → St → Prop} {op : AOp} (h : WOp prog d site ver σ st K op) : ∃ n v st', aexec (acall prog n) d site ver σ st op = some (v, st') ∧ K v st' := by
  cases op with
  | call p f args =>
    cases p with
    | false =>
      obtain ⟨vs, h1, r, ⟨st', n, h2⟩, h3⟩ := onO_iff.1 h
      obtain ⟨r', h3, h4⟩ := onO_iff.1 h3
      rw [evs_map] at h1
      exact ⟨n, r', st, by simp only [aexec, h1, h2, h3, Option.map_some], h4⟩
    | true =>
      obtain ⟨r, st', ⟨n, h1⟩, h2⟩ := h
      rw [evs_map] at h1
      exact ⟨n, r, st', h1, h2⟩
  | callv f args =>
    have h' : onFn (f.ev σ) fun g cap => WF prog (d + 1) g (evs σ args ++ cap) st K := h
    unfold onFn at h'
    split at h'
    · rename_i g cap h0
      obtain ⟨r, st', ⟨n, h1⟩, h2⟩ := h'
      rw [evs_map] at h1
      exact ⟨n, r, st', by simp only [aexec, h0]; exact h1, h2⟩
    · exact h'.elim
  | _ =>
    simp only [WOp] at h
    obtain ⟨⟨v, st'⟩, h1, h2⟩ := onO_iff.1 h
    exact ⟨0, v, st', aexec_mono (C := noC) (fun _ _ _ _ _ h => by cases h) h1, h2⟩

theorem WC_eq {prog : Prog} {f : Nat} {vs : List AV} {r : AV} (h : Pu prog f vs r) (K : AV → Prop) : WC prog f vs K = K r :=
  propext ⟨fun ⟨_, h1, h2⟩ => by rw [h.det h1]; exact h2, fun hk => ⟨r, h, hk⟩⟩

def W1 (prog : Prog) (d site ver : Nat) (o : AI) (σ : Sl) (st : St) (K : Sl → St → Prop) : Prop :=
  match o.guard with
  | none => WOp prog d site ver σ st (fun v st' => K (updO σ o.dst v) st') o.op
  | some (t, w) => match σ t with
    | .b x => if x = w then WOp prog d site ver σ st (fun v st' => K (updO σ o.dst v) st') o.op else K (updO σ o.dst (.tup [])) st
    | .tup [] => K (updO σ o.dst (.tup [])) st
    | _ => False

theorem W1.run {prog : Prog} {d site ver : Nat} {o : AI} {σ : Sl} {st : St} {K : Sl → St → Prop} (h : W1 prog d site ver o σ st K) : ∃ n σ' st', aai (acall prog n) d site ver o σ st = some (σ', st') ∧ K σ' st' := by
  unfold W1 at h
  unfold aai
  cases hg : o.guard with
  | none =>
    rw [hg] at h
    obtain ⟨n, v, st', h1, h2⟩ := WOp.run h
    exact ⟨n, _, st', by simp only [h1, Option.map_some], h2⟩
  | some tw =>
    obtain ⟨t, w⟩ := tw
    rw [hg] at h
    simp only at h ⊢
    revert h
    generalize σ t = z
    intro h
    split at h
    · split at h
      · rename_i hx
        obtain ⟨n, v, st', h1, h2⟩ := WOp.run h
        exact ⟨n, _, st', by simp only [if_pos hx, h1, Option.map_some], h2⟩
      · rename_i hx
        exact ⟨0, _, st, by simp only [if_neg hx], h⟩
    · exact ⟨0, _, st, rfl, h⟩
    · exact h.elim

def WO (prog : Prog) (d id base : Nat) : Nat → List AI → Sl → St → (Sl → St → Prop) → Prop
  | _, [], σ, st, K => K σ st
  | i, o :: r, σ, st, K => W1 prog d (id * 4096 + i) (base + i) o σ st fun σ' st' => WO prog d id base (i + 1) r σ' st' K

theorem WO.run {prog : Prog} {d id base : Nat} : ∀ {ops : List AI} {i : Nat} {σ : Sl} {st : St} {K : Sl → St → Prop}, WO prog d id base i ops σ st K → ∃ n σ' st', aregL (acall prog n) d id base i ops σ st = some (σ', st') ∧ K σ' st'
  | [], i, σ, st, K, h => ⟨0, σ, st, rfl, h⟩
  | o :: r, i, σ, st, K, h => by
    obtain ⟨n, σ1, st1, h1, h2⟩ := W1.run (show W1 prog d (id * 4096 + i) (base + i) o σ st _ from h)
    obtain ⟨m, σ2, st2, h3, h4⟩ := WO.run h2
    refine ⟨max n m, σ2, st2, ?_, h4⟩
    simp only [aregL, aai_mono (acall_mono (Nat.le_max_left n m)) h1, aregL_mono (acall_mono (Nat.le_max_right n m)) h3]

/-- Code, and what is asked of its end. -/
def W (prog : Prog) (d : Nat) (c : AC) (σ : Sl) (st : St) (Q : AE → Sl → St → Prop) : Prop :=
  ∃ n e σ' st', acode (acall prog n) n d c σ st = some (e, σ', st') ∧ Q e σ' st'

section
variable {prog : Prog} {d : Nat} {σ : Sl} {st : St} {Q : AE → Sl → St → Prop}

theorem acode_max {n m : Nat} {c : AC} {r : AE × Sl × St} (h : acode (acall prog n) n d c σ st = some r) (hm : n ≤ m) : acode (acall prog m) m d c σ st = some r :=
  acode_mono (acall_mono hm) hm h

theorem W.skip (h : Q .normal σ st) : W prog d .skip σ st Q := ⟨0, _, _, _, rfl, h⟩
theorem W.exit {id : Nat} (h : Q (.exit id) σ st) : W prog d (.exit id) σ st Q := ⟨0, _, _, _, rfl, h⟩
theorem W.ret (h : Q .ret σ st) : W prog d .ret σ st Q := ⟨0, _, _, _, rfl, h⟩
theorem W.goto {l : Nat} (h : Q (.goto l) σ st) : W prog d (.goto l) σ st Q := ⟨0, _, _, _, rfl, h⟩

theorem W.reg {id : Nat} {ops : List AI} (h : WO prog d id st.nx 0 ops σ { st with nx := st.nx + ops.length, bx := pre d id st.nx 0 ops st.bx } fun σ' st' => Q .normal σ' st') : W prog d (.reg id ops) σ st Q := by
  obtain ⟨n, σ', st', h1, h2⟩ := h.run
  exact ⟨n, _, σ', st', by simp only [acode, areg, h1, Option.map_some], h2⟩

def noAlloc : List AI → Bool
  | [] => true
  | o :: r => (match o.op with | .alloc _ => false | _ => true) && noAlloc r

theorem pre_noAlloc {d id base : Nat} : ∀ {ops : List AI} {i : Nat} {bx : List (Key × Nat × List AV)}, noAlloc ops = true → pre d id base i ops bx = bx
  | [], _, _, _ => rfl
  | o :: r, i, bx, h => by
    simp only [noAlloc, Bool.and_eq_true] at h
    unfold pre
    split
    · rename_i z hz
      rw [hz] at h
      exact absurd h.1 (by simp)
    · exact pre_noAlloc h.2

theorem W.reg0 {id : Nat} {ops : List AI} (hn : noAlloc ops = true) (h : ∀ nx, st.nx ≤ nx → WO prog d id st.nx 0 ops σ ⟨nx, st.bx, st.ow⟩ fun σ' st' => Q .normal σ' st') : W prog d (.reg id ops) σ st Q := by
  refine W.reg ?_
  rw [pre_noAlloc hn]
  exact h _ (Nat.le_add_right _ _)

/-- The same, what follows hidden. -/
theorem W.reg1 {id : Nat} {ops : List AI} (hn : noAlloc ops = true) (h : ∀ nx, st.nx ≤ nx → ∀ K : Sl → St → Prop, (∀ σ' st', Q .normal σ' st' → K σ' st') → WO prog d id st.nx 0 ops σ ⟨nx, st.bx, st.ow⟩ K) : W prog d (.reg id ops) σ st Q :=
  W.reg0 hn fun nx hnx => h nx hnx _ fun _ _ h => h

/-- What follows. -/
def thenW (prog : Prog) (d : Nat) (c : AC) (Q : AE → Sl → St → Prop) : AE → Sl → St → Prop
  | .normal, σ, st => W prog d c σ st Q
  | e, σ, st => Q e σ st

theorem W.seq {a b : AC} (h : W prog d a σ st (thenW prog d b Q)) : W prog d (.seq a b) σ st Q := by
  obtain ⟨n, e, σ1, st1, h1, h2⟩ := h
  cases e with
  | normal =>
    obtain ⟨m, e2, σ2, st2, h3, h4⟩ := h2
    exact ⟨max n m, e2, σ2, st2, by simp only [acode, acode_max h1 (Nat.le_max_left n m), acode_max h3 (Nat.le_max_right n m)], h4⟩
  | exit id => exact ⟨n, _, σ1, st1, by simp only [acode, h1], h2⟩
  | ret => exact ⟨n, _, σ1, st1, by simp only [acode, h1], h2⟩
  | goto l => exact ⟨n, _, σ1, st1, by simp only [acode, h1], h2⟩

def onB (v : AV) (K : Bool → Prop) : Prop :=
  match v with
  | .b t => K t
  | _ => False

theorem W.cond {c : Opd} {a b : AC} (h : onB (c.ev σ) fun t => (t = true → W prog d a σ st Q) ∧ (t = false → W prog d b σ st Q)) : W prog d (.cond c a b) σ st Q := by
  unfold onB at h
  split at h
  · rename_i t hc
    cases t with
    | true =>
      obtain ⟨n, e, σ1, st1, h1, h2⟩ := h.1 rfl
      exact ⟨n, e, σ1, st1, by simp only [acode, hc, h1], h2⟩
    | false =>
      obtain ⟨n, e, σ1, st1, h1, h2⟩ := h.2 rfl
      exact ⟨n, e, σ1, st1, by simp only [acode, hc, h1], h2⟩
  · exact h.elim

theorem W.split {c : Opd} {a b : AC} {p : Prop} [hd : Decidable p] (hc : c.ev σ = .b (decide p)) (h1 : p → W prog d a σ st Q) (h2 : ¬ p → W prog d b σ st Q) : W prog d (.cond c a b) σ st Q := by
  refine W.cond ?_
  rw [hc]
  exact ⟨fun h => h1 (of_decide_eq_true h), fun h => h2 (of_decide_eq_false h)⟩

theorem W.yes {c : Opd} {a b : AC} {p : Prop} [hd : Decidable p] (hc : c.ev σ = .b (decide p)) (hp : p) (h1 : W prog d a σ st Q) : W prog d (.cond c a b) σ st Q :=
  W.split hc (fun _ => h1) fun h => absurd hp h

theorem W.no {c : Opd} {a b : AC} {p : Prop} [hd : Decidable p] (hc : c.ev σ = .b (decide p)) (hp : ¬ p) (h1 : W prog d b σ st Q) : W prog d (.cond c a b) σ st Q :=
  W.split hc (fun h => absurd h hp) fun _ => h1

theorem W.tt {c : Opd} {a b : AC} (hc : c.ev σ = .b true) (h1 : W prog d a σ st Q) : W prog d (.cond c a b) σ st Q :=
  W.yes (p := True) hc trivial h1

theorem W.ff {c : Opd} {a b : AC} (hc : c.ev σ = .b false) (h1 : W prog d b σ st Q) : W prog d (.cond c a b) σ st Q :=
  W.no (p := False) hc id h1

theorem W.cnd {c : Opd} {a b : AC} {t : Bool} (hc : c.ev σ = .b t) (h1 : t = true → W prog d a σ st Q) (h2 : t = false → W prog d b σ st Q) : W prog d (.cond c a b) σ st Q := by
  refine W.cond ?_
  rw [hc]
  exact ⟨h1, h2⟩

/-- What is known of the slots. -/
theorem W.fresh {c : AC} (p : Sl → Prop) (hp : p σ) (h : ∀ τ, p τ → W prog d c τ st Q) : W prog d c σ st Q := h σ hp

def blockW (id : Nat) (Q : AE → Sl → St → Prop) : AE → Sl → St → Prop
  | .exit id', σ, st => if id' = id then Q .normal σ st else Q (.exit id') σ st
  | e, σ, st => Q e σ st

theorem W.block {id : Nat} {c : AC} (h : W prog d c σ st (blockW id Q)) : W prog d (.block id c) σ st Q := by
  obtain ⟨n, e, σ1, st1, h1, h2⟩ := h
  cases e with
  | exit id' =>
    simp only [blockW] at h2
    split at h2
    · rename_i hid
      exact ⟨n, _, σ1, st1, by simp only [acode, h1, hid, if_true], h2⟩
    · rename_i hid
      exact ⟨n, _, σ1, st1, by simp only [acode, h1, hid, if_false], h2⟩
  | normal => exact ⟨n, _, σ1, st1, by simp only [acode, h1], h2⟩
  | ret => exact ⟨n, _, σ1, st1, by simp only [acode, h1], h2⟩
  | goto l => exact ⟨n, _, σ1, st1, by simp only [acode, h1], h2⟩

/-- One round of a loop. -/
theorem W.loop {c : AC} (h : W prog d c σ st (thenW prog d (.loop c) Q)) : W prog d (.loop c) σ st Q := by
  obtain ⟨n, e, σ1, st1, h1, h2⟩ := h
  cases e with
  | normal =>
    obtain ⟨m, e2, σ2, st2, h3, h4⟩ := h2
    refine ⟨max n m + 1, e2, σ2, st2, ?_, h4⟩
    have hm : m ≤ max n m + 1 := Nat.le_trans (Nat.le_max_right n m) (Nat.le_succ _)
    simp only [acode] at h3 ⊢
    rw [iter, acode_max h1 (Nat.le_trans (Nat.le_max_left n m) (Nat.le_succ _))]
    exact iter_mono (fun σ st r h => acode_max h hm) (Nat.le_max_right n m) h3
  | exit id => exact ⟨n + 1, _, σ1, st1, by simp only [acode]; rw [iter, acode_max h1 (Nat.le_succ _)], h2⟩
  | ret => exact ⟨n + 1, _, σ1, st1, by simp only [acode]; rw [iter, acode_max h1 (Nat.le_succ _)], h2⟩
  | goto l => exact ⟨n + 1, _, σ1, st1, by simp only [acode]; rw [iter, acode_max h1 (Nat.le_succ _)], h2⟩

/-- From a label on. -/
def WG (prog : Prog) (d l : Nat) (b : AC) (σ : Sl) (st : St) (Q : AE → Sl → St → Prop) : Prop :=
  ∃ n e σ' st', iterG l (acode (acall prog n) n d b) n σ st = some (e, σ', st') ∧ Q e σ' st'

def jumpW (prog : Prog) (d l : Nat) (b : AC) (Q : AE → Sl → St → Prop) : AE → Sl → St → Prop
  | .goto l', σ, st => l' = l ∧ WG prog d l b σ st Q
  | e, σ, st => Q e σ st

theorem WG.step {l : Nat} {b : AC} (h : W prog d b σ st (jumpW prog d l b Q)) : WG prog d l b σ st Q := by
  obtain ⟨n, e, σ1, st1, h1, h2⟩ := h
  cases e with
  | goto l' =>
    obtain ⟨rfl, m, e2, σ2, st2, h3, h4⟩ := h2
    refine ⟨max n m + 1, e2, σ2, st2, ?_, h4⟩
    have hm : m ≤ max n m + 1 := Nat.le_trans (Nat.le_max_right n m) (Nat.le_succ _)
    rw [iterG, acode_max h1 (Nat.le_trans (Nat.le_max_left n m) (Nat.le_succ _))]
    simp only [if_true]
    exact iterG_mono (fun σ st r h => acode_max h hm) (Nat.le_max_right n m) h3
  | exit id => exact ⟨n + 1, _, σ1, st1, by rw [iterG, acode_max h1 (Nat.le_succ _)], h2⟩
  | ret => exact ⟨n + 1, _, σ1, st1, by rw [iterG, acode_max h1 (Nat.le_succ _)], h2⟩
  | normal => exact ⟨n + 1, _, σ1, st1, by rw [iterG, acode_max h1 (Nat.le_succ _)], h2⟩

theorem W.gscope {l : Nat} {a b : AC} (h : W prog d a σ st fun e σ' st' => match e with | .normal => WG prog d l b σ' st' Q | _ => False) : W prog d (.gscope l a b) σ st Q := by
  obtain ⟨n, e, σ1, st1, h1, h2⟩ := h
  cases e with
  | normal =>
    obtain ⟨m, e2, σ2, st2, h3, h4⟩ := h2
    refine ⟨max n m, e2, σ2, st2, ?_, h4⟩
    simp only [acode, acode_max h1 (Nat.le_max_left n m)]
    exact iterG_mono (fun σ st r h => acode_max h (Nat.le_max_right n m)) (Nat.le_max_right n m) h3
  | exit id => exact h2.elim
  | ret => exact h2.elim
  | goto l => exact h2.elim

theorem W.mono {c : AC} {Q' : AE → Sl → St → Prop} (h : W prog d c σ st Q) (hq : ∀ e σ st, Q e σ st → Q' e σ st) : W prog d c σ st Q' := by
  obtain ⟨n, e, σ1, st1, h1, h2⟩ := h
  exact ⟨n, e, σ1, st1, h1, hq _ _ _ h2⟩

/-- A function's end. -/
def retW (d : Nat) (res : List ARes) (r : AV) (K : St → Prop) : AE → Sl → St → Prop
  | .normal, σ, st | .ret, σ, st => ares σ st res = some r ∧ K { st with bx := st.bx.filter fun x => x.1.1 < d }
  | _, _, _ => False

theorem Fn.of {f : Nat} {F : AF} {args : List AV} {r : AV} {K : St → Prop} (hf : prog.fn f = some F) (hn : args.length ≤ F.nt) (h : W prog d F.body (sl0 args) st (retW d F.res r K)) : ∃ st', Fn prog d f args st r st' ∧ K st' := by
  obtain ⟨n, e, σ1, st1, h1, h2⟩ := h
  cases e with
  | normal => exact ⟨_, ⟨n + 1, by simp only [acall, hf, if_pos hn, h1, h2.1, Option.map_some]⟩, h2.2⟩
  | ret => exact ⟨_, ⟨n + 1, by simp only [acall, hf, if_pos hn, h1, h2.1, Option.map_some]⟩, h2.2⟩
  | exit id => exact h2.elim
  | goto l => exact h2.elim

theorem Pu.of {f : Nat} {F : AF} {args : List AV} {r : AV} (hf : prog.fn f = some F) (hn : args.length ≤ F.nt) (h : W prog 0 F.body (sl0 args) st0 (retW 0 F.res r fun _ => True)) : Pu prog f args r := by
  obtain ⟨st', h1, _⟩ := Fn.of hf hn h
  exact ⟨st', h1⟩

end
end Go.AM
