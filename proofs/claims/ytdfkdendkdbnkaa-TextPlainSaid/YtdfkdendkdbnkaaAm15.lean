/- One operation of a region; regions in the order of the text. -/
import Derived.Test.YtdfkdendkdbnkaaAm14
set_option linter.all false
namespace Go.AM
open Go Go.RowKit Go.BigFrame

section
variable {P : Program} {G : Gh} {w0 w : World} {st : St} {X : Cx}

/-- What an operation that is a call comes to. -/
theorem call_ok {C : CallF} (hfm : X.fm = G.fm) (hC : CallOk P X.fm C) {nt : Nat} {σ : Sl} {a : Act} (hA : RelA G nt σ a) (hR : Rel G w0 st w) {o : Oper} {aop : AOp} (hc : cOp X o.op = some aop) (hn : aop.isCall = true) {d site ver : Nat} {r : AV} {st' : St} (h : aexec C d site ver σ st aop = some (r, st')) :
    ∃ f vals, (execOp a.eval o).run P w = (callFunc f vals).run P w ∧ Goes P f vals w fun v w' => ∃ G', R G' r v ∧ Step G G' w0 st st' w' d site ver := by
  rw [hfm] at hC
  obtain ⟨dst, op, type, pos, after, guard⟩ := o
  simp only at hc
  cases op with
  | call k =>
    obtain ⟨callee, args, tys⟩ := k
    cases callee with
    | builtin b =>
      exfalso
      simp only [cOp, cCall] at hc
      unfold cBuiltin at hc
      repeat' split at hc
      all_goals first | (cases hc; done) | (cases hc; simp [AOp.isCall] at hn)
    | invoke => simp [cOp, cCall] at hc
    | value x =>
      simp only [cOp, cCall] at hc
      split at hc
      · rename_i c l hx hl
        cases hc
        rw [hfm] at hx hl
        have h1 := cOpd_ok hA hx
        obtain ⟨f, us, hf, hv, hus⟩ := R.fn_inv h1
        have hus' : us = [] := by
          have := hus.1
          cases us with
          | nil => rfl
          | cons => simp at this
        subst hus'
        have h2 := cOpds_ok hA hl
        refine ⟨f, (args.toList.map a.eval).toArray, ?_, ?_⟩
        · simp only [execOp, resolve, hv, Deferred.ofValue, invoke, Sem.run_bind, Sem.run_pure, Result.andThen_ok]
          congr 2
          apply Array.ext'
          simp
        · cases hp : X.ptr c with
          | true =>
            rw [hp] at h
            simp only [aexec] at h
            refine (hC (d + 1) c _ st r st' h f hf G w0 w _ rfl hR h2).mono ?_
            rintro v w' ⟨G', hr, hrun⟩
            exact ⟨G', hr, .of_run hrun⟩
          | false =>
            rw [hp] at h
            simp only [aexec] at h
            split at h
            · rename_i vs hs
              split at h
              · rename_i r0 s0 h0
                simp only [Option.map_eq_some_iff, Prod.mk.injEq] at h
                obtain ⟨r', hr', rfl, rfl⟩ := h
                exact pure_call hC hR hf h2 hs h0 hr'
              · cases h
            · cases h
      · rename_i n l hx hl
        cases hc
        rw [hfm] at hx hl
        have h1 : R G ((Opd.t n).ev σ) (a.eval x) := cOpd_ok hA hx
        have h2 := cOpds_ok hA hl
        simp only [aexec] at h
        generalize (Opd.t n).ev σ = fv at h h1
        revert h1
        split at h
        · rename_i g cap
          intro h1
          obtain ⟨f, us, hf, hv, hus⟩ := R.fn_inv h1
          refine ⟨f, (args.toList.map a.eval ++ us).toArray, ?_, ?_⟩
          · simp only [execOp, resolve, hv, Deferred.ofValue, invoke, Sem.run_bind, Sem.run_pure, Result.andThen_ok]
            congr 2
            apply Array.ext'
            simp
          · refine (hC (d + 1) g _ st r st' h f hf G w0 w _ rfl hR (h2.append hus)).mono ?_
            rintro v w' ⟨G', hr, hrun⟩
            exact ⟨G', hr, .of_run hrun⟩
        · cases h
      · cases hc
  | _ =>
    exfalso
    simp only [cOp] at hc
    repeat' split at hc
    all_goals first | (cases hc; done) | (cases hc; simp [AOp.isCall] at hn; done) | (rename_i hq; cases hq)

theorem op_step {C : CallF} (hT : TTok P X.T) (hfm : X.fm = G.fm) (hC : CallOk P X.fm C) {nt : Nat} {σ : Sl} {a : Act} (hA : RelA G nt σ a) (hR : Rel G w0 st w) {ops : Array Oper} {i : Nat} {o : Oper} (ho : ops[i]? = some o) {ai : AI} (hc : cOper X nt ops o = some ai) {d site ver : Nat} {σ' : Sl} {st' : St} (h : aai C d site ver ai σ st = some (σ', st'))
    (hρ : G.ρ (d, site) ver = none) (hω : G.ω (d, site) ver = none) (hv : ver < st.nx) (hpre : ∀ zero, ai.op = .alloc zero → lk st.bx (d, site) = some (ver, zero)) {K : Act → World → Prop} {Q : Exit → Act → World → Prop}
    (hK : ∀ a' w' G', RelA G' nt σ' a' → Step G G' w0 st st' w' d site ver → K a' w') : wpOp P ops Q i K a w := by
  unfold cOper at hc
  split at hc
  · cases hc
  rename_i op hop
  split at hc
  case isFalse => cases hc
  rename_i hdst
  have hd : ∀ t, o.dst = some t → t < nt := by
    intro t ht
    rw [ht] at hdst
    simpa [dstOk] using hdst
  -- the operation is run
  have main : ∀ {v : AV} {s : St}, aexec C d site ver σ st op = some (v, s) → σ' = updO σ o.dst v → st' = s → (∀ zero, op = .alloc zero → lk st.bx (d, site) = some (ver, zero)) → o.wp P a w K Q := by
    intro v s h1 h2 h3 hpre
    subst h3
    unfold Oper.wp
    cases hn : op.isCall with
    | false =>
      obtain ⟨nx, u, w', G', h4, h5, h6, h7⟩ := exec_ok hT hfm hA hR hop hn h1 hρ hω hv hpre
      rw [h4]
      have : K (a.put o.dst u) w' := hK _ _ G' (by rw [h2]; exact (hA.mono h7.le).put hd h6) h7
      rcases h5 with rfl | ⟨rfl, rfl⟩
      · exact this
      · exact this
    | true =>
      obtain ⟨f, vals, h4, h5⟩ := call_ok hfm hC hA hR hop hn h1
      rw [h4]
      rcases h5 with ⟨h5, h6⟩ | ⟨u, w', h5, G', h6, h7⟩
      · rw [h5]
        refine h6.mono fun e w' he => ?_
        cases e with
        | returned u =>
          obtain ⟨G', h7, h8⟩ := he
          exact hK _ _ G' (by rw [h2]; exact (hA.mono h8.le).put hd h7) h8
        | panicked c => exact he.elim
        | outgrown => exact he.elim
      · rw [h5]
        exact hK _ _ G' (by rw [h2]; exact (hA.mono h7.le).put hd h6) h7
  have skip : σ' = updO σ o.dst (.tup []) → st' = st → K (a.put o.dst undef) w := by
    intro h1 h2
    subst h2
    exact hK _ _ G (by rw [h1]; exact hA.put hd R.und) (Step.same hR)
  unfold wpOp
  rw [ho]
  simp only
  cases hg : o.guard with
  | none =>
    rw [hg] at hc
    cases hc
    rw [if_pos (by simp [Region.wanted, hg])]
    simp only [aai, Option.map_eq_some_iff, Prod.mk.injEq] at h
    obtain ⟨⟨v, s⟩, h1, h2, h3⟩ := h
    exact .inl (main h1 h2.symm h3.symm hpre)
  | some jw =>
    obtain ⟨j, want⟩ := jw
    rw [hg] at hc
    simp only at hc
    split at hc
    case h_2 => cases hc
    rename_i t ht
    cases hc
    simp only [aai] at h
    have hσ := hA.2.2 t
    have hy : ∀ x, σ t = .b x → yielded ops a.tmps j = some x := by
      intro x hx
      rw [hx] at hσ
      have hσ := hσ.bool_inv
      unfold yielded
      rw [ht]
      simp only [Option.bind_some]
      have : a.tmps[t]? = some (.bool x) := by
        rw [Array.getD_eq_getD_getElem?] at hσ
        cases h : a.tmps[t]? with
        | none => rw [h] at hσ; cases hσ
        | some y => rw [h] at hσ; simp at hσ; rw [hσ]
      rw [this]
    have hn : σ t = .tup [] → yielded ops a.tmps j = none := by
      intro hx
      rw [hx] at hσ
      have hσ := hσ.tup0_inv
      unfold yielded
      rw [ht]
      simp only [Option.bind_some]
      rw [Array.getD_eq_getD_getElem?] at hσ
      cases h : a.tmps[t]? with
      | none => rfl
      | some y => rw [h] at hσ; simp at hσ; rw [hσ]; rfl
    split at h
    · rename_i x hx
      split at h
      · rename_i hw
        simp only [Option.map_eq_some_iff, Prod.mk.injEq] at h
        obtain ⟨⟨v, s⟩, h1, h2, h3⟩ := h
        rw [if_pos (by simp [Region.wanted, hg, hy x hx, hw])]
        exact .inl (main h1 h2.symm h3.symm hpre)
      · rename_i hw
        cases h
        rw [if_neg (by simp [Region.wanted, hg, hy x hx, hw])]
        exact skip rfl rfl
    · rename_i hx
      cases h
      rw [if_neg (by simp [Region.wanted, hg, hn hx])]
      exact skip rfl rfl
    · cases h

/-! ### Regions -/
def cOpers (X : Cx) (nt : Nat) (ops : Array Oper) : List Oper → Option (List AI)
  | [] => some []
  | o :: r => match cOper X nt ops o, cOpers X nt ops r with | some x, some l => some (x :: l) | _, _ => none

theorem cOpers_get {nt : Nat} {ops : Array Oper} : ∀ {l : List Oper} {xs : List AI}, cOpers X nt ops l = some xs → l.length = xs.length ∧ ∀ (i : Nat) o, l[i]? = some o → ∃ x, xs[i]? = some x ∧ cOper X nt ops o = some x
  | [], xs, h => by cases h; exact ⟨rfl, by simp⟩
  | o :: r, xs, h => by
    unfold cOpers at h
    split at h
    · rename_i x l hx hl
      cases h
      obtain ⟨h1, h2⟩ := cOpers_get hl
      refine ⟨by simp [h1], fun i o' hi => ?_⟩
      cases i with
      | zero => simp at hi; subst hi; exact ⟨x, rfl, hx⟩
      | succ i => exact h2 i o' (by simpa using hi)
    · cases h

/-- What stands for the operations not yet run. -/
def Left (G : Gh) (st : St) (d id base : Nat) (aops : List AI) (l : List Nat) : Prop :=
  ∀ i ∈ l, i < aops.length → G.ρ (d, id * 4096 + i) (base + i) = none ∧ G.ω (d, id * 4096 + i) (base + i) = none ∧ base + i < st.nx ∧
    ∀ ai zero, aops[i]? = some ai → ai.op = .alloc zero → lk st.bx (d, id * 4096 + i) = some (base + i, zero)

theorem Left.step {G G' : Gh} {st st' : St} {w' : World} {d id base i : Nat} {aops : List AI} {l l' : List Nat} (h : Left G st d id base aops l) (hs : Step G G' w0 st st' w' d (id * 4096 + i) (base + i)) (hl : ∀ j ∈ l', j ∈ l ∧ j ≠ i) : Left G' st' d id base aops l' := by
  intro j hj hlt
  obtain ⟨hj1, hj2⟩ := hl j hj
  obtain ⟨h1, h2, h3, h4⟩ := h j hj1 hlt
  have hne : ((d, id * 4096 + j) : Key) ≠ (d, id * 4096 + i) := fun he => by injection he with _ he; omega
  have ho := hs.old (d, id * 4096 + j) (base + j) h3 (fun he => hne (by injection he))
  exact ⟨ho.1.trans h1, ho.2.trans h2, Nat.lt_of_lt_of_le h3 hs.nx, fun ai zero ha hz => hs.pend _ _ _ (Nat.le_refl _) h3 hne h1 (h4 ai zero ha hz)⟩

theorem pre_lk {d id base : Nat} : ∀ {ops : List AI} {i : Nat} {bx : List (Key × Nat × List AV)} {k : Key},
    (lk (pre d id base i ops bx) k = lk bx k ∧ ∀ (j : Nat) ai zero, ops[j]? = some ai → ai.op = .alloc zero → k ≠ (d, id * 4096 + (i + j))) ∨
    ∃ (j : Nat) (ai : AI) (zero : List AV), ops[j]? = some ai ∧ ai.op = .alloc zero ∧ k = (d, id * 4096 + (i + j)) ∧ lk (pre d id base i ops bx) k = some (base + (i + j), zero)
  | [], i, bx, k => .inl ⟨rfl, by simp⟩
  | o :: r, i, bx, k => by
    have shift : ∀ {bx' : List (Key × Nat × List AV)}, (∃ (j : Nat) (ai : AI) (zero : List AV), r[j]? = some ai ∧ ai.op = .alloc zero ∧ k = (d, id * 4096 + (i + 1 + j)) ∧ lk (pre d id base (i + 1) r bx') k = some (base + (i + 1 + j), zero)) →
        ∃ (j : Nat) (ai : AI) (zero : List AV), (o :: r)[j]? = some ai ∧ ai.op = .alloc zero ∧ k = (d, id * 4096 + (i + j)) ∧ lk (pre d id base (i + 1) r bx') k = some (base + (i + j), zero) := by
      rintro bx' ⟨j, ai, zero, h1, h2, h3, h4⟩
      exact ⟨j + 1, ai, zero, by simpa using h1, h2, by rw [h3]; congr 2; omega, by rw [h4]; congr 2; omega⟩
    cases hop : o.op with
    | alloc zero =>
      simp only [pre, hop]
      rcases pre_lk (d := d) (id := id) (base := base) (ops := r) (i := i + 1) (bx := st_ bx (d, id * 4096 + i) (base + i, zero)) (k := k) with ⟨h1, h2⟩ | h
      · by_cases hk : k = (d, id * 4096 + i)
        · refine .inr ⟨0, o, zero, rfl, hop, by simpa using hk, ?_⟩
          rw [h1, hk, lk_st_same]
          simp
        · refine .inl ⟨by rw [h1, lk_st_ne _ _ (fun e => hk e.symm)], fun j ai z hj hz => ?_⟩
          cases j with
          | zero => simpa using hk
          | succ j =>
            have := h2 j ai z (by simpa using hj) hz
            rwa [show i + 1 + j = i + (j + 1) from by omega] at this
      · exact .inr (shift h)
    | _ =>
      simp only [pre, hop]
      rcases pre_lk (d := d) (id := id) (base := base) (ops := r) (i := i + 1) (bx := bx) (k := k) with ⟨h1, h2⟩ | h
      · refine .inl ⟨h1, fun j ai z hj hz => ?_⟩
        cases j with
        | zero => simp at hj; subst hj; rw [hop] at hz; cases hz
        | succ j =>
          have := h2 j ai z (by simpa using hj) hz
          rwa [show i + 1 + j = i + (j + 1) from by omega] at this
      · exact .inr (shift h)

/-- Into a region. -/
theorem region_in {d id : Nat} {aops : List AI} (hR : Rel G w0 st w) {l : List Nat} :
    Run G G w0 st { st with nx := st.nx + aops.length, bx := pre d id st.nx 0 aops st.bx } w d ∧ Left G { st with nx := st.nx + aops.length, bx := pre d id st.nx 0 aops st.bx } d id st.nx aops l := by
  have hold : ∀ {k ver cs g}, lk (pre d id st.nx 0 aops st.bx) k = some (ver, cs) → G.ρ k ver = some g → lk st.bx k = some (ver, cs) := by
    intro k ver cs g h1 h2
    rcases pre_lk (d := d) (id := id) (base := st.nx) (ops := aops) (i := 0) (bx := st.bx) (k := k) with ⟨h3, _⟩ | ⟨j, ai, zero, _, _, _, h4⟩
    · rw [h3] at h1; exact h1
    · rw [h4] at h1
      injection h1 with h1
      injection h1 with h1 _
      have := (hR.fresh k ver (by omega)).1
      rw [this] at h2; cases h2
  refine ⟨⟨.refl G, ⟨hR.bel, hR.ext, ?_, ?_, ?_, hR.owinj, ?_⟩, Nat.le_add_right _ _, fun _ _ _ => ⟨rfl, rfl⟩, ?_, fun _ _ _ h => .inl h⟩, ?_⟩
  · intro k ver cs g h1 h2
    exact hR.bx k ver cs g (hold h1 h2) h2
  · intro k k' ver ver' cs cs' g h1 h2 h3 h4
    exact hR.inj k k' ver ver' cs cs' g (hold h1 h3) (hold h2 h4) h3 h4
  · intro k ver n h1
    obtain ⟨g, cap, size, h2, h3, h4⟩ := hR.ow k ver n h1
    exact ⟨g, cap, size, h2, h3, fun k' ver' cs' h5 h6 => h4 k' ver' cs' (hold h5 h6) h6⟩
  · intro k ver h
    exact hR.fresh k ver (Nat.le_trans (Nat.le_add_right _ _) h)
  · intro k v cs hk hv hn hl
    rcases pre_lk (d := d) (id := id) (base := st.nx) (ops := aops) (i := 0) (bx := st.bx) (k := k) with ⟨h3, _⟩ | ⟨j, ai, zero, _, _, h4, _⟩
    · show lk (pre d id st.nx 0 aops st.bx) k = _
      rw [h3]; exact hl
    · rw [h4] at hk; exact absurd hk (Nat.lt_irrefl _)
  · intro i _ hlt
    have hf := hR.fresh (d, id * 4096 + i) (st.nx + i) (Nat.le_add_right _ _)
    refine ⟨hf.1, hf.2, Nat.add_lt_add_left hlt _, fun ai zero ha hz => ?_⟩
    show lk (pre d id st.nx 0 aops st.bx) _ = _
    rcases pre_lk (d := d) (id := id) (base := st.nx) (ops := aops) (i := 0) (bx := st.bx) (k := (d, id * 4096 + i)) with ⟨_, h3⟩ | ⟨j, ai', zero', h4, h5, h6, h7⟩
    · exact absurd (by simp) (h3 i ai zero ha hz)
    · injection h6 with _ h6
      have : j = i := by omega
      subst this
      rw [ha] at h4
      cases h4
      rw [hz] at h5
      cases h5
      simpa using h7

theorem aregL_O {C : CallF} {d id base : Nat} {ops : List AI} : ∀ {l : List AI} {i : Nat}, (∀ j, ops[i + j]? = l[j]?) → ∀ {σ : Sl} {st : St}, aregL C d id base i l σ st = aregO C d id base ops (List.range' i l.length) σ st
  | [], i, _, σ, st => rfl
  | o :: r, i, h, σ, st => by
    have h0 := h 0
    simp at h0
    simp only [aregL, List.length_cons, List.range'_succ, aregO, h0]
    split
    · exact aregL_O (fun j => by have := h (j + 1); rw [show i + 1 + j = i + (j + 1) from by omega, this]; simp)
    · rfl

/-- A list of operations in the order of the list. -/
theorem ops_ok {C : CallF} (hT : TTok P X.T) (hC : CallOk P X.fm C) {nt : Nat} {ops : Array Oper} {aops : List AI} (hc : cOpers X nt ops ops.toList = some aops) {d id base : Nat} {G0 : Gh} {stz : St} (hb : stz.nx ≤ base) {σ2 : Sl} {st2 : St} {Q : Exit → Act → World → Prop}
    (hQ : ∀ a' w' G', RelA G' nt σ2 a' → Run G0 G' w0 stz st2 w' d → Q .normal a' w') :
    ∀ (l : List Nat) {G : Gh} {σ : Sl} {st : St} {a : Act} {w : World}, X.fm = G.fm → l.Nodup → RelA G nt σ a → Run G0 G w0 stz st w d → Left G st d id base aops l → aregO C d id base aops l σ st = some (σ2, st2) → wpOps P ops Q l a w
  | [], G, σ, st, a, w, hfm, _, hA, hrun, _, h => by
    cases h
    exact hQ a w G hA hrun
  | i :: r, G, σ, st, a, w, hfm, hnd, hA, hrun, hleft, h => by
    rw [wpOps_cons]
    simp only [aregO] at h
    cases ho : ops[i]? with
    | none =>
      have : aops[i]? = none := by
        have h1 := (cOpers_get hc).1
        have : ops.size ≤ i := by simpa using ho
        apply List.getElem?_eq_none
        rw [← h1]; simpa using this
      rw [this] at h
      unfold wpOp
      rw [ho]
      exact ops_ok hT hC hc hb hQ r hfm (List.nodup_cons.1 hnd).2 hA hrun (fun j hj => hleft j (by simp [hj])) h
    | some o =>
      obtain ⟨ai, hai, hco⟩ := (cOpers_get hc).2 i o (by simpa using ho)
      rw [hai] at h
      simp only at h
      split at h
      case h_2 => cases h
      rename_i σ' st' h1
      have hlt : i < aops.length := by
        rcases Nat.lt_or_ge i aops.length with h' | h'
        · exact h'
        · rw [List.getElem?_eq_none h'] at hai; cases hai
      obtain ⟨q1, q2, q3, q4⟩ := hleft i (by simp) hlt
      refine op_step hT hfm hC hA hrun.rel ho hco h1 q1 q2 q3 (fun zero hz => q4 ai zero hai hz) fun a' w' G' hA' hs => ?_
      exact ops_ok hT hC hc hb hQ r (by rw [hs.le.fm]; exact hfm) (List.nodup_cons.1 hnd).2 hA' (hrun.step hs (by omega)) (hleft.step hs fun j hj => ⟨by simp [hj], fun he => (List.nodup_cons.1 hnd).1 (he ▸ hj)⟩) h

end
end Go.AM
