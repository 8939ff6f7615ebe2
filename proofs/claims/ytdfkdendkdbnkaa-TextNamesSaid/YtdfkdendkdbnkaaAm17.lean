/- Code. -/
import Derived.Test.YtdfkdendkdbnkaaAmL
import Derived.LoopN
import Derived.ScopeJumps
set_option linter.all false
namespace Go.AM
open Go Go.RowKit Go.BigFrame

def cLitB (X : Cx) (nt : Nat) (ops : Array Oper) (draw : Bool) : Option (List AI) := if draw = true then none else cLit X nt ops.toList

def cRegion (X : Cx) (nt : Nat) (id : Nat) (ops : Array Oper) (draw : Bool) : Option AC :=
  match cLitB X nt ops draw with
  | some aops => some (.reg id aops)
  | none => match cOpers X nt ops ops.toList with
    | some aops => if (draw && !drawOk ops.toList aops) = true then none else some (.reg id aops)
    | none => none

def cCode (X : Cx) (nt : Nat) : Code → Option AC
  | .skip => some .skip
  | .label _ => some .skip
  | .region id ops draw => cRegion X nt id ops draw
  | .seq a b => match cCode X nt a, cCode X nt b with | some x, some y => some (.seq x y) | _, _ => none
  | .cond c a b => match cOpd X.fm c, cCode X nt a, cCode X nt b with | some z, some x, some y => some (.cond z x y) | _, _, _ => none
  | .block id c => match cCode X nt c with | some x => some (.block id x) | none => none
  | .loop c => match cCode X nt c with | some x => some (.loop x) | none => none
  | .exit id => some (.exit id)
  | .goto l => some (.goto l)
  | .ret => some .ret
  | .scope (.seq (.region id ops draw) (.seq (.label l) b)) => match cRegion X nt id ops draw, cCode X nt b with | some x, some y => some (.gscope l x y) | _, _ => none
  | _ => none

def toExit : AE → Exit
  | .normal => .normal
  | .exit id => .exit id
  | .ret => .ret
  | .goto l => .goto l

/-- From a label on, with what follows the jumps back to it. -/
def jumps (P : Program) (y : Code) (l : Nat) (Q : Exit → Act → World → Prop) : Nat → Act → World → Prop
  | 0, _, _ => False
  | n + 1, a, w => y.wp P (Exit.jump l (jumps P y l Q n) Q) a w

theorem wp_scope_rounds {P : Program} {a : Act} {w : World} {Q : Exit → Act → World → Prop} {x y : Code} (l n : Nat) (hx : findLabel x l = none)
    (first : x.wp P (Exit.then (jumps P y l Q n) fun _ _ _ => False) a w) : (Code.scope (.seq x (.seq (.label l) y))).wp P Q a w := by
  intro b k cs
  have hf : findLabel (.seq x (.seq (.label l) y)) l = some (.seq .skip y) := by simp [findLabel, hx]
  generalize hc : Code.seq x (.seq (.label l) y) = c at hf ⊢
  have hg : gotoIn l (.inScope c :: k) = some (.code (.seq .skip y) :: .inScope c :: k) := by simp [gotoIn, hf]
  have key : ∀ n (z : Code) a w, (∀ a w Q', y.wp P Q' a w → z.wp P Q' a w) → jumps P y l Q n a w → ∃ e a' w', Q e a' w' ∧ Arrives P (lone (b.at a (.code z :: .inScope c :: k)) cs w) b k cs e a' w' := by
    intro n
    induction n with
    | zero => intro z a w _ h; exact h.elim
    | succ n ih =>
      intro z a w hz h
      obtain ⟨e, a₁, w₁, hq, harr⟩ := hz _ _ _ h b (.inScope c :: k) cs
      cases e with
      | normal => exact ⟨.normal, a₁, w₁, hq, Steps.trans harr (.one step_inScope)⟩
      | exit id => exact ⟨.exit id, a₁, w₁, hq, fun k' hk => harr k' (by simp [exitTo, hk])⟩
      | goto l' =>
        obtain ⟨rfl, hJ'⟩ := hq
        obtain ⟨e₂, a₂, w₂, hq₂, harr₂⟩ := ih (.seq .skip y) a₁ w₁ (fun _ _ _ h => wp_seq (wp_skip h)) hJ'
        exact ⟨e₂, a₂, w₂, hq₂, .of_steps (harr _ hg) harr₂⟩
      | ret => exact ⟨_, a₁, w₁, hq, harr⟩
      | panic ch => exact ⟨_, a₁, w₁, hq, harr⟩
      | outgrown => exact ⟨_, a₁, w₁, hq, harr⟩
  obtain ⟨e, a₁, w₁, hq, harr⟩ := first b (.code (.seq (.label l) y) :: .inScope c :: k) cs
  cases e with
  | normal =>
    obtain ⟨e₂, a₂, w₂, hq₂, harr₂⟩ := key n (.seq (.label l) y) a₁ w₁ (fun _ _ _ h => wp_seq (wp_label h)) hq
    have hs : Steps P (lone (b.at a (.code (.scope c) :: k)) cs w) (lone (b.at a (.code x :: .code (.seq (.label l) y) :: .inScope c :: k)) cs w) := by
      refine .head step_scope ?_
      rw [← hc]
      exact .one step_seq
    exact ⟨e₂, a₂, w₂, hq₂, .of_steps (hs.trans harr) harr₂⟩
  | exit id => exact hq.elim
  | goto l' => exact hq.elim
  | ret => exact hq.elim
  | panic ch => exact hq.elim
  | outgrown => exact hq.elim

/-- What the abstract code's end says of the model's. -/
def CodeOk (P : Program) (X : Cx) (nt d : Nat) (f : Sl → St → Option (AE × Sl × St)) (c : Code) : Prop :=
  ∀ {σ : Sl} {st : St} {e : AE} {σ' : Sl} {st' : St}, f σ st = some (e, σ', st') → ∀ {G : Gh} {w0 w : World} {a : Act}, X.fm = G.fm → RelA G nt σ a → Rel G w0 st w →
    ∀ {Q : Exit → Act → World → Prop}, (∀ a' w' G', RelA G' nt σ' a' → Run G G' w0 st st' w' d → Q (toExit e) a' w') → c.wp P Q a w

section
variable {P : Program} {X : Cx}

theorem region_ok {C : CallF} (hT : TTok P X.T) (hC : CallOk P X.fm C) (hm : P.follows .mixedOrders = true) {nt d id : Nat} {ops : Array Oper} {draw : Bool} {n : Nat} {ac : AC} (hcr : cRegion X nt id ops draw = some ac) : CodeOk P X nt d (acode C n d ac) (.region id ops draw) := by
  unfold cRegion at hcr
  split at hcr
  · rename_i aops hl
    cases hcr
    unfold cLitB at hl
    split at hl
    · cases hl
    rename_i hd
    have hd : draw = false := by simpa using hd
    subst hd
    intro σ st e σ' st' h G w0 w a hfm hA hR Q hQ
    exact lit_ok hT hl h hA hR fun he => by subst he; exact hQ
  split at hcr
  case h_2 => cases hcr
  rename_i aops hc
  split at hcr
  · cases hcr
  rename_i hd
  cases hcr
  have hd : draw = true → drawOk ops.toList aops = true := fun hdr => by
    subst hdr
    simpa using hd
  intro σ st e σ' st' h G w0 w a hfm hA hR Q hQ
  simp only [acode, Option.map_eq_some_iff, Prod.mk.injEq] at h
  obtain ⟨⟨σ1, st1⟩, h, rfl, rfl, rfl⟩ := h
  unfold areg at h
  rw [aregL_O (ops := aops) (fun j => by simp)] at h
  rw [← List.range_eq_range'] at h
  have hlen : aops.length = ops.size := by
    have := (cOpers_get hc).1
    simpa using this.symm
  cases draw with
  | false =>
    refine wp_region ?_
    obtain ⟨h1, h2⟩ := region_in (d := d) (id := id) (aops := aops) hR (l := List.range ops.size)
    rw [hlen] at h
    exact ops_ok hT hC hc (Nat.le_refl _) hQ (List.range ops.size) hfm List.nodup_range hA h1 h2 (by rw [hlen]; exact h)
  | true =>
    refine wp_region_any hm ?_
    have hR' : Rel G w0 st { w with drawn := w.drawn + 1 } := hR.below (w' := { w with drawn := w.drawn + 1 }) ⟨rfl, rfl, rfl, Nat.le_refl _, fun _ _ => rfl⟩
    obtain ⟨h1, h2⟩ := region_in (d := d) (id := id) (aops := aops) hR' (l := List.range ops.size)
    rw [hlen] at h
    refine draw_ok hT hC hc (hd rfl) (Nat.le_refl _) hQ (List.range ops.size) (by simp) (by simp) List.pairwise_lt_range ?_ ?_ hfm hA h1 h2 (by rw [hlen]; exact h)
    · intro j
      rw [List.mem_range]
      constructor
      · intro hj
        refine ⟨hj, ?_⟩
        rw [Array.getD_eq_getD_getElem?, Array.getElem?_replicate, if_pos hj]
        rfl
      · exact fun h => h.1
    · intro x o hx hl
      rw [Array.getD_eq_getD_getElem?, Array.getElem?_replicate, if_pos (Array.getElem?_eq_some_iff.1 hx).1] at hl
      cases hl

theorem loop_ok {nt d : Nat} {f : Sl → St → Option (AE × Sl × St)} {c : Code} (ih : CodeOk P X nt d f c) : ∀ (m : Nat) {σ : Sl} {st : St} {e : AE} {σ' : Sl} {st' : St}, iter f m σ st = some (e, σ', st') → ∀ {G : Gh} {w0 w : World} {a : Act}, X.fm = G.fm → RelA G nt σ a → Rel G w0 st w →
    ∀ {Q : Exit → Act → World → Prop}, (∀ a' w' G', RelA G' nt σ' a' → Run G G' w0 st st' w' d → Q (toExit e) a' w') → Code.rounds P c Q m a w
  | 0, σ, st, e, σ', st', h, G, w0, w, a, _, _, _, Q, _ => by cases h
  | m + 1, σ, st, e, σ', st', h, G, w0, w, a, hfm, hA, hR, Q, hQ => by
    rw [rounds_succ]
    simp only [iter] at h
    split at h
    · rename_i σ1 st1 h1
      refine ih h1 hfm hA hR fun a1 w1 G1 hA1 hrun1 => ?_
      exact loop_ok ih m h (by rw [hrun1.le.fm]; exact hfm) hA1 hrun1.rel fun a2 w2 G2 hA2 hrun2 => hQ a2 w2 G2 hA2 (hrun1.trans hrun2)
    · rename_i hne
      refine ih h hfm hA hR fun a1 w1 G1 hA1 hrun1 => ?_
      have := hQ a1 w1 G1 hA1 hrun1
      cases e with
      | normal => exact absurd h (hne _ _)
      | exit id => exact this
      | ret => exact this
      | goto l => exact this

theorem jumps_ok {nt d l : Nat} {f : Sl → St → Option (AE × Sl × St)} {y : Code} (ih : CodeOk P X nt d f y) : ∀ (m : Nat) {σ : Sl} {st : St} {e : AE} {σ' : Sl} {st' : St}, iterG l f m σ st = some (e, σ', st') → ∀ {G : Gh} {w0 w : World} {a : Act}, X.fm = G.fm → RelA G nt σ a → Rel G w0 st w →
    ∀ {Q : Exit → Act → World → Prop}, (∀ a' w' G', RelA G' nt σ' a' → Run G G' w0 st st' w' d → Q (toExit e) a' w') → jumps P y l Q m a w
  | 0, σ, st, e, σ', st', h, G, w0, w, a, _, _, _, Q, _ => by cases h
  | m + 1, σ, st, e, σ', st', h, G, w0, w, a, hfm, hA, hR, Q, hQ => by
    simp only [jumps]
    simp only [iterG] at h
    split at h
    · rename_i l' σ2 st2 h2
      split at h
      · rename_i hl
        refine ih h2 hfm hA hR fun a2 w2 G2 hA2 hrun2 => ⟨hl, ?_⟩
        exact jumps_ok ih m h (by rw [hrun2.le.fm]; exact hfm) hA2 hrun2.rel fun a3 w3 G3 hA3 hrun3 => hQ a3 w3 G3 hA3 (hrun2.trans hrun3)
      · cases h
    · rename_i hne
      refine ih h hfm hA hR fun a2 w2 G2 hA2 hrun2 => ?_
      have := hQ a2 w2 G2 hA2 hrun2
      cases e with
      | normal => exact this
      | exit id => exact this
      | ret => exact this
      | goto l => exact absurd h (hne _ _ _)

theorem code_ok {C : CallF} (hT : TTok P X.T) (hC : CallOk P X.fm C) (hm : P.follows .mixedOrders = true) {nt : Nat} (n d : Nat) : ∀ (k : Nat) (c : Code), SizeOf.sizeOf c < k → ∀ {ac : AC}, cCode X nt c = some ac → CodeOk P X nt d (acode C n d ac) c := by
  intro k
  induction k with
  | zero => intro c hk; exact absurd hk (Nat.not_lt_zero _)
  | succ k ihk =>
  intro c hk ac hc
  cases c with
  | skip =>
    cases hc
    intro σ st e σ' st' h G w0 w a hfm hA hR Q hQ
    cases h
    exact wp_skip (hQ a w G hA (.refl hR))
  | label l =>
    cases hc
    intro σ st e σ' st' h G w0 w a hfm hA hR Q hQ
    cases h
    exact wp_label (hQ a w G hA (.refl hR))
  | exit id =>
    cases hc
    intro σ st e σ' st' h G w0 w a hfm hA hR Q hQ
    cases h
    exact wp_exit (hQ a w G hA (.refl hR))
  | goto l =>
    cases hc
    intro σ st e σ' st' h G w0 w a hfm hA hR Q hQ
    cases h
    exact wp_goto (hQ a w G hA (.refl hR))
  | ret =>
    cases hc
    intro σ st e σ' st' h G w0 w a hfm hA hR Q hQ
    cases h
    exact wp_ret (hQ a w G hA (.refl hR))
  | region id ops draw => exact region_ok hT hC hm hc
  | seq x y =>
    unfold cCode at hc
    split at hc
    · rename_i ax ay hx hy
      cases hc
      intro σ st e σ' st' h G w0 w a hfm hA hR Q hQ
      simp only [acode] at h
      split at h
      · rename_i σ1 st1 h1
        refine wp_seq (ihk _ (by simp at hk; omega) hx h1 hfm hA hR fun a1 w1 G1 hA1 hrun1 => ?_)
        exact ihk _ (by simp at hk; omega) hy h (by rw [hrun1.le.fm]; exact hfm) hA1 hrun1.rel fun a2 w2 G2 hA2 hrun2 => hQ a2 w2 G2 hA2 (hrun1.trans hrun2)
      · rename_i hne
        refine wp_seq (ihk _ (by simp at hk; omega) hx h hfm hA hR fun a1 w1 G1 hA1 hrun1 => ?_)
        have := hQ a1 w1 G1 hA1 hrun1
        cases e with
        | normal => exact absurd h (hne _ _)
        | exit id => exact this
        | ret => exact this
        | goto l => exact this
    · cases hc
  | cond z x y =>
    unfold cCode at hc
    split at hc
    · rename_i az ax ay hz hx hy
      cases hc
      intro σ st e σ' st' h G w0 w a hfm hA hR Q hQ
      simp only [acode] at h
      rw [hfm] at hz
      have hv := cOpd_ok hA hz
      unfold Same at hv
      revert hv
      split at h
      · rename_i ht
        rw [ht]
        intro hv
        exact wp_cond_true hv.bool_inv (ihk _ (by simp at hk; omega) hx h hfm hA hR hQ)
      · rename_i ht
        rw [ht]
        intro hv
        exact wp_cond_false hv.bool_inv (ihk _ (by simp at hk; omega) hy h hfm hA hR hQ)
      · cases h
    · cases hc
  | block id c =>
    unfold cCode at hc
    split at hc
    · rename_i x hx
      cases hc
      intro σ st e σ' st' h G w0 w a hfm hA hR Q hQ
      simp only [acode] at h
      refine wp_block ?_
      split at h
      · rename_i id' σ1 st1 h1
        refine ihk _ (by simp at hk; omega) hx h1 hfm hA hR fun a1 w1 G1 hA1 hrun1 => ?_
        split at h
        · rename_i hid
          cases h
          have := hQ a1 w1 G1 hA1 hrun1
          simp only [toExit, Exit.inBlock, hid, if_true]
          exact this
        · rename_i hid
          cases h
          have := hQ a1 w1 G1 hA1 hrun1
          simp only [toExit, Exit.inBlock, hid, if_false]
          exact this
      · rename_i hne
        refine ihk _ (by simp at hk; omega) hx h hfm hA hR fun a1 w1 G1 hA1 hrun1 => ?_
        have := hQ a1 w1 G1 hA1 hrun1
        cases e with
        | normal => exact this
        | exit id' => exact absurd h (hne _ _ _)
        | ret => exact this
        | goto l => exact this
    · cases hc
  | loop c =>
    unfold cCode at hc
    split at hc
    · rename_i x hx
      cases hc
      have ih : CodeOk P X nt d (acode C n d x) c := ihk _ (by simp at hk; omega) hx
      intro σ st e σ' st' h G w0 w a hfm hA hR Q hQ
      simp only [acode] at h
      exact wp_loop_rounds n (loop_ok ih n h hfm hA hR hQ)
    · cases hc
  | rangeFunc f ps x y => simp [cCode] at hc
  | refuse why => simp [cCode] at hc
  | scope c =>
    unfold cCode at hc
    split at hc
    all_goals first | (rename_i hq; cases hq; done) | skip
    all_goals (first | (cases hc; done) | skip)
    rename_i id ops draw l y hq
    injection hq with hq
    subst hq
    split at hc
    · rename_i ax ay hx hy
      cases hc
      have ih : CodeOk P X nt d (acode C n d ay) y := ihk _ (by simp at hk; omega) hy
      have ihx : CodeOk P X nt d (acode C n d ax) (.region id ops draw) := region_ok hT hC hm hx
      intro σ st e σ' st' h G w0 w a hfm hA hR Q hQ
      simp only [acode] at h
      split at h
      case h_2 => cases h
      rename_i σ1 st1 h1
      refine wp_scope_rounds l n rfl (ihx h1 hfm hA hR fun a1 w1 G1 hA1 hrun1 => ?_)
      exact jumps_ok ih n h (by rw [hrun1.le.fm]; exact hfm) hA1 hrun1.rel fun a' w' G' h1 h2 => hQ a' w' G' h1 (hrun1.trans h2)
    · cases hc

end
end Go.AM
