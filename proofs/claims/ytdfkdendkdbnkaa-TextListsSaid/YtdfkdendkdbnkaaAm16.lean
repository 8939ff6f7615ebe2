/- Regions that draw their order. -/
import Derived.Test.YtdfkdendkdbnkaaAm15
set_option linter.all false
namespace Go.AM
open Go Go.RowKit Go.BigFrame

def anyEdges (o : Oper) : List Nat := o.after.toList.filterMap fun e => if Region.binds .any e then some e.on else none

def maskOf (ms : List Nat) (es : List Nat) : Nat := es.foldl (fun s e => s ||| 2 ^ e ||| ms.getD e 0) 0

def masks (acc : List Nat) : List Oper → List Nat
  | [] => acc
  | o :: r => masks (acc ++ [maskOf acc (anyEdges o)]) r

def edgesOk (ms : List Nat) : Nat → List Oper → Bool
  | _, [] => true
  | i, o :: r => (ms.getD i 0 == maskOf ms (anyEdges o)) && (anyEdges o).all (fun e => decide (e < i)) && edgesOk ms (i + 1) r

def pairOk (m : Nat) (y : AI) : Nat → List AI → Bool
  | _, [] => true
  | j, x :: r => (m.testBit j || commOk x y) && pairOk m y (j + 1) r

def pairsOk (ms : List Nat) (all : List AI) : Nat → List AI → Bool
  | _, [] => true
  | i, y :: r => pairOk (ms.getD i 0) y 0 (all.take i) && pairsOk ms all (i + 1) r

def drawOk (ops : List Oper) (aops : List AI) : Bool :=
  let ms := masks [] ops
  edgesOk ms 0 ops && pairsOk ms aops 0 aops

theorem maskOf_bit {ms : List Nat} : ∀ {es : List Nat} {s j : Nat}, (es.foldl (fun s e => s ||| 2 ^ e ||| ms.getD e 0) s).testBit j = true → s.testBit j = true ∨ ∃ e ∈ es, e = j ∨ (ms.getD e 0).testBit j = true
  | [], s, j, h => .inl h
  | e :: r, s, j, h => by
    simp only [List.foldl_cons] at h
    rcases maskOf_bit h with h | ⟨e', h1, h2⟩
    · simp only [Nat.testBit_or, Bool.or_eq_true] at h
      rcases h with (h | h) | h
      · exact .inl h
      · rw [Nat.testBit_two_pow] at h
        exact .inr ⟨e, by simp, .inl (by simpa using h)⟩
      · exact .inr ⟨e, by simp, .inr h⟩
    · exact .inr ⟨e', by simp [h1], h2⟩

theorem edgesOk_get {ms : List Nat} : ∀ {l : List Oper} {i : Nat}, edgesOk ms i l = true → ∀ (j : Nat) o, l[j]? = some o → ms.getD (i + j) 0 = maskOf ms (anyEdges o) ∧ ∀ e ∈ anyEdges o, e < i + j
  | [], i, _, j, o, h => by simp at h
  | x :: r, i, h, j, o, hj => by
    simp only [edgesOk, Bool.and_eq_true, beq_iff_eq, List.all_eq_true, decide_eq_true_eq] at h
    cases j with
    | zero => simp at hj; subst hj; exact ⟨h.1.1, h.1.2⟩
    | succ j =>
      have := edgesOk_get h.2 j o (by simpa using hj)
      rwa [show i + 1 + j = i + (j + 1) from by omega] at this

theorem pairOk_get {m : Nat} {y : AI} : ∀ {l : List AI} {i : Nat}, pairOk m y i l = true → ∀ (j : Nat) x, l[j]? = some x → m.testBit (i + j) = true ∨ commOk x y = true
  | [], i, _, j, x, h => by simp at h
  | x :: r, i, h, j, x', hj => by
    simp only [pairOk, Bool.and_eq_true, Bool.or_eq_true] at h
    cases j with
    | zero => simp at hj; subst hj; exact h.1
    | succ j =>
      have := pairOk_get h.2 j x' (by simpa using hj)
      rwa [show i + 1 + j = i + (j + 1) from by omega] at this

theorem pairsOk_get {ms : List Nat} {all : List AI} : ∀ {l : List AI} {i : Nat}, pairsOk ms all i l = true → ∀ (k : Nat) y, l[k]? = some y → pairOk (ms.getD (i + k) 0) y 0 (all.take (i + k)) = true
  | [], i, _, j, x, h => by simp at h
  | x :: r, i, h, j, x', hj => by
    simp only [pairsOk, Bool.and_eq_true] at h
    cases j with
    | zero => simp at hj; subst hj; exact h.1
    | succ j =>
      have := pairsOk_get h.2 j x' (by simpa using hj)
      rwa [show i + 1 + j = i + (j + 1) from by omega] at this

section
variable {P : Program} {G : Gh} {w0 w : World} {st : St} {X : Cx}

/-- The listed operations with all that they hang on. -/
def Closed (ops : Array Oper) (listed : Array Bool) : Prop := ∀ x o, ops[x]? = some o → listed.getD x false = true → ∀ e ∈ anyEdges o, listed.getD e false = true

theorem mem_anyEdges {o : Oper} {e : Nat} : e ∈ anyEdges o ↔ ∃ q ∈ o.after, Region.binds .any q = true ∧ q.on = e := by
  unfold anyEdges
  rw [List.mem_filterMap]
  constructor
  · rintro ⟨q, h1, h2⟩
    split at h2
    · rename_i h3; injection h2 with h2; exact ⟨q, by simpa using h1, h3, h2⟩
    · cases h2
  · rintro ⟨q, h1, h2, h3⟩
    exact ⟨q, by simpa using h1, by rw [if_pos h2, h3]⟩

theorem ready_iff {ops : Array Oper} {listed : Array Bool} {i : Nat} : i ∈ Region.ready .any ops listed ↔ ∃ o, ops[i]? = some o ∧ listed.getD i true = false ∧ ∀ e ∈ anyEdges o, listed.getD e false = true := by
  unfold Region.ready
  rw [List.mem_filter, List.mem_range]
  constructor
  · rintro ⟨h1, h2⟩
    simp only [Bool.and_eq_true, Bool.not_eq_true'] at h2
    have ho : ops[i]? = some ops[i] := Array.getElem?_eq_getElem h1
    refine ⟨ops[i], ho, h2.1, fun e he => ?_⟩
    rw [ho] at h2
    have h3 := h2.2
    simp only [Option.map_some, Option.getD_some, Array.all_eq_true'] at h3
    obtain ⟨q, h4, h5, h6⟩ := mem_anyEdges.1 he
    have := h3 q h4
    rw [h5] at this
    subst h6
    simpa using this
  · rintro ⟨o, h1, h2, h3⟩
    refine ⟨(Array.getElem?_eq_some_iff.1 h1).1, ?_⟩
    simp only [h1, Option.map_some, Option.getD_some, h2, Bool.not_false, Bool.true_and, Array.all_eq_true']
    intro q hq
    cases h : Region.binds .any q with
    | false => rfl
    | true => simpa using h3 q.on (mem_anyEdges.2 ⟨q, hq, h, rfl⟩)

theorem reach {ops : Array Oper} {listed : Array Bool} (hcl : Closed ops listed) {ms : List Nat} (hms : ∀ i o, ops[i]? = some o → ms.getD i 0 = maskOf ms (anyEdges o) ∧ ∀ e ∈ anyEdges o, e < i) :
    ∀ (n i : Nat) (o : Oper), i < n → ops[i]? = some o → (∀ e ∈ anyEdges o, listed.getD e false = true) → ∀ j, (ms.getD i 0).testBit j = true → listed.getD j false = true
  | 0, i, o, h, _, _, _, _ => absurd h (Nat.not_lt_zero _)
  | n + 1, i, o, h, ho, he, j, hj => by
    obtain ⟨h1, h2⟩ := hms i o ho
    rw [h1] at hj
    rcases maskOf_bit hj with hj | ⟨e, h3, h4⟩
    · simp at hj
    · rcases h4 with rfl | h4
      · exact he _ h3
      · have hlt : e < ops.size := Nat.lt_trans (h2 e h3) (Array.getElem?_eq_some_iff.1 ho).1
        have hoe : ops[e]? = some ops[e] := Array.getElem?_eq_getElem hlt
        exact reach hcl hms n e ops[e] (by have := h2 e h3; omega) hoe (hcl e _ hoe (he e h3)) j h4

theorem getD_set {listed : Array Bool} {i : Nat} (hi : i < listed.size) (j : Nat) (b : Bool) : (listed.setIfInBounds i true).getD j b = if j = i then true else listed.getD j b := by
  rw [Array.getD_eq_getD_getElem?, Array.getD_eq_getD_getElem?, Array.getElem?_setIfInBounds]
  by_cases h : j = i
  · subst h; simp [hi]
  · rw [if_neg (fun e => h e.symm), if_neg h]

theorem draw_ok {C : CallF} (hT : TTok P X.T) (hC : CallOk P X.fm C) {nt : Nat} {ops : Array Oper} {aops : List AI} (hc : cOpers X nt ops ops.toList = some aops) (hd : drawOk ops.toList aops = true) {d id base : Nat} {G0 : Gh} {stz : St} (hb : stz.nx ≤ base) {σ2 : Sl} {st2 : St} {Q : Exit → Act → World → Prop}
    (hQ : ∀ a' w' G', RelA G' nt σ2 a' → Run G0 G' w0 stz st2 w' d → Q .normal a' w') :
    ∀ (l : List Nat) {n : Nat} {listed : Array Bool} {G : Gh} {σ : Sl} {st : St} {a : Act} {w : World}, l.length = n → listed.size = ops.size → l.Pairwise (· < ·) → (∀ j, j ∈ l ↔ j < ops.size ∧ listed.getD j true = false) → Closed ops listed → X.fm = G.fm → RelA G nt σ a → Run G0 G w0 stz st w d → Left G st d id base aops l → aregO C d id base aops l σ st = some (σ2, st2) → wpAny P .any ops Q n listed a w := by
  unfold drawOk at hd
  simp only [Bool.and_eq_true] at hd
  have hms : ∀ i o, ops[i]? = some o → (masks [] ops.toList).getD i 0 = maskOf (masks [] ops.toList) (anyEdges o) ∧ ∀ e ∈ anyEdges o, e < i := fun i o ho => by
    have := edgesOk_get hd.1 i o (by simpa using ho)
    simpa using this
  intro l n
  induction n generalizing l with
  | zero =>
    intro listed G σ st a w hn hsz hpw hmem hcl hfm hA hrun hleft h
    have hl : l = [] := List.eq_nil_of_length_eq_zero hn
    subst hl
    refine ⟨?_, ?_⟩
    · rw [List.eq_nil_iff_forall_not_mem]
      intro i hi
      obtain ⟨o, h1, h2, _⟩ := ready_iff.1 hi
      have := (hmem i).2 ⟨(Array.getElem?_eq_some_iff.1 h1).1, h2⟩
      simp at this
    · cases h
      exact hQ a w G hA hrun
  | succ n ih =>
    intro listed G σ st a w hn hsz hpw hmem hcl hfm hA hrun hleft h
    have hlisted : ∀ j, j < ops.size → listed.getD j false = true ∨ listed.getD j true = false := by
      intro j hj
      rw [Array.getD_eq_getD_getElem?, Array.getD_eq_getD_getElem?, Array.getElem?_eq_getElem (by omega)]
      cases listed[j]'(by omega) <;> simp
    refine ⟨fun hr => ?_, fun i hi => ?_⟩
    · exfalso
      cases l with
      | nil => simp at hn
      | cons i r =>
        obtain ⟨h1, h2⟩ := (hmem i).1 (by simp)
        have ho : ops[i]? = some ops[i] := Array.getElem?_eq_getElem h1
        have : i ∈ Region.ready .any ops listed := ready_iff.2 ⟨_, ho, h2, fun e he => by
          have hlt := (hms i _ ho).2 e he
          rcases hlisted e (by omega) with h3 | h3
          · exact h3
          · exfalso
            have hm := (hmem e).2 ⟨by omega, h3⟩
            rcases List.mem_cons.1 hm with rfl | hm
            · omega
            · have := (List.pairwise_cons.1 hpw).1 e hm; omega⟩
        rw [hr] at this
        simp at this
    · obtain ⟨o, ho, h2, h3⟩ := ready_iff.1 hi
      have hlt : i < ops.size := (Array.getElem?_eq_some_iff.1 ho).1
      obtain ⟨pre, post, rfl⟩ := List.append_of_mem ((hmem i).2 ⟨hlt, h2⟩)
      obtain ⟨ai, hai, hco⟩ := (cOpers_get hc).2 i o (by simpa using ho)
      rw [List.pairwise_append, List.pairwise_cons] at hpw
      obtain ⟨hpw1, ⟨hpw2, hpw3⟩, hpw4⟩ := hpw
      have hcomm : ∀ j ∈ pre, ∀ x, aops[j]? = some x → commOk x ai = true := by
        intro j hj x hx
        have hji := hpw4 j hj i (by simp)
        have hp := pairsOk_get hd.2 i ai hai
        simp only [Nat.zero_add] at hp
        rcases pairOk_get hp j x (by rw [List.getElem?_take, if_pos hji]; exact hx) with hb | hb
        · exfalso
          simp only [Nat.zero_add] at hb
          have := reach hcl hms (i + 1) i o (by omega) ho h3 j hb
          have h4 := ((hmem j).1 (by simp [hj])).2
          rw [Array.getD_eq_getD_getElem?, Array.getElem?_eq_getElem (by omega)] at this h4
          simp only [Option.getD_some] at this h4
          rw [this] at h4
          cases h4
        · exact hb
      have h := ahead hai pre hcomm h
      simp only [aregO, hai] at h
      split at h
      case h_2 => cases h
      rename_i σ' st' h1
      have hlta : i < aops.length := by
        rcases Nat.lt_or_ge i aops.length with h' | h'
        · exact h'
        · rw [List.getElem?_eq_none h'] at hai; cases hai
      obtain ⟨q1, q2, q3, q4⟩ := hleft i (by simp) hlta
      have hmem' : ∀ j, j ∈ pre ++ post ↔ j ∈ pre ++ i :: post ∧ j ≠ i := by
        intro j
        simp only [List.mem_append, List.mem_cons]
        constructor
        · rintro (hj | hj)
          · have := hpw4 j hj i (by simp); exact ⟨.inl hj, by omega⟩
          · have := hpw2 j hj; exact ⟨.inr (.inr hj), by omega⟩
        · rintro ⟨hj | hj | hj, hne⟩
          · exact .inl hj
          · exact absurd hj hne
          · exact .inr hj
      refine op_step hT hfm hC hA hrun.rel ho hco h1 q1 q2 q3 (fun zero hz => q4 ai zero hai hz) fun a' w' G' hA' hs => ?_
      have hn' : (pre ++ post).length = n := by
        simp only [List.length_append, List.length_cons] at hn ⊢
        omega
      refine ih (pre ++ post) hn' (by simpa using hsz) ?_ ?_ ?_ (by rw [hs.le.fm]; exact hfm) hA' (hrun.step hs (by omega)) (hleft.step hs fun j hj => (hmem' j).1 hj) h
      · rw [List.pairwise_append]
        exact ⟨hpw1, hpw3, fun x hx y hy => hpw4 x hx y (by simp [hy])⟩
      · intro j
        rw [hmem' j, hmem j, getD_set (by omega)]
        constructor
        · rintro ⟨⟨h5, h6⟩, h7⟩; exact ⟨h5, by rw [if_neg h7]; exact h6⟩
        · rintro ⟨h5, h6⟩
          by_cases h7 : j = i
          · rw [if_pos h7] at h6; cases h6
          · rw [if_neg h7] at h6; exact ⟨⟨h5, h6⟩, h7⟩
      · intro x ox hox hx e he
        rw [getD_set (by omega)] at hx ⊢
        by_cases h7 : x = i
        · subst h7
          rw [ho] at hox
          cases hox
          split
          · rfl
          · exact h3 e he
        · rw [if_neg h7] at hx
          split
          · rfl
          · exact hcl x ox hox hx e he

end
end Go.AM
