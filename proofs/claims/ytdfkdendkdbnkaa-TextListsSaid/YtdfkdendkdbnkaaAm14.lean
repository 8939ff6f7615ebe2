/- Calls, regions. -/
import Derived.Test.YtdfkdendkdbnkaaAm12
import Derived.Test.YtdfkdendkdbnkaaAm13
import Derived.Orders
set_option linter.all false
namespace Go.AM
open Go Go.RowKit Go.BigFrame

/-- What a stretch of code at depth d does to ghost, state and world. -/
structure Run (G G' : Gh) (w0 : World) (st st' : St) (w' : World) (d : Nat) : Prop where
  le : G.Le G'
  rel : Rel G' w0 st' w'
  nx : st.nx ≤ st'.nx
  old : ∀ k v, v < st.nx → G'.ρ k v = G.ρ k v ∧ G'.ω k v = G.ω k v
  pend : ∀ k v cs, k.1 < d → v < st.nx → G.ρ k v = none → lk st.bx k = some (v, cs) → lk st'.bx k = some (v, cs)
  newH : ∀ g o v, G'.H g o = some v → G.H g o = some v ∨ w0.heap.size ≤ g

section
variable {G G1 G2 : Gh} {w0 w w1 w2 : World} {st st1 st2 : St} {d : Nat}
theorem Run.refl (hR : Rel G w0 st w) : Run G G w0 st st w d :=
  ⟨.refl G, hR, Nat.le_refl _, fun _ _ _ => ⟨rfl, rfl⟩, fun _ _ _ _ _ _ h => h, fun _ _ _ h => .inl h⟩

theorem Run.trans (h : Run G G1 w0 st st1 w1 d) (k : Run G1 G2 w0 st1 st2 w2 d) : Run G G2 w0 st st2 w2 d := by
  refine ⟨h.le.trans k.le, k.rel, Nat.le_trans h.nx k.nx, fun q v hv => ?_, fun q v cs hq hv hn hl => ?_, fun g o v hv => ?_⟩
  · have h1 := h.old q v hv
    have h2 := k.old q v (Nat.lt_of_lt_of_le hv h.nx)
    exact ⟨h2.1.trans h1.1, h2.2.trans h1.2⟩
  · exact k.pend q v cs hq (Nat.lt_of_lt_of_le hv h.nx) (by rw [(h.old q v hv).1]; exact hn) (h.pend q v cs hq hv hn hl)
  · rcases k.newH g o v hv with h' | h'
    · exact h.newH g o v h'
    · exact .inr h'

theorem Run.step {site ver : Nat} (h : Run G G1 w0 st st1 w1 d) (k : Step G1 G2 w0 st1 st2 w2 d site ver) (hv : st.nx ≤ ver) : Run G G2 w0 st st2 w2 d := by
  refine ⟨h.le.trans k.le, k.rel, Nat.le_trans h.nx k.nx, fun q v hv' => ?_, fun q v cs hq hv' hn hl => ?_, fun g o v hv' => ?_⟩
  · have h1 := h.old q v hv'
    have h2 := k.old q v (Nat.lt_of_lt_of_le hv' h.nx) (fun he => by injection he with _ he; omega)
    exact ⟨h2.1.trans h1.1, h2.2.trans h1.2⟩
  · exact k.pend q v cs (Nat.le_of_lt hq) (Nat.lt_of_lt_of_le hv' h.nx) (fun he => by rw [he] at hq; exact Nat.lt_irrefl _ hq) (by rw [(h.old q v hv').1]; exact hn) (h.pend q v cs hq hv' hn hl)
  · rcases k.newH g o v hv' with h' | h'
    · exact h.newH g o v h'
    · exact .inr h'

theorem Step.of_run {site ver : Nat} (h : Run G G1 w0 st st1 w1 (d + 1)) : Step G G1 w0 st st1 w1 d site ver :=
  ⟨h.le, h.rel, h.nx, fun k v hv _ => h.old k v hv, fun k v cs hk hv _ hn hl => h.pend k v cs (by omega) hv hn hl, h.newH⟩
end

/-- What a call comes to. -/
def Goes (P : Program) (f : FuncId) (vals : Array Value) (w : World) (K : Value → World → Prop) : Prop :=
  ((callFunc f vals).run P w = .ok (.enter f vals) w ∧ Calls P f vals w fun e w' => match e with | .returned v => K v w' | _ => False) ∨
  ∃ v w', (callFunc f vals).run P w = .ok (.value v) w' ∧ K v w'

theorem Goes.mono {P : Program} {f : FuncId} {vals : Array Value} {w : World} {K K' : Value → World → Prop} (h : Goes P f vals w K) (hk : ∀ v w', K v w' → K' v w') : Goes P f vals w K' := by
  rcases h with ⟨h1, h2⟩ | ⟨v, w', h1, h2⟩
  · refine .inl ⟨h1, h2.mono fun e w' he => ?_⟩
    cases e with
    | returned v => exact hk _ _ he
    | panicked c => exact he
    | outgrown => exact he
  · exact .inr ⟨v, w', h1, hk _ _ h2⟩

/-- The abstract machine's calls stand for the program's. -/
def CallOk (P : Program) (fm : FM) (C : CallF) : Prop :=
  ∀ d c args st r st', C d c args st = some (r, st') → ∀ f, fm f = some c → ∀ G w0 w vals, G.fm = fm → Rel G w0 st w → Rs G args vals →
    Goes P f vals.toArray w fun v w' => ∃ G', R G' r v ∧ Run G G' w0 st st' w' d

def dstOk (nt : Nat) : Option Nat → Bool
  | some t => decide (t < nt)
  | none => true

def cOper (X : Cx) (nt : Nat) (ops : Array Oper) (o : Oper) : Option AI :=
  match cOp X o.op with
  | none => none
  | some op =>
    if dstOk nt o.dst = true then
      match o.guard with
      | none => some ⟨o.dst, op, none⟩
      | some (j, w) => match (ops[j]?).bind (·.dst) with | some t => some ⟨o.dst, op, some (t, w)⟩ | none => none
    else none

section
variable {P : Program} {G : Gh} {w0 w : World} {st : St} {X : Cx}

theorem strip_ok {H : Hp} {ρ : Key → Nat → Option Nat} {ω : Key → Nat → Option (Nat × Nat × Nat)} {G : Gh} (hH : HLe G.H H) : ∀ {a : AV} {v : Value} {b : AV}, R G a v → a.strip = some b → ∀ fm, R ⟨H, ρ, ω, fm⟩ b v := by
  intro a v b h
  revert b
  have lists : ∀ {cs : List AV} {us : List Value}, cs.length = us.length → (∀ (j : Nat) a u, cs[j]? = some a → us[j]? = some u → ∀ {b : AV}, a.strip = some b → ∀ fm, R ⟨H, ρ, ω, fm⟩ b u) → ∀ {l : List AV}, AV.strips cs = some l → ∀ fm, Rs ⟨H, ρ, ω, fm⟩ l us := by
    intro cs
    induction cs with
    | nil =>
      intro us hl _ l h fm
      cases us with
      | nil => cases h; exact ⟨rfl, by simp⟩
      | cons => simp at hl
    | cons a cs ih =>
      intro us hl hj l h fm
      cases us with
      | nil => simp at hl
      | cons x us =>
        rw [AV.strips] at h
        split at h
        · rename_i w1 l1 h1 h2
          cases h
          have hr := ih (by simpa using hl) (fun j a u h1 h2 => hj (j + 1) a u (by simpa using h1) (by simpa using h2)) h2 fm
          refine ⟨by simp [hr.1], fun j a' u' ha hu => ?_⟩
          cases j with
          | zero =>
            simp at ha hu
            subst ha; subst hu
            exact hj 0 a x rfl rfl h1 fm
          | succ j => exact hr.2 j a' u' (by simpa using ha) (by simpa using hu)
        · cases h
  induction h with
  | fz a v h =>
    intro b hb fm
    have h' := h.mono hH
    cases h with
    | sl rows A cap size g off us hA hcap hs hH' hF => simp only [AV.strip] at hb; cases hb; exact .fz _ _ h'
    | _ => simp only [AV.strip] at hb; cases hb; exact .fz _ _ h'
  | sl o rows A n cap h ho => intro b hb fm; simp only [AV.strip] at hb; cases hb; exact .fz _ _ (h.mono hH)
  | p k ver off g h => intro b hb; simp only [AV.strip] at hb; cases hb
  | fp cs us g off h1 h2 => intro b hb fm; simp only [AV.strip] at hb; cases hb; exact .fp cs us g off (fun j a h => hH _ _ _ (h1 j a h)) (fun j a h => (h2 j a h).mono hH)
  | ag cs us hl _ ih =>
    intro b hb fm
    rw [AV.strip] at hb
    split at hb
    · rename_i l h1
      cases hb
      have := lists hl (fun j a u h1 h2 => ih j a u h1 h2) h1 fm
      exact .ag l us this.1 this.2
    · cases hb
  | tup cs us hl _ ih =>
    intro b hb fm
    rw [AV.strip] at hb
    split at hb
    · rename_i l h1
      cases hb
      have := lists hl (fun j a u h1 h2 => ih j a u h1 h2) h1 fm
      exact .tup l us this.1 this.2
    · cases hb
  | fn c f hf cs us hl _ ih => intro b hb; simp only [AV.strip] at hb; cases hb

theorem strips_ok {H : Hp} {ρ : Key → Nat → Option Nat} {ω : Key → Nat → Option (Nat × Nat × Nat)} {G : Gh} (hH : HLe G.H H) : ∀ {cs : List AV} {us : List Value}, Rs G cs us → ∀ {l : List AV}, AV.strips cs = some l → ∀ fm, Rs ⟨H, ρ, ω, fm⟩ l us := by
  intro cs
  induction cs with
  | nil =>
    intro us h l hl fm
    cases us with
    | nil => cases hl; exact ⟨rfl, by simp⟩
    | cons => have := h.1; simp at this
  | cons a cs ih =>
    intro us h l hl fm
    cases us with
    | nil => have := h.1; simp at this
    | cons x us =>
      rw [AV.strips] at hl
      split at hl
      · rename_i w1 l1 h1 h2
        cases hl
        have hr := ih (us := us) ⟨by simpa using h.1, fun j a u h1 h2 => h.2 (j + 1) a u (by simpa using h1) (by simpa using h2)⟩ h2 fm
        refine ⟨by simp [hr.1], fun j a' u' ha hu => ?_⟩
        cases j with
        | zero =>
          simp at ha hu
          subst ha; subst hu
          exact strip_ok hH (h.2 0 a x rfl rfl) h1 fm
        | succ j => exact hr.2 j a' u' (by simpa using ha) (by simpa using hu)
      · cases hl

theorem pure_call {C : CallF} (hC : CallOk P G.fm C) (hR : Rel G w0 st w) {c f : Nat} (hf : G.fm f = some c) {args vs : List AV} {vals : List Value} (hv : Rs G args vals) (hs : AV.strips args = some vs) {r r' : AV} {st' : St} (h : C 0 c vs st0 = some (r, st')) (hr : r.strip = some r') {d site ver : Nat} :
    Goes P f vals.toArray w fun v w' => ∃ G', R G' r' v ∧ Step G G' w0 st st w' d site ver := by
  have hR0 : Rel ⟨G.H, fun _ _ => none, fun _ _ => none, G.fm⟩ w st0 w := by
    refine ⟨Below.refl _ _, hR.ext, ?_, ?_, ?_, ?_, fun _ _ _ => ⟨rfl, rfl⟩⟩
    · intro k ver cs g h1; simp [st0, lk] at h1
    · intro k k' ver ver' cs cs' g h1; simp [st0, lk] at h1
    · intro k ver n h1; simp [st0, lk] at h1
    · intro k k' ver ver' n n' g cap size cap' size' h1; simp [st0, lk] at h1
  refine (hC 0 c vs st0 r st' h f hf ⟨G.H, fun _ _ => none, fun _ _ => none, G.fm⟩ w w vals rfl hR0 (strips_ok (fun _ _ _ h => h) hv hs G.fm)).mono ?_
  rintro v w' ⟨G', h1, h2⟩
  have hle : HLe G.H G'.H := h2.le.H
  refine ⟨⟨G'.H, G.ρ, G.ω, G.fm⟩, strip_ok (G := G') (fun _ _ _ h => h) h1 hr G.fm, Step.grow hR h2.rel.bel hle fun g o v hg => ?_⟩
  rcases h2.newH g o v hg with h' | h'
  · exact .inl h'
  · exact .inr ⟨h', h2.rel.ext g o v hg⟩

theorem Rs.append {cs cs' : List AV} {us us' : List Value} (h : Rs G cs us) (h' : Rs G cs' us') : Rs G (cs ++ cs') (us ++ us') := by
  refine ⟨by simp [h.1, h'.1], fun j a u ha hu => ?_⟩
  rcases Nat.lt_or_ge j cs.length with hj | hj
  · rw [List.getElem?_append_left hj] at ha
    rw [List.getElem?_append_left (by rw [← h.1]; exact hj)] at hu
    exact h.2 j a u ha hu
  · rw [List.getElem?_append_right hj] at ha
    rw [List.getElem?_append_right (by rw [← h.1]; exact hj)] at hu
    rw [← h.1] at hu
    exact h'.2 _ a u ha hu

end
end Go.AM
