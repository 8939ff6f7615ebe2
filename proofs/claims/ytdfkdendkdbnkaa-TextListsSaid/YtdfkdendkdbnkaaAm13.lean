/- Operations of one region, in another order: the abstract machine's side. -/
import Derived.Test.YtdfkdendkdbnkaaAm1
set_option linter.all false
namespace Go.AM
open Go Go.RowKit

def Opd.rd : Opd → List Nat
  | .t n => [n]
  | .c _ => []

def rdO : Option Opd → List Nat
  | some x => x.rd
  | none => []

def rds : List Opd → List Nat
  | [] => []
  | x :: r => x.rd ++ rds r

def rdP {α : Type} : List (α × Opd) → List Nat
  | [] => []
  | (_, x) :: r => x.rd ++ rdP r

def AOp.rd : AOp → List Nat
  | .mv x => x.rd
  | .pick c a b => c.rd ++ a.rd ++ b.rd
  | .alloc _ => []
  | .box _ x => x.rd
  | .build _ ps => rdP (ps.map fun p => (p.1, p.2.2))
  | .bslice _ _ ps => rdP ps
  | .load _ _ a => a.rd
  | .store _ a x => a.rd ++ x.rd
  | .nilc x => x.rd
  | .bin _ x y => x.rd ++ y.rd
  | .beq _ x y => x.rd ++ y.rd
  | .un _ x => x.rd
  | .cvi _ x => x.rd
  | .b2s x => x.rd
  | .mkfn _ l => rds l
  | .mks _ _ l c => l.rd ++ c.rd
  | .slS x lo hi => x.rd ++ rdO lo ++ rdO hi
  | .slL _ x lo hi => x.rd ++ rdO lo ++ rdO hi
  | .slA _ _ x lo hi => x.rd ++ rdO lo ++ rdO hi
  | .fad _ x => x.rd
  | .fld _ _ _ x => x.rd
  | .iaL _ x i => x.rd ++ i.rd
  | .iaA _ _ x i => x.rd ++ i.rd
  | .ixA _ _ _ x i => x.rd ++ i.rd
  | .ixS x i => x.rd ++ i.rd
  | .ext _ x => x.rd
  | .call _ _ l => rds l
  | .callv f l => f.rd ++ rds l
  | .len _ x => x.rd
  | .app _ _ s x => s.rd ++ x.rd
  | .appS s x => s.rd ++ x.rd
  | .max x y => x.rd ++ y.rd

theorem ev_congr {σ τ : Sl} {x : Opd} (h : ∀ t ∈ x.rd, σ t = τ t) : x.ev σ = x.ev τ := by
  cases x with
  | t n => exact h n (by simp [Opd.rd])
  | c v => rfl

theorem bnds_congr {σ τ : Sl} {len cap : Nat} {lo hi : Option Opd} (h1 : ∀ t ∈ rdO lo, σ t = τ t) (h2 : ∀ t ∈ rdO hi, σ t = τ t) : bnds σ len cap lo hi = bnds τ len cap lo hi := by
  unfold bnds
  cases lo with
  | none =>
    cases hi with
    | none => rfl
    | some y => simp only [ev_congr (x := y) h2]
  | some x =>
    cases hi with
    | none => simp only [ev_congr (x := x) h1]
    | some y => simp only [ev_congr (x := x) h1, ev_congr (x := y) h2]

theorem evs_congr {σ τ : Sl} : ∀ {l : List Opd}, (∀ t ∈ rds l, σ t = τ t) → l.map (·.ev σ) = l.map (·.ev τ)
  | [], _ => rfl
  | x :: r, h => by
    simp only [List.map_cons]
    rw [ev_congr (x := x) (fun t ht => h t (by simp [rds, ht])), evs_congr (l := r) (fun t ht => h t (by simp [rds, ht]))]

theorem fillRows_congr {σ τ : Sl} {z : List AV} : ∀ {l : List (Nat × Opd)} {rows : List (List AV)}, (∀ t ∈ rdP l, σ t = τ t) → fillRows z σ rows l = fillRows z τ rows l
  | [], _, _ => rfl
  | (i, x) :: r, rows, h => by
    unfold fillRows
    rw [ev_congr (x := x) (fun t ht => h t (by simp [rdP, ht]))]
    split
    · split
      · exact fillRows_congr (fun t ht => h t (by simp [rdP, ht]))
      · rfl
    · rfl

theorem fillCells_congr {σ τ : Sl} : ∀ {l : List (Nat × Nat × Opd)} {cs : List AV}, (∀ t ∈ rdP (l.map fun p => (p.1, p.2.2)), σ t = τ t) → fillCells σ cs l = fillCells τ cs l
  | [], _, _ => rfl
  | (o, n, x) :: r, cs, h => by
    unfold fillCells
    rw [ev_congr (x := x) (fun t ht => h t (by simp [rdP, ht]))]
    dsimp only
    split
    · exact fillCells_congr (fun t ht => h t (by simp only [List.map_cons, rdP, List.mem_append]; exact .inr ht))
    · rfl

theorem apure_congr {key : Key} {ver : Nat} {σ τ : Sl} {op : AOp} (h : ∀ t ∈ op.rd, σ t = τ t) : apure key ver σ op = apure key ver τ op := by
  have l1 : ∀ {a b : List Nat}, (∀ t ∈ a ++ b, σ t = τ t) → (∀ t ∈ a, σ t = τ t) ∧ (∀ t ∈ b, σ t = τ t) := fun h => ⟨fun t ht => h t (List.mem_append.2 (.inl ht)), fun t ht => h t (List.mem_append.2 (.inr ht))⟩
  cases op with
  | mv x => simp only [apure, ev_congr h]
  | pick c x y =>
    obtain ⟨h1, h2⟩ := l1 h
    obtain ⟨h3, h4⟩ := l1 h1
    simp only [apure, ev_congr h2, ev_congr h3, ev_congr h4]
  | build z ps => simp only [apure, fillCells_congr h]
  | bslice z n ps => simp only [apure]; split <;> (try rfl); simp only [fillRows_congr h]
  | nilc x => simp only [apure, ev_congr h]
  | bin op x y => obtain ⟨h1, h2⟩ := l1 h; simp only [apure, ev_congr h1, ev_congr h2]
  | beq n x y => obtain ⟨h1, h2⟩ := l1 h; simp only [apure, ev_congr h1, ev_congr h2]
  | un op x => simp only [apure, ev_congr h]
  | cvi k x => simp only [apure, ev_congr h]
  | b2s x => simp only [apure, ev_congr h]
  | mkfn f l => simp only [apure, evs_congr h]
  | slS x lo hi =>
    obtain ⟨h1, h2⟩ := l1 h
    obtain ⟨h3, h4⟩ := l1 h1
    simp only [apure, ev_congr h3]
    split
    · rw [bnds_congr h4 h2]
    · rfl
  | slL n x lo hi =>
    obtain ⟨h1, h2⟩ := l1 h
    obtain ⟨h3, h4⟩ := l1 h1
    simp only [apure, ev_congr h3]
    split
    · rw [bnds_congr h4 h2]
    · rfl
  | fad o x => simp only [apure, ev_congr h]
  | fld o n g x => simp only [apure, ev_congr h]
  | iaL n x i => obtain ⟨h1, h2⟩ := l1 h; simp only [apure, ev_congr h1, ev_congr h2]
  | iaA n m x i => obtain ⟨h1, h2⟩ := l1 h; simp only [apure, ev_congr h1, ev_congr h2]
  | ixA n m g x i => obtain ⟨h1, h2⟩ := l1 h; simp only [apure, ev_congr h1, ev_congr h2]
  | ixS x i => obtain ⟨h1, h2⟩ := l1 h; simp only [apure, ev_congr h1, ev_congr h2]
  | ext k x => simp only [apure, ev_congr h]
  | len s x => cases s <;> simp only [apure, ev_congr h]
  | max x y => obtain ⟨h1, h2⟩ := l1 h; simp only [apure, ev_congr h1, ev_congr h2]
  | _ => rfl

theorem aexec_congr {C : CallF} {d site ver : Nat} {st : St} {σ τ : Sl} {op : AOp} (h : ∀ t ∈ op.rd, σ t = τ t) : aexec C d site ver σ st op = aexec C d site ver τ st op := by
  have l1 : ∀ {a b : List Nat}, (∀ t ∈ a ++ b, σ t = τ t) → (∀ t ∈ a, σ t = τ t) ∧ (∀ t ∈ b, σ t = τ t) := fun h => ⟨fun t ht => h t (List.mem_append.2 (.inl ht)), fun t ht => h t (List.mem_append.2 (.inr ht))⟩
  cases op with
  | load n g x => simp only [aexec, ev_congr h]
  | store n x y => obtain ⟨h1, h2⟩ := l1 h; simp only [aexec, ev_congr h1, ev_congr h2]
  | box n x => simp only [aexec, ev_congr h]
  | mks z b x y => obtain ⟨h1, h2⟩ := l1 h; simp only [aexec, ev_congr h1, ev_congr h2]
  | slA n m x lo hi =>
    obtain ⟨h1, h2⟩ := l1 h
    obtain ⟨h3, h4⟩ := l1 h1
    simp only [aexec, ev_congr h3, bnds_congr h4 h2]
  | app n b x y => obtain ⟨h1, h2⟩ := l1 h; simp only [aexec, ev_congr h1, ev_congr h2]
  | appS x y => obtain ⟨h1, h2⟩ := l1 h; simp only [aexec, ev_congr h1, ev_congr h2]
  | call p f l => cases p <;> simp only [aexec, evs_congr h]
  | callv f l => obtain ⟨h1, h2⟩ := l1 h; simp only [aexec, ev_congr h1, evs_congr h2]
  | _ => simp only [aexec, apure_congr h]

/-- What of the state an operation looks at, or turns. -/
inductive Cls where
  | none | ld | box | frz | own | all
  deriving DecidableEq

def AOp.cls : AOp → Cls
  | .load _ _ _ => .ld
  | .store _ _ _ | .box _ _ => .box
  | .slA _ _ _ _ _ => .frz
  | .app _ _ _ _ | .appS _ _ => .own
  | .call true _ _ | .callv _ _ => .all
  | _ => .none

def AI.rd (o : AI) : List Nat := o.op.rd ++ (match o.guard with | some (t, _) => [t] | none => [])

/-- May the second go ahead of the first (which stands in front of it in the text)? -/
def clsOk : Cls → Cls → Bool
  | .none, _ | _, .none => true
  | .ld, .ld => true
  | .frz, .ld => true
  | .own, .ld | .own, .box | .own, .frz | .ld, .own | .box, .own | .frz, .own => true
  | _, _ => false

def slotsOk (x y : AI) : Bool :=
  (match x.dst with | some d => !y.rd.contains d && y.dst != some d | none => true) && (match y.dst with | some d => !x.rd.contains d | none => true)

def commOk (x y : AI) : Bool := clsOk x.op.cls y.op.cls && slotsOk x y

/-- The parts of the state that an operation of some class hands on. -/
theorem aexec_none {C : CallF} {d site ver : Nat} {σ : Sl} {st : St} {op : AOp} (hc : op.cls = .none) {v : AV} {st1 : St} (h : aexec C d site ver σ st op = some (v, st1)) : st1 = st ∧ ∀ st2, aexec C d site ver σ st2 op = some (v, st2) := by
  have pure : ∀ {op : AOp}, (∀ st, aexec C d site ver σ st op = (apure (d, site) ver σ op).map (·, st)) → aexec C d site ver σ st op = some (v, st1) → st1 = st ∧ ∀ st2, aexec C d site ver σ st2 op = some (v, st2) := by
    intro op he h
    rw [he] at h
    simp only [Option.map_eq_some_iff, Prod.mk.injEq] at h
    obtain ⟨x, h1, rfl, rfl⟩ := h
    exact ⟨rfl, fun st2 => by rw [he, h1]; rfl⟩
  cases op with
  | load => cases hc
  | store => cases hc
  | box => cases hc
  | slA => cases hc
  | app => cases hc
  | appS => cases hc
  | callv => cases hc
  | call p f l =>
    cases p with
    | true => cases hc
    | false =>
      simp only [aexec] at h ⊢
      split at h
      · split at h
        · simp only [Option.map_eq_some_iff, Prod.mk.injEq] at h
          obtain ⟨x, h1, rfl, rfl⟩ := h
          exact ⟨rfl, fun st2 => by simp [h1]⟩
        · cases h
      · cases h
  | mks z b l c =>
    simp only [aexec] at h ⊢
    split at h
    · split at h
      · split at h
        · rename_i hcond; cases h; exact ⟨rfl, fun st2 => by rw [if_pos hcond]⟩
        · cases h
      · cases h
    · cases h
  | _ => exact pure (fun st => rfl) h

theorem aexec_ld {C : CallF} {d site ver : Nat} {σ : Sl} {st : St} {op : AOp} (hc : op.cls = .ld) {v : AV} {st1 : St} (h : aexec C d site ver σ st op = some (v, st1)) : st1 = st ∧ ∀ st2, st2.bx = st.bx → aexec C d site ver σ st2 op = some (v, st2) := by
  cases op with
  | load n g x =>
    simp only [aexec, Option.map_eq_some_iff, Prod.mk.injEq] at h ⊢
    obtain ⟨x', h1, rfl, rfl⟩ := h
    refine ⟨rfl, fun st2 hb => ⟨x', ?_, rfl, trivial⟩⟩
    unfold aload at h1 ⊢
    rw [hb]
    exact h1
  | call p => cases p <;> cases hc
  | _ => cases hc

theorem aexec_box {C : CallF} {d site ver : Nat} {σ : Sl} {st : St} {op : AOp} (hc : op.cls = .box ∨ op.cls = .frz) {v : AV} {st1 : St} (h : aexec C d site ver σ st op = some (v, st1)) :
    ∃ bx', st1 = { st with bx := bx' } ∧ ∀ st2, st2.bx = st.bx → aexec C d site ver σ st2 op = some (v, { st2 with bx := bx' }) := by
  cases op with
  | store n x y =>
    simp only [aexec, Option.map_eq_some_iff, Prod.mk.injEq] at h ⊢
    obtain ⟨s', h1, rfl, rfl⟩ := h
    unfold astore at h1
    split at h1
    · rename_i k v o hx
      split at h1
      · rename_i v' cs hlk
        split at h1
        · rename_i hcond
          cases h1
          refine ⟨_, rfl, fun st2 hb => ⟨_, ?_, rfl, rfl⟩⟩
          unfold astore
          simp only [hx, hb, hlk]
          rw [if_pos hcond]
        · cases h1
      · cases h1
    · cases h1
  | box n x =>
    simp only [aexec] at h ⊢
    split at h
    · rename_i hcond
      cases h
      exact ⟨_, rfl, fun st2 hb => by rw [if_pos hcond, hb]⟩
    · cases h
  | slA n m x lo hi =>
    simp only [aexec] at h ⊢
    split at h
    · rename_i k v o hx
      split at h
      · rename_i v' cs hlk
        split at h
        · rename_i hcond
          split at h
          · rename_i cs' hs
            simp only [Option.map_eq_some_iff, Prod.exists, Prod.mk.injEq] at h
            obtain ⟨a, b, hb, rfl, rfl⟩ := h
            exact ⟨_, rfl, fun st2 hb2 => by simp only [hb2, hlk, hs, hb]; rw [if_pos hcond]; rfl⟩
          · cases h
        · cases h
      · cases h
    · cases h
  | call p => cases p <;> rcases hc with hc | hc <;> cases hc
  | _ => rcases hc with hc | hc <;> cases hc

theorem aexec_own {C : CallF} {d site ver : Nat} {σ : Sl} {st : St} {op : AOp} (hc : op.cls = .own) {v : AV} {st1 : St} (h : aexec C d site ver σ st op = some (v, st1)) :
    ∃ ow', st1 = { st with ow := ow' } ∧ ∀ st2, st2.ow = st.ow → aexec C d site ver σ st2 op = some (v, { st2 with ow := ow' }) := by
  have key : ∀ {size bytes : Nat} {s : AV} {news : List (List AV)}, aapp (d, site) ver size bytes s news st = some (v, st1) → ∃ ow', st1 = { st with ow := ow' } ∧ ∀ st2, st2.ow = st.ow → aapp (d, site) ver size bytes s news st2 = some (v, { st2 with ow := ow' }) := by
    intro size bytes s news h
    unfold aapp at h
    split at h
    · rename_i o rows
      split at h
      · rename_i hcond
        split at h
        · rename_i hem
          cases h
          refine ⟨st.ow, rfl, fun st2 hb => ?_⟩
          unfold aapp
          simp only []
          rw [if_pos hcond, if_pos hem, ← hb]
        · rename_i hem
          split at h
          · cases h
          · cases h
            refine ⟨_, rfl, fun st2 hb => ?_⟩
            unfold aapp
            simp only []
            rw [if_pos hcond, if_neg hem, hb]
          · rename_i k v'
            split at h
            · rename_i v2 n hlk
              split at h
              · rename_i hc2
                cases h
                refine ⟨_, rfl, fun st2 hb => ?_⟩
                unfold aapp
                simp only [hb, hlk]
                rw [if_pos hcond, if_neg hem, if_pos hc2]
              · cases h
            · cases h
      · cases h
    · cases h
  cases op with
  | app n b x y =>
    simp only [aexec] at h ⊢
    split at h
    · exact key h
    · cases h
  | appS x y =>
    simp only [aexec] at h ⊢
    split at h
    · exact key h
    · cases h
  | call p => cases p <;> cases hc
  | _ => cases hc


theorem updO_comm {σ : Sl} {d e : Option Nat} (v y : AV) (h : ∀ t, d = some t → e ≠ some t) : updO (updO σ d v) e y = updO (updO σ e y) d v := by
  cases d with
  | none => rfl
  | some d =>
    cases e with
    | none => rfl
    | some e =>
      have hne : d ≠ e := fun he => h d rfl (by rw [he])
      funext t
      simp only [updO, upd]
      by_cases h1 : t = d
      · subst h1; rw [if_neg (fun he => hne he), if_pos rfl]; simp
      · by_cases h2 : t = e
        · subst h2; simp [h1]
        · simp [h1, h2]

theorem updO_other {σ : Sl} {d : Option Nat} {v : AV} {t : Nat} (h : d ≠ some t) : updO σ d v t = σ t := by
  cases d with
  | none => rfl
  | some d => simp only [updO, upd]; rw [if_neg (fun he => h (by rw [he]))]

/-- What one step does: it is skipped, or run. -/
theorem aai_inv {C : CallF} {d site ver : Nat} {o : AI} {σ σ1 : Sl} {st st1 : St} (h : aai C d site ver o σ st = some (σ1, st1)) :
    ∃ v, σ1 = updO σ o.dst v ∧ ((aexec C d site ver σ st o.op = some (v, st1) ∧ ∀ τ st2 v2 st3, (∀ t ∈ o.rd, σ t = τ t) → aexec C d site ver τ st2 o.op = some (v2, st3) → aai C d site ver o τ st2 = some (updO τ o.dst v2, st3)) ∨
      (st1 = st ∧ ∀ τ st2, (∀ t ∈ o.rd, σ t = τ t) → aai C d site ver o τ st2 = some (updO τ o.dst v, st2))) := by
  unfold aai at h
  split at h
  · rename_i hg
    simp only [Option.map_eq_some_iff, Prod.exists, Prod.mk.injEq] at h
    obtain ⟨v, st', h1, rfl, rfl⟩ := h
    refine ⟨v, rfl, .inl ⟨h1, fun τ st2 v2 st3 _ he => ?_⟩⟩
    unfold aai
    rw [hg]
    simp only [he, Option.map_some]
  · rename_i t w hg
    have ht : t ∈ o.rd := by unfold AI.rd; rw [hg]; simp
    split at h
    · rename_i x hx
      split at h
      · rename_i hxw
        simp only [Option.map_eq_some_iff, Prod.exists, Prod.mk.injEq] at h
        obtain ⟨v, st', h1, rfl, rfl⟩ := h
        refine ⟨v, rfl, .inl ⟨h1, fun τ st2 v2 st3 hτ he => ?_⟩⟩
        unfold aai
        rw [hg]
        have : τ t = .b x := by rw [← hτ t ht]; exact hx
        simp only [this, if_pos hxw, he, Option.map_some]
      · rename_i hxw
        cases h
        refine ⟨.tup [], rfl, .inr ⟨rfl, fun τ st2 hτ => ?_⟩⟩
        unfold aai
        rw [hg]
        have : τ t = .b x := by rw [← hτ t ht]; exact hx
        simp only [this, if_neg hxw]
    · rename_i hx
      cases h
      refine ⟨.tup [], rfl, .inr ⟨rfl, fun τ st2 hτ => ?_⟩⟩
      unfold aai
      rw [hg]
      have : τ t = .tup [] := by rw [← hτ t ht]; exact hx
      simp only [this]
    · cases h

theorem slots_inv {x y : AI} (h : slotsOk x y = true) : (∀ t, x.dst = some t → t ∉ y.rd ∧ y.dst ≠ some t) ∧ (∀ t, y.dst = some t → t ∉ x.rd) := by
  unfold slotsOk at h
  rw [Bool.and_eq_true] at h
  constructor
  · intro t ht
    have h1 := h.1
    rw [ht] at h1
    simp only [Bool.and_eq_true, Bool.not_eq_true', bne_iff_ne, ne_eq] at h1
    exact ⟨fun hm => (by have := List.contains_iff_mem.2 hm; rw [h1.1] at this; cases this), h1.2⟩
  · intro t ht
    have h1 := h.2
    rw [ht] at h1
    simp only [Bool.not_eq_true'] at h1
    intro hm
    have := List.contains_iff_mem.2 hm
    rw [h1] at this
    cases this

/-- The second goes ahead of the first. -/
theorem swap {C : CallF} {d s1 v1 s2 v2 : Nat} {x y : AI} (hk : commOk x y = true) {σ σ1 σ2 : Sl} {st st1 st2 : St} (h1 : aai C d s1 v1 x σ st = some (σ1, st1)) (h2 : aai C d s2 v2 y σ1 st1 = some (σ2, st2)) :
    ∃ τ1 tt1, aai C d s2 v2 y σ st = some (τ1, tt1) ∧ aai C d s1 v1 x τ1 tt1 = some (σ2, st2) := by
  unfold commOk at hk
  rw [Bool.and_eq_true] at hk
  obtain ⟨hcls, hsl⟩ := hk
  obtain ⟨hx, hy⟩ := slots_inv hsl
  obtain ⟨vx, rfl, ax⟩ := aai_inv h1
  obtain ⟨vy, rfl, ay⟩ := aai_inv h2
  have cy : ∀ t ∈ y.rd, updO σ x.dst vx t = σ t := fun t ht => updO_other (fun he => (hx t he).1 ht)
  have cx : ∀ u : AV, ∀ t ∈ x.rd, σ t = updO σ y.dst u t := fun u t ht => (updO_other (fun he => hy t he ht)).symm
  have cyop : ∀ t ∈ y.op.rd, updO σ x.dst vx t = σ t := fun t ht => cy t (by unfold AI.rd; simp [ht])
  have cxop : ∀ u : AV, ∀ t ∈ x.op.rd, σ t = updO σ y.dst u t := fun u t ht => cx u t (by unfold AI.rd; simp [ht])
  have hcomm : updO (updO σ x.dst vx) y.dst vy = updO (updO σ y.dst vy) x.dst vx := updO_comm _ _ (fun t ht => (hx t ht).2)
  rw [hcomm]
  -- each of the two steps, at another state
  rcases ax with ⟨ax, ax'⟩ | ⟨rfl, ax'⟩
  · rcases ay with ⟨ay, ay'⟩ | ⟨rfl, ay'⟩
    · rw [aexec_congr cyop] at ay
      have goY : ∀ {sta stb : St}, aexec C d s2 v2 σ sta y.op = some (vy, stb) → aai C d s2 v2 y σ sta = some (updO σ y.dst vy, stb) := fun he => ay' σ _ vy _ cy he
      have goX : ∀ {sta stb : St}, aexec C d s1 v1 σ sta x.op = some (vx, stb) → aai C d s1 v1 x (updO σ y.dst vy) sta = some (updO (updO σ y.dst vy) x.dst vx, stb) := fun he => ax' _ _ vx _ (cx vy) (by rw [← aexec_congr (cxop vy)]; exact he)
      cases hcx : x.op.cls with
      | none =>
        obtain ⟨rfl, e1⟩ := aexec_none hcx ax
        exact ⟨_, _, goY ay, goX (e1 _)⟩
      | ld =>
        obtain ⟨rfl, e1⟩ := aexec_ld hcx ax
        cases hcy : y.op.cls with
        | none => obtain ⟨rfl, _⟩ := aexec_none hcy ay; exact ⟨_, _, goY ay, goX ax⟩
        | ld => obtain ⟨rfl, _⟩ := aexec_ld hcy ay; exact ⟨_, _, goY ay, goX ax⟩
        | own => obtain ⟨ow', rfl, _⟩ := aexec_own hcy ay; exact ⟨_, _, goY ay, goX (e1 _ rfl)⟩
        | box => rw [hcx, hcy] at hcls; cases hcls
        | frz => rw [hcx, hcy] at hcls; cases hcls
        | all => rw [hcx, hcy] at hcls; cases hcls
      | box =>
        obtain ⟨bx', rfl, e1⟩ := aexec_box (.inl hcx) ax
        cases hcy : y.op.cls with
        | none => obtain ⟨rfl, e2⟩ := aexec_none hcy ay; exact ⟨_, _, goY (e2 _), goX ax⟩
        | own =>
          obtain ⟨ow', rfl, e2⟩ := aexec_own hcy ay
          exact ⟨_, _, goY (e2 st rfl), goX (e1 { st with ow := ow' } rfl)⟩
        | ld => rw [hcx, hcy] at hcls; cases hcls
        | box => rw [hcx, hcy] at hcls; cases hcls
        | frz => rw [hcx, hcy] at hcls; cases hcls
        | all => rw [hcx, hcy] at hcls; cases hcls
      | frz =>
        obtain ⟨bx', rfl, e1⟩ := aexec_box (.inr hcx) ax
        cases hcy : y.op.cls with
        | none => obtain ⟨rfl, e2⟩ := aexec_none hcy ay; exact ⟨_, _, goY (e2 _), goX ax⟩
        | own =>
          obtain ⟨ow', rfl, e2⟩ := aexec_own hcy ay
          exact ⟨_, _, goY (e2 st rfl), goX (e1 { st with ow := ow' } rfl)⟩
        | ld =>
          -- a box less: what is read there is read before too
          cases hop : y.op with
          | load n g a =>
            rw [hop] at ay
            simp only [aexec, Option.map_eq_some_iff, Prod.mk.injEq] at ay
            obtain ⟨v', ay, rfl, rfl⟩ := ay
            have hload : aload st n g (a.ev σ) = some v' := by
              unfold aload at ay ⊢
              split at ay
              · exact ay
              · rename_i k ver o hp
                cases hxo : x.op with
                | slA n1 m1 x1 lo hi =>
                  rw [hxo] at ax
                  simp only [aexec] at ax
                  split at ax
                  · rename_i k1 ver1 o1 hp1
                    split at ax
                    · rename_i ver2 cs1 hlk
                      split at ax
                      · split at ax
                        · simp only [Option.map_eq_some_iff, Prod.exists, Prod.mk.injEq] at ax
                          obtain ⟨_, _, _, _, hst⟩ := ax
                          have hbx : bx' = del st.bx k1 := by injection hst with _ h2 _; exact h2.symm
                          subst hbx
                          simp only [] at ay
                          by_cases hkk : k = k1
                          · subst hkk
                            have : lk (del st.bx k) k = none := by
                              unfold del
                              have hf : ∀ l : List (Key × Nat × List AV), lk (l.filter fun x => decide (x.1 ≠ k)) k = none := by
                                intro l
                                induction l with
                                | nil => rfl
                                | cons z r ih =>
                                  obtain ⟨k2, z⟩ := z
                                  simp only [List.filter_cons]
                                  split
                                  · rename_i hne
                                    simp only [decide_eq_true_eq] at hne
                                    simp only [lk, if_neg hne, ih]
                                  · exact ih
                              exact hf _
                            rw [this] at ay
                            cases ay
                          · have : lk (del st.bx k1) k = lk st.bx k := by
                              unfold del
                              have hf : ∀ l : List (Key × Nat × List AV), lk (l.filter fun x => decide (x.1 ≠ k1)) k = lk l k := by
                                intro l
                                induction l with
                                | nil => rfl
                                | cons z r ih =>
                                  obtain ⟨k2, z⟩ := z
                                  simp only [List.filter_cons]
                                  split
                                  · simp only [lk, ih]
                                  · rename_i hne
                                    simp only [decide_eq_true_eq, ne_eq, Decidable.not_not] at hne
                                    subst hne
                                    rw [ih]
                                    simp only [lk]
                                    rw [if_neg (fun e => hkk e.symm)]
                              exact hf _
                            rw [this] at ay
                            exact ay
                        · cases ax
                      · cases ax
                    · cases ax
                  · cases ax
                | call p f l => rw [hxo] at hcx; cases p <;> cases hcx
                | _ => rw [hxo] at hcx; cases hcx
              · cases ay
            have : aexec C d s2 v2 σ st y.op = some (v', st) := by rw [hop]; simp only [aexec, hload, Option.map_some]
            exact ⟨_, _, goY this, goX (e1 _ rfl)⟩
          | call p f l => rw [hop] at hcy; cases p <;> cases hcy
          | _ => rw [hop] at hcy; cases hcy
        | box => rw [hcx, hcy] at hcls; cases hcls
        | frz => rw [hcx, hcy] at hcls; cases hcls
        | all => rw [hcx, hcy] at hcls; cases hcls
      | own =>
        obtain ⟨ow', rfl, e1⟩ := aexec_own hcx ax
        cases hcy : y.op.cls with
        | none => obtain ⟨rfl, e2⟩ := aexec_none hcy ay; exact ⟨_, _, goY (e2 _), goX ax⟩
        | ld =>
          obtain ⟨rfl, e2⟩ := aexec_ld hcy ay
          exact ⟨_, _, goY (e2 st rfl), goX ax⟩
        | box =>
          obtain ⟨bx', rfl, e2⟩ := aexec_box (.inl hcy) ay
          exact ⟨_, _, goY (e2 st rfl), goX (e1 { st with bx := bx' } rfl)⟩
        | frz =>
          obtain ⟨bx', rfl, e2⟩ := aexec_box (.inr hcy) ay
          exact ⟨_, _, goY (e2 st rfl), goX (e1 { st with bx := bx' } rfl)⟩
        | own => rw [hcx, hcy] at hcls; cases hcls
        | all => rw [hcx, hcy] at hcls; cases hcls
      | all =>
        cases hcy : y.op.cls with
        | none => obtain ⟨rfl, e2⟩ := aexec_none hcy ay; exact ⟨_, _, goY (e2 _), goX ax⟩
        | ld => rw [hcx, hcy] at hcls; cases hcls
        | own => rw [hcx, hcy] at hcls; cases hcls
        | box => rw [hcx, hcy] at hcls; cases hcls
        | frz => rw [hcx, hcy] at hcls; cases hcls
        | all => rw [hcx, hcy] at hcls; cases hcls
    · exact ⟨_, _, ay' σ st cy, ax' _ _ vx _ (cx vy) (by rw [← aexec_congr (cxop vy)]; exact ax)⟩
  · rcases ay with ⟨ay, ay'⟩ | ⟨rfl, ay'⟩
    · rw [aexec_congr cyop] at ay
      exact ⟨_, _, ay' σ _ vy _ cy ay, ax' _ _ (cx vy)⟩
    · exact ⟨_, _, ay' σ _ cy, ax' _ _ (cx vy)⟩

/-- One operation goes ahead of several. -/
theorem ahead {C : CallF} {d id base : Nat} {ops : List AI} {i : Nat} {y : AI} (hi : ops[i]? = some y) {post : List Nat} : ∀ (pre : List Nat) (_ : ∀ j ∈ pre, ∀ x, ops[j]? = some x → commOk x y = true) {σ σ2 : Sl} {st st2 : St},
    aregO C d id base ops (pre ++ i :: post) σ st = some (σ2, st2) → aregO C d id base ops (i :: (pre ++ post)) σ st = some (σ2, st2)
  | [], _, σ, σ2, st, st2, h => h
  | j :: pre, hp, σ, σ2, st, st2, h => by
    simp only [List.cons_append, aregO] at h ⊢
    cases hj : ops[j]? with
    | none =>
      simp only [hj] at h ⊢
      have := ahead hi pre (fun j' hj' => hp j' (by simp [hj'])) h
      simpa only [aregO, hj] using this
    | some x =>
      simp only [hj] at h
      split at h
      · rename_i σ1 st1 h1
        have h3 := ahead hi pre (fun j' hj' => hp j' (by simp [hj'])) h
        simp only [aregO, hi] at h3
        split at h3
        · rename_i σ3 st3 h4
          obtain ⟨τ1, tt1, h5, h6⟩ := swap (hp j (by simp) x hj) h1 h4
          simp only [hi, h5, hj, h6]
          exact h3
        · cases h3
      · cases h

end Go.AM
