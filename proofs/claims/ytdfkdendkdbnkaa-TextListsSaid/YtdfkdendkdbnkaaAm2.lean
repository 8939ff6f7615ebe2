/- What a value of the abstract machine says of a value of the model; what its state says of a world. -/
import Derived.Test.YtdfkdendkdbnkaaAm1
set_option linter.all false
namespace Go.AM
open Go Go.RowKit

abbrev Hp := Nat → Nat → Option Value

inductive Fz (H : Hp) : AV → Value → Prop
  | i (k : IntKind) (n : Int) : Fz H (.i k n) (.int k n)
  | b (x : Bool) : Fz H (.b x) (.bool x)
  | s (l : List UInt8) : Fz H (.s l) (.string ⟨l.toArray⟩)
  | sl (rows : List (List AV)) (A : Option Addr) (cap size g off : Nat) (us : Nat → Nat → Value)
      (hA : rows ≠ [] → A = some ⟨g, off, none⟩) (hcap : rows.length ≤ cap)
      (hs : ∀ (i : Nat) row, rows[i]? = some row → row.length = size)
      (hH : ∀ (i : Nat) row (j : Nat) a, rows[i]? = some row → row[j]? = some a → H g (off + i * size + j) = some (us i j))
      (hF : ∀ (i : Nat) row (j : Nat) a, rows[i]? = some row → row[j]? = some a → Fz H a (us i j)) :
      Fz H (.sl .ext rows) (.slice A rows.length cap)
  | np : Fz H .np (.pointer none)
  | nf : Fz H .nf .nilFunc
  | ni : Fz H .ni .nilIface
  | u (v : Value) : Fz H .u v

structure Gh where
  H : Hp
  ρ : Key → Nat → Option Nat
  ω : Key → Nat → Option (Nat × Nat × Nat)
  fm : Nat → Option Nat

def OwnOk (G : Gh) (o : Own) (A : Option Addr) (n cap : Nat) (rows : List (List AV)) : Prop :=
  match o with
  | .ext => True
  | .full => cap = n ∧ (A = none ∨ ∃ g, A = some ⟨g, 0, none⟩)
  | .id k ver => ∃ g size, G.ω k ver = some (g, cap, size) ∧ A = some ⟨g, 0, none⟩ ∧ ∀ (i : Nat) row, rows[i]? = some row → row.length = size ∧ (∀ (j : Nat) a, row[j]? = some a → ∃ v, G.H g (i * size + j) = some v)

inductive R (G : Gh) : AV → Value → Prop
  | fz (a : AV) (v : Value) (h : Fz G.H a v) : R G a v
  | sl (o : Own) (rows : List (List AV)) (A : Option Addr) (n cap : Nat) (h : Fz G.H (.sl .ext rows) (.slice A n cap)) (ho : OwnOk G o A n cap rows) : R G (.sl o rows) (.slice A n cap)
  | p (k : Key) (ver off g : Nat) (h : G.ρ k ver = some g) : R G (.p k ver off) (.pointer (some ⟨g, off, none⟩))
  | fp (cs : List AV) (us : Nat → Value) (g off : Nat) (hH : ∀ (j : Nat) a, cs[j]? = some a → G.H g (off + j) = some (us j)) (hF : ∀ (j : Nat) a, cs[j]? = some a → Fz G.H a (us j)) : R G (.fp cs) (.pointer (some ⟨g, off, none⟩))
  | ag (cs : List AV) (us : List Value) (hl : cs.length = us.length) (hR : ∀ (j : Nat) a u, cs[j]? = some a → us[j]? = some u → R G a u) : R G (.ag cs) (.agg us.toArray)
  | tup (cs : List AV) (us : List Value) (hl : cs.length = us.length) (hR : ∀ (j : Nat) a u, cs[j]? = some a → us[j]? = some u → R G a u) : R G (.tup cs) (.tuple us.toArray)
  | fn (c f : Nat) (hf : G.fm f = some c) (cs : List AV) (us : List Value) (hl : cs.length = us.length) (hR : ∀ (j : Nat) a u, cs[j]? = some a → us[j]? = some u → R G a u) : R G (.fn c cs) (.func (.func f) #[] us.toArray)

def Rs (G : Gh) (cs : List AV) (us : List Value) : Prop := cs.length = us.length ∧ ∀ (j : Nat) a u, cs[j]? = some a → us[j]? = some u → R G a u

def HLe (H H' : Hp) : Prop := ∀ g o v, H g o = some v → H' g o = some v

structure Gh.Le (G G' : Gh) : Prop where
  H : HLe G.H G'.H
  ρ : ∀ k v g, G.ρ k v = some g → G'.ρ k v = some g
  ω : ∀ k v g, G.ω k v = some g → G'.ω k v = some g
  fm : G'.fm = G.fm

theorem Gh.Le.refl (G : Gh) : G.Le G := ⟨fun _ _ _ h => h, fun _ _ _ h => h, fun _ _ _ h => h, rfl⟩
theorem Gh.Le.trans {A B C : Gh} (h : A.Le B) (k : B.Le C) : A.Le C :=
  ⟨fun _ _ _ x => k.H _ _ _ (h.H _ _ _ x), fun _ _ _ x => k.ρ _ _ _ (h.ρ _ _ _ x), fun _ _ _ x => k.ω _ _ _ (h.ω _ _ _ x), k.fm.trans h.fm⟩

theorem Fz.mono {H H' : Hp} (hh : HLe H H') {a : AV} {v : Value} (h : Fz H a v) : Fz H' a v := by
  induction h with
  | i k n => exact .i k n
  | b x => exact .b x
  | s l => exact .s l
  | sl rows A cap size g off us hA hcap hs hH _ ih => exact .sl rows A cap size g off us hA hcap hs (fun i row j a h1 h2 => hh _ _ _ (hH i row j a h1 h2)) ih
  | np => exact .np
  | nf => exact .nf
  | ni => exact .ni
  | u v => exact .u v

theorem OwnOk.mono {G G' : Gh} (hg : G.Le G') {o : Own} {A : Option Addr} {n cap : Nat} {rows : List (List AV)} (h : OwnOk G o A n cap rows) : OwnOk G' o A n cap rows := by
  cases o with
  | ext => trivial
  | full => exact h
  | id k ver =>
    obtain ⟨g, size, h1, h2, h3⟩ := h
    refine ⟨g, size, hg.ω _ _ _ h1, h2, fun i row hr => ⟨(h3 i row hr).1, fun j a ha => ?_⟩⟩
    obtain ⟨v, hv⟩ := (h3 i row hr).2 j a ha
    exact ⟨v, hg.H _ _ _ hv⟩

theorem R.mono {G G' : Gh} (hg : G.Le G') {a : AV} {v : Value} (h : R G a v) : R G' a v := by
  induction h with
  | fz a v h => exact .fz a v (h.mono hg.H)
  | sl o rows A n cap h ho => exact .sl o rows A n cap (h.mono hg.H) (ho.mono hg)
  | p k ver off g h => exact .p k ver off g (hg.ρ _ _ _ h)
  | fp cs us g off hH hF => exact .fp cs us g off (fun j a h => hg.H _ _ _ (hH j a h)) (fun j a h => (hF j a h).mono hg.H)
  | ag cs us hl _ ih => exact .ag cs us hl ih
  | tup cs us hl _ ih => exact .tup cs us hl ih
  | fn c f hf cs us hl _ ih => exact .fn c f (by rw [hg.fm]; exact hf) cs us hl ih

theorem Rs.mono {G G' : Gh} (hg : G.Le G') {a : List AV} {v : List Value} (h : Rs G a v) : Rs G' a v := ⟨h.1, fun j a u h1 h2 => (h.2 j a u h1 h2).mono hg⟩

/-! ### What a value's form says -/
section
variable {G : Gh} {v : Value}
theorem R.int_inv {k : IntKind} {n : Int} (h : R G (.i k n) v) : v = .int k n := by cases h with | fz _ _ h => cases h; rfl
theorem R.bool_inv {x : Bool} (h : R G (.b x) v) : v = .bool x := by cases h with | fz _ _ h => cases h; rfl
theorem R.str_inv {l : List UInt8} (h : R G (.s l) v) : v = .string ⟨l.toArray⟩ := by cases h with | fz _ _ h => cases h; rfl
theorem R.np_inv (h : R G .np v) : v = .pointer none := by cases h with | fz _ _ h => cases h; rfl
theorem R.nf_inv (h : R G .nf v) : v = .nilFunc := by cases h with | fz _ _ h => cases h; rfl
theorem R.ni_inv (h : R G .ni v) : v = .nilIface := by cases h with | fz _ _ h => cases h; rfl
theorem R.sl_inv {o : Own} {rows : List (List AV)} (h : R G (.sl o rows) v) : ∃ A cap, v = .slice A rows.length cap ∧ Fz G.H (.sl .ext rows) (.slice A rows.length cap) ∧ OwnOk G o A rows.length cap rows := by
  cases h with
  | fz _ _ h => cases h with | sl _ A cap size g off us hA hcap hs hH hF => exact ⟨A, cap, rfl, .sl rows A cap size g off us hA hcap hs hH hF, trivial⟩
  | sl _ _ A n cap h ho =>
    have hn : n = rows.length := by cases h; rfl
    subst hn
    exact ⟨A, cap, rfl, h, ho⟩
theorem R.p_inv {k : Key} {ver off : Nat} (h : R G (.p k ver off) v) : ∃ g, v = .pointer (some ⟨g, off, none⟩) ∧ G.ρ k ver = some g := by
  cases h with
  | fz _ _ h => cases h
  | p _ _ _ g h => exact ⟨g, rfl, h⟩
theorem R.fp_inv {cs : List AV} (h : R G (.fp cs) v) : ∃ g off, ∃ us : Nat → Value, v = .pointer (some ⟨g, off, none⟩) ∧ (∀ (j : Nat) a, cs[j]? = some a → G.H g (off + j) = some (us j)) ∧ (∀ (j : Nat) a, cs[j]? = some a → Fz G.H a (us j)) := by
  cases h with
  | fz _ _ h => cases h
  | fp _ us g off hH hF => exact ⟨g, off, us, rfl, hH, hF⟩
theorem R.ag_inv {cs : List AV} (h : R G (.ag cs) v) : ∃ us, v = .agg us.toArray ∧ Rs G cs us := by
  cases h with
  | fz _ _ h => cases h
  | ag _ us hl hR => exact ⟨us, rfl, hl, hR⟩
theorem R.tup_inv {cs : List AV} (h : R G (.tup cs) v) : ∃ us, v = .tuple us.toArray ∧ Rs G cs us := by
  cases h with
  | fz _ _ h => cases h
  | tup _ us hl hR => exact ⟨us, rfl, hl, hR⟩
theorem R.fn_inv {c : Nat} {cs : List AV} (h : R G (.fn c cs) v) : ∃ f us, G.fm f = some c ∧ v = .func (.func f) #[] us.toArray ∧ Rs G cs us := by
  cases h with
  | fz _ _ h => cases h
  | fn _ f hf _ us hl hR => exact ⟨f, us, hf, rfl, hl, hR⟩
theorem R.one {a : AV} (h : R G a v) (h1 : a.one = true) : v.oneCell' = true := by
  cases h with
  | fz _ _ h => cases h <;> first | rfl | simp [AV.one] at h1
  | sl => rfl
  | p => rfl
  | fp => rfl
  | ag => simp [AV.one] at h1
  | tup => simp [AV.one] at h1
  | fn => rfl
theorem R.und : R G (.tup []) Go.undef := .tup [] [] rfl (by simp)
theorem R.tup0_inv (h : R G (.tup []) v) : v = Go.undef := by
  obtain ⟨us, rfl, hl, _⟩ := h.tup_inv
  cases us with
  | nil => rfl
  | cons => simp at hl
end

/-- The cells of a value. -/
theorem R.cells {G : Gh} {a : AV} {v : Value} (h : R G a v) (hu : a.cells.all AV.one = true) : ∃ us : List Value, v.cells = us.toArray ∧ Rs G a.cells us ∧ us.length = a.cells.length ∧ (∀ x ∈ us, x.oneCell' = true) := by
  have single : ∀ {a : AV}, a.cells = [a] → R G a v → a.one = true → v.cells = #[v] → ∃ us : List Value, v.cells = us.toArray ∧ Rs G a.cells us ∧ us.length = a.cells.length ∧ (∀ x ∈ us, x.oneCell' = true) := by
    intro a hc h h1 hv
    refine ⟨[v], hv, ?_, by rw [hc]; rfl, ?_⟩
    · rw [hc]
      refine ⟨rfl, fun j a' u h1 h2 => ?_⟩
      cases j with
      | zero => simp at h1 h2; subst h1; subst h2; exact h
      | succ j => simp at h1
    · intro x hx
      simp at hx
      subst hx
      exact h.one h1
  cases a with
  | ag cs =>
    obtain ⟨us, rfl, hr⟩ := h.ag_inv
    refine ⟨us, rfl, hr, hr.1.symm, fun x hx => ?_⟩
    obtain ⟨j, hj, rfl⟩ := List.getElem_of_mem hx
    have hj' : j < cs.length := by rw [hr.1]; exact hj
    have h2 := hr.2 j cs[j] us[j] (List.getElem?_eq_getElem hj') (List.getElem?_eq_getElem hj)
    exact h2.one (by simp only [AV.cells, List.all_eq_true] at hu; exact hu _ (List.getElem_mem hj'))
  | tup cs => simp [AV.cells, AV.one] at hu
  | u => simp [AV.cells, AV.one] at hu
  | i k n => exact single rfl h rfl (by rw [h.int_inv]; rfl)
  | b x => exact single rfl h rfl (by rw [h.bool_inv]; rfl)
  | s l => exact single rfl h rfl (by rw [h.str_inv]; rfl)
  | sl o rows => exact single rfl h rfl (by obtain ⟨A, cap, rfl, _⟩ := h.sl_inv; rfl)
  | p k ver off => exact single rfl h rfl (by obtain ⟨g, rfl, _⟩ := h.p_inv; rfl)
  | fp cs => exact single rfl h rfl (by obtain ⟨g, off, us, rfl, _⟩ := h.fp_inv; rfl)
  | np => exact single rfl h rfl (by rw [h.np_inv]; rfl)
  | fn f cap => exact single rfl h rfl (by obtain ⟨f, us, _, rfl, _⟩ := h.fn_inv; rfl)
  | nf => exact single rfl h rfl (by rw [h.nf_inv]; rfl)
  | ni => exact single rfl h rfl (by rw [h.ni_inv]; rfl)

/-! ### The state and the world -/
def BoxAt (G : Gh) (w0 w : World) (cs : List AV) (g : Nat) : Prop :=
  ∃ (us : List Value) (e : TypeId), w0.heap.size ≤ g ∧ w.heap[g]? = some (.cells us.toArray e (0, 0)) ∧ Rs G cs us ∧ (∀ x ∈ us, x.oneCell' = true) ∧ ∀ o, G.H g o = none

def OwnAt (G : Gh) (w0 w : World) (n g cap size : Nat) : Prop :=
  ∃ (cur : Array Value) (e : TypeId), w0.heap.size ≤ g ∧ w.heap[g]? = some (.cells cur e (0, 0)) ∧ cur.size = cap * size ∧ n ≤ cap ∧ 0 < size ∧ ∀ o, n * size ≤ o → G.H g o = none

structure Rel (G : Gh) (w0 : World) (st : St) (w : World) : Prop where
  bel : Below w0.heap.size w0 w
  ext : ∀ g o v, G.H g o = some v → w.cell? ⟨g, o, none⟩ = some v ∧ v.oneCell' = true
  bx : ∀ k ver cs g, lk st.bx k = some (ver, cs) → G.ρ k ver = some g → BoxAt G w0 w cs g
  inj : ∀ k k' ver ver' cs cs' g, lk st.bx k = some (ver, cs) → lk st.bx k' = some (ver', cs') → G.ρ k ver = some g → G.ρ k' ver' = some g → k = k'
  ow : ∀ k ver n, lk st.ow k = some (ver, n) → ∃ g cap size, G.ω k ver = some (g, cap, size) ∧ OwnAt G w0 w n g cap size ∧ ∀ k' ver' cs', lk st.bx k' = some (ver', cs') → G.ρ k' ver' ≠ some g
  owinj : ∀ k k' ver ver' n n' g cap size cap' size', lk st.ow k = some (ver, n) → lk st.ow k' = some (ver', n') → G.ω k ver = some (g, cap, size) → G.ω k' ver' = some (g, cap', size') → k = k'
  fresh : ∀ k ver, st.nx ≤ ver → G.ρ k ver = none ∧ G.ω k ver = none

def RelA (G : Gh) (nt : Nat) (σ : Sl) (a : Act) : Prop := a.defers = [] ∧ a.tmps.size = nt ∧ ∀ t, R G (σ t) (a.tmps.getD t undef)

theorem RelA.mono {G G' : Gh} (hg : G.Le G') {nt : Nat} {σ : Sl} {a : Act} (h : RelA G nt σ a) : RelA G' nt σ a := ⟨h.1, h.2.1, fun t => (h.2.2 t).mono hg⟩

theorem RelA.put {G : Gh} {nt : Nat} {σ : Sl} {a : Act} (h : RelA G nt σ a) {d : Option Nat} {v : AV} {x : Value} (hd : ∀ t, d = some t → t < nt) (hv : R G v x) : RelA G nt (updO σ d v) (a.put d x) := by
  cases d with
  | none => exact h
  | some d =>
    have hdn := hd d rfl
    refine ⟨h.1, by simp [Act.put, h.2.1], fun t => ?_⟩
    by_cases htd : t = d
    · subst htd
      have hlt : t < a.tmps.size := by rw [h.2.1]; exact hdn
      simpa [updO, upd, Act.put, hlt] using hv
    · have := h.2.2 t
      simp only [updO, upd, if_neg htd, Act.put]
      rw [Array.getD_eq_getD_getElem?, Array.getElem?_setIfInBounds_ne (by omega), ← Array.getD_eq_getD_getElem?]
      exact this

end Go.AM
