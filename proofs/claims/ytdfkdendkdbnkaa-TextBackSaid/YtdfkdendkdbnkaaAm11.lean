/- From the model's operations to the abstract machine's, and that they stand for them: all but calls. -/
import Derived.Test.YtdfkdendkdbnkaaAm10
set_option linter.all false
namespace Go.AM
open Go Go.RowKit

structure Cx where
  T : TTab
  fm : FM
  ptr : Nat → Bool

def Cx.kind (X : Cx) (t : TypeId) : Option TK := (X.T t).map (·.kind)

def cParts (X : Cx) (fs : List (Nat × Nat)) : List (Nat × Operand) → Option (List (Nat × Nat × Opd))
  | [] => some []
  | (i, x) :: r => match fs[i]?, cOpd X.fm x, cParts X fs r with
    | some (ft, off), some y, some l => (match X.T ft with | some ti => some ((off, ti.size, y) :: l) | none => none)
    | _, _, _ => none

def cPartsA (X : Cx) (size n : Nat) : List (Nat × Operand) → Option (List (Nat × Nat × Opd))
  | [] => some []
  | (i, x) :: r => match cOpd X.fm x, cPartsA X size n r with
    | some y, some l => some ((i * size, size, y) :: l)
    | _, _ => none

def cPartsR (X : Cx) : List (Nat × Operand) → Option (List (Nat × Opd))
  | [] => some []
  | (i, x) :: r => match cOpd X.fm x, cPartsR X r with
    | some y, some l => some ((i, y) :: l)
    | _, _ => none

def okSize (i : TI) : Bool := i.kind.agg || i.size == 1

def cBuiltin (X : Cx) (b : Builtin) (args : List Operand) (tys : List TypeId) : Option AOp :=
  match b, args, tys with
  | .len, [x], [t] => match X.kind t, cOpd X.fm x with
    | some .str, some y => some (.len true y)
    | some (.sl _), some y => some (.len false y)
    | _, _ => none
  | .append, [s, x], [t, t2] => match X.kind t, X.kind t2, cOpd X.fm s, cOpd X.fm x with
    | some (.sl e), some (.sl _), some s, some x => match X.T e with | some i => some (.app i.size i.bytes s x) | none => none
    | some (.sl e), some .str, some s, some x => match X.T e with | some i => if i.size = 1 ∧ i.bytes = 1 then some (.appS s x) else none | none => none
    | _, _, _, _ => none
  | .max, [x, y], _ => match cOpd X.fm x, cOpd X.fm y with | some x, some y => some (.max x y) | _, _ => none
  | _, _, _ => none

def cCall (X : Cx) (callee : Callee) (args : List Operand) (tys : List TypeId) : Option AOp :=
  match callee with
  | .builtin b => cBuiltin X b args tys
  | .value f => match cOpd X.fm f, cOpds X.fm args with
    | some (.c (.fn c [])), some l => some (.call (X.ptr c) c l)
    | some (.t n), some l => some (.callv (.t n) l)
    | _, _ => none
  | .invoke _ _ => none

def cOp (X : Cx) : Op → Option AOp
  | .move x | .assign x => match cOpd X.fm x with | some y => some (.mv y) | none => none
  | .pick c a b => match cOpd X.fm c, cOpd X.fm a, cOpd X.fm b with | some c, some a, some b => some (.pick c a b) | _, _, _ => none
  | .alloc t => match X.T t with | some i => some (.alloc i.zero) | none => none
  | .box t x => match X.T t, cOpd X.fm x with | some i, some y => some (.box i.size y) | _, _ => none
  | .build t parts => match X.T t with
    | some i => match i.kind with
      | .st fs => match (fs.all fun f => (X.T f.1).isSome), cParts X fs parts.toList with | true, some ps => some (.build i.zero ps) | _, _ => none
      | .arr n e => match X.T e with | some ie => (match cPartsA X ie.size n parts.toList with | some ps => some (.build i.zero ps) | none => none) | none => none
      | _ => none
    | none => none
  | .buildSlice t n parts => match X.kind t with
    | some (.sl e) => match X.T e, cPartsR X parts.toList with | some i, some ps => some (.bslice i.zero n ps) | _, _ => none
    | _ => none
  | .load t a => match X.T t, cOpd X.fm a with | some i, some y => if okSize i then some (.load i.size i.kind.agg y) else none | _, _ => none
  | .store t a x => match X.T t, cOpd X.fm a, cOpd X.fm x with | some i, some y, some z => some (.store i.size y z) | _, _, _ => none
  | .nilCheck x => match cOpd X.fm x with | some y => some (.nilc y) | none => none
  | .binOp op t x y _ => match X.kind t, cOpd X.fm x, cOpd X.fm y with
    | some (.int _), some x, some y => some (.bin op x y)
    | some .str, some x, some y => some (.bin op x y)
    | some .bool, some x, some y => match op with | .eql => some (.beq false x y) | .neq => some (.beq true x y) | _ => none
    | _, _, _ => none
  | .unOp op _ x => match cOpd X.fm x with | some y => some (.un op y) | none => none
  | .convert s d x => match X.kind s, X.kind d, cOpd X.fm x with
    | some (.int _), some (.int k), some y => some (.cvi k y)
    | some (.sl e), some .str, some y => match X.kind e with | some (.int .u8) => some (.b2s y) | _ => none
    | _, _, _ => none
  | .makeFunc (.func f) first cap => match X.fm f, first.toList, cOpds X.fm cap.toList with | some c, [], some l => some (.mkfn c l) | _, _, _ => none
  | .makeSlice t l c => match X.kind t, cOpd X.fm l, cOpd X.fm c with
    | some (.sl e), some l, some c => match X.T e with | some i => some (.mks i.zero i.bytes l c) | none => none
    | _, _, _ => none
  | .slice t x lo hi none => match X.kind t, cOpd X.fm x, cOpt X.fm lo, cOpt X.fm hi with
    | some .str, some x, some lo, some hi => some (.slS x lo hi)
    | some (.sl e), some x, some lo, some hi => match X.T e with | some i => some (.slL i.size x lo hi) | none => none
    | some (.arr n e), some x, some lo, some hi => match X.T e with | some i => some (.slA n i.size x lo hi) | none => none
    | _, _, _, _ => none
  | .fieldAddr s x f => match X.kind s, cOpd X.fm x with
    | some (.st fs), some y => match fs[f]? with
      | some (ft, off) => match X.T ft with | some i => if i.size = 0 then none else some (.fad off y) | none => none
      | none => none
    | _, _ => none
  | .field s x f => match X.kind s, cOpd X.fm x with
    | some (.st fs), some y => match fs[f]? with
      | some (ft, off) => match X.T ft with | some i => if okSize i then some (.fld off i.size i.kind.agg y) else none | none => none
      | none => none
    | _, _ => none
  | .indexAddr t x i => match X.kind t, cOpd X.fm x, cOpd X.fm i with
    | some (.sl e), some x, some y => match X.T e with | some i => some (.iaL i.size x y) | none => none
    | some (.arr n e), some x, some y => match X.T e with | some i => some (.iaA n i.size x y) | none => none
    | _, _, _ => none
  | .index t x i => match X.kind t, cOpd X.fm x, cOpd X.fm i with
    | some .str, some x, some y => some (.ixS x y)
    | some (.arr n e), some x, some y => match X.T e with | some i => if okSize i then some (.ixA n i.size i.kind.agg x y) else none | none => none
    | _, _, _ => none
  | .extract x k => match cOpd X.fm x with | some y => some (.ext k y) | none => none
  | .call c => cCall X c.callee c.args.toList c.argTypes.toList
  | _ => none

section
variable {P : Program} {G : Gh} {w0 w : World} {st : St} {X : Cx}

theorem kind_inv (hT : TTok P X.T) {t : TypeId} {k : TK} (h : X.kind t = some k) : ∃ i, X.T t = some i ∧ i.kind = k ∧ TOk P t i ∧ k.ok P t := by
  unfold Cx.kind at h
  simp only [Option.map_eq_some_iff] at h
  obtain ⟨i, hi, rfl⟩ := h
  exact ⟨i, hi, rfl, hT t i hi, (hT t i hi).kind⟩

theorem TOk.ti {t : TypeId} {i : TI} (h : TOk P t i) : ∃ ti, P.info? t = some ti ∧ ti.size = i.size ∧ ti.bytes = i.bytes := by
  obtain ⟨ti, z, h1, h2, h3, _⟩ := h.info
  exact ⟨ti, h1, h2, h3⟩

theorem okSize_inv {i : TI} (h : okSize i = true) : i.kind.agg = false → i.size = 1 := by
  intro ha
  unfold okSize at h
  rw [ha] at h
  simpa using h

/-- What an operation that is no call does. -/
def Did (P : Program) (G : Gh) (w0 : World) (st : St) (w : World) (o : Oper) (a : Act) (r : AV) (st' : St) (d site ver : Nat) : Prop :=
  ∃ nx v w' G', (execOp a.eval o).run P w = .ok nx w' ∧ (nx = .value v ∨ (nx = .skip ∧ v = undef)) ∧ R G' r v ∧ Step G G' w0 st st' w' d site ver

theorem Did.val {o : Oper} {a : Act} {r : AV} {st' : St} {d site ver : Nat} {v : Value} {w' : World} {G' : Gh} (h1 : (execOp a.eval o).run P w = .ok (.value v) w') (h2 : R G' r v) (h3 : Step G G' w0 st st' w' d site ver) : Did P G w0 st w o a r st' d site ver :=
  ⟨_, v, w', G', h1, .inl rfl, h2, h3⟩

/-- Where the state stays. -/
theorem Did.pure {o : Oper} {a : Act} {r : AV} {d site ver : Nat} (hR : Rel G w0 st w) (h : ∃ v, (execOp a.eval o).run P w = .ok (.value v) w ∧ R G r v) : Did P G w0 st w o a r st d site ver := by
  obtain ⟨v, h1, h2⟩ := h
  exact .val h1 h2 (Step.same hR)

theorem apure_state {d site ver : Nat} {σ : Sl} {r : AV} {st' : St} {op : AOp} (h : (apure (d, site) ver σ op).map (·, st) = some (r, st')) : apure (d, site) ver σ op = some r ∧ st' = st := by
  simp only [Option.map_eq_some_iff, Prod.mk.injEq] at h
  obtain ⟨x, h1, rfl, rfl⟩ := h
  exact ⟨h1, rfl⟩

theorem run_val {P : Program} {w w' : World} {s : Sem Value} {v : Value} (h : s.run P w = .ok v w') : (do pure (Next.value (← s)) : Sem Next).run P w = .ok (.value v) w' := by
  simp only [Sem.run_bind, h, Result.andThen_ok, Sem.run_pure]

theorem run_unit {P : Program} {w w' : World} {s : Sem Unit} (h : s.run P w = .ok () w') : (do s; pure Next.skip : Sem Next).run P w = .ok .skip w' := by
  simp only [Sem.run_bind, h, Result.andThen_ok, Sem.run_pure]

theorem eqGuard_int {op : BinOp} {t : TypeId} {x y : Operand} {k k' : IntKind} {m n : Int} : (eqGuard op t x y (.int k m) (.int k' n)).run P w = .ok () w := by
  unfold eqGuard; cases op <;> simp
theorem eqGuard_str {op : BinOp} {t : TypeId} {x y : Operand} {m n : ByteArray} : (eqGuard op t x y (.string m) (.string n)).run P w = .ok () w := by
  unfold eqGuard; cases op <;> simp
theorem eqGuard_bool {op : BinOp} {t : TypeId} {x y : Operand} {m n : Bool} : (eqGuard op t x y (.bool m) (.bool n)).run P w = .ok () w := by
  unfold eqGuard; cases op <;> simp

theorem abin_shape {op : BinOp} {x y r : AV} {vx vy : Value} (h : abin op x y = some r) (hx : R G x vx) (hy : R G y vy) : (∃ k m k' n, vx = .int k m ∧ vy = .int k' n) ∨ (∃ m n, vx = .string m ∧ vy = .string n) := by
  unfold abin at h
  revert hx hy
  split at h
  · intro hx hy; exact .inl ⟨_, _, _, _, hx.int_inv, hy.int_inv⟩
  · intro hx hy; exact .inr ⟨_, _, hx.str_inv, hy.str_inv⟩
  · cases h

theorem cParts_ok {nt : Nat} {σ : Sl} {a : Act} (hA : RelA G nt σ a) (hfm : X.fm = G.fm) (hT : TTok P X.T) {fs : List (Nat × Nat)} : ∀ {ps : List (Nat × Operand)} {xs : List (Nat × Nat × Opd)}, cParts X fs ps = some xs → ∀ {place : Nat → Option (Nat × Nat)}, (∀ (i ft off : Nat) ti, fs[i]? = some (ft, off) → X.T ft = some ti → place i = some (off, ti.size)) →
    Parts G σ place (ps.map fun p => (p.1, a.eval p.2)) xs
  | [], xs, h, _, _ => by cases h; trivial
  | (i, x) :: r, xs, h, place, hp => by
    unfold cParts at h
    split at h
    · rename_i ft off y l hf hy hl
      split at h
      · rename_i ti hti
        cases h
        rw [hfm] at hy
        exact ⟨hp i ft off ti hf hti, cOpd_ok hA hy, cParts_ok hA hfm hT hl hp⟩
      · cases h
    · cases h

theorem cPartsA_ok {nt : Nat} {σ : Sl} {a : Act} (hA : RelA G nt σ a) (hfm : X.fm = G.fm) {size n : Nat} : ∀ {ps : List (Nat × Operand)} {xs : List (Nat × Nat × Opd)}, cPartsA X size n ps = some xs → Parts G σ (fun i => some (i * size, size)) (ps.map fun p => (p.1, a.eval p.2)) xs
  | [], xs, h => by cases h; trivial
  | (i, x) :: r, xs, h => by
    unfold cPartsA at h
    split at h
    · rename_i y l hy hl
      cases h
      rw [hfm] at hy
      exact ⟨rfl, cOpd_ok hA hy, cPartsA_ok hA hfm hl⟩
    · cases h

theorem cPartsR_ok {nt : Nat} {σ : Sl} {a : Act} (hA : RelA G nt σ a) (hfm : X.fm = G.fm) : ∀ {ps : List (Nat × Operand)} {xs : List (Nat × Opd)}, cPartsR X ps = some xs → PartsR G σ (ps.map fun p => (p.1, a.eval p.2)) xs
  | [], xs, h => by cases h; trivial
  | (i, x) :: r, xs, h => by
    unfold cPartsR at h
    split at h
    · rename_i y l hy hl
      cases h
      rw [hfm] at hy
      exact ⟨rfl, cOpd_ok hA hy, cPartsR_ok hA hfm hl⟩
    · cases h

theorem mapM_all (hT : TTok P X.T) : ∀ (fields : List Field), (fields.map fun f => (f.type, f.offset)).all (fun f => (X.T f.1).isSome) = true →
    ∃ places, fields.mapM (fun f => (P.info? f.type).map fun i => (f.offset, i.size)) = some places ∧ ∀ (i : Nat) ft off ti, (fields.map fun f => (f.type, f.offset))[i]? = some (ft, off) → X.T ft = some ti → places[i]? = some (off, ti.size)
  | [], _ => ⟨[], by simp, by simp⟩
  | f :: r, h => by
    simp only [List.map_cons, List.all_cons, Bool.and_eq_true] at h
    obtain ⟨h1, h2⟩ := h
    obtain ⟨places, h3, h4⟩ := mapM_all hT r h2
    obtain ⟨ti, hti⟩ := Option.isSome_iff_exists.1 h1
    obtain ⟨i', hi', hs, _⟩ := (hT _ _ hti).ti
    refine ⟨(f.offset, i'.size) :: places, by simp [List.mapM_cons, hi', h3], fun i ft off ti' hf ht => ?_⟩
    cases i with
    | zero =>
      simp only [List.map_cons, List.getElem?_cons_zero, Option.some.injEq, Prod.mk.injEq] at hf
      obtain ⟨rfl, rfl⟩ := hf
      rw [hti] at ht
      cases ht
      simp [hs]
    | succ i =>
      simp only [List.map_cons, List.getElem?_cons_succ] at hf ⊢
      exact h4 i ft off ti' hf ht

end
end Go.AM
