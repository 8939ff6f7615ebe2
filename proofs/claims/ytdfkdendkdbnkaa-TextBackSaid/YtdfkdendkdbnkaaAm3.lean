/- From the model's code to the abstract machine's: the operations that look at their operands alone. -/
import Derived.Test.YtdfkdendkdbnkaaAm2
set_option linter.all false
namespace Go.AM
open Go Go.RowKit

inductive TK where
  | int (k : IntKind)
  | bool
  | str
  | sl (e : Nat)
  | arr (n e : Nat)
  | st (fs : List (Nat × Nat))
  | other

structure TI where
  kind : TK
  size : Nat
  bytes : Nat
  zero : List AV

abbrev TTab := Nat → Option TI

def cVal : Value → Option AV
  | .int k n => some (.i k n)
  | .bool x => some (.b x)
  | .string s => some (.s s.data.toList)
  | .slice none 0 0 => some (.sl .full [])
  | .pointer none => some .np
  | .nilFunc => some .nf
  | .nilIface => some .ni
  | _ => none

def cVals : List Value → Option (List AV)
  | [] => some []
  | v :: r => match cVal v, cVals r with | some w, some l => some (w :: l) | _, _ => none

def cConst : Value → Option AV
  | .agg cs => match cVals cs.toList with | some l => some (.ag l) | none => none
  | v => cVal v

def TK.ok (P : Program) (t : TypeId) : TK → Prop
  | .int k => P.underlying t = some (.int k)
  | .bool => P.underlying t = some .bool
  | .str => P.underlying t = some .string
  | .sl e => P.underlying t = some (.slice e)
  | .arr n e => P.underlying t = some (.array n e)
  | .st fs => ∃ fields, P.underlying t = some (.struct fields) ∧ fields.toList.map (fun f => (f.type, f.offset)) = fs
  | .other => ∃ d, P.underlying t = some d ∧ (match d with | .struct _ | .array _ _ => False | _ => True)

def TK.agg : TK → Bool
  | .arr _ _ | .st _ => true
  | _ => false

structure TOk (P : Program) (t : TypeId) (i : TI) : Prop where
  info : ∃ ti z, P.info? t = some ti ∧ ti.size = i.size ∧ ti.bytes = i.bytes ∧ ti.zero = some z ∧ cVals z.cells.toList = some i.zero ∧ z.cells.size = i.size
  kind : i.kind.ok P t

def TTok (P : Program) (T : TTab) : Prop := ∀ t i, T t = some i → TOk P t i

abbrev FM := Nat → Option Nat

def cOpd (fm : FM) : Operand → Option Opd
  | .tmp t => some (.t t)
  | .const v => match cConst v with | some x => some (.c x) | none => none
  | .func f => match fm f with | some c => some (.c (.fn c [])) | none => none
  | .global _ => none

def cOpds (fm : FM) : List Operand → Option (List Opd)
  | [] => some []
  | x :: r => match cOpd fm x, cOpds fm r with | some y, some l => some (y :: l) | _, _ => none

def cOpt (fm : FM) : Option Operand → Option (Option Opd)
  | none => some none
  | some x => match cOpd fm x with | some y => some (some y) | none => none

/-- An operand and its image stand for the same. -/
def Same (G : Gh) (σ : Sl) (a : Act) (x : Operand) (y : Opd) : Prop := R G (y.ev σ) (a.eval x)

theorem cVal_ok {G : Gh} {v : Value} {x : AV} (h : cVal v = some x) : R G x v := by
  unfold cVal at h
  split at h <;> (try cases h)
  · exact .fz _ _ (.i _ _)
  · exact .fz _ _ (.b _)
  · exact .fz _ _ (.s _)
  · exact .sl .full [] none 0 0 (.sl [] none 0 0 0 0 (fun _ _ => .nilFunc) (fun h => absurd rfl h) (Nat.le_refl _) (by simp) (by simp) (by simp)) ⟨rfl, .inl rfl⟩
  · exact .fz _ _ .np
  · exact .fz _ _ .nf
  · exact .fz _ _ .ni

theorem cVals_ok {G : Gh} : ∀ {vs : List Value} {xs : List AV}, cVals vs = some xs → Rs G xs vs
  | [], xs, h => by cases h; exact ⟨rfl, by simp⟩
  | v :: r, xs, h => by
    unfold cVals at h
    split at h
    · rename_i w l hw hl
      cases h
      have ih := cVals_ok (G := G) hl
      refine ⟨by simp [ih.1], fun j a u h1 h2 => ?_⟩
      cases j with
      | zero => simp at h1 h2; subst h1; subst h2; exact cVal_ok hw
      | succ j => simp at h1 h2; exact ih.2 j a u h1 h2
    · cases h

theorem cConst_ok {G : Gh} {v : Value} {x : AV} (h : cConst v = some x) : R G x v := by
  unfold cConst at h
  split at h
  · rename_i cs
    split at h
    · rename_i l hl
      cases h
      have := cVals_ok (G := G) hl
      have h2 : R G (.ag l) (.agg cs.toList.toArray) := .ag l cs.toList this.1 this.2
      simpa using h2
    · cases h
  · exact cVal_ok h

theorem cOpd_ok {G : Gh} {nt : Nat} {σ : Sl} {a : Act} (hA : RelA G nt σ a) {x : Operand} {y : Opd} (h : cOpd G.fm x = some y) : Same G σ a x y := by
  unfold cOpd at h
  split at h
  · cases h; exact hA.2.2 _
  · split at h
    · rename_i hc; cases h; exact cConst_ok hc
    · cases h
  · split at h
    · rename_i c hc; cases h; exact .fn _ _ hc [] [] rfl (by simp)
    · cases h
  · cases h

theorem cOpds_ok {G : Gh} {nt : Nat} {σ : Sl} {a : Act} (hA : RelA G nt σ a) : ∀ {xs : List Operand} {ys : List Opd}, cOpds G.fm xs = some ys → Rs G (ys.map (·.ev σ)) (xs.map a.eval)
  | [], ys, h => by cases h; exact ⟨rfl, by simp⟩
  | x :: r, ys, h => by
    unfold cOpds at h
    split at h
    · rename_i y l hy hl
      cases h
      have ih := cOpds_ok hA hl
      refine ⟨by simpa using ih.1, fun j b u h1 h2 => ?_⟩
      cases j with
      | zero => simp at h1 h2; subst h1; subst h2; exact cOpd_ok hA hy
      | succ j => simp only [List.map_cons, List.getElem?_cons_succ] at h1 h2; exact ih.2 j b u h1 h2
    · cases h

/-! ### Operations on numbers, strings, bools -/
section
variable {P : Program} {G : Gh} {w : World}

theorem aint_ok {op : BinOp} {t : TypeId} {k : IntKind} {a b : Int} {r : AV} (h : aint op k a b = some r) :
    ∃ v, (binOp op t (.int k a) (.int k b)).run P w = .ok v w ∧ R G r v := by
  have hi : ∀ n : Int, R G (.i k n) (.int k n) := fun n => .fz _ _ (.i _ _)
  have hb : ∀ x : Bool, R G (.b x) (.bool x) := fun n => .fz _ _ (.b _)
  cases op with
  | add => cases h; exact ⟨_, by simp [binOp, Op.intArith], hi _⟩
  | sub => cases h; exact ⟨_, by simp [binOp, Op.intArith], hi _⟩
  | mul => cases h; exact ⟨_, by simp [binOp, Op.intArith], hi _⟩
  | quo =>
    simp only [aint] at h
    split at h
    · cases h
    · rename_i h0; cases h; exact ⟨_, by simp [binOp, Op.intDiv, h0], hi _⟩
  | rem =>
    simp only [aint] at h
    split at h
    · cases h
    · rename_i h0; cases h; exact ⟨_, by simp [binOp, Op.intDiv, h0], hi _⟩
  | and => cases h; exact ⟨_, by simp [binOp, Op.intBits], hi _⟩
  | or => cases h; exact ⟨_, by simp [binOp, Op.intBits], hi _⟩
  | xor => cases h; exact ⟨_, by simp [binOp, Op.intBits], hi _⟩
  | andNot => cases h; exact ⟨_, by simp [binOp, Op.intBits], hi _⟩
  | eql => cases h; exact ⟨_, by simp [binOp, Op.intCmp], hb _⟩
  | neq => cases h; exact ⟨_, by simp [binOp, Op.intCmp], hb _⟩
  | lss => cases h; exact ⟨_, by simp [binOp, Op.intCmp], hb _⟩
  | leq => cases h; exact ⟨_, by simp [binOp, Op.intCmp], hb _⟩
  | gtr => cases h; exact ⟨_, by simp [binOp, Op.intCmp], hb _⟩
  | geq => cases h; exact ⟨_, by simp [binOp, Op.intCmp], hb _⟩
  | shl => cases h
  | shr => cases h

theorem ashift_ok {op : BinOp} {t : TypeId} {k k' : IntKind} {a b : Int} {r : AV} (h : ashift op k a b = some r) :
    ∃ v, (binOp op t (.int k a) (.int k' b)).run P w = .ok v w ∧ R G r v := by
  have hi : ∀ n : Int, R G (.i k n) (.int k n) := fun n => .fz _ _ (.i _ _)
  unfold ashift at h
  split at h
  · cases h
  · rename_i h0
    split at h
    · cases h; exact ⟨_, by simp [binOp, Op.shift, h0], hi _⟩
    · cases h; exact ⟨_, by simp [binOp, Op.shift, h0], hi _⟩
    · cases h

theorem bin_ok {op : BinOp} {t : TypeId} {x y r : AV} {vx vy : Value} (hx : R G x vx) (hy : R G y vy) (h : abin op x y = some r) :
    ∃ v, (binOp op t vx vy).run P w = .ok v w ∧ R G r v := by
  unfold abin at h
  split at h
  · rename_i k a k' b
    cases hx.int_inv
    cases hy.int_inv
    split at h
    · exact ashift_ok h
    · exact ashift_ok h
    · split at h
      · rename_i hk; subst hk; exact aint_ok h
      · cases h
  · rename_i a b
    cases hx.str_inv
    cases hy.str_inv
    split at h
    · split at h
      · rename_i hle
        cases h
        refine ⟨.string ⟨(a ++ b).toArray⟩, ?_, .fz _ _ (.s _)⟩
        have h1 : (ByteArray.mk a.toArray).size = a.length := by simp [ByteArray.size]
        have h2 : (ByteArray.mk b.toArray).size = b.length := by simp [ByteArray.size]
        have h3 : ¬ (((ByteArray.mk a.toArray).size + (ByteArray.mk b.toArray).size : Nat) : Int) > IntKind.i64.max := by
          rw [h1, h2]; unfold maxStr at hle; simp [IntKind.max, IntKind.bits]; omega
        have h4 : (ByteArray.mk a.toArray) ++ (ByteArray.mk b.toArray) = ByteArray.mk (a ++ b).toArray := by
          apply ByteArray.ext; simp
        rw [h1, h2] at h3
        simp only [binOp, Op.stringOp, h1, h2, if_neg h3, h4, Sem.run_pure]
      · cases h
    · cases h; exact ⟨_, by simp [binOp, Op.stringOp], .fz _ _ (.b _)⟩
    · cases h; exact ⟨_, by simp [binOp, Op.stringOp], .fz _ _ (.b _)⟩
    · cases h
  · cases h

end
end Go.AM
