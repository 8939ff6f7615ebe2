/- A literal of one byte, as a slice: the row and its mark. -/
import Derived.Test.YtdfkdendkdbnkaaAm16
import Derived.Lib.SmallJoins
import Derived.Lib.SlBytesConst
set_option linter.all false
namespace Go.AM
open Go Go.RowKit Go.BigFrame

def cLit (X : Cx) (nt : Nat) (l : List Oper) : Option (List AI) :=
  match l with
  | [⟨some d1, .buildSlice t n parts, _, _, _, none⟩, ⟨some d2, .convert t1 t2 (.tmp s2), _, _, _, none⟩, ⟨some d3, .assign (.tmp s3), _, _, _, none⟩] =>
    match parts.toList, X.kind t with
    | [(0, .const (.int .u8 c))], some (.sl e) => match X.kind e, X.T e with
      | some (.int .u8), some i => match i.zero with
        | [.i .u8 z] => if n = 1 ∧ t1 = t ∧ t2 = t ∧ s2 = d1 ∧ s3 = d2 ∧ d1 < nt ∧ d2 < nt ∧ d3 < nt then some [⟨some d1, .bslice [.i .u8 z] 1 [(0, .c (.i .u8 c))], none⟩, ⟨some d2, .mv (.t d1), none⟩, ⟨some d3, .mv (.t d2), none⟩] else none
        | _ => none
      | _, _ => none
    | _, _ => none
  | _ => none

section
variable {P : Program} {X : Cx}

theorem step_val {G : Gh} {nt : Nat} {ops : Array Oper} {Q : Exit → Act → World → Prop} {i : Nat} {o : Oper} {a : Act} {w w' : World} {v : Value} {K : Act → World → Prop} (ho : ops[i]? = some o) (hg : o.guard = none) (hr : (execOp a.eval o).run P w = .ok (.value v) w') (hk : K (a.put o.dst v) w') : wpOp P ops Q i K a w := by
  unfold wpOp
  rw [ho]
  simp only
  rw [if_pos (by simp [Region.wanted, hg])]
  refine .inl ?_
  unfold Oper.wp
  rw [hr]
  exact hk

theorem lit_ok {C : CallF} (hT : TTok P X.T) {nt d id : Nat} {ops : Array Oper} {n : Nat} {aops : List AI} (hcl : cLit X nt ops.toList = some aops) {σ : Sl} {st : St} {e' : AE} {σ' : Sl} {st' : St} (h : acode C n d (.reg id aops) σ st = some (e', σ', st')) {G : Gh} {w0 w : World} {a : Act} (hA : RelA G nt σ a) (hR : Rel G w0 st w)
    {Q : Exit → Act → World → Prop} (hQ : e' = .normal → ∀ a' w' G', RelA G' nt σ' a' → Run G G' w0 st st' w' d → Q .normal a' w') : (Code.region id ops false).wp P Q a w := by
  unfold cLit at hcl
  split at hcl
  case h_2 => cases hcl
  rename_i d1 t m parts ty1 pos1 af1 d2 t1 t2 s2 ty2 pos2 af2 d3 s3 ty3 pos3 af3 hops
  split at hcl
  case h_2 => cases hcl
  rename_i c e hparts hkt
  split at hcl
  case h_2 => cases hcl
  rename_i i hke hie
  split at hcl
  case h_2 => cases hcl
  rename_i z hz
  split at hcl
  case isFalse => cases hcl
  rename_i hc
  obtain ⟨hm, h2, h3, h4, h5, hd1, hd2, hd3⟩ := hc
  subst hm
  have h2 := h2.symm
  subst h2
  have h3 := h3.symm
  subst h3
  have h4 := h4.symm
  subst h4
  have h5 := h5.symm
  subst h5
  cases hcl
  obtain ⟨_, _, _, _, hut⟩ := kind_inv hT hkt
  obtain ⟨_, _, _, _, hue⟩ := kind_inv hT hke
  -- what the abstract machine does
  have hs : e' = .normal ∧ σ' = upd (upd (upd σ d1 (.sl .full [[.i .u8 c]])) d2 (.sl .full [[.i .u8 c]])) d3 (.sl .full [[.i .u8 c]]) ∧ st' = { st with nx := st.nx + 3 } := by
    simp [acode, areg, aregL, aai, aexec, apure, softs, AV.soft, fillRows, Opd.ev, AV.cells, pre, updO, upd] at h
    obtain ⟨rfl, rfl, rfl⟩ := h
    refine ⟨rfl, ?_, rfl⟩
    funext x
    simp [upd]
  obtain ⟨rfl, rfl, rfl⟩ := hs
  -- the zero of the element's type
  obtain ⟨ti, zv, hi, hsz, _, hzv, hzs, hzl⟩ := (hT e i hie).info
  rw [hz] at hzs
  have hsize : i.size = 1 := by
    have h1 : zv.cells.toList.length = ([AV.i .u8 z] : List AV).length := by
      have : ∀ {vs : List Value} {xs : List AV}, cVals vs = some xs → vs.length = xs.length := by
        intro vs
        induction vs with
        | nil => intro xs hx; cases hx; rfl
        | cons v vs ih =>
          intro xs hx
          unfold cVals at hx
          split at hx
          · cases hx; simp [ih (by assumption)]
          · cases hx
      exact this hzs
    rw [← hzl]
    simpa using h1
  have hsize' : zv.cells.size = 1 := by rw [hzl, hsize]
  -- the three operations
  have ea : ops = #[⟨some d1, .buildSlice t 1 parts, ty1, pos1, af1, none⟩, ⟨some d2, .convert t t (.tmp d1), ty2, pos2, af2, none⟩, ⟨some d3, .assign (.tmp d2), ty3, pos3, af3, none⟩] := by
    apply Array.ext'; simpa using hops
  have ep : parts = #[(0, .const (.int .u8 c))] := by apply Array.ext'; simpa using hparts
  subst ea
  subst ep
  have hts : a.tmps.size = nt := hA.2.1
  let w1 := w.alloc (.cells #[.int .u8 c] e)
  let w2 := w.alloc (.cells #[.int .u8 c] e (1, 2))
  let v : Value := .slice (some ⟨w.heap.size, 0, none⟩) 1 1
  have r1 : (Instr.buildSlice t 1 #[(0, .int .u8 c)]).run P w = .ok v w1 := by
    refine run_buildSlice w t e 1 #[(0, .int .u8 c)] #[.int .u8 c] ti zv hut hi hzv (by rw [hsz, hsize]; omega) (by rw [hsz, hsize]; decide) ?_
    have hmade : ∀ zz : Array Value, zz.size = 1 → ∃ y, (Array.range (1 * 1)).map (zz[· % zz.size]!) = #[y] := by
      intro zz _
      exact ⟨zz[0 % zz.size]!, by rw [show Array.range (1 * 1) = #[0] from rfl]; simp⟩
    obtain ⟨y, hy⟩ := hmade zv.cells hsize'
    rw [hsz, hsize]
    simp only [hy]
    rfl
  have r2 : (convert t t v).run P w1 = .ok v w2 := Lib.run_convert_bytes_const w t e #[.int .u8 c] 1 1 hut hue
  have hH : HLe G.H (fun g o => if g = w.heap.size then (if o = 0 then some (.int .u8 c) else none) else G.H g o) := fun g o v h => by
    show (if g = w.heap.size then _ else G.H g o) = some v
    rw [if_neg (by have := hR.Hlt h; omega)]
    exact h
  have hR' : Rel G w0 { st with nx := st.nx + 3 } w := ⟨hR.bel, hR.ext, hR.bx, hR.inj, hR.ow, hR.owinj, fun k ver hv => hR.fresh k ver (by simp at hv; omega)⟩
  have hst := Step.grow (d := d) (site := 0) (ver := 0) hR' (w' := w2) ((Below.refl _ _).alloc (Nat.le_refl _) _) hH (fun g o x h => by
    by_cases hg : g = w.heap.size
    · subst hg
      simp only [if_true] at h
      by_cases ho : o = 0
      · subst ho
        simp only [if_true] at h
        cases h
        refine .inr ⟨Nat.le_refl _, ?_, rfl⟩
        rw [World.cell?_alloc_mark]
        rfl
      · rw [if_neg ho] at h; cases h
    · rw [if_neg hg] at h; exact .inl h)
  have hv : R ⟨fun g o => if g = w.heap.size then (if o = 0 then some (.int .u8 c) else none) else G.H g o, G.ρ, G.ω, G.fm⟩ (.sl .full [[.i .u8 c]]) v := by
    refine .sl .full _ _ _ _ ?_ ⟨rfl, .inr ⟨_, rfl⟩⟩
    refine Fz.sl [[.i .u8 c]] _ 1 1 w.heap.size 0 (fun _ _ => .int .u8 c) (fun _ => rfl) (Nat.le_refl _) ?_ ?_ ?_
    · intro i row hi
      cases i with
      | zero => simp at hi; subst hi; rfl
      | succ i => simp at hi
    · intro i row j x hi hx
      cases i with
      | zero =>
        simp at hi; subst hi
        cases j with
        | zero => simp
        | succ j => simp at hx
      | succ i => simp at hi
    · intro i row j x hi hx
      cases i with
      | zero =>
        simp at hi; subst hi
        cases j with
        | zero => simp at hx; subst hx; exact .i _ _
        | succ j => simp at hx
      | succ i => simp at hi
  have e1 : ∀ (b : Act) (dst : Nat) (x : Value), (b.put (some dst) x).eval (.tmp dst) = x ∨ b.tmps.size ≤ dst := by
    intro b dst x
    rcases Nat.lt_or_ge dst b.tmps.size with h | h
    · left
      simp [Act.put, Act.eval, h]
    · exact .inr h
  refine wp_region ?_
  show wpOps P _ Q [0, 1, 2] a w
  rw [wpOps_cons]
  refine step_val (G := G) (nt := nt) (o := ⟨some d1, .buildSlice t 1 #[(0, .const (.int .u8 c))], ty1, pos1, af1, none⟩) rfl rfl (v := v) (w' := w1) ?_ ?_
  · simp only [execOp]
    refine run_val ?_
    rw [show Array.map (fun x => (x.fst, a.eval x.snd)) #[(0, Operand.const (Value.int IntKind.u8 c))] = #[(0, .int .u8 c)] from by simp [Act.eval]]
    exact r1
  rw [wpOps_cons]
  refine step_val (G := G) (nt := nt) (o := ⟨some d2, .convert t t (.tmp d1), ty2, pos2, af2, none⟩) rfl rfl (v := v) (w' := w2) ?_ ?_
  · simp only [execOp]
    refine run_val ?_
    rcases e1 a d1 v with h | h
    · rw [h]; exact r2
    · rw [hts] at h; exact absurd h (Nat.not_le.2 hd1)
  rw [wpOps_cons]
  refine step_val (G := G) (nt := nt) (o := ⟨some d3, .assign (.tmp d2), ty3, pos3, af3, none⟩) rfl rfl (v := v) (w' := w2) ?_ ?_
  · simp only [execOp]
    rcases e1 (a.put (some d1) v) d2 v with h | h
    · rw [h]; rfl
    · simp only [Act.put, Array.size_setIfInBounds, hts] at h
      exact absurd h (Nat.not_le.2 hd2)
  show Q .normal _ w2
  have hA1 := hA.mono hst.le
  have hp : ∀ {σ : Sl} {b : Act} (dst : Nat), dst < nt → RelA _ nt σ b → RelA ⟨fun g o => if g = w.heap.size then (if o = 0 then some (.int .u8 c) else none) else G.H g o, G.ρ, G.ω, G.fm⟩ nt (upd σ dst (.sl .full [[.i .u8 c]])) (b.put (some dst) v) :=
    fun dst hd hb => RelA.put (d := some dst) hb (by intro t ht; cases ht; exact hd) hv
  refine hQ rfl _ _ _ (hp d3 hd3 (hp d2 hd2 (hp d1 hd1 hA1))) ?_
  exact ⟨hst.le, hst.rel, by simp, fun k v hv' => ⟨rfl, rfl⟩, fun k v cs _ _ _ h => h, hst.newH⟩
end
end Go.AM
