/- Calls: the abstract machine's programs stand for the model's. -/
import Derived.Test.YtdfkdendkdbnkaaAm17
set_option linter.all false
namespace Go.AM
open Go Go.RowKit Go.BigFrame

def cRes (X : Cx) : ResultVar → Option ARes
  | .tmp t => some (.tmp t)
  | .cell p t => match X.T t with | some i => if okSize i = true then some (.cell p i.size i.kind.agg) else none | none => none

def cRess (X : Cx) : List ResultVar → Option (List ARes)
  | [] => some []
  | r :: l => match cRes X r, cRess X l with | some x, some xs => some (x :: xs) | _, _ => none

structure FnOk (P : Program) (X : Cx) (f : FuncId) (F : AF) : Prop where
  ok : ∃ fn code, P.funcs[f]? = some fn ∧ (fn.name == "runtime.NumGoroutine") = false ∧ fn.body = some code ∧ fn.ntmps = F.nt ∧ cCode X F.nt code = some F.body ∧ cRess X fn.results.toList = some F.res ∧ F.res.length ≤ 4

def ProgOk (P : Program) (X : Cx) (fn : Nat → Option AF) : Prop := ∀ f c F, X.fm f = some c → fn c = some F → FnOk P X f F

def OracOk (P : Program) (X : Cx) (prog : Prog) : Prop := ∀ f c, X.fm f = some c → prog.fn c = none → ∀ args r, prog.orac c args = some r →
  ∀ G w0 st w vals d, G.fm = X.fm → Rel G w0 st w → Rs G args vals → Goes P f vals.toArray w fun v w' => ∃ G', R G' r v ∧ Run G G' w0 st st w' d

section
variable {P : Program} {X : Cx} {G : Gh} {w0 w : World} {st : St}

def resVar (tmps : Array Value) (r : ResultVar) : Sem Value :=
  match r with
  | .tmp t => pure (tmps.getD t undef)
  | .cell a t => do loadVar t (← asAddr (tmps.getD a undef))

theorem res1_ok (hT : TTok P X.T) {nt : Nat} {σ : Sl} {a : Act} (hA : RelA G nt σ a) (hR : Rel G w0 st w) {r : ResultVar} {x : ARes} (hc : cRes X r = some x) {v : AV} (h : ares1 σ st x = some v) :
    ∃ u, (resVar a.tmps r).run P w = .ok u w ∧ R G v u := by
  cases r with
  | tmp t =>
    cases hc
    cases h
    exact ⟨_, rfl, hA.2.2 t⟩
  | cell p t =>
    simp only [cRes] at hc
    split at hc
    case h_2 => cases hc
    rename_i i hi
    split at hc
    case isFalse => cases hc
    rename_i hs
    cases hc
    simp only [ares1] at h
    have hv := hA.2.2 p
    obtain ⟨u, h1, h2⟩ := aload_ok hR (hT t i hi) (okSize_inv hs) h hv
    refine ⟨u, ?_, h2⟩
    have hp : ∃ q, a.tmps.getD p undef = .pointer (some q) := by
      unfold aload at h
      revert hv
      generalize σ p = z at h
      intro hv
      revert hv
      split at h
      · intro hv; obtain ⟨g, off, us, h3, _⟩ := hv.fp_inv; exact ⟨_, h3⟩
      · intro hv; obtain ⟨g, h3, _⟩ := hv.p_inv; exact ⟨_, h3⟩
      · cases h
    obtain ⟨q, hq⟩ := hp
    rw [hq] at h1
    simp only [resVar, hq, asAddr, Sem.run_bind, Sem.run_pure, Result.andThen_ok]
    simpa only [Instr.loadAt, Instr.sureAddr, Sem.run_bind, Sem.run_pure, Result.andThen_ok] using h1

theorem resL_ok (hT : TTok P X.T) {nt : Nat} {σ : Sl} {a : Act} (hA : RelA G nt σ a) (hR : Rel G w0 st w) : ∀ {l : List ResultVar} {xs : List ARes}, cRess X l = some xs → ∀ {vs : List AV}, aresL σ st xs = some vs →
    ∃ us : List Value, us.length = l.length ∧ (∀ (j : Nat) r u, l[j]? = some r → us[j]? = some u → (resVar a.tmps r).run P w = .ok u w) ∧ Rs G vs us
  | [], xs, hc, vs, h => by
    cases hc
    cases h
    exact ⟨[], rfl, by simp, rfl, by simp⟩
  | r :: l, xs, hc, vs, h => by
    unfold cRess at hc
    split at hc
    case h_2 => cases hc
    rename_i x ys hx hl
    cases hc
    unfold aresL at h
    split at h
    case h_2 => cases h
    rename_i v vl hv hvl
    cases h
    obtain ⟨u, h1, h2⟩ := res1_ok hT hA hR hx hv
    obtain ⟨us, h3, h4, h5⟩ := resL_ok hT hA hR hl hvl
    refine ⟨u :: us, by simp [h3], fun j r' u' hj hu => ?_, by simp [h5.1], fun j a' u' ha hu => ?_⟩
    · cases j with
      | zero => simp at hj hu; subst hj; subst hu; exact h1
      | succ j => exact h4 j r' u' (by simpa using hj) (by simpa using hu)
    · cases j with
      | zero => simp at ha hu; subst ha; subst hu; exact h2
      | succ j => exact h5.2 j a' u' (by simpa using ha) (by simpa using hu)

theorem results_eq (fn : Func) (tmps : Array Value) : results fn tmps = (do
    let vs ← fn.results.mapM (resVar tmps)
    pure (if h : vs.size = 1 then vs[0] else .tuple vs)) := rfl

theorem cRess_len : ∀ {l : List ResultVar} {xs : List ARes}, cRess X l = some xs → l.length = xs.length
  | [], xs, hc => by cases hc; rfl
  | r :: l, xs, hc => by
    unfold cRess at hc
    split at hc
    case h_2 => cases hc
    rename_i x ys hx hl
    cases hc
    simp [cRess_len hl]

theorem results_ok (hT : TTok P X.T) {nt : Nat} {σ : Sl} {a : Act} (hA : RelA G nt σ a) (hR : Rel G w0 st w) {fn : Func} {xs : List ARes} (hc : cRess X fn.results.toList = some xs) (hl : xs.length ≤ 4) {r : AV} (h : ares σ st xs = some r) :
    ∃ u, (results fn a.tmps).run P w = .ok u w ∧ R G r u := by
  obtain ⟨l, hres⟩ : ∃ l : List ResultVar, fn.results = l.toArray := ⟨fn.results.toList, by simp⟩
  rw [hres] at hc
  have hlen := cRess_len hc
  rw [results_eq, hres]
  by_cases h1 : xs.length = 1
  · match xs, h1 with
    | [x], _ =>
      match l, hlen with
      | [q], _ =>
        unfold cRess at hc
        split at hc
        case h_2 => cases hc
        rename_i x' ys hx hl'
        injection hc with hc
        injection hc with hc1 hc2
        subst hc1
        simp only [ares] at h
        obtain ⟨u, h2, h3⟩ := res1_ok hT hA hR hx h
        exact ⟨u, by simp [h2], h3⟩
  · have h2 : ∃ vs, aresL σ st xs = some vs ∧ r = .tup vs := by
      unfold ares at h
      split at h
      · simp at h1
      · simp only [Option.map_eq_some_iff] at h
        obtain ⟨vs, h3, h4⟩ := h
        exact ⟨vs, h3, h4.symm⟩
    obtain ⟨vs, h3, rfl⟩ := h2
    obtain ⟨us, h4, h5, h6⟩ := resL_ok hT hA hR hc h3
    refine ⟨.tuple us.toArray, ?_, .tup vs us h6.1 h6.2⟩
    match l, us, h4 with
    | [], [], _ => simp
    | [_], _, _ => simp at hlen; omega
    | [q1, q2], [u1, u2], _ => simp [h5 0 q1 u1 rfl rfl, h5 1 q2 u2 rfl rfl]
    | [q1, q2, q3], [u1, u2, u3], _ => simp [h5 0 q1 u1 rfl rfl, h5 1 q2 u2 rfl rfl, h5 2 q3 u3 rfl rfl]
    | [q1, q2, q3, q4], [u1, u2, u3, u4], _ => simp [h5 0 q1 u1 rfl rfl, h5 1 q2 u2 rfl rfl, h5 2 q3 u3 rfl rfl, h5 3 q4 u4 rfl rfl]
    | _ :: _ :: _ :: _ :: _ :: _, _, _ => simp at hlen; omega

theorem RelA.enter {nt : Nat} {args : List AV} {vals : List Value} (h : Rs G args vals) (hn : args.length ≤ nt) : RelA G nt (sl0 args) { tmps := vals.toArray ++ Array.replicate (nt - vals.toArray.size) undef, defers := [] } := by
  refine ⟨rfl, ?_, fun t => ?_⟩
  · have := h.1
    simp only [Array.size_append, List.size_toArray, Array.size_replicate]
    omega
  · have hl := h.1
    unfold sl0
    rw [Array.getD_eq_getD_getElem?, List.getD_eq_getElem?_getD]
    rcases Nat.lt_or_ge t args.length with ht | ht
    · rw [Array.getElem?_append_left (by simp; omega)]
      have hv : t < vals.length := by omega
      rw [List.getElem?_eq_getElem ht]
      simp only [List.getElem?_toArray, List.getElem?_eq_getElem hv, Option.getD_some]
      exact h.2 t _ _ (List.getElem?_eq_getElem ht) (List.getElem?_eq_getElem hv)
    · rw [List.getElem?_eq_none ht, Array.getElem?_append_right (by simp; omega), Array.getElem?_replicate]
      split
      · exact R.und
      · exact R.und

theorem Run.out {G' : Gh} {st' : St} {w' : World} {d : Nat} (h : Run G G' w0 st st' w' d) : Run G G' w0 st { st' with bx := st'.bx.filter fun x => x.1.1 < d } w' d := by
  have hlk : ∀ k, lk (st'.bx.filter fun x => x.1.1 < d) k = if k.1 < d then lk st'.bx k else none := by
    intro k
    have := lk_filter st'.bx (fun k => decide (k.1 < d)) k
    simpa using this
  have hsub : ∀ {k v}, lk (st'.bx.filter fun x => x.1.1 < d) k = some v → lk st'.bx k = some v := by
    intro k v h1
    rw [hlk] at h1
    split at h1
    · exact h1
    · cases h1
  have hr := h.rel
  refine ⟨h.le, ⟨hr.bel, hr.ext, fun k ver cs g h1 h2 => hr.bx k ver cs g (hsub h1) h2, fun k k' ver ver' cs cs' g h1 h2 h3 h4 => hr.inj k k' ver ver' cs cs' g (hsub h1) (hsub h2) h3 h4, ?_, hr.owinj, hr.fresh⟩, h.nx, h.old, ?_, h.newH⟩
  · intro k ver n h1
    obtain ⟨g, cap, size, h2, h3, h4⟩ := hr.ow k ver n h1
    exact ⟨g, cap, size, h2, h3, fun k' ver' cs' h5 => h4 k' ver' cs' (hsub h5)⟩
  · intro k v cs hk hv hn hl
    show lk (st'.bx.filter _) k = _
    rw [hlk, if_pos hk]
    exact h.pend k v cs hk hv hn hl

theorem callFunc_enter {f : FuncId} {fn : Func} {code : Code} (hf : P.funcs[f]? = some fn) (hn : (fn.name == "runtime.NumGoroutine") = false) (hb : fn.body = some code) (vals : Array Value) : (callFunc f vals).run P w = .ok (.enter f vals) w := by
  simp only [callFunc, Sem.run_bind, run_program, Result.andThen_ok, hf, hn, hb, Option.isNone_some, Bool.false_eq_true, if_false, Sem.run_pure]

theorem calls_ok (hT : TTok P X.T) (hm : P.follows .mixedOrders = true) {prog : Prog} (hP : ProgOk P X prog.fn) (hO : OracOk P X prog) : ∀ n, CallOk P X.fm (acall prog n)
  | 0 => by intro d c args st r st' h; cases h
  | n + 1 => by
    intro d c args st r st' h f hf G w0 w vals hfm hR hV
    rw [acall] at h
    cases hc : prog.fn c with
    | none =>
      rw [hc] at h
      simp only [Option.map_eq_some_iff, Prod.mk.injEq] at h
      obtain ⟨r', h1, rfl, rfl⟩ := h
      exact hO f c hf hc args r' h1 G w0 st w vals d hfm hR hV
    | some F =>
      rw [hc] at h
      simp only at h
      split at h
      case isFalse => cases h
      rename_i hn
      obtain ⟨fn, code, h1, h2, h3, h4, h5, h6, h7⟩ := (hP f c F hf hc).ok
      refine .inl ⟨callFunc_enter h1 h2 h3 _, calls_of_wp h1 h3 ?_⟩
      rw [h4]
      have hcode : CodeOk P X F.nt d (acode (acall prog n) n d F.body) code := code_ok hT (calls_ok hT hm hP hO n) hm n d (SizeOf.sizeOf code + 1) code (Nat.lt_succ_self _) h5
      have fin : ∀ {σ : Sl} {st1 : St} {r' : AV}, ares σ st1 F.res = some r' → r' = r → { st1 with bx := st1.bx.filter fun x => x.1.1 < d } = st' → ∀ a' w' G', RelA G' F.nt σ a' → Run G G' w0 st st1 w' d →
          a'.defers = [] ∧ ∃ v, (results fn a'.tmps).run P w' = .ok v w' ∧ ∃ G', R G' r v ∧ Run G G' w0 st st' w' d := by
        intro σ st1 r' h8 h9 h10 a' w' G' hA' hrun
        subst h9
        subst h10
        obtain ⟨u, h11, h12⟩ := results_ok hT hA' hrun.rel h6 h7 h8
        exact ⟨hA'.1, u, h11, G', h12, hrun.out⟩
      split at h
      · rename_i σ st1 h8
        simp only [Option.map_eq_some_iff, Prod.mk.injEq] at h
        obtain ⟨r', h9, h10, h11⟩ := h
        exact hcode h8 hfm.symm (RelA.enter hV hn) hR (fin h9 h10 h11)
      · rename_i σ st1 h8
        simp only [Option.map_eq_some_iff, Prod.mk.injEq] at h
        obtain ⟨r', h9, h10, h11⟩ := h
        exact hcode h8 hfm.symm (RelA.enter hV hn) hR (fin h9 h10 h11)
      · cases h

end
end Go.AM
