/- Every operation that is no call of a function. -/
import Derived.Test.YtdfkdendkdbnkaaAm11
set_option linter.all false
namespace Go.AM
open Go Go.RowKit Go.BigFrame

def AOp.isCall : AOp → Bool
  | .call _ _ _ | .callv _ _ => true
  | _ => false

section
variable {P : Program} {G : Gh} {w0 w : World} {st : St} {X : Cx}

set_option maxHeartbeats 1000000 in
theorem exec_ok (hT : TTok P X.T) (hfm : X.fm = G.fm) {nt : Nat} {σ : Sl} {a : Act} (hA : RelA G nt σ a) (hR : Rel G w0 st w) {o : Oper} {aop : AOp} (hc : cOp X o.op = some aop) (hn : aop.isCall = false) {C : CallF} {d site ver : Nat} {r : AV} {st' : St} (h : aexec C d site ver σ st aop = some (r, st'))
    (hρ : G.ρ (d, site) ver = none) (hω : G.ω (d, site) ver = none) (hv : ver < st.nx) (hpre : ∀ zero, aop = .alloc zero → lk st.bx (d, site) = some (ver, zero)) : Did P G w0 st w o a r st' d site ver := by
  have hS : ∀ {x : Operand} {y : Opd}, cOpd X.fm x = some y → R G (y.ev σ) (a.eval x) := fun hx => cOpd_ok hA (by rw [← hfm]; exact hx)
  have hO : ∀ {x : Option Operand} {y : Option Opd}, cOpt X.fm x = some y → SameO G σ a x y := fun hx => cOpt_ok hA (by rw [← hfm]; exact hx)
  generalize hop : o.op = op at hc
  cases op with
  | move x =>
    simp only [cOp] at hc
    split at hc
    · rename_i y hy
      cases hc
      simp only [aexec] at h
      have hq := apure_state h
      clear h
      obtain ⟨h, rfl⟩ := hq
      cases h
      exact .pure hR ⟨_, by simp only [execOp, hop]; rfl, hS hy⟩
    · cases hc
  | assign x =>
    simp only [cOp] at hc
    split at hc
    · rename_i y hy
      cases hc
      simp only [aexec] at h
      have hq := apure_state h
      clear h
      obtain ⟨h, rfl⟩ := hq
      cases h
      exact .pure hR ⟨_, by simp only [execOp, hop]; rfl, hS hy⟩
    · cases hc
  | pick c x y =>
    simp only [cOp] at hc
    split at hc
    · rename_i c' x' y' h1 h2 h3
      cases hc
      simp only [aexec] at h
      have hq := apure_state h
      clear h
      obtain ⟨h, rfl⟩ := hq
      simp only [apure] at h
      have hc' := hS h1
      generalize c'.ev σ = cv at h hc'
      revert hc'
      split at h
      · rename_i t
        intro hc'
        cases h
        refine .pure hR ⟨_, by simp only [execOp, hop, hc'.bool_inv, asBool, Sem.run_bind, Sem.run_pure, Result.andThen_ok]; rfl, ?_⟩
        cases t
        · exact hS h3
        · exact hS h2
      · cases h
    · cases hc
  | alloc t =>
    simp only [cOp] at hc
    split at hc
    · rename_i i hi
      cases hc
      simp only [aexec] at h
      have hq := apure_state h
      clear h
      obtain ⟨h, rfl⟩ := hq
      cases h
      obtain ⟨v, w', G', h1, h2, h3⟩ := aalloc_ok (P := P) hR (hT t i hi) (hpre _ rfl) hρ hv
      exact .val (by simp only [execOp, hop]; exact run_val h1) h2 h3
    · cases hc
  | box t x =>
    simp only [cOp] at hc
    split at hc
    · rename_i i y hi hy
      cases hc
      simp only [aexec] at h
      split at h
      · rename_i hcond
        cases h
        obtain ⟨v, w', G', h1, h2, h3⟩ := abox_ok (P := P) (t := t) hR (hS hy) hcond.2 hρ hv
        exact .val (by simp only [execOp, hop]; exact run_val h1) h2 h3
      · cases h
    · cases hc
  | build t parts =>
    simp only [cOp] at hc
    split at hc
    · rename_i i hi
      split at hc
      · rename_i fs hk
        split at hc
        · rename_i ps hall hps
          cases hc
          simp only [aexec] at h
          have hq := apure_state h
          clear h
          obtain ⟨h, rfl⟩ := hq
          simp only [apure] at h
          have hk' := (hT t i hi).kind
          rw [hk] at hk'
          obtain ⟨fields, hu, hmap⟩ := hk'
          rw [← hmap] at hall
          obtain ⟨places, hpl, hget⟩ := mapM_all hT fields.toList hall
          have hp := cParts_ok hA hfm hT hps (place := (places.toArray[·]?)) (fun j ft off ti hf ht => by
            have := hget j ft off ti (by rw [hmap]; exact hf) ht
            simpa using this)
          obtain ⟨v, h1, h2⟩ := build_ok (P := P) (w := w) (hT t i hi) hp h (fun z ti h1 h2 => by unfold Program.built; simp only [h1, hu, h2, hpl])
          refine .pure hR ⟨v, ?_, h2⟩
          simp only [execOp, hop]
          refine run_val ?_
          rw [show (parts.map fun p => (p.1, a.eval p.2)) = (parts.toList.map fun p => (p.1, a.eval p.2)).toArray from by apply Array.ext'; simp]
          exact h1
        · cases hc
      · rename_i n e hk
        split at hc
        · rename_i ie hie
          split at hc
          · rename_i ps hps
            cases hc
            simp only [aexec] at h
            have hq := apure_state h
            clear h
            obtain ⟨h, rfl⟩ := hq
            simp only [apure] at h
            have hu := (hT t i hi).kind
            rw [hk] at hu
            obtain ⟨ti, hti, hsz, _⟩ := (hT e ie hie).ti
            have hp := cPartsA_ok hA hfm hps
            obtain ⟨v, h1, h2⟩ := build_ok (P := P) (w := w) (hT t i hi) hp h (fun z ti' h1 h2 => by unfold Program.built; simp only [h1, show P.underlying t = some (.array n e) from hu, h2, hti, hsz])
            refine .pure hR ⟨v, ?_, h2⟩
            simp only [execOp, hop]
            refine run_val ?_
            rw [show (parts.map fun p => (p.1, a.eval p.2)) = (parts.toList.map fun p => (p.1, a.eval p.2)).toArray from by apply Array.ext'; simp]
            exact h1
          · cases hc
        · cases hc
      · cases hc
    · cases hc
  | buildSlice t n parts =>
    simp only [cOp] at hc
    split at hc
    · rename_i e hk
      obtain ⟨_, _, _, _, hu⟩ := kind_inv hT hk
      split at hc
      · rename_i i ps hi hps
        cases hc
        simp only [aexec] at h
        have hq := apure_state h
        clear h
        obtain ⟨h, rfl⟩ := hq
        have hp := cPartsR_ok hA hfm hps
        obtain ⟨v, w', G', h1, h2, h3⟩ := bslice_ok (P := P) hR hu (hT e i hi) hp h (d := d) (site := site) (ver' := ver)
        refine .val ?_ h2 h3
        simp only [execOp, hop]
        refine run_val ?_
        rw [show (parts.map fun p => (p.1, a.eval p.2)) = (parts.toList.map fun p => (p.1, a.eval p.2)).toArray from by apply Array.ext'; simp]
        exact h1
      · cases hc
    · cases hc
  | load t x =>
    simp only [cOp] at hc
    split at hc
    · rename_i i y hi hy
      split at hc
      · rename_i hs
        cases hc
        simp only [aexec, Option.map_eq_some_iff, Prod.mk.injEq] at h
        obtain ⟨r', h, rfl, rfl⟩ := h
        obtain ⟨v, h1, h2⟩ := aload_ok (P := P) hR (hT t i hi) (okSize_inv hs) h (hS hy)
        exact .pure hR ⟨v, by simp only [execOp, hop]; exact run_val h1, h2⟩
      · cases hc
    · cases hc
  | store t x y =>
    simp only [cOp] at hc
    split at hc
    · rename_i i x' y' hi hx hy
      cases hc
      simp only [aexec, Option.map_eq_some_iff, Prod.mk.injEq] at h
      obtain ⟨st'', h, rfl, rfl⟩ := h
      obtain ⟨w', h1, h2⟩ := astore_ok (P := P) hR (hT t i hi) h (hS hx) (hS hy) (d := d) (site := site) (ver := ver)
      exact ⟨.skip, undef, w', G, by simp only [execOp, hop]; exact run_unit h1, .inr ⟨rfl, rfl⟩, .und, h2⟩
    · cases hc
  | nilCheck x =>
    simp only [cOp] at hc
    split at hc
    · rename_i y hy
      cases hc
      simp only [aexec] at h
      have hq := apure_state h
      clear h
      obtain ⟨h, rfl⟩ := hq
      simp only [apure] at h
      have hx := hS hy
      generalize y.ev σ = yv at h hx
      split at h
      · cases h
        obtain ⟨g, hg, _⟩ := hx.p_inv
        exact .pure hR ⟨a.eval x, by simp only [execOp, hop, hg]; rfl, hx⟩
      · cases h
        obtain ⟨g, off, us, hg, _⟩ := hx.fp_inv
        exact .pure hR ⟨a.eval x, by simp only [execOp, hop, hg]; rfl, hx⟩
      · cases h
    · cases hc
  | binOp op t x y yt =>
    simp only [cOp] at hc
    have bin : ∀ {x' y' : Opd}, cOpd X.fm x = some x' → cOpd X.fm y = some y' → aexec C d site ver σ st (.bin op x' y') = some (r, st') → Did P G w0 st w o a r st' d site ver := by
      clear h
      intro x' y' hx hy h
      simp only [aexec] at h
      have hq := apure_state h
      clear h
      obtain ⟨h, rfl⟩ := hq
      simp only [apure] at h
      obtain ⟨v, h1, h2⟩ := bin_ok (P := P) (w := w) (t := t) (hS hx) (hS hy) h
      refine .pure hR ⟨v, ?_, h2⟩
      simp only [execOp, hop]
      refine run_val ?_
      rcases abin_shape h (hS hx) (hS hy) with ⟨k, m, k', n, e1, e2⟩ | ⟨m, n, e1, e2⟩
      · rw [e1, e2] at h1 ⊢
        simp only [Sem.run_bind, eqGuard_int, Result.andThen_ok, h1]
      · rw [e1, e2] at h1 ⊢
        simp only [Sem.run_bind, eqGuard_str, Result.andThen_ok, h1]
    have beq : ∀ {x' y' : Opd} (neg : Bool), op = (if neg then .neq else .eql) → P.underlying t = some .bool → cOpd X.fm x = some x' → cOpd X.fm y = some y' → aexec C d site ver σ st (.beq neg x' y') = some (r, st') → Did P G w0 st w o a r st' d site ver := by
      clear h
      intro x' y' neg hopn hu hx hy h
      simp only [aexec] at h
      have hq := apure_state h
      clear h
      obtain ⟨h, rfl⟩ := hq
      simp only [apure] at h
      obtain ⟨v, h1, h2⟩ := beq_ok (P := P) (w := w) hu h (hS hx) (hS hy)
      refine .pure hR ⟨v, ?_, h2⟩
      simp only [execOp, hop]
      refine run_val ?_
      have e : ∃ m n, a.eval x = .bool m ∧ a.eval y = .bool n := by
        have h3 := hS hx
        have h4 := hS hy
        generalize x'.ev σ = xv at h h3
        generalize y'.ev σ = yv at h h4
        split at h
        · exact ⟨_, _, h3.bool_inv, h4.bool_inv⟩
        · cases h
      obtain ⟨m, n, e1, e2⟩ := e
      rw [e1, e2] at h1 ⊢
      simp only [Sem.run_bind, eqGuard_bool, Result.andThen_ok]
      rw [hopn]
      exact h1
    split at hc
    · rename_i k x' y' hk hx hy; cases hc; exact bin hx hy h
    · rename_i x' y' hk hx hy; cases hc; exact bin hx hy h
    · rename_i x' y' hk hx hy
      obtain ⟨_, _, _, _, hu⟩ := kind_inv hT hk
      split at hc
      · cases hc; exact beq false rfl hu hx hy h
      · cases hc; exact beq true rfl hu hx hy h
      · cases hc
    · cases hc
  | unOp op t x =>
    simp only [cOp] at hc
    split at hc
    · rename_i y hy
      cases hc
      simp only [aexec] at h
      have hq := apure_state h
      clear h
      obtain ⟨h, rfl⟩ := hq
      simp only [apure] at h
      obtain ⟨v, h1, h2⟩ := un_ok (P := P) (w := w) h (hS hy)
      exact .pure hR ⟨v, by simp only [execOp, hop]; exact run_val h1, h2⟩
    · cases hc
  | convert s t x =>
    simp only [cOp] at hc
    split at hc
    · rename_i k1 k2 y hk1 hk2 hy
      cases hc
      obtain ⟨_, _, _, _, hu1⟩ := kind_inv hT hk1
      obtain ⟨_, _, _, _, hu2⟩ := kind_inv hT hk2
      simp only [aexec] at h
      have hq := apure_state h
      clear h
      obtain ⟨h, rfl⟩ := hq
      simp only [apure] at h
      obtain ⟨v, h1, h2⟩ := cvi_ok (P := P) (w := w) hu1 hu2 h (hS hy)
      exact .pure hR ⟨v, by simp only [execOp, hop]; exact run_val h1, h2⟩
    · rename_i e y hk1 hk2 hy
      split at hc
      · rename_i hke
        cases hc
        obtain ⟨_, _, _, _, hu1⟩ := kind_inv hT hk1
        obtain ⟨_, _, _, _, hu2⟩ := kind_inv hT hk2
        obtain ⟨_, _, _, _, hue⟩ := kind_inv hT hke
        simp only [aexec] at h
        have hq := apure_state h
        clear h
        obtain ⟨h, rfl⟩ := hq
        simp only [apure] at h
        obtain ⟨v, h1, h2⟩ := b2s_ok (P := P) (w := w) hu1 hue hu2 hR.cell h (hS hy)
        exact .pure hR ⟨v, by simp only [execOp, hop]; exact run_val h1, h2⟩
      · cases hc
    · cases hc
  | makeFunc fn first cap =>
    cases fn with
    | func f =>
      simp only [cOp] at hc
      split at hc
      · rename_i c l hf hfi hl
        cases hc
        simp only [aexec] at h
        have hq := apure_state h
        clear h
        obtain ⟨h, rfl⟩ := hq
        simp only [apure] at h
        cases h
        rw [hfm] at hf hl
        have hr := cOpds_ok hA hl
        have hfe : first = #[] := by apply Array.ext'; simpa using hfi
        refine .pure hR ⟨_, ?_, .fn _ f hf _ _ hr.1 hr.2⟩
        simp only [execOp, hop]
        refine run_val ?_
        have he : cap.map a.eval = (cap.toList.map a.eval).toArray := by apply Array.ext'; simp
        simp [Instr.makeFunc, hfe, he]
      · cases hc
    | _ => simp only [cOp] at hc; cases hc
  | makeSlice t l c =>
    simp only [cOp] at hc
    split at hc
    · rename_i e l' c' hk hl hcc
      obtain ⟨_, _, _, _, hu⟩ := kind_inv hT hk
      split at hc
      · rename_i i hi
        cases hc
        obtain ⟨v, w', G', h1, h2, h3⟩ := mks_ok (P := P) hR hu (hT e i hi) (hS hl) (hS hcc) h
        exact .val (by simp only [execOp, hop]; exact run_val h1) h2 h3
      · cases hc
    · cases hc
  | slice t x lo hi mx =>
    cases mx with
    | some m => simp only [cOp] at hc; cases hc
    | none =>
      simp only [cOp] at hc
      split at hc
      · rename_i x' lo' hi' hk hx hlo hhi
        cases hc
        obtain ⟨_, _, _, _, hu⟩ := kind_inv hT hk
        simp only [aexec] at h
        have hq := apure_state h
        clear h
        obtain ⟨h, rfl⟩ := hq
        simp only [apure] at h
        obtain ⟨v, h1, h2⟩ := slS_ok (P := P) (w := w) hu (hS hx) (hO hlo) (hO hhi) h
        exact .pure hR ⟨v, by simp only [execOp, hop]; exact run_val h1, h2⟩
      · rename_i e x' lo' hi' hk hx hlo hhi
        split at hc
        · rename_i i hi2
          cases hc
          obtain ⟨_, _, _, _, hu⟩ := kind_inv hT hk
          obtain ⟨ti, hti, hsz, _⟩ := (hT e i hi2).ti
          simp only [aexec] at h
          have hq := apure_state h
          clear h
          obtain ⟨h, rfl⟩ := hq
          simp only [apure] at h
          rw [← hsz] at h
          obtain ⟨v, h1, h2⟩ := slL_ok (P := P) (w := w) hu hti (hS hx) (hO hlo) (hO hhi) h
          exact .pure hR ⟨v, by simp only [execOp, hop]; exact run_val h1, h2⟩
        · cases hc
      · rename_i n e x' lo' hi' hk hx hlo hhi
        split at hc
        · rename_i i hi2
          cases hc
          obtain ⟨_, _, _, _, hu⟩ := kind_inv hT hk
          obtain ⟨ti, hti, hsz, _⟩ := (hT e i hi2).ti
          rw [← hsz] at h
          obtain ⟨v, G', h1, h2, h3⟩ := slA_ok (P := P) hR hu hti (hS hx) (hO hlo) (hO hhi) h
          exact .val (by simp only [execOp, hop]; exact run_val h1) h2 h3
        · cases hc
      · cases hc
  | fieldAddr s x f =>
    simp only [cOp] at hc
    split at hc
    · rename_i fs y hk hy
      split at hc
      · rename_i ft off hf
        split at hc
        · rename_i i hi
          split at hc
          · cases hc
          · rename_i hz
            cases hc
            obtain ⟨_, _, _, _, hu⟩ := kind_inv hT hk
            obtain ⟨ti, hti, hsz, _⟩ := (hT ft i hi).ti
            simp only [aexec] at h
            have hq := apure_state h
            clear h
            obtain ⟨h, rfl⟩ := hq
            simp only [apure] at h
            obtain ⟨v, h1, h2⟩ := fad_ok (P := P) (w := w) hu hf hti (by omega) h (hS hy)
            exact .pure hR ⟨v, by simp only [execOp, hop]; exact run_val h1, h2⟩
        · cases hc
      · cases hc
    · cases hc
  | field s x f =>
    simp only [cOp] at hc
    split at hc
    · rename_i fs y hk hy
      split at hc
      · rename_i ft off hf
        split at hc
        · rename_i i hi
          split at hc
          · rename_i hs
            cases hc
            obtain ⟨_, _, _, _, hu⟩ := kind_inv hT hk
            simp only [aexec] at h
            have hq := apure_state h
            clear h
            obtain ⟨h, rfl⟩ := hq
            simp only [apure] at h
            obtain ⟨v, h1, h2⟩ := fld_ok (P := P) (w := w) hu hf (hT ft i hi) (okSize_inv hs) h (hS hy)
            exact .pure hR ⟨v, by simp only [execOp, hop]; exact run_val h1, h2⟩
          · cases hc
        · cases hc
      · cases hc
    · cases hc
  | indexAddr t x i =>
    simp only [cOp] at hc
    split at hc
    · rename_i e x' i' hk hx hi
      split at hc
      · rename_i ti' hti'
        cases hc
        obtain ⟨_, _, _, _, hu⟩ := kind_inv hT hk
        obtain ⟨ti, hti, hsz, _⟩ := (hT e ti' hti').ti
        simp only [aexec] at h
        have hq := apure_state h
        clear h
        obtain ⟨h, rfl⟩ := hq
        simp only [apure] at h
        rw [← hsz] at h
        obtain ⟨v, h1, h2⟩ := iaL_ok (P := P) (w := w) hu hti h (hS hx) (hS hi)
        exact .pure hR ⟨v, by simp only [execOp, hop]; exact run_val h1, h2⟩
      · cases hc
    · rename_i n e x' i' hk hx hi
      split at hc
      · rename_i ti' hti'
        cases hc
        obtain ⟨_, _, _, _, hu⟩ := kind_inv hT hk
        obtain ⟨ti, hti, hsz, _⟩ := (hT e ti' hti').ti
        simp only [aexec] at h
        have hq := apure_state h
        clear h
        obtain ⟨h, rfl⟩ := hq
        simp only [apure] at h
        rw [← hsz] at h
        obtain ⟨v, h1, h2⟩ := iaA_ok (P := P) (w := w) hu hti h (hS hx) (hS hi)
        exact .pure hR ⟨v, by simp only [execOp, hop]; exact run_val h1, h2⟩
      · cases hc
    · cases hc
  | index t x i =>
    simp only [cOp] at hc
    split at hc
    · rename_i x' i' hk hx hi
      cases hc
      obtain ⟨_, _, _, _, hu⟩ := kind_inv hT hk
      simp only [aexec] at h
      have hq := apure_state h
      clear h
      obtain ⟨h, rfl⟩ := hq
      simp only [apure] at h
      obtain ⟨v, h1, h2⟩ := ixS_ok (P := P) (w := w) hu h (hS hx) (hS hi)
      exact .pure hR ⟨v, by simp only [execOp, hop]; exact run_val h1, h2⟩
    · rename_i n e x' i' hk hx hi
      split at hc
      · rename_i ti' hti'
        split at hc
        · rename_i hs
          cases hc
          obtain ⟨_, _, _, _, hu⟩ := kind_inv hT hk
          simp only [aexec] at h
          have hq := apure_state h
          clear h
          obtain ⟨h, rfl⟩ := hq
          simp only [apure] at h
          obtain ⟨v, h1, h2⟩ := ixA_ok (P := P) (w := w) hu (hT e ti' hti') (okSize_inv hs) h (hS hx) (hS hi)
          exact .pure hR ⟨v, by simp only [execOp, hop]; exact run_val h1, h2⟩
        · cases hc
      · cases hc
    · cases hc
  | extract x k =>
    simp only [cOp] at hc
    split at hc
    · rename_i y hy
      cases hc
      simp only [aexec] at h
      have hq := apure_state h
      clear h
      obtain ⟨h, rfl⟩ := hq
      simp only [apure] at h
      obtain ⟨v, h1, h2⟩ := ext_ok (P := P) (w := w) h (hS hy)
      exact .pure hR ⟨v, by simp only [execOp, hop]; exact run_val h1, h2⟩
    · cases hc
  | call c =>
    obtain ⟨dst, op', ty, pos, after, guard⟩ := o
    simp only at hop
    subst hop
    obtain ⟨callee, args, tys⟩ := c
    simp only [cOp] at hc
    cases callee with
    | invoke x n => simp only [cCall] at hc; cases hc
    | value f =>
      simp only [cCall] at hc
      split at hc
      · cases hc; cases hn
      · cases hc; cases hn
      · cases hc
    | builtin b =>
      simp only [cCall] at hc
      unfold cBuiltin at hc
      split at hc
      · rename_i x t ha ht
        have ha' : args = #[x] := by apply Array.ext'; simpa using ha
        have ht' : tys = #[t] := by apply Array.ext'; simpa using ht
        subst ha'
        subst ht'
        split at hc
        · rename_i y hk hy
          cases hc
          obtain ⟨_, _, _, _, hu⟩ := kind_inv hT hk
          simp only [aexec] at h
          have hq := apure_state h
          clear h
          obtain ⟨h, rfl⟩ := hq
          simp only [apure] at h
          obtain ⟨v, h1, h2⟩ := lenS_ok (P := P) (w := w) (ty := ty) hu h (hS hy)
          exact .pure hR ⟨v, by rw [execOp_builtin]; simp only [builtin_len]; rw [show (#[x] : Array Operand).map a.eval = #[a.eval x] from by simp]; exact run_val h1, h2⟩
        · rename_i e y hk hy
          cases hc
          obtain ⟨_, _, _, _, hu⟩ := kind_inv hT hk
          simp only [aexec] at h
          have hq := apure_state h
          clear h
          obtain ⟨h, rfl⟩ := hq
          simp only [apure] at h
          obtain ⟨v, h1, h2⟩ := lenL_ok (P := P) (w := w) (ty := ty) hu h (hS hy)
          exact .pure hR ⟨v, by rw [execOp_builtin]; simp only [builtin_len]; rw [show (#[x] : Array Operand).map a.eval = #[a.eval x] from by simp]; exact run_val h1, h2⟩
        · cases hc
      · rename_i s x t t2 ha ht
        have ha' : args = #[s, x] := by apply Array.ext'; simpa using ha
        have ht' : tys = #[t, t2] := by apply Array.ext'; simpa using ht
        subst ha'
        subst ht'
        split at hc
        · rename_i e e2 s' x' hk hk2 hs hx
          split at hc
          · rename_i i hi
            cases hc
            obtain ⟨_, _, _, _, hu⟩ := kind_inv hT hk
            obtain ⟨_, _, _, _, hu2⟩ := kind_inv hT hk2
            obtain ⟨ti, z, hti, hsz, hby, hz, _, hzs⟩ := (hT e i hi).info
            simp only [aexec] at h
            have hx' := hS hx
            generalize x'.ev σ = xv at h hx'
            revert hx'
            split at h
            · rename_i o news
              intro hx'
              obtain ⟨A, cap, hxe, hF, _⟩ := hx'.sl_inv
              rw [← hsz, ← hby] at h
              obtain ⟨us, hus⟩ : ∃ us, (∀ row ∈ news, row.length = ti.size) → Src P G.H w (.slice A news.length cap) ti.size news us := by
                by_cases hns : ∀ row ∈ news, row.length = ti.size
                · obtain ⟨us, h1⟩ := Src.slice (P := P) hR hF hns
                  exact ⟨us, fun _ => h1⟩
                · exact ⟨fun _ _ => undef, fun h => absurd h hns⟩
              obtain ⟨v, w', G', h1, h2, h3⟩ := aapp_ok (P := P) (ty := ty) hR hu hu2 (.inr ⟨_, rfl⟩) hti hz (by rw [hzs, hsz]) hus hω hv h (hS hs)
              refine .val ?_ h2 h3
              rw [execOp_builtin]
              simp only [builtin_append]
              refine run_val ?_
              rw [show (#[s, x] : Array Operand).map a.eval = #[a.eval s, .slice A news.length cap] from by simp [hxe]]
              exact h1
            · cases h
          · cases hc
        · rename_i e s' x' hk hk2 hs hx
          split at hc
          · rename_i i hi
            split at hc
            · rename_i h11
              cases hc
              obtain ⟨_, _, _, _, hu⟩ := kind_inv hT hk
              obtain ⟨_, _, _, _, hu2⟩ := kind_inv hT hk2
              obtain ⟨ti, z, hti, hsz, hby, hz, _, hzs⟩ := (hT e i hi).info
              simp only [aexec] at h
              have hx' := hS hx
              generalize x'.ev σ = xv at h hx'
              revert hx'
              split at h
              · rename_i l
                intro hx'
                have hxe := hx'.str_inv
                have e1 : ti.size = 1 := by rw [hsz, h11.1]
                have e2 : ti.bytes = 1 := by rw [hby, h11.2]
                rw [show aapp (d, site) ver 1 1 (s'.ev σ) (l.map row8) st = aapp (d, site) ver ti.size ti.bytes (s'.ev σ) (l.map row8) st from by rw [e1, e2]] at h
                obtain ⟨v, w', G', h1, h2, h3⟩ := aapp_ok (P := P) (ty := ty) hR hu hu2 (.inl rfl) hti hz (by rw [hzs, hsz]) (vx := .string ⟨l.toArray⟩) (fun _ => by rw [e1]; exact Src.str) hω hv h (hS hs)
                refine .val ?_ h2 h3
                rw [execOp_builtin]
                simp only [builtin_append]
                refine run_val ?_
                rw [show (#[s, x] : Array Operand).map a.eval = #[a.eval s, .string ⟨l.toArray⟩] from by simp [hxe]]
                exact h1
              · cases h
            · cases hc
          · cases hc
        · cases hc
      · rename_i x y ha
        have ha' : args = #[x, y] := by apply Array.ext'; simpa using ha
        subst ha'
        split at hc
        · rename_i x' y' hx hy
          cases hc
          simp only [aexec] at h
          have hq := apure_state h
          clear h
          obtain ⟨h, rfl⟩ := hq
          simp only [apure] at h
          have hx' := hS hx
          have hy' := hS hy
          generalize x'.ev σ = xv at h hx'
          generalize y'.ev σ = yv at h hy'
          revert hx' hy'
          split at h
          · rename_i k m k' n
            intro hx' hy'
            split at h
            · rename_i hk
              subst hk
              cases h
              refine .pure hR ⟨_, ?_, .fz _ _ (.i _ _)⟩
              rw [execOp_builtin]
              simp only [builtin_max]
              refine run_val ?_
              rw [show (#[x, y] : Array Operand).map a.eval = #[.int k m, .int k n] from by simp [hx'.int_inv, hy'.int_inv]]
              simp [Builtin.max_, Builtin.max2]
            · cases h
          · cases h
        · cases hc
      · cases hc
  | _ => simp only [cOp] at hc; cases hc

end
end Go.AM
