/- The abstract machine's operations with state: new boxes, arrays that are sliced, rows that grow. -/
import Derived.Test.YtdfkdendkdbnkaaAm5
set_option linter.all false
namespace Go.AM
open Go Go.RowKit

def Gh.setρ (G : Gh) (k : Key) (v g : Nat) : Gh := ⟨G.H, fun k' v' => if k' = k ∧ v' = v then some g else G.ρ k' v', G.ω, G.fm⟩

section
variable {P : Program} {G : Gh} {w0 w : World} {st : St}

theorem Gh.le_setρ {k : Key} {v : Nat} (h : G.ρ k v = none) (g : Nat) : G.Le (G.setρ k v g) :=
  ⟨fun _ _ _ h => h, fun k' v' g' h' => by
    show (if k' = k ∧ v' = v then some g else G.ρ k' v') = some g'
    rw [if_neg (by rintro ⟨rfl, rfl⟩; rw [h] at h'; cases h')]
    exact h', fun _ _ _ h => h, rfl⟩

theorem Rel.newBox (hR : Rel G w0 st w) {key : Key} {ver : Nat} {cs : List AV} {us : List Value} {e : TypeId} (hr : Rs G cs us) (h1 : ∀ x ∈ us, x.oneCell' = true) (hρ : G.ρ key ver = none) (hv : ver < st.nx)
    {bx' : List (Key × Nat × List AV)} (hk : lk bx' key = some (ver, cs)) (hne : ∀ k, k ≠ key → lk bx' k = lk st.bx k) :
    Rel (G.setρ key ver w.heap.size) w0 { st with bx := bx' } (w.alloc (.cells us.toArray e)) := by
  have hle := G.le_setρ hρ w.heap.size
  have hbel : Below w.heap.size w (w.alloc (.cells us.toArray e)) := (Below.refl _ _).alloc (Nat.le_refl _) _
  have hsz := hR.bel.size
  have hold : ∀ k v g, (G.setρ key ver w.heap.size).ρ k v = some g → (k = key ∧ v = ver ∧ g = w.heap.size) ∨ G.ρ k v = some g := by
    intro k v g h
    have h' : (if k = key ∧ v = ver then some w.heap.size else G.ρ k v) = some g := h
    split at h'
    · rename_i hh; cases h'; exact .inl ⟨hh.1, hh.2, rfl⟩
    · exact .inr h'
  have hbox : ∀ g cs, BoxAt G w0 w cs g → BoxAt (G.setρ key ver w.heap.size) w0 (w.alloc (.cells us.toArray e)) cs g ∧ g < w.heap.size := by
    rintro g cs ⟨us1, e1, a1, a2, a3, a4, a5⟩
    exact ⟨⟨us1, e1, a1, by rw [hbel.block g (block_lt a2)]; exact a2, a3.mono hle, a4, a5⟩, block_lt a2⟩
  -- an entry other than the new one is an old one
  have hent : ∀ k v c g, lk bx' k = some (v, c) → (G.setρ key ver w.heap.size).ρ k v = some g → (k = key ∧ v = ver ∧ c = cs ∧ g = w.heap.size) ∨ (k ≠ key ∧ lk st.bx k = some (v, c) ∧ G.ρ k v = some g ∧ g < w.heap.size) := by
    intro k v c g hl hg
    by_cases hkk : k = key
    · subst hkk
      rw [hk] at hl
      cases hl
      rcases hold _ _ _ hg with ⟨_, _, rfl⟩ | h
      · exact .inl ⟨rfl, rfl, rfl, rfl⟩
      · rw [hρ] at h; cases h
    · rw [hne k hkk] at hl
      rcases hold _ _ _ hg with ⟨rfl, _⟩ | h
      · exact absurd rfl hkk
      · exact .inr ⟨hkk, hl, h, (hbox g c (hR.bx k v c g hl h)).2⟩
  refine ⟨hR.bel.trans (hbel.mono hsz), ?_, ?_, ?_, ?_, hR.owinj, ?_⟩
  · intro g o v h
    have hlt := hR.Hlt (G := G) h
    obtain ⟨a, b⟩ := hR.ext g o v h
    exact ⟨by rw [hbel.cell (p := ⟨g, o, none⟩) hlt]; exact a, b⟩
  · intro k v c g hl hg
    rcases hent k v c g hl hg with ⟨rfl, rfl, rfl, rfl⟩ | ⟨_, h1', h2', _⟩
    · refine ⟨us, e, hsz, heap_alloc_new w _, hr.mono hle, h1, fun o => ?_⟩
      cases h : G.H w.heap.size o with
      | none => exact h
      | some v => have := hR.Hlt h; omega
    · exact (hbox g c (hR.bx k v c g h1' h2')).1
  · intro k k' v v' c c' g a1 a2 a3 a4
    rcases hent k v c g a1 a3 with ⟨rfl, rfl, rfl, rfl⟩ | ⟨_, b1, b2, b3⟩
    · rcases hent k' v' c' _ a2 a4 with ⟨rfl, _⟩ | ⟨_, _, _, b3⟩
      · rfl
      · omega
    · rcases hent k' v' c' g a2 a4 with ⟨rfl, rfl, rfl, rfl⟩ | ⟨_, d1, d2, _⟩
      · omega
      · exact hR.inj k k' v v' c c' g b1 d1 b2 d2
  · intro k v n h
    obtain ⟨g, cap, size, h1', ⟨cur, e', a1, a2, a3, a4, a5, a6⟩, h8⟩ := hR.ow k v n h
    refine ⟨g, cap, size, h1', ⟨cur, e', a1, by rw [hbel.block g (block_lt a2)]; exact a2, a3, a4, a5, a6⟩, ?_⟩
    intro k2 v2 c2 hl hg
    rcases hent k2 v2 c2 g hl hg with ⟨_, _, _, rfl⟩ | ⟨_, b1, b2, _⟩
    · have := block_lt a2; omega
    · exact h8 k2 v2 c2 b1 b2
  · intro k v hkv
    have := hR.fresh k v hkv
    refine ⟨?_, this.2⟩
    show (if k = key ∧ v = ver then some w.heap.size else G.ρ k v) = none
    rw [if_neg (by rintro ⟨_, rfl⟩; have : st.nx ≤ v := hkv; omega)]
    exact this.1

theorem Step.newBox (hR : Rel G w0 st w) {d site ver : Nat} {cs : List AV} {us : List Value} {e : TypeId} (hr : Rs G cs us) (h1 : ∀ x ∈ us, x.oneCell' = true) (hρ : G.ρ (d, site) ver = none) (hv : ver < st.nx)
    {bx' : List (Key × Nat × List AV)} (hk : lk bx' (d, site) = some (ver, cs)) (hne : ∀ k, k ≠ (d, site) → lk bx' k = lk st.bx k) :
    Step G (G.setρ (d, site) ver w.heap.size) w0 st { st with bx := bx' } (w.alloc (.cells us.toArray e)) d site ver :=
  ⟨G.le_setρ hρ _, hR.newBox hr h1 hρ hv hk hne, Nat.le_refl _, fun k v _ hn => ⟨by
    show (if k = (d, site) ∧ v = ver then some w.heap.size else G.ρ k v) = _
    rw [if_neg (by rintro ⟨rfl, rfl⟩; exact hn rfl)], rfl⟩, fun k v cs _ _ hn _ hl => by show lk bx' k = _; rw [hne k hn]; exact hl, fun _ _ _ h => .inl h⟩

theorem cVal_one {v : Value} {x : AV} (h : cVal v = some x) : v.oneCell' = true := by
  unfold cVal at h
  split at h <;> first | rfl | cases h

theorem cVals_one : ∀ {vs : List Value} {xs : List AV}, cVals vs = some xs → ∀ v ∈ vs, v.oneCell' = true
  | [], _, _, v, hv => by cases hv
  | a :: r, xs, h, v, hv => by
    unfold cVals at h
    split at h
    · rename_i w l hw hl
      rcases List.mem_cons.1 hv with rfl | hv
      · exact cVal_one hw
      · exact cVals_one hl v hv
    · cases h

theorem aalloc_ok (hR : Rel G w0 st w) {t : TypeId} {i : TI} (hT : TOk P t i) {d site ver : Nat} (hk : lk st.bx (d, site) = some (ver, i.zero)) (hρ : G.ρ (d, site) ver = none) (hv : ver < st.nx) :
    ∃ v w' G', (Instr.alloc t true (.tuple #[])).run P w = .ok v w' ∧ R G' (.p (d, site) ver 0) v ∧ Step G G' w0 st st w' d site ver := by
  obtain ⟨ti, z, hi, _, _, hz, hc, _⟩ := hT.info
  have hst := Step.newBox (e := t) hR (cVals_ok (G := G) hc) (cVals_one hc) hρ hv (bx' := st.bx) hk (fun _ _ => rfl)
  refine ⟨_, _, _, ?_, .p _ _ _ w.heap.size ?_, hst⟩
  · simp only [Instr.alloc, zeroValue, typeInfo, Sem.run_bind, run_program, Result.andThen_ok, hi, hz, Sem.run_pure, newVar, newRow, run_newObj]
    rfl
  · show (if _ = _ ∧ _ = _ then some w.heap.size else _) = some w.heap.size
    rw [if_pos ⟨rfl, rfl⟩]

theorem abox_ok (hR : Rel G w0 st w) {t : TypeId} {x : AV} {vx : Value} (hx : R G x vx) (hone : x.cells.all AV.one = true) {d site ver : Nat} (hρ : G.ρ (d, site) ver = none) (hv : ver < st.nx) :
    ∃ v w' G', (Instr.box t vx).run P w = .ok v w' ∧ R G' (.p (d, site) ver 0) v ∧ Step G G' w0 st { st with bx := st_ st.bx (d, site) (ver, x.cells) } w' d site ver := by
  obtain ⟨us, hus, hr, _, h1⟩ := hx.cells hone
  have hst := Step.newBox (e := t) hR hr h1 hρ hv (bx' := st_ st.bx (d, site) (ver, x.cells)) (lk_st_same _ _ _) (fun k hk => lk_st_ne _ _ (Ne.symm hk))
  refine ⟨_, _, _, ?_, .p _ _ _ w.heap.size ?_, hst⟩
  · simp only [Instr.box, newVar, newRow, Sem.run_bind, run_newObj, Result.andThen_ok, Sem.run_pure, hus]
    rfl
  · show (if _ = _ ∧ _ = _ then some w.heap.size else _) = some w.heap.size
    rw [if_pos ⟨rfl, rfl⟩]

/-! ### Frozen things -/
theorem soft_ok {x y : AV} {v : Value} (h : x.soft = some y) (hx : R G x v) : Fz G.H y v := by
  cases x with
  | sl o rows => cases h; obtain ⟨A, cap, rfl, hF, _⟩ := hx.sl_inv; exact hF
  | i k n => cases h; rw [hx.int_inv]; exact .i _ _
  | b t => cases h; rw [hx.bool_inv]; exact .b _
  | s l => cases h; rw [hx.str_inv]; exact .s _
  | np => cases h; rw [hx.np_inv]; exact .np
  | nf => cases h; rw [hx.nf_inv]; exact .nf
  | ni => cases h; rw [hx.ni_inv]; exact .ni
  | p => cases h
  | fp => cases h
  | ag => cases h
  | tup => cases h
  | fn => cases h
  | u => cases h

theorem softs_len : ∀ {xs ys : List AV}, softs xs = some ys → ys.length = xs.length
  | [], ys, h => by cases h; rfl
  | v :: r, ys, h => by
    unfold softs at h
    split at h
    · rename_i w l hw hl; cases h; simp [softs_len hl]
    · cases h

theorem softs_ok : ∀ {xs ys : List AV}, softs xs = some ys → ∀ {us : List Value}, Rs G xs us → ∀ (j : Nat) y u, ys[j]? = some y → us[j]? = some u → Fz G.H y u
  | [], ys, h, us, _, j, y, u, hy, _ => by cases h; simp at hy
  | v :: r, ys, h, us, hr, j, y, u, hy, hu => by
    unfold softs at h
    split at h
    · rename_i w l hw hl
      cases h
      cases us with
      | nil => have := hr.1; simp at this
      | cons u0 us =>
        have hr' : Rs G r us := ⟨by have := hr.1; simpa using this, fun j a u h1 h2 => hr.2 (j + 1) a u (by simpa using h1) (by simpa using h2)⟩
        cases j with
        | zero => simp at hy hu; subst hy; subst hu; exact soft_ok hw (hr.2 0 v u0 rfl rfl)
        | succ j => simp at hy hu; exact softs_ok hl hr' j y u hy hu
    · cases h

/-! ### A sliced array -/
theorem Rel.freezeBox (hR : Rel G w0 st w) {k : Key} {ver g : Nat} {cs : List AV} (hk : lk st.bx k = some (ver, cs)) (hρ : G.ρ k ver = some g) {us : List Value} {e : TypeId} (hheap : w.heap[g]? = some (.cells us.toArray e (0, 0))) (h1 : ∀ x ∈ us, x.oneCell' = true) :
    Rel ⟨fun g' o => if g' = g then us[o]? else G.H g' o, G.ρ, G.ω, G.fm⟩ w0 { st with bx := del st.bx k } w := by
  obtain ⟨_, _, _, _, _, _, hnone⟩ := hR.bx k ver cs g hk hρ
  have hle : G.Le ⟨fun g' o => if g' = g then us[o]? else G.H g' o, G.ρ, G.ω, G.fm⟩ := ⟨fun g' o v h => by
    show (if g' = g then us[o]? else G.H g' o) = some v
    rw [if_neg (by rintro rfl; rw [hnone o] at h; cases h)]
    exact h, fun _ _ _ h => h, fun _ _ _ h => h, rfl⟩
  have hget : ∀ k' v' c', lk (del st.bx k) k' = some (v', c') → k' ≠ k ∧ lk st.bx k' = some (v', c') := by
    intro k' v' c' h
    rw [lk_del] at h
    split at h
    · cases h
    · rename_i hn; exact ⟨hn, h⟩
  refine ⟨hR.bel, ?_, ?_, ?_, ?_, hR.owinj, hR.fresh⟩
  · intro g' o v h
    have h' : (if g' = g then us[o]? else G.H g' o) = some v := h
    split at h'
    · rename_i hg
      subst hg
      exact ⟨by simp [World.cell?, hheap, h'], h1 v (List.mem_of_getElem? h')⟩
    · exact hR.ext g' o v h'
  · intro k' v' c' g' h hg'
    obtain ⟨hn, h⟩ := hget _ _ _ h
    obtain ⟨us1, e1, a1, a2, a3, a4, a5⟩ := hR.bx k' v' c' g' h hg'
    refine ⟨us1, e1, a1, a2, a3.mono hle, a4, fun o => ?_⟩
    show (if g' = g then us[o]? else G.H g' o) = none
    rw [if_neg (by rintro rfl; exact hn (hR.inj k' k v' ver c' cs g' h hk hg' hρ))]
    exact a5 o
  · intro k1 k2 v1 v2 c1 c2 g' a1 a2 a3 a4
    exact hR.inj k1 k2 v1 v2 c1 c2 g' (hget _ _ _ a1).2 (hget _ _ _ a2).2 a3 a4
  · intro k' v' n h
    obtain ⟨g', cap, size, h1', ⟨cur, e', a1, a2, a3, a4, a5, a6⟩, h8⟩ := hR.ow k' v' n h
    refine ⟨g', cap, size, h1', ⟨cur, e', a1, a2, a3, a4, a5, fun o ho => ?_⟩, fun k2 v2 c2 h2 => h8 k2 v2 c2 (hget _ _ _ h2).2⟩
    show (if g' = g then us[o]? else G.H g' o) = none
    rw [if_neg (by rintro rfl; exact h8 k ver cs hk hρ)]
    exact a6 o ho

theorem chunk_get (size n : Nat) (cs : List AV) (i : Nat) : (chunk size n cs)[i]? = if i < n then some ((cs.drop (i * size)).take size) else none := by
  unfold chunk
  rw [List.getElem?_map]
  by_cases h : i < n
  · rw [List.getElem?_range h, if_pos h]; rfl
  · rw [List.getElem?_eq_none (by simpa using h), if_neg h]; rfl

theorem slA_ok (hR : Rel G w0 st w) {t : TypeId} {n e : Nat} (ht : P.underlying t = some (.array n e)) {ti : TypeInfo} (hi : P.info? e = some ti) {σ : Sl} {a : Act} {x : Opd} {x' : Operand} (hx : Same G σ a x' x) {lo hi' : Option Opd} {lo' hi'' : Option Operand} (hlo : SameO G σ a lo' lo) (hhi : SameO G σ a hi'' hi')
    {C : CallF} {d site ver : Nat} {r : AV} {st' : St} (h : aexec C d site ver σ st (.slA n ti.size x lo hi') = some (r, st')) :
    ∃ v G', (Instr.sliceAt t (a.eval x') (lo'.map a.eval) (hi''.map a.eval) none).run P w = .ok v w ∧ R G' r v ∧ Step G G' w0 st st' w d site ver := by
  simp only [aexec] at h
  split at h
  · rename_i k v o hxe
    split at h
    · rename_i v' cs hlk
      split at h
      · rename_i hc
        obtain ⟨rfl, rfl, hlen, hpos⟩ := hc
        split at h
        · rename_i cs' hsoft
          simp only [Option.map_eq_some_iff, Prod.exists, Prod.mk.injEq] at h
          obtain ⟨l, u, hb, rfl, rfl⟩ := h
          unfold Same at hx
          rw [hxe] at hx
          obtain ⟨g, hv, hρ⟩ := hx.p_inv
          obtain ⟨us, eb, hge, hheap, hr, hu1, hnone⟩ := hR.bx k v' cs g hlk hρ
          obtain ⟨hrun, h1, h2⟩ := bnds_ok (P := P) (w := w) hlo hhi hb (Nat.le_refl n) false
          have hl' := softs_len hsoft
          have hul : us.length = cs.length := hr.1.symm
          refine ⟨.slice (some (if n = l then ⟨g, 0, none⟩ else ⟨g, l * ti.size, none⟩)) (u - l) (n - l), _, ?_, ?_, ⟨?_, hR.freezeBox hlk hρ hheap hu1, Nat.le_refl _, fun _ _ _ _ => ⟨rfl, rfl⟩, ?_, ?_⟩⟩
          · rw [hv]
            simp only [Instr.sliceAt, Sem.run_bind, run_underlying ht, Result.andThen_ok, Instr.sureAddr, Sem.run_pure, hrun, sizeOf, typeInfo, run_program, hi, Addr.add_lit, Nat.zero_add]
          · have hlen2 : (((chunk ti.size n cs').drop l).take (u - l)).length = u - l := by simp [chunk]; omega
            have hrow : ∀ (i : Nat) row, (((chunk ti.size n cs').drop l).take (u - l))[i]? = some row → i < u - l ∧ row = (cs'.drop ((l + i) * ti.size)).take ti.size := by
              intro i row hrow
              rw [List.getElem?_take] at hrow
              split at hrow
              · rename_i hi2
                rw [List.getElem?_drop, chunk_get, if_pos (by omega)] at hrow
                exact ⟨hi2, by injection hrow with hrow; exact hrow.symm⟩
              · cases hrow
            have hcell : ∀ (i : Nat) row (j : Nat) b, (((chunk ti.size n cs').drop l).take (u - l))[i]? = some row → row[j]? = some b → j < ti.size ∧ cs'[(l + i) * ti.size + j]? = some b := by
              intro i row j b h3 h4
              obtain ⟨h5, rfl⟩ := hrow i row h3
              rw [List.getElem?_take] at h4
              split at h4
              · rename_i hj; rw [List.getElem?_drop] at h4; exact ⟨hj, h4⟩
              · cases h4
            have hgo : R ⟨fun g' o => if g' = g then us[o]? else G.H g' o, G.ρ, G.ω, G.fm⟩ (.sl .ext (((chunk ti.size n cs').drop l).take (u - l))) (.slice (some (if n = l then ⟨g, 0, none⟩ else ⟨g, l * ti.size, none⟩)) (((chunk ti.size n cs').drop l).take (u - l)).length (n - l)) := by
              refine .fz _ _ (.sl _ _ _ ti.size g (l * ti.size) (fun i j => us.getD ((l + i) * ti.size + j) undef) ?_ (by omega) ?_ ?_ ?_)
              · intro hne
                rw [if_neg]
                rintro rfl
                apply hne
                apply List.eq_nil_of_length_eq_zero
                rw [hlen2]; omega
              · intro i row h3
                obtain ⟨h5, rfl⟩ := hrow i row h3
                have : (l + i) * ti.size + ti.size ≤ n * ti.size := by
                  rw [← Nat.succ_mul]; exact Nat.mul_le_mul_right _ (by omega)
                simp; omega
              · intro i row j b h3 h4
                obtain ⟨hj, h5⟩ := hcell i row j b h3 h4
                have hlt : (l + i) * ti.size + j < us.length := by
                  rw [hul, ← hl']
                  rcases Nat.lt_or_ge ((l + i) * ti.size + j) cs'.length with h | h
                  · exact h
                  · rw [List.getElem?_eq_none h] at h5; cases h5
                show (if g = g then us[l * ti.size + i * ti.size + j]? else _) = _
                rw [if_pos rfl, ← Nat.add_mul, List.getElem?_eq_getElem hlt]
                simp [List.getD, List.getElem?_eq_getElem hlt]
              · intro i row j b h3 h4
                obtain ⟨hj, h5⟩ := hcell i row j b h3 h4
                have hlt : (l + i) * ti.size + j < us.length := by
                  rw [hul, ← hl']
                  rcases Nat.lt_or_ge ((l + i) * ti.size + j) cs'.length with h | h
                  · exact h
                  · rw [List.getElem?_eq_none h] at h5; cases h5
                have h6 := softs_ok hsoft hr _ b us[(l + i) * ti.size + j] h5 (List.getElem?_eq_getElem hlt)
                have h7 : us.getD ((l + i) * ti.size + j) undef = us[(l + i) * ti.size + j] := by simp [List.getD, List.getElem?_eq_getElem hlt]
                show Fz _ b (us.getD ((l + i) * ti.size + j) undef)
                rw [h7]
                refine h6.mono (fun g' o v h => ?_)
                show (if g' = g then us[o]? else G.H g' o) = some v
                rw [if_neg (by rintro rfl; rw [hnone o] at h; cases h)]
                exact h
            rw [hlen2] at hgo
            exact hgo
          · exact ⟨fun g' o v h => by
              show (if g' = g then us[o]? else G.H g' o) = some v
              rw [if_neg (by rintro rfl; rw [hnone o] at h; cases h)]
              exact h, fun _ _ _ h => h, fun _ _ _ h => h, rfl⟩
          · intro k' v2 cs2 _ _ _ hn h3
            rw [show ({ st with bx := del st.bx k } : St).bx = del st.bx k from rfl, lk_del]
            rw [if_neg]
            · exact h3
            · rintro rfl
              rw [hlk] at h3
              cases h3
              rw [hρ] at hn
              cases hn
          · intro g' o v h
            have h' : (if g' = g then us[o]? else G.H g' o) = some v := h
            split at h'
            · rename_i hg; subst hg; exact .inr hge
            · exact .inl h'
        · cases h
      · cases h
    · cases h
  · cases h

end
end Go.AM
