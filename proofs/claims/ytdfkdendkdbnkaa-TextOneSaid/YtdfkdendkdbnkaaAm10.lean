/- The abstract machine's append, struct and slice literals, make: against the model. -/
import Derived.Test.YtdfkdendkdbnkaaAm9
import Derived.Great.BuildSlice
set_option linter.all false
namespace Go.AM
open Go Go.RowKit

section
variable {P : Program} {G : Gh} {w0 w : World} {st : St}

theorem all_len {rows : List (List AV)} {size : Nat} (h : rows.all (·.length == size) = true) : ∀ row ∈ rows, row.length = size := by
  intro row hr
  have := List.all_eq_true.1 h row hr
  simpa using this

theorem aapp_ok (hR : Rel G w0 st w) {t t2 ty e : TypeId} {d2 : TypeDesc} {ti : TypeInfo} {z : Value} (ht : P.underlying t = some (.slice e)) (ht2 : P.underlying t2 = some d2) (hd2 : d2 = .string ∨ ∃ e2, d2 = .slice e2) (hi : P.info? e = some ti) (hz : ti.zero = some z) (hzs : z.cells.size = ti.size)
    {s : AV} {vs vx : Value} {news : List (List AV)} {us : Nat → Nat → Value} (hsrc : (∀ row ∈ news, row.length = ti.size) → Src P G.H w vx ti.size news us)
    {d site ver : Nat} (hω : G.ω (d, site) ver = none) (hv : ver < st.nx) {r : AV} {st' : St} (h : aapp (d, site) ver ti.size ti.bytes s news st = some (r, st')) (hs : R G s vs) :
    ∃ v w' G', (Builtin.append_ #[t, t2] ty #[vs, vx]).run P w = .ok v w' ∧ R G' r v ∧ Step G G' w0 st st' w' d site ver := by
  unfold aapp at h
  revert hs
  split at h
  · rename_i o rows
    intro hs
    split at h
    · rename_i hc
      obtain ⟨hb, hl, hpos, hrs, hns⟩ := hc
      have hrs := all_len hrs
      have hns := all_len hns
      have hsrc := hsrc hns
      obtain ⟨A, cap, rfl, hF, ho⟩ := hs.sl_inv
      have hcap := (hF.cells_of hrs).2.1
      have h63 : rows.length + news.length ≤ 9223372036854775807 := by unfold maxBytes at hl; omega
      have hfit : (rows.length + news.length) * ti.bytes ≤ 2 ^ 47 := by unfold maxBytes at hb; omega
      split at h
      · rename_i hem
        cases h
        have hn : news = [] := by simpa using hem
        subst hn
        have hrun := run_app_room (ty := ty) ht ht2 hd2 hi (base := A) (n := rows.length) (cap := cap) (hsrc.len w) (hsrc.first w rfl) (by simpa using hcap)
        refine ⟨.slice A rows.length cap, w, G, ?_, .sl o rows A _ cap hF ho, Step.same hR⟩
        rw [hrun]
        cases A <;> simp [flat, storeCells]
      · rename_i hem
        have hm : 0 < news.length := by
          rcases Nat.eq_zero_or_pos news.length with h0 | h0
          · exact absurd (by simpa using h0) hem
          · exact h0
        split at h
        · cases h
        · cases h
          obtain ⟨hcap2, _⟩ := ho
          exact grow_ok hR ht ht2 hd2 hi hz hzs hF hrs hns hsrc hpos (by omega) h63 hfit hω hv (lk_st_same _ _ _) (fun k x hk hl => by rw [lk_st_ne _ _ (Ne.symm hk)] at hl; exact hl)
        · rename_i k v
          split at h
          · rename_i v' n hlk
            split at h
            · rename_i hc
              obtain ⟨rfl, rfl, hn0⟩ := hc
              cases h
              obtain ⟨g, size, hωk, rfl, hrow⟩ := ho
              have hsize : size = ti.size := by
                have h0 : rows[0]? = some rows[0] := List.getElem?_eq_getElem hn0
                rw [← (hrow 0 _ h0).1, hrs _ (List.getElem_mem hn0)]
              subst hsize
              by_cases hroom : rows.length + news.length ≤ cap
              · exact room_ok hR ht ht2 hd2 hi hF hrs hns hsrc hlk hωk hroom hω hv hn0
              · refine grow_ok hR ht ht2 hd2 hi hz hzs hF hrs hns hsrc hpos (by omega) h63 hfit hω hv (lk_st_same _ _ _) (fun k x hk hl => ?_)
                rw [lk_st_ne _ _ (Ne.symm hk), lk_del] at hl
                split at hl
                · cases hl
                · exact hl
            · cases h
          · cases h
    · cases h
  · cases h

/-! ### fill -/
theorem fold_set (off : Nat) : ∀ (vs : List Value) (k : Nat) (cells : Array Value), ((vs.zipIdx k).foldl (fun cs x => cs.setIfInBounds (off + x.2) x.1) cells).size = cells.size ∧
    ∀ q : Nat, q < cells.size → ((vs.zipIdx k).foldl (fun cs x => cs.setIfInBounds (off + x.2) x.1) cells)[q]? = if off + k ≤ q ∧ q < off + k + vs.length then vs[q - (off + k)]? else cells[q]?
  | [], k, cells => by simp; omega
  | v :: r, k, cells => by
    obtain ⟨h1, h2⟩ := fold_set off r (k + 1) (cells.setIfInBounds (off + k) v)
    simp only [List.zipIdx_cons, List.foldl_cons]
    refine ⟨by rw [h1]; simp, fun q hq => ?_⟩
    rw [h2 q (by simpa using hq)]
    by_cases hqk : q = off + k
    · subst hqk
      rw [if_neg (by omega), if_pos (by simp)]
      simp [hq]
    · by_cases h3 : off + (k + 1) ≤ q ∧ q < off + (k + 1) + r.length
      · rw [if_pos h3, if_pos (by simp; omega)]
        have : q - (off + k) = (q - (off + (k + 1))) + 1 := by omega
        rw [this, List.getElem?_cons_succ]
      · rw [if_neg h3, if_neg (by simp; omega), Array.getElem?_setIfInBounds_ne (Ne.symm hqk)]

theorem fill_step (off : Nat) (us : List Value) (cells : Array Value) : (us.toArray.zipIdx.foldl (fun cs x => cs.setIfInBounds (off + x.2) x.1) cells) = (us.zipIdx 0).foldl (fun cs x => cs.setIfInBounds (off + x.2) x.1) cells := by
  simp

/-- Parts and their images. -/
def Parts (G : Gh) (σ : Sl) (place : Nat → Option (Nat × Nat)) : List (Nat × Value) → List (Nat × Nat × Opd) → Prop
  | [], [] => True
  | (i, v) :: r, (off, n, x) :: s => place i = some (off, n) ∧ R G (x.ev σ) v ∧ Parts G σ place r s
  | _, _ => False

theorem fillCells_ok {σ : Sl} {place : Nat → Option (Nat × Nat)} : ∀ {vs : List (Nat × Value)} {xs : List (Nat × Nat × Opd)}, Parts G σ place vs xs → ∀ {cs cs' : List AV} {us : List Value}, Rs G cs us → fillCells σ cs xs = some cs' →
    ∃ us' : List Value, Instr.fill place us.toArray vs = some us'.toArray ∧ Rs G cs' us'
  | [], [], _, cs, cs', us, hr, h => by cases h; exact ⟨us, rfl, hr⟩
  | (i, v) :: r, (off, n, x) :: s, hp, cs, cs', us, hr, h => by
    obtain ⟨hpl, hx, hrest⟩ := hp
    unfold fillCells at h
    dsimp only at h
    split at h
    · rename_i hc
      obtain ⟨hn, hle, hone⟩ := hc
      obtain ⟨xs, hxs, hrx, hlx, _⟩ := hx.cells hone
      have hset := hr.setAt_ hrx (o := off) (by omega)
      have hul := hr.1
      have e1 : (v.cells.zipIdx.foldl (fun cs x => cs.setIfInBounds (off + x.2) x.1) us.toArray) = (us.take off ++ xs ++ us.drop (off + xs.length)).toArray := by
        rw [hxs, fill_step]
        obtain ⟨a1, a2⟩ := fold_set off xs 0 us.toArray
        apply Array.ext'
        apply List.ext_getElem?
        intro q
        rw [Array.getElem?_toList]
        by_cases hq : q < us.length
        · rw [a2 q (by simpa using hq)]
          simp only [Nat.add_zero]
          rw [List.append_assoc, List.getElem?_append]
          simp only [List.length_take]
          have hmin : min off us.length = off := by omega
          rw [hmin]
          by_cases h1 : q < off
          · rw [if_neg (by omega), if_pos h1, List.getElem?_take, if_pos h1]; simp
          · by_cases h2 : q < off + xs.length
            · rw [if_pos ⟨by omega, h2⟩, if_neg h1, List.getElem?_append, if_pos (by omega)]
            · rw [if_neg (by omega), if_neg h1, List.getElem?_append, if_neg (by omega), List.getElem?_drop]
              simp only [List.getElem?_toArray]
              congr 1
              omega
        · rw [Array.getElem?_eq_none (by rw [a1]; simpa using hq), List.getElem?_eq_none (by simp; omega)]
      obtain ⟨us', h1, h2⟩ := fillCells_ok hrest hset h
      refine ⟨us', ?_, h2⟩
      simp only [Instr.fill, hpl]
      rw [if_neg]
      · rw [e1]; exact h1
      · simp only [hxs, List.size_toArray, ne_eq, gt_iff_lt, Bool.or_eq_true, decide_eq_true_eq, not_or, Decidable.not_not, Nat.not_lt, decide_not, Bool.not_eq_eq_eq_not, Bool.not_true, decide_eq_false_iff_not]
        omega
    · cases h

theorem build_ok {t : TypeId} {i : TI} (hT : TOk P t i) {σ : Sl} {vs : List (Nat × Value)} {xs : List (Nat × Nat × Opd)} {place : Nat → Option (Nat × Nat)} (hp : Parts G σ place vs xs) {r : AV} (h : (fillCells σ i.zero xs).map AV.ag = some r)
    (hb : ∀ z ti, P.info? t = some ti → ti.zero = some z → P.built t vs = Instr.fill place z.cells vs) : ∃ v, (Instr.build t vs.toArray).run P w = .ok v w ∧ R G r v := by
  obtain ⟨ti, z, hi, _, _, hz, hc, _⟩ := hT.info
  simp only [Option.map_eq_some_iff] at h
  obtain ⟨cs', hcs, rfl⟩ := h
  obtain ⟨us', h1, h2⟩ := fillCells_ok hp (cVals_ok hc) hcs
  rw [Array.toArray_toList] at h1
  exact ⟨_, run_build w t vs.toArray us'.toArray (by rw [hb z ti hi hz]; exact h1), .ag _ _ h2.1 h2.2⟩

theorem zeroOf {t : TypeId} {i : TI} (hT : TOk P t i) {zs : List AV} (hs : softs i.zero = some zs) : ∃ ti z, P.info? t = some ti ∧ ti.size = i.size ∧ ti.bytes = i.bytes ∧ ti.zero = some z ∧ z.cells.size = i.size ∧ zs.length = i.size ∧ (∀ (j : Nat) y u, zs[j]? = some y → z.cells[j]? = some u → Fz G.H y u ∧ u.oneCell' = true) := by
  obtain ⟨ti, z, hi, h1, h2, hz, hc, hsz⟩ := hT.info
  have hl := (cVals_ok (G := G) hc).1
  refine ⟨ti, z, hi, h1, h2, hz, hsz, by rw [softs_len hs, hl]; simpa using hsz, fun j y u hy hu => ?_⟩
  rw [← Array.getElem?_toList] at hu
  exact ⟨softs_ok hs (cVals_ok hc) j y u hy hu, cVals_one hc u (List.mem_of_getElem? hu)⟩

/-- Cells that are rows. -/
structure RowsAt (H : Hp) (rows : List (List AV)) (size : Nat) (cs : Array Value) : Prop where
  sz : cs.size = rows.length * size
  len : ∀ row ∈ rows, row.length = size
  at_ : ∀ (i : Nat) row (j : Nat) a, rows[i]? = some row → row[j]? = some a → ∃ v, cs[i * size + j]? = some v ∧ Fz H a v ∧ v.oneCell' = true

theorem made_get (z : Array Value) (n q : Nat) (h : q < n) (hz : 0 < z.size) : (madeCells z n)[q]? = z[q % z.size]? := by
  unfold madeCells
  simp only [Array.getElem?_map]
  rw [Array.getElem?_range, if_pos h]
  have := Nat.mod_lt q hz
  simp [getElem!_pos, this]

theorem RowsAt.made {zs : List AV} {z : Array Value} {n : Nat} (hzl : zs.length = z.size) (hz : 0 < z.size) (hat : ∀ (j : Nat) y u, zs[j]? = some y → z[j]? = some u → Fz G.H y u ∧ u.oneCell' = true) : RowsAt G.H (List.replicate n zs) z.size (madeCells z (n * z.size)) := by
  refine ⟨by rw [size_madeCells]; simp, fun row hr => by rw [(List.mem_replicate.1 hr).2, hzl], fun i row j a h1 h2 => ?_⟩
  rw [List.getElem?_replicate] at h1
  split at h1
  · rename_i hi
    cases h1
    have hj : j < z.size := by
      rw [← hzl]
      rcases Nat.lt_or_ge j zs.length with h | h
      · exact h
      · rw [List.getElem?_eq_none h] at h2; cases h2
    have hlt : i * z.size + j < n * z.size := by
      have : (i + 1) * z.size ≤ n * z.size := Nat.mul_le_mul_right _ (by omega)
      rw [Nat.succ_mul] at this; omega
    refine ⟨z[j], ?_, hat j a z[j] h2 (Array.getElem?_eq_getElem hj)⟩
    rw [made_get _ _ _ hlt hz, (divmod_of (i := i) hj).2, Array.getElem?_eq_getElem hj]
  · cases h1

/-- Rows in a new block. -/
theorem RowsAt.step (hR : Rel G w0 st w) {rows : List (List AV)} {size : Nat} {cs : Array Value} (h : RowsAt G.H rows size cs) {e : TypeId} {d site ver : Nat} :
    ∃ G', R G' (.sl .full rows) (.slice (some ⟨w.heap.size, 0, none⟩) rows.length rows.length) ∧ Step G G' w0 st st (w.alloc (.cells cs e)) d site ver := by
  have hat : ∀ (i : Nat) row (j : Nat) a, rows[i]? = some row → row[j]? = some a → cs[i * size + j]? = some ((fun i j => cs.getD (i * size + j) undef) i j) ∧ Fz G.H a ((fun i j => cs.getD (i * size + j) undef) i j) ∧ ((fun i j => cs.getD (i * size + j) undef) i j).oneCell' = true := by
    intro i row j a h1 h2
    obtain ⟨v, h3, h4⟩ := h.at_ i row j a h1 h2
    have : cs.getD (i * size + j) undef = v := by simp [Array.getD_eq_getD_getElem?, h3]
    simp only [this]
    exact ⟨h3, h4⟩
  obtain ⟨h1, h2⟩ := newRows (w1 := w) hR h.len (us := fun i j => cs.getD (i * size + j) undef) (fun i row j a x y => (hat i row j a x y).2.1) (fun i row j a x y => (hat i row j a x y).2.2) (cs := cs) (e := e)
    (fun q v hq => by
      rw [flat_get] at hq
      split at hq
      · rename_i hlt
        cases hq
        have hpos : 0 < size := by
          rcases Nat.eq_zero_or_pos size with h | h
          · subst h; simp at hlt
          · exact h
        have : q / size * size + q % size = q := by have := Nat.div_add_mod q size; rw [Nat.mul_comm]; exact this
        simp only [this]
        have hq2 : q < cs.size := by rw [h.sz]; exact hlt
        rw [Array.getElem?_eq_getElem hq2]
        simp [Array.getD_eq_getD_getElem?, Array.getElem?_eq_getElem hq2]
      · cases hq) rfl (Below.refl _ _) rows.length (Nat.le_refl _) (d := d) (site := site) (ver := ver)
  exact ⟨_, .sl .full rows _ _ _ h2 ⟨rfl, .inr ⟨_, rfl⟩⟩, h1⟩

def PartsR (G : Gh) (σ : Sl) : List (Nat × Value) → List (Nat × Opd) → Prop
  | [], [] => True
  | (i, v) :: r, (i', x) :: s => i = i' ∧ R G (x.ev σ) v ∧ PartsR G σ r s
  | _, _ => False

theorem soft_one {x y : AV} (h : x.soft = some y) : x.one = true := by
  cases x <;> first | rfl | cases h

theorem softs_one : ∀ {xs ys : List AV}, softs xs = some ys → xs.all AV.one = true
  | [], _, _ => rfl
  | v :: r, ys, h => by
    unfold softs at h
    split at h
    · rename_i w l hw hl
      simp only [List.all_cons, soft_one hw, softs_one hl, Bool.and_self]
    · cases h

theorem fillRows_ok {σ : Sl} {z : List AV} : ∀ {vs : List (Nat × Value)} {xs : List (Nat × Opd)}, PartsR G σ vs xs → ∀ {rows rows' : List (List AV)} {cs : Array Value}, RowsAt G.H rows z.length cs → fillRows z σ rows xs = some rows' →
    ∃ cs' : Array Value, Instr.fill (fun i => some (i * z.length, z.length)) cs vs = some cs' ∧ RowsAt G.H rows' z.length cs' ∧ rows'.length = rows.length
  | [], [], _, rows, rows', cs, hr, h => by cases h; exact ⟨cs, rfl, hr, rfl⟩
  | (i, v) :: r, (i', x) :: s, hp, rows, rows', cs, hr, h => by
    obtain ⟨rfl, hx, hrest⟩ := hp
    unfold fillRows at h
    split at h
    · rename_i ys hys
      split at h
      · rename_i hc
        obtain ⟨hi, hl⟩ := hc
        obtain ⟨us, hus, hru, hlu, h1⟩ := hx.cells (softs_one hys)
        have hul : us.length = z.length := by rw [hlu, ← softs_len hys, hl]
        have hi2 : (i + 1) * z.length ≤ rows.length * z.length := Nat.mul_le_mul_right _ (by omega)
        rw [Nat.succ_mul] at hi2
        obtain ⟨a1, a2⟩ := fold_set (i * z.length) us 0 cs
        have hnew : RowsAt G.H (rows.set i ys) z.length (us.toArray.zipIdx.foldl (fun cs x => cs.setIfInBounds (i * z.length + x.2) x.1) cs) := by
          rw [fill_step]
          refine ⟨by rw [a1, hr.sz]; simp, fun row hrow => ?_, fun i2 row j a h2 h3 => ?_⟩
          · rcases List.mem_or_eq_of_mem_set hrow with h | rfl
            · exact hr.len row h
            · exact hl
          · rw [List.getElem?_set] at h2
            split at h2
            · rename_i hii
              subst hii
              cases h2
              have hj : j < z.length := by
                rw [← hl]
                rcases Nat.lt_or_ge j ys.length with h | h
                · exact h
                · rw [List.getElem?_eq_none h] at h3; cases h3
              have hju : j < us.length := by omega
              refine ⟨us[j], ?_, softs_ok hys hru j a us[j] h3 (List.getElem?_eq_getElem hju), h1 _ (List.getElem_mem hju)⟩
              rw [a2 _ (by rw [hr.sz]; omega), if_pos (by omega)]
              rw [show i * z.length + j - (i * z.length + 0) = j from by omega]
              exact List.getElem?_eq_getElem hju
            · rename_i hii
              obtain ⟨u, h4, h5⟩ := hr.at_ i2 row j a h2 h3
              refine ⟨u, ?_, h5⟩
              have hlt : i2 * z.length + j < cs.size := by
                rcases Nat.lt_or_ge (i2 * z.length + j) cs.size with h | h
                · exact h
                · rw [Array.getElem?_eq_none h] at h4; cases h4
              have hj : j < z.length := by
                rw [← hr.len row (List.mem_of_getElem? h2)]
                rcases Nat.lt_or_ge j row.length with h | h
                · exact h
                · rw [List.getElem?_eq_none h] at h3; cases h3
              rw [a2 _ hlt, if_neg]
              · exact h4
              · rintro ⟨h6, h7⟩
                rw [hul] at h7
                apply hii
                rcases Nat.lt_trichotomy i i2 with h8 | h8 | h8
                · have : (i + 1) * z.length ≤ i2 * z.length := Nat.mul_le_mul_right _ h8
                  rw [Nat.succ_mul] at this; omega
                · exact h8
                · have : (i2 + 1) * z.length ≤ i * z.length := Nat.mul_le_mul_right _ h8
                  rw [Nat.succ_mul] at this; omega
        obtain ⟨cs', h6, h7, h8⟩ := fillRows_ok hrest hnew h
        refine ⟨cs', ?_, h7, by rw [h8]; simp⟩
        simp only [Instr.fill]
        rw [if_neg]
        · rw [hus]; exact h6
        · simp only [hus, List.size_toArray, ne_eq, gt_iff_lt, Bool.or_eq_true, decide_eq_true_eq, not_or, Decidable.not_not, Nat.not_lt, decide_not, Bool.not_eq_eq_eq_not, Bool.not_true, decide_eq_false_iff_not]
          have := hr.sz
          omega
      · cases h
    · cases h

theorem bslice_ok (hR : Rel G w0 st w) {t e : TypeId} (ht : P.underlying t = some (.slice e)) {i : TI} (hT : TOk P e i) {n : Nat} {σ : Sl} {vs : List (Nat × Value)} {xs : List (Nat × Opd)} (hp : PartsR G σ vs xs) {key : Key} {ver : Nat} {r : AV} (h : apure key ver σ (.bslice i.zero n xs) = some r) {d site ver' : Nat} :
    ∃ v w' G', (Instr.buildSlice t n vs.toArray).run P w = .ok v w' ∧ R G' r v ∧ Step G G' w0 st st w' d site ver' := by
  simp only [apure] at h
  split at h
  · rename_i z hz
    split at h
    · rename_i hc
      obtain ⟨hpos, hsm⟩ := hc
      simp only [Option.map_eq_some_iff] at h
      obtain ⟨rows, hrows, rfl⟩ := h
      obtain ⟨ti, zv, hi, hsz, _, hzv, hzs, hzl, hat⟩ := zeroOf (G := G) hT hz
      have hinit : RowsAt G.H (List.replicate n z) z.length (madeCells zv.cells (n * zv.cells.size)) := by
        have := RowsAt.made (G := G) (zs := z) (z := zv.cells) (n := n) (by rw [hzl, hzs]) (by rw [hzs, ← hzl]; exact hpos) hat
        rw [show zv.cells.size = z.length from by rw [hzl, hzs]] at this ⊢
        exact this
      obtain ⟨cs', h1, h2, h3⟩ := fillRows_ok hp hinit hrows
      rw [List.length_replicate] at h3
      obtain ⟨G', h4, h5⟩ := h2.step hR (e := e) (d := d) (site := site) (ver := ver')
      rw [h3] at h4
      refine ⟨_, _, G', ?_, h4, h5⟩
      have hzz : z.length = ti.size := by rw [hzl, hsz]
      rw [hzz] at h1 hpos hsm
      by_cases hn : n = 0
      · subst hn
        simp only [Nat.zero_mul] at h1
        have hm : madeCells zv.cells 0 = #[] := by simp [madeCells, Array.range_zero']
        rw [hm] at h1
        have hzr : (Array.range 0).map (zv.cells[· % zv.cells.size]!) = #[] := by simp [Array.range_zero']
        simp only [Instr.buildSlice, Sem.run_bind, run_underlying ht, Result.andThen_ok, sizeOf, typeInfo, run_program, hi, Sem.run_pure, Nat.zero_mul]
        have hzr2 : ∀ zz : Array Value, (Array.range 0).map (zz[· % zz.size]!) = #[] := fun zz => by simp [Array.range_zero']
        simp [h1, newRow, hzr2]
      · refine run_buildSlice w t e n vs.toArray cs' ti zv ht hi hzv (by omega) ?_ ?_
        · intro h0
          rcases Nat.mul_eq_zero.1 h0 with h0 | h0 <;> omega
        · have hzz2 : zv.cells.size = ti.size := by rw [hzs, hsz]
          unfold madeCells at h1
          rw [hzz2] at h1 ⊢
          exact h1
    · cases h
  · cases h

theorem mks_ok (hR : Rel G w0 st w) {t e : TypeId} (ht : P.underlying t = some (.slice e)) {i : TI} (hT : TOk P e i) {C : CallF} {d site ver : Nat} {σ : Sl} {l c : Opd} {vl vc : Value} (hl : R G (l.ev σ) vl) (hc : R G (c.ev σ) vc) {r : AV} {st' : St} (h : aexec C d site ver σ st (.mks i.zero i.bytes l c) = some (r, st')) :
    ∃ v w' G', (Instr.makeSlice t vl vc).run P w = .ok v w' ∧ R G' r v ∧ Step G G' w0 st st' w' d site ver := by
  simp only [aexec] at h
  split at h
  · rename_i n n' hn hn'
    split at h
    · rename_i z hz
      split at h
      · rename_i hcond
        obtain ⟨rfl, hb, hm, hpos⟩ := hcond
        cases h
        obtain ⟨ti, zv, hi, hsz, hby, hzv, hzs, hzl, hat⟩ := zeroOf (G := G) hT hz
        obtain ⟨k1, rfl⟩ := nat_inv hn hl
        obtain ⟨k2, rfl⟩ := nat_inv hn' hc
        have hinit := RowsAt.made (G := G) (zs := z) (z := zv.cells) (n := n) (by rw [hzl, hzs]) (by rw [hzs, ← hzl]; exact hpos) hat
        obtain ⟨G', h4, h5⟩ := hinit.step hR (e := e) (d := d) (site := site) (ver := ver)
        rw [List.length_replicate] at h4
        refine ⟨_, _, G', ?_, h4, h5⟩
        unfold maxBytes at hb hm
        have hbb : ((ti.bytes : Nat) : Int) * (n : Int) ≤ 281474976710656 := by
          rw [hby, ← Int.natCast_mul, Nat.mul_comm]; omega
        have hrun := run_make (P := P) w t e ti zv ht hi hzv k1 k2 (n : Int) (n : Int) (by omega) (Int.le_refl _) hbb (by omega)
        simp only [Int.toNat_natCast] at hrun
        rw [hrun, show ti.size = zv.cells.size from by rw [hzs, hsz]]
      · cases h
    · cases h
  · cases h

end
end Go.AM
