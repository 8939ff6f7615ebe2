/- The abstract machine's operations stand for the model's: those that look at values, and at memory that stays. -/
import Derived.Test.YtdfkdendkdbnkaaAm3
set_option linter.all false
namespace Go.AM
open Go Go.RowKit

section
variable {P : Program} {G : Gh} {w : World} {σ : Sl} {a : Act}

theorem nat_inv {x : AV} {n : Nat} {v : Value} (h : x.nat = some n) (hx : R G x v) : ∃ k, v = .int k (n : Int) := by
  unfold AV.nat at h
  split at h
  · rename_i k m
    split at h
    · rename_i h0
      cases h
      exact ⟨k, by rw [hx.int_inv, Int.toNat_of_nonneg h0]⟩
    · cases h
  · cases h

def SameO (G : Gh) (σ : Sl) (a : Act) : Option Operand → Option Opd → Prop
  | none, none => True
  | some x, some y => Same G σ a x y
  | _, _ => False

theorem cOpt_ok {nt : Nat} (hA : RelA G nt σ a) {x : Option Operand} {y : Option Opd} (h : cOpt G.fm x = some y) : SameO G σ a x y := by
  cases x with
  | none => cases h; trivial
  | some x =>
    unfold cOpt at h
    simp only at h
    split at h
    · rename_i y' hy
      cases h
      exact cOpd_ok hA hy
    · cases h

theorem sliceBound_ok {k : IntKind} {i y : Nat} {code : BoundsCode} (h : i ≤ y) : (Instr.sliceBound (.int k (i : Int)) y code).run P w = .ok i w := by
  have := run_sliceBound (P := P) (w := w) k (i : Int) y code (by omega) (by omega)
  simpa using this

theorem bnds_ok {lo hi : Option Opd} {lo' hi' : Option Operand} (hlo : SameO G σ a lo' lo) (hhi : SameO G σ a hi' hi) {len cap C l h : Nat} (hb : bnds σ len cap lo hi = some (l, h)) (hC : cap ≤ C) (isS : Bool) :
    (Instr.sliceBounds isS len C (lo'.map a.eval) (hi'.map a.eval) none).run P w = .ok (l, h, C) w ∧ l ≤ h ∧ h ≤ cap := by
  unfold bnds at hb
  split at hb
  · cases hb
  · rename_i h1 hh
    split at hb
    · cases hb
    · rename_i l1 hl
      split at hb
      · rename_i hle
        cases hb
        refine ⟨?_, hle.1, hle.2⟩
        cases hi with
        | none =>
          cases hi' with
          | none =>
            cases hh
            cases lo with
            | none =>
              cases lo' with
              | none => cases hl; simp [Instr.sliceBounds]
              | some x => exact hlo.elim
            | some y =>
              cases lo' with
              | none => exact hlo.elim
              | some x =>
                obtain ⟨k, hv⟩ := nat_inv hl hlo
                simp [Instr.sliceBounds, hv, sliceBound_ok hle.1]
          | some x => exact hhi.elim
        | some y =>
          cases hi' with
          | none => exact hhi.elim
          | some x =>
            obtain ⟨k, hv⟩ := nat_inv hh hhi
            have hle2 : h ≤ C := Nat.le_trans hle.2 hC
            cases lo with
            | none =>
              cases lo' with
              | none => cases hl; simp [Instr.sliceBounds, hv, sliceBound_ok hle2]
              | some x => exact hlo.elim
            | some y =>
              cases lo' with
              | none => exact hlo.elim
              | some x =>
                obtain ⟨k', hv'⟩ := nat_inv hl hlo
                simp [Instr.sliceBounds, hv, hv', sliceBound_ok hle2, sliceBound_ok hle.1]
      · cases hb

theorem slS_ok {t : TypeId} (ht : P.underlying t = some .string) {x : Opd} {x' : Operand} (hx : Same G σ a x' x) {lo hi : Option Opd} {lo' hi' : Option Operand} (hlo : SameO G σ a lo' lo) (hhi : SameO G σ a hi' hi) {r : AV}
    (h : (match x.ev σ with | .s l => (bnds σ l.length l.length lo hi).map fun (a, b) => AV.s ((l.drop a).take (b - a)) | _ => none) = some r) : ∃ v, (Instr.sliceAt t (a.eval x') (lo'.map a.eval) (hi'.map a.eval) none).run P w = .ok v w ∧ R G r v := by
  split at h
  · rename_i l hl
    unfold Same at hx
    rw [hl] at hx
    simp only [Option.map_eq_some_iff, Prod.exists] at h
    obtain ⟨b, c, hb, rfl⟩ := h
    have hs : (ByteArray.mk l.toArray).size = l.length := by simp [ByteArray.size]
    obtain ⟨hr, h1, h2⟩ := bnds_ok (P := P) (w := w) hlo hhi hb (Nat.le_refl _) false
    refine ⟨_, ?_, .fz _ _ (.s _)⟩
    rw [hx.str_inv]
    simp [Instr.sliceAt, Instr.slice, run_underlying ht, hs, hr, ByteArray.extract_mk]
  · cases h

theorem fad_ok {s : TypeId} {fs : List (Nat × Nat)} (ht : (TK.st fs).ok P s) {f ft off : Nat} (hf : fs[f]? = some (ft, off)) {ti : TypeInfo} (hi : P.info? ft = some ti) (hz : ti.size ≠ 0) {x : AV} {vx : Value} {r : AV}
    (h : (match x with | .p k v o => some (.p k v (o + off)) | .fp cs => some (.fp (cs.drop off)) | _ => none) = some r) (hx : R G x vx) : ∃ v, (Instr.fieldAt s vx f).run P w = .ok v w ∧ R G r v := by
  obtain ⟨fields, hu, hmap⟩ := ht
  have hfl : ∃ fl, fields[f]? = some fl ∧ fl.type = ft ∧ fl.offset = off := by
    rw [← hmap] at hf
    simp only [List.getElem?_map, Option.map_eq_some_iff, Array.getElem?_toList] at hf
    obtain ⟨fl, h1, h2⟩ := hf
    exact ⟨fl, h1, by injection h2, by injection h2⟩
  obtain ⟨fl, hfl, rfl, rfl⟩ := hfl
  have key : ∀ g o : Nat, (Instr.fieldAt s (.pointer (some ⟨g, o, none⟩)) f).run P w = .ok (.pointer (some ⟨g, o + fl.offset, none⟩)) w := by
    intro g o
    simp [Instr.fieldAt, run_underlying hu, hfl, Instr.sureAddr, fieldPlace, sizeOf, typeInfo, hi, hz, Addr.add_lit]
  revert hx
  split at h
  · intro hx
    cases h
    obtain ⟨g, rfl, hg⟩ := hx.p_inv
    exact ⟨_, key _ _, .p _ _ _ _ hg⟩
  · intro hx
    cases h
    obtain ⟨g, o, us, rfl, h1, h2⟩ := hx.fp_inv
    refine ⟨_, key _ _, .fp _ (fun j => us (fl.offset + j)) _ _ (fun j b hb => ?_) (fun j b hb => ?_)⟩
    · rw [List.getElem?_drop] at hb
      rw [Nat.add_assoc]
      exact h1 _ _ hb
    · rw [List.getElem?_drop] at hb
      exact h2 _ _ hb
  · cases h

theorem run_isAgg {t : TypeId} {k : TK} (ht : k.ok P t) : (isAgg t).run P w = .ok k.agg w := by
  cases k with
  | int k => simp [isAgg, run_underlying ht, TK.agg]
  | bool => simp [isAgg, run_underlying ht, TK.agg]
  | str => simp [isAgg, run_underlying ht, TK.agg]
  | sl e => simp [isAgg, run_underlying ht, TK.agg]
  | arr n e => simp [isAgg, run_underlying ht, TK.agg]
  | st fs => obtain ⟨fields, hu, _⟩ := ht; simp [isAgg, run_underlying hu, TK.agg]
  | other =>
    obtain ⟨d, hu, hd⟩ := ht
    simp only [isAgg, Sem.run_bind, run_underlying hu, Result.andThen_ok, TK.agg]
    cases d <;> first | rfl | exact hd.elim

theorem ofCells_ok {cs : List AV} {us : List Value} (hr : Rs G cs us) {agg : Bool} {r : AV} (h : ofCells agg cs = some r) : (agg = true ∧ R G r (.agg us.toArray)) ∨ (agg = false ∧ ∃ v, us = [v] ∧ R G r v) := by
  unfold ofCells at h
  cases agg with
  | true => simp at h; subst h; exact .inl ⟨rfl, .ag _ _ hr.1 hr.2⟩
  | false =>
    simp at h
    split at h
    · rename_i v
      cases h
      match us, hr with
      | [u], hr => exact .inr ⟨rfl, u, rfl, hr.2 0 _ _ rfl rfl⟩
      | [], hr => have := hr.1; simp at this
      | _ :: _ :: _, hr => have := hr.1; simp at this
    · cases h

theorem Rs.sub {cs : List AV} {us : List Value} (hr : Rs G cs us) (o n : Nat) : Rs G ((cs.drop o).take n) ((us.drop o).take n) := by
  refine ⟨by simp [hr.1], fun j b u h1 h2 => ?_⟩
  rw [List.getElem?_take] at h1 h2
  split at h1
  · rename_i hj
    rw [if_pos hj] at h2
    rw [List.getElem?_drop] at h1 h2
    exact hr.2 _ _ _ h1 h2
  · cases h1

theorem part_ok {t : TypeId} {i : TI} (hT : TOk P t i) {cs : List AV} {us : List Value} (hr : Rs G cs us) {off : Nat} {r : AV} (h : ofCells i.kind.agg ((cs.drop off).take i.size) = some r) (_hle : off + i.size ≤ cs.length) (h1 : i.kind.agg = false → i.size = 1) :
    ∃ v, (part t us.toArray off).run P w = .ok v w ∧ R G r v := by
  obtain ⟨ti, z, hi, hsz, _⟩ := hT.info
  rcases ofCells_ok (hr.sub off i.size) h with ⟨ha, hv⟩ | ⟨ha, v, hu, hv⟩
  · refine ⟨_, ?_, hv⟩
    simp only [part, Sem.run_bind, run_isAgg hT.kind, Result.andThen_ok, ha, if_true, sizeOf, typeInfo, run_program, hi, Sem.run_pure, hsz]
    congr 2
    simp [List.extract_toArray, List.extract_eq_take_drop]
  · refine ⟨v, ?_, hv⟩
    have hg : us[off]? = some v := by
      have : ((us.drop off).take i.size)[0]? = some v := by rw [hu]; rfl
      rw [List.getElem?_take, if_pos (by rw [h1 ha]; omega), List.getElem?_drop] at this
      simpa using this
    simp only [part, Sem.run_bind, run_isAgg hT.kind, Result.andThen_ok, ha, Bool.false_eq_true, if_false, List.getElem?_toArray, hg, Sem.run_pure]

theorem fld_ok {s : TypeId} {fs : List (Nat × Nat)} (ht : (TK.st fs).ok P s) {f ft off : Nat} (hf : fs[f]? = some (ft, off)) {i : TI} (hT : TOk P ft i) (h1 : i.kind.agg = false → i.size = 1) {x : AV} {vx : Value} {r : AV}
    (h : (match x with | .ag cs => if off + i.size ≤ cs.length then ofCells i.kind.agg ((cs.drop off).take i.size) else none | _ => none) = some r) (hx : R G x vx) : ∃ v, (Instr.field s vx f).run P w = .ok v w ∧ R G r v := by
  obtain ⟨fields, hu, hmap⟩ := ht
  have hfl : ∃ fl, fields[f]? = some fl ∧ fl.type = ft ∧ fl.offset = off := by
    rw [← hmap] at hf
    simp only [List.getElem?_map, Option.map_eq_some_iff, Array.getElem?_toList] at hf
    obtain ⟨fl, h1, h2⟩ := hf
    exact ⟨fl, h1, by injection h2, by injection h2⟩
  obtain ⟨fl, hfl, rfl, rfl⟩ := hfl
  revert hx
  split at h
  · rename_i cs
    intro hx
    split at h
    · rename_i hle
      obtain ⟨us, rfl, hr⟩ := hx.ag_inv
      obtain ⟨v, hv, hR⟩ := part_ok (P := P) (w := w) hT hr h hle h1
      refine ⟨v, ?_, hR⟩
      simp [Instr.field, run_underlying hu, hfl, asAgg, hv]
    · cases h
  · cases h

theorem iaA_ok {t : TypeId} {n e : Nat} (ht : P.underlying t = some (.array n e)) {ti : TypeInfo} (hi : P.info? e = some ti) {x ix : AV} {vx vi : Value} {r : AV}
    (h : (match x, ix.nat with | .p k v o, some j => if j < n then some (.p k v (o + j * ti.size)) else none | _, _ => none) = some r) (hx : R G x vx) (hix : R G ix vi) : ∃ v, (Instr.indexAt t vx vi).run P w = .ok v w ∧ R G r v := by
  revert hx hix
  split at h
  · rename_i k v o j hj
    intro hx hix
    split at h
    · rename_i hlt
      cases h
      obtain ⟨g, rfl, hg⟩ := hx.p_inv
      obtain ⟨k', rfl⟩ := nat_inv hj hix
      refine ⟨_, ?_, .p _ _ _ _ hg⟩
      have h0 : (0 : Int) ≤ (j : Int) ∧ (j : Int) < (n : Int) := ⟨by omega, by omega⟩
      simp [Instr.indexAt, run_underlying ht, asIntOf, Instr.sureAddr, sizeOf, typeInfo, hi, Addr.add_lit, hlt]
    · cases h
  · cases h

theorem iaL_ok {t : TypeId} {e : Nat} (ht : P.underlying t = some (.slice e)) {ti : TypeInfo} (hi : P.info? e = some ti) {x ix : AV} {vx vi : Value} {r : AV}
    (h : (match x, ix.nat with | .sl _ rows, some k => (match rows[k]? with | some row => if row.length = ti.size ∧ 0 < ti.size then some (.fp row) else none | none => none) | _, _ => none) = some r) (hx : R G x vx) (hix : R G ix vi) : ∃ v, (Instr.indexAt t vx vi).run P w = .ok v w ∧ R G r v := by
  revert hx hix
  split at h
  · rename_i o rows k hk
    intro hx hix
    split at h
    · rename_i row hrow
      split at h
      · rename_i hlen
        obtain ⟨hlen, hpos⟩ := hlen
        cases h
        obtain ⟨A, cap, rfl, hF, _⟩ := hx.sl_inv
        obtain ⟨k', rfl⟩ := nat_inv hk hix
        have hlt : k < rows.length := by
          rcases Nat.lt_or_ge k rows.length with h | h
          · exact h
          · rw [List.getElem?_eq_none h] at hrow; cases hrow
        cases hF with
        | sl _ A cap size g off us hA hcap hs hH hFz =>
        have hAe := hA (by intro h; rw [h] at hlt; simp at hlt)
        subst hAe
        have hsz : size = ti.size := by rw [← hs k row hrow, hlen]
        subst hsz
        refine ⟨.pointer (some ⟨g, off + k * ti.size, none⟩), ?_, .fp _ (us k) _ _ (fun j b hb => hH k row j b hrow hb) (fun j b hb => hFz k row j b hrow hb)⟩
        simp [Instr.indexAt, run_underlying ht, asIntOf, sizeOf, typeInfo, hi, Addr.add_lit, hlt]
      · cases h
    · cases h
  · cases h

theorem ixS_ok {t : TypeId} (ht : P.underlying t = some .string) {x ix : AV} {vx vi : Value} {r : AV}
    (h : (match x, ix.nat with | .s l, some j => (l[j]?).map fun c => AV.i .u8 c.toNat | _, _ => none) = some r) (hx : R G x vx) (hix : R G ix vi) : ∃ v, (Instr.index t vx vi).run P w = .ok v w ∧ R G r v := by
  revert hx hix
  split at h
  · rename_i l j hj
    intro hx hix
    simp only [Option.map_eq_some_iff] at h
    obtain ⟨c, hc, rfl⟩ := h
    obtain ⟨k', rfl⟩ := nat_inv hj hix
    rw [hx.str_inv]
    have hlt : j < l.length := by
      rcases Nat.lt_or_ge j l.length with h | h
      · exact h
      · rw [List.getElem?_eq_none h] at hc; cases hc
    refine ⟨_, ?_, .fz _ _ (.i _ _)⟩
    have hs : (ByteArray.mk l.toArray).size = l.length := by simp [ByteArray.size]
    have hg : (ByteArray.mk l.toArray)[j]? = some c := by
      rw [ByteArray.getElem?_lt' _ _ (by rw [hs]; exact hlt)]
      rw [List.getElem?_eq_getElem hlt] at hc
      injection hc with hc
      rw [← hc]
      rfl
    simp [Instr.index, run_underlying ht, asIntOf, hg]
  · cases h

theorem ixA_ok {t : TypeId} {n e : Nat} (ht : P.underlying t = some (.array n e)) {i : TI} (hT : TOk P e i) (h1 : i.kind.agg = false → i.size = 1) {x ix : AV} {vx vi : Value} {r : AV}
    (h : (match x, ix.nat with | .ag cs, some j => if j < n ∧ j * i.size + i.size ≤ cs.length then ofCells i.kind.agg ((cs.drop (j * i.size)).take i.size) else none | _, _ => none) = some r) (hx : R G x vx) (hix : R G ix vi) : ∃ v, (Instr.index t vx vi).run P w = .ok v w ∧ R G r v := by
  revert hx hix
  split at h
  · rename_i cs j hj
    intro hx hix
    split at h
    · rename_i hle
      obtain ⟨us, rfl, hr⟩ := hx.ag_inv
      obtain ⟨k', rfl⟩ := nat_inv hj hix
      obtain ⟨v, hv, hR⟩ := part_ok (P := P) (w := w) hT hr h hle.2 h1
      obtain ⟨ti, z, hi, hsz, _⟩ := hT.info
      refine ⟨v, ?_, hR⟩
      simp [Instr.index, run_underlying ht, asIntOf, sizeOf, typeInfo, hi, hsz, hle.1, hv]
    · cases h
  · cases h

theorem slL_ok {t : TypeId} {e : Nat} (ht : P.underlying t = some (.slice e)) {ti : TypeInfo} (hi : P.info? e = some ti) {x : Opd} {x' : Operand} (hx : Same G σ a x' x) {lo hi' : Option Opd} {lo' hi'' : Option Operand} (hlo : SameO G σ a lo' lo) (hhi : SameO G σ a hi'' hi') {r : AV}
    (h : (match x.ev σ with | .sl _ rows => if rows.all (·.length == ti.size) then (bnds σ rows.length rows.length lo hi').map fun (a, b) => AV.sl .ext ((rows.drop a).take (b - a)) else none | _ => none) = some r) : ∃ v, (Instr.sliceAt t (a.eval x') (lo'.map a.eval) (hi''.map a.eval) none).run P w = .ok v w ∧ R G r v := by
  split at h
  · rename_i o rows hl
    split at h
    · rename_i hall
      unfold Same at hx
      rw [hl] at hx
      simp only [Option.map_eq_some_iff, Prod.exists] at h
      obtain ⟨l, u, hb, rfl⟩ := h
      obtain ⟨A, cap, hv, hF, _⟩ := hx.sl_inv
      have hF' := hF
      cases hF with
      | sl _ A cap size g off us hA hcap hs hH hFz =>
      obtain ⟨hr, h1, h2⟩ := bnds_ok (P := P) (w := w) hlo hhi hb hcap true
      refine ⟨.slice (if cap = l then A else A.map (·.add (l * ti.size))) (u - l) (cap - l), ?_, ?_⟩
      · rw [hv]
        simp [Instr.sliceAt, Instr.slice, run_underlying ht, hr, sizeOf, typeInfo, hi]
      · have hlen : ((rows.drop l).take (u - l)).length = u - l := by simp; omega
        have hsz : rows ≠ [] → size = ti.size := by
          intro hne
          cases rows with
          | nil => exact absurd rfl hne
          | cons row rest =>
            rw [← hs 0 row rfl]
            simp at hall
            exact hall.1
        have hgo : R G (.sl .ext ((rows.drop l).take (u - l))) (.slice (if cap = l then A else A.map (·.add (l * ti.size))) ((rows.drop l).take (u - l)).length (cap - l)) := by
          refine .fz _ _ (.sl _ _ _ ti.size g (off + l * ti.size) (fun i j => us (l + i) j) ?_ (by omega) ?_ ?_ ?_)
          · intro hne
            have hrows : rows ≠ [] := by rintro rfl; simp at hne
            have hlu : l < u := by
              rcases Nat.lt_or_ge l u with h | h
              · exact h
              · exfalso; apply hne; apply List.eq_nil_of_length_eq_zero; rw [hlen]; omega
            rw [if_neg (by omega), hA hrows]
            simp [Addr.add_lit]
          · intro i row hrow
            rw [List.getElem?_take] at hrow
            split at hrow
            · rw [List.getElem?_drop] at hrow
              rw [hs _ _ hrow]
              exact hsz (by rintro rfl; simp at hrow)
            · cases hrow
          · intro i row j b hrow hb
            rw [List.getElem?_take] at hrow
            split at hrow
            · rw [List.getElem?_drop] at hrow
              have := hH _ row j b hrow hb
              rw [hsz (by rintro rfl; simp at hrow)] at this
              rw [← this]
              congr 1
              rw [Nat.add_mul]; omega
            · cases hrow
          · intro i row j b hrow hb
            rw [List.getElem?_take] at hrow
            split at hrow
            · rw [List.getElem?_drop] at hrow
              exact hFz _ row j b hrow hb
            · cases hrow
        rw [hlen] at hgo
        exact hgo
    · cases h
  · cases h

theorem lenS_ok {t : TypeId} (ht : P.underlying t = some .string) {x : AV} {vx : Value} {ty : TypeId} {r : AV}
    (h : (match x with | .s l => some (AV.i .i64 l.length) | _ => none) = some r) (hx : R G x vx) : ∃ v, (Builtin.len_ #[t] ty #[vx]).run P w = .ok v w ∧ R G r v := by
  revert hx
  split at h
  · rename_i l
    intro hx
    cases h
    rw [hx.str_inv]
    refine ⟨.int .i64 l.length, ?_, .fz _ _ (.i _ _)⟩
    have hs : (ByteArray.mk l.toArray).size = l.length := by simp [ByteArray.size]
    simp [Builtin.len_, run_underlying ht, goInt, hs]
  · cases h

theorem lenL_ok {t e : TypeId} (ht : P.underlying t = some (.slice e)) {x : AV} {vx : Value} {ty : TypeId} {r : AV}
    (h : (match x with | .sl _ rows => some (AV.i .i64 rows.length) | _ => none) = some r) (hx : R G x vx) : ∃ v, (Builtin.len_ #[t] ty #[vx]).run P w = .ok v w ∧ R G r v := by
  revert hx
  split at h
  · rename_i o rows
    intro hx
    cases h
    obtain ⟨A, cap, rfl, _⟩ := hx.sl_inv
    refine ⟨.int .i64 rows.length, ?_, .fz _ _ (.i _ _)⟩
    simp [Builtin.len_, run_underlying ht, goInt]
  · cases h

theorem ext_ok {k : Nat} {x : AV} {vx : Value} {r : AV} (h : (match x with | .tup vs => vs[k]? | _ => none) = some r) (hx : R G x vx) : ∃ v, (Instr.extract vx k).run P w = .ok v w ∧ R G r v := by
  revert hx
  split at h
  · rename_i vs
    intro hx
    obtain ⟨us, rfl, hr⟩ := hx.tup_inv
    have hk : k < us.length := by
      rw [← hr.1]
      rcases Nat.lt_or_ge k vs.length with h' | h'
      · exact h'
      · rw [List.getElem?_eq_none h'] at h; cases h
    refine ⟨us[k], ?_, hr.2 k _ _ h (List.getElem?_eq_getElem hk)⟩
    simp [Instr.extract, List.getElem?_eq_getElem hk]
  · cases h

theorem un_ok {op : UnOp} {x : AV} {vx : Value} {r : AV} (h : (match op, x with | .not, .b t => some (AV.b (!t)) | .neg, .i k n => some (.i k (k.wrap (0 - n))) | _, _ => none) = some r) (hx : R G x vx) : ∃ v, (Op.unary op vx).run P w = .ok v w ∧ R G r v := by
  revert hx
  split at h
  · intro hx; cases h; rw [hx.bool_inv]; exact ⟨_, by simp [Op.unary], .fz _ _ (.b _)⟩
  · intro hx; cases h; rw [hx.int_inv]; exact ⟨_, by simp [Op.unary, Op.intArith], .fz _ _ (.i _ _)⟩
  · cases h

theorem cvi_ok {src dst : TypeId} {d : TypeDesc} {k : IntKind} (hs : P.underlying src = some d) (hd : P.underlying dst = some (.int k)) {x : AV} {vx : Value} {r : AV} (h : (match x with | .i _ n => some (AV.i k (k.wrap n)) | _ => none) = some r) (hx : R G x vx) : ∃ v, (convert src dst vx).run P w = .ok v w ∧ R G r v := by
  revert hx
  split at h
  · intro hx; cases h; rw [hx.int_inv]; exact ⟨_, by simp [convert, run_underlying hs, run_underlying hd, Conv.intToInt], .fz _ _ (.i _ _)⟩
  · cases h

theorem beq_ok {t : TypeId} (ht : P.underlying t = some .bool) {neg : Bool} {x y : AV} {vx vy : Value} {r : AV} (h : (match x, y with | .b x, .b y => some (AV.b (if neg then !(x == y) else x == y)) | _, _ => none) = some r) (hx : R G x vx) (hy : R G y vy) :
    ∃ v, (binOp (if neg then .neq else .eql) t vx vy).run P w = .ok v w ∧ R G r v := by
  revert hx hy
  split at h
  · intro hx hy
    cases h
    rw [hx.bool_inv, hy.bool_inv]
    have key : ∀ (d : Nat) (p q : Bool), (Op.equalIn (d + 1) t (.bool p) (.bool q)).run P w = .ok (p == q) w := fun d p q => by simp [Op.equalIn, run_underlying ht]
    cases neg
    · refine ⟨_, ?_, .fz _ _ (.b _)⟩
      simp only [binOp, Bool.false_eq_true, if_false]
      simp [Op.equal, Op.maxDepth, key 9999]
    · refine ⟨_, ?_, .fz _ _ (.b _)⟩
      simp only [binOp, if_true]
      simp [Op.equal, Op.maxDepth, key 9999]
  · cases h

theorem byteOf_inv {row : List AV} {c : UInt8} (h : byteOf row = some c) : row = row8 c := by
  unfold byteOf at h
  split at h
  · rename_i n
    split at h
    · rename_i hn
      cases h
      simp only [row8]
      congr 2
      have : n.toNat < 256 := by omega
      have h2 : (n.toNat.toUInt8).toNat = n.toNat := by simp [Nat.toUInt8]; omega
      rw [h2]; omega
    · cases h
  · cases h

theorem bytesOf_inv : ∀ {rows : List (List AV)} {l : List UInt8}, bytesOf rows = some l → rows = l.map row8
  | [], l, h => by cases h; rfl
  | row :: rest, l, h => by
    unfold bytesOf at h
    split at h
    · rename_i c l' h1 h2
      cases h
      rw [byteOf_inv h1, bytesOf_inv h2]
      rfl
    · cases h

theorem bytesOf_row8 (l : List UInt8) : bytesOf (l.map row8) = some l := by
  induction l with
  | nil => rfl
  | cons c l ih =>
    have : byteOf (row8 c) = some c := by
      have hc : c.toNat < 256 := c.toNat_lt
      simp only [row8, byteOf]
      rw [if_pos ⟨by omega, by omega⟩]
      simp
    simp only [List.map_cons, bytesOf, this, ih]

theorem foldl_push (l : List UInt8) : ∀ s : ByteArray, (l.map (fun c => (c.toNat : Int))).foldl (fun (r : ByteArray) n => r.push (UInt8.ofNat n.toNat)) s = ByteArray.mk (s.data.toList ++ l).toArray := by
  induction l with
  | nil => intro s; simp
  | cons c l ih =>
    intro s
    simp only [List.map_cons, List.foldl_cons]
    rw [ih]
    simp [ByteArray.push]

theorem b2s_ok {src dst e : TypeId} (hs : P.underlying src = some (.slice e)) (he : P.underlying e = some (.int .u8)) (hd : P.underlying dst = some .string) {x : AV} {vx : Value} (hext : ∀ g o v, G.H g o = some v → w.cell? ⟨g, o, none⟩ = some v) {r : AV}
    (h : (match x with | .sl _ rows => (bytesOf rows).map AV.s | _ => none) = some r) (hx : R G x vx) : ∃ v, (convert src dst vx).run P w = .ok v w ∧ R G r v := by
  revert hx
  split at h
  · rename_i o rows
    intro hx
    simp only [Option.map_eq_some_iff] at h
    obtain ⟨l, hl, rfl⟩ := h
    have hrows := bytesOf_inv hl
    subst hrows
    obtain ⟨A, cap, rfl, hF, _⟩ := hx.sl_inv
    refine ⟨.string ⟨l.toArray⟩, ?_, .fz _ _ (.s _)⟩
    rw [run_convert_bytes_string w src dst e _ _ _ hs he hd]
    cases l with
    | nil =>
      cases A with
      | none => simp [Conv.bytesToString]; rfl
      | some ad =>
        have hc : (loadCells ad 0).run P w = .ok ((([] : List Int).map (Value.int .u8)).toArray) w := by simp [loadCells, loadCellsFrom]
        have := run_bytesToString w ad 0 cap [] hc
        have h2 : (Conv.bytesToString (.slice (some ad) 0 cap)).run P w = .ok (.string ByteArray.empty) w := by simpa using this
        exact h2
    | cons c l =>
      cases hF with
      | sl _ A cap size g off us hA hcap hsz hH hFz =>
      have hAe := hA (by simp)
      subst hAe
      have hsize : size = 1 := by rw [← hsz 0 (row8 c) rfl]; rfl
      subst hsize
      have hcells : (loadCells ⟨g, off, none⟩ (c :: l).length).run P w = .ok ((((c :: l).map (fun c => (c.toNat : Int))).map (Value.int .u8)).toArray) w := by
        have := run_loadCells_list (P := P) w ⟨g, off, none⟩ (((c :: l).map (fun c => (c.toNat : Int))).map (Value.int .u8)) ?_
        · simpa using this
        · intro j v hv
          rw [Addr.add_lit]
          simp only [List.map_map, List.getElem?_map, Option.map_eq_some_iff] at hv
          obtain ⟨d, hd, rfl⟩ := hv
          have hrow : ((c :: l).map row8)[j]? = some (row8 d) := by simp only [List.getElem?_map, hd, Option.map_some]
          have h1 := hH j (row8 d) 0 _ hrow rfl
          have h2 := hFz j (row8 d) 0 _ hrow rfl
          have h3 := hext _ _ _ h1
          generalize us j 0 = v0 at h2 h3
          cases h2
          simpa using h3
      simp only [List.length_map]
      rw [run_bytesToString w ⟨g, off, none⟩ (c :: l).length cap _ hcells]
      rw [foldl_push]
      rfl
  · cases h

end
end Go.AM
