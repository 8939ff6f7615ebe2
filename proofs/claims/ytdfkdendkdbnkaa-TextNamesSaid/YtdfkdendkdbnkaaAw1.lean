/- Rules for running the abstract machine's code by simp. -/
import Derived.Test.YtdfkdendkdbnkaaAw0
set_option linter.all false
namespace Go.AM
open Go

section
variable {α β : Type}
theorem onO_some (v : α) (K : α → Prop) : onO (some v) K = K v := rfl
theorem onO_none (K : α → Prop) : onO none K = False := rfl
theorem onO_map (x : Option α) (f : α → β) (K : β → Prop) : onO (x.map f) K = onO x fun v => K (f v) := by cases x <;> rfl
theorem onO_ite (c : Prop) [Decidable c] (x : Option α) (K : α → Prop) : onO (if c then x else none) K = (c ∧ onO x K) := by
  by_cases h : c <;> simp [h, onO_none]
theorem onO_get (l : List α) (j : Nat) (K : α → Prop) (h : j < l.length) : onO l[j]? K = K (l[j]'h) := by rw [List.getElem?_eq_getElem h, onO_some]
end

theorem onB_b (t : Bool) (K : Bool → Prop) : onB (.b t) K = K t := rfl
theorem onFn_fn (g : Nat) (cap : List AV) (K : Nat → List AV → Prop) : onFn (.fn g cap) K = K g cap := rfl

theorem ev_t (σ : Sl) (n : Nat) : (Opd.t n).ev σ = σ n := rfl
theorem ev_c (σ : Sl) (v : AV) : (Opd.c v).ev σ = v := rfl
theorem updO_some (σ : Sl) (d : Nat) (v : AV) : updO σ (some d) v = upd σ d v := rfl
theorem updO_none (σ : Sl) (v : AV) : updO σ none v = σ := rfl
theorem upd_at (σ : Sl) (d : Nat) (v : AV) (t : Nat) : upd σ d v t = if t = d then v else σ t := rfl

section
variable {prog : Prog} {d id base i site ver : Nat} {σ : Sl} {st : St}
theorem WO_nil (K : Sl → St → Prop) : WO prog d id base i [] σ st K = K σ st := rfl
theorem WO_cons (o : AI) (r : List AI) (K : Sl → St → Prop) : WO prog d id base i (o :: r) σ st K = W1 prog d (id * 4096 + i) (base + i) o σ st fun σ' st' => WO prog d id base (i + 1) r σ' st' K := rfl
theorem W1_none (dst : Option Nat) (op : AOp) (K : Sl → St → Prop) : W1 prog d site ver ⟨dst, op, none⟩ σ st K = WOp prog d site ver σ st (fun v st' => K (updO σ dst v) st') op := rfl

/-- A guarded operation, at what its guard reads. -/
def onG (prog : Prog) (d site ver : Nat) (dst : Option Nat) (op : AOp) (t : Nat) (w : Bool) (σ : Sl) (st : St) (K : Sl → St → Prop) (v : AV) : Prop :=
  match v with
  | .b x => if x = w then WOp prog d site ver σ st (fun v st' => K (updO σ dst v) st') op else K (updO σ dst (.tup [])) st
  | .tup [] => K (updO σ dst (.tup [])) st
  | _ => False
section
variable {dst : Option Nat} {op : AOp} {t : Nat} {K : Sl → St → Prop}
theorem onG_true : onG prog d site ver dst op t true σ st K (.b true) = WOp prog d site ver σ st (fun v st' => K (updO σ dst v) st') op := rfl
theorem onG_false : onG prog d site ver dst op t false σ st K (.b false) = WOp prog d site ver σ st (fun v st' => K (updO σ dst v) st') op := rfl
theorem onG_tf : onG prog d site ver dst op t false σ st K (.b true) = K (updO σ dst (.tup [])) st := rfl
theorem onG_ft : onG prog d site ver dst op t true σ st K (.b false) = K (updO σ dst (.tup [])) st := rfl
theorem onG_tup {w : Bool} : onG prog d site ver dst op t w σ st K (.tup []) = K (updO σ dst (.tup [])) st := rfl
theorem W1_some {w : Bool} : W1 prog d site ver ⟨dst, op, some (t, w)⟩ σ st K = onG prog d site ver dst op t w σ st K (σ t) := by
  unfold W1 onG
  simp only
  generalize σ t = z
  cases z with
  | tup cs => cases cs <;> rfl
  | _ => rfl
theorem upd_self {v : AV} (h : σ t = v) : upd σ t v = σ := by
  funext x
  unfold upd
  split
  · rename_i hx; rw [hx, h]
  · rfl
/-- Where it is not known what the guard reads: both ways. -/
theorem onG_em {p : Prop} [hd : Decidable p] {w : Bool} (h0 : σ t = .b (decide p)) (h1 : p → onG prog d site ver dst op t w (upd σ t (.b true)) st K (.b true)) (h2 : ¬ p → onG prog d site ver dst op t w (upd σ t (.b false)) st K (.b false)) : onG prog d site ver dst op t w σ st K (.b (decide p)) :=
  if h : p then by
    rw [decide_eq_true h] at h0 ⊢
    have := h1 h
    rwa [upd_self h0] at this
  else by
    rw [decide_eq_false h] at h0 ⊢
    have := h2 h
    rwa [upd_self h0] at this
end
theorem onB_em {p : Prop} [hd : Decidable p] {K : Bool → Prop} (h1 : p → K true) (h2 : ¬ p → K false) : onB (.b (decide p)) K :=
  if h : p then by rw [decide_eq_true h]; exact h1 h else by rw [decide_eq_false h]; exact h2 h
theorem onB_true (K : Bool → Prop) : onB (.b true) K = K true := rfl
theorem onB_false (K : Bool → Prop) : onB (.b false) K = K false := rfl

section
variable (K : AV → St → Prop)
theorem WOp_mv (x : Opd) : WOp prog d site ver σ st K (.mv x) = K (x.ev σ) st := rfl
theorem WOp_pick (c a b : Opd) : WOp prog d site ver σ st K (.pick c a b) = onB (c.ev σ) fun t => K (if t then a.ev σ else b.ev σ) st := by
  simp only [WOp, aexec, apure]
  cases c.ev σ <;> rfl
theorem WOp_alloc (z : List AV) : WOp prog d site ver σ st K (.alloc z) = K (.p (d, site) ver 0) st := rfl
theorem WOp_bin (op : BinOp) (x y : Opd) : WOp prog d site ver σ st K (.bin op x y) = onO (abin op (x.ev σ) (y.ev σ)) fun v => K v st := by
  simp only [WOp, aexec, apure, onO_map]
def onS (v : AV) (K : List UInt8 → Prop) : Prop :=
  match v with
  | .s l => K l
  | _ => False
theorem onS_s (l : List UInt8) (K : List UInt8 → Prop) : onS (.s l) K = K l := rfl
def onL (v : AV) (K : Own → List (List AV) → Prop) : Prop :=
  match v with
  | .sl o rows => K o rows
  | _ => False
theorem onL_sl (o : Own) (rows : List (List AV)) (K : Own → List (List AV) → Prop) : onL (.sl o rows) K = K o rows := rfl
def onN (v : AV) (K : Nat → Prop) : Prop :=
  match v with
  | .i _ n => 0 ≤ n ∧ K n.toNat
  | _ => False
theorem onN_i (k : IntKind) (n : Int) (K : Nat → Prop) : onN (.i k n) K = (0 ≤ n ∧ K n.toNat) := rfl
theorem onN_nat (k : IntKind) (n : Nat) (K : Nat → Prop) : onN (.i k (n : Int)) K = K n := by simp [onN]
def onI (v : AV) (K : IntKind → Int → Prop) : Prop :=
  match v with
  | .i k n => K k n
  | _ => False
theorem onI_i (k : IntKind) (n : Int) (K : IntKind → Int → Prop) : onI (.i k n) K = K k n := rfl
def onT (v : AV) (K : List AV → Prop) : Prop :=
  match v with
  | .tup cs => K cs
  | _ => False
theorem onT_tup (cs : List AV) (K : List AV → Prop) : onT (.tup cs) K = K cs := rfl
def onA (v : AV) (K : List AV → Prop) : Prop :=
  match v with
  | .ag cs => K cs
  | _ => False
theorem onA_ag (cs : List AV) (K : List AV → Prop) : onA (.ag cs) K = K cs := rfl
def onP (v : AV) (K : Key → Nat → Nat → Prop) : Prop :=
  match v with
  | .p k v o => K k v o
  | _ => False
theorem onP_p (k : Key) (v o : Nat) (K : Key → Nat → Nat → Prop) : onP (.p k v o) K = K k v o := rfl
theorem onN_pos (k : IntKind) (n : Int) (K : Nat → Prop) (h : 0 ≤ n) : onN (.i k n) K = K n.toNat := by simp [onN, h]
theorem WOp_lenS (x : Opd) : WOp prog d site ver σ st K (.len true x) = onS (x.ev σ) fun l => K (.i .i64 l.length) st := by
  simp only [WOp, aexec, apure]
  cases x.ev σ <;> rfl
theorem WOp_lenL (x : Opd) : WOp prog d site ver σ st K (.len false x) = onL (x.ev σ) fun _ rows => K (.i .i64 rows.length) st := by
  simp only [WOp, aexec, apure]
  cases x.ev σ <;> rfl
theorem WOp_ixS (x i : Opd) : WOp prog d site ver σ st K (.ixS x i) = onS (x.ev σ) fun l => onN (i.ev σ) fun j => onO l[j]? fun c => K (.i .u8 c.toNat) st := by
  simp only [WOp, aexec, apure]
  cases x.ev σ <;> try rfl
  cases i.ev σ <;> try rfl
  rename_i l k n
  simp only [AV.nat, onS_s, onN_i]
  by_cases h : 0 ≤ n
  · simp [onO_map, h]
  · simp [onO_none, h]
theorem WOp_bslice (zero : List AV) (n : Nat) (parts : List (Nat × Opd)) : WOp prog d site ver σ st K (.bslice zero n parts) = onO (softs zero) fun z => (0 < z.length ∧ n * z.length ≤ 65536) ∧ onO (fillRows z σ (List.replicate n z) parts) fun rows => K (.sl .full rows) st := by
  simp only [WOp, aexec, apure]
  cases softs zero with
  | none => rfl
  | some z => simp only [onO_map, onO_ite, onO_some]
theorem onO_fill_nil (z : List AV) (rows : List (List AV)) (K : List (List AV) → Prop) : onO (fillRows z σ rows []) K = K rows := rfl
theorem onO_fill_cons (z : List AV) (rows : List (List AV)) (i : Nat) (x : Opd) (ps : List (Nat × Opd)) (K : List (List AV) → Prop) : onO (fillRows z σ rows ((i, x) :: ps)) K = onO (softs (x.ev σ).cells) fun cs => (i < rows.length ∧ cs.length = z.length) ∧ onO (fillRows z σ (rows.set i cs) ps) K := by
  simp only [fillRows]
  cases softs (x.ev σ).cells with
  | none => rfl
  | some cs => simp only [onO_ite, onO_some]
theorem WOp_ext (k : Nat) (x : Opd) : WOp prog d site ver σ st K (.ext k x) = onT (x.ev σ) fun vs => onO vs[k]? fun v => K v st := by
  simp only [WOp, aexec, apure]
  cases x.ev σ <;> simp [onO_map, onO_none, onT]
theorem WOp_un (op : UnOp) (x : Opd) : WOp prog d site ver σ st K (.un op x) = onO (apure (d, site) ver σ (.un op x)) fun v => K v st := by
  simp only [WOp, aexec, onO_map]
theorem WOp_cvi (k : IntKind) (x : Opd) : WOp prog d site ver σ st K (.cvi k x) = onI (x.ev σ) fun _ n => K (.i k (k.wrap n)) st := by
  simp only [WOp, aexec, apure]
  cases x.ev σ <;> rfl
theorem WOp_b2s (x : Opd) : WOp prog d site ver σ st K (.b2s x) = onL (x.ev σ) fun _ rows => onO (bytesOf rows) fun l => K (.s l) st := by
  simp only [WOp, aexec, apure]
  cases x.ev σ <;> try rfl
  simp only [onO_map, onL_sl]
theorem WOp_slS (x : Opd) (lo hi : Option Opd) : WOp prog d site ver σ st K (.slS x lo hi) = onS (x.ev σ) fun l => onO (bnds σ l.length l.length lo hi) fun p => K (.s ((l.drop p.1).take (p.2 - p.1))) st := by
  simp only [WOp, aexec, apure]
  cases x.ev σ <;> try rfl
  simp only [onO_map, onS_s]
theorem WOp_slL (size : Nat) (x : Opd) (lo hi : Option Opd) : WOp prog d site ver σ st K (.slL size x lo hi) = onL (x.ev σ) fun _ rows => (rows.all (·.length == size) = true) ∧ onO (bnds σ rows.length rows.length lo hi) fun p => K (.sl .ext ((rows.drop p.1).take (p.2 - p.1))) st := by
  simp only [WOp, aexec, apure]
  cases x.ev σ <;> try rfl
  simp only [onO_map, onL_sl, onO_ite]
theorem WOp_call (f : Nat) (args : List Opd) : WOp prog d site ver σ st K (.call false f args) = onO (AV.strips (evs σ args)) fun vs => WC prog f vs fun r => onO r.strip fun r' => K r' st := rfl
theorem WOp_callp (f : Nat) (args : List Opd) : WOp prog d site ver σ st K (.call true f args) = WF prog (d + 1) f (evs σ args) st K := rfl
theorem WOp_app (size bytes : Nat) (s x : Opd) : WOp prog d site ver σ st K (.app size bytes s x) = onL (x.ev σ) fun _ news => onO (aapp (d, site) ver size bytes (s.ev σ) news st) fun r => K r.1 r.2 := by
  simp only [WOp, aexec]
  cases x.ev σ <;> rfl
theorem WOp_appS (s x : Opd) : WOp prog d site ver σ st K (.appS s x) = onS (x.ev σ) fun l => onO (aapp (d, site) ver 1 1 (s.ev σ) (l.map row8) st) fun r => K r.1 r.2 := by
  simp only [WOp, aexec]
  cases x.ev σ <;> rfl
end
end

section
variable (k : IntKind) (a b : Int)
theorem abin_add : abin .add (.i k a) (.i k b) = some (.i k (k.wrap (a + b))) := by simp [abin, aint]
theorem abin_sub : abin .sub (.i k a) (.i k b) = some (.i k (k.wrap (a - b))) := by simp [abin, aint]
theorem abin_mul : abin .mul (.i k a) (.i k b) = some (.i k (k.wrap (a * b))) := by simp [abin, aint]
theorem abin_quo : abin .quo (.i k a) (.i k b) = if b = 0 then none else some (.i k (k.wrap (a.tdiv b))) := by simp [abin, aint]
theorem abin_rem : abin .rem (.i k a) (.i k b) = if b = 0 then none else some (.i k (a.tmod b)) := by simp [abin, aint]
theorem abin_and : abin .and (.i k a) (.i k b) = some (.i k (k.wrap (BitVec.ofInt k.bits a &&& BitVec.ofInt k.bits b).toNat)) := by simp [abin, aint]
theorem abin_eql : abin .eql (.i k a) (.i k b) = some (.b (decide (a = b))) := by simp [abin, aint, BEq.beq]
theorem abin_neq : abin .neq (.i k a) (.i k b) = some (.b (decide (a ≠ b))) := by simp [abin, aint, bne, BEq.beq]
theorem abin_lss : abin .lss (.i k a) (.i k b) = some (.b (decide (a < b))) := by simp [abin, aint]
theorem abin_leq : abin .leq (.i k a) (.i k b) = some (.b (decide (a ≤ b))) := by simp [abin, aint]
theorem abin_gtr : abin .gtr (.i k a) (.i k b) = some (.b (decide (a > b))) := by simp [abin, aint]
theorem abin_geq : abin .geq (.i k a) (.i k b) = some (.b (decide (a ≥ b))) := by simp [abin, aint]
theorem abin_shr (k' : IntKind) : abin .shr (.i k a) (.i k' b) = if b < 0 then none else some (.i k (a.fdiv (2 ^ (min b.toNat k.bits)))) := by simp [abin, ashift]
theorem abin_shl (k' : IntKind) : abin .shl (.i k a) (.i k' b) = if b < 0 then none else some (.i k (k.wrap (a * 2 ^ (min b.toNat k.bits)))) := by simp [abin, ashift]
theorem abin_cat (x y : List UInt8) : abin .add (.s x) (.s y) = if x.length + y.length ≤ maxStr then some (.s (x ++ y)) else none := by simp [abin]
theorem abin_seq (x y : List UInt8) : abin .eql (.s x) (.s y) = some (.b (decide (x = y))) := by
  simp only [abin]
  congr 2
  rw [Bool.eq_iff_iff]
  simp
theorem abin_sne (x y : List UInt8) : abin .neq (.s x) (.s y) = some (.b (decide (x ≠ y))) := by
  simp only [abin]
  congr 2
  rw [Bool.eq_iff_iff]
  simp
end

theorem wr_i64 {z : Int} (h : -9223372036854775808 ≤ z) (h' : z < 9223372036854775808) : IntKind.i64.wrap z = z := by
  rw [IntKind.wrap_i64]
  omega
theorem wr_u64 {z : Int} (h : 0 ≤ z) (h' : z < 18446744073709551616) : IntKind.u64.wrap z = z := by
  rw [IntKind.wrap_u64]
  omega
theorem wr_u8 {z : Int} (h : 0 ≤ z) (h' : z < 256) : IntKind.u8.wrap z = z := by
  rw [IntKind.wrap_u8]
  omega

/-! ### Slices that may be appended to -/
def App (ow : List (Key × Nat × Nat)) (o : Own) (n : Nat) : Prop :=
  match o with
  | .ext => False
  | .full => True
  | .id k v => lk ow k = some (v, n) ∧ 0 < n

def ownKey : Own → Option Key
  | .id k _ => some k
  | _ => none

theorem lk_st' {α : Type} (l : List (Key × α)) (k : Key) (a : α) (k' : Key) : lk (st_ l k a) k' = if k = k' then some a else lk l k' := by
  induction l with
  | nil => simp [st_, lk]
  | cons x r ih =>
    obtain ⟨k1, b⟩ := x
    simp only [st_]
    split
    · rename_i h; subst h; simp only [lk]; split <;> rfl
    · rename_i h
      simp only [lk]
      split
      · rename_i h2; subst h2; rw [if_neg (fun e => h e.symm)]
      · rw [ih]

theorem lk_del' {α : Type} (l : List (Key × α)) (k k' : Key) : lk (del l k) k' = if k' = k then none else lk l k' := by
  induction l with
  | nil => simp [del, lk]
  | cons x r ih =>
    obtain ⟨k1, b⟩ := x
    unfold del at ih ⊢
    simp only [List.filter_cons]
    by_cases h : k1 = k
    · subst h
      simp only [ne_eq, not_true_eq_false, decide_false, Bool.false_eq_true, if_false, ih, lk]
      split
      · rfl
      · rename_i h; rw [if_neg (fun e => h e.symm)]
    · simp only [ne_eq, h, not_false_eq_true, decide_true, if_true, lk]
      split
      · rename_i h2; subst h2; rw [if_neg h]
      · exact ih

theorem aapp_app {key : Key} {ver size bytes : Nat} {o : Own} {rows news : List (List AV)} {st : St} (ha : App st.ow o rows.length) (h1 : (rows.length + news.length) * bytes ≤ maxBytes) (h2 : rows.length + news.length ≤ maxBytes) (h3 : 0 < size) (h4 : (rows.all (·.length == size)) = true) (h5 : (news.all (·.length == size)) = true)
    {K : AV → St → Prop} (hK : ∀ o' ow', App ow' o' (rows ++ news).length → (∀ k, some k ≠ ownKey o → k ≠ key → lk ow' k = lk st.ow k) → (ownKey o' = ownKey o ∨ ownKey o' = some key) → K (.sl o' (rows ++ news)) ⟨st.nx, st.bx, ow'⟩) : onO (aapp key ver size bytes (.sl o rows) news st) fun r => K r.1 r.2 := by
  simp only [aapp]
  rw [if_pos ⟨h1, h2, h3, h4, h5⟩]
  by_cases hn : news.isEmpty = true
  · rw [if_pos hn, onO_some]
    have : news = [] := by simpa using hn
    subst this
    have := hK o st.ow (by rw [List.append_nil]; cases o <;> exact ha) (fun _ _ _ => rfl) (.inl rfl)
    rwa [List.append_nil] at this
  · rw [if_neg hn]
    have hpos : 0 < (rows ++ news).length := by
      cases news with
      | nil => simp at hn
      | cons => simp; omega
    cases o with
    | ext => exact ha.elim
    | full =>
      simp only [onO_some]
      refine hK (.id key ver) _ ⟨by rw [lk_st', if_pos rfl, List.length_append], hpos⟩ (fun k _ hk => by rw [lk_st', if_neg (fun e => hk e.symm)]) (.inr rfl)
    | id k v =>
      obtain ⟨ha1, ha2⟩ := ha
      simp only [ha1, true_and, ha2, and_self, if_true, onO_some]
      refine hK (.id key ver) _ ⟨by rw [lk_st', if_pos rfl, List.length_append], hpos⟩ (fun k' hk1 hk2 => ?_) (.inr rfl)
      rw [lk_st', if_neg (fun e => hk2 e.symm), lk_del', if_neg (fun e => hk1 (by rw [e]; rfl))]

theorem WOp_app_ok {prog : Prog} {d site ver size bytes : Nat} {σ : Sl} {st : St} {s x : Opd} {o o2 : Own} {rows news : List (List AV)} (hs : s.ev σ = .sl o rows) (hx : x.ev σ = .sl o2 news) (ha : App st.ow o rows.length) (h1 : (rows.length + news.length) * bytes ≤ maxBytes) (h2 : rows.length + news.length ≤ maxBytes) (h3 : 0 < size) (h4 : (rows.all (·.length == size)) = true) (h5 : (news.all (·.length == size)) = true)
    {K : AV → St → Prop} (hK : ∀ o' ow', App ow' o' (rows ++ news).length → (∀ k, some k ≠ ownKey o → k ≠ (d, site) → lk ow' k = lk st.ow k) → (ownKey o' = ownKey o ∨ ownKey o' = some (d, site)) → K (.sl o' (rows ++ news)) ⟨st.nx, st.bx, ow'⟩) : WOp prog d site ver σ st K (.app size bytes s x) := by
  rw [WOp_app, hx, onL_sl, hs]
  exact aapp_app ha h1 h2 h3 h4 h5 hK

theorem WOp_appS_ok {prog : Prog} {d site ver : Nat} {σ : Sl} {st : St} {s x : Opd} {o : Own} {rows : List (List AV)} {l : List UInt8} (hs : s.ev σ = .sl o rows) (hx : x.ev σ = .s l) (ha : App st.ow o rows.length) (h2 : rows.length + l.length ≤ maxBytes) (h4 : (rows.all (·.length == 1)) = true)
    {K : AV → St → Prop} (hK : ∀ o' ow', App ow' o' (rows ++ l.map row8).length → (∀ k, some k ≠ ownKey o → k ≠ (d, site) → lk ow' k = lk st.ow k) → (ownKey o' = ownKey o ∨ ownKey o' = some (d, site)) → K (.sl o' (rows ++ l.map row8)) ⟨st.nx, st.bx, ow'⟩) : WOp prog d site ver σ st K (.appS s x) := by
  rw [WOp_appS, hx, onS_s, hs]
  exact aapp_app ha (by simpa using h2) (by simpa using h2) (by decide) h4 (by simp [row8]) hK

/-- Bytes as a slice's rows. -/
def bs (l : List UInt8) : List (List AV) := l.map row8
theorem bs_len (l : List UInt8) : (bs l).length = l.length := by simp [bs]
theorem bs_all (l : List UInt8) : (bs l).all (·.length == 1) = true := by simp [bs, row8]
theorem bs_app (l m : List UInt8) : bs l ++ bs m = bs (l ++ m) := by simp [bs]
theorem bytesOf_bs : ∀ (l : List UInt8), bytesOf (bs l) = some l
  | [] => rfl
  | c :: l => by
    have ih := bytesOf_bs l
    unfold bs at ih ⊢
    have hc : (c.toNat : Int) < 256 := by have := c.toNat_lt; omega
    have hc' : (0 : Int) ≤ c.toNat := by omega
    simp only [List.map_cons, bytesOf, byteOf, row8, ih, hc, hc', and_self, if_true]
    simp

/-! ### What simp looks at: the operands, never what follows -/
section
variable {prog : Prog} {d id base i site ver : Nat} {st : St}
@[congr] theorem onO_congr {α : Type} {x y : Option α} {K : α → Prop} (h : x = y) : onO x K = onO y K := by rw [h]
@[congr] theorem onB_congr {x y : AV} {K : Bool → Prop} (h : x = y) : onB x K = onB y K := by rw [h]
@[congr] theorem onS_congr {x y : AV} {K : List UInt8 → Prop} (h : x = y) : onS x K = onS y K := by rw [h]
@[congr] theorem onL_congr {x y : AV} {K : Own → List (List AV) → Prop} (h : x = y) : onL x K = onL y K := by rw [h]
@[congr] theorem onN_congr {x y : AV} {K : Nat → Prop} (h : x = y) : onN x K = onN y K := by rw [h]
@[congr] theorem onG_congr {dst : Option Nat} {op : AOp} {t : Nat} {w : Bool} {σ : Sl} {K : Sl → St → Prop} {x y : AV} (h : x = y) : onG prog d site ver dst op t w σ st K x = onG prog d site ver dst op t w σ st K y := by rw [h]
@[congr] theorem onI_congr {x y : AV} {K : IntKind → Int → Prop} (h : x = y) : onI x K = onI y K := by rw [h]
@[congr] theorem onT_congr {x y : AV} {K : List AV → Prop} (h : x = y) : onT x K = onT y K := by rw [h]
@[congr] theorem onA_congr {x y : AV} {K : List AV → Prop} (h : x = y) : onA x K = onA y K := by rw [h]
@[congr] theorem onP_congr {x y : AV} {K : Key → Nat → Nat → Prop} (h : x = y) : onP x K = onP y K := by rw [h]
@[congr] theorem onFn_congr {x y : AV} {K : Nat → List AV → Prop} (h : x = y) : onFn x K = onFn y K := by rw [h]
@[congr] theorem W_congr {c : AC} {σ τ : Sl} {Q : AE → Sl → St → Prop} (h : σ = τ) : W prog d c σ st Q = W prog d c τ st Q := by rw [h]
@[congr] theorem WO_congr {ops : List AI} {σ τ : Sl} {K : Sl → St → Prop} (h : σ = τ) : WO prog d id base i ops σ st K = WO prog d id base i ops τ st K := by rw [h]
@[congr] theorem W1_congr {o : AI} {σ τ : Sl} {K : Sl → St → Prop} (h : σ = τ) : W1 prog d site ver o σ st K = W1 prog d site ver o τ st K := by rw [h]
@[congr] theorem WOp_congr {op : AOp} {σ τ : Sl} {K : AV → St → Prop} (h : σ = τ) : WOp prog d site ver σ st K op = WOp prog d site ver τ st K op := by rw [h]
@[congr] theorem WC_congr {f : Nat} {vs ws : List AV} {K : AV → Prop} (h : vs = ws) : WC prog f vs K = WC prog f ws K := by rw [h]
@[congr] theorem WF_congr {f : Nat} {vs ws : List AV} {K : AV → St → Prop} (h : vs = ws) : WF prog d f vs st K = WF prog d f ws st K := by rw [h]
@[congr] theorem thenW_congr {c : AC} {e : AE} {σ τ : Sl} {Q : AE → Sl → St → Prop} (h : σ = τ) : thenW prog d c Q e σ st = thenW prog d c Q e τ st := by rw [h]
@[congr] theorem blockW_congr {e : AE} {σ τ : Sl} {Q : AE → Sl → St → Prop} (h : σ = τ) : blockW id Q e σ st = blockW id Q e τ st := by rw [h]
end

attribute [go_sem] onO_some onO_none onO_map onO_ite onB_true onB_false onFn_fn ev_t ev_c updO_some updO_none upd_at WO_nil WO_cons W1_none W1_some onG_true onG_false onG_tf onG_ft onG_tup onS_s onL_sl onN_nat onN_pos onI_i onT_tup onA_ag onP_p
  WOp_mv WOp_pick WOp_alloc WOp_bin WOp_lenS WOp_lenL WOp_ixS WOp_bslice WOp_ext WOp_un WOp_cvi WOp_b2s WOp_slS WOp_slL WOp_call WOp_callp
  abin_add abin_sub abin_mul abin_eql abin_neq abin_lss abin_leq abin_gtr abin_geq abin_cat abin_seq abin_sne thenW blockW evs softs AV.soft AV.cells List.replicate_succ List.replicate_zero List.set_cons_zero List.set_cons_succ

attribute [go_sem ↓] onO_fill_nil onO_fill_cons

end Go.AM
