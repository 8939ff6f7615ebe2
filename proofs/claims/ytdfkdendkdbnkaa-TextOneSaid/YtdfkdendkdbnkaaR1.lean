/- From a law over the abstract machine to the call in the model. -/
import Derived.Test.YtdfkdendkdbnkaaR0
import Derived.Test.YtdfkdendkdbnkaaS0
import Derived.WalkKit
import Derived.ProofKit
import Derived.OpenShut
import Derived.Laws.Externs
import Derived.Lib.Bytealg
set_option linter.all false
namespace Go.AM
open Go Go.RowKit Go.ChangeShapes Go.WideShapes

/-- An argument of a type. -/
def ArgOk (T : TTab) (t : TypeId) (a : AV) : Prop :=
  match T t with
  | some i => match i.kind with
    | .st _ => ∃ f as, a = .ag as ∧ as.length = i.size ∧ HasC T f t as
    | _ => ∃ f, HasC T f t [a]
  | none => False

def ArgsOk (T : TTab) : List TypeId → List AV → Prop
  | [], [] => True
  | t :: ts, a :: as => ArgOk T t a ∧ ArgsOk T ts as
  | _, _ => False

section
variable {H : Type} {enc : TypeId × Value → H} {P : Program} {X : Cx} {W : World} {L : List Nat}

def G0 (X : Cx) (W : World) : Gh := ⟨H0 W, fun _ _ => none, fun _ _ => none, X.fm⟩
theorem G0_rel : Rel (G0 X W) W st0 W where
  bel := .refl _ _
  ext := fun g o v h => H0_inv h
  bx := by intro k ver cs g h; cases h
  inj := by intro k k' ver ver' cs cs' g h; cases h
  ow := by intro k ver n h; cases h
  owinj := by intro k k' ver ver' n n' g cap size cap' size' h; cases h
  fresh := fun k ver _ => ⟨rfl, rfl⟩

theorem arg_read (hT : TTok P X.T) (hL : ∀ t, L.contains t = true → okTy X.T L t = true) {t : TypeId} (ht : L.contains t = true) {v : Value} {d : DataW H} {ps : List MemPlace} {b : Nat} {r : Reach} {held : Bool} {sp : Nat → Bool}
    (hval : Value.okWide P W r b t v) (hd : DataW.Trod enc P W 0 sp held t v d ps) : ∃ a, R (G0 X W) a v ∧ ArgOk X.T t a := by
  obtain ⟨f, hf⟩ := hd
  obtain ⟨as, h1, h2⟩ := read_good hT hL f t ht _ _ hf
  have hok := hL t ht
  unfold okTy at hok
  split at hok
  case h_2 => cases hok
  rename_i i hi
  have hk := (hT t i hi).kind
  have plain : (∀ us, v ≠ .agg us) → (∀ fs, i.kind ≠ .st fs) → as.length = 1 → ∃ a, R (G0 X W) a v ∧ ArgOk X.T t a := by
    intro hv hst hlen
    have hc : v.cells.toList = [v] := by
      cases v with
      | agg us => exact absurd rfl (hv us)
      | _ => rfl
    match as, hlen with
    | [a], _ =>
      rw [hc] at h1
      refine ⟨a, .fz _ _ (h1.2 0 a v rfl rfl).1, ?_⟩
      unfold ArgOk
      rw [hi]
      have key : ∀ kk : TK, (∀ fs, kk ≠ .st fs) → (match kk with | .st _ => ∃ f as, a = .ag as ∧ as.length = i.size ∧ HasC X.T f t as | _ => ∃ f, HasC X.T f t [a]) := by
        intro kk hk
        cases kk with
        | st fs => exact absurd rfl (hk fs)
        | int k => exact ⟨f, h2⟩
        | bool => exact ⟨f, h2⟩
        | str => exact ⟨f, h2⟩
        | sl e => exact ⟨f, h2⟩
        | arr n e => exact ⟨f, h2⟩
        | other => exact ⟨f, h2⟩
      exact key i.kind hst
  have one : ∀ {as : List AV}, Good W as v.cells.toList → (∀ us, v ≠ .agg us) → as.length = 1 := by
    intro as h hv
    rw [h.1]
    cases v with
    | agg us => exact absurd rfl (hv us)
    | _ => rfl
  generalize hkk : i.kind = kk at hk hok
  cases kk with
  | int k =>
    obtain ⟨n, rfl⟩ := okWide_int hk hval
    exact plain (by intro us h; cases h) (by rw [hkk]; intro fs h; cases h) (one h1 (by intro us h; cases h))
  | bool =>
    obtain ⟨n, rfl⟩ := okWide_bool hk hval
    exact plain (by intro us h; cases h) (by rw [hkk]; intro fs h; cases h) (one h1 (by intro us h; cases h))
  | str =>
    obtain ⟨n, rfl⟩ := okWide_string hk hval
    exact plain (by intro us h; cases h) (by rw [hkk]; intro fs h; cases h) (one h1 (by intro us h; cases h))
  | sl e =>
    obtain ⟨a, l, c, rfl⟩ := okWide_slice hk hval
    exact plain (by intro us h; cases h) (by rw [hkk]; intro fs h; cases h) (one h1 (by intro us h; cases h))
  | st fs =>
    obtain ⟨fields, hu, _⟩ := hk
    obtain ⟨cs, rfl, hcs⟩ := okWide_struct hu hval
    refine ⟨.ag as, ?_, ?_⟩
    · have hsz : as.length = cs.toList.length := h1.1
      have e : Value.agg cs = .agg cs.toList.toArray := by simp
      rw [e]
      exact .ag as cs.toList hsz fun j a u ha hu => .fz _ _ (h1.2 j a u ha hu).1
    · unfold ArgOk
      rw [hi]
      simp only [hkk]
      refine ⟨f, as, rfl, ?_, h2⟩
      rw [h1.1]
      simp only [Value.cells]
      rw [← cellsOf_T hT hi, ← hcs]
      simp
  | arr n e => cases hok
  | other => cases hok

theorem args_read (hT : TTok P X.T) (hL : ∀ t, L.contains t = true → okTy X.T L t = true) {b : Nat} {r : Reach} {held : Bool} {sp : Nat → Bool} : ∀ {ts : List TypeId} {vs : List Value} {ds : List (DataW H)} {ps : List MemPlace}, (ts.all fun t => L.contains t) = true →
    (∀ (j : Nat) t v, ts[j]? = some t → vs[j]? = some v → Value.okWide P W r b t v) → DataW.TrodAll enc P W 0 sp held ts vs ds ps → ∃ as, Rs (G0 X W) as vs ∧ ArgsOk X.T ts as
  | [], vs, ds, ps, _, _, h => by
    obtain ⟨rfl, rfl, rfl⟩ := trodAll_nil h
    exact ⟨[], ⟨rfl, by simp⟩, trivial⟩
  | t :: ts, vs, ds, ps, ht, hv, h => by
    obtain ⟨v, vs1, d, ds1, p, q, rfl, rfl, rfl, h1, h2⟩ := trodAll_cons h
    simp only [List.all_cons, Bool.and_eq_true] at ht
    obtain ⟨a, h3, h4⟩ := arg_read hT hL ht.1 (hv 0 t v rfl rfl) h1
    obtain ⟨as, h5, h6⟩ := args_read hT hL ht.2 (fun j t v h1 h2 => hv (j + 1) t v (by simpa using h1) (by simpa using h2)) h2
    refine ⟨a :: as, ⟨by simp [h5.1], fun j x u hx hu => ?_⟩, h4, h6⟩
    cases j with
    | zero => simp at hx hu; subst hx; subst hu; exact h3
    | succ j => exact h5.2 j x u (by simpa using hx) (by simpa using hu)

theorem args_below (hl : laidOutB P = true) {W' : World} (hb : Below W.heap.size W W') : ∀ {ts : List TypeId} {vs : List Value} {ds : List (DataW H)} {ps : List MemPlace}, (ts.all fun t => P.readableRec t && decide (t < P.types.size)) = true →
    DataW.TrodAll enc P W 0 (fun _ => true) true ts vs ds ps → (∀ x ∈ ps, x.block < W.heap.size) → DataW.TrodAll enc P W' 0 (fun b => decide (b < W.heap.size)) true ts vs ds ps
  | [], vs, ds, ps, _, h, _ => by
    obtain ⟨rfl, rfl, rfl⟩ := trodAll_nil h
    exact trodAll_mk0
  | t :: ts, vs, ds, ps, ht, h, hps => by
    obtain ⟨v, vs1, d, ds1, p, q, rfl, rfl, rfl, h1, h2⟩ := trodAll_cons h
    simp only [List.all_cons, Bool.and_eq_true, decide_eq_true_eq] at ht
    exact trodAll_cons_mk (Below.trod hl ht.1.1 ht.1.2 h1 hb fun x hx => hps x (List.mem_append_left _ hx)) (args_below hl hb ht.2 h2 fun x hx => hps x (List.mem_append_right _ hx))

theorem args_lt : ∀ {ts : List TypeId} {vs : List Value} {ds : List (DataW H)} {ps : List MemPlace} {sp : Nat → Bool} {held : Bool}, DataW.TrodAll enc P W 0 sp held ts vs ds ps → ∀ x ∈ ps, x.block < W.heap.size
  | [], vs, ds, ps, _, _, h => by
    obtain ⟨rfl, rfl, rfl⟩ := trodAll_nil h
    simp
  | t :: ts, vs, ds, ps, _, _, h => by
    obtain ⟨v, vs1, d, ds1, p, q, rfl, rfl, rfl, h1, h2⟩ := trodAll_cons h
    intro x hx
    rcases List.mem_append.1 hx with hx | hx
    · obtain ⟨m, hm⟩ := h1
      exact DataW.trod_lt m _ _ _ hm x hx
    · exact args_lt h2 x hx

/-- What a program's law needs. -/
structure LawAt (P : Program) (X : Cx) (prog : Prog) (L : List Nat) : Prop where
  T : TTok P X.T
  mixed : P.follows .mixedOrders = true
  fns : ProgOk P X prog.fn
  orac : OracOk P X prog
  types : ∀ t, L.contains t = true → okTy X.T L t = true

theorem law_calls {prog : Prog} (h : LawAt P X prog L) {f c : Nat} (hfm : X.fm f = some c) {args : Array Value} (hen : (callFunc f args).run P W = .ok (.enter f args) W) {avs : List AV} (hR : Rs (G0 X W) avs args.toList) (hlaw : Pus prog c avs (.b true)) :
    Calls P f args W fun e W' => e = .returned (.bool true) ∧ Below W.heap.size W W' := by
  obtain ⟨r, ⟨st', n, hr⟩, hs⟩ := hlaw
  have hrb : r = .b true := by
    cases r with
    | b x => simpa [AV.strip] using hs
    | sl o rows => simp [AV.strip] at hs
    | ag cs => simp only [AV.strip] at hs; split at hs <;> cases hs
    | tup cs => simp only [AV.strip] at hs; split at hs <;> cases hs
    | p k v o => cases hs
    | fn f cap => cases hs
    | i k n => cases hs
    | s l => cases hs
    | fp cs => cases hs
    | np => cases hs
    | nf => cases hs
    | ni => cases hs
    | u => cases hs
  subst hrb
  have hg := calls_ok h.T h.mixed h.fns h.orac n 0 c avs st0 _ st' hr f hfm (G0 X W) W W args.toList rfl G0_rel hR
  have ea : args.toList.toArray = args := by simp
  rw [ea] at hg
  rcases hg with ⟨_, h2⟩ | ⟨v, w', h2, _⟩
  · refine h2.mono fun e w' he => ?_
    cases e with
    | returned v =>
      obtain ⟨G', h3, h4⟩ := he
      exact ⟨by rw [h3.bool_inv], h4.rel.bel⟩
    | panicked c => exact he.elim
    | outgrown => exact he.elim
  · rw [hen] at h2
    cases h2

theorem FnOk.of {f : Nat} {F : AF} {fn : Func} (h1 : P.funcs[f]? = some fn) (h2 : (fn.name == "runtime.NumGoroutine") = false) (h3 : fn.body.bind (cCode X F.nt) = some F.body) (h4 : fn.ntmps = F.nt) (h5 : cRess X fn.results.toList = some F.res) (h6 : Nat.ble F.res.length 4 = true) : FnOk P X f F := by
  rw [Option.bind_eq_some_iff] at h3
  obtain ⟨code, h7, h8⟩ := h3
  exact ⟨fn, code, h1, h2, h7, h4, h8, h5, Nat.le_of_ble_eq_true h6⟩

theorem FnOk.enters {f : Nat} {F : AF} (h : FnOk P X f F) (args : Array Value) (w : World) : (callFunc f args).run P w = .ok (.enter f args) w := by
  obtain ⟨fn, code, h1, h2, h3, _⟩ := h.ok
  exact callFunc_enter h1 h2 h3 args

/-- Types by a list. -/
def tabOf (l : List (Nat × TI)) : TTab := fun t => (l.find? fun x => x.1 == t).map (·.2)
theorem tab_ok {l : List (Nat × TI)} (h : ∀ x ∈ l, TOk P x.1 x.2) : TTok P (tabOf l) := by
  intro t i hi
  unfold tabOf at hi
  rw [Option.map_eq_some_iff] at hi
  obtain ⟨x, h1, rfl⟩ := hi
  have h2 := List.find?_some h1
  have h3 := List.mem_of_find?_eq_some h1
  have : x.1 = t := by simpa using h2
  rw [← this]
  exact h x h3
/-- Functions by a list. -/
def fnOf (l : List (Nat × AF)) : Nat → Option AF := fun c => (l.find? fun x => x.1 == c).map (·.2)
def fmOf (l : List (Nat × Nat)) : FM := fun f => (l.find? fun x => x.1 == f).map (·.2)
/-- The program's functions, one by one: seat's number, number here, program. -/
theorem prog_ok {fm : List (Nat × Nat)} {fs : List (Nat × AF)} (h : ∀ x ∈ fm, ∀ F, fnOf fs x.2 = some F → FnOk P X x.1 F) (hX : X.fm = fmOf fm) : ProgOk P X (fnOf fs) := by
  intro f c F hf hc
  rw [hX] at hf
  unfold fmOf at hf
  rw [Option.map_eq_some_iff] at hf
  obtain ⟨x, h1, rfl⟩ := hf
  have h2 := List.find?_some h1
  have h3 := List.mem_of_find?_eq_some h1
  have : x.1 = f := by simpa using h2
  rw [← this]
  exact h x h3 F hc

/-- The stand-in for strings.IndexByte. -/
theorem orac_index {G : Gh} {w0 w : World} {st : St} {f : FuncId} {fn : Func} {d : Nat} (h1 : P.funcs[f]? = some fn) (h2 : (fn.name == "runtime.NumGoroutine") = false) (h3 : fn.body.isNone = true) (h4 : Extern.findNext fn = none) (h5 : Extern.find fn = some Extern.BytealgIndexByte.indexByte)
    {s : List UInt8} {c : UInt8} {vals : List Value} (hR : Rel G w0 st w) (hV : Rs G [.s s, .i .u8 (c.toNat : Int)] vals) : Goes P f vals.toArray w fun v w' => ∃ G', R G' (.i .i64 (Lib.indexByte s c)) v ∧ Run G G' w0 st st w' d := by
  have hlen := hV.1
  match vals, hlen with
  | [v1, v2], _ =>
    have e1 := (hV.2 0 _ v1 rfl rfl).str_inv
    have e2 := (hV.2 1 _ v2 rfl rfl).int_inv
    subst e1; subst e2
    refine .inr ⟨.int .i64 (Lib.indexByte s c), w, ?_, G, .fz _ _ (.i _ _), .refl hR⟩
    rw [run_callFunc_extern h1 h2 h3 h4 h5]
    have := Lib.run_indexByteString (P := P) ⟨s.toArray⟩ (c.toNat : Int) w
    rw [this]
    simp [Result.andThen]
end
end Go.AM
namespace Go.AM
open Go
theorem TOk.of {P : Program} {t : TypeId} {i : TI} {ti : TypeInfo} (h1 : P.info? t = some ti) (h2 : (Nat.beq ti.size i.size && Nat.beq ti.bytes i.bytes) = true) (h3 : (ti.zero.bind fun z => if z.cells.size = i.size then cVals z.cells.toList else none) = some i.zero) (h4 : i.kind.ok P t) : TOk P t i := by
  simp only [Bool.and_eq_true] at h2
  rw [Option.bind_eq_some_iff] at h3
  obtain ⟨z, h5, h6⟩ := h3
  split at h6
  · rename_i h7
    exact ⟨⟨ti, z, h1, Nat.eq_of_beq_eq_true h2.1, Nat.eq_of_beq_eq_true h2.2, h5, h6, h7⟩, h4⟩
  · cases h6
theorem TK.ok_st {P : Program} {t : TypeId} {fs : List (Nat × Nat)} (h : ((P.underlying t).bind fun d => match d with | .struct f => some (f.toList.map fun f => (f.type, f.offset)) | _ => none) = some fs) : TK.ok P t (.st fs) := by
  rw [Option.bind_eq_some_iff] at h
  obtain ⟨d, h1, h2⟩ := h
  cases d with
  | struct f => simp only [Option.some.injEq] at h2; exact ⟨f, h1, h2⟩
  | _ => cases h2
end Go.AM
