/- The statement TextBack: for every input the law returns true, and each argument reads afterwards as before. No conditions. -/
import Derived.Test.YtdfkdendkdbnkaaK03
import Derived.Test.YtdfkdendkdbnkaaR2
import Derived.Test.YtdfkdendkdbnkaaL03b
set_option linter.all false
namespace Go.Proofs.Ytdfkdendkdbnkaa.TextBackProof
open Go Go.AM Go.RowKit Go.ChangeShapes Go.WideShapes Go.ChangeAt

theorem ok8 : FnOk Try.prog X 8 pf8 := FnOk.of Try.func8 (by kernel_rfl) (by kernel_rfl) (by kernel_rfl) (by kernel_rfl) (by kernel_rfl)
theorem ok19 : FnOk Try.prog X 19 pf19 := FnOk.of Try.func19 (by kernel_rfl) (by kernel_rfl) (by kernel_rfl) (by kernel_rfl) (by kernel_rfl)
def fns : List (Nat × AF) := [(42, pf42), (46, pf46), (36, pf36), (43, pf43), (47, pf47), (11, pf11), (13, pf13), (15, pf15), (17, pf17), (21, pf21), (23, pf23), (25, pf25), (27, pf27), (30, pf30), (32, pf32), (34, pf34), (37, pf37), (39, pf39), (45, pf45), (10, pf10), (12, pf12), (14, pf14), (16, pf16), (18, pf18), (20, pf20), (22, pf22), (24, pf24), (26, pf26), (28, pf28), (29, pf29), (31, pf31), (33, pf33), (35, pf35), (38, pf38), (40, pf40), (41, pf41), (44, pf44), (8, pf8), (19, pf19)]
def prog : Prog := ⟨fnOf fns, orc48 48⟩
set_option maxRecDepth 100000 in
theorem fns_ok : FnsOk Try.prog X fns fms :=
  And.intro (fun F h => noneF (show (none : Option AF) = some F from h)) (
  And.intro (fun F h => noneF (show (none : Option AF) = some F from h)) (
  And.intro (fun F h => noneF (show (none : Option AF) = some F from h)) (
  And.intro (fun F h => noneF (show (none : Option AF) = some F from h)) (
  And.intro (fun F h => noneF (show (none : Option AF) = some F from h)) (
  And.intro (fun F h => noneF (show (none : Option AF) = some F from h)) (
  And.intro (fun F h => Option.some.inj (show some pf8 = some F from h) ▸ ok8) (
  And.intro (fun F h => noneF (show (none : Option AF) = some F from h)) (
  And.intro (fun F h => Option.some.inj (show some pf10 = some F from h) ▸ ok10) (
  And.intro (fun F h => Option.some.inj (show some pf11 = some F from h) ▸ ok11) (
  And.intro (fun F h => Option.some.inj (show some pf12 = some F from h) ▸ ok12) (
  And.intro (fun F h => Option.some.inj (show some pf13 = some F from h) ▸ ok13) (
  And.intro (fun F h => Option.some.inj (show some pf14 = some F from h) ▸ ok14) (
  And.intro (fun F h => Option.some.inj (show some pf15 = some F from h) ▸ ok15) (
  And.intro (fun F h => Option.some.inj (show some pf16 = some F from h) ▸ ok16) (
  And.intro (fun F h => Option.some.inj (show some pf17 = some F from h) ▸ ok17) (
  And.intro (fun F h => Option.some.inj (show some pf18 = some F from h) ▸ ok18) (
  And.intro (fun F h => Option.some.inj (show some pf19 = some F from h) ▸ ok19) (
  And.intro (fun F h => Option.some.inj (show some pf20 = some F from h) ▸ ok20) (
  And.intro (fun F h => Option.some.inj (show some pf21 = some F from h) ▸ ok21) (
  And.intro (fun F h => Option.some.inj (show some pf22 = some F from h) ▸ ok22) (
  And.intro (fun F h => Option.some.inj (show some pf23 = some F from h) ▸ ok23) (
  And.intro (fun F h => Option.some.inj (show some pf24 = some F from h) ▸ ok24) (
  And.intro (fun F h => Option.some.inj (show some pf25 = some F from h) ▸ ok25) (
  And.intro (fun F h => Option.some.inj (show some pf26 = some F from h) ▸ ok26) (
  And.intro (fun F h => Option.some.inj (show some pf27 = some F from h) ▸ ok27) (
  And.intro (fun F h => Option.some.inj (show some pf28 = some F from h) ▸ ok28) (
  And.intro (fun F h => Option.some.inj (show some pf29 = some F from h) ▸ ok29) (
  And.intro (fun F h => Option.some.inj (show some pf30 = some F from h) ▸ ok30) (
  And.intro (fun F h => Option.some.inj (show some pf31 = some F from h) ▸ ok31) (
  And.intro (fun F h => Option.some.inj (show some pf32 = some F from h) ▸ ok32) (
  And.intro (fun F h => Option.some.inj (show some pf33 = some F from h) ▸ ok33) (
  And.intro (fun F h => Option.some.inj (show some pf34 = some F from h) ▸ ok34) (
  And.intro (fun F h => Option.some.inj (show some pf35 = some F from h) ▸ ok35) (
  And.intro (fun F h => Option.some.inj (show some pf36 = some F from h) ▸ ok36) (
  And.intro (fun F h => Option.some.inj (show some pf37 = some F from h) ▸ ok37) (
  And.intro (fun F h => Option.some.inj (show some pf38 = some F from h) ▸ ok38) (
  And.intro (fun F h => Option.some.inj (show some pf39 = some F from h) ▸ ok39) (
  And.intro (fun F h => Option.some.inj (show some pf40 = some F from h) ▸ ok40) (
  And.intro (fun F h => Option.some.inj (show some pf41 = some F from h) ▸ ok41) (
  And.intro (fun F h => Option.some.inj (show some pf42 = some F from h) ▸ ok42) (
  And.intro (fun F h => Option.some.inj (show some pf43 = some F from h) ▸ ok43) (
  And.intro (fun F h => Option.some.inj (show some pf44 = some F from h) ▸ ok44) (
  And.intro (fun F h => Option.some.inj (show some pf45 = some F from h) ▸ ok45) (
  And.intro (fun F h => Option.some.inj (show some pf46 = some F from h) ▸ ok46) (
  And.intro (fun F h => Option.some.inj (show some pf47 = some F from h) ▸ ok47) (
  And.intro (fun F h => noneF (show (none : Option AF) = some F from h)) (trivial)))))))))))))))))))))))))))))))))))))))))))))))
theorem orac_ok : OracOk Try.prog X prog := orc48_ok (f0 := 48) (fun f h => by have := fm_inv h; simpa [fms] using this) Try.func48 (by kernel_rfl) (by kernel_rfl) (by kernel_rfl) (by kernel_rfl)
def tl : List Nat := [2, 9, 22, 23]
theorem at_ : LawAt Try.prog X prog tl := ⟨tab_ok tys_ok, by kernel_rfl, prog_ok fns_ok.all rfl, orac_ok, by
    intro t ht
    exact (show ∀ t ∈ tl, okTy X.T tl t = true by decide) t (by simpa using ht)⟩
set_option maxRecDepth 100000 in
theorem has : Has03 prog := { f42 := by kernel_rfl, f46 := by kernel_rfl, f36 := by kernel_rfl, f43 := by kernel_rfl, f47 := by kernel_rfl, f11 := by kernel_rfl, f13 := by kernel_rfl, f15 := by kernel_rfl, f17 := by kernel_rfl, f21 := by kernel_rfl, f23 := by kernel_rfl, f25 := by kernel_rfl, f27 := by kernel_rfl, f30 := by kernel_rfl, f32 := by kernel_rfl, f34 := by kernel_rfl, f37 := by kernel_rfl, f39 := by kernel_rfl, f45 := by kernel_rfl, f10 := by kernel_rfl, f12 := by kernel_rfl, f14 := by kernel_rfl, f16 := by kernel_rfl, f18 := by kernel_rfl, f20 := by kernel_rfl, f22 := by kernel_rfl, f24 := by kernel_rfl, f26 := by kernel_rfl, f28 := by kernel_rfl, f29 := by kernel_rfl, f31 := by kernel_rfl, f33 := by kernel_rfl, f35 := by kernel_rfl, f38 := by kernel_rfl, f40 := by kernel_rfl, f41 := by kernel_rfl, f44 := by kernel_rfl, f48 := by kernel_rfl, o48 := orc48_at 48 }
theorem own : ownKnob Try.prog.godebug = none := by kernel_rfl
theorem laidOut : laidOutB Try.prog = true := by kernel_rfl
theorem typed (avs : List AV) (h : ArgsOk X.T [2, 22, 9, 23] avs) : Pus prog 8 avs (.b true) := by
  match avs, h with
  | [a, b, c, d], ⟨h1, h2, h3, h4, _⟩ =>
    obtain ⟨n, rfl, hn⟩ := ArgOk.int (i := _) rfl rfl h1
    obtain ⟨m, rfl, hm⟩ := ArgOk.int (i := _) rfl rfl h2
    obtain ⟨s, rfl, _⟩ := ArgOk.str (i := _) rfl rfl h3
    obtain ⟨l, rfl, hl, _⟩ := ArgOk.strs (i := _) (ie := _) rfl rfl rfl rfl h4
    obtain ⟨k, rfl, hk⟩ := u64_bd hm
    exact law8 has rfl rfl (i64_bd hn).1 (i64_bd hn).2 hk hl

set_option maxRecDepth 100000 in
theorem lifted (os : Os) (started : os.Started) (H : Type) (enc : TypeId × Value → H) :
    ReturnsInHanded {} Try.checked os 8 .any (Rows.textBackSpec.pre6 enc Try.prog Try.f8 Rows.textBackRow.domain false) (Rows.textBackSpec.post enc Try.prog Try.f8 false true false false) := by
  refine returnsInHanded_of_change (C := Try.checked) own started (by kernel_rfl) Try.func8
    (ChangeSpec.witness6 (enc := enc) (C := Try.checked) false ⟨#[], #[.int .i64 0, .int .u64 0, .string ⟨#[]⟩, .slice none 0 0], []⟩ 8 (by kernel_rfl) (by kernel_rfl) (by kernel_rfl) (by kernel_rfl)) ?_
  intro W base args ds gs before hval0 hW hcnd _
  have hval : ∀ (j : Nat) t v, Try.f8.params[j]? = some t → args[j]? = some v → Value.okWide Try.prog W .any base t v := hval0
  have hW' := hW
  obtain ⟨p, q, hA0, hV, rfl, hfz, hnd⟩ := hW
  have hA : DataW.TrodAll enc Try.prog W 0 (fun _ => true) true Try.f8.params.toList args.toList ds p := hA0
  rw [Try.params8] at hA hval
  obtain ⟨rfl, rfl⟩ := trodVars_none hV
  obtain ⟨avs, hR, hok⟩ := args_read at_.T at_.types (ts := [2, 22, 9, 23]) (by decide) (fun j t v h1 h2 => hval j t v (by simpa using h1) (by simpa using h2)) hA
  have hlt := args_lt hA
  have hlen := trod_len hA
  refine (law_calls at_ (f := 8) (c := 8) rfl (ok8.enters _ _) hR (typed avs hok)).mono fun e W' ⟨he, bel⟩ => ?_
  subst he
  have hB := args_below laidOut bel (by kernel_rfl) hA hlt
  obtain ⟨d0, d1, d2, d3, rfl⟩ := ds4 hlen
  exact ⟨_, rfl, _, _, _, [], _, [], hW', trodAll_mk1 (shut_bool Try.underlying4 _), hB, rfl, bel.frame _, fun h => by cases h⟩

theorem over : Rows.textBackRow.holds Try.pinned (OpenSpec.ofChange Rows.textBackSpec) :=
  OpenClaim.holds_of_wide 8 Try.f8 rfl rfl rfl rfl rfl rfl rfl ⟨rfl, rfl, rfl, rfl, rfl⟩ rfl rfl rfl rfl rfl (by kernel_rfl) Try.func8 (by kernel_rfl)
    (of_decide_eq_true (by kernel_rfl)) (by unfold Func.isWrapper; rw [if_neg (of_decide_eq_false (by kernel_rfl))]; exact ⟨rfl, rfl⟩)
    (fun os started H enc _ => lifted os started H enc)

/-- The statement. -/
theorem proved : Rows.TextBackSaid := over
#print axioms proved
end Go.Proofs.Ytdfkdendkdbnkaa.TextBackProof
