/- The statement ChaintextBack: for every input the law returns true, and each argument reads afterwards as before. No conditions. -/
import Derived.Test.YtffbkdcgkhbpoaaG6
set_option linter.all false
/- The statement ChaintextBack: for every input the law returns true, and each argument reads afterwards as before. No conditions. -/
namespace Go.Proofs.Ytffbkdcgkhbpoaa.ChaintextBackProof
open Go Go.AM Go.RowKit Go.ChangeShapes Go.WideShapes Go.ChangeAt

theorem ok153 : FnOk Try.prog X 8 pf153 := FnOk.of Try.func8 (by kernel_rfl) (by kernel_rfl) (by kernel_rfl) (by kernel_rfl) (by kernel_rfl)
def fns : List (Nat × AF) := [(42, pf42), (46, pf46), (36, pf36), (43, pf43), (47, pf47), (11, pf11), (15, pf15), (21, pf21), (25, pf25), (30, pf30), (34, pf34), (37, pf37), (39, pf39), (45, pf45), (145, pf145), (126, pf126), (71, pf71), (72, pf72), (74, pf74), (76, pf76), (77, pf77), (78, pf78), (102, pf102), (103, pf103), (104, pf104), (107, pf107), (109, pf109), (110, pf110), (128, pf128), (129, pf129), (130, pf130), (131, pf131), (136, pf136), (154, pf154), (158, pf158), (159, pf159), (178, pf178), (180, pf180), (183, pf183), (186, pf186), (190, pf190), (191, pf191), (156, pf156), (160, pf160), (181, pf181), (161, pf161), (162, pf162), (163, pf163), (164, pf164), (165, pf165), (169, pf169), (170, pf170), (171, pf171), (172, pf172), (174, pf174), (176, pf176), (184, pf184), (185, pf185), (177, pf177), (189, pf189), (196, pf196), (153, pf153)]
def prog : Prog := ⟨fnOf fns, orcR, orsB⟩
set_option maxRecDepth 100000 in
theorem fns_ok : FnsOk Try.prog X fns fms :=
  And.intro (fun F h => noneF (show (none : Option AF) = some F from h)) (
  And.intro (fun F h => noneF (show (none : Option AF) = some F from h)) (
  And.intro (fun F h => noneF (show (none : Option AF) = some F from h)) (
  And.intro (fun F h => noneF (show (none : Option AF) = some F from h)) (
  And.intro (fun F h => noneF (show (none : Option AF) = some F from h)) (
  And.intro (fun F h => noneF (show (none : Option AF) = some F from h)) (
  And.intro (fun F h => Option.some.inj (show some pf153 = some F from h) ▸ ok153) (
  And.intro (fun F h => Option.some.inj (show some pf71 = some F from h) ▸ ok71) (
  And.intro (fun F h => Option.some.inj (show some pf154 = some F from h) ▸ ok154) (
  And.intro (fun F h => noneF (show (none : Option AF) = some F from h)) (
  And.intro (fun F h => Option.some.inj (show some pf156 = some F from h) ▸ ok156) (
  And.intro (fun F h => noneF (show (none : Option AF) = some F from h)) (
  And.intro (fun F h => Option.some.inj (show some pf158 = some F from h) ▸ ok158) (
  And.intro (fun F h => Option.some.inj (show some pf159 = some F from h) ▸ ok159) (
  And.intro (fun F h => Option.some.inj (show some pf160 = some F from h) ▸ ok160) (
  And.intro (fun F h => Option.some.inj (show some pf161 = some F from h) ▸ ok161) (
  And.intro (fun F h => Option.some.inj (show some pf162 = some F from h) ▸ ok162) (
  And.intro (fun F h => Option.some.inj (show some pf163 = some F from h) ▸ ok163) (
  And.intro (fun F h => Option.some.inj (show some pf164 = some F from h) ▸ ok164) (
  And.intro (fun F h => Option.some.inj (show some pf165 = some F from h) ▸ ok165) (
  And.intro (fun F h => Option.some.inj (show some pf72 = some F from h) ▸ ok72) (
  And.intro (fun F h => noneF (show (none : Option AF) = some F from h)) (
  And.intro (fun F h => noneF (show (none : Option AF) = some F from h)) (
  And.intro (fun F h => noneF (show (none : Option AF) = some F from h)) (
  And.intro (fun F h => Option.some.inj (show some pf169 = some F from h) ▸ ok169) (
  And.intro (fun F h => Option.some.inj (show some pf170 = some F from h) ▸ ok170) (
  And.intro (fun F h => Option.some.inj (show some pf171 = some F from h) ▸ ok171) (
  And.intro (fun F h => Option.some.inj (show some pf172 = some F from h) ▸ ok172) (
  And.intro (fun F h => noneF (show (none : Option AF) = some F from h)) (
  And.intro (fun F h => Option.some.inj (show some pf174 = some F from h) ▸ ok174) (
  And.intro (fun F h => noneF (show (none : Option AF) = some F from h)) (
  And.intro (fun F h => Option.some.inj (show some pf176 = some F from h) ▸ ok176) (
  And.intro (fun F h => Option.some.inj (show some pf177 = some F from h) ▸ ok177) (
  And.intro (fun F h => Option.some.inj (show some pf102 = some F from h) ▸ ok102) (
  And.intro (fun F h => Option.some.inj (show some pf103 = some F from h) ▸ ok103) (
  And.intro (fun F h => Option.some.inj (show some pf178 = some F from h) ▸ ok178) (
  And.intro (fun F h => noneF (show (none : Option AF) = some F from h)) (
  And.intro (fun F h => Option.some.inj (show some pf180 = some F from h) ▸ ok180) (
  And.intro (fun F h => Option.some.inj (show some pf181 = some F from h) ▸ ok181) (
  And.intro (fun F h => noneF (show (none : Option AF) = some F from h)) (
  And.intro (fun F h => noneF (show (none : Option AF) = some F from h)) (
  And.intro (fun F h => Option.some.inj (show some pf183 = some F from h) ▸ ok183) (
  And.intro (fun F h => Option.some.inj (show some pf76 = some F from h) ▸ ok76) (
  And.intro (fun F h => Option.some.inj (show some pf77 = some F from h) ▸ ok77) (
  And.intro (fun F h => Option.some.inj (show some pf78 = some F from h) ▸ ok78) (
  And.intro (fun F h => Option.some.inj (show some pf184 = some F from h) ▸ ok184) (
  And.intro (fun F h => Option.some.inj (show some pf185 = some F from h) ▸ ok185) (
  And.intro (fun F h => Option.some.inj (show some pf126 = some F from h) ▸ ok126) (
  And.intro (fun F h => noneF (show (none : Option AF) = some F from h)) (
  And.intro (fun F h => Option.some.inj (show some pf104 = some F from h) ▸ ok104) (
  And.intro (fun F h => Option.some.inj (show some pf186 = some F from h) ▸ ok186) (
  And.intro (fun F h => noneF (show (none : Option AF) = some F from h)) (
  And.intro (fun F h => noneF (show (none : Option AF) = some F from h)) (
  And.intro (fun F h => Option.some.inj (show some pf189 = some F from h) ▸ ok189) (
  And.intro (fun F h => noneF (show (none : Option AF) = some F from h)) (
  And.intro (fun F h => Option.some.inj (show some pf190 = some F from h) ▸ ok190) (
  And.intro (fun F h => Option.some.inj (show some pf36 = some F from h) ▸ ok36) (
  And.intro (fun F h => Option.some.inj (show some pf74 = some F from h) ▸ ok74) (
  And.intro (fun F h => noneF (show (none : Option AF) = some F from h)) (
  And.intro (fun F h => Option.some.inj (show some pf109 = some F from h) ▸ ok109) (
  And.intro (fun F h => Option.some.inj (show some pf110 = some F from h) ▸ ok110) (
  And.intro (fun F h => Option.some.inj (show some pf145 = some F from h) ▸ ok145) (
  And.intro (fun F h => Option.some.inj (show some pf15 = some F from h) ▸ ok15) (
  And.intro (fun F h => Option.some.inj (show some pf11 = some F from h) ▸ ok11) (
  And.intro (fun F h => Option.some.inj (show some pf191 = some F from h) ▸ ok191) (
  And.intro (fun F h => noneF (show (none : Option AF) = some F from h)) (
  And.intro (fun F h => noneF (show (none : Option AF) = some F from h)) (
  And.intro (fun F h => noneF (show (none : Option AF) = some F from h)) (
  And.intro (fun F h => Option.some.inj (show some pf43 = some F from h) ▸ ok43) (
  And.intro (fun F h => Option.some.inj (show some pf196 = some F from h) ▸ ok196) (
  And.intro (fun F h => noneF (show (none : Option AF) = some F from h)) (
  And.intro (fun F h => noneF (show (none : Option AF) = some F from h)) (
  And.intro (fun F h => noneF (show (none : Option AF) = some F from h)) (
  And.intro (fun F h => Option.some.inj (show some pf42 = some F from h) ▸ ok42) (
  And.intro (fun F h => Option.some.inj (show some pf107 = some F from h) ▸ ok107) (
  And.intro (fun F h => noneF (show (none : Option AF) = some F from h)) (
  And.intro (fun F h => noneF (show (none : Option AF) = some F from h)) (
  And.intro (fun F h => noneF (show (none : Option AF) = some F from h)) (
  And.intro (fun F h => noneF (show (none : Option AF) = some F from h)) (
  And.intro (fun F h => noneF (show (none : Option AF) = some F from h)) (
  And.intro (fun F h => noneF (show (none : Option AF) = some F from h)) (
  And.intro (fun F h => Option.some.inj (show some pf136 = some F from h) ▸ ok136) (
  And.intro (fun F h => noneF (show (none : Option AF) = some F from h)) (
  And.intro (fun F h => Option.some.inj (show some pf34 = some F from h) ▸ ok34) (
  And.intro (fun F h => Option.some.inj (show some pf30 = some F from h) ▸ ok30) (
  And.intro (fun F h => noneF (show (none : Option AF) = some F from h)) (
  And.intro (fun F h => Option.some.inj (show some pf47 = some F from h) ▸ ok47) (
  And.intro (fun F h => noneF (show (none : Option AF) = some F from h)) (
  And.intro (fun F h => noneF (show (none : Option AF) = some F from h)) (
  And.intro (fun F h => Option.some.inj (show some pf46 = some F from h) ▸ ok46) (
  And.intro (fun F h => Option.some.inj (show some pf128 = some F from h) ▸ ok128) (
  And.intro (fun F h => Option.some.inj (show some pf129 = some F from h) ▸ ok129) (
  And.intro (fun F h => Option.some.inj (show some pf130 = some F from h) ▸ ok130) (
  And.intro (fun F h => Option.some.inj (show some pf131 = some F from h) ▸ ok131) (
  And.intro (fun F h => noneF (show (none : Option AF) = some F from h)) (
  And.intro (fun F h => noneF (show (none : Option AF) = some F from h)) (
  And.intro (fun F h => noneF (show (none : Option AF) = some F from h)) (
  And.intro (fun F h => noneF (show (none : Option AF) = some F from h)) (
  And.intro (fun F h => noneF (show (none : Option AF) = some F from h)) (
  And.intro (fun F h => Option.some.inj (show some pf25 = some F from h) ▸ ok25) (
  And.intro (fun F h => Option.some.inj (show some pf21 = some F from h) ▸ ok21) (
  And.intro (fun F h => noneF (show (none : Option AF) = some F from h)) (
  And.intro (fun F h => noneF (show (none : Option AF) = some F from h)) (
  And.intro (fun F h => Option.some.inj (show some pf39 = some F from h) ▸ ok39) (
  And.intro (fun F h => Option.some.inj (show some pf37 = some F from h) ▸ ok37) (
  And.intro (fun F h => Option.some.inj (show some pf45 = some F from h) ▸ ok45) (
  And.intro (fun F h => noneF (show (none : Option AF) = some F from h)) (
  And.intro (fun F h => noneF (show (none : Option AF) = some F from h)) (trivial))))))))))))))))))))))))))))))))))))))))))))))))))))))))))))))))))))))))))))))))))))))))))))))))))))))))))))
theorem o48_ok : OracOk Try.prog X { fn := fnOf fns, orac := orc48 48 } := orc48_ok (f0 := 102) (fun f h => by have := fm_inv h; simpa [fms] using this) Try.func102 (by kernel_rfl) (by kernel_rfl) (by kernel_rfl) (by kernel_rfl)
def prog0 : Prog := ⟨fnOf fns, orcC, orsB⟩
set_option maxRecDepth 100000 in
theorem has0 : HasR0 prog0 := { f42 := by kernel_rfl, f46 := by kernel_rfl, f36 := by kernel_rfl, f43 := by kernel_rfl, f47 := by kernel_rfl, f11 := by kernel_rfl, f15 := by kernel_rfl, f21 := by kernel_rfl, f25 := by kernel_rfl, f30 := by kernel_rfl, f34 := by kernel_rfl, f37 := by kernel_rfl, f39 := by kernel_rfl, f45 := by kernel_rfl, f145 := by kernel_rfl, f126 := by kernel_rfl, f71 := by kernel_rfl, f72 := by kernel_rfl, f74 := by kernel_rfl, f76 := by kernel_rfl, f77 := by kernel_rfl, f78 := by kernel_rfl, f102 := by kernel_rfl, f103 := by kernel_rfl, f104 := by kernel_rfl, f107 := by kernel_rfl, f109 := by kernel_rfl, f110 := by kernel_rfl, f128 := by kernel_rfl, f129 := by kernel_rfl, f130 := by kernel_rfl, f131 := by kernel_rfl, f136 := by kernel_rfl, f154 := by kernel_rfl, f158 := by kernel_rfl, f159 := by kernel_rfl, f178 := by kernel_rfl, f180 := by kernel_rfl, f183 := by kernel_rfl, f186 := by kernel_rfl, f190 := by kernel_rfl, f191 := by kernel_rfl, f156 := by kernel_rfl, f160 := by kernel_rfl, f181 := by kernel_rfl, f189 := by kernel_rfl, f196 := by kernel_rfl, f48 := rfl, o48 := orcC_48, f146 := rfl, f105 := rfl, o146 := orcC_146, o105 := orcC_105, s105 := orsB_105 }
theorem oracB_ok : OracOk Try.prog X ⟨fnOf fns, orcB, orsB⟩ := orcB_ok o48_ok (f0 := 85) (fun f h => by have := fm_inv h; simpa [fms] using this) Try.func85 (by kernel_rfl) (by kernel_rfl) (by kernel_rfl) (by kernel_rfl)
theorem orac0_ok : OracOk Try.prog X prog0 := orcC_ok oracB_ok (f0 := 53) (fun f h => by have := fm_inv h; simpa [fms] using this) (fun args w => callFunc_enter Try.func53 (by kernel_rfl) (code := bodyR Try.f53) (by kernel_rfl) args) fun s c w => Go.Proofs.Any.strings_Count_one Try.lays138 s c w
theorem orsB0_ok : OracSOk Try.prog X prog0 := fun f c hfc hn args st r st1 h => Go.AM.orsB_ok (fs := fns) Try.lays169 Try.extraB (fun f h => by have := fm_inv h; have e : f = 50 := (by simpa [fms] using this); exact e) (by kernel_rfl) (by kernel_rfl) Try.func50 (by kernel_rfl) rfl f c hfc hn args st r st1 h
theorem orac_ok : OracOk Try.prog X prog := orcR_ok orac0_ok orsB0_ok (tab_ok tys_ok) (by kernel_rfl) (prog_ok fns_ok.all rfl) has0 (by kernel_rfl) rt (fun f h => show f = 24 from by have := fm_inv h; simpa [fms] using this) ⟨188, by kernel_rfl⟩ (by kernel_rfl)
theorem orsB_ok : OracSOk Try.prog X prog := fun f c hfc hn args st r st1 h => Go.AM.orsB_ok (fs := fns) Try.lays169 Try.extraB (fun f h => by have := fm_inv h; have e : f = 50 := (by simpa [fms] using this); exact e) (by kernel_rfl) (by kernel_rfl) Try.func50 (by kernel_rfl) rfl f c hfc hn args st r st1 h
def tl : List Nat := [2, 4, 5, 9, 22, 23, 25, 27, 42]
theorem at_ : LawAt Try.prog X prog tl := ⟨tab_ok tys_ok, by kernel_rfl, prog_ok fns_ok.all rfl, orac_ok, orsB_ok, by
    intro t ht
    exact (show ∀ t ∈ tl, okTy X.T tl t = true by decide) t (by simpa using ht)⟩
set_option maxRecDepth 100000 in
theorem has : HasR prog := { f42 := by kernel_rfl, f46 := by kernel_rfl, f36 := by kernel_rfl, f43 := by kernel_rfl, f47 := by kernel_rfl, f11 := by kernel_rfl, f15 := by kernel_rfl, f21 := by kernel_rfl, f25 := by kernel_rfl, f30 := by kernel_rfl, f34 := by kernel_rfl, f37 := by kernel_rfl, f39 := by kernel_rfl, f45 := by kernel_rfl, f145 := by kernel_rfl, f126 := by kernel_rfl, f71 := by kernel_rfl, f72 := by kernel_rfl, f74 := by kernel_rfl, f76 := by kernel_rfl, f77 := by kernel_rfl, f78 := by kernel_rfl, f102 := by kernel_rfl, f103 := by kernel_rfl, f104 := by kernel_rfl, f107 := by kernel_rfl, f109 := by kernel_rfl, f110 := by kernel_rfl, f128 := by kernel_rfl, f129 := by kernel_rfl, f130 := by kernel_rfl, f131 := by kernel_rfl, f136 := by kernel_rfl, f154 := by kernel_rfl, f158 := by kernel_rfl, f159 := by kernel_rfl, f178 := by kernel_rfl, f180 := by kernel_rfl, f183 := by kernel_rfl, f186 := by kernel_rfl, f190 := by kernel_rfl, f191 := by kernel_rfl, f156 := by kernel_rfl, f160 := by kernel_rfl, f181 := by kernel_rfl, f161 := by kernel_rfl, f162 := by kernel_rfl, f163 := by kernel_rfl, f164 := by kernel_rfl, f165 := by kernel_rfl, f169 := by kernel_rfl, f170 := by kernel_rfl, f171 := by kernel_rfl, f172 := by kernel_rfl, f174 := by kernel_rfl, f176 := by kernel_rfl, f184 := by kernel_rfl, f185 := by kernel_rfl, f177 := by kernel_rfl, f48 := rfl, o48 := orcR_48, f146 := rfl, f105 := rfl, o146 := orcR_146, o105 := orcR_105, s105 := orsB_105, f167 := rfl, o167 := orcR_167 }
theorem own : ownKnob Try.prog.godebug = none := by kernel_rfl
theorem laidOut : laidOutB Try.prog = true := by kernel_rfl
theorem typed (avs : List AV) (h : ArgsOk X.T [42, 9] avs) : Pus prog 153 avs (.b true) := by
  match avs, h with
  | [a, b], ⟨h1, h2, _⟩ =>
    obtain ⟨l, rfl, _, hl⟩ := ArgOk.isLs ⟨_, rfl, rfl, rfl⟩ (szPan tyPan) (HasC.isPan tyPan) h1
    obtain ⟨s, rfl, _⟩ := ArgOk.str (i := _) rfl rfl h2
    exact law153 has rfl (fun p hp => ⟨(hl p hp).tag, (hl p hp).value, (hl p hp).flags⟩) s

set_option maxRecDepth 100000 in
theorem lifted (os : Os) (started : os.Started) (H : Type) (enc : TypeId × Value → H) :
    ReturnsInHanded {} Try.checked os 8 .any (Rows.chaintextBackSpec.pre6 enc Try.prog Try.f8 Rows.chaintextBackRow.domain false) (Rows.chaintextBackSpec.post enc Try.prog Try.f8 false true false false) := by
  refine returnsInHanded_of_change (C := Try.checked) own started (by kernel_rfl) Try.func8
    (ChangeSpec.witness6 (enc := enc) (C := Try.checked) false ⟨#[], #[.slice none 0 0, .string ⟨#[]⟩], []⟩ 8 (by kernel_rfl) (by kernel_rfl) (by kernel_rfl) (by kernel_rfl)) ?_
  intro W base args ds gs before hval0 hW hcnd _
  have hval : ∀ (j : Nat) t v, Try.f8.params[j]? = some t → args[j]? = some v → Value.okWide Try.prog W .any base t v := hval0
  have hW' := hW
  obtain ⟨p, q, hA0, hV, rfl, hfz, hnd⟩ := hW
  have hA : DataW.TrodAll enc Try.prog W 0 (fun _ => true) true Try.f8.params.toList args.toList ds p := hA0
  rw [Try.params8] at hA hval
  obtain ⟨rfl, rfl⟩ := trodVars_none hV
  obtain ⟨avs, hR, hok⟩ := args_read at_.T at_.types (ts := [42, 9]) (by decide) (fun j t v h1 h2 => hval j t v (by simpa using h1) (by simpa using h2)) hA
  have hlt := args_lt hA
  have hlen := trod_len hA
  refine (law_calls at_ (f := 8) (c := 153) rfl (ok153.enters _ _) hR (typed avs hok)).mono fun e W' ⟨he, bel⟩ => ?_
  subst he
  have hB := args_below laidOut bel (by kernel_rfl) hA hlt
  obtain ⟨d0, d1, rfl⟩ := ds2 hlen
  exact ⟨_, rfl, _, _, _, [], _, [], hW', trodAll_mk1 (shut_bool Try.underlying4 _), hB, rfl, bel.frame _, fun h => by cases h⟩

theorem over : Rows.chaintextBackRow.holds Try.pinned (OpenSpec.ofChange Rows.chaintextBackSpec) :=
  OpenClaim.holds_of_wide 8 Try.f8 rfl rfl rfl rfl rfl rfl rfl ⟨rfl, rfl, rfl, rfl, rfl⟩ rfl rfl rfl rfl rfl (by kernel_rfl) Try.func8 (by kernel_rfl)
    (of_decide_eq_true (by kernel_rfl)) (by unfold Func.isWrapper; rw [if_neg (of_decide_eq_false (by kernel_rfl))]; exact ⟨rfl, rfl⟩)
    (fun os started H enc _ => lifted os started H enc)

/-- The statement. -/
theorem proved : Rows.ChaintextBackSaid := over
#print axioms proved
end Go.Proofs.Ytffbkdcgkhbpoaa.ChaintextBackProof
