/- Chapter 03: the first statements. -/
import Derived.Test.YtdfkdendkdbnkaaC03
import Derived.Test.YtdfkdendkdbnkaaU03c
set_option linter.all false
namespace Go.AM
open Go
theorem law3 {prog : Prog} (H : Has03 prog) (hf : prog.fn 3 = some pf3) {i : Int} {n : Nat} {s : Bytes} {l : List Bytes} (h1 : -9223372036854775808 ≤ i) (h2 : i < 9223372036854775808) (hn : n < 18446744073709551616) : Pus prog 3 [.i .i64 i, .i .u64 (n : Int), .s s, .sl .ext (l.map rowS)] (.b true) := by
  obtain ⟨x, rfl, h⟩ := p3 hf (i0 := i) (n1 := (n : Int)) (s2 := s) (l3 := l) (K := fun x => x = true) (by
    unfold T3_0 T3_1
    refine ⟨fun _ => rfl, fun hs => ⟨_, c10 H, fun _ => rfl, fun hg => ?_⟩⟩
    have hl : l.length ≤ 1000000000 := by
      unfold great at hg
      rw [Bool.or_eq_false_iff] at hg
      have := of_decide_eq_false hg.2
      omega
    unfold T3_2
    refine ⟨_, _, c11 H s, _, _, c12 H s, _, _, c13 H hl, _, _, c14 H hl, _, c15 H h1 h2, _, c16 H h1 h2, fun _ => ⟨_, c17 H hn, _, c18 H hn, fun _ => ⟨fun _ => ⟨fun _ => ⟨fun _ => decide_eq_true rfl, fun h => absurd rfl h⟩, fun h => absurd rfl h⟩, fun h => absurd rfl h⟩, fun h => absurd rfl h⟩, fun h => absurd rfl h⟩)
  exact h
end Go.AM
