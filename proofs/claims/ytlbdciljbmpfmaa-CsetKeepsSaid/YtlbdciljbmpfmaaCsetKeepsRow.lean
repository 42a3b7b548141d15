/- For every list of young regions, every list of candidates and every budget, gleanerlaw18.CsetKeeps returns true, and each argument reads afterwards as it read before. No condition. -/
import Derived.Test.YtlbdciljbmpfmaaRows
import Derived.Test.YtlbdciljbmpfmaaCsKeeps
import Derived.Test.YtlbdciljbmpfmaaCsArgs
import Derived.SizedLaws
import Derived.Lib.RowBridge
namespace Go.Proofs.Ytlbdciljbmpfmaa.csetKeeps
open Go.ChangeShapes Go.WideShapes Go.ChangeAt Go.RowKit

theorem own : ownKnob Try.prog.godebug = none := by kernel_rfl
theorem laidOut : laidOutB Try.prog = true := by kernel_rfl
theorem cellsI : Try.prog.cellsOf 3 = 1 := by kernel_rfl
theorem cellsC : Try.prog.cellsOf 33 = 2 := by kernel_rfl

set_option maxHeartbeats 800000 in
set_option maxRecDepth 100000 in
theorem lifted (os : Os) (started : os.Started) (H : Type) (enc : TypeId × Value → H) :
    ReturnsInHanded {} Try.checked os 5 .any (Rows.csetKeepsSpec.pre6 enc Try.prog Try.f5 Rows.csetKeepsRow.domain false) (Rows.csetKeepsSpec.post enc Try.prog Try.f5 false true false false) := by
  refine returnsInHanded_of_change (C := Try.checked) own started (by kernel_rfl) Try.func5
    (ChangeSpec.witness6 (enc := enc) (C := Try.checked) false ⟨#[], #[.slice none 0 0, .slice none 0 0, .int .i64 0], []⟩ 8 (by kernel_rfl) (by kernel_rfl) (by kernel_rfl) (by kernel_rfl)) ?_
  intro W base args ds gs before hval0 hW _ _
  have hval : ∀ (j : Nat) t v, Try.f5.params[j]? = some t → args[j]? = some v → Value.okWide Try.prog W .any base t v := hval0
  have hW' := hW
  obtain ⟨p, q, hA0, hV, rfl, _, _⟩ := hW
  have hA : DataW.TrodAll enc Try.prog W 0 (fun _ => true) true Try.f5.params.toList args.toList ds p := hA0
  rw [Try.params5] at hA hval
  obtain ⟨v0, v1, v2, d0, d1, d2, p0, p1, p2, rfl, rfl, rfl, h0, h1, h2⟩ := trodAll_three hA
  obtain ⟨rfl, rfl⟩ := trodVars_none hV
  have h2k := h2
  obtain ⟨x, rfl, rfl, rfl, wx⟩ := open_int Try.underlying3 (hval 2 3 v2 rfl rfl) h2
  have hx : -9223372036854775808 ≤ x ∧ x ≤ 9223372036854775807 := by simpa [Lit.wf, IntKind.min, IntKind.max, IntKind.signed, IntKind.bits] using wx
  obtain ⟨A0, N0, C0, hv0⟩ := okWide_slice Try.underlying22 (hval 0 22 v0 rfl rfl)
  obtain ⟨A1, N1, C1, hv1⟩ := okWide_slice Try.underlying23 (hval 1 23 v1 rfl rfl)
  have h0k := h0
  have h1k := h1
  obtain ⟨f0, hf0⟩ := h0
  obtain ⟨f1, hf1⟩ := h1
  clear hA0 hval0
  have hlt : ∀ y ∈ p0 ++ p1 ++ [], y.block < W.heap.size := fun y hy => by simpa using hW'.lt y (by simpa using hy)
  have harg : ∀ W', Below W.heap.size W W' → DataW.TrodAll enc Try.prog W' 0 (fun b => decide (b < W.heap.size)) true [22, 23, 3] [v0, v1, .int .i64 x] [d0, d1, .lit (.int .i64 x)] (p0 ++ (p1 ++ [])) := fun W' hb =>
    trodAll_mk3 (Below.trod laidOut (by kernel_rfl) (of_decide_eq_true (by kernel_rfl)) h0k hb (fun y hy => hlt y (by simp [hy])))
      (Below.trod laidOut (by kernel_rfl) (of_decide_eq_true (by kernel_rfl)) h1k hb (fun y hy => hlt y (by simp [hy])))
      (Below.trod laidOut (by kernel_rfl) (of_decide_eq_true (by kernel_rfl)) h2k hb (fun y hy => by cases hy))
  subst hv0
  subst hv1
  simp only [Value.cells] at hf0 hf1
  obtain ⟨a, c, xs, e0, hi0, hl0⟩ := ints_arg Try.underlying22 Try.underlying3 cellsI hf0
  obtain ⟨b, d, cs, e1, hi1, hl1⟩ := cands_arg Try.underlying23 Try.underlying33 rfl (f0 := 3) (by intro j f hj; match j, hj with | 0, hj => (simp at hj; subst hj; rfl) | 1, hj => (simp at hj; subst hj; rfl) | j + 2, hj => (simp at hj)) Try.underlying3 (by kernel_rfl) cellsC hf1
  simp only [List.append_assoc] at hW'
  rw [e0, e1]
  rw [e0, e1] at harg hW'
  refine (csetKeeps_any a b c d xs cs x W hi0 hi1 hx.1 hx.2).mono fun e W' ⟨he, hb⟩ => ?_
  subst he
  exact ⟨_, rfl, _, _, _, [], _, [], hW', trodAll_mk1 (shut_bool Try.underlying4 true), harg W' hb, rfl, hb.frame _, fun h => by cases h⟩

theorem holds : Rows.CsetKeepsSaid :=
  OpenClaim.holds_of_wide 5 Try.f5 rfl rfl rfl rfl rfl rfl rfl ⟨rfl, rfl, rfl, rfl, rfl⟩ rfl rfl rfl rfl rfl (by kernel_rfl) Try.func5 (by kernel_rfl)
    (of_decide_eq_true (by kernel_rfl)) (by unfold Func.isWrapper; first | (rw [if_pos (by decide +kernel)]; kernel_rfl) | (rw [if_neg (by decide +kernel)]; exact ⟨rfl, rfl⟩))
    (fun os started H enc _ => lifted os started H enc)
end Go.Proofs.Ytlbdciljbmpfmaa.csetKeeps
