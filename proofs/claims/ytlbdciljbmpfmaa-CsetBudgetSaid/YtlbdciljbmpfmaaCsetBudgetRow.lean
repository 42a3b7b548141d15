/- For every list of lives and every budget, gleanerlaw18.CsetBudget returns true, and each argument reads afterwards as it read before. No condition. -/
import Derived.Test.YtlbdciljbmpfmaaRows
import Derived.Test.YtlbdciljbmpfmaaCsBudget
import Derived.Test.YtlbdciljbmpfmaaCsArgs
import Derived.SizedLaws
import Derived.Lib.RowBridge
namespace Go.Proofs.Ytlbdciljbmpfmaa.csetBudget
open Go.ChangeShapes Go.WideShapes Go.ChangeAt Go.RowKit

theorem own : ownKnob Try.prog.godebug = none := by kernel_rfl
theorem laidOut : laidOutB Try.prog = true := by kernel_rfl
theorem cellsU : Try.prog.cellsOf 37 = 1 := by kernel_rfl

theorem u16_arg {H : Type} {enc : TypeId × Value → H} {P : Program} {w : World} {held : Bool} {t e : TypeId} {fuel : Nat} {v : Value} {x : DataW H × List MemPlace} (ht : P.underlying t = some (.slice e)) (he : P.underlying e = some (.int .u16)) (hC : P.cellsOf e = 1)
    (h : DataW.trod enc P w 0 (fun _ => true) held fuel t [v] = some x) : ∃ a c xs, v = .slice a (List.length xs) c ∧ U16In w w.heap.size a xs ∧ ∀ y, y ∈ xs → 0 ≤ y ∧ y ≤ 65535 := by
  rcases open_ints ht he hC h with ⟨hcs, -⟩ | ⟨a, len, cap, zs, hcs, _, hl, hm, hz, -, hcell, hwf⟩
  · injection hcs with hcs
    subst hcs
    exact ⟨none, 0, [], rfl, fun k hk => absurd hk (by simp), fun y hy => by cases hy⟩
  · injection hcs with hcs
    subst hcs
    simp only [if_true] at hz
    have hlen : (zs.take len).length = len := by simp; omega
    refine ⟨some a, cap, zs.take len, by rw [hlen], fun k hk => ?_, fun y hy => ?_⟩
    · have hk' : k < len := by omega
      have hc := hcell k (by omega)
      obtain ⟨b, o, rfl⟩ := addr_spot (hcell 0 (by omega))
      rw [Addr.add_lit] at hc
      refine ⟨b, o, rfl, lt_of_cell hc, ?_⟩
      rw [hc]
      simp only [List.getD, List.getElem?_take, hk', if_true]
    · have := hwf y (List.mem_of_mem_take hy)
      simpa [Lit.wf, IntKind.min, IntKind.max, IntKind.signed, IntKind.bits] using this

set_option maxHeartbeats 800000 in
set_option maxRecDepth 100000 in
theorem lifted (os : Os) (started : os.Started) (H : Type) (enc : TypeId × Value → H) :
    ReturnsInHanded {} Try.checked os 4 .any (Rows.csetBudgetSpec.pre6 enc Try.prog Try.f4 Rows.csetBudgetRow.domain false) (Rows.csetBudgetSpec.post enc Try.prog Try.f4 false true false false) := by
  refine returnsInHanded_of_change (C := Try.checked) own started (by kernel_rfl) Try.func4
    (ChangeSpec.witness6 (enc := enc) (C := Try.checked) false ⟨#[], #[.slice none 0 0, .int .i64 0], []⟩ 8 (by kernel_rfl) (by kernel_rfl) (by kernel_rfl) (by kernel_rfl)) ?_
  intro W base args ds gs before hval0 hW _ _
  have hval : ∀ (j : Nat) t v, Try.f4.params[j]? = some t → args[j]? = some v → Value.okWide Try.prog W .any base t v := hval0
  have hW' := hW
  obtain ⟨p, q, hA0, hV, rfl, _, _⟩ := hW
  have hA : DataW.TrodAll enc Try.prog W 0 (fun _ => true) true Try.f4.params.toList args.toList ds p := hA0
  rw [Try.params4] at hA hval
  obtain ⟨v0, v2, d0, d2, p0, p2, rfl, rfl, rfl, h0, h2⟩ := trodAll_two hA
  obtain ⟨rfl, rfl⟩ := trodVars_none hV
  have h2k := h2
  obtain ⟨x, rfl, rfl, rfl, wx⟩ := open_int Try.underlying3 (hval 1 3 v2 rfl rfl) h2
  obtain ⟨A0, N0, C0, hv0⟩ := okWide_slice Try.underlying36 (hval 0 36 v0 rfl rfl)
  have h0k := h0
  obtain ⟨f0, hf0⟩ := h0
  clear hA0 hval0
  have hlt : ∀ y ∈ p0 ++ [], y.block < W.heap.size := fun y hy => by simpa using hW'.lt y (by simpa using hy)
  have harg : ∀ W', Below W.heap.size W W' → DataW.TrodAll enc Try.prog W' 0 (fun b => decide (b < W.heap.size)) true [36, 3] [v0, .int .i64 x] [d0, .lit (.int .i64 x)] (p0 ++ []) := fun W' hb =>
    trodAll_mk2 (Below.trod laidOut (by kernel_rfl) (of_decide_eq_true (by kernel_rfl)) h0k hb (fun y hy => hlt y (by simp [hy])))
      (Below.trod laidOut (by kernel_rfl) (of_decide_eq_true (by kernel_rfl)) h2k hb (fun y hy => by cases hy))
  subst hv0
  simp only [Value.cells] at hf0
  obtain ⟨a, c, xs, e0, hi0, hl0⟩ := u16_arg Try.underlying36 Try.underlying37 cellsU hf0
  rw [e0]
  rw [e0] at harg hW'
  refine (csetBudget_any a c xs x W hi0 hl0).mono fun e W' ⟨he, hb⟩ => ?_
  subst he
  exact ⟨_, rfl, _, _, _, [], _, [], hW', trodAll_mk1 (shut_bool Try.underlying4 true), harg W' hb, rfl, hb.frame _, fun h => by cases h⟩

theorem holds : Rows.CsetBudgetSaid :=
  OpenClaim.holds_of_wide 4 Try.f4 rfl rfl rfl rfl rfl rfl rfl ⟨rfl, rfl, rfl, rfl, rfl⟩ rfl rfl rfl rfl rfl (by kernel_rfl) Try.func4 (by kernel_rfl)
    (of_decide_eq_true (by kernel_rfl)) (by unfold Func.isWrapper; first | (rw [if_pos (by decide +kernel)]; kernel_rfl) | (rw [if_neg (by decide +kernel)]; exact ⟨rfl, rfl⟩))
    (fun os started H enc _ => lifted os started H enc)
end Go.Proofs.Ytlbdciljbmpfmaa.csetBudget
