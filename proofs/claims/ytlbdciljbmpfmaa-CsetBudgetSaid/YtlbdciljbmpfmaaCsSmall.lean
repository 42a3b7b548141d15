/- The small functions of layer 18 and of its reference: what each comes to. -/
import Derived.Test.YtlbdciljbmpfmaaLib
import Derived.Deep.RegionHeld3
namespace Go.Proofs.Ytlbdciljbmpfmaa
open Go.RowKit

theorem isNaN_any (a : Int) (w : World) : Calls Try.prog 29 #[.int .i64 a] w fun e w' => e = .returned (.bool false) ∧ w = w' := by
  go_enter Try.func29, Try.ntmps29
  go_wp2
  go_ret
  exact ⟨by simp, rfl⟩
def cmpI (a b : Int) : Int := if a < b then -1 else if b < a then 1 else 0
theorem compare_any (a b : Int) (w : World) : Calls Try.prog 18 #[.int .i64 a, .int .i64 b] w fun e w' => e = .returned (.int .i64 (cmpI a b)) ∧ w = w' := by
  go_enter Try.func18, Try.ntmps18
  go_wp2_with ((go_at_call 29; with_reducible refine (isNaN_any _ _).mono ?_); rintro e w' ⟨rfl, rfl⟩)
  all_goals
    go_ret
    refine ⟨?_, rfl⟩
    simp [cmpI]
    try omega
def orI (x y : Int) : Int := if x = 0 then y else x
theorem or_two (b : Nat) (x y : Int) (c : Nat) (w : World) (h0 : w.cell? ⟨b, 0, none⟩ = some (.int .i64 x)) (h1 : w.cell? ⟨b, 1, none⟩ = some (.int .i64 y)) :
    Calls Try.prog 17 #[.slice (some ⟨b, 0, none⟩) 2 c] w fun e w' => e = .returned (.int .i64 (orI x y)) ∧ w = w' := by
  by_cases hx : x = 0
  · subst hx
    by_cases hy : y = 0
    · subst hy
      go_enter Try.func17, Try.ntmps17
      go_wp2
      refine wp_loop_rounds 3 ?_
      repeat any_goals (rw [rounds_succ]; go_wp2)
      go_ret
      exact ⟨by simp [orI], rfl⟩
    · have hy' : (y != 0) = true := by simpa using hy
      go_enter Try.func17, Try.ntmps17
      go_wp2
      refine wp_loop_rounds 3 ?_
      repeat any_goals (rw [rounds_succ]; go_wp2)
      go_ret
      exact ⟨by simp [orI], rfl⟩
  · have hx' : (x != 0) = true := by simpa using hx
    go_enter Try.func17, Try.ntmps17
    go_wp2
    refine wp_loop_rounds 3 ?_
    repeat any_goals (rw [rounds_succ]; go_wp2)
    go_ret
    exact ⟨by simp [orI, hx], rfl⟩

theorem live_any (r l : Int) (w : World) : Calls Try.prog 26 #[.agg #[.int .i64 r, .int .i64 l]] w fun e w' => e = .returned (.int .i64 (max l 0)) ∧ Grows w w' := by
  go_enter Try.func26, Try.ntmps26
  go_wp2
  all_goals
    go_ret
    refine ⟨?_, (Grows.refl _).alloc _⟩
    simp
    try omega

theorem run_max_zero (P : Program) (w : World) (x : Int) (t : TypeId) : (Builtin.max_ #[t, t] t #[.int .i64 x, .int .i64 0]).run P w = .ok (.int .i64 (max x 0)) w := by
  have e : (if 0 > x then (0 : Int) else x) = max x 0 := by split <;> omega
  simp only [Builtin.max_, List.foldlM_cons, List.foldlM_nil, Builtin.max2, e]
  rfl
/-- What the order of two candidates comes to. -/
def cmpC (a b : Int × Int) : Int := orI (cmpI (max a.2 0) (max b.2 0)) (cmpI a.1 b.1)
set_option maxHeartbeats 400000 in
theorem cmp_any (ra la rb lb : Int) (w : World) : Calls Try.prog 16 #[.agg #[.int .i64 ra, .int .i64 la], .agg #[.int .i64 rb, .int .i64 lb]] w fun e w' =>
    e = .returned (.int .i64 (cmpC (ra, la) (rb, lb))) ∧ Grows w w' := by
  have hm : ∀ (w : World) (x : Int), (Builtin.max_ #[3, 3] 3 #[.int .i64 x, .int .i64 0]).run Try.prog w = .ok (.int .i64 (max x 0)) w := fun w x => run_max_zero _ w x _
  go_enter Try.func16, Try.ntmps16
  go_wp2_with fail
  go_region_held3 (fun w' => w'.cell? ⟨w.heap.size, 0, none⟩ = some (.int .i64 ra) ∧ w'.cell? ⟨w.heap.size, 1, none⟩ = some (.int .i64 la) ∧ w'.cell? ⟨w.heap.size + 1, 0, none⟩ = some (.int .i64 rb) ∧ w'.cell? ⟨w.heap.size + 1, 1, none⟩ = some (.int .i64 lb)) (go_keep)
      (first | (go_at_call 18; refine (compare_any _ _ _).mono ?_; rintro e w' ⟨rfl, rfl⟩) | (go_at_call 17; refine (or_two _ (cmpI (max la 0) (max lb 0)) (cmpI ra rb) _ _ ?_ ?_).mono ?_; (go_simp); (go_simp); rintro e w' ⟨rfl, rfl⟩))
  all_goals go_wp2
  all_goals
    go_ret
    refine ⟨rfl, ?_⟩
    repeat (first | exact Grows.refl _ | refine Grows.drew ?_ | refine Grows.alloc ?_ _)

def lessC (a b : Int × Int) : Bool := decide (max a.2 0 < max b.2 0) || (decide (max a.2 0 = max b.2 0) && decide (a.1 < b.1))
set_option maxHeartbeats 1000000 in
theorem less_any (ra la rb lb : Int) (w : World) : Calls Try.prog 25 #[.agg #[.int .i64 ra, .int .i64 la], .agg #[.int .i64 rb, .int .i64 lb]] w fun e w' =>
    e = .returned (.bool (lessC (ra, la) (rb, lb))) ∧ Grows w w' := by
  have key : ∀ ma mb : Int, max la 0 = ma → max lb 0 = mb → lessC (ra, la) (rb, lb) = (decide (ma < mb) || (decide (ma = mb) && decide (ra < rb))) := by
    intro ma mb h1 h2; subst h1; subst h2; rfl
  have hl1 : ∀ W, Calls Try.prog 26 #[.agg #[.int .i64 ra, .int .i64 la]] W fun e w' => e = .returned (.int .i64 (max la 0)) ∧ Grows W w' := fun W => live_any ra la W
  have hl2 : ∀ W, Calls Try.prog 26 #[.agg #[.int .i64 rb, .int .i64 lb]] W fun e w' => e = .returned (.int .i64 (max lb 0)) ∧ Grows W w' := fun W => live_any rb lb W
  generalize max la 0 = ma at *
  generalize max lb 0 = mb at *
  have K := Lib.hid (key ma mb rfl rfl)
  have H1 := Lib.hid hl1
  have H2 := Lib.hid hl2
  clear key hl1 hl2
  have c1 : ∀ w', Grows ((w.alloc (.cells #[.int .i64 ra, .int .i64 la] 34)).alloc (.cells #[.int .i64 rb, .int .i64 lb] 34)) w' → w'.cell? ⟨w.heap.size, 0, none⟩ = some (.int .i64 ra) := fun w' h => h.cell (by go_simp)
  have c2 : ∀ w', Grows ((w.alloc (.cells #[.int .i64 ra, .int .i64 la] 34)).alloc (.cells #[.int .i64 rb, .int .i64 lb] 34)) w' → w'.cell? ⟨w.heap.size, 1, none⟩ = some (.int .i64 la) := fun w' h => h.cell (by go_simp)
  have c3 : ∀ w', Grows ((w.alloc (.cells #[.int .i64 ra, .int .i64 la] 34)).alloc (.cells #[.int .i64 rb, .int .i64 lb] 34)) w' → w'.cell? ⟨w.heap.size + 1, 0, none⟩ = some (.int .i64 rb) := fun w' h => h.cell (by go_simp)
  have c4 : ∀ w', Grows ((w.alloc (.cells #[.int .i64 ra, .int .i64 la] 34)).alloc (.cells #[.int .i64 rb, .int .i64 lb] 34)) w' → w'.cell? ⟨w.heap.size + 1, 1, none⟩ = some (.int .i64 lb) := fun w' h => h.cell (by go_simp)
  by_cases h1 : ma < mb
  · have d1 : decide (ma < mb) = true := by simpa using h1
    go_enter Try.func25, Try.ntmps25
    go_wp2_with fail
    refine region_grows (by kernel_rfl) (by kernel_rfl) ?_; (repeat (first | (with_reducible refine quiet_op (fun K hK G hG => ?_); go_simp; first | (refine hK _ ?_; clear hK K hG G) | (refine hG ?_; clear hG G; apply Exists.intro; refine ⟨fun w' hw' => ?_, ?_⟩; (unfold Oper.quietAt; go_simp; first | exact rfl | (go_at_call 26; with_reducible refine Calls.grown_of hw' (H1.out _)) | (go_at_call 26; with_reducible refine Calls.grown_of hw' (H2.out _))); go_simp; refine hK _ ?_; clear hK K)) | (with_reducible refine quiet_pass ?_ (fun K hK => ?_); (kernel_rfl); go_simp; refine hK _ ?_; clear hK K))); refine wpQuiet_nil ?_; intro wq hq
    go_wp2
    go_ret
    refine ⟨by rw [K.out, d1]; rfl, ?_⟩
    exact ((Grows.refl w).alloc _).alloc _ |>.trans hq
  · have d1 : decide (ma < mb) = false := by simpa using h1
    by_cases h2 : ma = mb
    · subst h2
      go_enter Try.func25, Try.ntmps25
      go_wp2_with fail
      refine region_grows (by kernel_rfl) (by kernel_rfl) ?_; (repeat (first | (with_reducible refine quiet_op (fun K hK G hG => ?_); go_simp; first | (refine hK _ ?_; clear hK K hG G) | (refine hG ?_; clear hG G; apply Exists.intro; refine ⟨fun w' hw' => ?_, ?_⟩; (unfold Oper.quietAt; go_simp; first | exact rfl | (go_at_call 26; with_reducible refine Calls.grown_of hw' (H1.out _)) | (go_at_call 26; with_reducible refine Calls.grown_of hw' (H2.out _))); go_simp; refine hK _ ?_; clear hK K)) | (with_reducible refine quiet_pass ?_ (fun K hK => ?_); (kernel_rfl); go_simp; refine hK _ ?_; clear hK K))); refine wpQuiet_nil ?_; intro wq hq
      go_wp2
      go_ret
      refine ⟨?_, ?_⟩
      · rw [K.out, d1]; simp
      · exact ((Grows.refl w).alloc _).alloc _ |>.trans hq
    · have d2 : decide (ma = mb) = false := by simpa using h2
      have d3 : (ma == mb) = false := by simpa using h2
      go_enter Try.func25, Try.ntmps25
      go_wp2_with fail
      refine region_grows (by kernel_rfl) (by kernel_rfl) ?_; (repeat (first | (with_reducible refine quiet_op (fun K hK G hG => ?_); go_simp; first | (refine hK _ ?_; clear hK K hG G) | (refine hG ?_; clear hG G; apply Exists.intro; refine ⟨fun w' hw' => ?_, ?_⟩; (unfold Oper.quietAt; go_simp; first | exact rfl | (go_at_call 26; with_reducible refine Calls.grown_of hw' (H1.out _)) | (go_at_call 26; with_reducible refine Calls.grown_of hw' (H2.out _))); go_simp; refine hK _ ?_; clear hK K)) | (with_reducible refine quiet_pass ?_ (fun K hK => ?_); (kernel_rfl); go_simp; refine hK _ ?_; clear hK K))); refine wpQuiet_nil ?_; intro wq hq
      go_wp2
      go_ret
      refine ⟨?_, ?_⟩
      · rw [K.out, d1, d2]; rfl
      · exact ((Grows.refl w).alloc _).alloc _ |>.trans hq

end Go.Proofs.Ytlbdciljbmpfmaa
