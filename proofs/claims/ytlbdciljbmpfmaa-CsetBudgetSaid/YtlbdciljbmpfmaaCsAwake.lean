/- 'awake' of layer 18's statements: it answers true. -/
import Derived.Test.YtlbdciljbmpfmaaCsSelW
import Derived.Test.YtlbdciljbmpfmaaCsNext
import Derived.Test.YtlbdciljbmpfmaaCsRef
namespace Go.Proofs.Ytlbdciljbmpfmaa
open Go.RowKit Cs Go.Sort

def awCs : List (Int × Int) := [(9, 30), (1, 10), (4, 10)]
theorem aw_left : left awCs [1] = [(9, 30), (4, 10)] := by decide
theorem aw_sort : sortK (awCs.map key) = [(10, 1), (10, 4), (30, 9)] := by
  refine sortK_eq ?_ ?_
  · show List.Perm [(10, 1), (10, 4), (30, 9)] [((30 : Int), (9 : Int)), (10, 1), (10, 4)]
    exact (List.Perm.cons _ (List.Perm.swap _ _ _)).trans (List.Perm.swap _ _ _)
  · decide
theorem aw_choice : IsChoice [5, 2] awCs 25 [1, 2, 4, 5] := by
  refine ⟨by decide, fun x => ?_⟩
  rw [picks, aw_sort]
  have : greedy [(10, 1), (10, 4), (30, 9)] 25 = [1, 4] := by decide
  rw [this]
  simp only [List.mem_cons, List.not_mem_nil, or_false]
  omega

theorem candsIn_block {w : World} {b : Nat} {t : TypeId} {cs : List (Int × Int)} (h : w.heap[b]? = some (.cells (flat cs).toArray t (0, 0))) : CandsIn w w.heap.size (some ⟨b, 0, none⟩) cs := by
  intro k hk
  obtain ⟨h1, h2⟩ := flat_even cs k hk
  refine ⟨b, 0, rfl, (Array.getElem?_eq_some_iff.1 h).1, ?_, ?_⟩
  · rw [Nat.zero_add, cell_of_row w b _ _ _ _ h, List.getElem?_toArray, h1]
  · rw [Nat.zero_add, cell_of_row w b _ _ _ _ h, List.getElem?_toArray, h2]
theorem intsIn_block {w : World} {b : Nat} {t : TypeId} {zs : List Int} (h : w.heap[b]? = some (.cells (zs.map (Value.int .i64)).toArray t (0, 0))) : IntsIn w w.heap.size (some ⟨b, 0, none⟩) zs := by
  intro k hk
  refine ⟨b, 0, rfl, (Array.getElem?_eq_some_iff.1 h).1, ?_⟩
  rw [Nat.zero_add, cell_of_row w b _ _ _ _ h, List.getElem?_toArray]
  simp [List.getD, hk]

theorem OwnI.ints {w : World} {B : Nat} {v : Value} {zs : List Int} (h : OwnI w B v zs) : ∃ a c, v = .slice a zs.length c ∧ IntsIn w w.heap.size a zs := by
  obtain ⟨a, c, hv, _, hg⟩ := h
  refine ⟨a, c, hv, fun k hk => ?_⟩
  obtain ⟨g, e, _, hlt, hH⟩ := hg (by omega)
  have h1 := (hH k (by simpa using hk)).1
  exact ⟨g, 0, e, hlt, by rw [h1]; simp [List.getD, hk]⟩

theorem aw_next (W : World) (b p : Nat) (hb : W.heap[b]? = some (.cells #[.int .i64 9, .int .i64 30, .int .i64 1, .int .i64 10, .int .i64 4, .int .i64 10] 33 (0, 0))) (hp : W.heap[p]? = some (.cells #[.int .i64 1] 3 (0, 0))) :
    Calls Try.prog 8 #[.slice (some ⟨b, 0, none⟩) 3 3, .slice (some ⟨p, 0, none⟩) 1 1] W fun e w' =>
      ∃ a' c', e = .returned (.slice a' 2 c') ∧ CandsIn w' w'.heap.size a' [(9, 30), (4, 10)] ∧ Below W.heap.size W w' := by
  have h := next_any _ (some ⟨b, 0, none⟩) 1 3 awCs [1] W _ _ (candsIn_block (cs := awCs) hb) (intsIn_block (zs := [1]) hp) (Nat.le_refl _) (Nat.le_refl _) (by decide) (by decide)
  rw [aw_left] at h
  exact h
theorem aw_choose (W : World) (b p : Nat) (hb : W.heap[b]? = some (.cells #[.int .i64 9, .int .i64 30, .int .i64 1, .int .i64 10, .int .i64 4, .int .i64 10] 33 (0, 0))) (hp : W.heap[p]? = some (.cells #[.int .i64 5, .int .i64 2] 3 (0, 0))) :
    Calls Try.prog 7 #[.slice (some ⟨p, 0, none⟩) 2 2, .slice (some ⟨b, 0, none⟩) 3 3, .int .i64 25] W fun e w' =>
      ∃ a' c', e = .returned (.slice a' 4 c') ∧ IntsIn w' w'.heap.size a' [1, 2, 4, 5] ∧ Below W.heap.size W w' := by
  have h := choose_any (some ⟨p, 0, none⟩) (some ⟨b, 0, none⟩) 2 3 [5, 2] awCs 25 W _ _ (intsIn_block (zs := [5, 2]) hp) (candsIn_block (cs := awCs) hb) (Nat.le_refl _) (by decide) (by decide) (by decide) (by decide)
  refine Calls.mono h ?_
  rintro e w' ⟨v, zs, rfl, hch, hown, hbl⟩
  have := hch.unique aw_choice
  subst this
  obtain ⟨a, c, rfl, hi⟩ := hown.ints
  exact ⟨a, c, rfl, hi, hbl⟩
theorem aw_same (W : World) (a : Option Addr) (c p B : Nat) (ha : IntsIn W B a [1, 2, 4, 5]) (hp : W.heap[p]? = some (.cells #[.int .i64 1, .int .i64 2, .int .i64 4, .int .i64 5] 3 (0, 0))) :
    Calls Try.prog 11 #[.slice a 4 c, .slice (some ⟨p, 0, none⟩) 4 4] W fun e w' => e = .returned (.bool true) ∧ Grows W w' :=
  same_any B _ a (some ⟨p, 0, none⟩) c 4 [1, 2, 4, 5] [1, 2, 4, 5] W ha (intsIn_block (zs := [1, 2, 4, 5]) hp) (by decide)

set_option maxHeartbeats 2000000 in
theorem awake_any (w : World) : Calls Try.prog 6 #[] w fun e w' => e = .returned (.bool true) ∧ Below w.heap.size w w' := by
  go_enter Try.func6, Try.ntmps6
  go_wp2_with fail
  have hbl : ∀ o o', Below w.heap.size w ((w.alloc o).alloc o') := fun o o' => ((Below.refl _ _).alloc (Nat.le_refl _) o).alloc (by simp) o'
  have HBL := Lib.hid hbl
  clear hbl
  (with_reducible refine (aw_next _ w.heap.size (w.heap.size + 1) ?_ ?_).mono ?_)
  · rw [heap_alloc_old _ _ (by simp), heap_alloc_new]
  · have := heap_alloc_new (w.alloc (.cells #[.int .i64 9, .int .i64 30, .int .i64 1, .int .i64 10, .int .i64 4, .int .i64 10] 33)) (.cells #[.int .i64 1] 3)
    simpa using this
  rintro e w1 ⟨a1, c1, rfl, hin1, hb1⟩
  have hsz1 : w.heap.size + 2 ≤ w1.heap.size := by have := hb1.size; simpa using this
  have hl1 : w1.heap[w.heap.size]? = some (.cells #[.int .i64 9, .int .i64 30, .int .i64 1, .int .i64 10, .int .i64 4, .int .i64 10] 33 (0, 0)) := by
    rw [hb1.block _ (by simp; omega), heap_alloc_old _ _ (by simp), heap_alloc_new]
  have hB1 : Below w.heap.size w w1 := (HBL.out _ _).trans (hb1.mono (by simp; omega))
  have HB1 := Lib.hid hB1
  have HL1 := Lib.hid hl1
  have HIN := Lib.hid hin1
  clear hb1 hB1 hl1 hin1 HBL
  go_wp2_with fail
  (with_reducible refine (aw_choose _ w.heap.size w1.heap.size ?_ ?_).mono ?_)
  · rw [heap_alloc_old _ _ (by omega)]; exact HL1.out
  · rw [heap_alloc_new]
  rintro e w2 ⟨a2, c2, rfl, hin2, hb2⟩
  have hsz2 : w1.heap.size + 1 ≤ w2.heap.size := by have := hb2.size; simpa using this
  have hB2 : Below w.heap.size w w2 := (HB1.out.alloc (by omega) _).trans (hb2.mono (by simp; omega))
  have hin3 : CandsIn w2 w1.heap.size a1 [(9, 30), (4, 10)] := (HIN.out.keep fun p hp => World.cell?_alloc_lt w1 _ p hp).keep fun p hp => hb2.cell (by simp; omega)
  have HB2 := Lib.hid hB2
  have HI2 := Lib.hid hin2
  have HI3 := Lib.hid hin3
  clear hb2 hB2 hin2 hin3 HIN HB1
  go_wp2_with fail
  (with_reducible refine (aw_same _ a2 c2 w2.heap.size w2.heap.size ?_ ?_).mono ?_)
  · exact HI2.out.keep fun p hp => World.cell?_alloc_lt w2 _ p hp
  · rw [heap_alloc_new]
  rintro e w3 ⟨rfl, hg3⟩
  obtain ⟨g, o, rfl, hg, hc1, hc2⟩ := HI3.out 1 (by decide)
  have hk1 := hg3.cell (((Grows.refl w2).alloc _).cell hc1)
  have hk2 := hg3.cell (((Grows.refl w2).alloc _).cell hc2)
  have hB3 : Below w.heap.size w w3 := (HB2.out.alloc (by omega) _).trans (hg3.below.mono (by simp; omega))
  have HB3 := Lib.hid hB3
  clear hg3 hc1 hc2 hB3
  go_wp2_with fail
  go_ret
  exact ⟨rfl, HB3.out⟩
end Go.Proofs.Ytlbdciljbmpfmaa
