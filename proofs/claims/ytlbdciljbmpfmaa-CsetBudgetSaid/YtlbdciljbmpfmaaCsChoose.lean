/- cset.Choose: what it comes to. -/
import Derived.Test.YtlbdciljbmpfmaaCsRow
import Derived.Maps.AppendAt
namespace Go.Proofs.Ytlbdciljbmpfmaa
open Go.RowKit Cs Go.Sort

theorem greedy_stop {r l b : Int} {ks : List Key} (h : b < max l 0) : greedy (key (r, l) :: ks) b = [] := by unfold greedy; exact if_pos h
theorem greedy_go {r l b : Int} {ks : List Key} (h : max l 0 ≤ b) : greedy (key (r, l) :: ks) b = r :: greedy ks (b - max l 0) := by
  rw [greedy]
  exact if_neg (show ¬ (max l 0 > b) by omega)
theorem infoI : (Try.prog.info? 3).map (fun i => (i.zero, i.size, i.bytes)) = some (some (.int .i64 0), 1, 8) := by kernel_rfl
set_option maxHeartbeats 4000000 in
theorem choose_any (a b : Option Addr) (c d : Nat) (xs : List Int) (cs : List (Int × Int)) (budget : Int) (w : World) (B B' : Nat) (h1 : IntsIn w B a xs) (h2 : CandsIn w B' b cs) (hB' : B' ≤ w.heap.size)
    (hx : xs.length ≤ 1000000) (hc : cs.length ≤ 1000000) (hb1 : -9223372036854775808 ≤ budget) (hb2 : budget ≤ 9223372036854775807) :
    Calls Try.prog 7 #[.slice a xs.length c, .slice b cs.length d, .int .i64 budget] w fun e w' => ∃ v zs, e = .returned v ∧ IsChoice xs cs budget zs ∧ OwnI w' w.heap.size v zs ∧ Below w.heap.size w w' := by
  have H1 := Lib.hid h1
  have H2 := Lib.hid h2
  clear h1 h2
  go_enter Try.func7, Try.ntmps7
  go_wp2_with fail
  refine (clone_ints a c xs w B H1.out (by omega)).mono ?_
  rintro e w1 ⟨v1, rfl, ho1, hbl1⟩
  go_wp2_with fail
  refine (clone_cands b d cs w1 B' (H2.out.keep fun p hp => hbl1.cell (by omega)) (by omega)).mono ?_
  rintro e w2 ⟨v2, rfl, ho2, hbl2⟩
  go_wp2_with fail
  refine (sort_cands _ _ _ _ cs w2 ho2 (by omega)).mono ?_
  rintro e w3 ⟨rfl, hbl3, a', cap, cs', rfl, hperm, hsort, hin, hob⟩
  have hlen : cs'.length = cs.length := hperm.length_eq
  have hgre : picks cs budget = greedy (cs'.map key) budget := by
    unfold picks
    rw [sortK_eq (hperm.map key) hsort]
  have HL := Lib.hid hlen
  have HG := Lib.hid hgre
  have HP := Lib.hid hperm
  clear hlen hgre hperm hsort H1 H2
  have hw1 : w.heap.size ≤ w1.heap.size := hbl1.size
  have hw2 : w1.heap.size ≤ w2.heap.size := hbl2.size
  have hw3 : w2.heap.size ≤ w3.heap.size := hbl3.size
  have ho3 : w3.ownsRow w.heap.size 3 1 v1 xs.length (xs.map (Value.int .i64)) := ownsRow_below (ownsRow_below ho1 hbl2 fun k hk => (ho1.lt k hk).2) hbl3 fun k hk => (ho1.lt k hk).2
  have hne : ∀ g o, a' = some ⟨g, o, none⟩ → v1.ownBlock ≠ some g := by
    intro g o e he
    have h3 := (ho1.lt g he).2
    have h4 := hob g (by rw [e]; rfl)
    omega
  have hbl : Below w.heap.size w w3 := (hbl1.trans (hbl2.mono hw1)).trans (hbl3.mono hw1)
  clear ho1 ho2 hbl1 hbl2 hbl3 hob
  obtain ⟨i0, hi, hz0, hz1, hz2⟩ := info_parts infoI
  have hm : ∀ (w : World) (x : Int), (Builtin.max_ #[3, 3] 3 #[.int .i64 x, .int .i64 0]).run Try.prog w = .ok (.int .i64 (max x 0)) w := fun w x => run_max_zero _ w x _
  go_wp2_with fail
  go_loopw [2, 7, 20] (fun t v i wr => ∃ (k : Nat) (bud : Int) (taken : List Int), k ≤ cs.length ∧ i = .int .i64 k ∧ t = .int .i64 bud ∧ bud ≤ 9223372036854775807 ∧ -9223372036854775808 ≤ bud ∧ taken.length ≤ k ∧
      greedy (cs'.map key) budget = taken ++ greedy ((cs'.drop k).map key) bud ∧
      wr.ownsRow w.heap.size 3 1 v (xs.length + taken.length) ((xs ++ taken).map (Value.int .i64)) ∧ CandsIn wr wr.heap.size a' cs' ∧ (∀ g o, a' = some ⟨g, o, none⟩ → v.ownBlock ≠ some g) ∧ Below w.heap.size w wr)
    (fun _ _ i _ => cs.length - (intOf i).toNat)
  case atStart => exact ⟨0, budget, [], Nat.zero_le _, rfl, rfl, hb2, hb1, Nat.le_refl _, by simp, by simpa using ho3, hin, hne, hbl⟩
  case round =>
    obtain ⟨k, bud, taken, hk, rfl, rfl, hu1, hu2, htk, hgr, hown, hinr, hner, hblr⟩ := hrel
    by_cases hlt : k < cs.length
    · obtain ⟨g, o, rfl, hg, hc1, hc2⟩ := hinr k (by have := HL.out; omega)
      have hdrop : cs'.drop k = cs'.getD k (0, 0) :: cs'.drop (k + 1) := by
        have := HL.out
        rw [List.drop_eq_getElem_cons (by omega)]
        simp [List.getD, show k < cs'.length by omega]
      rw [hdrop, List.map_cons] at hgr
      generalize cs'.getD k (0, 0) = cd at *
      obtain ⟨r, l⟩ := cd
      have HR := Lib.hid hgr
      clear hgr hdrop
      have hl0 : 0 ≤ max l 0 := by omega
      go_wp2_with (at_builtin; (refine wpList_append_own_at _ rfl _ _ 22 rfl w.heap.size 3 i0 (.int .i64 0) 1 8 Go.Proofs.Try.underlying22 hi hz0 hz1 hz2 rfl (by decide) _ _ _ rfl ((hown.alloc _).alloc _) ⟨wr.heap.size + 1, 0, none⟩ 1 1 [.int .i64 r] rfl rfl ?c1 ?c2 ?c3 ?c4 ?c5 ?_))
      case c2 => rfl
      case c3 => unfold maxLen; omega
      case c4 => omega
      case c5 => have := hblr.size; omega
      · have hgt : bud < max l 0 := by assumption
        have hfin : picks cs budget = taken := by
          rw [HG.out, HR.out]
          rw [greedy_stop (by omega), List.append_nil]
        have HF := Lib.hid hfin
        clear hfin HR
        refine (sort_ints _ _ _ _ (xs ++ taken) _ (hown.alloc _) (by simp; omega)).mono ?_
        rintro e w4 ⟨rfl, hb4, hs0, hs1⟩
        have hb5 : Below w.heap.size w w4 := (hblr.alloc hblr.size _).trans hb4
        have hsp := List.mergeSort_perm (xs ++ taken) fun x y => decide (x ≤ y)
        have hss : ((xs ++ taken).mergeSort fun x y => decide (x ≤ y)).Pairwise (· ≤ ·) := by
          have := List.pairwise_mergeSort (le := fun x y : Int => decide (x ≤ y)) (by intro a b c h1 h2; simp at *; omega) (by intro a b; simp; omega) (xs ++ taken)
          simpa using this
        have hcs := compact_of_sorted _ hss
        have hch : IsChoice xs cs budget (Lib.compact ((xs ++ taken).mergeSort fun x y => decide (x ≤ y))) := by
          refine ⟨hcs.1, fun x => (hcs.2 x).trans ?_⟩
          rw [hsp.mem_iff, List.mem_append, HF.out]
        have hl4 : ((xs ++ taken).mergeSort fun x y => decide (x ≤ y)).length = (xs ++ taken).length := hsp.length_eq
        generalize ((xs ++ taken).mergeSort fun x y => decide (x ≤ y)) = ss at *
        have HC := Lib.hid hch
        have HL4 := Lib.hid hl4
        clear hch hl4 hcs hsp
        by_cases hz : 0 < (xs ++ taken).length
        · obtain ⟨g4, cap4, hv4, hg4, hg5, hcap4, hH4⟩ := hs1 hz
          rw [List.length_append] at hv4
          subst hv4
          clear hs0 hs1 hown
          go_wp2_with fail
          have hcon := compact_ints w.heap.size g4 cap4 ss w4 hg5 hg4 (by rw [HL4.out]; exact hcap4) (by rw [HL4.out]; simp; omega) hH4
          rw [HL4.out, List.length_append] at hcon
          (with_reducible refine hcon.mono ?_)
          rintro e w5 ⟨v5, rfl, ho5, hb6⟩
          go_wp2_with fail
          go_ret
          exact ⟨v5, _, rfl, HC.out, ho5, hb5.trans hb6⟩
        · have hnil : xs ++ taken = [] := List.eq_nil_of_length_eq_zero (by omega)
          have hss0 : ss = [] := List.eq_nil_of_length_eq_zero (by rw [HL4.out, hnil]; rfl)
          subst hss0
          have hw4 := hs0 hnil
          have hv7 : ∃ a7 c7, u7 = .slice a7 0 c7 := by
            have hn0 : xs.length + taken.length = 0 := by have := congrArg List.length hnil; simpa using this
            rcases hown.2 with ⟨hv, _⟩ | ⟨g, cap, cur, hv, _⟩
            · exact ⟨_, _, hv⟩
            · exact ⟨_, _, by rw [hv, hn0]⟩
          obtain ⟨a7, c7, rfl⟩ := hv7
          clear hs0 hs1 hown
          go_wp2_with fail
          refine (Try.slices_Compact_int_empty a7 c7 w4).mono ?_
          rintro e w5 ⟨rfl, rfl⟩
          go_wp2_with fail
          go_ret
          exact ⟨_, _, rfl, HC.out, ⟨a7, c7, rfl, Nat.zero_le _, fun h => absurd h (by simp [Lib.compact, Lib.compactUpTo])⟩, hb5⟩
      · intro v' w4 hown4 hgrow4 _ hblk4
        have hle : max l 0 ≤ bud := by assumption
        have hsz4 : wr.heap.size + 2 ≤ w4.heap.size := by have := hgrow4.size; simpa using this
        have hin4 : CandsIn w4 w4.heap.size (some ⟨g, o, none⟩) cs' := by
          intro j hj
          obtain ⟨g', o', e, hg', k1, k2⟩ := hinr j hj
          simp only [Option.some.injEq, Addr.mk.injEq, and_true] at e
          obtain ⟨rfl, rfl⟩ := e
          have hn' := hner g o rfl
          refine ⟨g, o, rfl, by omega, ?_, ?_⟩
          · refine (World.cell?_of_block (hgrow4.block g (by simp; omega) (fun e => hn' e.symm))).trans ?_
            rw [World.cell?_alloc_past _ _ _ (by simp; omega), World.cell?_alloc_past _ _ _ hg']
            exact k1
          · refine (World.cell?_of_block (hgrow4.block g (by simp; omega) (fun e => hn' e.symm))).trans ?_
            rw [World.cell?_alloc_past _ _ _ (by simp; omega), World.cell?_alloc_past _ _ _ hg']
            exact k2
        have hb4 : Below w.heap.size w w4 := ((hblr.alloc hblr.size _).alloc (by have := hblr.size; simp; omega) _).grown hgrow4 (by have := hblr.size; simp; omega) (fun j hj => (hown.lt j hj).1)
        have hne4 : ∀ g_1 o_1, some (⟨g, o, none⟩ : Addr) = some ⟨g_1, o_1, none⟩ → v'.ownBlock ≠ some g_1 := by
          intro g1 o1 e h
          simp only [Option.some.injEq, Addr.mk.injEq, and_true] at e
          obtain ⟨rfl, rfl⟩ := e
          rcases hblk4 with e | e
          · exact hner g o rfl (e.symm.trans h)
          · rw [h] at e
            simp at e
            omega
        have hstep : greedy (cs'.map key) budget = (taken ++ [r]) ++ greedy ((cs'.drop (k + 1)).map key) (bud - max l 0) := by
          rw [HR.out]
          rw [greedy_go (by omega), List.append_assoc]
          rfl
        have HR2 := Lib.hid hstep
        clear hstep HR
        have hown5 : w4.ownsRow w.heap.size 3 1 v' (xs.length + (taken ++ [r]).length) ((xs ++ (taken ++ [r])).map (Value.int .i64)) := by
          have := hown4
          simp only [List.map_append, List.map_cons, List.map_nil, List.length_append, List.length_cons, List.length_nil, Nat.zero_add, Nat.add_assoc] at this ⊢
          exact this
        clear hown4 hgrow4 hblk4 hown hinr hblr hner hc1 hc2
        go_wp2_with fail
        go_roundw
        case rel => exact ⟨k + 1, bud - max l 0, taken ++ [r], by omega, by go_num, rfl, by omega, by omega, by simp; omega, HR2.out, hown5, hin4, hne4, hb4⟩
        case measure => simp [intOf]; omega
    · have hk' : k = cs.length := by omega
      have hfin : picks cs budget = taken := by
        rw [HG.out, hgr, List.drop_eq_nil_of_le (by have := HL.out; omega)]
        simp [greedy]
      have HF := Lib.hid hfin
      clear hfin hgr
      go_wp2_with fail
      refine (sort_ints _ _ _ _ (xs ++ taken) _ hown (by simp; omega)).mono ?_
      rintro e w4 ⟨rfl, hb4, hs0, hs1⟩
      have hb5 : Below w.heap.size w w4 := hblr.trans hb4
      have hsp := List.mergeSort_perm (xs ++ taken) fun x y => decide (x ≤ y)
      have hss : ((xs ++ taken).mergeSort fun x y => decide (x ≤ y)).Pairwise (· ≤ ·) := by
        have := List.pairwise_mergeSort (le := fun x y : Int => decide (x ≤ y)) (by intro a b c h1 h2; simp at *; omega) (by intro a b; simp; omega) (xs ++ taken)
        simpa using this
      have hcs := compact_of_sorted _ hss
      have hch : IsChoice xs cs budget (Lib.compact ((xs ++ taken).mergeSort fun x y => decide (x ≤ y))) := by
        refine ⟨hcs.1, fun x => (hcs.2 x).trans ?_⟩
        rw [hsp.mem_iff, List.mem_append, HF.out]
      have hl4 : ((xs ++ taken).mergeSort fun x y => decide (x ≤ y)).length = (xs ++ taken).length := hsp.length_eq
      generalize ((xs ++ taken).mergeSort fun x y => decide (x ≤ y)) = ss at *
      have HC := Lib.hid hch
      have HL4 := Lib.hid hl4
      clear hch hl4 hcs hsp
      by_cases hz : 0 < (xs ++ taken).length
      · obtain ⟨g4, cap4, hv4, hg4, hg5, hcap4, hH4⟩ := hs1 hz
        rw [List.length_append] at hv4
        subst hv4
        clear hs0 hs1 hown
        go_wp2_with fail
        have hcon := compact_ints w.heap.size g4 cap4 ss w4 hg5 hg4 (by rw [HL4.out]; exact hcap4) (by rw [HL4.out]; simp; omega) hH4
        rw [HL4.out, List.length_append] at hcon
        (with_reducible refine hcon.mono ?_)
        rintro e w5 ⟨v5, rfl, ho5, hb6⟩
        go_wp2_with fail
        go_ret
        exact ⟨v5, _, rfl, HC.out, ho5, hb5.trans hb6⟩
      · have hnil : xs ++ taken = [] := List.eq_nil_of_length_eq_zero (by omega)
        have hss0 : ss = [] := List.eq_nil_of_length_eq_zero (by rw [HL4.out, hnil]; rfl)
        subst hss0
        have hw4 := hs0 hnil
        have hv7 : ∃ a7 c7, u7 = .slice a7 0 c7 := by
          have hn0 : xs.length + taken.length = 0 := by have := congrArg List.length hnil; simpa using this
          rcases hown.2 with ⟨hv, _⟩ | ⟨g, cap, cur, hv, _⟩
          · exact ⟨_, _, hv⟩
          · exact ⟨_, _, by rw [hv, hn0]⟩
        obtain ⟨a7, c7, rfl⟩ := hv7
        clear hs0 hs1 hown
        go_wp2_with fail
        refine (Try.slices_Compact_int_empty a7 c7 w4).mono ?_
        rintro e w5 ⟨rfl, rfl⟩
        go_wp2_with fail
        go_ret
        exact ⟨_, _, rfl, HC.out, ⟨a7, c7, rfl, Nat.zero_le _, fun h => absurd h (by simp [Lib.compact, Lib.compactUpTo])⟩, hb5⟩
end Go.Proofs.Ytlbdciljbmpfmaa
