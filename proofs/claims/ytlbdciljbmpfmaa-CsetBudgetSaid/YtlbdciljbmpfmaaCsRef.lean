/- The reference of layer 18 and the comparison of rows: what they come to. -/
import Derived.Test.YtlbdciljbmpfmaaCsNext
import Derived.Maps.AppendAt
namespace Go.Proofs.Ytlbdciljbmpfmaa
open Go.RowKit Cs Go.Sort

theorem same_lens (a1 a2 : Option Addr) (n m c1 c2 : Nat) (w : World) (hne : ¬ n = m) :
    Calls Try.prog 11 #[.slice a1 n c1, .slice a2 m c2] w fun e w' => e = .returned (.bool false) ∧ w = w' := by
  have hb : (bne ((n : Nat) : Int) ((m : Nat) : Int)) = true := by rw [bne_iff_ne]; omega
  go_enter Try.func11, Try.ntmps11
  go_wp2
  go_ret
  exact ⟨rfl, rfl⟩

set_option maxHeartbeats 400000 in
theorem same_eq (B B' : Nat) (a1 a2 : Option Addr) (c1 c2 : Nat) (xs ys : List Int) (w : World) (h1 : IntsIn w B a1 xs) (h2 : IntsIn w B' a2 ys) (hl : xs.length ≤ 1000000) (heq : xs.length = ys.length) :
    Calls Try.prog 11 #[.slice a1 xs.length c1, .slice a2 ys.length c2] w fun e w' => e = .returned (.bool (decide (xs = ys))) ∧ Grows w w' := by
  have hb : (bne ((xs.length : Nat) : Int) ((ys.length : Nat) : Int)) = false := by rw [bne_eq_false_iff_eq]; omega
  have H := Lib.hid heq
  have hl2 : ys.length ≤ 1000000 := by omega
  clear heq
  go_enter Try.func11, Try.ntmps11
  go_wp2
  go_loopw [5] (fun i wr => ∃ k : Nat, k ≤ xs.length ∧ i = .int .i64 k ∧ xs.take k = ys.take k ∧ Drawn w wr) (fun i _ => xs.length - (intOf i).toNat)
  case atStart => exact ⟨0, Nat.zero_le _, rfl, rfl, Drawn.refl _⟩
  case round =>
    obtain ⟨k, hk, rfl, htake, ⟨n, rfl⟩⟩ := hrel
    by_cases hlt : k < xs.length
    · obtain ⟨b1, o1, rfl, -, hc1⟩ := h1 k hlt
      obtain ⟨b2, o2, rfl, -, hc2⟩ := h2 k (by have := H.out; omega)
      have i1 : (0 : Int) ≤ (k : Int) := by omega
      have i2 : (k : Int) < (xs.length : Int) := by omega
      have i3 : (k : Int) < (ys.length : Int) := by have := H.out; omega
      have hsx : xs.take (k+1) = xs.take k ++ [xs.getD k 0] := take_snoc_int hlt
      have hsy : ys.take (k+1) = ys.take k ++ [ys.getD k 0] := take_snoc_int (by have := H.out; omega)
      have HS := Lib.hid (And.intro hsx hsy)
      clear hsx hsy
      generalize xs.getD k 0 = x at *
      generalize ys.getD k 0 = y at *
      by_cases hxy : x = y
      · subst hxy
        go_wp2
        go_quiet (fail)
        go_wp2
        go_roundw
        case rel => exact ⟨k+1, by omega, by go_num, by rw [HS.out.1, HS.out.2, htake], Drawn.mk _ _⟩
        case measure => simp [intOf]; omega
      · have hb' : (x != y) = true := by simpa using hxy
        go_wp2
        go_quiet (fail)
        go_wp2
        go_ret
        have hne : ¬ xs = ys := by
          intro e
          have h := HS.out
          rw [e] at h
          have := h.1.symm.trans h.2
          simp at this
          exact hxy this
        exact ⟨by simp [hne], (Drawn.mk2 _ _ _).grows⟩
    · go_wp2
      go_ret
      have : k = xs.length := by omega
      subst this
      have h := H.out
      rw [List.take_of_length_le (Nat.le_refl _), List.take_of_length_le (by omega)] at htake
      exact ⟨by simp [htake], (Drawn.mk _ _).grows⟩

theorem same_any (B B' : Nat) (a1 a2 : Option Addr) (c1 c2 : Nat) (xs ys : List Int) (w : World) (h1 : IntsIn w B a1 xs) (h2 : IntsIn w B' a2 ys) (hl : xs.length ≤ 1000000) :
    Calls Try.prog 11 #[.slice a1 xs.length c1, .slice a2 ys.length c2] w fun e w' => e = .returned (.bool (decide (xs = ys))) ∧ Grows w w' := by
  by_cases h : xs.length = ys.length
  · exact same_eq B B' a1 a2 c1 c2 xs ys w h1 h2 hl h
  · refine (same_lens a1 a2 xs.length ys.length c1 c2 w h).mono fun e w' ⟨he, hw⟩ => ⟨?_, hw ▸ Grows.refl _⟩
    rw [he, decide_eq_false]
    intro e
    exact h (congrArg _ e)

theorem news_alloc (w : World) (xs : List Value) (t : TypeId) : ∀ j u, xs[j]? = some u → (w.alloc (.cells xs.toArray t)).cell? ((⟨w.heap.size, 0, none⟩ : Addr).add j) = some u := by
  intro j u hj
  rw [Addr.add_lit, Nat.zero_add, cell_of_row _ _ _ _ _ _ (heap_alloc_new w _)]
  simpa using hj
theorem infoR : (Try.prog.info? 34).map (fun i => (i.zero, i.size, i.bytes)) = some (some (.agg #[.int .i64 0, .int .i64 0]), 2, 16) := by kernel_rfl
set_option maxHeartbeats 1000000 in
/-- 'ref': the candidates once more, for the reference. -/
theorem ref_any (b : Option Addr) (d : Nat) (cs : List (Int × Int)) (w : World) (B : Nat) (h : CandsIn w B b cs) (hB : B ≤ w.heap.size) (hc : cs.length ≤ 1000000) :
    Calls Try.prog 10 #[.slice b cs.length d] w fun e w' => ∃ a' c', e = .returned (.slice a' cs.length c') ∧ CandsIn w' w'.heap.size a' cs ∧ Below w.heap.size w w' := by
  have H := Lib.hid h
  clear h
  obtain ⟨i0, hi, hz0, hz1, hz2⟩ := info_parts infoR
  go_enter Try.func10, Try.ntmps10
  go_wp2_with fail
  go_loopw [3, 4] (fun v i wr => ∃ k : Nat, k ≤ cs.length ∧ i = .int .i64 k ∧ wr.ownsRow w.heap.size 34 2 v k (flat (cs.take k)) ∧ Below w.heap.size w wr) (fun _ i _ => cs.length - (intOf i).toNat)
  case atStart => exact ⟨0, Nat.zero_le _, rfl, World.ownsRow_nil _ _ _ _, Below.refl _ _⟩
  case round =>
    obtain ⟨k, hk, rfl, hown, hb⟩ := hrel
    by_cases hlt : k < cs.length
    · obtain ⟨g, o, rfl, hg, hc1, hc2⟩ := H.out k hlt
      rw [← hb.cell (by exact Nat.lt_of_lt_of_le hg hB)] at hc1 hc2
      have ht : flat (cs.take (k + 1)) = flat (cs.take k) ++ [.int .i64 (cs.getD k (0, 0)).1, .int .i64 (cs.getD k (0, 0)).2] := by
        rw [List.take_succ_eq_append_getElem hlt, flat_append]
        simp [List.getD, hlt, flat, encC]
      have HT := Lib.hid ht
      clear ht
      generalize (cs.getD k (0, 0)).1 = r at *
      generalize (cs.getD k (0, 0)).2 = l at *
      go_wp2_with (at_builtin; (refine wpList_append_own_at _ rfl _ _ 27 rfl w.heap.size 34 i0 (.agg #[.int .i64 0, .int .i64 0]) 2 16 Go.Proofs.Try.underlying27 hi hz0 hz1 hz2 rfl (by decide) _ _ _ rfl (hown.alloc _) ⟨wr.heap.size, 0, none⟩ 1 1 [.int .i64 r, .int .i64 l] rfl rfl ?c1 ?c2 ?c3 ?c4 ?c5 ?_))
      case c1 => exact news_alloc wr [.int .i64 r, .int .i64 l] _
      case c2 => intro u hu; simp at hu; rcases hu with rfl | rfl <;> rfl
      case c3 => unfold maxLen; omega
      case c4 => omega
      case c5 => have := hb.size; simp; omega
      intro v' w4 hown4 hgrow4 _ _
      have hb4 : Below w.heap.size w w4 := (hb.alloc hb.size _).grown hgrow4 (by have := hb.size; simp; omega) (fun j hj => (hown.lt j hj).1)
      clear hown hb hgrow4
      go_wp2_with fail
      go_roundw
      case rel => exact ⟨k + 1, by omega, by go_num, by rw [HT.out]; exact hown4, hb4⟩
      case measure => simp [intOf]; omega
    · go_wp2_with fail
      go_ret
      have : k = cs.length := by omega
      subst this
      rw [List.take_of_length_le (Nat.le_refl _)] at hown
      have hv : ∃ a1 c1, u3 = .slice a1 cs.length c1 := by
        rcases hown.2 with ⟨hv, h0⟩ | ⟨g, cap, cur, hv, _⟩
        · exact ⟨_, _, by rw [hv, h0]⟩
        · exact ⟨_, _, hv⟩
      obtain ⟨a1, c1, rfl⟩ := hv
      exact ⟨a1, c1, rfl, (CandsIn.of_own hown).1, hb⟩

theorem left_snoc (cs : List (Int × Int)) (xs : List Int) (k : Nat) (h : k < cs.length) : left (cs.take (k + 1)) xs = left (cs.take k) xs ++ (if (cs.getD k (0, 0)).1 ∈ xs then [] else [cs.getD k (0, 0)]) := by
  rw [take_getD h]
  simp only [left, List.filter_append, List.filter_cons, List.filter_nil]
  by_cases hin : (cs.getD k (0, 0)).1 ∈ xs
  · rw [if_pos hin, if_neg (by simpa using hin)]
  · rw [if_neg hin, if_pos (by simpa using hin)]

set_option maxHeartbeats 2000000 in
/-- The reference's Next: the same candidates. -/
theorem refNext_any (a b : Option Addr) (c d : Nat) (cs : List (Int × Int)) (xs : List Int) (w : World) (B B' : Nat) (h1 : CandsIn w B b cs) (h2 : IntsIn w B' a xs) (hB : B ≤ w.heap.size) (hB' : B' ≤ w.heap.size)
    (hc : cs.length ≤ 1000000) (hx : xs.length ≤ 1000000) :
    Calls Try.prog 9 #[.slice b cs.length d, .slice a xs.length c] w fun e w' =>
      ∃ a' c', e = .returned (.slice a' (left cs xs).length c') ∧ CandsIn w' w'.heap.size a' (left cs xs) ∧ Below w.heap.size w w' := by
  have H1 := Lib.hid h1
  have H2 := Lib.hid h2
  clear h1 h2
  obtain ⟨i0, hi, hz0, hz1, hz2⟩ := info_parts infoR
  go_enter Try.func9, Try.ntmps9
  go_wp2_with fail
  go_loopw [5, 6] (fun v i wr => ∃ k : Nat, k ≤ cs.length ∧ i = .int .i64 k ∧ wr.ownsRow w.heap.size 34 2 v (left (cs.take k) xs).length (flat (left (cs.take k) xs)) ∧ Below w.heap.size w wr) (fun _ i _ => cs.length - (intOf i).toNat)
  case atStart => exact ⟨0, Nat.zero_le _, rfl, World.ownsRow_nil _ _ _ _, Below.refl _ _⟩
  case round =>
    obtain ⟨k, hk, rfl, hown, hb⟩ := hrel
    by_cases hlt : k < cs.length
    · obtain ⟨g, o, rfl, hg, hc1, hc2⟩ := H1.out k hlt
      rw [← hb.cell (by exact Nat.lt_of_lt_of_le hg hB)] at hc1 hc2
      have HS := Lib.hid (left_snoc cs xs k hlt)
      have hle : (left (cs.take k) xs).length ≤ k := Nat.le_trans (List.length_filter_le _ _) (by simp; omega)
      have HO := Lib.hid hown
      clear hown
      generalize hcd : cs.getD k (0, 0) = cd at *
      obtain ⟨r, l⟩ := cd
      clear hcd
      simp only at hc1 hc2
      go_wp2_with fail
      have HB := Lib.hid hb
      clear hb
      obtain ⟨wo, hwo⟩ : ∃ wo : World, wo = wr := ⟨_, rfl⟩
      rw [← hwo]
      rw [← hwo] at hc1 hc2 HB HO
      clear hwo
      go_loopw [7, 8] (fun t7 t8 w2 => ∃ (q : Nat) (bq : Bool), q ≤ xs.length ∧ t8 = .int .i64 q ∧ t7 = .bool bq ∧ (bq = true ↔ r ∈ xs.take q) ∧ Drawn wo w2) (fun _ t8 _ => xs.length - (intOf t8).toNat)
      case atStart => exact ⟨0, false, Nat.zero_le _, rfl, rfl, by simp, Drawn.refl _⟩
      case round =>
        obtain ⟨q, bq, hq, rfl, rfl, hbq, ⟨n, rfl⟩⟩ := hrel
        have HBQ := Lib.hid hbq
        clear hbq
        by_cases hqlt : q < xs.length
        · obtain ⟨g', o', rfl, hg', hcx⟩ := H2.out q hqlt
          rw [← HB.out.cell (by exact Nat.lt_of_lt_of_le hg' hB')] at hcx
          have hsn : xs.take (q + 1) = xs.take q ++ [xs.getD q 0] := take_snoc_int hqlt
          have HSN := Lib.hid hsn
          clear hsn
          generalize xs.getD q 0 = x at *
          have i1 : (0 : Int) ≤ (q : Int) := by omega
          have i2 : (q : Int) < (xs.length : Int) := by omega
          have i3 : (0 : Int) ≤ (k : Int) := by omega
          have i4 : (k : Int) < (cs.length : Int) := by omega
          cases bq with
          | true =>
            have hb : r ∈ xs.take q := by simpa [Hid] using HBQ
            have HNB := Lib.hid hb
            clear hb HBQ
            go_wp2_with fail
            go_quiet (fail)
            go_wp2_with fail
            go_roundw
            case rel => exact ⟨q + 1, true, by omega, by go_num, rfl, by rw [HSN.out]; simp [HNB.out], Drawn.mk _ _⟩
            case measure => simp [intOf]; omega
          | false =>
            have hb : ¬ r ∈ xs.take q := by simpa [Hid] using HBQ
            have HNB := Lib.hid hb
            clear hb HBQ
            by_cases he : x = r
            · have hd2 : (x == r) = true := by simpa using he
              have HE := Lib.hid he
              clear he
              go_wp2_with fail
              go_quiet (fail)
              go_wp2_with fail
              go_roundw
              case rel => exact ⟨q + 1, true, by omega, by go_num, rfl, by rw [HSN.out]; simp [HE.out], Drawn.mk _ _⟩
              case measure => simp [intOf]; omega
            · have hd2 : (x == r) = false := by simpa using he
              have HE := Lib.hid he
              clear he
              go_wp2_with fail
              go_quiet (fail)
              go_wp2_with fail
              go_roundw
              case rel => exact ⟨q + 1, false, by omega, by go_num, rfl, by rw [HSN.out]; simpa using And.intro HNB.out (Ne.symm HE.out), Drawn.mk _ _⟩
              case measure => simp [intOf]; omega
        · have hqe : q = xs.length := by omega
          have hbx : bq = true ↔ r ∈ xs := by have := HBQ.out; rwa [hqe, List.take_of_length_le (Nat.le_refl _)] at this
          have HX := Lib.hid hbx
          clear hbx HBQ
          cases bq with
          | true =>
            have hb : r ∈ xs := by simpa [Hid] using HX
            have HNB := Lib.hid hb
            clear hb HX
            go_wp2_with fail
            go_roundw
            case rel => exact ⟨k + 1, by omega, by go_num, by rw [HS.out, if_pos HNB.out, List.append_nil]; exact HO.out, HB.out.trans ((Drawn.mk _ _).below _)⟩
            case measure => simp [intOf]; omega
          | false =>
            have hb : ¬ r ∈ xs := by simpa [Hid] using HX
            have HNB := Lib.hid hb
            clear hb HX
            have hown2 : (wo.drewN n).ownsRow w.heap.size 34 2 u5 (left (cs.take k) xs).length (flat (left (cs.take k) xs)) := HO.out
            go_wp2_with (at_builtin; (refine wpList_append_own_at _ rfl _ _ 27 rfl w.heap.size 34 i0 (.agg #[.int .i64 0, .int .i64 0]) 2 16 Go.Proofs.Try.underlying27 hi hz0 hz1 hz2 rfl (by decide) _ _ _ rfl (hown2.alloc _) ⟨wo.heap.size, 0, none⟩ 1 1 [.int .i64 r, .int .i64 l] rfl rfl ?c1 ?c2 ?c3 ?c4 ?c5 ?_))
            case c1 => exact news_alloc (wo.drewN n) [.int .i64 r, .int .i64 l] _
            case c2 => intro u hu; simp at hu; rcases hu with rfl | rfl <;> rfl
            case c3 => unfold maxLen; omega
            case c4 => omega
            case c5 => have := HB.out.size; simp; omega
            intro v' w4 hown4 hgrow4 _ _
            have hbo := HB.out.trans ((Drawn.mk wo n).below _)
            have hb4 : Below w.heap.size w w4 := (hbo.alloc hbo.size _).grown hgrow4 (by have := HB.out.size; simp; omega) (fun j hj => (HO.out.lt j hj).1)
            have hown5 : w4.ownsRow w.heap.size 34 2 v' (left (cs.take (k + 1)) xs).length (flat (left (cs.take (k + 1)) xs)) := by
              rw [HS.out, if_neg HNB.out, flat_append, List.length_append]
              exact hown4
            clear hown2 hbo hgrow4 hown4
            go_wp2_with fail
            go_roundw
            case rel => exact ⟨k + 1, by omega, by go_num, hown5, hb4⟩
            case measure => simp [intOf]; omega
    · go_wp2_with fail
      go_ret
      have : k = cs.length := by omega
      subst this
      rw [List.take_of_length_le (Nat.le_refl _)] at hown
      have hv : ∃ a1 c1, u5 = .slice a1 (left cs xs).length c1 := by
        rcases hown.2 with ⟨hv, h0⟩ | ⟨g, cap, cur, hv, _⟩
        · exact ⟨_, _, by rw [hv, h0]⟩
        · exact ⟨_, _, hv⟩
      obtain ⟨a1, c1, rfl⟩ := hv
      exact ⟨a1, c1, rfl, (CandsIn.of_own hown).1, hb⟩
end Go.Proofs.Ytlbdciljbmpfmaa
