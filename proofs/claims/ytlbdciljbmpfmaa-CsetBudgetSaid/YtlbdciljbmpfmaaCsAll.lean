/- CsetAll: whatever the input, the law answers true. -/
import Derived.Test.YtlbdciljbmpfmaaCsAwake
namespace Go.Proofs.Ytlbdciljbmpfmaa
open Go.RowKit Cs Go.Sort

theorem len_le_of_mem : ∀ (zs l : List Int), zs.Pairwise (· < ·) → (∀ x, x ∈ zs → x ∈ l) → zs.length ≤ l.length
  | [], l, _, _ => Nat.zero_le _
  | z :: zs, l, h, hm => by
    rw [List.pairwise_cons] at h
    have hz := hm z (by simp)
    have := len_le_of_mem zs (l.erase z) h.2 fun x hx => by
      have hne : x ≠ z := by have := h.1 x hx; omega
      exact (List.mem_erase_of_ne hne).2 (hm x (by simp [hx]))
    rw [List.length_erase_of_mem hz] at this
    have hpos : 0 < l.length := List.length_pos_of_mem hz
    simp only [List.length_cons]
    omega
theorem greedy_length : ∀ (l : List Key) (b : Int), (greedy l b).length ≤ l.length
  | [], b => by simp [greedy]
  | k :: r, b => by
    unfold greedy
    split
    · simp
    · have := greedy_length r (b - k.1)
      simp; omega
theorem choice_length {xs : List Int} {cs : List (Int × Int)} {b : Int} {zs : List Int} (h : IsChoice xs cs b zs) : zs.length ≤ xs.length + cs.length := by
  have h1 := len_le_of_mem zs (xs ++ picks cs b) h.1 fun x hx => by rw [List.mem_append]; exact (h.2 x).1 hx
  have h2 := greedy_length (sortK (cs.map key)) b
  rw [(sortK_perm _).length_eq, List.length_map] at h2
  rw [List.length_append] at h1
  unfold picks at h1
  omega

set_option maxHeartbeats 4000000 in
theorem csetAll_any (a b : Option Addr) (c d : Nat) (xs : List Int) (cs : List (Int × Int)) (budget : Int) (w : World) (h1 : IntsIn w w.heap.size a xs) (h2 : CandsIn w w.heap.size b cs)
    (hb1 : -9223372036854775808 ≤ budget) (hb2 : budget ≤ 9223372036854775807) :
    Calls Try.prog 3 #[.slice a xs.length c, .slice b cs.length d, .int .i64 budget] w fun e w' => e = .returned (.bool true) ∧ Below w.heap.size w w' := by
  have H1 := Lib.hid h1
  have H2 := Lib.hid h2
  clear h1 h2
  go_enter Try.func3, Try.ntmps3
  go_wp2_with fail
  (with_reducible refine (awake_any w).mono ?_)
  rintro e w1 ⟨rfl, hbl1⟩
  have HB1 := Lib.hid hbl1
  have hsz1 := hbl1.size
  clear hbl1
  by_cases hbig1 : 300 < xs.length
  · have hd : decide (300 < xs.length) = true := by simpa using hbig1
    go_wp2_with fail
    go_ret
    exact ⟨rfl, HB1.out⟩
  · have hd : decide (300 < xs.length) = false := by simpa using hbig1
    by_cases hbig2 : 300 < cs.length
    · have hd : decide (300 < cs.length) = true := by simpa using hbig2
      go_wp2_with fail
      go_ret
      exact ⟨rfl, HB1.out⟩
    · have hd : decide (300 < cs.length) = false := by simpa using hbig2
      have hi1 := H1.out.below HB1.out
      have hc1 := H2.out.below HB1.out
      have HI1 := Lib.hid hi1
      have HC1 := Lib.hid hc1
      clear hi1 hc1 H1 H2
      go_wp2_with fail
      (with_reducible refine (choose_any a b c d xs cs budget w1 w.heap.size w.heap.size HI1.out HC1.out hsz1 (by omega) (by omega) hb1 hb2).mono ?_)
      rintro e w2 ⟨v2, zs, rfl, hch, hown, hbl2⟩
      have hsz2 := hbl2.size
      have hzl := choice_length hch
      obtain ⟨a2, c2, rfl, hi2⟩ := hown.ints
      have HCH := Lib.hid hch
      have HI2 := Lib.hid hi2
      have HC2 := Lib.hid (HC1.out.below (hbl2.mono hsz1))
      have HX2 := Lib.hid (HI1.out.below (hbl2.mono hsz1))
      have HB2 := Lib.hid (HB1.out.trans (hbl2.mono hsz1))
      clear hch hown hi2 hbl2 HC1 HI1 HB1
      go_wp2_with fail
      (with_reducible refine (next_any a2 b c2 d cs zs w2 w.heap.size w2.heap.size HC2.out HI2.out (by omega) (Nat.le_refl _) (by omega) (by omega)).mono ?_)
      rintro e w3 ⟨a3, c3, rfl, hin3, hbl3⟩
      have hsz3 := hbl3.size
      have HN3 := Lib.hid hin3
      have HI3 := Lib.hid (HI2.out.below hbl3)
      have HC3 := Lib.hid (HC2.out.below (hbl3.mono (by omega)))
      have HX3 := Lib.hid (HX2.out.below (hbl3.mono (by omega)))
      have HB3 := Lib.hid (HB2.out.trans (hbl3.mono (by omega)))
      clear hin3 hbl3 HI2 HC2 HX2 HB2
      go_wp2_with fail
      (with_reducible refine (ref_any b d cs w3 w.heap.size HC3.out (by omega) (by omega)).mono ?_)
      rintro e w4 ⟨a4, c4, rfl, hin4, hbl4⟩
      have hsz4 := hbl4.size
      have HN4 := Lib.hid (HN3.out.below hbl4)
      have HR4 := Lib.hid hin4
      have HI4 := Lib.hid (HI3.out.below (hbl4.mono (by omega)))
      have HC4 := Lib.hid (HC3.out.below (hbl4.mono (by omega)))
      have HX4 := Lib.hid (HX3.out.below (hbl4.mono (by omega)))
      have HB4 := Lib.hid (HB3.out.trans (hbl4.mono (by omega)))
      clear hin4 hbl4 HN3 HI3 HC3 HX3 HB3
      go_wp2_with fail
      (with_reducible refine (refNext_any a2 a4 c2 c4 cs zs w4 w4.heap.size w2.heap.size HR4.out HI4.out (Nat.le_refl _) (by omega) (by omega) (by omega)).mono ?_)
      rintro e w5 ⟨a5, c5, rfl, hin5, hbl5⟩
      have hsz5 := hbl5.size
      have HM5 := Lib.hid hin5
      have HN5 := Lib.hid (HN4.out.below (hbl5.mono (by omega)))
      have HI5 := Lib.hid (HI4.out.below (hbl5.mono (by omega)))
      have HC5 := Lib.hid (HC4.out.below (hbl5.mono (by omega)))
      have HX5 := Lib.hid (HX4.out.below (hbl5.mono (by omega)))
      have HB5 := Lib.hid (HB4.out.trans (hbl5.mono (by omega)))
      clear hin5 hbl5 HN4 HI4 HC4 HX4 HB4 HR4
      go_wp2_with fail
      (with_reducible refine (ref_any b d cs w5 w.heap.size HC5.out (by omega) (by omega)).mono ?_)
      rintro e w6 ⟨a6, c6, rfl, hin6, hbl6⟩
      have hsz6 := hbl6.size
      have HR6 := Lib.hid hin6
      have HM6 := Lib.hid (HM5.out.below hbl6)
      have HN6 := Lib.hid (HN5.out.below (hbl6.mono (by omega)))
      have HI6 := Lib.hid (HI5.out.below (hbl6.mono (by omega)))
      have HX6 := Lib.hid (HX5.out.below (hbl6.mono (by omega)))
      have HB6 := Lib.hid (HB5.out.trans (hbl6.mono (by omega)))
      clear hin6 hbl6 HM5 HN5 HI5 HC5 HX5 HB5
      go_wp2_with fail
      (with_reducible refine (refChoose_any a a6 c c6 xs cs budget w6 w.heap.size w6.heap.size HX6.out HR6.out (by omega) (Nat.le_refl _) (by omega) (by omega) hb1 hb2).mono ?_)
      rintro e w7 ⟨a7, c7, zs7, rfl, hch7, hin7, hbl7⟩
      have heq := hch7.unique HCH.out
      subst heq
      have hsz7 := hbl7.size
      have HR7 := Lib.hid hin7
      have HM7 := Lib.hid (HM6.out.below (hbl7.mono (by omega)))
      have HN7 := Lib.hid (HN6.out.below (hbl7.mono (by omega)))
      have HI7 := Lib.hid (HI6.out.below (hbl7.mono (by omega)))
      have HB7 := Lib.hid (HB6.out.trans (hbl7.mono (by omega)))
      clear hin7 hbl7 hch7 HM6 HN6 HI6 HX6 HB6 HR6
      go_wp2_with fail
      (with_reducible refine (same_any w2.heap.size w7.heap.size a2 a7 c2 c7 zs7 zs7 w7 HI7.out HR7.out (by omega)).mono ?_)
      rintro e w8 ⟨rfl, hg8⟩
      have hsame : decide (zs7 = zs7) = true := by simp
      rw [hsame]
      clear hsame
      have HM8 := Lib.hid (HM7.out.below (hg8.below.mono (by omega)))
      have HN8 := Lib.hid (HN7.out.below (hg8.below.mono (by omega)))
      have HB8 := Lib.hid (HB7.out.trans (hg8.below.mono (by omega)))
      clear hg8 HM7 HN7 HI7 HB7 HR7 HCH
      have hll : (left cs zs7).length ≤ cs.length := List.length_filter_le _ _
      generalize left cs zs7 = L at *
      go_wp2_with fail
      go_loopw [10] (fun t wr => ∃ k : Nat, k ≤ L.length ∧ t = .int .i64 k ∧ Drawn w8 wr) (fun t _ => L.length - (intOf t).toNat)
      case atStart => exact ⟨0, Nat.zero_le _, rfl, Drawn.refl _⟩
      case round =>
        obtain ⟨k, hk, rfl, ⟨n, rfl⟩⟩ := hrel
        by_cases hlt : k < L.length
        · obtain ⟨g, o, rfl, -, k1, k2⟩ := HN8.out k hlt
          obtain ⟨g', o', rfl, -, k3, k4⟩ := HM8.out k hlt
          have i1 : (0 : Int) ≤ (k : Int) := by omega
          have i2 : (k : Int) < (L.length : Int) := by omega
          generalize (L.getD k (0, 0)).1 = r at *
          generalize (L.getD k (0, 0)).2 = l at *
          go_wp2_with fail
          go_quiet (fail)
          go_wp2_with fail
          go_roundw
          case rel => exact ⟨k + 1, by omega, by go_num, Drawn.mk _ _⟩
          case measure => simp [intOf]; omega
        · go_wp2_with fail
          go_ret
          exact ⟨rfl, HB8.out.trans ((Drawn.mk _ _).below _)⟩
end Go.Proofs.Ytlbdciljbmpfmaa
