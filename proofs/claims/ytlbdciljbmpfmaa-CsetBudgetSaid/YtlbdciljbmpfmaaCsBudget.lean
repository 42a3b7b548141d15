/- CsetBudget: whatever the input, the law answers true. -/
import Derived.Test.YtlbdciljbmpfmaaCsAll
import Derived.Test.YtlbdciljbmpfmaaCsBudP
namespace Go.Proofs.Ytlbdciljbmpfmaa
open Go.RowKit Cs Go.Sort

/-- A slice value that reads as a list of 16-bit numbers. -/
def U16In (w : World) (B : Nat) (a : Option Addr) (zs : List Int) : Prop :=
  ∀ k, k < zs.length → ∃ b o, a = some ⟨b, o, none⟩ ∧ b < B ∧ w.cell? ⟨b, o + k, none⟩ = some (.int .u16 (zs.getD k 0))
theorem U16In.below {w w' : World} {B : Nat} {a : Option Addr} {zs : List Int} (h : U16In w B a zs) (hb : Below B w w') : U16In w' B a zs := by
  intro k hk
  obtain ⟨b, o, e, h1, h2⟩ := h k hk
  exact ⟨b, o, e, h1, (hb.cell (by exact h1)).trans h2⟩

theorem run_max_int (P : Program) (w : World) (x y : Int) (t : TypeId) : (Builtin.max_ #[t, t] t #[.int .i64 x, .int .i64 y]).run P w = .ok (.int .i64 (max x y)) w := by
  have e : (if y > x then y else x) = max x y := by split <;> omega
  simp only [Builtin.max_, List.foldlM_cons, List.foldlM_nil, Builtin.max2, e]
  rfl

theorem enum_length (lv : List Int) : (enum lv).length = lv.length := by simp [enum]
theorem enum_getD (lv : List Int) (k : Nat) (h : k < lv.length) : (enum lv).getD k (0, 0) = ((k : Int), lv.getD k 0) := by simp [enum, List.getD, h]

/-- What has been seen of the taken ones. -/
structure SumInv (lv zs : List Int) (i : Nat) (sum most : Int) (ds : List Bool) : Prop where
  hsum : sum = total ((zs.take i).map fun z => lv.getD z.toNat 0)
  hmost : ∀ B : Int, -1 ≤ B → (∀ z, z ∈ zs.take i → lv.getD z.toNat 0 ≤ B) → most ≤ B
  low : 0 ≤ sum
  up : sum ≤ i * 65535
  len : ds.length = lv.length
  done : ∀ j, j < lv.length → (ds.getD j false = true ↔ (j : Int) ∈ zs.take i)
theorem SumInv.start (lv zs : List Int) : SumInv lv zs 0 0 (-1) (List.replicate lv.length false) where
  hsum := by simp [total]
  hmost := fun B h _ => h
  low := Int.le_refl _
  up := by simp
  len := by simp
  done := fun j hj => by simp [List.getD, hj]
theorem SumInv.step {lv zs : List Int} {i zn : Nat} {sum most : Int} {ds : List Bool} (h : SumInv lv zs i sum most ds) (hi : i < zs.length) (hz : zs.getD i 0 = (zn : Int)) (hzn : zn < lv.length) (h0 : 0 ≤ lv.getD zn 0) (h1 : lv.getD zn 0 ≤ 65535) :
    SumInv lv zs (i + 1) (sum + lv.getD zn 0) (max most (lv.getD zn 0)) (ds.set zn true) where
  hsum := by
    rw [take_snoc_int hi, List.map_append, total_append, hz, ← h.hsum]
    simp [total]
  hmost := fun B hB hall => by
    rw [take_snoc_int hi, hz] at hall
    have h1 := h.hmost B hB fun z hz => hall z (by simp [hz])
    have h2 := hall zn (by simp)
    simp only [Int.toNat_natCast] at h2
    omega
  low := by have := h.low; omega
  up := by have := h.up; omega
  len := by simp [h.len]
  done := fun j hj => by
    have hd := h.done j hj
    have hl := h.len
    rw [take_snoc_int hi, hz, List.mem_append, List.mem_singleton]
    by_cases e : j = zn
    · subst e
      simp [List.getD, show j < ds.length by omega]
    · have e2 : (ds.set zn true).getD j false = ds.getD j false := by simp [List.getD, Ne.symm e]
      rw [e2, hd]
      constructor
      · exact fun h => .inl h
      · rintro (h | h)
        · exact h
        · omega

set_option maxHeartbeats 4000000 in
set_option maxRecDepth 100000 in
theorem csetBudget_any (a : Option Addr) (c : Nat) (lv : List Int) (budget : Int) (w : World) (h1 : U16In w w.heap.size a lv) (hlv : ∀ x, x ∈ lv → 0 ≤ x ∧ x ≤ 65535) :
    Calls Try.prog 4 #[.slice a lv.length c, .int .i64 budget] w fun e w' => e = .returned (.bool true) ∧ Below w.heap.size w w' := by
  have H1 := Lib.hid h1
  have HLV := Lib.hid hlv
  clear h1 hlv
  obtain ⟨j0, hj, hy0, hy1, hy2⟩ := info_parts infoC
  obtain ⟨i0, hi, hz0, hz1, hz2⟩ := info_parts infoB
  go_enter Try.func4, Try.ntmps4
  go_wp2_with fail
  (with_reducible refine (awake_any w).mono ?_)
  rintro e w1 ⟨rfl, hbl1⟩
  have HB1 := Lib.hid hbl1
  have hsz1 := hbl1.size
  clear hbl1
  by_cases hbig1 : 300 < lv.length
  · have hd : decide (300 < lv.length) = true := by simpa using hbig1
    go_wp2_with fail
    go_ret
    exact ⟨rfl, HB1.out⟩
  · have hd : decide (300 < lv.length) = false := by simpa using hbig1
    have HI1 := Lib.hid (H1.out.below HB1.out)
    clear H1
    have ht1 : -1000000 < budget.tmod 1000000 := Int.lt_tmod_of_pos budget (by decide)
    have ht2 : budget.tmod 1000000 < 1000000 := Int.tmod_lt_of_pos budget (by decide)
    go_wp2_with fail
    generalize budget.tmod 1000000 = bud at *
    have hel : (enum lv).length = lv.length := enum_length lv
    have HEL := Lib.hid hel
    clear hel
    go_loopw [5, 6] (fun v i wr => ∃ k : Nat, k ≤ lv.length ∧ i = .int .i64 k ∧ wr.ownsRow w1.heap.size 33 2 v k (flat ((enum lv).take k)) ∧ Below w1.heap.size w1 wr) (fun _ i _ => lv.length - (intOf i).toNat)
    case atStart => exact ⟨0, Nat.zero_le _, rfl, World.ownsRow_nil _ _ _ _, Below.refl _ _⟩
    case round =>
      obtain ⟨k, hk, rfl, hown, hb⟩ := hrel
      have HB := Lib.hid hb
      clear hb
      by_cases hlt : k < lv.length
      · obtain ⟨g, o, rfl, hg, hc⟩ := HI1.out k hlt
        rw [← HB.out.cell (by exact Nat.lt_of_lt_of_le hg hsz1)] at hc
        have hx := HLV.out (lv.getD k 0) (by simp only [List.getD, List.getElem?_eq_getElem hlt, Option.getD_some]; exact List.getElem_mem hlt)
        have ht : flat ((enum lv).take (k + 1)) = flat ((enum lv).take k) ++ [.int .i64 (k : Int), .int .i64 (lv.getD k 0)] := by
          rw [take_getD (by rw [HEL.out]; exact hlt), enum_getD lv k hlt, flat_append]
          rfl
        have HT := Lib.hid ht
        clear ht
        generalize lv.getD k 0 = x at *
        obtain ⟨hx0, hx1⟩ := hx
        go_wp2_with (at_builtin; (refine wpList_append_own_at _ rfl _ _ 23 rfl w1.heap.size 33 j0 (.agg #[.int .i64 0, .int .i64 0]) 2 16 Go.Proofs.Try.underlying23 hj hy0 hy1 hy2 rfl (by decide) _ _ _ rfl (hown.alloc _) ⟨wr.heap.size, 0, none⟩ 1 1 [.int .i64 (k : Int), .int .i64 x] rfl rfl ?c1 ?c2 ?c3 ?c4 ?c5 ?_))
        case c1 => exact news_alloc wr [.int .i64 (k : Int), .int .i64 x] _
        case c2 => intro u hu; simp at hu; rcases hu with rfl | rfl <;> rfl
        case c3 => unfold maxLen; omega
        case c4 => omega
        case c5 => have := HB.out.size; simp; omega
        intro v6 w6 hown6 hgrow6 _ _
        have hb6 : Below w1.heap.size w1 w6 := (HB.out.alloc HB.out.size _).grown hgrow6 (by have := HB.out.size; simp; omega) (fun q hq => (hown.lt q hq).1)
        have hown7 : w6.ownsRow w1.heap.size 33 2 v6 (k + 1) (flat ((enum lv).take (k + 1))) := by rw [HT.out]; exact hown6
        clear hown hown6 hgrow6
        go_wp2_with fail
        go_roundw
        case rel => exact ⟨k + 1, by omega, by go_num, hown7, hb6⟩
        case measure => simp [intOf]; omega
      · have hke : k = lv.length := by omega
        have hown2 := hown
        rw [hke, List.take_of_length_le (by rw [HEL.out]; exact Nat.le_refl _)] at hown2
        clear hown
        obtain ⟨a5, c5, rfl, hac5⟩ := slice_form hown2
        have HL5 := Lib.hid (CandsIn.of_own hown2).1
        have hsz5 := HB.out.size
        have hcon := choose_any none a5 0 c5 [] (enum lv) bud wr 0 wr.heap.size (IntsIn.nil _ _ _) HL5.out (Nat.le_refl _) (by simp) (by rw [HEL.out]; omega) (by omega) (by omega)
        rw [HEL.out, List.length_nil] at hcon
        have HCON := Lib.hid hcon
        have HBW := Lib.hid (HB1.out.trans (HB.out.mono hsz1))
        clear hown2 hcon HB HB1 HI1
        go_wp2_with fail
        (with_reducible refine HCON.out.mono ?_)
        rintro e w6 ⟨v6, zs, rfl, hch, hown6, hbl6⟩
        have hsz6 := hbl6.size
        have hzl := choice_length hch
        rw [HEL.out, List.length_nil] at hzl
        have hbud := budget_law lv (fun x hx => (HLV.out x hx).1) bud zs hch
        have hzr := hch.1
        obtain ⟨a6, c6, rfl, hi6⟩ := hown6.ints
        have HBU := Lib.hid hbud
        have HZR := Lib.hid hzr
        have HI6 := Lib.hid hi6
        have HL6 := Lib.hid (HL5.out.below hbl6)
        have HBW6 := Lib.hid (HBW.out.trans (hbl6.mono (by omega)))
        clear hch hown6 hbl6 hbud hzr hi6 HL5 HBW HCON
        go_wp2_with (at_make; (refine wpList_make_full _ rfl _ _ 38 rfl w6.heap.size 4 i0 (.bool false) 1 Go.Proofs.Try.underlying38 hi hz0 hz1 _ _ _ _ lv.length rfl rfl rfl rfl (by rw [hz2]; omega) (by unfold maxLen; omega) (Nat.le_refl _) ?_))
        intro w7 ho7 hg7
        have hrb7 := RowB.of_made ho7
        have hsz7 : w6.heap.size + 1 ≤ w7.heap.size := by have := hrb7.lt; omega
        have hb7 : Below w6.heap.size w6 w7 := (Below.refl _ _).grown hg7 (Nat.le_refl _) (fun j hj => by cases hj)
        have HI7 := Lib.hid (HI6.out.below hb7)
        have HL7 := Lib.hid (HL6.out.below (hb7.mono (by omega)))
        have HBW7 := Lib.hid (HBW6.out.trans (hb7.mono (by omega)))
        have HRB7 := Lib.hid hrb7
        clear hrb7 ho7 hg7 hb7 HI6 HL6 HBW6
        go_wp2_with fail
        obtain ⟨dd, hdd⟩ : ∃ dd : Nat, dd = w6.heap.size := ⟨_, rfl⟩
        rw [← hdd] at HRB7 HI7 ⊢
        have hddge : wr.heap.size ≤ dd := by omega
        have hzl2 : zs.length ≤ 300 := by omega
        clear hdd hzl
        have hm : ∀ (w : World) (x y : Int), (Builtin.max_ #[3, 3] 3 #[.int .i64 x, .int .i64 y]).run Try.prog w = .ok (.int .i64 (max x y)) w := fun w x y => run_max_int _ w x y _
        go_loopw [9, 10, 11] (fun t9 t10 t11 w8 => ∃ (i : Nat) (sum most : Int) (ds : List Bool), i ≤ zs.length ∧ t11 = .int .i64 i ∧ t9 = .int .i64 sum ∧ t10 = .int .i64 most ∧ SumInv lv zs i sum most ds ∧ RowB w8 dd ds ∧ Below dd w7 w8)
          (fun _ _ t11 _ => zs.length - (intOf t11).toNat)
        case atStart => exact ⟨0, 0, -1, List.replicate lv.length false, Nat.zero_le _, rfl, rfl, rfl, SumInv.start lv zs, HRB7.out, Below.refl _ _⟩
        case round =>
          obtain ⟨i, sum, most, ds, hi', rfl, rfl, rfl, hinv, hrb, hb⟩ := hrel
          have HINV := Lib.hid hinv
          have HRB := Lib.hid hrb
          have HB := Lib.hid hb
          clear hinv hrb hb
          by_cases hlt : i < zs.length
          · have hzmem : zs.getD i 0 ∈ zs := by rw [getD_of_lt hlt]; exact List.getElem_mem hlt
            obtain ⟨hz0', hz1'⟩ := HBU.out.1 _ hzmem
            obtain ⟨zn, hzn⟩ : ∃ zn : Nat, zs.getD i 0 = zn := ⟨(zs.getD i 0).toNat, by omega⟩
            have hznl : zn < lv.length := by omega
            obtain ⟨g, o, rfl, hg, hcz⟩ := HI7.out i hlt
            obtain ⟨g2, o2, rfl, hg2, hl1, hl2⟩ := HL7.out zn (by rw [HEL.out]; exact hznl)
            rw [enum_getD lv zn hznl] at hl1 hl2
            rw [hzn] at hcz
            have hlvm := HLV.out (lv.getD zn 0) (by simp only [List.getD, List.getElem?_eq_getElem hznl, Option.getD_some]; exact List.getElem_mem hznl)
            have hstep := HINV.out.step hlt hzn hznl hlvm.1 hlvm.2
            have hnot : ds.getD zn false = false := by
              cases hdv : ds.getD zn false with
              | false => rfl
              | true =>
                exfalso
                have hin := (HINV.out.done zn hznl).1 hdv
                obtain ⟨q, hq, hqe⟩ := List.getElem_of_mem hin
                have hq' : q < i := by simp at hq; omega
                have := List.pairwise_iff_getElem.1 HZR.out q i (by omega) hlt hq'
                rw [← getD_of_lt hlt, hzn] at this
                simp only [List.getElem_take] at hqe
                omega
            have c1 := HRB.out.cell (k := zn) (by rw [HINV.out.len]; exact hznl)
            rw [hnot] at c1
            have f1 := HRB.out.frozen zn
            rw [← HB.out.cell (by exact hg)] at hcz
            rw [← HB.out.cell (by exact Nat.lt_of_lt_of_le hg2 hddge)] at hl1 hl2
            have hsum0 := HINV.out.low
            have hsum1 := HINV.out.up
            have HST := Lib.hid hstep
            have hx0 := hlvm.1
            have hx1 := hlvm.2
            have n1 : g2 ≠ dd := by omega
            have n2 : g ≠ dd := by omega
            have i1 : (0 : Int) ≤ (i : Int) := by omega
            have i2 : (i : Int) < (zs.length : Int) := by omega
            have i3 : (0 : Int) ≤ (zn : Int) := by omega
            have i4 : (zn : Int) < (lv.length : Int) := by omega
            have b1 : decide ((zn : Int) < 0) = false := by simp
            have b2 : decide (lv.length ≤ zn) = false := by simpa using hznl
            have hprev : 0 < i → ∃ zp : Int, zp < zn ∧ wr.cell? ⟨g, o + (i - 1), none⟩ = some (.int .i64 zp) := by
              intro hp
              obtain ⟨g', o', e', hg', hc'⟩ := HI7.out (i - 1) (by omega)
              simp only [Option.some.injEq, Addr.mk.injEq, and_true] at e'
              obtain ⟨rfl, rfl⟩ := e'
              refine ⟨zs.getD (i - 1) 0, ?_, (HB.out.cell (by exact hg')).trans hc'⟩
              have := List.pairwise_iff_getElem.1 HZR.out (i - 1) i (by omega) hlt (by omega)
              rw [← getD_of_lt hlt, hzn] at this
              rw [getD_of_lt (by omega)]
              exact this
            have hrb2 : ∀ n, RowB ((wr.drewN n).setCell ⟨dd, zn, none⟩ (.bool true)) dd (ds.set zn true) := fun n => RowB.set_ (w := wr.drewN n) HRB.out
            have hb3 : ∀ n, Below dd w7 ((wr.drewN n).setCell ⟨dd, zn, none⟩ (.bool true)) := fun n => (HB.out.trans ((Drawn.mk wr n).below _)).setCell (Nat.le_refl _) _
            have HRB2 := Lib.hid hrb2
            have HB3 := Lib.hid hb3
            clear hrb2 hb3 hstep hlvm hzmem hz0' hz1' hnot hzn HINV HRB HB
            generalize lv.getD zn 0 = x at *
            by_cases h0 : i = 0
            · subst h0
              clear hprev
              rw [Nat.add_zero] at hcz
              go_wp2_with fail
              go_quiet (fail)
              go_wp2_with fail
              go_roundw
              case rel => exact ⟨1, sum + x, max most x, ds.set zn true, by omega, by go_num, rfl, rfl, HST.out, HRB2.out _, HB3.out _⟩
              case measure => simp [intOf]; omega
            · obtain ⟨zp, hzp, hcp⟩ := hprev (by omega)
              have j0 : 0 < i := by omega
              have j1 : (0 : Int) < (i : Int) := by omega
              have j2 : (0 : Int) ≤ (i : Int) - 1 := by omega
              have j3 : (i : Int) - 1 < (zs.length : Int) := by omega
              have j4 : ((i : Int) - 1).toNat = i - 1 := by omega
              have b3 : decide ((zn : Int) ≤ zp) = false := by simp; omega
              clear hprev
              go_wp2_with fail
              go_quiet (fail)
              go_wp2_with fail
              go_roundw
              case rel => exact ⟨i + 1, sum + x, max most x, ds.set zn true, by omega, by go_num, rfl, rfl, HST.out, HRB2.out _, HB3.out _⟩
              case measure => simp [intOf]; omega
          · have hie : i = zs.length := by omega
            subst hie
            have hinv := HINV.out
            have htake : zs.take zs.length = zs := List.take_of_length_le (Nat.le_refl _)
            have hsum : sum = total (zs.map fun z => lv.getD z.toNat 0) := by rw [hinv.hsum, htake]
            have hsum0 := hinv.low
            have hsum1 := hinv.up
            have hle : 0 < zs.length → sum ≤ bud := by
              intro hp
              rcases HBU.out.2.1 with e | e
              · rw [e] at hp; simp at hp
              · rw [hsum]; exact e
            have hmost : ∀ j : Nat, j < lv.length → ds.getD j false = false → most ≤ lv.getD j 0 ∧ bud < sum + lv.getD j 0 := by
              intro j hj hdj
              have hni : ¬ (j : Int) ∈ zs := by
                intro hin
                have := (hinv.done j hj).2 (by rw [htake]; exact hin)
                rw [hdj] at this
                cases this
              obtain ⟨q1, q2⟩ := HBU.out.2.2 j hj hni
              refine ⟨hinv.hmost _ ?_ (by rw [htake]; exact q1), by rw [hsum]; exact q2⟩
              have := HLV.out (lv.getD j 0) (by simp only [List.getD, List.getElem?_eq_getElem hj, Option.getD_some]; exact List.getElem_mem hj)
              omega
            have HMO := Lib.hid hmost
            have hdl := hinv.len
            have HDL := Lib.hid hdl
            have HBF := Lib.hid (HBW7.out.trans (HB.out.mono (by have := HBW7.out.size; omega)))
            have HLF := Lib.hid (HL7.out.below (HB.out.mono hddge))
            have HRF := Lib.hid HRB.out
            clear hinv htake hsum hmost hdl HINV HB HRB HL7 HBW7 HI7 HRB7
            have fin : True := trivial
            by_cases hz0 : 0 < zs.length
            · have hgt : sum ≤ bud := hle hz0
              have b1 : decide (bud < sum) = false := by simp; omega
              clear hle
              go_wp2_with fail
              go_loop [12] (fun t => ∃ j : Nat, j ≤ lv.length ∧ t = .int .i64 j) (fun t => lv.length - (intOf t).toNat)
              case atStart => exact ⟨0, Nat.zero_le _, rfl⟩
              case round =>
                obtain ⟨j, hj', rfl⟩ := hrel
                by_cases hjl : j < lv.length
                · have c1 := HRF.out.cell (k := j) (by rw [HDL.out]; exact hjl)
                  obtain ⟨g, o, rfl, -, hl1, hl2⟩ := HLF.out j (by rw [HEL.out]; exact hjl)
                  rw [enum_getD lv j hjl] at hl1 hl2
                  have hx := HLV.out (lv.getD j 0) (by simp only [List.getD, List.getElem?_eq_getElem hjl, Option.getD_some]; exact List.getElem_mem hjl)
                  have hm2 := HMO.out j hjl
                  have i1 : (0 : Int) ≤ (j : Int) := by omega
                  have i2 : (j : Int) < (lv.length : Int) := by omega
                  generalize lv.getD j 0 = x at *
                  obtain ⟨hx0, hx1⟩ := hx
                  simp only at hl1 hl2
                  cases hdj : ds.getD j false with
                  | true =>
                    rw [hdj] at c1
                    clear hm2 hdj
                    go_wp2_with fail
                    go_round
                    case rel => exact ⟨j + 1, by omega, by go_num⟩
                    case measure => simp [intOf]; omega
                  | false =>
                    rw [hdj] at c1
                    obtain ⟨q1, q2⟩ := hm2 hdj
                    have d1 : decide (x < most) = false := by simp; omega
                    have d2 : decide (sum + x ≤ bud) = false := by simp; omega
                    clear hm2 hdj
                    go_wp2_with fail
                    go_round
                    case rel => exact ⟨j + 1, by omega, by go_num⟩
                    case measure => simp [intOf]; omega
                · go_wp2_with fail
                  go_ret
                  exact ⟨rfl, HBF.out⟩
            · have hz0' : zs.length = 0 := by omega
              clear hle
              go_wp2_with fail
              go_loop [12] (fun t => ∃ j : Nat, j ≤ lv.length ∧ t = .int .i64 j) (fun t => lv.length - (intOf t).toNat)
              case atStart => exact ⟨0, Nat.zero_le _, rfl⟩
              case round =>
                obtain ⟨j, hj', rfl⟩ := hrel
                by_cases hjl : j < lv.length
                · have c1 := HRF.out.cell (k := j) (by rw [HDL.out]; exact hjl)
                  obtain ⟨g, o, rfl, -, hl1, hl2⟩ := HLF.out j (by rw [HEL.out]; exact hjl)
                  rw [enum_getD lv j hjl] at hl1 hl2
                  have hx := HLV.out (lv.getD j 0) (by simp only [List.getD, List.getElem?_eq_getElem hjl, Option.getD_some]; exact List.getElem_mem hjl)
                  have hm2 := HMO.out j hjl
                  have i1 : (0 : Int) ≤ (j : Int) := by omega
                  have i2 : (j : Int) < (lv.length : Int) := by omega
                  generalize lv.getD j 0 = x at *
                  obtain ⟨hx0, hx1⟩ := hx
                  simp only at hl1 hl2
                  cases hdj : ds.getD j false with
                  | true =>
                    rw [hdj] at c1
                    clear hm2 hdj
                    go_wp2_with fail
                    go_round
                    case rel => exact ⟨j + 1, by omega, by go_num⟩
                    case measure => simp [intOf]; omega
                  | false =>
                    rw [hdj] at c1
                    obtain ⟨q1, q2⟩ := hm2 hdj
                    have d1 : decide (x < most) = false := by simp; omega
                    have d2 : decide (sum + x ≤ bud) = false := by simp; omega
                    clear hm2 hdj
                    go_wp2_with fail
                    go_round
                    case rel => exact ⟨j + 1, by omega, by go_num⟩
                    case measure => simp [intOf]; omega
                · go_wp2_with fail
                  go_ret
                  exact ⟨rfl, HBF.out⟩
end Go.Proofs.Ytlbdciljbmpfmaa
