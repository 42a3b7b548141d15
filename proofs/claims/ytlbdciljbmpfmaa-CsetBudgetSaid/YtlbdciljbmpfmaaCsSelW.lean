/- The reference's Choose: the document's answer. -/
import Derived.Test.YtlbdciljbmpfmaaCsAdd
import Derived.Test.YtlbdciljbmpfmaaCsSel
import Derived.Test.YtlbdciljbmpfmaaCsChoose
namespace Go.Proofs.Ytlbdciljbmpfmaa
open Go.RowKit Cs Go.Sort

theorem lessC_klt (a b : Int × Int) : lessC a b = klt (key a) (key b) := rfl
theorem not_less {a b : Int × Int} (h : lessC a b = false) : kle (key b) (key a) = true := by
  rw [lessC_klt] at h
  simp only [klt, kle, Bool.or_eq_false_iff, Bool.and_eq_false_iff, decide_eq_false_iff_not, Bool.or_eq_true, Bool.and_eq_true, decide_eq_true_eq] at h ⊢
  omega
theorem less_kle {a b : Int × Int} (h : lessC a b = true) : kle (key a) (key b) = true := by
  rw [lessC_klt] at h
  simp only [klt, kle, Bool.or_eq_true, Bool.and_eq_true, decide_eq_true_eq] at h ⊢
  omega

/-- A block that is just a row of Bools. -/
def RowB (w : World) (d : Nat) (ds : List Bool) : Prop := w.heap[d]? = some (.cells (ds.map Value.bool).toArray 4 (0, 0))
theorem RowB.cell {w : World} {d k : Nat} {ds : List Bool} (h : RowB w d ds) (hk : k < ds.length) : w.cell? ⟨d, k, none⟩ = some (.bool (ds.getD k false)) := by
  rw [cell_of_row w d _ _ _ _ h, List.getElem?_toArray]
  simp [List.getD, hk]
theorem RowB.frozen {w : World} {d : Nat} {ds : List Bool} (h : RowB w d ds) (j : Nat) : w.frozen? ⟨d, j, none⟩ = false := by
  unfold RowB at h
  simp [World.frozen?, h]
theorem RowB.lt {w : World} {d : Nat} {ds : List Bool} (h : RowB w d ds) : d < w.heap.size := (Array.getElem?_eq_some_iff.1 h).1
theorem RowB.block {w w' : World} {d : Nat} {ds : List Bool} (h : RowB w d ds) (hb : w'.heap[d]? = w.heap[d]?) : RowB w' d ds := hb.trans h
theorem RowB.grows {w w' : World} {d : Nat} {ds : List Bool} (h : RowB w d ds) (hg : Grows w w') : RowB w' d ds := h.block (hg.below.block d h.lt)
theorem RowB.set_ {w : World} {d k : Nat} {ds : List Bool} (h : RowB w d ds) : RowB (w.setCell ⟨d, k, none⟩ (.bool true)) d (ds.set k true) := by
  unfold RowB at h ⊢
  simp only [World.setCell, Array.getElem?_modify, if_true, h, Option.map_some]
  simp [List.map_set]
theorem own_ne_bool {w : World} {base n d : Nat} {v : Value} {xs : List Value} {ds : List Bool} (h : w.ownsRow base 3 1 v n xs) (hd : RowB w d ds) : v.ownBlock ≠ some d := by
  rcases h.2 with ⟨rfl, _⟩ | ⟨g, cap, cur, rfl, _, hh, _⟩
  · simp [Value.ownBlock]
  · intro e
    have : g = d := by simpa [Value.ownBlock] using e
    subst this
    unfold RowB at hd
    rw [hh] at hd
    simp at hd
theorem ownsRow_grows {w w' : World} {base n size : Nat} {e : TypeId} {v : Value} {xs : List Value} (h : w.ownsRow base e size v n xs) (hg : Grows w w') : w'.ownsRow base e size v n xs :=
  ownsRow_below h hg.below fun k hk => (h.lt k hk).2

def PickInv (cs : List (Int × Int)) (ds : List Bool) (i : Nat) (kv : Int) : Prop :=
  (kv = -1 ∧ ∀ j, j < i → ds.getD j false = true) ∨
  (∃ k : Nat, kv = k ∧ k < i ∧ ds.getD k false = false ∧ ∀ j, j < i → ds.getD j false = false → kle (key (cs.getD k (0, 0))) (key (cs.getD j (0, 0))) = true)
theorem PickInv.skip {cs : List (Int × Int)} {ds : List Bool} {i : Nat} {kv : Int} (h : PickInv cs ds i kv) (hd : ds.getD i false = true) : PickInv cs ds (i + 1) kv := by
  rcases h with ⟨h1, h2⟩ | ⟨k, h1, h2, h3, h4⟩
  · refine .inl ⟨h1, fun j hj => ?_⟩
    by_cases e : j = i
    · subst e; exact hd
    · exact h2 j (by omega)
  · refine .inr ⟨k, h1, by omega, h3, fun j hj hdj => ?_⟩
    by_cases e : j = i
    · subst e; rw [hd] at hdj; cases hdj
    · exact h4 j (by omega) hdj
theorem kle_refl (a : Key) : kle a a = true := by simp [kle]
theorem PickInv.first {cs : List (Int × Int)} {ds : List Bool} {i : Nat} (h : PickInv cs ds i (-1)) (hd : ds.getD i false = false) : PickInv cs ds (i + 1) i := by
  rcases h with ⟨_, h2⟩ | ⟨k, h1, _⟩
  · refine .inr ⟨i, rfl, by omega, hd, fun j hj hdj => ?_⟩
    by_cases e : j = i
    · subst e; exact kle_refl _
    · rw [h2 j (by omega)] at hdj; cases hdj
  · omega
theorem PickInv.less {cs : List (Int × Int)} {ds : List Bool} {i k : Nat} (h : PickInv cs ds i k) (hd : ds.getD i false = false) (hl : lessC (cs.getD i (0, 0)) (cs.getD k (0, 0)) = true) : PickInv cs ds (i + 1) i := by
  rcases h with ⟨h1, _⟩ | ⟨k', h1, h2, h3, h4⟩
  · omega
  · have : k' = k := by omega
    subst this
    refine .inr ⟨i, rfl, by omega, hd, fun j hj hdj => ?_⟩
    by_cases e : j = i
    · subst e; exact kle_refl _
    · exact kle_trans _ _ _ (less_kle hl) (h4 j (by omega) hdj)
theorem PickInv.more {cs : List (Int × Int)} {ds : List Bool} {i k : Nat} (h : PickInv cs ds i k) (hl : lessC (cs.getD i (0, 0)) (cs.getD k (0, 0)) = false) : PickInv cs ds (i + 1) k := by
  rcases h with ⟨h1, _⟩ | ⟨k', h1, h2, h3, h4⟩
  · omega
  · have : k' = k := by omega
    subst this
    refine .inr ⟨k', rfl, by omega, h3, fun j hj hdj => ?_⟩
    by_cases e : j = i
    · subst e; exact not_less hl
    · exact h4 j (by omega) hdj
theorem PickInv.found {cs : List (Int × Int)} {ds : List Bool} {kv : Int} (h : PickInv cs ds cs.length kv) (hl : ds.length = cs.length) (hc : ds.count true < cs.length) :
    ∃ k : Nat, kv = k ∧ k < cs.length ∧ ds.getD k false = false ∧ sortK (rem cs ds) = key (cs.getD k (0, 0)) :: sortK (rem cs (ds.set k true)) := by
  rcases h with ⟨h1, h2⟩ | ⟨k, h1, h2, h3, h4⟩
  · exfalso
    have : ds.count true = ds.length := by
      rw [List.count_eq_length]
      intro b hb
      obtain ⟨j, hj, rfl⟩ := List.getElem_of_mem hb
      have := h2 j (by omega)
      simpa [List.getD, hj] using this.symm
    omega
  · exact ⟨k, h1, h2, h3, sel_step cs ds k h2 hl h3 h4⟩

theorem RowB.of_made {w : World} {base n g : Nat} (h : w.ownsRow base 4 1 (.slice (some ⟨g, 0, none⟩) n n) n (madeCells #[Value.bool false] n).toList) : RowB w g (List.replicate n false) := by
  rcases h.2 with ⟨h0, _⟩ | ⟨g', cap', cur, hv, _, hh, _, _, hs, ht⟩
  · cases h0
  · injection hv with e1 e2 e3
    simp only [Option.some.injEq, Addr.mk.injEq, and_true] at e1
    subst e1
    subst e3
    unfold RowB
    rw [hh]
    rw [toList_madeCells_one, Nat.mul_one] at ht
    have hl : cur.toList.length = n := by simpa using hs
    rw [List.take_of_length_le (by omega)] at ht
    have : cur = ((List.replicate n false).map Value.bool).toArray := by
      rw [List.map_replicate, ← ht]
    rw [this]
theorem infoB : (Try.prog.info? 4).map (fun i => (i.zero, i.size, i.bytes)) = some (some (.bool false), 1, 1) := by kernel_rfl

set_option maxHeartbeats 4000000 in
/-- The inner loop's body and all: the document's Choose. -/
theorem refChoose_any (a b : Option Addr) (c d : Nat) (xs : List Int) (cs : List (Int × Int)) (budget : Int) (w : World) (B B' : Nat) (h1 : IntsIn w B a xs) (h2 : CandsIn w B' b cs) (hB : B ≤ w.heap.size) (hB' : B' ≤ w.heap.size)
    (hx : xs.length ≤ 1000) (hc : cs.length ≤ 1000) (hb1 : -9223372036854775808 ≤ budget) (hb2 : budget ≤ 9223372036854775807) :
    Calls Try.prog 12 #[.slice a xs.length c, .slice b cs.length d, .int .i64 budget] w fun e w' =>
      ∃ a' c' zs, e = .returned (.slice a' zs.length c') ∧ IsChoice xs cs budget zs ∧ IntsIn w' w'.heap.size a' zs ∧ Below w.heap.size w w' := by
  have H1 := Lib.hid h1
  have H2 := Lib.hid h2
  clear h1 h2
  go_enter Try.func12, Try.ntmps12
  go_wp2_with fail
  go_loopw [7, 8] (fun v i wr => ∃ (k : Nat) (zs : List Int), k ≤ xs.length ∧ i = .int .i64 k ∧ zs.Pairwise (· < ·) ∧ (∀ y, y ∈ zs ↔ y ∈ xs.take k) ∧ zs.length ≤ k ∧
      wr.ownsRow w.heap.size 3 1 v zs.length (zs.map (Value.int .i64)) ∧ Below w.heap.size w wr) (fun _ i _ => xs.length - (intOf i).toNat)
  case atStart => exact ⟨0, [], Nat.zero_le _, rfl, List.Pairwise.nil, by simp, Nat.le_refl _, World.ownsRow_nil _ _ _ _, Below.refl _ _⟩
  case round =>
    obtain ⟨k, zs, hk, rfl, hs, hmem, hzl, hown, hb⟩ := hrel
    have HS := Lib.hid hs
    have HM := Lib.hid hmem
    have HO := Lib.hid hown
    have HB := Lib.hid hb
    clear hs hmem hown hb
    by_cases hlt : k < xs.length
    · obtain ⟨g, o, rfl, hg, hcx⟩ := H1.out k hlt
      rw [← HB.out.cell (by exact Nat.lt_of_lt_of_le hg hB)] at hcx
      have HT := Lib.hid (take_snoc_int hlt)
      generalize xs.getD k 0 = x at *
      go_wp2_with fail
      (with_reducible refine (add_any w.heap.size u7 zs x wr HO.out HS.out (by omega) HB.out.size).mono ?_)
      rintro e w2 ⟨v2, zs2, rfl, p1, p2, p3, p4, p5, p6⟩
      have hb2 : Below w.heap.size w w2 := HB.out.grown p5 HB.out.size (fun j hj => (HO.out.lt j hj).1)
      have P1 := Lib.hid p1
      have P2 := Lib.hid p2
      clear p1 p2 p5 p6
      go_wp2_with fail
      go_roundw
      case rel => exact ⟨k + 1, zs2, by omega, by go_num, P1.out, fun y => by rw [P2.out, HM.out, HT.out, List.mem_append, List.mem_singleton], by omega, p4, hb2⟩
      case measure => simp [intOf]; omega
    · have hk' : k = xs.length := by omega
      have hm2 : ∀ y, y ∈ zs ↔ y ∈ xs := by have := HM.out; rwa [hk', List.take_of_length_le (Nat.le_refl _)] at this
      have HM2 := Lib.hid hm2
      clear hm2 HM
      obtain ⟨i0, hi, hz0, hz1, hz2⟩ := info_parts infoB
      have hwr := HB.out.size
      go_wp2_with (at_make; (refine wpList_make_full _ rfl _ _ 38 rfl wr.heap.size 4 i0 (.bool false) 1 Go.Proofs.Try.underlying38 hi hz0 hz1 _ _ _ _ cs.length rfl rfl rfl rfl (by rw [hz2]; omega) (by unfold maxLen; omega) (Nat.le_refl _) ?_))
      intro w2 ho2 hg2
      go_wp2_with fail
      have hrb := RowB.of_made ho2
      have hbl2 : Below w.heap.size w w2 := HB.out.grown hg2 HB.out.size (fun j hj => by cases hj)
      have hown2 : w2.ownsRow w.heap.size 3 1 u7 zs.length (zs.map (Value.int .i64)) := HO.out.kept hg2 (by cases hv : u7.ownBlock <;> simp)
      have HRB := Lib.hid hrb
      have HBL2 := Lib.hid hbl2
      have HO2 := Lib.hid hown2
      clear hrb hbl2 hown2 ho2 hg2 HO HB H1
      obtain ⟨dd, hdd⟩ : ∃ dd : Nat, dd = wr.heap.size := ⟨_, rfl⟩
      rw [← hdd] at HRB ⊢
      have hddge : w.heap.size ≤ dd := by omega
      clear hdd
      go_loopw [2, 7, 10] (fun t2 t7 t10 wr => ∃ (n : Nat) (ds : List Bool) (bud : Int) (taken ys : List Int), n ≤ cs.length ∧ t10 = .int .i64 n ∧ t2 = .int .i64 bud ∧ bud ≤ 9223372036854775807 ∧ -9223372036854775808 ≤ bud ∧
          ds.length = cs.length ∧ ds.count true = n ∧ RowB wr dd ds ∧ greedy (sortK (cs.map key)) budget = taken ++ greedy (sortK (rem cs ds)) bud ∧
          ys.Pairwise (· < ·) ∧ (∀ y, y ∈ ys ↔ y ∈ xs ∨ y ∈ taken) ∧ ys.length ≤ xs.length + n ∧ wr.ownsRow w.heap.size 3 1 t7 ys.length (ys.map (Value.int .i64)) ∧ Below w.heap.size w wr)
        (fun _ _ t10 _ => cs.length - (intOf t10).toNat)
      case atStart =>
        refine ⟨0, List.replicate cs.length false, budget, [], zs, Nat.zero_le _, rfl, rfl, hb2, hb1, by simp, by simp [List.count_replicate], HRB.out, ?_, HS.out, fun y => by rw [HM2.out]; simp, by omega, HO2.out, HBL2.out⟩
        rw [rem_all, List.nil_append]
      case round =>
        obtain ⟨n, ds, bud, taken, ys, hn, rfl, rfl, hu1, hu2, hdl, hcnt, hrb, hgr, hys, hym, hyl, hown, hb⟩ := hrel
        have HDL := Lib.hid hdl
        have HCNT := Lib.hid hcnt
        have HRB := Lib.hid hrb
        have HGR := Lib.hid hgr
        have HYS := Lib.hid hys
        have HYM := Lib.hid hym
        have HO := Lib.hid hown
        have HB := Lib.hid hb
        clear hdl hcnt hrb hgr hys hym hown hb HS HM2 HO2 HBL2
        by_cases hlt : n < cs.length
        · obtain ⟨g, o, rfl, hg, -, -⟩ := H2.out n hlt
          go_wp2_with fail
          obtain ⟨wo, hwo⟩ : ∃ wo : World, wo = wr := ⟨_, rfl⟩
          rw [← hwo]
          rw [← hwo] at HRB HO HB
          clear hwo
          have hcell := fun (j : Nat) (hj : j < cs.length) => H2.out j hj
          have HC := Lib.hid hcell
          clear hcell
          go_loopw [11, 12] (fun t11 t12 w3 => ∃ (i : Nat) (kv : Int), i ≤ cs.length ∧ t12 = .int .i64 i ∧ t11 = .int .i64 kv ∧ PickInv cs ds i kv ∧ Grows wo w3) (fun _ t12 _ => cs.length - (intOf t12).toNat)
          case atStart => exact ⟨0, -1, Nat.zero_le _, rfl, rfl, .inl ⟨rfl, fun j hj => absurd hj (by omega)⟩, Grows.refl _⟩
          case round =>
            obtain ⟨i, kv, hi', rfl, rfl, hpi, hg3⟩ := hrel
            have HPI := Lib.hid hpi
            clear hpi
            by_cases hilt : i < cs.length
            · have i1 : (0 : Int) ≤ (i : Int) := by omega
              have i2 : (i : Int) < (cs.length : Int) := by omega
              have cd : ∀ w', Grows wr w' → w'.cell? ⟨dd, i, none⟩ = some (.bool (ds.getD i false)) := fun w' h => (HRB.out.grows (hg3.trans h)).cell (by rw [HDL.out]; exact hilt)
              obtain ⟨g', o', e', hgB, hi1, hi2⟩ := HC.out i hilt
              simp only [Option.some.injEq, Addr.mk.injEq, and_true] at e'
              obtain ⟨rfl, rfl⟩ := e'
              have ci1 : ∀ w', Grows wr w' → w'.cell? ⟨g, o + i * 2, none⟩ = some (.int .i64 (cs.getD i (0, 0)).1) := fun w' h => (hg3.trans h).cell ((HB.out.cell (by exact Nat.lt_of_lt_of_le hgB hB')).trans hi1)
              have ci2 : ∀ w', Grows wr w' → w'.cell? ⟨g, o + i * 2 + 1, none⟩ = some (.int .i64 (cs.getD i (0, 0)).2) := fun w' h => (hg3.trans h).cell ((HB.out.cell (by exact Nat.lt_of_lt_of_le hgB hB')).trans hi2)
              clear hi1 hi2
              cases hds : ds.getD i false with
              | true =>
                rw [hds] at cd
                have HDS := Lib.hid hds
                clear hds ci1 ci2
                go_wp2_with fail
                refine region_grows (by kernel_rfl) (by kernel_rfl) ?_; (repeat (first | (with_reducible refine quiet_op (fun K hK G hG => ?_); go_simp; first | (refine hK _ ?_; clear hK K hG G) | (refine hG ?_; clear hG G; apply Exists.intro; refine ⟨fun w' hw' => ?_, ?_⟩; (unfold Oper.quietAt; go_simp; first | exact rfl ); go_simp; refine hK _ ?_; clear hK K)) | (with_reducible refine quiet_pass ?_ (fun K hK => ?_); (kernel_rfl); go_simp; refine hK _ ?_; clear hK K))); refine wpQuiet_nil ?_; intro wq hq
                go_wp2_with fail
                go_roundw
                case rel => exact ⟨i + 1, kv, by omega, by go_num, rfl, HPI.out.skip HDS.out, hg3.trans hq⟩
                case measure => simp [intOf]; omega
              | false =>
                rw [hds] at cd
                have HDS := Lib.hid hds
                clear hds
                rcases Int.lt_or_le kv 0 with hneg | hpos
                · have hkv : kv = -1 := by rcases HPI.out with ⟨h, _⟩ | ⟨k', h, _⟩ <;> omega
                  subst hkv
                  clear ci1 ci2 hneg
                  go_wp2_with fail
                  refine region_grows (by kernel_rfl) (by kernel_rfl) ?_; (repeat (first | (with_reducible refine quiet_op (fun K hK G hG => ?_); go_simp; first | (refine hK _ ?_; clear hK K hG G) | (refine hG ?_; clear hG G; apply Exists.intro; refine ⟨fun w' hw' => ?_, ?_⟩; (unfold Oper.quietAt; go_simp; first | exact rfl ); go_simp; refine hK _ ?_; clear hK K)) | (with_reducible refine quiet_pass ?_ (fun K hK => ?_); (kernel_rfl); go_simp; refine hK _ ?_; clear hK K))); refine wpQuiet_nil ?_; intro wq hq
                  go_wp2_with fail
                  go_roundw
                  case rel => exact ⟨i + 1, i, by omega, by go_num, rfl, HPI.out.first HDS.out, hg3.trans hq⟩
                  case measure => simp [intOf]; omega
                · obtain ⟨kn, rfl⟩ : ∃ kn : Nat, kv = kn := ⟨kv.toNat, by omega⟩
                  have hkn : kn < i := by rcases HPI.out with ⟨h, _⟩ | ⟨k', h, h2, _⟩ <;> omega
                  have j2 : (kn : Int) < (cs.length : Int) := by omega
                  obtain ⟨g', o', e', hgB', hk1, hk2⟩ := HC.out kn (by omega)
                  simp only [Option.some.injEq, Addr.mk.injEq, and_true] at e'
                  obtain ⟨rfl, rfl⟩ := e'
                  have ck1 : ∀ w', Grows wr w' → w'.cell? ⟨g, o + kn * 2, none⟩ = some (.int .i64 (cs.getD kn (0, 0)).1) := fun w' h => (hg3.trans h).cell ((HB.out.cell (by exact Nat.lt_of_lt_of_le hgB' hB')).trans hk1)
                  have ck2 : ∀ w', Grows wr w' → w'.cell? ⟨g, o + kn * 2 + 1, none⟩ = some (.int .i64 (cs.getD kn (0, 0)).2) := fun w' h => (hg3.trans h).cell ((HB.out.cell (by exact Nat.lt_of_lt_of_le hgB' hB')).trans hk2)
                  clear hk1 hk2
                  have hl1 := HPI.out.less (k := kn) HDS.out
                  have hl2 := HPI.out.more (k := kn)
                  have hless := fun W => less_any (cs.getD i (0, 0)).1 (cs.getD i (0, 0)).2 (cs.getD kn (0, 0)).1 (cs.getD kn (0, 0)).2 W
                  have he1 : lessC ((cs.getD i (0, 0)).1, (cs.getD i (0, 0)).2) ((cs.getD kn (0, 0)).1, (cs.getD kn (0, 0)).2) = lessC (cs.getD i (0, 0)) (cs.getD kn (0, 0)) := rfl
                  rw [he1] at hless
                  clear he1
                  generalize lessC (cs.getD i (0, 0)) (cs.getD kn (0, 0)) = lb at *
                  generalize (cs.getD i (0, 0)).1 = ri at *
                  generalize (cs.getD i (0, 0)).2 = li at *
                  generalize (cs.getD kn (0, 0)).1 = rk at *
                  generalize (cs.getD kn (0, 0)).2 = lk at *
                  have HL1 := Lib.hid hl1
                  have HL2 := Lib.hid hl2
                  have HLS := Lib.hid hless
                  clear hl1 hl2 hless
                  have j1 : decide ((kn : Int) < 0) = false := by simp
                  cases lb with
                  | true =>
                    go_wp2_with fail
                    refine region_grows (by kernel_rfl) (by kernel_rfl) ?_; (repeat (first | (with_reducible refine quiet_op (fun K hK G hG => ?_); go_simp; first | (refine hK _ ?_; clear hK K hG G) | (refine hG ?_; clear hG G; apply Exists.intro; refine ⟨fun w' hw' => ?_, ?_⟩; (unfold Oper.quietAt; go_simp; first | exact rfl | (go_at_call 25; with_reducible refine Calls.grown_of hw' (HLS.out _))); go_simp; refine hK _ ?_; clear hK K)) | (with_reducible refine quiet_pass ?_ (fun K hK => ?_); (kernel_rfl); go_simp; refine hK _ ?_; clear hK K))); refine wpQuiet_nil ?_; intro wq hq
                    go_wp2_with fail
                    go_roundw
                    case rel => exact ⟨i + 1, i, by omega, by go_num, rfl, HL1.out (by simp), hg3.trans hq⟩
                    case measure => simp [intOf]; omega
                  | false =>
                    go_wp2_with fail
                    refine region_grows (by kernel_rfl) (by kernel_rfl) ?_; (repeat (first | (with_reducible refine quiet_op (fun K hK G hG => ?_); go_simp; first | (refine hK _ ?_; clear hK K hG G) | (refine hG ?_; clear hG G; apply Exists.intro; refine ⟨fun w' hw' => ?_, ?_⟩; (unfold Oper.quietAt; go_simp; first | exact rfl | (go_at_call 25; with_reducible refine Calls.grown_of hw' (HLS.out _))); go_simp; refine hK _ ?_; clear hK K)) | (with_reducible refine quiet_pass ?_ (fun K hK => ?_); (kernel_rfl); go_simp; refine hK _ ?_; clear hK K))); refine wpQuiet_nil ?_; intro wq hq
                    go_wp2_with fail
                    go_roundw
                    case rel => exact ⟨i + 1, kn, by omega, by go_num, rfl, HL2.out (by simp), hg3.trans hq⟩
                    case measure => simp [intOf]; omega
            · have hic : i = cs.length := by omega
              subst hic
              obtain ⟨kn, rfl, hkl, hdk, hsel⟩ := HPI.out.found HDL.out (by rw [HCNT.out]; exact hlt)
              obtain ⟨g', o', e', hgB, hk1, hk2⟩ := HC.out kn hkl
              simp only [Option.some.injEq, Addr.mk.injEq, and_true] at e'
              obtain ⟨rfl, rfl⟩ := e'
              have hcnt2 := count_set ds kn (by rw [HDL.out]; exact hkl) hdk
              have hrw := HRB.out.grows hg3
              have c0 := hrw.cell (k := kn) (by rw [HDL.out]; exact hkl)
              have f0 := hrw.frozen kn
              have hgd : g ≠ dd := by omega
              have k1 : (wr.setCell ⟨dd, kn, none⟩ (.bool true)).cell? ⟨g, o + kn * 2, none⟩ = some (.int .i64 (cs.getD kn (0, 0)).1) := by
                rw [World.cell?_setCell_other _ _ _ _ (by first | (simp; done) | (simp; omega))]
                exact hg3.cell ((HB.out.cell (by exact Nat.lt_of_lt_of_le hgB hB')).trans hk1)
              have k2 : (wr.setCell ⟨dd, kn, none⟩ (.bool true)).cell? ⟨g, o + kn * 2 + 1, none⟩ = some (.int .i64 (cs.getD kn (0, 0)).2) := by
                rw [World.cell?_setCell_other _ _ _ _ (by first | (simp; done) | (simp; omega))]
                exact hg3.cell ((HB.out.cell (by exact Nat.lt_of_lt_of_le hgB hB')).trans hk2)
              have hob := ownsRow_grows HO.out hg3
              have hne := own_ne_bool hob hrw
              have hob1 : (wr.setCell ⟨dd, kn, none⟩ (.bool true)).ownsRow w.heap.size 3 1 u7 ys.length (ys.map (Value.int .i64)) :=
                hob.kept (grownBy_setCell (row := some dd) (World.grownBy.refl _ _) (.inl rfl) _) (.inr hne)
              have hrb1 : RowB (wr.setCell ⟨dd, kn, none⟩ (.bool true)) dd (ds.set kn true) := hrw.set_
              have hbl1 : Below w.heap.size w (wr.setCell ⟨dd, kn, none⟩ (.bool true)) := (HB.out.trans (hg3.below.mono HB.out.size)).setCell hddge _
              have hgre : greedy (sortK (cs.map key)) budget = taken ++ greedy (key (cs.getD kn (0, 0)) :: sortK (rem cs (ds.set kn true))) bud := by rw [HGR.out, hsel]
              obtain ⟨r, hr⟩ : ∃ r, (cs.getD kn (0, 0)).1 = r := ⟨_, rfl⟩
              obtain ⟨l, hl⟩ : ∃ l, (cs.getD kn (0, 0)).2 = l := ⟨_, rfl⟩
              have hcd : cs.getD kn (0, 0) = (r, l) := by rw [← hr, ← hl]
              rw [hr] at k1
              rw [hl] at k2
              rw [hcd] at hgre
              have HO1 := Lib.hid hob1
              have HRB1 := Lib.hid hrb1
              have HBL1 := Lib.hid hbl1
              have HGRE := Lib.hid hgre
              have HCNT2 := Lib.hid hcnt2
              have HNE := Lib.hid hne
              have K1 := Lib.hid k1
              have K2 := Lib.hid k2
              clear hk1 hk2 hob hne hob1 hrb1 hbl1 hgre hr hl hcd hsel hdk hcnt2 hrw hgd
              go_wp2_with fail
              have hlive := fun W => live_any r l W
              obtain ⟨lv, hlv⟩ : ∃ lv, max l 0 = lv := ⟨_, rfl⟩
              have hl0 : 0 ≤ lv := by omega
              rw [hlv] at hlive
              have HLV := Lib.hid hlv
              have HLI := Lib.hid hlive
              clear hlive hlv
              (with_reducible refine (HLI.out _).mono ?_)
              rintro e w4 ⟨rfl, hg4⟩
              have HG4 := Lib.hid hg4
              have k1 := hg4.cell K1.out
              have k2 := hg4.cell K2.out
              clear c0 f0 hg4
              by_cases hgt : bud < lv
              · go_wp2_with fail
                go_ret
                have hfin : IsChoice xs cs budget ys := by
                  refine ⟨HYS.out, fun y => ?_⟩
                  rw [HYM.out, picks, HGRE.out, greedy_stop (by rw [HLV.out]; exact hgt), List.append_nil]
                have hown4 := ownsRow_grows HO1.out HG4.out
                obtain ⟨a1, c1, hv, _⟩ := slice_form hown4
                subst hv
                exact ⟨a1, c1, ys, rfl, hfin, (IntsIn.of_own hown4).1, HBL1.out.trans (HG4.out.below.mono HBL1.out.size)⟩
              · go_wp2_with fail
                (with_reducible refine (HLI.out _).mono ?_)
                rintro e w5 ⟨rfl, hg5⟩
                have k3 := hg5.cell k1
                have hg45 := HG4.out.trans hg5
                have hown5 := ownsRow_grows HO1.out hg45
                have hbl5 := HBL1.out.trans (hg45.below.mono HBL1.out.size)
                have hrb5 := HRB1.out.grows hg45
                have HO5 := Lib.hid hown5
                have HBL5 := Lib.hid hbl5
                have HRB5 := Lib.hid hrb5
                clear k1 k2 hg5 hg45 hown5 hbl5 hrb5
                go_wp2_with fail
                (with_reducible refine (add_any w.heap.size u7 ys r w5 HO5.out HYS.out (by omega) HBL5.out.size).mono ?_)
                rintro e w6 ⟨v6, ys6, rfl, p1, p2, p3, p4, p5, p6⟩
                have hbl6 : Below w.heap.size w w6 := HBL5.out.grown p5 HBL5.out.size (fun j hj => (HO5.out.lt j hj).1)
                have hrb6 : RowB w6 dd (ds.set kn true) := HRB5.out.block (p5.block dd HRB5.out.lt (fun e => HNE.out e.symm))
                have hst : greedy (sortK (cs.map key)) budget = (taken ++ [r]) ++ greedy (sortK (rem cs (ds.set kn true))) (bud - lv) := by
                  rw [HGRE.out, greedy_go (by rw [HLV.out]; omega), HLV.out, List.append_assoc]
                  rfl
                have P1 := Lib.hid p1
                have P2 := Lib.hid p2
                have HBL6 := Lib.hid hbl6
                have HRB6 := Lib.hid hrb6
                have HST := Lib.hid hst
                clear p1 p2 p5 p6 hbl6 hrb6 hst
                go_wp2_with fail
                go_roundw
                case rel => exact ⟨n + 1, ds.set kn true, bud - lv, taken ++ [r], ys6, by omega, by go_num, rfl, by omega, by omega, by simpa using HDL.out, by rw [HCNT2.out, HCNT.out], HRB6.out, HST.out, P1.out, fun y => by rw [P2.out, HYM.out, List.mem_append, List.mem_singleton, or_assoc], by omega, p4, HBL6.out⟩
                case measure => simp [intOf]; omega
        · go_wp2_with fail
          go_ret
          have hfin : IsChoice xs cs budget ys := by
            refine ⟨HYS.out, fun y => ?_⟩
            rw [HYM.out, picks, HGR.out]
            have hr0 : rem cs ds = [] := by
              have h1 := rem_length cs ds HDL.out
              have h2 := HCNT.out
              exact List.eq_nil_of_length_eq_zero (by omega)
            rw [hr0]
            simp [sortK, greedy]
          obtain ⟨a1, c1, hv, _⟩ := slice_form HO.out
          subst hv
          exact ⟨a1, c1, ys, rfl, hfin, (IntsIn.of_own HO.out).1, HB.out⟩
end Go.Proofs.Ytlbdciljbmpfmaa
