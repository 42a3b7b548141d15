/- The reference's 'add': a number into a rising row, once. -/
import Derived.Test.YtlbdciljbmpfmaaCsRow
import Derived.Maps.AppendAt
namespace Go.Proofs.Ytlbdciljbmpfmaa
open Go.RowKit Cs Go.Sort

/-- x stands at place i of zs. -/
def ins (zs : List Int) (x : Int) (i : Nat) : List Int := zs.take i ++ x :: zs.drop i
theorem ins_length (zs : List Int) (x : Int) (i : Nat) (h : i ≤ zs.length) : (ins zs x i).length = zs.length + 1 := by simp [ins]; omega
theorem ins_end (zs : List Int) (x : Int) : ins zs x zs.length = zs ++ [x] := by simp [ins]
theorem ins_at (zs : List Int) (x : Int) (i : Nat) (h : i ≤ zs.length) : (ins zs x i).getD i 0 = x := by
  have hl : (zs.take i).length = i := by simp; omega
  simp only [List.getD, ins]
  rw [List.getElem?_append_right (by omega), hl, Nat.sub_self]
  rfl
theorem ins_before (zs : List Int) (x : Int) (i : Nat) (h0 : 0 < i) (h : i ≤ zs.length) : (ins zs x i).getD (i - 1) 0 = zs.getD (i - 1) 0 := by
  have hl : (zs.take i).length = i := by simp; omega
  simp only [List.getD, ins]
  rw [List.getElem?_append_left (by omega), List.getElem?_take, if_pos (by omega)]
theorem ins_step (zs : List Int) (x : Int) (i : Nat) (h0 : 0 < i) (h : i ≤ zs.length) : ((ins zs x i).set i (zs.getD (i - 1) 0)).set (i - 1) x = ins zs x (i - 1) := by
  obtain ⟨i, rfl⟩ : ∃ m, i = m + 1 := ⟨i - 1, by omega⟩
  simp only [Nat.add_sub_cancel]
  have hi : i < zs.length := by omega
  unfold ins
  rw [take_snoc_int hi]
  have hl : (zs.take i).length = i := by simp; omega
  rw [List.append_assoc, List.set_append_right _ _ (by omega), List.set_append_right _ _ (by omega), hl]
  congr 1
  rw [show i + 1 - i = 1 from by omega, Nat.sub_self, List.drop_eq_getElem_cons hi, getD_of_lt hi]
  rfl
theorem ins_rising (zs : List Int) (x : Int) (i : Nat) (h : i ≤ zs.length) (hz : zs.Pairwise (· < ·)) (hno : ¬ x ∈ zs) (hlow : i = 0 ∨ zs.getD (i - 1) 0 ≤ x) (hhigh : ∀ y, y ∈ zs.drop i → x < y) :
    (ins zs x i).Pairwise (· < ·) ∧ (∀ y, y ∈ ins zs x i ↔ y ∈ zs ∨ y = x) := by
  have hz' := hz
  rw [← List.take_append_drop i zs, List.pairwise_append] at hz'
  obtain ⟨p1, p2, p3⟩ := hz'
  have hlow' : ∀ y, y ∈ zs.take i → y < x := by
    intro y hy
    rcases hlow with rfl | hle
    · simp at hy
    · obtain ⟨j, hj, rfl⟩ := List.getElem_of_mem hy
      have hj' : j < i := by simp at hj; omega
      have hlt : i - 1 < zs.length := by omega
      rw [getD_of_lt hlt] at hle
      have hne : zs[i - 1] ≠ x := fun e => hno (e ▸ List.getElem_mem hlt)
      have : zs[j]'(by omega) ≤ zs[i - 1] := by
        by_cases e : j = i - 1
        · subst e; exact Int.le_refl _
        · have := List.pairwise_iff_getElem.1 hz j (i - 1) (by omega) hlt (by omega)
          omega
      simp only [List.getElem_take]
      omega
  constructor
  · unfold ins
    rw [List.pairwise_append]
    refine ⟨p1, ?_, ?_⟩
    · rw [List.pairwise_cons]
      exact ⟨hhigh, p2⟩
    · intro a ha b hb
      rcases List.mem_cons.1 hb with rfl | hb
      · exact hlow' a ha
      · exact p3 a ha b hb
  · intro y
    unfold ins
    rw [List.mem_append, List.mem_cons]
    conv => rhs; rw [← List.take_append_drop i zs, List.mem_append]
    constructor
    · rintro (h | h | h)
      · exact .inl (.inl h)
      · exact .inr h
      · exact .inl (.inr h)
    · rintro ((h | h) | h)
      · exact .inl h
      · exact .inr (.inr h)
      · exact .inr (.inl h)

/-- A block of the call's own whose first cells are ints. -/
def RowI (w : World) (g cap : Nat) (zs : List Int) : Prop := ∃ rest : List Value, w.heap[g]? = some (.cells (zs.map (Value.int .i64) ++ rest).toArray 3 (0, 0)) ∧ zs.length + rest.length = cap ∧ cap ≤ maxLen
theorem RowI.of_own {w : World} {base n cap g : Nat} {zs : List Int} (h : w.ownsRow base 3 1 (.slice (some ⟨g, 0, none⟩) n cap) n (zs.map (Value.int .i64))) : RowI w g cap zs ∧ base ≤ g ∧ zs.length = n := by
  have hl : zs.length = n := by have := h.1; simpa using this
  rcases h.2 with ⟨h0, _⟩ | ⟨g', cap', cur, hv, hb, hh, hc, hm, hs, ht⟩
  · cases h0
  · injection hv with e1 e2 e3
    simp only [Option.some.injEq, Addr.mk.injEq, and_true] at e1
    subst e1
    subst e3
    refine ⟨⟨cur.toList.drop n, ?_, ?_, hm⟩, hb, hl⟩
    · rw [hh, ← ht, Nat.mul_one, List.take_append_drop]
    · simp at hs ⊢; omega
theorem RowI.to_own {w : World} {g cap base : Nat} {zs : List Int} (h : RowI w g cap zs) (hb : base ≤ g) : w.ownsRow base 3 1 (.slice (some ⟨g, 0, none⟩) zs.length cap) zs.length (zs.map (Value.int .i64)) := by
  obtain ⟨rest, hh, hl, hm⟩ := h
  refine ⟨by simp, .inr ⟨g, cap, _, rfl, hb, hh, by omega, hm, by simp; omega, ?_⟩⟩
  simp
theorem RowI.cell {w : World} {g cap k : Nat} {zs : List Int} (h : RowI w g cap zs) (hk : k < zs.length) : w.cell? ⟨g, k, none⟩ = some (.int .i64 (zs.getD k 0)) := by
  obtain ⟨rest, hh, _⟩ := h
  rw [cell_of_row w g _ _ _ _ hh, List.getElem?_toArray, List.getElem?_append_left (by simpa using hk)]
  simp [List.getD, hk]
theorem RowI.frozen {w : World} {g cap : Nat} {zs : List Int} (h : RowI w g cap zs) (j : Nat) : w.frozen? ⟨g, j, none⟩ = false := by
  obtain ⟨rest, hh, _⟩ := h
  simp [World.frozen?, hh]
theorem RowI.set_ {w : World} {g cap k : Nat} {zs : List Int} (h : RowI w g cap zs) (x : Int) (hk : k < zs.length) : RowI (w.setCell ⟨g, k, none⟩ (.int .i64 x)) g cap (zs.set k x) := by
  obtain ⟨rest, hh, hl, hm⟩ := h
  refine ⟨rest, ?_, by simpa using hl, hm⟩
  simp only [World.setCell, Array.getElem?_modify, if_true, hh, Option.map_some]
  simp only [Option.isSome_none, Bool.false_eq_true, if_false, List.setIfInBounds_toArray]
  rw [List.set_append_left _ _ (by simpa using hk), List.map_set]
theorem RowI.drewN {w : World} {g cap : Nat} {zs : List Int} (h : RowI w g cap zs) (n : Nat) : RowI (w.drewN n) g cap zs := h
theorem RowI.lt {w : World} {g cap : Nat} {zs : List Int} (h : RowI w g cap zs) : g < w.heap.size := by
  obtain ⟨rest, h, _⟩ := h
  exact (Array.getElem?_eq_some_iff.1 h).1
theorem grownBy_setCell {a w : World} {row : Option Nat} (h : a.grownBy w row) {p : Addr} (hp : row = some p.block ∨ a.heap.size ≤ p.block) (u : Value) : a.grownBy (w.setCell p u) row :=
  ⟨h.os, h.tape, h.output, by have := h.size; simpa [World.setCell] using this, fun k hk hne => by
    rw [Below.heap_setCell w p u k (by rintro rfl; rcases hp with e | e; exact hne e.symm; omega)]
    exact h.block k hk hne⟩
theorem grownBy_drewN {a w : World} {row : Option Nat} (h : a.grownBy w row) (n : Nat) : a.grownBy (w.drewN n) row := ⟨h.os, h.tape, h.output, h.size, h.block⟩

theorem slice_form {w : World} {base n size : Nat} {e : TypeId} {v : Value} {xs : List Value} (h : w.ownsRow base e size v n xs) : ∃ a c, v = .slice a n c ∧ n ≤ c := by
  rcases h.2 with ⟨hv, h0⟩ | ⟨g, cap, cur, hv, _, _, hc, _⟩
  · exact ⟨_, _, by rw [hv, h0], by omega⟩
  · exact ⟨_, _, hv, hc⟩

/-- What 'add' leaves. -/
def AddPost (base : Nat) (zs : List Int) (x : Int) (v : Value) (w : World) (e : Ending) (w' : World) : Prop :=
  ∃ (v' : Value) (zs' : List Int), e = .returned v' ∧ zs'.Pairwise (· < ·) ∧ (∀ y, y ∈ zs' ↔ y ∈ zs ∨ y = x) ∧ zs'.length ≤ zs.length + 1 ∧ w'.ownsRow base 3 1 v' zs'.length (zs'.map (Value.int .i64)) ∧
    w.grownBy w' v.ownBlock ∧ (v'.ownBlock = v.ownBlock ∨ ∃ g, v'.ownBlock = some g ∧ w.heap.size ≤ g)

theorem infoI2 : (Try.prog.info? 3).map (fun i => (i.zero, i.size, i.bytes)) = some (some (.int .i64 0), 1, 8) := by kernel_rfl

set_option maxHeartbeats 2000000 in
theorem add_any (base : Nat) (v : Value) (zs : List Int) (x : Int) (w : World) (h : w.ownsRow base 3 1 v zs.length (zs.map (Value.int .i64))) (hs : zs.Pairwise (· < ·)) (hl : zs.length ≤ 1000000) (hb : base ≤ w.heap.size) :
    Calls Try.prog 24 #[v, .int .i64 x] w (AddPost base zs x v w) := by
  obtain ⟨a, c, rfl, hac⟩ := slice_form h
  have HI := Lib.hid (IntsIn.of_own h).1
  have HO := Lib.hid h
  have HS := Lib.hid hs
  clear h hs
  obtain ⟨i0, hi, hz0, hz1, hz2⟩ := info_parts infoI2
  go_enter Try.func24, Try.ntmps24
  go_wp2_with fail
  go_loop [5] (fun t => ∃ k : Nat, k ≤ zs.length ∧ t = .int .i64 k ∧ ¬ x ∈ zs.take k) (fun t => zs.length - (intOf t).toNat)
  case atStart => exact ⟨0, Nat.zero_le _, rfl, by simp⟩
  case round =>
    obtain ⟨k, hk, rfl, hno⟩ := hrel
    have HN := Lib.hid hno
    clear hno
    by_cases hlt : k < zs.length
    · obtain ⟨g, o, rfl, hg, hc⟩ := HI.out k hlt
      have HT := Lib.hid (take_snoc_int hlt)
      have hmem : zs.getD k 0 ∈ zs := by rw [getD_of_lt hlt]; exact List.getElem_mem hlt
      have HM := Lib.hid hmem
      clear hmem
      generalize zs.getD k 0 = y at *
      by_cases hxy : y = x
      · subst hxy
        go_wp2_with fail
        go_ret
        exact ⟨_, zs, rfl, HS.out, fun z => ⟨fun h => .inl h, fun h => h.elim id (fun e => e ▸ HM.out)⟩, by omega, HO.out, World.grownBy.refl _ _, .inl rfl⟩
      · have hd : (y == x) = false := by simpa using hxy
        have HX := Lib.hid hxy
        clear hxy
        go_wp2_with fail
        go_round
        case rel => exact ⟨k + 1, by omega, by go_num, by rw [HT.out]; simpa using And.intro HN.out (Ne.symm HX.out)⟩
        case measure => simp [intOf]; omega
    · have hk' : k = zs.length := by omega
      have hno : ¬ x ∈ zs := by have := HN.out; rwa [hk', List.take_of_length_le (Nat.le_refl _)] at this
      have HNO := Lib.hid hno
      clear hno HN
      have hown := HO.out
      go_wp2_with (at_builtin; (refine wpList_append_own_at _ rfl _ _ 22 rfl base 3 i0 (.int .i64 0) 1 8 Go.Proofs.Try.underlying22 hi hz0 hz1 hz2 rfl (by decide) _ _ _ rfl (hown.alloc _) ⟨w.heap.size, 0, none⟩ 1 1 [.int .i64 x] rfl rfl ?c1 ?c2 ?c3 ?c4 ?c5 ?_))
      case c3 => unfold maxLen; omega
      case c4 => omega
      case c5 => omega
      case c2 => rfl
      intro v' w1 hown1 hgrow1 _ hat1
      have hg1 : w.grownBy w1 (Value.slice a zs.length c).ownBlock := ⟨hgrow1.os, hgrow1.tape, hgrow1.output, by have := hgrow1.size; simp at this; omega, fun k hk hne => (hgrow1.block k (by simp; omega) hne).trans (Below.heap_alloc _ _ _ hk)⟩
      have hw1 : w.heap.size + 1 ≤ w1.heap.size := by have := hgrow1.size; simpa using this
      have hown2 : w1.ownsRow base 3 1 v' (zs.length + 1) ((zs ++ [x]).map (Value.int .i64)) := by simpa using hown1
      obtain ⟨g, cap, rfl, hbg, hgl, hcap⟩ := own_form hown2 (by omega)
      obtain ⟨hri, -, -⟩ := RowI.of_own hown2
      have hrow : (Value.slice a zs.length c).ownBlock = some g ∨ w.heap.size ≤ g := by
        rcases hat1 with e | e
        · exact .inl e.symm
        · simp [Value.ownBlock] at e; omega
      rw [← ins_end] at hri
      clear hown hown1 hown2 hgrow1 hat1
      have HG := Lib.hid hg1
      have HR := Lib.hid hri
      clear hg1 hri
      go_wp2_with fail
      go_loopw [6] (fun t wr => ∃ i : Nat, i ≤ zs.length ∧ t = .int .i64 i ∧ RowI wr g cap (ins zs x i) ∧ (∀ y, y ∈ zs.drop i → x < y) ∧ w.grownBy wr (Value.slice a zs.length c).ownBlock) (fun t _ => (intOf t).toNat)
      case atStart => exact ⟨zs.length, Nat.le_refl _, by go_num, HR.out, by simp, HG.out⟩
      case round =>
        obtain ⟨i, hi', rfl, hri, hhigh, hgr⟩ := hrel
        have HGR := Lib.hid hgr
        have HH := Lib.hid hhigh
        have HRI := Lib.hid hri
        have hlen := ins_length zs x i hi'
        clear hgr hhigh
        have post : (i = 0 ∨ zs.getD (i - 1) 0 ≤ x) → ∀ n : Nat, AddPost base zs x (.slice a zs.length c) w (.returned (.slice (some ⟨g, 0, none⟩) (zs.length + 1) cap)) (wr.drewN n) := by
          intro hlow n
          obtain ⟨p1, p2⟩ := ins_rising zs x i hi' HS.out HNO.out hlow HH.out
          refine ⟨_, ins zs x i, rfl, p1, p2, by omega, ?_, grownBy_drewN HGR.out n, ?_⟩
          · have := (HRI.out.drewN n).to_own hbg
            rwa [hlen] at this ⊢
          · rcases hrow with e | e
            · exact .inl e.symm
            · exact .inr ⟨g, rfl, e⟩
        have HPost := Lib.hid post
        clear post
        by_cases h0 : i = 0
        · subst h0
          clear hri
          go_wp2_with fail
          go_quiet (fail)
          go_wp2_with fail
          go_ret
          exact HPost.out (by simp) _
        · have hc1 := hri.cell (k := i - 1) (by omega)
          have hc2 := hri.cell (k := i) (by omega)
          rw [ins_before zs x i (by omega) hi'] at hc1
          rw [ins_at zs x i hi'] at hc2
          have i1 : (0 : Int) < (i : Int) := by omega
          have j0 : 0 < i := by omega
          have i2 : (0 : Int) ≤ (i : Int) - 1 := by omega
          have i3 : (i : Int) - 1 < (zs.length : Int) + 1 := by omega
          have i4 : (i : Int) < (zs.length : Int) + 1 := by omega
          have e1 : ((i : Int) - 1).toNat = i - 1 := by omega
          have HY := Lib.hid (rfl : zs.getD (i - 1) 0 = zs.getD (i - 1) 0)
          obtain ⟨y, hy⟩ : ∃ y, zs.getD (i - 1) 0 = y := ⟨_, rfl⟩
          rw [hy] at hc1
          have HYY := Lib.hid hy
          clear hy HY hri
          by_cases hlt : x < y
          · have hd : decide (x < y) = true := by simpa using hlt
            go_wp2_with fail
            go_quiet (fail)
            have f1 := HRI.out.frozen i
            have f2 := HRI.out.frozen (i - 1)
            have n1 : ¬ i - 1 = i := by omega
            have n2 : ¬ i = i - 1 := by omega
            go_wp2_with fail
            go_roundw
            case rel =>
              refine ⟨i - 1, by omega, by congr 1; omega, ?_, ?_, ?_⟩
              · rw [← ins_step zs x i (by omega) hi', HYY.out]
                exact ((HRI.out.drewN nq).set_ y (by omega)).set_ x (by simp; omega)
              · intro z hz
                have hdz : zs.drop (i - 1) = zs.getD (i - 1) 0 :: zs.drop i := by
                  have hq : i - 1 < zs.length := by omega
                  rw [List.drop_eq_getElem_cons hq, getD_of_lt hq, show i - 1 + 1 = i from by omega]
                rw [hdz, HYY.out] at hz
                rcases List.mem_cons.1 hz with e | e
                · omega
                · exact HH.out z e
              · refine grownBy_setCell (grownBy_setCell (grownBy_drewN HGR.out nq) ?_ _) ?_ _
                · exact hrow
                · exact hrow
            case measure => simp [intOf]; omega
          · have hd : decide (x < y) = false := by simpa using hlt
            go_wp2_with fail
            go_quiet (fail)
            go_wp2_with fail
            go_ret
            exact HPost.out (.inr (by rw [HYY.out]; omega)) _
end Go.Proofs.Ytlbdciljbmpfmaa
