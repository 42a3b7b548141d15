/- cset.Next: what it comes to (slices.DeleteFunc over a row of candidates that the call owns). -/
import Derived.Test.YtlbdciljbmpfmaaCsRow
namespace Go.Proofs.Ytlbdciljbmpfmaa
open Go.RowKit Cs Go.Sort

/-- A block whose first cells are candidates. -/
def RowC (w : World) (g : Nat) (cs : List (Int × Int)) : Prop := ∃ rest : List Value, w.heap[g]? = some (.cells (flat cs ++ rest).toArray 33 (0, 0))
theorem RowC.lt {w : World} {g : Nat} {cs : List (Int × Int)} (h : RowC w g cs) : g < w.heap.size := by
  obtain ⟨rest, h⟩ := h
  exact (Array.getElem?_eq_some_iff.1 h).1
theorem RowC.block {w w' : World} {g : Nat} {cs : List (Int × Int)} (h : RowC w g cs) (hb : w'.heap[g]? = w.heap[g]?) : RowC w' g cs := by
  obtain ⟨rest, h⟩ := h
  exact ⟨rest, hb.trans h⟩
theorem RowC.grows {w w' : World} {g : Nat} {cs : List (Int × Int)} (h : RowC w g cs) (hg : Grows w w') : RowC w' g cs := h.block (hg.below.block g h.lt)
theorem RowC.cell {w : World} {g k : Nat} {cs : List (Int × Int)} (h : RowC w g cs) (hk : k < cs.length) :
    w.cell? ⟨g, k * 2, none⟩ = some (.int .i64 (cs.getD k (0, 0)).1) ∧ w.cell? ⟨g, k * 2 + 1, none⟩ = some (.int .i64 (cs.getD k (0, 0)).2) := by
  obtain ⟨rest, h⟩ := h
  obtain ⟨h1, h2⟩ := flat_even cs k hk
  constructor
  · rw [cell_of_row w g _ _ _ _ h, List.getElem?_toArray, List.getElem?_append_left (by rw [flat_length]; omega), h1]
  · rw [cell_of_row w g _ _ _ _ h, List.getElem?_toArray, List.getElem?_append_left (by rw [flat_length]; omega), h2]
theorem RowC.frozen {w : World} {g : Nat} {cs : List (Int × Int)} (h : RowC w g cs) (j : Nat) : w.frozen? ⟨g, j, none⟩ = false := by
  obtain ⟨rest, h⟩ := h
  simp [World.frozen?, h]
theorem flat_set (cs : List (Int × Int)) (k : Nat) (r l : Int) : flat (cs.set k (r, l)) = ((flat cs).set (k * 2) (.int .i64 r)).set (k * 2 + 1) (.int .i64 l) := by
  induction cs generalizing k with
  | nil => rfl
  | cons c cs ih =>
    cases k with
    | zero => rfl
    | succ k =>
      rw [List.set_cons_succ, flat_cons, flat_cons, ih]
      rw [show (k + 1) * 2 = k * 2 + 1 + 1 from by omega]
      rfl
theorem RowC.set_ {w : World} {g k : Nat} {cs : List (Int × Int)} (h : RowC w g cs) (r l : Int) (hk : k < cs.length) :
    RowC ((w.setCell ⟨g, k * 2, none⟩ (.int .i64 r)).setCell ⟨g, k * 2 + 1, none⟩ (.int .i64 l)) g (cs.set k (r, l)) := by
  obtain ⟨rest, h⟩ := h
  refine ⟨rest, ?_⟩
  have hl := flat_length cs
  simp only [World.setCell, Array.getElem?_modify, if_true, h, Option.map_some]
  simp only [Option.isSome_none, Bool.false_eq_true, if_false, List.setIfInBounds_toArray]
  rw [flat_set, List.set_append_left _ _ (by omega), List.set_append_left _ _ (by rw [List.length_set]; omega)]
theorem RowC.of_own {w : World} {base n cap g : Nat} {cs : List (Int × Int)} (h : w.ownsRow base 33 2 (.slice (some ⟨g, 0, none⟩) n cap) n (flat cs)) : RowC w g cs := by
  rcases h.2 with ⟨h0, _⟩ | ⟨g', cap', cur, hv, _, hh, _, _, _, ht⟩
  · cases h0
  · injection hv with e1 e2 e3
    simp only [Option.some.injEq, Addr.mk.injEq, and_true] at e1
    subst e1
    exact ⟨cur.toList.drop (n * 2), by rw [hh, ← ht, List.take_append_drop]⟩

/-- The closure of Next. -/
theorem taken_any (r l : Int) (a : Option Addr) (c p B : Nat) (xs : List Int) (w : World) (hp : w.cell? ⟨p, 0, none⟩ = some (.slice a xs.length c)) (h : IntsIn w B a xs) (hl : xs.length ≤ 4611686018427387904) :
    Calls Try.prog 22 #[.agg #[.int .i64 r, .int .i64 l], .pointer (some ⟨p, 0, none⟩)] w fun e w' => e = .returned (.bool (decide (r ∈ xs))) ∧ Grows w w' := by
  have hp' := fun o => ((Grows.refl w).alloc o).cell hp
  have H := Lib.hid h
  clear h
  go_enter Try.func22, Try.ntmps22
  go_wp2_with fail
  (with_reducible refine (contains_ints a c xs r _ B (H.out.grows ((Grows.refl w).alloc _)) hl).mono ?_)
  rintro e w1 ⟨rfl, rfl⟩
  go_wp2_with fail
  go_ret
  exact ⟨rfl, (Grows.refl w).alloc _⟩

def FoundAt (cs : List (Int × Int)) (xs : List Int) (e : Ending) : Prop :=
  (∃ i : Nat, e = .returned (.int .i64 i) ∧ i < cs.length ∧ (cs.getD i (0, 0)).1 ∈ xs ∧ ∀ j, j < i → ¬ (cs.getD j (0, 0)).1 ∈ xs) ∨
  (e = .returned (.int .i64 (-1)) ∧ ∀ j, j < cs.length → ¬ (cs.getD j (0, 0)).1 ∈ xs)

set_option maxHeartbeats 1000000 in
theorem indexFunc_any (a b : Option Addr) (c d p B B' : Nat) (xs : List Int) (cs : List (Int × Int)) (w : World) (hp : w.cell? ⟨p, 0, none⟩ = some (.slice a xs.length c)) (h : IntsIn w B a xs) (hl : xs.length ≤ 1000000)
    (h2 : CandsIn w B' b cs) (hc : cs.length ≤ 1000000) :
    Calls Try.prog 31 #[.slice b cs.length d, .func (.func 22) #[] #[.pointer (some ⟨p, 0, none⟩)]] w fun e w' => FoundAt cs xs e ∧ Grows w w' := by
  have H := Lib.hid h
  have H2 := Lib.hid h2
  have HP := Lib.hid hp
  clear h h2 hp
  go_enter Try.func31, Try.ntmps31
  go_wp2_with fail
  go_loopw [8] (fun i wr => ∃ k : Nat, k ≤ cs.length ∧ i = .int .i64 k ∧ (∀ j, j < k → ¬ (cs.getD j (0, 0)).1 ∈ xs) ∧ Grows w wr) (fun i _ => cs.length - (intOf i).toNat)
  case atStart => exact ⟨0, Nat.zero_le _, rfl, fun j hj => absurd hj (by omega), Grows.refl _⟩
  case round =>
    obtain ⟨k, hk, rfl, hno, hg⟩ := hrel
    have HN := Lib.hid hno
    clear hno
    by_cases hlt : k < cs.length
    · obtain ⟨g, o, rfl, -, hc1, hc2⟩ := H2.out k hlt
      have hr1 := hg.cell hc1
      have hr2 := hg.cell hc2
      have HC := Lib.hid (And.intro hc1 hc2)
      clear hc1 hc2
      have e1 : (cs.getD k (0, 0)).1 = (cs.getD k (0, 0)).1 := rfl
      have e2 : (cs.getD k (0, 0)).2 = (cs.getD k (0, 0)).2 := rfl
      generalize he1 : (cs.getD k (0, 0)).1 = r at hr1
      generalize he2 : (cs.getD k (0, 0)).2 = l at hr2
      have HE := Lib.hid he1
      clear e1 e2 he1 he2 HC
      have hcall := fun W (hW : Grows wr W) => taken_any r l a c p B xs W ((hg.trans hW).cell HP.out) (H.out.grows (hg.trans hW)) (by omega)
      have HK := Lib.hid hcall
      clear hcall
      by_cases hin : r ∈ xs
      · have hd : decide (r ∈ xs) = true := by simpa using hin
        go_wp2_with fail
        (with_reducible refine (HK.out _ (Grows.refl _)).mono ?_)
        rintro e w1 ⟨rfl, hg1⟩
        go_wp2_with fail
        go_ret
        exact ⟨.inl ⟨k, rfl, hlt, by rw [HE.out]; exact hin, HN.out⟩, hg.trans hg1⟩
      · have hd : decide (r ∈ xs) = false := by simpa using hin
        go_wp2_with fail
        (with_reducible refine (HK.out _ (Grows.refl _)).mono ?_)
        rintro e w1 ⟨rfl, hg1⟩
        go_wp2_with fail
        go_roundw
        case rel =>
          refine ⟨k + 1, by omega, by go_num, fun j hj => ?_, hg.trans hg1⟩
          by_cases e : j = k
          · subst e; rw [HE.out]; exact hin
          · exact HN.out j (by omega)
        case measure => simp [intOf]; omega
    · go_wp2_with fail
      go_ret
      exact ⟨.inr ⟨rfl, fun j hj => HN.out j (by omega)⟩, hg⟩

theorem flat_take (cs : List (Int × Int)) (i : Nat) : flat (cs.take i) = (flat cs).take (i * 2) := by
  induction cs generalizing i with
  | nil => simp [flat]
  | cons c cs ih =>
    cases i with
    | zero => rfl
    | succ i =>
      rw [List.take_succ_cons, flat_cons, flat_cons, ih, show (i + 1) * 2 = i * 2 + 1 + 1 from by omega]
      rfl
theorem run_clear_row {w : World} {g i c : Nat} {cs : List (Int × Int)} (h : RowC w g cs) (hi : i < cs.length) (ty : TypeId) :
    ∃ w', (Builtin.clear_ #[23] ty #[.slice (some ⟨g, i * 2, none⟩) (cs.length - i) c]).run Try.prog w = .ok (.tuple #[]) w' ∧ RowC w' g (cs.take i) ∧ Go.RowKit.Below g w w' := by
  obtain ⟨rest, h⟩ := h
  have hl := flat_length cs
  have hz : (Builtin.zeroCells #[.int .i64 0, .int .i64 0] (cs.length - i)).toList.length = (cs.length - i) * 2 := by simp [Builtin.zeroCells]
  have hone : ∀ v ∈ (Builtin.zeroCells #[.int .i64 0, .int .i64 0] (cs.length - i)).toList, v.oneCell' = true := by
    intro v hv
    simp only [Builtin.zeroCells, Array.toList_map, List.mem_map] at hv
    obtain ⟨j, _, rfl⟩ := hv
    rcases Nat.mod_two_eq_zero_or_one j with e | e <;> simp [e, Value.oneCell']
  have hst := run_storeCells_at (P := Try.prog) g (i * 2) 33 (Builtin.zeroCells #[.int .i64 0, .int .i64 0] (cs.length - i)).toList 0 _ w h (by rw [hz]; simp; omega) hone
  refine ⟨w.setRow g ((flat cs ++ rest).toArray.toList.take (i * 2 + 0) ++ (Builtin.zeroCells #[.int .i64 0, .int .i64 0] (cs.length - i)).toList ++ (flat cs ++ rest).toArray.toList.drop (i * 2 + 0 + (Builtin.zeroCells #[.int .i64 0, .int .i64 0] (cs.length - i)).toList.length)).toArray, ?_,
    ⟨(Builtin.zeroCells #[.int .i64 0, .int .i64 0] (cs.length - i)).toList ++ (flat cs ++ rest).toArray.toList.drop (i * 2 + 0 + (Builtin.zeroCells #[.int .i64 0, .int .i64 0] (cs.length - i)).toList.length), (setRow_heap w g _ _ _ _ h).trans ?_⟩, ?_⟩
  · obtain ⟨m, hm⟩ : ∃ m, cs.length - i = m + 1 := ⟨cs.length - i - 1, by omega⟩
    have hzv := fun w => Go.Proofs.Try.zeroValue33 w
    rw [hm] at hst ⊢
    simp [Builtin.clear_, run_underlying Go.Proofs.Try.underlying23, hzv, Value.cells, hst]
  · have e : flat (cs.take i) = (flat cs ++ rest).take (i * 2) := by
      rw [List.take_append_of_le_length (by omega), flat_take]
    rw [e]
    simp [List.append_assoc]
  · exact ⟨rfl, rfl, rfl, by simp, fun k hk => setRow_other w g k _ (by omega)⟩

/-- What is left of candidates. -/
def left (cs : List (Int × Int)) (xs : List Int) : List (Int × Int) := cs.filter fun c => !decide (c.1 ∈ xs)
theorem left_none (cs : List (Int × Int)) (xs : List Int) (h : ∀ j, j < cs.length → ¬ (cs.getD j (0, 0)).1 ∈ xs) : left cs xs = cs := by
  unfold left
  rw [List.filter_eq_self]
  intro c hc
  obtain ⟨j, hj, rfl⟩ := List.getElem_of_mem hc
  have := h j hj
  simpa [List.getD, hj] using this
theorem take_getD {cs : List (Int × Int)} {k : Nat} (h : k < cs.length) : cs.take (k + 1) = cs.take k ++ [cs.getD k (0, 0)] := by
  rw [List.take_succ_eq_append_getElem h]
  simp [List.getD, h]
theorem RowC.candsIn {w : World} {g : Nat} {cs : List (Int × Int)} (h : RowC w g cs) : CandsIn w w.heap.size (some ⟨g, 0, none⟩) cs := by
  intro k hk
  obtain ⟨h1, h2⟩ := h.cell hk
  exact ⟨g, 0, rfl, h.lt, by simpa using h1, by simpa using h2⟩

structure DelInv (cs : List (Int × Int)) (xs : List Int) (i j : Nat) (cur : List (Int × Int)) : Prop where
  len : cur.length = cs.length
  le : i < j
  top : j ≤ cs.length
  low : cur.take i = left (cs.take j) xs
  high : cur.drop j = cs.drop j
theorem DelInv.get {cs : List (Int × Int)} {xs : List Int} {i j : Nat} {cur : List (Int × Int)} (h : DelInv cs xs i j cur) (_hj : j < cs.length) : cur.getD j (0, 0) = cs.getD j (0, 0) := by
  have h1 := congrArg List.head? h.high
  rw [List.head?_drop, List.head?_drop] at h1
  simp [List.getD, h1]
theorem DelInv.skip {cs : List (Int × Int)} {xs : List Int} {i j : Nat} {cur : List (Int × Int)} (h : DelInv cs xs i j cur) (hj : j < cs.length) (hin : (cs.getD j (0, 0)).1 ∈ xs) : DelInv cs xs i (j + 1) cur where
  len := h.len
  le := by have := h.le; omega
  top := hj
  low := by
    rw [h.low, take_getD hj]
    simp only [left, List.filter_append, List.filter_cons, List.filter_nil]
    rw [if_neg (by simpa using hin), List.append_nil]
  high := by
    have h1 := congrArg (List.drop 1) h.high
    simpa [List.drop_drop] using h1
theorem DelInv.keep {cs : List (Int × Int)} {xs : List Int} {i j : Nat} {cur : List (Int × Int)} (h : DelInv cs xs i j cur) (hj : j < cs.length) (hin : ¬ (cs.getD j (0, 0)).1 ∈ xs) : DelInv cs xs (i + 1) (j + 1) (cur.set i (cs.getD j (0, 0))) where
  len := by simp [h.len]
  le := by have := h.le; omega
  top := hj
  low := by
    have := h.le
    have hl := h.len
    have hi : i < (cur.set i (cs.getD j (0, 0))).length := by simp; omega
    rw [take_getD hi, take_getD hj]
    simp only [left, List.filter_append, List.filter_cons, List.filter_nil]
    rw [if_pos (by simpa using hin), List.take_set_of_le (Nat.le_refl i)]
    have e : (cur.set i (cs.getD j (0, 0))).getD i (0, 0) = cs.getD j (0, 0) := by
      have : i < cur.length := by omega
      simp [List.getD, this]
    rw [e, h.low]
    rfl
  high := by
    have := h.le
    rw [List.drop_set_of_lt (by omega)]
    have h1 := congrArg (List.drop 1) h.high
    simpa [List.drop_drop] using h1
theorem DelInv.start {cs : List (Int × Int)} {xs : List Int} {i : Nat} (hi : i < cs.length) (hin : (cs.getD i (0, 0)).1 ∈ xs) (hno : ∀ j, j < i → ¬ (cs.getD j (0, 0)).1 ∈ xs) : DelInv cs xs i (i + 1) cs where
  len := rfl
  le := Nat.lt_succ_self _
  top := hi
  low := by
    rw [take_getD hi]
    simp only [left, List.filter_append, List.filter_cons, List.filter_nil]
    rw [if_neg (by simpa using hin), List.append_nil]
    symm
    rw [List.filter_eq_self]
    intro c hc
    obtain ⟨j, hj, rfl⟩ := List.getElem_of_mem hc
    have hj' : j < i := by simp at hj; omega
    have := hno j hj'
    simpa [List.getD, show j < cs.length by omega] using this
  high := rfl

set_option maxHeartbeats 1000000 in
theorem deleteFunc_none (a b : Option Addr) (c d p B : Nat) (xs : List Int) (w : World) (hp : w.cell? ⟨p, 0, none⟩ = some (.slice a xs.length c)) (h : IntsIn w B a xs) (hl : xs.length ≤ 1000000) :
    Calls Try.prog 21 #[.slice b 0 d, .func (.func 22) #[] #[.pointer (some ⟨p, 0, none⟩)]] w fun e w' =>
      e = .returned (.slice b 0 d) ∧ Grows w w' := by
  have HP := Lib.hid hp
  have H := Lib.hid h
  clear hp h
  go_enter Try.func21, Try.ntmps21
  go_wp2_with fail
  have hcon := indexFunc_any a b c d p B 0 xs [] w HP.out H.out hl (CandsIn.nil _ _ _) (by simp)
  rw [List.length_nil] at hcon
  (with_reducible refine hcon.mono ?_)
  rintro e w1 ⟨hf, hg1⟩
  rcases hf with ⟨i0, rfl, hi0, hin, hno⟩ | ⟨rfl, hno⟩
  · simp at hi0
  · go_wp2_with fail
    go_ret
    exact ⟨rfl, hg1⟩
set_option maxHeartbeats 4000000 in
theorem deleteFunc_any (a : Option Addr) (c p B g cap : Nat) (xs : List Int) (cs : List (Int × Int)) (w : World) (hp : w.cell? ⟨p, 0, none⟩ = some (.slice a xs.length c)) (hpB : p < B) (h : IntsIn w B a xs) (hl : xs.length ≤ 1000000)
    (h2 : RowC w g cs) (hBg : B ≤ g) (hcap : cs.length ≤ cap) (_hcm : cap ≤ maxLen) (hc : cs.length ≤ 1000000) :
    Calls Try.prog 21 #[.slice (some ⟨g, 0, none⟩) cs.length cap, .func (.func 22) #[] #[.pointer (some ⟨p, 0, none⟩)]] w fun e w' =>
      ∃ a' c', e = .returned (.slice a' (left cs xs).length c') ∧ CandsIn w' w'.heap.size a' (left cs xs) ∧ Below B w w' := by
  have HP := Lib.hid hp
  have H := Lib.hid h
  have HR := Lib.hid h2
  clear hp h h2
  go_enter Try.func21, Try.ntmps21
  go_wp2_with fail
  (with_reducible refine (indexFunc_any a (some ⟨g, 0, none⟩) c cap p B w.heap.size xs cs w HP.out H.out hl HR.out.candsIn hc).mono ?_)
  rintro e w1 ⟨hf, hg1⟩
  rcases hf with ⟨i0, rfl, hi0, hin, hno⟩ | ⟨rfl, hno⟩
  · have HI := Lib.hid (DelInv.start hi0 hin hno)
    clear hin hno
    have hne : ((i0 : Int) == -1) = false := by rw [beq_eq_false_iff_ne]; omega
    go_wp2_with fail
    have hgl := HR.out.lt
    have hr1 := HR.out.grows hg1
    have hb1 : Below B w w1 := hg1.below.mono (by omega)
    clear hg1
    go_loopw [5, 6] (fun t5 t6 wr => ∃ (i j : Nat) (cur : List (Int × Int)), t5 = .int .i64 i ∧ t6 = .int .i64 j ∧ DelInv cs xs i j cur ∧ RowC wr g cur ∧ Below B w wr) (fun _ t6 _ => cs.length - (intOf t6).toNat)
    case atStart => exact ⟨i0, i0 + 1, cs, rfl, by go_num, HI.out, hr1, hb1⟩
    case round =>
      obtain ⟨i, j, cur, rfl, rfl, hd, hr, hb⟩ := hrel
      have HD := Lib.hid hd
      have hij := hd.le
      have hjt := hd.top
      have hcl := hd.len
      have HL := Lib.hid hcl
      by_cases hlt : j < cs.length
      · obtain ⟨hc1, hc2⟩ := hr.cell (k := j) (by omega)
        have he := hd.get hlt
        have HRr := Lib.hid hr
        rw [he] at hc1 hc2
        clear hd he hcl hr hjt
        have hwp : p < w.heap.size := lt_of_cell HP.out
        generalize hcd : cs.getD j (0, 0) = cd at *
        obtain ⟨r, l⟩ := cd
        have HCD := Lib.hid hcd
        clear hcd
        have hcall := fun W (hW : Grows wr W) => taken_any r l a c p B xs W (hW.cell ((hb.cell hpB).trans HP.out)) ((H.out.below hb).grows hW) (by omega)
        have HK := Lib.hid hcall
        clear hcall
        by_cases hin : r ∈ xs
        · have hdec : decide (r ∈ xs) = true := by simpa using hin
          go_wp2_with fail
          (with_reducible refine (HK.out _ ((Grows.refl wr).alloc _)).mono ?_)
          rintro e w2 ⟨rfl, hg2⟩
          have hgw : Grows wr w2 := ((Grows.refl wr).alloc _).trans hg2
          have hszr : B ≤ wr.heap.size := by have := HRr.out.lt; omega
          have hb2 : Below B w w2 := hb.trans (hgw.below.mono hszr)
          clear hg2
          go_wp2_with fail
          go_roundw
          case rel => exact ⟨i, j + 1, cur, rfl, by go_num, HD.out.skip hlt (by rw [HCD.out]; exact hin), HRr.out.grows hgw, hb2⟩
          case measure => simp [intOf]; omega
        · have hdec : decide (r ∈ xs) = false := by simpa using hin
          go_wp2_with fail
          (with_reducible refine (HK.out _ ((Grows.refl wr).alloc _)).mono ?_)
          rintro e w2 ⟨rfl, hg2⟩
          have hx1 := hg2.cell (p := ⟨wr.heap.size, 0, none⟩) (v := .int .i64 r) (by go_simp)
          have hx2 := hg2.cell (p := ⟨wr.heap.size, 1, none⟩) (v := .int .i64 l) (by go_simp)
          have hgw : Grows wr w2 := ((Grows.refl wr).alloc _).trans hg2
          have hr2 := HRr.out.grows hgw
          obtain ⟨hs1, hs2⟩ := hr2.cell (k := i) (by have := HL.out; omega)
          have hf1 := hr2.frozen (i * 2)
          have hf2 := hr2.frozen (i * 2 + 1)
          have hszr : B ≤ wr.heap.size := by have := HRr.out.lt; omega
          have hb2 : Below B w w2 := hb.trans (hgw.below.mono hszr)
          have HR2 := Lib.hid hr2
          clear hg2 hr2
          go_wp2_with fail
          go_roundw
          case rel => exact ⟨i + 1, j + 1, cur.set i (r, l), by go_num, by go_num, by rw [← HCD.out]; exact HD.out.keep hlt (by rw [HCD.out]; exact hin), HR2.out.set_ r l (by have := HL.out; omega), (hb2.setCell hBg _).setCell hBg _⟩
          case measure => simp [intOf]; omega
      · have hj : j = cs.length := by omega
        have hfl : left cs xs = cur.take i := by
          rw [hd.low, hj, List.take_of_length_le (Nat.le_refl _)]
        have hlen : (left cs xs).length = i := by rw [hfl, List.length_take]; omega
        have HF := Lib.hid hfl
        have HN := Lib.hid hlen
        obtain ⟨w2, hrun, hr2, hb2⟩ := run_clear_row (c := cap - i) hr (i := i) (by omega) 0
        rw [hcl] at hrun
        have h1 : i < cs.length := by omega
        have h2 : i < cap := by omega
        have HR2 := Lib.hid hr2
        have HB2 := Lib.hid hb2
        have HB := Lib.hid hb
        clear hfl hlen hd hr hcl hr2 hb2 hb
        go_wp2_with fail
        go_ret
        have hsz := HB2.out.size
        refine ⟨some ⟨g, 0, none⟩, cap, by rw [HN.out]; rfl, ?_, HB.out.trans (HB2.out.mono hBg)⟩
        rw [HF.out]
        exact HR2.out.candsIn
  · go_wp2_with fail
    go_ret
    refine ⟨some ⟨g, 0, none⟩, cap, by rw [left_none cs xs hno]; rfl, ?_, hg1.below.mono ?_⟩
    · rw [left_none cs xs hno]
      exact (HR.out.grows hg1).candsIn
    · have := HR.out.lt; omega

set_option maxHeartbeats 1000000 in
/-- cset.Next: the candidates that were not taken, in new memory. -/
theorem next_any (a b : Option Addr) (c d : Nat) (cs : List (Int × Int)) (xs : List Int) (w : World) (B B' : Nat) (h1 : CandsIn w B b cs) (h2 : IntsIn w B' a xs) (hB : B ≤ w.heap.size) (hB' : B' ≤ w.heap.size)
    (hc : cs.length ≤ 1000000) (hx : xs.length ≤ 1000000) :
    Calls Try.prog 8 #[.slice b cs.length d, .slice a xs.length c] w fun e w' =>
      ∃ a' c', e = .returned (.slice a' (left cs xs).length c') ∧ CandsIn w' w'.heap.size a' (left cs xs) ∧ Below w.heap.size w w' := by
  have H1 := Lib.hid h1
  have H2 := Lib.hid h2
  clear h1 h2
  have hmf : ∀ (fn : Fn) (first cap : Array Value) (w : World), (Instr.makeFunc fn first cap).run Try.prog w = .ok (.func fn first cap) w := fun _ _ _ _ => rfl
  go_enter Try.func8, Try.ntmps8
  go_wp2_with fail
  have hbx : Below w.heap.size w (w.alloc (.cells #[.slice a xs.length c] 22)) := (Below.refl _ _).alloc (Nat.le_refl _) _
  (with_reducible refine (clone_cands b d cs _ B (H1.out.keep fun p hp => hbx.cell (by omega)) (by omega)).mono ?_)
  rintro e w1 ⟨v1, rfl, ho1, hb1⟩
  have hsz : w.heap.size + 1 ≤ w1.heap.size := by have := hb1.size; simpa using this
  have hp : w1.cell? ⟨w.heap.size, 0, none⟩ = some (.slice a xs.length c) := by
    rw [hb1.cell (by simp)]
    go_simp
  have hi : IntsIn w1 (w.heap.size + 1) a xs := ((H2.out.keep fun p hp => hbx.cell (by omega)).mono (by omega) : IntsIn _ (w.heap.size + 1) a xs).keep fun p hp => hb1.cell (by simpa using hp)
  have hbl : Below w.heap.size w w1 := hbx.trans (hb1.mono (by simp))
  have HP := Lib.hid hp
  have HI := Lib.hid hi
  have HB := Lib.hid hbl
  clear hp hi hbl hb1 hbx
  by_cases h0 : cs = []
  · subst h0
    have hv : ∃ a1 c1, v1 = .slice a1 0 c1 := by
      rcases ho1.2 with ⟨hv, _⟩ | ⟨g, cap, cur, hv, _⟩
      · exact ⟨_, _, hv⟩
      · exact ⟨_, _, hv⟩
    obtain ⟨a1, c1, rfl⟩ := hv
    clear ho1
    go_wp2_with fail
    (with_reducible refine (deleteFunc_none a a1 c c1 w.heap.size (w.heap.size + 1) xs w1 HP.out HI.out hx).mono ?_)
    rintro e w2 ⟨rfl, hg2⟩
    go_wp2_with fail
    go_ret
    exact ⟨a1, c1, rfl, CandsIn.nil _ _ _, HB.out.trans (hg2.below.mono (by omega))⟩
  · have hpos : 0 < cs.length := by cases cs with | nil => exact absurd rfl h0 | cons => simp
    obtain ⟨g, cap, rfl, hbg, hg, hcap⟩ := own_form ho1 hpos
    have hcm : cap ≤ maxLen := by
      rcases ho1.2 with ⟨h, _⟩ | ⟨g', cap', cur, hv, _, _, _, hm, _⟩
      · cases h
      · injection hv with _ _ e; omega
    have hr := RowC.of_own ho1
    clear ho1
    simp only [World.size_alloc] at hbg
    have HR := Lib.hid hr
    clear hr
    go_wp2_with fail
    (with_reducible refine (deleteFunc_any a c w.heap.size (w.heap.size + 1) g cap xs cs w1 HP.out (by omega) HI.out hx HR.out hbg hcap hcm hc).mono ?_)
    rintro e w2 ⟨a', c', rfl, hin, hb2⟩
    go_wp2_with fail
    go_ret
    exact ⟨a', c', rfl, hin, HB.out.trans (hb2.mono (by omega))⟩
end Go.Proofs.Ytlbdciljbmpfmaa
