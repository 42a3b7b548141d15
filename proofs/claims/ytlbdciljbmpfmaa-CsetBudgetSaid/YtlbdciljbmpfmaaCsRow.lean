/- Rows of ints and of candidates: the library's contracts (Clone, Sort, SortFunc, Compact, Contains) in this family's words. -/
import Derived.Test.YtlbdciljbmpfmaaCsSmall
import Derived.Test.YtlbdciljbmpfmaaCsetPure
import Derived.Test.YtlbdciljbmpfmaaShelf
namespace Go.Proofs.Ytlbdciljbmpfmaa
open Go.RowKit

/-- A candidate's two cells. -/
def encC (c : Int × Int) : List Value := [.int .i64 c.1, .int .i64 c.2]
def flat (cs : List (Int × Int)) : List Value := cs.flatMap encC
theorem flat_length (cs : List (Int × Int)) : (flat cs).length = cs.length * 2 := by
  induction cs with
  | nil => rfl
  | cons c cs ih => simp only [flat, List.flatMap_cons, List.length_append, encC, List.length_cons, List.length_nil] at ih ⊢; omega
theorem flat_cons (c : Int × Int) (cs : List (Int × Int)) : flat (c :: cs) = .int .i64 c.1 :: .int .i64 c.2 :: flat cs := rfl
theorem flat_append (a b : List (Int × Int)) : flat (a ++ b) = flat a ++ flat b := by simp [flat]
theorem flat_even (cs : List (Int × Int)) (k : Nat) (h : k < cs.length) : (flat cs)[k * 2]? = some (.int .i64 (cs.getD k (0, 0)).1) ∧ (flat cs)[k * 2 + 1]? = some (.int .i64 (cs.getD k (0, 0)).2) := by
  induction cs generalizing k with
  | nil => simp at h
  | cons c cs ih =>
    rw [flat_cons]
    cases k with
    | zero => exact ⟨rfl, rfl⟩
    | succ k =>
      have := ih k (by simpa using h)
      have e1 : (k + 1) * 2 = k * 2 + 1 + 1 := by omega
      rw [e1]
      simpa using this
theorem flat_one (cs : List (Int × Int)) : ∀ u ∈ flat cs, u.oneCell' = true := by
  intro u hu
  simp only [flat, List.mem_flatMap, encC] at hu
  obtain ⟨c, _, hu⟩ := hu
  simp at hu
  rcases hu with rfl | rfl <;> rfl

/-- A slice value that reads as a list of candidates. -/
def CandsIn (w : World) (B : Nat) (a : Option Addr) (cs : List (Int × Int)) : Prop :=
  ∀ k, k < cs.length → ∃ b o, a = some ⟨b, o, none⟩ ∧ b < B ∧ w.cell? ⟨b, o + k * 2, none⟩ = some (.int .i64 (cs.getD k (0, 0)).1) ∧ w.cell? ⟨b, o + k * 2 + 1, none⟩ = some (.int .i64 (cs.getD k (0, 0)).2)
theorem CandsIn.nil (w : World) (B : Nat) (a : Option Addr) : CandsIn w B a [] := fun k h => absurd h (by simp)
theorem CandsIn.keep {w w' : World} {B : Nat} {a : Option Addr} {cs : List (Int × Int)} (h : CandsIn w B a cs) (hk : ∀ p : Addr, p.block < B → w'.cell? p = w.cell? p) : CandsIn w' B a cs := by
  intro k hlt
  obtain ⟨b, o, e, hb, hc, hd⟩ := h k hlt
  exact ⟨b, o, e, hb, (hk _ (by exact hb)).trans hc, (hk _ (by exact hb)).trans hd⟩
theorem CandsIn.below {w w' : World} {B : Nat} {a : Option Addr} {cs : List (Int × Int)} (h : CandsIn w B a cs) (hb : Below B w w') : CandsIn w' B a cs := h.keep fun _ hp => hb.cell hp
theorem CandsIn.mono {w : World} {B B' : Nat} {a : Option Addr} {cs : List (Int × Int)} (h : CandsIn w B a cs) (hB : B ≤ B') : CandsIn w B' a cs := by
  intro k hlt
  obtain ⟨b, o, e, hb, hc⟩ := h k hlt
  exact ⟨b, o, e, by omega, hc⟩
theorem CandsIn.of_own {w : World} {base n c : Nat} {e : TypeId} {a : Option Addr} {cs : List (Int × Int)} (h : w.ownsRow base e 2 (.slice a n c) n (flat cs)) : CandsIn w w.heap.size a cs ∧ cs.length = n := by
  have hl : cs.length = n := by have := h.1; rw [flat_length] at this; omega
  refine ⟨fun k hk => ?_, hl⟩
  obtain ⟨g, cap, hv, _, hlt⟩ := h.form (by omega)
  have hA : a = some ⟨g, 0, none⟩ := by injection hv
  subst hA
  obtain ⟨h1, h2⟩ := flat_even cs k hk
  have g1 := h.cells (g := g) rfl _ _ h1
  have g2 := h.cells (g := g) rfl _ _ h2
  rw [Addr.add_lit] at g1 g2
  exact ⟨g, 0, rfl, hlt, g1, g2⟩

/-- What the call owns lies below a number, and what lies below it is kept. -/
theorem ownsRow_below {w w' : World} {base size n B : Nat} {e : TypeId} {v : Value} {xs : List Value} (h : w.ownsRow base e size v n xs) (hb : Below B w w') (hv : ∀ k, v.ownBlock = some k → k < B) : w'.ownsRow base e size v n xs := by
  refine ⟨h.1, ?_⟩
  rcases h.2 with h0 | ⟨g, cap, cur, hv', hg, hh, r⟩
  · exact .inl h0
  · exact .inr ⟨g, cap, cur, hv', hg, (hb.block g (hv g (by rw [hv']; rfl))).trans hh, r⟩

theorem clone_ints (a : Option Addr) (c : Nat) (xs : List Int) (w : World) (B : Nat) (h : IntsIn w B a xs) (hl : xs.length * 8 ≤ 140737488355328) :
    Calls Try.prog 13 #[.slice a xs.length c] w fun e w' => ∃ v', e = .returned v' ∧ w'.ownsRow w.heap.size 3 1 v' xs.length (xs.map (Value.int .i64)) ∧ Below w.heap.size w w' := by
  cases a with
  | none =>
    have hx : xs = [] := by
      cases xs with
      | nil => rfl
      | cons x xs => obtain ⟨b, o, e, _⟩ := h 0 (by simp); cases e
    subst hx
    exact (Try.slices_Clone_int_nil 0 c w).mono fun e w' ⟨he, hw⟩ => ⟨_, he, by subst hw; exact World.ownsRow_nil _ _ _ _, hw ▸ Below.refl _ _⟩
  | some ad =>
    cases hx : xs with
    | nil => exact (Try.slices_Clone_int_zero ad c w).mono fun e w' ⟨v', he, ho, _, hb⟩ => ⟨v', he, ho, hb⟩
    | cons x r =>
      rw [← hx]
      obtain ⟨b, o, e, _, _⟩ := h 0 (by simp [hx])
      injection e with e
      subst e
      refine (Try.slices_Clone_int b o xs.length c xs w (Nat.le_refl _) hl fun j hj => ?_).mono fun e w' ⟨v', he, ho, _, hb⟩ => ⟨v', he, by rw [List.take_length] at ho; exact ho, hb⟩
      obtain ⟨b', o', e', _, hc⟩ := h j hj
      simp only [Option.some.injEq, Addr.mk.injEq, and_true] at e'
      obtain ⟨rfl, rfl⟩ := e'
      exact hc

theorem infoC : (Try.prog.info? 33).map (fun i => (i.zero, i.size, i.bytes)) = some (some (.agg #[.int .i64 0, .int .i64 0]), 2, 16) := by kernel_rfl
theorem flat_get (cs : List (Int × Int)) (j : Nat) (u : Value) (h : (flat cs)[j]? = some u) : ∃ k, k < cs.length ∧ ((j = k * 2 ∧ u = .int .i64 (cs.getD k (0, 0)).1) ∨ (j = k * 2 + 1 ∧ u = .int .i64 (cs.getD k (0, 0)).2)) := by
  have hj : j < cs.length * 2 := by rw [← flat_length]; exact (List.getElem?_eq_some_iff.1 h).1
  obtain ⟨h1, h2⟩ := flat_even cs (j / 2) (by omega)
  rcases Nat.mod_two_eq_zero_or_one j with e | e
  · refine ⟨j / 2, by omega, .inl ⟨by omega, ?_⟩⟩
    rw [show j / 2 * 2 = j from by omega, h] at h1
    injection h1
  · refine ⟨j / 2, by omega, .inr ⟨by omega, ?_⟩⟩
    rw [show j / 2 * 2 + 1 = j from by omega, h] at h2
    injection h2
theorem CandsIn.cells {w : World} {B b o : Nat} {cs : List (Int × Int)} (h : CandsIn w B (some ⟨b, o, none⟩) cs) (j : Nat) (u : Value) (hj : (flat cs)[j]? = some u) : w.cell? ⟨b, o + j, none⟩ = some u := by
  obtain ⟨k, hk, hh⟩ := flat_get cs j u hj
  obtain ⟨b', o', e', _, hc, hd⟩ := h k hk
  simp only [Option.some.injEq, Addr.mk.injEq, and_true] at e'
  obtain ⟨rfl, rfl⟩ := e'
  rcases hh with ⟨rfl, rfl⟩ | ⟨rfl, rfl⟩
  · exact hc
  · exact hd

theorem clone_cands (a : Option Addr) (c : Nat) (cs : List (Int × Int)) (w : World) (B : Nat) (h : CandsIn w B a cs) (hl : cs.length * 16 ≤ 140737488355328) :
    Calls Try.prog 14 #[.slice a cs.length c] w fun e w' => ∃ v', e = .returned v' ∧ w'.ownsRow w.heap.size 33 2 v' cs.length (flat cs) ∧ Below w.heap.size w w' := by
  cases a with
  | none =>
    have hx : cs = [] := by
      cases cs with
      | nil => rfl
      | cons x xs => obtain ⟨b, o, e, _⟩ := h 0 (by simp); cases e
    subst hx
    exact (AnyE.slices_Clone_nil Try.cloneC 0 c w).mono fun e w' ⟨he, hw⟩ => ⟨_, he, by subst hw; exact World.ownsRow_nil _ _ _ _, hw ▸ Below.refl _ _⟩
  | some ad =>
    obtain ⟨i0, hi, hz0, hz1, hz2⟩ := info_parts infoC
    by_cases hx : cs = []
    · subst hx
      have q : ∀ (w : World) (a : Option Addr) (n c n' c' : Nat), (binOp .eql 23 (.slice a n c) (.slice none n' c')).run Try.prog w = .ok (.bool a.isNone) w := fun w a n c n' c' => Lib.run_eql_slice_nil w _ _ a n c n' c' Go.Proofs.Try.underlying23
      show Calls _ _ #[.slice (some ad) 0 c] _ _
      go_enter Try.func14, Try.ntmps14
      go_wp2_with (at_builtin; refine wpList_append_own _ rfl _ _ 23 rfl w.heap.size 33 i0 (.agg #[.int .i64 0, .int .i64 0]) 2 16 Go.Proofs.Try.underlying23 hi hz0 hz1 hz2 rfl (by decide) _ _ _ rfl (World.ownsRow_made w #[] 0 (Nat.le_refl _) (Nat.zero_le _) rfl) ad 0 c [] rfl rfl (by intro j u hj; simp at hj) (by intro u hu; cases hu) (by unfold maxLen; omega) (by omega) (by simp) ?_)
      intro v' w1 hown hgrow hnil
      go_wp2
      go_ret
      refine ⟨v', rfl, by simpa [flat] using hown, ?_⟩
      exact ((Below.refl _ w).alloc (Nat.le_refl _) _).grown hgrow (by simp) (by intro k hk; simp [Value.ownBlock] at hk; omega)
    · have h0 : 0 < cs.length := by cases cs with | nil => exact absurd rfl hx | cons => simp
      obtain ⟨b, o, e, _, _⟩ := h 0 h0
      injection e with e
      subst e
      refine (AnyE.slices_Clone Try.cloneC i0 _ 2 16 hi hz0 hz1 hz2 rfl (by decide) Go.Proofs.Try.sizeOf33 b o cs.length c (flat cs) w (flat_length cs) (by unfold maxLen; omega) hl (fun j u hj => ?_) (flat_one cs)).mono fun e w' ⟨v', he, ho, _, hb⟩ => ⟨v', he, ho, hb⟩
      exact h.cells j u hj

open Go.Sort Go.Shelf

/-- A row that the call owns, its cells known and not frozen (what the library's sort asks). -/
theorem holds_of_own {w : World} {base n cap g : Nat} {e : TypeId} {zs : List Int} (h : w.ownsRow base e 1 (.slice (some ⟨g, 0, none⟩) n cap) n (zs.map (Value.int .i64))) :
    Holds (Value.int .i64) w g 0 zs.toArray := by
  intro j hj
  have hj' : j < zs.length := by simpa using hj
  have hc := h.cells (g := g) rfl j (.int .i64 (zs.getD j 0)) (by simp [List.getD, hj'])
  rw [Addr.add_lit] at hc
  refine ⟨by rw [hc]; simp [List.getD, hj'], ?_⟩
  rcases h.2 with ⟨h0, _⟩ | ⟨g', cap', cur, hv, _, hh, _⟩
  · cases h0
  · injection hv with e1 e2 e3
    simp only [Option.some.injEq, Addr.mk.injEq, and_true] at e1
    subst e1
    simp [World.frozen?, hh]
theorem own_form {w : World} {base n size : Nat} {e : TypeId} {v : Value} {xs : List Value} (h : w.ownsRow base e size v n xs) (hn : 0 < n) : ∃ g cap, v = .slice (some ⟨g, 0, none⟩) n cap ∧ base ≤ g ∧ g < w.heap.size ∧ n ≤ cap := by
  rcases h.2 with ⟨_, h0⟩ | ⟨g, cap, cur, hv, hb, hh, hc, _⟩
  · omega
  · exact ⟨g, cap, hv, hb, (Array.getElem?_eq_some_iff.1 hh).1, hc⟩

/-- slices.Sort over a row that the call owns: the row is in order. -/
theorem sort_ints (base n : Nat) (e0 : TypeId) (v : Value) (zs : List Int) (w : World) (h : w.ownsRow base e0 1 v n (zs.map (Value.int .i64))) (hl : zs.length < 4611686018427387904) :
    Calls Try.prog 19 #[v] w fun e w' => e = .returned (.tuple #[]) ∧ Below base w w' ∧
      (zs = [] → w = w') ∧ (0 < zs.length → ∃ g cap, v = .slice (some ⟨g, 0, none⟩) zs.length cap ∧ base ≤ g ∧ g < w'.heap.size ∧ zs.length ≤ cap ∧ Holds (Value.int .i64) w' g 0 (zs.mergeSort fun x y => decide (x ≤ y)).toArray) := by
  have hn : zs.length = n := by have := h.1; simpa using this
  by_cases h0 : n = 0
  · have hz : zs = [] := by cases zs with | nil => rfl | cons => simp at hn; omega
    subst hz
    have hv : ∃ a c, v = .slice a 0 c := by
      rcases h.2 with ⟨hv, _⟩ | ⟨g, cap, cur, hv, _⟩
      · exact ⟨_, _, hv⟩
      · exact ⟨_, _, by rw [hv, h0]⟩
    obtain ⟨a, c, rfl⟩ := hv
    exact (Try.slices_Sort_int_none a c w).mono fun e w' ⟨he, hw⟩ => ⟨he, hw ▸ Below.refl _ _, fun _ => hw.symm, fun hh => absurd hh (by simp)⟩
  · obtain ⟨g, cap, rfl, hb, hg, hc⟩ := own_form h (by omega)
    rw [← hn] at h ⊢
    have hH := holds_of_own h
    refine (Try.slices_Sort_int g 0 cap zs w hH hg hl).mono ?_
    rintro e w' ⟨he, m, os, rfl⟩
    have hp : (zs.mergeSort fun x y => decide (x ≤ y)).toArray.size = zs.toArray.size := by simp [(List.mergeSort_perm zs fun x y => decide (x ≤ y)).length_eq]
    refine ⟨he, ?_, fun hz => absurd hz (by intro hz; subst hz; simp at hn; omega), fun _ => ⟨g, cap, rfl, hb, ?_, by omega, ?_⟩⟩
    · refine ⟨rfl, rfl, rfl, by simp, fun k hk => ?_⟩
      show ((putRow (Value.int .i64) (Sort.ahead w m) g 0 _).heap ++ os)[k]? = _
      rw [Array.getElem?_append_left (by simp; omega)]
      simp only [putRow, mapBlock, Array.getElem?_modify]
      rw [if_neg (by omega)]
      rfl
    · simp; omega
    · refine holds_grow _ _ _ _ _ _ (by simpa using hg) ?_
      exact holds_putRow _ _ _ _ _ _ (holds_ahead _ _ _ _ _ _ hH) hp

/-- What slices.Compact leaves of a row in order: rising, the same numbers. -/
theorem compactUpTo_rising (d : Array Int) (hd : ∀ i j, i < j → j < d.size → d[i]! ≤ d[j]!) (m : Nat) (hm : m ≤ d.size) :
    (Lib.compactUpTo d m).Pairwise (· < ·) ∧ (∀ x, x ∈ Lib.compactUpTo d m ↔ ∃ j, j < m ∧ d[j]! = x) := by
  induction m with
  | zero => exact ⟨by simp [Lib.compactUpTo], fun x => by simp [Lib.compactUpTo]⟩
  | succ m ih =>
    obtain ⟨h1, h2⟩ := ih (by omega)
    rw [Lib.compactUpTo_succ]
    by_cases hk : Lib.keeps d m = true
    · rw [if_pos hk]
      have hk' : m = 0 ∨ d[m]! ≠ d[m - 1]! := by simpa [Lib.keeps] using hk
      constructor
      · rw [List.pairwise_append]
        refine ⟨h1, by simp, fun x hx y hy => ?_⟩
        simp only [List.mem_singleton] at hy
        subst hy
        obtain ⟨j, hj, rfl⟩ := (h2 x).1 hx
        rcases hk' with h0 | hne
        · omega
        · have ha := hd (m - 1) m (by omega) (by omega)
          have hb : d[j]! ≤ d[m - 1]! := by
            by_cases e : j = m - 1
            · subst e; exact Int.le_refl _
            · exact hd j (m - 1) (by omega) (by omega)
          omega
      · intro x
        rw [List.mem_append, h2, List.mem_singleton]
        constructor
        · rintro (⟨j, hj, rfl⟩ | rfl)
          · exact ⟨j, by omega, rfl⟩
          · exact ⟨m, by omega, rfl⟩
        · rintro ⟨j, hj, rfl⟩
          by_cases e : j = m
          · subst e; exact .inr rfl
          · exact .inl ⟨j, by omega, rfl⟩
    · rw [if_neg hk, List.append_nil]
      have hk' : m ≠ 0 ∧ d[m]! = d[m - 1]! := by
        have : ¬ (m = 0 ∨ d[m]! ≠ d[m - 1]!) := by simpa [Lib.keeps] using hk
        refine ⟨fun e => this (.inl e), ?_⟩
        exact Classical.byContradiction fun e => this (.inr e)
      refine ⟨h1, fun x => ?_⟩
      rw [h2]
      constructor
      · rintro ⟨j, hj, rfl⟩; exact ⟨j, by omega, rfl⟩
      · rintro ⟨j, hj, rfl⟩
        by_cases e : j = m
        · subst e; exact ⟨j - 1, by omega, hk'.2.symm⟩
        · exact ⟨j, by omega, rfl⟩
theorem compact_of_sorted (zs : List Int) (hs : zs.Pairwise (· ≤ ·)) : (Lib.compact zs).Pairwise (· < ·) ∧ (∀ x, x ∈ Lib.compact zs ↔ x ∈ zs) := by
  have hd : ∀ i j, i < j → j < zs.toArray.size → zs.toArray[i]! ≤ zs.toArray[j]! := by
    intro i j hij hj
    have hj' : j < zs.length := by simpa using hj
    have := List.pairwise_iff_getElem.1 hs i j (by omega) hj' hij
    simpa [getElem!_pos, show i < zs.length by omega, hj'] using this
  obtain ⟨h1, h2⟩ := compactUpTo_rising zs.toArray hd zs.length (by simp)
  refine ⟨h1, fun x => (h2 x).trans ?_⟩
  rw [List.mem_iff_getElem]
  constructor
  · rintro ⟨j, hj, rfl⟩
    exact ⟨j, hj, by simp [hj]⟩
  · rintro ⟨j, hj, rfl⟩
    exact ⟨j, hj, by simp [hj]⟩

/-- A rising row of the call's own, as Choose hands it back. -/
def OwnI (w : World) (B : Nat) (v : Value) (xs : List Int) : Prop :=
  ∃ a c, v = .slice a xs.length c ∧ xs.length ≤ c ∧ (0 < xs.length → ∃ g, a = some ⟨g, 0, none⟩ ∧ B ≤ g ∧ g < w.heap.size ∧ Holds (Value.int .i64) w g 0 xs.toArray)

theorem holds_take {w : World} {g : Nat} {xs ys : List Int} (h : Holds (Value.int .i64) w g 0 (xs ++ ys).toArray) : Holds (Value.int .i64) w g 0 xs.toArray := by
  intro j hj
  have hj' : j < xs.length := by simpa using hj
  have := h j (by simp; omega)
  have e : (xs ++ ys).toArray[j]! = xs.toArray[j]! := by simp [hj', List.getElem?_append_left]
  rwa [e] at this

theorem compact_ints (B g cap : Nat) (zs : List Int) (w : World) (hg : g < w.heap.size) (hB : B ≤ g) (hcap : zs.length ≤ cap) (hl : zs.length ≤ 4611686018427387904) (hH : Holds (Value.int .i64) w g 0 zs.toArray) :
    Calls Try.prog 20 #[.slice (some ⟨g, 0, none⟩) zs.length cap] w fun e w' => ∃ v', e = .returned v' ∧ OwnI w' B v' (Lib.compact zs) ∧ Below B w w' := by
  refine (Try.slices_Compact_int g 0 cap zs w hH (by omega) hcap).mono ?_
  rintro e w' ⟨he, q, rfl⟩
  have hle : (Lib.compact zs).length ≤ zs.length := by
    have h := List.length_filter_le (Lib.keeps zs.toArray) (List.range zs.length)
    rw [List.length_range] at h
    simp only [Lib.compact, Lib.compactUpTo, List.length_map]
    exact h
  refine ⟨_, he, ⟨_, _, rfl, by omega, fun _ => ⟨g, rfl, hB, by simpa using hg, ?_⟩⟩, ?_⟩
  · refine holds_take (ys := List.replicate (zs.length - (Lib.compact zs).length) 0) ?_
    exact holds_putRow _ _ _ _ _ _ (holds_ahead _ _ _ _ _ _ hH) (by simp; omega)
  · refine ⟨rfl, rfl, rfl, by simp, fun k hk => ?_⟩
    simp only [putRow, mapBlock, Array.getElem?_modify]
    rw [if_neg (by omega)]
    rfl

theorem contains_ints (a : Option Addr) (c : Nat) (xs : List Int) (x : Int) (w : World) (B : Nat) (h : IntsIn w B a xs) (hl : xs.length ≤ 4611686018427387904) :
    Calls Try.prog 23 #[.slice a xs.length c, .int .i64 x] w fun e w' => e = .returned (.bool (decide (x ∈ xs))) ∧ w = w' := by
  cases hx : xs with
  | nil => exact (Try.slices_Contains_int_empty a c x w).mono fun e w' ⟨he, hw⟩ => ⟨by simpa using he, hw.symm⟩
  | cons y r =>
    rw [← hx]
    obtain ⟨b, o, rfl, _, _⟩ := h 0 (by simp [hx])
    refine (Try.slices_Contains_int b o xs.length c xs x w (Nat.le_refl _) (by omega) fun j hj => ?_).mono fun e w' ⟨he, hw⟩ => ⟨by simpa [List.take_length] using he, hw.symm⟩
    obtain ⟨b', o', e', _, hc⟩ := h j hj
    simp only [Option.some.injEq, Addr.mk.injEq, and_true] at e'
    obtain ⟨rfl, rfl⟩ := e'
    exact hc

open Cs in
theorem cmpC_lt (x y : Int × Int) : ltOf cmpC x y = klt (key x) (key y) := by
  unfold ltOf cmpC orI cmpI klt key
  obtain ⟨a, b⟩ := x
  obtain ⟨c, d⟩ := y
  simp only
  rw [Bool.eq_iff_iff]
  simp only [Bool.or_eq_true, Bool.and_eq_true, decide_eq_true_eq]
  repeat' split
  all_goals omega
open Cs in
theorem swoC : SWO (ltOf cmpC) where
  irrefl x := by rw [cmpC_lt]; simp [klt]
  trans x y z h1 h2 := by
    rw [cmpC_lt] at *
    simp only [klt, Bool.or_eq_true, Bool.and_eq_true, decide_eq_true_eq] at *
    omega
  ntrans x y z h1 h2 := by
    rw [cmpC_lt] at *
    simp only [klt, Bool.or_eq_false_iff, Bool.and_eq_false_iff, decide_eq_false_iff_not] at *
    omega
theorem cmpLaysC (blk off size : Nat) (w : World) : CmpLays Try.prog 16 #[] encC 2 cmpC blk off size w :=
  fun _ _ _ _ x y => cmp_any x.1 x.2 y.1 y.2 _

theorem flatK_flat (cs : List (Int × Int)) : flatK encC 2 cs.toArray = (flat cs).toArray := by
  apply Array.ext
  · simp [flat_length]
  · intro j h1 h2
    have hj : j < cs.length * 2 := by simpa using h1
    have hg := get_flatK encC 2 cs.toArray j (by simpa using hj)
    rw [getElem!_pos _ j h1] at hg
    rw [hg]
    obtain ⟨e1, e2⟩ := flat_even cs (j / 2) (by omega)
    have hq : (cs.toArray[j / 2]!) = cs.getD (j / 2) (0, 0) := by
      have : j / 2 < cs.length := by omega
      simp [this]
    rw [hq]
    rcases Nat.mod_two_eq_zero_or_one j with e | e
    · rw [show j / 2 * 2 = j from by omega] at e1
      rw [e]
      have := (List.getElem?_eq_some_iff.1 e1).2
      simp only [List.getElem_toArray]
      rw [this]; rfl
    · rw [show j / 2 * 2 + 1 = j from by omega] at e2
      rw [e]
      have := (List.getElem?_eq_some_iff.1 e2).2
      simp only [List.getElem_toArray]
      rw [this]; rfl

theorem holdsK_of_own {w : World} {base n cap g : Nat} {e : TypeId} {cs : List (Int × Int)} (h : w.ownsRow base e 2 (.slice (some ⟨g, 0, none⟩) n cap) n (flat cs)) :
    HoldsK encC 2 w g 0 cs.toArray := by
  unfold HoldsK
  rw [flatK_flat]
  intro j hj
  have hj' : j < (flat cs).length := by simpa using hj
  have hc := h.cells (g := g) rfl j ((flat cs)[j]) (by simp [hj'])
  rw [Addr.add_lit] at hc
  refine ⟨by rw [hc]; simp [hj'], ?_⟩
  rcases h.2 with ⟨h0, _⟩ | ⟨g', cap', cur, hv, _, hh, _⟩
  · cases h0
  · injection hv with e1 e2 e3
    simp only [Option.some.injEq, Addr.mk.injEq, and_true] at e1
    subst e1
    simp [World.frozen?, hh]

theorem candsIn_of_holds {w : World} {g : Nat} {cs : List (Int × Int)} (hg : g < w.heap.size) (h : HoldsK encC 2 w g 0 cs.toArray) : CandsIn w w.heap.size (some ⟨g, 0, none⟩) cs := by
  intro k hk
  have h1 := (h.cell (i := k) (c := 0) (by simpa using hk) (by omega)).1
  have h2 := (h.cell (i := k) (c := 1) (by simpa using hk) (by omega)).1
  have hq : (cs.toArray[k]!) = cs.getD k (0, 0) := by simp [hk]
  rw [hq] at h1 h2
  exact ⟨g, 0, rfl, hg, h1, h2⟩

open Cs in
/-- slices.SortFunc over a row of candidates that the call owns: a permutation, in the order of the keys. -/
theorem sort_cands (base n : Nat) (e0 : TypeId) (v : Value) (cs : List (Int × Int)) (w : World) (h : w.ownsRow base e0 2 v n (flat cs)) (hl : cs.length < 4611686018427387904) :
    Calls Try.prog 15 #[v, .func (.func 16) #[] #[]] w fun e w' => e = .returned (.tuple #[]) ∧ Below base w w' ∧
      ∃ a cap cs', v = .slice a cs.length cap ∧ cs'.Perm cs ∧ (cs'.map key).Pairwise (fun a b => kle a b = true) ∧ CandsIn w' w'.heap.size a cs' ∧ (∀ g, v.ownBlock = some g → base ≤ g) := by
  have hn : cs.length = n := by have := h.1; rw [flat_length] at this; omega
  by_cases h0 : n = 0
  · have hz : cs = [] := by cases cs with | nil => rfl | cons => simp at hn; omega
    subst hz
    have hv : ∃ a c, v = .slice a 0 c ∧ (∀ g, v.ownBlock = some g → base ≤ g) := by
      rcases h.2 with ⟨hv, _⟩ | ⟨g, cap, cur, hv, hb, _⟩
      · exact ⟨_, _, hv, by subst hv; intro g hg; cases hg⟩
      · exact ⟨_, _, by rw [hv, h0], by subst hv; intro g hg; simp [Value.ownBlock] at hg; omega⟩
    obtain ⟨a, c, rfl, hb⟩ := hv
    exact (AnyF.slices_SortFunc_none Try.sortC a c _ w).mono fun e w' ⟨he, hw⟩ => ⟨he, hw ▸ Below.refl _ _, a, c, [], rfl, List.Perm.refl _, by simp, CandsIn.nil _ _ _, hb⟩
  · obtain ⟨g, cap, rfl, hb, hg, hc⟩ := own_form h (by omega)
    rw [← hn] at h ⊢
    have hH := holdsK_of_own h
    have eg : ∀ args w, (callFunc 16 args).run Try.prog w = .ok (.enter 16 args) w := enters_of Go.Proofs.Try.func16 (by kernel_rfl) rfl
    have hs : cs.toArray.size = cs.length := by simp
    have hcon := AnyQ.slices_SortFunc Try.sortC 2 Go.Proofs.Try.isAgg33 Go.Proofs.Try.sizeOf33 encC (fun _ => rfl) (fun x v hv => by simp [encC] at hv; rcases hv with rfl | rfl <;> rfl) cmpC swoC 16 #[] g 0 cap cs.toArray w eg (cmpLaysC g 0 cs.toArray.size w) hH hg (by simpa using hl)
    rw [hs] at hcon
    refine hcon.mono ?_
    rintro e w' ⟨he, d', m, os, hp, hso, rfl⟩
    have hsz : d'.size = cs.length := by simpa using hp.1
    have hperm : d'.toList.Perm cs := by
      have h3 := hp.2.2
      rw [← hsz, Array.extract_size] at h3
      rw [hsz, ← hs, Array.extract_size] at h3
      exact h3
    refine ⟨he, ?_, some ⟨g, 0, none⟩, cap, d'.toList, rfl, hperm, ?_, ?_, fun k hk => by simp [Value.ownBlock] at hk; omega⟩
    · refine ⟨rfl, rfl, rfl, by simp [sortWorldK, putRowK], fun k hk => ?_⟩
      show ((putRowK encC 2 (Sort.ahead w m) g 0 d').heap ++ os)[k]? = _
      rw [Array.getElem?_append_left (by simp [putRowK]; omega)]
      simp only [putRowK, putRow, mapBlock, Array.getElem?_modify]
      rw [if_neg (by omega)]
      rfl
    · rw [List.pairwise_map, List.pairwise_iff_getElem]
      intro i j hi hj hij
      have := hso i j (Nat.zero_le _) hij (by simp at hj; omega)
      rw [cmpC_lt] at this
      have e1 : d'[i]! = d'.toList[i] := by simp at hi; simp [hi]
      have e2 : d'[j]! = d'.toList[j] := by simp at hj; simp [hj]
      rw [e1, e2] at this
      simp only [klt, kle, Bool.or_eq_false_iff, Bool.and_eq_false_iff, decide_eq_false_iff_not, Bool.or_eq_true, Bool.and_eq_true, decide_eq_true_eq] at this ⊢
      omega
    · refine candsIn_of_holds (by simp [sortWorldK, putRowK]; omega) ?_
      exact holdsK_sortWorldK_c encC 2 w g 0 cs.toArray d'.toList.toArray m os hH hg (by simpa using hsz)
end Go.Proofs.Ytlbdciljbmpfmaa
