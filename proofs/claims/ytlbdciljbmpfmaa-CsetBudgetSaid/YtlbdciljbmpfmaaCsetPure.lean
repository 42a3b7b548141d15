/- The plain law of layer 18 (cset): what is taken, as a function of keys; no program in sight. -/
import Derived.Lib.Hide
namespace Go.Proofs.Ytlbdciljbmpfmaa.Cs

/-- A candidate: its region and how many words of it live. -/
abbrev Cand := Int × Int
/-- What the order of candidates looks at: (live words, region). -/
abbrev Key := Int × Int
def live (c : Cand) : Int := max c.2 0
def key (c : Cand) : Key := (max c.2 0, c.1)
def kle (a b : Key) : Bool := decide (a.1 < b.1) || (decide (a.1 = b.1) && decide (a.2 ≤ b.2))
def klt (a b : Key) : Bool := decide (a.1 < b.1) || (decide (a.1 = b.1) && decide (a.2 < b.2))

theorem kle_trans (a b c : Key) : kle a b = true → kle b c = true → kle a c = true := by
  simp only [kle, Bool.or_eq_true, Bool.and_eq_true, decide_eq_true_eq]
  omega
theorem kle_total (a b : Key) : (kle a b || kle b a) = true := by
  simp only [kle, Bool.or_eq_true, Bool.and_eq_true, decide_eq_true_eq]
  omega
theorem kle_antisymm (a b : Key) : kle a b = true → kle b a = true → a = b := by
  simp only [kle, Bool.or_eq_true, Bool.and_eq_true, decide_eq_true_eq]
  intro h1 h2
  apply Prod.ext <;> omega

/-- What is taken of keys in their order: regions, as long as the budget lasts. -/
def greedy : List Key → Int → List Int
  | [], _ => []
  | k :: r, b => if k.1 > b then [] else k.2 :: greedy r (b - k.1)

/-- Two rows of the same keys, both in order, are one. -/
theorem sorted_unique : ∀ (l m : List Key), l.Perm m → l.Pairwise (fun a b => kle a b = true) → m.Pairwise (fun a b => kle a b = true) → l = m
  | [], m, hp, _, _ => by simpa using hp.length_eq.symm
  | a :: l, m, hp, h1, h2 => by
    cases m with
    | nil => simpa using hp.length_eq
    | cons b m =>
      have hab : a = b := by
        have ha : a ∈ b :: m := hp.subset (by simp)
        have hb : b ∈ a :: l := hp.symm.subset (by simp)
        rw [List.pairwise_cons] at h1 h2
        rcases List.mem_cons.1 ha with e | e
        · exact e
        rcases List.mem_cons.1 hb with e' | e'
        · exact e'.symm
        exact kle_antisymm a b (h1.1 b e') (h2.1 a e)
      subst hab
      rw [List.pairwise_cons] at h1 h2
      rw [sorted_unique l m ((List.perm_cons a).1 hp) h1.2 h2.2]

/-- The keys in their order. -/
def sortK (l : List Key) : List Key := l.mergeSort kle
theorem sortK_perm (l : List Key) : (sortK l).Perm l := List.mergeSort_perm l kle
theorem sortK_sorted (l : List Key) : (sortK l).Pairwise (fun a b => kle a b = true) :=
  List.pairwise_mergeSort kle_trans kle_total l
theorem sortK_eq {l m : List Key} (hp : m.Perm l) (hs : m.Pairwise (fun a b => kle a b = true)) : sortK l = m :=
  sorted_unique _ _ ((sortK_perm l).trans hp.symm) (sortK_sorted l) hs
theorem sortK_congr {l m : List Key} (hp : m.Perm l) : sortK l = sortK m :=
  sortK_eq ((sortK_perm m).trans hp) (sortK_sorted m)

/-- Regions that are taken of candidates. -/
def picks (list : List Cand) (budget : Int) : List Int := greedy (sortK (list.map key)) budget

/-- The answer of Choose: rising, of just these numbers. -/
def IsChoice (young : List Int) (list : List Cand) (budget : Int) (xs : List Int) : Prop :=
  xs.Pairwise (· < ·) ∧ ∀ x, x ∈ xs ↔ x ∈ young ∨ x ∈ picks list budget

/-- Two rising rows of the same numbers are one. -/
theorem rising_unique : ∀ (l m : List Int), l.Pairwise (· < ·) → m.Pairwise (· < ·) → (∀ x, x ∈ l ↔ x ∈ m) → l = m
  | [], m, _, _, h => by
    cases m with
    | nil => rfl
    | cons b m => exact absurd ((h b).2 (by simp)) (by simp)
  | a :: l, m, h1, h2, h => by
    cases m with
    | nil => exact absurd ((h a).1 (by simp)) (by simp)
    | cons b m =>
      rw [List.pairwise_cons] at h1 h2
      have hab : a = b := by
        rcases List.mem_cons.1 ((h a).1 (by simp)) with e | e
        · exact e
        rcases List.mem_cons.1 ((h b).2 (by simp)) with e' | e'
        · exact e'.symm
        have := h1.1 b e'
        have := h2.1 a e
        omega
      subst hab
      congr 1
      refine rising_unique l m h1.2 h2.2 fun x => ?_
      constructor
      · intro hx
        rcases List.mem_cons.1 ((h x).1 (by simp [hx])) with e | e
        · have := h1.1 x hx; omega
        · exact e
      · intro hx
        rcases List.mem_cons.1 ((h x).2 (by simp [hx])) with e | e
        · have := h2.1 x hx; omega
        · exact e

theorem IsChoice.unique {young : List Int} {list : List Cand} {budget : Int} {xs ys : List Int} (h : IsChoice young list budget xs) (k : IsChoice young list budget ys) : xs = ys :=
  rising_unique xs ys h.1 k.1 fun x => (h.2 x).trans (k.2 x).symm

theorem picks_perm {l m : List Cand} (hp : m.Perm l) (b : Int) : picks l b = picks m b := by
  unfold picks
  rw [sortK_congr (hp.map key)]

/-! ### Compact -/
/-- Equal neighbours once (what slices.Compact leaves). -/
def compact : List Int → List Int
  | [] => []
  | [a] => [a]
  | a :: b :: r => if a = b then compact (b :: r) else a :: compact (b :: r)

theorem mem_compact : ∀ (l : List Int) (x : Int), x ∈ compact l ↔ x ∈ l
  | [], x => by simp [compact]
  | [a], x => by simp [compact]
  | a :: b :: r, x => by
    unfold compact
    have ih := mem_compact (b :: r) x
    split
    · rename_i e; subst e; rw [ih]; simp
    · rw [List.mem_cons, ih, List.mem_cons (a := x) (b := a)]
theorem compact_rising : ∀ (l : List Int), l.Pairwise (· ≤ ·) → (compact l).Pairwise (· < ·)
  | [], _ => by simp [compact]
  | [a], _ => by simp [compact]
  | a :: b :: r, h => by
    unfold compact
    rw [List.pairwise_cons] at h
    have ih := compact_rising (b :: r) h.2
    split
    · exact ih
    · rename_i e
      rw [List.pairwise_cons]
      refine ⟨fun x hx => ?_, ih⟩
      have hx' := (mem_compact _ x).1 hx
      have h1 := h.1 x hx'
      have h2 := h.1 b (by simp)
      rw [List.pairwise_cons] at h
      rcases List.mem_cons.1 hx' with e' | e'
      · subst e'; omega
      · have := h.2.1 x e'
        omega

end Go.Proofs.Ytlbdciljbmpfmaa.Cs
