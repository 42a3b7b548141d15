/- The plain law of the budget: what is taken lies within it, is cheaper than what isn't, and more of it would be too much. -/
import Derived.Test.YtlbdciljbmpfmaaCsetPure
namespace Go.Proofs.Ytlbdciljbmpfmaa.Cs

def total : List Int → Int
  | [] => 0
  | x :: r => x + total r
theorem total_append (a b : List Int) : total (a ++ b) = total a + total b := by
  induction a with
  | nil => simp [total]
  | cons x a ih => simp only [List.cons_append, total, ih]; omega
theorem total_perm {a b : List Int} (h : a.Perm b) : total a = total b := by
  induction h with
  | nil => rfl
  | cons x _ ih => simp only [total, ih]
  | swap x y l => simp only [total]; omega
  | trans _ _ ih1 ih2 => exact ih1.trans ih2

theorem greedy_split : ∀ (ks : List Key) (b : Int), ks.Pairwise (fun a b => kle a b = true) → (∀ k, k ∈ ks → 0 ≤ k.1) →
    ∃ t r, ks = t ++ r ∧ greedy ks b = t.map (·.2) ∧ (t = [] ∨ total (t.map (·.1)) ≤ b) ∧ ∀ k, k ∈ r → b < total (t.map (·.1)) + k.1
  | [], b, _, _ => ⟨[], [], rfl, rfl, .inl rfl, fun k hk => by cases hk⟩
  | k :: ks, b, hs, hp => by
    rw [List.pairwise_cons] at hs
    by_cases h : k.1 > b
    · refine ⟨[], k :: ks, rfl, by rw [greedy, if_pos h]; rfl, .inl rfl, fun q hq => ?_⟩
      simp only [List.map_nil, total]
      rcases List.mem_cons.1 hq with rfl | hq
      · omega
      · have := hs.1 q hq
        simp only [kle, Bool.or_eq_true, Bool.and_eq_true, decide_eq_true_eq] at this
        omega
    · obtain ⟨t, r, h1, h2, h3, h4⟩ := greedy_split ks (b - k.1) hs.2 fun q hq => hp q (by simp [hq])
      refine ⟨k :: t, r, by rw [h1]; rfl, by rw [greedy, if_neg h, h2]; rfl, .inr ?_, fun q hq => ?_⟩
      · simp only [List.map_cons, total]
        rcases h3 with rfl | h3
        · simp [total]; omega
        · omega
      · have := h4 q hq
        simp only [List.map_cons, total]
        omega

/-- The candidates of a list of lives: each with its place. -/
def enum (lv : List Int) : List Cand := (List.range lv.length).map fun (i : Nat) => ((i : Int), lv.getD i 0)

theorem nodup_perm : ∀ (l m : List Int), l.Nodup → m.Nodup → (∀ x, x ∈ l ↔ x ∈ m) → l.Perm m
  | [], m, _, _, h => by
    cases m with
    | nil => exact List.Perm.refl _
    | cons b m => exact absurd ((h b).2 (by simp)) (by simp)
  | a :: l, m, h1, h2, h => by
    have ha : a ∈ m := (h a).1 (by simp)
    rw [List.nodup_cons] at h1
    have hp := List.perm_cons_erase ha
    refine (List.Perm.cons a (nodup_perm l (m.erase a) h1.2 (h2.erase a) fun x => ?_)).trans hp.symm
    rw [h2.mem_erase_iff]
    constructor
    · intro hx
      exact ⟨fun e => h1.1 (e ▸ hx), (h x).1 (by simp [hx])⟩
    · rintro ⟨hne, hx⟩
      rcases List.mem_cons.1 ((h x).2 hx) with e | e
      · exact absurd e hne
      · exact e

theorem budget_law (lv : List Int) (hlv : ∀ x, x ∈ lv → 0 ≤ x) (b : Int) (zs : List Int) (h : IsChoice [] (enum lv) b zs) :
    (∀ z, z ∈ zs → 0 ≤ z ∧ z < lv.length) ∧ (zs = [] ∨ total (zs.map fun z => lv.getD z.toNat 0) ≤ b) ∧
    (∀ i : Nat, i < lv.length → ¬ (i : Int) ∈ zs → (∀ z, z ∈ zs → lv.getD z.toNat 0 ≤ lv.getD i 0) ∧ b < total (zs.map fun z => lv.getD z.toNat 0) + lv.getD i 0) := by
  have hlv' : ∀ i, 0 ≤ lv.getD i 0 := by
    intro i
    by_cases hi : i < lv.length
    · simp only [List.getD, List.getElem?_eq_getElem hi, Option.getD_some]
      exact hlv _ (List.getElem_mem hi)
    · simp [List.getD, List.getElem?_eq_none (by omega : lv.length ≤ i)]
  have hperm := sortK_perm ((enum lv).map key)
  have hsort := sortK_sorted ((enum lv).map key)
  have hmem : ∀ k, k ∈ sortK ((enum lv).map key) ↔ ∃ i : Nat, i < lv.length ∧ k = (lv.getD i 0, (i : Int)) := by
    intro k
    rw [hperm.mem_iff]
    simp only [enum, List.map_map, List.mem_map, List.mem_range, Function.comp]
    constructor
    · rintro ⟨i, hi, rfl⟩
      refine ⟨i, hi, ?_⟩
      have := hlv' i
      simp only [key, Prod.mk.injEq, and_true]
      omega
    · rintro ⟨i, hi, rfl⟩
      refine ⟨i, hi, ?_⟩
      have := hlv' i
      simp only [key, Prod.mk.injEq, and_true]
      omega
  have hnd : ((sortK ((enum lv).map key)).map (·.2)).Nodup := by
    have hp2 := hperm.map (fun k : Key => k.2)
    rw [hp2.nodup_iff]
    simp only [enum, List.map_map]
    have : (List.range lv.length).map ((fun k : Key => k.2) ∘ key ∘ fun (i : Nat) => ((i : Int), lv.getD i 0)) = (List.range lv.length).map (fun i : Nat => (i : Int)) := by
      apply List.map_congr_left
      intro i _
      rfl
    rw [this]
    exact List.Pairwise.map _ (fun a b hab e => hab (by omega)) List.nodup_range
  obtain ⟨t, r, e1, e2, e3, e4⟩ := greedy_split (sortK ((enum lv).map key)) b hsort fun k hk => by
    obtain ⟨i, _, rfl⟩ := (hmem k).1 hk
    exact hlv' i
  have hzm : ∀ z, z ∈ zs ↔ z ∈ t.map (·.2) := by
    intro z
    rw [h.2 z, picks, e2]
    simp
  have hkt : ∀ k, k ∈ t → k ∈ sortK ((enum lv).map key) := fun k hk => by rw [e1]; exact List.mem_append_left _ hk
  have htnd : (t.map (·.2)).Nodup := by
    rw [e1, List.map_append, List.nodup_append] at hnd
    exact hnd.1
  have hznd : zs.Nodup := h.1.imp fun hlt e => by omega
  have hzp := nodup_perm zs (t.map (·.2)) hznd htnd hzm
  have hsum : total (zs.map fun z => lv.getD z.toNat 0) = total (t.map (·.1)) := by
    rw [total_perm (hzp.map fun z => lv.getD z.toNat 0), List.map_map]
    congr 1
    apply List.map_congr_left
    intro k hk
    obtain ⟨i, _, rfl⟩ := (hmem k).1 (hkt k hk)
    simp
  rw [hsum]
  refine ⟨fun z hz => ?_, ?_, fun i hi hni => ?_⟩
  · obtain ⟨k, hk, rfl⟩ := List.mem_map.1 ((hzm z).1 hz)
    obtain ⟨i, hi, rfl⟩ := (hmem k).1 (hkt k hk)
    exact ⟨by simp, by simpa using hi⟩
  · rcases e3 with rfl | e3
    · left
      cases zs with
      | nil => rfl
      | cons z zs => exact absurd ((hzm z).1 (by simp)) (by simp)
    · exact .inr e3
  · have hin : (lv.getD i 0, (i : Int)) ∈ t ++ r := by rw [← e1]; exact (hmem _).2 ⟨i, hi, rfl⟩
    have hr : (lv.getD i 0, (i : Int)) ∈ r := by
      rcases List.mem_append.1 hin with hh | hh
      · exact absurd ((hzm _).2 (List.mem_map.2 ⟨_, hh, rfl⟩)) hni
      · exact hh
    refine ⟨fun z hz => ?_, e4 _ hr⟩
    obtain ⟨k, hk, rfl⟩ := List.mem_map.1 ((hzm z).1 hz)
    obtain ⟨j, hj, rfl⟩ := (hmem k).1 (hkt k hk)
    rw [e1, List.pairwise_append] at hsort
    have := hsort.2.2 _ hk _ hr
    simp only [kle, Bool.or_eq_true, Bool.and_eq_true, decide_eq_true_eq] at this
    simp only [Int.toNat_natCast]
    omega
end Go.Proofs.Ytlbdciljbmpfmaa.Cs
