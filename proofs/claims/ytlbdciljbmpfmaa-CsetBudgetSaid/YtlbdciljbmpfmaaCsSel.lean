/- The plain law of a selection by the least candidate each time; no program in sight. -/
import Derived.Test.YtlbdciljbmpfmaaCsetPure
namespace Go.Proofs.Ytlbdciljbmpfmaa.Cs

theorem sortK_min {m : Key} {r l : List Key} (hp : (m :: r).Perm l) (hmin : ∀ x, x ∈ r → kle m x = true) : sortK l = m :: sortK r := by
  refine sortK_eq ((List.Perm.cons m (sortK_perm r)).trans hp) ?_
  rw [List.pairwise_cons]
  exact ⟨fun x hx => hmin x ((sortK_perm r).mem_iff.1 hx), sortK_sorted r⟩

/-- The keys of the candidates that aren't done. -/
def rem : List Cand → List Bool → List Key
  | c :: cs, d :: ds => if d then rem cs ds else key c :: rem cs ds
  | _, _ => []
theorem rem_all (cs : List Cand) : rem cs (List.replicate cs.length false) = cs.map key := by
  induction cs with
  | nil => rfl
  | cons c cs ih => simp only [List.length_cons, List.replicate_succ, rem, List.map_cons, ih]; rfl
theorem rem_set (cs : List Cand) (ds : List Bool) (k : Nat) (hk : k < cs.length) (hl : ds.length = cs.length) (hd : ds.getD k false = false) :
    (key (cs.getD k (0, 0)) :: rem cs (ds.set k true)).Perm (rem cs ds) := by
  induction cs generalizing ds k with
  | nil => simp at hk
  | cons c cs ih =>
    cases ds with
    | nil => simp at hl
    | cons d ds =>
      cases k with
      | zero =>
        have : d = false := by simpa using hd
        subst this
        exact List.Perm.refl _
      | succ k =>
        have := ih ds k (by simpa using hk) (by simpa using hl) (by simpa using hd)
        simp only [List.set_cons_succ, rem]
        cases d with
        | true => simpa using this
        | false =>
          simp only [Bool.false_eq_true, if_false]
          refine (List.Perm.swap _ _ _).trans (List.Perm.cons _ ?_)
          simpa using this
theorem mem_rem (cs : List Cand) (ds : List Bool) (hl : ds.length = cs.length) (x : Key) : x ∈ rem cs ds ↔ ∃ j, j < cs.length ∧ ds.getD j false = false ∧ key (cs.getD j (0, 0)) = x := by
  induction cs generalizing ds with
  | nil => simp [rem]
  | cons c cs ih =>
    cases ds with
    | nil => simp at hl
    | cons d ds =>
      have hi := ih ds (by simpa using hl)
      have split : (∃ j, j < (c :: cs).length ∧ (d :: ds).getD j false = false ∧ key ((c :: cs).getD j (0, 0)) = x) ↔ (d = false ∧ key c = x) ∨ (∃ j, j < cs.length ∧ ds.getD j false = false ∧ key (cs.getD j (0, 0)) = x) := by
        constructor
        · rintro ⟨j, hj, h1, h2⟩
          cases j with
          | zero => exact .inl ⟨by simpa using h1, by simpa using h2⟩
          | succ j => exact .inr ⟨j, by simpa using hj, by simpa using h1, by simpa using h2⟩
        · rintro (⟨h1, h2⟩ | ⟨j, hj, h1, h2⟩)
          · exact ⟨0, by simp, by simpa using h1, by simpa using h2⟩
          · exact ⟨j + 1, by simpa using hj, by simpa using h1, by simpa using h2⟩
      rw [split, ← hi]
      simp only [rem]
      cases d with
      | true => simp
      | false =>
        simp only [Bool.false_eq_true, if_false, List.mem_cons, true_and]
        exact or_congr_left eq_comm
theorem rem_length (cs : List Cand) (ds : List Bool) (hl : ds.length = cs.length) : (rem cs ds).length + ds.count true = cs.length := by
  induction cs generalizing ds with
  | nil =>
    cases ds with
    | nil => rfl
    | cons d ds => simp at hl
  | cons c cs ih =>
    cases ds with
    | nil => simp at hl
    | cons d ds =>
      have := ih ds (by simpa using hl)
      cases d <;> simp [rem] <;> omega
theorem count_set (ds : List Bool) (k : Nat) (hk : k < ds.length) (hd : ds.getD k false = false) : (ds.set k true).count true = ds.count true + 1 := by
  induction ds generalizing k with
  | nil => simp at hk
  | cons d ds ih =>
    cases k with
    | zero =>
      have : d = false := by simpa using hd
      subst this
      simp
    | succ k =>
      have := ih k (by simpa using hk) (by simpa using hd)
      cases d <;> simp [this]

/-- Where the least of those that aren't done is taken. -/
theorem sel_step (cs : List Cand) (ds : List Bool) (k : Nat) (hk : k < cs.length) (hl : ds.length = cs.length) (hd : ds.getD k false = false)
    (hmin : ∀ j, j < cs.length → ds.getD j false = false → kle (key (cs.getD k (0, 0))) (key (cs.getD j (0, 0))) = true) :
    sortK (rem cs ds) = key (cs.getD k (0, 0)) :: sortK (rem cs (ds.set k true)) := by
  have hp := rem_set cs ds k hk hl hd
  refine sortK_min hp fun x hx => ?_
  have : x ∈ rem cs ds := hp.mem_iff.1 (List.mem_cons_of_mem _ hx)
  obtain ⟨j, hj, h1, rfl⟩ := (mem_rem cs ds hl x).1 this
  exact hmin j hj h1
end Go.Proofs.Ytlbdciljbmpfmaa.Cs
