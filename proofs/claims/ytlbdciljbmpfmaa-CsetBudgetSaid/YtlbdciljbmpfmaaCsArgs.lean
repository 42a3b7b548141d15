/- The law's arguments, opened: a slice of ints, a slice of candidates, an int. -/
import Derived.Test.YtlbdciljbmpfmaaCsRow
import Derived.Deep.Slices
import Derived.Deep.Fields
import Derived.ChangeSame
import Derived.ProofKit
import Derived.OpenShut
namespace Go.Proofs.Ytlbdciljbmpfmaa
open Go.ChangeShapes Go.WideShapes Go.ChangeAt Go.RowKit Go.Deep Cs

section
variable {H : Type} {enc : TypeId × Value → H} {P : Program} {w : World} {base : Nat} {spare : Nat → Bool} {held : Bool}
theorem open_slice_fields {t e : TypeId} {fs : Array Field} {fuel : Nat} {cs : List Value} {x : DataW H × List MemPlace} (ht : P.underlying t = some (.slice e)) (he : P.underlying e = some (.struct fs))
    (hone : oneCellFields P fs = true) (hC : P.cellsOf e = fs.size) (h : DataW.trod enc P w base spare held fuel t cs = some x) :
    (cs = [.slice none 0 0] ∧ x = (.nil, [])) ∨
    ∃ (a : Addr) (len cap m : Nat) (D : Nat → DataW H) (Pl : Nat → List MemPlace), cs = [.slice (some a) len cap] ∧ base ≤ a.block ∧ len ≤ cap ∧ cap ≤ maxLen ∧ m = (if spare a.block then cap else len) ∧
      x = (.slice ((List.range len).map D) ((List.range (m - len)).map fun j => D (len + j)), MemPlace.row a (m * fs.size) ++ (List.range m).flatMap Pl) ∧
      ∀ i, i < m → ∃ (ys : List (DataW H × List MemPlace)) (n : Nat), D i = .agg (ys.map (·.1)) ∧ Pl i = ys.flatMap (·.2) ∧ ys.length = fs.size ∧
        ∀ (j : Nat) (f : Field), fs[j]? = some f → ∃ (v : Value) (y : DataW H × List MemPlace), w.cell? (a.add (i * fs.size + j)) = some v ∧ ys[j]? = some y ∧ DataW.trod enc P w base spare held n f.type [v] = some y := by
  rcases open_slice ht h with h0 | ⟨a, len, cap, m, n, D, Pl, hcs, hb, hl, hm, hmm, hx, hi⟩
  · exact .inl h0
  · refine .inr ⟨a, len, cap, m, D, Pl, hcs, hb, hl, hm, hmm, by rw [hC] at hx; exact hx, fun i him => ?_⟩
    obtain ⟨cs', hc, ht'⟩ := hi i him
    rw [hC] at hc
    obtain ⟨ys, n', hn', hy, hlen, hyl, hf⟩ := DataW.trod_struct he ht'
    obtain ⟨_, hcl, hat⟩ := World.cells?_some hc
    simp only [Prod.mk.injEq] at hy
    refine ⟨ys, n', hy.1, hy.2, hyl, fun j f hj => ?_⟩
    obtain ⟨ho, hk⟩ := hone_of hone j f hj
    have hjl : j < fs.size := (Array.getElem?_eq_some_iff.1 hj).1
    have hcell := hat j hjl
    have hv : cs'[j]? = some (cs'[j]'(by omega)) := List.getElem?_eq_getElem (by omega)
    have h1 := hf j f hj
    rw [ho, hk] at h1
    have hone' : (cs'.drop j).take 1 = [cs'[j]'(by omega)] := by
      rw [List.drop_eq_getElem_cons (by omega)]
      rfl
    rw [hone'] at h1
    have hys : ys[j]? = some (ys[j]'(by omega)) := List.getElem?_eq_getElem (by omega)
    refine ⟨_, _, ?_, hys, h1.trans hys⟩
    rw [← Go.Deep.add_add, hcell, hv]

theorem addr_spot {p : Addr} {v : Value} (h : w.cell? (p.add 0) = some v) : ∃ b o, p = ⟨b, o, none⟩ := by
  have hs := World.cell?_spot h
  have hs' : p.spot = none := by simpa [Addr.add] using hs
  obtain ⟨b, o, s⟩ := p
  simp only at hs'
  subst hs'
  exact ⟨b, o, rfl⟩

theorem ints_arg {t e : TypeId} {fuel : Nat} {v : Value} {x : DataW H × List MemPlace} (ht : P.underlying t = some (.slice e)) (he : P.underlying e = some (.int .i64)) (hC : P.cellsOf e = 1)
    (h : DataW.trod enc P w 0 (fun _ => true) held fuel t [v] = some x) : ∃ a c xs, v = .slice a (List.length xs) c ∧ IntsIn w w.heap.size a xs ∧ xs.length ≤ maxLen := by
  rcases open_ints ht he hC h with ⟨hcs, -⟩ | ⟨a, len, cap, zs, hcs, _, hl, hm, hz, -, hcell, -⟩
  · injection hcs with hcs
    subst hcs
    exact ⟨none, 0, [], rfl, IntsIn.nil _ _ _, by simp⟩
  · injection hcs with hcs
    subst hcs
    simp only [if_true] at hz
    have hlen : (zs.take len).length = len := by simp; omega
    refine ⟨some a, cap, zs.take len, by rw [hlen], fun k hk => ?_, by rw [hlen]; omega⟩
    have hk' : k < len := by omega
    have hc := hcell k (by omega)
    obtain ⟨b, o, rfl⟩ := addr_spot (hcell 0 (by omega))
    rw [Addr.add_lit] at hc
    refine ⟨b, o, rfl, lt_of_cell hc, ?_⟩
    rw [hc]
    simp only [List.getD, List.getElem?_take, hk', if_true]

theorem cands_arg {t e f0 : TypeId} {fs : Array Field} {fuel : Nat} {v : Value} {x : DataW H × List MemPlace} (ht : P.underlying t = some (.slice e)) (he : P.underlying e = some (.struct fs)) (hsz : fs.size = 2)
    (ht0 : ∀ (j : Nat) (f : Field), fs[j]? = some f → f.type = f0) (hf0 : P.underlying f0 = some (.int .i64))
    (hone : oneCellFields P fs = true) (hC : P.cellsOf e = fs.size) (h : DataW.trod enc P w 0 (fun _ => true) held fuel t [v] = some x) :
    ∃ a c cs, v = .slice a (List.length cs) c ∧ CandsIn w w.heap.size a cs ∧ cs.length ≤ maxLen := by
  rcases open_slice_fields ht he hone hC h with ⟨hcs, -⟩ | ⟨a, len, cap, m, D, Pl, hcs, _, hl, hm, hmm, -, hi⟩
  · injection hcs with hcs
    subst hcs
    exact ⟨none, 0, [], rfl, CandsIn.nil _ _ _, by simp⟩
  · injection hcs with hcs
    subst hcs
    simp only [if_true] at hmm
    have key : ∀ i, ∃ c : Int × Int, i < len → ∃ b o, a = ⟨b, o, none⟩ ∧ b < w.heap.size ∧ w.cell? ⟨b, o + i * 2, none⟩ = some (.int .i64 c.1) ∧ w.cell? ⟨b, o + i * 2 + 1, none⟩ = some (.int .i64 c.2) := by
      intro i
      by_cases hil : i < len
      · obtain ⟨ys, n, _, _, _, hf⟩ := hi i (by omega)
        obtain ⟨v0, y0, hc0, _, ht0'⟩ := hf 0 (fs[0]'(by omega)) (Array.getElem?_eq_getElem (by omega))
        obtain ⟨v1, y1, hc1, _, ht1'⟩ := hf 1 (fs[1]'(by omega)) (Array.getElem?_eq_getElem (by omega))
        rw [ht0 0 _ (Array.getElem?_eq_getElem (by omega))] at ht0'
        rw [ht0 1 _ (Array.getElem?_eq_getElem (by omega))] at ht1'
        obtain ⟨r, hr, _⟩ := DataW.trod_int hf0 ht0'
        obtain ⟨l, hl', _⟩ := DataW.trod_int hf0 ht1'
        injection hr with hr
        injection hl' with hl'
        subst hr
        subst hl'
        refine ⟨(r, l), fun _ => ?_⟩
        obtain ⟨b, o, rfl⟩ : ∃ b o, a = ⟨b, o, none⟩ := by
          obtain ⟨_, _, _, _, _, hf'⟩ := hi 0 (by omega)
          obtain ⟨_, _, hz, _, _⟩ := hf' 0 (fs[0]'(by omega)) (Array.getElem?_eq_getElem (by omega))
          rw [Nat.zero_mul] at hz
          exact addr_spot hz
        rw [Addr.add_lit, hsz, Nat.add_zero] at hc0
        rw [Addr.add_lit, hsz, ← Nat.add_assoc] at hc1
        exact ⟨b, o, rfl, lt_of_cell hc0, hc0, hc1⟩
      · exact ⟨(0, 0), fun h => absurd h hil⟩
    obtain ⟨F, hF⟩ := Classical.axiomOfChoice key
    have hlen : ((List.range len).map F).length = len := by simp
    refine ⟨some a, cap, (List.range len).map F, by rw [hlen], fun k hk => ?_, by rw [hlen]; omega⟩
    have hk' : k < len := by omega
    obtain ⟨b, o, rfl, hb, h1, h2⟩ := hF k hk'
    have hg : ((List.range len).map F).getD k (0, 0) = F k := by simp [List.getD, hk']
    rw [hg]
    exact ⟨b, o, rfl, hb, h1, h2⟩
end
end Go.Proofs.Ytlbdciljbmpfmaa
