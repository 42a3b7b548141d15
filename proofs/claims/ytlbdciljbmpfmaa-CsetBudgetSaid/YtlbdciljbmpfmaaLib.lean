/- Words for memory, used by all walks of this family: rows of ints, draws, blocks. Plain theorems over any program. -/
import Derived.Test.YtlbdciljbmpfmaaChecked
import Derived.WalkKit
import Derived.BigQuiet
import Derived.Deep.QuietTactic
import Derived.Deep.AppendLies
import Derived.Deep.Draws
import Derived.Lib.Hide
import Derived.Sort.Grow
namespace Go.Proofs.Ytlbdciljbmpfmaa
open Go.RowKit

/-- The world has only drawn. -/
def Drawn (w w' : World) : Prop := ∃ n, w' = w.drewN n
theorem Drawn.refl (w : World) : Drawn w w := ⟨0, rfl⟩
theorem Drawn.mk (w : World) (n : Nat) : Drawn w (w.drewN n) := ⟨n, rfl⟩
theorem Drawn.mk2 (w : World) (n m : Nat) : Drawn w ((w.drewN n).drewN m) := ⟨n + m, by simp [World.drewN, Nat.add_assoc]⟩
theorem Drawn.trans {a b c : World} (h : Drawn a b) (k : Drawn b c) : Drawn a c := by
  obtain ⟨n, rfl⟩ := h; obtain ⟨m, rfl⟩ := k; exact Drawn.mk2 _ _ _
theorem Drawn.heap {w w' : World} (h : Drawn w w') : w'.heap = w.heap := by obtain ⟨n, rfl⟩ := h; rfl
theorem Drawn.below {w w' : World} (h : Drawn w w') (B : Nat) : Below B w w' := by
  obtain ⟨n, rfl⟩ := h; exact ⟨rfl, rfl, rfl, Nat.le_refl _, fun _ _ => rfl⟩

/-- The world has drawn, and new blocks lie behind its heap. -/
def Grows (w w' : World) : Prop := ∃ q os', w' = Go.Sort.grow (w.drewN q) os'
theorem Grows.refl (w : World) : Grows w w := ⟨0, #[], by simp [Go.Sort.grow, World.drewN]⟩
theorem Grows.alloc {a w : World} (h : Grows a w) (o : Obj) : Grows a (w.alloc o) := by
  obtain ⟨q, os', rfl⟩ := h
  exact ⟨q, os' ++ #[o], by rw [Go.Sort.alloc_eq_grow, Go.Sort.grow_grow]⟩
theorem Grows.drew {a w : World} (h : Grows a w) : Grows a w.drew := by
  obtain ⟨q, os', rfl⟩ := h
  exact ⟨q + 1, os', rfl⟩
theorem Grows.drewN {a w : World} (h : Grows a w) (n : Nat) : Grows a (w.drewN n) := by
  obtain ⟨q, os', rfl⟩ := h
  exact ⟨q + n, os', by simp [Go.Sort.grow, World.drewN, Nat.add_assoc]⟩
theorem Grows.trans {a b c : World} (h : Grows a b) (k : Grows b c) : Grows a c := by
  obtain ⟨q, os', rfl⟩ := h
  obtain ⟨q2, os2, rfl⟩ := k
  exact ⟨q + q2, os' ++ os2, by simp [Go.Sort.grow, World.drewN, Nat.add_assoc, Array.append_assoc]⟩
theorem Drawn.grows {w w' : World} (h : Drawn w w') : Grows w w' := by
  obtain ⟨n, rfl⟩ := h
  exact (Grows.refl w).drewN n
theorem Grows.below {w w' : World} (h : Grows w w') : Below w.heap.size w w' := by
  obtain ⟨q, os', rfl⟩ := h
  exact ⟨rfl, rfl, rfl, by simp [Go.Sort.grow, World.drewN], fun k hk => by
    show (w.heap ++ os')[k]? = _
    rw [Array.getElem?_append_left hk]⟩
theorem Grows.size {w w' : World} (h : Grows w w') : w.heap.size ≤ w'.heap.size := h.below.size
theorem lt_of_cell {w : World} {p : Addr} {v : Value} (hc : w.cell? p = some v) : p.block < w.heap.size := World.block_lt_of_cell? w p hc
theorem Grows.cell {w w' : World} (h : Grows w w') {p : Addr} {v : Value} (hc : w.cell? p = some v) : w'.cell? p = some v := (h.below.cell (lt_of_cell hc)).trans hc
theorem Grows.keep2 {w w' : World} (h : Grows w w') {p1 p2 : Addr} {v1 v2 : Value} (hc : w.cell? p1 = some v1 ∧ w.cell? p2 = some v2) : w'.cell? p1 = some v1 ∧ w'.cell? p2 = some v2 :=
  ⟨h.cell hc.1, h.cell hc.2⟩
theorem Grows.keep4 {w w' : World} (h : Grows w w') {p1 p2 p3 p4 : Addr} {v1 v2 v3 v4 : Value} (hc : w.cell? p1 = some v1 ∧ w.cell? p2 = some v2 ∧ w.cell? p3 = some v3 ∧ w.cell? p4 = some v4) :
    w'.cell? p1 = some v1 ∧ w'.cell? p2 = some v2 ∧ w'.cell? p3 = some v3 ∧ w'.cell? p4 = some v4 :=
  ⟨h.cell hc.1, h.cell hc.2.1, h.cell hc.2.2.1, h.cell hc.2.2.2⟩

/-- A region that draws its order, all of whose operations yield one value in every world that has grown out of 'w': one walk in the order of the text. -/
theorem region_grows {P : Program} {id : Nat} {Q : Exit → Act → World → Prop} {a : Act} {w : World} {l : List Oper} (hm : P.follows .mixedOrders = true) (hB : Region.lexB .any l.toArray = true)
    (h : wpQuiet P l.toArray (Grows w) (fun a' => ∀ w', Grows w w' → Q .normal a' w') l a) : (Code.region id l.toArray true).wp P Q a w :=
  wp_region_quiet (C := Grows w) hm hB (Grows.refl w).drew (by simpa using h)
/-- One operation of such a walk: what it does stands behind a name while its guard is looked at. -/
theorem quiet_op {P : Program} {ops : Array Oper} {C : World → Prop} {Q : Act → Prop} {a : Act} {o : Oper} {rest : List Oper}
    (h : ∀ (K : Act → Prop), (∀ a, wpQuiet P ops C Q rest a → K a) → ∀ G : Prop, ((∃ v, (∀ w', C w' → o.quietAt P a C w' v) ∧ K (a.put o.dst v)) → G) →
      if Region.wanted o (yielded ops a.tmps) then G else K (a.put o.dst undef)) : wpQuiet P ops C Q (o :: rest) a :=
  wpQuiet_step fun K hK => h K hK _ id
theorem quiet_pass {P : Program} {ops : Array Oper} {C : World → Prop} {Q : Act → Prop} {a : Act} {o : Oper} {rest : List Oper} (hw : Region.wanted o (yielded ops a.tmps) = false)
    (h : ∀ (K : Act → Prop), (∀ a, wpQuiet P ops C Q rest a → K a) → K (a.put o.dst undef)) : wpQuiet P ops C Q (o :: rest) a :=
  wpQuiet_step fun K hK => by rw [if_neg (by rw [hw]; decide)]; exact h K hK
theorem Calls.grown_of {P : Program} {f : FuncId} {args : Array Value} {w w1 : World} {v : Value} (hg : Grows w w1)
    (h : Calls P f args w1 fun e w' => e = .returned v ∧ Grows w1 w') : Calls P f args w1 fun e w'' => e = .returned v ∧ Grows w w'' :=
  h.mono fun _ _ ⟨he, hm⟩ => ⟨he, hg.trans hm⟩
theorem Calls.same_grows {P : Program} {f : FuncId} {args : Array Value} {w : World} {v : Value}
    (h : Calls P f args w fun e w' => e = .returned v ∧ w = w') : Calls P f args w fun e w'' => e = .returned v ∧ Grows w w'' :=
  h.mono fun _ _ ⟨he, hm⟩ => ⟨he, hm ▸ Grows.refl _⟩

/-- A slice value that reads as a list of ints. -/
def IntsIn (w : World) (B : Nat) (a : Option Addr) (zs : List Int) : Prop :=
  ∀ k, k < zs.length → ∃ b o, a = some ⟨b, o, none⟩ ∧ b < B ∧ w.cell? ⟨b, o + k, none⟩ = some (.int .i64 (zs.getD k 0))
theorem IntsIn.nil (w : World) (B : Nat) (a : Option Addr) : IntsIn w B a [] := fun k h => absurd h (by simp)
theorem IntsIn.keep {w w' : World} {B : Nat} {a : Option Addr} {zs : List Int} (h : IntsIn w B a zs) (hk : ∀ p : Addr, p.block < B → w'.cell? p = w.cell? p) : IntsIn w' B a zs := by
  intro k hlt
  obtain ⟨b, o, e, hb, hc⟩ := h k hlt
  exact ⟨b, o, e, hb, (hk _ (by exact hb)).trans hc⟩
theorem IntsIn.below {w w' : World} {B : Nat} {a : Option Addr} {zs : List Int} (h : IntsIn w B a zs) (hb : Below B w w') : IntsIn w' B a zs := h.keep fun _ hp => hb.cell hp
theorem IntsIn.mono {w : World} {B B' : Nat} {a : Option Addr} {zs : List Int} (h : IntsIn w B a zs) (hB : B ≤ B') : IntsIn w B' a zs := by
  intro k hlt
  obtain ⟨b, o, e, hb, hc⟩ := h k hlt
  exact ⟨b, o, e, by omega, hc⟩
theorem IntsIn.drawn {w w' : World} {B : Nat} {a : Option Addr} {zs : List Int} (h : IntsIn w B a zs) (hd : Drawn w w') : IntsIn w' B a zs := h.below (hd.below B)
theorem IntsIn.grows {w w' : World} {B : Nat} {a : Option Addr} {zs : List Int} (h : IntsIn w B a zs) (hg : Grows w w') : IntsIn w' B a zs := by
  intro k hk
  obtain ⟨b, o, e, hb, hc⟩ := h k hk
  exact ⟨b, o, e, hb, hg.cell hc⟩
theorem IntsIn.of_own {w : World} {base n c : Nat} {e : TypeId} {a : Option Addr} {zs : List Int} (h : w.ownsRow base e 1 (.slice a n c) n (zs.map (Value.int .i64))) : IntsIn w w.heap.size a zs ∧ zs.length = n := by
  have hl : zs.length = n := by have := h.1; simpa using this
  refine ⟨fun k hk => ?_, hl⟩
  obtain ⟨g, cap, hv, _, hlt⟩ := h.form (by omega)
  have hA : a = some ⟨g, 0, none⟩ := by injection hv
  subst hA
  have := h.cells (g := g) rfl k (.int .i64 (zs.getD k 0)) (by simp [List.getD, hk])
  refine ⟨g, 0, rfl, hlt, ?_⟩
  rw [Addr.add_lit] at this
  exact this

theorem getD_of_lt {zs : List Int} {k : Nat} (h : k < zs.length) : zs.getD k 0 = zs[k] := by simp [List.getD, h]
theorem take_snoc_int {zs : List Int} {k : Nat} (h : k < zs.length) : zs.take (k + 1) = zs.take k ++ [zs.getD k 0] := by
  rw [List.take_succ_eq_append_getElem h, getD_of_lt h]

end Go.Proofs.Ytlbdciljbmpfmaa
