/- CsetKeeps: whatever the input, the law answers true. -/
import Derived.Test.YtlbdciljbmpfmaaCsAll
namespace Go.Proofs.Ytlbdciljbmpfmaa
open Go.RowKit Cs Go.Sort

/-- What is appended: the cells that lie at an address, or none. -/
def Src (w : World) (a : Option Addr) (n size : Nat) (news : List Value) : Prop :=
  news.length = n * size ∧ (∀ ad, a = some ad → ∀ j u, news[j]? = some u → w.cell? (ad.add j) = some u) ∧ (a = none → n = 0)

theorem IntsIn.src {w : World} {B : Nat} {a : Option Addr} {xs : List Int} (h : IntsIn w B a xs) : Src w a xs.length 1 (xs.map (Value.int .i64)) := by
  refine ⟨by simp, ?_, ?_⟩
  · rintro ad rfl j u hj
    have hj' : j < xs.length := by have := (List.getElem?_eq_some_iff.1 hj).1; simpa using this
    obtain ⟨b, o, e, _, hc⟩ := h j hj'
    injection e with e
    subst e
    rw [Addr.add_lit, hc]
    simpa [List.getD, hj'] using hj
  · rintro rfl
    cases hx : xs with
    | nil => rfl
    | cons x r => obtain ⟨_, _, e, _⟩ := h 0 (by simp [hx]); cases e
theorem CandsIn.src {w : World} {B : Nat} {a : Option Addr} {cs : List (Int × Int)} (h : CandsIn w B a cs) : Src w a cs.length 2 (flat cs) := by
  refine ⟨flat_length cs, ?_, ?_⟩
  · rintro ad rfl j u hj
    have hlen : 0 < cs.length := by have := (List.getElem?_eq_some_iff.1 hj).1; rw [flat_length] at this; omega
    obtain ⟨b, o, e, _⟩ := h 0 hlen
    injection e with e
    subst e
    rw [Addr.add_lit]
    exact h.cells j u hj
  · rintro rfl
    cases hx : cs with
    | nil => rfl
    | cons x r => obtain ⟨_, _, e, _⟩ := h 0 (by simp [hx]); cases e
theorem Src.keep {w w' : World} {a : Option Addr} {n size : Nat} {news : List Value} (h : Src w a n size news) (hk : ∀ p v, w.cell? p = some v → w'.cell? p = some v) : Src w' a n size news :=
  ⟨h.1, fun ad e j u hj => hk _ _ (h.2.1 ad e j u hj), h.2.2⟩

/-- 'append(T{}, xs...)': a row of the call's own. -/
theorem wpList_append_src {P : Program} (w : World) {ops : Array Oper} {rest : List Oper} {o : Oper} {a : Act} {Q : Exit → Act → World → Prop} (hgd : o.guard = none) (s x : Operand) (t : TypeId)
    (ho : o.op = .call { callee := .builtin .append, args := #[s, x], argTypes := #[t, t] })
    (base : Nat) (e : TypeId) (i : TypeInfo) (z : Value) (size bytes : Nat) (ht : P.underlying t = some (.slice e)) (hi : P.info? e = some i) (hz : i.zero = some z)
    (hsize : i.size = size) (hby : i.bytes = bytes) (hzs : z.cells.size = size) (hsz : 0 < size)
    (v : Value) (hs : a.eval s = v) (hown : w.ownsRow base e size v 0 [])
    (src : Option Addr) (m c : Nat) (news : List Value) (hx : a.eval x = .slice src m c) (hsrc : Src w src m size news) (h1 : ∀ u ∈ news, u.oneCell' = true)
    (h63 : m ≤ maxLen) (hbytes : m * bytes ≤ 140737488355328) (hbase : base ≤ w.heap.size)
    (h : ∀ v' w', w'.ownsRow base e size v' m news → w.grownBy w' v.ownBlock → wpList P ops Q rest (a.put o.dst v') w') :
    wpList P ops Q (o :: rest) a w := by
  cases src with
  | some ad =>
    refine wpList_append_own_at w hgd s x t ho base e i z size bytes ht hi hz hsize hby hzs hsz v 0 [] hs hown ad m c news hx hsrc.1 (hsrc.2.1 ad rfl) h1 (by omega) (by rw [Nat.zero_add]; exact hbytes) hbase ?_
    intro v' w' h2 h3 _ _
    exact h v' w' (by simpa using h2) h3
  | none =>
    have hm := hsrc.2.2 rfl
    subst hm
    have hn : news = [] := List.eq_nil_of_length_eq_zero (by have := hsrc.1; omega)
    subst hn
    have hc : a.eval x = .slice none 0 c := hx
    refine wpList_plain hgd fun K hK => ?_
    have hrun : (Builtin.append_ #[t, t] o.type #[v, .slice none 0 c]).run P w = .ok v w := by
      rcases hown.2 with ⟨rfl, _⟩ | ⟨g, cap, cur, rfl, _, _, hnc, _⟩
      · simp [Builtin.append_, run_underlying ht, sizeOf, typeInfo, hi, Builtin.lenOf, Builtin.firstCells]
      · simp [Builtin.append_, run_underlying ht, sizeOf, typeInfo, hi, Builtin.lenOf, Builtin.firstCells, storeCells]
    unfold Oper.wp
    simp [execOp, ho, resolve, invoke, builtin, hs, hc, hrun, Result.andThen]
    exact hK _ _ (h v w hown (World.grownBy.refl _ _))

theorem ints_one (zs : List Int) : ∀ u ∈ zs.map (Value.int .i64), u.oneCell' = true := ints_oneCell .i64 zs

set_option maxHeartbeats 4000000 in
theorem csetKeeps_any (a b : Option Addr) (c d : Nat) (xs : List Int) (cs : List (Int × Int)) (budget : Int) (w : World) (h1 : IntsIn w w.heap.size a xs) (h2 : CandsIn w w.heap.size b cs)
    (hb1 : -9223372036854775808 ≤ budget) (hb2 : budget ≤ 9223372036854775807) :
    Calls Try.prog 5 #[.slice a xs.length c, .slice b cs.length d, .int .i64 budget] w fun e w' => e = .returned (.bool true) ∧ Below w.heap.size w w' := by
  have H1 := Lib.hid h1
  have H2 := Lib.hid h2
  clear h1 h2
  obtain ⟨i0, hi, hz0, hz1, hz2⟩ := info_parts infoI
  obtain ⟨j0, hj, hy0, hy1, hy2⟩ := info_parts infoC
  go_enter Try.func5, Try.ntmps5
  go_wp2_with fail
  (with_reducible refine (awake_any w).mono ?_)
  rintro e w1 ⟨rfl, hbl1⟩
  have HB1 := Lib.hid hbl1
  have hsz1 := hbl1.size
  clear hbl1
  by_cases hbig1 : 300 < xs.length
  · have hd : decide (300 < xs.length) = true := by simpa using hbig1
    go_wp2_with fail
    go_ret
    exact ⟨rfl, HB1.out⟩
  · have hd : decide (300 < xs.length) = false := by simpa using hbig1
    by_cases hbig2 : 300 < cs.length
    · have hd : decide (300 < cs.length) = true := by simpa using hbig2
      go_wp2_with fail
      go_ret
      exact ⟨rfl, HB1.out⟩
    · have hd : decide (300 < cs.length) = false := by simpa using hbig2
      have HI1 := Lib.hid (H1.out.below HB1.out)
      have HC1 := Lib.hid (H2.out.below HB1.out)
      clear H1 H2
      go_wp2_with (at_builtin; (refine wpList_append_src _ rfl _ _ 22 rfl w1.heap.size 3 i0 (.int .i64 0) 1 8 Go.Proofs.Try.underlying22 hi hz0 hz1 hz2 rfl (by decide) _ rfl (World.ownsRow_made w1 #[] 0 (Nat.le_refl _) (Nat.zero_le _) rfl) a xs.length c (xs.map (Value.int .i64)) rfl (HI1.out.src.keep fun p v hp => ((Grows.refl w1).alloc _).cell hp) (ints_one xs) (by unfold maxLen; omega) (by omega) (by simp) ?_))
      intro v2 w2 ho2 hg2
      obtain ⟨a2, c2, rfl, hac2⟩ := slice_form ho2
      have hsz2 : w1.heap.size + 1 ≤ w2.heap.size := by have := hg2.size; simpa using this
      have hb2 : Below w1.heap.size w1 w2 := ((Below.refl _ w1).alloc (Nat.le_refl _) _).grown hg2 (by simp) (by intro k hk; simp [Value.ownBlock] at hk; omega)
      have HY2 := Lib.hid (IntsIn.of_own ho2).1
      have HI2 := Lib.hid (HI1.out.below (hb2.mono hsz1))
      have HC2 := Lib.hid (HC1.out.below (hb2.mono hsz1))
      have HB2 := Lib.hid (HB1.out.trans (hb2.mono hsz1))
      clear ho2 hg2 hb2 HI1 HC1 HB1
      go_wp2_with (at_builtin; (refine wpList_append_src _ rfl _ _ 23 rfl w2.heap.size 33 j0 (.agg #[.int .i64 0, .int .i64 0]) 2 16 Go.Proofs.Try.underlying23 hj hy0 hy1 hy2 rfl (by decide) _ rfl (World.ownsRow_made w2 #[] 0 (Nat.le_refl _) (Nat.zero_le _) rfl) b cs.length d (flat cs) rfl (HC2.out.src.keep fun p v hp => ((Grows.refl w2).alloc _).cell hp) (flat_one cs) (by unfold maxLen; omega) (by omega) (by simp) ?_))
      intro v3 w3 ho3 hg3
      obtain ⟨a3, c3, rfl, hac3⟩ := slice_form ho3
      have hsz3 : w2.heap.size + 1 ≤ w3.heap.size := by have := hg3.size; simpa using this
      have hb3 : Below w2.heap.size w2 w3 := ((Below.refl _ w2).alloc (Nat.le_refl _) _).grown hg3 (by simp) (by intro k hk; simp [Value.ownBlock] at hk; omega)
      have HL3 := Lib.hid (CandsIn.of_own ho3).1
      have HY3 := Lib.hid (HY2.out.below hb3)
      have HI3 := Lib.hid (HI2.out.below (hb3.mono (by omega)))
      have HC3 := Lib.hid (HC2.out.below (hb3.mono (by omega)))
      have HB3 := Lib.hid (HB2.out.trans (hb3.mono (by omega)))
      clear ho3 hg3 hb3 HI2 HC2 HB2 HY2
      go_wp2_with fail
      (with_reducible refine (choose_any a2 a3 c2 c3 xs cs budget w3 w2.heap.size w3.heap.size HY3.out HL3.out (Nat.le_refl _) (by omega) (by omega) hb1 hb2).mono ?_)
      rintro e w4 ⟨v4, zs, rfl, hch, hown, hbl4⟩
      have hsz4 := hbl4.size
      have hzl := choice_length hch
      obtain ⟨a4, c4, rfl, hcap4, hown4⟩ := hown
      have HCH := Lib.hid hch
      have HO4 := Lib.hid hown4
      have HL4 := Lib.hid (HL3.out.below hbl4)
      have HY4 := Lib.hid (HY3.out.below (hbl4.mono (by omega)))
      have HI4 := Lib.hid (HI3.out.below (hbl4.mono (by omega)))
      have HC4 := Lib.hid (HC3.out.below (hbl4.mono (by omega)))
      have HB4 := Lib.hid (HB3.out.trans (hbl4.mono (by omega)))
      clear hch hown4 hbl4 HL3 HY3 HI3 HC3 HB3
      go_wp2_with fail
      go_loopw [10, 11] (fun v i wr => ∃ k : Nat, k ≤ cs.length ∧ i = .int .i64 ((k : Int) - 1) ∧ wr.ownsRow w4.heap.size 33 2 v (cs.length - k) (flat (cs.drop k).reverse) ∧ Below w4.heap.size w4 wr) (fun _ i _ => (intOf i + 1).toNat)
      case atStart => exact ⟨cs.length, Nat.le_refl _, rfl, by rw [Nat.sub_self, List.drop_length]; exact World.ownsRow_nil _ _ _ _, Below.refl _ _⟩
      case round =>
        obtain ⟨k, hk, rfl, hown5, hb5⟩ := hrel
        have HO5 := Lib.hid hown5
        have HB5 := Lib.hid hb5
        clear hb5
        by_cases hpos : 0 < k
        · obtain ⟨g, o, rfl, hgB, k1, k2⟩ := HC4.out (k - 1) (by omega)
          rw [← HB5.out.cell (by exact Nat.lt_of_lt_of_le hgB (by omega))] at k1 k2
          have hdr : cs.drop (k - 1) = cs.getD (k - 1) (0, 0) :: cs.drop k := by
            have hq : k - 1 < cs.length := by omega
            rw [List.drop_eq_getElem_cons hq, show k - 1 + 1 = k from by omega]
            simp [List.getD, hq]
          have HD := Lib.hid hdr
          clear hdr
          have j1 : (0 : Int) ≤ (k : Int) - 1 := by omega
          have j2 : (k : Int) - 1 < (cs.length : Int) := by omega
          have j3 : ((k : Int) - 1).toNat = k - 1 := by omega
          have j4 : (1 : Int) ≤ (k : Int) := by omega
          obtain ⟨cd, hcd⟩ : ∃ cd, cs.getD (k - 1) (0, 0) = cd := ⟨_, rfl⟩
          rw [hcd] at k1 k2
          have HCD := Lib.hid hcd
          clear hcd
          obtain ⟨r, l⟩ := cd
          simp only at k1 k2
          go_wp2_with (at_builtin; (refine wpList_append_own_at _ rfl _ _ 23 rfl w4.heap.size 33 j0 (.agg #[.int .i64 0, .int .i64 0]) 2 16 Go.Proofs.Try.underlying23 hj hy0 hy1 hy2 rfl (by decide) _ _ _ rfl (hown5.alloc _) ⟨wr.heap.size, 0, none⟩ 1 1 [.int .i64 r, .int .i64 l] rfl rfl ?c1 ?c2 ?c3 ?c4 ?c5 ?_))
          case c1 => exact news_alloc wr [.int .i64 r, .int .i64 l] _
          case c2 => intro u hu; simp at hu; rcases hu with rfl | rfl <;> rfl
          case c3 => unfold maxLen; omega
          case c4 => omega
          case c5 => have := HB5.out.size; simp; omega
          intro v6 w6 hown6 hgrow6 _ _
          have hb6 : Below w4.heap.size w4 w6 := (HB5.out.alloc HB5.out.size _).grown hgrow6 (by have := HB5.out.size; simp; omega) (fun q hq => (HO5.out.lt q hq).1)
          have hown7 : w6.ownsRow w4.heap.size 33 2 v6 (cs.length - (k - 1)) (flat (cs.drop (k - 1)).reverse) := by
            rw [HD.out, HCD.out, List.reverse_cons, flat_append, show cs.length - (k - 1) = cs.length - k + 1 from by omega]
            exact hown6
          clear hown5 hown6 hgrow6
          go_wp2_with fail
          go_roundw
          case rel => exact ⟨k - 1, by omega, by congr 1; omega, hown7, hb6⟩
          case measure => simp [intOf]; omega
        · have hk0 : k = 0 := by omega
          subst hk0
          have hown6 := HO5.out
          rw [List.drop_zero, Nat.sub_zero] at hown6
          clear hown5 HO5
          obtain ⟨a5, c5, rfl, hac5⟩ := slice_form hown6
          have hsz5 := HB5.out.size
          have hback := (CandsIn.of_own hown6).1
          have hlb : cs.reverse.length = cs.length := List.length_reverse
          have HBK := Lib.hid hback
          have HLB := Lib.hid hlb
          clear hown6 hback hlb
          have HL5 := Lib.hid (HL4.out.below (HB5.out.mono (by omega)))
          have HY5 := Lib.hid (HY4.out.below (HB5.out.mono (by omega)))
          have HI5 := Lib.hid (HI4.out.below (HB5.out.mono (by omega)))
          have HC5 := Lib.hid (HC4.out.below (HB5.out.mono (by omega)))
          have HB5' := Lib.hid (HB4.out.trans (HB5.out.mono (by omega)))
          have ho5 : 0 < zs.length → ∃ g, a4 = some ⟨g, 0, none⟩ ∧ w3.heap.size ≤ g ∧ g < wr.heap.size ∧ Holds (Value.int .i64) wr g 0 zs.toArray := by
            intro hz
            obtain ⟨g, e, h1, h2, h3⟩ := HO4.out hz
            refine ⟨g, e, h1, by omega, fun j hj => ?_⟩
            obtain ⟨p1, p2⟩ := h3 j hj
            exact ⟨(HB5.out.cell (by exact h2)).trans p1, (HB5.out.frozen (by exact h2)).trans p2⟩
          have HO5 := Lib.hid ho5
          clear ho5 HO4 HL4 HY4 HI4 HC4 HB4 HB5
          go_wp2_with fail
          (with_reducible refine (same_any w2.heap.size w.heap.size a2 a c2 c xs xs wr HY5.out HI5.out (by omega)).mono ?_)
          rintro e w6 ⟨rfl, hg6⟩
          have hsame : decide (xs = xs) = true := by simp
          rw [hsame]
          clear hsame
          have hsz6 := hg6.size
          have hcon := choose_any a a5 c c5 xs cs.reverse budget w6 w.heap.size wr.heap.size (HI5.out.grows hg6) (HBK.out.below hg6.below) hg6.size (by omega) (by rw [HLB.out]; omega) hb1 hb2
          rw [HLB.out] at hcon
          have HCON := Lib.hid hcon
          have HG6 := Lib.hid hg6
          clear hcon hg6
          go_wp2_with fail
          (with_reducible refine HCON.out.mono ?_)
          rintro e w7 ⟨v7, zs7, rfl, hch7, hown7, hbl7⟩
          have hch8 : IsChoice xs cs budget zs7 := ⟨hch7.1, fun x => by rw [hch7.2 x, picks_perm (List.reverse_perm cs)]⟩
          have heq := hch8.unique HCH.out
          subst heq
          have hsz7 := hbl7.size
          obtain ⟨a7, c7, rfl, hi7⟩ := hown7.ints
          have hb67 : Below wr.heap.size wr w7 := HG6.out.below.trans (hbl7.mono hsz6)
          have HI7 := Lib.hid hi7
          have HO7 := Lib.hid HO5.out
          have hz7 : IntsIn w7 wr.heap.size a4 zs7 := by
            intro q hq
            obtain ⟨g, e, h1, h2, h3⟩ := HO5.out (by omega)
            refine ⟨g, 0, e, h2, ?_⟩
            rw [hb67.cell (by exact h2), (h3 q (by simpa using hq)).1]
            simp [List.getD, hq]
          have HZ7 := Lib.hid hz7
          have HB67 := Lib.hid hb67
          clear hch7 hch8 hown7 hbl7 hi7 hz7 hb67 HCON HG6 HCH
          go_wp2_with fail
          (with_reducible refine (same_any wr.heap.size w7.heap.size a4 a7 c4 c7 zs7 zs7 w7 HZ7.out HI7.out (by omega)).mono ?_)
          rintro e w8 ⟨rfl, hg8⟩
          have hsame : decide (zs7 = zs7) = true := by simp
          rw [hsame]
          clear hsame
          have hb8 : Below wr.heap.size wr w8 := HB67.out.trans (hg8.below.mono (by omega))
          have HB8 := Lib.hid hb8
          clear hb8 hg8 HB67 HZ7 HI7 HO7
          go_wp2_with fail
          have HL8 := Lib.hid (HL5.out.below (HB8.out.mono (by omega)))
          have HC8 := Lib.hid (HC5.out.below (HB8.out.mono (by omega)))
          have HY8 := Lib.hid (HY5.out.below (HB8.out.mono (by omega)))
          have HI8 := Lib.hid (HI5.out.below (HB8.out.mono (by omega)))
          have HBW := Lib.hid (HB5'.out.trans (HB8.out.mono (by omega)))
          have ho8 : 0 < zs7.length → ∃ g, a4 = some ⟨g, 0, none⟩ ∧ w3.heap.size ≤ g ∧ ∀ q, q < zs7.length → (∃ v, w8.cell? ⟨g, q, none⟩ = some v) ∧ w8.frozen? ⟨g, q, none⟩ = false := by
            intro hz
            obtain ⟨g, e, h1, h2, h3⟩ := HO5.out hz
            refine ⟨g, e, h1, fun q hq => ?_⟩
            obtain ⟨p1, p2⟩ := h3 q (by simpa using hq)
            rw [Nat.zero_add] at p1 p2
            exact ⟨⟨_, (HB8.out.cell (by exact h2)).trans p1⟩, (HB8.out.frozen (by exact h2)).trans p2⟩
          have HO8 := Lib.hid ho8
          clear ho8 HO5 HL5 HC5 HY5 HI5 HB5' HB8
          go_loopw [12] (fun t wr2 => ∃ k : Nat, k ≤ cs.length ∧ t = .int .i64 k ∧ Drawn w8 wr2) (fun t _ => cs.length - (intOf t).toNat)
          case atStart => exact ⟨0, Nat.zero_le _, rfl, Drawn.refl _⟩
          case round =>
            obtain ⟨k, hk, rfl, ⟨n, rfl⟩⟩ := hrel
            by_cases hlt : k < cs.length
            · obtain ⟨g, o, rfl, -, k1, k2⟩ := HL8.out k hlt
              obtain ⟨g', o', rfl, -, k3, k4⟩ := HC8.out k hlt
              have i1 : (0 : Int) ≤ (k : Int) := by omega
              have i2 : (k : Int) < (cs.length : Int) := by omega
              generalize (cs.getD k (0, 0)).1 = r at *
              generalize (cs.getD k (0, 0)).2 = l at *
              go_wp2_with fail
              go_quiet (fail)
              go_wp2_with fail
              go_roundw
              case rel => exact ⟨k + 1, by omega, by go_num, Drawn.mk _ _⟩
              case measure => simp [intOf]; omega
            · have HY9 := Lib.hid (HY8.out.drawn (Drawn.mk w8 n))
              have HI9 := Lib.hid (HI8.out.drawn (Drawn.mk w8 n))
              have HB9 := Lib.hid (HBW.out.trans ((Drawn.mk w8 n).below _))
              have HO9 : Hid (0 < zs7.length → ∃ g, a4 = some ⟨g, 0, none⟩ ∧ w3.heap.size ≤ g ∧ ∀ q, q < zs7.length → (∃ v, (w8.drewN n).cell? ⟨g, q, none⟩ = some v) ∧ (w8.drewN n).frozen? ⟨g, q, none⟩ = false) := HO8
              clear HY8 HI8 HBW HO8 HL8 HC8
              generalize w8.drewN n = w9 at *
              go_wp2_with fail
              go_loopw [13] (fun t wr2 => ∃ k : Nat, k ≤ zs7.length ∧ t = .int .i64 k ∧ Below w3.heap.size w9 wr2 ∧ (0 < zs7.length → ∃ g, a4 = some ⟨g, 0, none⟩ ∧ w3.heap.size ≤ g ∧ ∀ q, q < zs7.length → (∃ v, wr2.cell? ⟨g, q, none⟩ = some v) ∧ wr2.frozen? ⟨g, q, none⟩ = false)) (fun t _ => zs7.length - (intOf t).toNat)
              case atStart => exact ⟨0, Nat.zero_le _, rfl, Below.refl _ _, HO9.out⟩
              case round =>
                obtain ⟨k, hk, rfl, hb, ho⟩ := hrel
                by_cases hlt : k < zs7.length
                · obtain ⟨g, rfl, hg, hcells⟩ := ho (by omega)
                  obtain ⟨⟨v, hv⟩, hf⟩ := hcells k hlt
                  have HH := Lib.hid hcells
                  have HB := Lib.hid hb
                  clear hcells hb ho
                  go_wp2_with fail
                  go_roundw
                  case rel =>
                    refine ⟨k + 1, by omega, by go_num, HB.out.setCell hg _, fun _ => ⟨g, rfl, hg, fun q hq => ?_⟩⟩
                    obtain ⟨⟨u, hu⟩, hfu⟩ := HH.out q hq
                    refine ⟨?_, by simpa using hfu⟩
                    by_cases e : q = k
                    · subst e
                      exact ⟨_, World.cell?_setCell_same _ _ _ hu⟩
                    · exact ⟨u, (World.cell?_setCell_other _ _ _ _ (by intro e2; injection e2; omega)).trans hu⟩
                  case measure => simp [intOf]; omega
                · have HB := Lib.hid hb
                  clear hb ho
                  go_wp2_with fail
                  (with_reducible refine (same_any w2.heap.size w.heap.size a2 a c2 c xs xs _ (HY9.out.below (HB.out.mono (by omega))) (HI9.out.below (HB.out.mono (by omega))) (by omega)).mono ?_)
                  rintro e w10 ⟨rfl, hg10⟩
                  have hsame : decide (xs = xs) = true := by simp
                  rw [hsame]
                  clear hsame
                  have hb10 := HB.out.size
                  have HG10 := Lib.hid hg10
                  clear hg10
                  go_wp2_with fail
                  go_ret
                  exact ⟨rfl, (HB9.out.trans (HB.out.mono (by omega))).trans (HG10.out.below.mono (by have := HB9.out.size; omega))⟩
end Go.Proofs.Ytlbdciljbmpfmaa
