import Derived.Test.YtkfgkoiinjhgnaaR8
namespace Go.Proofs.Ytkfgkoiinjhgnaa
open Go.RowKit

theorem ownsRow_keep {w w' : World} {B n : Nat} {v : Value} {xs : List Value} (h : w.ownsRow B 4 1 v n xs) (hb : Below w.heap.size w w') : w'.ownsRow B 4 1 v n xs := by
  refine ⟨h.1, ?_⟩
  rcases h.2 with h | ⟨g', cap', cur, e1, e2, e3, e4⟩
  · exact Or.inl h
  · exact Or.inr ⟨g', cap', cur, e1, e2, by rw [hb.block g' (Array.getElem?_eq_some_iff.1 e3).1]; exact e3, e4⟩
theorem Rd.stored {w : World} {g off g1 o1 : Nat} {l : List Bool} (h : Rd w g off l) (hne : g ≠ g1) (u : Value) : Rd (w.setCell ⟨g1, o1, none⟩ u) g off l :=
  ⟨by have := h.lt; simpa [World.setCell] using this, fun i hi => by
    rw [World.cell?_of_block (w := w) (Below.heap_setCell w ⟨g1, o1, none⟩ u g hne)]
    exact h.cell i hi⟩
/-- The bits below i are still 0. -/
def QZ (q : List Bool) (i : Nat) : Prop := ∀ t, t < i → at' q t = false
theorem QZ.start (n : Nat) : QZ (List.replicate n false) n := by
  intro t ht
  simp [at', List.getD, ht]
theorem QZ.set {q : List Bool} {j : Nat} (h : QZ q (j + 1)) : QZ (q.set j true) j := by
  intro t ht
  have := h t (by omega)
  simp only [at', List.getD_eq_getElem?_getD, List.getElem?_set] at *
  rw [if_neg (by omega)]; exact this
theorem QZ.less {q : List Bool} {j : Nat} (h : QZ q (j + 1)) : QZ q j := fun t ht => h t (by omega)

/-- What 'divided' hands back. -/
def DivPost (l m : List Bool) (n : Nat) (e : Ending) (w' : World) : Prop :=
  ∃ g1 c1 g2 o2 c2 L1 L2, e = .returned (.tuple #[.slice (some ⟨g1, 0, none⟩) n c1, .slice (some ⟨g2, o2, none⟩) n c2]) ∧ Rd w' g1 0 L1 ∧ Rd w' g2 o2 L2 ∧ L1.length = n ∧ L2.length = n ∧
    (ofL m ≠ 0 → ofL L1 = ofL l / ofL m ∧ ofL L2 = ofL l % ofL m) ∧ (ofL m = 0 → ofL L1 = 2 ^ n - 1 ∧ ofL L2 = ofL l)
/-- What holds at the head of a round of 'divided'. -/
structure DivRel (l m : List Bool) (n B g1 cap1 gw gr : Nat) (i : Nat) (q r : List Bool) (w wr : World) : Prop where
  ok : DivOk l m q r n i
  qz : QZ q i
  own : wr.ownsRow B 4 1 (.slice (some ⟨g1, 0, none⟩) n cap1) n (q.map Value.bool)
  rd : Rd wr gr 0 r
  rw' : Rd wr gw 0 (m ++ [false])
  ne : gr ≠ g1
  below : Below B w wr
  le : B ≤ wr.heap.size

set_option maxHeartbeats 3200000 in
theorem divided_any (g off n cap g2 off2 cap2 : Nat) (l m : List Bool) (w : World) (hr : Rd w g off l) (hr2 : Rd w g2 off2 m) (hl : l.length = n) (hm : m.length = n) (h1 : 1 ≤ n) (hn : n ≤ 64) :
    Calls Try.prog 58 #[.slice (some ⟨g, off, none⟩) n cap, .slice (some ⟨g2, off2, none⟩) n cap2] w fun e w' => DivPost l m n e w' ∧ Below w.heap.size w w' := by
  obtain ⟨B, hB⟩ : ∃ B, B = w.heap.size := ⟨_, rfl⟩
  have HL := Lib.hid hl
  have HM := Lib.hid hm
  have hgB : g < B := by rw [hB]; exact hr.lt
  have hgB2 : g2 < B := by rw [hB]; exact hr2.lt
  have hBle : B ≤ w.heap.size := Nat.le_of_eq hB
  rw [← hB]
  go_enter Try.func58, Try.ntmps58
  go_wp2_with fail
  refine (zero_any n h1 (by omega) _).mono ?_
  rintro e w1 ⟨v, rfl, hown, b1⟩
  rw [← hB] at hown b1
  have HB := Lib.hid hB
  clear hB hl hm
  have c1 : Below B w w1 ∧ B ≤ w1.heap.size := ⟨b1, Nat.le_trans hBle b1.size⟩
  obtain ⟨g1, cap1, rfl, hq1, hl1, hc1, hm1, hB1⟩ := row_of hown h1
  have hg1 := hq1.lt
  clear hq1 hl1 hc1 hm1 b1
  have r2 : Rd w1 g2 off2 m := hr2.below c1.1 hgB2
  have e0 : (w1.alloc (.cells #[] 4)).ownsRow w1.heap.size 4 1 (.slice (some ⟨w1.heap.size, 0, none⟩) 0 0) 0 (([] : List Bool).map Value.bool) := World.ownsRow_made w1 #[] 0 (Nat.le_refl _) (by decide) (by decide)
  have e1 : Rd (w1.alloc (.cells #[] 4)) g2 off2 m := r2.keep ((Below.refl _ _).alloc (Nat.le_refl _) _)
  have e2 : Below w1.heap.size w1 (w1.alloc (.cells #[] 4)) := (Below.refl _ _).alloc (Nat.le_refl _) _
  have e3 : w1.heap.size ≤ (w1.alloc (.cells #[] 4)).heap.size := by simp
  go_wp2_with (first
    | (refine wpList_appM rfl (.tmp 16) (.tmp 17) rfl w1.heap.size _ 0 [] m g2 off2 n cap2 rfl rfl HM.out e1 e0 e2 e3 (by omega) ?_; intro v2 w2 hown2 b2 hs2; simp only [Nat.zero_add, List.nil_append] at hown2)
    | (refine wpList_app rfl (.tmp 18) (.tmp 19) rfl w1.heap.size _ n m false rfl rfl hown2 b2 hs2 (by omega) ?_; intro v3 w3 hown3 b3 hs3))
  obtain ⟨gw, capw, rfl, hw3, hlw, hcw, hmw, hBw⟩ := row_of hown3 (by omega)
  have c3 : Below B w w3 ∧ B ≤ w3.heap.size := below_two c1.1 c1.2 b3
  have own3 := ownsRow_keep hown b3
  have hgw : gw ≠ g1 := by omega
  have hg3 : g1 < w3.heap.size := Nat.lt_of_lt_of_le hg1 hs3
  clear hown e0 e1 e2 e3 b2 hs2 hown2 hown3 hcw hmw hBw r2
  refine (zero_int _ (by omega) (by omega) _).mono ?_
  rintro e w4 ⟨⟨gr, capr, rfl, hr4, hc4, hm4, hB4⟩, b4⟩
  rw [show ((n : Int) + 1).toNat = n + 1 by omega] at *
  have c4 := below_two c3.1 c3.2 b4
  have start : DivRel l m n B g1 cap1 gw gr n (List.replicate n false) (List.replicate (n + 1) false) w w4 :=
    ⟨DivOk.start l m n HL.out, QZ.start n, ownsRow_keep own3 b4, hr4, hw3.keep b4, by omega, c4.1, c4.2⟩
  have hg4 : g1 < w4.heap.size := Nat.lt_of_lt_of_le hg3 b4.size
  clear own3 hw3 hr4 hm4 b4 c3 c4 b3 hs3 hg3 hB4 c1 hg1
  go_wp2_with fail
  go_loopw [9, 10] (fun v i wr => ∃ (k : Int) (q r : List Bool) (gr cr : Nat), -1 ≤ k ∧ k < n ∧ i = .int .i64 k ∧ v = .slice (some ⟨gr, 0, none⟩) (n + 1) cr ∧ g1 < wr.heap.size ∧ n + 1 ≤ cr ∧ DivRel l m n B g1 cap1 gw gr (k + 1).toNat q r w wr) (fun _ i _ => (intOf i + 1).toNat)
  case atStart => exact ⟨(n : Int) - 1, _, _, gr, capr, by omega, by omega, rfl, rfl, hg4, by omega, by rw [show ((n : Int) - 1 + 1).toNat = n by omega]; exact start⟩
  case round =>
    clear start hg4
    obtain ⟨k, q, r, gr, cr, hk1, hk2, rfl, rfl, hg5, hcr, S⟩ := hrel
    by_cases h0 : 0 ≤ k
    · obtain ⟨j, rfl⟩ := Int.eq_ofNat_of_zero_le h0
      rw [show ((j : Int) + 1).toNat = j + 1 by omega] at S
      have hjn : j < n := by omega
      have hc := (hr.below S.below hgB).cell j (by rw [HL.out]; exact hjn)
      rw [show l.getD j false = at' l j from rfl] at hc
      have hlr := S.ok.lr
      have HLR := Lib.hid hlr
      clear hlr
      go_wp2_with fail
      refine (moved_rd _ _ _ _ _ _ _ _ S.rd HLR.out (by omega) (by omega) (by omega) (by omega)).mono ?_
      rintro e w5 ⟨⟨g5, cap5, rfl, hr5, hc5, hm5, hB5⟩, b5⟩
      have hl5 : (movedL r 1 (at' l j)).length = n + 1 := by rw [movedL_length, HLR.out]
      have HL5 := Lib.hid hl5
      clear hl5 hc
      go_wp2_with fail
      refine (less_any _ _ _ _ _ _ _ _ _ HL5.out (by simp [HM.out]) _ hr5 (S.rw'.keep b5) (by omega)).mono ?_
      rintro e w6 ⟨rfl, b6⟩
      have hless : lessL (movedL r 1 (at' l j)) (m ++ [false]) = decide (ofL (movedL r 1 (at' l j)) < ofL m) := by
        rw [less_ofL _ _ (by rw [HL5.out]; simp [HM.out])]
        congr 2
        rw [ofL_append]; simp [ofL]
      have b56 := b5.trans (b6.mono b5.size)
      by_cases hsm : ofL (movedL r 1 (at' l j)) < ofL m
      · rw [decide_eq_true hsm] at hless
        have hok := S.ok.small HL.out HM.out hjn (S.qz j (by omega)) hsm
        have nS : DivRel l m n B g1 cap1 gw g5 j q (movedL r 1 (at' l j)) w w6 :=
          ⟨hok, S.qz.less, ownsRow_keep S.own b56, hr5.keep b6, S.rw'.keep b56, by omega, S.below.trans (b56.mono S.le), Nat.le_trans S.le b56.size⟩
        have hg6 : g1 < w6.heap.size := Nat.lt_of_lt_of_le hg5 b56.size
        clear hok hsm S b5 b6 b56 hr5 hB5
        go_wp2_with fail
        go_roundw
        case rel => exact ⟨(j : Int) - 1, q, _, g5, cap5, by omega, by omega, by go_num, rfl, hg6, hc5, by rw [show ((j : Int) - 1 + 1).toNat = j by omega]; exact nS⟩
        case measure => simp [intOf]
      · rw [decide_eq_false hsm] at hless
        have hok := S.ok.big HL.out HM.out hjn hsm
        have own6 := ownsRow_keep S.own b56
        have rw6 := S.rw'.keep b56
        have r6 := hr5.keep b6
        have below6 := S.below.trans (b56.mono S.le)
        have le6 := Nat.le_trans S.le b56.size
        have qz6 := S.qz
        have hg6 : g1 < w6.heap.size := Nat.lt_of_lt_of_le hg5 b56.size
        clear hsm S b5 b6 b56 hr5 hB5
        generalize movedL r 1 (at' l j) = r' at *
        go_wp2_with fail
        refine (flip_rd _ _ _ _ _ _ rw6 (by simp [HM.out]) (by omega) (by omega)).mono ?_
        rintro e w7 ⟨⟨g7, cap7, rfl, hr7, hc7, hm7, hB7⟩, b7⟩
        go_wp2_with fail
        refine (plus_rd _ _ _ _ _ _ _ _ _ _ _ (r6.keep b7) hr7 HL5.out (by rw [flipL_length]; simp [HM.out]) (by omega) (by omega)).mono ?_
        rintro e w8 ⟨⟨g8, cap8, rfl, hr8, hc8, hm8, hB8⟩, b8⟩
        have b78 := b7.trans (b8.mono b7.size)
        have own8 := ownsRow_keep own6 b78
        have hcell : w8.cell? ⟨g1, j, none⟩ = some (.bool false) := by
          rw [own8.cellAt j (by omega)]
          have := qz6 j (by omega)
          have hlq : j < q.length := by
            have := own8.1
            simp at this
            omega
          simp only [at', List.getD_eq_getElem?_getD, List.getElem?_eq_getElem hlq, Option.getD_some] at this
          simp [List.getElem?_map, List.getElem?_eq_getElem hlq, this]
        have hfz := own8.frozenAt j
        have hst := own8.stored j (.bool true)
        have nS : DivRel l m n B g1 cap1 gw g8 j (q.set j true) (plusL r' (flipL (m ++ [false])) true) w (w8.setCell ⟨g1, j, none⟩ (.bool true)) := by
          have hlt8 := Nat.lt_of_lt_of_le hg6 b7.size
          refine ⟨hok, qz6.set, by rw [List.map_set]; exact hst.1, hr8.stored (by omega) _, (rw6.keep b78).stored hgw _, by omega, (below6.trans (b78.mono le6)).setCell ?_ _, by simpa [World.setCell] using Nat.le_trans le6 b78.size⟩
          have := (own8.lt g1 rfl).1
          exact this
        have hg9 : g1 < (w8.setCell ⟨g1, j, none⟩ (.bool true)).heap.size := by simpa [World.setCell] using Nat.lt_of_lt_of_le hg6 b78.size
        clear hst hok own6 rw6 r6 qz6 hr7 b7 b8 b78 own8 hr8 hg6
        go_wp2_with fail
        go_roundw
        case rel => exact ⟨(j : Int) - 1, _, _, g8, cap8, by omega, by omega, by go_num, rfl, hg9, hc8, by rw [show ((j : Int) - 1 + 1).toNat = j by omega]; exact nS⟩
        case measure => simp [intOf]
    · have S0 := S
      rw [show (k + 1).toNat = 0 by omega] at S0
      clear S
      have hz : lessL (List.replicate n false) m = decide (0 < ofL m) := by rw [less_ofL _ _ (by rw [HM.out]; simp), ofL_replicate]
      have hcr' : n ≤ cr := by omega
      by_cases hD : 0 < ofL m
      · rw [decide_eq_true hD] at hz
        go_wp2_with fail
        refine (zero_int _ (by omega) (by omega) _).mono ?_
        rintro e w5 ⟨⟨g5, cap5, rfl, hr5, hc5, hm5, hB5⟩, b5⟩
        rw [Int.toNat_natCast] at *
        go_wp2_with fail
        refine (less_any _ _ _ _ _ _ _ _ _ (by simp) HM.out _ hr5 ((hr2.below S0.below hgB2).keep b5) (by omega)).mono ?_
        rintro e w6 ⟨rfl, b6⟩
        have b56 := b5.trans (b6.mono b5.size)
        have hn1 : (0 : Int) ≤ (n : Int) := by omega
        have hn2 : (n : Int) ≤ (cr : Int) := by omega
        go_wp2_with fail
        go_quiet (fail)
        go_wp2
        go_ret2
        have hsum := S0.ok.sum hD
        have hlt := S0.ok.lt hD
        rw [List.drop_zero, List.drop_zero] at hsum
        have hdu := div_unique _ _ _ _ hsum hlt
        have hm2 := ofL_lt m
        rw [HM.out] at hm2
        have htk := ofL_take_succ r n (by rw [S0.ok.lr]; omega)
        rw [List.take_of_length_le (by rw [S0.ok.lr]; omega)] at htk
        have hR : ofL (r.take n) = ofL r := by
          cases hb : at' r n
          · rw [hb] at htk; simp at htk; omega
          · rw [hb] at htk; simp at htk; omega
        have hq6 := (rd_of_owns (ownsRow_keep S0.own b56) h1)
        obtain ⟨g', cap', e1, _, _, hlq, _, hrq⟩ := hq6
        simp only [Value.slice.injEq, Option.some.injEq, Addr.mk.injEq, and_true, true_and] at e1
        obtain ⟨rfl, rfl⟩ := e1
        have hb7 := below_drewN (Below.refl w6.heap.size w6) nq
        have hrr := ((S0.rd.keep b56).slice 0 n (by rw [S0.ok.lr]; omega)).keep hb7
        rw [List.drop_zero] at hrr
        exact ⟨⟨g1, cap1, gr, 0, cr, q, r.take n, rfl, hrq.keep hb7, hrr, hlq, by rw [List.length_take, S0.ok.lr]; omega, fun _ => ⟨hdu.1, by rw [hR]; exact hdu.2⟩, fun h => absurd h (by omega)⟩, below_drewN (S0.below.trans (b56.mono S0.le)) _⟩
      · rw [decide_eq_false hD] at hz
        go_wp2_with fail
        refine (zero_int _ (by omega) (by omega) _).mono ?_
        rintro e w5 ⟨⟨g5, cap5, rfl, hr5, hc5, hm5, hB5⟩, b5⟩
        rw [Int.toNat_natCast] at *
        go_wp2_with fail
        refine (less_any _ _ _ _ _ _ _ _ _ (by simp) HM.out _ hr5 ((hr2.below S0.below hgB2).keep b5) (by omega)).mono ?_
        rintro e w6 ⟨rfl, b6⟩
        have b56 := b5.trans (b6.mono b5.size)
        go_wp2_with fail
        refine (zero_int _ (by omega) (by omega) _).mono ?_
        rintro e w7 ⟨⟨g7, cap7, rfl, hr7, hc7, hm7, hB7⟩, b7⟩
        rw [Int.toNat_natCast] at *
        go_wp2_with fail
        refine (flip_rd _ _ _ _ _ _ hr7 (by simp) h1 (by omega)).mono ?_
        rintro e w8 ⟨⟨g8, cap8, rfl, hr8, hc8, hm8, hB8⟩, b8⟩
        have b58 := b56.trans ((b7.trans (b8.mono b7.size)).mono b56.size)
        go_wp2_with fail
        go_ret2
        exact ⟨⟨g8, cap8, g, off, cap, flipL (List.replicate n false), l, rfl, hr8, (hr.below S0.below hgB).keep b58, by simp [flipL_length], HL.out, fun h => absurd h (by omega), fun _ => ⟨by rw [ofL_flip, ofL_replicate]; simp, rfl⟩⟩, S0.below.trans (b58.mono S0.le)⟩
end Go.Proofs.Ytkfgkoiinjhgnaa
