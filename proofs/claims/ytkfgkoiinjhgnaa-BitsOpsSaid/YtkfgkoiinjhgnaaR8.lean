import Derived.Test.YtkfgkoiinjhgnaaR7
import Derived.Test.YtkfgkoiinjhgnaaS2
import Derived.Test.YtkfgkoiinjhgnaaW1
import Derived.Test.YtkfgkoiinjhgnaaR5
import Derived.WalkLawsBesides
namespace Go.Proofs.Ytkfgkoiinjhgnaa
open Go.RowKit

set_option maxHeartbeats 800000 in
theorem times_any (g off n cap g2 off2 cap2 : Nat) (l m : List Bool) (w : World) (hr : Rd w g off l) (hr2 : Rd w g2 off2 m) (hl : l.length = n) (hm : m.length = n) (h1 : 1 ≤ n) (hn : n ≤ 1000) :
    Calls Try.prog 57 #[.slice (some ⟨g, off, none⟩) n cap, .slice (some ⟨g2, off2, none⟩) n cap2] w fun e w' => (∃ g cap, e = .returned (.slice (some ⟨g, 0, none⟩) n cap) ∧ Rd w' g 0 (timesN l m n)) ∧ Below w.heap.size w w' := by
  obtain ⟨B, hB⟩ : ∃ B, B = w.heap.size := ⟨_, rfl⟩
  have HL := Lib.hid hl
  have HM := Lib.hid hm
  have hgB : g < B := by rw [hB]; exact hr.lt
  have hgB2 : g2 < B := by rw [hB]; exact hr2.lt
  have hBle : B ≤ w.heap.size := Nat.le_of_eq hB
  rw [← hB]
  clear hB hl hm
  go_enter Try.func57, Try.ntmps57
  go_wp2_with fail
  refine (zero_int _ (by omega) (by omega) _).mono ?_
  rintro e w1 ⟨⟨g1, cap1, rfl, hr1, hc1, hm1, hB1⟩, b1⟩
  rw [Int.toNat_natCast] at *
  have c1 := below_two (Below.refl B w) hBle b1
  have hz : List.replicate n false = timesN l m 0 := by rw [timesN, HL.out]
  rw [hz] at hr1
  clear hz hm1 hc1
  go_wp2_with fail
  go_loopw [5, 6] (fun v i wr => ∃ k g cap : Nat, k ≤ n ∧ i = .int .i64 k ∧ v = .slice (some ⟨g, 0, none⟩) n cap ∧ Rd wr g 0 (timesN l m k) ∧ Below B w wr ∧ B ≤ wr.heap.size) (fun _ i _ => n - (intOf i).toNat)
  case atStart => exact ⟨0, g1, cap1, by omega, rfl, rfl, hr1, c1.1, c1.2⟩
  case round =>
    clear hr1 c1 b1 hB1
    obtain ⟨k, gk, ck, hk, rfl, rfl, hrk, hb, hs⟩ := hrel
    by_cases hlt : k < n
    · have hc := (hr2.below hb hgB2).cell k (by rw [HM.out]; exact hlt)
      rw [show m.getD k false = at' m k from rfl] at hc
      have hstep : timesN l m (k + 1) = if at' m k then plusL (timesN l m k) (movedL l k false) false else timesN l m k := rfl
      generalize at' m k = x at hc hstep
      have HS := Lib.hid hstep
      clear hstep
      cases x
      · go_wp2_with fail
        go_roundw
        case rel => exact ⟨k + 1, gk, ck, by omega, by go_num, rfl, by rw [HS.out]; exact hrk, hb, hs⟩
        case measure => simp [intOf]; omega
      · go_wp2_with fail
        refine (moved_rd _ _ _ _ _ _ _ _ (hr.below hb hgB) HL.out h1 hn (by omega) (by omega)).mono ?_
        rintro e w2 ⟨⟨g3, cap3, rfl, hr3, hc3, hm3, hB3⟩, b3⟩
        have c3 := below_two hb hs b3
        go_wp2_with fail
        refine (plus_rd _ _ _ _ _ _ _ _ _ _ _ (hrk.keep b3) hr3 (by rw [timesN_length, HL.out]) (by rw [movedL_length, HL.out]) h1 hn).mono ?_
        rintro e w3 ⟨⟨g4, cap4, rfl, hr4, hc4, hm4, hB4⟩, b4⟩
        have c4 := below_two c3.1 c3.2 b4
        clear hr3 hc3 hm3 hB3 b3 c3 hc4 hm4 hB4 b4
        go_wp2_with fail
        go_roundw
        case rel => exact ⟨k + 1, g4, cap4, by omega, by go_num, rfl, by rw [HS.out]; exact hr4, c4.1, c4.2⟩
        case measure => simp [intOf]; omega
    · obtain rfl : k = n := by omega
      go_wp2_with fail
      go_ret
      exact ⟨⟨gk, ck, rfl, hrk⟩, hb⟩

theorem place_at (l : List Bool) (j n x : Nat) (b : Bool) (hl : l.length = n) (h : j < n) (hx : PlaceOk x (ofL (l.drop (j + 1)))) (hb : at' l j = b) : PlaceOk (min (2 * x) 64 + b.toNat) (ofL (l.drop j)) := by
  rw [ofL_drop l j (by omega), hb, Nat.add_comm b.toNat]
  exact place_step x _ _ hx (by cases b <;> simp)

def placesL (l : List Bool) (n : Nat) : Nat := min (ofL l) n
set_option maxHeartbeats 800000 in
theorem places_any (g off n cap : Nat) (l : List Bool) (w : World) (hr : Rd w g off l) (hl : l.length = n) (hn : n ≤ 64) :
    Calls Try.prog 59 #[.slice (some ⟨g, off, none⟩) n cap] w fun e w' => e = .returned (.int .i64 (placesL l n : Nat)) ∧ w = w' := by
  have HL := Lib.hid hl
  go_enter Try.func59, Try.ntmps59
  go_wp2
  go_loop [3, 4] (fun u i => ∃ (k : Int) (x : Nat), -1 ≤ k ∧ k < n ∧ i = .int .i64 k ∧ u = .int .i64 x ∧ PlaceOk x (ofL (l.drop (k + 1).toNat))) (fun _ i => (intOf i + 1).toNat)
  case atStart => exact ⟨(n : Int) - 1, 0, by omega, by omega, rfl, rfl, by rw [show ((n : Int) - 1 + 1).toNat = n by omega, List.drop_of_length_le (by omega)]; exact ⟨fun _ => rfl, fun h => absurd h (by simp [ofL]), by omega⟩⟩
  case round =>
    obtain ⟨k, x, hk1, hk2, rfl, rfl, hx⟩ := hrel
    have hx65 : x ≤ 65 := hx.2.2
    have HX := Lib.hid hx
    clear hx
    by_cases h0 : 0 ≤ k
    · obtain ⟨j, rfl⟩ := Int.eq_ofNat_of_zero_le h0
      clear hl
      have hc := hr.cell j (by rw [HL.out]; omega)
      have hlt : (j : Int) < (n : Int) := by omega
      obtain ⟨b, hb⟩ : ∃ b, b = l.getD j false := ⟨_, rfl⟩
      rw [← hb] at hc
      have HB := Lib.hid hb
      clear hb
      have hp : ∀ b : Bool, b = l.getD j false → PlaceOk (min (2 * x) 64 + b.toNat) (ofL (l.drop j)) := fun b hb => place_at l j n x b HL.out (by omega) (by have := HX.out; rw [show ((j : Int) + 1).toNat = j + 1 by omega] at this; exact this) hb.symm
      have HP := Lib.hid hp
      clear hp
      by_cases hx32 : x ≤ 32
      all_goals
        cases b
        · go_wp2
          go_round
          case rel => exact ⟨(j : Int) - 1, min (2 * x) 64 + Bool.toNat false, by omega, by omega, by go_num, val_int (by simp only [Bool.toNat_false]; first | omega | (split <;> omega)), by rw [show ((j : Int) - 1 + 1).toNat = j by omega]; exact HP.out _ HB.out⟩
          case measure => simp [intOf]
        · go_wp2
          go_round
          case rel => exact ⟨(j : Int) - 1, min (2 * x) 64 + Bool.toNat true, by omega, by omega, by go_num, val_int (by simp only [Bool.toNat_true]; first | omega | (split <;> omega)), by rw [show ((j : Int) - 1 + 1).toNat = j by omega]; exact HP.out _ HB.out⟩
          case measure => simp [intOf]
    · have hend : ∀ y : Nat, y = min x n → placesL l n = y := fun y hy => by
        have h2 := HX.out
        rw [show (k + 1).toNat = 0 by omega] at h2
        rw [hy, place_end x _ n h2 hn]; rfl
      have HE := Lib.hid hend
      clear hend
      go_wp2
      all_goals
        go_ret
        exact ⟨by rw [HE.out _ rfl]; exact ret_int (by omega), rfl⟩

/-! ### divided -/
/-- The dividend's bits from i on, divided so far: the quotient's bits from i on and the rest. -/
structure DivOk (a b q r : List Bool) (n i : Nat) : Prop where
  lq : q.length = n
  lr : r.length = n + 1
  sum : 0 < ofL b → ofL (a.drop i) = ofL (q.drop i) * ofL b + ofL r
  lt : 0 < ofL b → ofL r < ofL b
theorem DivOk.start (a b : List Bool) (n : Nat) (hl : a.length = n) : DivOk a b (List.replicate n false) (List.replicate (n + 1) false) n n :=
  ⟨by simp, by simp, fun _ => by rw [List.drop_of_length_le (by omega), List.drop_of_length_le (by simp), ofL_replicate]; simp [ofL], fun h => by rw [ofL_replicate]; exact h⟩
theorem set_drop (q : List Bool) (j : Nat) (x : Bool) (h : j < q.length) : ofL ((q.set j x).drop j) = x.toNat + 2 * ofL (q.drop (j + 1)) := by
  rw [ofL_drop _ j (by simpa using h)]
  have e1 : at' (q.set j x) j = x := by simp [at', List.getD, h]
  have e2 : (q.set j x).drop (j + 1) = q.drop (j + 1) := by rw [List.drop_set_of_lt (by omega)]
  rw [e1, e2]
theorem DivOk.small {a b q r : List Bool} {n j : Nat} (h : DivOk a b q r n (j + 1)) (hl : a.length = n) (hb : b.length = n) (hj : j < n) (hq : at' q j = false)
    (hs : ofL (movedL r 1 (at' a j)) < ofL b) : DivOk a b q (movedL r 1 (at' a j)) n j := by
  have hD := ofL_lt b
  rw [hb] at hD
  refine ⟨h.lq, by rw [movedL_length, h.lr], fun h0 => ?_, fun h0 => hs⟩
  have hlt := h.lt h0
  have hv : ofL (movedL r 1 (at' a j)) = 2 * ofL r + (at' a j).toNat := by
    rw [ofL_moved_one, h.lr, Nat.pow_succ]
    exact Nat.mod_eq_of_lt (by cases at' a j <;> simp <;> omega)
  rw [ofL_drop a j (by omega), ofL_drop q j (by rw [h.lq]; exact hj), hq, hv]
  rw [hv] at hs
  have := (div_step (ofL b) (ofL r) (ofL (q.drop (j + 1))) (ofL (a.drop (j + 1))) (at' a j).toNat (2 ^ n) (h.sum h0) hlt (by cases at' a j <;> simp) (by omega)).1 hs
  simp only [Bool.toNat_false, Nat.zero_add]
  omega
theorem DivOk.big {a b q r : List Bool} {n j : Nat} (h : DivOk a b q r n (j + 1)) (hl : a.length = n) (hb : b.length = n) (hj : j < n)
    (hs : ¬ ofL (movedL r 1 (at' a j)) < ofL b) : DivOk a b (q.set j true) (plusL (movedL r 1 (at' a j)) (flipL (b ++ [false])) true) n j := by
  have hD := ofL_lt b
  rw [hb] at hD
  have hlr : (movedL r 1 (at' a j)).length = n + 1 := by rw [movedL_length, h.lr]
  have hw : ofL (b ++ [false]) = ofL b := by rw [ofL_append]; simp [ofL]
  have hfl : (flipL (b ++ [false])).length = n + 1 := by rw [flipL_length]; simp [hb]
  refine ⟨by rw [List.length_set, h.lq], by rw [plusL_length, hlr], fun h0 => ?_, fun h0 => ?_⟩
  all_goals
    have hlt := h.lt h0
    have hv : ofL (movedL r 1 (at' a j)) = 2 * ofL r + (at' a j).toNat := by
      rw [ofL_moved_one, h.lr, Nat.pow_succ]
      exact Nat.mod_eq_of_lt (by cases at' a j <;> simp <;> omega)
    rw [hv] at hs
    have key := (div_step (ofL b) (ofL r) (ofL (q.drop (j + 1))) (ofL (a.drop (j + 1))) (at' a j).toNat (2 ^ n) (h.sum h0) hlt (by cases at' a j <;> simp) (by omega)).2 hs
    have hp : ofL (plusL (movedL r 1 (at' a j)) (flipL (b ++ [false])) true) = 2 * ofL r + (at' a j).toNat - ofL b := by
      rw [ofL_plus _ _ _ (by rw [hfl, hlr]), hlr, hv, ofL_flip, hw]
      simp only [List.length_append, hb, List.length_singleton, Bool.toNat_true]
      rw [Nat.pow_succ, Nat.mul_comm (2 ^ n) 2]
      exact key.1
    rw [hp]
  · rw [ofL_drop a j (by omega), set_drop q j true (by rw [h.lq]; exact hj)]
    simp only [Bool.toNat_true]
    have := key.2.2
    rw [Nat.add_comm 1]
    omega
  · exact key.2.1
end Go.Proofs.Ytkfgkoiinjhgnaa
