import Derived.Test.YtkfgkoiinjhgnaaL1
namespace Go.Proofs.Ytkfgkoiinjhgnaa
open Go.RowKit

theorem of_yes (l : List Bool) (j n x : Nat) (hl : l.length = n) (h : j < n) (hx : x = ofL (l.drop (j + 1))) (hb : at' l j = true) : 2 * (x : Int) + 1 = ((ofL (l.drop ((j : Int) - 1 + 1).toNat) : Nat) : Int) := by
  rw [show ((j : Int) - 1 + 1).toNat = j by omega, ofL_drop l j (by omega), hb, ← hx]; simp; omega
theorem of_no (l : List Bool) (j n x : Nat) (hl : l.length = n) (h : j < n) (hx : x = ofL (l.drop (j + 1))) (hb : at' l j = false) : 2 * (x : Int) = ((ofL (l.drop ((j : Int) - 1 + 1).toNat) : Nat) : Int) := by
  rw [show ((j : Int) - 1 + 1).toNat = j by omega, ofL_drop l j (by omega), hb, ← hx]; simp

set_option maxHeartbeats 400000 in
theorem of_any (g off n cap : Nat) (l : List Bool) (hl : l.length = n) (w : World) (hr : Rd w g off l) (hn : n ≤ 64) :
    Calls Try.prog 36 #[.slice (some ⟨g, off, none⟩) n cap] w fun e w' => e = .returned (.int .u64 (ofL l : Nat)) ∧ w = w' := by
  have HL := Lib.hid hl
  go_enter Try.func36, Try.ntmps36
  go_wp2
  go_loop [3, 4] (fun u i => ∃ k : Int, -1 ≤ k ∧ k < n ∧ i = .int .i64 k ∧ u = .int .u64 ((ofL (l.drop (k + 1).toNat) : Nat) : Int)) (fun _ i => (intOf i + 1).toNat)
  case atStart => exact ⟨(n : Int) - 1, by omega, by omega, rfl, by rw [show ((n : Int) - 1 + 1).toNat = n by omega, List.drop_of_length_le (by omega)]; rfl⟩
  case round =>
    obtain ⟨k, hk1, hk2, rfl, rfl⟩ := hrel
    by_cases h0 : 0 ≤ k
    · obtain ⟨j, rfl⟩ := Int.eq_ofNat_of_zero_le h0
      rw [show ((j : Int) + 1).toNat = j + 1 by omega]
      have hle := ofL_drop_lt l j n HL.out (by omega) hn
      obtain ⟨x, hx⟩ : ∃ x, x = ofL (l.drop (j + 1)) := ⟨_, rfl⟩
      rw [← hx] at hle ⊢
      have HX := Lib.hid hx
      clear hx hl
      have hc := hr.cell j (by rw [HL.out]; omega)
      have hlt : (j : Int) < (n : Int) := by omega
      obtain ⟨b, hb⟩ : ∃ b, b = l.getD j false := ⟨_, rfl⟩
      rw [← hb] at hc
      have HB := Lib.hid hb
      clear hb
      cases b
      · go_wp2
        go_round
        case rel => exact ⟨(j : Int) - 1, by omega, by omega, by go_num, val_int (of_no l j n x HL.out (by omega) HX.out HB.out.symm)⟩
        case measure => simp [intOf]
      · go_wp2
        go_round
        case rel => exact ⟨(j : Int) - 1, by omega, by omega, by go_num, val_int (of_yes l j n x HL.out (by omega) HX.out HB.out.symm)⟩
        case measure => simp [intOf]
    · go_wp2
      go_ret
      exact ⟨by rw [show (k + 1).toNat = 0 by omega]; rfl, rfl⟩
end Go.Proofs.Ytkfgkoiinjhgnaa
