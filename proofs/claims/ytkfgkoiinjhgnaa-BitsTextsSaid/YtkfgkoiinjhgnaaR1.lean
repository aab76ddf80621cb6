import Derived.Test.YtkfgkoiinjhgnaaK1
namespace Go.Proofs.Ytkfgkoiinjhgnaa
open Go.RowKit

set_option maxHeartbeats 400000 in
theorem bits_any (u : Nat) (n : Nat) (hu : u ≤ 18446744073709551615) (hn : n ≤ 64) (w : World) :
    Calls Try.prog 32 #[.int .u64 u, .int .i64 n] w fun e w' => ∃ v, e = .returned v ∧ w'.ownsRow w.heap.size 4 1 v n ((bitsL u n).map Value.bool) ∧ Below w.heap.size w w' := by
  obtain ⟨B, hB⟩ : ∃ B, B = w.heap.size := ⟨_, rfl⟩
  have HB := Lib.hid hB
  rw [← hB]
  clear hB
  go_enter Try.func32, Try.ntmps32
  go_wp2
  go_loopw [0, 5, 6] (fun a v i wr => ∃ k : Nat, k ≤ n ∧ i = .int .i64 k ∧ a = .int .u64 ((u / 2 ^ k : Nat) : Int) ∧ wr.ownsRow B 4 1 v k ((bitsL u k).map Value.bool) ∧ Below B w wr ∧ B ≤ wr.heap.size)
    (fun _ _ i _ => n - (intOf i).toNat)
  case atStart => exact ⟨0, by omega, rfl, by simp, World.ownsRow_nil _ _ _ _, Below.refl _ _, by rw [HB.out]; exact Nat.le_refl _⟩
  case round =>
    obtain ⟨k, hk, rfl, rfl, hown, hb, hs⟩ := hrel
    have hle : u / 2 ^ k ≤ 18446744073709551615 := Nat.le_trans (Nat.div_le_self _ _) hu
    obtain ⟨q, hq⟩ : ∃ q, q = u / 2 ^ k := ⟨_, rfl⟩
    rw [← hq] at hle ⊢
    have HQ := Lib.hid hq
    clear hq
    by_cases hlt : k < n
    · go_wp2_with (at_builtin; refine wpList_app rfl (.tmp 12) (.tmp 16) rfl B _ k (bitsL u k) ((q : Int) % 2 == 1) rfl rfl hown hb hs (by omega) ?_; intro v' w1 hown' hb' hs')
      go_roundw
      case rel => exact ⟨k + 1, by omega, by go_num, val_int (half_step u k q HQ.out), by rw [← bits_step u k q HQ.out]; exact hown', hb', hs'⟩
      case measure => simp [intOf]; omega
    · obtain rfl : k = n := by omega
      go_wp2_with fail
      go_ret
      exact ⟨_, rfl, hown, hb⟩

end Go.Proofs.Ytkfgkoiinjhgnaa
