/- Contract of bits.Parse. -/
import Derived.Test.YtkfgkoiinjhgnaaN1
namespace Go.Proofs.Ytkfgkoiinjhgnaa
open Go.RowKit

set_option maxHeartbeats 1600000 in
theorem parse_short (s : ByteArray) (h : (s.size : Int) < 3) (w : World) :
    Calls Try.prog 29 #[.string s] w fun e w' => e = .returned (.tuple #[.int .u64 0, .int .i64 0, .int .i64 2]) ∧ w = w' := by
  go_enter Try.func29, Try.ntmps29
  go_wp2_with fail
  go_ret3
  exact ⟨rfl, rfl⟩
set_option maxHeartbeats 1600000 in
theorem parse_head (s : ByteArray) (h : ¬ (s.size : Int) < 3) (hs : s.size ≤ 1000) (h0 : ¬ byZ s 0 = 35) (w : World) :
    Calls Try.prog 29 #[.string s] w fun e w' => e = .returned (.tuple #[.int .u64 0, .int .i64 0, .int .i64 2]) ∧ w = w' := by
  have g0 := byZ_get s 0 (by omega)
  go_enter Try.func29, Try.ntmps29
  go_wp2_with fail
  go_ret3
  exact ⟨rfl, rfl⟩
set_option maxHeartbeats 1600000 in
theorem parse_mark (s : ByteArray) (h : ¬ (s.size : Int) < 3) (hs : s.size ≤ 1000) (h0 : byZ s 0 = 35) (h1 : ¬ byZ s 1 = 98) (h2 : ¬ byZ s 1 = 120) (w : World) :
    Calls Try.prog 29 #[.string s] w fun e w' => e = .returned (.tuple #[.int .u64 0, .int .i64 0, .int .i64 2]) ∧ w = w' := by
  have g0 := byZ_get s 0 (by omega)
  have g1 := byZ_get s 1 (by omega)
  go_enter Try.func29, Try.ntmps29
  go_wp2_with fail
  go_ret3
  exact ⟨rfl, rfl⟩
set_option maxHeartbeats 1600000 in
theorem parse_long1 (s : ByteArray) (h : ¬ (s.size : Int) < 3) (hs : s.size ≤ 1000) (h0 : byZ s 0 = 35) (h1 : byZ s 1 = 98) (h2 : 64 < (s.size : Int) - 2) (w : World) :
    Calls Try.prog 29 #[.string s] w fun e w' => e = .returned (.tuple #[.int .u64 0, .int .i64 0, .int .i64 2]) ∧ w = w' := by
  have g0 := byZ_get s 0 (by omega)
  have g1 := byZ_get s 1 (by omega)
  go_enter Try.func29, Try.ntmps29
  go_wp2_with fail
  go_ret3
  exact ⟨rfl, rfl⟩
set_option maxHeartbeats 3200000 in
theorem parse_ok1 (s : ByteArray) (m : Nat) (hm : s.size = m + 2) (h3 : 1 ≤ m) (h4 : m ≤ 64) (h0 : byZ s 0 = 35) (h1 : byZ s 1 = 98) (hD : ∀ j, j < m → dgZ s j < powZ 1) (w : World) :
    Calls Try.prog 29 #[.string s] w fun e w' => e = .returned (.tuple #[.int .u64 (valF (dgZ s) (powZ 1) m), .int .i64 (m : Int), .int .i64 0]) ∧ w = w' := by
  have g0 := byZ_get s 0 (by omega)
  have g1 := byZ_get s 1 (by omega)
  have HD := Lib.hid hD
  clear hD
  have i1 : (s.size : Int) = (m : Int) + 2 := by omega
  have i2 : ¬ ((m : Int) + 2) < 3 := by omega
  have i3 : (m : Int) ≤ 64 := by omega
  go_enter Try.func29, Try.ntmps29
  go_wp2_with fail
  go_loopw [6, 7] (fun u i wr => wr = w ∧ ∃ k : Nat, k ≤ m ∧ i = .int .i64 (k + 2) ∧ u = .int .u64 (valF (dgZ s) (powZ 1) k)) (fun _ i _ => m + 2 - (intOf i).toNat)
  case atStart => exact ⟨rfl, 0, by omega, rfl, rfl⟩
  case round =>
    obtain ⟨rfl, k, hk, rfl, rfl⟩ := hrel
    by_cases hlt : k < m
    · have gk := byZ_get s (k + 2) (by omega)
      have hd : dvZ (byZ s (k + 2)) < powZ 1 := HD.out k hlt
      have hst := val_step (dgZ s) 1 k (by omega) (by omega) (by omega) fun j hj => ⟨(dgZ_range s j).1, HD.out j (by omega)⟩
      rw [show dgZ s k = dvZ (byZ s (k + 2)) from rfl] at hst
      have hr := byZ_range s (k + 2)
      generalize byZ s (k + 2) = b at *
      have j1 : (k : Int) + 2 < (m : Int) + 2 := by omega
      have hp : maskZ 1 = 1 := rfl
      have hp2 : powZ 1 = 2 := rfl
      rw [hp2] at hd
      unfold dvZ at hd
      have hcase : (48 ≤ b ∧ b ≤ 57 ∧ dvZ b = b - 48 ∧ b - 48 < 2)  := by
        unfold dvZ
        by_cases p : 48 ≤ b ∧ b ≤ 57
        · rw [if_pos p] at hd ⊢; exact ⟨p.1, p.2, rfl, hd⟩
        · rw [if_neg p] at hd
          by_cases q : 97 ≤ b ∧ b ≤ 102
          · rw [if_pos q] at hd; omega
          · rw [if_neg q] at hd; omega
      clear hd
      obtain ⟨b1, b2, e1, b3⟩ := hcase
      have k1 : IntKind.u8.wrap (b - 48) = b - 48 := IntWalk.u8_in _ (by omega)
      have k2 : IntKind.u64.wrap (b - 48) = b - 48 := IntWalk.u64_in _ (by omega)
      have k3 : ¬ maskZ 1 < b - 48 := by rw [hp]; omega
      have HS : Hid (bits .or .u64 (IntKind.u64.wrap (valF (dgZ s) (powZ 1) k * 2)) (b - 48) = valF (dgZ s) (powZ 1) (k + 1)) := Lib.hid (by rw [e1] at hst; exact hst)
      clear hp hp2 hst
      go_wp2_with (go_at_call 38; refine (mask_any 1 (by decide) (by decide) _).mono ?_; rintro e w' ⟨rfl, rfl⟩)
      go_roundw
      case rel => exact ⟨trivial, k + 1, by omega, by go_num, val_int HS.out⟩
      case measure => simp [intOf]; omega

    · obtain rfl : k = m := by omega
      go_wp2_with fail
      go_ret3
      exact ⟨rfl, rfl⟩
set_option maxHeartbeats 3200000 in
theorem parse_bad1 (s : ByteArray) (m : Nat) (hm : s.size = m + 2) (h3 : 1 ≤ m) (h4 : m ≤ 64) (h0 : byZ s 0 = 35) (h1 : byZ s 1 = 98) (hD : ¬ ∀ j, j < m → dgZ s j < powZ 1) (w : World) :
    Calls Try.prog 29 #[.string s] w fun e w' => e = .returned (.tuple #[.int .u64 0, .int .i64 0, .int .i64 2]) ∧ w = w' := by
  have g0 := byZ_get s 0 (by omega)
  have g1 := byZ_get s 1 (by omega)
  have HD := Lib.hid hD
  clear hD
  have i1 : (s.size : Int) = (m : Int) + 2 := by omega
  have i2 : ¬ ((m : Int) + 2) < 3 := by omega
  have i3 : (m : Int) ≤ 64 := by omega
  go_enter Try.func29, Try.ntmps29
  go_wp2_with fail
  go_loopw [6, 7] (fun u i wr => wr = w ∧ ∃ k : Nat, k ≤ m ∧ i = .int .i64 (k + 2) ∧ (∀ j, j < k → dgZ s j < powZ 1) ∧ ∃ x : Int, u = .int .u64 x) (fun _ i _ => m + 2 - (intOf i).toNat)
  case atStart => exact ⟨rfl, 0, by omega, rfl, fun _ h => by omega, _, rfl⟩
  case round =>
    obtain ⟨rfl, k, hk, rfl, hj, x, rfl⟩ := hrel
    by_cases hlt : k < m
    · have gk := byZ_get s (k + 2) (by omega)
      have hdk : dgZ s k = dvZ (byZ s (k + 2)) := rfl
      have hr := byZ_range s (k + 2)
      generalize byZ s (k + 2) = b at *
      have j1 : (k : Int) + 2 < (m : Int) + 2 := by omega
      have hp : maskZ 1 = 1 := rfl
      have hp2 : powZ 1 = 2 := rfl
      by_cases r1 : b < 48
      · clear hp hp2 hdk
        have r2 : ¬ 97 ≤ b := by omega
        go_wp2_with (go_at_call 38; refine (mask_any 1 (by decide) (by decide) _).mono ?_; rintro e w' ⟨rfl, rfl⟩)
        go_ret3
        exact ⟨rfl, rfl⟩
      by_cases r2 : b ≤ 57
      · by_cases r3 : b - 48 < 2
        · have r4 : 48 ≤ b := by omega
          have k1 : IntKind.u8.wrap (b - 48) = b - 48 := IntWalk.u8_in _ (by omega)
          have k2 : IntKind.u64.wrap (b - 48) = b - 48 := IntWalk.u64_in _ (by omega)
          have k3 : ¬ maskZ 1 < b - 48 := by rw [hp]; omega
          go_wp2_with (go_at_call 38; refine (mask_any 1 (by decide) (by decide) _).mono ?_; rintro e w' ⟨rfl, rfl⟩)
          go_roundw
          case rel => exact ⟨trivial, k + 1, by omega, by go_num, fun j hjk => by (rcases Nat.lt_succ_iff_lt_or_eq.1 hjk with h | rfl; exact hj j h; rw [hdk, hp2]; unfold dvZ; rw [if_pos ⟨r4, r2⟩]; omega), _, rfl⟩
          case measure => simp [intOf]; omega
        · have r4 : 48 ≤ b := by omega
          have k1 : IntKind.u8.wrap (b - 48) = b - 48 := IntWalk.u8_in _ (by omega)
          have k2 : IntKind.u64.wrap (b - 48) = b - 48 := IntWalk.u64_in _ (by omega)
          have k3 : maskZ 1 < b - 48 := by rw [hp]; omega
          clear hp hp2
          go_wp2_with (go_at_call 38; refine (mask_any 1 (by decide) (by decide) _).mono ?_; rintro e w' ⟨rfl, rfl⟩)
          go_ret3
          exact ⟨rfl, rfl⟩
      by_cases r5 : b < 97
      · have r6 : 48 ≤ b := by omega
        clear hp hp2
        go_wp2_with (go_at_call 38; refine (mask_any 1 (by decide) (by decide) _).mono ?_; rintro e w' ⟨rfl, rfl⟩)
        go_ret3
        exact ⟨rfl, rfl⟩
      by_cases r6 : b ≤ 102
      · have r7 : 97 ≤ b := by omega
        have k0 : ¬ b ≤ 57 := by omega
        have k5 : 48 ≤ b := by omega
        have k1 : IntKind.u8.wrap (b - 97) = b - 97 := IntWalk.u8_in _ (by omega)
        have k2 : IntKind.u64.wrap (b - 97) = b - 97 := IntWalk.u64_in _ (by omega)
        have k4 : IntKind.u64.wrap (b - 97 + 10) = b - 87 := by rw [IntWalk.u64_in _ (by omega)]; omega
        have k3 : maskZ 1 < b - 87 := by rw [hp]; omega
        clear hp hp2
        go_wp2_with (go_at_call 38; refine (mask_any 1 (by decide) (by decide) _).mono ?_; rintro e w' ⟨rfl, rfl⟩)
        go_ret3
        exact ⟨rfl, rfl⟩
      have r7 : 97 ≤ b := by omega
      have r8 : 48 ≤ b := by omega
      clear hp hp2
      go_wp2_with (go_at_call 38; refine (mask_any 1 (by decide) (by decide) _).mono ?_; rintro e w' ⟨rfl, rfl⟩)
      go_ret3
      exact ⟨rfl, rfl⟩
    · obtain rfl : k = m := by omega
      exact absurd hj HD.out
set_option maxHeartbeats 1600000 in
theorem parse_long4 (s : ByteArray) (h : ¬ (s.size : Int) < 3) (hs : s.size ≤ 1000) (h0 : byZ s 0 = 35) (h1 : byZ s 1 = 120) (h2 : 16 < (s.size : Int) - 2) (w : World) :
    Calls Try.prog 29 #[.string s] w fun e w' => e = .returned (.tuple #[.int .u64 0, .int .i64 0, .int .i64 2]) ∧ w = w' := by
  have g0 := byZ_get s 0 (by omega)
  have g1 := byZ_get s 1 (by omega)
  go_enter Try.func29, Try.ntmps29
  go_wp2_with fail
  go_ret3
  exact ⟨rfl, rfl⟩
set_option maxHeartbeats 3200000 in
theorem parse_ok4 (s : ByteArray) (m : Nat) (hm : s.size = m + 2) (h3 : 1 ≤ m) (h4 : m ≤ 16) (h0 : byZ s 0 = 35) (h1 : byZ s 1 = 120) (hD : ∀ j, j < m → dgZ s j < powZ 4) (w : World) :
    Calls Try.prog 29 #[.string s] w fun e w' => e = .returned (.tuple #[.int .u64 (valF (dgZ s) (powZ 4) m), .int .i64 ((m : Int) * 4), .int .i64 0]) ∧ w = w' := by
  have g0 := byZ_get s 0 (by omega)
  have g1 := byZ_get s 1 (by omega)
  have HD := Lib.hid hD
  clear hD
  have i1 : (s.size : Int) = (m : Int) + 2 := by omega
  have i2 : ¬ ((m : Int) + 2) < 3 := by omega
  have i3 : (m : Int) ≤ 16 := by omega
  go_enter Try.func29, Try.ntmps29
  go_wp2_with fail
  go_loopw [6, 7] (fun u i wr => wr = w ∧ ∃ k : Nat, k ≤ m ∧ i = .int .i64 (k + 2) ∧ u = .int .u64 (valF (dgZ s) (powZ 4) k)) (fun _ i _ => m + 2 - (intOf i).toNat)
  case atStart => exact ⟨rfl, 0, by omega, rfl, rfl⟩
  case round =>
    obtain ⟨rfl, k, hk, rfl, rfl⟩ := hrel
    by_cases hlt : k < m
    · have gk := byZ_get s (k + 2) (by omega)
      have hd : dvZ (byZ s (k + 2)) < powZ 4 := HD.out k hlt
      have hst := val_step (dgZ s) 4 k (by omega) (by omega) (by omega) fun j hj => ⟨(dgZ_range s j).1, HD.out j (by omega)⟩
      rw [show dgZ s k = dvZ (byZ s (k + 2)) from rfl] at hst
      have hr := byZ_range s (k + 2)
      generalize byZ s (k + 2) = b at *
      have j1 : (k : Int) + 2 < (m : Int) + 2 := by omega
      have hp : maskZ 4 = 15 := rfl
      have hp2 : powZ 4 = 16 := rfl
      rw [hp2] at hd
      unfold dvZ at hd
      have hcase : (48 ≤ b ∧ b ≤ 57 ∧ dvZ b = b - 48 ∧ b - 48 < 16) ∨ (97 ≤ b ∧ b ≤ 102 ∧ dvZ b = b - 87) := by
        unfold dvZ
        by_cases p : 48 ≤ b ∧ b ≤ 57
        · rw [if_pos p] at hd ⊢; left; exact ⟨p.1, p.2, rfl, hd⟩
        · rw [if_neg p] at hd
          by_cases q : 97 ≤ b ∧ b ≤ 102
          · rw [if_pos q] at hd; right; exact ⟨q.1, q.2, by rw [if_neg p, if_pos q]⟩
          · rw [if_neg q] at hd; omega
      clear hd
      rcases hcase with ⟨b1, b2, e1, b3⟩ | ⟨b1, b2, e1⟩
      · have k1 : IntKind.u8.wrap (b - 48) = b - 48 := IntWalk.u8_in _ (by omega)
        have k2 : IntKind.u64.wrap (b - 48) = b - 48 := IntWalk.u64_in _ (by omega)
        have k3 : ¬ maskZ 4 < b - 48 := by rw [hp]; omega
        have HS : Hid (bits .or .u64 (IntKind.u64.wrap (valF (dgZ s) (powZ 4) k * 16)) (b - 48) = valF (dgZ s) (powZ 4) (k + 1)) := Lib.hid (by rw [e1] at hst; exact hst)
        clear hp hp2 hst
        go_wp2_with (go_at_call 38; refine (mask_any 4 (by decide) (by decide) _).mono ?_; rintro e w' ⟨rfl, rfl⟩)
        go_roundw
        case rel => exact ⟨trivial, k + 1, by omega, by go_num, val_int HS.out⟩
        case measure => simp [intOf]; omega
      · have k0 : ¬ b ≤ 57 := by omega
        have k1 : IntKind.u8.wrap (b - 97) = b - 97 := IntWalk.u8_in _ (by omega)
        have k2 : IntKind.u64.wrap (b - 97) = b - 97 := IntWalk.u64_in _ (by omega)
        have k4 : IntKind.u64.wrap (b - 97 + 10) = b - 87 := by rw [IntWalk.u64_in _ (by omega)]; omega
        have k3 : ¬ maskZ 4 < b - 87 := by rw [hp]; omega
        have HS : Hid (bits .or .u64 (IntKind.u64.wrap (valF (dgZ s) (powZ 4) k * 16)) (b - 87) = valF (dgZ s) (powZ 4) (k + 1)) := Lib.hid (by rw [e1] at hst; exact hst)
        clear hp hp2 hst
        go_wp2_with (go_at_call 38; refine (mask_any 4 (by decide) (by decide) _).mono ?_; rintro e w' ⟨rfl, rfl⟩)
        go_roundw
        case rel => exact ⟨trivial, k + 1, by omega, by go_num, val_int HS.out⟩
        case measure => simp [intOf]; omega

    · obtain rfl : k = m := by omega
      go_wp2_with fail
      go_ret3
      exact ⟨rfl, rfl⟩
set_option maxHeartbeats 3200000 in
theorem parse_bad4 (s : ByteArray) (m : Nat) (hm : s.size = m + 2) (h3 : 1 ≤ m) (h4 : m ≤ 16) (h0 : byZ s 0 = 35) (h1 : byZ s 1 = 120) (hD : ¬ ∀ j, j < m → dgZ s j < powZ 4) (w : World) :
    Calls Try.prog 29 #[.string s] w fun e w' => e = .returned (.tuple #[.int .u64 0, .int .i64 0, .int .i64 2]) ∧ w = w' := by
  have g0 := byZ_get s 0 (by omega)
  have g1 := byZ_get s 1 (by omega)
  have HD := Lib.hid hD
  clear hD
  have i1 : (s.size : Int) = (m : Int) + 2 := by omega
  have i2 : ¬ ((m : Int) + 2) < 3 := by omega
  have i3 : (m : Int) ≤ 16 := by omega
  go_enter Try.func29, Try.ntmps29
  go_wp2_with fail
  go_loopw [6, 7] (fun u i wr => wr = w ∧ ∃ k : Nat, k ≤ m ∧ i = .int .i64 (k + 2) ∧ (∀ j, j < k → dgZ s j < powZ 4) ∧ ∃ x : Int, u = .int .u64 x) (fun _ i _ => m + 2 - (intOf i).toNat)
  case atStart => exact ⟨rfl, 0, by omega, rfl, fun _ h => by omega, _, rfl⟩
  case round =>
    obtain ⟨rfl, k, hk, rfl, hj, x, rfl⟩ := hrel
    by_cases hlt : k < m
    · have gk := byZ_get s (k + 2) (by omega)
      have hdk : dgZ s k = dvZ (byZ s (k + 2)) := rfl
      have hr := byZ_range s (k + 2)
      generalize byZ s (k + 2) = b at *
      have j1 : (k : Int) + 2 < (m : Int) + 2 := by omega
      have hp : maskZ 4 = 15 := rfl
      have hp2 : powZ 4 = 16 := rfl
      by_cases r1 : b < 48
      · clear hp hp2 hdk
        have r2 : ¬ 97 ≤ b := by omega
        go_wp2_with (go_at_call 38; refine (mask_any 4 (by decide) (by decide) _).mono ?_; rintro e w' ⟨rfl, rfl⟩)
        go_ret3
        exact ⟨rfl, rfl⟩
      by_cases r2 : b ≤ 57
      · have r4 : 48 ≤ b := by omega
        have k1 : IntKind.u8.wrap (b - 48) = b - 48 := IntWalk.u8_in _ (by omega)
        have k2 : IntKind.u64.wrap (b - 48) = b - 48 := IntWalk.u64_in _ (by omega)
        have k3 : ¬ maskZ 4 < b - 48 := by rw [hp]; omega
        go_wp2_with (go_at_call 38; refine (mask_any 4 (by decide) (by decide) _).mono ?_; rintro e w' ⟨rfl, rfl⟩)
        go_roundw
        case rel => exact ⟨trivial, k + 1, by omega, by go_num, fun j hjk => by (rcases Nat.lt_succ_iff_lt_or_eq.1 hjk with h | rfl; exact hj j h; rw [hdk, hp2]; unfold dvZ; rw [if_pos ⟨r4, r2⟩]; omega), _, rfl⟩
        case measure => simp [intOf]; omega
      by_cases r5 : b < 97
      · have r6 : 48 ≤ b := by omega
        clear hp hp2
        go_wp2_with (go_at_call 38; refine (mask_any 4 (by decide) (by decide) _).mono ?_; rintro e w' ⟨rfl, rfl⟩)
        go_ret3
        exact ⟨rfl, rfl⟩
      by_cases r6 : b ≤ 102
      · have r7 : 97 ≤ b := by omega
        have k0 : ¬ b ≤ 57 := by omega
        have k5 : 48 ≤ b := by omega
        have k1 : IntKind.u8.wrap (b - 97) = b - 97 := IntWalk.u8_in _ (by omega)
        have k2 : IntKind.u64.wrap (b - 97) = b - 97 := IntWalk.u64_in _ (by omega)
        have k4 : IntKind.u64.wrap (b - 97 + 10) = b - 87 := by rw [IntWalk.u64_in _ (by omega)]; omega
        have k3 : ¬ maskZ 4 < b - 87 := by rw [hp]; omega
        go_wp2_with (go_at_call 38; refine (mask_any 4 (by decide) (by decide) _).mono ?_; rintro e w' ⟨rfl, rfl⟩)
        go_roundw
        case rel => exact ⟨trivial, k + 1, by omega, by go_num, fun j hjk => by (rcases Nat.lt_succ_iff_lt_or_eq.1 hjk with h | rfl; exact hj j h; rw [hdk, hp2]; unfold dvZ; rw [if_neg (by omega), if_pos ⟨r7, r6⟩]; omega), _, rfl⟩
        case measure => simp [intOf]; omega
      have r7 : 97 ≤ b := by omega
      have r8 : 48 ≤ b := by omega
      clear hp hp2
      go_wp2_with (go_at_call 38; refine (mask_any 4 (by decide) (by decide) _).mono ?_; rintro e w' ⟨rfl, rfl⟩)
      go_ret3
      exact ⟨rfl, rfl⟩
    · obtain rfl : k = m := by omega
      exact absurd hj HD.out
theorem parse_any (s : ByteArray) (hs : s.size ≤ 1000) (w : World) :
    Calls Try.prog 29 #[.string s] w fun e w' => e = .returned (.tuple #[.int .u64 (prU s), .int .i64 (prN s), .int .i64 (prE s)]) ∧ w = w' := by
  by_cases h : (s.size : Int) < 3
  · obtain ⟨e1, e2, e3⟩ := pr_bad (s := s) fun ho => by have := ho.1; omega
    rw [e1, e2, e3]; exact parse_short s h w
  by_cases h0 : byZ s 0 = 35
  case neg =>
    obtain ⟨e1, e2, e3⟩ := pr_bad (s := s) fun ho => h0 ho.2.1
    rw [e1, e2, e3]; exact parse_head s h hs h0 w
  obtain ⟨m, hm⟩ : ∃ m, s.size = m + 2 := ⟨s.size - 2, by omega⟩
  have hm2 : s.size - 2 = m := by omega
  by_cases h1 : byZ s 1 = 98
  · have hst : stpZ s = 1 := by unfold stpZ; rw [if_neg (by omega)]
    by_cases h2 : m ≤ 64
    · by_cases hD : ∀ j, j < m → dgZ s j < powZ 1
      · obtain ⟨e1, e2, e3⟩ := pr_ok (s := s) ⟨by omega, h0, Or.inl h1, by rw [hst]; omega, by rw [hst, hm2]; exact hD⟩
        rw [e1, e2, e3, hst, hm2]
        simpa using parse_ok1 s m hm (by omega) h2 h0 h1 hD w
      · obtain ⟨e1, e2, e3⟩ := pr_bad (s := s) fun ho => hD (by have := ho.2.2.2.2; rw [hst, hm2] at this; exact this)
        rw [e1, e2, e3]; exact parse_bad1 s m hm (by omega) h2 h0 h1 hD w
    · obtain ⟨e1, e2, e3⟩ := pr_bad (s := s) fun ho => by have := ho.2.2.2.1; rw [hst] at this; omega
      rw [e1, e2, e3]; exact parse_long1 s h hs h0 h1 (by omega) w
  · by_cases h1' : byZ s 1 = 120
    · have hst : stpZ s = 4 := by unfold stpZ; rw [if_pos h1']
      by_cases h2 : m ≤ 16
      · by_cases hD : ∀ j, j < m → dgZ s j < powZ 4
        · obtain ⟨e1, e2, e3⟩ := pr_ok (s := s) ⟨by omega, h0, Or.inr h1', by rw [hst]; omega, by rw [hst, hm2]; exact hD⟩
          rw [e1, e2, e3, hst, hm2]
          exact parse_ok4 s m hm (by omega) h2 h0 h1' hD w
        · obtain ⟨e1, e2, e3⟩ := pr_bad (s := s) fun ho => hD (by have := ho.2.2.2.2; rw [hst, hm2] at this; exact this)
          rw [e1, e2, e3]; exact parse_bad4 s m hm (by omega) h2 h0 h1' hD w
      · obtain ⟨e1, e2, e3⟩ := pr_bad (s := s) fun ho => by have := ho.2.2.2.1; rw [hst] at this; omega
        rw [e1, e2, e3]; exact parse_long4 s h hs h0 h1' (by omega) w
    · obtain ⟨e1, e2, e3⟩ := pr_bad (s := s) fun ho => by have := ho.2.2.1; omega
      rw [e1, e2, e3]; exact parse_mark s h hs h0 h1 h1' w
end Go.Proofs.Ytkfgkoiinjhgnaa
