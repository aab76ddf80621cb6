import Derived.Test.YtkfgkoiinjhgnaaR5
import Derived.Test.YtkfgkoiinjhgnaaM5
namespace Go.Proofs.Ytkfgkoiinjhgnaa
open Go.RowKit

theorem rconcat_arg (a v b w : Int) (ha0 : 0 ≤ a) (ha : a ≤ maskZ v) (hb0 : 0 ≤ b) (hb : b ≤ maskZ w) (h1 : 1 ≤ v) (h2 : v ≤ 64) (h3 : 1 ≤ w) (h5 : w ≤ 64) (h4 : 64 < v + w) (W : World) :
    Calls Try.prog 23 #[.int .u64 a, .int .i64 v, .int .u64 b, .int .i64 w] W fun e W' => e = .returned (.tuple #[.int .u64 0, .int .i64 1]) ∧ Below W.heap.size W W' := by
  go_enter Try.func23, Try.ntmps23
  go_wp2_with fail
  refine (rvalid_ok _ _ ha0 ha h1 h2 _).mono ?_
  rintro e w1 ⟨rfl, b1⟩
  go_wp2_with fail
  refine (rvalid_ok _ _ hb0 hb h3 h5 _).mono ?_
  rintro e w2 ⟨rfl, b2⟩
  go_wp2_with fail
  go_ret2
  exact ⟨rfl, (below_two b1 b1.size b2).1⟩
theorem rconcat_bad1 (a v b w x : Int) (ha0 : 0 ≤ a) (hu : a ≤ 18446744073709551615) (hv : validZ a v = x) (h : x = 1 ∨ x = 5) (W : World) :
    Calls Try.prog 23 #[.int .u64 a, .int .i64 v, .int .u64 b, .int .i64 w] W fun e W' => e = .returned (.tuple #[.int .u64 0, .int .i64 x]) ∧ Below W.heap.size W W' := by
  have hc := rvalid_any a v ha0 hu
  rw [hv] at hc
  have HC := Lib.hid hc
  clear hc hv
  rcases h with rfl | rfl
  all_goals
    go_enter Try.func23, Try.ntmps23
    go_wp2_with (go_at_call 16; refine (HC.out _).mono ?_; rintro e w1 ⟨rfl, b1⟩)
    go_ret2
    exact ⟨rfl, b1⟩
theorem rconcat_bad2 (a v b w x : Int) (ha0 : 0 ≤ a) (ha : a ≤ maskZ v) (hb0 : 0 ≤ b) (hu : b ≤ 18446744073709551615) (h1 : 1 ≤ v) (h2 : v ≤ 64) (hv : validZ b w = x) (h : x = 1 ∨ x = 5) (W : World) :
    Calls Try.prog 23 #[.int .u64 a, .int .i64 v, .int .u64 b, .int .i64 w] W fun e W' => e = .returned (.tuple #[.int .u64 0, .int .i64 x]) ∧ Below W.heap.size W W' := by
  have hc := rvalid_any b w hb0 hu
  rw [hv] at hc
  have HC := Lib.hid hc
  clear hc hv
  rcases h with rfl | rfl
  all_goals
    go_enter Try.func23, Try.ntmps23
    go_wp2_with fail
    refine (rvalid_ok _ _ ha0 ha h1 h2 _).mono ?_
    rintro e w1 ⟨rfl, b1⟩
    go_wp2_with fail
    refine (HC.out _).mono ?_
    rintro e w2 ⟨rfl, b2⟩
    go_wp2_with fail
    go_ret2
    exact ⟨rfl, (below_two b1 b1.size b2).1⟩
theorem rconcat_any (a v b w : Int) (ha0 : 0 ≤ a) (hau : a ≤ 18446744073709551615) (hb0 : 0 ≤ b) (hbu : b ≤ 18446744073709551615) (W : World) :
    Calls Try.prog 23 #[.int .u64 a, .int .i64 v, .int .u64 b, .int .i64 w] W fun e W' => e = .returned (.tuple #[.int .u64 (catV a v b w), .int .i64 (catE a v b w)]) ∧ Below W.heap.size W W' := by
  rcases validZ_cases a v with ⟨va, h1, h2, ha⟩ | va
  · rcases validZ_cases b w with ⟨vb, h3, h5, hb⟩ | vb
    · by_cases hc : 64 < v + w
      · have e1 : catE a v b w = 1 := by unfold catE; rw [if_neg (by omega), if_neg (by omega), if_pos hc]
        have e2 : catV a v b w = 0 := by unfold catV; rw [e1]; rfl
        rw [e1, e2]
        exact rconcat_arg a v b w ha0 ha hb0 hb h1 h2 h3 h5 hc W
      · have e1 : catE a v b w = 0 := by unfold catE; rw [if_neg (by omega), if_neg (by omega), if_neg hc]
        have e2 : catV a v b w = catZ a b w := by unfold catV; rw [e1]; rfl
        rw [e1, e2]
        exact rconcat_ok a v b w ha0 ha hb0 hb h1 h3 (by omega) W
    · have e1 : catE a v b w = validZ b w := by unfold catE; rw [if_neg (by omega), if_pos (by omega)]
      have e2 : catV a v b w = 0 := by unfold catV; rw [e1, if_neg (by omega)]
      rw [e1, e2]
      exact rconcat_bad2 a v b w _ ha0 ha hb0 hbu h1 h2 rfl vb W
  · have e1 : catE a v b w = validZ a v := by unfold catE; rw [if_pos (by omega)]
    have e2 : catV a v b w = 0 := by unfold catV; rw [e1, if_neg (by omega)]
    rw [e1, e2]
    exact rconcat_bad1 a v b w _ ha0 hau rfl va W

/-! ### Extend -/
theorem ofL_rep_true (n : Nat) : ofL (List.replicate n true) = 2 ^ n - 1 := by
  have h : ofL (List.replicate n true) + 1 = 2 ^ n := by
    induction n with
    | zero => rfl
    | succ k ih => rw [List.replicate_succ, ofL, Nat.pow_succ]; simp only [Bool.toNat_true]; omega
  omega
theorem ofL_ext (a w m : Nat) (x : Bool) (ha : (a : Int) ≤ maskZ w) : (ofL (bitsL a w ++ List.replicate m x) : Int) = catZ (if x then maskZ m else 0) a w := by
  have ea := bits_val a w ha
  rw [ofL_append, bitsL_length]
  unfold catZ
  rw [powZ_nat, Int.toNat_natCast, Int.natCast_add, Int.natCast_mul, ea, Int.mul_comm]
  cases x
  · rw [ofL_replicate]; simp
  · rw [ofL_rep_true, if_pos rfl, maskZ_eq, powZ_nat, Int.toNat_natCast]
    have := Nat.two_pow_pos m
    rw [show ((2 ^ m - 1 : Nat) : Int) = ((2 ^ m : Nat) : Int) - 1 by omega]; omega
theorem exd_as_cat (a n s : Int) (o : Bool) (ha0 : 0 ≤ a) (ha : a ≤ maskZ n) (h1 : 1 ≤ n) (hs : 1 ≤ s) :
    exdZ a n s o = catZ (if (o && decide (¬ a < powZ (n - 1))) then maskZ s else 0) a n := by
  unfold catZ
  cases o
  · simp [exdZ]
  · rw [exd_true a n s ha0 ha h1 hs]
    by_cases h : a < powZ (n - 1)
    · rw [if_pos h]; simp [h]
    · rw [if_neg h]; simp [h]
theorem high_bit (a w : Nat) (h1 : 1 ≤ w) (ha : (a : Int) ≤ maskZ w) : at' (bitsL a w) (w - 1) = decide (¬ (a : Int) < powZ ((w : Int) - 1)) := by
  have hs := powZ_succ w (by omega)
  have hp := powZ_pos ((w : Int) - 1)
  have hn := powZ_nat ((w : Int) - 1)
  rw [show ((w : Int) - 1).toNat = w - 1 by omega] at hn
  rw [maskZ_eq] at ha
  unfold at'
  rw [bitsL_getD _ _ _ (by omega), hn]
  rw [hn] at hs hp
  have h2 : 0 < 2 ^ (w - 1) := Nat.two_pow_pos _
  have hlt : a < 2 * 2 ^ (w - 1) := by omega
  rw [Bool.eq_iff_iff]
  simp only [decide_eq_true_eq]
  generalize 2 ^ (w - 1) = P at *
  constructor
  · intro h3 h4
    rw [Nat.div_eq_of_lt (by omega)] at h3
    omega
  · intro h3
    have : a / P = 1 := by
      rw [Nat.div_eq_iff (by omega)]; omega
    rw [this]

set_option maxHeartbeats 800000 in
theorem rextend_ok (a w more : Int) (s : Bool) (ha0 : 0 ≤ a) (ha : a ≤ maskZ w) (h1 : 1 ≤ w) (h2 : w ≤ 64) (m1 : 1 ≤ more) (m2 : more ≤ 64 - w) (W : World) :
    Calls Try.prog 26 #[.int .u64 a, .int .i64 w, .int .i64 more, .bool s] W fun e W' => e = .returned (.tuple #[.int .u64 (exdZ a w more s), .int .i64 0]) ∧ Below W.heap.size W W' := by
  have ht := maskZ_top w h2
  have hex := exd_as_cat a w more s ha0 ha h1 m1
  rw [hex]
  clear hex
  obtain ⟨w, rfl⟩ := Int.eq_ofNat_of_zero_le (show 0 ≤ w by omega)
  obtain ⟨m, rfl⟩ := Int.eq_ofNat_of_zero_le (show 0 ≤ more by omega)
  obtain ⟨a, rfl⟩ := Int.eq_ofNat_of_zero_le ha0
  have hhb := high_bit a w (by omega) ha
  generalize decide (¬ (a : Int) < powZ ((w : Int) - 1)) = hb at hhb ⊢
  have HH := Lib.hid hhb
  clear hhb
  cases s
  · cases hb
    · go_enter Try.func26, Try.ntmps26
      go_wp2_with fail
      refine (rvalid_ok _ _ ha0 ha h1 h2 _).mono ?_
      rintro e w1 ⟨rfl, b1⟩
      go_wp2_with fail
      refine (bits_any a w (by omega) (by omega) _).mono ?_
      rintro e w2 ⟨r, rfl, hown, b2⟩
      obtain ⟨g, cap, rfl, hr, hl, hc, hm', hB⟩ := row_of hown (by omega)
      have hcell := hr.cell (w - 1) (by rw [bitsL_length]; omega)
      rw [show (bitsL a w).getD (w - 1) false = _ from HH.out, Nat.zero_add] at hcell
      go_wp2_with fail
      go_loopw [11, 13] (fun v i wr => ∃ k : Nat, k ≤ m ∧ i = .int .i64 k ∧ wr.ownsRow w1.heap.size 4 1 v (w + k) ((bitsL a w ++ List.replicate k false).map Value.bool) ∧ Below w1.heap.size w1 wr ∧ w1.heap.size ≤ wr.heap.size)
        (fun _ i _ => m - (intOf i).toNat)
      case atStart => exact ⟨0, by omega, rfl, by simpa using hown, b2, b2.size⟩
      case round =>
        clear hcell hr hown b2
        obtain ⟨k, hk, rfl, hown, hb, hs⟩ := hrel
        by_cases hlt : k < m
        · go_wp2_with (at_builtin; refine wpList_app rfl (.tmp 44) (.tmp 46) rfl w1.heap.size _ (w + k) (bitsL a w ++ List.replicate k false) false rfl rfl hown hb hs (by omega) ?_; intro v' w3 hown' hb' hs')
          go_roundw
          case rel => exact ⟨k + 1, by omega, by go_num, by rw [List.replicate_succ', ← List.append_assoc]; exact hown', hb', hs'⟩
          case measure => simp [intOf]; omega
        · obtain rfl : k = m := by omega
          have hv := ofL_ext a w k false ha
          have HV := Lib.hid hv
          clear hv
          obtain ⟨g2, cap2, rfl, hr2, hl2, hc2, hm2, hB2⟩ := row_of hown (by omega)
          clear hown
          go_wp2_with fail
          refine (of_mask _ _ _ _ _ _ hr2 hl2 (by omega)).mono ?_
          rintro e w' ⟨⟨x, rfl, hx, hx0, hx1⟩, rfl⟩
          have hx' : x = catZ (if false then maskZ k else 0) a w := hx.trans HV.out
          have HX := Lib.hid hx'
          clear hx hx'
          go_wp2_with fail
          go_ret2
          exact ⟨ret_pair (by rw [HX.out]; simp), (below_two b1 b1.size hb).1⟩
    · go_enter Try.func26, Try.ntmps26
      go_wp2_with fail
      refine (rvalid_ok _ _ ha0 ha h1 h2 _).mono ?_
      rintro e w1 ⟨rfl, b1⟩
      go_wp2_with fail
      refine (bits_any a w (by omega) (by omega) _).mono ?_
      rintro e w2 ⟨r, rfl, hown, b2⟩
      obtain ⟨g, cap, rfl, hr, hl, hc, hm', hB⟩ := row_of hown (by omega)
      have hcell := hr.cell (w - 1) (by rw [bitsL_length]; omega)
      rw [show (bitsL a w).getD (w - 1) false = _ from HH.out, Nat.zero_add] at hcell
      go_wp2_with fail
      go_loopw [11, 13] (fun v i wr => ∃ k : Nat, k ≤ m ∧ i = .int .i64 k ∧ wr.ownsRow w1.heap.size 4 1 v (w + k) ((bitsL a w ++ List.replicate k false).map Value.bool) ∧ Below w1.heap.size w1 wr ∧ w1.heap.size ≤ wr.heap.size)
        (fun _ i _ => m - (intOf i).toNat)
      case atStart => exact ⟨0, by omega, rfl, by simpa using hown, b2, b2.size⟩
      case round =>
        clear hcell hr hown b2
        obtain ⟨k, hk, rfl, hown, hb, hs⟩ := hrel
        by_cases hlt : k < m
        · go_wp2_with (at_builtin; refine wpList_app rfl (.tmp 44) (.tmp 46) rfl w1.heap.size _ (w + k) (bitsL a w ++ List.replicate k false) false rfl rfl hown hb hs (by omega) ?_; intro v' w3 hown' hb' hs')
          go_roundw
          case rel => exact ⟨k + 1, by omega, by go_num, by rw [List.replicate_succ', ← List.append_assoc]; exact hown', hb', hs'⟩
          case measure => simp [intOf]; omega
        · obtain rfl : k = m := by omega
          have hv := ofL_ext a w k false ha
          have HV := Lib.hid hv
          clear hv
          obtain ⟨g2, cap2, rfl, hr2, hl2, hc2, hm2, hB2⟩ := row_of hown (by omega)
          clear hown
          go_wp2_with fail
          refine (of_mask _ _ _ _ _ _ hr2 hl2 (by omega)).mono ?_
          rintro e w' ⟨⟨x, rfl, hx, hx0, hx1⟩, rfl⟩
          have hx' : x = catZ (if false then maskZ k else 0) a w := hx.trans HV.out
          have HX := Lib.hid hx'
          clear hx hx'
          go_wp2_with fail
          go_ret2
          exact ⟨ret_pair (by rw [HX.out]; simp), (below_two b1 b1.size hb).1⟩
  · cases hb
    · go_enter Try.func26, Try.ntmps26
      go_wp2_with fail
      refine (rvalid_ok _ _ ha0 ha h1 h2 _).mono ?_
      rintro e w1 ⟨rfl, b1⟩
      go_wp2_with fail
      refine (bits_any a w (by omega) (by omega) _).mono ?_
      rintro e w2 ⟨r, rfl, hown, b2⟩
      obtain ⟨g, cap, rfl, hr, hl, hc, hm', hB⟩ := row_of hown (by omega)
      have hcell := hr.cell (w - 1) (by rw [bitsL_length]; omega)
      rw [show (bitsL a w).getD (w - 1) false = _ from HH.out, Nat.zero_add] at hcell
      go_wp2_with fail
      go_loopw [11, 13] (fun v i wr => ∃ k : Nat, k ≤ m ∧ i = .int .i64 k ∧ wr.ownsRow w1.heap.size 4 1 v (w + k) ((bitsL a w ++ List.replicate k false).map Value.bool) ∧ Below w1.heap.size w1 wr ∧ w1.heap.size ≤ wr.heap.size)
        (fun _ i _ => m - (intOf i).toNat)
      case atStart => exact ⟨0, by omega, rfl, by simpa using hown, b2, b2.size⟩
      case round =>
        clear hcell hr hown b2
        obtain ⟨k, hk, rfl, hown, hb, hs⟩ := hrel
        by_cases hlt : k < m
        · go_wp2_with (at_builtin; refine wpList_app rfl (.tmp 44) (.tmp 46) rfl w1.heap.size _ (w + k) (bitsL a w ++ List.replicate k false) false rfl rfl hown hb hs (by omega) ?_; intro v' w3 hown' hb' hs')
          go_roundw
          case rel => exact ⟨k + 1, by omega, by go_num, by rw [List.replicate_succ', ← List.append_assoc]; exact hown', hb', hs'⟩
          case measure => simp [intOf]; omega
        · obtain rfl : k = m := by omega
          have hv := ofL_ext a w k false ha
          have HV := Lib.hid hv
          clear hv
          obtain ⟨g2, cap2, rfl, hr2, hl2, hc2, hm2, hB2⟩ := row_of hown (by omega)
          clear hown
          go_wp2_with fail
          refine (of_mask _ _ _ _ _ _ hr2 hl2 (by omega)).mono ?_
          rintro e w' ⟨⟨x, rfl, hx, hx0, hx1⟩, rfl⟩
          have hx' : x = catZ (if false then maskZ k else 0) a w := hx.trans HV.out
          have HX := Lib.hid hx'
          clear hx hx'
          go_wp2_with fail
          go_ret2
          exact ⟨ret_pair (by rw [HX.out]; simp), (below_two b1 b1.size hb).1⟩
    · go_enter Try.func26, Try.ntmps26
      go_wp2_with fail
      refine (rvalid_ok _ _ ha0 ha h1 h2 _).mono ?_
      rintro e w1 ⟨rfl, b1⟩
      go_wp2_with fail
      refine (bits_any a w (by omega) (by omega) _).mono ?_
      rintro e w2 ⟨r, rfl, hown, b2⟩
      obtain ⟨g, cap, rfl, hr, hl, hc, hm', hB⟩ := row_of hown (by omega)
      have hcell := hr.cell (w - 1) (by rw [bitsL_length]; omega)
      rw [show (bitsL a w).getD (w - 1) false = _ from HH.out, Nat.zero_add] at hcell
      go_wp2_with fail
      go_loopw [11, 13] (fun v i wr => ∃ k : Nat, k ≤ m ∧ i = .int .i64 k ∧ wr.ownsRow w1.heap.size 4 1 v (w + k) ((bitsL a w ++ List.replicate k true).map Value.bool) ∧ Below w1.heap.size w1 wr ∧ w1.heap.size ≤ wr.heap.size)
        (fun _ i _ => m - (intOf i).toNat)
      case atStart => exact ⟨0, by omega, rfl, by simpa using hown, b2, b2.size⟩
      case round =>
        clear hcell hr hown b2
        obtain ⟨k, hk, rfl, hown, hb, hs⟩ := hrel
        by_cases hlt : k < m
        · go_wp2_with (at_builtin; refine wpList_app rfl (.tmp 44) (.tmp 46) rfl w1.heap.size _ (w + k) (bitsL a w ++ List.replicate k true) true rfl rfl hown hb hs (by omega) ?_; intro v' w3 hown' hb' hs')
          go_roundw
          case rel => exact ⟨k + 1, by omega, by go_num, by rw [List.replicate_succ', ← List.append_assoc]; exact hown', hb', hs'⟩
          case measure => simp [intOf]; omega
        · obtain rfl : k = m := by omega
          have hv := ofL_ext a w k true ha
          have HV := Lib.hid hv
          clear hv
          obtain ⟨g2, cap2, rfl, hr2, hl2, hc2, hm2, hB2⟩ := row_of hown (by omega)
          clear hown
          go_wp2_with fail
          refine (of_mask _ _ _ _ _ _ hr2 hl2 (by omega)).mono ?_
          rintro e w' ⟨⟨x, rfl, hx, hx0, hx1⟩, rfl⟩
          have hx' : x = catZ (if true then maskZ k else 0) a w := hx.trans HV.out
          have HX := Lib.hid hx'
          clear hx hx'
          go_wp2_with fail
          go_ret2
          exact ⟨ret_pair (by rw [HX.out]; simp), (below_two b1 b1.size hb).1⟩
theorem rextend_arg (a w more : Int) (s : Bool) (ha0 : 0 ≤ a) (ha : a ≤ maskZ w) (h1 : 1 ≤ w) (h2 : w ≤ 64) (h : more < 1 ∨ 64 - w < more) (W : World) :
    Calls Try.prog 26 #[.int .u64 a, .int .i64 w, .int .i64 more, .bool s] W fun e W' => e = .returned (.tuple #[.int .u64 0, .int .i64 1]) ∧ Below W.heap.size W W' := by
  by_cases c : more < 1
  · clear h
    go_enter Try.func26, Try.ntmps26
    go_wp2_with (go_at_call 16; refine (rvalid_ok _ _ ha0 ha h1 h2 _).mono ?_; rintro e w1 ⟨rfl, b1⟩)
    go_ret2
    exact ⟨rfl, b1⟩
  · have c2 : 64 - w < more := by omega
    clear h
    go_enter Try.func26, Try.ntmps26
    go_wp2_with (go_at_call 16; refine (rvalid_ok _ _ ha0 ha h1 h2 _).mono ?_; rintro e w1 ⟨rfl, b1⟩)
    go_ret2
    exact ⟨rfl, b1⟩
theorem rextend_bad (a w more v : Int) (s : Bool) (ha0 : 0 ≤ a) (hu : a ≤ 18446744073709551615) (hv : validZ a w = v) (h : v = 1 ∨ v = 5) (W : World) :
    Calls Try.prog 26 #[.int .u64 a, .int .i64 w, .int .i64 more, .bool s] W fun e W' => e = .returned (.tuple #[.int .u64 0, .int .i64 v]) ∧ Below W.heap.size W W' := by
  have hc := rvalid_any a w ha0 hu
  rw [hv] at hc
  have HC := Lib.hid hc
  clear hc hv
  rcases h with rfl | rfl
  all_goals
    go_enter Try.func26, Try.ntmps26
    go_wp2_with (go_at_call 16; refine (HC.out _).mono ?_; rintro e w1 ⟨rfl, b1⟩)
    go_ret2
    exact ⟨rfl, b1⟩
theorem rextend_any (a w more : Int) (s : Bool) (ha0 : 0 ≤ a) (hau : a ≤ 18446744073709551615) (W : World) :
    Calls Try.prog 26 #[.int .u64 a, .int .i64 w, .int .i64 more, .bool s] W fun e W' => e = .returned (.tuple #[.int .u64 (exdV a w more s), .int .i64 (exdE a w more)]) ∧ Below W.heap.size W W' := by
  rcases validZ_cases a w with ⟨va, h1, h2, ha⟩ | va
  · by_cases hc : more < 1 ∨ 64 - w < more
    · have e1 : exdE a w more = 1 := by unfold exdE; rw [if_neg (by omega), if_pos hc]
      have e2 : exdV a w more s = 0 := by unfold exdV; rw [e1]; rfl
      rw [e1, e2]
      exact rextend_arg a w more s ha0 ha h1 h2 hc W
    · have e1 : exdE a w more = 0 := by unfold exdE; rw [if_neg (by omega), if_neg hc]
      have e2 : exdV a w more s = exdZ a w more s := by unfold exdV; rw [e1]; rfl
      rw [e1, e2]
      exact rextend_ok a w more s ha0 ha h1 h2 (by omega) (by omega) W
  · have e1 : exdE a w more = validZ a w := by unfold exdE; rw [if_pos (by omega)]
    have e2 : exdV a w more s = 0 := by unfold exdV; rw [e1, if_neg (by omega)]
    rw [e1, e2]
    exact rextend_bad a w more _ s ha0 hau rfl va W
end Go.Proofs.Ytkfgkoiinjhgnaa
