import Derived.Test.YtkfgkoiinjhgnaaA4
namespace Go.Proofs.Ytkfgkoiinjhgnaa
open Go.RowKit

/-! ### Extract -/
def extZ (a hi lo : Int) : Int := a / 2 ^ lo.toNat % powZ (hi - lo + 1)
def extE (a w hi lo : Int) : Int := if validZ a w ≠ 0 then validZ a w else if lo < 0 ∨ hi < lo ∨ w ≤ hi then 1 else 0
def extV (a w hi lo : Int) : Int := if extE a w hi lo = 0 then extZ a hi lo else 0

theorem ext_eq (a w hi lo : Int) (h0 : 0 ≤ a) (ha : a ≤ maskZ w) (h2 : w ≤ 64) (l1 : 0 ≤ lo) (_l2 : lo ≤ hi) (l3 : hi < w) :
    bits .and .u64 (a / 2 ^ lo.toNat) (maskZ (hi - lo + 1)) = extZ a hi lo := by
  have ht := maskZ_top w h2
  have hp : (0 : Int) < 2 ^ lo.toNat := Int.pow_pos (by decide)
  have hle := Int.ediv_le_self (2 ^ lo.toNat) h0
  exact and_mask _ _ (Int.ediv_nonneg h0 (by omega)) (by omega) (by omega)

theorem extract_ok (a w hi lo : Int) (h0 : 0 ≤ a) (ha : a ≤ maskZ w) (h1 : 1 ≤ w) (h2 : w ≤ 64) (l1 : 0 ≤ lo) (l2 : lo ≤ hi) (l3 : hi < w) (W : World) :
    Calls Try.prog 21 #[.int .u64 a, .int .i64 w, .int .i64 hi, .int .i64 lo] W fun e W' => e = .returned (.tuple #[.int .u64 (extZ a hi lo), .int .i64 0]) ∧ Below W.heap.size W W' := by
  have e1 : IntKind.i64.wrap (hi - lo) = hi - lo := IntWalk.i64_in _ ⟨by omega, by omega⟩
  have e2 : IntKind.i64.wrap (hi - lo + 1) = hi - lo + 1 := IntWalk.i64_in _ ⟨by omega, by omega⟩
  go_enter Try.func21, Try.ntmps21
  go_wp2_with (go_at_call 15; refine (valid_ok _ _ ha h1 h2 _).mono ?_; rintro e w' ⟨rfl, rfl⟩)
  go_quiet ((go_at_call 38; exact quiet_same (mask_any _ (by omega) (by omega) _)))
  go_wp2
  go_ret2
  refine ⟨ret_pair ?_, below_drewN (Below.refl _ _) _⟩
  first
    | exact ext_eq a w hi lo h0 ha h2 l1 l2 l3
    | (rw [show min lo.toNat 64 = lo.toNat by omega]; exact ext_eq a w hi lo h0 ha h2 l1 l2 l3)
theorem extract_arg (a w hi lo : Int) (ha : a ≤ maskZ w) (h1 : 1 ≤ w) (h2 : w ≤ 64) (h : lo < 0 ∨ hi < lo ∨ w ≤ hi) (W : World) :
    Calls Try.prog 21 #[.int .u64 a, .int .i64 w, .int .i64 hi, .int .i64 lo] W fun e W' => e = .returned (.tuple #[.int .u64 0, .int .i64 1]) ∧ W = W' := by
  by_cases c1 : lo < 0
  · clear h
    go_enter Try.func21, Try.ntmps21
    go_wp2_with (go_at_call 15; refine (valid_ok _ _ ha h1 h2 _).mono ?_; rintro e w' ⟨rfl, rfl⟩)
    go_ret2
    exact ⟨rfl, rfl⟩
  by_cases c2 : hi < lo
  · clear h
    go_enter Try.func21, Try.ntmps21
    go_wp2_with (go_at_call 15; refine (valid_ok _ _ ha h1 h2 _).mono ?_; rintro e w' ⟨rfl, rfl⟩)
    go_ret2
    exact ⟨rfl, rfl⟩
  · have c3 : w ≤ hi := by omega
    clear h
    go_enter Try.func21, Try.ntmps21
    go_wp2_with (go_at_call 15; refine (valid_ok _ _ ha h1 h2 _).mono ?_; rintro e w' ⟨rfl, rfl⟩)
    go_ret2
    exact ⟨rfl, rfl⟩
theorem extract_bad (a w hi lo v : Int) (hv : validZ a w = v) (h : v = 1 ∨ v = 5) (W : World) :
    Calls Try.prog 21 #[.int .u64 a, .int .i64 w, .int .i64 hi, .int .i64 lo] W fun e W' => e = .returned (.tuple #[.int .u64 0, .int .i64 v]) ∧ W = W' := by
  have hc := valid_any a w
  rw [hv] at hc
  have HC := Lib.hid hc
  clear hc hv
  rcases h with rfl | rfl
  all_goals
    go_enter Try.func21, Try.ntmps21
    go_wp2_with (go_at_call 15; refine (HC.out _).mono ?_; rintro e w' ⟨rfl, rfl⟩)
    go_ret2
    exact ⟨rfl, rfl⟩
theorem extract_any (a w hi lo : Int) (h0 : 0 ≤ a) (W : World) :
    Calls Try.prog 21 #[.int .u64 a, .int .i64 w, .int .i64 hi, .int .i64 lo] W fun e W' => e = .returned (.tuple #[.int .u64 (extV a w hi lo), .int .i64 (extE a w hi lo)]) ∧ Below W.heap.size W W' := by
  rcases validZ_cases a w with ⟨va, h1, h2, ha⟩ | va
  · by_cases hc : lo < 0 ∨ hi < lo ∨ w ≤ hi
    · have e1 : extE a w hi lo = 1 := by unfold extE; rw [if_neg (by omega), if_pos hc]
      have e2 : extV a w hi lo = 0 := by unfold extV; rw [e1]; rfl
      rw [e1, e2]
      exact (extract_arg a w hi lo ha h1 h2 hc W).mono fun _ _ ⟨x, y⟩ => ⟨x, y ▸ Below.refl _ _⟩
    · have e1 : extE a w hi lo = 0 := by unfold extE; rw [if_neg (by omega), if_neg hc]
      have e2 : extV a w hi lo = extZ a hi lo := by unfold extV; rw [e1]; rfl
      rw [e1, e2]
      exact extract_ok a w hi lo h0 ha h1 h2 (by omega) (by omega) (by omega) W
  · have e1 : extE a w hi lo = validZ a w := by unfold extE; rw [if_pos (by omega)]
    have e2 : extV a w hi lo = 0 := by unfold extV; rw [e1, if_neg (by omega)]
    rw [e1, e2]
    exact (extract_bad a w hi lo _ rfl va W).mono fun _ _ ⟨x, y⟩ => ⟨x, y ▸ Below.refl _ _⟩

/-! ### Concat -/
def catZ (a b w : Int) : Int := a * powZ w + b
def catE (a v b w : Int) : Int := if validZ a v ≠ 0 then validZ a v else if validZ b w ≠ 0 then validZ b w else if 64 < v + w then 1 else 0
def catV (a v b w : Int) : Int := if catE a v b w = 0 then catZ a b w else 0

theorem cat_lt (a v b w : Int) (ha0 : 0 ≤ a) (ha : a ≤ maskZ v) (hb0 : 0 ≤ b) (hb : b ≤ maskZ w) (h1 : 1 ≤ v) (h3 : 1 ≤ w) : 0 ≤ catZ a b w ∧ catZ a b w ≤ maskZ (v + w) := by
  have hv := powZ_pos v
  have hw := powZ_pos w
  have hp : powZ (v + w) = powZ v * powZ w := by
    unfold powZ; rw [← Int.pow_add]; congr 1; omega
  rw [maskZ_eq] at *
  rw [hp]
  unfold catZ
  generalize powZ v = V at *
  generalize powZ w = X at *
  have h5 : a * X ≤ (V - 1) * X := Int.mul_le_mul_of_nonneg_right ha (by omega)
  have h6 : 0 ≤ a * X := Int.mul_nonneg ha0 (by omega)
  rw [Int.sub_mul] at h5
  omega
theorem cat_eq (a v b w : Int) (ha0 : 0 ≤ a) (ha : a ≤ maskZ v) (hb0 : 0 ≤ b) (hb : b ≤ maskZ w) (h1 : 1 ≤ v) (h3 : 1 ≤ w) (h4 : v + w ≤ 64) :
    bits .or .u64 (IntKind.u64.wrap (a * 2 ^ w.toNat)) b = catZ a b w := by
  have hc := cat_lt a v b w ha0 ha hb0 hb h1 h3
  have ht := maskZ_top (v + w) h4
  have hw := maskZ_top w (by omega)
  unfold catZ at *
  have hx : IntKind.u64.wrap (a * 2 ^ w.toNat) = a * powZ w := IntWalk.u64_in _ ⟨Int.mul_nonneg ha0 (by have := powZ_pos w; unfold powZ at this; omega), by show a * powZ w ≤ _; omega⟩
  have hn : 0 ≤ a * powZ w := Int.mul_nonneg ha0 (by have := powZ_pos w; omega)
  rw [hx, u64_or _ _ hn (by omega) hb0 (by omega)]
  rw [powZ_nat] at *
  rw [maskZ_eq, powZ_nat] at hb
  obtain ⟨A, rfl⟩ := Int.eq_ofNat_of_zero_le ha0
  obtain ⟨B, rfl⟩ := Int.eq_ofNat_of_zero_le hb0
  rw [show ((A : Int) * ((2 ^ w.toNat : Nat) : Int)).toNat = 2 ^ w.toNat * A by rw [← Int.natCast_mul, Int.toNat_natCast, Nat.mul_comm], Int.toNat_natCast,
    ← Nat.two_pow_add_eq_or_of_lt (show B < 2 ^ w.toNat by omega), Nat.mul_comm, Int.natCast_add, Int.natCast_mul]

theorem concat_ok (a v b w : Int) (ha0 : 0 ≤ a) (ha : a ≤ maskZ v) (hb0 : 0 ≤ b) (hb : b ≤ maskZ w) (h1 : 1 ≤ v) (h3 : 1 ≤ w) (h4 : v + w ≤ 64) (W : World) :
    Calls Try.prog 22 #[.int .u64 a, .int .i64 v, .int .u64 b, .int .i64 w] W fun e W' => e = .returned (.tuple #[.int .u64 (catZ a b w), .int .i64 0]) ∧ W = W' := by
  go_enter Try.func22, Try.ntmps22
  go_wp2_with fail
  refine (valid_ok _ _ ha h1 (by omega) _).mono ?_
  rintro e w' ⟨rfl, rfl⟩
  go_wp2_with fail
  refine (valid_ok _ _ hb h3 (by omega) _).mono ?_
  rintro e w' ⟨rfl, rfl⟩
  go_wp2_with fail
  go_ret2
  exact ⟨ret_pair (cat_eq a v b w ha0 ha hb0 hb h1 h3 h4), rfl⟩
theorem concat_arg (a v b w : Int) (ha : a ≤ maskZ v) (hb : b ≤ maskZ w) (h1 : 1 ≤ v) (h2 : v ≤ 64) (h3 : 1 ≤ w) (h5 : w ≤ 64) (h4 : 64 < v + w) (W : World) :
    Calls Try.prog 22 #[.int .u64 a, .int .i64 v, .int .u64 b, .int .i64 w] W fun e W' => e = .returned (.tuple #[.int .u64 0, .int .i64 1]) ∧ W = W' := by
  go_enter Try.func22, Try.ntmps22
  go_wp2_with fail
  refine (valid_ok _ _ ha h1 h2 _).mono ?_
  rintro e w' ⟨rfl, rfl⟩
  go_wp2_with fail
  refine (valid_ok _ _ hb h3 h5 _).mono ?_
  rintro e w' ⟨rfl, rfl⟩
  go_wp2_with fail
  go_ret2
  exact ⟨rfl, rfl⟩
theorem concat_bad1 (a v b w x : Int) (hv : validZ a v = x) (h : x = 1 ∨ x = 5) (W : World) :
    Calls Try.prog 22 #[.int .u64 a, .int .i64 v, .int .u64 b, .int .i64 w] W fun e W' => e = .returned (.tuple #[.int .u64 0, .int .i64 x]) ∧ W = W' := by
  have hc := valid_any a v
  rw [hv] at hc
  have HC := Lib.hid hc
  clear hc hv
  rcases h with rfl | rfl
  all_goals
    go_enter Try.func22, Try.ntmps22
    go_wp2_with (go_at_call 15; refine (HC.out _).mono ?_; rintro e w' ⟨rfl, rfl⟩)
    go_ret2
    exact ⟨rfl, rfl⟩
theorem concat_bad2 (a v b w x : Int) (ha : a ≤ maskZ v) (h1 : 1 ≤ v) (h2 : v ≤ 64) (hv : validZ b w = x) (h : x = 1 ∨ x = 5) (W : World) :
    Calls Try.prog 22 #[.int .u64 a, .int .i64 v, .int .u64 b, .int .i64 w] W fun e W' => e = .returned (.tuple #[.int .u64 0, .int .i64 x]) ∧ W = W' := by
  have hc := valid_any b w
  rw [hv] at hc
  have HC := Lib.hid hc
  clear hc hv
  rcases h with rfl | rfl
  all_goals
    go_enter Try.func22, Try.ntmps22
    go_wp2_with fail
    refine (valid_ok _ _ ha h1 h2 _).mono ?_
    rintro e w' ⟨rfl, rfl⟩
    go_wp2_with fail
    refine (HC.out _).mono ?_
    rintro e w' ⟨rfl, rfl⟩
    go_wp2_with fail
    go_ret2
    exact ⟨rfl, rfl⟩
theorem concat_any (a v b w : Int) (ha0 : 0 ≤ a) (hb0 : 0 ≤ b) (W : World) :
    Calls Try.prog 22 #[.int .u64 a, .int .i64 v, .int .u64 b, .int .i64 w] W fun e W' => e = .returned (.tuple #[.int .u64 (catV a v b w), .int .i64 (catE a v b w)]) ∧ W = W' := by
  rcases validZ_cases a v with ⟨va, h1, h2, ha⟩ | va
  · rcases validZ_cases b w with ⟨vb, h3, h5, hb⟩ | vb
    · by_cases hc : 64 < v + w
      · have e1 : catE a v b w = 1 := by unfold catE; rw [if_neg (by omega), if_neg (by omega), if_pos hc]
        have e2 : catV a v b w = 0 := by unfold catV; rw [e1]; rfl
        rw [e1, e2]
        exact concat_arg a v b w ha hb h1 h2 h3 h5 hc W
      · have e1 : catE a v b w = 0 := by unfold catE; rw [if_neg (by omega), if_neg (by omega), if_neg hc]
        have e2 : catV a v b w = catZ a b w := by unfold catV; rw [e1]; rfl
        rw [e1, e2]
        exact concat_ok a v b w ha0 ha hb0 hb h1 h3 (by omega) W
    · have e1 : catE a v b w = validZ b w := by unfold catE; rw [if_neg (by omega), if_pos (by omega)]
      have e2 : catV a v b w = 0 := by unfold catV; rw [e1, if_neg (by omega)]
      rw [e1, e2]
      exact concat_bad2 a v b w _ ha h1 h2 rfl vb W
  · have e1 : catE a v b w = validZ a v := by unfold catE; rw [if_pos (by omega)]
    have e2 : catV a v b w = 0 := by unfold catV; rw [e1, if_neg (by omega)]
    rw [e1, e2]
    exact concat_bad1 a v b w _ rfl va W

/-! ### Extend -/
def exdZ (a w more : Int) (s : Bool) : Int := if s then sgnZ a w % powZ (w + more) else a
def exdE (a w more : Int) : Int := if validZ a w ≠ 0 then validZ a w else if more < 1 ∨ 64 - w < more then 1 else 0
def exdV (a w more : Int) (s : Bool) : Int := if exdE a w more = 0 then exdZ a w more s else 0

theorem extend_ok (a w more : Int) (s : Bool) (ha0 : 0 ≤ a) (ha : a ≤ maskZ w) (h1 : 1 ≤ w) (h2 : w ≤ 64) (m1 : 1 ≤ more) (m2 : more ≤ 64 - w) (W : World) :
    Calls Try.prog 25 #[.int .u64 a, .int .i64 w, .int .i64 more, .bool s] W fun e W' => e = .returned (.tuple #[.int .u64 (exdZ a w more s), .int .i64 0]) ∧ W = W' := by
  cases s
  · go_enter Try.func25, Try.ntmps25
    go_wp2_with (go_at_call 15; refine (valid_ok _ _ ha h1 h2 _).mono ?_; rintro e w' ⟨rfl, rfl⟩)
    go_ret2
    exact ⟨rfl, rfl⟩
  · go_enter Try.func25, Try.ntmps25
    go_wp2_with (first
      | (go_at_call 15; refine (valid_ok _ _ ha h1 h2 _).mono ?_; rintro e w' ⟨rfl, rfl⟩)
      | (go_at_call 41; refine (signed_any _ _ ha0 ha h1 h2 _).mono ?_; rintro e w' ⟨rfl, rfl⟩)
      | (go_at_call 38; refine (mask_any _ (by omega) (by omega) _).mono ?_; rintro e w' ⟨rfl, rfl⟩))
    go_ret2
    exact ⟨ret_pair (wrap_and_mask _ _ (by omega) (by omega)), rfl⟩
theorem extend_arg (a w more : Int) (s : Bool) (ha : a ≤ maskZ w) (h1 : 1 ≤ w) (h2 : w ≤ 64) (h : more < 1 ∨ 64 - w < more) (W : World) :
    Calls Try.prog 25 #[.int .u64 a, .int .i64 w, .int .i64 more, .bool s] W fun e W' => e = .returned (.tuple #[.int .u64 0, .int .i64 1]) ∧ W = W' := by
  by_cases c : more < 1
  · clear h
    go_enter Try.func25, Try.ntmps25
    go_wp2_with (go_at_call 15; refine (valid_ok _ _ ha h1 h2 _).mono ?_; rintro e w' ⟨rfl, rfl⟩)
    go_ret2
    exact ⟨rfl, rfl⟩
  · have c2 : 64 - w < more := by omega
    clear h
    go_enter Try.func25, Try.ntmps25
    go_wp2_with (go_at_call 15; refine (valid_ok _ _ ha h1 h2 _).mono ?_; rintro e w' ⟨rfl, rfl⟩)
    go_ret2
    exact ⟨rfl, rfl⟩
theorem extend_bad (a w more v : Int) (s : Bool) (hv : validZ a w = v) (h : v = 1 ∨ v = 5) (W : World) :
    Calls Try.prog 25 #[.int .u64 a, .int .i64 w, .int .i64 more, .bool s] W fun e W' => e = .returned (.tuple #[.int .u64 0, .int .i64 v]) ∧ W = W' := by
  have hc := valid_any a w
  rw [hv] at hc
  have HC := Lib.hid hc
  clear hc hv
  rcases h with rfl | rfl
  all_goals
    go_enter Try.func25, Try.ntmps25
    go_wp2_with (go_at_call 15; refine (HC.out _).mono ?_; rintro e w' ⟨rfl, rfl⟩)
    go_ret2
    exact ⟨rfl, rfl⟩
theorem extend_any (a w more : Int) (s : Bool) (ha0 : 0 ≤ a) (W : World) :
    Calls Try.prog 25 #[.int .u64 a, .int .i64 w, .int .i64 more, .bool s] W fun e W' => e = .returned (.tuple #[.int .u64 (exdV a w more s), .int .i64 (exdE a w more)]) ∧ W = W' := by
  rcases validZ_cases a w with ⟨va, h1, h2, ha⟩ | va
  · by_cases hc : more < 1 ∨ 64 - w < more
    · have e1 : exdE a w more = 1 := by unfold exdE; rw [if_neg (by omega), if_pos hc]
      have e2 : exdV a w more s = 0 := by unfold exdV; rw [e1]; rfl
      rw [e1, e2]
      exact extend_arg a w more s ha h1 h2 hc W
    · have e1 : exdE a w more = 0 := by unfold exdE; rw [if_neg (by omega), if_neg hc]
      have e2 : exdV a w more s = exdZ a w more s := by unfold exdV; rw [e1]; rfl
      rw [e1, e2]
      exact extend_ok a w more s ha0 ha h1 h2 (by omega) (by omega) W
  · have e1 : exdE a w more = validZ a w := by unfold exdE; rw [if_pos (by omega)]
    have e2 : exdV a w more s = 0 := by unfold exdV; rw [e1, if_neg (by omega)]
    rw [e1, e2]
    exact extend_bad a w more _ s rfl va W
end Go.Proofs.Ytkfgkoiinjhgnaa
