import Derived.Test.YtkfgkoiinjhgnaaR9
import Derived.Deep.RegionLaw
import Derived.Test.YtkfgkoiinjhgnaaM3
namespace Go.Proofs.Ytkfgkoiinjhgnaa
open Go.RowKit

theorem high_iff (l : List Bool) (n : Nat) (hl : l.length = n) (h1 : 1 ≤ n) : at' l (n - 1) = decide (2 ^ (n - 1) ≤ ofL l) := by
  have h := ofL_lt l
  rw [hl] at h
  have e : 2 ^ n = 2 * 2 ^ (n - 1) := by
    obtain ⟨m, rfl⟩ : ∃ m, n = m + 1 := ⟨n - 1, by omega⟩
    rw [Nat.pow_succ, Nat.add_sub_cancel]; omega
  have h2 : 0 < 2 ^ (n - 1) := Nat.two_pow_pos _
  rw [at_val, Bool.eq_iff_iff]
  simp only [decide_eq_true_eq]
  rw [e] at h
  generalize 2 ^ (n - 1) = P at *
  constructor
  · intro h3
    by_cases h4 : P ≤ ofL l
    · exact h4
    · rw [Nat.div_eq_of_lt (by omega)] at h3; omega
  · intro h3
    have : ofL l / P = 1 := by rw [Nat.div_eq_iff (by omega)]; omega
    rw [this]
/-- What 'binary' hands back: bits of the value x. -/
def BinPost (x : Nat) (e : Ending) (w' : World) : Prop :=
  ∃ g off len cap L, e = .returned (.slice (some ⟨g, off, none⟩) len cap) ∧ Rd w' g off L ∧ L.length = len ∧ len ≤ 64 ∧ ofL L = x
theorem ofL_one (b : Bool) : ofL [b] = b.toNat := by simp [ofL]
section
variable (g off n cap g2 off2 cap2 : Nat) (l m : List Bool) (w : World) (hr : Rd w g off l) (hr2 : Rd w g2 off2 m) (hl : l.length = n) (hm : m.length = n) (h1 : 1 ≤ n) (hn : n ≤ 64)
include hr hr2 hl hm h1 hn
theorem rb_add :
    Calls Try.prog 39 #[.int .i64 9, .slice (some ⟨g, off, none⟩) n cap, .slice (some ⟨g2, off2, none⟩) n cap2] w fun e w' => BinPost (opN 9 (ofL l) (ofL m) n) e w' ∧ Below w.heap.size w w' := by
  have HL := Lib.hid hl
  have HM := Lib.hid hm
  have hc := hr.cell (n - 1) (by omega)
  rw [show l.getD (n - 1) false = at' l (n - 1) from rfl] at hc
  have hA := ofL_lt l
  rw [hl] at hA
  have HA := Lib.hid hA
  clear hl hm hA
  go_enter Try.func39, Try.ntmps39
  go_wp2_with fail
  refine (plus_rd _ _ _ _ _ _ _ _ _ _ _ hr hr2 HL.out HM.out h1 (by omega)).mono ?_
  rintro e w1 ⟨⟨g3, cap3, rfl, hr3, hc3, hm3, hB3⟩, b3⟩
  go_wp2_with fail
  go_ret
  exact ⟨⟨g3, 0, n, cap3, _, rfl, hr3, by rw [plusL_length, HL.out], hn, by rw [ofL_plus _ _ _ (by rw [HM.out, HL.out]), HL.out]; rfl⟩, b3⟩
theorem rb_mul :
    Calls Try.prog 39 #[.int .i64 10, .slice (some ⟨g, off, none⟩) n cap, .slice (some ⟨g2, off2, none⟩) n cap2] w fun e w' => BinPost (opN 10 (ofL l) (ofL m) n) e w' ∧ Below w.heap.size w w' := by
  have HL := Lib.hid hl
  have HM := Lib.hid hm
  have hc := hr.cell (n - 1) (by omega)
  rw [show l.getD (n - 1) false = at' l (n - 1) from rfl] at hc
  have hA := ofL_lt l
  rw [hl] at hA
  have HA := Lib.hid hA
  clear hl hm hA
  go_enter Try.func39, Try.ntmps39
  go_wp2_with fail
  refine (times_any _ _ _ _ _ _ _ _ _ _ hr hr2 HL.out HM.out h1 (by omega)).mono ?_
  rintro e w1 ⟨⟨g3, cap3, rfl, hr3⟩, b3⟩
  go_wp2_with fail
  go_ret
  exact ⟨⟨g3, 0, n, cap3, _, rfl, hr3, by rw [timesN_length, HL.out], hn, by rw [ofL_times _ _ _ (by rw [HM.out]; exact Nat.le_refl _), HL.out, List.take_of_length_le (by rw [HM.out]; exact Nat.le_refl _)]; rfl⟩, b3⟩
theorem rb_udiv :
    Calls Try.prog 39 #[.int .i64 11, .slice (some ⟨g, off, none⟩) n cap, .slice (some ⟨g2, off2, none⟩) n cap2] w fun e w' => BinPost (opN 11 (ofL l) (ofL m) n) e w' ∧ Below w.heap.size w w' := by
  have HL := Lib.hid hl
  have HM := Lib.hid hm
  have hc := hr.cell (n - 1) (by omega)
  rw [show l.getD (n - 1) false = at' l (n - 1) from rfl] at hc
  have hA := ofL_lt l
  rw [hl] at hA
  have HA := Lib.hid hA
  clear hl hm hA
  go_enter Try.func39, Try.ntmps39
  go_wp2_with fail
  refine (divided_any _ _ _ _ _ _ _ _ _ _ hr hr2 HL.out HM.out h1 hn).mono ?_
  rintro e w1 ⟨⟨g3, c3, g4, o4, c4, L1, L2, rfl, hr3, hr4, hl3, hl4, hp, hz⟩, b3⟩
  have HP := Lib.hid hp
  have HZ := Lib.hid hz
  clear hp hz
  go_wp2_with fail
  go_ret
  refine ⟨⟨g3, 0, n, c3, L1, rfl, hr3, hl3, hn, ?_⟩, b3⟩
  by_cases hD : ofL m = 0
  · rw [(HZ.out hD).1]; show _ = if ofL m = 0 then _ else _; rw [if_pos hD]
  · rw [(HP.out hD).1]; show _ = if ofL m = 0 then _ else _; rw [if_neg hD]
theorem rb_urem :
    Calls Try.prog 39 #[.int .i64 12, .slice (some ⟨g, off, none⟩) n cap, .slice (some ⟨g2, off2, none⟩) n cap2] w fun e w' => BinPost (opN 12 (ofL l) (ofL m) n) e w' ∧ Below w.heap.size w w' := by
  have HL := Lib.hid hl
  have HM := Lib.hid hm
  have hc := hr.cell (n - 1) (by omega)
  rw [show l.getD (n - 1) false = at' l (n - 1) from rfl] at hc
  have hA := ofL_lt l
  rw [hl] at hA
  have HA := Lib.hid hA
  clear hl hm hA
  go_enter Try.func39, Try.ntmps39
  go_wp2_with fail
  refine (divided_any _ _ _ _ _ _ _ _ _ _ hr hr2 HL.out HM.out h1 hn).mono ?_
  rintro e w1 ⟨⟨g3, c3, g4, o4, c4, L1, L2, rfl, hr3, hr4, hl3, hl4, hp, hz⟩, b3⟩
  have HP := Lib.hid hp
  have HZ := Lib.hid hz
  clear hp hz
  go_wp2_with fail
  go_ret
  refine ⟨⟨g4, o4, n, c4, L2, rfl, hr4, hl4, hn, ?_⟩, b3⟩
  by_cases hD : ofL m = 0
  · rw [(HZ.out hD).2]; show _ = if ofL m = 0 then _ else _; rw [if_pos hD]
  · rw [(HP.out hD).2]; show _ = if ofL m = 0 then _ else _; rw [if_neg hD]
theorem rb_shl :
    Calls Try.prog 39 #[.int .i64 13, .slice (some ⟨g, off, none⟩) n cap, .slice (some ⟨g2, off2, none⟩) n cap2] w fun e w' => BinPost (opN 13 (ofL l) (ofL m) n) e w' ∧ Below w.heap.size w w' := by
  have HL := Lib.hid hl
  have HM := Lib.hid hm
  have hc := hr.cell (n - 1) (by omega)
  rw [show l.getD (n - 1) false = at' l (n - 1) from rfl] at hc
  have hA := ofL_lt l
  rw [hl] at hA
  have HA := Lib.hid hA
  clear hl hm hA
  go_enter Try.func39, Try.ntmps39
  go_wp2_with fail
  refine (places_any _ _ _ _ _ _ hr2 HM.out hn).mono ?_
  rintro e w' ⟨rfl, rfl⟩
  have hs : placesL m n ≤ 64 := by unfold placesL; omega
  generalize hpl : placesL m n = s at hs
  have HS := Lib.hid hpl
  clear hpl
  go_wp2_with fail
  refine (moved_rd _ _ _ _ _ _ _ _ hr HL.out h1 (by omega) (by omega) (by omega)).mono ?_
  rintro e w1 ⟨⟨g3, cap3, rfl, hr3, hc3, hm3, hB3⟩, b3⟩
  go_wp2_with fail
  go_ret
  exact ⟨⟨g3, 0, n, cap3, _, rfl, hr3, by rw [movedL_length, HL.out], hn, by rw [ofL_moved_up, HL.out, ← HS.out]; exact shl_min _ _ _⟩, b3⟩
theorem rb_shr :
    Calls Try.prog 39 #[.int .i64 14, .slice (some ⟨g, off, none⟩) n cap, .slice (some ⟨g2, off2, none⟩) n cap2] w fun e w' => BinPost (opN 14 (ofL l) (ofL m) n) e w' ∧ Below w.heap.size w w' := by
  have HL := Lib.hid hl
  have HM := Lib.hid hm
  have hc := hr.cell (n - 1) (by omega)
  rw [show l.getD (n - 1) false = at' l (n - 1) from rfl] at hc
  have hA := ofL_lt l
  rw [hl] at hA
  have HA := Lib.hid hA
  clear hl hm hA
  go_enter Try.func39, Try.ntmps39
  go_wp2_with fail
  refine (places_any _ _ _ _ _ _ hr2 HM.out hn).mono ?_
  rintro e w' ⟨rfl, rfl⟩
  have hs : placesL m n ≤ 64 := by unfold placesL; omega
  generalize hpl : placesL m n = s at hs
  have HS := Lib.hid hpl
  clear hpl
  go_wp2_with fail
  refine (moved_rd _ _ _ _ _ _ _ _ hr HL.out h1 (by omega) (by omega) (by omega)).mono ?_
  rintro e w1 ⟨⟨g3, cap3, rfl, hr3, hc3, hm3, hB3⟩, b3⟩
  go_wp2_with fail
  go_ret
  exact ⟨⟨g3, 0, n, cap3, _, rfl, hr3, by rw [movedL_length, HL.out], hn, by rw [ofL_moved_down, ← HS.out]; exact shr_min' _ _ _ HA.out⟩, b3⟩
omit hr hr2 hl hm h1 hn in
theorem opN15 (a b n : Nat) : opN 15 a b n = if a < 2 ^ (n - 1) then a / 2 ^ b else 2 ^ n - 1 - (2 ^ n - 1 - a) / 2 ^ b := rfl
theorem rb_ashr :
    Calls Try.prog 39 #[.int .i64 15, .slice (some ⟨g, off, none⟩) n cap, .slice (some ⟨g2, off2, none⟩) n cap2] w fun e w' => BinPost (opN 15 (ofL l) (ofL m) n) e w' ∧ Below w.heap.size w w' := by
  have HL := Lib.hid hl
  have HM := Lib.hid hm
  have hc := hr.cell (n - 1) (by omega)
  rw [show l.getD (n - 1) false = at' l (n - 1) from rfl] at hc
  have hA := ofL_lt l
  rw [hl] at hA
  have HA := Lib.hid hA
  clear hl hm hA
  have hh := high_iff l n HL.out h1
  by_cases hp : 2 ^ (n - 1) ≤ ofL l
  · rw [decide_eq_true hp] at hh
    rw [hh] at hc
    have HH := Lib.hid hp
    clear hh hp
    go_enter Try.func39, Try.ntmps39
    go_wp2_with fail
    refine (places_any _ _ _ _ _ _ hr2 HM.out hn).mono ?_
    rintro e w' ⟨rfl, rfl⟩
    have hs : placesL m n ≤ 64 := by unfold placesL; omega
    generalize hpl : placesL m n = s at hs
    have HS := Lib.hid hpl
    clear hpl
    go_wp2_with fail
    refine (moved_rd _ _ _ _ _ _ _ _ hr HL.out h1 (by omega) (by omega) (by omega)).mono ?_
    rintro e w1 ⟨⟨g3, cap3, rfl, hr3, hc3, hm3, hB3⟩, b3⟩
    go_wp2_with fail
    go_ret
    exact ⟨⟨g3, 0, n, cap3, _, rfl, hr3, by rw [movedL_length, HL.out], hn, by rw [ofL_moved_ones, HL.out, ← HS.out, opN15, if_neg (by have := HH.out; omega), placesL, shr_min' _ _ _ (by have := HA.out; omega)]⟩, b3⟩
  rw [decide_eq_false hp] at hh
  rw [hh] at hc
  have HH := Lib.hid hp
  clear hh hp
  go_enter Try.func39, Try.ntmps39
  go_wp2_with fail
  refine (places_any _ _ _ _ _ _ hr2 HM.out hn).mono ?_
  rintro e w' ⟨rfl, rfl⟩
  have hs : placesL m n ≤ 64 := by unfold placesL; omega
  generalize hpl : placesL m n = s at hs
  have HS := Lib.hid hpl
  clear hpl
  go_wp2_with fail
  refine (moved_rd _ _ _ _ _ _ _ _ hr HL.out h1 (by omega) (by omega) (by omega)).mono ?_
  rintro e w1 ⟨⟨g3, cap3, rfl, hr3, hc3, hm3, hB3⟩, b3⟩
  go_wp2_with fail
  go_ret
  exact ⟨⟨g3, 0, n, cap3, _, rfl, hr3, by rw [movedL_length, HL.out], hn, by rw [ofL_moved_down, ← HS.out, opN15, if_pos (by have := HH.out; omega)]; exact shr_min' _ _ _ HA.out⟩, b3⟩
theorem rb_ult :
    Calls Try.prog 39 #[.int .i64 16, .slice (some ⟨g, off, none⟩) n cap, .slice (some ⟨g2, off2, none⟩) n cap2] w fun e w' => BinPost (opN 16 (ofL l) (ofL m) n) e w' ∧ Below w.heap.size w w' := by
  have HL := Lib.hid hl
  have HM := Lib.hid hm
  have hc := hr.cell (n - 1) (by omega)
  rw [show l.getD (n - 1) false = at' l (n - 1) from rfl] at hc
  have hA := ofL_lt l
  rw [hl] at hA
  have HA := Lib.hid hA
  clear hl hm hA
  go_enter Try.func39, Try.ntmps39
  go_wp2_with fail
  refine (less_any _ _ _ _ _ _ _ _ _ HL.out HM.out _ hr hr2 (by omega)).mono ?_
  rintro e w1 ⟨rfl, b3⟩
  go_wp2_with fail
  refine (one_any _ _).mono ?_
  rintro e w2 ⟨⟨g4, cap4, rfl, hr4, hc4, hm4, hB4⟩, b4⟩
  go_wp2_with fail
  go_ret
  exact ⟨⟨g4, 0, 1, cap4, _, rfl, hr4, rfl, by omega, by rw [ofL_one, less_ofL _ _ (by rw [HM.out, HL.out]), opN16]; by_cases h : ofL l < ofL m <;> simp [h]⟩, (below_two b3 b3.size b4).1⟩
omit hr hr2 hl hm h1 hn in
theorem slt_parts (a b n : Nat) : opN 17 a b n = if decide (2 ^ (n - 1) ≤ a) = decide (2 ^ (n - 1) ≤ b) then (decide (a < b)).toNat else (decide (2 ^ (n - 1) ≤ a)).toNat := by
  rw [opN17]
  by_cases c1 : a < 2 ^ (n - 1) <;> by_cases c2 : b < 2 ^ (n - 1)
  · have e1 : decide (2 ^ (n - 1) ≤ a) = false := decide_eq_false (by omega)
    have e2 : decide (2 ^ (n - 1) ≤ b) = false := decide_eq_false (by omega)
    rw [if_pos (by simp [c1, c2]), e1, e2]; by_cases c : a < b <;> simp [c]
  · rw [if_neg (by simp [c1, c2]), if_pos c1, if_neg (by rw [decide_eq_false (by omega), decide_eq_true (by omega)]; simp), decide_eq_false (by omega)]; rfl
  · rw [if_neg (by simp [c1, c2]), if_neg c1, if_neg (by rw [decide_eq_true (by omega), decide_eq_false (by omega)]; simp), decide_eq_true (by omega)]; rfl
  · have e1 : decide (2 ^ (n - 1) ≤ a) = true := decide_eq_true (by omega)
    have e2 : decide (2 ^ (n - 1) ≤ b) = true := decide_eq_true (by omega)
    rw [if_pos (by simp [c1, c2]), e1, e2]; by_cases c : a < b <;> simp [c]
theorem rb_slt :
    Calls Try.prog 39 #[.int .i64 17, .slice (some ⟨g, off, none⟩) n cap, .slice (some ⟨g2, off2, none⟩) n cap2] w fun e w' => BinPost (opN 17 (ofL l) (ofL m) n) e w' ∧ Below w.heap.size w w' := by
  have HL := Lib.hid hl
  have HM := Lib.hid hm
  have hc := hr.cell (n - 1) (by omega)
  rw [show l.getD (n - 1) false = at' l (n - 1) from rfl] at hc
  have hA := ofL_lt l
  rw [hl] at hA
  have HA := Lib.hid hA
  clear hl hm hA
  have hc2 := hr2.cell (n - 1) (by rw [HM.out]; omega)
  rw [show m.getD (n - 1) false = at' m (n - 1) from rfl] at hc2
  have hh := high_iff l n HL.out h1
  have hh2 := high_iff m n HM.out h1
  have hsp := slt_parts (ofL l) (ofL m) n
  rw [← hh, ← hh2] at hsp
  have hlv := less_ofL l m (by rw [HM.out, HL.out])
  rw [← hlv] at hsp
  clear hh hh2 hlv
  have HSP := Lib.hid hsp
  clear hsp
  generalize hx : at' l (n - 1) = x at hc
  generalize hy : at' m (n - 1) = y at hc2
  have HX := Lib.hid hx
  have HY := Lib.hid hy
  clear hx hy
  cases x
  all_goals
    cases y
    all_goals
      go_enter Try.func39, Try.ntmps39
      go_wp2_with fail
      first
        | (refine (less_any _ _ _ _ _ _ _ _ _ HL.out HM.out _ hr hr2 (by omega)).mono ?_
           rintro e w1 ⟨rfl, b3⟩
           go_wp2_with fail
           refine (one_any _ _).mono ?_
           rintro e w2 ⟨⟨g4, cap4, rfl, hr4, hc4, hm4, hB4⟩, b4⟩
           go_wp2_with fail
           go_ret
           exact ⟨⟨g4, 0, 1, cap4, _, rfl, hr4, rfl, by omega, by rw [ofL_one, HSP.out, HX.out, HY.out, if_pos rfl]⟩, (below_two b3 b3.size b4).1⟩)
        | (refine (one_any _ _).mono ?_
           rintro e w2 ⟨⟨g4, cap4, rfl, hr4, hc4, hm4, hB4⟩, b4⟩
           go_wp2_with fail
           go_ret
           exact ⟨⟨g4, 0, 1, cap4, _, rfl, hr4, rfl, by omega, by rw [ofL_one, HSP.out, HX.out, HY.out]; rfl⟩, b4⟩)
theorem rb_eq :
    Calls Try.prog 39 #[.int .i64 18, .slice (some ⟨g, off, none⟩) n cap, .slice (some ⟨g2, off2, none⟩) n cap2] w fun e w' => BinPost (opN 18 (ofL l) (ofL m) n) e w' ∧ Below w.heap.size w w' := by
  have HL := Lib.hid hl
  have HM := Lib.hid hm
  have hc := hr.cell (n - 1) (by omega)
  rw [show l.getD (n - 1) false = at' l (n - 1) from rfl] at hc
  have hA := ofL_lt l
  rw [hl] at hA
  have HA := Lib.hid hA
  clear hl hm hA
  have hv1 := less_ofL l m (by rw [HM.out, HL.out])
  have hv2 := less_ofL m l (by rw [HM.out, HL.out])
  have heq : ∀ x y : Bool, lessL l m = x → lessL m l = y → (!x && !y).toNat = opN 18 (ofL l) (ofL m) n := fun x y hx hy => by
    rw [← hx, ← hy, hv1, hv2, opN18]
    by_cases a1 : ofL l < ofL m
    · rw [decide_eq_true a1, if_neg (by omega)]; rfl
    · by_cases a2 : ofL m < ofL l
      · rw [decide_eq_true a2, if_neg (by omega)]; simp
      · rw [decide_eq_false a1, decide_eq_false a2, if_pos (by omega)]; rfl
  have HEQ := Lib.hid heq
  clear heq hv1 hv2
  have hq : ∀ x, x = lessL l m → x = lessL l m := fun _ h => h
  clear hq
  generalize hx : lessL l m = x
  generalize hy : lessL m l = y
  have K1 := less_any g off n cap g2 off2 cap2 l m HL.out HM.out
  have K2 := less_any g2 off2 n cap2 g off cap m l HM.out HL.out
  rw [hx] at K1
  rw [hy] at K2
  have HK1 := Lib.hid K1
  have HK2 := Lib.hid K2
  have HX := Lib.hid hx
  have HY := Lib.hid hy
  clear hx hy K1 K2
  cases x
  · cases y
    all_goals
      go_enter Try.func39, Try.ntmps39
      go_wp2_with fail
      refine (HK1.out _ hr hr2 (by omega)).mono ?_
      rintro e w1 ⟨rfl, b3⟩
      go_wp2_with fail
      refine (HK2.out _ (hr2.keep b3) (hr.keep b3) (by omega)).mono ?_
      rintro e w2 ⟨rfl, b4⟩
      have c4 := below_two b3 b3.size b4
      go_wp2_with fail
      refine (one_any _ _).mono ?_
      rintro e w3 ⟨⟨g4, cap4, rfl, hr4, hc4, hm4, hB4⟩, b5⟩
      go_wp2_with fail
      go_ret
      exact ⟨⟨g4, 0, 1, cap4, _, rfl, hr4, rfl, by omega, by rw [ofL_one]; exact HEQ.out _ _ HX.out HY.out⟩, (below_two c4.1 c4.2 b5).1⟩
  · go_enter Try.func39, Try.ntmps39
    go_wp2_with fail
    refine (HK1.out _ hr hr2 (by omega)).mono ?_
    rintro e w1 ⟨rfl, b3⟩
    go_wp2_with fail
    refine (one_any _ _).mono ?_
    rintro e w3 ⟨⟨g4, cap4, rfl, hr4, hc4, hm4, hB4⟩, b5⟩
    go_wp2_with fail
    go_ret
    exact ⟨⟨g4, 0, 1, cap4, _, rfl, hr4, rfl, by omega, by rw [ofL_one]; exact HEQ.out _ _ HX.out HY.out⟩, (below_two b3 b3.size b5).1⟩
end
end Go.Proofs.Ytkfgkoiinjhgnaa
