/- Contract of the reference's Parse. -/
import Derived.Test.YtkfgkoiinjhgnaaN3
import Derived.Test.YtkfgkoiinjhgnaaR5
import Derived.Deep.RegionHeld3
namespace Go.Proofs.Ytkfgkoiinjhgnaa
open Go.RowKit

/-- The bits of the last k of m digits. -/
def lastL (D : Nat → Int) (st m : Nat) : Nat → List Bool
  | 0 => []
  | k + 1 => lastL D st m k ++ bitsL (D (m - (k + 1))).toNat st
theorem lastL_length (D : Nat → Int) (st m : Nat) : ∀ k, (lastL D st m k).length = k * st
  | 0 => by simp [lastL]
  | k + 1 => by rw [lastL, List.length_append, lastL_length D st m k, bitsL_length, Nat.succ_mul]
theorem lastL_val (D : Nat → Int) (st m : Nat) : ∀ k, k ≤ m → (∀ j, m - k ≤ j → j < m → 0 ≤ D j ∧ D j < powZ st) → (ofL (lastL D st m k) : Int) = sufF D (powZ st) m k
  | 0, _, _ => rfl
  | k + 1, hk, h => by
    have ih := lastL_val D st m k (by omega) fun j h1 h2 => h j (by omega) h2
    have hd := h (m - (k + 1)) (Nat.le_refl _) (by omega)
    have hb := bits_val (D (m - (k + 1))).toNat st (by rw [maskZ_eq]; omega)
    rw [lastL, ofL_append, Int.natCast_add, Int.natCast_mul, ih, hb, lastL_length, sufF, powZ_nat, Int.toNat_natCast, Int.toNat_of_nonneg hd.1, Int.add_comm, Int.mul_comm, Nat.mul_comm k st, Nat.pow_mul]
    simp
theorem owns_keep {w w' : World} {B t n : Nat} {v : Value} {l : List Value} (h : w.ownsRow B t 1 v n l) (hb : Below w.heap.size w w') : w'.ownsRow B t 1 v n l := by
  refine ⟨h.1, ?_⟩
  rcases h.2 with h | ⟨g', cap', cur, e1, e2, e3, e4⟩
  · exact Or.inl h
  · exact Or.inr ⟨g', cap', cur, e1, e2, by rw [hb.block g' (Array.getElem?_eq_some_iff.1 e3).1]; exact e3, e4⟩
/-- The last number below k that a digit was found to be. -/
def nZ (d k : Int) : Int := if d < k then d else -1
theorem extract_one (s : ByteArray) (p : Nat) (h : p < s.size) : s.extract p (p + 1) = bytesZ [byZ s p] := by
  have hb : UInt8.ofNat (byZ s p).toNat = s[p] := by
    rw [← byZ_get s p h, Int.toNat_natCast, UInt8.ofNat_toNat]
  unfold bytesZ
  rw [show ([byZ s p].map fun z => UInt8.ofNat z.toNat) = [s[p]] by simp [hb]]
  apply ByteArray.ext
  apply Array.ext'
  rw [ByteArray.data_extract]
  apply List.ext_getElem
  · simp; omega
  · intro i h1 h2
    obtain rfl : i = 0 := by simpa using h2
    simp
    rfl
theorem bytes_one (a b : Int) (ha : 0 ≤ a ∧ a < 256) (hb : 0 ≤ b ∧ b < 256) (h : bytesZ [a] = bytesZ [b]) : a = b := by
  unfold bytesZ at h
  have h1 := congrArg (fun x => x.data.toList.map fun z => (z.toNat : Int)) h
  simp at h1
  omega

theorem bytes_ne {a b : ByteArray} (h : ¬ a = b) : (a.toList == b.toList) = false := by
  rw [beq_eq_false_iff_ne]
  intro h2
  rw [ByteArray.toList_eq, ByteArray.toList_eq] at h2
  exact h (ByteArray.ext (Array.ext' h2))
theorem ret_tri {k1 k2 k3 : IntKind} {a a' b c : Int} (h : a = a') : Ending.returned (Value.tuple #[.int k1 a, .int k2 b, .int k3 c]) = Ending.returned (.tuple #[.int k1 a', .int k2 b, .int k3 c]) := by rw [h]
set_option maxHeartbeats 1600000 in
theorem rparse_short (s : ByteArray) (h : (s.size : Int) < 3) (w : World) :
    Calls Try.prog 31 #[.string s] w fun e w' => e = .returned (.tuple #[.int .u64 0, .int .i64 0, .int .i64 2]) ∧ Below w.heap.size w w' := by
  go_enter Try.func31, Try.ntmps31
  go_wp2_with fail
  go_ret3
  exact ⟨rfl, Below.refl _ _⟩
set_option maxHeartbeats 1600000 in
theorem rparse_head (s : ByteArray) (h : ¬ (s.size : Int) < 3) (hs : s.size ≤ 1000) (h0 : ¬ byZ s 0 = 35) (w : World) :
    Calls Try.prog 31 #[.string s] w fun e w' => e = .returned (.tuple #[.int .u64 0, .int .i64 0, .int .i64 2]) ∧ Below w.heap.size w w' := by
  have g0 := byZ_get s 0 (by omega)
  go_enter Try.func31, Try.ntmps31
  go_wp2_with fail
  go_ret3
  exact ⟨rfl, Below.refl _ _⟩
set_option maxHeartbeats 1600000 in
theorem rparse_mark (s : ByteArray) (h : ¬ (s.size : Int) < 3) (hs : s.size ≤ 1000) (h0 : byZ s 0 = 35) (h1 : ¬ byZ s 1 = 98) (h2 : ¬ byZ s 1 = 120) (w : World) :
    Calls Try.prog 31 #[.string s] w fun e w' => e = .returned (.tuple #[.int .u64 0, .int .i64 0, .int .i64 2]) ∧ Below w.heap.size w w' := by
  have g0 := byZ_get s 0 (by omega)
  have g1 := byZ_get s 1 (by omega)
  have k1 : (byZ s 1 != 98) = true := by simpa using h1
  have k2 : (byZ s 1 != 120) = true := by simpa using h2
  go_enter Try.func31, Try.ntmps31
  go_wp2_with fail
  go_ret3
  exact ⟨rfl, Below.refl _ _⟩
set_option maxHeartbeats 1600000 in
theorem rparse_long1 (s : ByteArray) (h : ¬ (s.size : Int) < 3) (hs : s.size ≤ 1000) (h0 : byZ s 0 = 35) (h1 : byZ s 1 = 98) (h2 : 64 < (s.size : Int) - 2) (w : World) :
    Calls Try.prog 31 #[.string s] w fun e w' => e = .returned (.tuple #[.int .u64 0, .int .i64 0, .int .i64 2]) ∧ Below w.heap.size w w' := by
  have g0 := byZ_get s 0 (by omega)
  have g1 := byZ_get s 1 (by omega)
  go_enter Try.func31, Try.ntmps31
  go_wp2_with fail
  go_ret3
  exact ⟨rfl, Below.refl _ _⟩
set_option maxRecDepth 100000 in
set_option maxHeartbeats 6400000 in
theorem rparse_go1 (s : ByteArray) (m : Nat) (hm : s.size = m + 2) (h3 : 1 ≤ m) (h4 : m ≤ 64) (h0 : byZ s 0 = 35) (h1 : byZ s 1 = 98) (u n x : Int)
    (hok : (∀ j, j < m → dgZ s j < powZ 1) → u = sufF (dgZ s) (powZ 1) m m ∧ n = (m : Int) ∧ x = 0) (hbad : (¬ ∀ j, j < m → dgZ s j < powZ 1) → u = 0 ∧ n = 0 ∧ x = 2) (w : World) :
    Calls Try.prog 31 #[.string s] w fun e w' => e = .returned (.tuple #[.int .u64 u, .int .i64 n, .int .i64 x]) ∧ Below w.heap.size w w' := by
  have g0 := byZ_get s 0 (by omega)
  have g1 := byZ_get s 1 (by omega)
  have HO := Lib.hid hok
  have HN := Lib.hid hbad
  clear hok hbad
  have i1 : (s.size : Int) = (m : Int) + 2 := by omega
  have i2 : ¬ ((m : Int) + 2) < 3 := by omega
  have i3 : (m : Int) ≤ 64 := by omega
  obtain ⟨B, hB⟩ : ∃ B, B = w.heap.size := ⟨_, rfl⟩
  have HB := Lib.hid hB
  rw [← hB]
  clear hB
  go_enter Try.func31, Try.ntmps31
  go_wp2_with fail
  go_loopw [6, 7] (fun v i wr => ∃ c p : Nat, p + c = m + 1 ∧ 1 ≤ p ∧ i = .int .i64 p ∧ wr.ownsRow B 4 1 v (c * 1) ((lastL (dgZ s) 1 m c).map Value.bool) ∧ Below B w wr ∧ B ≤ wr.heap.size ∧ ∀ j, m - c ≤ j → j < m → dgZ s j < powZ 1) (fun _ i _ => (intOf i).toNat)
  case atStart => exact ⟨0, m + 1, by omega, by omega, by go_num, by rw [Nat.zero_mul]; exact World.ownsRow_nil _ _ _ _, Below.refl _ _, by rw [HB.out]; exact Nat.le_refl _, fun j h1 h2 => by omega⟩
  case round =>
    obtain ⟨c, p, hp, hp1, rfl, hown, hb, hs, hj⟩ := hrel
    have HJ := Lib.hid hj
    clear hj
    by_cases hlt : 1 < p
    · have l1 : (1 : Int) < (p : Int) := by omega
      have l2 : (p : Int) < (m : Int) + 2 := by omega
      have l3 : (p : Int) + 1 ≤ (m : Int) + 2 := by omega
      have l5 : (p : Int) ≤ (p : Int) + 1 := by omega
      have l7 : 0 ≤ (p : Int) + 1 := by omega
      have l8 : IntKind.i64.wrap ((p : Int) + 1) = (p : Int) + 1 := IntWalk.i64_in _ (by omega)
      have l9 : (0 : Int) ≤ (p : Int) := by omega
      have hex := extract_one s p (by omega)
      have hdk : dgZ s (m - (c + 1)) = dvZ (byZ s p) := by show dvZ (byZ s (m - (c + 1) + 2)) = _; rw [show m - (c + 1) + 2 = p by omega]
      have hbr := byZ_range s p
      generalize byZ s p = b at *
      have hdr := dvZ_nonneg b
      have hdg := dig_dvZ b
      generalize dvZ b = d at *
      have HX := Lib.hid hdk
      have HG := Lib.hid hdg
      clear hdk hdg
      go_wp2_with fail
      obtain ⟨wo, rfl⟩ : ∃ wo : World, wo = wr := ⟨_, rfl⟩
      go_loopw [8, 9] (fun y z wr => ∃ k : Nat, k ≤ 2 ∧ z = .int .i64 k ∧ y = .int .i64 (nZ d k) ∧ Below B w wr ∧ B ≤ wr.heap.size ∧ Below wo.heap.size wo wr) (fun _ z _ => 2 - (intOf z).toNat)
      case atStart => exact ⟨0, by omega, rfl, by unfold nZ; rw [if_neg (by omega)], hb, hs, Below.refl _ _⟩
      case round =>
        obtain ⟨k, hk, rfl, rfl, hb2, hs2, hbo⟩ := hrel
        by_cases hkl : k < 2
        · have l4 : (k : Int) < 2 := by omega
          by_cases hdk : d = k
          · have hdg : digZ k = b := (HG.out k (by omega) (by omega)).2 hdk
            have hnn : nZ d ((k + 1 : Nat) : Int) = k := by unfold nZ; rw [if_pos (by omega), hdk]
            rw [← hdg] at hex
            have HH := Lib.hid hnn
            clear hnn hdk hdg
            go_wp2_with fail
            go_region_held3 (fun w' => True)
              (trivial)
              ((go_at_call 42; refine (digit_any _ (by omega) (by omega) _).mono ?_; rintro e w9 ⟨rfl, b9⟩))
            all_goals
              have e9 : Below wr.heap.size wr w9 := ⟨b9.os, b9.tape, b9.output, b9.size, b9.block⟩
              have c9 := below_two hb2 hs2 e9
              have o9 := hbo.trans (e9.mono hbo.size)
              go_wp2_with fail
              go_roundw
              case rel => exact ⟨k + 1, by omega, by go_num, val_int HH.out.symm, c9.1, c9.2, o9⟩
              case measure => simp [intOf]; omega
          · have hdg : ¬ bytesZ [digZ k] = bytesZ [b] := fun h => hdk ((HG.out k (by omega) (by omega)).1 (bytes_one _ _ (digZ_range _ (by omega) (by omega)) (by omega) h))
            have hdq : ((bytesZ [digZ k]).toList == (bytesZ [b]).toList) = false := bytes_ne hdg
            have hdx : ((bytesZ [digZ k]).toList == (s.extract p (p + 1)).toList) = false := by rw [hex]; exact hdq
            have hnn : nZ d ((k + 1 : Nat) : Int) = nZ d k := by unfold nZ; split <;> split <;> omega
            have HH := Lib.hid hnn
            clear hnn hdk
            go_wp2_with fail
            go_region_held3 (fun w' => True)
              (trivial)
              ((go_at_call 42; refine (digit_any _ (by omega) (by omega) _).mono ?_; rintro e w9 ⟨rfl, b9⟩))
            all_goals
              have e9 : Below wr.heap.size wr w9 := ⟨b9.os, b9.tape, b9.output, b9.size, b9.block⟩
              have c9 := below_two hb2 hs2 e9
              have o9 := hbo.trans (e9.mono hbo.size)
              go_wp2_with fail
              go_roundw
              case rel => exact ⟨k + 1, by omega, by go_num, val_int HH.out.symm, c9.1, c9.2, o9⟩
              case measure => simp [intOf]; omega
        · obtain rfl : k = 2 := by omega
          clear hkl
          by_cases hd : d < 2
          · have hn : nZ d ((2 : Nat) : Int) = d := by unfold nZ; rw [if_pos (by omega)]
            rw [hn]
            clear hn
            obtain ⟨dn, rfl⟩ := Int.eq_ofNat_of_zero_le hdr.1
            have k1 : IntKind.u64.wrap (dn : Int) = dn := IntWalk.u64_in _ (by omega)
            have k2 : ¬ (dn : Int) < 0 := by omega
            have hown4 := owns_keep hown hbo
            clear hown
            have hdn : dn < 2 := by omega
            go_wp2_with fail
            refine (bits_any dn 1 (by omega) (by omega) _).mono ?_
            rintro e w5 ⟨r, rfl, hownr, b5⟩
            obtain ⟨g, cap, rfl, hr, hl, hc, hm', hgB⟩ := row_of hownr (by omega)
            have hown5 := owns_keep hown4 b5
            have c5 := below_two hb2 hs2 b5
            clear hown4
            go_wp2_with (at_builtin; refine wpList_appM rfl (.tmp 62) (.tmp 66) rfl B _ (c * 1) (lastL (dgZ s) 1 m c) (bitsL dn 1) g 0 1 cap rfl rfl (bitsL_length _ _) hr hown5 c5.1 c5.2 (by omega) ?_; intro v' w6 hown6 hb6 hs6)
            go_roundw
            case rel =>
              refine ⟨c + 1, p - 1, by omega, by omega, by go_num, ?_, hb6, hs6, fun j h1 h2 => ?_⟩
              · rw [lastL, HX.out, Int.toNat_natCast, Nat.succ_mul]; exact hown6
              · by_cases hjj : m - c ≤ j
                · exact HJ.out j hjj h2
                · obtain rfl : j = m - (c + 1) := by omega
                  rw [HX.out]; show (dn : Int) < 2; omega
            case measure => simp [intOf]; omega
          · have hn : nZ d ((2 : Nat) : Int) = -1 := by unfold nZ; rw [if_neg (by omega)]
            rw [hn]
            clear hn
            obtain ⟨rfl, rfl, rfl⟩ := HN.out fun h => by
              have := h (m - (c + 1)) (by omega)
              rw [HX.out] at this
              exact hd this
            go_wp2_with fail
            go_ret3
            exact ⟨rfl, hb2⟩
    · obtain rfl : p = 1 := by omega
      obtain rfl : c = m := by omega
      clear hlt
      have hall : ∀ j, j < c → dgZ s j < powZ 1 := fun j h => HJ.out j (by omega) h
      obtain ⟨rfl, rfl, rfl⟩ := HO.out hall
      have hval := lastL_val (dgZ s) 1 c c (Nat.le_refl _) fun j _ h => ⟨(dgZ_range s j).1, hall j h⟩
      have hlen := lastL_length (dgZ s) 1 c c
      rw [Nat.mul_one] at hown hlen
      obtain ⟨g, cap, rfl, hr, hl, hc, hm', hgB⟩ := row_of hown (by omega)
      have HV := Lib.hid hval
      clear hval hall hl hown
      go_wp2_with fail
      refine (of_mask _ _ _ _ _ _ hr hlen (by omega)).mono ?_
      rintro e w' ⟨⟨y, rfl, hy, hy0, hy1⟩, rfl⟩
      have HY := Lib.hid (hy.trans HV.out)
      clear hy
      go_wp2_with fail
      go_ret3
      exact ⟨ret_tri HY.out, hb⟩
set_option maxHeartbeats 1600000 in
theorem rparse_long4 (s : ByteArray) (h : ¬ (s.size : Int) < 3) (hs : s.size ≤ 1000) (h0 : byZ s 0 = 35) (h1 : byZ s 1 = 120) (h2 : 64 < 4 * ((s.size : Int) - 2)) (w : World) :
    Calls Try.prog 31 #[.string s] w fun e w' => e = .returned (.tuple #[.int .u64 0, .int .i64 0, .int .i64 2]) ∧ Below w.heap.size w w' := by
  have g0 := byZ_get s 0 (by omega)
  have g1 := byZ_get s 1 (by omega)
  go_enter Try.func31, Try.ntmps31
  go_wp2_with fail
  go_ret3
  exact ⟨rfl, Below.refl _ _⟩
set_option maxRecDepth 100000 in
set_option maxHeartbeats 6400000 in
theorem rparse_go4 (s : ByteArray) (m : Nat) (hm : s.size = m + 2) (h3 : 1 ≤ m) (h4 : m ≤ 16) (h0 : byZ s 0 = 35) (h1 : byZ s 1 = 120) (u n x : Int)
    (hok : (∀ j, j < m → dgZ s j < powZ 4) → u = sufF (dgZ s) (powZ 4) m m ∧ n = ((m : Int) * 4) ∧ x = 0) (hbad : (¬ ∀ j, j < m → dgZ s j < powZ 4) → u = 0 ∧ n = 0 ∧ x = 2) (w : World) :
    Calls Try.prog 31 #[.string s] w fun e w' => e = .returned (.tuple #[.int .u64 u, .int .i64 n, .int .i64 x]) ∧ Below w.heap.size w w' := by
  have g0 := byZ_get s 0 (by omega)
  have g1 := byZ_get s 1 (by omega)
  have HO := Lib.hid hok
  have HN := Lib.hid hbad
  clear hok hbad
  have i1 : (s.size : Int) = (m : Int) + 2 := by omega
  have i2 : ¬ ((m : Int) + 2) < 3 := by omega
  have i3 : (m : Int) ≤ 16 := by omega
  obtain ⟨B, hB⟩ : ∃ B, B = w.heap.size := ⟨_, rfl⟩
  have HB := Lib.hid hB
  rw [← hB]
  clear hB
  go_enter Try.func31, Try.ntmps31
  go_wp2_with fail
  go_loopw [6, 7] (fun v i wr => ∃ c p : Nat, p + c = m + 1 ∧ 1 ≤ p ∧ i = .int .i64 p ∧ wr.ownsRow B 4 1 v (c * 4) ((lastL (dgZ s) 4 m c).map Value.bool) ∧ Below B w wr ∧ B ≤ wr.heap.size ∧ ∀ j, m - c ≤ j → j < m → dgZ s j < powZ 4) (fun _ i _ => (intOf i).toNat)
  case atStart => exact ⟨0, m + 1, by omega, by omega, by go_num, by rw [Nat.zero_mul]; exact World.ownsRow_nil _ _ _ _, Below.refl _ _, by rw [HB.out]; exact Nat.le_refl _, fun j h1 h2 => by omega⟩
  case round =>
    obtain ⟨c, p, hp, hp1, rfl, hown, hb, hs, hj⟩ := hrel
    have HJ := Lib.hid hj
    clear hj
    by_cases hlt : 1 < p
    · have l1 : (1 : Int) < (p : Int) := by omega
      have l2 : (p : Int) < (m : Int) + 2 := by omega
      have l3 : (p : Int) + 1 ≤ (m : Int) + 2 := by omega
      have l5 : (p : Int) ≤ (p : Int) + 1 := by omega
      have l7 : 0 ≤ (p : Int) + 1 := by omega
      have l8 : IntKind.i64.wrap ((p : Int) + 1) = (p : Int) + 1 := IntWalk.i64_in _ (by omega)
      have l9 : (0 : Int) ≤ (p : Int) := by omega
      have hex := extract_one s p (by omega)
      have hdk : dgZ s (m - (c + 1)) = dvZ (byZ s p) := by show dvZ (byZ s (m - (c + 1) + 2)) = _; rw [show m - (c + 1) + 2 = p by omega]
      have hbr := byZ_range s p
      generalize byZ s p = b at *
      have hdr := dvZ_nonneg b
      have hdg := dig_dvZ b
      generalize dvZ b = d at *
      have HX := Lib.hid hdk
      have HG := Lib.hid hdg
      clear hdk hdg
      go_wp2_with fail
      obtain ⟨wo, rfl⟩ : ∃ wo : World, wo = wr := ⟨_, rfl⟩
      go_loopw [8, 9] (fun y z wr => ∃ k : Nat, k ≤ 16 ∧ z = .int .i64 k ∧ y = .int .i64 (nZ d k) ∧ Below B w wr ∧ B ≤ wr.heap.size ∧ Below wo.heap.size wo wr) (fun _ z _ => 16 - (intOf z).toNat)
      case atStart => exact ⟨0, by omega, rfl, by unfold nZ; rw [if_neg (by omega)], hb, hs, Below.refl _ _⟩
      case round =>
        obtain ⟨k, hk, rfl, rfl, hb2, hs2, hbo⟩ := hrel
        by_cases hkl : k < 16
        · have l4 : (k : Int) < 16 := by omega
          by_cases hdk : d = k
          · have hdg : digZ k = b := (HG.out k (by omega) (by omega)).2 hdk
            have hnn : nZ d ((k + 1 : Nat) : Int) = k := by unfold nZ; rw [if_pos (by omega), hdk]
            rw [← hdg] at hex
            have HH := Lib.hid hnn
            clear hnn hdk hdg
            go_wp2_with fail
            go_region_held3 (fun w' => True)
              (trivial)
              ((go_at_call 42; refine (digit_any _ (by omega) (by omega) _).mono ?_; rintro e w9 ⟨rfl, b9⟩))
            all_goals
              have e9 : Below wr.heap.size wr w9 := ⟨b9.os, b9.tape, b9.output, b9.size, b9.block⟩
              have c9 := below_two hb2 hs2 e9
              have o9 := hbo.trans (e9.mono hbo.size)
              go_wp2_with fail
              go_roundw
              case rel => exact ⟨k + 1, by omega, by go_num, val_int HH.out.symm, c9.1, c9.2, o9⟩
              case measure => simp [intOf]; omega
          · have hdg : ¬ bytesZ [digZ k] = bytesZ [b] := fun h => hdk ((HG.out k (by omega) (by omega)).1 (bytes_one _ _ (digZ_range _ (by omega) (by omega)) (by omega) h))
            have hdq : ((bytesZ [digZ k]).toList == (bytesZ [b]).toList) = false := bytes_ne hdg
            have hdx : ((bytesZ [digZ k]).toList == (s.extract p (p + 1)).toList) = false := by rw [hex]; exact hdq
            have hnn : nZ d ((k + 1 : Nat) : Int) = nZ d k := by unfold nZ; split <;> split <;> omega
            have HH := Lib.hid hnn
            clear hnn hdk
            go_wp2_with fail
            go_region_held3 (fun w' => True)
              (trivial)
              ((go_at_call 42; refine (digit_any _ (by omega) (by omega) _).mono ?_; rintro e w9 ⟨rfl, b9⟩))
            all_goals
              have e9 : Below wr.heap.size wr w9 := ⟨b9.os, b9.tape, b9.output, b9.size, b9.block⟩
              have c9 := below_two hb2 hs2 e9
              have o9 := hbo.trans (e9.mono hbo.size)
              go_wp2_with fail
              go_roundw
              case rel => exact ⟨k + 1, by omega, by go_num, val_int HH.out.symm, c9.1, c9.2, o9⟩
              case measure => simp [intOf]; omega
        · obtain rfl : k = 16 := by omega
          clear hkl
          by_cases hd : d < 16
          · have hn : nZ d ((16 : Nat) : Int) = d := by unfold nZ; rw [if_pos (by omega)]
            rw [hn]
            clear hn
            obtain ⟨dn, rfl⟩ := Int.eq_ofNat_of_zero_le hdr.1
            have k1 : IntKind.u64.wrap (dn : Int) = dn := IntWalk.u64_in _ (by omega)
            have k2 : ¬ (dn : Int) < 0 := by omega
            have hown4 := owns_keep hown hbo
            clear hown
            have hdn : dn < 16 := by omega
            go_wp2_with fail
            refine (bits_any dn 4 (by omega) (by omega) _).mono ?_
            rintro e w5 ⟨r, rfl, hownr, b5⟩
            obtain ⟨g, cap, rfl, hr, hl, hc, hm', hgB⟩ := row_of hownr (by omega)
            have hown5 := owns_keep hown4 b5
            have c5 := below_two hb2 hs2 b5
            clear hown4
            go_wp2_with (at_builtin; refine wpList_appM rfl (.tmp 62) (.tmp 66) rfl B _ (c * 4) (lastL (dgZ s) 4 m c) (bitsL dn 4) g 0 4 cap rfl rfl (bitsL_length _ _) hr hown5 c5.1 c5.2 (by omega) ?_; intro v' w6 hown6 hb6 hs6)
            go_roundw
            case rel =>
              refine ⟨c + 1, p - 1, by omega, by omega, by go_num, ?_, hb6, hs6, fun j h1 h2 => ?_⟩
              · rw [lastL, HX.out, Int.toNat_natCast, Nat.succ_mul]; exact hown6
              · by_cases hjj : m - c ≤ j
                · exact HJ.out j hjj h2
                · obtain rfl : j = m - (c + 1) := by omega
                  rw [HX.out]; show (dn : Int) < 16; omega
            case measure => simp [intOf]; omega
          · have hn : nZ d ((16 : Nat) : Int) = -1 := by unfold nZ; rw [if_neg (by omega)]
            rw [hn]
            clear hn
            obtain ⟨rfl, rfl, rfl⟩ := HN.out fun h => by
              have := h (m - (c + 1)) (by omega)
              rw [HX.out] at this
              exact hd this
            go_wp2_with fail
            go_ret3
            exact ⟨rfl, hb2⟩
    · obtain rfl : p = 1 := by omega
      obtain rfl : c = m := by omega
      clear hlt
      have hall : ∀ j, j < c → dgZ s j < powZ 4 := fun j h => HJ.out j (by omega) h
      obtain ⟨rfl, rfl, rfl⟩ := HO.out hall
      have hval := lastL_val (dgZ s) 4 c c (Nat.le_refl _) fun j _ h => ⟨(dgZ_range s j).1, hall j h⟩
      have hlen := lastL_length (dgZ s) 4 c c
      obtain ⟨g, cap, rfl, hr, hl, hc, hm', hgB⟩ := row_of hown (by omega)
      have HV := Lib.hid hval
      clear hval hall hl hown
      go_wp2_with fail
      refine (of_mask _ _ _ _ _ _ hr hlen (by omega)).mono ?_
      rintro e w' ⟨⟨y, rfl, hy, hy0, hy1⟩, rfl⟩
      have HY := Lib.hid (hy.trans HV.out)
      clear hy
      go_wp2_with fail
      go_ret3
      exact ⟨ret_tri HY.out, hb⟩
theorem rparse_any (s : ByteArray) (hs : s.size ≤ 1000) (w : World) :
    Calls Try.prog 31 #[.string s] w fun e w' => e = .returned (.tuple #[.int .u64 (prU s), .int .i64 (prN s), .int .i64 (prE s)]) ∧ Below w.heap.size w w' := by
  by_cases h : (s.size : Int) < 3
  · obtain ⟨e1, e2, e3⟩ := pr_bad (s := s) fun ho => by have := ho.1; omega
    rw [e1, e2, e3]; exact rparse_short s h w
  by_cases h0 : byZ s 0 = 35
  case neg =>
    obtain ⟨e1, e2, e3⟩ := pr_bad (s := s) fun ho => h0 ho.2.1
    rw [e1, e2, e3]; exact rparse_head s h hs h0 w
  obtain ⟨m, hm⟩ : ∃ m, s.size = m + 2 := ⟨s.size - 2, by omega⟩
  have hm2 : s.size - 2 = m := by omega
  by_cases h1 : byZ s 1 = 98
  · have hst : stpZ s = 1 := by unfold stpZ; rw [if_neg (by omega)]
    by_cases h2 : m ≤ 64
    · refine rparse_go1 s m hm (by omega) h2 h0 h1 _ _ _ (fun hD => ?_) (fun hD => ?_) w
      · obtain ⟨e1, e2, e3⟩ := pr_ok (s := s) ⟨by omega, h0, Or.inl h1, by rw [hst]; omega, by rw [hst, hm2]; exact hD⟩
        rw [e1, e2, e3, hst, hm2, suf_all]
        exact ⟨rfl, by simp, rfl⟩
      · exact pr_bad (s := s) fun ho => hD (by have := ho.2.2.2.2; rw [hst, hm2] at this; exact this)
    · obtain ⟨e1, e2, e3⟩ := pr_bad (s := s) fun ho => by have := ho.2.2.2.1; rw [hst] at this; omega
      rw [e1, e2, e3]; exact rparse_long1 s h hs h0 h1 (by omega) w
  · by_cases h1' : byZ s 1 = 120
    · have hst : stpZ s = 4 := by unfold stpZ; rw [if_pos h1']
      by_cases h2 : m ≤ 16
      · refine rparse_go4 s m hm (by omega) h2 h0 h1' _ _ _ (fun hD => ?_) (fun hD => ?_) w
        · obtain ⟨e1, e2, e3⟩ := pr_ok (s := s) ⟨by omega, h0, Or.inr h1', by rw [hst]; omega, by rw [hst, hm2]; exact hD⟩
          rw [e1, e2, e3, hst, hm2, suf_all]
          exact ⟨rfl, rfl, rfl⟩
        · exact pr_bad (s := s) fun ho => hD (by have := ho.2.2.2.2; rw [hst, hm2] at this; exact this)
      · obtain ⟨e1, e2, e3⟩ := pr_bad (s := s) fun ho => by have := ho.2.2.2.1; rw [hst] at this; omega
        rw [e1, e2, e3]; exact rparse_long4 s h hs h0 h1' (by omega) w
    · obtain ⟨e1, e2, e3⟩ := pr_bad (s := s) fun ho => by have := ho.2.2.1; omega
      rw [e1, e2, e3]; exact rparse_mark s h hs h0 h1 h1' w
end Go.Proofs.Ytkfgkoiinjhgnaa
