import Derived.Test.YtkfgkoiinjhgnaaR4
import Derived.Test.YtkfgkoiinjhgnaaA5
import Derived.Test.YtkfgkoiinjhgnaaW1
namespace Go.Proofs.Ytkfgkoiinjhgnaa
open Go.RowKit

theorem bits_val (u n : Nat) (h : (u : Int) ≤ maskZ n) : (ofL (bitsL u n) : Int) = u := by
  rw [maskZ_eq, powZ_nat, Int.toNat_natCast] at h
  rw [ofL_bits, Nat.mod_eq_of_lt (by omega)]

theorem rvalid_arg (u n : Int) (h : n < 1 ∨ 64 < n) (w : World) :
    Calls Try.prog 16 #[.int .u64 u, .int .i64 n] w fun e w' => e = .returned (.int .i64 1) ∧ w = w' := by
  rcases h with h | h
  · go_enter Try.func16, Try.ntmps16
    go_wp2_with fail
    go_ret
    exact ⟨rfl, rfl⟩
  · by_cases h' : n < 1
    · omega
    · go_enter Try.func16, Try.ntmps16
      go_wp2_with fail
      go_ret
      exact ⟨rfl, rfl⟩
theorem rvalid_in (u : Int) (n : Nat) (hu0 : 0 ≤ u) (hu : u ≤ 18446744073709551615) (h1 : 1 ≤ n) (h2 : n ≤ 64) (w : World) :
    Calls Try.prog 16 #[.int .u64 u, .int .i64 n] w fun e w' => e = .returned (.int .i64 (validZ u n)) ∧ Below w.heap.size w w' := by
  by_cases hm : u ≤ maskZ n
  · have e0 : validZ u n = 0 := by unfold validZ; rw [if_neg (by omega), if_neg (by omega)]
    rw [e0]
    go_enter Try.func16, Try.ntmps16
    go_wp2_with fail
    refine (bits_int _ _ hu0 hu (by omega) (by omega) _).mono ?_
    rintro e w1 ⟨⟨g, cap, rfl, hr, hc, hm', hB⟩, hb⟩
    rw [Int.toNat_natCast] at *
    go_wp2_with fail
    refine (of_mask _ _ _ _ _ _ hr (by simp [bitsL_length]) (by omega)).mono ?_
    rintro e w' ⟨⟨x, rfl, hx, hx0, hx1⟩, rfl⟩
    rw [bits_val _ _ (by omega)] at hx
    obtain rfl : x = u := by omega
    clear hx
    go_wp2_with fail
    go_ret
    exact ⟨rfl, hb⟩
  · have e0 : validZ u n = 5 := by unfold validZ; rw [if_neg (by omega), if_pos (by omega)]
    rw [e0]
    go_enter Try.func16, Try.ntmps16
    go_wp2_with fail
    refine (bits_int _ _ hu0 hu (by omega) (by omega) _).mono ?_
    rintro e w1 ⟨⟨g, cap, rfl, hr, hc, hm', hB⟩, hb⟩
    rw [Int.toNat_natCast] at *
    go_wp2_with fail
    refine (of_mask _ _ _ _ _ _ hr (by simp [bitsL_length]) (by omega)).mono ?_
    rintro e w' ⟨⟨x, rfl, hx, hx0, hx1⟩, rfl⟩
    have hne : (x == u) = false := beq_eq_false_iff_ne.2 (by omega)
    clear hx
    go_wp2_with fail
    go_ret
    exact ⟨rfl, hb⟩
theorem rvalid_any (u n : Int) (hu0 : 0 ≤ u) (hu : u ≤ 18446744073709551615) (w : World) :
    Calls Try.prog 16 #[.int .u64 u, .int .i64 n] w fun e w' => e = .returned (.int .i64 (validZ u n)) ∧ Below w.heap.size w w' := by
  by_cases h : n < 1 ∨ 64 < n
  · have e0 : validZ u n = 1 := by unfold validZ; rw [if_pos h]
    rw [e0]
    exact (rvalid_arg u n h w).mono fun _ _ ⟨a, b⟩ => ⟨a, b ▸ Below.refl _ _⟩
  · obtain ⟨m, rfl⟩ := Int.eq_ofNat_of_zero_le (show 0 ≤ n by omega)
    exact rvalid_in u m hu0 hu (by omega) (by omega) w
theorem rvalid_ok (u n : Int) (hu0 : 0 ≤ u) (hu : u ≤ maskZ n) (h1 : 1 ≤ n) (h2 : n ≤ 64) (w : World) :
    Calls Try.prog 16 #[.int .u64 u, .int .i64 n] w fun e w' => e = .returned (.int .i64 0) ∧ Below w.heap.size w w' := by
  have e0 : validZ u n = 0 := by unfold validZ; rw [if_neg (by omega), if_neg (by omega)]
  have := rvalid_any u n hu0 (by have := maskZ_top n h2; omega) w
  rw [e0] at this
  exact this

/-! ### Extract -/
theorem bitsL_drop (u n lo k : Nat) (h : lo + k ≤ n) : ((bitsL u n).drop lo).take k = bitsL (u / 2 ^ lo) k := by
  apply List.ext_getElem
  · simp [bitsL_length]; omega
  · intro i h1 h2
    simp only [bitsL, List.getElem_take, List.getElem_drop, List.getElem_map, List.getElem_range]
    rw [Nat.div_div_eq_div_mul, ← Nat.pow_add]
theorem Rd.slice {w : World} {g off : Nat} {l : List Bool} (h : Rd w g off l) (lo k : Nat) (hk : lo + k ≤ l.length) : Rd w g (off + lo) ((l.drop lo).take k) :=
  ⟨h.lt, fun i hi => by
    simp only [List.length_take, List.length_drop] at hi
    rw [show off + lo + i = off + (lo + i) by omega, h.cell (lo + i) (by omega)]
    congr 2
    simp only [List.getD_eq_getElem?_getD, List.getElem?_take, List.getElem?_drop]
    rw [if_pos (by omega)]⟩

theorem rextract_ok (a w hi lo : Int) (h0 : 0 ≤ a) (ha : a ≤ maskZ w) (h1 : 1 ≤ w) (h2 : w ≤ 64) (l1 : 0 ≤ lo) (l2 : lo ≤ hi) (l3 : hi < w) (W : World) :
    Calls Try.prog 24 #[.int .u64 a, .int .i64 w, .int .i64 hi, .int .i64 lo] W fun e W' => e = .returned (.tuple #[.int .u64 (extZ a hi lo), .int .i64 0]) ∧ Below W.heap.size W W' := by
  have ht := maskZ_top w h2
  obtain ⟨w, rfl⟩ := Int.eq_ofNat_of_zero_le (show 0 ≤ w by omega)
  obtain ⟨lo, rfl⟩ := Int.eq_ofNat_of_zero_le l1
  obtain ⟨k, hk⟩ : ∃ k : Nat, hi = lo + k := ⟨(hi - lo).toNat, by omega⟩
  subst hk
  have hlk : lo + k < w := by omega
  go_enter Try.func24, Try.ntmps24
  go_wp2_with fail
  refine (rvalid_ok _ _ h0 ha h1 h2 _).mono ?_
  rintro e w1 ⟨rfl, b1⟩
  go_wp2_with fail
  refine (bits_int _ _ h0 (by omega) h1 h2 _).mono ?_
  rintro e w2 ⟨⟨g, cap, rfl, hr, hc, hm', hB⟩, b2⟩
  rw [Int.toNat_natCast] at *
  go_wp2_with fail
  have hs := hr.slice lo (k + 1) (by rw [bitsL_length]; omega)
  rw [Nat.zero_add, bitsL_drop _ _ _ _ (by omega)] at hs
  rw [show lo + k + 1 - lo = k + 1 by omega]
  refine (of_mask _ _ _ _ _ _ hs (by simp [bitsL_length]) (by omega)).mono ?_
  rintro e w' ⟨⟨x, rfl, hx, hx0, hx1⟩, rfl⟩
  have hv : x = extZ a (lo + k) lo := by
    rw [hx, ofL_bits]
    unfold extZ
    rw [powZ_nat, show ((lo : Int) + k - lo + 1).toNat = k + 1 by omega, Int.natCast_emod, Int.natCast_ediv, Int.toNat_of_nonneg h0, Int.toNat_natCast, Int.natCast_pow]; rfl
  clear hx hs
  have HV := Lib.hid hv
  clear hv
  go_wp2_with fail
  go_ret2
  exact ⟨ret_pair HV.out, (below_two b1 b1.size b2).1⟩
theorem rextract_arg (a w hi lo : Int) (h0 : 0 ≤ a) (ha : a ≤ maskZ w) (h1 : 1 ≤ w) (h2 : w ≤ 64) (h : lo < 0 ∨ hi < lo ∨ w ≤ hi) (W : World) :
    Calls Try.prog 24 #[.int .u64 a, .int .i64 w, .int .i64 hi, .int .i64 lo] W fun e W' => e = .returned (.tuple #[.int .u64 0, .int .i64 1]) ∧ Below W.heap.size W W' := by
  by_cases c1 : lo < 0
  · clear h
    go_enter Try.func24, Try.ntmps24
    go_wp2_with (go_at_call 16; refine (rvalid_ok _ _ h0 ha h1 h2 _).mono ?_; rintro e w1 ⟨rfl, b1⟩)
    go_ret2
    exact ⟨rfl, b1⟩
  by_cases c2 : hi < lo
  · clear h
    go_enter Try.func24, Try.ntmps24
    go_wp2_with (go_at_call 16; refine (rvalid_ok _ _ h0 ha h1 h2 _).mono ?_; rintro e w1 ⟨rfl, b1⟩)
    go_ret2
    exact ⟨rfl, b1⟩
  · have c3 : w ≤ hi := by omega
    clear h
    go_enter Try.func24, Try.ntmps24
    go_wp2_with (go_at_call 16; refine (rvalid_ok _ _ h0 ha h1 h2 _).mono ?_; rintro e w1 ⟨rfl, b1⟩)
    go_ret2
    exact ⟨rfl, b1⟩
theorem rextract_bad (a w hi lo v : Int) (h0 : 0 ≤ a) (hu : a ≤ 18446744073709551615) (hv : validZ a w = v) (h : v = 1 ∨ v = 5) (W : World) :
    Calls Try.prog 24 #[.int .u64 a, .int .i64 w, .int .i64 hi, .int .i64 lo] W fun e W' => e = .returned (.tuple #[.int .u64 0, .int .i64 v]) ∧ Below W.heap.size W W' := by
  have hc := rvalid_any a w h0 hu
  rw [hv] at hc
  have HC := Lib.hid hc
  clear hc hv
  rcases h with rfl | rfl
  all_goals
    go_enter Try.func24, Try.ntmps24
    go_wp2_with (go_at_call 16; refine (HC.out _).mono ?_; rintro e w1 ⟨rfl, b1⟩)
    go_ret2
    exact ⟨rfl, b1⟩
theorem rextract_any (a w hi lo : Int) (h0 : 0 ≤ a) (hu : a ≤ 18446744073709551615) (W : World) :
    Calls Try.prog 24 #[.int .u64 a, .int .i64 w, .int .i64 hi, .int .i64 lo] W fun e W' => e = .returned (.tuple #[.int .u64 (extV a w hi lo), .int .i64 (extE a w hi lo)]) ∧ Below W.heap.size W W' := by
  rcases validZ_cases a w with ⟨va, h1, h2, ha⟩ | va
  · by_cases hc : lo < 0 ∨ hi < lo ∨ w ≤ hi
    · have e1 : extE a w hi lo = 1 := by unfold extE; rw [if_neg (by omega), if_pos hc]
      have e2 : extV a w hi lo = 0 := by unfold extV; rw [e1]; rfl
      rw [e1, e2]
      exact rextract_arg a w hi lo h0 ha h1 h2 hc W
    · have e1 : extE a w hi lo = 0 := by unfold extE; rw [if_neg (by omega), if_neg hc]
      have e2 : extV a w hi lo = extZ a hi lo := by unfold extV; rw [e1]; rfl
      rw [e1, e2]
      exact rextract_ok a w hi lo h0 ha h1 h2 (by omega) (by omega) (by omega) W
  · have e1 : extE a w hi lo = validZ a w := by unfold extE; rw [if_pos (by omega)]
    have e2 : extV a w hi lo = 0 := by unfold extV; rw [e1, if_neg (by omega)]
    rw [e1, e2]
    exact rextract_bad a w hi lo _ h0 hu rfl va W

/-! ### Concat -/
/-- 'append(l, m...)' of two rows of bools: l the call's own. -/
theorem wpList_appM {w0 wr : World} {ops : Array Oper} {rest : List Oper} {o : Oper} {a : Act} {Q : Exit → Act → World → Prop} (hgd : o.guard = none) (s x : Operand)
    (ho : o.op = .call { callee := .builtin .append, args := #[s, x], argTypes := #[52, 52] }) (B : Nat) (v : Value) (k : Nat) (xs ys : List Bool) (g off m c : Nat)
    (hs : a.eval s = v) (hx : a.eval x = .slice (some ⟨g, off, none⟩) m c) (hm : ys.length = m) (hr : Rd wr g off ys) (hown : wr.ownsRow B 4 1 v k (xs.map Value.bool)) (hb : Below B w0 wr) (hB : B ≤ wr.heap.size) (hk : k + m ≤ 1000000000)
    (h : ∀ v' w', w'.ownsRow B 4 1 v' (k + m) ((xs ++ ys).map Value.bool) → Below B w0 w' → B ≤ w'.heap.size → wpList Try.prog ops Q rest (a.put o.dst v') w') :
    wpList Try.prog ops Q (o :: rest) a wr := by
  obtain ⟨i0, hi, hz0, hz1, hz2⟩ := info_parts Try.info4
  refine wpList_append_own _ hgd s x 52 ho B 4 i0 (.bool false) 1 1 Try.underlying52 hi hz0 hz1 hz2 rfl (by decide) v k _ hs hown ⟨g, off, none⟩ m c (ys.map Value.bool) hx (by simp [hm]) ?_
    (by intro u hu; simp at hu; rcases hu with ⟨_, rfl⟩ | ⟨_, rfl⟩ <;> rfl) (by unfold maxLen; omega) (by omega) hB ?_
  · intro j u hj
    simp only [List.getElem?_map, Option.map_eq_some_iff] at hj
    obtain ⟨b, hb', rfl⟩ := hj
    obtain ⟨hlt, rfl⟩ := List.getElem?_eq_some_iff.1 hb'
    have := hr.cell j hlt
    have e : (⟨g, off, none⟩ : Addr).add j = ⟨g, off + j, none⟩ := by unfold Addr.add; split <;> simp_all
    rw [e, this]
    simp [List.getD, hlt]
  · intro v' w1 hown' hgrow _
    refine h v' w1 (by simpa using hown') (hb.grown hgrow hB fun k hk => (hown.lt k hk).1) ?_
    have := hgrow.size
    omega
theorem rconcat_ok (a v b w : Int) (ha0 : 0 ≤ a) (ha : a ≤ maskZ v) (hb0 : 0 ≤ b) (hb : b ≤ maskZ w) (h1 : 1 ≤ v) (h3 : 1 ≤ w) (h4 : v + w ≤ 64) (W : World) :
    Calls Try.prog 23 #[.int .u64 a, .int .i64 v, .int .u64 b, .int .i64 w] W fun e W' => e = .returned (.tuple #[.int .u64 (catZ a b w), .int .i64 0]) ∧ Below W.heap.size W W' := by
  have ht := maskZ_top w (by omega)
  have ht2 := maskZ_top v (by omega)
  obtain ⟨v, rfl⟩ := Int.eq_ofNat_of_zero_le (show 0 ≤ v by omega)
  obtain ⟨w, rfl⟩ := Int.eq_ofNat_of_zero_le (show 0 ≤ w by omega)
  obtain ⟨a, rfl⟩ := Int.eq_ofNat_of_zero_le ha0
  obtain ⟨b, rfl⟩ := Int.eq_ofNat_of_zero_le hb0
  go_enter Try.func23, Try.ntmps23
  go_wp2_with fail
  refine (rvalid_ok _ _ ha0 ha h1 (by omega) _).mono ?_
  rintro e w1 ⟨rfl, b1⟩
  have c1 := And.intro b1 b1.size
  go_wp2_with fail
  refine (rvalid_ok _ _ hb0 hb h3 (by omega) _).mono ?_
  rintro e w2 ⟨rfl, b2⟩
  have c2 := below_two c1.1 c1.2 b2
  clear c1 b1 b2
  go_wp2_with fail
  refine (bits_any b w (by omega) (by omega) _).mono ?_
  rintro e w3 ⟨r, rfl, hown, b3⟩
  go_wp2_with fail
  refine (bits_int _ _ ha0 (by omega) h1 (by omega) _).mono ?_
  rintro e w4 ⟨⟨g, cap, rfl, hr, hc, hm', hB⟩, b4⟩
  rw [Int.toNat_natCast, Int.toNat_natCast] at *
  have hown4 : w4.ownsRow w2.heap.size 4 1 r w ((bitsL b w).map Value.bool) := by
    refine ⟨hown.1, ?_⟩
    rcases hown.2 with h | ⟨g', cap', cur, e1, e2, e3, e4⟩
    · exact Or.inl h
    · exact Or.inr ⟨g', cap', cur, e1, e2, by rw [b4.block g' (Array.getElem?_eq_some_iff.1 e3).1]; exact e3, e4⟩
  have c4 : Below w2.heap.size w2 w4 := b3.trans (b4.mono b3.size)
  clear hown
  go_wp2_with (at_builtin; refine wpList_appM rfl (.tmp 30) (.tmp 33) rfl w2.heap.size _ w (bitsL b w) (bitsL a v) g 0 v cap rfl rfl (bitsL_length _ _) hr hown4 c4 (Nat.le_trans b3.size b4.size) (by omega) ?_; intro v' w5 hown' c5 hs')
  obtain ⟨g5, cap5, rfl, hr5, hl5, hc5, hm5, hB5⟩ := row_of hown' (by omega)
  refine (of_mask _ _ _ _ _ _ hr5 hl5 (by omega)).mono ?_
  rintro e w' ⟨⟨x, rfl, hx, hx0, hx1⟩, rfl⟩
  have hv : x = catZ a b w := by
    have ea := bits_val a v ha
    have eb := bits_val b w hb
    rw [hx, ofL_append, bitsL_length]
    unfold catZ
    rw [powZ_nat, Int.toNat_natCast, Int.natCast_add, Int.natCast_mul, ea, eb, Int.mul_comm]; omega
  clear hx
  have HV := Lib.hid hv
  clear hv
  go_wp2_with fail
  go_ret2
  exact ⟨ret_pair HV.out, (below_two c2.1 c2.2 c5).1⟩
end Go.Proofs.Ytkfgkoiinjhgnaa
