import Derived.Test.YtkfgkoiinjhgnaaRA
import Derived.Test.YtkfgkoiinjhgnaaA4
import Derived.Test.YtkfgkoiinjhgnaaR5
namespace Go.Proofs.Ytkfgkoiinjhgnaa
open Go.RowKit

/-- 'append(out, x)' of a bool as a step of a region that draws its order. -/
theorem step_app {w0 wr : World} {ops : Array Oper} {o : Oper} {a : Act} {K : Act → World → Prop} {Q : Exit → Act → World → Prop} {E : Prop} (hgd : o.guard = none) (s x : Operand)
    (ho : o.op = .call { callee := .builtin .append, args := #[s, x], argTypes := #[52, 52] }) (B : Nat) (v : Value) (k : Nat) (xs : List Bool) (b : Bool)
    (hs : a.eval s = v) (hx : a.eval x = .slice (some ⟨wr.heap.size, 0, none⟩) 1 1) (hown : wr.ownsRow B 4 1 v k (xs.map Value.bool)) (hb : Below B w0 wr) (hB : B ≤ wr.heap.size) (hk : k ≤ 1000000000)
    (h : ∀ v' w', w'.ownsRow B 4 1 v' (k + 1) ((xs ++ [b]).map Value.bool) → Below B w0 w' → B ≤ w'.heap.size → K (a.put o.dst v') w') :
    if Region.wanted o (yielded ops a.tmps) = true then Oper.wp Try.prog o a (wr.alloc (.cells #[.bool b] 4)).drew K Q else E := by
  have hw : Region.wanted o (yielded ops a.tmps) = true := by simp [Region.wanted, hgd]
  rw [if_pos hw]
  obtain ⟨i0, hi, hz0, hz1, hz2⟩ := info_parts Try.info4
  have hnews : ∀ (j : Nat) (u : Value), [Value.bool b][j]? = some u → (wr.alloc (.cells #[.bool b] 4)).drew.cell? ((⟨wr.heap.size, 0, none⟩ : Addr).add j) = some u := by
    intro j u hj
    match j, hj with
    | 0, hj => simp at hj; subst hj; simp [Addr.add, go_sem]
  refine wp_append_own _ s x 52 ho B 4 i0 (.bool false) 1 1 Try.underlying52 hi hz0 hz1 hz2 rfl (by decide) v k _ hs (hown.alloc _).drew ⟨wr.heap.size, 0, none⟩ 1 1 [.bool b] hx rfl hnews
    (by intro u hu; simp at hu; subst hu; rfl) (by unfold maxLen; omega) (by omega) (by show B ≤ (wr.alloc _).heap.size; simp; omega) ?_
  intro v' w1 hown' hgrow _
  refine h v' w1 (by simpa using hown') ((hb.alloc hB _).drew.grown hgrow (by show B ≤ (wr.alloc _).heap.size; simp; omega) fun k hk => (hown.lt k hk).1) ?_
  have := hgrow.size
  have h3 : (wr.alloc (.cells #[.bool b] 4)).drew.heap.size = wr.heap.size + 1 := by show (wr.alloc _).heap.size = _; simp
  omega

section
variable (g off n cap g2 off2 cap2 : Nat) (l m : List Bool) (w : World) (hr : Rd w g off l) (hr2 : Rd w g2 off2 m) (hl : l.length = n) (hm : m.length = n) (h1 : 1 ≤ n) (hn : n ≤ 64)
include hr hr2 hl hm h1 hn
set_option maxRecDepth 100000 in
set_option maxHeartbeats 1600000 in
theorem rb_and :
    Calls Try.prog 39 #[.int .i64 6, .slice (some ⟨g, off, none⟩) n cap, .slice (some ⟨g2, off2, none⟩) n cap2] w fun e w' => BinPost (opN 6 (ofL l) (ofL m) n) e w' ∧ Below w.heap.size w w' := by
  obtain ⟨B, hB⟩ : ∃ B, B = w.heap.size := ⟨_, rfl⟩
  have hgB : g < B := by rw [hB]; exact hr.lt
  have hgB2 : g2 < B := by rw [hB]; exact hr2.lt
  have HB := Lib.hid hB
  rw [← hB]
  have HL := Lib.hid hl
  have HM := Lib.hid hm
  have hc := hr.cell (n - 1) (by omega)
  rw [show l.getD (n - 1) false = at' l (n - 1) from rfl] at hc
  clear hl hm hB
  go_enter Try.func39, Try.ntmps39
  go_wp2_with fail
  go_loopw [9, 14] (fun v i wr => ∃ k : Nat, k ≤ n ∧ i = .int .i64 k ∧ wr.ownsRow B 4 1 v k ((zipN (· && ·) l m k).map Value.bool) ∧ Below B w wr ∧ B ≤ wr.heap.size) (fun _ i _ => n - (intOf i).toNat)
  case atStart => exact ⟨0, by omega, rfl, World.ownsRow_nil _ _ _ _, Below.refl _ _, by rw [HB.out]; exact Nat.le_refl _⟩
  case round =>
    clear hc
    obtain ⟨k, hk, rfl, hown, hb, hs⟩ := hrel
    by_cases hlt : k < n
    · have hc := (hr.below hb hgB).cell k (by rw [HL.out]; exact hlt)
      have hc2 := (hr2.below hb hgB2).cell k (by rw [HM.out]; exact hlt)
      have hst := zip_step (· && ·) l m k
      rw [show l.getD k false = at' l k from rfl] at hc
      rw [show m.getD k false = at' m k from rfl] at hc2
      generalize at' l k = x at hc hst
      generalize at' m k = y at hc2 hst
      have HS := Lib.hid hst
      clear hst
      have i1 : (0 : Int) ≤ (k : Int) := by omega
      have i2 : (k : Int) < (n : Int) := by omega
      cases x
      all_goals
        cases y
        all_goals
          go_wp2_with (at_builtin; refine wpList_app rfl (.tmp 126) (.tmp 137) rfl B _ k (zipN (· && ·) l m k) _ rfl rfl hown hb hs (by omega) ?_; intro v' w1 hown' hb' hs')
          go_roundw
          case rel => exact ⟨k + 1, by omega, by go_num, by rw [← HS.out]; exact hown', hb', hs'⟩
          case measure => simp [intOf]; omega
    · obtain rfl : k = n := by omega
      obtain ⟨g3, cap3, rfl, hr3, hl3, hc3, hm3, hB3⟩ := row_of hown (by omega)
      go_wp2_with fail
      go_ret
      exact ⟨⟨g3, 0, k, cap3, _, rfl, hr3, zip_length _ _ _ _, hn, ofL_and l m k HM.out⟩, hb⟩
set_option maxRecDepth 100000 in
set_option maxHeartbeats 1600000 in
theorem rb_or :
    Calls Try.prog 39 #[.int .i64 7, .slice (some ⟨g, off, none⟩) n cap, .slice (some ⟨g2, off2, none⟩) n cap2] w fun e w' => BinPost (opN 7 (ofL l) (ofL m) n) e w' ∧ Below w.heap.size w w' := by
  obtain ⟨B, hB⟩ : ∃ B, B = w.heap.size := ⟨_, rfl⟩
  have hgB : g < B := by rw [hB]; exact hr.lt
  have hgB2 : g2 < B := by rw [hB]; exact hr2.lt
  have HB := Lib.hid hB
  rw [← hB]
  have HL := Lib.hid hl
  have HM := Lib.hid hm
  have hc := hr.cell (n - 1) (by omega)
  rw [show l.getD (n - 1) false = at' l (n - 1) from rfl] at hc
  clear hl hm hB
  go_enter Try.func39, Try.ntmps39
  go_wp2_with fail
  go_loopw [9, 14] (fun v i wr => ∃ k : Nat, k ≤ n ∧ i = .int .i64 k ∧ wr.ownsRow B 4 1 v k ((zipN (· || ·) l m k).map Value.bool) ∧ Below B w wr ∧ B ≤ wr.heap.size) (fun _ i _ => n - (intOf i).toNat)
  case atStart => exact ⟨0, by omega, rfl, World.ownsRow_nil _ _ _ _, Below.refl _ _, by rw [HB.out]; exact Nat.le_refl _⟩
  case round =>
    clear hc
    obtain ⟨k, hk, rfl, hown, hb, hs⟩ := hrel
    by_cases hlt : k < n
    · have hc := (hr.below hb hgB).cell k (by rw [HL.out]; exact hlt)
      have hc2 := (hr2.below hb hgB2).cell k (by rw [HM.out]; exact hlt)
      have hst := zip_step (· || ·) l m k
      rw [show l.getD k false = at' l k from rfl] at hc
      rw [show m.getD k false = at' m k from rfl] at hc2
      generalize at' l k = x at hc hst
      generalize at' m k = y at hc2 hst
      have HS := Lib.hid hst
      clear hst
      have i1 : (0 : Int) ≤ (k : Int) := by omega
      have i2 : (k : Int) < (n : Int) := by omega
      cases x
      all_goals
        cases y
        all_goals
          go_wp2_with (at_builtin; refine wpList_app rfl (.tmp 141) (.tmp 152) rfl B _ k (zipN (· || ·) l m k) _ rfl rfl hown hb hs (by omega) ?_; intro v' w1 hown' hb' hs')
          go_roundw
          case rel => exact ⟨k + 1, by omega, by go_num, by rw [← HS.out]; exact hown', hb', hs'⟩
          case measure => simp [intOf]; omega
    · obtain rfl : k = n := by omega
      obtain ⟨g3, cap3, rfl, hr3, hl3, hc3, hm3, hB3⟩ := row_of hown (by omega)
      go_wp2_with fail
      go_ret
      exact ⟨⟨g3, 0, k, cap3, _, rfl, hr3, zip_length _ _ _ _, hn, ofL_or l m k HL.out HM.out⟩, hb⟩
set_option maxRecDepth 100000 in
set_option maxHeartbeats 1600000 in
theorem rb_xor :
    Calls Try.prog 39 #[.int .i64 8, .slice (some ⟨g, off, none⟩) n cap, .slice (some ⟨g2, off2, none⟩) n cap2] w fun e w' => BinPost (opN 8 (ofL l) (ofL m) n) e w' ∧ Below w.heap.size w w' := by
  obtain ⟨B, hB⟩ : ∃ B, B = w.heap.size := ⟨_, rfl⟩
  have hgB : g < B := by rw [hB]; exact hr.lt
  have hgB2 : g2 < B := by rw [hB]; exact hr2.lt
  have HB := Lib.hid hB
  rw [← hB]
  have HL := Lib.hid hl
  have HM := Lib.hid hm
  have hc := hr.cell (n - 1) (by omega)
  rw [show l.getD (n - 1) false = at' l (n - 1) from rfl] at hc
  clear hl hm hB
  go_enter Try.func39, Try.ntmps39
  go_wp2_with fail
  go_loopw [9, 14] (fun v i wr => ∃ k : Nat, k ≤ n ∧ i = .int .i64 k ∧ wr.ownsRow B 4 1 v k ((zipN (· != ·) l m k).map Value.bool) ∧ Below B w wr ∧ B ≤ wr.heap.size) (fun _ i _ => n - (intOf i).toNat)
  case atStart => exact ⟨0, by omega, rfl, World.ownsRow_nil _ _ _ _, Below.refl _ _, by rw [HB.out]; exact Nat.le_refl _⟩
  case round =>
    clear hc
    obtain ⟨k, hk, rfl, hown, hb, hs⟩ := hrel
    by_cases hlt : k < n
    · have hc := (hr.below hb hgB).cell k (by rw [HL.out]; exact hlt)
      have hc2 := (hr2.below hb hgB2).cell k (by rw [HM.out]; exact hlt)
      have hst := zip_step (· != ·) l m k
      rw [show l.getD k false = at' l k from rfl] at hc
      rw [show m.getD k false = at' m k from rfl] at hc2
      generalize at' l k = x at hc hst
      generalize at' m k = y at hc2 hst
      have HS := Lib.hid hst
      clear hst
      have i1 : (0 : Int) ≤ (k : Int) := by omega
      have i2 : (k : Int) < (n : Int) := by omega
      cases x
      all_goals
        cases y
        all_goals
          go_wp2_with fail
          go_region_law (refine step_app rfl (.tmp 112) (.tmp 122) rfl B _ k (zipN (· != ·) l m k) _ rfl rfl hown hb hs (by omega) ?_; intro v' w1 hown' hb' hs')
          all_goals
            go_wp2_with fail
            go_roundw
            case rel => exact ⟨k + 1, by omega, by go_num, by rw [← HS.out]; exact hown', hb', hs'⟩
            case measure => simp [intOf]; omega
    · obtain rfl : k = n := by omega
      obtain ⟨g3, cap3, rfl, hr3, hl3, hc3, hm3, hB3⟩ := row_of hown (by omega)
      go_wp2_with fail
      go_ret
      exact ⟨⟨g3, 0, k, cap3, _, rfl, hr3, zip_length _ _ _ _, hn, ofL_xor l m k HL.out HM.out⟩, hb⟩

theorem rbinary_any (op : Int) (o1 : 6 ≤ op) (o2 : op ≤ 18) :
    Calls Try.prog 39 #[.int .i64 op, .slice (some ⟨g, off, none⟩) n cap, .slice (some ⟨g2, off2, none⟩) n cap2] w fun e w' => BinPost (opN op (ofL l) (ofL m) n) e w' ∧ Below w.heap.size w w' := by
  have hc : op = 6 ∨ op = 7 ∨ op = 8 ∨ op = 9 ∨ op = 10 ∨ op = 11 ∨ op = 12 ∨ op = 13 ∨ op = 14 ∨ op = 15 ∨ op = 16 ∨ op = 17 ∨ op = 18 := by omega
  rcases hc with rfl | rfl | rfl | rfl | rfl | rfl | rfl | rfl | rfl | rfl | rfl | rfl | rfl
  · exact rb_and g off n cap g2 off2 cap2 l m w hr hr2 hl hm h1 hn
  · exact rb_or g off n cap g2 off2 cap2 l m w hr hr2 hl hm h1 hn
  · exact rb_xor g off n cap g2 off2 cap2 l m w hr hr2 hl hm h1 hn
  · exact rb_add g off n cap g2 off2 cap2 l m w hr hr2 hl hm h1 hn
  · exact rb_mul g off n cap g2 off2 cap2 l m w hr hr2 hl hm h1 hn
  · exact rb_udiv g off n cap g2 off2 cap2 l m w hr hr2 hl hm h1 hn
  · exact rb_urem g off n cap g2 off2 cap2 l m w hr hr2 hl hm h1 hn
  · exact rb_shl g off n cap g2 off2 cap2 l m w hr hr2 hl hm h1 hn
  · exact rb_shr g off n cap g2 off2 cap2 l m w hr hr2 hl hm h1 hn
  · exact rb_ashr g off n cap g2 off2 cap2 l m w hr hr2 hl hm h1 hn
  · exact rb_ult g off n cap g2 off2 cap2 l m w hr hr2 hl hm h1 hn
  · exact rb_slt g off n cap g2 off2 cap2 l m w hr hr2 hl hm h1 hn
  · exact rb_eq g off n cap g2 off2 cap2 l m w hr hr2 hl hm h1 hn
end

theorem bits_ofL (u n : Nat) (h : (u : Int) ≤ maskZ n) : ofL (bitsL u n) = u := by
  have := bits_val u n h
  omega
set_option maxHeartbeats 800000 in
theorem rBinary_ok (op a b n : Int) (o1 : 6 ≤ op) (o2 : op ≤ 18) (ha0 : 0 ≤ a) (ha : a ≤ maskZ n) (hb0 : 0 ≤ b) (hb : b ≤ maskZ n) (h1 : 1 ≤ n) (h2 : n ≤ 64) (w : World) :
    Calls Try.prog 17 #[.int .i64 op, .int .u64 a, .int .u64 b, .int .i64 n] w fun e w' => e = .returned (.tuple #[.int .u64 (opZ op a b n), .int .i64 0]) ∧ Below w.heap.size w w' := by
  have ht := maskZ_top n h2
  obtain ⟨n, rfl⟩ := Int.eq_ofNat_of_zero_le (show 0 ≤ n by omega)
  go_enter Try.func17, Try.ntmps17
  go_wp2_with fail
  refine (rvalid_ok _ _ ha0 ha h1 h2 _).mono ?_
  rintro e w1 ⟨rfl, b1⟩
  have c1 := And.intro b1 b1.size
  go_wp2_with fail
  refine (rvalid_ok _ _ hb0 hb h1 h2 _).mono ?_
  rintro e w2 ⟨rfl, b2⟩
  have c2 := below_two c1.1 c1.2 b2
  clear c1 b1 b2
  go_wp2_with fail
  refine (bits_int _ _ ha0 (by omega) h1 h2 _).mono ?_
  rintro e w3 ⟨⟨g3, cap3, rfl, hr3, hc3, hm3, hB3⟩, b3⟩
  rw [Int.toNat_natCast] at *
  have c3 := below_two c2.1 c2.2 b3
  go_wp2_with fail
  refine (bits_int _ _ hb0 (by omega) h1 h2 _).mono ?_
  rintro e w4 ⟨⟨g4, cap4, rfl, hr4, hc4, hm4, hB4⟩, b4⟩
  rw [Int.toNat_natCast] at *
  have c4 := below_two c3.1 c3.2 b4
  go_wp2_with fail
  refine (rbinary_any _ _ _ _ _ _ _ _ _ _ (hr3.keep b4) hr4 (bitsL_length _ _) (bitsL_length _ _) (by omega) (by omega) op o1 o2).mono ?_
  rintro e w5 ⟨⟨g5, o5, len, cap5, L, rfl, hr5, hl5, hlen, hv⟩, b5⟩
  have c5 := below_two c4.1 c4.2 b5
  have HV := Lib.hid hv
  have HL5 := Lib.hid hl5
  clear hv hl5 hr3 hr4 hc3 hc4 hm3 hm4 hB3 hB4 b3 b4 b5 c2 c3 c4
  go_wp2_with fail
  refine (of_mask _ _ _ _ _ _ hr5 HL5.out hlen).mono ?_
  rintro e w' ⟨⟨x, rfl, hx, hx0, hx1⟩, rfl⟩
  have HX := Lib.hid hx
  clear hx
  go_wp2_with fail
  go_ret2
  exact ⟨ret_pair (by rw [HX.out, HV.out, bits_ofL _ _ (by omega), bits_ofL _ _ (by omega)]; rfl), c5.1⟩
theorem rBinary_arg (op a b n : Int) (h : op < 6 ∨ 18 < op) (w : World) :
    Calls Try.prog 17 #[.int .i64 op, .int .u64 a, .int .u64 b, .int .i64 n] w fun e w' => e = .returned (.tuple #[.int .u64 0, .int .i64 1]) ∧ w = w' := by
  rcases h with h | h
  · go_enter Try.func17, Try.ntmps17
    go_wp2_with fail
    go_ret2
    exact ⟨rfl, rfl⟩
  · by_cases h' : op < 6
    · omega
    · go_enter Try.func17, Try.ntmps17
      go_wp2_with fail
      go_ret2
      exact ⟨rfl, rfl⟩
theorem rBinary_bad1 (op a b n v : Int) (o1 : 6 ≤ op) (o2 : op ≤ 18) (ha0 : 0 ≤ a) (hau : a ≤ 18446744073709551615) (hv : validZ a n = v) (h : v = 1 ∨ v = 5) (w : World) :
    Calls Try.prog 17 #[.int .i64 op, .int .u64 a, .int .u64 b, .int .i64 n] w fun e w' => e = .returned (.tuple #[.int .u64 0, .int .i64 v]) ∧ Below w.heap.size w w' := by
  have hc := rvalid_any a n ha0 hau
  rw [hv] at hc
  have HC := Lib.hid hc
  clear hc hv
  rcases h with rfl | rfl
  all_goals
    go_enter Try.func17, Try.ntmps17
    go_wp2_with (go_at_call 16; refine (HC.out _).mono ?_; rintro e w1 ⟨rfl, b1⟩)
    go_ret2
    exact ⟨rfl, b1⟩
theorem rBinary_bad2 (op a b n v : Int) (o1 : 6 ≤ op) (o2 : op ≤ 18) (h1 : 1 ≤ n) (h2 : n ≤ 64) (ha0 : 0 ≤ a) (ha : a ≤ maskZ n) (hb0 : 0 ≤ b) (hbu : b ≤ 18446744073709551615) (hv : validZ b n = v) (h : v = 1 ∨ v = 5) (w : World) :
    Calls Try.prog 17 #[.int .i64 op, .int .u64 a, .int .u64 b, .int .i64 n] w fun e w' => e = .returned (.tuple #[.int .u64 0, .int .i64 v]) ∧ Below w.heap.size w w' := by
  have hc := rvalid_any b n hb0 hbu
  rw [hv] at hc
  have HC := Lib.hid hc
  clear hc hv
  rcases h with rfl | rfl
  all_goals
    go_enter Try.func17, Try.ntmps17
    go_wp2_with fail
    refine (rvalid_ok _ _ ha0 ha h1 h2 _).mono ?_
    rintro e w1 ⟨rfl, b1⟩
    go_wp2_with fail
    refine (HC.out _).mono ?_
    rintro e w2 ⟨rfl, b2⟩
    go_wp2_with fail
    go_ret2
    exact ⟨rfl, (below_two b1 b1.size b2).1⟩
theorem rBinary_any (op a b n : Int) (ha0 : 0 ≤ a) (hau : a ≤ 18446744073709551615) (hb0 : 0 ≤ b) (hbu : b ≤ 18446744073709551615) (w : World) :
    Calls Try.prog 17 #[.int .i64 op, .int .u64 a, .int .u64 b, .int .i64 n] w fun e w' => e = .returned (.tuple #[.int .u64 (binV op a b n), .int .i64 (binE op a b n)]) ∧ Below w.heap.size w w' := by
  by_cases ho : op < 6 ∨ 18 < op
  · have e1 : binE op a b n = 1 := by unfold binE; rw [if_pos ho]
    have e2 : binV op a b n = 0 := by unfold binV; rw [e1]; rfl
    rw [e1, e2]
    exact (rBinary_arg op a b n ho w).mono fun _ _ ⟨x, y⟩ => ⟨x, y ▸ Below.refl _ _⟩
  · rcases validZ_cases a n with ⟨va, h1, h2, ha⟩ | va
    · rcases validZ_cases b n with ⟨vb, _, _, hb⟩ | vb
      · have e1 : binE op a b n = 0 := by unfold binE; rw [if_neg ho, va, vb]; rfl
        have e2 : binV op a b n = opZ op a b n := by unfold binV; rw [e1, if_pos rfl]
        rw [e1, e2]
        exact rBinary_ok op a b n (by omega) (by omega) ha0 ha hb0 hb h1 h2 w
      · have e1 : binE op a b n = validZ b n := by unfold binE; rw [if_neg ho, va]; rfl
        have e2 : binV op a b n = 0 := by unfold binV; rw [e1, if_neg (by omega)]
        rw [e1, e2]
        exact rBinary_bad2 op a b n _ (by omega) (by omega) h1 h2 ha0 ha hb0 hbu rfl vb w
    · have e1 : binE op a b n = validZ a n := by unfold binE; rw [if_neg ho, if_pos (by omega)]
      have e2 : binV op a b n = 0 := by unfold binV; rw [e1, if_neg (by omega)]
      rw [e1, e2]
      exact rBinary_bad1 op a b n _ (by omega) (by omega) ha0 hau rfl va w

/-! ### Unary -/
theorem un_flip (a : Int) (n : Nat) (ha0 : 0 ≤ a) (ha : a ≤ maskZ n) : (ofL (flipL (bitsL a.toNat n)) : Int) = unZ 4 a n := by
  show _ = maskZ n - a
  rw [ofL_flip, bits_ofL _ _ (by omega), bitsL_length]
  rw [maskZ_eq, powZ_nat, Int.toNat_natCast] at *
  have := Nat.two_pow_pos n
  omega
theorem un_plus (a : Int) (n : Nat) (ha0 : 0 ≤ a) (ha : a ≤ maskZ n) : (ofL (plusL (flipL (bitsL a.toNat n)) (List.replicate n false) true) : Int) = unZ 5 a n := by
  rw [ofL_plus _ _ _ (by simp [flipL_length, bitsL_length]), ofL_replicate, flipL_length, bitsL_length, Int.natCast_emod]
  have h := un_flip a n ha0 ha
  show _ = (-a) % powZ n
  have h4 : unZ 4 a n = maskZ n - a := rfl
  rw [h4, maskZ_eq] at h
  have e : ((ofL (flipL (bitsL a.toNat n)) + 0 + true.toNat : Nat) : Int) = -a + powZ n * 1 := by simp only [Bool.toNat_true]; omega
  rw [e, powZ_nat, Int.toNat_natCast, Int.add_mul_emod_self_left]
set_option maxHeartbeats 800000 in
theorem rUnary_ok (op a n : Int) (ho : op = 4 ∨ op = 5) (ha0 : 0 ≤ a) (ha : a ≤ maskZ n) (h1 : 1 ≤ n) (h2 : n ≤ 64) (w : World) :
    Calls Try.prog 19 #[.int .i64 op, .int .u64 a, .int .i64 n] w fun e w' => e = .returned (.tuple #[.int .u64 (unZ op a n), .int .i64 0]) ∧ Below w.heap.size w w' := by
  have ht := maskZ_top n h2
  obtain ⟨n, rfl⟩ := Int.eq_ofNat_of_zero_le (show 0 ≤ n by omega)
  have hf := un_flip a n ha0 ha
  have hp := un_plus a n ha0 ha
  have HF := Lib.hid hf
  have HP := Lib.hid hp
  clear hf hp
  rcases ho with rfl | rfl
  · go_enter Try.func19, Try.ntmps19
    go_wp2_with fail
    refine (rvalid_ok _ _ ha0 ha h1 h2 _).mono ?_
    rintro e w1 ⟨rfl, b1⟩
    have c1 := And.intro b1 b1.size
    go_wp2_with fail
    refine (bits_int _ _ ha0 (by omega) h1 h2 _).mono ?_
    rintro e w3 ⟨⟨g3, cap3, rfl, hr3, hc3, hm3, hB3⟩, b3⟩
    rw [Int.toNat_natCast] at *
    have c3 := below_two c1.1 c1.2 b3
    go_wp2_with fail
    refine (flip_rd _ _ _ _ _ _ hr3 (bitsL_length _ _) (by omega) (by omega)).mono ?_
    rintro e w4 ⟨⟨g4, cap4, rfl, hr4, hc4, hm4, hB4⟩, b4⟩
    have c4 := below_two c3.1 c3.2 b4
    go_wp2_with fail
    refine (of_mask _ _ _ _ _ _ hr4 (by simp [flipL_length, bitsL_length]) (by omega)).mono ?_
    rintro e w' ⟨⟨x, rfl, hx, hx0, hx1⟩, rfl⟩
    have HX := Lib.hid hx
    clear hx
    go_wp2_with fail
    go_ret2
    exact ⟨ret_pair (HX.out.trans HF.out), c4.1⟩
  · go_enter Try.func19, Try.ntmps19
    go_wp2_with fail
    refine (rvalid_ok _ _ ha0 ha h1 h2 _).mono ?_
    rintro e w1 ⟨rfl, b1⟩
    have c1 := And.intro b1 b1.size
    go_wp2_with fail
    refine (bits_int _ _ ha0 (by omega) h1 h2 _).mono ?_
    rintro e w3 ⟨⟨g3, cap3, rfl, hr3, hc3, hm3, hB3⟩, b3⟩
    rw [Int.toNat_natCast] at *
    have c3 := below_two c1.1 c1.2 b3
    go_wp2_with fail
    refine (flip_rd _ _ _ _ _ _ hr3 (bitsL_length _ _) (by omega) (by omega)).mono ?_
    rintro e w4 ⟨⟨g4, cap4, rfl, hr4, hc4, hm4, hB4⟩, b4⟩
    have c4 := below_two c3.1 c3.2 b4
    go_wp2_with fail
    refine (zero_int _ (by omega) (by omega) _).mono ?_
    rintro e w5 ⟨⟨g5, cap5, rfl, hr5, hc5, hm5, hB5⟩, b5⟩
    rw [Int.toNat_natCast] at *
    have c5 := below_two c4.1 c4.2 b5
    go_wp2_with fail
    refine (plus_rd _ _ _ _ _ _ _ _ _ _ _ (hr4.keep b5) hr5 (by simp [flipL_length, bitsL_length]) (by simp) (by omega) (by omega)).mono ?_
    rintro e w6 ⟨⟨g6, cap6, rfl, hr6, hc6, hm6, hB6⟩, b6⟩
    have c6 := below_two c5.1 c5.2 b6
    go_wp2_with fail
    refine (of_mask _ _ _ _ _ _ hr6 (by simp [plusL_length, flipL_length, bitsL_length]) (by omega)).mono ?_
    rintro e w' ⟨⟨x, rfl, hx, hx0, hx1⟩, rfl⟩
    have HX := Lib.hid hx
    clear hx
    go_wp2_with fail
    go_ret2
    exact ⟨ret_pair (HX.out.trans HP.out), c6.1⟩
theorem rUnary_arg (op a n : Int) (h : op ≠ 4 ∧ op ≠ 5) (w : World) :
    Calls Try.prog 19 #[.int .i64 op, .int .u64 a, .int .i64 n] w fun e w' => e = .returned (.tuple #[.int .u64 0, .int .i64 1]) ∧ w = w' := by
  have c1 : (op != 4) = true := by rw [bne_iff_ne]; exact h.1
  have c2 : (op != 5) = true := by rw [bne_iff_ne]; exact h.2
  clear h
  go_enter Try.func19, Try.ntmps19
  go_wp2_with fail
  go_ret2
  exact ⟨rfl, rfl⟩
theorem rUnary_bad (op a n v : Int) (ho : op = 4 ∨ op = 5) (ha0 : 0 ≤ a) (hau : a ≤ 18446744073709551615) (hv : validZ a n = v) (h : v = 1 ∨ v = 5) (w : World) :
    Calls Try.prog 19 #[.int .i64 op, .int .u64 a, .int .i64 n] w fun e w' => e = .returned (.tuple #[.int .u64 0, .int .i64 v]) ∧ Below w.heap.size w w' := by
  have hc := rvalid_any a n ha0 hau
  rw [hv] at hc
  have HC := Lib.hid hc
  clear hc hv
  rcases ho with rfl | rfl
  all_goals
    rcases h with rfl | rfl
    all_goals
      go_enter Try.func19, Try.ntmps19
      go_wp2_with (go_at_call 16; refine (HC.out _).mono ?_; rintro e w1 ⟨rfl, b1⟩)
      go_ret2
      exact ⟨rfl, b1⟩
theorem rUnary_any (op a n : Int) (ha0 : 0 ≤ a) (hau : a ≤ 18446744073709551615) (w : World) :
    Calls Try.prog 19 #[.int .i64 op, .int .u64 a, .int .i64 n] w fun e w' => e = .returned (.tuple #[.int .u64 (unV op a n), .int .i64 (unE op a n)]) ∧ Below w.heap.size w w' := by
  by_cases ho : op ≠ 4 ∧ op ≠ 5
  · have e1 : unE op a n = 1 := by unfold unE; rw [if_pos ho]
    have e2 : unV op a n = 0 := by unfold unV; rw [e1]; rfl
    rw [e1, e2]
    exact (rUnary_arg op a n ho w).mono fun _ _ ⟨x, y⟩ => ⟨x, y ▸ Below.refl _ _⟩
  · have ho' : op = 4 ∨ op = 5 := by omega
    have e1 : unE op a n = validZ a n := by unfold unE; rw [if_neg ho]
    rcases validZ_cases a n with ⟨va, h1, h2, ha⟩ | va
    · have e2 : unV op a n = unZ op a n := by unfold unV; rw [e1, va]; rfl
      rw [e2, e1, va]
      exact rUnary_ok op a n ho' ha0 ha h1 h2 w
    · have e2 : unV op a n = 0 := by unfold unV; rw [e1, if_neg (by omega)]
      rw [e2, e1]
      exact rUnary_bad op a n _ ho' ha0 hau rfl va w
end Go.Proofs.Ytkfgkoiinjhgnaa
