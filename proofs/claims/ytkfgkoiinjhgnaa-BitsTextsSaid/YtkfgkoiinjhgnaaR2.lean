import Derived.Test.YtkfgkoiinjhgnaaK1
namespace Go.Proofs.Ytkfgkoiinjhgnaa
open Go.RowKit

theorem zero_any (n : Nat) (h1 : 1 ≤ n) (hn : n ≤ 1000) (w : World) :
    Calls Try.prog 33 #[.int .i64 n] w fun e w' => ∃ v, e = .returned v ∧ w'.ownsRow w.heap.size 4 1 v n ((List.replicate n false).map Value.bool) ∧ Below w.heap.size w w' := by
  obtain ⟨i0, hi, hz0, hz1, hz2⟩ := info_parts Try.info4
  go_enter Try.func33, Try.ntmps33
  go_wp2_with (at_make; refine wpList_make_full _ rfl (.tmp 3) (.tmp 3) 52 rfl w.heap.size 4 i0 (.bool false) 1 Try.underlying52 hi hz0 hz1 .i64 .i64 n n n rfl rfl rfl rfl (by rw [hz2]; omega) (by unfold maxLen; omega) (Nat.le_refl _) ?_; intro w1 hown hgrow)
  go_ret
  refine ⟨_, rfl, ?_, ?_⟩
  · have e : (madeCells (Value.bool false).cells (n * 1)).toList = (List.replicate n false).map Value.bool := by
      rw [Nat.mul_one]
      apply List.ext_getElem
      · simp [madeCells]
      · intro i h1 h2; simp [madeCells, Value.cells, Nat.mod_one]
    rw [← e]; exact hown
  · exact (Below.refl _ _).grown hgrow (Nat.le_refl _) (by simp)

set_option maxHeartbeats 400000 in
theorem flip_any (g off n cap : Nat) (l : List Bool) (hl : l.length = n) (w : World) (hr : Rd w g off l) (hn : n ≤ 1000) :
    Calls Try.prog 34 #[.slice (some ⟨g, off, none⟩) n cap] w fun e w' => ∃ v, e = .returned v ∧ w'.ownsRow w.heap.size 4 1 v n ((flipL l).map Value.bool) ∧ Below w.heap.size w w' := by
  obtain ⟨B, hB⟩ : ∃ B, B = w.heap.size := ⟨_, rfl⟩
  have HL := Lib.hid hl
  have hgB : g < B := by rw [hB]; exact hr.lt
  have HB := Lib.hid hB
  rw [← hB]
  clear hB hl
  go_enter Try.func34, Try.ntmps34
  go_wp2
  go_loopw [3, 4] (fun v i wr => ∃ k : Nat, k ≤ n ∧ i = .int .i64 k ∧ wr.ownsRow B 4 1 v k (((flipL l).take k).map Value.bool) ∧ Below B w wr ∧ B ≤ wr.heap.size)
    (fun _ i _ => n - (intOf i).toNat)
  case atStart => exact ⟨0, by omega, rfl, World.ownsRow_nil _ _ _ _, Below.refl _ _, by rw [HB.out]; exact Nat.le_refl _⟩
  case round =>
    obtain ⟨k, hk, rfl, hown, hb, hs⟩ := hrel
    by_cases hlt : k < n
    · have hc : wr.cell? ⟨g, off + k, none⟩ = some (.bool (at' l k)) := (hr.below hb hgB).cell k (by rw [HL.out]; exact hlt)
      go_wp2_with (at_builtin; refine wpList_app rfl (.tmp 11) (.tmp 17) rfl B _ k ((flipL l).take k) (!(at' l k)) rfl rfl hown hb hs (by omega) ?_; intro v' w1 hown' hb' hs')
      go_roundw
      case rel => exact ⟨k + 1, by omega, by go_num, by rw [← flip_step l k (by rw [HL.out]; exact hlt)]; exact hown', hb', hs'⟩
      case measure => simp [intOf]; omega
    · obtain rfl : k = n := by omega
      go_wp2_with fail
      go_ret
      exact ⟨_, rfl, by rw [List.take_of_length_le (by simp [flipL, HL.out])] at hown; exact hown, hb⟩

set_option maxHeartbeats 400000 in
theorem moved_any (g off n cap : Nat) (by' : Int) (x : Bool) (l : List Bool) (hl : l.length = n) (w : World) (hr : Rd w g off l) (hn : n ≤ 1000) (h1 : -1000 ≤ by') (h2 : by' ≤ 1000) :
    Calls Try.prog 35 #[.slice (some ⟨g, off, none⟩) n cap, .int .i64 by', .bool x] w fun e w' => ∃ v, e = .returned v ∧ w'.ownsRow w.heap.size 4 1 v n ((movedL l by' x).map Value.bool) ∧ Below w.heap.size w w' := by
  obtain ⟨B, hB⟩ : ∃ B, B = w.heap.size := ⟨_, rfl⟩
  have HL := Lib.hid hl
  have hgB : g < B := by rw [hB]; exact hr.lt
  have HB := Lib.hid hB
  rw [← hB]
  clear hB hl
  go_enter Try.func35, Try.ntmps35
  go_wp2
  go_loopw [7, 8, 9] (fun v i _ wr => ∃ k : Nat, k ≤ n ∧ i = .int .i64 k ∧ wr.ownsRow B 4 1 v k ((movedN l by' x k).map Value.bool) ∧ Below B w wr ∧ B ≤ wr.heap.size)
    (fun _ i _ _ => n - (intOf i).toNat)
  case atStart => exact ⟨0, by omega, rfl, World.ownsRow_nil _ _ _ _, Below.refl _ _, by rw [HB.out]; exact Nat.le_refl _⟩
  case round =>
    obtain ⟨k, hk, rfl, hown, hb, hs⟩ := hrel
    by_cases hlt : k < n
    · by_cases hlo : 0 ≤ (k : Int) - by'
      · obtain ⟨j, hj⟩ : ∃ j : Nat, (k : Int) - by' = j := ⟨((k : Int) - by').toNat, by omega⟩
        have HJ := Lib.hid hj
        by_cases hhi : j < n
        · have hc : wr.cell? ⟨g, off + j, none⟩ = some (.bool (at' l j)) := (hr.below hb hgB).cell j (by rw [HL.out]; exact hhi)
          go_wp2_with (at_builtin; refine wpList_app rfl (.tmp 27) (.tmp 32) rfl B _ k (movedN l by' x k) (at' l j) rfl rfl hown hb hs (by omega) ?_; intro v' w1 hown' hb' hs')
          go_roundw
          case rel => exact ⟨k + 1, by omega, by go_num, by rw [← moved_hit l by' x k j HJ.out (by rw [HL.out]; exact hhi)]; exact hown', hb', hs'⟩
          case measure => simp [intOf]; omega
        · go_wp2_with (at_builtin; refine wpList_app rfl (.tmp 34) (.tmp 36) rfl B _ k (movedN l by' x k) x rfl rfl hown hb hs (by omega) ?_; intro v' w1 hown' hb' hs')
          go_roundw
          case rel => exact ⟨k + 1, by omega, by go_num, by rw [← moved_miss l by' x k (by rw [HL.out]; omega)]; exact hown', hb', hs'⟩
          case measure => simp [intOf]; omega
      · go_wp2_with (at_builtin; refine wpList_app rfl (.tmp 34) (.tmp 36) rfl B _ k (movedN l by' x k) x rfl rfl hown hb hs (by omega) ?_; intro v' w1 hown' hb' hs')
        go_roundw
        case rel => exact ⟨k + 1, by omega, by go_num, by rw [← moved_miss l by' x k (by omega)]; exact hown', hb', hs'⟩
        case measure => simp [intOf]; omega
    · obtain rfl : k = n := by omega
      go_wp2_with fail
      go_ret
      exact ⟨_, rfl, by rw [movedL_eq l by' x _ HL.out]; exact hown, hb⟩

end Go.Proofs.Ytkfgkoiinjhgnaa
