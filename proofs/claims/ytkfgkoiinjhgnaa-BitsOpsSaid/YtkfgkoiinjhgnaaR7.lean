import Derived.Test.YtkfgkoiinjhgnaaR4
import Derived.Test.YtkfgkoiinjhgnaaS1
import Derived.Deep.QuietTactic
import Derived.BigQuiet
namespace Go.Proofs.Ytkfgkoiinjhgnaa
open Go.RowKit

set_option maxHeartbeats 1600000 in
theorem plus_any (g off n cap g2 off2 cap2 : Nat) (c : Bool) (l m : List Bool) (hl : l.length = n) (hm : m.length = n) (w : World) (hr : Rd w g off l) (hr2 : Rd w g2 off2 m) (hn : n ≤ 1000) :
    Calls Try.prog 40 #[.slice (some ⟨g, off, none⟩) n cap, .slice (some ⟨g2, off2, none⟩) n cap2, .bool c] w fun e w' => ∃ v, e = .returned v ∧ w'.ownsRow w.heap.size 4 1 v n ((plusL l m c).map Value.bool) ∧ Below w.heap.size w w' := by
  obtain ⟨B, hB⟩ : ∃ B, B = w.heap.size := ⟨_, rfl⟩
  have HL := Lib.hid hl
  have HM := Lib.hid hm
  have hgB : g < B := by rw [hB]; exact hr.lt
  have hgB2 : g2 < B := by rw [hB]; exact hr2.lt
  have HB := Lib.hid hB
  rw [← hB]
  clear hB hl hm
  go_enter Try.func40, Try.ntmps40
  go_wp2
  go_loopw [2, 7, 8] (fun cc v i wr => ∃ k : Nat, k ≤ n ∧ i = .int .i64 k ∧ cc = .bool (carryL l m c k) ∧ wr.ownsRow B 4 1 v k ((plusN l m c k).map Value.bool) ∧ Below B w wr ∧ B ≤ wr.heap.size)
    (fun _ _ i _ => n - (intOf i).toNat)
  case atStart => exact ⟨0, by omega, rfl, rfl, World.ownsRow_nil _ _ _ _, Below.refl _ _, by rw [HB.out]; exact Nat.le_refl _⟩
  case round =>
    obtain ⟨k, hk, rfl, rfl, hown, hb, hs⟩ := hrel
    by_cases hlt : k < n
    · have hc := (hr.below hb hgB).cell k (by rw [HL.out]; exact hlt)
      have hc2 := (hr2.below hb hgB2).cell k (by rw [HM.out]; exact hlt)
      have hps := plus_step l m c k
      have hcs : carryL l m c (k + 1) = ((at' l k && at' m k) || ((at' l k != at' m k) && carryL l m c k)) := rfl
      rw [show l.getD k false = at' l k from rfl] at hc
      rw [show m.getD k false = at' m k from rfl] at hc2
      generalize hcc : carryL l m c k = c1 at hps hcs ⊢
      generalize at' l k = x at hc hps hcs
      generalize at' m k = y at hc2 hps hcs
      have HP := Lib.hid hps
      have HC := Lib.hid hcs
      have HCC := Lib.hid hcc
      clear hps hcs hcc
      have i1 : (0 : Int) ≤ (k : Int) := by omega
      have i2 : (k : Int) < (n : Int) := by omega
      cases x
      all_goals
        cases y
        all_goals
          cases c1
          all_goals
            go_wp2_with fail
            go_quiet (fail)
            have hown2 : (wr.drewN nq).ownsRow B 4 1 u7 k ((plusN l m c k).map Value.bool) := hown
            have hb2 : Below B w (wr.drewN nq) := below_drewN hb nq
            have hs2 : B ≤ (wr.drewN nq).heap.size := hs
            have hcx : (wr.drewN nq).cell? ⟨g, off + k, none⟩ = _ := hc
            have hcx2 : (wr.drewN nq).cell? ⟨g2, off2 + k, none⟩ = _ := hc2
            generalize wr.drewN nq = wx at hown2 hb2 hs2 hcx hcx2 ⊢
            clear hc hc2 hown hb hs
            go_wp2_with (at_builtin; refine wpList_app rfl (.tmp 25) (.tmp 29) rfl B _ k (plusN l m c k) _ rfl rfl hown2 hb2 hs2 (by omega) ?_; intro v' w1 hown' hb' hs'; have z1 := (hb'.cell (p := ⟨g, off + k, none⟩) hgB).trans ((hb2.cell (p := ⟨g, off + k, none⟩) hgB).symm.trans hcx); have z2 := (hb'.cell (p := ⟨g2, off2 + k, none⟩) hgB2).trans ((hb2.cell (p := ⟨g2, off2 + k, none⟩) hgB2).symm.trans hcx2))
            go_roundw
            case rel => exact ⟨k + 1, by omega, by go_num, by rw [HC.out]; rfl, by rw [← HP.out]; exact hown', hb', hs'⟩
            case measure => simp [intOf]; omega
    · obtain rfl : k = n := by omega
      go_wp2_with fail
      go_ret
      exact ⟨_, rfl, by unfold plusL; rw [HL.out]; exact hown, hb⟩

set_option maxHeartbeats 800000 in
theorem less_any (g off n cap g2 off2 cap2 : Nat) (l m : List Bool) (hl : l.length = n) (hm : m.length = n) (w : World) (hr : Rd w g off l) (hr2 : Rd w g2 off2 m) (hn : n ≤ 1000) :
    Calls Try.prog 61 #[.slice (some ⟨g, off, none⟩) n cap, .slice (some ⟨g2, off2, none⟩) n cap2] w fun e w' => e = .returned (.bool (lessL l m)) ∧ Below w.heap.size w w' := by
  obtain ⟨B, hB⟩ : ∃ B, B = w.heap.size := ⟨_, rfl⟩
  have HL := Lib.hid hl
  have HM := Lib.hid hm
  have hgB : g < B := by rw [hB]; exact hr.lt
  have hgB2 : g2 < B := by rw [hB]; exact hr2.lt
  have HB := Lib.hid hB
  rw [← hB]
  clear hB hl hm
  go_enter Try.func61, Try.ntmps61
  go_wp2
  go_loopw [5] (fun i wr => ∃ k : Int, -1 ≤ k ∧ k < n ∧ i = .int .i64 k ∧ lessL l m = lessN l m (k + 1).toNat ∧ Below B w wr ∧ B ≤ wr.heap.size) (fun i _ => (intOf i + 1).toNat)
  case atStart => exact ⟨(n : Int) - 1, by omega, by omega, rfl, by unfold lessL; rw [HL.out]; congr 1; omega, Below.refl _ _, by rw [HB.out]; exact Nat.le_refl _⟩
  case round =>
    obtain ⟨k, hk1, hk2, rfl, hless, hb, hs⟩ := hrel
    by_cases h0 : 0 ≤ k
    · obtain ⟨j, rfl⟩ := Int.eq_ofNat_of_zero_le h0
      rw [show ((j : Int) + 1).toNat = j + 1 by omega, lessN] at hless
      have hc := (hr.below hb hgB).cell j (by rw [HL.out]; omega)
      have hc2 := (hr2.below hb hgB2).cell j (by rw [HM.out]; omega)
      rw [show l.getD j false = at' l j from rfl] at hc
      rw [show m.getD j false = at' m j from rfl] at hc2
      generalize at' l j = x at hc hless
      generalize at' m j = y at hc2 hless
      have HS := Lib.hid hless
      clear hless
      have i1 : (0 : Int) ≤ (j : Int) := by omega
      have i2 : (j : Int) < (n : Int) := by omega
      cases x
      all_goals
        cases y
        all_goals
          go_wp2_with fail
          go_quiet (fail)
          have hb2 : Below B w (wr.drewN nq) := below_drewN hb nq
          have hs2 : B ≤ (wr.drewN nq).heap.size := hs
          have hcx : (wr.drewN nq).cell? ⟨g, off + j, none⟩ = _ := hc
          have hcx2 : (wr.drewN nq).cell? ⟨g2, off2 + j, none⟩ = _ := hc2
          generalize wr.drewN nq = wx at hb2 hs2 hcx hcx2 ⊢
          clear hc hc2 hb hs
          go_wp2_with fail
          first
            | (go_roundw
               case rel => exact ⟨(j : Int) - 1, by omega, by omega, by go_num, by rw [HS.out, show ((j : Int) - 1 + 1).toNat = j by omega]; rfl, hb2, hs2⟩
               case measure => simp [intOf])
            | (go_ret
               exact ⟨by rw [HS.out]; rfl, hb2⟩)
    · go_wp2_with fail
      go_ret
      exact ⟨by rw [show (k + 1).toNat = 0 by omega]; rfl, hb⟩

/-- The same contracts as a walk meets them. -/
theorem plus_rd (g off n cap g2 off2 cap2 : Nat) (c : Bool) (l m : List Bool) (w : World) (hr : Rd w g off l) (hr2 : Rd w g2 off2 m) (hl : l.length = n) (hm : m.length = n) (h1 : 1 ≤ n) (hn : n ≤ 1000) :
    Calls Try.prog 40 #[.slice (some ⟨g, off, none⟩) n cap, .slice (some ⟨g2, off2, none⟩) n cap2, .bool c] w fun e w' => (∃ g cap, e = .returned (.slice (some ⟨g, 0, none⟩) n cap) ∧ Rd w' g 0 (plusL l m c) ∧ n ≤ cap ∧ cap ≤ maxLen ∧ w.heap.size ≤ g) ∧ Below w.heap.size w w' := by
  refine (plus_any g off n cap g2 off2 cap2 c l m hl hm w hr hr2 hn).mono ?_
  rintro e w' ⟨v, rfl, hown, hb⟩
  obtain ⟨g, cap, rfl, hr, hl, hc, hm, hB⟩ := row_of hown (by omega)
  exact ⟨⟨g, cap, rfl, hr, hc, hm, hB⟩, hb⟩
theorem one_any (b : Bool) (w : World) :
    Calls Try.prog 60 #[.bool b] w fun e w' => (∃ g cap, e = .returned (.slice (some ⟨g, 0, none⟩) 1 cap) ∧ Rd w' g 0 [b] ∧ 1 ≤ cap ∧ cap ≤ maxLen ∧ w.heap.size ≤ g) ∧ Below w.heap.size w w' := by
  go_enter Try.func60, Try.ntmps60
  go_wp2
  go_ret
  refine ⟨⟨_, _, rfl, ⟨by simp, fun i hi => ?_⟩, by omega, by unfold maxLen; omega, Nat.le_refl _⟩, (Below.refl _ _).alloc (Nat.le_refl _) _⟩
  simp at hi
  subst hi
  simp [go_sem]
end Go.Proofs.Ytkfgkoiinjhgnaa
