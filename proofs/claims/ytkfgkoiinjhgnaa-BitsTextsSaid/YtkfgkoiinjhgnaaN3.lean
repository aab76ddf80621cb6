/- Contracts of the reference's digit and Parse. -/
import Derived.Test.YtkfgkoiinjhgnaaN2
namespace Go.Proofs.Ytkfgkoiinjhgnaa
open Go.RowKit

theorem conv_one (w : World) (x : Int) (h0 : 0 ≤ x) (h1 : x < 256) :
    (convert 47 9 (.slice (some ⟨w.heap.size, 0, none⟩) 1 1)).run Try.prog (w.alloc (.cells #[.int .u8 x] 5)) = .ok (.string (bytesZ [x])) (w.alloc (.cells #[.int .u8 x] 5)) := by
  have key := run_convert_bytes_back (P := Try.prog) (w.alloc (.cells #[.int .u8 x] 5)) 47 9 5 ⟨w.heap.size, 0, none⟩ 1 [UInt8.ofNat x.toNat] Try.underlying47 Try.underlying5 Try.underlying9 (fun j hj => by
    obtain rfl : j = 0 := by simpa using hj
    have e2 : (⟨w.heap.size, 0, none⟩ : Addr).add 0 = ⟨w.heap.size, 0, none⟩ := rfl
    rw [e2]
    simp; omega)
  exact key
set_option maxHeartbeats 800000 in
theorem digit_any (n : Int) (h0 : 0 ≤ n) (h1 : n < 16) (w : World) :
    Calls Try.prog 42 #[.int .i64 n] w fun e w' => e = .returned (.string (bytesZ [digZ n])) ∧ Below w.heap.size w w' := by
  by_cases h : n < 10
  · have e1 : digZ n = 48 + n := by unfold digZ; rw [if_pos h]
    rw [e1]
    have k1 : IntKind.u8.wrap (48 + n) = 48 + n := IntWalk.u8_in _ (by omega)
    have hc := conv_one w (48 + n) (by omega) (by omega)
    go_enter Try.func42, Try.ntmps42
    go_wp2_with fail
    go_ret
    exact ⟨rfl, (Below.refl _ _).alloc (Nat.le_refl _) _⟩
  · have e1 : digZ n = 87 + n := by unfold digZ; rw [if_neg h]
    rw [e1]
    have k1 : IntKind.u8.wrap (97 + n - 10) = 87 + n := by rw [IntWalk.u8_in _ (by omega)]; omega
    have hc := conv_one w (87 + n) (by omega) (by omega)
    go_enter Try.func42, Try.ntmps42
    go_wp2_with fail
    go_ret
    exact ⟨rfl, (Below.refl _ _).alloc (Nat.le_refl _) _⟩
end Go.Proofs.Ytkfgkoiinjhgnaa
