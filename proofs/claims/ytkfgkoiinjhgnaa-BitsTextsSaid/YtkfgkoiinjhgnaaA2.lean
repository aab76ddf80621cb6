import Derived.Test.YtkfgkoiinjhgnaaA1
import Derived.Laws.EntriesVeiled
import Derived.Deep.QuietTactic
import Derived.BigQuiet
import Derived.WalkSmall
namespace Go.Proofs.Ytkfgkoiinjhgnaa
open Go.ChangeShapes Go.WideShapes Go.RowKit

theorem quiet_same {P : Program} {f : FuncId} {args : Array Value} {w : World} {n : Nat} {v : Value}
    (h : Calls P f args (w.drewN n) fun e w' => e = .returned v ∧ w.drewN n = w') : Calls P f args (w.drewN n) fun e w'' => e = .returned v ∧ ∃ m, w'' = w.drewN m :=
  Calls.quiet_of_same (h.mono fun _ _ ⟨a, b⟩ => ⟨a, b.symm⟩)

/-- The array of functions that 'operations' answers, its captured variables in the blocks from k on. -/
def opsV (k : Nat) : Value := .agg
  #[Value.func (Fn.func 43) #[] #[], Value.func (Fn.func 44) #[] #[], Value.func (Fn.func 45) #[] #[],
    Value.func (Fn.func 46) #[] #[], Value.func (Fn.func 47) #[] #[],
    Value.func (Fn.func 48) #[] #[Value.pointer (some ⟨k + 1 + 1, 0, none⟩)],
    Value.func (Fn.func 49) #[] #[], Value.func (Fn.func 50) #[] #[], Value.func (Fn.func 51) #[] #[],
    Value.func (Fn.func 52) #[] #[Value.pointer (some ⟨k, 0, none⟩)],
    Value.func (Fn.func 53) #[] #[],
    Value.func (Fn.func 55) #[] #[Value.pointer (some ⟨k, 0, none⟩)],
    Value.func (Fn.func 56) #[] #[]]

theorem operations_any (n : Int) (h1 : 1 ≤ n) (h2 : n ≤ 64) (w : World) :
    Calls Try.prog 37 #[.int .i64 n] w fun e w' => e = .returned (opsV w.heap.size) ∧ w'.cell? ⟨w.heap.size, 0, none⟩ = some (.int .i64 n) ∧
      w'.cell? ⟨w.heap.size + 1 + 1, 0, none⟩ = some (.int .u64 (maskZ n)) ∧ Below w.heap.size w w' := by
  go_enter Try.func37, Try.ntmps37
  go_wp2_with (go_at_call 38; refine (mask_any _ h1 h2 _).mono ?_; rintro e w' ⟨rfl, rfl⟩)
  refine bodyPost_ret (v := opsV w.heap.size) (by simp [results, Try.results37, go_sem, opsV]) rfl ⟨rfl, ?_, ?_, ?_⟩
  · simp [go_sem, World.cell?_alloc_past]
  · simp [go_sem]
  · exact (((Below.refl _ _).alloc (Nat.le_refl _) _).alloc (by simp) _).alloc (by simp; omega) _

theorem op_and (a b : Int) (w : World) :
    Calls Try.prog 43 #[.int .u64 a, .int .u64 b] w fun e w' => e = .returned (.int .u64 (bits .and .u64 a b)) ∧ w = w' := by
  go_enter Try.func43, Try.ntmps43
  go_wp2
  go_ret
  exact ⟨rfl, rfl⟩
theorem op_or (a b : Int) (w : World) :
    Calls Try.prog 44 #[.int .u64 a, .int .u64 b] w fun e w' => e = .returned (.int .u64 (bits .or .u64 a b)) ∧ w = w' := by
  go_enter Try.func44, Try.ntmps44
  go_wp2
  go_ret
  exact ⟨rfl, rfl⟩
theorem op_xor (a b : Int) (w : World) :
    Calls Try.prog 45 #[.int .u64 a, .int .u64 b] w fun e w' => e = .returned (.int .u64 (bits .xor .u64 a b)) ∧ w = w' := by
  go_enter Try.func45, Try.ntmps45
  go_wp2
  go_ret
  exact ⟨rfl, rfl⟩
theorem op_add (a b : Int) (w : World) :
    Calls Try.prog 46 #[.int .u64 a, .int .u64 b] w fun e w' => e = .returned (.int .u64 (IntKind.u64.wrap (a + b))) ∧ w = w' := by
  go_enter Try.func46, Try.ntmps46
  go_wp2
  go_ret
  exact ⟨rfl, rfl⟩
theorem op_mul (a b : Int) (w : World) :
    Calls Try.prog 47 #[.int .u64 a, .int .u64 b] w fun e w' => e = .returned (.int .u64 (IntKind.u64.wrap (a * b))) ∧ w = w' := by
  go_enter Try.func47, Try.ntmps47
  go_wp2
  go_ret
  exact ⟨rfl, rfl⟩
theorem op_udiv (a b m : Int) (k : Nat) (w : World) (h0 : 0 ≤ a) (h0' : a ≤ 18446744073709551615) (hb : 0 ≤ b) (hc : w.cell? ⟨k, 0, none⟩ = some (.int .u64 m)) :
    Calls Try.prog 48 #[.int .u64 a, .int .u64 b, .pointer (some ⟨k, 0, none⟩)] w fun e w' => e = .returned (.int .u64 (divZ m a b)) ∧ w = w' := by
  by_cases hz : b = 0
  · subst hz
    go_enter Try.func48, Try.ntmps48
    go_wp2
    go_ret
    exact ⟨by simp [divZ], rfl⟩
  · have h1 : 1 ≤ b := by omega
    go_enter Try.func48, Try.ntmps48
    go_wp2
    go_ret
    exact ⟨by simp [divZ, hz], rfl⟩
theorem op_urem (a b : Int) (w : World) (h0 : 0 ≤ a) (hb : 0 ≤ b) :
    Calls Try.prog 49 #[.int .u64 a, .int .u64 b] w fun e w' => e = .returned (.int .u64 (remZ a b)) ∧ w = w' := by
  by_cases hz : b = 0
  · subst hz
    go_enter Try.func49, Try.ntmps49
    go_wp2
    go_ret
    exact ⟨by simp [remZ], rfl⟩
  · have h1 : 1 ≤ b := by omega
    go_enter Try.func49, Try.ntmps49
    go_wp2
    go_ret
    exact ⟨by simp [remZ, hz], rfl⟩
theorem op_shl (a b : Int) (w : World) (hb : 0 ≤ b) :
    Calls Try.prog 50 #[.int .u64 a, .int .u64 b] w fun e w' => e = .returned (.int .u64 (IntKind.u64.wrap (a * 2 ^ min b.toNat 64))) ∧ w = w' := by
  go_enter Try.func50, Try.ntmps50
  go_wp2
  go_ret
  exact ⟨rfl, rfl⟩
theorem op_shr (a b : Int) (w : World) (hb : 0 ≤ b) :
    Calls Try.prog 51 #[.int .u64 a, .int .u64 b] w fun e w' => e = .returned (.int .u64 (a / 2 ^ min b.toNat 64)) ∧ w = w' := by
  go_enter Try.func51, Try.ntmps51
  go_wp2
  go_ret
  exact ⟨rfl, rfl⟩
theorem op_ashr (a b n : Int) (k : Nat) (w : World) (h0 : 0 ≤ a) (ha : a ≤ maskZ n) (h1 : 1 ≤ n) (h2 : n ≤ 64) (hb : 0 ≤ b) (hc : w.cell? ⟨k, 0, none⟩ = some (.int .i64 n)) :
    Calls Try.prog 52 #[.int .u64 a, .int .u64 b, .pointer (some ⟨k, 0, none⟩)] w fun e w' => e = .returned (.int .u64 (IntKind.u64.wrap (sgnZ a n / 2 ^ min b.toNat 64))) ∧ w = w' := by
  go_enter Try.func52, Try.ntmps52
  go_wp2_with (go_at_call 41; refine (signed_any _ _ h0 ha h1 h2 _).mono ?_; rintro e w' ⟨rfl, rfl⟩)
  go_ret
  exact ⟨rfl, rfl⟩
theorem op_ult (a b : Int) (w : World) :
    Calls Try.prog 53 #[.int .u64 a, .int .u64 b] w fun e w' => e = .returned (.int .u64 (truZ (decide (a < b)))) ∧ w = w' := by
  go_enter Try.func53, Try.ntmps53
  go_wp2_with (go_at_call 54; refine (truth_any _ _).mono ?_; rintro e w' ⟨rfl, rfl⟩)
  go_ret
  exact ⟨rfl, rfl⟩
theorem op_slt (a b n : Int) (k : Nat) (w : World) (h0 : 0 ≤ a) (ha : a ≤ maskZ n) (hb0 : 0 ≤ b) (hb : b ≤ maskZ n) (h1 : 1 ≤ n) (h2 : n ≤ 64) (hc : w.cell? ⟨k, 0, none⟩ = some (.int .i64 n)) :
    Calls Try.prog 55 #[.int .u64 a, .int .u64 b, .pointer (some ⟨k, 0, none⟩)] w fun e w' => e = .returned (.int .u64 (truZ (decide (sgnZ a n < sgnZ b n)))) ∧ Below w.heap.size w w' := by
  go_enter Try.func55, Try.ntmps55
  go_wp2
  go_quiet (first | (go_at_call 41; exact quiet_same (signed_any _ _ (by assumption) (by assumption) h1 h2 _)) | (go_at_call 54; exact quiet_same (truth_any _ _)))
  go_wp2
  go_ret
  exact ⟨rfl, below_drewN (Below.refl _ _) _⟩
theorem op_eq (a b : Int) (w : World) :
    Calls Try.prog 56 #[.int .u64 a, .int .u64 b] w fun e w' => e = .returned (.int .u64 (truZ (a == b))) ∧ w = w' := by
  go_enter Try.func56, Try.ntmps56
  go_wp2_with (go_at_call 54; refine (truth_any _ _).mono ?_; rintro e w' ⟨rfl, rfl⟩)
  go_ret
  exact ⟨rfl, rfl⟩

end Go.Proofs.Ytkfgkoiinjhgnaa
