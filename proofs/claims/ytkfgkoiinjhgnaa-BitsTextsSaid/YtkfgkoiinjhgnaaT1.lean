import Derived.Test.YtkfgkoiinjhgnaaK1
import Derived.Laws.IdiomStrings
import Derived.Deep.RegionLaw
import Derived.WalkLawsBesides
namespace Go.Proofs.Ytkfgkoiinjhgnaa
open Go.RowKit

theorem Try.info5 : (Try.prog.info? 5).map (fun i => (i.zero, i.size, i.bytes)) = some (some (.int .u8 0), 1, 1) := by kernel_rfl

/-- 'out = append(out, x)', out a row of bytes of the call's own (or nil). -/
theorem wpList_app8 {w0 wr : World} {ops : Array Oper} {rest : List Oper} {o : Oper} {a : Act} {Q : Exit → Act → World → Prop} (hgd : o.guard = none) (s x : Operand)
    (ho : o.op = .call { callee := .builtin .append, args := #[s, x], argTypes := #[47, 47] }) (B : Nat) (v : Value) (k : Nat) (xs : List Int) (b : Int)
    (hs : a.eval s = v) (hx : a.eval x = .slice (some ⟨wr.heap.size, 0, none⟩) 1 1) (hown : wr.ownsRow B 5 1 v k (xs.map (Value.int .u8))) (hb : Below B w0 wr) (hB : B ≤ wr.heap.size) (hk : k ≤ 1000000000)
    (h : ∀ v' w', w'.ownsRow B 5 1 v' (k + 1) ((xs ++ [b]).map (Value.int .u8)) → Below B w0 w' → B ≤ w'.heap.size → wpList Try.prog ops Q rest (a.put o.dst v') w') :
    wpList Try.prog ops Q (o :: rest) a (wr.alloc (.cells #[.int .u8 b] 5)) := by
  obtain ⟨i0, hi, hz0, hz1, hz2⟩ := info_parts Try.info5
  have hnews : ∀ (j : Nat) (u : Value), [Value.int .u8 b][j]? = some u → (wr.alloc (.cells #[.int .u8 b] 5)).cell? ((⟨wr.heap.size, 0, none⟩ : Addr).add j) = some u := by
    intro j u hj
    match j, hj with
    | 0, hj => simp at hj; subst hj; simp [Addr.add]
  refine wpList_append_own _ hgd s x 47 ho B 5 i0 (.int .u8 0) 1 1 Try.underlying47 hi hz0 hz1 hz2 rfl (by decide) v k _ hs (hown.alloc _) ⟨wr.heap.size, 0, none⟩ 1 1 [.int .u8 b] hx rfl hnews
    (by intro u hu; simp at hu; subst hu; rfl) (by unfold maxLen; omega) (by omega) (by simp; omega) ?_
  intro v' w1 hown' hgrow _
  refine h v' w1 (by simpa using hown') ((hb.alloc hB _).grown hgrow (by simp; omega) fun k hk => (hown.lt k hk).1) ?_
  have := hgrow.size
  simp at this
  omega
theorem wpList_app82 {w0 wr : World} {ops : Array Oper} {rest : List Oper} {o : Oper} {a : Act} {Q : Exit → Act → World → Prop} (hgd : o.guard = none) (s x : Operand)
    (ho : o.op = .call { callee := .builtin .append, args := #[s, x], argTypes := #[47, 47] }) (B : Nat) (v : Value) (k : Nat) (xs : List Int) (b c : Int)
    (hs : a.eval s = v) (hx : a.eval x = .slice (some ⟨wr.heap.size, 0, none⟩) 2 2) (hown : wr.ownsRow B 5 1 v k (xs.map (Value.int .u8))) (hb : Below B w0 wr) (hB : B ≤ wr.heap.size) (hk : k ≤ 1000000000)
    (h : ∀ v' w', w'.ownsRow B 5 1 v' (k + 2) ((xs ++ [b, c]).map (Value.int .u8)) → Below B w0 w' → B ≤ w'.heap.size → wpList Try.prog ops Q rest (a.put o.dst v') w') :
    wpList Try.prog ops Q (o :: rest) a (wr.alloc (.cells #[.int .u8 b, .int .u8 c] 5)) := by
  obtain ⟨i0, hi, hz0, hz1, hz2⟩ := info_parts Try.info5
  have hnews : ∀ (j : Nat) (u : Value), [Value.int .u8 b, Value.int .u8 c][j]? = some u → (wr.alloc (.cells #[.int .u8 b, .int .u8 c] 5)).cell? ((⟨wr.heap.size, 0, none⟩ : Addr).add j) = some u := by
    intro j u hj
    match j, hj with
    | 0, hj => simp at hj; subst hj; simp [Addr.add]
    | 1, hj => simp at hj; subst hj; simp [Addr.add]
  refine wpList_append_own _ hgd s x 47 ho B 5 i0 (.int .u8 0) 1 1 Try.underlying47 hi hz0 hz1 hz2 rfl (by decide) v k _ hs (hown.alloc _) ⟨wr.heap.size, 0, none⟩ 2 2 [.int .u8 b, .int .u8 c] hx rfl hnews
    (by intro u hu; simp at hu; rcases hu with rfl | rfl <;> rfl) (by unfold maxLen; omega) (by omega) (by simp; omega) ?_
  intro v' w1 hown' hgrow _
  refine h v' w1 (by simpa using hown') ((hb.alloc hB _).grown hgrow (by simp; omega) fun k hk => (hown.lt k hk).1) ?_
  have := hgrow.size
  simp at this
  omega

/-- The same as a step of a region that draws its order. -/
theorem step_app8 {w0 wr : World} {ops : Array Oper} {o : Oper} {a : Act} {K : Act → World → Prop} {Q : Exit → Act → World → Prop} {E : Prop} (hgd : o.guard = none) (s x : Operand)
    (ho : o.op = .call { callee := .builtin .append, args := #[s, x], argTypes := #[47, 47] }) (B : Nat) (v : Value) (k : Nat) (xs : List Int) (b : Int)
    (hs : a.eval s = v) (hx : a.eval x = .slice (some ⟨wr.heap.size, 0, none⟩) 1 1) (hown : wr.ownsRow B 5 1 v k (xs.map (Value.int .u8))) (hb : Below B w0 wr) (hB : B ≤ wr.heap.size) (hk : k ≤ 1000000000)
    (h : ∀ v' w', w'.ownsRow B 5 1 v' (k + 1) ((xs ++ [b]).map (Value.int .u8)) → Below B w0 w' → B ≤ w'.heap.size → K (a.put o.dst v') w') :
    if Region.wanted o (yielded ops a.tmps) = true then Oper.wp Try.prog o a (wr.alloc (.cells #[.int .u8 b] 5)).drew K Q else E := by
  have hw : Region.wanted o (yielded ops a.tmps) = true := by simp [Region.wanted, hgd]
  rw [if_pos hw]
  obtain ⟨i0, hi, hz0, hz1, hz2⟩ := info_parts Try.info5
  have hnews : ∀ (j : Nat) (u : Value), [Value.int .u8 b][j]? = some u → (wr.alloc (.cells #[.int .u8 b] 5)).drew.cell? ((⟨wr.heap.size, 0, none⟩ : Addr).add j) = some u := by
    intro j u hj
    match j, hj with
    | 0, hj => simp at hj; subst hj; simp [Addr.add, go_sem]
  refine wp_append_own _ s x 47 ho B 5 i0 (.int .u8 0) 1 1 Try.underlying47 hi hz0 hz1 hz2 rfl (by decide) v k _ hs (hown.alloc _).drew ⟨wr.heap.size, 0, none⟩ 1 1 [.int .u8 b] hx rfl hnews
    (by intro u hu; simp at hu; subst hu; rfl) (by unfold maxLen; omega) (by omega) (by show B ≤ (wr.alloc _).heap.size; simp; omega) ?_
  intro v' w1 hown' hgrow _
  refine h v' w1 (by simpa using hown') ((hb.alloc hB _).drew.grown hgrow (by show B ≤ (wr.alloc _).heap.size; simp; omega) fun k hk => (hown.lt k hk).1) ?_
  have := hgrow.size
  have h3 : (wr.alloc (.cells #[.int .u8 b] 5)).drew.heap.size = wr.heap.size + 1 := by show (wr.alloc _).heap.size = _; simp
  omega

/-- The byte of a digit. -/
def digZ (d : Int) : Int := if d < 10 then 48 + d else 87 + d
/-- The bytes of a value's text, of digits of s bits: the first k digits of m. -/
def digsZ (u s m : Int) (k : Nat) : List Int := (List.range k).map fun (i : Nat) => digZ (u / 2 ^ ((m - 1 - i) * s).toNat % powZ s)

/-- The bytes of a list of numbers. -/
def bytesZ (ns : List Int) : ByteArray := ⟨(ns.map fun z => UInt8.ofNat z.toNat).toArray⟩
theorem digZ_range (d : Int) (h0 : 0 ≤ d) (h1 : d < 16) : 0 ≤ digZ d ∧ digZ d < 256 := by unfold digZ; split <;> omega
theorem digs_succ (u s m : Int) (k : Nat) : digsZ u s m (k + 1) = digsZ u s m k ++ [digZ (u / 2 ^ ((m - 1 - k) * s).toNat % powZ s)] := by simp [digsZ, List.range_succ]
theorem powZ_4 : powZ 4 = 16 := rfl
theorem powZ_1 : powZ 1 = 2 := rfl
theorem dig_at (d : Int) (h0 : 0 ≤ d) (h1 : d < 16) (h : d.toNat < (⟨#[48, 49, 50, 51, 52, 53, 54, 55, 56, 57, 97, 98, 99, 100, 101, 102]⟩ : ByteArray).size) :
    (((⟨#[48, 49, 50, 51, 52, 53, 54, 55, 56, 57, 97, 98, 99, 100, 101, 102]⟩ : ByteArray)[d.toNat]'h).toNat : Int) = digZ d := by
  rcases (show d = 0 ∨ d = 1 ∨ d = 2 ∨ d = 3 ∨ d = 4 ∨ d = 5 ∨ d = 6 ∨ d = 7 ∨ d = 8 ∨ d = 9 ∨ d = 10 ∨ d = 11 ∨ d = 12 ∨ d = 13 ∨ d = 14 ∨ d = 15 by omega) with
    rfl | rfl | rfl | rfl | rfl | rfl | rfl | rfl | rfl | rfl | rfl | rfl | rfl | rfl | rfl | rfl <;> rfl
theorem digs_mem (u s m : Int) (k : Nat) (hp : powZ s ≤ 16) : ∀ z ∈ digsZ u s m k, 0 ≤ z ∧ z < 256 := by
  intro z hz
  simp only [digsZ, List.mem_map] at hz
  obtain ⟨i, _, rfl⟩ := hz
  have hq := powZ_pos s
  have a := Int.emod_nonneg (u / 2 ^ ((m - 1 - i) * s).toNat) (show powZ s ≠ 0 by omega)
  have b := Int.emod_lt_of_pos (u / 2 ^ ((m - 1 - i) * s).toNat) (show 0 < powZ s by omega)
  exact digZ_range _ a (by omega)
/-- 'string(b)' of an owned row of bytes. -/
theorem conv_row {w : World} {B : Nat} {v : Value} {n : Nat} {ns : List Int} (h : w.ownsRow B 5 1 v n (ns.map (Value.int .u8))) (h0 : 0 < n) (hr : ∀ z ∈ ns, 0 ≤ z ∧ z < 256) :
    ∃ g cap, v = .slice (some ⟨g, 0, none⟩) n cap ∧ (convert 47 9 (.slice (some ⟨g, 0, none⟩) n cap)).run Try.prog w = .ok (.string (bytesZ ns)) w := by
  obtain ⟨hl, h2⟩ := h
  rcases h2 with ⟨_, rfl⟩ | ⟨g, cap, cur, rfl, hB, hg, hn, hc, hs, ht⟩
  · omega
  · refine ⟨g, cap, rfl, ?_⟩
    have hlen : ns.length = n := by simpa using hl
    have key := run_convert_bytes_back (P := Try.prog) w 47 9 5 ⟨g, 0, none⟩ cap (ns.map fun z => UInt8.ofNat z.toNat) Try.underlying47 Try.underlying5 Try.underlying9 (fun j hj => by
      simp only [List.length_map] at hj
      have e : (cur.toList.take (n * 1))[j]? = (ns.map (Value.int .u8))[j]? := by rw [ht]
      rw [List.getElem?_take, if_pos (by omega)] at e
      have e2 : (⟨g, 0, none⟩ : Addr).add j = ⟨g, j, none⟩ := by unfold Addr.add; split <;> simp_all
      rw [e2, cell_of_row w g j cur 5 (0, 0) hg, ← Array.getElem?_toList, e]
      simp only [List.getElem?_map, List.getElem?_eq_getElem hj, Option.map_some, List.getElem_map]
      have hz := hr _ (List.getElem_mem hj)
      congr 2
      simp
      omega)
    simp only [List.length_map, hlen] at key
    exact key

set_option maxHeartbeats 1600000 in
theorem text_ok (u n s c : Int) (m : Nat) (hu0 : 0 ≤ u) (hu : u ≤ maskZ n) (h1 : 1 ≤ n) (h2 : n ≤ 64) (hs : n % 4 = 0 ∧ s = 4 ∧ c = 120 ∨ 1 ≤ n % 4 ∧ s = 1 ∧ c = 98) (hm : m = n / s) (w : World) :
    Calls Try.prog 27 #[.int .u64 u, .int .i64 n] w fun e w' => e = .returned (.tuple #[.string (bytesZ (35 :: c :: digsZ u s m m)), .int .i64 0]) ∧ Below w.heap.size w w' := by
  obtain ⟨i0, hi, hz0, hz1, hz2⟩ := info_parts Try.info5
  obtain ⟨B, hB⟩ : ∃ B, B = w.heap.size := ⟨_, rfl⟩
  have HB := Lib.hid hB
  have hBle : B ≤ w.heap.size := by omega
  rw [← hB]
  clear hB
  have hb0 : Below B w w := Below.refl _ _
  have ht := maskZ_top n h2
  rcases hs with ⟨hn4, rfl, rfl⟩ | ⟨hn4, rfl, rfl⟩
  · have hmr : 1 ≤ m ∧ m ≤ 64 := by omega
    have hq : n / 4 = m := hm.symm
    clear hm
    go_enter Try.func27, Try.ntmps27
    go_wp2_with (first
      | (go_at_call 15; refine (valid_ok _ _ hu h1 h2 _).mono ?_; rintro e w' ⟨rfl, rfl⟩)
      | (at_make; refine wpList_make_own _ rfl (.const (.int .i64 0)) (.tmp 25) 47 rfl B 5 i0 (.int .u8 0) 1 Try.underlying47 hi hz0 hz1 .i64 .i64 (m + 2) (m + 2) rfl rfl (by omega) (by rw [hz2]; omega) (by unfold maxLen; omega) hBle ?_; intro w1 hown1 hg1; have hb1 : Below B w w1 := hb0.grown hg1 hBle (by simp); have hs1 : B ≤ w1.heap.size := Nat.le_trans hBle hg1.size)
      | (at_builtin; refine wpList_app82 rfl (.tmp 27) (.tmp 29) rfl B _ 0 [] 35 120 rfl rfl hown1 hb1 hs1 (by omega) ?_; intro v2 w2 hown2 hb2 hs2))
    go_loopw [10, 11, 32] (fun v _ i wr => ∃ k : Nat, k ≤ m ∧ i = .int .i64 k ∧ wr.ownsRow B 5 1 v (k + 2) ((35 :: 120 :: digsZ u 4 m k).map (Value.int .u8)) ∧ Below B w wr ∧ B ≤ wr.heap.size)
      (fun _ _ i _ => m - (intOf i).toNat)
    case atStart => exact ⟨0, by omega, rfl, hown2, hb2, hs2⟩
    case round =>
      clear hown1 hg1 hown2 hb1 hb2
      obtain ⟨k, hk, rfl, hown, hb, hs⟩ := hrel
      by_cases hlt : k < m
      · have e1 : IntKind.i64.wrap ((m : Int) - 1) = (m : Int) - 1 := IntWalk.i64_in _ (by omega)
        have e2 : IntKind.i64.wrap ((m : Int) - 1 - k) = (m : Int) - 1 - k := IntWalk.i64_in _ (by omega)
        have e3 : IntKind.i64.wrap (((m : Int) - 1 - k) * 4) = ((m : Int) - 1 - k) * 4 := IntWalk.i64_in _ (by omega)
        have e4 : ¬ ((m : Int) - 1 - k) * 4 < 0 := by omega
        obtain ⟨d, hd⟩ : ∃ d, d = u / 2 ^ (((m : Int) - 1 - k) * 4).toNat % powZ 4 := ⟨_, rfl⟩
        have e6 : bits BinOp.and IntKind.u64 (u / 2 ^ (((m : Int) - 1 - k) * 4).toNat) (maskZ 4) = d := by
          rw [hd]
          have hp : (0 : Int) < 2 ^ (((m : Int) - 1 - k) * 4).toNat := Int.pow_pos (by decide)
          have hle := Int.ediv_le_self (2 ^ (((m : Int) - 1 - k) * 4).toNat) hu0
          exact and_mask _ _ (Int.ediv_nonneg hu0 (by omega)) (by omega) (by decide)
        have d0 : 0 ≤ d := by rw [hd]; exact Int.emod_nonneg _ (by decide)
        have d1 : d < 16 := by
          have := Int.emod_lt_of_pos (u / 2 ^ (((m : Int) - 1 - k) * 4).toNat) (show 0 < powZ 4 by decide)
          rw [← hd] at this
          have hh : powZ 4 ≤ 16 := by decide
          omega
        have hdig : digsZ u 4 m (k + 1) = digsZ u 4 m k ++ [digZ d] := by rw [digs_succ, hd]
        have HD := Lib.hid hdig
        clear hd hdig
        go_wp2_with fail
        go_region_law (first
          | (refine step_app8 rfl (.tmp 35) (.tmp 48) rfl B _ (k + 2) (35 :: 120 :: digsZ u 4 m k) _ rfl rfl hown hb hs (by omega) ?_; intro v' w1 hown' hb' hs')
          | (go_simp; go_at_call 38; refine (mask_any 4 (by decide) (by decide) _).mono ?_; rintro e w' ⟨rfl, rfl⟩))
        go_wp2
        go_roundw
        case rel => exact ⟨k + 1, by omega, by go_num, by rw [HD.out]; rw [dig_at d d0 d1] at hown'; exact hown', hb', hs'⟩
        case measure => simp [intOf]; omega
      · obtain rfl : k = m := by omega
        obtain ⟨g, cap, rfl, hconv⟩ := conv_row hown (by omega) (by
          intro z hz
          simp only [List.mem_cons] at hz
          rcases hz with rfl | rfl | hz
          · omega
          · omega
          · exact digs_mem _ _ _ _ (by decide) z hz)
        go_wp2_with fail
        go_ret2
        exact ⟨rfl, hb⟩
  · have hmr : 1 ≤ m ∧ m ≤ 64 := by omega
    obtain rfl : n = m := by omega
    clear hm
    go_enter Try.func27, Try.ntmps27
    go_wp2_with (first
      | (go_at_call 15; refine (valid_ok _ _ hu h1 h2 _).mono ?_; rintro e w' ⟨rfl, rfl⟩)
      | (at_make; refine wpList_make_own _ rfl (.const (.int .i64 0)) (.tmp 25) 47 rfl B 5 i0 (.int .u8 0) 1 Try.underlying47 hi hz0 hz1 .i64 .i64 (m + 2) (m + 2) rfl rfl (by omega) (by rw [hz2]; omega) (by unfold maxLen; omega) hBle ?_; intro w1 hown1 hg1; have hb1 : Below B w w1 := hb0.grown hg1 hBle (by simp); have hs1 : B ≤ w1.heap.size := Nat.le_trans hBle hg1.size)
      | (at_builtin; refine wpList_app82 rfl (.tmp 27) (.tmp 29) rfl B _ 0 [] 35 98 rfl rfl hown1 hb1 hs1 (by omega) ?_; intro v2 w2 hown2 hb2 hs2))
    go_loopw [10, 11, 32] (fun v _ i wr => ∃ k : Nat, k ≤ m ∧ i = .int .i64 k ∧ wr.ownsRow B 5 1 v (k + 2) ((35 :: 98 :: digsZ u 1 m k).map (Value.int .u8)) ∧ Below B w wr ∧ B ≤ wr.heap.size)
      (fun _ _ i _ => m - (intOf i).toNat)
    case atStart => exact ⟨0, by omega, rfl, hown2, hb2, hs2⟩
    case round =>
      clear hown1 hg1 hown2 hb1 hb2
      obtain ⟨k, hk, rfl, hown, hb, hs⟩ := hrel
      by_cases hlt : k < m
      · have e1 : IntKind.i64.wrap ((m : Int) - 1) = (m : Int) - 1 := IntWalk.i64_in _ (by omega)
        have e2 : IntKind.i64.wrap ((m : Int) - 1 - k) = (m : Int) - 1 - k := IntWalk.i64_in _ (by omega)
        have e3 : IntKind.i64.wrap ((m : Int) - 1 - k) = (m : Int) - 1 - k := IntWalk.i64_in _ (by omega)
        have e4 : ¬ (m : Int) - 1 - k < 0 := by omega
        obtain ⟨d, hd⟩ : ∃ d, d = u / 2 ^ ((m : Int) - 1 - k).toNat % powZ 1 := ⟨_, rfl⟩
        have e6 : bits BinOp.and IntKind.u64 (u / 2 ^ (m - 1 - k)) (maskZ 1) = d := by
          rw [hd, show m - 1 - k = ((m : Int) - 1 - k).toNat by omega]
          have hp : (0 : Int) < 2 ^ ((m : Int) - 1 - k).toNat := Int.pow_pos (by decide)
          have hle := Int.ediv_le_self (2 ^ ((m : Int) - 1 - k).toNat) hu0
          exact and_mask _ _ (Int.ediv_nonneg hu0 (by omega)) (by omega) (by decide)
        have d0 : 0 ≤ d := by rw [hd]; exact Int.emod_nonneg _ (by decide)
        have d1 : d < 16 := by
          have := Int.emod_lt_of_pos (u / 2 ^ ((m : Int) - 1 - k).toNat) (show 0 < powZ 1 by decide)
          rw [← hd] at this
          have hh : powZ 1 ≤ 16 := by decide
          omega
        have hdig : digsZ u 1 m (k + 1) = digsZ u 1 m k ++ [digZ d] := by rw [digs_succ, hd, Int.mul_one]
        have HD := Lib.hid hdig
        clear hd hdig
        go_wp2_with fail
        go_region_law (first
          | (refine step_app8 rfl (.tmp 35) (.tmp 48) rfl B _ (k + 2) (35 :: 98 :: digsZ u 1 m k) _ rfl rfl hown hb hs (by omega) ?_; intro v' w1 hown' hb' hs')
          | (go_simp; go_at_call 38; refine (mask_any 1 (by decide) (by decide) _).mono ?_; rintro e w' ⟨rfl, rfl⟩))
        go_wp2
        go_roundw
        case rel => exact ⟨k + 1, by omega, by go_num, by rw [HD.out]; rw [dig_at d d0 d1] at hown'; exact hown', hb', hs'⟩
        case measure => simp [intOf]; omega
      · obtain rfl : k = m := by omega
        obtain ⟨g, cap, rfl, hconv⟩ := conv_row hown (by omega) (by
          intro z hz
          simp only [List.mem_cons] at hz
          rcases hz with rfl | rfl | hz
          · omega
          · omega
          · exact digs_mem _ _ _ _ (by decide) z hz)
        go_wp2_with fail
        go_ret2
        exact ⟨rfl, hb⟩

end Go.Proofs.Ytkfgkoiinjhgnaa
