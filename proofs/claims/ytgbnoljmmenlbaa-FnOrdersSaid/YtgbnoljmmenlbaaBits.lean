import Derived.Test.YtgbnoljmmenlbaaNums
namespace Go.Proofs.Ytgbnoljmmenlbaa
open Go.RowKit

/-! ## Bits of cells: count, l2Count, l2Far -/
def xorI (a b : Int) : Int := bits .xor .i64 a b
def cntI (c : Int) : Int := ((List.range 7).filter fun i => c.toNat.testBit i).length
def cntTo (c : Int) (k : Nat) : Int := ((List.range k).filter fun i => c.toNat.testBit i).length
def farI (a b : Int) : Int := cntI (xorI a b)

theorem fin128 {x : Int} (h0 : 0 ≤ x) (h1 : x ≤ 127) : ∃ n : Fin 128, x = ((n : Nat) : Int) := ⟨⟨x.toNat, by omega⟩, by simp; omega⟩

theorem xorI_nat (a b : Nat) (ha : a < 128) (hb : b < 128) : xorI a b = ((a ^^^ b : Nat) : Int) := by
  have h : a ^^^ b < 128 := Nat.xor_lt_two_pow (n := 7) ha hb
  have e1 : (BitVec.ofInt 64 (a : Int)) = BitVec.ofNat 64 a := by simp
  have e2 : (BitVec.ofInt 64 (b : Int)) = BitVec.ofNat 64 b := by simp
  show IntKind.i64.wrap (((BitVec.ofInt 64 (a : Int)) ^^^ (BitVec.ofInt 64 (b : Int))).toNat : Int) = _
  rw [e1, e2, BitVec.toNat_xor, BitVec.toNat_ofNat, BitVec.toNat_ofNat]
  rw [Nat.mod_eq_of_lt (by omega), Nat.mod_eq_of_lt (by omega)]
  exact IntWalk.i64_in _ (by omega)
theorem xorI_range {a b : Int} (h0 : 0 ≤ a) (h1 : a ≤ 127) (h2 : 0 ≤ b) (h3 : b ≤ 127) : 0 ≤ xorI a b ∧ xorI a b ≤ 127 := by
  obtain ⟨m, rfl⟩ := fin128 h0 h1
  obtain ⟨n, rfl⟩ := fin128 h2 h3
  rw [xorI_nat _ _ m.2 n.2]
  have := Nat.xor_lt_two_pow (n := 7) m.2 n.2
  omega
theorem xorI_comm (a b : Int) : xorI a b = xorI b a := by
  unfold xorI bits
  simp only [BitVec.xor_comm]
theorem farI_comm (a b : Int) : farI a b = farI b a := by unfold farI; rw [xorI_comm]
theorem cntI_range (c : Int) : 0 ≤ cntI c ∧ cntI c ≤ 7 := by
  unfold cntI
  have := List.length_filter_le (fun i => c.toNat.testBit i) (List.range 7)
  simp only [List.length_range] at this
  omega
theorem farI_range (a b : Int) : 0 ≤ farI a b ∧ farI a b ≤ 7 := cntI_range _
theorem cntI_pos {c : Int} (h0 : 0 < c) (h1 : c ≤ 127) : 0 < cntI c := by
  obtain ⟨n, rfl⟩ := fin128 (Int.le_of_lt h0) h1
  clear h1
  revert n
  decide +kernel
theorem farI_pos {a b : Int} (h0 : 0 ≤ a) (h1 : a ≤ 127) (h2 : 0 ≤ b) (h3 : b ≤ 127) (h : a ≠ b) : 0 < farI a b := by
  have hr := xorI_range h0 h1 h2 h3
  refine cntI_pos ?_ hr.2
  obtain ⟨m, rfl⟩ := fin128 h0 h1
  obtain ⟨n, rfl⟩ := fin128 h2 h3
  rw [xorI_nat _ _ m.2 n.2] at hr ⊢
  rcases Nat.eq_zero_or_pos ((m : Nat) ^^^ (n : Nat)) with e | e
  · exact absurd (by have := congrArg (· ^^^ (n : Nat)) e; simp only [Nat.xor_assoc, Nat.xor_self, Nat.xor_zero, Nat.zero_xor] at this; rw [this]) h
  · omega
theorem cntTo_seven (c : Int) : cntTo c 7 = cntI c := rfl
theorem cntTo_le (c : Int) (k : Nat) : 0 ≤ cntTo c k ∧ cntTo c k ≤ k := by
  unfold cntTo
  have := List.length_filter_le (fun i => c.toNat.testBit i) (List.range k)
  simp only [List.length_range] at this
  omega
theorem cntTo_succ {c : Int} (h0 : 0 ≤ c) (h1 : c ≤ 127) {k : Nat} (hk : k < 7) : cntTo c (k+1) = cntTo c k + bits .and .i64 (c / 2 ^ k) 1 := by
  obtain ⟨n, rfl⟩ := fin128 h0 h1
  clear h0 h1
  obtain ⟨j, rfl⟩ : ∃ j : Fin 7, k = (j : Nat) := ⟨⟨k, hk⟩, rfl⟩
  clear hk
  revert n j
  decide +kernel
theorem bit_range {c : Int} (h0 : 0 ≤ c) (h1 : c ≤ 127) {k : Nat} (hk : k < 7) : 0 ≤ bits .and .i64 (c / 2 ^ k) 1 ∧ bits .and .i64 (c / 2 ^ k) 1 ≤ 1 := by
  obtain ⟨n, rfl⟩ := fin128 h0 h1
  clear h0 h1
  obtain ⟨j, rfl⟩ : ∃ j : Fin 7, k = (j : Nat) := ⟨⟨k, hk⟩, rfl⟩
  clear hk
  revert n j
  decide +kernel

set_option maxHeartbeats 1000000 in
theorem OnesCount64_any (x : Int) (w : World) (h0 : 0 ≤ x) (h1 : x ≤ 127) :
    Calls Try.prog 61 #[.int .u64 x] w fun e w' => e = .returned (.int .i64 (cntI x)) ∧ w = w' := by
  go_enter Try.func61, Try.ntmps61
  go_wp2
  go_ret
  refine ⟨ret_int ?_, rfl⟩
  obtain ⟨n, rfl⟩ := fin128 h0 h1
  clear h0 h1
  revert n
  decide +kernel

set_option maxHeartbeats 1000000 in
theorem OnesCount_any (x : Int) (w : World) (h0 : 0 ≤ x) (h1 : x ≤ 127) :
    Calls Try.prog 50 #[.int .u64 x] w fun e w' => e = .returned (.int .i64 (cntI x)) ∧ w = w' := by
  go_enter Try.func50, Try.ntmps50
  go_wp2_with (go_at_call 61; refine (OnesCount64_any _ _ h0 h1).mono ?_; rintro e w' ⟨rfl, rfl⟩)
  go_ret
  exact ⟨rfl, rfl⟩

set_option maxHeartbeats 1000000 in
theorem count_any (x : Int) (w : World) (h0 : 0 ≤ x) (h1 : x ≤ 127) :
    Calls Try.prog 36 #[.int .i64 x] w fun e w' => e = .returned (.int .i64 (cntI x)) ∧ w = w' := by
  go_enter Try.func36, Try.ntmps36
  go_wp2_with (go_at_call 50; refine (OnesCount_any _ _ h0 h1).mono ?_; rintro e w' ⟨rfl, rfl⟩)
  go_ret
  exact ⟨rfl, rfl⟩

set_option maxHeartbeats 1000000 in
theorem l2Count_any (x : Int) (w : World) (h0 : 0 ≤ x) (h1 : x ≤ 127) :
    Calls Try.prog 62 #[.int .i64 x] w fun e w' => e = .returned (.int .i64 (cntI x)) ∧ w = w' := by
  go_enter Try.func62, Try.ntmps62
  go_wp2
  go_loop [3, 4] (fun m i => ∃ k : Nat, k ≤ 7 ∧ i = .int .i64 k ∧ m = .int .i64 (cntTo x k)) (fun _ i => 7 - (intOf i).toNat)
  case atStart => exact ⟨0, by omega, rfl, rfl⟩
  case round =>
    obtain ⟨k, hk, rfl, rfl⟩ := hrel
    have hm := cntTo_le x k
    by_cases hlt : k < 7
    · have hb := bit_range h0 h1 hlt
      have HS := hid (cntTo_succ h0 h1 hlt)
      go_wp2
      go_round
      case rel => exact ⟨k+1, by omega, by go_num, by rw [HS.out]⟩
      case measure => simp [intOf]; omega
    · go_wp2
      go_ret
      obtain rfl : k = 7 := by omega
      exact ⟨rfl, rfl⟩

theorem l2Far_any (a b : Int) (w : World) (ha : 0 ≤ a ∧ a ≤ 127) (hb : 0 ≤ b ∧ b ≤ 127) :
    Calls Try.prog 51 #[.int .i64 a, .int .i64 b] w fun e w' => e = .returned (.int .i64 (farI a b)) ∧ w = w' := by
  have hr := xorI_range ha.1 ha.2 hb.1 hb.2
  go_enter Try.func51, Try.ntmps51
  go_wp2_with fail
  refine (l2Count_any (xorI a b) _ hr.1 hr.2).mono ?_
  rintro e w' ⟨rfl, rfl⟩
  go_wp2
  go_ret
  exact ⟨rfl, rfl⟩

end Go.Proofs.Ytgbnoljmmenlbaa
