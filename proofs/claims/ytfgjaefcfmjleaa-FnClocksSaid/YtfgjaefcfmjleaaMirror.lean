import Derived.Test.YtfgjaefcfmjleaaReverse
import Derived.Test.YtfgjaefcfmjleaaNumber
namespace Go.Proofs.Ytfgjaefcfmjleaa
open Go.RowKit

/-! ## moved, l2Moved; mirrored, turned; backwards; MirrorTime, TurnTime -/
def pM : List Nat := [0, 5, 4, 3, 2, 1, 6]
def pT : List Nat := [3, 4, 5, 0, 1, 2, 6]
def mvTo (p : List Nat) (c : Int) : Nat → Int
  | 0 => 0
  | k+1 => bits .or .i64 (mvTo p c k) (bits .and .i64 (c / 2 ^ k) 1 * 2 ^ (p.getD k 0))
def mwTo (p : List Nat) (c : Int) : Nat → Int
  | 0 => 0
  | k+1 => bits .or .i64 (mwTo p c k) (bits .and .i64 (c / 2 ^ (p.getD k 0)) 1 * 2 ^ k)
def mirT (c : Int) : Int := mvTo pM c 7
def turT (c : Int) : Int := mvTo pT c 7
theorem mirT_law {c : Int} (h0 : 0 ≤ c) (h1 : c ≤ 127) : mwTo pM c 7 = mirT c ∧ 0 ≤ mirT c ∧ mirT c ≤ 127 := by
  obtain ⟨n, rfl⟩ := fin128 h0 h1
  clear h0 h1
  revert n
  decide +kernel
theorem turT_law {c : Int} (h0 : 0 ≤ c) (h1 : c ≤ 127) : mwTo pT c 7 = turT c ∧ 0 ≤ turT c ∧ turT c ≤ 127 := by
  obtain ⟨n, rfl⟩ := fin128 h0 h1
  clear h0 h1
  revert n
  decide +kernel


set_option maxHeartbeats 4000000 in
theorem movedM_any (c : Int) (w : World) (h0 : 0 ≤ c) (h1 : c ≤ 127) :
    Calls Try.prog 229 #[.int .i64 c, .agg #[.int .i64 0, .int .i64 5, .int .i64 4, .int .i64 3, .int .i64 2, .int .i64 1, .int .i64 6]] w fun e w' => e = .returned (.int .i64 (mirT c)) ∧ Below w.heap.size w w' := by
  go_enter Try.func229, Try.ntmps229
  go_wp2
  go_loop [5, 6, 7, 9] (fun oo _ _ ii => ∃ k : Nat, k ≤ 7 ∧ ii = .int .i64 k ∧ oo = .int .i64 (mvTo pM c k)) (fun _ _ _ ii => 7 - (intOf ii).toNat)
  case atStart => exact ⟨0, by omega, rfl, rfl⟩
  case round =>
    obtain ⟨k, hk, rfl, rfl⟩ := hrel
    by_cases hlt : k < 7
    · have hb := bit_range h0 h1 hlt
      have HS := hid (show mvTo pM c (k+1) = bits .or .i64 (mvTo pM c k) (bits .and .i64 (c / 2 ^ k) 1 * 2 ^ (pM.getD k 0)) from rfl)
      generalize mvTo pM c k = m at HS
      rcases (show k = 0 ∨ k = 1 ∨ k = 2 ∨ k = 3 ∨ k = 4 ∨ k = 5 ∨ k = 6 by omega) with rfl | rfl | rfl | rfl | rfl | rfl | rfl
      · have hb : 0 ≤ bits .and .i64 c 1 ∧ bits .and .i64 c 1 ≤ 1 := by simpa using bit_range h0 h1 (k := 0) (by omega)
        have hidx : ∀ w : World, (Instr.index 71 (.agg #[.int .i64 0, .int .i64 5, .int .i64 4, .int .i64 3, .int .i64 2, .int .i64 1, .int .i64 6]) (.int .i64 0)).run Try.prog w = .ok (.int .i64 0) w := fun w => by kernel_rfl
        go_wp2
        go_round
        case rel => exact ⟨1, by omega, by go_num, int_eq (by rw [HS.out]; simp [pM])⟩
        case measure => simp [intOf]
      · have hb : 0 ≤ bits .and .i64 (c / 2) 1 ∧ bits .and .i64 (c / 2) 1 ≤ 1 := by simpa using bit_range h0 h1 (k := 1) (by omega)
        have hidx : ∀ w : World, (Instr.index 71 (.agg #[.int .i64 0, .int .i64 5, .int .i64 4, .int .i64 3, .int .i64 2, .int .i64 1, .int .i64 6]) (.int .i64 1)).run Try.prog w = .ok (.int .i64 5) w := fun w => by kernel_rfl
        go_wp2
        go_round
        case rel => exact ⟨2, by omega, by go_num, int_eq (by rw [HS.out]; simp [pM])⟩
        case measure => simp [intOf]
      · have hb : 0 ≤ bits .and .i64 (c / 4) 1 ∧ bits .and .i64 (c / 4) 1 ≤ 1 := by simpa using bit_range h0 h1 (k := 2) (by omega)
        have hidx : ∀ w : World, (Instr.index 71 (.agg #[.int .i64 0, .int .i64 5, .int .i64 4, .int .i64 3, .int .i64 2, .int .i64 1, .int .i64 6]) (.int .i64 2)).run Try.prog w = .ok (.int .i64 4) w := fun w => by kernel_rfl
        go_wp2
        go_round
        case rel => exact ⟨3, by omega, by go_num, int_eq (by rw [HS.out]; simp [pM])⟩
        case measure => simp [intOf]
      · have hb : 0 ≤ bits .and .i64 (c / 8) 1 ∧ bits .and .i64 (c / 8) 1 ≤ 1 := by simpa using bit_range h0 h1 (k := 3) (by omega)
        have hidx : ∀ w : World, (Instr.index 71 (.agg #[.int .i64 0, .int .i64 5, .int .i64 4, .int .i64 3, .int .i64 2, .int .i64 1, .int .i64 6]) (.int .i64 3)).run Try.prog w = .ok (.int .i64 3) w := fun w => by kernel_rfl
        go_wp2
        go_round
        case rel => exact ⟨4, by omega, by go_num, int_eq (by rw [HS.out]; simp [pM])⟩
        case measure => simp [intOf]
      · have hb : 0 ≤ bits .and .i64 (c / 16) 1 ∧ bits .and .i64 (c / 16) 1 ≤ 1 := by simpa using bit_range h0 h1 (k := 4) (by omega)
        have hidx : ∀ w : World, (Instr.index 71 (.agg #[.int .i64 0, .int .i64 5, .int .i64 4, .int .i64 3, .int .i64 2, .int .i64 1, .int .i64 6]) (.int .i64 4)).run Try.prog w = .ok (.int .i64 2) w := fun w => by kernel_rfl
        go_wp2
        go_round
        case rel => exact ⟨5, by omega, by go_num, int_eq (by rw [HS.out]; simp [pM])⟩
        case measure => simp [intOf]
      · have hb : 0 ≤ bits .and .i64 (c / 32) 1 ∧ bits .and .i64 (c / 32) 1 ≤ 1 := by simpa using bit_range h0 h1 (k := 5) (by omega)
        have hidx : ∀ w : World, (Instr.index 71 (.agg #[.int .i64 0, .int .i64 5, .int .i64 4, .int .i64 3, .int .i64 2, .int .i64 1, .int .i64 6]) (.int .i64 5)).run Try.prog w = .ok (.int .i64 1) w := fun w => by kernel_rfl
        go_wp2
        go_round
        case rel => exact ⟨6, by omega, by go_num, int_eq (by rw [HS.out]; simp [pM])⟩
        case measure => simp [intOf]
      · have hb : 0 ≤ bits .and .i64 (c / 64) 1 ∧ bits .and .i64 (c / 64) 1 ≤ 1 := by simpa using bit_range h0 h1 (k := 6) (by omega)
        have hidx : ∀ w : World, (Instr.index 71 (.agg #[.int .i64 0, .int .i64 5, .int .i64 4, .int .i64 3, .int .i64 2, .int .i64 1, .int .i64 6]) (.int .i64 6)).run Try.prog w = .ok (.int .i64 6) w := fun w => by kernel_rfl
        go_wp2
        go_round
        case rel => exact ⟨7, by omega, by go_num, int_eq (by rw [HS.out]; simp [pM])⟩
        case measure => simp [intOf]
    · obtain rfl : k = 7 := by omega
      go_wp2
      go_ret
      exact ⟨rfl, (Below.refl _ _).alloc (Nat.le_refl _) _⟩


set_option maxHeartbeats 4000000 in
theorem movedT_any (c : Int) (w : World) (h0 : 0 ≤ c) (h1 : c ≤ 127) :
    Calls Try.prog 229 #[.int .i64 c, .agg #[.int .i64 3, .int .i64 4, .int .i64 5, .int .i64 0, .int .i64 1, .int .i64 2, .int .i64 6]] w fun e w' => e = .returned (.int .i64 (turT c)) ∧ Below w.heap.size w w' := by
  go_enter Try.func229, Try.ntmps229
  go_wp2
  go_loop [5, 6, 7, 9] (fun oo _ _ ii => ∃ k : Nat, k ≤ 7 ∧ ii = .int .i64 k ∧ oo = .int .i64 (mvTo pT c k)) (fun _ _ _ ii => 7 - (intOf ii).toNat)
  case atStart => exact ⟨0, by omega, rfl, rfl⟩
  case round =>
    obtain ⟨k, hk, rfl, rfl⟩ := hrel
    by_cases hlt : k < 7
    · have hb := bit_range h0 h1 hlt
      have HS := hid (show mvTo pT c (k+1) = bits .or .i64 (mvTo pT c k) (bits .and .i64 (c / 2 ^ k) 1 * 2 ^ (pT.getD k 0)) from rfl)
      generalize mvTo pT c k = m at HS
      rcases (show k = 0 ∨ k = 1 ∨ k = 2 ∨ k = 3 ∨ k = 4 ∨ k = 5 ∨ k = 6 by omega) with rfl | rfl | rfl | rfl | rfl | rfl | rfl
      · have hb : 0 ≤ bits .and .i64 c 1 ∧ bits .and .i64 c 1 ≤ 1 := by simpa using bit_range h0 h1 (k := 0) (by omega)
        have hidx : ∀ w : World, (Instr.index 71 (.agg #[.int .i64 3, .int .i64 4, .int .i64 5, .int .i64 0, .int .i64 1, .int .i64 2, .int .i64 6]) (.int .i64 0)).run Try.prog w = .ok (.int .i64 3) w := fun w => by kernel_rfl
        go_wp2
        go_round
        case rel => exact ⟨1, by omega, by go_num, int_eq (by rw [HS.out]; simp [pT])⟩
        case measure => simp [intOf]
      · have hb : 0 ≤ bits .and .i64 (c / 2) 1 ∧ bits .and .i64 (c / 2) 1 ≤ 1 := by simpa using bit_range h0 h1 (k := 1) (by omega)
        have hidx : ∀ w : World, (Instr.index 71 (.agg #[.int .i64 3, .int .i64 4, .int .i64 5, .int .i64 0, .int .i64 1, .int .i64 2, .int .i64 6]) (.int .i64 1)).run Try.prog w = .ok (.int .i64 4) w := fun w => by kernel_rfl
        go_wp2
        go_round
        case rel => exact ⟨2, by omega, by go_num, int_eq (by rw [HS.out]; simp [pT])⟩
        case measure => simp [intOf]
      · have hb : 0 ≤ bits .and .i64 (c / 4) 1 ∧ bits .and .i64 (c / 4) 1 ≤ 1 := by simpa using bit_range h0 h1 (k := 2) (by omega)
        have hidx : ∀ w : World, (Instr.index 71 (.agg #[.int .i64 3, .int .i64 4, .int .i64 5, .int .i64 0, .int .i64 1, .int .i64 2, .int .i64 6]) (.int .i64 2)).run Try.prog w = .ok (.int .i64 5) w := fun w => by kernel_rfl
        go_wp2
        go_round
        case rel => exact ⟨3, by omega, by go_num, int_eq (by rw [HS.out]; simp [pT])⟩
        case measure => simp [intOf]
      · have hb : 0 ≤ bits .and .i64 (c / 8) 1 ∧ bits .and .i64 (c / 8) 1 ≤ 1 := by simpa using bit_range h0 h1 (k := 3) (by omega)
        have hidx : ∀ w : World, (Instr.index 71 (.agg #[.int .i64 3, .int .i64 4, .int .i64 5, .int .i64 0, .int .i64 1, .int .i64 2, .int .i64 6]) (.int .i64 3)).run Try.prog w = .ok (.int .i64 0) w := fun w => by kernel_rfl
        go_wp2
        go_round
        case rel => exact ⟨4, by omega, by go_num, int_eq (by rw [HS.out]; simp [pT])⟩
        case measure => simp [intOf]
      · have hb : 0 ≤ bits .and .i64 (c / 16) 1 ∧ bits .and .i64 (c / 16) 1 ≤ 1 := by simpa using bit_range h0 h1 (k := 4) (by omega)
        have hidx : ∀ w : World, (Instr.index 71 (.agg #[.int .i64 3, .int .i64 4, .int .i64 5, .int .i64 0, .int .i64 1, .int .i64 2, .int .i64 6]) (.int .i64 4)).run Try.prog w = .ok (.int .i64 1) w := fun w => by kernel_rfl
        go_wp2
        go_round
        case rel => exact ⟨5, by omega, by go_num, int_eq (by rw [HS.out]; simp [pT])⟩
        case measure => simp [intOf]
      · have hb : 0 ≤ bits .and .i64 (c / 32) 1 ∧ bits .and .i64 (c / 32) 1 ≤ 1 := by simpa using bit_range h0 h1 (k := 5) (by omega)
        have hidx : ∀ w : World, (Instr.index 71 (.agg #[.int .i64 3, .int .i64 4, .int .i64 5, .int .i64 0, .int .i64 1, .int .i64 2, .int .i64 6]) (.int .i64 5)).run Try.prog w = .ok (.int .i64 2) w := fun w => by kernel_rfl
        go_wp2
        go_round
        case rel => exact ⟨6, by omega, by go_num, int_eq (by rw [HS.out]; simp [pT])⟩
        case measure => simp [intOf]
      · have hb : 0 ≤ bits .and .i64 (c / 64) 1 ∧ bits .and .i64 (c / 64) 1 ≤ 1 := by simpa using bit_range h0 h1 (k := 6) (by omega)
        have hidx : ∀ w : World, (Instr.index 71 (.agg #[.int .i64 3, .int .i64 4, .int .i64 5, .int .i64 0, .int .i64 1, .int .i64 2, .int .i64 6]) (.int .i64 6)).run Try.prog w = .ok (.int .i64 6) w := fun w => by kernel_rfl
        go_wp2
        go_round
        case rel => exact ⟨7, by omega, by go_num, int_eq (by rw [HS.out]; simp [pT])⟩
        case measure => simp [intOf]
    · obtain rfl : k = 7 := by omega
      go_wp2
      go_ret
      exact ⟨rfl, (Below.refl _ _).alloc (Nat.le_refl _) _⟩


set_option maxHeartbeats 1000000 in
theorem mirrored_any (c : Int) (w : World) (h0 : 0 ≤ c) (h1 : c ≤ 127) :
    Calls Try.prog 179 #[.int .i64 c] w fun e w' => e = .returned (.int .i64 (mirT c)) ∧ Below w.heap.size w w' := by
  go_enter Try.func179, Try.ntmps179
  go_wp2_with (go_at_call 229; refine (movedM_any _ _ h0 h1).mono ?_; rintro e w1 ⟨rfl, hb⟩)
  go_ret
  exact ⟨rfl, hb⟩
theorem enter_mirrored (args : Array Value) (w : World) : (callFunc 179 args).run Try.prog w = .ok (.enter 179 args) w := by kernel_rfl

set_option maxHeartbeats 4000000 in
theorem l2MovedM_any (c : Int) (b : Nat) (w : World) (h0 : 0 ≤ c) (h1 : c ≤ 127) (hc : ∀ i, i < 7 → w.cell? ⟨b, i, none⟩ = some (.int .i64 ((pM.getD i 0 : Nat) : Int))) :
    Calls Try.prog 259 #[.int .i64 c, .slice (some ⟨b, 0, none⟩) 7 7] w fun e w' => e = .returned (.int .i64 (mirT c)) ∧ w = w' := by
  have HR := hid (mirT_law h0 h1).1
  go_enter Try.func259, Try.ntmps259
  go_wp2
  go_loop [5, 6] (fun oo ii => ∃ k : Nat, k ≤ 7 ∧ ii = .int .i64 k ∧ oo = .int .i64 (mwTo pM c k)) (fun _ ii => 7 - (intOf ii).toNat)
  case atStart => exact ⟨0, by omega, rfl, rfl⟩
  case round =>
    obtain ⟨k, hk, rfl, rfl⟩ := hrel
    by_cases hlt : k < 7
    · have HS := hid (show mwTo pM c (k+1) = bits .or .i64 (mwTo pM c k) (bits .and .i64 (c / 2 ^ (pM.getD k 0)) 1 * 2 ^ k) from rfl)
      have e1 := hc k hlt
      clear hc
      generalize mwTo pM c k = m at HS
      rcases (show k = 0 ∨ k = 1 ∨ k = 2 ∨ k = 3 ∨ k = 4 ∨ k = 5 ∨ k = 6 by omega) with rfl | rfl | rfl | rfl | rfl | rfl | rfl
      · have hb : 0 ≤ bits .and .i64 c 1 ∧ bits .and .i64 c 1 ≤ 1 := by simpa using bit_range h0 h1 (k := 0) (by omega)
        have e2 : w.cell? ⟨b, 0, none⟩ = some (.int .i64 0) := e1
        clear e1
        go_wp2
        go_round
        case rel => exact ⟨1, by omega, by go_num, int_eq (by rw [HS.out]; simp [pM])⟩
        case measure => simp [intOf]
      · have hb : 0 ≤ bits .and .i64 (c / 32) 1 ∧ bits .and .i64 (c / 32) 1 ≤ 1 := by simpa using bit_range h0 h1 (k := 5) (by omega)
        have e2 : w.cell? ⟨b, 1, none⟩ = some (.int .i64 5) := e1
        clear e1
        go_wp2
        go_round
        case rel => exact ⟨2, by omega, by go_num, int_eq (by rw [HS.out]; simp [pM])⟩
        case measure => simp [intOf]
      · have hb : 0 ≤ bits .and .i64 (c / 16) 1 ∧ bits .and .i64 (c / 16) 1 ≤ 1 := by simpa using bit_range h0 h1 (k := 4) (by omega)
        have e2 : w.cell? ⟨b, 2, none⟩ = some (.int .i64 4) := e1
        clear e1
        go_wp2
        go_round
        case rel => exact ⟨3, by omega, by go_num, int_eq (by rw [HS.out]; simp [pM])⟩
        case measure => simp [intOf]
      · have hb : 0 ≤ bits .and .i64 (c / 8) 1 ∧ bits .and .i64 (c / 8) 1 ≤ 1 := by simpa using bit_range h0 h1 (k := 3) (by omega)
        have e2 : w.cell? ⟨b, 3, none⟩ = some (.int .i64 3) := e1
        clear e1
        go_wp2
        go_round
        case rel => exact ⟨4, by omega, by go_num, int_eq (by rw [HS.out]; simp [pM])⟩
        case measure => simp [intOf]
      · have hb : 0 ≤ bits .and .i64 (c / 4) 1 ∧ bits .and .i64 (c / 4) 1 ≤ 1 := by simpa using bit_range h0 h1 (k := 2) (by omega)
        have e2 : w.cell? ⟨b, 4, none⟩ = some (.int .i64 2) := e1
        clear e1
        go_wp2
        go_round
        case rel => exact ⟨5, by omega, by go_num, int_eq (by rw [HS.out]; simp [pM])⟩
        case measure => simp [intOf]
      · have hb : 0 ≤ bits .and .i64 (c / 2) 1 ∧ bits .and .i64 (c / 2) 1 ≤ 1 := by simpa using bit_range h0 h1 (k := 1) (by omega)
        have e2 : w.cell? ⟨b, 5, none⟩ = some (.int .i64 1) := e1
        clear e1
        go_wp2
        go_round
        case rel => exact ⟨6, by omega, by go_num, int_eq (by rw [HS.out]; simp [pM])⟩
        case measure => simp [intOf]
      · have hb : 0 ≤ bits .and .i64 (c / 64) 1 ∧ bits .and .i64 (c / 64) 1 ≤ 1 := by simpa using bit_range h0 h1 (k := 6) (by omega)
        have e2 : w.cell? ⟨b, 6, none⟩ = some (.int .i64 6) := e1
        clear e1
        go_wp2
        go_round
        case rel => exact ⟨7, by omega, by go_num, int_eq (by rw [HS.out]; simp [pM])⟩
        case measure => simp [intOf]
    · obtain rfl : k = 7 := by omega
      go_wp2
      go_ret
      exact ⟨ret_int HR.out, rfl⟩

set_option maxHeartbeats 1000000 in
theorem l2Mirror_any (c : Int) (w : World) (h0 : 0 ≤ c) (h1 : c ≤ 127) :
    Calls Try.prog 248 #[.int .i64 c] w fun e w' => e = .returned (.int .i64 (mirT c)) ∧ Below w.heap.size w w' := by
  have HC : Hid (∀ i, i < 7 → (w.alloc (.cells #[.int .i64 0, .int .i64 5, .int .i64 4, .int .i64 3, .int .i64 2, .int .i64 1, .int .i64 6] 3)).cell? ⟨w.heap.size, i, none⟩ = some (.int .i64 ((pM.getD i 0 : Nat) : Int))) := by
    refine hid fun i hi => ?_
    rcases (show i = 0 ∨ i = 1 ∨ i = 2 ∨ i = 3 ∨ i = 4 ∨ i = 5 ∨ i = 6 by omega) with rfl | rfl | rfl | rfl | rfl | rfl | rfl <;> simp [go_sem, pM]
  go_enter Try.func248, Try.ntmps248
  go_wp2_with fail
  refine (l2MovedM_any c _ _ h0 h1 HC.out).mono ?_
  rintro e w1 ⟨rfl, rfl⟩
  go_wp2
  go_ret
  exact ⟨rfl, (Below.refl _ _).alloc (Nat.le_refl _) _⟩


set_option maxHeartbeats 1000000 in
theorem turned_any (c : Int) (w : World) (h0 : 0 ≤ c) (h1 : c ≤ 127) :
    Calls Try.prog 181 #[.int .i64 c] w fun e w' => e = .returned (.int .i64 (turT c)) ∧ Below w.heap.size w w' := by
  go_enter Try.func181, Try.ntmps181
  go_wp2_with (go_at_call 229; refine (movedT_any _ _ h0 h1).mono ?_; rintro e w1 ⟨rfl, hb⟩)
  go_ret
  exact ⟨rfl, hb⟩
theorem enter_turned (args : Array Value) (w : World) : (callFunc 181 args).run Try.prog w = .ok (.enter 181 args) w := by kernel_rfl

set_option maxHeartbeats 4000000 in
theorem l2MovedT_any (c : Int) (b : Nat) (w : World) (h0 : 0 ≤ c) (h1 : c ≤ 127) (hc : ∀ i, i < 7 → w.cell? ⟨b, i, none⟩ = some (.int .i64 ((pT.getD i 0 : Nat) : Int))) :
    Calls Try.prog 259 #[.int .i64 c, .slice (some ⟨b, 0, none⟩) 7 7] w fun e w' => e = .returned (.int .i64 (turT c)) ∧ w = w' := by
  have HR := hid (turT_law h0 h1).1
  go_enter Try.func259, Try.ntmps259
  go_wp2
  go_loop [5, 6] (fun oo ii => ∃ k : Nat, k ≤ 7 ∧ ii = .int .i64 k ∧ oo = .int .i64 (mwTo pT c k)) (fun _ ii => 7 - (intOf ii).toNat)
  case atStart => exact ⟨0, by omega, rfl, rfl⟩
  case round =>
    obtain ⟨k, hk, rfl, rfl⟩ := hrel
    by_cases hlt : k < 7
    · have HS := hid (show mwTo pT c (k+1) = bits .or .i64 (mwTo pT c k) (bits .and .i64 (c / 2 ^ (pT.getD k 0)) 1 * 2 ^ k) from rfl)
      have e1 := hc k hlt
      clear hc
      generalize mwTo pT c k = m at HS
      rcases (show k = 0 ∨ k = 1 ∨ k = 2 ∨ k = 3 ∨ k = 4 ∨ k = 5 ∨ k = 6 by omega) with rfl | rfl | rfl | rfl | rfl | rfl | rfl
      · have hb : 0 ≤ bits .and .i64 (c / 8) 1 ∧ bits .and .i64 (c / 8) 1 ≤ 1 := by simpa using bit_range h0 h1 (k := 3) (by omega)
        have e2 : w.cell? ⟨b, 0, none⟩ = some (.int .i64 3) := e1
        clear e1
        go_wp2
        go_round
        case rel => exact ⟨1, by omega, by go_num, int_eq (by rw [HS.out]; simp [pT])⟩
        case measure => simp [intOf]
      · have hb : 0 ≤ bits .and .i64 (c / 16) 1 ∧ bits .and .i64 (c / 16) 1 ≤ 1 := by simpa using bit_range h0 h1 (k := 4) (by omega)
        have e2 : w.cell? ⟨b, 1, none⟩ = some (.int .i64 4) := e1
        clear e1
        go_wp2
        go_round
        case rel => exact ⟨2, by omega, by go_num, int_eq (by rw [HS.out]; simp [pT])⟩
        case measure => simp [intOf]
      · have hb : 0 ≤ bits .and .i64 (c / 32) 1 ∧ bits .and .i64 (c / 32) 1 ≤ 1 := by simpa using bit_range h0 h1 (k := 5) (by omega)
        have e2 : w.cell? ⟨b, 2, none⟩ = some (.int .i64 5) := e1
        clear e1
        go_wp2
        go_round
        case rel => exact ⟨3, by omega, by go_num, int_eq (by rw [HS.out]; simp [pT])⟩
        case measure => simp [intOf]
      · have hb : 0 ≤ bits .and .i64 c 1 ∧ bits .and .i64 c 1 ≤ 1 := by simpa using bit_range h0 h1 (k := 0) (by omega)
        have e2 : w.cell? ⟨b, 3, none⟩ = some (.int .i64 0) := e1
        clear e1
        go_wp2
        go_round
        case rel => exact ⟨4, by omega, by go_num, int_eq (by rw [HS.out]; simp [pT])⟩
        case measure => simp [intOf]
      · have hb : 0 ≤ bits .and .i64 (c / 2) 1 ∧ bits .and .i64 (c / 2) 1 ≤ 1 := by simpa using bit_range h0 h1 (k := 1) (by omega)
        have e2 : w.cell? ⟨b, 4, none⟩ = some (.int .i64 1) := e1
        clear e1
        go_wp2
        go_round
        case rel => exact ⟨5, by omega, by go_num, int_eq (by rw [HS.out]; simp [pT])⟩
        case measure => simp [intOf]
      · have hb : 0 ≤ bits .and .i64 (c / 4) 1 ∧ bits .and .i64 (c / 4) 1 ≤ 1 := by simpa using bit_range h0 h1 (k := 2) (by omega)
        have e2 : w.cell? ⟨b, 5, none⟩ = some (.int .i64 2) := e1
        clear e1
        go_wp2
        go_round
        case rel => exact ⟨6, by omega, by go_num, int_eq (by rw [HS.out]; simp [pT])⟩
        case measure => simp [intOf]
      · have hb : 0 ≤ bits .and .i64 (c / 64) 1 ∧ bits .and .i64 (c / 64) 1 ≤ 1 := by simpa using bit_range h0 h1 (k := 6) (by omega)
        have e2 : w.cell? ⟨b, 6, none⟩ = some (.int .i64 6) := e1
        clear e1
        go_wp2
        go_round
        case rel => exact ⟨7, by omega, by go_num, int_eq (by rw [HS.out]; simp [pT])⟩
        case measure => simp [intOf]
    · obtain rfl : k = 7 := by omega
      go_wp2
      go_ret
      exact ⟨ret_int HR.out, rfl⟩

set_option maxHeartbeats 1000000 in
theorem l2Turn_any (c : Int) (w : World) (h0 : 0 ≤ c) (h1 : c ≤ 127) :
    Calls Try.prog 249 #[.int .i64 c] w fun e w' => e = .returned (.int .i64 (turT c)) ∧ Below w.heap.size w w' := by
  have HC : Hid (∀ i, i < 7 → (w.alloc (.cells #[.int .i64 3, .int .i64 4, .int .i64 5, .int .i64 0, .int .i64 1, .int .i64 2, .int .i64 6] 3)).cell? ⟨w.heap.size, i, none⟩ = some (.int .i64 ((pT.getD i 0 : Nat) : Int))) := by
    refine hid fun i hi => ?_
    rcases (show i = 0 ∨ i = 1 ∨ i = 2 ∨ i = 3 ∨ i = 4 ∨ i = 5 ∨ i = 6 by omega) with rfl | rfl | rfl | rfl | rfl | rfl | rfl <;> simp [go_sem, pT]
  go_enter Try.func249, Try.ntmps249
  go_wp2_with fail
  refine (l2MovedT_any c _ _ h0 h1 HC.out).mono ?_
  rintro e w1 ⟨rfl, rfl⟩
  go_wp2
  go_ret
  exact ⟨rfl, (Below.refl _ _).alloc (Nat.le_refl _) _⟩

end Go.Proofs.Ytfgjaefcfmjleaa