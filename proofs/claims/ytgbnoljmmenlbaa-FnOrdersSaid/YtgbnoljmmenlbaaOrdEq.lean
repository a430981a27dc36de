/-
  OrdEq: what FnOrders compares: the two tables, the two shares; the digits' bars.
-/
import Derived.Test.YtgbnoljmmenlbaaShares2
import Derived.Test.YtgbnoljmmenlbaaNearD
import Derived.Test.YtgbnoljmmenlbaaVHelp
namespace Go.Proofs.Ytgbnoljmmenlbaa
open Go.RowKit

theorem neq_tab (w : World) : (binOp .neq 33 tabAgg tabAgg).run Try.prog w = .ok (.bool false) w := by kernel_rfl
theorem neq_sh (w : World) : (binOp .neq 35 shAgg shAgg).run Try.prog w = .ok (.bool false) w := neq_ints Try.underlying35 _ rfl w

theorem CellOf_any (d : Int) (w : World) (h : inB d 0 9 = true) : Calls Try.prog 20 #[.int .i64 d] w fun e w' => e = .returned (.tuple #[.int .i64 (digitC d), .bool true]) ∧ Below w.heap.size w w' := by
  have hidx : ∀ w' : World, (Instr.index 32 cellsAgg (.int .i64 d)).run Try.prog w' = .ok (.int .i64 (digitC d)) w' := fun w' => run_cells_index h w'
  have HCD : Hid (∀ w, Calls Try.prog 35 #[] w fun e w' => e = .returned cellsAgg ∧ Below w.heap.size w w') := hid digitCells_any
  generalize cellsAgg = CA at *
  go_enter Try.func20, Try.ntmps20
  go_wp2_with fail
  refine (isDigit_any _ _).mono ?_
  rintro e w0 ⟨rfl, rfl⟩
  rw [h]
  go_wp2_with fail
  refine (HCD.out _).mono ?_
  rintro e w1 ⟨rfl, hb⟩
  have HB := hid hb
  clear hb
  go_wp2
  go_ret2
  exact ⟨rfl, HB.out⟩

theorem CountBars_any (c : Int) (w : World) (h0 : 0 ≤ c) (h1 : c ≤ 127) : Calls Try.prog 21 #[.int .i64 c] w fun e w' => e = .returned (.tuple #[.int .i64 (cntI c), .bool true]) ∧ w = w' := by
  have hc : cellB c = true := by simp [cellB, inB, h0, h1]
  go_enter Try.func21, Try.ntmps21
  go_wp2_with fail
  refine (IsCell_any _ _).mono ?_
  rintro e w0 ⟨rfl, rfl⟩
  rw [hc]
  go_wp2_with fail
  refine (count_any _ _ h0 h1).mono ?_
  rintro e w1 ⟨rfl, rfl⟩
  go_wp2
  go_ret2
  exact ⟨rfl, rfl⟩

/-! ## the plain facts -/
theorem dd_table : ∀ a b : Fin 10, dd ((a : Nat) : Int) ((b : Nat) : Int) = dd ((b : Nat) : Int) ((a : Nat) : Int) ∧ (dd ((a : Nat) : Int) ((b : Nat) : Int) = 0 ↔ ((a : Nat) : Int) = ((b : Nat) : Int)) := by decide +kernel
theorem dd_sym {a b : Nat} (ha : a < 10) (hb : b < 10) : dd (a : Int) (b : Int) = dd (b : Int) (a : Int) := (dd_table ⟨a, ha⟩ ⟨b, hb⟩).1
theorem dd_zero {a b : Nat} (ha : a < 10) (hb : b < 10) : (dd (a : Int) (b : Int) == 0) = ((a : Int) == b) := by
  have := (dd_table ⟨a, ha⟩ ⟨b, hb⟩).2
  rw [Bool.eq_iff_iff]
  simp only [beq_iff_eq]
  exact this
theorem near_table : ∀ d b : Fin 10, ((b : Nat) : Int) = ((d : Nat) : Int) ∨ (¬ dd ((d : Nat) : Int) ((b : Nat) : Int) < (ndTo ((d : Nat) : Int) 10).2 ∧ (dd ((d : Nat) : Int) ((b : Nat) : Int) = (ndTo ((d : Nat) : Int) 10).2 ↔ ((b : Nat) : Int) ∈ (ndTo ((d : Nat) : Int) 10).1)) := by decide +kernel
theorem near_law {d : Int} (hd : inB d 0 9 = true) {b : Nat} (hb : b < 10) (hne : ¬ (b : Int) = d) : ¬ dd d b < (ndTo d 10).2 ∧ (dd d b == (ndTo d 10).2) = decide ((b : Int) ∈ (ndTo d 10).1) := by
  have h := inB_true hd
  obtain ⟨k, rfl⟩ : ∃ k : Nat, d = k := ⟨d.toNat, by omega⟩
  have ht := near_table ⟨k, by omega⟩ ⟨b, hb⟩
  simp only at ht
  rcases ht with e | ⟨h1, h2⟩
  · exact absurd e hne
  · refine ⟨h1, ?_⟩
    rw [Bool.eq_iff_iff]
    simpa using h2

/-- the bars of the first digits; what of all bars the first shares leave -/
def litTo (k : Nat) : Int := ((List.range k).map fun d : Nat => cntI (digitC (d : Int))).foldl (· + ·) 0
theorem litTo_succ (k : Nat) : litTo (k+1) = litTo k + cntI (digitC (k : Int)) := by
  unfold litTo
  rw [List.range_succ, List.map_append, List.foldl_append]
  rfl
theorem litTo_range : ∀ k, 0 ≤ litTo k ∧ litTo k ≤ 7 * k := by
  intro k
  induction k with
  | zero => simp [litTo]
  | succ k ih =>
    rw [litTo_succ]
    have := cntI_range (digitC (k : Int))
    omega
def litBack : Nat → Int
  | 0 => litTo 10
  | k+1 => litBack k - shC 10 k
theorem litBack_end : litBack 7 = 0 := by decide +kernel
theorem litBack_range : ∀ k, k ≤ 7 → -70 ≤ litBack k ∧ litBack k ≤ 70 := by
  have h : ∀ k : Fin 8, -70 ≤ litBack k ∧ litBack k ≤ 70 := by decide +kernel
  exact fun k hk => h ⟨k, by omega⟩
end Go.Proofs.Ytgbnoljmmenlbaa
