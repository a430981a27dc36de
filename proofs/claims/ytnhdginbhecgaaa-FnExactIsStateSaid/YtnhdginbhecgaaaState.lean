import Derived.Test.YtnhdginbhecgaaaNums
namespace Go.Proofs.Ytnhdginbhecgaaa
open Go.RowKit

/-! ## IsState: the program's and the reference's, and the law -/
def stateB (bar kind : Int) : Bool := inB kind 0 2 && inB bar 0 6 && (kind != 0 || bar == 0)

set_option maxHeartbeats 1000000 in
theorem implIsState_any (bar kind : Int) (w : World) :
    Calls Try.prog 17 #[.agg #[.int .i64 bar, .int .i64 kind]] w fun e w' => e = .returned (.bool (stateB bar kind)) ∧ Below w.heap.size w w' := by
  cases h1 : inB kind 0 2 <;> cases h2 : inB bar 0 6 <;> cases h3 : (kind != 0) <;> cases h4 : (bar == 0)
  all_goals
    have hs : stateB bar kind = (inB kind 0 2 && inB bar 0 6 && (kind != 0 || bar == 0)) := rfl
    rw [h1, h2, h3, h4] at hs
    have HS := hid hs
    clear hs
    go_enter Try.func17, Try.ntmps17
    go_wp2_with (go_at_call 48; refine (within_any _ _ _ _).mono ?_; rintro e w' ⟨rfl, rfl⟩)
    go_ret
    exact ⟨ret_bool (by rw [HS.out]; rfl), (Below.refl _ _).alloc (Nat.le_refl _) _⟩

set_option maxHeartbeats 1000000 in
theorem l7State_any (bar kind : Int) (w : World) :
    Calls Try.prog 47 #[.agg #[.int .i64 bar, .int .i64 kind]] w fun e w' => e = .returned (.bool (stateB bar kind)) ∧ Below w.heap.size w w' := by
  cases h3 : (kind == 0)
  · cases h1 : inB kind 1 2 <;> cases h2 : inB bar 0 6
    all_goals
      have hs : stateB bar kind = (inB kind 1 2 && inB bar 0 6) := by
        have : kind ≠ 0 := by simpa using h3
        simp only [stateB, inB]
        rw [show (kind != 0) = true by simpa using this]
        by_cases hk : 0 ≤ kind <;> by_cases hk' : 1 ≤ kind <;> simp [hk, hk'] <;> omega
      rw [h1, h2] at hs
      have HS := hid hs
      clear hs
      go_enter Try.func47, Try.ntmps47
      go_wp2_with (go_at_call 52; refine (l1In_any _ _ _ _).mono ?_; rintro e w' ⟨rfl, rfl⟩)
      go_ret
      exact ⟨ret_bool (by rw [HS.out]; rfl), (Below.refl _ _).alloc (Nat.le_refl _) _⟩
  · have hs : (bar == 0) = stateB bar kind := by
      have : kind = 0 := by simpa using h3
      subst this
      by_cases hb : bar = 0
      · subst hb; rfl
      · simp [stateB, hb]
    have HS := hid hs
    clear hs
    go_enter Try.func47, Try.ntmps47
    go_wp2_with fail
    go_ret
    exact ⟨ret_bool HS.out, (Below.refl _ _).alloc (Nat.le_refl _) _⟩

theorem specIsState_any (bar kind : Int) (w : World) :
    Calls Try.prog 15 #[.agg #[.int .i64 bar, .int .i64 kind]] w fun e w' => e = .returned (.bool (stateB bar kind)) ∧ Below w.heap.size w w' := by
  go_enter Try.func15, Try.ntmps15
  go_wp2_with fail
  refine (l7State_any _ _ _).mono ?_
  rintro e w' ⟨rfl, hb⟩
  go_wp2
  go_ret
  exact ⟨rfl, ((Below.refl _ _).alloc (Nat.le_refl _) _).trans (hb.mono (by simp))⟩

set_option maxHeartbeats 1000000 in
theorem toState_any (bar kind : Int) (w : World) :
    Calls Try.prog 16 #[.agg #[.int .i64 bar, .int .i64 kind]] w fun e w' => e = .returned (.agg #[.int .i64 bar, .int .i64 kind]) ∧ Below w.heap.size w w' := by
  go_enter Try.func16, Try.ntmps16
  go_wp2
  refine bodyPost_ret (v := .agg #[.int .i64 bar, .int .i64 kind]) (by simp [results, Try.results16, go_sem]) rfl ⟨rfl, ?_⟩
  go_grown

set_option maxHeartbeats 1000000 in
theorem fnExactIsState_law (bar kind : Int) (w : World) :
    Calls Try.prog 3 #[.agg #[.int .i64 bar, .int .i64 kind]] w fun e w' => e = .returned (.bool true) ∧ Below w.heap.size w w' := by
  have hne : (stateB bar kind != stateB bar kind) = false := by simp
  go_enter Try.func3, Try.ntmps3
  go_wp2_with fail
  refine (toState_any _ _ _).mono ?_
  rintro e w1 ⟨rfl, hb1⟩
  go_wp2_with fail
  refine (specIsState_any _ _ _).mono ?_
  rintro e w2 ⟨rfl, hb2⟩
  have hsz : w.heap.size < (w.alloc (Obj.cells #[Value.int .i64 bar, Value.int .i64 kind] 23)).heap.size := by simp
  have c0 : w2.cell? ⟨w.heap.size, 0, none⟩ = some (.int .i64 bar) := by
    rw [hb2.cell (Nat.lt_of_lt_of_le hsz hb1.size), hb1.cell hsz]; simp [go_sem]
  have c1 : w2.cell? ⟨w.heap.size, 1, none⟩ = some (.int .i64 kind) := by
    rw [hb2.cell (Nat.lt_of_lt_of_le hsz hb1.size), hb1.cell hsz]; simp [go_sem]
  have HB := hid (((Below.refl w.heap.size w).alloc (Nat.le_refl _) (.cells #[Value.int .i64 bar, Value.int .i64 kind] 23)).trans ((hb1.mono (Nat.le_of_lt hsz)).trans (hb2.mono (Nat.le_trans (Nat.le_of_lt hsz) hb1.size))))
  clear hb1 hb2 hsz
  go_wp2_with fail
  refine (toState_any _ _ _).mono ?_
  rintro e w3 ⟨rfl, hb3⟩
  go_wp2_with fail
  refine (implIsState_any _ _ _).mono ?_
  rintro e w4 ⟨rfl, hb4⟩
  go_wp2
  go_ret
  exact ⟨rfl, HB.out.trans ((hb3.mono HB.out.size).trans (hb4.mono (Nat.le_trans HB.out.size hb3.size)))⟩

end Go.Proofs.Ytnhdginbhecgaaa
