import Derived.Test.YtfgjaefcfmjleaaLit
namespace Go.Proofs.Ytfgjaefcfmjleaa
open Go.RowKit

/-! ## digitOf, l2DigitOf, NumberOf, l2NumberOf -/
def digs : List Int := [63, 6, 91, 79, 102, 109, 125, 7, 127, 111]
def dOf (c : Int) : Int := idxI digs c
theorem digs_get {d : Nat} (h : d < 10) : digs.getD d 0 = digitC (d : Int) := by
  rcases (show d = 0 ∨ d = 1 ∨ d = 2 ∨ d = 3 ∨ d = 4 ∨ d = 5 ∨ d = 6 ∨ d = 7 ∨ d = 8 ∨ d = 9 by omega) with rfl | rfl | rfl | rfl | rfl | rfl | rfl | rfl | rfl | rfl <;> rfl
theorem dOf_range (c : Int) : -1 ≤ dOf c ∧ dOf c ≤ 9 := by
  unfold dOf idxI
  split
  · rename_i h
    have := List.idxOf_lt_length_of_mem h
    simp only [digs, List.length_cons, List.length_nil] at this ⊢
    omega
  · omega

set_option maxHeartbeats 2000000 in
theorem digitOf_any (c : Int) (w : World) : Calls Try.prog 233 #[.int .i64 c] w fun e w' => e = .returned (.int .i64 (dOf c)) ∧ Below w.heap.size w w' := by
  go_enter Try.func233, Try.ntmps233
  go_wp2_with fail
  refine (digitCells_any _).mono ?_
  rintro e w1 ⟨rfl, hb⟩
  unfold cellsAgg
  have HD : Hid (Ints (w1.alloc (.cells #[.int .i64 63, .int .i64 6, .int .i64 91, .int .i64 79, .int .i64 102, .int .i64 109, .int .i64 125, .int .i64 7, .int .i64 127, .int .i64 111] 75)) (.slice (some ⟨w1.heap.size, 0, none⟩) 10 10) digs) := by
    refine hid ⟨some ⟨w1.heap.size, 0, none⟩, 10, w1.heap.size, 0, rfl, fun _ => ⟨rfl, by simp⟩, fun i hi => ?_, Nat.le_refl _, by omega⟩
    have hi' : i < 10 := hi
    rcases (show i = 0 ∨ i = 1 ∨ i = 2 ∨ i = 3 ∨ i = 4 ∨ i = 5 ∨ i = 6 ∨ i = 7 ∨ i = 8 ∨ i = 9 by omega) with rfl | rfl | rfl | rfl | rfl | rfl | rfl | rfl | rfl | rfl <;> simp [go_sem, digs]
  go_wp2_with fail
  refine (Index_any _ digs c _ HD.out).mono ?_
  rintro e w2 ⟨rfl, rfl⟩
  go_wp2
  go_ret
  exact ⟨rfl, hb.alloc hb.size _⟩

set_option maxHeartbeats 2000000 in
theorem l2DigitOf_any (c : Int) (w : World) : Calls Try.prog 250 #[.int .i64 c] w fun e w' => e = .returned (.int .i64 (dOf c)) ∧ Below w.heap.size w w' := by
  have HDO : Hid (dOf c = idxI digs c) := hid rfl
  go_enter Try.func250, Try.ntmps250
  go_wp2
  go_loopw [3] (fun dd wr => ∃ d : Nat, d ≤ 10 ∧ dd = .int .i64 d ∧ Hid (c ∉ digs.take d) ∧ Below w.heap.size w wr) (fun dd _ => 10 - (intOf dd).toNat)
  case atStart => exact ⟨0, by omega, rfl, hid (by simp), Below.refl _ _⟩
  case round =>
    obtain ⟨d, hd, rfl, HT, hbel⟩ := hrel
    by_cases hlt : d < 10
    · have hb9 := inB_mk (n := (d : Int)) (lo := 0) (hi := 9) (by omega) (by omega)
      have HG := hid (digs_get hlt)
      have hd0 : (0 : Int) ≤ d := by omega
      have hd1 : (d : Int) < 10 := by omega
      generalize hz : digitC (d : Int) = z at HG
      have HZ := hid hz
      clear hz
      cases hx : (z == c) with
      | true =>
        have HE := hid (show z = c by simpa using hx)
        have HI := hid (idxI_at (xs := digs) (v := c) (k := d) hlt HT.out (by rw [HG.out, HE.out]))
        go_wp2_with (go_at_call 150; refine (l2Digit_any _ _ hb9).mono ?_; rintro e w1 ⟨rfl, hb⟩; rw [HZ.out])
        go_ret
        exact ⟨ret_int (by rw [HDO.out, HI.out]), hbel.trans (hb.mono hbel.size)⟩
      | false =>
        have HE := hid (show z ≠ c by simpa using hx)
        have HN := hid (notMem_take_succ (xs := digs) (v := c) (k := d) HT.out hlt (by rw [HG.out]; exact HE.out))
        go_wp2_with (go_at_call 150; refine (l2Digit_any _ _ hb9).mono ?_; rintro e w1 ⟨rfl, hb⟩; rw [HZ.out])
        go_roundw
        case rel => exact ⟨d+1, by omega, by go_num, HN, hbel.trans (hb.mono hbel.size)⟩
        case measure => simp [intOf]; omega
    · obtain rfl : d = 10 := by omega
      have HI := hid (idxI_none (xs := digs) (v := c) HT.out)
      go_wp2
      go_ret
      exact ⟨ret_int (by rw [HDO.out, HI.out]), hbel⟩

def numTo (xs : List Int) : Nat → Int
  | 0 => 0
  | k+1 => 10 * numTo xs k + dOf (xs.getD k 0)
def digTo (xs : List Int) (n : Nat) : Prop := ∀ i, i < n → 0 ≤ dOf (xs.getD i 0)
instance (xs : List Int) (n : Nat) : Decidable (digTo xs n) := by unfold digTo; infer_instance
theorem digTo_zero (xs : List Int) : digTo xs 0 := fun i h => absurd h (Nat.not_lt_zero i)
theorem digTo_succ {xs : List Int} {n : Nat} (h : digTo xs n) (h1 : 0 ≤ dOf (xs.getD n 0)) : digTo xs (n+1) := by
  intro i hi
  rcases (show i < n ∨ i = n by omega) with h2 | rfl
  · exact h i h2
  · exact h1
theorem numTo_range {xs : List Int} : ∀ k, digTo xs k → 0 ≤ numTo xs k ∧ numTo xs k < 10 ^ k
  | 0, _ => by simp [numTo]
  | k+1, h => by
    have h1 := numTo_range k (fun i hi => h i (by omega))
    have h2 := h k (by omega)
    have h3 := dOf_range (xs.getD k 0)
    have h4 : (10 : Int) ^ (k+1) = 10 * 10 ^ k := by rw [Int.pow_succ]; omega
    simp only [numTo]
    rw [h4]
    omega
theorem ten_pow {k : Nat} (h : k ≤ 6) : (10 : Int) ^ k ≤ 1000000 := by
  rcases (show k = 0 ∨ k = 1 ∨ k = 2 ∨ k = 3 ∨ k = 4 ∨ k = 5 ∨ k = 6 by omega) with rfl | rfl | rfl | rfl | rfl | rfl | rfl <;> decide
/-- What l2NumberOf returns. -/
def numQ (xs : List Int) : Int × Bool := if digTo xs xs.length then (numTo xs xs.length, decide (0 < xs.length)) else (0, false)
theorem numQ_yes {xs : List Int} (h : digTo xs xs.length) : numQ xs = (numTo xs xs.length, decide (0 < xs.length)) := by simp [numQ, h]
theorem numQ_no {xs : List Int} {k : Nat} (hk : k < xs.length) (h : dOf (xs.getD k 0) < 0) : numQ xs = (0, false) := by
  have : ¬ digTo xs xs.length := fun hd => by have := hd k hk; omega
  simp [numQ, this]
/-- What NumberOf returns. -/
def numR (xs : List Int) : Int × Bool := if rowB xs && decide (0 < xs.length) then numQ xs else (0, false)
theorem numR_no {xs : List Int} (h : rowB xs = false) : numR xs = (0, false) := by simp [numR, h]
theorem numR_nil {xs : List Int} (h : xs.length = 0) : numR xs = (0, false) := by simp [numR, h]
theorem numR_yes {xs : List Int} (h : rowB xs = true) (h' : 0 < xs.length) : numR xs = numQ xs := by simp [numR, h, h']

set_option maxHeartbeats 2000000 in
theorem l2NumberOf_any (v1 : Value) (xs : List Int) (w : World) (h1 : Ints w v1 xs) (hl : xs.length ≤ 6) :
    Calls Try.prog 234 #[v1] w fun e w' => e = .returned (.tuple #[.int .i64 (numQ xs).1, .bool (numQ xs).2]) ∧ Below w.heap.size w w' := by
  obtain ⟨n, ao1, cap1, b1, o1, HN, rfl, ha1, hc1, hn1, hm1, HX⟩ := h1.open_
  clear h1
  rw [HN.out] at hl
  go_enter Try.func234, Try.ntmps234
  go_wp2
  go_loopw [4, 5, 6] (fun nn ii _ wr => ∃ k : Nat, k ≤ n ∧ ii = .int .i64 k ∧ nn = .int .i64 (numTo xs k) ∧ Hid (digTo xs k) ∧ Below w.heap.size w wr) (fun _ ii _ _ => n - (intOf ii).toNat)
  case atStart => exact ⟨0, by omega, rfl, rfl, hid (digTo_zero xs), Below.refl _ _⟩
  case round =>
    obtain ⟨k, hk, rfl, rfl, HT, hbel⟩ := hrel
    have hr := numTo_range k HT.out
    have hp := ten_pow (show k ≤ 6 by omega)
    by_cases hlt : k < n
    · obtain ⟨rfl, hb1⟩ := ha1 (by omega)
      have e1 : wr.cell? ⟨b1, o1+k, none⟩ = some (.int .i64 (xs.getD k 0)) := (hbel.cell (by exact hb1)).trans (hc1 k (by omega))
      have hd := dOf_range (xs.getD k 0)
      have HNX := hid (show numTo xs (k+1) = 10 * numTo xs k + dOf (xs.getD k 0) from rfl)
      have HSU := hid (digTo_succ HT.out)
      have HQN := hid (numQ_no (xs := xs) (k := k) (by rw [HN.out]; exact hlt))
      clear hc1 ha1
      generalize xs.getD k 0 = x at e1 hd HNX HSU HQN
      have HDX := hid (fun w => l2DigitOf_any x w)
      generalize dOf x = y at hd HNX HSU HQN HDX
      by_cases hneg : y < 0
      · have HR := hid (HQN.out hneg)
        go_wp2_with (go_at_call 250; refine (HDX.out _).mono ?_; rintro e w1 ⟨rfl, hb⟩)
        go_ret2
        exact ⟨by rw [HR.out]; rfl, hbel.trans (hb.mono hbel.size)⟩
      · have hy0 : 0 ≤ y := by omega
        have HS := hid (HSU.out hy0)
        have hr2 := numTo_range (k+1) HS.out
        have hp2 := ten_pow (show k+1 ≤ 6 by omega)
        go_wp2_with (go_at_call 250; refine (HDX.out _).mono ?_; rintro e w1 ⟨rfl, hb⟩)
        go_roundw
        case rel => exact ⟨k+1, by omega, by go_num, int_eq HNX.out.symm, HS, hbel.trans (hb.mono hbel.size)⟩
        case measure => simp [intOf]; omega
    · have hkn : k = n := by omega
      subst hkn
      have HQ := hid (numQ_yes (xs := xs) (by rw [HN.out]; exact HT.out))
      rw [HN.out] at HQ
      go_wp2
      go_ret2
      exact ⟨by rw [HQ.out]; simp, hbel⟩

set_option maxHeartbeats 2000000 in
theorem NumberOf_any (v1 : Value) (xs : List Int) (w : World) (h1 : Ints w v1 xs) :
    Calls Try.prog 185 #[v1] w fun e w' => e = .returned (.tuple #[.int .i64 (numR xs).1, .bool (numR xs).2]) ∧ Below w.heap.size w w' := by
  obtain ⟨n, ao1, cap1, b1, o1, HN, rfl, ha1, hc1, hn1, hm1, HX⟩ := h1.open_
  clear h1
  cases hrow : rowB xs with
  | false =>
    rw [numR_no hrow]
    go_enter Try.func185, Try.ntmps185
    go_wp2_with (go_at_call 177; refine (IsRow_any _ xs _ HX.out).mono ?_; rintro e w1 ⟨rfl, hb⟩)
    go_ret2
    exact ⟨rfl, hb⟩
  | true =>
  by_cases hn0 : n = 0
  · have hz : ((n : Int) == 0) = true := by simpa using hn0
    rw [numR_nil (by rw [HN.out]; exact hn0)]
    clear hn0
    go_enter Try.func185, Try.ntmps185
    go_wp2_with (go_at_call 177; refine (IsRow_any _ xs _ HX.out).mono ?_; rintro e w1 ⟨rfl, hb⟩)
    go_ret2
    exact ⟨rfl, hb⟩
  have hz : ((n : Int) == 0) = false := by simpa using hn0
  have hl := (rowB_true hrow).1
  rw [HN.out] at hl
  rw [numR_yes hrow (by rw [HN.out]; omega)]
  go_enter Try.func185, Try.ntmps185
  go_wp2_with (go_at_call 177; refine (IsRow_any _ xs _ HX.out).mono ?_; rintro e w1 ⟨rfl, hb0⟩)
  go_loopw [4, 6, 7, 18] (fun nn _ _ ii wr => ∃ k : Nat, k ≤ n ∧ ii = .int .i64 k ∧ nn = .int .i64 (numTo xs k) ∧ Hid (digTo xs k) ∧ Below w.heap.size w wr) (fun _ _ _ ii _ => n - (intOf ii).toNat)
  case atStart => exact ⟨0, by omega, rfl, rfl, hid (digTo_zero xs), hb0⟩
  case round =>
    obtain ⟨k, hk, rfl, rfl, HT, hbel⟩ := hrel
    have hr := numTo_range k HT.out
    have hp := ten_pow (show k ≤ 6 by omega)
    by_cases hlt : k < n
    · obtain ⟨rfl, hb1⟩ := ha1 (by omega)
      have e1 : wr.cell? ⟨b1, o1+k, none⟩ = some (.int .i64 (xs.getD k 0)) := (hbel.cell (by exact hb1)).trans (hc1 k (by omega))
      have hd := dOf_range (xs.getD k 0)
      have HNX := hid (show numTo xs (k+1) = 10 * numTo xs k + dOf (xs.getD k 0) from rfl)
      have HSU := hid (digTo_succ HT.out)
      have HQN := hid (numQ_no (xs := xs) (k := k) (by rw [HN.out]; exact hlt))
      clear hc1 ha1
      generalize xs.getD k 0 = x at e1 hd HNX HSU HQN
      have HDX := hid (fun w => digitOf_any x w)
      generalize dOf x = y at hd HNX HSU HQN HDX
      by_cases hneg : y < 0
      · have HR := hid (HQN.out hneg)
        go_wp2_with (go_at_call 233; refine (HDX.out _).mono ?_; rintro e w1 ⟨rfl, hb⟩)
        go_ret2
        exact ⟨by rw [HR.out]; rfl, hbel.trans (hb.mono hbel.size)⟩
      · have hy0 : 0 ≤ y := by omega
        have HS := hid (HSU.out hy0)
        have hr2 := numTo_range (k+1) HS.out
        have hp2 := ten_pow (show k+1 ≤ 6 by omega)
        go_wp2_with (go_at_call 233; refine (HDX.out _).mono ?_; rintro e w1 ⟨rfl, hb⟩)
        go_roundw
        case rel => exact ⟨k+1, by omega, by go_num, int_eq HNX.out.symm, HS, hbel.trans (hb.mono hbel.size)⟩
        case measure => simp [intOf]; omega
    · have hkn : k = n := by omega
      subst hkn
      have HQ := hid (numQ_yes (xs := xs) (by rw [HN.out]; exact HT.out))
      rw [HN.out] at HQ
      have hpos : decide (0 < k) = true := by simp; omega
      rw [hpos] at HQ
      go_wp2
      go_ret2
      exact ⟨by rw [HQ.out]; rfl, hbel⟩

/-- The time that a row of number r shows. -/
def toTime (four : Bool) (r : Int × Bool) : Int × Bool := if r.2 && four && decide (r.1/100 ≤ 23) && decide (r.1%100 ≤ 59) then (r.1/100*60 + r.1%100, true) else (0, false)
theorem toTime_no {four : Bool} {a : Int} : toTime four (a, false) = (0, false) := by simp [toTime]
theorem toTime_len {r : Int × Bool} : toTime false r = (0, false) := by simp [toTime]
theorem toTime_h {four : Bool} {a : Int} {b : Bool} (h : ¬ a/100 ≤ 23) : toTime four (a, b) = (0, false) := by simp [toTime]; omega
theorem toTime_m {four : Bool} {a : Int} {b : Bool} (h : ¬ a%100 ≤ 59) : toTime four (a, b) = (0, false) := by simp [toTime]; omega
theorem toTime_yes {a : Int} (h : a/100 ≤ 23) (h' : a%100 ≤ 59) : toTime true (a, true) = (a/100*60 + a%100, true) := by simp [toTime, h, h']
theorem numQ_range {xs : List Int} (h : xs.length ≤ 6) : 0 ≤ (numQ xs).1 ∧ (numQ xs).1 ≤ 999999 := by
  unfold numQ
  split
  · rename_i hd
    have h1 := numTo_range xs.length hd
    have h2 := ten_pow h
    simp only
    omega
  · simp
theorem numR_range (xs : List Int) : 0 ≤ (numR xs).1 ∧ (numR xs).1 ≤ 999999 := by
  unfold numR
  split
  · rename_i h
    simp only [Bool.and_eq_true] at h
    exact numQ_range (rowB_true h.1).1
  · simp
def timeOf (xs : List Int) : Int × Bool := toTime (decide (xs.length = 4)) (numR xs)

set_option maxHeartbeats 4000000 in
theorem implTimeOfRow_any (v1 : Value) (xs : List Int) (w : World) (h1 : Ints w v1 xs) :
    Calls Try.prog 78 #[v1] w fun e w' => e = .returned (.tuple #[.int .i64 (timeOf xs).1, .bool (timeOf xs).2]) ∧ Below w.heap.size w w' := by
  have HNR := hid (NumberOf_any v1 xs w h1)
  obtain ⟨n, ao1, cap1, b1, o1, HN, rfl, ha1, hc1, hn1, hm1, HX⟩ := h1.open_
  clear h1 ha1 hc1
  have HTO := hid (show timeOf xs = toTime (decide (xs.length = 4)) (numR xs) from rfl)
  have hrg := numR_range xs
  rw [HN.out] at HTO
  generalize timeOf xs = T at *
  obtain ⟨⟨a, ok⟩, hr⟩ : ∃ r, numR xs = r := ⟨_, rfl⟩
  rw [hr] at HNR HTO hrg
  clear hr
  simp only at hrg
  cases ok with
  | false =>
    rw [toTime_no] at HTO
    go_enter Try.func78, Try.ntmps78
    go_wp2_with (go_at_call 185; refine HNR.out.mono ?_; rintro e w1 ⟨rfl, hb⟩)
    go_ret2
    exact ⟨by rw [HTO.out]; rfl, hb⟩
  | true =>
  by_cases h4 : n = 4
  · have hb4 : ((n : Int) != 4) = false := by simp; omega
    rw [show decide (n = 4) = true by simpa using h4] at HTO
    clear h4
    by_cases hh : a / 100 ≤ 23
    · by_cases hm : a % 100 ≤ 59
      · rw [toTime_yes hh hm] at HTO
        go_enter Try.func78, Try.ntmps78
        go_wp2_with (go_at_call 185; refine HNR.out.mono ?_; rintro e w1 ⟨rfl, hb⟩)
        go_ret2
        exact ⟨by rw [HTO.out]; rfl, hb⟩
      · rw [toTime_m hm] at HTO
        go_enter Try.func78, Try.ntmps78
        go_wp2_with (go_at_call 185; refine HNR.out.mono ?_; rintro e w1 ⟨rfl, hb⟩)
        go_ret2
        exact ⟨by rw [HTO.out]; rfl, hb⟩
    · rw [toTime_h hh] at HTO
      go_enter Try.func78, Try.ntmps78
      go_wp2_with (go_at_call 185; refine HNR.out.mono ?_; rintro e w1 ⟨rfl, hb⟩)
      go_ret2
      exact ⟨by rw [HTO.out]; rfl, hb⟩
  · have hb4 : ((n : Int) != 4) = true := by simp; omega
    rw [show decide (n = 4) = false by simpa using h4, toTime_len] at HTO
    go_enter Try.func78, Try.ntmps78
    go_wp2_with (go_at_call 185; refine HNR.out.mono ?_; rintro e w1 ⟨rfl, hb⟩)
    go_ret2
    exact ⟨by rw [HTO.out]; rfl, hb⟩

def timeQ (xs : List Int) : Int × Bool := toTime (decide (xs.length = 4)) (numQ xs)
theorem timeOf_row {xs : List Int} (h : rowB xs = true) : timeOf xs = timeQ xs := by
  unfold timeOf timeQ
  by_cases h0 : 0 < xs.length
  · rw [numR_yes h h0]
  · have e : decide (xs.length = 4) = false := by simp; omega
    rw [e, toTime_len, toTime_len]
theorem timeOf_no {xs : List Int} (h : rowB xs = false) : timeOf xs = (0, false) := by
  unfold timeOf
  rw [numR_no h, toTime_no]

set_option maxHeartbeats 4000000 in
theorem l6TimeOf_any (v1 : Value) (xs : List Int) (w : World) (h1 : Ints w v1 xs) (hl : xs.length ≤ 6) :
    Calls Try.prog 187 #[v1] w fun e w' => e = .returned (.tuple #[.int .i64 (timeQ xs).1, .bool (timeQ xs).2]) ∧ Below w.heap.size w w' := by
  have HNR := hid (l2NumberOf_any v1 xs w h1 hl)
  have hrg := numQ_range hl
  obtain ⟨n, ao1, cap1, b1, o1, HN, rfl, ha1, hc1, hn1, hm1, HX⟩ := h1.open_
  clear h1 ha1 hc1 hl
  have HTO := hid (show timeQ xs = toTime (decide (xs.length = 4)) (numQ xs) from rfl)
  rw [HN.out] at HTO
  generalize timeQ xs = T at *
  obtain ⟨⟨a, ok⟩, hr⟩ : ∃ r, numQ xs = r := ⟨_, rfl⟩
  rw [hr] at HNR HTO hrg
  clear hr
  simp only at hrg
  cases ok with
  | false =>
    rw [toTime_no] at HTO
    go_enter Try.func187, Try.ntmps187
    go_wp2_with (go_at_call 234; refine HNR.out.mono ?_; rintro e w1 ⟨rfl, hb⟩)
    go_ret2
    exact ⟨by rw [HTO.out]; rfl, hb⟩
  | true =>
  by_cases h4 : n = 4
  · have hb4 : ((n : Int) != 4) = false := by simp; omega
    rw [show decide (n = 4) = true by simpa using h4] at HTO
    clear h4
    by_cases hh : a / 100 ≤ 23
    · by_cases hm : a % 100 ≤ 59
      · rw [toTime_yes hh hm] at HTO
        go_enter Try.func187, Try.ntmps187
        go_wp2_with (go_at_call 234; refine HNR.out.mono ?_; rintro e w1 ⟨rfl, hb⟩)
        go_ret2
        exact ⟨by rw [HTO.out]; rfl, hb⟩
      · rw [toTime_m hm] at HTO
        go_enter Try.func187, Try.ntmps187
        go_wp2_with (go_at_call 234; refine HNR.out.mono ?_; rintro e w1 ⟨rfl, hb⟩)
        go_ret2
        exact ⟨by rw [HTO.out]; rfl, hb⟩
    · rw [toTime_h hh] at HTO
      go_enter Try.func187, Try.ntmps187
      go_wp2_with (go_at_call 234; refine HNR.out.mono ?_; rintro e w1 ⟨rfl, hb⟩)
      go_ret2
      exact ⟨by rw [HTO.out]; rfl, hb⟩
  · have hb4 : ((n : Int) != 4) = true := by simp; omega
    rw [show decide (n = 4) = false by simpa using h4, toTime_len] at HTO
    go_enter Try.func187, Try.ntmps187
    go_wp2_with (go_at_call 234; refine HNR.out.mono ?_; rintro e w1 ⟨rfl, hb⟩)
    go_ret2
    exact ⟨by rw [HTO.out]; rfl, hb⟩

set_option maxHeartbeats 2000000 in
theorem specTimeOfRow_any (v1 : Value) (xs : List Int) (w : World) (h1 : Ints w v1 xs) :
    Calls Try.prog 79 #[v1] w fun e w' => e = .returned (.tuple #[.int .i64 (timeOf xs).1, .bool (timeOf xs).2]) ∧ Below w.heap.size w w' := by
  have HX := hid h1
  clear h1
  cases hrow : rowB xs with
  | false =>
    rw [timeOf_no hrow]
    go_enter Try.func79, Try.ntmps79
    go_wp2_with (go_at_call 186; refine (l2Row_any _ xs _ HX.out).mono ?_; rintro e w1 ⟨rfl, rfl⟩)
    go_ret2
    exact ⟨rfl, Below.refl _ _⟩
  | true =>
    rw [timeOf_row hrow]
    have HL := hid (rowB_true hrow).1
    go_enter Try.func79, Try.ntmps79
    go_wp2_with (first | (go_at_call 186; refine (l2Row_any _ xs _ HX.out).mono ?_; rintro e w1 ⟨rfl, rfl⟩) | (go_at_call 187; refine (l6TimeOf_any _ xs _ HX.out HL.out).mono ?_; rintro e w1 ⟨rfl, hb⟩))
    go_ret2
    exact ⟨rfl, hb⟩
end Go.Proofs.Ytfgjaefcfmjleaa
