import Derived.Test.YtfgjaefcfmjleaaNear
namespace Go.Proofs.Ytfgjaefcfmjleaa
open Go.RowKit

/-! ## CountNear, CoverOf, NearestOf -/
def nearCnt (xs : List Int) (k : Int) (m : Nat) : Nat := ((List.range m).filter fun c : Nat => decide (nearF xs (c : Int) ≤ k)).length
theorem nearCnt_yes {xs : List Int} {k : Int} {m : Nat} (h : nearF xs (m : Int) ≤ k) : nearCnt xs k (m+1) = nearCnt xs k m + 1 := by
  unfold nearCnt
  rw [List.range_succ, List.filter_append, List.length_append]
  simp only [List.filter_cons, h, decide_true, if_true, List.filter_nil, List.length_cons, List.length_nil]
theorem nearCnt_no {xs : List Int} {k : Int} {m : Nat} (h : ¬ nearF xs (m : Int) ≤ k) : nearCnt xs k (m+1) = nearCnt xs k m := by
  unfold nearCnt
  rw [List.range_succ, List.filter_append, List.length_append]
  simp only [List.filter_cons, h, decide_false, Bool.false_eq_true, if_false, List.filter_nil, List.length_nil, Nat.add_zero]
theorem nearCnt_le (xs : List Int) (k : Int) (m : Nat) : nearCnt xs k m ≤ m := by
  unfold nearCnt
  exact Nat.le_trans (List.length_filter_le _ _) (by simp)
theorem nearCnt_all (xs : List Int) (m : Nat) {k : Int} (h : 8 ≤ k) : nearCnt xs k m = m := by
  induction m with
  | zero => rfl
  | succ m ih => rw [nearCnt_yes (by have := (nearF_range xs (m : Int)).2; omega), ih]
def coverGo (xs : List Int) : Nat → Nat → Nat
  | 0, k => k
  | f+1, k => if nearCnt xs (k : Int) 128 < 128 then coverGo xs f (k+1) else k
def coverF (xs : List Int) : Nat := coverGo xs 9 0
theorem coverF_at {xs : List Int} {k : Nat} (h9 : k ≤ 9) (h : ∀ j, j < k → nearCnt xs (j : Int) 128 < 128) : coverF xs = coverGo xs (9 - k) k := by
  induction k with
  | zero => rfl
  | succ k ih => rw [ih (by omega) (fun j hj => h j (by omega)), show 9 - k = (9 - (k+1)) + 1 by omega, coverGo, if_pos (h k (by omega))]
theorem coverF_is {xs : List Int} {k : Nat} (h8 : k ≤ 8) (h : ∀ j, j < k → nearCnt xs (j : Int) 128 < 128) (h' : ¬ nearCnt xs (k : Int) 128 < 128) : coverF xs = k := by
  rw [coverF_at (by omega) h, show 9 - k = (8 - k) + 1 by omega, coverGo, if_neg h']
theorem cover_small {xs : List Int} {k : Nat} (h : nearCnt xs (k : Int) 128 < 128) : k ≤ 7 := by
  by_cases e : k ≤ 7
  · exact e
  · have := nearCnt_all xs 128 (k := (k : Int)) (by omega)
    omega

set_option maxRecDepth 100000 in
set_option maxHeartbeats 1000000 in
theorem near_any (v1 : Value) (xs : List Int) (q : Int) (w : World) (h1 : Ints w v1 xs) (hcc : ∀ i, i < xs.length → 0 ≤ xs.getD i 0 ∧ xs.getD i 0 ≤ 127) :
    Calls Try.prog 156 #[v1, .int .i64 q] w fun e w' => e = .returned (.int .i64 (nearCnt xs q 128 : Nat)) ∧ w = w' := by
  have HX := hid h1
  have HC := hid hcc
  clear h1 hcc
  go_enter Try.func156, Try.ntmps156
  go_wp2
  go_loop [5, 6, 7] (fun mm _ cc => ∃ c : Nat, c ≤ 128 ∧ cc = .int .i64 c ∧ mm = .int .i64 (nearCnt xs q c : Nat)) (fun _ _ cc => 128 - (intOf cc).toNat)
  case atStart => exact ⟨0, by omega, rfl, rfl⟩
  case round =>
    obtain ⟨c, hc, rfl, rfl⟩ := hrel
    have hle := nearCnt_le xs q c
    by_cases hlt : c < 128
    · by_cases hn : nearF xs (c : Int) ≤ q
      · have HS := hid (nearCnt_yes hn)
        go_wp2_with (go_at_call 154; refine (nearest_any _ xs _ _ HX.out HC.out (by omega)).mono ?_; rintro e w1 ⟨rfl, rfl⟩)
        go_round
        case rel => exact ⟨c+1, by omega, by go_num, int_eq (by rw [HS.out]; omega)⟩
        case measure => simp [intOf]; omega
      · have HS := hid (nearCnt_no hn)
        go_wp2_with (go_at_call 154; refine (nearest_any _ xs _ _ HX.out HC.out (by omega)).mono ?_; rintro e w1 ⟨rfl, rfl⟩)
        go_round
        case rel => exact ⟨c+1, by omega, by go_num, int_eq (by rw [HS.out])⟩
        case measure => simp [intOf]; omega
    · go_wp2
      go_ret
      exact ⟨by rw [show c = 128 by omega]; rfl, rfl⟩

set_option maxRecDepth 100000 in
set_option maxHeartbeats 1000000 in
theorem l5Near_any (v1 : Value) (xs : List Int) (q : Int) (w : World) (h1 : Ints w v1 xs) (hl : xs.length ≤ 1048576) (hcc : ∀ i, i < xs.length → 0 ≤ xs.getD i 0 ∧ xs.getD i 0 ≤ 127) :
    Calls Try.prog 157 #[v1, .int .i64 q] w fun e w' => e = .returned (.int .i64 (nearCnt xs q 128 : Nat)) ∧ Below w.heap.size w w' := by
  have HX := hid h1
  have HC := hid hcc
  have HL := hid hl
  clear h1 hcc hl
  go_enter Try.func157, Try.ntmps157
  go_wp2
  go_loopw [5, 6, 7, 8] (fun mm cc _ _ wr => ∃ c : Nat, c ≤ 128 ∧ cc = .int .i64 c ∧ mm = .int .i64 (nearCnt xs q c : Nat) ∧ Below w.heap.size w wr) (fun _ cc _ _ _ => 128 - (intOf cc).toNat)
  case atStart => exact ⟨0, by omega, rfl, rfl, Below.refl _ _⟩
  case round =>
    obtain ⟨c, hc, rfl, rfl, hbel⟩ := hrel
    have hle := nearCnt_le xs q c
    by_cases hlt : c < 128
    · have HI := hid (HX.out.later hbel)
      by_cases hn : nearF xs (c : Int) ≤ q
      · have HS := hid (nearCnt_yes hn)
        go_wp2_with fail
        refine (l5Nearest_any _ xs _ _ HI.out HL.out HC.out (by omega)).mono ?_
        rintro e w1 ⟨v, rfl, _, hb⟩
        have hbel' := hbel.trans (hb.mono hbel.size)
        clear hb hbel HI
        go_wp2
        go_roundw
        case rel => exact ⟨c+1, by omega, by go_num, int_eq (by rw [HS.out]; omega), hbel'⟩
        case measure => simp [intOf]; omega
      · have HS := hid (nearCnt_no hn)
        go_wp2_with fail
        refine (l5Nearest_any _ xs _ _ HI.out HL.out HC.out (by omega)).mono ?_
        rintro e w1 ⟨v, rfl, _, hb⟩
        have hbel' := hbel.trans (hb.mono hbel.size)
        clear hb hbel HI
        go_wp2
        go_roundw
        case rel => exact ⟨c+1, by omega, by go_num, int_eq (by rw [HS.out]), hbel'⟩
        case measure => simp [intOf]; omega
    · go_wp2
      go_ret
      exact ⟨by rw [show c = 128 by omega]; rfl, hbel⟩

theorem codeCells {xs : List Int} (h : codeB xs = true) : ∀ i, i < xs.length → 0 ≤ xs.getD i 0 ∧ xs.getD i 0 ≤ 127 := fun i hi => cellB_true ((codeB_true h).2.2 i hi).1

def cntNearR (xs : List Int) (q : Int) : Int × Bool := if codeB xs && inB q 0 7 then (((nearCnt xs q 128 : Nat) : Int), true) else (0, false)
theorem cntNearR_code {xs : List Int} {q : Int} (h : codeB xs = false) : cntNearR xs q = (0, false) := by simp [cntNearR, h]
theorem cntNearR_in {xs : List Int} {q : Int} (h : inB q 0 7 = false) : cntNearR xs q = (0, false) := by simp [cntNearR, h]
theorem cntNearR_yes {xs : List Int} {q : Int} (h : codeB xs = true) (h' : inB q 0 7 = true) : cntNearR xs q = (((nearCnt xs q 128 : Nat) : Int), true) := by simp [cntNearR, h, h']
def coverR (xs : List Int) : Int × Bool := if codeB xs then ((coverF xs : Int), true) else (0, false)
theorem coverR_no {xs : List Int} (h : codeB xs = false) : coverR xs = (0, false) := by simp [coverR, h]
theorem coverR_yes {xs : List Int} (h : codeB xs = true) : coverR xs = ((coverF xs : Int), true) := by simp [coverR, h]
def nearestR (xs : List Int) (c : Int) : List Int × Int × Bool := if codeB xs && cellB c then (placesTo xs c (nearF xs c) xs.length, nearF xs c, true) else ([], 0, false)
theorem nearestR_code {xs : List Int} {c : Int} (h : codeB xs = false) : nearestR xs c = ([], 0, false) := by simp [nearestR, h]
theorem nearestR_cell {xs : List Int} {c : Int} (h : cellB c = false) : nearestR xs c = ([], 0, false) := by simp [nearestR, h]
theorem nearestR_yes {xs : List Int} {c : Int} (h : codeB xs = true) (h' : cellB c = true) : nearestR xs c = (placesTo xs c (nearF xs c) xs.length, nearF xs c, true) := by simp [nearestR, h, h']
theorem nearestR_len (xs : List Int) (c : Int) : (nearestR xs c).1.length ≤ 1048576 := by
  unfold nearestR
  split
  · rename_i h
    simp only [Bool.and_eq_true] at h
    have := (codeB_true h.1).1
    have := placesTo_len xs c (nearF xs c) xs.length
    simp only
    omega
  · simp

set_option maxRecDepth 100000 in
set_option maxHeartbeats 1000000 in
theorem implCountNear_any (v1 : Value) (xs : List Int) (q : Int) (w : World) (h1 : Ints w v1 xs) :
    Calls Try.prog 38 #[v1, .int .i64 q] w fun e w' => e = .returned (.tuple #[.int .i64 (cntNearR xs q).1, .bool (cntNearR xs q).2]) ∧ Below w.heap.size w w' := by
  have HX := hid h1
  clear h1
  cases hcode : codeB xs with
  | false =>
    rw [cntNearR_code hcode]
    go_enter Try.func38, Try.ntmps38
    go_wp2_with (go_at_call 31; refine (IsCode_any _ xs _ HX.out).mono ?_; rintro e w' ⟨rfl, rfl⟩)
    go_ret2
    exact ⟨rfl, Below.refl _ _⟩
  | true =>
  cases hin : inB q 0 7 with
  | false =>
    rw [cntNearR_in hin]
    go_enter Try.func38, Try.ntmps38
    go_wp2_with (first | (go_at_call 31; refine (IsCode_any _ xs _ HX.out).mono ?_; rintro e w' ⟨rfl, rfl⟩) | (go_at_call 151; refine (within_any _ _ _ _).mono ?_; rintro e w' ⟨rfl, rfl⟩))
    go_ret2
    exact ⟨rfl, Below.refl _ _⟩
  | true =>
    rw [cntNearR_yes hcode hin]
    have HC := hid (codeCells hcode)
    have HL : Hid (xs.length ≤ 1048576) := hid (by have := (codeB_true hcode).1; omega)
    go_enter Try.func38, Try.ntmps38
    go_wp2_with (first | (go_at_call 31; refine (IsCode_any _ xs _ HX.out).mono ?_; rintro e w' ⟨rfl, rfl⟩) | (go_at_call 151; refine (within_any _ _ _ _).mono ?_; rintro e w' ⟨rfl, rfl⟩) | (go_at_call 156; refine (near_any _ xs _ _ HX.out HC.out).mono ?_; rintro e w1 ⟨rfl, rfl⟩))
    go_ret2
    clear HL
    exact ⟨rfl, Below.refl _ _⟩

set_option maxRecDepth 100000 in
set_option maxHeartbeats 1000000 in
theorem implCoverOf_any (v1 : Value) (xs : List Int) (w : World) (h1 : Ints w v1 xs) :
    Calls Try.prog 40 #[v1] w fun e w' => e = .returned (.tuple #[.int .i64 (coverR xs).1, .bool (coverR xs).2]) ∧ Below w.heap.size w w' := by
  have HX := hid h1
  clear h1
  cases hcode : codeB xs with
  | false =>
    rw [coverR_no hcode]
    go_enter Try.func40, Try.ntmps40
    go_wp2_with (go_at_call 31; refine (IsCode_any _ xs _ HX.out).mono ?_; rintro e w' ⟨rfl, rfl⟩)
    go_ret2
    exact ⟨rfl, Below.refl _ _⟩
  | true =>
    rw [coverR_yes hcode]
    have HC := hid (codeCells hcode)
    have HL : Hid (xs.length ≤ 1048576) := hid (by have := (codeB_true hcode).1; omega)
    go_enter Try.func40, Try.ntmps40
    go_wp2_with (go_at_call 31; refine (IsCode_any _ xs _ HX.out).mono ?_; rintro e w' ⟨rfl, rfl⟩)
    go_loop [4] (fun kk => ∃ k : Nat, k ≤ 8 ∧ kk = .int .i64 k ∧ Hid (∀ j, j < k → nearCnt xs (j : Int) 128 < 128)) (fun kk => 8 - (intOf kk).toNat)
    case atStart => exact ⟨0, by omega, rfl, hid (fun j hj => absurd hj (Nat.not_lt_zero j))⟩
    case round =>
      obtain ⟨k, hk, rfl, HT⟩ := hrel
      by_cases hlt : nearCnt xs (k : Int) 128 < 128
      · have hk7 := cover_small hlt
        have HT' := hid (show ∀ j, j < k + 1 → nearCnt xs (j : Int) 128 < 128 from fun j hj => by
          by_cases e : j = k
          · subst e; exact hlt
          · exact HT.out j (by omega))
        go_wp2_with (go_at_call 156; refine (near_any _ xs _ _ HX.out HC.out).mono ?_; rintro e w1 ⟨rfl, rfl⟩)
        go_round
        case rel => exact ⟨k+1, by omega, by go_num, HT'⟩
        case measure => simp [intOf]; omega
      · have HR := hid (coverF_is hk HT.out hlt)
        go_wp2_with (go_at_call 156; refine (near_any _ xs _ _ HX.out HC.out).mono ?_; rintro e w1 ⟨rfl, rfl⟩)
        go_ret2
        exact ⟨by rw [HR.out]; rfl, Below.refl _ _⟩

set_option maxRecDepth 100000 in
set_option maxHeartbeats 1000000 in
theorem specCountNear_any (v1 : Value) (xs : List Int) (q : Int) (w : World) (h1 : Ints w v1 xs) :
    Calls Try.prog 39 #[v1, .int .i64 q] w fun e w' => e = .returned (.tuple #[.int .i64 (cntNearR xs q).1, .bool (cntNearR xs q).2]) ∧ Below w.heap.size w w' := by
  have HX := hid h1
  clear h1
  cases hcode : codeB xs with
  | false =>
    rw [cntNearR_code hcode]
    go_enter Try.func39, Try.ntmps39
    go_wp2_with (go_at_call 132; refine (l5Code_any _ xs _ HX.out).mono ?_; rintro e w' ⟨rfl, m, rfl⟩)
    go_ret2
    exact ⟨rfl, below_drewN (Below.refl _ _) _⟩
  | true =>
  cases hin : inB q 0 7 with
  | false =>
    rw [cntNearR_in hin]
    go_enter Try.func39, Try.ntmps39
    go_wp2_with (first | (go_at_call 132; refine (l5Code_any _ xs _ HX.out).mono ?_; rintro e w' ⟨rfl, m, rfl⟩) | (go_at_call 143; refine (l1In_any _ _ _ _).mono ?_; rintro e w' ⟨rfl, rfl⟩))
    go_ret2
    exact ⟨rfl, below_drewN (Below.refl _ _) _⟩
  | true =>
    rw [cntNearR_yes hcode hin]
    have HC := hid (codeCells hcode)
    have HL : Hid (xs.length ≤ 1048576) := hid (by have := (codeB_true hcode).1; omega)
    go_enter Try.func39, Try.ntmps39
    go_wp2_with (first | (go_at_call 132; refine (l5Code_any _ xs _ HX.out).mono ?_; rintro e w' ⟨rfl, m, rfl⟩) | (go_at_call 143; refine (l1In_any _ _ _ _).mono ?_; rintro e w' ⟨rfl, rfl⟩) | (go_at_call 157; refine (l5Near_any _ xs _ _ (HX.out.drawn _) HL.out HC.out).mono ?_; rintro e w1 ⟨rfl, hb⟩))
    go_ret2
    skip
    exact ⟨rfl, (below_drewN (Below.refl _ _) m).trans hb⟩

set_option maxRecDepth 100000 in
set_option maxHeartbeats 1000000 in
theorem specCoverOf_any (v1 : Value) (xs : List Int) (w : World) (h1 : Ints w v1 xs) :
    Calls Try.prog 41 #[v1] w fun e w' => e = .returned (.tuple #[.int .i64 (coverR xs).1, .bool (coverR xs).2]) ∧ Below w.heap.size w w' := by
  have HX := hid h1
  clear h1
  cases hcode : codeB xs with
  | false =>
    rw [coverR_no hcode]
    go_enter Try.func41, Try.ntmps41
    go_wp2_with (go_at_call 132; refine (l5Code_any _ xs _ HX.out).mono ?_; rintro e w' ⟨rfl, m, rfl⟩)
    go_ret2
    exact ⟨rfl, below_drewN (Below.refl _ _) _⟩
  | true =>
    rw [coverR_yes hcode]
    have HC := hid (codeCells hcode)
    have HL : Hid (xs.length ≤ 1048576) := hid (by have := (codeB_true hcode).1; omega)
    go_enter Try.func41, Try.ntmps41
    go_wp2_with (go_at_call 132; refine (l5Code_any _ xs _ HX.out).mono ?_; rintro e w' ⟨rfl, m, rfl⟩)
    go_loopw [4] (fun kk wr => ∃ k : Nat, k ≤ 8 ∧ kk = .int .i64 k ∧ Hid (∀ j, j < k → nearCnt xs (j : Int) 128 < 128) ∧ Below w.heap.size w wr) (fun kk _ => 8 - (intOf kk).toNat)
    case atStart => exact ⟨0, by omega, rfl, hid (fun j hj => absurd hj (Nat.not_lt_zero j)), below_drewN (Below.refl _ _) _⟩
    case round =>
      obtain ⟨k, hk, rfl, HT, hbel⟩ := hrel
      have HI := hid (HX.out.later hbel)
      by_cases hlt : nearCnt xs (k : Int) 128 < 128
      · have hk7 := cover_small hlt
        have HT' := hid (show ∀ j, j < k + 1 → nearCnt xs (j : Int) 128 < 128 from fun j hj => by
          by_cases e : j = k
          · subst e; exact hlt
          · exact HT.out j (by omega))
        go_wp2_with (go_at_call 157; refine (l5Near_any _ xs _ _ HI.out HL.out HC.out).mono ?_; rintro e w1 ⟨rfl, hb⟩)
        go_roundw
        case rel => exact ⟨k+1, by omega, by go_num, HT', hbel.trans (hb.mono hbel.size)⟩
        case measure => simp [intOf]; omega
      · have HR := hid (coverF_is hk HT.out hlt)
        go_wp2_with (go_at_call 157; refine (l5Near_any _ xs _ _ HI.out HL.out HC.out).mono ?_; rintro e w1 ⟨rfl, hb⟩)
        go_ret2
        exact ⟨by rw [HR.out]; rfl, hbel.trans (hb.mono hbel.size)⟩

set_option maxRecDepth 100000 in
set_option maxHeartbeats 1000000 in
theorem specNearestOf_any (v1 : Value) (xs : List Int) (c : Int) (w : World) (h1 : Ints w v1 xs) :
    Calls Try.prog 36 #[v1, .int .i64 c] w fun e w' => ∃ v, e = .returned (.tuple #[v, .int .i64 (nearestR xs c).2.1, .bool (nearestR xs c).2.2]) ∧ OwnI w' w.heap.size v (nearestR xs c).1 ∧ Below w.heap.size w w' := by
  have HX := hid h1
  clear h1
  cases hcode : codeB xs with
  | false =>
    rw [nearestR_code hcode]
    go_enter Try.func36, Try.ntmps36
    go_wp2_with (go_at_call 132; refine (l5Code_any _ xs _ HX.out).mono ?_; rintro e w' ⟨rfl, m, rfl⟩)
    go_ret3
    exact ⟨_, rfl, OwnI.lit0 _ _ (Nat.le_refl _), below_drewN ((Below.refl _ _).alloc (Nat.le_refl _) _) _⟩
  | true =>
  cases hcell : cellB c with
  | false =>
    rw [nearestR_cell hcell]
    go_enter Try.func36, Try.ntmps36
    go_wp2_with (first | (go_at_call 132; refine (l5Code_any _ xs _ HX.out).mono ?_; rintro e w' ⟨rfl, m, rfl⟩) | (go_at_call 140; refine (l2Cell_any _ _).mono ?_; rintro e w' ⟨rfl, rfl⟩))
    go_ret3
    exact ⟨_, rfl, OwnI.lit0 _ _ (Nat.le_refl _), below_drewN ((Below.refl _ _).alloc (Nat.le_refl _) _) _⟩
  | true =>
    rw [nearestR_yes hcode hcell]
    have HC := hid (codeCells hcode)
    have HCC := hid (cellB_true hcell)
    have HL : Hid (xs.length ≤ 1048576) := hid (by have := (codeB_true hcode).1; omega)
    go_enter Try.func36, Try.ntmps36
    go_wp2_with (first | (go_at_call 132; refine (l5Code_any _ xs _ HX.out).mono ?_; rintro e w' ⟨rfl, m, rfl⟩) | (go_at_call 140; refine (l2Cell_any _ _).mono ?_; rintro e w' ⟨rfl, rfl⟩))
    refine (l5Nearest_any _ xs _ _ (HX.out.drawn _) HL.out HC.out HCC.out).mono ?_
    rintro e w1 ⟨v, rfl, ho, hb⟩
    have HO := hid ho
    clear ho
    go_wp2
    go_ret3
    exact ⟨_, rfl, HO.out, (below_drewN (Below.refl _ _) m).trans hb⟩

set_option maxHeartbeats 2000000 in
theorem implNearestOf_any (v1 : Value) (xs : List Int) (c : Int) (w : World) (h1 : Ints w v1 xs) :
    Calls Try.prog 35 #[v1, .int .i64 c] w fun e w' => ∃ v, e = .returned (.tuple #[v, .int .i64 (nearestR xs c).2.1, .bool (nearestR xs c).2.2]) ∧ OwnI w' w.heap.size v (nearestR xs c).1 ∧ Below w.heap.size w w' := by
  obtain ⟨n, ao1, cap1, b1, o1, HN, rfl, ha1, hc1, hn1, hm1, HX⟩ := h1.open_
  clear h1
  cases hcode : codeB xs with
  | false =>
    rw [nearestR_code hcode]
    go_enter Try.func35, Try.ntmps35
    go_wp2_with (go_at_call 31; refine (IsCode_any _ xs _ HX.out).mono ?_; rintro e w' ⟨rfl, rfl⟩)
    go_ret3
    exact ⟨_, rfl, OwnI.nil _ _, Below.refl _ _⟩
  | true =>
  cases hcell : cellB c with
  | false =>
    rw [nearestR_cell hcell]
    go_enter Try.func35, Try.ntmps35
    go_wp2_with (first | (go_at_call 31; refine (IsCode_any _ xs _ HX.out).mono ?_; rintro e w' ⟨rfl, rfl⟩) | (go_at_call 139; refine (IsCell_any _ _).mono ?_; rintro e w' ⟨rfl, rfl⟩))
    go_ret3
    exact ⟨_, rfl, OwnI.nil _ _, Below.refl _ _⟩
  | true =>
  rw [nearestR_yes hcode hcell]
  have HC := hid (codeCells hcode)
  have hcc := cellB_true hcell
  have hl12 := (codeB_true hcode).1
  rw [HN.out] at hl12
  go_enter Try.func35, Try.ntmps35
  go_wp2_with (first | (go_at_call 31; refine (IsCode_any _ xs _ HX.out).mono ?_; rintro e w' ⟨rfl, rfl⟩) | (go_at_call 139; refine (IsCell_any _ _).mono ?_; rintro e w' ⟨rfl, rfl⟩) | (go_at_call 154; refine (nearest_any _ xs _ _ HX.out HC.out hcc).mono ?_; rintro e w1 ⟨rfl, rfl⟩))
  generalize hg : nearF xs c = g
  have HG := hid hg
  clear hg
  go_loopw [8, 9, 10, 24] (fun oo _ _ i wr => ∃ k : Nat, k ≤ n ∧ i = .int .i64 k ∧ Hid (OwnI wr w.heap.size oo (placesTo xs c g k)) ∧ Below w.heap.size w wr) (fun _ _ _ i _ => n - (intOf i).toNat)
  case atStart => exact ⟨0, by omega, rfl, hid (OwnI.nil _ _), Below.refl _ _⟩
  case round =>
    obtain ⟨k, hk, rfl, HO, hbel⟩ := hrel
    by_cases hlt : k < n
    · obtain ⟨rfl, hb1⟩ := ha1 (by omega)
      have e1 : wr.cell? ⟨b1, o1+k, none⟩ = some (.int .i64 (xs.getD k 0)) := (hbel.cell (by exact hb1)).trans (hc1 k (by omega))
      have hx := HC.out k (by rw [HN.out]; exact hlt)
      have HYES := hid (placesTo_yes (xs := xs) (c := c) (g := g) (k := k))
      have HNO := hid (placesTo_no (xs := xs) (c := c) (g := g) (k := k))
      have hl := placesTo_len xs c g k
      generalize xs.getD k 0 = x at e1 hx HYES HNO
      have hr := xorI_range hx.1 hx.2 hcc.1 hcc.2
      clear hc1 ha1
      cases hf : (farI x c == g) with
      | true =>
        have HE := hid (HYES.out hf)
        have hf' : (cntI (xorI x c) == g) = true := hf
        clear hf
        go_wp2_with (first | (go_at_call 153; refine (count_any (xorI x c) _ hr.1 hr.2).mono ?_; rintro e w1 ⟨rfl, rfl⟩) | (at_builtin; refine wpList_appendI wr rfl _ _ rfl w.heap.size _ _ HO.out rfl k rfl (by omega) hbel.size ?_; intro v' w2 ho' _ hb' _))
        rw [← HE.out] at ho'
        have HO' := hid ho'
        have hbel' := hbel.trans hb'
        clear ho' HO hb' hbel e1
        go_wp2
        go_roundw
        case rel => exact ⟨k+1, by omega, by go_num, HO', hbel'⟩
        case measure => simp [intOf]; omega
      | false =>
        have HE := hid (HNO.out hf)
        have hf' : (cntI (xorI x c) == g) = false := hf
        clear hf
        go_wp2_with (go_at_call 153; refine (count_any (xorI x c) _ hr.1 hr.2).mono ?_; rintro e w1 ⟨rfl, rfl⟩)
        go_roundw
        case rel => exact ⟨k+1, by omega, by go_num, by rw [HE.out]; exact HO, hbel⟩
        case measure => simp [intOf]; omega
    · have ho := HO.out
      rw [show k = xs.length by rw [HN.out]; omega] at ho
      have HO' := hid ho
      clear ho HO
      go_wp2
      go_ret3
      exact ⟨_, by rw [HG.out]; rfl, by rw [HG.out]; exact HO'.out, hbel⟩

end Go.Proofs.Ytfgjaefcfmjleaa

