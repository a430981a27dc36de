import Derived.Test.YtfgjaefcfmjleaaDigit
namespace Go.Proofs.Ytfgjaefcfmjleaa
open Go.RowKit

/-! ## Clocks: isTime, l6Time, l6Row, counterRow, clockRow, ClockRow -/
def rowT (t : Int) : List Int := [digitC (t/60/10), digitC (t/60%10), digitC (t%60/10), digitC (t%60%10)]
def timeB (t : Int) : Bool := inB t 0 1439
theorem timeB_true {t : Int} (h : timeB t = true) : 0 ≤ t ∧ t ≤ 1439 := inB_true h
theorem length_rowT (t : Int) : (rowT t).length = 4 := rfl

theorem isTime_any (t : Int) (w : World) : Calls Try.prog 165 #[.int .i64 t] w fun e w' => e = .returned (.bool (timeB t)) ∧ w = w' := by
  go_enter Try.func165, Try.ntmps165
  go_wp2_with (go_at_call 151; refine (within_any _ _ _ _).mono ?_; rintro e w' ⟨rfl, rfl⟩)
  go_ret
  exact ⟨rfl, rfl⟩
theorem l6Time_any (t : Int) (w : World) : Calls Try.prog 167 #[.int .i64 t] w fun e w' => e = .returned (.bool (timeB t)) ∧ w = w' := by
  go_enter Try.func167, Try.ntmps167
  go_wp2_with (go_at_call 143; refine (l1In_any _ _ _ _).mono ?_; rintro e w' ⟨rfl, rfl⟩)
  go_ret
  exact ⟨rfl, rfl⟩

theorem OwnI.lit4 (w : World) (B : Nat) (hB : B ≤ w.heap.size) (a b c d : Int) : OwnI (w.alloc (.cells #[.int .i64 a, .int .i64 b, .int .i64 c, .int .i64 d] 3)) B (.slice (some ⟨w.heap.size, 0, none⟩) 4 4) [a, b, c, d] :=
  World.ownsRow_lit w #[.int .i64 a, .int .i64 b, .int .i64 c, .int .i64 d] 4 hB (by simp [maxLen]) rfl

set_option maxHeartbeats 2000000 in
theorem l6Row_any (t : Int) (w : World) (h0 : 0 ≤ t) (h1 : t ≤ 1439) :
    Calls Try.prog 172 #[.int .i64 t] w fun e w' => ∃ v, e = .returned v ∧ OwnI w' w.heap.size v (rowT t) ∧ Below w.heap.size w w' := by
  have r1 := inB_mk (n := t/60/10) (lo := 0) (hi := 9) (by omega) (by omega)
  have r2 := inB_mk (n := t/60%10) (lo := 0) (hi := 9) (by omega) (by omega)
  have r3 := inB_mk (n := t%60/10) (lo := 0) (hi := 9) (by omega) (by omega)
  have r4 := inB_mk (n := t%10) (lo := 0) (hi := 9) (by omega) (by omega)
  have q1 : 0 ≤ t/60 := by omega
  have q2 : 0 ≤ t%60 := by omega
  have q3 : t/60 ≤ 23 := by omega
  have q4 : t%60 ≤ 59 := by omega
  have HT : Hid (rowT t = [digitC (t/60/10), digitC (t/60%10), digitC (t%60/10), digitC (t%10)]) := hid (by rw [rowT, show t%60%10 = t%10 by omega])
  go_enter Try.func172, Try.ntmps172
  go_wp2_with fail
  refine (l2Digit_any _ _ r1).mono ?_
  rintro e w1 ⟨rfl, hb1⟩
  go_wp2_with fail
  refine (l2Digit_any _ _ r2).mono ?_
  rintro e w2 ⟨rfl, hb2⟩
  have hb12 := hb1.trans (hb2.mono hb1.size)
  clear hb1 hb2
  go_wp2_with fail
  refine (l2Digit_any _ _ r3).mono ?_
  rintro e w3 ⟨rfl, hb3⟩
  have hb13 := hb12.trans (hb3.mono hb12.size)
  clear hb12 hb3
  go_wp2_with fail
  refine (l2Digit_any _ _ r4).mono ?_
  rintro e w4 ⟨rfl, hb4⟩
  have hb14 := hb13.trans (hb4.mono hb13.size)
  clear hb13 hb4
  go_wp2
  go_ret
  exact ⟨_, rfl, by rw [HT.out]; exact OwnI.lit4 _ _ hb14.size _ _ _ _, hb14.alloc hb14.size _⟩

def nj (n : Int) : Nat → Int
  | 0 => n
  | i+1 => nj n i / 10
def cRow (n : Int) : Nat → List Int
  | 0 => [0, 0, 0, 0]
  | 1 => [0, 0, 0, digitC (nj n 0 % 10)]
  | 2 => [0, 0, digitC (nj n 1 % 10), digitC (nj n 0 % 10)]
  | 3 => [0, digitC (nj n 2 % 10), digitC (nj n 1 % 10), digitC (nj n 0 % 10)]
  | _ => [digitC (nj n 3 % 10), digitC (nj n 2 % 10), digitC (nj n 1 % 10), digitC (nj n 0 % 10)]
theorem nj_range {n : Int} (h0 : 0 ≤ n) (h1 : n ≤ 9999) : ∀ i, 0 ≤ nj n i ∧ nj n i ≤ 9999
  | 0 => ⟨h0, h1⟩
  | i+1 => by
    have := nj_range h0 h1 i
    simp only [nj]
    omega
theorem cRow_len (n : Int) (j : Nat) (h : j ≤ 4) : (cRow n j).length = 4 := by
  rcases (show j = 0 ∨ j = 1 ∨ j = 2 ∨ j = 3 ∨ j = 4 by omega) with rfl | rfl | rfl | rfl | rfl <;> rfl
theorem cRow_set (n : Int) (j : Nat) (h : j < 4) : (cRow n j).set (3 - j) (digitC (nj n j % 10)) = cRow n (j+1) := by
  rcases (show j = 0 ∨ j = 1 ∨ j = 2 ∨ j = 3 by omega) with rfl | rfl | rfl | rfl <;> rfl
theorem cRow_time {t : Int} (h0 : 0 ≤ t) (h1 : t ≤ 1439) : cRow (t/60*100+t%60) 4 = rowT t := by
  have e0 : (t/60*100+t%60) % 10 = t%60%10 := by omega
  have e1 : (t/60*100+t%60) / 10 % 10 = t%60/10 := by omega
  have e2 : (t/60*100+t%60) / 10 / 10 % 10 = t/60%10 := by omega
  have e3 : (t/60*100+t%60) / 10 / 10 / 10 % 10 = t/60/10 := by omega
  show [digitC ((t/60*100+t%60) / 10 / 10 / 10 % 10), digitC ((t/60*100+t%60) / 10 / 10 % 10), digitC ((t/60*100+t%60) / 10 % 10), digitC ((t/60*100+t%60) % 10)] = _
  rw [e0, e1, e2, e3]
  rfl

set_option maxHeartbeats 4000000 in
theorem counterRow_any (n : Int) (w : World) (h0 : 0 ≤ n) (h1 : n ≤ 9999) :
    Calls Try.prog 227 #[.int .i64 n, .int .i64 4] w fun e w' => ∃ v, e = .returned v ∧ OwnI w' w.heap.size v (cRow n 4) ∧ Below w.heap.size w w' := by
  obtain ⟨i0, hi, hz0, hz1, hz2⟩ := info_parts infoInt
  go_enter Try.func227, Try.ntmps227
  go_wp2_with (first | (at_make; refine wpList_make_full _ rfl (.tmp 7) (.tmp 7) 24 rfl w.heap.size 3 i0 (.int .i64 0) 1 Try.underlying24 hi hz0 hz1 .i64 .i64 4 4 4 rfl rfl rfl rfl (by rw [hz2]; omega) (by unfold maxLen; omega) (Nat.le_refl _) ?_; intro w1 hown hgrow))
  have HO0 := hid (OwnI.made hown)
  have hb1 := Below.of_grown hgrow
  clear hown hgrow
  go_loopw [0, 6] (fun nn ii wr => ∃ j : Nat, j ≤ 4 ∧ ii = .int .i64 (3 - (j : Int)) ∧ nn = .int .i64 (nj n j) ∧ Hid (OwnI wr w.heap.size (.slice (some ⟨w.heap.size, 0, none⟩) 4 4) (cRow n j)) ∧ Below w.heap.size w wr) (fun _ ii _ => (intOf ii + 1).toNat)
  case atStart => exact ⟨0, by omega, rfl, rfl, HO0, hb1⟩
  case round =>
    obtain ⟨j, hj, rfl, rfl, HO, hbel⟩ := hrel
    by_cases hlt : j < 4
    · have hr := nj_range h0 h1 j
      have hdig : inB (nj n j % 10) 0 9 = true := inB_mk (by omega) (by omega)
      have hidx := fun w => run_cells_index hdig w
      have HNX := hid (show nj n (j+1) = nj n j / 10 from rfl)
      have HST := hid (cRow_set n j hlt)
      have hlen := cRow_len n j hj
      have HLEN := hid hlen
      have hpos : (0 : Int) ≤ 3 - (j : Int) := by omega
      have hpos2 : 3 - (j : Int) < 4 := by omega
      have htn : (3 - (j : Int)).toNat = 3 - j := by omega
      generalize nj n j = m at *
      generalize hp : 3 - (j : Int) = p at *
      clear hlen
      go_wp2_with fail
      refine (digitCells_any _).mono ?_
      rintro e w2 ⟨rfl, hb2⟩
      have HO2 := hid (HO.out.later hb2)
      have hbel2 := hbel.trans (hb2.mono hbel.size)
      clear HO hbel hb2
      have hcA := HO2.out.cell HLEN.out (i := 3 - j) (by omega)
      have hfA := HO2.out.free HLEN.out (3 - j)
      obtain ⟨hs1, hs2⟩ := HO2.out.set HLEN.out (3 - j) (digitC (m % 10)) HST.out
      have HS := hid hs1
      have HG := hid (hbel2.setCell (p := ⟨w.heap.size, 3 - j, none⟩) (Nat.le_refl _) (.int .i64 (digitC (m % 10))))
      generalize (cRow n j).getD (3 - j) 0 = z at hcA
      clear hs1 hs2 HO2 hbel2
      go_wp2
      go_roundw
      case rel => exact ⟨j+1, by omega, int_eq (by omega), int_eq HNX.out.symm, HS, HG.out⟩
      case measure => simp [intOf]; omega
    · have hj4 : j = 4 := by omega
      subst hj4
      go_wp2
      go_ret
      exact ⟨_, rfl, HO.out, hbel⟩

set_option maxHeartbeats 2000000 in
theorem clockRow_any (t : Int) (w : World) (h0 : 0 ≤ t) (h1 : t ≤ 1439) :
    Calls Try.prog 170 #[.int .i64 t] w fun e w' => ∃ v, e = .returned v ∧ OwnI w' w.heap.size v (rowT t) ∧ Below w.heap.size w w' := by
  have q1 : 0 ≤ t/60 := by omega
  have q2 : 0 ≤ t%60 := by omega
  have q3 : t/60 ≤ 23 := by omega
  have q4 : t%60 ≤ 59 := by omega
  have HT := hid (cRow_time h0 h1)
  go_enter Try.func170, Try.ntmps170
  go_wp2_with fail
  refine (counterRow_any _ _ (by omega) (by omega)).mono ?_
  rintro e w1 ⟨v, rfl, ho, hb⟩
  rw [HT.out] at ho
  have HO := hid ho
  clear ho
  go_wp2
  go_ret
  exact ⟨_, rfl, HO.out, hb⟩

def clockR (t : Int) : List Int × Bool := if timeB t then (rowT t, true) else ([], false)
theorem clockR_no {t : Int} (h : timeB t = false) : clockR t = ([], false) := by simp [clockR, h]
theorem clockR_yes {t : Int} (h : timeB t = true) : clockR t = (rowT t, true) := by simp [clockR, h]
theorem clockR_len (t : Int) : (clockR t).1.length ≤ 1048576 := by
  unfold clockR
  split <;> simp [rowT]

set_option maxHeartbeats 1000000 in
theorem implClockRow_any (t : Int) (w : World) :
    Calls Try.prog 68 #[.int .i64 t] w fun e w' => ∃ v, e = .returned (.tuple #[v, .bool (clockR t).2]) ∧ OwnI w' w.heap.size v (clockR t).1 ∧ Below w.heap.size w w' := by
  cases hs : timeB t with
  | false =>
    rw [clockR_no hs]
    go_enter Try.func68, Try.ntmps68
    go_wp2_with (go_at_call 165; refine (isTime_any _ _).mono ?_; rintro e w1 ⟨rfl, rfl⟩)
    go_ret2
    exact ⟨_, rfl, OwnI.nil _ _, Below.refl _ _⟩
  | true =>
    have ht := timeB_true hs
    rw [clockR_yes hs]
    go_enter Try.func68, Try.ntmps68
    go_wp2_with (first | (go_at_call 165; refine (isTime_any _ _).mono ?_; rintro e w1 ⟨rfl, rfl⟩) | (go_at_call 170; refine (clockRow_any _ _ ht.1 ht.2).mono ?_; rintro e w2 ⟨v, rfl, ho, hb2⟩; have HO := hid ho; clear ho))
    go_ret2
    exact ⟨_, rfl, HO.out, hb2⟩

set_option maxHeartbeats 1000000 in
theorem specClockRow_any (t : Int) (w : World) :
    Calls Try.prog 76 #[.int .i64 t] w fun e w' => ∃ v, e = .returned (.tuple #[v, .bool (clockR t).2]) ∧ OwnI w' w.heap.size v (clockR t).1 ∧ Below w.heap.size w w' := by
  cases hs : timeB t with
  | false =>
    rw [clockR_no hs]
    go_enter Try.func76, Try.ntmps76
    go_wp2_with (go_at_call 167; refine (l6Time_any _ _).mono ?_; rintro e w1 ⟨rfl, rfl⟩)
    go_ret2
    exact ⟨_, rfl, OwnI.lit0 _ _ (Nat.le_refl _), (Below.refl _ _).alloc (Nat.le_refl _) _⟩
  | true =>
    have ht := timeB_true hs
    rw [clockR_yes hs]
    go_enter Try.func76, Try.ntmps76
    go_wp2_with (first | (go_at_call 167; refine (l6Time_any _ _).mono ?_; rintro e w1 ⟨rfl, rfl⟩) | (go_at_call 172; refine (l6Row_any _ _ ht.1 ht.2).mono ?_; rintro e w2 ⟨v, rfl, ho, hb2⟩; have HO := hid ho; clear ho))
    go_ret2
    exact ⟨_, rfl, HO.out, hb2⟩

end Go.Proofs.Ytfgjaefcfmjleaa
