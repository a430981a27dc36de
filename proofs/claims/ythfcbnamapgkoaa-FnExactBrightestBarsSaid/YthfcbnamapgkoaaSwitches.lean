import Derived.Test.YthfcbnamapgkoaaGhosts2
import Derived.Test.YthfcbnamapgkoaaBits
namespace Go.Proofs.Ythfcbnamapgkoaa
open Go.RowKit

/-! ## SwitchesOf -/
def swAt (xs : List (Int × Int)) (i : Nat) : Int := farI (xs.getD i (0,0)).1 (xs.getD ((i+1)%xs.length) (0,0)).1 + farI (xs.getD i (0,0)).2 (xs.getD ((i+1)%xs.length) (0,0)).2
def swTo (xs : List (Int × Int)) : Nat → Int
  | 0 => 0
  | i+1 => swTo xs i + swAt xs i
theorem swTo_range (xs : List (Int × Int)) : ∀ i, 0 ≤ swTo xs i ∧ swTo xs i ≤ 14 * i
  | 0 => by simp [swTo]
  | i+1 => by
    have h := swTo_range xs i
    have h1 := farI_range (xs.getD i (0,0)).1 (xs.getD ((i+1)%xs.length) (0,0)).1
    have h2 := farI_range (xs.getD i (0,0)).2 (xs.getD ((i+1)%xs.length) (0,0)).2
    simp only [swTo, swAt]
    omega
def slotsIn (xs : List (Int × Int)) : Prop := ∀ i, i < xs.length → (0 ≤ (xs.getD i (0,0)).1 ∧ (xs.getD i (0,0)).1 ≤ 127) ∧ (0 ≤ (xs.getD i (0,0)).2 ∧ (xs.getD i (0,0)).2 ≤ 127)
theorem slotsIn_of {k : Nat} {xs : List (Int × Int)} (hk : k ≤ 6) (h : frameB k xs = true) : slotsIn xs := by
  intro i hi
  have hb := (frameB_true h).2 i hi
  simp only [slotB, Bool.and_eq_true] at hb
  have h1 := inB_true hb.1
  have h2 := cellB_true hb.2
  have hp := pow6 hk
  have ht : topI (k : Int) = 2 ^ k - 1 := by simp [topI]
  rw [ht] at h1
  omega
def switchR (k : Int) (xs : List (Int × Int)) : Int × Bool := if drivenB k xs then (swTo xs xs.length, true) else (0, false)
theorem switchR_no {k : Int} {xs : List (Int × Int)} (h : drivenB k xs = false) : switchR k xs = (0, false) := by simp [switchR, h]
theorem switchR_yes {k : Int} {xs : List (Int × Int)} (h : drivenB k xs = true) : switchR k xs = (swTo xs xs.length, true) := by simp [switchR, h]

set_option maxHeartbeats 4000000 in
theorem switches_any (v1 : Value) (xs : List (Int × Int)) (w : World) (h1 : Two w v1 xs) (hl : xs.length ≤ 12) (hin : slotsIn xs) :
    Calls Try.prog 82 #[v1] w fun e w' => e = .returned (.int .i64 (swTo xs xs.length)) ∧ Below w.heap.size w w' := by
  obtain ⟨n, ao1, cap1, b1, o1, HN, rfl, ha1, hc1, hn1, hm1, HX⟩ := h1.open_
  clear h1
  have HIN := hid hin
  clear hin
  rw [HN.out] at hl
  go_enter Try.func82, Try.ntmps82
  go_wp2
  go_loopw [3, 4, 5, 6, 9] (fun ss _ _ _ ii wr => ∃ i : Nat, i ≤ n ∧ ii = .int .i64 i ∧ ss = .int .i64 (swTo xs i) ∧ Below w.heap.size w wr) (fun _ _ _ _ ii _ => n - (intOf ii).toNat)
  case atStart => exact ⟨0, by omega, rfl, rfl, Below.refl _ _⟩
  case round =>
    obtain ⟨i, hi, rfl, rfl, hbel⟩ := hrel
    by_cases hlt : i < n
    · obtain ⟨rfl, hb1⟩ := ha1 (by omega)
      have HC1 := hid (hc1 i hlt)
      have hmlt : (i+1) % n < n := Nat.mod_lt _ (by omega)
      have HC2 := hid (hc1 ((i+1)%n) hmlt)
      have hmod : ((i:Int)+1).tmod (n:Int) = (((i+1)%n : Nat) : Int) := rfl
      have hmod' : ((i:Int)+1) % (n:Int) = (((i+1)%n : Nat) : Int) := rfl
      have hra := HIN.out i (by rw [HN.out]; exact hlt)
      have hrb := HIN.out ((i+1)%n) (by rw [HN.out]; exact hmlt)
      have HS := hid (show swTo xs (i+1) = swTo xs i + (farI (xs.getD i (0,0)).1 (xs.getD ((i+1)%n) (0,0)).1 + farI (xs.getD i (0,0)).2 (xs.getD ((i+1)%n) (0,0)).2) by rw [swTo, swAt, HN.out])
      have hsr := swTo_range xs i
      have e1 : wr.cell? ⟨b1, o1+i*2, none⟩ = some (.int .i64 (xs.getD i (0,0)).1) := (hbel.cell (by exact hb1)).trans HC1.out.1
      have e2 : wr.cell? ⟨b1, o1+i*2+1, none⟩ = some (.int .i64 (xs.getD i (0,0)).2) := (hbel.cell (by exact hb1)).trans HC1.out.2
      have e3 : wr.cell? ⟨b1, o1+(i+1)%n*2, none⟩ = some (.int .i64 (xs.getD ((i+1)%n) (0,0)).1) := (hbel.cell (by exact hb1)).trans HC2.out.1
      have e4 : wr.cell? ⟨b1, o1+(i+1)%n*2+1, none⟩ = some (.int .i64 (xs.getD ((i+1)%n) (0,0)).2) := (hbel.cell (by exact hb1)).trans HC2.out.2
      generalize (xs.getD i (0,0)).1 = c at e1 HS hra
      generalize (xs.getD i (0,0)).2 = b at e2 HS hra
      generalize (xs.getD ((i+1)%n) (0,0)).1 = c' at e3 HS hrb
      generalize (xs.getD ((i+1)%n) (0,0)).2 = b' at e4 HS hrb
      generalize (i+1) % n = m at *
      clear hc1 ha1 HC1 HC2
      have hX := xorI_range hra.1.1 hra.1.2 hrb.1.1 hrb.1.2
      have hY := xorI_range hra.2.1 hra.2.2 hrb.2.1 hrb.2.2
      have hXc := cntI_range (xorI c c')
      have hYc := cntI_range (xorI b b')
      have hi0 : (0 : Int) ≤ i := by omega
      have hin' : (i : Int) < n := by omega
      have hm0 : (0 : Int) ≤ m := by omega
      have hmn : (m : Int) < n := by omega
      have hn0' : ¬ n = 0 := by omega
      have hb1' : b1 < wr.heap.size := Nat.lt_of_lt_of_le hb1 hbel.size
      have e3' : ∀ o, (wr.alloc o).cell? ⟨b1, o1+m*2, none⟩ = some (.int .i64 c') := fun o => (((Below.refl wr.heap.size wr).alloc (Nat.le_refl _) o).cell (by exact hb1')).trans e3
      have e4' : ∀ o, (wr.alloc o).cell? ⟨b1, o1+m*2+1, none⟩ = some (.int .i64 b') := fun o => (((Below.refl wr.heap.size wr).alloc (Nat.le_refl _) o).cell (by exact hb1')).trans e4
      have hbelA := (hbel.alloc hbel.size (.cells #[.int .i64 c, .int .i64 b] 67)).alloc (Nat.le_trans hbel.size (by simp)) (.cells #[.int .i64 c', .int .i64 b'] 67)
      have q1 : ((wr.alloc (.cells #[.int .i64 c, .int .i64 b] 67)).alloc (.cells #[.int .i64 c', .int .i64 b'] 67)).cell? ⟨wr.heap.size, 0, none⟩ = some (.int .i64 c) := by simp [go_sem]
      have q2 : ((wr.alloc (.cells #[.int .i64 c, .int .i64 b] 67)).alloc (.cells #[.int .i64 c', .int .i64 b'] 67)).cell? ⟨wr.heap.size, 1, none⟩ = some (.int .i64 b) := by simp [go_sem]
      have q3 : ((wr.alloc (.cells #[.int .i64 c, .int .i64 b] 67)).alloc (.cells #[.int .i64 c', .int .i64 b'] 67)).cell? ⟨wr.heap.size+1, 0, none⟩ = some (.int .i64 c') := by simp [go_sem]
      have q4 : ((wr.alloc (.cells #[.int .i64 c, .int .i64 b] 67)).alloc (.cells #[.int .i64 c', .int .i64 b'] 67)).cell? ⟨wr.heap.size+1, 1, none⟩ = some (.int .i64 b') := by simp [go_sem]
      have hw1 : IntKind.i64.wrap (cntI (xorI c c') + cntI (xorI b b')) = cntI (xorI c c') + cntI (xorI b b') := IntWalk.i64_in _ (by omega)
      have hw2 : IntKind.i64.wrap (swTo xs i + (cntI (xorI c c') + cntI (xorI b b'))) = swTo xs i + (cntI (xorI c c') + cntI (xorI b b')) := IntWalk.i64_in _ (by omega)
      go_wp2
      clear e1 e2 e3 e4 e3' e4' hbel
      generalize ((wr.alloc (.cells #[.int .i64 c, .int .i64 b] 67)).alloc (.cells #[.int .i64 c', .int .i64 b'] 67)) = wi at *
      generalize wr.heap.size = p0 at *
      have HA : ∀ w, Calls Try.prog 64 #[.int .i64 (bits .xor .i64 c c')] w (fun e w' => e = .returned (.int .i64 (cntI (xorI c c'))) ∧ w' = w) := fun w => (count_any (xorI c c') w hX.1 hX.2).mono fun _ _ h => ⟨h.1, h.2.symm⟩
      have HA2 : ∀ w, Calls Try.prog 64 #[.int .i64 (bits .xor .i64 b b')] w (fun e w' => e = .returned (.int .i64 (cntI (xorI b b'))) ∧ w' = w) := fun w => (count_any (xorI b b') w hY.1 hY.2).mono fun _ _ h => ⟨h.1, h.2.symm⟩
      go_quiet ((go_at_call 64; first | (with_reducible exact Calls.quiet_of_same (HA _)) | (with_reducible exact Calls.quiet_of_same (HA2 _))))
      go_wp2
      go_roundw
      case rel => exact ⟨i+1, by omega, by go_num, int_eq (by rw [HS.out]; rfl), below_drewN hbelA _⟩
      case measure => simp [intOf]; omega
    · go_wp2
      go_ret
      exact ⟨by rw [HN.out, show i = n by omega]; rfl, hbel⟩

set_option maxHeartbeats 4000000 in
theorem l8Switches_any (v1 : Value) (xs : List (Int × Int)) (w : World) (h1 : Two w v1 xs) (hl : xs.length ≤ 12) (hin : slotsIn xs) :
    Calls Try.prog 81 #[v1] w fun e w' => e = .returned (.int .i64 (swTo xs xs.length)) ∧ Below w.heap.size w w' := by
  obtain ⟨n, ao1, cap1, b1, o1, HN, rfl, ha1, hc1, hn1, hm1, HX⟩ := h1.open_
  clear h1
  have HIN := hid hin
  clear hin
  have HL := hid hl
  rw [HN.out] at hl
  go_enter Try.func81, Try.ntmps81
  go_wp2
  go_loopw [3, 4, 5] (fun ss ii _ wr => ∃ i : Nat, i ≤ n ∧ ii = .int .i64 i ∧ ss = .int .i64 (swTo xs i) ∧ Below w.heap.size w wr) (fun _ ii _ _ => n - (intOf ii).toNat)
  case atStart => exact ⟨0, by omega, rfl, rfl, Below.refl _ _⟩
  case round =>
    obtain ⟨i, hi, rfl, rfl, hbel⟩ := hrel
    by_cases hlt : i < n
    · obtain ⟨rfl, hb1⟩ := ha1 (by omega)
      have HC1 := hid (hc1 i hlt)
      have hmlt : (i+1) % n < n := Nat.mod_lt _ (by omega)
      have hil : i < xs.length := by rw [HN.out]; exact hlt
      have hra := HIN.out i hil
      have hrb := HIN.out ((i+1)%n) (by rw [HN.out]; exact hmlt)
      have HS := hid (show swTo xs (i+1) = swTo xs i + (farI (xs.getD i (0,0)).1 (xs.getD ((i+1)%n) (0,0)).1 + farI (xs.getD i (0,0)).2 (xs.getD ((i+1)%n) (0,0)).2) by rw [swTo, swAt, HN.out])
      have hsr := swTo_range xs i
      have HNX := hid (l8Next_any i _ xs wr (HX.out.later hbel) hil HL.out)
      rw [HN.out] at HNX
      have e1 : wr.cell? ⟨b1, o1+i*2, none⟩ = some (.int .i64 (xs.getD i (0,0)).1) := (hbel.cell (by exact hb1)).trans HC1.out.1
      have e2 : wr.cell? ⟨b1, o1+i*2+1, none⟩ = some (.int .i64 (xs.getD i (0,0)).2) := (hbel.cell (by exact hb1)).trans HC1.out.2
      generalize (xs.getD i (0,0)).1 = c at e1 HS hra
      generalize (xs.getD i (0,0)).2 = b at e2 HS hra
      generalize (xs.getD ((i+1)%n) (0,0)).1 = c' at HNX HS hrb
      generalize (xs.getD ((i+1)%n) (0,0)).2 = b' at HNX HS hrb
      clear hmlt hc1 ha1 HC1
      have hX := xorI_range hra.1.1 hra.1.2 hrb.1.1 hrb.1.2
      have hY := xorI_range hra.2.1 hra.2.2 hrb.2.1 hrb.2.2
      have hXc := cntI_range (xorI c c')
      have hYc := cntI_range (xorI b b')
      have hi0 : (0 : Int) ≤ i := by omega
      have hin' : (i : Int) < n := by omega
      have hb1' : b1 < wr.heap.size := Nat.lt_of_lt_of_le hb1 hbel.size
      have HA : ∀ w, Calls Try.prog 96 #[.int .i64 (bits .xor .i64 c c')] w (fun e w' => e = .returned (.int .i64 (cntI (xorI c c'))) ∧ w' = w) := fun w => (l2Count_any (xorI c c') w hX.1 hX.2).mono fun _ _ h => ⟨h.1, h.2.symm⟩
      have HA2 : ∀ w, Calls Try.prog 96 #[.int .i64 (bits .xor .i64 b b')] w (fun e w' => e = .returned (.int .i64 (cntI (xorI b b'))) ∧ w' = w) := fun w => (l2Count_any (xorI b b') w hY.1 hY.2).mono fun _ _ h => ⟨h.1, h.2.symm⟩
      have hw1 : IntKind.i64.wrap (swTo xs i + cntI (xorI c c')) = swTo xs i + cntI (xorI c c') := IntWalk.i64_in _ (by omega)
      have hw2 : IntKind.i64.wrap (swTo xs i + cntI (xorI c c') + cntI (xorI b b')) = swTo xs i + cntI (xorI c c') + cntI (xorI b b') := IntWalk.i64_in _ (by omega)
      go_wp2_with (go_at_call 83; refine HNX.out.mono ?_; rintro e w2 ⟨rfl, hb2⟩; have e1' := (hb2.cell (by exact hb1')).trans e1; have e2' := (hb2.cell (by exact hb1')).trans e2; have hbel2 := hbel.trans (hb2.mono hbel.size))
      have hbelA := hbel2.alloc hbel2.size (.cells #[.int .i64 c', .int .i64 b'] 67)
      have q1 : (w2.alloc (.cells #[.int .i64 c', .int .i64 b'] 67)).cell? ⟨w2.heap.size, 0, none⟩ = some (.int .i64 c') := by simp [go_sem]
      have q2 : (w2.alloc (.cells #[.int .i64 c', .int .i64 b'] 67)).cell? ⟨w2.heap.size, 1, none⟩ = some (.int .i64 b') := by simp [go_sem]
      have q3 : (w2.alloc (.cells #[.int .i64 c', .int .i64 b'] 67)).cell? ⟨b1, o1+i*2, none⟩ = some (.int .i64 c) := (((Below.refl w2.heap.size w2).alloc (Nat.le_refl _) _).cell (by exact Nat.lt_of_lt_of_le hb1' hb2.size)).trans e1'
      have q4 : (w2.alloc (.cells #[.int .i64 c', .int .i64 b'] 67)).cell? ⟨b1, o1+i*2+1, none⟩ = some (.int .i64 b) := (((Below.refl w2.heap.size w2).alloc (Nat.le_refl _) _).cell (by exact Nat.lt_of_lt_of_le hb1' hb2.size)).trans e2'
      clear e1 e2 hbel HNX hb2 hbel2 e1' e2'
      generalize (w2.alloc (.cells #[.int .i64 c', .int .i64 b'] 67)) = wi at *
      generalize w2.heap.size = p0 at *
      go_quiet ((go_at_call 96; first | (with_reducible exact Calls.quiet_of_same (HA _)) | (with_reducible exact Calls.quiet_of_same (HA2 _))))
      go_wp2
      go_roundw
      case rel => exact ⟨i+1, by omega, by go_num, int_eq (by rw [HS.out, ← Int.add_assoc]; rfl), below_drewN hbelA _⟩
      case measure => simp [intOf]; omega
    · go_wp2
      go_ret
      exact ⟨by rw [HN.out, show i = n by omega]; rfl, hbel⟩

set_option maxHeartbeats 1000000 in
theorem implSwitchesOf_any (k : Int) (v1 : Value) (xs : List (Int × Int)) (w : World) (h1 : Two w v1 xs) :
    Calls Try.prog 48 #[.int .i64 k, v1] w fun e w' => e = .returned (.tuple #[.int .i64 (switchR k xs).1, .bool (switchR k xs).2]) ∧ Below w.heap.size w w' := by
  have HX := hid h1
  cases hs : drivenB k xs with
  | false =>
    rw [switchR_no hs]
    go_enter Try.func48, Try.ntmps48
    go_wp2_with (go_at_call 74; refine (isDriven_any _ _ xs _ HX.out).mono ?_; rintro e w1 ⟨rfl, hb⟩)
    go_ret2
    exact ⟨rfl, hb⟩
  | true =>
    obtain ⟨j, rfl, hj1, hj6⟩ := kNat (drivenB_true hs).1
    have hl := (frameB_true (drivenB_true hs).2).1
    have HIN := hid (slotsIn_of hj6 (drivenB_true hs).2)
    rw [switchR_yes hs]
    go_enter Try.func48, Try.ntmps48
    go_wp2_with (first | (go_at_call 74; refine (isDriven_any _ _ xs _ HX.out).mono ?_; rintro e w1 ⟨rfl, hb⟩; have HX1 := hid (HX.out.later hb)) | (go_at_call 82; refine (switches_any _ xs _ HX1.out hl HIN.out).mono ?_; rintro e w2 ⟨rfl, hb2⟩))
    go_ret2
    exact ⟨rfl, hb.trans (hb2.mono hb.size)⟩

set_option maxHeartbeats 1000000 in
theorem specSwitchesOf_any (k : Int) (v1 : Value) (xs : List (Int × Int)) (w : World) (h1 : Two w v1 xs) :
    Calls Try.prog 47 #[.int .i64 k, v1] w fun e w' => e = .returned (.tuple #[.int .i64 (switchR k xs).1, .bool (switchR k xs).2]) ∧ Below w.heap.size w w' := by
  have HX := hid h1
  cases hs : drivenB k xs with
  | false =>
    rw [switchR_no hs]
    go_enter Try.func47, Try.ntmps47
    go_wp2_with (go_at_call 73; refine (l8Good_any _ _ xs _ HX.out).mono ?_; rintro e w1 ⟨rfl, hb⟩)
    go_ret2
    exact ⟨rfl, hb⟩
  | true =>
    obtain ⟨j, rfl, hj1, hj6⟩ := kNat (drivenB_true hs).1
    have hl := (frameB_true (drivenB_true hs).2).1
    have HIN := hid (slotsIn_of hj6 (drivenB_true hs).2)
    rw [switchR_yes hs]
    go_enter Try.func47, Try.ntmps47
    go_wp2_with (first | (go_at_call 73; refine (l8Good_any _ _ xs _ HX.out).mono ?_; rintro e w1 ⟨rfl, hb⟩; have HX1 := hid (HX.out.later hb)) | (go_at_call 81; refine (l8Switches_any _ xs _ HX1.out hl HIN.out).mono ?_; rintro e w2 ⟨rfl, hb2⟩))
    go_ret2
    exact ⟨rfl, hb.trans (hb2.mono hb.size)⟩

end Go.Proofs.Ythfcbnamapgkoaa
