import Derived.Test.YtfgjaefcfmjleaaLit
namespace Go.Proofs.Ytfgjaefcfmjleaa
open Go.RowKit

/-! ## BrightestTime, DarkestTime -/
def bestTo (g : Int → Int → Bool) : Nat → Nat
  | 0 => 0
  | t+1 => if g (litT (t : Int)) (litT (bestTo g t : Int)) then t else bestTo g t
theorem bestTo_lt (g : Int → Int → Bool) : ∀ t, t ≤ 1440 → bestTo g t ≤ 1439
  | 0, _ => by simp [bestTo]
  | t+1, h => by
    have := bestTo_lt g t (by omega)
    simp only [bestTo]
    split <;> omega
theorem bestTo_yes {g : Int → Int → Bool} {t : Nat} (h : g (litT (t : Int)) (litT (bestTo g t : Int)) = true) : bestTo g (t+1) = t := by simp [bestTo, h]
theorem bestTo_no {g : Int → Int → Bool} {t : Nat} (h : g (litT (t : Int)) (litT (bestTo g t : Int)) = false) : bestTo g (t+1) = bestTo g t := by simp [bestTo, h]
def gtB (a b : Int) : Bool := decide (a > b)
def ltB (a b : Int) : Bool := decide (a < b)
theorem bestTo_one_gt : bestTo gtB 1 = 0 := by rw [bestTo]; split <;> rfl
theorem bestTo_one_lt : bestTo ltB 1 = 0 := by rw [bestTo]; split <;> rfl
def bestR (g : Int → Int → Bool) : Int × Int := (((bestTo g 1440 : Nat) : Int), litT ((bestTo g 1440 : Nat) : Int))
def brightTimeR : Int × Int := bestR gtB
def darkTimeR : Int × Int := bestR ltB
theorem bestR_1 (g : Int → Int → Bool) : (bestR g).1 = ((bestTo g 1440 : Nat) : Int) := rfl
theorem bestR_2 (g : Int → Int → Bool) : (bestR g).2 = litT ((bestTo g 1440 : Nat) : Int) := rfl

set_option maxRecDepth 100000 in
set_option maxHeartbeats 2000000 in
theorem implBrightestTime_any (w : World) :
    Calls Try.prog 57 #[] w fun e w' => e = .returned (.tuple #[.int .i64 brightTimeR.1, .int .i64 brightTimeR.2]) ∧ Below w.heap.size w w' := by
  have HR : Hid (brightTimeR.1 = ((bestTo gtB 1440 : Nat) : Int) ∧ brightTimeR.2 = litT ((bestTo gtB 1440 : Nat) : Int)) := hid ⟨rfl, rfl⟩
  go_enter Try.func57, Try.ntmps57
  go_wp2
  go_loopw [2, 3, 4] (fun bb _ tt wr => ∃ t : Nat, t ≤ 1440 ∧ tt = .int .i64 t ∧ bb = .int .i64 (bestTo gtB t : Nat) ∧ Below w.heap.size w wr) (fun _ _ tt _ => 1440 - (intOf tt).toNat)
  case atStart => exact ⟨0, by omega, rfl, rfl, Below.refl _ _⟩
  case round =>
    obtain ⟨t, ht, rfl, rfl, hbel⟩ := hrel
    have hb9 := bestTo_lt gtB t ht
    have HYES := hid (bestTo_yes (g := gtB) (t := t))
    have HNO := hid (bestTo_no (g := gtB) (t := t))
    by_cases hlt : t < 1440
    · generalize bestTo gtB t = b at *
      have ht0 : (0 : Int) ≤ t := by omega
      have ht1 : (t : Int) ≤ 1439 := by omega
      have hb0 : (0 : Int) ≤ b := by omega
      have hb1 : (b : Int) ≤ 1439 := by omega
      go_wp2_with fail
      refine (litAt_any (t : Int) _ ht0 ht1).mono ?_
      rintro e w2 ⟨rfl, hb2⟩
      have hbel2 := hbel.trans (hb2.mono hbel.size)
      clear hb2 hbel
      go_wp2_with fail
      refine (litAt_any (b : Int) _ hb0 hb1).mono ?_
      rintro e w3 ⟨rfl, hb3⟩
      have hbel3 := hbel2.trans (hb3.mono hbel2.size)
      clear hb3 hbel2
      have hx := litT_range t
      have hy := litT_range b
      generalize litT (t : Int) = x at *
      generalize litT (b : Int) = y at *
      by_cases hg : x > y
      · have HE := hid (HYES.out (by simpa [gtB] using hg))
        go_wp2
        go_roundw
        case rel => exact ⟨t+1, by omega, by go_num, int_eq (by rw [HE.out]), hbel3⟩
        case measure => simp [intOf]; omega
      · have HE := hid (HNO.out (by simpa [gtB] using hg))
        go_wp2
        go_roundw
        case rel => exact ⟨t+1, by omega, by go_num, int_eq (by rw [HE.out]), hbel3⟩
        case measure => simp [intOf]; omega
    · obtain rfl : t = 1440 := by omega
      have hb1 : ((bestTo gtB 1440 : Nat) : Int) ≤ 1439 := by omega
      have hb0 : (0 : Int) ≤ ((bestTo gtB 1440 : Nat) : Int) := by omega
      clear HYES HNO
      generalize bestTo gtB 1440 = b at *
      go_wp2_with fail
      refine (litAt_any (b : Int) _ hb0 hb1).mono ?_
      rintro e w3 ⟨rfl, hb3⟩
      go_wp2
      go_ret2
      exact ⟨by rw [HR.out.1, HR.out.2]; rfl, hbel.trans (hb3.mono hbel.size)⟩

set_option maxRecDepth 100000 in
set_option maxHeartbeats 2000000 in
theorem specBrightestTime_any (w : World) :
    Calls Try.prog 58 #[] w fun e w' => e = .returned (.tuple #[.int .i64 brightTimeR.1, .int .i64 brightTimeR.2]) ∧ Below w.heap.size w w' := by
  have HR : Hid (brightTimeR.1 = ((bestTo gtB 1440 : Nat) : Int) ∧ brightTimeR.2 = litT ((bestTo gtB 1440 : Nat) : Int)) := hid ⟨rfl, rfl⟩
  go_enter Try.func58, Try.ntmps58
  go_wp2
  go_loopw [2, 3] (fun bb tt wr => ∃ t : Nat, t ≤ 1440 ∧ tt = .int .i64 t ∧ bb = .int .i64 (bestTo gtB t : Nat) ∧ Below w.heap.size w wr) (fun _ tt _ => 1440 - (intOf tt).toNat)
  case atStart => exact ⟨1, by omega, rfl, int_eq (by rw [bestTo_one_gt]; rfl), Below.refl _ _⟩
  case round =>
    obtain ⟨t, ht, rfl, rfl, hbel⟩ := hrel
    have hb9 := bestTo_lt gtB t ht
    have HYES := hid (bestTo_yes (g := gtB) (t := t))
    have HNO := hid (bestTo_no (g := gtB) (t := t))
    by_cases hlt : t < 1440
    · generalize bestTo gtB t = b at *
      have ht0 : (0 : Int) ≤ t := by omega
      have ht1 : (t : Int) ≤ 1439 := by omega
      have hb0 : (0 : Int) ≤ b := by omega
      have hb1 : (b : Int) ≤ 1439 := by omega
      go_wp2_with fail
      refine (l6Lit_any (t : Int) _ ht0 ht1).mono ?_
      rintro e w2 ⟨rfl, hb2⟩
      have hbel2 := hbel.trans (hb2.mono hbel.size)
      clear hb2 hbel
      go_wp2_with fail
      refine (l6Lit_any (b : Int) _ hb0 hb1).mono ?_
      rintro e w3 ⟨rfl, hb3⟩
      have hbel3 := hbel2.trans (hb3.mono hbel2.size)
      clear hb3 hbel2
      have hx := litT_range t
      have hy := litT_range b
      generalize litT (t : Int) = x at *
      generalize litT (b : Int) = y at *
      by_cases hg : x > y
      · have HE := hid (HYES.out (by simpa [gtB] using hg))
        go_wp2
        go_roundw
        case rel => exact ⟨t+1, by omega, by go_num, int_eq (by rw [HE.out]), hbel3⟩
        case measure => simp [intOf]; omega
      · have HE := hid (HNO.out (by simpa [gtB] using hg))
        go_wp2
        go_roundw
        case rel => exact ⟨t+1, by omega, by go_num, int_eq (by rw [HE.out]), hbel3⟩
        case measure => simp [intOf]; omega
    · obtain rfl : t = 1440 := by omega
      have hb1 : ((bestTo gtB 1440 : Nat) : Int) ≤ 1439 := by omega
      have hb0 : (0 : Int) ≤ ((bestTo gtB 1440 : Nat) : Int) := by omega
      clear HYES HNO
      generalize bestTo gtB 1440 = b at *
      go_wp2_with fail
      refine (l6Lit_any (b : Int) _ hb0 hb1).mono ?_
      rintro e w3 ⟨rfl, hb3⟩
      go_wp2
      go_ret2
      exact ⟨by rw [HR.out.1, HR.out.2]; rfl, hbel.trans (hb3.mono hbel.size)⟩

set_option maxRecDepth 100000 in
set_option maxHeartbeats 2000000 in
theorem implDarkestTime_any (w : World) :
    Calls Try.prog 59 #[] w fun e w' => e = .returned (.tuple #[.int .i64 darkTimeR.1, .int .i64 darkTimeR.2]) ∧ Below w.heap.size w w' := by
  have HR : Hid (darkTimeR.1 = ((bestTo ltB 1440 : Nat) : Int) ∧ darkTimeR.2 = litT ((bestTo ltB 1440 : Nat) : Int)) := hid ⟨rfl, rfl⟩
  go_enter Try.func59, Try.ntmps59
  go_wp2
  go_loopw [2, 3, 4] (fun bb _ tt wr => ∃ t : Nat, t ≤ 1440 ∧ tt = .int .i64 t ∧ bb = .int .i64 (bestTo ltB t : Nat) ∧ Below w.heap.size w wr) (fun _ _ tt _ => 1440 - (intOf tt).toNat)
  case atStart => exact ⟨0, by omega, rfl, rfl, Below.refl _ _⟩
  case round =>
    obtain ⟨t, ht, rfl, rfl, hbel⟩ := hrel
    have hb9 := bestTo_lt ltB t ht
    have HYES := hid (bestTo_yes (g := ltB) (t := t))
    have HNO := hid (bestTo_no (g := ltB) (t := t))
    by_cases hlt : t < 1440
    · generalize bestTo ltB t = b at *
      have ht0 : (0 : Int) ≤ t := by omega
      have ht1 : (t : Int) ≤ 1439 := by omega
      have hb0 : (0 : Int) ≤ b := by omega
      have hb1 : (b : Int) ≤ 1439 := by omega
      go_wp2_with fail
      refine (litAt_any (t : Int) _ ht0 ht1).mono ?_
      rintro e w2 ⟨rfl, hb2⟩
      have hbel2 := hbel.trans (hb2.mono hbel.size)
      clear hb2 hbel
      go_wp2_with fail
      refine (litAt_any (b : Int) _ hb0 hb1).mono ?_
      rintro e w3 ⟨rfl, hb3⟩
      have hbel3 := hbel2.trans (hb3.mono hbel2.size)
      clear hb3 hbel2
      have hx := litT_range t
      have hy := litT_range b
      generalize litT (t : Int) = x at *
      generalize litT (b : Int) = y at *
      by_cases hg : x < y
      · have HE := hid (HYES.out (by simpa [ltB] using hg))
        go_wp2
        go_roundw
        case rel => exact ⟨t+1, by omega, by go_num, int_eq (by rw [HE.out]), hbel3⟩
        case measure => simp [intOf]; omega
      · have HE := hid (HNO.out (by simpa [ltB] using hg))
        go_wp2
        go_roundw
        case rel => exact ⟨t+1, by omega, by go_num, int_eq (by rw [HE.out]), hbel3⟩
        case measure => simp [intOf]; omega
    · obtain rfl : t = 1440 := by omega
      have hb1 : ((bestTo ltB 1440 : Nat) : Int) ≤ 1439 := by omega
      have hb0 : (0 : Int) ≤ ((bestTo ltB 1440 : Nat) : Int) := by omega
      clear HYES HNO
      generalize bestTo ltB 1440 = b at *
      go_wp2_with fail
      refine (litAt_any (b : Int) _ hb0 hb1).mono ?_
      rintro e w3 ⟨rfl, hb3⟩
      go_wp2
      go_ret2
      exact ⟨by rw [HR.out.1, HR.out.2]; rfl, hbel.trans (hb3.mono hbel.size)⟩

set_option maxRecDepth 100000 in
set_option maxHeartbeats 2000000 in
theorem specDarkestTime_any (w : World) :
    Calls Try.prog 60 #[] w fun e w' => e = .returned (.tuple #[.int .i64 darkTimeR.1, .int .i64 darkTimeR.2]) ∧ Below w.heap.size w w' := by
  have HR : Hid (darkTimeR.1 = ((bestTo ltB 1440 : Nat) : Int) ∧ darkTimeR.2 = litT ((bestTo ltB 1440 : Nat) : Int)) := hid ⟨rfl, rfl⟩
  go_enter Try.func60, Try.ntmps60
  go_wp2
  go_loopw [2, 3] (fun bb tt wr => ∃ t : Nat, t ≤ 1440 ∧ tt = .int .i64 t ∧ bb = .int .i64 (bestTo ltB t : Nat) ∧ Below w.heap.size w wr) (fun _ tt _ => 1440 - (intOf tt).toNat)
  case atStart => exact ⟨1, by omega, rfl, int_eq (by rw [bestTo_one_lt]; rfl), Below.refl _ _⟩
  case round =>
    obtain ⟨t, ht, rfl, rfl, hbel⟩ := hrel
    have hb9 := bestTo_lt ltB t ht
    have HYES := hid (bestTo_yes (g := ltB) (t := t))
    have HNO := hid (bestTo_no (g := ltB) (t := t))
    by_cases hlt : t < 1440
    · generalize bestTo ltB t = b at *
      have ht0 : (0 : Int) ≤ t := by omega
      have ht1 : (t : Int) ≤ 1439 := by omega
      have hb0 : (0 : Int) ≤ b := by omega
      have hb1 : (b : Int) ≤ 1439 := by omega
      go_wp2_with fail
      refine (l6Lit_any (t : Int) _ ht0 ht1).mono ?_
      rintro e w2 ⟨rfl, hb2⟩
      have hbel2 := hbel.trans (hb2.mono hbel.size)
      clear hb2 hbel
      go_wp2_with fail
      refine (l6Lit_any (b : Int) _ hb0 hb1).mono ?_
      rintro e w3 ⟨rfl, hb3⟩
      have hbel3 := hbel2.trans (hb3.mono hbel2.size)
      clear hb3 hbel2
      have hx := litT_range t
      have hy := litT_range b
      generalize litT (t : Int) = x at *
      generalize litT (b : Int) = y at *
      by_cases hg : x < y
      · have HE := hid (HYES.out (by simpa [ltB] using hg))
        go_wp2
        go_roundw
        case rel => exact ⟨t+1, by omega, by go_num, int_eq (by rw [HE.out]), hbel3⟩
        case measure => simp [intOf]; omega
      · have HE := hid (HNO.out (by simpa [ltB] using hg))
        go_wp2
        go_roundw
        case rel => exact ⟨t+1, by omega, by go_num, int_eq (by rw [HE.out]), hbel3⟩
        case measure => simp [intOf]; omega
    · obtain rfl : t = 1440 := by omega
      have hb1 : ((bestTo ltB 1440 : Nat) : Int) ≤ 1439 := by omega
      have hb0 : (0 : Int) ≤ ((bestTo ltB 1440 : Nat) : Int) := by omega
      clear HYES HNO
      generalize bestTo ltB 1440 = b at *
      go_wp2_with fail
      refine (l6Lit_any (b : Int) _ hb0 hb1).mono ?_
      rintro e w3 ⟨rfl, hb3⟩
      go_wp2
      go_ret2
      exact ⟨by rw [HR.out.1, HR.out.2]; rfl, hbel.trans (hb3.mono hbel.size)⟩

end Go.Proofs.Ytfgjaefcfmjleaa
