/-
  SpecLeast: LeastOrder and LeastRing of the reference.
-/
import Derived.Test.YtgbnoljmmenlbaaSpecLaw
import Derived.Test.YtgbnoljmmenlbaaFirst4
namespace Go.Proofs.Ytgbnoljmmenlbaa
open Go.RowKit

theorem l1MostT_any (a b : Int) (w : World) : Calls Try.prog 34 #[.int .i64 a, .int .i64 b] w fun e w' => e = .returned (.int .i64 (if a > b then a else b)) ∧ w = w' := by
  by_cases h : a > b
  · go_enter Try.func34, Try.ntmps34
    go_wp2
    go_ret
    exact ⟨ret_int (by first | rfl | (split <;> omega)), rfl⟩
  · go_enter Try.func34, Try.ntmps34
    go_wp2
    go_ret
    exact ⟨ret_int (by first | rfl | (split <;> omega)), rfl⟩

set_option maxRecDepth 100000 in
set_option maxHeartbeats 4000000 in
theorem specLeastOrder_any (v1 : Value) (xs : List Int) (w : World) (h1 : Ints w v1 xs) :
    Calls Try.prog 9 #[v1] w fun e w' =>
      ∃ v, e = .returned (.tuple #[v, .int .i64 (lsR xs false).2.1, .bool (lsR xs false).2.2]) ∧ OwnI w' w.heap.size v (lsR xs false).1 ∧ Below w.heap.size w w' := by
  have HX := hid h1
  clear h1
  cases hs : orderB xs with
  | false =>
    rw [lsR_no hs]
    go_enter Try.func9, Try.ntmps9
    go_wp2_with fail
    refine (l4Order_any _ xs _ HX.out).mono ?_
    rintro e w1 ⟨rfl, m, rfl⟩
    rw [hs]
    have HB := hid (below_drewN (Below.refl w.heap.size w) m)
    go_wp2
    go_ret3
    exact ⟨_, rfl, OwnI.lit0 _ _ HB.out.size, HB.out.alloc HB.out.size _⟩
  | true =>
    rw [lsR_yes hs]
    have HLAW := hid (spL_law hs)
    have HD := hid (order_dig9 hs)
    have HS := hid hs
    have hS := setO_lt (fun x hx => (orderB_facts hs).2 x hx)
    clear hs
    go_enter Try.func9, Try.ntmps9
    go_wp2_with fail
    refine (l4Order_any _ xs _ HX.out).mono ?_
    rintro e w1 ⟨rfl, m, rfl⟩
    rw [HS.out]
    have HB := hid (below_drewN (Below.refl w.heap.size w) m)
    have HO0 : Hid (OwnI ((w.drewN m).alloc (.cells #[] 3)) w.heap.size (.slice (some ⟨w.heap.size, 0, none⟩) 0 0) []) := hid (OwnI.lit0 (w.drewN m) w.heap.size HB.out.size)
    have HB1 := hid (HB.out.alloc HB.out.size (.cells #[] 3))
    clear HB
    go_wp2_with fail
    refine (l4Set_any _ xs _ (HX.out.later HB1.out) HD.out).mono ?_
    rintro e w2 ⟨rfl, rfl⟩
    go_wp2_with fail
    refine (l4Rest_any (-1) (.inl rfl) _).mono ?_
    rintro e w2 ⟨g, rfl, hT, hg, hb2⟩
    have HT := hid hT
    have HB2 := hid (HB1.out.trans (hb2.mono HB1.out.size))
    have HO2 := hid (HO0.out.later hb2)
    clear hT hb2 HO0 HB1
    generalize setO xs = S at *
    have HO3 : Hid (OwnI w2 w.heap.size (.slice (some ⟨w.heap.size, 0, none⟩) 0 0) (spL S 0).1) := hid (by rw [spL_zero]; exact HO2.out)
    clear HO2
    go_wp2
    go_loopw [5, 6, 9, 10, 11] (fun oo ll kk _ _ wr => ∃ k : Nat, k ≤ 10 ∧ kk = .int .i64 k ∧ ll = .int .i64 (spL S k).2 ∧ Hid (OwnI wr w.heap.size oo (spL S k).1) ∧ Hid (Below w2.heap.size w2 wr)) (fun _ _ kk _ _ _ => 10 - (intOf kk).toNat)
    case atStart => exact ⟨0, by omega, rfl, int_eq (by rw [spL_zero]), HO3, hid (Below.refl _ _)⟩
    case round =>
      clear HO3
      obtain ⟨k, hk, rfl, rfl, HOL, HBL⟩ := hrel
      by_cases hkt : k < 10
      · have hk0 : (0 : Int) ≤ k := by omega
        have hk64 : (k : Int) < 64 := by omega
        have HBIT := hid (bit_one (s := S) (k := k) (by omega))
        have HYES := hid (spL_yes (S := S) hkt)
        have HNO := hid (spL_no (S := S) (k := k))
        have hrg := spL_range S k hk
        generalize spL S k = st at *
        cases hb : (bits .and .i64 ((S : Int) / 2 ^ k) 1 == 1) with
        | false =>
          have HE := hid (HNO.out (by have := HBIT.out; rw [hb] at this; exact this.symm))
          clear HBIT HYES HNO
          go_wp2
          go_roundw
          case rel => exact ⟨k+1, by omega, by go_num, int_eq (by rw [HE.out]), hid (by rw [HE.out]; exact HOL.out), HBL⟩
          case measure => simp [intOf]; omega
        | true =>
          have hbt : S.testBit k = true := by have := HBIT.out; rw [hb] at this; exact this.symm
          have HE := hid (HYES.out hbt)
          have hless := xor_less hbt
          have hx1 := xor_shl (s := S) (x := k) (by omega) (by omega)
          have hx2 : bits .xor .i64 (S : Int) (wrap64 ((2 : Int) ^ k)) = ((S ^^^ 2 ^ k : Nat) : Int) := by rw [← IntWalk.i64_left]; exact hx1
          have hrs := restS_range (-1) (S ^^^ 2 ^ k) k
          have HCALL := hid (l4First_any (-1) k (S ^^^ 2 ^ k) g wr hkt (by omega) (HT.out.later hg HBL.out) (Nat.lt_of_lt_of_le hg HBL.out.size))
          generalize restS dd (baseB (-1)) (S ^^^ 2 ^ k) k = c at *
          generalize (k : Int) :: firstS dd (baseB (-1)) (S ^^^ 2 ^ k) k = ol at *
          generalize S ^^^ 2 ^ k = so at *
          have hwz : w.heap.size ≤ wr.heap.size := Nat.le_trans HB2.out.size HBL.out.size
          clear HBIT HYES HNO hbt
          go_wp2_with fail
          refine HCALL.out.mono ?_
          rintro e w3 ⟨v3, rfl, ho3, hb3⟩
          have HO4 := hid (ho3.mono hwz)
          have HOL4 := hid (HOL.out.later hb3)
          have HB4 := hid (HBL.out.trans (hb3.mono HBL.out.size))
          clear ho3 hb3 HCALL HOL HBL hx1 hx2
          by_cases hc : st.2 < 0 ∨ c < st.2
          · have HE2 := hid (HE.out.trans (if_pos hc))
            clear HE
            rcases hc with hc | hc
            · go_wp2
              go_roundw
              case rel => exact ⟨k+1, by omega, by go_num, int_eq (by rw [HE2.out]), hid (by rw [HE2.out]; exact HO4.out), HB4⟩
              case measure => simp [intOf]; omega
            · by_cases hc2 : st.2 < 0
              all_goals
                go_wp2
                go_roundw
                case rel => exact ⟨k+1, by omega, by go_num, int_eq (by rw [HE2.out]), hid (by rw [HE2.out]; exact HO4.out), HB4⟩
                case measure => simp [intOf]; omega
          · have HE2 := hid (HE.out.trans (if_neg hc))
            clear HE
            have hc1 : ¬ st.2 < 0 := fun h => hc (.inl h)
            have hc2 : ¬ c < st.2 := fun h => hc (.inr h)
            go_wp2
            go_roundw
            case rel => exact ⟨k+1, by omega, by go_num, int_eq (by rw [HE2.out]), hid (by rw [HE2.out]; exact HOL4.out), HB4⟩
            case measure => simp [intOf]; omega
      · obtain rfl : k = 10 := by omega
        have HBF := hid (HB2.out.trans (HBL.out.mono HB2.out.size))
        generalize spL S 10 = st at *
        have HM := hid (l1MostT_any st.2 0 wr)
        generalize (if st.2 > 0 then st.2 else 0) = mx at *
        go_wp2_with fail
        refine HM.out.mono ?_
        rintro e w3 ⟨rfl, rfl⟩
        go_wp2
        go_ret3
        exact ⟨u5, by rw [HLAW.out.2]; rfl, by rw [HLAW.out.1]; exact HOL.out, HBF.out⟩

set_option maxRecDepth 100000 in
set_option maxHeartbeats 4000000 in
theorem specLeastRing_any (v1 : Value) (xs : List Int) (w : World) (h1 : Ints w v1 xs) :
    Calls Try.prog 12 #[v1] w fun e w' =>
      ∃ v, e = .returned (.tuple #[v, .int .i64 (lsR xs true).2.1, .bool (lsR xs true).2.2]) ∧ OwnI w' w.heap.size v (lsR xs true).1 ∧ Below w.heap.size w w' := by
  have HX := hid h1
  clear h1
  cases hs : orderB xs with
  | false =>
    rw [lsR_no hs]
    go_enter Try.func12, Try.ntmps12
    go_wp2_with fail
    refine (l4Order_any _ xs _ HX.out).mono ?_
    rintro e w1 ⟨rfl, m, rfl⟩
    rw [hs]
    have HB := hid (below_drewN (Below.refl w.heap.size w) m)
    go_wp2
    go_ret3
    exact ⟨_, rfl, OwnI.lit0 _ _ HB.out.size, HB.out.alloc HB.out.size _⟩
  | true =>
    rw [lsR_yes hs]
    have HRING := hid (fun (k : Nat) (hk : k < 10) hb hz => ring_law hs (k := k) hk hb hz)
    have HNONE := hid (ring_none hs)
    have HD := hid (order_dig9 hs)
    have HS := hid hs
    have hS := setO_lt (fun x hx => (orderB_facts hs).2 x hx)
    clear hs
    obtain ⟨res, hres⟩ : ∃ res, loK (sortO xs) true (sortO xs).length = res := ⟨_, rfl⟩
    rw [hres]
    rw [hres] at HNONE
    have HRING2 := hid (fun (k : Nat) (hk : k < 10) hb hz => hres.symm.trans (HRING.out k hk hb hz))
    clear hres HRING
    go_enter Try.func12, Try.ntmps12
    go_wp2_with fail
    refine (l4Order_any _ xs _ HX.out).mono ?_
    rintro e w1 ⟨rfl, m, rfl⟩
    rw [HS.out]
    have HB := hid (below_drewN (Below.refl w.heap.size w) m)
    go_wp2_with fail
    refine (l4Set_any _ xs _ (HX.out.later HB.out) HD.out).mono ?_
    rintro e w2 ⟨rfl, rfl⟩
    generalize hSS : setO xs = S at *
    clear hSS
    go_wp2
    go_loopw [6, 7, 8] (fun kk _ _ wr => ∃ k : Nat, k ≤ 10 ∧ kk = .int .i64 k ∧ Hid (∀ z, z < k → S.testBit z = false) ∧ Hid (Below w.heap.size w wr)) (fun kk _ _ _ => 10 - (intOf kk).toNat)
    case atStart => exact ⟨0, by omega, rfl, hid fun z h => absurd h (Nat.not_lt_zero z), HB⟩
    case round =>
      clear HB
      obtain ⟨k, hk, rfl, HZ, HBL⟩ := hrel
      by_cases hkt : k < 10
      · have hk0 : (0 : Int) ≤ k := by omega
        have hk64 : (k : Int) < 64 := by omega
        have HBIT := hid (bit_one (s := S) (k := k) (by omega))
        cases hb : (bits .and .i64 ((S : Int) / 2 ^ k) 1 == 1) with
        | false =>
          have HZ2 := hid (show ∀ z, z < k + 1 → S.testBit z = false from fun z hz => by
            by_cases e : z = k
            · subst e; have := HBIT.out; rw [hb] at this; exact this.symm
            · exact HZ.out z (by omega))
          clear HBIT HZ
          go_wp2
          go_roundw
          case rel => exact ⟨k+1, by omega, by go_num, HZ2, HBL⟩
          case measure => simp [intOf]; omega
        | true =>
          have hbt : S.testBit k = true := by have := HBIT.out; rw [hb] at this; exact this.symm
          have HRES := hid (HRING2.out k hkt hbt HZ.out)
          have hless := xor_less hbt
          have hx1 := xor_shl (s := S) (x := k) (by omega) (by omega)
          have hx2 : bits .xor .i64 (S : Int) (wrap64 ((2 : Int) ^ k)) = ((S ^^^ 2 ^ k : Nat) : Int) := by rw [← IntWalk.i64_left]; exact hx1
          have HCF := hid (fun g w' (hT : RestT w' g (baseB (k : Int))) (hg : g < w'.heap.size) => l4First_any (k : Int) k (S ^^^ 2 ^ k) g w' hkt (by omega) hT hg)
          have HCR := hid (fun w' => l4Rest_any (k : Int) (.inr (inB_mk (by omega) (by omega))) w')
          generalize restS dd (baseB (k : Int)) (S ^^^ 2 ^ k) k = c at *
          generalize (k : Int) :: firstS dd (baseB (k : Int)) (S ^^^ 2 ^ k) k = ol at *
          generalize S ^^^ 2 ^ k = so at *
          clear HBIT hbt HNONE HRING2
          go_wp2
          go_region_held3 (fun _ => True) (trivial)
            (first
              | (go_at_call 32; refine (HCR.out _).mono ?_; rintro e w3 ⟨g, rfl, hT, hg, hb3⟩)
              | (go_at_call 33; refine (HCF.out g w3 hT hg).mono ?_; rintro e w4 ⟨v4, rfl, ho4, hb4⟩))
          have hb3' : Below wr.heap.size wr w3 := ((Below.refl wr.heap.size wr).drew).trans hb3
          have HO4 := hid (ho4.mono (Nat.le_trans HBL.out.size hb3'.size))
          have HB4 := hid ((HBL.out.trans (hb3'.mono HBL.out.size)).trans (hb4.mono (Nat.le_trans HBL.out.size hb3'.size)))
          clear ho4 hb4 hb3 hb3' hT hx1 hx2
          go_wp2
          go_ret3
          exact ⟨v4, by rw [HRES.out]; rfl, by rw [HRES.out]; exact HO4.out, HB4.out⟩
      · obtain rfl : k = 10 := by omega
        have HE := hid (HNONE.out HZ.out)
        go_wp2
        go_ret3
        exact ⟨_, by rw [HE.out]; rfl, by rw [HE.out]; exact OwnI.lit0 _ _ HBL.out.size, HBL.out.alloc HBL.out.size _⟩
end Go.Proofs.Ytgbnoljmmenlbaa
