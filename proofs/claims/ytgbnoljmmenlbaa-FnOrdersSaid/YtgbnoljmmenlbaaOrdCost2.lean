/-
  OrdCost2: OrderCost of both sides.
-/
import Derived.Test.YtgbnoljmmenlbaaOrdCost
namespace Go.Proofs.Ytgbnoljmmenlbaa
open Go.RowKit

set_option maxHeartbeats 1000000 in
theorem specOrderCost_any (v1 : Value) (xs : List Int) (ring : Bool) (w : World) (h1 : Ints w v1 xs) :
    Calls Try.prog 7 #[v1, .bool ring] w fun e w' => e = .returned (.tuple #[.int .i64 (ocR xs ring).1, .bool (ocR xs ring).2]) ∧ Below w.heap.size w w' := by
  have HX := hid h1
  clear h1
  cases hs : orderB xs with
  | false =>
    rw [ocR_no hs]
    go_enter Try.func7, Try.ntmps7
    go_wp2_with fail
    refine (l4Order_any _ xs _ HX.out).mono ?_
    rintro e w1 ⟨rfl, m, rfl⟩
    rw [hs]
    go_wp2
    go_ret2
    exact ⟨rfl, below_drewN (Below.refl _ _) m⟩
  | true =>
    rw [ocR_yes hs]
    have HT := hid (order_dig9 hs)
    have HL := hid ((orderB_true hs).1)
    go_enter Try.func7, Try.ntmps7
    go_wp2_with fail
    refine (l4Order_any _ xs _ HX.out).mono ?_
    rintro e w1 ⟨rfl, m, rfl⟩
    rw [hs]
    go_wp2_with fail
    refine (l4Cost_any _ xs _ _ (HX.out.drawn m) (by have := HL.out; omega) HT.out).mono ?_
    rintro e w2 ⟨rfl, hb⟩
    go_wp2
    go_ret2
    exact ⟨rfl, (below_drewN (Below.refl _ _) m).trans (hb.mono (below_drewN (Below.refl w.heap.size w) m).size)⟩

set_option maxRecDepth 100000 in
set_option maxHeartbeats 4000000 in
theorem implOrderCost_any (v1 : Value) (xs : List Int) (ring : Bool) (w : World) (h1 : Ints w v1 xs) :
    Calls Try.prog 6 #[v1, .bool ring] w fun e w' => e = .returned (.tuple #[.int .i64 (ocR xs ring).1, .bool (ocR xs ring).2]) ∧ Below w.heap.size w w' := by
  obtain ⟨n, ao1, cap1, b1, o1, HN, rfl, ha1, hc1, hn1, hm1, HX⟩ := h1.open_
  clear h1
  cases hs : orderB xs with
  | false =>
    rw [ocR_no hs]
    clear hc1 ha1
    go_enter Try.func6, Try.ntmps6
    go_wp2_with fail
    refine (isOrder_any _ xs _ HX.out).mono ?_
    rintro e w1 ⟨rfl, rfl⟩
    rw [hs]
    go_wp2
    go_ret2
    exact ⟨rfl, Below.refl _ _⟩
  | true =>
    rw [ocR_yes hs]
    have HT := hid (order_dig9 hs)
    have HL := hid ((orderB_true hs).1)
    by_cases hr : ring = true ∧ 0 < n
    · obtain ⟨rfl, hn0⟩ := hr
      obtain ⟨rfl, hb1⟩ := ha1 hn0
      have e1 : w.cell? ⟨b1, o1, none⟩ = some (.int .i64 (xs.getD 0 0)) := hc1 0 hn0
      have HR := hid (dchF_ring (xs := xs) (by rw [HN.out]; exact hn0))
      have HD2 := hid (show ∀ i, i < (xs ++ [xs.getD 0 0]).length → dig9 ((xs ++ [xs.getD 0 0]).getD i 0) = true from fun i hi => by
        by_cases h : i < xs.length
        · have : (xs ++ [xs.getD 0 0]).getD i 0 = xs.getD i 0 := by simp [List.getD, List.getElem?_append_left h]
          rw [this]; exact HT.out i h
        · have h2 : i = xs.length := by simp at hi; omega
          have : (xs ++ [xs.getD 0 0]).getD i 0 = xs.getD 0 0 := by
            simp only [List.getD]
            rw [List.getElem?_append_right (by omega), h2, Nat.sub_self]
            rfl
          rw [this]; exact HT.out 0 (by rw [HN.out]; exact hn0))
      rw [← HR.out]
      have HLL := hid (show (xs ++ [xs.getD 0 0]).length ≤ 1048576 by have := HL.out; simp; omega)
      generalize xs.getD 0 0 = x at *
      clear hc1 ha1 HR
      have hnI : (0 : Int) < n := by omega
      have HCL := hid (fun w' (hb : Below w.heap.size w w') => CloneI_any _ xs w' (HX.out.later hb) (by have := HL.out; omega))
      have HCD := hid (fun v w' (h : Ints w' v (xs ++ [x])) => digitChanges_any v _ w' h HLL.out HD2.out)
      have HDR : Hid (Below w.heap.size w w.drew) := hid (Below.refl _ _).drew
      go_enter Try.func6, Try.ntmps6
      go_wp2_with fail
      refine (isOrder_any _ xs _ HX.out).mono ?_
      rintro e w1 ⟨rfl, rfl⟩
      rw [hs]
      go_wp2
      have hP : (0 : Nat) < w.heap.size := by omega
      have HK : Hid (∀ W, Below w.heap.size w W → W.cell? ⟨b1, o1, none⟩ = some (.int .i64 x) ∧ Below w.heap.size w W) := hid fun W hB => ⟨(hB.cell (by exact hb1)).trans e1, hB⟩
      go_region_held3 (fun w' => w'.cell? ⟨b1, o1, none⟩ = some (.int .i64 x) ∧ Below w.heap.size w w')
        (first
          | exact HK.out _ HDR.out
          | exact HK.out _ (((Below.refl w.heap.size w).drew).alloc (by simp) _)
          | exact HK.out _ hbK
          | exact HK.out _ (hbK.alloc hbK.size _)
          | exact HK.out _ hbB
          | exact HK.out _ hbE)
        (first
          | (go_at_call 27; refine (HCL.out _ (by first | exact HDR.out | exact ((Below.refl w.heap.size w).drew).alloc (by simp) _)).mono ?_; rintro e w' ⟨vc, rfl, hoC, hbC⟩; have hbK : Below w.heap.size w w' := by first | exact ((Below.refl w.heap.size w).drew).trans hbC | exact (((Below.refl w.heap.size w).drew).alloc (by simp) _).trans (hbC.mono (by simp)))
          | (refine step_appendIs _ rfl _ _ rfl w.heap.size _ xs (OwnI.alloc (hoC.mono (Nat.le_refl _)) _) rfl _ x rfl (by simp [go_sem]) (by have := HL.out; omega) (by have := hbC.size; simp at this ⊢; omega) ?_; intro vA wA hoA hbA; have hbB : Below w.heap.size w wA := (hbK.alloc hbK.size _).trans hbA)
          | (refine step_appendIs _ rfl _ _ rfl w.heap.size _ xs (hoC.mono (by simp)) rfl w.heap.size x rfl ((hbC.cell (by simp)).trans (by simp [go_sem])) (by have := HL.out; omega) (by have := hbC.size; simp at this; omega) ?_; intro vA wA hoA hbA; have hbB : Below w.heap.size w wA := hbK.trans hbA)
          | (go_at_call 26; refine (HCD.out vA wA hoA.ints).mono ?_; rintro e w' ⟨rfl, hbD⟩; have hbE : Below w.heap.size w w' := hbB.trans (hbD.mono hbB.size)))
      all_goals
        have HBE := hid hbE
        go_wp2
        go_ret2
        exact ⟨rfl, HBE.out⟩
    · have HOC := hid (show ocF xs ring = dchF xs by
        cases ring with
        | false => exact ocF_no xs
        | true => exact ocF_nil xs true (by rw [HN.out]; intro h; exact hr ⟨rfl, h⟩))
      rw [HOC.out]
      have hnI : ring = true → ¬ (0 : Int) < n := fun h h' => hr ⟨h, by omega⟩
      clear hc1 ha1 HOC
      cases ring with
      | false =>
        go_enter Try.func6, Try.ntmps6
        go_wp2_with fail
        refine (isOrder_any _ xs _ HX.out).mono ?_
        rintro e w1 ⟨rfl, rfl⟩
        rw [hs]
        go_wp2_with fail
        refine (digitChanges_any _ xs _ HX.out (by have := HL.out; omega) HT.out).mono ?_
        rintro e w2 ⟨rfl, hb⟩
        go_wp2
        go_ret2
        exact ⟨rfl, hb⟩
      | true =>
        have hnI := hnI rfl
        go_enter Try.func6, Try.ntmps6
        go_wp2_with fail
        refine (isOrder_any _ xs _ HX.out).mono ?_
        rintro e w1 ⟨rfl, rfl⟩
        rw [hs]
        go_wp2_with fail
        refine (digitChanges_any _ xs _ HX.out (by have := HL.out; omega) HT.out).mono ?_
        rintro e w2 ⟨rfl, hb⟩
        go_wp2
        go_ret2
        exact ⟨rfl, hb⟩
end Go.Proofs.Ytgbnoljmmenlbaa
