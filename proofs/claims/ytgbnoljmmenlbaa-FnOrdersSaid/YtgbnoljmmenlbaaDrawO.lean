/-
  DrawO: the draws of FnOrders: an order, whether it is a ring, a digit.
-/
import Derived.Test.YtgbnoljmmenlbaaDraws
import Derived.Test.YtgbnoljmmenlbaaClone
import Derived.Deep.CutBlock
import Derived.Deep.CutRange
import Derived.Deep.DeepCutAuto
namespace Go.Proofs.Ytgbnoljmmenlbaa
open Go.RowKit

set_option maxRecDepth 100000 in
set_option maxHeartbeats 4000000 in
theorem DrawCellOf_any (v : Value) (n : Nat) (w : World) (h : Byts w v n) (hn : n ≤ 131072) :
    Calls Try.prog 39 #[v] w fun e w' => ∃ d : Int, e = .returned (.int .i64 d) ∧ Below w.heap.size w w' := by
  obtain ⟨ao, cap, rfl⟩ : ∃ ao cap, v = .slice ao n cap := by obtain ⟨ao, cap, b, o, rfl, _⟩ := h; exact ⟨ao, cap, rfl⟩
  have HC := hid (Cur.new h hn)
  have HB := hid ((Below.refl w.heap.size w).alloc (Nat.le_refl _) (.cells #[.slice ao n cap, .int .i64 0, .int .u64 0] 44))
  clear h
  go_enter Try.func39, Try.ntmps39
  go_wp2_with fail
  refine (pick_any w.heap.size 0 12 _ HC.out (by omega) (by omega) (by omega)).mono ?_
  rintro e w1 ⟨q, rfl, hq, hc, hg⟩
  have HB1 := hid (grown_new HB.out hg rfl)
  clear hc hg
  go_wp2
  go_ret
  exact ⟨_, rfl, HB1.out⟩

theorem DrawNearestDigits_any (v : Value) (n : Nat) (w : World) (h : Byts w v n) (hn : n ≤ 131072) :
    Calls Try.prog 17 #[v] w fun e w' => ∃ d : Int, e = .returned (.int .i64 d) ∧ Below w.heap.size w w' := by
  go_enter Try.func17, Try.ntmps17
  go_wp2_with fail
  refine (DrawCellOf_any v n w h hn).mono ?_
  rintro e w1 ⟨d, rfl, hb⟩
  have HB := hid hb
  clear hb h
  go_wp2
  go_ret
  exact ⟨_, rfl, HB.out⟩

set_option maxRecDepth 100000 in
set_option maxHeartbeats 8000000 in
theorem order_any (g a : Nat) (w : World) (h : Cur w g a) (ha : a ≤ 100000) :
    Calls Try.prog 24 #[.pointer (some ⟨g, 0, none⟩)] w fun e w' => ∃ (v : Value) (xs : List Int), e = .returned v ∧ OwnI w' w.heap.size v xs ∧ xs.length ≤ 11 ∧ Cur w' g (a+100) ∧ w.grownBy w' (some g) := by
  have HGL := hid h.lt
  have hb0 : Below w.heap.size w (w.alloc (.cells #[] 3)) := (Below.refl _ _).alloc (Nat.le_refl _) _
  have HB0 := hid hb0
  have HC := hid (h.later hb0)
  have HO0 := hid (OwnI.lit0 w w.heap.size (Nat.le_refl _))
  clear h hb0
  go_enter Try.func24, Try.ntmps24
  go_wp2_with fail
  refine (among_lit g a [4, 6, 10, 3, 2, 1, 0, 8] _ _ _ HC.out (by omega) (by simp) rfl (by decide) (by decide)).mono ?_
  rintro e w1 ⟨n, rfl, hn, hc1, hg1⟩
  have HC1 := hid hc1
  have HG1 := hid (grown_trans (grown_of_below HB0.out (some g)) hg1)
  have HO1 := hid (own_keep HO0.out hg1 HGL.out)
  obtain ⟨k0, hk0, hk12⟩ : ∃ k0 : Nat, n = k0 ∧ k0 ≤ 10 := by
    simp at hn
    rcases hn with rfl | rfl | rfl | rfl | rfl | rfl | rfl | rfl
    · exact ⟨4, rfl, by omega⟩
    · exact ⟨6, rfl, by omega⟩
    · exact ⟨10, rfl, by omega⟩
    · exact ⟨3, rfl, by omega⟩
    · exact ⟨2, rfl, by omega⟩
    · exact ⟨1, rfl, by omega⟩
    · exact ⟨0, rfl, by omega⟩
    · exact ⟨8, rfl, by omega⟩
  subst hk0
  clear hc1 hg1 HB0 HC HO0 hn
  go_wp2
  go_loopw [3, 4, 5] (fun oo nn _ wr => ∃ (k m : Nat) (xs : List Int), k + m ≤ 10 ∧ nn = .int .i64 k ∧ (∃ ao cap, oo = .slice ao m cap) ∧ Hid (xs.length = m) ∧ Hid (OwnI wr w.heap.size oo xs) ∧ Hid (Cur wr g (a + 2 + 2 * (10 - k))) ∧ Hid (w.grownBy wr (some g))) (fun _ nn _ _ => (intOf nn).toNat)
  case atStart => exact ⟨k0, 0, [], by omega, rfl, ⟨_, _, rfl⟩, hid rfl, HO1, hid (HC1.out.mono (by omega)), HG1⟩
  case round =>
    obtain ⟨k, m, xs, hkm, rfl, ⟨ao, cap, rfl⟩, HM, HO, HCR, HGR⟩ := hrel
    clear HC1 HO1 HG1
    by_cases hk : 0 < k
    · obtain ⟨k', rfl⟩ : ∃ k', k = k' + 1 := ⟨k - 1, by omega⟩
      have hkI : (0 : Int) < (k' : Int) + 1 := by omega
      go_wp2_with fail
      refine (pick_any g _ 10 _ HCR.out (by omega) (by omega) (by omega)).mono ?_
      rintro e w2 ⟨x, rfl, hx10, hc2, hg2⟩
      have HC2 := hid hc2
      have HG2 := hid (grown_trans HGR.out hg2)
      have HO2 := hid (own_keep HO.out hg2 HGL.out)
      clear hc2 hg2 HCR HGR HO
      have hlen : xs.length ≤ 1099511627776 := by have := HM.out; omega
      cases hhas : decide ((x : Int) ∈ xs) with
      | false =>
        go_wp2_with fail
        refine (l1Has_any _ xs _ _ HO2.out.ints).mono ?_
        rintro e w' ⟨rfl, rfl⟩
        rw [hhas]
        go_wp2_with (at_builtin; refine wpList_appendI w2 rfl _ _ rfl w.heap.size _ _ HO2.out rfl (x : Int) rfl hlen HG2.out.size ?_; intro v' w3 ho' _ hb' _)
        have HO3 := hid ho'
        have HC3 := hid (HC2.out.below hb' HGL.out)
        have HG3 := hid (grown_below' HG2.out hb' HGL.out)
        clear ho' hb' HO2 HC2 HG2
        obtain ⟨ao3, cap3, b3, o3, he3, _⟩ := HO3.out.ints
        rw [List.length_append, HM.out] at he3
        subst he3
        go_wp2
        go_roundw
        case rel => exact ⟨k', m+1, xs ++ [(x : Int)], by omega, by first | rfl | go_num | exact int_eq (by omega), ⟨_, _, rfl⟩, hid (by rw [List.length_append, HM.out]; rfl), HO3, hid (HC3.out.mono (by omega)), HG3⟩
        case measure => first | (simp [intOf]; done) | (simp [intOf]; omega)
      | true =>
        go_wp2_with fail
        refine (l1Has_any _ xs _ _ HO2.out.ints).mono ?_
        rintro e w' ⟨rfl, rfl⟩
        rw [hhas]
        go_wp2
        go_roundw
        case rel => exact ⟨k', m, xs, by omega, by first | rfl | go_num | exact int_eq (by omega), ⟨_, _, rfl⟩, HM, HO2, hid (HC2.out.mono (by omega)), HG2⟩
        case measure => first | (simp [intOf]; done) | (simp [intOf]; omega)
    · have hk0 : k = 0 := by omega
      subst hk0
      go_wp2_with fail
      refine (one_any g _ 8 _ HCR.out (by omega) (by omega) (by omega)).mono ?_
      rintro e w2 ⟨b, rfl, hc2, hg2⟩
      have HC2 := hid (hc2.mono (a' := a + 30) (by omega))
      have HG2 := hid (grown_trans HGR.out hg2)
      have HO2 := hid (own_keep HO.out hg2 HGL.out)
      clear hc2 hg2 HCR HGR HO
      go_upto_if 25 with fail
      go_cut [3] from 26 to 26 (fun oo wx => ∃ (m : Nat) (xs : List Int), m ≤ 10 ∧ (∃ ao cap, oo = .slice ao m cap) ∧ Hid (xs.length = m) ∧ Hid (OwnI wx w.heap.size oo xs) ∧ Hid (Cur wx g (a + 30)) ∧ Hid (w.grownBy wx (some g)))
      case first =>
        cases b with
        | true =>
          have HL := hid (own_lit w2 [3, 1, 4, 5, 9, 2, 6, 8, 7, 0] (by simp))
          have hbL : Below w2.heap.size w2 (w2.alloc (.cells (([3, 1, 4, 5, 9, 2, 6, 8, 7, 0] : List Int).map (Value.int .i64)).toArray 3)) := (Below.refl _ _).alloc (Nat.le_refl _) _
          have HCL := hid (HC2.out.later hbL)
          have HGL2 := hid (grown_trans HG2.out (grown_of_below hbL (some g)))
          have HSZ := hid HG2.out.size
          clear hbL
          go_wp2
          go_meet
          exact ⟨10, [3, 1, 4, 5, 9, 2, 6, 8, 7, 0], by omega, ⟨_, _, rfl⟩, hid rfl, hid (HL.out.mono HSZ.out), HCL, HGL2⟩
        | false =>
          go_wp2
          go_meet
          exact ⟨m, xs, by omega, ⟨_, _, rfl⟩, HM, HO2, HC2, HG2⟩
      case rest =>
        clear HO2 HC2 HG2 HM
        obtain ⟨m, xs, hm10, ⟨ao, cap, rfl⟩, HM, HO2, HC2, HG2⟩ := hcut
        by_cases h0 : 0 < m
        · obtain ⟨g', cap', he, hg1', hg2'⟩ := HO2.out.shape HM.out h0
          simp only [Value.slice.injEq] at he
          obtain ⟨rfl, _, rfl⟩ := he
          have hI : (0 : Int) < m := by omega
          go_wp2_with fail
          refine (one_any g _ 24 _ HC2.out (by omega) (by omega) (by omega)).mono ?_
          rintro e w3 ⟨b3, rfl, hc3, hg3⟩
          have HC3 := hid hc3
          have HG3 := hid (grown_trans HG2.out hg3)
          have HO3 := hid (own_keep HO2.out hg3 HGL.out)
          clear hc3 hg3 HC2 HG2 HO2
          cases b3 with
          | false =>
            go_wp2
            go_ret
            first | exact ⟨_, xs, rfl, HO3.out, by have := HM.out; omega, HC3.out.mono (by omega), HG3.out⟩ | exact ⟨_, rfl, xs, HO3.out, by have := HM.out; omega, HC3.out.mono (by omega), HG3.out⟩
          | true =>
            have e0 := HO3.out.cell HM.out h0
            generalize xs.getD 0 0 = x0 at e0
            have hlen : xs.length ≤ 1099511627776 := by have := HM.out; omega
            go_wp2_with fail
            refine (among_lit g _ [x0, -1, 10] w3 _ _ HC3.out (by omega) (by first | rfl | simp) rfl (by simp) (by simp)).mono ?_
            rintro e w4 ⟨r, rfl, _, hc4, hg4⟩
            have HC4 := hid hc4
            have HG4 := hid (grown_trans HG3.out hg4)
            have HO4 := hid (own_keep HO3.out hg4 HGL.out)
            clear hc4 hg4 HC3 HG3 HO3 e0
            go_wp2_with (at_builtin; refine wpList_appendI w4 rfl _ _ rfl w.heap.size _ _ HO4.out rfl r rfl hlen HG4.out.size ?_; intro v' w5 ho' _ hb' _)
            have HO5 := hid ho'
            have HC5 := hid (HC4.out.below hb' HGL.out)
            have HG5 := hid (grown_below' HG4.out hb' HGL.out)
            clear ho' hb' HO4 HC4 HG4
            go_wp2
            go_ret
            first | exact ⟨v', xs ++ [r], rfl, HO5.out, by rw [List.length_append, HM.out]; simp; omega, HC5.out.mono (by omega), HG5.out⟩ | exact ⟨v', rfl, xs ++ [r], HO5.out, by rw [List.length_append, HM.out]; simp; omega, HC5.out.mono (by omega), HG5.out⟩
        · have hI : ¬ ((0 : Int) < m) := by omega
          go_wp2
          go_ret
          first | exact ⟨_, xs, rfl, HO2.out, by have := HM.out; omega, HC2.out.mono (by omega), HG2.out⟩ | exact ⟨_, rfl, xs, HO2.out, by have := HM.out; omega, HC2.out.mono (by omega), HG2.out⟩

set_option maxRecDepth 100000 in
set_option maxHeartbeats 4000000 in
theorem DrawOrderCost_any (v : Value) (n : Nat) (w : World) (h : Byts w v n) (hn : n ≤ 131072) :
    Calls Try.prog 5 #[v] w fun e w' => ∃ (u : Value) (xs : List Int) (b : Bool), e = .returned (.tuple #[u, .bool b]) ∧ OwnI w' w.heap.size u xs ∧ xs.length ≤ 11 ∧ Below w.heap.size w w' := by
  obtain ⟨ao, cap, rfl⟩ : ∃ ao cap, v = .slice ao n cap := by obtain ⟨ao, cap, b, o, rfl, _⟩ := h; exact ⟨ao, cap, rfl⟩
  have HC := hid (Cur.new h hn)
  have HB := hid ((Below.refl w.heap.size w).alloc (Nat.le_refl _) (.cells #[.slice ao n cap, .int .i64 0, .int .u64 0] 44))
  clear h
  go_enter Try.func5, Try.ntmps5
  go_upto_region 2 with fail
  generalize w.alloc (.cells #[.slice ao n cap, .int .i64 0, .int .u64 0] 44) = W0 at HC HB ⊢
  go_wp2_with fail
  refine (one_any w.heap.size _ 2 _ HC.out (by omega) (by omega) (by omega)).mono ?_
  rintro e w1 ⟨b, rfl, hc1, hg1⟩
  have HC1 := hid hc1
  have HB1 := hid (grown_new HB.out hg1 rfl)
  clear hc1 hg1 HC HB
  go_wp2_with fail
  refine (order_any w.heap.size _ _ HC1.out (by omega)).mono ?_
  rintro e w2 ⟨u, xs, rfl, ho, hl, hc, hg⟩
  have HB2 := hid (grown_new HB1.out hg rfl)
  have HO2 := hid (ho.mono HB1.out.size)
  clear ho hc hg HC1
  go_wp2
  go_ret2
  exact ⟨_, xs, _, rfl, HO2.out, hl, HB2.out⟩
end Go.Proofs.Ytgbnoljmmenlbaa
