import Derived.Test.YtfgjaefcfmjleaaDraws
import Derived.Test.YtfgjaefcfmjleaaClock
namespace Go.Proofs.Ytfgjaefcfmjleaa
open Go.RowKit

/-! ## What the laws draw: times, rows, digits -/
set_option maxRecDepth 100000 in
set_option maxHeartbeats 8000000 in
theorem time_any (g a : Nat) (w : World) (h : Cur w g a) (ha : a ≤ 100000) :
    Calls Try.prog 183 #[.pointer (some ⟨g, 0, none⟩)] w fun e w' => ∃ x : Int, e = .returned (.int .i64 x) ∧ Cur w' g (a+10) ∧ w.grownBy w' (some g) := by
  have HC := hid h
  clear h
  go_enter Try.func183, Try.ntmps183
  go_wp2_with fail
  refine (pick_any g a 16 _ HC.out (by omega) (by omega) (by omega)).mono ?_
  rintro e w1 ⟨r, rfl, hr, hc, hg⟩
  have HC1 := hid hc
  have HG1 := hid hg
  clear hc hg HC
  by_cases h5 : r ≤ 5
  · rcases (show r = 0 ∨ r = 1 ∨ r = 2 ∨ r = 3 ∨ r = 4 ∨ r = 5 by omega) with rfl | rfl | rfl | rfl | rfl | rfl
    · go_wp2_with fail
      refine (among_lit g (a+2) [-1, 1440, 4611686018427387904] _ _ _ HC1.out (by omega) (by first | rfl | simp) rfl (by decide) (by decide)).mono ?_
      rintro e w2 ⟨x, rfl, _, hc2, hg2⟩
      go_wp2
      go_ret
      exact ⟨_, rfl, hc2.mono (by omega), grown_trans HG1.out hg2⟩
    · go_wp2_with fail
      refine (among_lit g (a+2) [0, 1439, 719, 720] _ _ _ HC1.out (by omega) (by first | rfl | simp) rfl (by decide) (by decide)).mono ?_
      rintro e w2 ⟨x, rfl, _, hc2, hg2⟩
      go_wp2
      go_ret
      exact ⟨_, rfl, hc2.mono (by omega), grown_trans HG1.out hg2⟩
    all_goals
      go_wp2_with fail
      refine (among_lit g (a+2) [0, 1, 2, 5, 10, 11, 12, 15, 20, 21, 22] _ _ _ HC1.out (by omega) (by first | rfl | simp) rfl (by decide) (by decide)).mono ?_
      rintro e w2 ⟨x, rfl, _, hc2, hg2⟩
      have HC2 := hid hc2
      have HG2 := hid (grown_trans HG1.out hg2)
      clear hc2 hg2 HC1 HG1
      go_wp2_with fail
      refine (among_lit g (a+2+2) [0, 1, 2, 5, 10, 11, 12, 15, 20, 21, 22, 50, 51, 52, 55] _ _ _ HC2.out (by omega) (by first | rfl | simp) rfl (by decide) (by decide)).mono ?_
      rintro e w3 ⟨y, rfl, _, hc3, hg3⟩
      go_wp2
      go_ret
      exact ⟨_, rfl, hc3.mono (by omega), grown_trans HG2.out hg3⟩
  · have b0 : ((r : Int) == 0) = false := by simp; omega
    have b1 : ((r : Int) == 1) = false := by simp; omega
    have b2 : ((r : Int) == 2) = false := by simp; omega
    have b3 : ((r : Int) == 3) = false := by simp; omega
    have b4 : ((r : Int) == 4) = false := by simp; omega
    have b5 : ((r : Int) == 5) = false := by simp; omega
    go_wp2_with fail
    refine (pick_any g (a+2) 1440 _ HC1.out (by omega) (by omega) (by omega)).mono ?_
    rintro e w2 ⟨x, rfl, _, hc2, hg2⟩
    go_wp2
    go_ret
    exact ⟨_, rfl, hc2.mono (by omega), grown_trans HG1.out hg2⟩


set_option maxRecDepth 100000 in
set_option maxHeartbeats 8000000 in
theorem row_any (g a : Nat) (w : World) (h : Cur w g a) (ha : a ≤ 100000) :
    Calls Try.prog 232 #[.pointer (some ⟨g, 0, none⟩)] w fun e w' => ∃ (v : Value) (xs : List Int), e = .returned v ∧ OwnI w' w.heap.size v xs ∧ xs.length ≤ 7 ∧ Cur w' g (a+400) ∧ w.grownBy w' (some g) := by
  have HGL := hid h.lt
  have hb0 : Below w.heap.size w (w.alloc (.cells #[] 3)) := (Below.refl _ _).alloc (Nat.le_refl _) _
  have HB0 := hid hb0
  have HC := hid (h.later hb0)
  have HO0 := hid (OwnI.lit0 w w.heap.size (Nat.le_refl _))
  clear h hb0
  go_enter Try.func232, Try.ntmps232
  go_wp2_with fail
  refine (among_lit g a [2, 3, 1, 4, 6, 0, 5, 2, 3] _ _ _ HC.out (by omega) (by simp) rfl (by decide) (by decide)).mono ?_
  rintro e w1 ⟨n, rfl, hn, hc1, hg1⟩
  have HC1 := hid hc1
  have HG1 := hid (grown_trans (grown_of_below HB0.out (some g)) hg1)
  have HO1 := hid (own_keep HO0.out hg1 HGL.out)
  obtain ⟨k0, hk0, hk12⟩ : ∃ k0 : Nat, n = k0 ∧ k0 ≤ 6 := by
    simp at hn
    exact ⟨n.toNat, by omega, by omega⟩
  subst hk0
  clear hc1 hg1 HB0 HC HO0 hn
  go_wp2
  go_loopw [3, 4] (fun oo nn wr => ∃ (k m : Nat) (xs : List Int), k + m ≤ 6 ∧ nn = .int .i64 k ∧ (∃ ao cap, oo = .slice ao m cap) ∧ Hid (xs.length = m) ∧ Hid (OwnI wr w.heap.size oo xs) ∧ Hid (Cur wr g (a + 2 + 30 * (6 - k))) ∧ Hid (w.grownBy wr (some g))) (fun _ nn _ => (intOf nn).toNat)
  case atStart => exact ⟨k0, 0, [], by omega, rfl, ⟨_, _, rfl⟩, hid rfl, HO1, hid (HC1.out.mono (by omega)), HG1⟩
  case round =>
    obtain ⟨k, m, xs, hkm, rfl, ⟨ao, cap, rfl⟩, HM, HO, HCR, HGR⟩ := hrel
    clear HC1 HO1 HG1
    by_cases hk : 0 < k
    · obtain ⟨k', rfl⟩ : ∃ k', k = k' + 1 := ⟨k - 1, by omega⟩
      have hkI : (0 : Int) < (k' : Int) + 1 := by omega
      go_wp2_with fail
      refine (cell_any g _ _ HCR.out (by omega)).mono ?_
      rintro e w2 ⟨x, rfl, hc2, hg2⟩
      have HC2 := hid hc2
      have HG2 := hid (grown_trans HGR.out hg2)
      have HO2 := hid (own_keep HO.out hg2 HGL.out)
      clear hc2 hg2 HCR HGR HO
      have hlen : xs.length ≤ 1099511627776 := by have := HM.out; omega
      go_wp2_with (at_builtin; refine wpList_appendI w2 rfl _ _ rfl w.heap.size _ _ HO2.out rfl x rfl hlen HG2.out.size ?_; intro v' w3 ho' _ hb' _)
      have HO3 := hid ho'
      have HC3 := hid (HC2.out.below hb' HGL.out)
      have HG3 := hid (grown_below' HG2.out hb' HGL.out)
      clear ho' hb' HO2 HC2 HG2
      obtain ⟨ao3, cap3, b3, o3, he3, _⟩ := HO3.out.ints
      rw [List.length_append, HM.out] at he3
      subst he3
      go_wp2
      go_roundw
      case rel => exact ⟨k', m+1, xs ++ [x], by omega, by first | rfl | go_num | exact int_eq (by omega), ⟨_, _, rfl⟩, hid (by rw [List.length_append, HM.out]; rfl), HO3, hid (HC3.out.mono (by omega)), HG3⟩
      case measure => first | (simp [intOf]; done) | (simp [intOf]; omega)
    · have hk0 : k = 0 := by omega
      subst hk0
      go_wp2_with fail
      refine (one_any g _ 40 _ HCR.out (by omega) (by omega) (by omega)).mono ?_
      rintro e w2 ⟨b, rfl, hc2, hg2⟩
      have HC2 := hid hc2
      have HG2 := hid (grown_trans HGR.out hg2)
      have HO2 := hid (own_keep HO.out hg2 HGL.out)
      clear hc2 hg2 HCR HGR HO
      cases b with
      | true =>
        have HOZ := hid (own_lit w2 [6, 6, 6, 6, 6, 6, 6] (by decide))
        have hbz : Below w2.heap.size w2 (w2.alloc (.cells (([6, 6, 6, 6, 6, 6, 6] : List Int).map (Value.int .i64)).toArray 3)) := (Below.refl _ _).alloc (Nat.le_refl _) _
        have HCZ := hid (HC2.out.later hbz)
        have HGZ := hid (grown_trans HG2.out (grown_of_below hbz (some g)))
        have HSZ := hid HG2.out.size
        clear hbz
        go_wp2
        go_ret
        exact ⟨_, [6, 6, 6, 6, 6, 6, 6], rfl, HOZ.out.mono HSZ.out, by decide, HCZ.out.mono (by omega), HGZ.out⟩
      | false =>
        go_wp2
        go_ret
        first | exact ⟨_, xs, rfl, HO2.out, by have := HM.out; omega, HC2.out.mono (by omega), HG2.out⟩ | exact ⟨_, rfl, xs, HO2.out, by have := HM.out; omega, HC2.out.mono (by omega), HG2.out⟩

set_option maxRecDepth 100000 in
set_option maxHeartbeats 8000000 in
theorem digits_any (g a : Nat) (w : World) (h : Cur w g a) (ha : a ≤ 90000) :
    Calls Try.prog 184 #[.pointer (some ⟨g, 0, none⟩)] w fun e w' => ∃ (v : Value) (xs : List Int), e = .returned v ∧ OwnI w' w.heap.size v xs ∧ xs.length ≤ 7 ∧ Cur w' g (a+500) ∧ w.grownBy w' (some g) := by
  have HGL := hid h.lt
  have HC := hid h
  clear h
  go_enter Try.func184, Try.ntmps184
  go_wp2_with fail
  refine (one_any g a 6 _ HC.out (by omega) (by omega) (by omega)).mono ?_
  rintro e wa ⟨b, rfl, hc, hg⟩
  have HCA := hid hc
  have HGA := hid hg
  clear hc hg HC
  cases b with
  | true =>
    go_wp2_with fail
    refine (row_any g _ _ HCA.out (by omega)).mono ?_
    rintro e wb ⟨v, xs, rfl, ho, hl, hc, hg⟩
    have HOB := hid (ho.mono HGA.out.size)
    have HCB := hid hc
    have HGB := hid (grown_trans HGA.out hg)
    clear ho hc hg
    obtain ⟨ao3, cap3, b3, o3, he3, _⟩ := HOB.out.ints
    subst he3
    go_wp2
    go_ret
    exact ⟨_, xs, rfl, HOB.out, hl, HCB.out.mono (by omega), HGB.out⟩
  | false =>
  have hb0 : Below wa.heap.size wa (wa.alloc (.cells #[] 3)) := (Below.refl _ _).alloc (Nat.le_refl _) _
  have HB0 := hid hb0
  have HC := hid (HCA.out.later hb0)
  have HO0 := hid (OwnI.lit0 wa w.heap.size HGA.out.size)
  have HGL2 := hid HCA.out.lt
  clear hb0
  go_wp2_with fail
  refine (among_lit g (a+2) [2, 3, 1, 4, 6] _ _ _ HC.out (by omega) (by simp) rfl (by decide) (by decide)).mono ?_
  rintro e w1 ⟨n, rfl, hn, hc1, hg1⟩
  have HC1 := hid hc1
  have HG1 := hid (grown_trans HGA.out (grown_trans (grown_of_below HB0.out (some g)) hg1))
  have HO1 := hid (own_keep HO0.out hg1 HGL.out)
  obtain ⟨k0, hk0, hk12⟩ : ∃ k0 : Nat, n = k0 ∧ k0 ≤ 6 := by
    simp at hn
    exact ⟨n.toNat, by omega, by omega⟩
  subst hk0
  clear hc1 hg1 HB0 HC HO0 hn HCA HGA
  go_wp2
  go_loopw [3, 4] (fun oo nn wr => ∃ (k m : Nat) (xs : List Int), k + m ≤ 6 ∧ nn = .int .i64 k ∧ (∃ ao cap, oo = .slice ao m cap) ∧ Hid (xs.length = m) ∧ Hid (OwnI wr w.heap.size oo xs) ∧ Hid (Cur wr g (a + 4 + 30 * (6 - k))) ∧ Hid (w.grownBy wr (some g))) (fun _ nn _ => (intOf nn).toNat)
  case atStart => exact ⟨k0, 0, [], by omega, rfl, ⟨_, _, rfl⟩, hid rfl, HO1, hid (HC1.out.mono (by omega)), HG1⟩
  case round =>
    obtain ⟨k, m, xs, hkm, rfl, ⟨ao, cap, rfl⟩, HM, HO, HCR, HGR⟩ := hrel
    clear HC1 HO1 HG1
    by_cases hk : 0 < k
    · obtain ⟨k', rfl⟩ : ∃ k', k = k' + 1 := ⟨k - 1, by omega⟩
      have hkI : (0 : Int) < (k' : Int) + 1 := by omega
      go_wp2_with fail
      refine (among_lit g _ [0, 1, 2, 5, 6, 8, 9, 3, 4, 7] _ _ _ HCR.out (by omega) (by first | rfl | simp) rfl (by decide) (by decide)).mono ?_
      rintro e w2 ⟨x, rfl, hx, hc2, hg2⟩
      have HC2 := hid hc2
      have HG2 := hid (grown_trans HGR.out hg2)
      have HO2 := hid (own_keep HO.out hg2 HGL.out)
      have HDX : Hid (inB x 0 9 = true) := hid (by simp at hx; exact inB_mk (by omega) (by omega))
      clear hc2 hg2 HCR HGR HO hx
      go_wp2_with fail
      refine (l2Digit_any _ _ HDX.out).mono ?_
      rintro e w4 ⟨rfl, hb4⟩
      have HC4 := hid (HC2.out.later hb4)
      have HG4 := hid (grown_trans HG2.out (grown_of_below hb4 _))
      have HO4 := hid (HO2.out.later hb4)
      clear hb4 HC2 HG2 HO2
      generalize digitC x = y
      have hlen : xs.length ≤ 1099511627776 := by have := HM.out; omega
      go_wp2_with (at_builtin; refine wpList_appendI w4 rfl _ _ rfl w.heap.size _ _ HO4.out rfl y rfl hlen HG4.out.size ?_; intro v' w3 ho' _ hb' _)
      have HO3 := hid ho'
      have HC3 := hid (HC4.out.below hb' HGL.out)
      have HG3 := hid (grown_below' HG4.out hb' HGL.out)
      clear ho' hb' HO4 HC4 HG4
      obtain ⟨ao3, cap3, b3, o3, he3, _⟩ := HO3.out.ints
      rw [List.length_append, HM.out] at he3
      subst he3
      go_wp2
      go_roundw
      case rel => exact ⟨k', m+1, xs ++ [y], by omega, by first | rfl | go_num | exact int_eq (by omega), ⟨_, _, rfl⟩, hid (by rw [List.length_append, HM.out]; rfl), HO3, hid (HC3.out.mono (by omega)), HG3⟩
      case measure => first | (simp [intOf]; done) | (simp [intOf]; omega)
    · have hk0 : k = 0 := by omega
      subst hk0
      go_wp2
      go_ret
      first | exact ⟨_, xs, rfl, HO.out, by have := HM.out; omega, HCR.out.mono (by omega), HGR.out⟩ | exact ⟨_, rfl, xs, HO.out, by have := HM.out; omega, HCR.out.mono (by omega), HGR.out⟩


end Go.Proofs.Ytfgjaefcfmjleaa
