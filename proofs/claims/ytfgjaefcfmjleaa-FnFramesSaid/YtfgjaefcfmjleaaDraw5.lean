import Derived.Test.YtfgjaefcfmjleaaCur2
namespace Go.Proofs.Ytfgjaefcfmjleaa
open Go.RowKit

/-! ## What the laws draw: codes -/
theorem below_of_grown_new {w w1 w' : World} {B g : Nat} (hb : Below B w w1) (hg : w1.grownBy w' (some g)) (h1 : B ≤ w1.heap.size) (h2 : B ≤ g) : Below B w w' :=
  hb.grown hg h1 (fun k hk => by cases hk; exact h2)
theorem own_keep {w w' : World} {B g : Nat} {v : Value} {xs : List Int} (h : OwnI w B v xs) (hg : w.grownBy w' (some g)) (_hB : g < B) : OwnI w' B v xs :=
  h.kept hg (by
    cases hv : v.ownBlock with
    | none => exact .inl rfl
    | some k =>
      right
      intro e
      have h1 := (World.ownsRow.lt h k hv).1
      simp only [Option.some.injEq] at e
      omega)

theorem grown_below' {w w1 w' : World} {g B : Nat} (h : w.grownBy w1 (some g)) (hb : Below B w1 w') (_hB : g < w.heap.size) (hBw : B = w.heap.size := by rfl) : w.grownBy w' (some g) := by
  subst hBw
  exact ⟨hb.os.trans h.os, hb.tape.trans h.tape, hb.output.trans h.output, Nat.le_trans h.size hb.size, fun k hk hr => (hb.block k hk).trans (h.block k hk hr)⟩

set_option maxRecDepth 100000 in
set_option maxHeartbeats 8000000 in
theorem code5_any (g a : Nat) (w : World) (h : Cur w g a) (ha : a ≤ 100000) :
    Calls Try.prog 137 #[.pointer (some ⟨g, 0, none⟩)] w fun e w' => ∃ (v : Value) (xs : List Int), e = .returned v ∧ OwnI w' w.heap.size v xs ∧ xs.length ≤ 13 ∧ Cur w' g (a+500) ∧ w.grownBy w' (some g) := by
  have HGL := hid h.lt
  have hb0 : Below w.heap.size w (w.alloc (.cells #[] 3)) := (Below.refl _ _).alloc (Nat.le_refl _) _
  have HB0 := hid hb0
  have HC := hid (h.later hb0)
  have HO0 := hid (OwnI.lit0 w w.heap.size (Nat.le_refl _))
  clear h hb0
  go_enter Try.func137, Try.ntmps137
  go_wp2_with fail
  refine (among_lit g a [4, 3, 6, 2, 1, 8, 10, 12] _ _ _ HC.out (by omega) (by simp) rfl (by decide) (by decide)).mono ?_
  rintro e w1 ⟨n, rfl, hn, hc1, hg1⟩
  have HC1 := hid hc1
  have HG1 := hid (grown_trans (grown_of_below HB0.out (some g)) hg1)
  have HO1 := hid (own_keep HO0.out hg1 HGL.out)
  obtain ⟨k0, hk0, hk12⟩ : ∃ k0 : Nat, n = k0 ∧ k0 ≤ 12 := by
    simp at hn
    rcases hn with rfl | rfl | rfl | rfl | rfl | rfl | rfl | rfl
    · exact ⟨4, rfl, by omega⟩
    · exact ⟨3, rfl, by omega⟩
    · exact ⟨6, rfl, by omega⟩
    · exact ⟨2, rfl, by omega⟩
    · exact ⟨1, rfl, by omega⟩
    · exact ⟨8, rfl, by omega⟩
    · exact ⟨10, rfl, by omega⟩
    · exact ⟨12, rfl, by omega⟩
  subst hk0
  clear hc1 hg1 HB0 HC HO0 hn
  go_wp2
  go_loopw [3, 4, 5] (fun oo nn _ wr => ∃ (k m : Nat) (xs : List Int), k + m ≤ 12 ∧ nn = .int .i64 k ∧ (∃ ao cap, oo = .slice ao m cap) ∧ Hid (xs.length = m) ∧ Hid (OwnI wr w.heap.size oo xs) ∧ Hid (Cur wr g (a + 2 + 30 * (12 - k))) ∧ Hid (w.grownBy wr (some g))) (fun _ nn _ _ => (intOf nn).toNat)
  case atStart => exact ⟨k0, 0, [], by omega, rfl, ⟨_, _, rfl⟩, hid rfl, HO1, hid (HC1.out.mono (by omega)), HG1⟩
  case round =>
    obtain ⟨k, m, xs, hkm, rfl, ⟨ao, cap, rfl⟩, HM, HO, HCR, HGR⟩ := hrel
    clear HC1 HO1 HG1
    by_cases hk : 0 < k
    · obtain ⟨k', rfl⟩ : ∃ k', k = k' + 1 := ⟨k - 1, by omega⟩
      have hkI : (0 : Int) < (k' : Int) + 1 := by omega
      go_wp2_with fail
      refine (cell_any g _ _ HCR.out (by omega)).mono ?_
      rintro e w2 ⟨x, rfl, hc2, hg2⟩
      have HC2 := hid hc2
      have HG2 := hid (grown_trans HGR.out hg2)
      have HO2 := hid (own_keep HO.out hg2 HGL.out)
      clear hc2 hg2 HCR HGR HO
      have hlen : xs.length ≤ 1099511627776 := by have := HM.out; omega
      cases hhas : decide (x ∈ xs) with
      | false =>
        go_wp2_with fail
        refine (l1Has_any _ xs _ _ HO2.out.ints).mono ?_
        rintro e w' ⟨rfl, rfl⟩
        rw [hhas]
        go_wp2_with (at_builtin; refine wpList_appendI w2 rfl _ _ rfl w.heap.size _ _ HO2.out rfl x rfl hlen HG2.out.size ?_; intro v' w3 ho' _ hb' _)
        have HO3 := hid ho'
        have HC3 := hid (HC2.out.below hb' HGL.out)
        have HG3 := hid (grown_below' HG2.out hb' HGL.out)
        clear ho' hb' HO2 HC2 HG2
        obtain ⟨ao3, cap3, b3, o3, he3, _⟩ := HO3.out.ints
        rw [List.length_append, HM.out] at he3
        subst he3
        go_wp2
        go_roundw
        case rel => exact ⟨k', m+1, xs ++ [x], by omega, by first | rfl | go_num | exact int_eq (by omega), ⟨_, _, rfl⟩, hid (by rw [List.length_append, HM.out]; rfl), HO3, hid (HC3.out.mono (by omega)), HG3⟩
        case measure => first | (simp [intOf]; done) | (simp [intOf]; omega)
      | true =>
        go_wp2_with fail
        refine (l1Has_any _ xs _ _ HO2.out.ints).mono ?_
        rintro e w' ⟨rfl, rfl⟩
        rw [hhas]
        go_wp2_with fail
        refine (one_any g _ 60 _ HC2.out (by omega) (by omega) (by omega)).mono ?_
        rintro e w25 ⟨b, rfl, hc25, hg25⟩
        have HC25 := hid hc25
        have HG25 := hid (grown_trans HG2.out hg25)
        have HO25 := hid (own_keep HO2.out hg25 HGL.out)
        clear hc25 hg25 HC2 HG2 HO2
        cases b with
        | true =>
          go_wp2_with (at_builtin; refine wpList_appendI w25 rfl _ _ rfl w.heap.size _ _ HO25.out rfl x rfl hlen HG25.out.size ?_; intro v' w3 ho' _ hb' _)
          have HO3 := hid ho'
          have HC3 := hid (HC25.out.below hb' HGL.out)
          have HG3 := hid (grown_below' HG25.out hb' HGL.out)
          clear ho' hb' HO25 HC25 HG25
          obtain ⟨ao3, cap3, b3, o3, he3, _⟩ := HO3.out.ints
          rw [List.length_append, HM.out] at he3
          subst he3
          go_wp2
          go_roundw
          case rel => exact ⟨k', m+1, xs ++ [x], by omega, by first | rfl | go_num | exact int_eq (by omega), ⟨_, _, rfl⟩, hid (by rw [List.length_append, HM.out]; rfl), HO3, hid (HC3.out.mono (by omega)), HG3⟩
          case measure => first | (simp [intOf]; done) | (simp [intOf]; omega)
        | false =>
          obtain ⟨ao3, cap3, b3, o3, he3, _⟩ := HO25.out.ints
          rw [HM.out] at he3
          go_wp2
          go_roundw
          case rel => exact ⟨k', m, xs, by omega, by first | rfl | go_num | exact int_eq (by omega), ⟨_, _, rfl⟩, HM, HO25, hid (HC25.out.mono (by omega)), HG25⟩
          case measure => first | (simp [intOf]; done) | (simp [intOf]; omega)
    · have hk0 : k = 0 := by omega
      subst hk0
      go_wp2_with fail
      refine (pick_any g _ 40 _ HCR.out (by omega) (by omega) (by omega)).mono ?_
      rintro e w2 ⟨r, rfl, hr, hc2, hg2⟩
      have HC2 := hid hc2
      have HG2 := hid (grown_trans HGR.out hg2)
      have HO2 := hid (own_keep HO.out hg2 HGL.out)
      clear hc2 hg2 HCR HGR HO
      by_cases hr0 : r = 0
      · subst hr0
        have HOZ := hid (OwnI.lit0 w2 w.heap.size HG2.out.size)
        have hbz : Below w2.heap.size w2 (w2.alloc (.cells #[] 3)) := (Below.refl _ _).alloc (Nat.le_refl _) _
        have HCZ := hid (HC2.out.later hbz)
        have HGZ := hid (grown_trans HG2.out (grown_of_below hbz (some g)))
        clear hbz
        go_wp2
        go_ret
        exact ⟨_, [], rfl, HOZ.out, by simp, HCZ.out.mono (by omega), HGZ.out⟩
      · have hb0 : ((r : Int) == 0) = false := by simpa using hr0
        by_cases hr1 : r = 1
        · subst hr1
          clear hr0
          go_wp2
          go_loopw [3] (fun oo wr => ∃ (m : Nat) (xs : List Int), m ≤ 13 ∧ (∃ ao cap, oo = .slice ao m cap) ∧ Hid (xs.length = m) ∧ Hid (OwnI wr w.heap.size oo xs) ∧ Hid (Cur wr g (a + 2 + 30 * (12 - 0) + 2)) ∧ Hid (w.grownBy wr (some g))) (fun oo _ => match oo with | .slice _ m _ => 13 - m | _ => 0)
          case atStart => exact ⟨m, xs, by omega, ⟨_, _, rfl⟩, HM, HO2, HC2, HG2⟩
          case round =>
            clear HO2 HC2 HG2 HM
            obtain ⟨m, xs, hm13, ⟨ao, cap, rfl⟩, HM, HO2, HC2, HG2⟩ := hrel
            by_cases hlt : m < 13
            · have hltI : (m : Int) < 13 := by omega
              have hlen : xs.length ≤ 1099511627776 := by have := HM.out; omega
              go_wp2_with (at_builtin; refine wpList_appendI wr rfl _ _ rfl w.heap.size _ _ HO2.out rfl (20 + (m : Int)) rfl hlen HG2.out.size ?_; intro v' w3 ho' _ hb' _)
              have HO3 := hid ho'
              have HC3 := hid (HC2.out.below hb' HGL.out)
              have HG3 := hid (grown_below' HG2.out hb' HGL.out)
              clear ho' hb' HO2 HC2 HG2
              obtain ⟨ao3, cap3, b3, o3, he3, _⟩ := HO3.out.ints
              rw [List.length_append, HM.out] at he3
              subst he3
              go_wp2
              go_roundw
              case rel => exact ⟨m+1, _, by omega, ⟨_, _, rfl⟩, hid (by rw [List.length_append, HM.out]; rfl), HO3, HC3, HG3⟩
              case measure =>
                show 13 - (m + 1) < 13 - m
                omega
            · have hnot : ¬ ((m : Int) < 13) := by omega
              go_wp2
              go_ret
              first | exact ⟨_, xs, rfl, HO2.out, by have := HM.out; omega, HC2.out.mono (by omega), HG2.out⟩ | exact ⟨_, rfl, xs, HO2.out, by have := HM.out; omega, HC2.out.mono (by omega), HG2.out⟩
        · have hb1 : ((r : Int) == 1) = false := by simp; omega
          go_wp2
          go_ret
          first | exact ⟨_, xs, rfl, HO2.out, by have := HM.out; omega, HC2.out.mono (by omega), HG2.out⟩ | exact ⟨_, rfl, xs, HO2.out, by have := HM.out; omega, HC2.out.mono (by omega), HG2.out⟩

end Go.Proofs.Ytfgjaefcfmjleaa
