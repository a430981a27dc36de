import Derived.Test.YtfgjaefcfmjleaaDraws
import Derived.OwnWalk
import Derived.Lib.SliceRun
import Derived.Laws.AppendOwn
import Derived.Deep.AppendLies
namespace Go.Proofs.Ytfgjaefcfmjleaa
open Go.RowKit

/-! ## What the laws draw: digits -/
theorem ownI_shape {w : World} {B n : Nat} {v : Value} {xs : List Int} (h : OwnI w B v xs) (hl : xs.length = n) (hn : 0 < n) : ∃ g cap, v = .slice (some ⟨g, 0, none⟩) n cap ∧ B ≤ g ∧ g < w.heap.size := by
  subst hl
  exact World.ownsRow.form h hn
set_option maxRecDepth 100000 in
set_option maxHeartbeats 8000000 in
theorem DrawDigitCode_any (v : Value) (n : Nat) (w : World) (h : Byts w v n) (hn : n ≤ 131072) :
    Calls Try.prog 26 #[v] w fun e w' => ∃ (u : Value) (xs : List Int), e = .returned u ∧ OwnI w' w.heap.size u xs ∧ xs.length ≤ 13 ∧ Below w.heap.size w w' := by
  obtain ⟨ao0, cap0, rfl⟩ : ∃ ao cap, v = .slice ao n cap := by obtain ⟨ao, cap, b, o, rfl, _⟩ := h; exact ⟨ao, cap, rfl⟩
  have HC0 := hid (Cur.new h hn)
  have HBL := hid ((Below.refl w.heap.size w).alloc (Nat.le_refl _) (.cells #[.slice ao0 n cap0, .int .i64 0, .int .u64 0] 87))
  have HO0 : Hid (OwnI ((w.alloc (.cells #[.slice ao0 n cap0, .int .i64 0, .int .u64 0] 87)).alloc (.cells #[] 3)) (w.heap.size + 1) (.slice (some ⟨w.heap.size + 1, 0, none⟩) 0 0) []) := hid (by
    have h0 := OwnI.lit0 (w.alloc (.cells #[.slice ao0 n cap0, .int .i64 0, .int .u64 0] 87)) (w.heap.size + 1) (by simp)
    have h1 : (w.alloc (.cells #[.slice ao0 n cap0, .int .i64 0, .int .u64 0] 87)).heap.size = w.heap.size + 1 := by simp
    rw [h1] at h0
    exact h0)
  have hb1 : Below (w.alloc (.cells #[.slice ao0 n cap0, .int .i64 0, .int .u64 0] 87)).heap.size (w.alloc (.cells #[.slice ao0 n cap0, .int .i64 0, .int .u64 0] 87)) ((w.alloc (.cells #[.slice ao0 n cap0, .int .i64 0, .int .u64 0] 87)).alloc (.cells #[] 3)) := (Below.refl _ _).alloc (Nat.le_refl _) _
  have HC := hid (HC0.out.later hb1)
  have HB1 := hid hb1
  have HGL : Hid (w.heap.size < w.heap.size + 1) := hid (by omega)
  clear h hb1
  go_enter Try.func26, Try.ntmps26
  go_wp2_with fail
  refine (among_lit w.heap.size 0 [4, 3, 6, 2, 1, 10, 0] _ _ _ HC.out (by omega) (by first | rfl | simp) rfl (by decide) (by decide)).mono ?_
  rintro e w1 ⟨k0I, rfl, hk, hc1, hg1⟩
  have HC1 := hid hc1
  have HG1 := hid (grown_trans (grown_of_below HB1.out (some w.heap.size)) hg1)
  have HO1 := hid (own_keep HO0.out hg1 HGL.out)
  obtain ⟨k0, hk0, hk12⟩ : ∃ k0 : Nat, k0I = k0 ∧ k0 ≤ 10 := by
    simp at hk
    rcases hk with rfl | rfl | rfl | rfl | rfl | rfl | rfl
    · exact ⟨4, rfl, by omega⟩
    · exact ⟨3, rfl, by omega⟩
    · exact ⟨6, rfl, by omega⟩
    · exact ⟨2, rfl, by omega⟩
    · exact ⟨1, rfl, by omega⟩
    · exact ⟨10, rfl, by omega⟩
    · exact ⟨0, rfl, by omega⟩
  subst hk0
  clear hc1 hg1 HB1 HC HO0 hk HC0
  go_wp2
  go_loopw [4, 5, 6] (fun oo nn _ wr => ∃ (k m : Nat) (xs : List Int), k + m ≤ 10 ∧ nn = .int .i64 k ∧ (∃ ao cap, oo = .slice ao m cap) ∧ Hid (xs.length = m) ∧ Hid (OwnI wr (w.heap.size + 1) oo xs) ∧ Hid (Cur wr w.heap.size (2 + 30 * (12 - k))) ∧ Hid ((w.alloc (.cells #[.slice ao0 n cap0, .int .i64 0, .int .u64 0] 87)).grownBy wr (some w.heap.size))) (fun _ nn _ _ => (intOf nn).toNat)
  case atStart => exact ⟨k0, 0, [], by omega, rfl, ⟨_, _, rfl⟩, hid rfl, HO1, hid (HC1.out.mono (by omega)), HG1⟩
  case round =>
    obtain ⟨k, m, xs, hkm, rfl, ⟨ao, cap, rfl⟩, HM, HO, HCR, HGR⟩ := hrel
    clear HC1 HO1 HG1
    by_cases hk : 0 < k
    · obtain ⟨k', rfl⟩ : ∃ k', k = k' + 1 := ⟨k - 1, by omega⟩
      have hkI : (0 : Int) < (k' : Int) + 1 := by omega
      go_wp2_with fail
      refine (pick_any w.heap.size _ 10 _ HCR.out (by omega) (by omega) (by omega)).mono ?_
      rintro e w2 ⟨x, rfl, _, hc2, hg2⟩
      have HC2 := hid hc2
      have HG2 := hid (grown_trans HGR.out hg2)
      have HO2 := hid (own_keep HO.out hg2 HGL.out)
      clear hc2 hg2 HCR HGR HO
      have hlen : xs.length ≤ 1099511627776 := by have := HM.out; omega
      cases hhas : decide ((x : Int) ∈ xs) with
      | false =>
        go_wp2_with fail
        refine (l1Has_any _ xs _ _ HO2.out.ints).mono ?_
        rintro e w' ⟨rfl, rfl⟩
        rw [hhas]
        go_wp2_with (at_builtin; refine wpList_appendI w2 rfl _ _ rfl (w.heap.size + 1) _ _ HO2.out rfl x rfl hlen (by have := HG2.out.size; simpa using this) ?_; intro v' w3 ho' _ hb' _)
        have HO3 := hid ho'
        have HC3 := hid (HC2.out.below hb' HGL.out)
        have HG3 := hid (grown_below' HG2.out hb' (by simp) (by simp))
        clear ho' hb' HO2 HC2 HG2
        obtain ⟨ao3, cap3, b3, o3, he3, _⟩ := HO3.out.ints
        rw [List.length_append, HM.out] at he3
        subst he3
        go_wp2
        go_roundw
        case rel => exact ⟨k', m+1, xs ++ [(x : Int)], by omega, by first | rfl | go_num | exact int_eq (by omega), ⟨_, _, rfl⟩, hid (by rw [List.length_append, HM.out]; rfl), HO3, hid (HC3.out.mono (by omega)), HG3⟩
        case measure => first | (simp [intOf]; done) | (simp [intOf]; omega)
      | true =>
        go_wp2_with fail
        refine (l1Has_any _ xs _ _ HO2.out.ints).mono ?_
        rintro e w' ⟨rfl, rfl⟩
        rw [hhas]
        go_wp2_with fail
        refine (one_any w.heap.size _ 40 _ HC2.out (by omega) (by omega) (by omega)).mono ?_
        rintro e w25 ⟨b, rfl, hc25, hg25⟩
        have HC25 := hid hc25
        have HG25 := hid (grown_trans HG2.out hg25)
        have HO25 := hid (own_keep HO2.out hg25 HGL.out)
        clear hc25 hg25 HC2 HG2 HO2
        cases b with
        | true =>
          go_wp2_with (at_builtin; refine wpList_appendI w25 rfl _ _ rfl (w.heap.size + 1) _ _ HO25.out rfl x rfl hlen (by have := HG25.out.size; simpa using this) ?_; intro v' w3 ho' _ hb' _)
          have HO3 := hid ho'
          have HC3 := hid (HC25.out.below hb' HGL.out)
          have HG3 := hid (grown_below' HG25.out hb' (by simp) (by simp))
          clear ho' hb' HO25 HC25 HG25
          obtain ⟨ao3, cap3, b3, o3, he3, _⟩ := HO3.out.ints
          rw [List.length_append, HM.out] at he3
          subst he3
          go_wp2
          go_roundw
          case rel => exact ⟨k', m+1, xs ++ [(x : Int)], by omega, by first | rfl | go_num | exact int_eq (by omega), ⟨_, _, rfl⟩, hid (by rw [List.length_append, HM.out]; rfl), HO3, hid (HC3.out.mono (by omega)), HG3⟩
          case measure => first | (simp [intOf]; done) | (simp [intOf]; omega)
        | false =>
          obtain ⟨ao3, cap3, b3, o3, he3, _⟩ := HO25.out.ints
          rw [HM.out] at he3
          go_wp2
          go_roundw
          case rel => exact ⟨k', m, xs, by omega, by first | rfl | go_num | exact int_eq (by omega), ⟨_, _, rfl⟩, HM, HO25, hid (HC25.out.mono (by omega)), HG25⟩
          case measure => first | (simp [intOf]; done) | (simp [intOf]; omega)
    · have hk0 : k = 0 := by omega
      subst hk0
      by_cases hm0 : m = 0
      · subst hm0
        go_wp2
        go_ret
        exact ⟨_, xs, rfl, HO.out.mono (by omega), by have := HM.out; omega, grown_new HBL.out HGR.out rfl⟩
      · have hmI : (0 : Int) < m := by omega
        go_wp2_with fail
        refine (one_any w.heap.size _ 24 _ HCR.out (by omega) (by omega) (by omega)).mono ?_
        rintro e w2 ⟨b, rfl, hc2, hg2⟩
        have HC2 := hid hc2
        have HG2 := hid (grown_trans HGR.out hg2)
        have HO2 := hid (own_keep HO.out hg2 HGL.out)
        clear hc2 hg2 HCR HGR HO
        cases b with
        | false =>
          go_wp2
          go_ret
          first | exact ⟨_, xs, rfl, HO2.out.mono (by omega), by have := HM.out; omega, grown_new HBL.out HG2.out rfl⟩ | exact ⟨_, rfl, xs, HO2.out.mono (by omega), by have := HM.out; omega, grown_new HBL.out HG2.out rfl⟩
        | true =>
          go_wp2_with fail
          refine (among_lit w.heap.size _ [10, -1, 4611686018427387904] _ _ _ HC2.out (by omega) (by first | rfl | simp) rfl (by decide) (by decide)).mono ?_
          rintro e w3 ⟨y, rfl, _, hc3, hg3⟩
          have HG3 := hid (grown_trans HG2.out hg3)
          have HO3 := hid (own_keep HO2.out hg3 HGL.out)
          clear hc3 hg3 HO2 HG2 HC2
          obtain ⟨gb, capb, heb, hgb1, hgb2⟩ := ownI_shape HO3.out HM.out (by omega)
          simp only [Value.slice.injEq] at heb
          obtain ⟨rfl, _, rfl⟩ := heb
          have hcell0 := HO3.out.cell HM.out (i := 0) (by omega)
          have hfree0 := HO3.out.free HM.out 0
          obtain ⟨HOS, HGS⟩ := HO3.out.set HM.out 0 y rfl
          have HOS := hid HOS
          have HB3 := hid ((grown_new HBL.out HG3.out rfl).grown HGS (Nat.le_trans HBL.out.size HG3.out.size) (fun k hk => by cases hk; omega))
          clear HGS
          go_wp2
          go_ret
          first | exact ⟨_, _, rfl, HOS.out.mono (by omega), by have := HM.out; simp; omega, HB3.out⟩ | exact ⟨_, rfl, _, HOS.out.mono (by omega), by have := HM.out; simp; omega, HB3.out⟩

end Go.Proofs.Ytfgjaefcfmjleaa
