import Derived.Test.YtfgjaefcfmjleaaDrawT
import Derived.Test.YtfgjaefcfmjleaaVHelp
import Derived.Test.YtfgjaefcfmjleaaDraw6
import Derived.Deep.DeepCutAuto
namespace Go.Proofs.Ytfgjaefcfmjleaa
open Go.RowKit

/-! ## What the laws over clocks draw -/

set_option maxRecDepth 100000 in
set_option maxHeartbeats 8000000 in
theorem DrawClockRow_any (v : Value) (n : Nat) (w : World) (h : Byts w v n) (hn : n ≤ 131072) :
    Calls Try.prog 164 #[v] w fun e w' => ∃ x : Int, e = .returned (.int .i64 x) ∧ Below w.heap.size w w' := by
  obtain ⟨ao, cap, rfl⟩ : ∃ ao cap, v = .slice ao n cap := by obtain ⟨ao, cap, b, o, rfl, _⟩ := h; exact ⟨ao, cap, rfl⟩
  have HCB := hid h
  have HC := hid (Cur.new h hn)
  have HB := hid ((Below.refl w.heap.size w).alloc (Nat.le_refl _) (.cells #[.slice ao n cap, .int .i64 0, .int .u64 0] 87))
  clear h
  go_enter Try.func164, Try.ntmps164
  go_upto_region 2 with fail
  have HBY := hid (HCB.out.later HB.out)
  generalize w.alloc (.cells #[.slice ao n cap, .int .i64 0, .int .u64 0] 87) = W0 at HC HB HBY ⊢
  have HLT : Hid (w.heap.size < W0.heap.size) := hid HC.out.lt
  clear HCB
  go_wp2_with fail
  refine (time_any w.heap.size 0 _ HC.out (by omega)).mono ?_
  rintro e w1 ⟨x, rfl, hc, hg⟩
  go_wp2
  go_ret
  exact ⟨_, rfl, HB.out.grown hg HB.out.size (fun k hk => by cases hk; exact Nat.le_refl _)⟩

set_option maxRecDepth 100000 in
set_option maxHeartbeats 8000000 in
theorem DrawLitAt_any (v : Value) (n : Nat) (w : World) (h : Byts w v n) (hn : n ≤ 131072) :
    Calls Try.prog 52 #[v] w fun e w' => ∃ x : Int, e = .returned (.int .i64 x) ∧ Below w.heap.size w w' := by
  go_enter Try.func52, Try.ntmps52
  go_wp2_with fail
  refine (DrawClockRow_any v n w h hn).mono ?_
  rintro e w1 ⟨x, rfl, hb⟩
  go_wp2
  go_ret
  exact ⟨_, rfl, hb⟩

set_option maxRecDepth 100000 in
set_option maxHeartbeats 8000000 in
theorem DrawMirrorTime_any (v : Value) (n : Nat) (w : World) (h : Byts w v n) (hn : n ≤ 131072) :
    Calls Try.prog 71 #[v] w fun e w' => ∃ x : Int, e = .returned (.int .i64 x) ∧ Below w.heap.size w w' := by
  go_enter Try.func71, Try.ntmps71
  go_wp2_with fail
  refine (DrawClockRow_any v n w h hn).mono ?_
  rintro e w1 ⟨x, rfl, hb⟩
  go_wp2
  go_ret
  exact ⟨_, rfl, hb⟩

set_option maxRecDepth 100000 in
set_option maxHeartbeats 8000000 in
theorem DrawTimesOfBars_any (v : Value) (n : Nat) (w : World) (h : Byts w v n) (hn : n ≤ 131072) :
    Calls Try.prog 65 #[v] w fun e w' => ∃ x : Int, e = .returned (.int .i64 x) ∧ Below w.heap.size w w' := by
  obtain ⟨ao, cap, rfl⟩ : ∃ ao cap, v = .slice ao n cap := by obtain ⟨ao, cap, b, o, rfl, _⟩ := h; exact ⟨ao, cap, rfl⟩
  have HCB := hid h
  have HC := hid (Cur.new h hn)
  have HB := hid ((Below.refl w.heap.size w).alloc (Nat.le_refl _) (.cells #[.slice ao n cap, .int .i64 0, .int .u64 0] 87))
  clear h
  go_enter Try.func65, Try.ntmps65
  go_upto_region 2 with fail
  have HBY := hid (HCB.out.later HB.out)
  generalize w.alloc (.cells #[.slice ao n cap, .int .i64 0, .int .u64 0] 87) = W0 at HC HB HBY ⊢
  have HLT : Hid (w.heap.size < W0.heap.size) := hid HC.out.lt
  clear HCB
  go_wp2_with fail
  refine (pick_any w.heap.size 0 31 _ HC.out (by omega) (by omega) (by omega)).mono ?_
  rintro e w1 ⟨x, rfl, _, hc, hg⟩
  go_wp2
  go_ret
  exact ⟨_, rfl, HB.out.grown hg HB.out.size (fun k hk => by cases hk; exact Nat.le_refl _)⟩

set_option maxRecDepth 100000 in
set_option maxHeartbeats 8000000 in
theorem DrawTimeOfRow_any (v : Value) (n : Nat) (w : World) (h : Byts w v n) (hn : n ≤ 131072) :
    Calls Try.prog 77 #[v] w fun e w' => ∃ (u : Value) (xs : List Int), e = .returned u ∧ OwnI w' w.heap.size u xs ∧ xs.length ≤ 7 ∧ Below w.heap.size w w' := by
  obtain ⟨ao, cap, rfl⟩ : ∃ ao cap, v = .slice ao n cap := by obtain ⟨ao, cap, b, o, rfl, _⟩ := h; exact ⟨ao, cap, rfl⟩
  have HCB := hid h
  have HC := hid (Cur.new h hn)
  have HB := hid ((Below.refl w.heap.size w).alloc (Nat.le_refl _) (.cells #[.slice ao n cap, .int .i64 0, .int .u64 0] 87))
  clear h
  go_enter Try.func77, Try.ntmps77
  go_upto_region 2 with fail
  have HBY := hid (HCB.out.later HB.out)
  generalize w.alloc (.cells #[.slice ao n cap, .int .i64 0, .int .u64 0] 87) = W0 at HC HB HBY ⊢
  have HLT : Hid (w.heap.size < W0.heap.size) := hid HC.out.lt
  clear HCB
  have HO0 := hid (OwnI.lit0 W0 W0.heap.size (Nat.le_refl _))
  have HBZ := hid ((Below.refl W0.heap.size W0).alloc (Nat.le_refl _) (.cells #[] 3))
  have HCZ := hid (HC.out.later HBZ.out)
  have HGZ := hid (grown_of_below HBZ.out (some w.heap.size))
  go_wp2_with fail
  refine (time_any w.heap.size 0 _ HCZ.out (by omega)).mono ?_
  rintro e w1 ⟨t, rfl, hc, hg⟩
  have HC1 := hid hc
  have HG1 := hid (grown_trans HGZ.out hg)
  have HO1 := hid (own_keep (B := W0.heap.size) HO0.out hg HLT.out)
  clear hc hg HC HO0 HBZ HCZ HGZ
  cases htb : timeB t with
  | false =>
    go_wp2_with fail
    refine (l6Time_any t _).mono ?_
    rintro e w' ⟨rfl, rfl⟩
    rw [htb]
    go_wp2_with fail
    refine (one_any w.heap.size _ 12 _ HC1.out (by omega) (by omega) (by omega)).mono ?_
    rintro e w7 ⟨b7, rfl, hc7, hg7⟩
    have HC7 := hid hc7
    have HG7 := hid (grown_trans HG1.out hg7)
    have HO7 := hid (own_keep (B := W0.heap.size) HO1.out hg7 HLT.out)
    clear hc7 hg7
    cases b7 with
    | true =>
      go_wp2_with fail
      refine (digits_any w.heap.size _ _ HC7.out (by omega)).mono ?_
      rintro e w8 ⟨u8, ys, rfl, ho8, hl8, hc8, hg8⟩
      have HO8 := hid (ho8.mono (Nat.le_trans HB.out.size HG7.out.size))
      have HG8 := hid (grown_trans HG7.out hg8)
      obtain ⟨ao3, cap3, b3, o3, he3, _⟩ := HO8.out.ints
      subst he3
      clear ho8 hc8 hg8
      go_wp2
      go_ret
      exact ⟨_, ys, rfl, HO8.out, hl8, HB.out.grown HG8.out HB.out.size (fun k hk => by cases hk; exact Nat.le_refl _)⟩
    | false =>
      go_wp2
      go_ret
      first | exact ⟨_, _, rfl, HO7.out.mono HB.out.size, by simp, HB.out.grown HG7.out HB.out.size (fun k hk => by cases hk; exact Nat.le_refl _)⟩ | exact ⟨_, rfl, _, HO7.out.mono HB.out.size, by simp, HB.out.grown HG7.out HB.out.size (fun k hk => by cases hk; exact Nat.le_refl _)⟩
  | true =>
    have htr := inB_true htb
    go_wp2_with fail
    refine (l6Time_any t _).mono ?_
    rintro e w' ⟨rfl, rfl⟩
    rw [htb]
    go_wp2_with fail
    refine (l6Row_any t _ htr.1 htr.2).mono ?_
    rintro e w2 ⟨vr, rfl, ho2, hb2⟩
    have HC2 := hid (HC1.out.later hb2)
    have HG2 := hid (grown_trans HG1.out (grown_of_below hb2 _))
    obtain ⟨a2, c2, rfl⟩ := ho2.spell (n := 4) (length_rowT t)
    have HO2 := hid (ho2.mono HG1.out.size)
    clear ho2 hb2 HC1 HG1 HO1
    go_wp2_with fail
    refine (one_any w.heap.size _ 4 _ HC2.out (by omega) (by omega) (by omega)).mono ?_
    rintro e w3 ⟨b3, rfl, hc3, hg3⟩
    have HC3 := hid hc3
    have HG3 := hid (grown_trans HG2.out hg3)
    have HO3 := hid (own_keep (B := W0.heap.size) HO2.out hg3 HLT.out)
    clear hc3 hg3 HC2 HG2 HO2
    cases b3 with
    | false =>
      go_wp2_with fail
      refine (one_any w.heap.size _ 12 _ HC3.out (by omega) (by omega) (by omega)).mono ?_
      rintro e w7 ⟨b7, rfl, hc7, hg7⟩
      have HC7 := hid hc7
      have HG7 := hid (grown_trans HG3.out hg7)
      have HO7 := hid (own_keep (B := W0.heap.size) HO3.out hg7 HLT.out)
      clear hc7 hg7
      cases b7 with
      | true =>
        go_wp2_with fail
        refine (digits_any w.heap.size _ _ HC7.out (by omega)).mono ?_
        rintro e w8 ⟨u8, ys, rfl, ho8, hl8, hc8, hg8⟩
        have HO8 := hid (ho8.mono (Nat.le_trans HB.out.size HG7.out.size))
        have HG8 := hid (grown_trans HG7.out hg8)
        obtain ⟨ao3, cap3, b3, o3, he3, _⟩ := HO8.out.ints
        subst he3
        clear ho8 hc8 hg8
        go_wp2
        go_ret
        exact ⟨_, ys, rfl, HO8.out, hl8, HB.out.grown HG8.out HB.out.size (fun k hk => by cases hk; exact Nat.le_refl _)⟩
      | false =>
        go_wp2
        go_ret
        first | exact ⟨_, _, rfl, HO7.out.mono HB.out.size, by rw [length_rowT]; omega, HB.out.grown HG7.out HB.out.size (fun k hk => by cases hk; exact Nat.le_refl _)⟩ | exact ⟨_, rfl, _, HO7.out.mono HB.out.size, by rw [length_rowT]; omega, HB.out.grown HG7.out HB.out.size (fun k hk => by cases hk; exact Nat.le_refl _)⟩
    | true =>
      go_wp2_with fail
      refine (pick_any w.heap.size _ 4 _ HC3.out (by omega) (by omega) (by omega)).mono ?_
      rintro e w4 ⟨q, rfl, hq, hc4, hg4⟩
      have HC4 := hid hc4
      have HG4 := hid (grown_trans HG3.out hg4)
      have HO4 := hid (own_keep (B := W0.heap.size) HO3.out hg4 HLT.out)
      clear hc4 hg4 HC3 HG3 HO3
      go_wp2_with fail
      refine (cell_any w.heap.size _ _ HC4.out (by omega)).mono ?_
      rintro e w5 ⟨y, rfl, hc5, hg5⟩
      have HC5 := hid hc5
      have HG5 := hid (grown_trans HG4.out hg5)
      have HO5 := hid (own_keep (B := W0.heap.size) HO4.out hg5 HLT.out)
      clear hc5 hg5 HC4 HG4 HO4
      obtain ⟨gb, cb, hv, hgb1, hgb2⟩ := ownI_shape HO5.out (length_rowT t) (by omega)
      simp only [Value.slice.injEq] at hv
      obtain ⟨rfl, _, rfl⟩ := hv
      have hcell := HO5.out.cell (length_rowT t) (i := q) (by omega)
      have hfree := HO5.out.free (length_rowT t) q
      obtain ⟨HOS, HGS⟩ := HO5.out.set (length_rowT t) q y rfl
      have HOS := hid HOS
      have HBS : Below W0.heap.size w5 (w5.setCell ⟨gb, q, none⟩ (.int .i64 y)) := (Below.refl _ _).grown HGS HG5.out.size (fun k hk => by cases hk; exact hgb1)
      have HCS := hid (HC5.out.below HBS HLT.out)
      have HGSS := hid (grown_below' HG5.out HBS HLT.out)
      have z1 : (0 : Int) ≤ q := by omega
      have z2 : (q : Int) < 4 := by omega
      clear HGS HBS HO5 HC5 HG5
      go_wp2_with fail
      refine (one_any w.heap.size _ 12 _ HCS.out (by omega) (by omega) (by omega)).mono ?_
      rintro e w7 ⟨b7, rfl, hc7, hg7⟩
      have HC7 := hid hc7
      have HG7 := hid (grown_trans HGSS.out hg7)
      have HO7 := hid (own_keep (B := W0.heap.size) HOS.out hg7 HLT.out)
      clear hc7 hg7
      cases b7 with
      | true =>
        go_wp2_with fail
        refine (digits_any w.heap.size _ _ HC7.out (by omega)).mono ?_
        rintro e w8 ⟨u8, ys, rfl, ho8, hl8, hc8, hg8⟩
        have HO8 := hid (ho8.mono (Nat.le_trans HB.out.size HG7.out.size))
        have HG8 := hid (grown_trans HG7.out hg8)
        obtain ⟨ao3, cap3, b3, o3, he3, _⟩ := HO8.out.ints
        subst he3
        clear ho8 hc8 hg8
        go_wp2
        go_ret
        exact ⟨_, ys, rfl, HO8.out, hl8, HB.out.grown HG8.out HB.out.size (fun k hk => by cases hk; exact Nat.le_refl _)⟩
      | false =>
        go_wp2
        go_ret
        first | exact ⟨_, _, rfl, HO7.out.mono HB.out.size, by rw [List.length_set, length_rowT]; omega, HB.out.grown HG7.out HB.out.size (fun k hk => by cases hk; exact Nat.le_refl _)⟩ | exact ⟨_, rfl, _, HO7.out.mono HB.out.size, by rw [List.length_set, length_rowT]; omega, HB.out.grown HG7.out HB.out.size (fun k hk => by cases hk; exact Nat.le_refl _)⟩

set_option maxRecDepth 100000 in
set_option maxHeartbeats 8000000 in
theorem DrawTimesLike_any (v : Value) (n : Nat) (w : World) (h : Byts w v n) (hn : n ≤ 131072) :
    Calls Try.prog 61 #[v] w fun e w' => ∃ (u : Value) (xs : List Int), e = .returned u ∧ OwnI w' w.heap.size u xs ∧ xs.length ≤ 7 ∧ Below w.heap.size w w' := by
  obtain ⟨ao, cap, rfl⟩ : ∃ ao cap, v = .slice ao n cap := by obtain ⟨ao, cap, b, o, rfl, _⟩ := h; exact ⟨ao, cap, rfl⟩
  have HCB := hid h
  have HC := hid (Cur.new h hn)
  have HB := hid ((Below.refl w.heap.size w).alloc (Nat.le_refl _) (.cells #[.slice ao n cap, .int .i64 0, .int .u64 0] 87))
  clear h
  go_enter Try.func61, Try.ntmps61
  go_upto_region 2 with fail
  have HBY := hid (HCB.out.later HB.out)
  generalize w.alloc (.cells #[.slice ao n cap, .int .i64 0, .int .u64 0] 87) = W0 at HC HB HBY ⊢
  have HLT : Hid (w.heap.size < W0.heap.size) := hid HC.out.lt
  clear HCB
  go_wp2_with fail
  refine (DrawTimeOfRow_any _ n _ HBY.out hn).mono ?_
  rintro e w1 ⟨u, xs0, rfl, ho, hl0, hb⟩
  have HC1 := hid (HC.out.later hb)
  have HG1 := hid (grown_of_below hb (some w.heap.size))
  have HO1 := hid ho
  obtain ⟨a1, c1, rfl⟩ := ho.spell rfl
  clear ho hb HC HBY
  go_wp2
  go_loopw [5] (fun ii wr => ∃ (i : Nat) (xs : List Int), i ≤ xs0.length ∧ ii = .int .i64 i ∧ Hid (xs.length = xs0.length) ∧ Hid (OwnI wr W0.heap.size (.slice a1 xs0.length c1) xs) ∧ Hid (Cur wr w.heap.size (4 * i)) ∧ Hid (W0.grownBy wr (some w.heap.size))) (fun ii _ => xs0.length - (intOf ii).toNat)
  case atStart => exact ⟨0, xs0, by omega, rfl, hid rfl, HO1, HC1, HG1⟩
  case round =>
    obtain ⟨i, xs, hi, rfl, HM, HO, HCR, HGR⟩ := hrel
    clear HC1 HO1 HG1
    by_cases hlt : i < xs0.length
    · go_wp2_with fail
      refine (one_any w.heap.size _ 3 _ HCR.out (by omega) (by omega) (by omega)).mono ?_
      rintro e w2 ⟨b, rfl, hc2, hg2⟩
      have HC2 := hid hc2
      have HG2 := hid (grown_trans HGR.out hg2)
      have HO2 := hid (own_keep HO.out hg2 HLT.out)
      clear hc2 hg2 HCR HGR HO
      cases b with
      | false =>
        go_wp2
        go_roundw
        case rel => exact ⟨i+1, xs, by omega, by go_num, HM, HO2, hid (HC2.out.mono (by omega)), HG2⟩
        case measure => simp [intOf]; omega
      | true =>
        obtain ⟨gb, cb, hv, hgb1, hgb2⟩ := ownI_shape HO2.out HM.out (by omega)
        simp only [Value.slice.injEq] at hv
        obtain ⟨rfl, _, rfl⟩ := hv
        have hcell := HO2.out.cell HM.out hlt
        have hfree := HO2.out.free HM.out i
        generalize xs.getD i 0 = x at hcell
        obtain ⟨HOS, HGS⟩ := HO2.out.set HM.out i (-1) rfl
        have HOS := hid HOS
        have HBS : Below W0.heap.size w2 (w2.setCell ⟨gb, i, none⟩ (.int .i64 (-1))) := (Below.refl _ _).grown HGS HG2.out.size (fun k hk => by cases hk; exact hgb1)
        have HCS := hid (HC2.out.below HBS HLT.out)
        have HGSS := hid (grown_below' HG2.out HBS HLT.out)
        have z1 : (0 : Int) ≤ i := by omega
        have z2 : (i : Int) < xs0.length := by omega
        clear HGS HBS HO2 HC2 HG2
        go_wp2
        go_roundw
        case rel => exact ⟨i+1, xs.set i (-1), by omega, by go_num, hid (by rw [List.length_set]; exact HM.out), HOS, hid (HCS.out.mono (by omega)), HGSS⟩
        case measure => simp [intOf]; omega
    · have hin : i = xs0.length := by omega
      by_cases h0 : 0 < xs0.length
      · have h0I : (0 : Int) < xs0.length := by omega
        go_wp2_with fail
        refine (one_any w.heap.size _ 24 _ HCR.out (by omega) (by omega) (by omega)).mono ?_
        rintro e w2 ⟨b, rfl, hc2, hg2⟩
        have HC2 := hid hc2
        have HG2 := hid (grown_trans HGR.out hg2)
        have HO2 := hid (own_keep HO.out hg2 HLT.out)
        clear hc2 hg2 HCR HGR HO
        cases b with
        | false =>
          go_wp2
          go_ret
          first | exact ⟨_, xs, rfl, HO2.out.mono HB.out.size, by have := HM.out; omega, HB.out.grown HG2.out HB.out.size (fun k hk => by cases hk; exact Nat.le_refl _)⟩ | exact ⟨_, rfl, xs, HO2.out.mono HB.out.size, by have := HM.out; omega, HB.out.grown HG2.out HB.out.size (fun k hk => by cases hk; exact Nat.le_refl _)⟩
        | true =>
          go_wp2_with fail
          refine (pick_any w.heap.size _ xs0.length _ HC2.out (by omega) (by omega) (by omega)).mono ?_
          rintro e w4 ⟨q, rfl, hq, hc4, hg4⟩
          have HC4 := hid hc4
          have HG4 := hid (grown_trans HG2.out hg4)
          have HO4 := hid (own_keep HO2.out hg4 HLT.out)
          clear hc4 hg4 HC2 HG2 HO2
          go_wp2_with fail
          refine (among_lit w.heap.size _ [-2, 128] _ _ _ HC4.out (by omega) (by first | rfl | simp) rfl (by decide) (by decide)).mono ?_
          rintro e w5 ⟨y, rfl, _, hc5, hg5⟩
          have HG5 := hid (grown_trans HG4.out hg5)
          have HO5 := hid (own_keep HO4.out hg5 HLT.out)
          clear hc5 hg5 HC4 HG4 HO4
          obtain ⟨gb, cb, hv, hgb1, hgb2⟩ := ownI_shape HO5.out HM.out h0
          simp only [Value.slice.injEq] at hv
          obtain ⟨rfl, _, rfl⟩ := hv
          have hcell := HO5.out.cell HM.out (i := q) (by omega)
          have hfree := HO5.out.free HM.out q
          generalize xs.getD q 0 = x at hcell
          obtain ⟨HOS, HGS⟩ := HO5.out.set HM.out q y rfl
          have HOS := hid HOS
          have HBS : Below W0.heap.size w5 (w5.setCell ⟨gb, q, none⟩ (.int .i64 y)) := (Below.refl _ _).grown HGS HG5.out.size (fun k hk => by cases hk; exact hgb1)
          have HGSS := hid (grown_below' HG5.out HBS HLT.out)
          have z1 : (0 : Int) ≤ q := by omega
          have z2 : (q : Int) < xs0.length := by omega
          clear HGS HBS HO5 HG5
          go_wp2
          go_ret
          first | exact ⟨_, _, rfl, HOS.out.mono HB.out.size, by rw [List.length_set]; have := HM.out; omega, HB.out.grown HGSS.out HB.out.size (fun k hk => by cases hk; exact Nat.le_refl _)⟩ | exact ⟨_, rfl, _, HOS.out.mono HB.out.size, by rw [List.length_set]; have := HM.out; omega, HB.out.grown HGSS.out HB.out.size (fun k hk => by cases hk; exact Nat.le_refl _)⟩
      · have h0I : ¬ (0 : Int) < xs0.length := by omega
        go_wp2
        go_ret
        first | exact ⟨_, xs, rfl, HO.out.mono HB.out.size, by have := HM.out; omega, HB.out.grown HGR.out HB.out.size (fun k hk => by cases hk; exact Nat.le_refl _)⟩ | exact ⟨_, rfl, xs, HO.out.mono HB.out.size, by have := HM.out; omega, HB.out.grown HGR.out HB.out.size (fun k hk => by cases hk; exact Nat.le_refl _)⟩

end Go.Proofs.Ytfgjaefcfmjleaa
