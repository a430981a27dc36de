import Derived.Test.YtfgjaefcfmjleaaDrawF
namespace Go.Proofs.Ytfgjaefcfmjleaa
open Go.RowKit


set_option maxRecDepth 100000 in
set_option maxHeartbeats 8000000 in
theorem DrawIsFrame_any (v : Value) (n : Nat) (w : World) (h : Byts w v n) (hn : n ≤ 131072) :
    Calls Try.prog 192 #[v] w fun e w' => ∃ (k : Int) (u : Value) (xs : List (Int × Int)), e = .returned (.tuple #[.int .i64 k, u]) ∧ Own2 108 w' w.heap.size u xs ∧ xs.length ≤ 13 ∧ Below w.heap.size w w' := by
  obtain ⟨ao, cap, rfl⟩ : ∃ ao cap, v = .slice ao n cap := by obtain ⟨ao, cap, b, o, rfl, _⟩ := h; exact ⟨ao, cap, rfl⟩
  have HC := hid (Cur.new h hn)
  have HB := hid ((Below.refl w.heap.size w).alloc (Nat.le_refl _) (.cells #[.slice ao n cap, .int .i64 0, .int .u64 0] 87))
  clear h
  go_enter Try.func192, Try.ntmps192
  go_upto_region 2 with fail
  generalize w.alloc (.cells #[.slice ao n cap, .int .i64 0, .int .u64 0] 87) = W0 at HC HB ⊢
  have HLT : Hid (w.heap.size < W0.heap.size) := hid HC.out.lt
  go_wp2_with fail
  refine (frame_any w.heap.size 0 _ HC.out (by omega)).mono ?_
  rintro e w1 ⟨k, u, xs, rfl, ho, hl, hc, hg⟩
  obtain ⟨a1, c1, rfl⟩ := ho.spell rfl
  have HO := hid (ho.mono HB.out.size)
  have HBB := hid (HB.out.grown hg HB.out.size (fun k hk => by cases hk; exact Nat.le_refl _))
  clear ho hc hg HC HB
  go_wp2
  go_ret2
  exact ⟨k, _, xs, rfl, HO.out, hl, HBB.out⟩

set_option maxRecDepth 100000 in
set_option maxHeartbeats 8000000 in
theorem DrawSeenOf_any (v : Value) (n : Nat) (w : World) (h : Byts w v n) (hn : n ≤ 131072) :
    Calls Try.prog 92 #[v] w fun e w' => ∃ (k : Int) (u : Value) (xs : List (Int × Int)), e = .returned (.tuple #[.int .i64 k, u]) ∧ Own2 108 w' w.heap.size u xs ∧ xs.length ≤ 13 ∧ Below w.heap.size w w' := by
  go_enter Try.func92, Try.ntmps92
  go_wp2_with fail
  refine (DrawIsFrame_any v n w h hn).mono ?_
  rintro e w1 ⟨k, u, xs, rfl, ho, hl, hb⟩
  obtain ⟨a1, c1, rfl⟩ := ho.spell rfl
  have HO := hid ho
  have HBB := hid hb
  clear ho hb
  go_wp2
  go_ret2
  exact ⟨k, _, xs, rfl, HO.out, hl, HBB.out⟩

set_option maxRecDepth 100000 in
set_option maxHeartbeats 8000000 in
theorem DrawNumberOf_any (v : Value) (n : Nat) (w : World) (h : Byts w v n) (hn : n ≤ 131072) :
    Calls Try.prog 202 #[v] w fun e w' => ∃ (u : Value) (xs : List Int), e = .returned u ∧ OwnI w' w.heap.size u xs ∧ xs.length ≤ 7 ∧ Below w.heap.size w w' := by
  obtain ⟨ao, cap, rfl⟩ : ∃ ao cap, v = .slice ao n cap := by obtain ⟨ao, cap, b, o, rfl, _⟩ := h; exact ⟨ao, cap, rfl⟩
  have HC := hid (Cur.new h hn)
  have HB := hid ((Below.refl w.heap.size w).alloc (Nat.le_refl _) (.cells #[.slice ao n cap, .int .i64 0, .int .u64 0] 87))
  clear h
  go_enter Try.func202, Try.ntmps202
  go_upto_region 2 with fail
  generalize w.alloc (.cells #[.slice ao n cap, .int .i64 0, .int .u64 0] 87) = W0 at HC HB ⊢
  have HLT : Hid (w.heap.size < W0.heap.size) := hid HC.out.lt
  go_wp2_with fail
  refine (digits_any w.heap.size 0 _ HC.out (by omega)).mono ?_
  rintro e w1 ⟨u, xs, rfl, ho, hl, hc, hg⟩
  obtain ⟨a1, c1, rfl⟩ := ho.spell rfl
  have HO := hid (ho.mono HB.out.size)
  have HBB := hid (HB.out.grown hg HB.out.size (fun k hk => by cases hk; exact Nat.le_refl _))
  clear ho hc hg HC HB
  go_wp2
  go_ret
  exact ⟨_, xs, rfl, HO.out, hl, HBB.out⟩

set_option maxRecDepth 100000 in
set_option maxHeartbeats 8000000 in
theorem DrawPlainFrame_any (v : Value) (n : Nat) (w : World) (h : Byts w v n) (hn : n ≤ 131072) :
    Calls Try.prog 105 #[v] w fun e w' => ∃ (u : Value) (xs : List Int), e = .returned u ∧ OwnI w' w.heap.size u xs ∧ xs.length ≤ 7 ∧ Below w.heap.size w w' := by
  go_enter Try.func105, Try.ntmps105
  go_wp2_with fail
  refine (DrawNumberOf_any v n w h hn).mono ?_
  rintro e w1 ⟨u, xs, rfl, ho, hl, hb⟩
  obtain ⟨a1, c1, rfl⟩ := ho.spell rfl
  have HO := hid ho
  have HBB := hid hb
  clear ho hb
  go_wp2
  go_ret
  exact ⟨_, xs, rfl, HO.out, hl, HBB.out⟩

set_option maxRecDepth 100000 in
set_option maxHeartbeats 8000000 in
theorem DrawFullBars_any (v : Value) (n : Nat) (w : World) (h : Byts w v n) (hn : n ≤ 131072) :
    Calls Try.prog 111 #[v] w fun e w' => ∃ (u : Value) (xs : List Int) (d : Int), e = .returned (.tuple #[u, .int .i64 d]) ∧ OwnI w' w.heap.size u xs ∧ xs.length ≤ 7 ∧ Below w.heap.size w w' := by
  obtain ⟨ao, cap, rfl⟩ : ∃ ao cap, v = .slice ao n cap := by obtain ⟨ao, cap, b, o, rfl, _⟩ := h; exact ⟨ao, cap, rfl⟩
  have HC := hid (Cur.new h hn)
  have HB := hid ((Below.refl w.heap.size w).alloc (Nat.le_refl _) (.cells #[.slice ao n cap, .int .i64 0, .int .u64 0] 87))
  clear h
  go_enter Try.func111, Try.ntmps111
  go_upto_region 2 with fail
  generalize w.alloc (.cells #[.slice ao n cap, .int .i64 0, .int .u64 0] 87) = W0 at HC HB ⊢
  have HLT : Hid (w.heap.size < W0.heap.size) := hid HC.out.lt
  go_wp2_with fail
  refine (digits_any w.heap.size 0 _ HC.out (by omega)).mono ?_
  rintro e w1 ⟨u, xs, rfl, ho, hl, hc, hg⟩
  obtain ⟨a1, c1, rfl⟩ := ho.spell rfl
  have HO1 := hid ho
  have HC1 := hid hc
  have HG1 := hid hg
  have hp := pow7F hl
  clear ho hc hg HC
  go_wp2_with fail
  refine (pick_any w.heap.size _ ((2 : Int) ^ xs.length) _ HC1.out (by omega) hp.1 (by omega)).mono ?_
  rintro e w2 ⟨q, rfl, hq, hc2, hg2⟩
  have HO2 := hid (own_keep HO1.out hg2 HLT.out)
  have HC2 := hid hc2
  have HG2 := hid (grown_trans HG1.out hg2)
  clear hc2 hg2 HO1 HC1 HG1
  go_wp2_with fail
  refine (pick_any w.heap.size _ 24 _ HC2.out (by omega) (by omega) (by omega)).mono ?_
  rintro e w3 ⟨q3, rfl, hq3, hc3, hg3⟩
  have HO3 := hid (own_keep HO2.out hg3 HLT.out)
  have HG3 := hid (grown_trans HG2.out hg3)
  clear hc3 hg3 HO2 HC2 HG2
  go_wp2
  go_ret2
  exact ⟨_, xs, _, rfl, HO3.out.mono HB.out.size, hl, HB.out.grown HG3.out HB.out.size (fun k hk => by cases hk; exact Nat.le_refl _)⟩

set_option maxRecDepth 100000 in
set_option maxHeartbeats 8000000 in
theorem DrawLeastSlots_any (v : Value) (n : Nat) (w : World) (h : Byts w v n) (hn : n ≤ 131072) :
    Calls Try.prog 108 #[v] w fun e w' => ∃ (u : Value) (xs : List Int), e = .returned u ∧ OwnI w' w.heap.size u xs ∧ xs.length ≤ 7 ∧ Below w.heap.size w w' := by
  obtain ⟨ao, cap, rfl⟩ : ∃ ao cap, v = .slice ao n cap := by obtain ⟨ao, cap, b, o, rfl, _⟩ := h; exact ⟨ao, cap, rfl⟩
  have HC := hid (Cur.new h hn)
  have HB := hid ((Below.refl w.heap.size w).alloc (Nat.le_refl _) (.cells #[.slice ao n cap, .int .i64 0, .int .u64 0] 87))
  clear h
  go_enter Try.func108, Try.ntmps108
  go_upto_region 2 with fail
  generalize w.alloc (.cells #[.slice ao n cap, .int .i64 0, .int .u64 0] 87) = W0 at HC HB ⊢
  have HLT : Hid (w.heap.size < W0.heap.size) := hid HC.out.lt
  go_wp2_with fail
  refine (one_any w.heap.size 0 3 _ HC.out (by omega) (by omega) (by omega)).mono ?_
  rintro e w1 ⟨b, rfl, hc1, hg1⟩
  have HC1 := hid hc1
  have HG1 := hid hg1
  clear hc1 hg1 HC
  cases b with
  | false =>
    go_wp2_with fail
    refine (digits_any w.heap.size _ _ HC1.out (by omega)).mono ?_
    rintro e w2 ⟨u, xs, rfl, ho, hl, hc, hg⟩
    obtain ⟨a1, c1, rfl⟩ := ho.spell rfl
    have HO := hid (ho.mono (Nat.le_trans HB.out.size HG1.out.size))
    have HG2 := hid (grown_trans HG1.out hg)
    clear ho hc hg
    go_wp2
    go_ret
    exact ⟨_, xs, rfl, HO.out, hl, HB.out.grown HG2.out HB.out.size (fun k hk => by cases hk; exact Nat.le_refl _)⟩
  | true =>
    have hb0 : Below w1.heap.size w1 (w1.alloc (.cells #[] 3)) := (Below.refl _ _).alloc (Nat.le_refl _) _
    have HCZ := hid (HC1.out.later hb0)
    have HO0 := hid (OwnI.lit0 w1 W0.heap.size HG1.out.size)
    have HG0 := hid (grown_trans HG1.out (grown_of_below hb0 _))
    clear hb0 HC1 HG1
    go_wp2_with fail
    refine (pick_any w.heap.size _ 6 _ HCZ.out (by omega) (by omega) (by omega)).mono ?_
    rintro e w2 ⟨q0, rfl, hq0, hc2, hg2⟩
    have HC2 := hid hc2
    have HG2 := hid (grown_trans HG0.out hg2)
    have HO2 := hid (own_keep HO0.out hg2 HLT.out)
    clear hc2 hg2 HCZ HG0 HO0
    go_wp2
    go_loopw [4, 5] (fun oo nn wr => ∃ (k m : Nat) (xs : List Int), k + m ≤ 6 ∧ nn = .int .i64 k ∧ (∃ ao cap, oo = .slice ao m cap) ∧ Hid (xs.length = m) ∧ Hid (OwnI wr W0.heap.size oo xs) ∧ Hid (Cur wr w.heap.size (10 + 30 * (6 - k))) ∧ Hid (W0.grownBy wr (some w.heap.size))) (fun _ nn _ => (intOf nn).toNat)
    case atStart => exact ⟨q0 + 1, 0, [], by omega, by first | rfl | go_num | exact int_eq (by omega), ⟨_, _, rfl⟩, hid rfl, HO2, hid (HC2.out.mono (by omega)), HG2⟩
    case round =>
      obtain ⟨k, m, xs, hkm, rfl, ⟨ao, cap, rfl⟩, HM, HO, HCR, HGR⟩ := hrel
      clear HC2 HO2 HG2
      by_cases hk : 0 < k
      · obtain ⟨k', rfl⟩ : ∃ k', k = k' + 1 := ⟨k - 1, by omega⟩
        have hkI : (0 : Int) < (k' : Int) + 1 := by omega
        go_wp2_with fail
        refine (among_lit w.heap.size _ [1, 2, 3, 4, 5, 6, 7, 9, 0] _ _ _ HCR.out (by omega) (by first | rfl | simp) rfl (by decide) (by decide)).mono ?_
        rintro e w3 ⟨x, rfl, _, hc3, hg3⟩
        have HC3 := hid hc3
        have HG3 := hid (grown_trans HGR.out hg3)
        have HO3 := hid (own_keep HO.out hg3 HLT.out)
        clear hc3 hg3 HCR HGR HO
        have hlen : xs.length ≤ 1099511627776 := by have := HM.out; omega
        go_wp2_with (at_builtin; refine wpList_appendI w3 rfl _ _ rfl W0.heap.size _ _ HO3.out rfl x rfl hlen HG3.out.size ?_; intro v' w4 ho' _ hb' _)
        have HO4 := hid ho'
        have HC4 := hid (HC3.out.below hb' HLT.out)
        have HG4 := hid (grown_below' HG3.out hb' HLT.out)
        clear ho' hb' HO3 HC3 HG3
        obtain ⟨a4, c4, rfl⟩ := HO4.out.spell (n := m + 1) (by rw [List.length_append, HM.out]; rfl)
        go_wp2
        go_roundw
        case rel => exact ⟨k', m+1, xs ++ [x], by omega, by first | rfl | go_num | exact int_eq (by omega), ⟨_, _, rfl⟩, hid (by rw [List.length_append, HM.out]; rfl), HO4, hid (HC4.out.mono (by omega)), HG4⟩
        case measure => first | (simp [intOf]; done) | (simp [intOf]; omega)
      · have hk0 : k = 0 := by omega
        subst hk0
        go_wp2
        go_ret
        first | exact ⟨_, xs, rfl, HO.out.mono HB.out.size, by have := HM.out; omega, HB.out.grown HGR.out HB.out.size (fun k hk => by cases hk; exact Nat.le_refl _)⟩ | exact ⟨_, rfl, xs, HO.out.mono HB.out.size, by have := HM.out; omega, HB.out.grown HGR.out HB.out.size (fun k hk => by cases hk; exact Nat.le_refl _)⟩

end Go.Proofs.Ytfgjaefcfmjleaa
