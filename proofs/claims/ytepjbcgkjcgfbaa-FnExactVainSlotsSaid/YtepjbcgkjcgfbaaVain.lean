import Derived.Test.YtepjbcgkjcgfbaaSlotRow
import Derived.Test.YtepjbcgkjcgfbaaVainLaw
import Derived.Test.YtepjbcgkjcgfbaaApp
import Derived.Deep.QuietTactic
import Derived.BigQuiet
namespace Go.Proofs.Ytepjbcgkjcgfbaa
open Go.RowKit

/-! ## slices.Equal, l1Same; without; vain, l8Vain; VainSlots, DropVain -/
theorem Own2.shape {e : TypeId} {w : World} {B n : Nat} {v : Value} {xs : List (Int × Int)} (h : Own2 e w B v xs) (hl : xs.length = n) (hn : 0 < n) : ∃ g cap, v = .slice (some ⟨g, 0, none⟩) n cap ∧ B ≤ g ∧ g < w.heap.size := by
  subst hl
  exact World.ownsRow.form h hn
theorem Own2.mono {e : TypeId} {w : World} {B B' : Nat} {v : Value} {xs : List (Int × Int)} (h : Own2 e w B v xs) (hb : B' ≤ B) : Own2 e w B' v xs := by
  refine ⟨h.1, ?_⟩
  rcases h.2 with h | ⟨g, cap, cur, a, b, c⟩
  · exact .inl h
  · exact .inr ⟨g, cap, cur, a, Nat.le_trans hb b, c⟩


set_option maxRecDepth 100000 in
set_option maxHeartbeats 2000000 in
theorem Equal_any (v1 v2 : Value) (xs ys : List Int) (w : World) (h1 : Ints w v1 xs) (h2 : Ints w v2 ys) :
    Calls Try.prog 103 #[v1, v2] w fun e w' => e = .returned (.bool (decide (xs = ys))) ∧ ∃ m, w' = w.drewN m := by
  obtain ⟨n, ao1, cap1, b1, o1, HN, rfl, ha1, hc1, hn1, hm1, HX1⟩ := h1.open_
  obtain ⟨n2, ao2, cap2, b2, o2, HN', rfl, ha2, hc2, hn2, hm2, HX2⟩ := h2.open_
  clear h1 h2
  by_cases hl : n = n2
  · subst hl
    have hne : ((n : Int) != n) = false := by simp
    go_enter Try.func103, Try.ntmps103
    go_wp2
    go_loopw [5, 13] (fun _ i wr => ∃ k m : Nat, k ≤ n ∧ i = .int .i64 k ∧ wr = w.drewN m ∧ Hid (xs.take k = ys.take k)) (fun _ i _ => n - (intOf i).toNat)
    case atStart => exact ⟨0, 0, by omega, rfl, rfl, rfl⟩
    case round =>
      obtain ⟨k, m, hk, rfl, rfl, HT⟩ := hrel
      by_cases hlt : k < n
      · obtain ⟨rfl, hb1⟩ := ha1 (by omega)
        obtain ⟨rfl, hb2⟩ := ha2 (by omega)
        clear ha1 ha2
        have e1 : w.cell? ⟨b1, o1+k, none⟩ = some (.int .i64 (xs.getD k 0)) := hc1 k (by omega)
        have e2 : w.cell? ⟨b2, o2+k, none⟩ = some (.int .i64 (ys.getD k 0)) := hc2 k (by omega)
        obtain ⟨x, hx⟩ : ∃ x, xs.getD k 0 = x := ⟨_, rfl⟩
        obtain ⟨y, hy⟩ : ∃ y, ys.getD k 0 = y := ⟨_, rfl⟩
        rw [hx] at e1
        rw [hy] at e2
        have HX := hid hx
        have HY := hid hy
        clear hx hy hc1 hc2
        have hlt' : (k : Int) < n := by omega
        have hlt2 : (0 : Int) ≤ k := by omega
        by_cases hxy : x = y
        · subst hxy
          have hb : (x != x) = false := by simp
          go_wp2
          go_quiet (fail)
          go_wp2
          go_roundw
          case rel => exact ⟨k+1, m + nq, by omega, by go_num, by simp, take_ext HT.out (by rw [HN.out]; exact hlt) (by rw [HN'.out]; exact hlt) (HX.out.trans HY.out.symm)⟩
          case measure => simp [intOf]; omega
        · have hb : (x != y) = true := by simpa using hxy
          have HXY := hid hxy
          clear hxy
          go_wp2
          go_quiet (fail)
          go_wp2
          go_ret
          refine ⟨ret_bool ?_, m + nq, by simp⟩
          symm
          rw [decide_eq_false_iff_not]
          rintro rfl
          exact HXY.out (HX.out.symm.trans HY.out)
      · go_wp2
        go_ret
        refine ⟨ret_bool ?_, _, rfl⟩
        symm
        obtain rfl : k = n := by omega
        have := HT.out
        rw [List.take_of_length_le (by rw [HN.out]; omega), List.take_of_length_le (by rw [HN'.out]; omega)] at this
        simpa using this
  · have hb : ((n : Int) != n2) = true := by simp; omega
    have HL := hid hl
    clear hl
    go_enter Try.func103, Try.ntmps103
    go_wp2
    go_ret
    refine ⟨ret_bool ?_, 0, rfl⟩
    symm
    simp
    rintro rfl
    exact HL.out (HN.out.symm.trans HN'.out)


set_option maxRecDepth 100000 in
set_option maxHeartbeats 2000000 in
theorem l1Same_any (v1 v2 : Value) (xs ys : List Int) (w : World) (h1 : Ints w v1 xs) (h2 : Ints w v2 ys) :
    Calls Try.prog 99 #[v1, v2] w fun e w' => e = .returned (.bool (decide (xs = ys))) ∧ ∃ m, w' = w.drewN m := by
  obtain ⟨n, ao1, cap1, b1, o1, HN, rfl, ha1, hc1, hn1, hm1, HX1⟩ := h1.open_
  obtain ⟨n2, ao2, cap2, b2, o2, HN', rfl, ha2, hc2, hn2, hm2, HX2⟩ := h2.open_
  clear h1 h2
  by_cases hl : n = n2
  · subst hl
    have hne : ((n : Int) != n) = false := by simp
    go_enter Try.func99, Try.ntmps99
    go_wp2
    go_loopw [5] (fun i wr => ∃ k m : Nat, k ≤ n ∧ i = .int .i64 k ∧ wr = w.drewN m ∧ Hid (xs.take k = ys.take k)) (fun i _ => n - (intOf i).toNat)
    case atStart => exact ⟨0, 0, by omega, rfl, rfl, rfl⟩
    case round =>
      obtain ⟨k, m, hk, rfl, rfl, HT⟩ := hrel
      by_cases hlt : k < n
      · obtain ⟨rfl, hb1⟩ := ha1 (by omega)
        obtain ⟨rfl, hb2⟩ := ha2 (by omega)
        clear ha1 ha2
        have e1 : w.cell? ⟨b1, o1+k, none⟩ = some (.int .i64 (xs.getD k 0)) := hc1 k (by omega)
        have e2 : w.cell? ⟨b2, o2+k, none⟩ = some (.int .i64 (ys.getD k 0)) := hc2 k (by omega)
        obtain ⟨x, hx⟩ : ∃ x, xs.getD k 0 = x := ⟨_, rfl⟩
        obtain ⟨y, hy⟩ : ∃ y, ys.getD k 0 = y := ⟨_, rfl⟩
        rw [hx] at e1
        rw [hy] at e2
        have HX := hid hx
        have HY := hid hy
        clear hx hy hc1 hc2
        have hlt' : (k : Int) < n := by omega
        have hlt2 : (0 : Int) ≤ k := by omega
        by_cases hxy : x = y
        · subst hxy
          have hb : (x != x) = false := by simp
          go_wp2
          go_quiet (fail)
          go_wp2
          go_roundw
          case rel => exact ⟨k+1, m + nq, by omega, by go_num, by simp, take_ext HT.out (by rw [HN.out]; exact hlt) (by rw [HN'.out]; exact hlt) (HX.out.trans HY.out.symm)⟩
          case measure => simp [intOf]; omega
        · have hb : (x != y) = true := by simpa using hxy
          have HXY := hid hxy
          clear hxy
          go_wp2
          go_quiet (fail)
          go_wp2
          go_ret
          refine ⟨ret_bool ?_, m + nq, by simp⟩
          symm
          rw [decide_eq_false_iff_not]
          rintro rfl
          exact HXY.out (HX.out.symm.trans HY.out)
      · go_wp2
        go_ret
        refine ⟨ret_bool ?_, _, rfl⟩
        symm
        obtain rfl : k = n := by omega
        have := HT.out
        rw [List.take_of_length_le (by rw [HN.out]; omega), List.take_of_length_le (by rw [HN'.out]; omega)] at this
        simpa using this
  · have hb : ((n : Int) != n2) = true := by simp; omega
    have HL := hid hl
    clear hl
    go_enter Try.func99, Try.ntmps99
    go_wp2
    go_ret
    refine ⟨ret_bool ?_, 0, rfl⟩
    symm
    simp
    rintro rfl
    exact HL.out (HN.out.symm.trans HN'.out)


set_option maxRecDepth 100000 in
set_option maxHeartbeats 2000000 in
theorem without_any (v1 : Value) (xs : List (Int × Int)) (i : Nat) (w : World) (h1 : Two w v1 xs) (hi : i < xs.length) (hl : xs.length ≤ 1048576) :
    Calls Try.prog 66 #[v1, .int .i64 i] w fun e w' => ∃ v, e = .returned v ∧ Own2 60 w' w.heap.size v (xs.eraseIdx i) ∧ Below w.heap.size w w' := by
  have HX := hid h1
  clear h1
  obtain ⟨n, hn⟩ : ∃ n, xs.length = n := ⟨_, rfl⟩
  have HN := hid hn
  rw [hn] at hi hl
  clear hn
  go_enter Try.func66, Try.ntmps66
  go_wp2_with fail
  refine (CloneS_any _ xs _ HX.out (by rw [HN.out]; exact hl)).mono ?_
  rintro e w1 ⟨v, rfl, ho, hb⟩
  obtain ⟨g, cap, rfl, hg1, hg2⟩ := ho.shape HN.out (by omega)
  have HO := hid ho
  clear ho
  go_wp2_with fail
  refine (DeleteS_any g cap n i w.heap.size xs _ HO.out HN.out hi hl).mono ?_
  rintro e w2 ⟨rfl, ho, hg⟩
  have HO2 := hid ho
  have HB2 := hid (hb.grown hg hb.size (fun k hk => by cases hk; exact hg1))
  clear ho hg HO hb
  go_wp2
  go_ret
  exact ⟨_, rfl, HO2.out, HB2.out⟩

set_option maxRecDepth 100000 in
set_option maxHeartbeats 2000000 in
theorem l8Vain_any (k : Nat) (v1 : Value) (xs : List (Int × Int)) (i : Nat) (w : World) (h1 : Two w v1 xs) (hk6 : k ≤ 6) (hi : i < xs.length) (hl : xs.length ≤ 1048576) :
    Calls Try.prog 59 #[.int .i64 k, v1, .int .i64 i] w fun e w' => e = .returned (.bool (vainB k xs i)) ∧ Below w.heap.size w w' := by
  have HX := hid h1
  have HV := hid (show vainB k xs i = decide (seenF (xs.eraseIdx i) k = seenF xs k) from rfl)
  have HI := hid hi
  have HL := hid hl
  clear h1 hi hl
  go_enter Try.func59, Try.ntmps59
  go_wp2_with fail
  refine (l8Without_any _ xs i _ HX.out HI.out HL.out).mono ?_
  rintro e w1 ⟨v, rfl, ho, hb⟩
  have HT := hid ho.two
  clear ho
  go_wp2_with fail
  refine (l8Seen_any k _ (xs.eraseIdx i) _ HT.out hk6).mono ?_
  rintro e w2 ⟨v2, rfl, ho2, hb2⟩
  have HB2 := hid (hb.trans (hb2.mono hb.size))
  have HO2 := hid ho2
  clear ho2 hb hb2 HT
  go_wp2_with fail
  refine (l8Seen_any k _ xs _ (HX.out.later HB2.out) hk6).mono ?_
  rintro e w3 ⟨v3, rfl, ho3, hb3⟩
  have HB3 := hid (HB2.out.trans (hb3.mono HB2.out.size))
  have HO4 := hid (HO2.out.later hb3)
  have HO3 := hid ho3
  clear ho3 hb3 HB2 HO2
  go_wp2_with fail
  refine (l1Same_any _ _ _ _ _ HO4.out.ints HO3.out.ints).mono ?_
  rintro e w4 ⟨rfl, m, rfl⟩
  rw [← HV.out]
  go_wp2
  go_ret
  exact ⟨rfl, below_drewN HB3.out m⟩

set_option maxRecDepth 100000 in
set_option maxHeartbeats 4000000 in
theorem vain_any (k : Nat) (v1 : Value) (xs : List (Int × Int)) (w : World) (h1 : Two w v1 xs) (hk6 : k ≤ 6) (hl : xs.length ≤ 1048576) :
    Calls Try.prog 62 #[.int .i64 k, v1] w fun e w' => ∃ v, e = .returned v ∧ OwnI w' w.heap.size v (vainTo k xs xs.length) ∧ Below w.heap.size w w' := by
  obtain ⟨n, ao1, cap1, b1, o1, HN, rfl, ha1, hc1, hn1, hm1, HX⟩ := h1.open_
  clear h1 hc1 ha1
  rw [HN.out] at hl ⊢
  go_enter Try.func62, Try.ntmps62
  go_wp2_with fail
  refine (seen_any k _ xs _ HX.out hk6).mono ?_
  rintro e w1 ⟨vo, rfl, ho, hb⟩
  have HS := hid ho
  clear ho
  go_wp2
  go_loopw [6, 7, 13] (fun oo _ ii wr => ∃ i : Nat, i ≤ n ∧ ii = .int .i64 i ∧ Hid (OwnI wr w1.heap.size oo (vainTo k xs i)) ∧ Hid (Below w1.heap.size w1 wr)) (fun _ _ ii _ => n - (intOf ii).toNat)
  case atStart => exact ⟨0, by omega, rfl, hid (OwnI.nil _ _), hid (Below.refl _ _)⟩
  case round =>
    obtain ⟨i, hi, rfl, HO, HBL⟩ := hrel
    by_cases hlt : i < n
    · have HV := hid (show vainB k xs i = decide (seenF (xs.eraseIdx i) k = seenF xs k) from rfl)
      have HYES := hid (vainTo_yes (k := k) (xs := xs) (m := i))
      have HNO := hid (vainTo_no (k := k) (xs := xs) (m := i))
      have hlen : (vainTo k xs i).length ≤ 1099511627776 := by have := vainTo_len k xs i; omega
      have HX1 := hid ((HX.out.later hb).later HBL.out)
      go_wp2_with fail
      refine (without_any _ xs i _ HX1.out (by rw [HN.out]; exact hlt) (by rw [HN.out]; exact hl)).mono ?_
      rintro e w2 ⟨v2, rfl, ho2, hb2⟩
      have HT2 := hid ho2.two
      have HB2 := hid (HBL.out.trans (hb2.mono HBL.out.size))
      have HO2 := hid (HO.out.later hb2)
      clear ho2 hb2 HO HBL
      go_wp2_with fail
      refine (seen_any k _ (xs.eraseIdx i) _ HT2.out hk6).mono ?_
      rintro e w3 ⟨v3, rfl, ho3, hb3⟩
      have HS3 := hid ho3
      have HB3 := hid (HB2.out.trans (hb3.mono HB2.out.size))
      have HO3 := hid (HO2.out.later hb3)
      clear ho3 hb3 HB2 HO2 HT2
      go_wp2_with fail
      refine (Equal_any _ _ _ _ _ HS3.out.ints (HS.out.later HB3.out).ints).mono ?_
      rintro e w4 ⟨rfl, m, rfl⟩
      rw [← HV.out]
      have HB4 := hid (below_drewN HB3.out m)
      have HO4 := hid (HO3.out.drawn m)
      clear HB3 HO3 HS3
      obtain ⟨w4, hw4⟩ : ∃ w4, w4 = w3.drewN m := ⟨_, rfl⟩
      rw [← hw4] at HB4 HO4 ⊢
      clear hw4
      cases hv : vainB k xs i with
      | true =>
        have HE := hid (HYES.out hv)
        clear hv HV HYES HNO
        go_wp2_with (at_builtin; refine wpList_appendI w4 rfl _ _ rfl w1.heap.size _ _ HO4.out rfl (i : Int) rfl hlen HB4.out.size ?_; intro v' w5 ho' _ hb' _)
        rw [← HE.out] at ho'
        have HO' := hid ho'
        have HB' := hid (HB4.out.trans hb')
        clear ho' HO4 hb' HB4
        go_wp2
        go_roundw
        case rel => exact ⟨i+1, by omega, by go_num, HO', HB'⟩
        case measure => simp [intOf]; omega
      | false =>
        have HE := hid (HNO.out hv)
        clear hv HV HYES HNO
        go_wp2
        go_roundw
        case rel => exact ⟨i+1, by omega, by go_num, by rw [HE.out]; exact HO4, HB4⟩
        case measure => simp [intOf]; omega
    · obtain rfl : i = n := by omega
      go_wp2
      go_ret
      exact ⟨_, rfl, HO.out.mono hb.size, hb.trans (HBL.out.mono hb.size)⟩

set_option maxRecDepth 100000 in
set_option maxHeartbeats 2000000 in
theorem implVainSlots_any (k : Int) (v1 : Value) (xs : List (Int × Int)) (w : World) (h1 : Two w v1 xs) :
    Calls Try.prog 31 #[.int .i64 k, v1] w fun e w' => ∃ v, e = .returned (.tuple #[v, .bool (vainR k xs).2]) ∧ OwnI w' w.heap.size v (vainR k xs).1 ∧ Below w.heap.size w w' := by
  have HX := hid h1
  cases hs : drivenB k xs with
  | false =>
    rw [vainR_no hs]
    go_enter Try.func31, Try.ntmps31
    go_wp2_with (go_at_call 61; refine (isDriven_any _ _ xs _ HX.out).mono ?_; rintro e w1 ⟨rfl, hb⟩)
    go_ret2
    exact ⟨_, rfl, OwnI.nil _ _, hb⟩
  | true =>
    obtain ⟨j, rfl, hj1, hj6⟩ := kNat (drivenB_true hs).1
    have hl12 := driven_len hs
    rw [vainR_yes hs]
    go_enter Try.func31, Try.ntmps31
    go_wp2_with (first | (go_at_call 61; refine (isDriven_any _ _ xs _ HX.out).mono ?_; rintro e w1 ⟨rfl, hb⟩; have HX1 := hid (HX.out.later hb)) | (go_at_call 62; refine (vain_any j _ xs _ HX1.out hj6 (by omega)).mono ?_; rintro e w2 ⟨v, rfl, ho, hb2⟩; have HO := hid ho; clear ho))
    go_ret2
    exact ⟨_, rfl, HO.out.mono hb.size, hb.trans (hb2.mono hb.size)⟩

set_option maxRecDepth 100000 in
set_option maxHeartbeats 4000000 in
theorem specVainSlots_any (k : Int) (v1 : Value) (xs : List (Int × Int)) (w : World) (h1 : Two w v1 xs) :
    Calls Try.prog 29 #[.int .i64 k, v1] w fun e w' => ∃ v, e = .returned (.tuple #[v, .bool (vainR k xs).2]) ∧ OwnI w' w.heap.size v (vainR k xs).1 ∧ Below w.heap.size w w' := by
  have HB := hid ((Below.refl w.heap.size w).alloc (Nat.le_refl _) (.cells #[] 3))
  have HO0 := hid (OwnI.lit0 w w.heap.size (Nat.le_refl _))
  obtain ⟨n, ao1, cap1, b1, o1, HN, rfl, ha1, hc1, hn1, hm1, HX0⟩ := h1.open_
  have HX := hid (HX0.out.later HB.out)
  clear h1 hc1 ha1
  cases hs : drivenB k xs with
  | false =>
    rw [vainR_no hs]
    go_enter Try.func29, Try.ntmps29
    go_wp2_with (go_at_call 58; refine (l8Good_any _ _ xs _ HX.out).mono ?_; rintro e w1 ⟨rfl, hb⟩)
    go_ret2
    exact ⟨_, rfl, HO0.out.later hb, HB.out.trans (hb.mono HB.out.size)⟩
  | true =>
    obtain ⟨j, rfl, hj1, hj6⟩ := kNat (drivenB_true hs).1
    have hl12 := driven_len hs
    rw [vainR_yes hs, HN.out]
    rw [HN.out] at hl12
    go_enter Try.func29, Try.ntmps29
    go_wp2_with fail
    refine (l8Good_any _ _ xs _ HX.out).mono ?_
    rintro e w1 ⟨rfl, hb⟩
    have HO1 := hid (HO0.out.later hb)
    have HB1 := hid (HB.out.trans (hb.mono HB.out.size))
    clear hb HO0
    rw [hs]
    go_wp2
    go_loopw [6, 7] (fun oo ii wr => ∃ i : Nat, i ≤ n ∧ ii = .int .i64 i ∧ Hid (OwnI wr w.heap.size oo (vainTo j xs i)) ∧ Hid (Below w.heap.size w wr)) (fun _ ii _ => n - (intOf ii).toNat)
    case atStart => exact ⟨0, by omega, rfl, HO1, HB1⟩
    case round =>
      obtain ⟨i, hi, rfl, HO, HBL⟩ := hrel
      clear HO1 HB1
      by_cases hlt : i < n
      · have HYES := hid (vainTo_yes (k := j) (xs := xs) (m := i))
        have HNO := hid (vainTo_no (k := j) (xs := xs) (m := i))
        have hlen : (vainTo j xs i).length ≤ 1099511627776 := by have := vainTo_len j xs i; omega
        have HX1 := hid (HX0.out.later HBL.out)
        go_wp2_with fail
        refine (l8Vain_any j _ xs i _ HX1.out hj6 (by rw [HN.out]; exact hlt) (by rw [HN.out]; omega)).mono ?_
        rintro e w2 ⟨rfl, hb2⟩
        have HO4 := hid (HO.out.later hb2)
        have HB4 := hid (HBL.out.trans (hb2.mono HBL.out.size))
        clear hb2 HO HBL
        cases hv : vainB j xs i with
        | true =>
          have HE := hid (HYES.out hv)
          clear hv HYES HNO
          go_wp2_with (at_builtin; refine wpList_appendI w2 rfl _ _ rfl w.heap.size _ _ HO4.out rfl (i : Int) rfl hlen HB4.out.size ?_; intro v' w5 ho' _ hb' _)
          rw [← HE.out] at ho'
          have HO' := hid ho'
          have HB' := hid (HB4.out.trans hb')
          clear ho' HO4 hb' HB4
          go_wp2
          go_roundw
          case rel => exact ⟨i+1, by omega, by go_num, HO', HB'⟩
          case measure => simp [intOf]; omega
        | false =>
          have HE := hid (HNO.out hv)
          clear hv HYES HNO
          go_wp2
          go_roundw
          case rel => exact ⟨i+1, by omega, by go_num, by rw [HE.out]; exact HO4, HB4⟩
          case measure => simp [intOf]; omega
      · obtain rfl : i = n := by omega
        go_wp2
        go_ret2
        exact ⟨_, rfl, HO.out, HBL.out⟩

set_option maxRecDepth 100000 in
set_option maxHeartbeats 4000000 in
theorem implDropVain_any (k : Int) (v1 : Value) (xs : List (Int × Int)) (w : World) (h1 : Two w v1 xs) :
    Calls Try.prog 35 #[.int .i64 k, v1] w fun e w' => ∃ v, e = .returned (.tuple #[v, .bool (dropR k xs).2]) ∧ Own2 60 w' w.heap.size v (dropR k xs).1 ∧ Below w.heap.size w w' := by
  have HX := hid h1
  clear h1
  cases hs : drivenB k xs with
  | false =>
    rw [dropR_no hs]
    go_enter Try.func35, Try.ntmps35
    go_wp2_with (go_at_call 61; refine (isDriven_any _ _ xs _ HX.out).mono ?_; rintro e w1 ⟨rfl, hb⟩)
    go_ret2
    exact ⟨_, rfl, Own2.nil _ _ _, hb⟩
  | true =>
    obtain ⟨j, rfl, hj1, hj6⟩ := kNat (drivenB_true hs).1
    have hl12 := driven_len hs
    have HIN := hid (barsIn_of (drivenB_true hs).2)
    rw [dropR_yes hs]
    obtain ⟨R, hR⟩ : ∃ R, dropF j 0 xs = R := ⟨_, rfl⟩
    have HR := hid hR
    rw [hR]
    clear hR
    have HL := hid hl12
    clear hl12
    go_enter Try.func35, Try.ntmps35
    go_wp2_with fail
    refine (isDriven_any _ _ xs _ HX.out).mono ?_
    rintro e w1 ⟨rfl, hb⟩
    have HX1 := hid (HX.out.later hb)
    rw [hs]
    go_wp2_with fail
    refine (CloneS_any _ xs _ HX1.out (by have := HL.out; omega)).mono ?_
    rintro e w2 ⟨v2, rfl, ho2, hb2⟩
    have HO2 := hid (ho2.mono hb.size)
    have HB2 := hid (hb.trans (hb2.mono hb.size))
    clear ho2 hb2 hb
    go_wp2_with fail
    refine (vain_any j _ xs _ HO2.out.two hj6 (by have := HL.out; omega)).mono ?_
    rintro e w3 ⟨v3, rfl, ho3, hb3⟩
    have HO3 := hid (HO2.out.later hb3)
    have HV3 := hid (ho3.mono HB2.out.size)
    have HB3 := hid (HB2.out.trans (hb3.mono HB2.out.size))
    clear ho3 hb3 HB2 HO2
    go_wp2
    go_loopw [6, 7] (fun oo ll wr => ∃ ys : List (Int × Int), ys.length ≤ 12 ∧ Hid (barsIn ys) ∧ Hid (dropF j 0 ys = R) ∧ Hid (Own2 60 wr w.heap.size oo ys) ∧ (∃ m : Nat, (∃ ao cap, oo = .slice ao m cap) ∧ Hid (ys.length = m)) ∧ Hid (OwnI wr w.heap.size ll (vainTo j ys ys.length)) ∧ Hid (Below w.heap.size w wr)) (fun oo _ _ => match oo with | .slice _ m _ => m | _ => 0)
    case atStart =>
      refine ⟨xs, HL.out, HIN, HR, HO3, ?_, HV3, HB3⟩
      obtain ⟨ao, cap, b, o, he, _⟩ := HO3.out.two
      exact ⟨xs.length, ⟨ao, cap, he⟩, hid rfl⟩
    case round =>
      obtain ⟨ys, hy12, HIY, HRY, HOY, ⟨m, ⟨ao, cap, rfl⟩, HM⟩, HVY, HBY⟩ := hrel
      clear HO3 HV3 HB3
      cases hv : vainTo j ys ys.length with
      | nil =>
        rw [hv] at HVY
        obtain ⟨n3, ao3, cap3, b3, o3, HN3, rfl, ha3, hc3, hn3, hm3, HX3⟩ := HVY.out.ints.open_
        have hn30 : n3 = 0 := HN3.out.symm
        have HE := hid (dropF_none (vainTo_nil hv))
        have HER := hid (HE.out.symm.trans HRY.out)
        clear hv HVY ha3 hc3
        subst hn30
        go_wp2
        go_ret2
        exact ⟨_, rfl, by rw [← HER.out]; exact HOY.out, HBY.out⟩
      | cons c r =>
        rw [hv] at HVY
        obtain ⟨q, hqc, hqm, hqv, hqn⟩ := vainTo_cons hv
        have HE := hid ((dropF_first HIY.out hqm hqn hqv).symm.trans HRY.out)
        obtain ⟨n3, ao3, cap3, b3, o3, HN3, rfl, ha3, hc3, hn3, hm3, HX3⟩ := HVY.out.ints.open_
        have hn30 : 0 < n3 := by have := HN3.out; simp at this; omega
        obtain ⟨rfl, hb3⟩ := ha3 hn30
        have e1 : wr.cell? ⟨b3, o3, none⟩ = some (.int .i64 (q : Int)) := by have := hc3 0 hn30; rw [hqc] at this; simpa using this
        have hlen : (ys.eraseIdx q).length = ys.length - 1 := by rw [List.length_eraseIdx, if_pos hqm]
        have HLE := hid hlen
        have HQM := hid hqm
        have HIE := hid (barsIn_erase HIY.out q)
        have hm0 : 0 < m := by have := HM.out; omega
        clear hv HVY hc3 ha3 hqc hqm hqv hqn hlen HN3
        go_wp2_with fail
        refine (without_any _ ys q _ HOY.out.two HQM.out (by omega)).mono ?_
        rintro e w4 ⟨v4, rfl, ho4, hb4⟩
        have HO4 := hid (ho4.mono HBY.out.size)
        have HB4 := hid (HBY.out.trans (hb4.mono HBY.out.size))
        clear ho4 hb4 HBY HOY e1
        go_wp2_with fail
        refine (vain_any j _ (ys.eraseIdx q) _ HO4.out.two hj6 (by rw [HLE.out]; omega)).mono ?_
        rintro e w5 ⟨v5, rfl, ho5, hb5⟩
        have HO5 := hid (HO4.out.later hb5)
        have HV5 := hid (ho5.mono HB4.out.size)
        have HB5 := hid (HB4.out.trans (hb5.mono HB4.out.size))
        clear ho5 hb5 HB4 HO4
        obtain ⟨ao5, cap5, b5, o5, he5, _⟩ := HO5.out.two
        rw [HLE.out] at he5
        subst he5
        go_wp2
        go_roundw
        case rel => exact ⟨ys.eraseIdx q, by rw [HLE.out]; omega, HIE, HE, HO5, ⟨ys.length - 1, ⟨ao5, cap5, rfl⟩, HLE⟩, HV5, HB5⟩
        case measure =>
          have := HM.out
          show ys.length - 1 < m
          omega

set_option maxRecDepth 100000 in
set_option maxHeartbeats 4000000 in
theorem specDropVain_any (k : Int) (v1 : Value) (xs : List (Int × Int)) (w : World) (h1 : Two w v1 xs) :
    Calls Try.prog 34 #[.int .i64 k, v1] w fun e w' => ∃ v, e = .returned (.tuple #[v, .bool (dropR k xs).2]) ∧ Own2 60 w' w.heap.size v (dropR k xs).1 ∧ Below w.heap.size w w' := by
  have HX := hid h1
  cases hs : drivenB k xs with
  | false =>
    rw [dropR_no hs]
    go_enter Try.func34, Try.ntmps34
    go_wp2_with (go_at_call 58; refine (l8Good_any _ _ xs _ HX.out).mono ?_; rintro e w1 ⟨rfl, hb⟩)
    go_ret2
    exact ⟨_, rfl, Own2.lit0 _ _ _ hb.size, hb.alloc hb.size _⟩
  | true =>
    obtain ⟨j, rfl, hj1, hj6⟩ := kNat (drivenB_true hs).1
    have hl12 := driven_len hs
    rw [dropR_yes hs]
    obtain ⟨R, hR⟩ : ∃ R, dropF j 0 xs = R := ⟨_, rfl⟩
    have HR := hid hR
    rw [hR]
    clear hR
    have HL := hid hl12
    obtain ⟨ao1, cap1, b1, o1, he1, _⟩ := h1
    obtain ⟨n1, hn1⟩ : ∃ n1, xs.length = n1 := ⟨_, rfl⟩
    rw [hn1] at he1
    subst he1
    have HN1 := hid hn1
    clear hl12 hn1
    go_enter Try.func34, Try.ntmps34
    go_wp2_with fail
    refine (l8Good_any _ _ xs _ HX.out).mono ?_
    rintro e w1 ⟨rfl, hb⟩
    have HB1 := hid (hb.alloc hb.size (.cells #[] 60))
    have HX1 := hid (HX.out.later HB1.out)
    have HO1 := hid (Own2.lit0 60 w1 w.heap.size hb.size)
    clear hb
    rw [hs]
    go_wp2_with (at_builtin; refine wpList_appendSs _ rfl _ _ rfl w.heap.size _ _ HO1.out rfl _ _ _ xs rfl HX1.out (by simp) (by have := HL.out; omega) HB1.out.size ?_; intro v2 w2 ho' _ hb')
    rw [List.nil_append] at ho'
    have HO2 := hid ho'
    have HB2 := hid (HB1.out.trans hb')
    clear ho' hb' HB1 HO1
    obtain ⟨ao2, cap2, b2, o2, he2, _⟩ := HO2.out.two
    rw [HN1.out] at he2
    subst he2
    go_wp2
    go_loopw [6, 7] (fun oo ii wr => ∃ (ys : List (Int × Int)) (i m : Nat), ys.length ≤ 12 ∧ i ≤ m ∧ ii = .int .i64 i ∧ Hid (dropF j i ys = R) ∧ Hid (Own2 60 wr w.heap.size oo ys) ∧ (∃ ao cap, oo = .slice ao m cap) ∧ Hid (ys.length = m) ∧ Hid (Below w.heap.size w wr)) (fun oo ii _ => 2 * (match oo with | .slice _ m _ => m | _ => 0) - (intOf ii).toNat)
    case atStart => exact ⟨xs, 0, n1, HL.out, by omega, rfl, HR, HO2, ⟨_, _, rfl⟩, HN1, HB2⟩
    case round =>
      obtain ⟨ys, i, m, hy12, him, rfl, HRY, HOY, ⟨ao, cap, rfl⟩, HM, HBY⟩ := hrel
      have hm12 : m ≤ 12 := by have := HM.out; omega
      clear HO2 HB2
      by_cases hlt : i < m
      · cases hv : vainB j ys i with
        | false =>
          have HE := hid ((dropF_keep (by rw [HM.out]; exact hlt) hv).symm.trans HRY.out)
          go_wp2_with fail
          refine (l8Vain_any j _ ys i _ HOY.out.two hj6 (by rw [HM.out]; exact hlt) (by omega)).mono ?_
          rintro e w3 ⟨rfl, hb3⟩
          rw [hv]
          have HO3 := hid (HOY.out.later hb3)
          have HB3 := hid (HBY.out.trans (hb3.mono HBY.out.size))
          clear hb3 HOY HBY hv
          go_wp2
          go_roundw
          case rel => exact ⟨ys, i+1, m, hy12, by omega, by go_num, HE, HO3, ⟨_, _, rfl⟩, HM, HB3⟩
          case measure => simp [intOf]; omega
        | true =>
          have HE := hid ((dropF_vain (by rw [HM.out]; exact hlt) hv).symm.trans HRY.out)
          have HLE := hid (show (ys.eraseIdx i).length = m - 1 by rw [List.length_eraseIdx, if_pos (by rw [HM.out]; exact hlt), HM.out])
          go_wp2_with fail
          refine (l8Vain_any j _ ys i _ HOY.out.two hj6 (by rw [HM.out]; exact hlt) (by omega)).mono ?_
          rintro e w3 ⟨rfl, hb3⟩
          rw [hv]
          have HO3 := hid (HOY.out.later hb3)
          have HB3 := hid (HBY.out.trans (hb3.mono HBY.out.size))
          clear hb3 HOY HBY hv
          go_wp2_with fail
          refine (l8Without_any _ ys i _ HO3.out.two (by rw [HM.out]; exact hlt) (by omega)).mono ?_
          rintro e w4 ⟨v4, rfl, ho4, hb4⟩
          have HO4 := hid (ho4.mono HB3.out.size)
          have HB4 := hid (HB3.out.trans (hb4.mono HB3.out.size))
          clear ho4 hb4 HO3 HB3
          obtain ⟨ao4, cap4, b4, o4, he4, _⟩ := HO4.out.two
          rw [HLE.out] at he4
          subst he4
          go_wp2
          go_roundw
          case rel => exact ⟨ys.eraseIdx i, i, m-1, by rw [HLE.out]; omega, by omega, rfl, HE, HO4, ⟨_, _, rfl⟩, HLE, HB4⟩
          case measure => simp [intOf]; omega
      · have HE := hid ((dropF_end (by rw [HM.out]; exact hlt)).symm.trans HRY.out)
        go_wp2
        go_ret2
        exact ⟨_, rfl, by rw [← HE.out]; exact HOY.out, HBY.out⟩

end Go.Proofs.Ytepjbcgkjcgfbaa
