import Derived.Test.YthndabijojjokaaOrders7
import Derived.Test.YthndabijojjokaaBefore
import Derived.Test.YthndabijojjokaaQuietImpl
namespace Go.Proofs.Ythndabijojjokaa
open Go.RowKit

/-! ## The reference's QuietOrder -/
theorem foldQ_some (ss : List (List Int)) : ∀ b, foldQ (some b) ss = some (leastI dchF b ss) := by
  induction ss with
  | nil => intro b; rfl
  | cons s ss ih =>
    intro b
    show foldQ (stepQ dchF (some b) s) ss = _
    simp only [stepQ, leastI]
    by_cases h : dchF s < dchF b
    · rw [if_pos h, if_pos h]; exact ih s
    · rw [if_neg h, if_neg h]; exact ih b
/-- The least of all orders, as the reference folds them. -/
theorem quietO_law (xs : List Int) (a : List Int) (rs : List (List Int)) (h : ordersN xs.length xs = a :: rs) : quietO xs = some (leastS dchF a rs) := by
  have hp : List.Perm (sortI xs) xs := List.mergeSort_perm xs _
  have hs : (sortI xs).Pairwise (· ≤ ·) := by
    have h1 := List.pairwise_mergeSort (le := fun x y : Int => decide (x ≤ y)) (fun a b c h1 h2 => by simp at *; omega) (fun a b => by simp; omega) xs
    exact h1.imp fun h => by simpa using h
  obtain ⟨b, bs, hb⟩ : ∃ b bs, seqsN xs.length [] (sortI xs) = b :: bs := by
    have hm : sortI xs ∈ seqsN xs.length [] (sortI xs) := (mem_seqsN xs.length [] (sortI xs) _ (sortI_length xs)).2 ⟨sortI xs, List.Perm.refl _, rfl⟩
    cases hq : seqsN xs.length [] (sortI xs) with
    | nil => rw [hq] at hm; simp at hm
    | cons b bs => exact ⟨b, bs, rfl⟩
  unfold quietO
  rw [hb]
  show foldQ (some b) bs = _
  rw [foldQ_some, quiet_law dchF xs.length xs (sortI xs) rfl hp hs a b rs bs h hb]
theorem ordersN_cons (xs : List Int) : ∃ a rs, ordersN xs.length xs = a :: rs := by
  have hm : xs ∈ ordersN xs.length xs := (mem_ordersN xs.length xs xs rfl).2 (List.Perm.refl _)
  cases hq : ordersN xs.length xs with
  | nil => rw [hq] at hm; simp at hm
  | cons b bs => exact ⟨b, bs, rfl⟩
theorem leastS_yes {c : List Int → Int} {b x : List Int} {xs : List (List Int)} (h : Ahead c x b) : leastS c b (x :: xs) = leastS c x xs := by
  simp only [leastS]; rw [if_pos h]
theorem leastS_no {c : List Int → Int} {b x : List Int} {xs : List (List Int)} (h : ¬ Ahead c x b) : leastS c b (x :: xs) = leastS c b xs := by
  simp only [leastS]; rw [if_neg h]

theorem quietR_len (xs : List Int) : (quietR xs).1.length ≤ 1048576 := by
  unfold quietR
  split
  · rename_i h
    obtain ⟨a, rs, hR⟩ := ordersN_cons xs
    rw [quietO_law xs a rs hR]
    have hm := (leastS_law dchF rs a).1
    rw [← hR] at hm
    have := ((mem_ordersN xs.length xs _ rfl).1 hm).length_eq
    show (leastS dchF a rs).length ≤ 1048576
    omega
  · simp

set_option maxRecDepth 100000 in
set_option maxHeartbeats 4000000 in
theorem specQuietOrder_any (v1 : Value) (xs : List Int) (w : World) (h1 : Ints w v1 xs) :
    Calls Try.prog 4 #[v1] w fun e w' => ∃ v, e = .returned (.tuple #[v, .int .i64 (quietR xs).2.1, .bool (quietR xs).2.2]) ∧ OwnI w' w.heap.size v (quietR xs).1 ∧ Below w.heap.size w w' := by
  obtain ⟨n, ao, cap, b1, o1, HN, rfl, _, _, _, _, HX⟩ := h1.open_
  clear h1
  cases ht : testB xs with
  | false =>
    have HR := hid (show quietR xs = ([], 0, false) by
      unfold quietR
      rw [if_neg]
      rintro ⟨h1, h2⟩
      rw [testB_short (by omega), h2] at ht
      exact absurd ht (by simp))
    rw [HR.out]
    have HT := hid ht
    clear ht
    have HB1 := hid ((Below.refl w.heap.size w).alloc (Nat.le_refl _) (.cells #[] 3))
    have HO1 := hid (OwnI.lit0 w w.heap.size (Nat.le_refl _))
    go_enter Try.func4, Try.ntmps4
    go_wp2_with fail
    refine (l7Test_any _ xs _ HX.out).mono ?_
    rintro e w1 ⟨rfl, rfl⟩
    rw [HT.out]
    go_wp2
    go_ret3
    exact ⟨_, rfl, HO1.out, HB1.out⟩
  | true =>
    have HT := hid ht
    by_cases hl : n ≤ 6
    · have HDD := hid (show xs.all dig9 = true from by rw [← testB_short (xs := xs) (by rw [HN.out]; omega)]; exact ht)
      have HR := hid (show quietR xs = ((quietO xs).getD [], boxK (quietO xs), true) by unfold quietR; rw [if_pos ⟨by rw [HN.out]; exact hl, HDD.out⟩])
      obtain ⟨a, rs, hR⟩ := ordersN_cons xs
      have HQ := hid (quietO_law xs a rs hR)
      have HRR := hid hR
      rw [HR.out, HQ.out]
      have HRA : Hid (∀ k, k < (a :: rs).length → ((a :: rs).getD k []).length = n ∧ ∀ i, i < ((a :: rs).getD k []).length → dig9 (((a :: rs).getD k []).getD i 0) = true) := hid (fun k hk => by
        rw [← hR] at hk ⊢
        have e : (ordersN xs.length xs).getD k [] = (ordersN xs.length xs)[k] := by simp [List.getD, hk]
        rw [e]
        have hm := (mem_ordersN xs.length xs _ rfl).1 (List.getElem_mem hk)
        refine ⟨by rw [hm.length_eq]; exact HN.out, ?_⟩
        exact allDig.at_ (fun y hy => List.all_eq_true.1 HDD.out y (hm.mem_iff.1 hy)))
      have HLQ := hid (show (a :: rs).length ≤ 720 by
        rw [← hR, ordersN_len, HN.out]
        match n, hl with
        | 0, _ => decide
        | 1, _ => decide
        | 2, _ => decide
        | 3, _ => decide
        | 4, _ => decide
        | 5, _ => decide
        | 6, _ => decide)
      have HOR := hid (fun w' (hx : Ints w' (.slice ao n cap) xs) => l7Orders_any n (.slice ao n cap) xs w' hx HN.out hl)
      have hnR : ordersN n xs = a :: rs := by rw [← HN.out]; exact hR
      rw [hnR] at HOR
      have HA0 := hid (show (a :: rs).getD 0 [] = a from rfl)
      have HLS := hid (show leastS dchF a ((a :: rs).drop 1) = leastS dchF a rs from rfl)
      obtain ⟨F, hF⟩ : ∃ F, leastS dchF a rs = F := ⟨_, rfl⟩
      rw [hF] at HLS ⊢
      have hq0 : 0 < (a :: rs).length := by simp
      have hl2 : ¬ ((6 : Int) < n) := by omega
      clear hR hnR hF HR HQ HRR ht
      generalize (a :: rs) = R at *
      show Calls _ _ _ _ (fun e w' => ∃ v, e = .returned (.tuple #[v, .int .i64 (dchF F), .bool true]) ∧ OwnI w' w.heap.size v F ∧ Below w.heap.size w w')
      obtain ⟨q, hq⟩ : ∃ q, R.length = q := ⟨_, rfl⟩
      have HQL := hid hq
      rw [hq] at HLQ hq0
      clear hq
      go_enter Try.func4, Try.ntmps4
      go_wp2_with fail
      refine (l7Test_any _ xs _ HX.out).mono ?_
      rintro e w1 ⟨rfl, rfl⟩
      rw [HT.out]
      go_wp2_with fail
      refine (HOR.out _ HX.out).mono ?_
      rintro e w1 ⟨va, rfl, hra, hb⟩
      obtain ⟨g, capa, u0, rfl, hg, hc0, ho0, hu0⟩ := hra.at_ (i := 0) (by rw [HQL.out]; exact hq0)
      rw [HQL.out]
      rw [HQL.out] at hra
      rw [HA0.out] at ho0
      have HV := hid hra
      have HB := hid hb
      have HO0 := hid ho0
      have HCA := hid (HRA.out 0 (by rw [HQL.out]; exact hq0))
      rw [HA0.out] at HCA
      have hq0I : (0 : Int) < q := by omega
      have HD0 := hid ((Below.refl w1.heap.size w1).drew)
      have HI0 := hid (ho0.ints.later HD0.out)
      have hla : a.length ≤ 1048576 := by have := HCA.out.1; omega
      clear hra hb ho0 hu0 HOR
      go_wp2
      go_region_held3 (fun w' => w'.cell? ⟨g, 0, none⟩ = some u0 ∧ Below w1.heap.size w1 w') (first | exact ⟨hc0, HD0.out⟩ | exact ⟨(hbF.cell (by exact hg)).trans hc0, hbF⟩)
        (first | (go_at_call 12; refine (l7Changes_any _ a _ HI0.out hla HCA.out.2).mono ?_; rintro e w' ⟨rfl, hbF⟩; replace hbF := HD0.out.trans hbF))
      have HVF := hid (HV.out.later hbF)
      have HBF := hid (HB.out.trans (hbF.mono HB.out.size))
      have HOF := hid (HO0.out.later hbF)
      clear HV HB HO0 hbF HI0 HD0 hc0 hla
      have HLA := hid HCA.out.1
      clear HCA HX
      go_wp2
      generalize w1.heap.size = z1 at *
      go_loopw [6, 7, 8] (fun bb kk ii wr => ∃ (i : Nat) (b : List Int), 1 ≤ i ∧ i ≤ q ∧ ii = .int .i64 i ∧ kk = .int .i64 (dchF b) ∧ Hid (OwnI wr w.heap.size bb b) ∧ Hid (leastS dchF b (R.drop i) = F) ∧ Hid (b.length = n) ∧ Hid (RowsI wr w.heap.size z1 (.slice (some ⟨g, 0, none⟩) q capa) R) ∧ Hid (Below w.heap.size w wr)) (fun _ _ ii _ => q - (intOf ii).toNat)
      case atStart => exact ⟨1, a, by omega, by omega, rfl, rfl, HOF, HLS, HLA, HVF, HBF⟩
      case round =>
        obtain ⟨i, b, hi1, hiq, rfl, rfl, HO, HL, HLB, HV, HB⟩ := hrel
        clear HOF HLS HLA HVF HBF
        by_cases hlt : i < q
        · obtain ⟨g', capa', u, hv, hg', hcu, hou, hue⟩ := HV.out.at_ (show i < R.length by rw [HQL.out]; exact hlt)
          simp only [Value.slice.injEq, Option.some.injEq, Addr.mk.injEq] at hv
          obtain ⟨⟨hg1, _, _⟩, hq9, hc9⟩ := hv
          subst hg1
          clear hq9 hc9 hue
          have HDR := hid (show R.drop i = R.getD i [] :: R.drop (i+1) by
            have hil : i < R.length := by rw [HQL.out]; exact hlt
            rw [List.drop_eq_getElem_cons hil]
            simp [List.getD, hil])
          have HCI := hid (HRA.out i (by rw [HQL.out]; exact hlt))
          obtain ⟨s, hs⟩ : ∃ s, R.getD i [] = s := ⟨_, rfl⟩
          rw [hs] at hou HDR HCI
          have HU := hid hou
          have hls : s.length ≤ 1048576 := by have := HCI.out.1; omega
          have HLS := hid HCI.out.1
          have HYES := hid (leastS_yes (c := dchF) (b := b) (x := s) (xs := R.drop (i+1)))
          have HNO := hid (leastS_no (c := dchF) (b := b) (x := s) (xs := R.drop (i+1)))
          rw [HDR.out] at HL
          have hq720 : q ≤ 720 := HLQ.out
          have hi0 : (0 : Int) ≤ i := by omega
          have hiI : (i : Int) < q := by omega
          have hw1 : IntKind.i64.wrap ((i : Int) + 1) = (i : Int) + 1 := IntWalk.i64_in _ (by omega)
          have HCU := hid hcu
          clear hs hou hcu
          have hcu := HCU.out
          go_wp2_with fail
          refine (l7Changes_any _ s _ HU.out.ints hls HCI.out.2).mono ?_
          rintro e w2 ⟨rfl, hb2⟩
          have hcu2 := (hb2.cell (by exact hg')).trans hcu
          have HU2 := hid (HU.out.later hb2)
          have HO2 := hid (HO.out.later hb2)
          have HV2 := hid (HV.out.later hb2)
          have HB2 := hid (HB.out.trans (hb2.mono HB.out.size))
          clear hb2 hcu HCU HU HO HV HB HDR
          have HTRI := hid (Int.lt_trichotomy (dchF s) (dchF b))
          have HAH := hid (show Ahead dchF s b ↔ (dchF s < dchF b ∨ (dchF s = dchF b ∧ s < b)) from Iff.rfl)
          obtain ⟨nn, hnn⟩ : ∃ nn, dchF s = nn := ⟨_, rfl⟩
          obtain ⟨kk, hkk⟩ : ∃ kk, dchF b = kk := ⟨_, rfl⟩
          have HNN := hid hnn
          have HKK := hid hkk
          rw [hnn, hkk] at HTRI HAH
          rw [hnn]
          rw [hkk]
          clear hnn hkk
          rcases HTRI.out with h | h | h
          · have HFN : Hid (leastS dchF s (R.drop (i+1)) = F) := hid (by rw [← HYES.out (HAH.out.2 (.inl h))]; exact HL.out)
            go_wp2
            go_roundw
            case rel => exact ⟨i+1, s, by omega, by omega, by go_num, by rw [HNN.out], HU2, HFN, HLS, HV2, HB2⟩
            case measure => simp [intOf]; omega
          · subst h
            have h2 : ¬ nn < nn := by omega
            have h3 : (nn == nn) = true := by simp
            have HSL := hid (show s.length = b.length by rw [HLS.out, HLB.out])
            by_cases hsb : s < b
            · have HFN : Hid (leastS dchF s (R.drop (i+1)) = F) := hid (by rw [← HYES.out (HAH.out.2 (.inr ⟨rfl, hsb⟩))]; exact HL.out)
              have HDT := hid (show decide (s < b) = true by simp [hsb])
              clear hsb
              go_wp2_with fail
              refine (l7Before_any _ _ s b _ HU2.out.ints HO2.out.ints HSL.out).mono ?_
              rintro e w3 ⟨rfl, m, rfl⟩
              rw [HDT.out]
              have hcu3 : (w2.drewN m).cell? ⟨g, i, none⟩ = some u := hcu2
              have HU3 := hid (HU2.out.drawn m)
              have HV3 := hid (HV2.out.later (below_drewN (Below.refl _ _) m))
              have HB3 := hid (below_drewN HB2.out m)
              go_wp2
              go_roundw
              case rel => exact ⟨i+1, s, by omega, by omega, by go_num, by rw [HNN.out], HU3, HFN, HLS, HV3, HB3⟩
              case measure => simp [intOf]; omega
            · have HFN : Hid (leastS dchF b (R.drop (i+1)) = F) := hid (by
                rw [← HNO.out (fun hh => by
                  rcases HAH.out.1 hh with h' | ⟨_, h'⟩
                  · omega
                  · exact hsb h')]
                exact HL.out)
              have HDT := hid (show decide (s < b) = false by simp [hsb])
              clear hsb
              go_wp2_with fail
              refine (l7Before_any _ _ s b _ HU2.out.ints HO2.out.ints HSL.out).mono ?_
              rintro e w3 ⟨rfl, m, rfl⟩
              rw [HDT.out]
              have HO3 := hid (HO2.out.drawn m)
              have HV3 := hid (HV2.out.later (below_drewN (Below.refl _ _) m))
              have HB3 := hid (below_drewN HB2.out m)
              go_wp2
              go_roundw
              case rel => exact ⟨i+1, b, by omega, by omega, by go_num, by rw [HKK.out], HO3, HFN, HLB, HV3, HB3⟩
              case measure => simp [intOf]; omega
          · have HFN : Hid (leastS dchF b (R.drop (i+1)) = F) := hid (by rw [← HNO.out (fun hh => by rcases HAH.out.1 hh with h' | ⟨h', _⟩ <;> omega)]; exact HL.out)
            have h2 : ¬ nn < kk := by omega
            have h3 : (nn == kk) = false := by simp; omega
            go_wp2
            go_roundw
            case rel => exact ⟨i+1, b, by omega, by omega, by go_num, by rw [HKK.out], HO2, HFN, HLB, HV2, HB2⟩
            case measure => simp [intOf]; omega
        · have hiq2 : i = q := by omega
          have HFN : Hid (b = F) := hid (by
            have h := HL.out
            rw [hiq2, List.drop_of_length_le (by rw [HQL.out]; exact Nat.le_refl _)] at h
            exact h)
          have hiI : ¬ ((i : Int) < q) := by omega
          go_wp2
          go_ret3
          have hbf := HFN.out
          subst hbf
          exact ⟨_, rfl, HO.out, HB.out⟩
    · have HR := hid (show quietR xs = ([], 0, false) by unfold quietR; rw [if_neg (by rw [HN.out]; omega)])
      rw [HR.out]
      have hl2 : ((6 : Int) < n) := by omega
      clear ht
      have HB1 := hid ((Below.refl w.heap.size w).alloc (Nat.le_refl _) (.cells #[] 3))
      have HO1 := hid (OwnI.lit0 w w.heap.size (Nat.le_refl _))
      go_enter Try.func4, Try.ntmps4
      go_wp2_with fail
      refine (l7Test_any _ xs _ HX.out).mono ?_
      rintro e w1 ⟨rfl, rfl⟩
      rw [HT.out]
      go_wp2
      go_ret3
      exact ⟨_, rfl, HO1.out, HB1.out⟩
end Go.Proofs.Ythndabijojjokaa
