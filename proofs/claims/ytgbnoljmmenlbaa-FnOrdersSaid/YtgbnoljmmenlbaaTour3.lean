import Derived.Test.YtgbnoljmmenlbaaTour2
namespace Go.Proofs.Ytgbnoljmmenlbaa
open Go.RowKit Go.Maps

/-! ## (*tour).leastFrom -/
theorem cnt_max {m : Nat} (h : m ≤ 10) : cntW m ≤ 1111111111 := by
  have h0 : cntW 0 = 0 := rfl
  have h1 : cntW 1 = 1 := rfl
  have h2 : cntW 2 = 11 := rfl
  have h3 : cntW 3 = 111 := by show 1 + 10 * cntW 2 = _; rw [h2]
  have h4 : cntW 4 = 1111 := by show 1 + 10 * cntW 3 = _; rw [h3]
  have h5 : cntW 5 = 11111 := by show 1 + 10 * cntW 4 = _; rw [h4]
  have h6 : cntW 6 = 111111 := by show 1 + 10 * cntW 5 = _; rw [h5]
  have h7 : cntW 7 = 1111111 := by show 1 + 10 * cntW 6 = _; rw [h6]
  have h8 : cntW 8 = 11111111 := by show 1 + 10 * cntW 7 = _; rw [h7]
  have h9 : cntW 9 = 111111111 := by show 1 + 10 * cntW 8 = _; rw [h8]
  have h10 : cntW 10 = 1111111111 := by show 1 + 10 * cntW 9 = _; rw [h9]
  match m, h with
  | 0, _ | 1, _ | 2, _ | 3, _ | 4, _ | 5, _ | 6, _ | 7, _ | 8, _ | 9, _ | 10, _ => omega
theorem own_newT {w' : World} {B bb : Nat} {v : Value} {xs : List Int} (h : OwnI w' B v xs) (hb : bb < B) : v.ownBlock = none ∨ v.ownBlock ≠ some bb := by
  cases hv : v.ownBlock with
  | none => exact .inl rfl
  | some k =>
    right
    intro e
    have := (World.ownsRow.lt h k hv).1
    simp only [Option.some.injEq] at e
    omega
theorem grown_belowT {w w1 w' : World} {row : Option Nat} (h : w.grownBy w1 row) (hb : Below w.heap.size w1 w') : w.grownBy w' row :=
  ⟨hb.os.trans h.os, hb.tape.trans h.tape, hb.output.trans h.output, Nat.le_trans h.size hb.size, fun k hk hr => (hb.block k hk).trans (h.block k hk hr)⟩
theorem TourS.below {w w' : World} {tb bm n cap : Nat} {ao : Option Addr} {own : List Int} {back : Int} (h : TourS w tb bm n cap ao own back) (hb : Below w.heap.size w w') : TourS w' tb bm n cap ao own back := h.kept (grown_of_below hb _)
theorem OwnI.lit1T (w : World) (B : Nat) (x : Int) (hB : B ≤ w.heap.size) : OwnI (w.alloc (.cells #[.int .i64 x] 3)) B (.slice (some ⟨w.heap.size, 0, none⟩) 1 1) [x] :=
  World.ownsRow_lit w #[.int .i64 x] 1 hB (by simp [maxLen]) rfl

theorem rest_tour {tb bm n cap : Nat} {ao : Option Addr} {own : List Int} {back : Int} (hn : n ≤ 10) (hnd : own.Nodup) (hd : ∀ i, i < own.length → dig9 (own.getD i 0) = true) (hback : back = -1 ∨ dig9 back = true) (s l k : Nat) (w : World)
    (hs : s < 2 ^ n) (hl : l < n) (hT : TourS w tb bm n cap ao own back) (hM : Memo w bm k (tourF own back)) (hk : k + 1111111111 < 1099511627776) :
    Calls Try.prog 58 #[.pointer (some ⟨tb, 0, none⟩), .int .i64 s, .int .i64 l] w fun e w' => e = .returned (.int .i64 (tourF own back s l)) ∧ w.grownBy w' (some bm) ∧ Memo w' bm (k + 1111111111) (tourF own back) := by
  have hlen : own.length = n := by
    obtain ⟨n', ao1, cap1, b1, o1, HN, he, ha1, hc1, hn1, hm1, HX⟩ := hT.ints.open_
    simp only [Value.slice.injEq] at he
    rw [HN.out, he.2.1]
  have h1 := remO_len own s
  have h2 := cnt_max (m := (remO own s).length) (by omega)
  refine (rest_any tb bm n cap ao own back hn hnd hd hback _ s l k w rfl hs hl hT hM (by omega)).mono ?_
  rintro e w' ⟨rfl, hg, hm⟩
  exact ⟨rfl, hg, hm.mono (by omega)⟩
theorem through_tour {tb bm n cap : Nat} {ao : Option Addr} {own : List Int} {back : Int} (hn : n ≤ 10) (hnd : own.Nodup) (hd : ∀ i, i < own.length → dig9 (own.getD i 0) = true) (hback : back = -1 ∨ dig9 back = true) (s l x k : Nat) (w : World)
    (hs : s < 2 ^ n) (hl : l < n) (hx : x < n) (hT : TourS w tb bm n cap ao own back) (hM : Memo w bm k (tourF own back)) (hk : k + 1111111111 < 1099511627776) :
    Calls Try.prog 59 #[.pointer (some ⟨tb, 0, none⟩), .int .i64 s, .int .i64 l, .int .i64 x] w fun e w' =>
      e = .returned (.int .i64 (dd (own.getD l 0) (own.getD x 0) + tourF own back (s ||| 2 ^ x) x)) ∧ w.grownBy w' (some bm) ∧ Memo w' bm (k + 1111111111) (tourF own back) := by
  have hlen : own.length = n := by
    obtain ⟨n', ao1, cap1, b1, o1, HN, he, ha1, hc1, hn1, hm1, HX⟩ := hT.ints.open_
    simp only [Value.slice.injEq] at he
    rw [HN.out, he.2.1]
  have hr := tourF_range own (by omega) back (s ||| 2 ^ x) x
  exact through_any tb bm n cap ao own back (tourF own back) hn hd s l x k (k + 1111111111) _ hr.1 (by omega) w hT hM (Nat.lt_of_lt_of_le hs (Nat.pow_le_pow_right (by omega) hn)) hl hx
    (fun w' hT' hM' => rest_tour hn hnd hd hback _ _ _ w' (or_lt hs hx) hx hT' hM' hk)

set_option maxRecDepth 100000 in
set_option maxHeartbeats 4000000 in
theorem leastFrom_any (tb bm n cap : Nat) (ao : Option Addr) (own : List Int) (back : Int) (hn : n ≤ 10) (hnd : own.Nodup) (hd : ∀ i, i < own.length → dig9 (own.getD i 0) = true) (hback : back = -1 ∨ dig9 back = true) (first : Nat) (hf : first < n) (w : World)
    (hT : TourS w tb bm n cap ao own back) (hM : Memo w bm 0 (tourF own back)) :
    Calls Try.prog 49 #[.pointer (some ⟨tb, 0, none⟩), .int .i64 first] w fun e w' =>
      ∃ v, e = .returned (.tuple #[v, .int .i64 (tourF own back (2 ^ first) first)]) ∧ OwnI w' w.heap.size v (own.getD first 0 :: firstI dd own (baseB back) (2 ^ first) first) ∧ w.grownBy w' (some bm) := by
  obtain ⟨n', ao1, cap1, b1, o1, HN, he, ha1, hc1, hn1, hm1, HX⟩ := hT.ints.open_
  simp only [Value.slice.injEq] at he
  obtain ⟨rfl, rfl, rfl⟩ := he
  obtain ⟨rfl, hb1⟩ := ha1 (by omega)
  have hbm := hM.lt
  have hsh : wrap64 ((2 : Int) ^ first) = ((2 ^ first : Nat) : Int) := by rw [← IntWalk.i64_left, shl_nat (by omega)]
  have hs2 : 2 ^ first < 2 ^ n := Nat.pow_lt_pow_right (by omega) hf
  have HRL : Hid ((remO own (2 ^ first)).length + (0 + 1) = n) := hid (by
    have hx : first < own.length := by rw [HN.out]; exact hf
    have h1 := remO_erase hnd (s := 0) hx
    rw [Nat.zero_or, remO_zero] at h1
    rw [h1, List.length_erase_of_mem (by have := (remO_mem hnd (s := 0) hx).2 (by simp); rwa [remO_zero] at this), HN.out]
    omega)
  have HCALL := hid (rest_tour hn hnd hd hback (2 ^ first) first 0 w hs2 hf hT hM (by omega))
  have hrr := tourF_range own (by rw [HN.out]; exact hn) back (2 ^ first) first
  obtain ⟨R, hR⟩ : ∃ R, own.getD first 0 :: firstI dd own (baseB back) (2 ^ first) first = R := ⟨_, rfl⟩
  have HR : Hid ([own.getD first 0] ++ firstI dd own (baseB back) (2 ^ first) first = R) := hid hR
  rw [hR]
  clear hR
  generalize tourF own back (2 ^ first) first = cost at *
  obtain ⟨q, hq⟩ : ∃ q, 2 ^ first = q := ⟨_, rfl⟩
  rw [hq] at hsh hs2 HRL HCALL HR
  have HT := hid hT
  have HC1 := hid hc1
  have HKEEP : Hid (∀ W, w.grownBy W (some bm) → W.cell? ⟨tb, 0, none⟩ = some (.slice (some ⟨b1, o1, none⟩) n cap) ∧ (∀ i, i < n → W.cell? ⟨b1, o1 + i, none⟩ = some (.int .i64 (own.getD i 0))) ∧ TourS W tb bm n cap (some ⟨b1, o1, none⟩) own back) := hid fun W hg => by
    have hne : (some b1 : Option Nat) ≠ some bm := by
      rcases HT.out.off with h | h
      · simp [Value.ownBlock] at h
      · simpa [Value.ownBlock] using h
    exact ⟨(HT.out.kept hg).c0, fun i hi => hg.cell (HC1.out i hi) hne, HT.out.kept hg⟩
  obtain ⟨x0, hx0⟩ : ∃ x0, own.getD first 0 = x0 := ⟨_, rfl⟩
  rw [hx0] at HR
  have HX0 := hid hx0
  clear hx0
  have hf0 : (0 : Int) ≤ first := by omega
  have hfI : (first : Int) < n := by omega
  clear hT hM hc1 ha1 hq HT HC1
  go_enter Try.func49, Try.ntmps49
  go_wp2_with (go_at_call 58; refine HCALL.out.mono ?_; rintro e w1 ⟨rfl, hg1, hm1⟩; have k0 := (HKEEP.out _ hg1).1; have k1 := (HKEEP.out _ hg1).2.1 first hf; rw [HX0.out] at k1)
  have HBW : Below w1.heap.size w1 (w1.alloc (.cells #[.int .i64 x0] 3)) := (Below.refl _ _).alloc (Nat.le_refl _) _
  have HG := hid (grown_trans hg1 (grown_of_below HBW _))
  have HM := hid (hm1.kept (row := none) (grown_of_below HBW _) (by simp))
  have HO := hid (OwnI.lit1T w1 w.heap.size x0 hg1.size)
  have HZ := hid hg1.size
  clear HBW k0 k1 hm1 HCALL hg1
  generalize w1.alloc (.cells #[.int .i64 x0] 3) = w2 at *
  generalize w1.heap.size = z at *
  go_loopw [6, 7, 9, 10, 11] (fun ss ll oo _ _ wr => ∃ (j y s : Nat) (os : List Int), j + 1 ≤ n ∧ y < n ∧ s < 2 ^ n ∧ ss = .int .i64 s ∧ ll = .int .i64 y ∧ (∃ ao cp, oo = .slice ao (j+1) cp) ∧ Hid (os.length = j+1) ∧ Hid ((remO own s).length + (j+1) = n) ∧ Hid (os ++ firstI dd own (baseB back) s y = R) ∧
    Hid (OwnI wr w.heap.size oo os) ∧ Hid (Memo wr bm (1111111111 * (1 + 11 * j)) (tourF own back)) ∧ Hid (w.grownBy wr (some bm))) (fun _ _ oo _ _ _ => match oo with | .slice _ m _ => n - m | _ => 0)
  case atStart => exact ⟨0, first, q, _, by omega, hf, hs2, rfl, rfl, ⟨_, _, rfl⟩, hid rfl, HRL, HR, HO, hid (HM.out.mono (by omega)), HG⟩
  case round =>
    obtain ⟨j, y, s, os, hj, hy, hs, rfl, rfl, ⟨aoo, cpo, rfl⟩, HOL, HRM, HRO, HOO, HMM, HGG⟩ := hrel
    have k0 := (HKEEP.out _ HGG.out).1
    clear HO HM HG HRL HR hs2 hsh
    by_cases hlt : j + 1 < n
    · have hltI : ((j + 1 : Nat) : Int) < n := by omega
      have HCALL := hid (rest_tour hn hnd hd hback s y _ wr hs hy (HKEEP.out _ HGG.out).2.2 HMM.out (by omega))
      have hwr := tourF_range own (by rw [HN.out]; exact hn) back s y
      have HW := hid (show tourF own back s y = restI dd own (baseB back) s y from rfl)
      generalize tourF own back s y = want at *
      go_wp2_with (go_at_call 58; refine HCALL.out.mono ?_; rintro e w3 ⟨rfl, hg3, hm3⟩; have k2 := (HKEEP.out _ (grown_trans HGG.out hg3)).1)
      have HG3 := hid (grown_trans HGG.out hg3)
      have HM3 := hid hm3
      have HOW : Hid (∀ W, w3.grownBy W (some bm) → OwnI W w.heap.size (.slice aoo (j+1) cpo) os) := hid fun W hW => HOO.out.kept (grown_trans hg3 hW) (own_newT HOO.out hbm)
      have HNB := hid (own_newT HOO.out hbm)
      have hjl : os.length ≤ 1099511627776 := by have := HOL.out; omega
      have hzz : w.heap.size ≤ w3.heap.size := HG3.out.size
      clear hg3 hm3 HCALL HMM HOO HGG k0 k2 hltI hwr
      go_loopw [6, 7, 9, 11, 44] (fun ss ll oo _ ii wr => ∃ i : Nat, i ≤ n ∧ ii = .int .i64 i ∧ ss = .int .i64 s ∧ ll = .int .i64 y ∧ oo = .slice aoo (j+1) cpo ∧ Hid (∀ z, z < i → s.testBit z = false → ¬ dd (own.getD y 0) (own.getD z 0) + restI dd own (baseB back) (s ||| 2 ^ z) z = restI dd own (baseB back) s y) ∧
        Hid (Memo wr bm (1111111111 * (1 + 11 * j) + 1111111111 * (1 + i)) (tourF own back)) ∧ Hid (w3.grownBy wr (some bm))) (fun _ _ _ _ ii _ => n - (intOf ii).toNat)
      case atStart => exact ⟨0, by omega, rfl, rfl, rfl, rfl, hid fun z h => absurd h (Nat.not_lt_zero z), hid (HM3.out.mono (by omega)), hid (World.grownBy.refl _ _)⟩
      case round =>
        obtain ⟨i, hi, rfl, rfl, rfl, rfl, HNOT, HMI, HGI⟩ := hrel
        by_cases hin : i < n
        · have hiI : (i : Int) < n := by omega
          have hi0 : (0 : Int) ≤ i := by omega
          have hi64 : (i : Int) < 64 := by omega
          have hs10 : s < 2 ^ 10 := Nat.lt_of_lt_of_le hs (Nat.pow_le_pow_right (by omega) hn)
          have HBIT := hid (bit_zero (s := s) (k := i) (by omega))
          cases hb : (bits .and .i64 ((s : Int) / 2 ^ i) 1 == 0) with
          | false =>
            have HBT : Hid (s.testBit i = true) := hid (by have := HBIT.out; rw [hb] at this; simpa using this.symm)
            have HNOT2 := hid (show ∀ z, z < i + 1 → s.testBit z = false → ¬ dd (own.getD y 0) (own.getD z 0) + restI dd own (baseB back) (s ||| 2 ^ z) z = restI dd own (baseB back) s y from fun z hz hzb => by
              by_cases e : z = i
              · subst e; rw [HBT.out] at hzb; cases hzb
              · exact HNOT.out z (by omega) hzb)
            clear HBIT
            go_wp2
            go_roundw
            case rel => exact ⟨i+1, by omega, by go_num, rfl, rfl, rfl, HNOT2, hid (HMI.out.mono (by omega)), HGI⟩
            case measure => simp [intOf]; omega
          | true =>
            have HBT : Hid (s.testBit i = false) := hid (by have := HBIT.out; rw [hb] at this; simpa using this.symm)
            have HGI2 := hid (grown_trans HG3.out HGI.out)
            have HCALL := hid (through_tour hn hnd hd hback s y i _ wr hs hy hin (HKEEP.out _ HGI2.out).2.2 HMI.out (by omega))
            have HCE := hid (show dd (own.getD y 0) (own.getD i 0) + tourF own back (s ||| 2 ^ i) i = dd (own.getD y 0) (own.getD i 0) + restI dd own (baseB back) (s ||| 2 ^ i) i from rfl)
            generalize dd (own.getD y 0) (own.getD i 0) + tourF own back (s ||| 2 ^ i) i = c at *
            clear HBIT
            cases hq : (c == want) with
            | false =>
              have HNOT2 := hid (show ∀ z, z < i + 1 → s.testBit z = false → ¬ dd (own.getD y 0) (own.getD z 0) + restI dd own (baseB back) (s ||| 2 ^ z) z = restI dd own (baseB back) s y from fun z hz hzb => by
                by_cases e : z = i
                · subst e; rw [← HCE.out, ← HW.out]; exact beq_eq_false_iff_ne.1 hq
                · exact HNOT.out z (by omega) hzb)
              go_wp2_with (go_at_call 59; refine HCALL.out.mono ?_; rintro e w4 ⟨rfl, hg4, hm4⟩)
              have HG4 := hid (grown_trans HGI.out hg4)
              have HM4 := hid hm4
              clear hg4 hm4 HCALL HGI2
              refine ⟨⟨i+1, by omega, by go_num, rfl, rfl, rfl, HNOT2, hid (HM4.out.mono (by omega)), HG4⟩, ?_⟩
              simp [intOf]; omega
            | true =>
              have hcw : c = want := by simpa using hq
              have hil : i < own.length := by rw [HN.out]; exact hin
              have HST := hid (firstI_step dd hnd (base := baseB back) (s := s) (a := y) hil HBT.out (by rw [← HCE.out, ← HW.out]; exact hcw) HNOT.out)
              have HRN : Hid ((remO own (s ||| 2 ^ i)).length + (j + 1 + 1) = n) := hid (by
                have h1 := HRM.out
                rw [remO_erase hnd hil, List.length_erase_of_mem ((remO_mem hnd hil).2 HBT.out)]
                omega)
              have hso : s ||| 2 ^ i < 2 ^ n := or_lt hs hin
              have hor : bits .or .i64 (s : Int) (wrap64 ((2 : Int) ^ i)) = ((s ||| 2 ^ i : Nat) : Int) := by rw [← IntWalk.i64_left]; exact or_shl (by omega) (by omega)
              have HEND : Hid ((os ++ [own.getD i 0]) ++ firstI dd own (baseB back) (s ||| 2 ^ i) i = R) := hid (by
                rw [← HRO.out, HST.out]
                simp)
              have HCI := hid (fun W (hW : w.grownBy W (some bm)) => (HKEEP.out W hW).2.1 i hin)
              generalize own.getD i 0 = x at HEND HCI
              generalize s ||| 2 ^ i = so at *
              clear HST HNOT HCE HRM HRO hil
              go_wp2_with (first
                | (go_at_call 59; refine HCALL.out.mono ?_; rintro e w4 ⟨rfl, hg4, hm4⟩; have HG4 := hid (grown_trans HGI.out hg4); have HM4 := hid hm4; have k3 := (HKEEP.out _ (grown_trans HG3.out HG4.out)).1; have k4 := HCI.out _ (grown_trans HG3.out HG4.out))
                | (at_builtin; refine wpList_appendI w4 rfl _ _ rfl w.heap.size _ _ (HOW.out _ HG4.out) rfl x rfl hjl (grown_trans HG3.out HG4.out).size ?_; intro v' w5 ho' hg5 hb5 _))
              obtain ⟨g5, cap5, rfl, _, _⟩ := ho'.shape (n := j + 1 + 1) (by have := HOL.out; simp; omega) (by omega)
              have HM5 := hid ((HM4.out.kept hg5 (by
                rcases HNB.out with h | h
                · rw [h]; simp
                · exact fun e => h e.symm)).mono (k' := 1111111111 * (1 + 11 * (j + 1))) (by omega))
              have HG5 := hid (grown_belowT (grown_trans HG3.out HG4.out) hb5)
              refine ⟨⟨j+1, i, so, os ++ [x], by omega, hin, hso, rfl, rfl, ⟨_, _, rfl⟩, hid (by have := HOL.out; simp; omega), HRN, HEND, hid ho', HM5, HG5⟩, ?_⟩
              show n - (j + 1 + 1) < n - (j + 1)
              omega
        · exfalso
          obtain ⟨z, hz, hzb, hze⟩ := firstI_some dd (fun a b => (dd_range a b).1) hnd (base := baseB back) (fun a => (baseB_range back a).1) (s := s) (fun e => by have := HRM.out; rw [e] at this; simp at this; omega) y
          exact HNOT.out z (by rw [HN.out] at hz; omega) hzb hze
    · have hjn : j + 1 = n := by omega
      have HRE : Hid (os = R) := hid (by
        have h1 := HRM.out
        have h2 : (remO own s).length = 0 := by omega
        rw [← HRO.out]
        unfold firstI
        rw [h2]
        simp [firstN])
      have hnot : ¬ (((j + 1 : Nat) : Int) < n) := by omega
      have ho := HOO.out
      rw [hjn, HRE.out] at ho
      have HO2 := hid ho
      clear ho
      go_wp2
      go_ret2
      exact ⟨_, rfl, HO2.out, HGG.out⟩
end Go.Proofs.Ytgbnoljmmenlbaa
