/-
  First4: the reference's set of an order (l4Set) and its search (l4First).
-/
import Derived.Test.YtgbnoljmmenlbaaRest4
import Derived.Test.YtgbnoljmmenlbaaTour3
namespace Go.Proofs.Ytgbnoljmmenlbaa
open Go.RowKit

theorem setO_take {xs : List Int} {k : Nat} (hk : k < xs.length) : setO (xs.take (k+1)) = setO (xs.take k) ||| 2 ^ (xs.getD k 0).toNat := by
  unfold setO
  rw [List.take_succ_eq_append_getElem hk, List.foldl_append]
  simp [List.getD, hk]

set_option maxHeartbeats 1000000 in
theorem l4Set_any (v1 : Value) (xs : List Int) (w : World) (h1 : Ints w v1 xs) (hd : ∀ i, i < xs.length → dig9 (xs.getD i 0) = true) :
    Calls Try.prog 31 #[v1] w fun e w' => e = .returned (.int .i64 (setO xs : Nat)) ∧ w = w' := by
  obtain ⟨n, ao1, cap1, b1, o1, HN, rfl, ha1, hc1, hn1, hm1, HX⟩ := h1.open_
  have HD := hid hd
  have HLT : Hid (∀ k, k ≤ n → setO (xs.take k) < 1024) := hid fun k hk => setO_lt fun x hx => by
    have hx' := List.mem_of_mem_take hx
    obtain ⟨i, hi, rfl⟩ := List.getElem_of_mem hx'
    have := inB_true (HD.out i hi)
    simpa [List.getD, hi] using this
  clear h1 hd
  go_enter Try.func31, Try.ntmps31
  go_wp2
  go_loop [3, 4] (fun ss ii => ∃ k : Nat, k ≤ n ∧ ii = .int .i64 k ∧ ss = .int .i64 (setO (xs.take k) : Nat)) (fun _ ii => n - (intOf ii).toNat)
  case atStart => exact ⟨0, by omega, rfl, rfl⟩
  case round =>
    obtain ⟨k, hk, rfl, rfl⟩ := hrel
    by_cases hlt : k < n
    · obtain ⟨rfl, hb1⟩ := ha1 (by omega)
      have e1 : w.cell? ⟨b1, o1+k, none⟩ = some (.int .i64 (xs.getD k 0)) := hc1 k (by omega)
      have HST := hid (setO_take (xs := xs) (k := k) (by rw [HN.out]; exact hlt))
      obtain ⟨p, hp, hp10⟩ := nat_digit (HD.out k (by rw [HN.out]; exact hlt))
      rw [hp] at e1 HST
      have hs10 := HLT.out k hk
      generalize setO (xs.take k) = s at *
      have hp0 : (0 : Int) ≤ p := by omega
      have hp64 : (p : Int) < 64 := by omega
      have hx1 := or_shl (s := s) (x := p) (by omega) (by omega)
      have hx2 : bits .or .i64 (s : Int) (wrap64 ((2 : Int) ^ p)) = ((s ||| 2 ^ p : Nat) : Int) := by rw [← IntWalk.i64_left]; exact hx1
      have HE := hid (show setO (xs.take (k+1)) = s ||| 2 ^ p from HST.out)
      clear hc1 ha1 hp HST
      generalize s ||| 2 ^ p = so at *
      go_wp2
      go_round
      case rel => exact ⟨k+1, by omega, by go_num, int_eq (by rw [HE.out])⟩
      case measure => simp [intOf]; omega
    · go_wp2
      go_ret
      have e : xs.take k = xs := List.take_of_length_le (by rw [HN.out]; omega)
      rw [e]
      exact ⟨rfl, rfl⟩

set_option maxRecDepth 100000 in
set_option maxHeartbeats 4000000 in
theorem l4First_any (back : Int) (a s g : Nat) (w : World) (ha : a < 10) (hs : s < 1024) (hT : RestT w g (baseB back)) (hg : g < w.heap.size) :
    Calls Try.prog 33 #[.int .i64 a, .int .i64 s, .slice (some ⟨g, 0, none⟩) 1024 1024] w fun e w' =>
      ∃ v, e = .returned (.tuple #[v, .int .i64 (restS dd (baseB back) s a)]) ∧ OwnI w' w.heap.size v ((a : Int) :: firstS dd (baseB back) s a) ∧ Below w.heap.size w w' := by
  have HT := hid hT
  have hc0 := hT s a hs ha
  obtain ⟨R, hR⟩ : ∃ R, (a : Int) :: firstS dd (baseB back) s a = R := ⟨_, rfl⟩
  have HR : Hid ([(a : Int)] ++ firstS dd (baseB back) s a = R) := hid hR
  rw [hR]
  obtain ⟨c0, hcost⟩ : ∃ c0, restS dd (baseB back) s a = c0 := ⟨_, rfl⟩
  rw [hcost] at hc0 ⊢
  have hs0 : (0 : Int) ≤ s := by omega
  have hsI : (s : Int) < 1024 := by omega
  have ha0 : (0 : Int) ≤ a := by omega
  have haI : (a : Int) < 10 := by omega
  clear hT hR hcost
  have hD : Below w.heap.size w w.drew := (Below.refl _ _).drew
  have HA : Hid (∀ W, Below w.heap.size w W → W.cell? ⟨g, s * 10 + a, none⟩ = some (.int .i64 c0) ∧ Below w.heap.size w W) := hid fun W hW => ⟨(hW.cell (by exact hg)).trans hc0, hW⟩
  go_enter Try.func33, Try.ntmps33
  go_wp2
  go_region_held3 (fun W => W.cell? ⟨g, s * 10 + a, none⟩ = some (.int .i64 c0) ∧ Below w.heap.size w W) (first | exact HA.out _ hD | exact HA.out _ (hD.alloc (by simp) _)) (fail)
  have HO1 : Hid (OwnI (w.alloc (.cells #[.int .i64 (a : Int)] 3)).drew w.heap.size (.slice (some ⟨w.heap.size, 0, none⟩) 1 1) [(a : Int)]) := hid ((OwnI.lit1T w w.heap.size (a : Int) (Nat.le_refl _)).drawn 1)
  have HB1 : Hid (Below w.heap.size w (w.alloc (.cells #[.int .i64 (a : Int)] 3)).drew) := hid (((Below.refl _ _).alloc (Nat.le_refl _) _).drew)
  clear hc0 hD HA hs0 hsI ha0 haI
  generalize (w.alloc (.cells #[.int .i64 (a : Int)] 3)).drew = w1 at *
  go_wp2
  go_loopw [1, 8, 9, 11] (fun ss oo aa _ wr => ∃ (s a : Nat) (os : List Int), s < 1024 ∧ a < 10 ∧ ss = .int .i64 s ∧ aa = .int .i64 a ∧ Hid (os ++ firstS dd (baseB back) s a = R) ∧ Hid (os.length ≤ 1024 - s) ∧ Hid (OwnI wr w.heap.size oo os) ∧ Hid (Below w.heap.size w wr)) (fun ss _ _ _ _ => (intOf ss).toNat)
  case atStart => exact ⟨s, a, _, hs, ha, rfl, rfl, HR, hid (by simp; omega), HO1, HB1⟩
  case round =>
    clear HO1 HB1 HR hs ha
    obtain ⟨s, a, os, hs, ha, rfl, rfl, HRO, HOL, HOO, HBB⟩ := hrel
    by_cases h0 : s = 0
    · subst h0
      have HRE : Hid (os = R) := hid (by rw [← HRO.out, show firstS dd (baseB back) 0 a = [] from firstS_zero dd _ _, List.append_nil])
      rw [HRE.out] at HOO
      go_wp2
      go_ret2
      exact ⟨_, rfl, HOO.out, HBB.out⟩
    · have hne : ((s : Int) == 0) = false := beq_eq_false_iff_ne.2 (by omega)
      have hne2 : ((s : Int) != 0) = true := by simp only [bne, hne]; rfl
      go_wp2
      clear hne hne2
      go_loopw [1, 8, 9, 11] (fun ss ov aa kk wr2 => ∃ k : Nat, k ≤ 10 ∧ kk = .int .i64 k ∧ ss = .int .i64 s ∧ aa = .int .i64 a ∧ Hid (∀ z, z < k → s.testBit z = true → ¬ dd a z + restS dd (baseB back) (s ^^^ 2 ^ z) z = restS dd (baseB back) s a) ∧ Hid (OwnI wr2 w.heap.size ov os) ∧ Hid (Below w.heap.size w wr2)) (fun _ _ _ kk _ => 10 - (intOf kk).toNat)
      case atStart => exact ⟨0, by omega, rfl, rfl, rfl, hid fun z h => absurd h (Nat.not_lt_zero z), HOO, HBB⟩
      case round =>
        clear HOO HBB
        obtain ⟨k, hk, rfl, rfl, rfl, HNOT, HOI, HBI⟩ := hrel
        rename World => wi
        have hs0 : (0 : Int) ≤ s := by omega
        have hsI : (s : Int) < 1024 := by omega
        have ha0 : (0 : Int) ≤ a := by omega
        have haI : (a : Int) < 10 := by omega
        by_cases hkt : k < 10
        · have hk0 : (0 : Int) ≤ k := by omega
          have hkI : (k : Int) < 10 := by omega
          have hk64 : (k : Int) < 64 := by omega
          have HBIT := hid (bit_one (s := s) (k := k) (by omega))
          cases hb : (bits .and .i64 ((s : Int) / 2 ^ k) 1 == 1) with
          | false =>
            have HBT : Hid (s.testBit k = false) := hid (by have := HBIT.out; rw [hb] at this; exact this.symm)
            have HNOT2 := hid (show ∀ z, z < k + 1 → s.testBit z = true → ¬ dd a z + restS dd (baseB back) (s ^^^ 2 ^ z) z = restS dd (baseB back) s a from fun z hz hzb => by
              by_cases e : z = k
              · subst e; rw [HBT.out] at hzb; cases hzb
              · exact HNOT.out z (by omega) hzb)
            have HO2 := hid fun m => HOI.out.drawn m
            have HB2 := hid fun m => below_drewN HBI.out m
            clear HBIT HNOT HOI HBI
            go_wp2
            go_quiet (fail)
            go_wp2
            go_roundw
            case rel => exact ⟨k+1, by omega, by go_num, rfl, rfl, HNOT2, hid (HO2.out _), hid (HB2.out _)⟩
            case measure => simp [intOf]; omega
          | true =>
            have HBT : Hid (s.testBit k = true) := hid (by have := HBIT.out; rw [hb] at this; exact this.symm)
            have hless := xor_less HBT.out
            have hx1 := xor_shl (s := s) (x := k) (by omega) (by omega)
            have hx2 : bits .xor .i64 (s : Int) (wrap64 ((2 : Int) ^ k)) = ((s ^^^ 2 ^ k : Nat) : Int) := by rw [← IntWalk.i64_left]; exact hx1
            have hgi : g < wi.heap.size := Nat.lt_of_lt_of_le hg HBI.out.size
            have hc1 : wi.cell? ⟨g, (s ^^^ 2 ^ k) * 10 + k, none⟩ = some (.int .i64 (restS dd (baseB back) (s ^^^ 2 ^ k) k)) := (HBI.out.cell (by exact hg)).trans (HT.out _ _ (by omega) hkt)
            have hc0 : wi.cell? ⟨g, s * 10 + a, none⟩ = some (.int .i64 (restS dd (baseB back) s a)) := (HBI.out.cell (by exact hg)).trans (HT.out _ _ hs ha)
            have hr1 := restS_range back (s ^^^ 2 ^ k) k
            have hfr := dd_range a k
            have HCALL := hid (fun w' (hb : Below wi.heap.size wi w') => l4Digits_from wi (a : Int) (k : Int) w' (inB_mk (by omega) (by omega)) (inB_mk (by omega) (by omega)) hb)
            have HDD := hid (show farI (digitC (a : Int)) (digitC (k : Int)) = dd a k from rfl)
            rw [HDD.out] at HCALL
            have HNXT := hid (fun (h : dd a k + restS dd (baseB back) (s ^^^ 2 ^ k) k = restS dd (baseB back) s a) => firstS_step dd (base := baseB back) (a := (a : Int)) hkt HBT.out h HNOT.out)
            have HNOT2 := hid (fun (h : ¬ dd a k + restS dd (baseB back) (s ^^^ 2 ^ k) k = restS dd (baseB back) s a) => show ∀ z, z < k + 1 → s.testBit z = true → ¬ dd a z + restS dd (baseB back) (s ^^^ 2 ^ z) z = restS dd (baseB back) s a from fun z hz hzb => by
              by_cases e : z = k
              · subst e; exact h
              · exact HNOT.out z (by omega) hzb)
            generalize restS dd (baseB back) (s ^^^ 2 ^ k) k = r1 at *
            generalize restS dd (baseB back) s a = r0 at *
            generalize dd (a : Int) (k : Int) = f at *
            generalize s ^^^ 2 ^ k = so at *
            have hso0 : (0 : Int) ≤ so := by omega
            have hsoI : (so : Int) < 1024 := by omega
            have hw1 : IntKind.i64.wrap (f + r1) = f + r1 := IntWalk.i64_in _ (by omega)
            have hbw : Below wi.heap.size wi wi.drew := (Below.refl _ _).drew
            clear HBIT HDD
            cases hq : (f + r1 == r0) with
            | false =>
              have HNO3 := hid (HNOT2.out (beq_eq_false_iff_ne.1 hq))
              clear HNOT2 HNXT
              go_wp2
              go_region_held3 (fun w' => w'.cell? ⟨g, so * 10 + k, none⟩ = some (.int .i64 r1) ∧ w'.cell? ⟨g, s * 10 + a, none⟩ = some (.int .i64 r0) ∧ Below wi.heap.size wi w') (first | exact ⟨(hb'.cell (by exact hgi)).trans hc1, (hb'.cell (by exact hgi)).trans hc0, hb'⟩ | exact ⟨hc1, hc0, hbw⟩)
                (first
                  | (go_at_call 37; refine (HCALL.out _ (by assumption)).mono ?_; rintro e w' ⟨rfl, hb'⟩))
              have HO2 := hid (HOI.out.later hb')
              have HB2 := hid (HBI.out.trans (hb'.mono HBI.out.size))
              clear hb' hc1 hc0 hx1 hx2 hw1 hbw
              go_wp2
              go_roundw
              case rel => exact ⟨k+1, by omega, by go_num, rfl, rfl, HNO3, HO2, HB2⟩
              case measure => simp [intOf]; omega
            | true =>
              have HNX := hid (HNXT.out (by simpa using hq))
              clear HNOT2 HNXT
              have HEND : Hid ((os ++ [(k : Int)]) ++ firstS dd (baseB back) so k = R) := hid (by rw [← HRO.out, HNX.out]; simp)
              have hjl : os.length ≤ 1099511627776 := by have := HOL.out; omega
              go_wp2
              go_region_held3 (fun w' => w'.cell? ⟨g, so * 10 + k, none⟩ = some (.int .i64 r1) ∧ w'.cell? ⟨g, s * 10 + a, none⟩ = some (.int .i64 r0) ∧ Below wi.heap.size wi w') (first | exact ⟨(hb'.cell (by exact hgi)).trans hc1, (hb'.cell (by exact hgi)).trans hc0, hb'⟩ | exact ⟨hc1, hc0, hbw⟩)
                (first
                  | (go_at_call 37; refine (HCALL.out _ (by assumption)).mono ?_; rintro e w' ⟨rfl, hb'⟩))
              have HO2 := hid (HOI.out.later hb')
              have HB2 := hid (HBI.out.trans (hb'.mono HBI.out.size))
              clear hb' hc1 hc0 hw1 hbw
              rename World => wj
              go_wp2_with (at_builtin; refine wpList_appendI wj rfl _ _ rfl w.heap.size _ _ HO2.out rfl (k : Int) rfl hjl HB2.out.size ?_; intro v' w5 ho' hg5 hb5 _)
              refine ⟨⟨so, k, os ++ [(k : Int)], by omega, hkt, rfl, rfl, HEND, hid (by have := HOL.out; simp; omega), hid ho', hid (HB2.out.trans hb5)⟩, ?_⟩
              show so < s
              exact hless
        · exfalso
          obtain ⟨y, hy, hyb, hye⟩ := firstS_some dd (fun a b => (dd_range a b).1) (base := baseB back) (fun a => (baseB_range back a).1) h0 hs a
          exact HNOT.out y (by omega) hyb hye
end Go.Proofs.Ytgbnoljmmenlbaa
