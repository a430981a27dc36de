import Derived.Test.YtfgjaefcfmjleaaSpreadLaw
import Derived.Test.YtfgjaefcfmjleaaCode
import Derived.Test.YtfgjaefcfmjleaaClone
import Derived.Deep.QuietTactic
import Derived.BigQuiet
import Derived.IntWalk
namespace Go.Proofs.Ytfgjaefcfmjleaa
open Go.RowKit

/-! ## l5Part, l5Spread; the reference's SpreadPart -/
theorem quiet_addl {P : Program} {f : FuncId} {args : Array Value} {w : World} {a n : Nat} {v : Value}
    (h : Calls P f args (w.drewN (a + n)) fun e w' => e = .returned v ∧ w.drewN (a + n) = w') :
    Calls P f args (w.drewN (a + n)) fun e w'' => e = .returned v ∧ ∃ m, w'' = w.drewN (a + m) :=
  h.mono fun _ _ ⟨he, hm⟩ => ⟨he, n, hm.symm⟩
theorem bit_nat {s k : Nat} (h : s < 4611686018427387904) : (bits .and .i64 ((s : Int) / 2 ^ k) 1 == 1) = s.testBit k := by
  have hd : (s : Int) / 2 ^ k = ((s / 2 ^ k : Nat) : Int) := by simp
  have hlt : s / 2 ^ k < 4611686018427387904 := Nat.lt_of_le_of_lt (Nat.div_le_self _ _) h
  rw [hd, Nat.testBit_eq_decide_div_mod_eq]
  generalize s / 2 ^ k = a at hlt
  have e1 : (BitVec.ofInt 64 (a : Int)) = BitVec.ofNat 64 a := by simp
  have e : bits .and .i64 (a : Int) 1 = ((a % 2 : Nat) : Int) := by
    show IntKind.i64.wrap (((BitVec.ofInt 64 (a : Int)) &&& (BitVec.ofInt 64 1)).toNat : Int) = _
    rw [e1, BitVec.toNat_and, BitVec.toNat_ofNat, Nat.mod_eq_of_lt (by omega)]
    rw [show (BitVec.ofInt 64 1).toNat = 1 from rfl, Nat.and_one_is_mod]
    exact IntWalk.i64_in _ (by omega)
  rw [e, Bool.eq_iff_iff]
  simp
  omega
theorem partOf_at {n s i : Nat} (h : i < (partOf n s).length) : ∃ p : Nat, (partOf n s).getD i 0 = p ∧ p < n := by
  have hm : (partOf n s).getD i 0 ∈ partOf n s := by
    rw [List.getD_eq_getElem?_getD, List.getElem?_eq_getElem h]
    exact List.getElem_mem h
  unfold partOf at hm
  obtain ⟨p, hp, he⟩ := List.mem_map.1 hm
  exact ⟨p, he.symm, List.mem_range.1 (List.mem_filter.1 hp).1⟩
/-- The places below i of a set. -/
def partTo (n s i : Nat) : List Int := ((List.range i).filter fun q => s.testBit (n - 1 - q)).map fun q : Nat => (q : Int)
theorem partTo_yes {n s i : Nat} (h : s.testBit (n - 1 - i) = true) : partTo n s (i+1) = partTo n s i ++ [(i : Int)] := by
  unfold partTo
  rw [List.range_succ, List.filter_append, List.map_append]
  simp only [List.filter_cons, h, if_true, List.filter_nil, List.map_cons, List.map_nil]
theorem partTo_no {n s i : Nat} (h : s.testBit (n - 1 - i) = false) : partTo n s (i+1) = partTo n s i := by
  unfold partTo
  rw [List.range_succ, List.filter_append, List.map_append]
  simp only [List.filter_cons, h, Bool.false_eq_true, if_false, List.filter_nil, List.map_nil, List.append_nil]
theorem partTo_len (n s i : Nat) : (partTo n s i).length ≤ i := by
  unfold partTo
  rw [List.length_map]
  exact Nat.le_trans (List.length_filter_le _ _) (by simp)

set_option maxRecDepth 100000 in
set_option maxHeartbeats 4000000 in
theorem l5Part_any (n s : Nat) (w : World) (hn : n ≤ 12) (hs : s ≤ 4096) :
    Calls Try.prog 162 #[.int .i64 n, .int .i64 s] w fun e w' => ∃ v, e = .returned v ∧ OwnI w' w.heap.size v (partOf n s) ∧ Below w.heap.size w w' := by
  rw [show partOf n s = partTo n s n from rfl]
  have HB := hid ((Below.refl w.heap.size w).alloc (Nat.le_refl _) (.cells #[] 3))
  have HO0 := hid (OwnI.lit0 w w.heap.size (Nat.le_refl _))
  go_enter Try.func162, Try.ntmps162
  go_wp2
  go_loopw [5, 6] (fun oo ii wr => ∃ i : Nat, i ≤ n ∧ ii = .int .i64 i ∧ Hid (OwnI wr w.heap.size oo (partTo n s i)) ∧ Hid (Below w.heap.size w wr)) (fun _ ii _ => n - (intOf ii).toNat)
  case atStart => exact ⟨0, by omega, rfl, HO0, HB⟩
  case round =>
    obtain ⟨i, hi, rfl, HO, HBL⟩ := hrel
    clear HO0 HB
    by_cases hlt : i < n
    · have HBIT := hid (bit_nat (s := s) (k := n - 1 - i) (by omega))
      have HYES := hid (partTo_yes (n := n) (s := s) (i := i))
      have HNO := hid (partTo_no (n := n) (s := s) (i := i))
      have hlen : (partTo n s i).length ≤ 1099511627776 := by have := partTo_len n s i; omega
      have hq : (n : Int) - 1 - i = ((n - 1 - i : Nat) : Int) := by omega
      have hltI : (i : Int) < n := by omega
      have hs0 : (0 : Int) ≤ s := by omega
      generalize n - 1 - i = q at *
      have hq0 : (0 : Int) ≤ q := by omega
      have hq12 : (q : Int) ≤ 12 := by omega
      cases hb : (bits .and .i64 ((s : Int) / 2 ^ q) 1 == 1) with
      | true =>
        have HE := hid (HYES.out (HBIT.out.symm.trans hb))
        clear HYES HNO HBIT
        go_wp2_with (at_builtin; refine wpList_appendI wr rfl _ _ rfl w.heap.size _ _ HO.out rfl (i : Int) rfl hlen HBL.out.size ?_; intro v' w2 ho' _ hb' _)
        rw [← HE.out] at ho'
        have HO' := hid ho'
        have HB' := hid (HBL.out.trans hb')
        clear ho' HO hb' HBL hq
        go_wp2
        go_roundw
        case rel => exact ⟨i+1, by omega, by go_num, HO', HB'⟩
        case measure => simp [intOf]; omega
      | false =>
        have HE := hid (HNO.out (HBIT.out.symm.trans hb))
        clear HYES HNO HBIT
        go_wp2
        go_roundw
        case rel => exact ⟨i+1, by omega, by go_num, by rw [HE.out]; exact HO, HBL⟩
        case measure => simp [intOf]; omega
    · obtain rfl : i = n := by omega
      go_wp2
      go_ret
      exact ⟨_, rfl, HO.out, HBL.out⟩

theorem spreadB_false {xs : List Int} {d : Int} {pl : List Int} {i k : Nat} (hi : i < pl.length) (hk : k < i) (h : farP xs (pl.getD i 0) (pl.getD k 0) < d) : spreadB xs d pl = false := by
  unfold spreadB
  rw [List.all_eq_false]
  refine ⟨i, List.mem_range.2 hi, ?_⟩
  rw [Bool.not_eq_true, List.all_eq_false]
  exact ⟨k, List.mem_range.2 hk, by simpa using h⟩
theorem spreadB_true {xs : List Int} {d : Int} {pl : List Int} (h : ∀ i, i < pl.length → ∀ k, k < i → d ≤ farP xs (pl.getD i 0) (pl.getD k 0)) : spreadB xs d pl = true := by
  unfold spreadB
  rw [List.all_eq_true]
  intro i hi
  rw [List.all_eq_true]
  intro k hk
  have := h i (List.mem_range.1 hi) k (List.mem_range.1 hk)
  rw [Bool.not_eq_true', decide_eq_false_iff_not]
  omega

set_option maxRecDepth 100000 in
set_option maxHeartbeats 4000000 in
theorem l5Spread_any (v1 v2 : Value) (xs pl : List Int) (d : Int) (w : World) (h1 : Ints w v1 xs) (h2 : Ints w v2 pl) (hcc : ∀ i, i < xs.length → 0 ≤ xs.getD i 0 ∧ xs.getD i 0 ≤ 127) (hpl : ∀ i, i < pl.length → ∃ p : Nat, pl.getD i 0 = p ∧ p < xs.length) (hpl12 : pl.length ≤ 12) :
    Calls Try.prog 163 #[v1, v2, .int .i64 d] w fun e w' => e = .returned (.bool (spreadB xs d pl)) ∧ ∃ m, w' = w.drewN m := by
  obtain ⟨n, ao1, cap1, b1, o1, HN, rfl, ha1, hc1, hn1, hm1, HX⟩ := h1.open_
  obtain ⟨n2, ao2, cap2, b2, o2, HN2, rfl, ha2, hc2, hn2, hm2, HX2⟩ := h2.open_
  have HCC := hid hcc
  have HPL := hid hpl
  have HC1 := hid hc1
  have HA1 := hid ha1
  have HC2 := hid hc2
  have HA2 := hid ha2
  rw [HN2.out] at hpl12
  clear h1 h2 hcc hpl hc1 ha1 hc2 ha2
  go_enter Try.func163, Try.ntmps163
  go_wp2
  go_loopw [7, 8] (fun ii _ wr => ∃ i m : Nat, i ≤ n2 ∧ ii = .int .i64 i ∧ wr = w.drewN m ∧ Hid (∀ q, q < i → ∀ k, k < q → d ≤ farP xs (pl.getD q 0) (pl.getD k 0))) (fun ii _ _ => n2 - (intOf ii).toNat)
  case atStart => exact ⟨0, 0, by omega, rfl, rfl, hid fun q h => absurd h (Nat.not_lt_zero q)⟩
  case round =>
    obtain ⟨i, m, hi, rfl, rfl, HT⟩ := hrel
    by_cases hlt : i < n2
    · obtain ⟨p, hp, hpn⟩ := HPL.out i (by rw [HN2.out]; exact hlt)
      obtain ⟨hae, hbb2⟩ := HA2.out (by omega)
      subst hae
      rw [HN.out] at hpn
      obtain ⟨hae1, hbb1⟩ := HA1.out (by omega)
      subst hae1
      have e1 : w.cell? ⟨b2, o2+i, none⟩ = some (.int .i64 (p : Int)) := by rw [HC2.out i hlt, hp]
      have e2 : w.cell? ⟨b1, o1+p, none⟩ = some (.int .i64 (xs.getD p 0)) := HC1.out p hpn
      have hx := HCC.out p (by rw [HN.out]; exact hpn)
      have HP := hid hp
      have HFP : Hid (∀ (k q : Nat), pl.getD k 0 = q → farP xs (pl.getD i 0) (pl.getD k 0) = farI (xs.getD p 0) (xs.getD q 0)) := hid fun k q hk => by rw [hp, hk]; rfl
      generalize xs.getD p 0 = x at e2 hx HFP
      clear hp
      go_wp2
      go_loopw [8] (fun kk wr => ∃ k m : Nat, k ≤ i ∧ kk = .int .i64 k ∧ wr = w.drewN m ∧ Hid (∀ k', k' < k → d ≤ farP xs (pl.getD i 0) (pl.getD k' 0))) (fun kk _ => i - (intOf kk).toNat)
      case atStart => exact ⟨0, m, by omega, rfl, rfl, hid fun q h => absurd h (Nat.not_lt_zero q)⟩
      case round =>
        obtain ⟨k, m2, hk, rfl, rfl, HT2⟩ := hrel
        by_cases hkt : k < i
        · obtain ⟨q, hq, hqn⟩ := HPL.out k (by rw [HN2.out]; omega)
          rw [HN.out] at hqn
          have e3 : w.cell? ⟨b2, o2+k, none⟩ = some (.int .i64 (q : Int)) := by rw [HC2.out k (by omega), hq]
          have e4 : w.cell? ⟨b1, o1+q, none⟩ = some (.int .i64 (xs.getD q 0)) := HC1.out q hqn
          have hy := HCC.out q (by rw [HN.out]; exact hqn)
          have HF := hid (HFP.out k q hq)
          generalize xs.getD q 0 = y at e4 hy HF
          clear hq
          have hi0 : (0 : Int) ≤ i := by omega
          have hi1 : (i : Int) < n2 := by omega
          have hk0 : (0 : Int) ≤ k := by omega
          have hk1 : (k : Int) < n2 := by omega
          have hp0 : (0 : Int) ≤ p := by omega
          have hp1 : (p : Int) < n := by omega
          have hq0 : (0 : Int) ≤ q := by omega
          have hq1 : (q : Int) < n := by omega
          by_cases hf : farI x y < d
          · have HR := hid (spreadB_false (xs := xs) (d := d) (pl := pl) (i := i) (k := k) (by rw [HN2.out]; exact hlt) hkt (by rw [HF.out]; exact hf))
            go_wp2
            go_quiet ((go_at_call 136; exact quiet_addl (l2Far_any _ _ _ hx hy)))
            go_wp2
            go_ret
            exact ⟨ret_bool HR.out.symm, m2 + nq, by simp⟩
          · have HE := hid (show ∀ k', k' < k + 1 → d ≤ farP xs (pl.getD i 0) (pl.getD k' 0) from fun k' hk' => by
              by_cases e : k' = k
              · subst e; rw [HF.out]; omega
              · exact HT2.out k' (by omega))
            go_wp2
            go_quiet ((go_at_call 136; exact quiet_addl (l2Far_any _ _ _ hx hy)))
            go_wp2
            go_roundw
            case rel => exact ⟨k+1, m2 + nq, by omega, by go_num, by simp, HE⟩
            case measure => simp [intOf]; omega
        · have hki : k = i := by omega
          rw [hki] at HT2
          have HE := hid (show ∀ q, q < i + 1 → ∀ k, k < q → d ≤ farP xs (pl.getD q 0) (pl.getD k 0) from fun q hq => by
            by_cases e : q = i
            · subst e; exact HT2.out
            · exact HT.out q (by omega))
          go_wp2
          go_roundw
          case rel => exact ⟨i+1, m2, by omega, by go_num, rfl, HE⟩
          case measure => simp [intOf]; omega
    · have hin : i = n2 := by omega
      have HR := hid (spreadB_true (xs := xs) (d := d) (pl := pl) (by rw [HN2.out, ← hin]; exact HT.out))
      go_wp2
      go_ret
      exact ⟨ret_bool HR.out.symm, m, rfl⟩

def spreadR (xs : List Int) (d : Int) : List Int × Bool := if codeB xs && inB d 1 7 then (spreadF xs d, true) else ([], false)
theorem spreadR_code {xs : List Int} {d : Int} (h : codeB xs = false) : spreadR xs d = ([], false) := by simp [spreadR, h]
theorem spreadR_in {xs : List Int} {d : Int} (h : inB d 1 7 = false) : spreadR xs d = ([], false) := by simp [spreadR, h]
theorem spreadR_yes {xs : List Int} {d : Int} (h : codeB xs = true) (h' : inB d 1 7 = true) : spreadR xs d = (spreadF xs d, true) := by simp [spreadR, h, h']
theorem code_cells' {xs : List Int} (h : codeB xs = true) : ∀ i, i < xs.length → 0 ≤ xs.getD i 0 ∧ xs.getD i 0 ≤ 127 := fun i hi => cellB_true ((codeB_true h).2.2 i hi).1
theorem spreadR_len (xs : List Int) (d : Int) : (spreadR xs d).1.length ≤ 1048576 := by
  unfold spreadR
  split
  · rename_i h
    simp only [Bool.and_eq_true] at h
    have := (codeB_true h.1).1
    have := spreadF_len xs d
    simp only
    omega
  · simp
theorem pow12 {n : Nat} (h : n ≤ 12) : 2 ^ n ≤ 4096 := Nat.pow_le_pow_right (n := 2) (by omega) h
theorem pow12I {n : Nat} (h : n ≤ 12) : 1 ≤ (2 : Int) ^ n ∧ (2 : Int) ^ n ≤ 4096 := by
  have h1 := pow12 h
  have h2 := Nat.two_pow_pos n
  have h3 : ((2 ^ n : Nat) : Int) = (2 : Int) ^ n := by simp
  omega

set_option maxRecDepth 100000 in
set_option maxHeartbeats 4000000 in
theorem specSpreadPart_any (v1 : Value) (xs : List Int) (d : Int) (w : World) (h1 : Ints w v1 xs) :
    Calls Try.prog 46 #[v1, .int .i64 d] w fun e w' => ∃ v, e = .returned (.tuple #[v, .bool (spreadR xs d).2]) ∧ OwnI w' w.heap.size v (spreadR xs d).1 ∧ Below w.heap.size w w' := by
  obtain ⟨n, ao1, cap1, b1, o1, HN, rfl, ha1, hc1, hn1, hm1, HX⟩ := h1.open_
  clear h1 ha1 hc1
  cases hcode : codeB xs with
  | false =>
    rw [spreadR_code hcode]
    go_enter Try.func46, Try.ntmps46
    go_wp2_with (go_at_call 132; refine (l5Code_any _ xs _ HX.out).mono ?_; rintro e w' ⟨rfl, m, rfl⟩)
    go_ret2
    exact ⟨_, rfl, OwnI.lit0 _ _ (Nat.le_refl _), below_drewN ((Below.refl _ _).alloc (Nat.le_refl _) _) _⟩
  | true =>
  cases hin : inB d 1 7 with
  | false =>
    rw [spreadR_in hin]
    go_enter Try.func46, Try.ntmps46
    go_wp2_with (first | (go_at_call 132; refine (l5Code_any _ xs _ HX.out).mono ?_; rintro e w' ⟨rfl, m, rfl⟩) | (go_at_call 143; refine (l1In_any _ _ _ _).mono ?_; rintro e w' ⟨rfl, rfl⟩))
    go_ret2
    exact ⟨_, rfl, OwnI.lit0 _ _ (Nat.le_refl _), below_drewN ((Below.refl _ _).alloc (Nat.le_refl _) _) _⟩
  | true =>
  rw [spreadR_yes hcode hin]
  have hlen12 := (codeB_true hcode).1
  have HCC := hid (code_cells' hcode)
  have HSETS := hid (spreadF_sets xs d)
  obtain ⟨R, hR⟩ : ∃ R, spreadF xs d = R := ⟨_, rfl⟩
  rw [hR] at HSETS ⊢
  clear hR
  rw [HN.out] at hlen12 HSETS
  have hp := pow12 (n := n) hlen12.2
  have hpI := pow12I (n := n) hlen12.2
  have HPC : Hid (((2 ^ n : Nat) : Int) = (2 : Int) ^ n) := hid (by simp)
  have hp0 := Nat.two_pow_pos n
  obtain ⟨p, hpe⟩ : ∃ p, 2 ^ n = p := ⟨_, rfl⟩
  rw [hpe] at hp hp0 HPC HSETS
  have HPI : Hid ((2 : Int) ^ n - 1 = ((p - 1 : Nat) : Int)) := hid (by rw [← HPC.out]; omega)
  clear hpe
  go_enter Try.func46, Try.ntmps46
  go_wp2_with (first | (go_at_call 132; refine (l5Code_any _ xs _ HX.out).mono ?_; rintro e w' ⟨rfl, m, rfl⟩) | (go_at_call 143; refine (l1In_any _ _ _ _).mono ?_; rintro e w' ⟨rfl, rfl⟩))
  have HO0 := hid (OwnI.lit0 (w.drewN m) w.heap.size (Nat.le_refl _))
  have HB0 : Hid (Below w.heap.size w ((w.drewN m).alloc (.cells #[] 3))) := hid ((below_drewN (Below.refl _ _) m).alloc (Nat.le_refl _) _)
  go_loopw [6, 7, 8] (fun oo ss _ wr => ∃ (s : Nat) (bl : List Int) (q : Nat), s ≤ p - 1 ∧ ss = .int .i64 s ∧ q ≤ 12 ∧ Hid (bl.length = q) ∧ (∃ ao cap, oo = .slice ao q cap) ∧ Hid (OwnI wr w.heap.size oo bl) ∧ Hid (fdS xs d n 1 s bl = R) ∧ Hid (Below w.heap.size w wr)) (fun _ ss _ _ => (intOf ss).toNat)
  case atStart => exact ⟨p - 1, [], 0, by omega, int_eq HPI.out, by omega, hid rfl, ⟨_, _, rfl⟩, HO0, HSETS, HB0⟩
  case round =>
    obtain ⟨s, bl, q, hs, rfl, hq12, HQ, ⟨ao, cap, rfl⟩, HO, HF, HB⟩ := hrel
    clear HO0 HB0 HSETS
    have hpartlen := partOf_len n s
    by_cases hs0 : 0 < s
    · obtain ⟨s', hs'⟩ : ∃ s', s = s' + 1 := ⟨s - 1, by omega⟩
      have HST := hid (show fdS xs d n 1 s bl = fdS xs d n 1 s' (pickS xs d bl (partOf n s)) by rw [hs', fdS, show 1 + s' = s' + 1 by omega])
      have HSI : Hid ((s : Int) - 1 = (s' : Int)) := hid (by omega)
      have hss : s' < s := by omega
      have HPL := hid (fun i (hi : i < (partOf n s).length) => partOf_at hi)
      have hs4 : s ≤ 4096 := by omega
      clear hs'
      go_wp2_with fail
      refine (l5Part_any n s _ hlen12.2 hs4).mono ?_
      rintro e w2 ⟨v2, rfl, ho, hb⟩
      have HI2 := hid ho.ints
      have HO2 := hid (ho.mono HB.out.size)
      have HO3 := hid (HO.out.later hb)
      have HB2 := hid (HB.out.trans (hb.mono HB.out.size))
      clear ho hb HO HB
      have HPK := hid (show pickS xs d bl (partOf n s) = if bl.length < (partOf n s).length && spreadB xs d (partOf n s) then partOf n s else bl from rfl)
      rw [HQ.out] at HPK
      generalize partOf n s = pl at *
      obtain ⟨np, ao2, cap2, b2, o2, HNP, rfl, ha2, hc2, hn2, hm2, HX2⟩ := HI2.out.open_
      rw [HNP.out] at hpartlen HPK
      clear ha2 hc2
      by_cases hlong : q < np
      · have hlongI : (q : Int) < np := by omega
        cases hsp : spreadB xs d pl with
        | true =>
          have HE : Hid (fdS xs d n 1 s' pl = R) := hid (by rw [← HF.out, HST.out, HPK.out, hsp, show decide (q < np) = true by simpa using hlong]; rfl)
          go_wp2_with (go_at_call 163; refine (l5Spread_any _ _ xs pl _ _ (HX.out.later HB2.out) HX2.out HCC.out (by intro i hi; obtain ⟨r, h1, h2⟩ := HPL.out i hi; exact ⟨r, h1, by rw [HN.out]; exact h2⟩) (by rw [HNP.out]; omega)).mono ?_; rintro e w3 ⟨rfl, m3, rfl⟩)
          go_roundw
          case rel => exact ⟨s', pl, np, by omega, int_eq HSI.out, by omega, HNP, ⟨_, _, rfl⟩, hid (HO2.out.drawn m3), HE, hid (below_drewN HB2.out m3)⟩
          case measure => simp [intOf]; omega
        | false =>
          have HE : Hid (fdS xs d n 1 s' bl = R) := hid (by rw [← HF.out, HST.out, HPK.out, hsp]; simp)
          go_wp2_with (go_at_call 163; refine (l5Spread_any _ _ xs pl _ _ (HX.out.later HB2.out) HX2.out HCC.out (by intro i hi; obtain ⟨r, h1, h2⟩ := HPL.out i hi; exact ⟨r, h1, by rw [HN.out]; exact h2⟩) (by rw [HNP.out]; omega)).mono ?_; rintro e w3 ⟨rfl, m3, rfl⟩)
          go_roundw
          case rel => exact ⟨s', bl, q, by omega, int_eq HSI.out, by omega, HQ, ⟨_, _, rfl⟩, hid (HO3.out.drawn m3), HE, hid (below_drewN HB2.out m3)⟩
          case measure => simp [intOf]; omega
      · have hlongI : ¬ ((q : Int) < np) := by omega
        have HE : Hid (fdS xs d n 1 s' bl = R) := hid (by rw [← HF.out, HST.out, HPK.out, show decide (q < np) = false by simpa using hlong]; rfl)
        go_wp2
        go_roundw
        case rel => exact ⟨s', bl, q, by omega, int_eq HSI.out, by omega, HQ, ⟨_, _, rfl⟩, HO3, HE, HB2⟩
        case measure => simp [intOf]; omega
    · have hsz : s = 0 := by omega
      subst hsz
      have HE : Hid (bl = R) := hid HF.out
      go_wp2
      go_ret2
      exact ⟨_, rfl, by rw [← HE.out]; exact HO.out, HB.out⟩

end Go.Proofs.Ytfgjaefcfmjleaa
