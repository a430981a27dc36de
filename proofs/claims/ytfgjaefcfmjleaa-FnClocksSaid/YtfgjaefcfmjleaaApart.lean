import Derived.Test.YtfgjaefcfmjleaaSame
import Derived.Test.YtfgjaefcfmjleaaAppP
import Derived.Deep.RegionWith
namespace Go.Proofs.Ytfgjaefcfmjleaa
open Go.RowKit

/-! ## MirrorPairs, ApartInMirror -/
def mpB (t : Int) : Bool := (mirTime t).2 && decide (t < (mirTime t).1)
def mpTo (k : Nat) : List (Int × Int) := ((List.range k).filter fun t : Nat => mpB (t : Int)).map fun t : Nat => ((t : Int), (mirTime (t : Int)).1)
theorem mpTo_yes {k : Nat} (h : mpB (k : Int) = true) : mpTo (k+1) = mpTo k ++ [((k : Int), (mirTime (k : Int)).1)] := by
  unfold mpTo
  rw [List.range_succ, List.filter_append, List.map_append]
  simp only [List.filter_cons, h, if_true, List.filter_nil, List.map_cons, List.map_nil]
theorem mpTo_no {k : Nat} (h : mpB (k : Int) = false) : mpTo (k+1) = mpTo k := by
  unfold mpTo
  rw [List.range_succ, List.filter_append, List.map_append]
  simp only [List.filter_cons, h, Bool.false_eq_true, if_false, List.filter_nil, List.map_nil, List.append_nil]
theorem mpTo_len (k : Nat) : (mpTo k).length ≤ k := by
  unfold mpTo
  rw [List.length_map]
  exact Nat.le_trans (List.length_filter_le _ _) (by simp)
def mpR : List (Int × Int) := mpTo 1440
theorem mpR_len : mpR.length ≤ 1048576 := by
  have := mpTo_len 1440
  unfold mpR
  omega
set_option maxRecDepth 100000 in
set_option maxHeartbeats 4000000 in
theorem implMirrorPairs_any (w : World) :
    Calls Try.prog 86 #[] w fun e w' => ∃ v, e = .returned v ∧ Own2 42 w' w.heap.size v mpR ∧ Below w.heap.size w w' := by
  rw [show mpR = mpTo 1440 from rfl]
  go_enter Try.func86, Try.ntmps86
  go_wp2
  go_loopw [1, 2, 3, 4, 5] (fun oo _ _ _ tt wr => ∃ t : Nat, t ≤ 1440 ∧ tt = .int .i64 t ∧ Hid (Own2 42 wr w.heap.size oo (mpTo t)) ∧ Below w.heap.size w wr) (fun _ _ _ _ tt _ => 1440 - (intOf tt).toNat)
  case atStart => exact ⟨0, by omega, rfl, hid (Own2.nil _ _ _), Below.refl _ _⟩
  case round =>
    obtain ⟨t, ht, rfl, HO, hbel⟩ := hrel
    by_cases hlt : t < 1440
    · have HYES := hid (mpTo_yes (k := t))
      have HNO := hid (mpTo_no (k := t))
      have hl := mpTo_len t
      have HQT := hid (show mpB (t : Int) = ((mirTime (t : Int)).2 && decide ((t : Int) < (mirTime (t : Int)).1)) from rfl)
      have ht0 : (0 : Int) ≤ t := by omega
      have ht1 : (t : Int) ≤ 1439 := by omega
      have ht2 : (t : Int) < 1440 := by omega
      have HC := hid (fun w => implMirrorTime_any (t : Int) w)
      rw [mirR_yes (inB_mk ht0 ht1)] at HC
      obtain ⟨⟨u, ok⟩, hr⟩ : ∃ r, mirTime (t : Int) = r := ⟨_, rfl⟩
      rw [hr] at HQT HC HYES
      clear hr
      cases ok with
      | false =>
        have HE := hid (HNO.out (by rw [HQT.out]; rfl))
        clear HYES HNO HQT
        go_wp2_with (go_at_call 72; refine (HC.out _).mono ?_; rintro e w1 ⟨rfl, hb⟩; have HO1 := hid (HO.out.later hb); have hbel1 := hbel.trans (hb.mono hbel.size))
        go_roundw
        case rel => exact ⟨t+1, by omega, by go_num, by rw [HE.out]; exact HO1, hbel1⟩
        case measure => simp [intOf]; omega
      | true =>
        by_cases hut : (t : Int) < u
        · have HE := hid (HYES.out (by rw [HQT.out]; simpa using hut))
          clear HYES HNO HQT
          go_wp2_with fail
          refine (HC.out _).mono ?_
          rintro e w1 ⟨rfl, hb⟩
          have HO1 := hid (HO.out.later hb)
          have hbel1 := hbel.trans (hb.mono hbel.size)
          clear hb hbel HO
          go_wp2_with (at_builtin; refine wpList_appendP w1 rfl _ _ rfl w.heap.size _ _ HO1.out rfl (t : Int) u rfl (by omega) hbel1.size ?_; intro v' w2 ho' _ hb')
          rw [← HE.out] at ho'
          have HO' := hid ho'
          have hbel' := hbel1.trans hb'
          clear ho' HO1 hb' hbel1
          go_wp2
          go_roundw
          case rel => exact ⟨t+1, by omega, by go_num, HO', hbel'⟩
          case measure => simp [intOf]; omega
        · have HE := hid (HNO.out (by rw [HQT.out]; simpa using hut))
          clear HYES HNO HQT
          go_wp2_with (go_at_call 72; refine (HC.out _).mono ?_; rintro e w1 ⟨rfl, hb⟩; have HO1 := hid (HO.out.later hb); have hbel1 := hbel.trans (hb.mono hbel.size))
          go_roundw
          case rel => exact ⟨t+1, by omega, by go_num, by rw [HE.out]; exact HO1, hbel1⟩
          case measure => simp [intOf]; omega
    · obtain rfl : t = 1440 := by omega
      go_wp2
      go_ret
      exact ⟨_, rfl, HO.out, hbel⟩

set_option maxRecDepth 100000 in
set_option maxHeartbeats 4000000 in
theorem specMirrorPairs_any (w : World) :
    Calls Try.prog 89 #[] w fun e w' => ∃ v, e = .returned v ∧ Own2 42 w' w.heap.size v mpR ∧ Below w.heap.size w w' := by
  rw [show mpR = mpTo 1440 from rfl]
  have HB := hid ((Below.refl w.heap.size w).alloc (Nat.le_refl _) (.cells #[] 42))
  have HO0 := hid (Own2.lit0 42 w w.heap.size (Nat.le_refl _))
  go_enter Try.func89, Try.ntmps89
  go_wp2
  go_loopw [1, 2, 3, 4] (fun oo tt _ _ wr => ∃ t : Nat, t ≤ 1440 ∧ tt = .int .i64 t ∧ Hid (Own2 42 wr w.heap.size oo (mpTo t)) ∧ Below w.heap.size w wr) (fun _ tt _ _ _ => 1440 - (intOf tt).toNat)
  case atStart => exact ⟨0, by omega, rfl, HO0, HB.out⟩
  case round =>
    obtain ⟨t, ht, rfl, HO, hbel⟩ := hrel
    by_cases hlt : t < 1440
    · have HYES := hid (mpTo_yes (k := t))
      have HNO := hid (mpTo_no (k := t))
      have hl := mpTo_len t
      have HQT := hid (show mpB (t : Int) = ((mirTime (t : Int)).2 && decide ((t : Int) < (mirTime (t : Int)).1)) from rfl)
      have ht0 : (0 : Int) ≤ t := by omega
      have ht1 : (t : Int) ≤ 1439 := by omega
      have ht2 : (t : Int) < 1440 := by omega
      have HC := hid (fun w => l6Mirror_any (t : Int) w ht0 ht1)
      obtain ⟨⟨u, ok⟩, hr⟩ : ∃ r, mirTime (t : Int) = r := ⟨_, rfl⟩
      rw [hr] at HQT HC HYES
      clear hr
      cases ok with
      | false =>
        have HE := hid (HNO.out (by rw [HQT.out]; rfl))
        clear HYES HNO HQT
        go_wp2_with (go_at_call 180; refine (HC.out _).mono ?_; rintro e w1 ⟨rfl, hb⟩; have HO1 := hid (HO.out.later hb); have hbel1 := hbel.trans (hb.mono hbel.size))
        go_roundw
        case rel => exact ⟨t+1, by omega, by go_num, by rw [HE.out]; exact HO1, hbel1⟩
        case measure => simp [intOf]; omega
      | true =>
        by_cases hut : (t : Int) < u
        · have HE := hid (HYES.out (by rw [HQT.out]; simpa using hut))
          clear HYES HNO HQT
          go_wp2_with fail
          refine (HC.out _).mono ?_
          rintro e w1 ⟨rfl, hb⟩
          have HO1 := hid (HO.out.later hb)
          have hbel1 := hbel.trans (hb.mono hbel.size)
          clear hb hbel HO
          go_wp2_with (at_builtin; refine wpList_appendP w1 rfl _ _ rfl w.heap.size _ _ HO1.out rfl (t : Int) u rfl (by omega) hbel1.size ?_; intro v' w2 ho' _ hb')
          rw [← HE.out] at ho'
          have HO' := hid ho'
          have hbel' := hbel1.trans hb'
          clear ho' HO1 hb' hbel1
          go_wp2
          go_roundw
          case rel => exact ⟨t+1, by omega, by go_num, HO', hbel'⟩
          case measure => simp [intOf]; omega
        · have HE := hid (HNO.out (by rw [HQT.out]; simpa using hut))
          clear HYES HNO HQT
          go_wp2_with (go_at_call 180; refine (HC.out _).mono ?_; rintro e w1 ⟨rfl, hb⟩; have HO1 := hid (HO.out.later hb); have hbel1 := hbel.trans (hb.mono hbel.size))
          go_roundw
          case rel => exact ⟨t+1, by omega, by go_num, by rw [HE.out]; exact HO1, hbel1⟩
          case measure => simp [intOf]; omega
    · obtain rfl : t = 1440 := by omega
      go_wp2
      go_ret
      exact ⟨_, rfl, HO.out, hbel⟩

def apartB (m t : Int) : Bool := (mirTime t).2 && ((mirTime t).1 == (t + m) % 1440)
def apartR (m : Int) : List Int × Bool := if timeB m then (timesTo (apartB m) 1440, true) else ([], false)
theorem apartR_no {m : Int} (h : timeB m = false) : apartR m = ([], false) := by simp [apartR, h]
theorem apartR_yes {m : Int} (h : timeB m = true) : apartR m = (timesTo (apartB m) 1440, true) := by simp [apartR, h]
theorem apartR_len (m : Int) : (apartR m).1.length ≤ 1048576 := by
  unfold apartR
  split
  · have := timesTo_len (apartB m) 1440
    simp only
    omega
  · simp

theorem enterApart (args : Array Value) (w : World) : (callFunc 188 args).run Try.prog w = .ok (.enter 188 args) w := by kernel_rfl
set_option maxHeartbeats 2000000 in
theorem apartClosure_any (t m : Int) (ad : Addr) (w : World) (h0 : 0 ≤ t) (h1 : t ≤ 1439) (hm0 : 0 ≤ m) (hm1 : m ≤ 1439) (had : w.cell? ad = some (.int .i64 m)) :
    Calls Try.prog 188 #[.int .i64 t, .pointer (some ad)] w fun e w' => e = .returned (.bool (apartB m t)) ∧ Below w.heap.size w w' := by
  have HQ := hid (show apartB m t = ((mirR t).2 && ((mirR t).1 == (t + m) % 1440)) by rw [mirR_yes (inB_mk h0 h1)]; rfl)
  go_enter Try.func188, Try.ntmps188
  go_wp2_with fail
  refine (leadsTo_any 72 #[] (mirR t) t _ _ enter_MirrorTime (implMirrorTime_any t _)).mono ?_
  rintro e w1 ⟨rfl, hb⟩
  rw [← HQ.out]
  go_wp2
  go_ret
  exact ⟨rfl, hb⟩
set_option maxHeartbeats 2000000 in
theorem implApartInMirror_any (m : Int) (w : World) :
    Calls Try.prog 83 #[.int .i64 m] w fun e w' => ∃ v, e = .returned (.tuple #[v, .bool (apartR m).2]) ∧ OwnI w' w.heap.size v (apartR m).1 ∧ Below w.heap.size w w' := by
  have HB := hid ((Below.refl w.heap.size w).alloc (Nat.le_refl _) (.cells #[.int .i64 m] 3))
  have hp : (w.alloc (.cells #[.int .i64 m] 3)).cell? ⟨w.heap.size, 0, none⟩ = some (.int .i64 m) := by simp [go_sem]
  cases hs : timeB m with
  | false =>
    rw [apartR_no hs]
    go_enter Try.func83, Try.ntmps83
    go_wp2_with (go_at_call 165; refine (isTime_any _ _).mono ?_; rintro e w1 ⟨rfl, rfl⟩)
    go_ret2
    exact ⟨_, rfl, OwnI.nil _ _, HB.out⟩
  | true =>
    have hm := timeB_true hs
    rw [apartR_yes hs]
    have HP := hid hp
    have HM := hid hm
    go_enter Try.func83, Try.ntmps83
    go_wp2_with (go_at_call 165; refine (isTime_any _ _).mono ?_; rintro e w1 ⟨rfl, rfl⟩)
    refine (times_any 188 #[.pointer (some ⟨w.heap.size, 0, none⟩)] (apartB m) _ enterApart ?_).mono ?_
    · intro t ht w' hb
      exact apartClosure_any (t : Int) m ⟨w.heap.size, 0, none⟩ w' (by omega) (by omega) HM.out.1 HM.out.2 ((hb.cell (by simp)).trans HP.out)
    · rintro e w1 ⟨v, rfl, ho, hb⟩
      have HO := hid (ho.mono HB.out.size)
      clear ho
      go_wp2
      go_ret2
      exact ⟨_, rfl, HO.out, HB.out.trans (hb.mono HB.out.size)⟩

set_option maxHeartbeats 4000000 in
theorem specApartInMirror_any (m : Int) (w : World) :
    Calls Try.prog 84 #[.int .i64 m] w fun e w' => ∃ v, e = .returned (.tuple #[v, .bool (apartR m).2]) ∧ OwnI w' w.heap.size v (apartR m).1 ∧ Below w.heap.size w w' := by
  have HB := hid ((Below.refl w.heap.size w).alloc (Nat.le_refl _) (.cells #[] 3))
  have HO0 := hid (OwnI.lit0 w w.heap.size (Nat.le_refl _))
  cases hs : timeB m with
  | false =>
    rw [apartR_no hs]
    go_enter Try.func84, Try.ntmps84
    go_wp2_with (go_at_call 167; refine (l6Time_any _ _).mono ?_; rintro e w1 ⟨rfl, rfl⟩)
    go_ret2
    exact ⟨_, rfl, HO0.out, HB.out⟩
  | true =>
    have hm := timeB_true hs
    have hm0 := hm.1
    have hm1 := hm.2
    clear hm
    rw [apartR_yes hs]
    obtain ⟨q, hq⟩ : ∃ q : Int → Bool, apartB m = q := ⟨_, rfl⟩
    rw [hq]
    have HQ : Hid (∀ t, q t = ((mirTime t).2 && ((mirTime t).1 == (t + m) % 1440))) := hid (fun t => by rw [← hq]; rfl)
    clear hq
    go_enter Try.func84, Try.ntmps84
    go_wp2_with (go_at_call 167; refine (l6Time_any _ _).mono ?_; rintro e w1 ⟨rfl, rfl⟩)
    go_loopw [4, 5, 6, 7] (fun oo tt _ _ wr => ∃ t : Nat, t ≤ 1440 ∧ tt = .int .i64 t ∧ Hid (OwnI wr w.heap.size oo (timesTo q t)) ∧ Below w.heap.size w wr) (fun _ tt _ _ _ => 1440 - (intOf tt).toNat)
    case atStart => exact ⟨0, by omega, rfl, HO0, HB.out⟩
    case round =>
      obtain ⟨t, ht, rfl, HO, hbel⟩ := hrel
      by_cases hlt : t < 1440
      · have HYES := hid (timesTo_yes (q := q) (k := t))
        have HNO := hid (timesTo_no (q := q) (k := t))
        have hl := timesTo_len q t
        have HQT := hid (HQ.out (t : Int))
        have ht0 : (0 : Int) ≤ t := by omega
        have ht1 : (t : Int) ≤ 1439 := by omega
        have ht2 : (t : Int) < 1440 := by omega
        have HC := hid (fun w => l6Mirror_any (t : Int) w ht0 ht1)
        obtain ⟨⟨u, ok⟩, hr⟩ : ∃ r, mirTime (t : Int) = r := ⟨_, rfl⟩
        rw [hr] at HQT HC
        clear hr
        cases ok with
        | false =>
          have HE := hid (HNO.out (by rw [HQT.out]; rfl))
          clear HYES HNO HQT
          go_wp2_with (go_at_call 180; refine (HC.out _).mono ?_; rintro e w1 ⟨rfl, hb⟩; have HO1 := hid (HO.out.later hb); have hbel1 := hbel.trans (hb.mono hbel.size))
          go_roundw
          case rel => exact ⟨t+1, by omega, by go_num, by rw [HE.out]; exact HO1, hbel1⟩
          case measure => simp [intOf]; omega
        | true =>
          cases hut : (u == ((t : Int) + m) % 1440) with
          | false =>
            have HE := hid (HNO.out (by rw [HQT.out, hut]; rfl))
            clear HYES HNO HQT
            go_wp2_with (go_at_call 180; refine (HC.out _).mono ?_; rintro e w1 ⟨rfl, hb⟩; have HO1 := hid (HO.out.later hb); have hbel1 := hbel.trans (hb.mono hbel.size))
            go_roundw
            case rel => exact ⟨t+1, by omega, by go_num, by rw [HE.out]; exact HO1, hbel1⟩
            case measure => simp [intOf]; omega
          | true =>
            have HE := hid (HYES.out (by rw [HQT.out, hut]; rfl))
            clear HYES HNO HQT
            go_wp2_with fail
            refine (HC.out _).mono ?_
            rintro e w1 ⟨rfl, hb⟩
            have HO1 := hid (HO.out.later hb)
            have hbel1 := hbel.trans (hb.mono hbel.size)
            clear hb hbel HO
            go_wp2_with (at_builtin; refine wpList_appendI w1 rfl _ _ rfl w.heap.size _ _ HO1.out rfl (t : Int) rfl (by omega) hbel1.size ?_; intro v' w2 ho' _ hb' _)
            rw [← HE.out] at ho'
            have HO' := hid ho'
            have hbel' := hbel1.trans hb'
            clear ho' HO1 hb' hbel1
            go_wp2
            go_roundw
            case rel => exact ⟨t+1, by omega, by go_num, HO', hbel'⟩
            case measure => simp [intOf]; omega
      · obtain rfl : t = 1440 := by omega
        go_wp2
        go_ret2
        exact ⟨_, rfl, HO.out, hbel⟩

end Go.Proofs.Ytfgjaefcfmjleaa
