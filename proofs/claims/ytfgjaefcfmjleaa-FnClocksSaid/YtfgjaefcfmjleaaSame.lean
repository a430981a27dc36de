import Derived.Test.YtfgjaefcfmjleaaMirTime
import Derived.Test.YtfgjaefcfmjleaaTimes
import Derived.Deep.RegionWith
namespace Go.Proofs.Ytfgjaefcfmjleaa
open Go.RowKit

/-! ## leadsTo; SameInMirror, SameTurned; WaitForMirror -/
set_option maxHeartbeats 2000000 in
theorem leadsTo_any (f : FuncId) (caps : Array Value) (r : Int × Bool) (t to : Int) (w : World)
    (hcf : ∀ (args : Array Value) (w : World), (callFunc f args).run Try.prog w = .ok (.enter f args) w)
    (hcl : Calls Try.prog f (#[.int .i64 t] ++ caps) w fun e w'' => e = .returned (.tuple #[.int .i64 r.1, .bool r.2]) ∧ Below w.heap.size w w'') :
    Calls Try.prog 189 #[.func (.func f) #[] caps, .int .i64 t, .int .i64 to] w fun e w' => e = .returned (.bool (r.2 && (r.1 == to))) ∧ Below w.heap.size w w' := by
  have HC := hid hcl
  clear hcl
  obtain ⟨a, ok⟩ := r
  cases ok with
  | false =>
    go_enter Try.func189, Try.ntmps189
    go_wp2_with fail
    refine HC.out.mono ?_
    rintro e w1 ⟨rfl, hb⟩
    go_wp2
    go_ret
    exact ⟨rfl, hb⟩
  | true =>
    go_enter Try.func189, Try.ntmps189
    go_wp2_with fail
    refine HC.out.mono ?_
    rintro e w1 ⟨rfl, hb⟩
    go_wp2
    go_ret
    exact ⟨rfl, hb⟩


def sameM (t : Int) : Bool := (mirTime t).2 && ((mirTime t).1 == t)
def sameMR : List Int := timesTo sameM 1440
theorem sameMR_len : sameMR.length ≤ 1048576 := by
  have := timesTo_len sameM 1440
  unfold sameMR
  omega
theorem enterSameInMirror (args : Array Value) (w : World) : (callFunc 190 args).run Try.prog w = .ok (.enter 190 args) w := by kernel_rfl
set_option maxHeartbeats 2000000 in
theorem closureSameInMirror_any (t : Int) (w : World) (h0 : 0 ≤ t) (h1 : t ≤ 1439) :
    Calls Try.prog 190 #[.int .i64 t] w fun e w' => e = .returned (.bool (sameM t)) ∧ Below w.heap.size w w' := by
  have HQ := hid (show sameM t = ((mirR t).2 && ((mirR t).1 == t)) by rw [mirR_yes (inB_mk h0 h1)]; rfl)
  go_enter Try.func190, Try.ntmps190
  go_wp2_with fail
  refine (leadsTo_any 72 #[] (mirR t) t t _ enter_MirrorTime (implMirrorTime_any t _)).mono ?_
  rintro e w1 ⟨rfl, hb⟩
  rw [← HQ.out]
  go_wp2
  go_ret
  exact ⟨rfl, hb⟩
set_option maxHeartbeats 2000000 in
theorem implSameInMirror_any (w : World) :
    Calls Try.prog 85 #[] w fun e w' => ∃ v, e = .returned v ∧ OwnI w' w.heap.size v sameMR ∧ Below w.heap.size w w' := by
  rw [show sameMR = timesTo sameM 1440 from rfl]
  go_enter Try.func85, Try.ntmps85
  go_wp2_with fail
  refine (times_any 190 #[] sameM _ enterSameInMirror ?_).mono ?_
  · intro t ht w' hb
    exact closureSameInMirror_any (t : Int) w' (by omega) (by omega)
  rintro e w1 ⟨v, rfl, ho, hb⟩
  have HO := hid ho
  clear ho
  go_wp2
  go_ret
  exact ⟨_, rfl, HO.out, hb⟩

set_option maxHeartbeats 4000000 in
theorem specSameInMirror_any (w : World) :
    Calls Try.prog 87 #[] w fun e w' => ∃ v, e = .returned v ∧ OwnI w' w.heap.size v sameMR ∧ Below w.heap.size w w' := by
  rw [show sameMR = timesTo sameM 1440 from rfl]
  have HB := hid ((Below.refl w.heap.size w).alloc (Nat.le_refl _) (.cells #[] 3))
  have HO0 := hid (OwnI.lit0 w w.heap.size (Nat.le_refl _))
  obtain ⟨q, hq⟩ : ∃ q : Int → Bool, sameM = q := ⟨_, rfl⟩
  rw [hq]
  have HQ : Hid (∀ t, q t = ((mirTime t).2 && ((mirTime t).1 == t))) := hid (fun t => by rw [← hq]; rfl)
  clear hq
  go_enter Try.func87, Try.ntmps87
  go_wp2
  go_loopw [1, 2, 3, 4] (fun oo tt _ _ wr => ∃ t : Nat, t ≤ 1440 ∧ tt = .int .i64 t ∧ Hid (OwnI wr w.heap.size oo (timesTo q t)) ∧ Below w.heap.size w wr) (fun _ tt _ _ _ => 1440 - (intOf tt).toNat)
  case atStart => exact ⟨0, by omega, rfl, HO0, HB.out⟩
  case round =>
    obtain ⟨t, ht, rfl, HO, hbel⟩ := hrel
    by_cases hlt : t < 1440
    · have HYES := hid (timesTo_yes (q := q) (k := t))
      have HNO := hid (timesTo_no (q := q) (k := t))
      have hl := timesTo_len q t
      have HQT := hid (HQ.out (t : Int))
      have ht0 : (0 : Int) ≤ t := by omega
      have ht1 : (t : Int) ≤ 1439 := by omega
      have ht2 : (t : Int) < 1440 := by omega
      have HC := hid (fun w => l6Mirror_any (t : Int) w ht0 ht1)
      obtain ⟨⟨u, ok⟩, hr⟩ : ∃ r, mirTime (t : Int) = r := ⟨_, rfl⟩
      rw [hr] at HQT HC
      clear hr
      cases ok with
      | false =>
        have HE := hid (HNO.out (by rw [HQT.out]; rfl))
        clear HYES HNO HQT
        go_wp2_with (go_at_call 180; refine (HC.out _).mono ?_; rintro e w1 ⟨rfl, hb⟩; have HO1 := hid (HO.out.later hb); have hbel1 := hbel.trans (hb.mono hbel.size))
        go_roundw
        case rel => exact ⟨t+1, by omega, by go_num, by rw [HE.out]; exact HO1, hbel1⟩
        case measure => simp [intOf]; omega
      | true =>
        cases hut : (u == (t : Int)) with
        | false =>
          have HE := hid (HNO.out (by rw [HQT.out, hut]; rfl))
          clear HYES HNO HQT
          go_wp2_with (go_at_call 180; refine (HC.out _).mono ?_; rintro e w1 ⟨rfl, hb⟩; have HO1 := hid (HO.out.later hb); have hbel1 := hbel.trans (hb.mono hbel.size))
          go_roundw
          case rel => exact ⟨t+1, by omega, by go_num, by rw [HE.out]; exact HO1, hbel1⟩
          case measure => simp [intOf]; omega
        | true =>
          have HE := hid (HYES.out (by rw [HQT.out, hut]; rfl))
          clear HYES HNO HQT
          go_wp2_with fail
          refine (HC.out _).mono ?_
          rintro e w1 ⟨rfl, hb⟩
          have HO1 := hid (HO.out.later hb)
          have hbel1 := hbel.trans (hb.mono hbel.size)
          clear hb hbel HO
          go_wp2_with (at_builtin; refine wpList_appendI w1 rfl _ _ rfl w.heap.size _ _ HO1.out rfl (t : Int) rfl (by omega) hbel1.size ?_; intro v' w2 ho' _ hb' _)
          rw [← HE.out] at ho'
          have HO' := hid ho'
          have hbel' := hbel1.trans hb'
          clear ho' HO1 hb' hbel1
          go_wp2
          go_roundw
          case rel => exact ⟨t+1, by omega, by go_num, HO', hbel'⟩
          case measure => simp [intOf]; omega
    · obtain rfl : t = 1440 := by omega
      go_wp2
      go_ret
      exact ⟨_, rfl, HO.out, hbel⟩


def sameT (t : Int) : Bool := (turTime t).2 && ((turTime t).1 == t)
def sameTR : List Int := timesTo sameT 1440
theorem sameTR_len : sameTR.length ≤ 1048576 := by
  have := timesTo_len sameT 1440
  unfold sameTR
  omega
theorem enterSameTurned (args : Array Value) (w : World) : (callFunc 191 args).run Try.prog w = .ok (.enter 191 args) w := by kernel_rfl
set_option maxHeartbeats 2000000 in
theorem closureSameTurned_any (t : Int) (w : World) (h0 : 0 ≤ t) (h1 : t ≤ 1439) :
    Calls Try.prog 191 #[.int .i64 t] w fun e w' => e = .returned (.bool (sameT t)) ∧ Below w.heap.size w w' := by
  have HQ := hid (show sameT t = ((turR t).2 && ((turR t).1 == t)) by rw [turR_yes (inB_mk h0 h1)]; rfl)
  go_enter Try.func191, Try.ntmps191
  go_wp2_with fail
  refine (leadsTo_any 74 #[] (turR t) t t _ enter_TurnTime (implTurnTime_any t _)).mono ?_
  rintro e w1 ⟨rfl, hb⟩
  rw [← HQ.out]
  go_wp2
  go_ret
  exact ⟨rfl, hb⟩
set_option maxHeartbeats 2000000 in
theorem implSameTurned_any (w : World) :
    Calls Try.prog 90 #[] w fun e w' => ∃ v, e = .returned v ∧ OwnI w' w.heap.size v sameTR ∧ Below w.heap.size w w' := by
  rw [show sameTR = timesTo sameT 1440 from rfl]
  go_enter Try.func90, Try.ntmps90
  go_wp2_with fail
  refine (times_any 191 #[] sameT _ enterSameTurned ?_).mono ?_
  · intro t ht w' hb
    exact closureSameTurned_any (t : Int) w' (by omega) (by omega)
  rintro e w1 ⟨v, rfl, ho, hb⟩
  have HO := hid ho
  clear ho
  go_wp2
  go_ret
  exact ⟨_, rfl, HO.out, hb⟩

set_option maxHeartbeats 4000000 in
theorem specSameTurned_any (w : World) :
    Calls Try.prog 91 #[] w fun e w' => ∃ v, e = .returned v ∧ OwnI w' w.heap.size v sameTR ∧ Below w.heap.size w w' := by
  rw [show sameTR = timesTo sameT 1440 from rfl]
  have HB := hid ((Below.refl w.heap.size w).alloc (Nat.le_refl _) (.cells #[] 3))
  have HO0 := hid (OwnI.lit0 w w.heap.size (Nat.le_refl _))
  obtain ⟨q, hq⟩ : ∃ q : Int → Bool, sameT = q := ⟨_, rfl⟩
  rw [hq]
  have HQ : Hid (∀ t, q t = ((turTime t).2 && ((turTime t).1 == t))) := hid (fun t => by rw [← hq]; rfl)
  clear hq
  go_enter Try.func91, Try.ntmps91
  go_wp2
  go_loopw [1, 2, 3, 4] (fun oo tt _ _ wr => ∃ t : Nat, t ≤ 1440 ∧ tt = .int .i64 t ∧ Hid (OwnI wr w.heap.size oo (timesTo q t)) ∧ Below w.heap.size w wr) (fun _ tt _ _ _ => 1440 - (intOf tt).toNat)
  case atStart => exact ⟨0, by omega, rfl, HO0, HB.out⟩
  case round =>
    obtain ⟨t, ht, rfl, HO, hbel⟩ := hrel
    by_cases hlt : t < 1440
    · have HYES := hid (timesTo_yes (q := q) (k := t))
      have HNO := hid (timesTo_no (q := q) (k := t))
      have hl := timesTo_len q t
      have HQT := hid (HQ.out (t : Int))
      have ht0 : (0 : Int) ≤ t := by omega
      have ht1 : (t : Int) ≤ 1439 := by omega
      have ht2 : (t : Int) < 1440 := by omega
      have HC := hid (fun w => l6Turn_any (t : Int) w ht0 ht1)
      obtain ⟨⟨u, ok⟩, hr⟩ : ∃ r, turTime (t : Int) = r := ⟨_, rfl⟩
      rw [hr] at HQT HC
      clear hr
      cases ok with
      | false =>
        have HE := hid (HNO.out (by rw [HQT.out]; rfl))
        clear HYES HNO HQT
        go_wp2_with (go_at_call 182; refine (HC.out _).mono ?_; rintro e w1 ⟨rfl, hb⟩; have HO1 := hid (HO.out.later hb); have hbel1 := hbel.trans (hb.mono hbel.size))
        go_roundw
        case rel => exact ⟨t+1, by omega, by go_num, by rw [HE.out]; exact HO1, hbel1⟩
        case measure => simp [intOf]; omega
      | true =>
        cases hut : (u == (t : Int)) with
        | false =>
          have HE := hid (HNO.out (by rw [HQT.out, hut]; rfl))
          clear HYES HNO HQT
          go_wp2_with (go_at_call 182; refine (HC.out _).mono ?_; rintro e w1 ⟨rfl, hb⟩; have HO1 := hid (HO.out.later hb); have hbel1 := hbel.trans (hb.mono hbel.size))
          go_roundw
          case rel => exact ⟨t+1, by omega, by go_num, by rw [HE.out]; exact HO1, hbel1⟩
          case measure => simp [intOf]; omega
        | true =>
          have HE := hid (HYES.out (by rw [HQT.out, hut]; rfl))
          clear HYES HNO HQT
          go_wp2_with fail
          refine (HC.out _).mono ?_
          rintro e w1 ⟨rfl, hb⟩
          have HO1 := hid (HO.out.later hb)
          have hbel1 := hbel.trans (hb.mono hbel.size)
          clear hb hbel HO
          go_wp2_with (at_builtin; refine wpList_appendI w1 rfl _ _ rfl w.heap.size _ _ HO1.out rfl (t : Int) rfl (by omega) hbel1.size ?_; intro v' w2 ho' _ hb' _)
          rw [← HE.out] at ho'
          have HO' := hid ho'
          have hbel' := hbel1.trans hb'
          clear ho' HO1 hb' hbel1
          go_wp2
          go_roundw
          case rel => exact ⟨t+1, by omega, by go_num, HO', hbel'⟩
          case measure => simp [intOf]; omega
    · obtain rfl : t = 1440 := by omega
      go_wp2
      go_ret
      exact ⟨_, rfl, HO.out, hbel⟩


def mirAt (t : Int) (i : Nat) : Bool := (mirTime ((t + (i : Int)) % 1440)).2
def waitT (t : Int) : Nat := (List.range 1440).findIdx (mirAt t)
theorem waitT_at {t : Int} {k : Nat} (hk : k < 1440) (h : mirAt t k = true) (hn : ∀ j, j < k → mirAt t j = false) : waitT t = k := by
  unfold waitT
  rw [List.findIdx_eq (by simpa using hk)]
  refine ⟨by simpa using h, fun j hj => ?_⟩
  simpa using hn j hj
theorem mir_midnight : (mirTime 0).2 = true := by decide +kernel
theorem mir_some {t : Int} (h0 : 0 ≤ t) (h1 : t ≤ 1439) : ∃ i, i < 1440 ∧ mirAt t i = true := by
  by_cases e : t = 0
  · subst e
    exact ⟨0, by omega, mir_midnight⟩
  · refine ⟨(1440 - t).toNat, by omega, ?_⟩
    unfold mirAt
    rw [show (t + (((1440 - t).toNat : Nat) : Int)) % 1440 = 0 by omega]
    exact mir_midnight
def waitR (t : Int) : Int × Bool := if timeB t then ((waitT t : Int), true) else (0, false)
theorem waitR_no {t : Int} (h : timeB t = false) : waitR t = (0, false) := by simp [waitR, h]
theorem waitR_yes {t : Int} (h : timeB t = true) : waitR t = ((waitT t : Int), true) := by simp [waitR, h]

set_option maxHeartbeats 4000000 in
theorem implWaitForMirror_any (t : Int) (w : World) :
    Calls Try.prog 80 #[.int .i64 t] w fun e w' => e = .returned (.tuple #[.int .i64 (waitR t).1, .bool (waitR t).2]) ∧ Below w.heap.size w w' := by
  cases hs : timeB t with
  | false =>
    rw [waitR_no hs]
    go_enter Try.func80, Try.ntmps80
    go_wp2_with (go_at_call 165; refine (isTime_any _ _).mono ?_; rintro e w1 ⟨rfl, rfl⟩)
    go_ret2
    exact ⟨rfl, Below.refl _ _⟩
  | true =>
    have ht := timeB_true hs
    have h0 := ht.1
    have h1 := ht.2
    clear ht
    rw [waitR_yes hs]
    obtain ⟨n, hn⟩ : ∃ n, waitT t = n := ⟨_, rfl⟩
    have HAT : Hid (∀ k, k < 1440 → mirAt t k = true → (∀ j, j < k → mirAt t j = false) → k = n) := hid fun k h1 h2 h3 => by rw [← hn]; exact (waitT_at h1 h2 h3).symm
    rw [hn]
    clear hn
    go_enter Try.func80, Try.ntmps80
    go_wp2_with (go_at_call 165; refine (isTime_any _ _).mono ?_; rintro e w1 ⟨rfl, rfl⟩)
    go_loopw [4, 5, 6, 10] (fun _ _ _ ii wr => ∃ k : Nat, k ≤ 1440 ∧ ii = .int .i64 k ∧ Hid (∀ j, j < k → mirAt t j = false) ∧ Below w.heap.size w wr) (fun _ _ _ ii _ => 1440 - (intOf ii).toNat)
    case atStart => exact ⟨0, by omega, rfl, hid (fun j h => absurd h (Nat.not_lt_zero j)), Below.refl _ _⟩
    case round =>
      obtain ⟨k, hk, rfl, HT, hbel⟩ := hrel
      by_cases hlt : k < 1440
      · have hk2 : (k : Int) < 1440 := by omega
        have hm0 : 0 ≤ (t + (k : Int)) % 1440 := by omega
        have hm1 : (t + (k : Int)) % 1440 ≤ 1439 := by omega
        have HM := hid (show mirAt t k = (mirTime ((t + (k : Int)) % 1440)).2 from rfl)
        have HC := hid (fun w => implMirrorTime_any ((t + (k : Int)) % 1440) w)
        rw [mirR_yes (inB_mk hm0 hm1)] at HC
        obtain ⟨⟨u, ok⟩, hr⟩ : ∃ r, mirTime ((t + (k : Int)) % 1440) = r := ⟨_, rfl⟩
        rw [hr] at HM HC
        clear hr
        cases ok with
        | true =>
          have HE := hid (HAT.out k hlt HM.out HT.out)
          clear HM
          go_wp2_with (go_at_call 72; refine (HC.out _).mono ?_; rintro e w1 ⟨rfl, hb⟩)
          go_ret2
          exact ⟨by rw [HE.out]; rfl, hbel.trans (hb.mono hbel.size)⟩
        | false =>
          have HE := hid (show ∀ j, j < k + 1 → mirAt t j = false from fun j hj => by
            by_cases e : j = k
            · subst e; exact HM.out
            · exact HT.out j (by omega))
          clear HM
          go_wp2_with (go_at_call 72; refine (HC.out _).mono ?_; rintro e w1 ⟨rfl, hb⟩)
          go_roundw
          case rel => exact ⟨k+1, by omega, by go_num, HE, hbel.trans (hb.mono hbel.size)⟩
          case measure => simp [intOf]; omega
      · exfalso
        obtain ⟨i, hi, hi2⟩ := mir_some h0 h1
        have := HT.out i (by omega)
        rw [this] at hi2
        cases hi2

set_option maxHeartbeats 4000000 in
theorem specWaitForMirror_any (t : Int) (w : World) :
    Calls Try.prog 81 #[.int .i64 t] w fun e w' => e = .returned (.tuple #[.int .i64 (waitR t).1, .bool (waitR t).2]) ∧ Below w.heap.size w w' := by
  cases hs : timeB t with
  | false =>
    rw [waitR_no hs]
    go_enter Try.func81, Try.ntmps81
    go_wp2_with (go_at_call 167; refine (l6Time_any _ _).mono ?_; rintro e w1 ⟨rfl, rfl⟩)
    go_ret2
    exact ⟨rfl, Below.refl _ _⟩
  | true =>
    have ht := timeB_true hs
    have h0 := ht.1
    have h1 := ht.2
    clear ht
    rw [waitR_yes hs]
    obtain ⟨n, hn⟩ : ∃ n, waitT t = n := ⟨_, rfl⟩
    have HAT : Hid (∀ k, k < 1440 → mirAt t k = true → (∀ j, j < k → mirAt t j = false) → k = n) := hid fun k h1 h2 h3 => by rw [← hn]; exact (waitT_at h1 h2 h3).symm
    rw [hn]
    clear hn
    have HSOME := hid (mir_some h0 h1)
    go_enter Try.func81, Try.ntmps81
    go_wp2_with (go_at_call 167; refine (l6Time_any _ _).mono ?_; rintro e w1 ⟨rfl, rfl⟩)
    go_loopw [4, 5, 6] (fun ii _ _ wr => ∃ k : Nat, k < 1440 ∧ ii = .int .i64 k ∧ Hid (∀ j, j < k → mirAt t j = false) ∧ Below w.heap.size w wr) (fun ii _ _ _ => 1440 - (intOf ii).toNat)
    case atStart => exact ⟨0, by omega, rfl, hid (fun j h => absurd h (Nat.not_lt_zero j)), Below.refl _ _⟩
    case round =>
      obtain ⟨k, hlt, rfl, HT, hbel⟩ := hrel
      have hk2 : (k : Int) < 1440 := by omega
      have hm0 : 0 ≤ (t + (k : Int)) % 1440 := by omega
      have hm1 : (t + (k : Int)) % 1440 ≤ 1439 := by omega
      have HM := hid (show mirAt t k = (mirTime ((t + (k : Int)) % 1440)).2 from rfl)
      have HC := hid (fun w => l6Mirror_any ((t + (k : Int)) % 1440) w hm0 hm1)
      obtain ⟨⟨u, ok⟩, hr⟩ : ∃ r, mirTime ((t + (k : Int)) % 1440) = r := ⟨_, rfl⟩
      rw [hr] at HM HC
      clear hr
      cases ok with
      | true =>
        have HE := hid (HAT.out k hlt HM.out HT.out)
        clear HM
        go_wp2_with (go_at_call 180; refine (HC.out _).mono ?_; rintro e w1 ⟨rfl, hb⟩)
        go_ret2
        exact ⟨by rw [HE.out]; rfl, hbel.trans (hb.mono hbel.size)⟩
      | false =>
        have HE := hid (show ∀ j, j < k + 1 → mirAt t j = false from fun j hj => by
          by_cases e : j = k
          · subst e; exact HM.out
          · exact HT.out j (by omega))
        have hk1 : k + 1 < 1440 := by
          obtain ⟨i, hi, hi2⟩ := HSOME.out
          by_cases e : i < k + 1
          · rw [HE.out i e] at hi2
            cases hi2
          · omega
        clear HM
        go_wp2_with (go_at_call 180; refine (HC.out _).mono ?_; rintro e w1 ⟨rfl, hb⟩)
        go_roundw
        case rel => exact ⟨k+1, hk1, by go_num, HE, hbel.trans (hb.mono hbel.size)⟩
        case measure => simp [intOf]; omega

end Go.Proofs.Ytfgjaefcfmjleaa
