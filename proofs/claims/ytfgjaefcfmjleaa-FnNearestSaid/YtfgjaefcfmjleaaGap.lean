import Derived.Test.YtfgjaefcfmjleaaFarLists
namespace Go.Proofs.Ytfgjaefcfmjleaa
open Go.RowKit

/-! ## CountFar, GapOf, MendsUpTo, SeesUpTo -/
def cntFarR (xs : List Int) (d : Int) : Int × Bool := if codeB xs && inB d 1 7 then (((pairsL xs (fun n => n == d)).length : Int), true) else (0, false)
theorem cntFarR_code {xs : List Int} {d : Int} (h : codeB xs = false) : cntFarR xs d = (0, false) := by simp [cntFarR, h]
theorem cntFarR_spread {xs : List Int} {d : Int} (h : inB d 1 7 = false) : cntFarR xs d = (0, false) := by simp [cntFarR, h]
theorem cntFarR_yes {xs : List Int} {d : Int} (h : codeB xs = true) (h' : inB d 1 7 = true) : cntFarR xs d = (((pairsL xs (fun n => n == d)).length : Int), true) := by simp [cntFarR, h, h']

theorem closureFar_any (x d : Int) (ad : Addr) (w : World) (h : w.cell? ad = some (.int .i64 d)) :
    Calls Try.prog 142 #[.int .i64 x, .pointer (some ad)] w fun e w' => e = .returned (.bool (x == d)) ∧ w = w' := by
  go_enter Try.func142, Try.ntmps142
  go_wp2
  go_ret
  exact ⟨rfl, rfl⟩
theorem enterFar (args : Array Value) (w : World) : (callFunc 142 args).run Try.prog w = .ok (.enter 142 args) w := by kernel_rfl

set_option maxHeartbeats 1000000 in
theorem implCountFar_any (v1 : Value) (xs : List Int) (d : Int) (w : World) (h1 : Ints w v1 xs) :
    Calls Try.prog 24 #[v1, .int .i64 d] w fun e w' => e = .returned (.tuple #[.int .i64 (cntFarR xs d).1, .bool (cntFarR xs d).2]) ∧ Below w.heap.size w w' := by
  have HX1 := hid (h1.later ((Below.refl _ _).alloc (Nat.le_refl _) (.cells #[.int .i64 d] 3)))
  have HB := hid ((Below.refl w.heap.size w).alloc (Nat.le_refl _) (.cells #[.int .i64 d] 3))
  cases hcode : codeB xs with
  | false =>
    rw [cntFarR_code hcode]
    go_enter Try.func24, Try.ntmps24
    go_wp2_with (go_at_call 31; refine (IsCode_any _ xs _ HX1.out).mono ?_; rintro e w' ⟨rfl, rfl⟩)
    go_ret2
    exact ⟨rfl, HB.out⟩
  | true =>
  cases hsp : inB d 1 7 with
  | false =>
    rw [cntFarR_spread hsp]
    go_enter Try.func24, Try.ntmps24
    go_wp2_with (first | (go_at_call 31; refine (IsCode_any _ xs _ HX1.out).mono ?_; rintro e w' ⟨rfl, rfl⟩) | (go_at_call 141; refine (isSpread_any _ _).mono ?_; rintro e w' ⟨rfl, rfl⟩))
    go_ret2
    exact ⟨rfl, HB.out⟩
  | true =>
  rw [cntFarR_yes hcode hsp]
  have HCELL : Hid ((w.alloc (.cells #[.int .i64 d] 3)).cell? ⟨w.heap.size, 0, none⟩ = some (.int .i64 d)) := hid (by simp [go_sem])
  have hl12 := hid (codeB_true hcode).1
  have hcc := hid (code_cells hcode)
  go_enter Try.func24, Try.ntmps24
  go_wp2_with (first | (go_at_call 31; refine (IsCode_any _ xs _ HX1.out).mono ?_; rintro e w' ⟨rfl, rfl⟩) | (go_at_call 141; refine (isSpread_any _ _).mono ?_; rintro e w' ⟨rfl, rfl⟩))
  refine (pairs_any _ xs _ ⟨w.heap.size, 0, none⟩ (fun n => n == d) _ HX1.out hl12.out.2 hcc.out enterFar ?_).mono ?_
  · intro w' hb x _ _
    exact closureFar_any x d _ w' ((hb.cell (by simp)).trans HCELL.out)
  rintro e w1 ⟨vp, rfl, ho, hb⟩
  have hlen : ∃ ao cap, vp = .slice ao (pairsL xs (fun n => n == d)).length cap := by obtain ⟨ao, cap, b, o, rfl, _⟩ := ho.two; exact ⟨ao, cap, rfl⟩
  obtain ⟨ao, cap, rfl⟩ := hlen
  have HB2 := hid (HB.out.trans (hb.mono HB.out.size))
  clear ho hb
  go_wp2
  go_ret2
  exact ⟨rfl, HB2.out⟩

set_option maxHeartbeats 2000000 in
theorem specCountFar_any (v1 : Value) (xs : List Int) (d : Int) (w : World) (h1 : Ints w v1 xs) :
    Calls Try.prog 25 #[v1, .int .i64 d] w fun e w' => e = .returned (.tuple #[.int .i64 (cntFarR xs d).1, .bool (cntFarR xs d).2]) ∧ Below w.heap.size w w' := by
  obtain ⟨n, ao1, cap1, b1, o1, HN, rfl, ha1, hc1, hn1, hm1, HX⟩ := h1.open_
  cases hcode : codeB xs with
  | false =>
    rw [cntFarR_code hcode]
    go_enter Try.func25, Try.ntmps25
    go_wp2_with (go_at_call 132; refine (l5Code_any _ xs _ HX.out).mono ?_; rintro e w' ⟨rfl, m, rfl⟩)
    go_ret2
    exact ⟨rfl, below_drewN (Below.refl _ _) _⟩
  | true =>
  cases hsp : inB d 1 7 with
  | false =>
    rw [cntFarR_spread hsp]
    go_enter Try.func25, Try.ntmps25
    go_wp2_with (first | (go_at_call 132; refine (l5Code_any _ xs _ HX.out).mono ?_; rintro e w' ⟨rfl, m, rfl⟩) | (go_at_call 143; refine (l1In_any _ _ _ _).mono ?_; rintro e w' ⟨rfl, rfl⟩))
    go_ret2
    exact ⟨rfl, below_drewN (Below.refl _ _) _⟩
  | true =>
  have hcols := pairsL_cols xs d
  rw [cntFarR_yes hcode hsp, hcols]
  clear hcols
  have hl12 := (codeB_true hcode).1.2
  rw [HN.out] at hl12
  have HC := hid (code_cells hcode)
  go_enter Try.func25, Try.ntmps25
  go_wp2_with (first | (go_at_call 132; refine (l5Code_any _ xs _ HX.out).mono ?_; rintro e w' ⟨rfl, m, rfl⟩) | (go_at_call 143; refine (l1In_any _ _ _ _).mono ?_; rintro e w' ⟨rfl, rfl⟩))
  go_loopw [6, 7, 8] (fun mm ii _ wr => ∃ i : Nat, i ≤ n ∧ ii = .int .i64 i ∧ mm = .int .i64 (colTo xs d i) ∧ Below w.heap.size w wr) (fun _ ii _ _ => n - (intOf ii).toNat)
  case atStart => exact ⟨0, by omega, rfl, rfl, below_drewN (Below.refl _ _) _⟩
  case round =>
    obtain ⟨i, hi, rfl, rfl, hbel⟩ := hrel
    by_cases hlt : i < n
    · obtain ⟨rfl, hb1⟩ := ha1 (by omega)
      have HC1 := hid hc1
      have hti := colTo_le xs d i
      have hii : i * i ≤ 12 * 12 := Nat.mul_le_mul (by omega) (by omega)
      clear hc1 ha1
      obtain ⟨wo, rfl⟩ : ∃ wo : World, wo = wr := ⟨_, rfl⟩
      go_wp2
      go_loopw [6, 8] (fun mm kk wr => ∃ k : Nat, k ≤ i ∧ kk = .int .i64 k ∧ mm = .int .i64 ((colTo xs d i + colRow xs d i k : Nat) : Int) ∧ Below w.heap.size w wr) (fun _ kk _ => i - (intOf kk).toNat)
      case atStart => exact ⟨0, by omega, rfl, rfl, hbel⟩
      case round =>
        obtain ⟨k, hk, rfl, rfl, hbel2⟩ := hrel
        have htk := colRow_le xs d i k
        clear hbel
        by_cases hkt : k < i
        · have e1 : wr.cell? ⟨b1, o1+i, none⟩ = some (.int .i64 (xs.getD i 0)) := (hbel2.cell (by exact hb1)).trans (HC1.out i (by omega))
          have e2 : wr.cell? ⟨b1, o1+k, none⟩ = some (.int .i64 (xs.getD k 0)) := (hbel2.cell (by exact hb1)).trans (HC1.out k (by omega))
          have hx := HC.out i (by rw [HN.out]; exact hlt)
          have hy := HC.out k (by rw [HN.out]; omega)
          have HYES := hid (colRow_yes (xs := xs) (d := d) (i := i) (k := k))
          have HNO := hid (colRow_no (xs := xs) (d := d) (i := i) (k := k))
          have HFAR := hid (show farAt xs i k = farI (xs.getD i 0) (xs.getD k 0) from rfl)
          generalize xs.getD i 0 = x at e1 hx HFAR
          generalize xs.getD k 0 = y at e2 hy HFAR
          have hi0 : (0 : Int) ≤ i := by omega
          have hi1 : (i : Int) < n := by omega
          have hk0 : (0 : Int) ≤ k := by omega
          have hk1 : (k : Int) < n := by omega
          cases hf : (farI x y == d) with
          | true =>
            go_wp2
            go_quiet ((go_at_call 136; exact Calls.quiet_of_same ((l2Far_any _ _ _ hx hy).mono fun _ _ h => ⟨h.1, h.2.symm⟩)))
            have hs := HYES.out (by rw [HFAR.out]; exact hf)
            have HS := hid hs
            clear hs
            go_wp2
            go_roundw
            case rel => exact ⟨k+1, by omega, by go_num, int_eq (by rw [HS.out]; omega), below_drewN hbel2 _⟩
            case measure => simp [intOf]; omega
          | false =>
            go_wp2
            go_quiet ((go_at_call 136; exact Calls.quiet_of_same ((l2Far_any _ _ _ hx hy).mono fun _ _ h => ⟨h.1, h.2.symm⟩)))
            have hs := HNO.out (by rw [HFAR.out]; exact hf)
            have HS := hid hs
            clear hs
            go_wp2
            go_roundw
            case rel => exact ⟨k+1, by omega, by go_num, int_eq (by rw [HS.out]), below_drewN hbel2 _⟩
            case measure => simp [intOf]; omega
        · go_wp2
          go_roundw
          case rel => exact ⟨i+1, by omega, by go_num, int_eq (by rw [colTo, show k = i by omega]), hbel2⟩
          case measure => simp [intOf]; omega
    · go_wp2
      go_ret2
      exact ⟨by rw [HN.out, show i = n by omega]; rfl, hbel⟩

set_option maxHeartbeats 2000000 in
theorem l5Gap_any (v1 : Value) (xs : List Int) (w : World) (h1 : Ints w v1 xs) (hcode : codeB xs = true) :
    Calls Try.prog 133 #[v1] w fun e w' => e = .returned (.int .i64 (gapF xs)) ∧ Below w.heap.size w w' := by
  obtain ⟨n, ao1, cap1, b1, o1, HN, rfl, ha1, hc1, hn1, hm1, HX⟩ := h1.open_
  have HC := hid (code_cells hcode)
  have HPOS := hid (code_far_pos hcode)
  clear hcode h1
  go_enter Try.func133, Try.ntmps133
  go_wp2
  go_loopw [3, 4, 5, 6] (fun gg ii _ _ wr => ∃ (i : Nat) (g : Int), i ≤ n ∧ ii = .int .i64 i ∧ gg = .int .i64 g ∧ Below w.heap.size w wr ∧ Hid (minTo xs i 0 g)) (fun _ ii _ _ _ => n - (intOf ii).toNat)
  case atStart => exact ⟨0, 0, by omega, rfl, rfl, Below.refl _ _, hid (minTo_start xs)⟩
  case round =>
    obtain ⟨i, g0, hi, rfl, rfl, hbel, HM⟩ := hrel
    by_cases hlt : i < n
    · obtain ⟨rfl, hb1⟩ := ha1 (by omega)
      have HC1 := hid hc1
      clear hc1 ha1
      obtain ⟨wo, rfl⟩ : ∃ wo : World, wo = wr := ⟨_, rfl⟩
      go_wp2
      go_loopw [3, 5, 6] (fun gg kk _ wr => ∃ (k : Nat) (g : Int), k ≤ i ∧ kk = .int .i64 k ∧ gg = .int .i64 g ∧ Below w.heap.size w wr ∧ Hid (minTo xs i k g)) (fun _ kk _ _ => i - (intOf kk).toNat)
      case atStart => exact ⟨0, g0, by omega, rfl, rfl, hbel, HM⟩
      case round =>
        obtain ⟨k, g, hk, rfl, rfl, hbel2, HM2⟩ := hrel
        clear hbel HM
        by_cases hkt : k < i
        · have e1 : wr.cell? ⟨b1, o1+i, none⟩ = some (.int .i64 (xs.getD i 0)) := (hbel2.cell (by exact hb1)).trans (HC1.out i (by omega))
          have e2 : wr.cell? ⟨b1, o1+k, none⟩ = some (.int .i64 (xs.getD k 0)) := (hbel2.cell (by exact hb1)).trans (HC1.out k (by omega))
          have hx := HC.out i (by rw [HN.out]; exact hlt)
          have hy := HC.out k (by rw [HN.out]; omega)
          have HFAR := hid (show farAt xs i k = farI (xs.getD i 0) (xs.getD k 0) from rfl)
          have HP := hid (show ∀ a b, b < a → a ≤ i → 0 < farAt xs a b from fun a b h h' => HPOS.out a b h (by rw [HN.out]; omega))
          generalize xs.getD i 0 = x at e1 hx HFAR
          generalize xs.getD k 0 = y at e2 hy HFAR
          have hi0 : (0 : Int) ≤ i := by omega
          have hi1 : (i : Int) < n := by omega
          have hk0 : (0 : Int) ≤ k := by omega
          have hk1 : (k : Int) < n := by omega
          by_cases hg0 : g = 0
          · have hb : (g == 0) = true := by simpa using hg0
            have HT := hid (minTo_take hkt HM2.out (Or.inl hg0) HP.out)
            clear hg0
            go_wp2
            go_quiet ((go_at_call 136; exact Calls.quiet_of_same ((l2Far_any _ _ _ hx hy).mono fun _ _ h => ⟨h.1, h.2.symm⟩)))
            go_wp2
            go_roundw
            case rel => exact ⟨k+1, farI x y, by omega, by go_num, rfl, below_drewN hbel2 _, hid (by rw [← HFAR.out]; exact HT.out)⟩
            case measure => simp [intOf]; omega
          · have hb : (g == 0) = false := by simpa using hg0
            by_cases hfg : farI x y < g
            · have HT := hid (minTo_take hkt HM2.out (Or.inr (by rw [HFAR.out]; exact hfg)) HP.out)
              clear hg0
              go_wp2
              go_quiet ((go_at_call 136; exact Calls.quiet_of_same ((l2Far_any _ _ _ hx hy).mono fun _ _ h => ⟨h.1, h.2.symm⟩)))
              go_wp2
              go_roundw
              case rel => exact ⟨k+1, farI x y, by omega, by go_num, rfl, below_drewN hbel2 _, hid (by rw [← HFAR.out]; exact HT.out)⟩
              case measure => simp [intOf]; omega
            · have HT := hid (minTo_leave HM2.out hg0 (by rw [HFAR.out]; exact hfg))
              clear hg0
              go_wp2
              go_quiet ((go_at_call 136; exact Calls.quiet_of_same ((l2Far_any _ _ _ hx hy).mono fun _ _ h => ⟨h.1, h.2.symm⟩)))
              go_wp2
              go_roundw
              case rel => exact ⟨k+1, g, by omega, by go_num, rfl, below_drewN hbel2 _, HT⟩
              case measure => simp [intOf]; omega
        · have hki : k = i := by omega
          have HT := hid (minTo_row (i := i) (by have := HM2.out; rw [hki] at this; exact this))
          clear hki
          go_wp2
          go_roundw
          case rel => exact ⟨i+1, g, by omega, by go_num, rfl, hbel2, HT⟩
          case measure => simp [intOf]; omega
    · have hin : i = n := by omega
      have HT := hid (minTo_gap (g := g0) (by have := HM.out; rw [hin, ← HN.out] at this; exact this) HPOS.out)
      clear hin
      go_wp2
      go_ret
      exact ⟨ret_int HT.out, hbel⟩

/-- The number behind a pointer. -/
def ptrInt (w : World) : Value → Nat
  | .pointer (some a) => (intOf ((w.cell? a).getD undef)).toNat
  | _ => 0
theorem ptrInt_at {w : World} {a : Addr} {n : Nat} (h : w.cell? a = some (.int .i64 n)) : ptrInt w (.pointer (some a)) = n := by simp [ptrInt, h, intOf]

theorem closureGap_any (x d : Int) (ad : Addr) (w : World) (h : w.cell? ad = some (.int .i64 d)) :
    Calls Try.prog 220 #[.int .i64 x, .pointer (some ad)] w fun e w' => e = .returned (.bool (x == d)) ∧ w = w' := by
  go_enter Try.func220, Try.ntmps220
  go_wp2
  go_ret
  exact ⟨rfl, rfl⟩
theorem enterGap (args : Array Value) (w : World) : (callFunc 220 args).run Try.prog w = .ok (.enter 220 args) w := by kernel_rfl

set_option maxHeartbeats 2000000 in
theorem gap_any (v1 : Value) (xs : List Int) (w : World) (h1 : Ints w v1 xs) (hcode : codeB xs = true) :
    Calls Try.prog 131 #[v1] w fun e w' => e = .returned (.int .i64 (gapF xs)) ∧ Below w.heap.size w w' := by
  have HX := hid h1
  have hl12 := hid (codeB_true hcode).1
  have hcc := hid (code_cells hcode)
  clear h1 hcode
  go_enter Try.func131, Try.ntmps131
  go_wp2
  go_loopw [3] (fun pp wr => ∃ far b : Nat, 1 ≤ far ∧ far ≤ 8 ∧ pp = .pointer (some ⟨b, 0, none⟩) ∧ w.heap.size ≤ b ∧ b < wr.heap.size ∧ wr.cell? ⟨b, 0, none⟩ = some (.int .i64 far) ∧ wr.frozen? ⟨b, 0, none⟩ = false ∧ Below w.heap.size w wr ∧
    Hid (∀ d, 1 ≤ d → d < far → noPairs xs d)) (fun pp wr => 8 - ptrInt wr pp)
  case atStart => exact ⟨1, w.heap.size, by omega, by omega, rfl, by omega, by simp, by simp [go_sem], by simp [go_sem], (Below.refl _ _).alloc (Nat.le_refl _) _, hid (fun d h1 h2 => by omega)⟩
  case round =>
    obtain ⟨far, b, hf1, hf8, rfl, hwb, hbs, hcell, hfz, hbel, HT⟩ := hrel
    have HPT := hid (ptrInt_at hcell)
    by_cases hlt : far ≤ 7
    · have HI := hid (HX.out.later hbel)
      have HCELL := hid hcell
      have HNO : Hid (noPairs xs far = ((pairsL xs (fun n => n == (far : Int))).length = 0)) := hid rfl
      go_wp2_with fail
      refine (pairs_any _ xs _ ⟨b, 0, none⟩ (fun n => n == (far : Int)) _ HI.out hl12.out.2 hcc.out enterGap ?_).mono ?_
      · intro w' hb x _ _
        exact closureGap_any x far _ w' ((hb.cell (by exact hbs)).trans HCELL.out)
      rintro e w1 ⟨vp, rfl, ho, hb⟩
      obtain ⟨np, hnp⟩ : ∃ np, (pairsL xs (fun n => n == (far : Int))).length = np := ⟨_, rfl⟩
      have hlen : ∃ ao cap, vp = .slice ao np cap := by obtain ⟨ao, cap, b, o, rfl, _⟩ := ho.two; exact ⟨ao, cap, by rw [hnp]⟩
      obtain ⟨ao, cap, rfl⟩ := hlen
      have HNP := hid hnp
      have hcell1 := (hb.cell (p := ⟨b, 0, none⟩) (by exact hbs)).trans hcell
      have hfz1 := (hb.frozen (p := ⟨b, 0, none⟩) (by exact hbs)).trans hfz
      have hbel1 := hbel.trans (hb.mono hbel.size)
      have hbs1 := Nat.lt_of_lt_of_le hbs hb.size
      clear ho hb hcell hfz hbel hbs hnp HCELL HI
      by_cases h0 : np = 0
      · have hz : ¬ (0 : Int) < np := by omega
        have HT' := hid (show ∀ d, 1 ≤ d → d < far + 1 → noPairs xs d from fun d h1 h2 => by
          by_cases e : d = far
          · subst e; rw [HNO.out, HNP.out]; exact h0
          · exact HT.out d h1 (by omega))
        clear h0
        go_wp2
        go_roundw
        case rel => exact ⟨far+1, w1.heap.size, by omega, by omega, rfl, hbel1.size, by simp, by simp [go_sem], by simp [go_sem], hbel1.alloc hbel1.size _, HT'⟩
        case measure => rw [ptrInt_at (n := far+1) (by simp [go_sem]), HPT.out]; omega
      · have hz : (0 : Int) < np := by omega
        have HR := hid (gapF_is hf1 hlt HT.out (by rw [HNO.out, HNP.out]; exact h0))
        clear h0
        go_wp2
        go_ret
        exact ⟨ret_int HR.out.symm, hbel1⟩
    · have hf : far = 8 := by omega
      have HR := hid (gapF_none (xs := xs) (by have := HT.out; rw [hf] at this; exact this))
      clear hf
      go_wp2
      go_ret
      exact ⟨ret_int HR.out.symm, hbel⟩

theorem gap_pos {xs : List Int} (h : codeB xs = true) (hl : xs.length ≠ 1) : 1 ≤ gapF xs := by
  have hlen := (codeB_true h).1
  have hp := code_far_pos h 1 0 (by omega) (by omega)
  have hr := (farI_range (xs.getD 1 0) (xs.getD 0 0)).2
  have hr' : farAt xs 1 0 ≤ 7 := hr
  have h0 := gapF_range xs
  by_cases e : gapF xs = 0
  · exfalso
    have key : ∀ f d, gapGo xs f d = 0 → 1 ≤ d → ∀ j, d ≤ j → j < d + f → noPairs xs j := by
      intro f
      induction f with
      | zero => intro d _ _ j h1 h2; omega
      | succ f ih =>
        intro d hg hd j h1 h2
        rw [gapGo] at hg
        split at hg
        · by_cases ej : j = d
          · subst ej; assumption
          · exact ih (d+1) hg (by omega) j (by omega) (by omega)
        · omega
    have := key 7 1 e (by omega) (farAt xs 1 0).toNat (by omega) (by omega)
    rw [noPairs_iff] at this
    exact this 1 0 (by omega) (by omega) (by omega)
  · omega

def gapR (xs : List Int) : Int × Bool := if codeB xs then (gapF xs, true) else (0, false)
def mendsR (xs : List Int) : Int × Bool := if codeB xs && (xs.length != 1) then ((gapF xs - 1) / 2, true) else (0, false)
def seesR (xs : List Int) : Int × Bool := if codeB xs && (xs.length != 1) then (gapF xs - 1, true) else (0, false)
theorem gapR_no {xs : List Int} (h : codeB xs = false) : gapR xs = (0, false) := by simp [gapR, h]
theorem gapR_yes {xs : List Int} (h : codeB xs = true) : gapR xs = (gapF xs, true) := by simp [gapR, h]
theorem mendsR_no {xs : List Int} (h : codeB xs = false) : mendsR xs = (0, false) := by simp [mendsR, h]
theorem mendsR_one {xs : List Int} (h : xs.length = 1) : mendsR xs = (0, false) := by simp [mendsR, h]
theorem mendsR_yes {xs : List Int} (h : codeB xs = true) (h' : xs.length ≠ 1) : mendsR xs = ((gapF xs - 1) / 2, true) := by simp [mendsR, h, h']
theorem seesR_no {xs : List Int} (h : codeB xs = false) : seesR xs = (0, false) := by simp [seesR, h]
theorem seesR_one {xs : List Int} (h : xs.length = 1) : seesR xs = (0, false) := by simp [seesR, h]
theorem seesR_yes {xs : List Int} (h : codeB xs = true) (h' : xs.length ≠ 1) : seesR xs = (gapF xs - 1, true) := by simp [seesR, h, h']

set_option maxHeartbeats 1000000 in
theorem implGapOf_any (v1 : Value) (xs : List Int) (w : World) (h1 : Ints w v1 xs) :
    Calls Try.prog 11 #[v1] w fun e w' => e = .returned (.tuple #[.int .i64 (gapR xs).1, .bool (gapR xs).2]) ∧ Below w.heap.size w w' := by
  have HX := hid h1
  cases hcode : codeB xs with
  | false =>
    rw [gapR_no hcode]
    go_enter Try.func11, Try.ntmps11
    go_wp2_with (go_at_call 31; refine (IsCode_any _ xs _ HX.out).mono ?_; rintro e w' ⟨rfl, rfl⟩)
    go_ret2
    exact ⟨rfl, Below.refl _ _⟩
  | true =>
    rw [gapR_yes hcode]
    have HCODE := hid hcode
    go_enter Try.func11, Try.ntmps11
    go_wp2_with (first | (go_at_call 31; refine (IsCode_any _ xs _ HX.out).mono ?_; rintro e w' ⟨rfl, rfl⟩) | (go_at_call 131; refine (gap_any _ xs _ HX.out HCODE.out).mono ?_; rintro e w1 ⟨rfl, hb⟩))
    go_ret2
    exact ⟨rfl, hb⟩

set_option maxHeartbeats 1000000 in
theorem specGapOf_any (v1 : Value) (xs : List Int) (w : World) (h1 : Ints w v1 xs) :
    Calls Try.prog 12 #[v1] w fun e w' => e = .returned (.tuple #[.int .i64 (gapR xs).1, .bool (gapR xs).2]) ∧ Below w.heap.size w w' := by
  have HX := hid h1
  cases hcode : codeB xs with
  | false =>
    rw [gapR_no hcode]
    go_enter Try.func12, Try.ntmps12
    go_wp2_with (go_at_call 132; refine (l5Code_any _ xs _ HX.out).mono ?_; rintro e w' ⟨rfl, m, rfl⟩)
    go_ret2
    exact ⟨rfl, below_drewN (Below.refl _ _) _⟩
  | true =>
    rw [gapR_yes hcode]
    have HCODE := hid hcode
    go_enter Try.func12, Try.ntmps12
    go_wp2_with (first | (go_at_call 132; refine (l5Code_any _ xs _ HX.out).mono ?_; rintro e w' ⟨rfl, m, rfl⟩) | (go_at_call 133; refine (l5Gap_any _ xs _ (HX.out.drawn _) HCODE.out).mono ?_; rintro e w1 ⟨rfl, hb⟩))
    go_ret2
    exact ⟨rfl, (below_drewN (Below.refl _ _) m).trans hb⟩

set_option maxHeartbeats 1000000 in
theorem implMendsUpTo_any (v1 : Value) (xs : List Int) (w : World) (h1 : Ints w v1 xs) :
    Calls Try.prog 15 #[v1] w fun e w' => e = .returned (.tuple #[.int .i64 (mendsR xs).1, .bool (mendsR xs).2]) ∧ Below w.heap.size w w' := by
  obtain ⟨n, ao1, cap1, b1, o1, HN, rfl, ha1, hc1, hn1, hm1, HX⟩ := h1.open_
  clear ha1 hc1 h1
  cases hcode : codeB xs with
  | false =>
    rw [mendsR_no hcode]
    go_enter Try.func15, Try.ntmps15
    go_wp2_with (go_at_call 31; refine (IsCode_any _ xs _ HX.out).mono ?_; rintro e w' ⟨rfl, rfl⟩)
    go_ret2
    exact ⟨rfl, Below.refl _ _⟩
  | true =>
  by_cases hl1 : n = 1
  · rw [mendsR_one (by rw [HN.out]; exact hl1)]
    have hb : ((n : Int) == 1) = true := by simp; omega
    clear hl1
    go_enter Try.func15, Try.ntmps15
    go_wp2_with (go_at_call 31; refine (IsCode_any _ xs _ HX.out).mono ?_; rintro e w' ⟨rfl, rfl⟩)
    go_ret2
    exact ⟨rfl, Below.refl _ _⟩
  · rw [mendsR_yes hcode (by rw [HN.out]; exact hl1)]
    have hb : ((n : Int) == 1) = false := by simp; omega
    have hg1 := gap_pos hcode (by rw [HN.out]; exact hl1)
    have hg2 := (gapF_range xs).2
    have HCODE := hid hcode
    go_enter Try.func15, Try.ntmps15
    go_wp2_with (first | (go_at_call 31; refine (IsCode_any _ xs _ HX.out).mono ?_; rintro e w' ⟨rfl, rfl⟩) | (go_at_call 131; refine (gap_any _ xs _ HX.out HCODE.out).mono ?_; rintro e w1 ⟨rfl, hb⟩))
    go_ret2
    exact ⟨rfl, hb⟩

set_option maxHeartbeats 1000000 in
theorem specMendsUpTo_any (v1 : Value) (xs : List Int) (w : World) (h1 : Ints w v1 xs) :
    Calls Try.prog 16 #[v1] w fun e w' => e = .returned (.tuple #[.int .i64 (mendsR xs).1, .bool (mendsR xs).2]) ∧ Below w.heap.size w w' := by
  obtain ⟨n, ao1, cap1, b1, o1, HN, rfl, ha1, hc1, hn1, hm1, HX⟩ := h1.open_
  clear ha1 hc1 h1
  cases hcode : codeB xs with
  | false =>
    rw [mendsR_no hcode]
    go_enter Try.func16, Try.ntmps16
    go_wp2_with (go_at_call 132; refine (l5Code_any _ xs _ HX.out).mono ?_; rintro e w' ⟨rfl, m, rfl⟩)
    go_ret2
    exact ⟨rfl, below_drewN (Below.refl _ _) _⟩
  | true =>
  by_cases hl1 : n = 1
  · rw [mendsR_one (by rw [HN.out]; exact hl1)]
    have hb : ((n : Int) == 1) = true := by simp; omega
    clear hl1
    go_enter Try.func16, Try.ntmps16
    go_wp2_with (go_at_call 132; refine (l5Code_any _ xs _ HX.out).mono ?_; rintro e w' ⟨rfl, m, rfl⟩)
    go_ret2
    exact ⟨rfl, below_drewN (Below.refl _ _) _⟩
  · rw [mendsR_yes hcode (by rw [HN.out]; exact hl1)]
    have hb : ((n : Int) == 1) = false := by simp; omega
    have hg1 := gap_pos hcode (by rw [HN.out]; exact hl1)
    have hg2 := (gapF_range xs).2
    have HCODE := hid hcode
    go_enter Try.func16, Try.ntmps16
    go_wp2_with (first | (go_at_call 132; refine (l5Code_any _ xs _ HX.out).mono ?_; rintro e w' ⟨rfl, m, rfl⟩) | (go_at_call 133; refine (l5Gap_any _ xs _ (HX.out.drawn _) HCODE.out).mono ?_; rintro e w1 ⟨rfl, hb⟩))
    go_ret2
    exact ⟨rfl, (below_drewN (Below.refl _ _) m).trans hb⟩

set_option maxHeartbeats 1000000 in
theorem implSeesUpTo_any (v1 : Value) (xs : List Int) (w : World) (h1 : Ints w v1 xs) :
    Calls Try.prog 17 #[v1] w fun e w' => e = .returned (.tuple #[.int .i64 (seesR xs).1, .bool (seesR xs).2]) ∧ Below w.heap.size w w' := by
  obtain ⟨n, ao1, cap1, b1, o1, HN, rfl, ha1, hc1, hn1, hm1, HX⟩ := h1.open_
  clear ha1 hc1 h1
  cases hcode : codeB xs with
  | false =>
    rw [seesR_no hcode]
    go_enter Try.func17, Try.ntmps17
    go_wp2_with (go_at_call 31; refine (IsCode_any _ xs _ HX.out).mono ?_; rintro e w' ⟨rfl, rfl⟩)
    go_ret2
    exact ⟨rfl, Below.refl _ _⟩
  | true =>
  by_cases hl1 : n = 1
  · rw [seesR_one (by rw [HN.out]; exact hl1)]
    have hb : ((n : Int) == 1) = true := by simp; omega
    clear hl1
    go_enter Try.func17, Try.ntmps17
    go_wp2_with (go_at_call 31; refine (IsCode_any _ xs _ HX.out).mono ?_; rintro e w' ⟨rfl, rfl⟩)
    go_ret2
    exact ⟨rfl, Below.refl _ _⟩
  · rw [seesR_yes hcode (by rw [HN.out]; exact hl1)]
    have hb : ((n : Int) == 1) = false := by simp; omega
    have hg1 := gap_pos hcode (by rw [HN.out]; exact hl1)
    have hg2 := (gapF_range xs).2
    have HCODE := hid hcode
    go_enter Try.func17, Try.ntmps17
    go_wp2_with (first | (go_at_call 31; refine (IsCode_any _ xs _ HX.out).mono ?_; rintro e w' ⟨rfl, rfl⟩) | (go_at_call 131; refine (gap_any _ xs _ HX.out HCODE.out).mono ?_; rintro e w1 ⟨rfl, hb⟩))
    go_ret2
    exact ⟨rfl, hb⟩

set_option maxHeartbeats 1000000 in
theorem specSeesUpTo_any (v1 : Value) (xs : List Int) (w : World) (h1 : Ints w v1 xs) :
    Calls Try.prog 18 #[v1] w fun e w' => e = .returned (.tuple #[.int .i64 (seesR xs).1, .bool (seesR xs).2]) ∧ Below w.heap.size w w' := by
  obtain ⟨n, ao1, cap1, b1, o1, HN, rfl, ha1, hc1, hn1, hm1, HX⟩ := h1.open_
  clear ha1 hc1 h1
  cases hcode : codeB xs with
  | false =>
    rw [seesR_no hcode]
    go_enter Try.func18, Try.ntmps18
    go_wp2_with (go_at_call 132; refine (l5Code_any _ xs _ HX.out).mono ?_; rintro e w' ⟨rfl, m, rfl⟩)
    go_ret2
    exact ⟨rfl, below_drewN (Below.refl _ _) _⟩
  | true =>
  by_cases hl1 : n = 1
  · rw [seesR_one (by rw [HN.out]; exact hl1)]
    have hb : ((n : Int) == 1) = true := by simp; omega
    clear hl1
    go_enter Try.func18, Try.ntmps18
    go_wp2_with (go_at_call 132; refine (l5Code_any _ xs _ HX.out).mono ?_; rintro e w' ⟨rfl, m, rfl⟩)
    go_ret2
    exact ⟨rfl, below_drewN (Below.refl _ _) _⟩
  · rw [seesR_yes hcode (by rw [HN.out]; exact hl1)]
    have hb : ((n : Int) == 1) = false := by simp; omega
    have hg1 := gap_pos hcode (by rw [HN.out]; exact hl1)
    have hg2 := (gapF_range xs).2
    have HCODE := hid hcode
    go_enter Try.func18, Try.ntmps18
    go_wp2_with (first | (go_at_call 132; refine (l5Code_any _ xs _ HX.out).mono ?_; rintro e w' ⟨rfl, m, rfl⟩) | (go_at_call 133; refine (l5Gap_any _ xs _ (HX.out.drawn _) HCODE.out).mono ?_; rintro e w1 ⟨rfl, hb⟩))
    go_ret2
    exact ⟨rfl, (below_drewN (Below.refl _ _) m).trans hb⟩

end Go.Proofs.Ytfgjaefcfmjleaa
