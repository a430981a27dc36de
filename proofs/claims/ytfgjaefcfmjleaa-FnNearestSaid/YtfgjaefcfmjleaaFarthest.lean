import Derived.Test.YtfgjaefcfmjleaaNear
namespace Go.Proofs.Ytfgjaefcfmjleaa
open Go.RowKit

/-! ## FarthestCell, GreedyCode -/
def farTo (xs : List Int) : Nat → Int × Int
  | 0 => (0, -1)
  | c+1 => if (farTo xs c).2 < nearF xs (c : Int) then ((c : Int), nearF xs (c : Int)) else farTo xs c
def farthestR (xs : List Int) : Int × Int × Bool := if codeB xs then ((farTo xs 128).1, (farTo xs 128).2, true) else (0, 0, false)
theorem farthestR_no {xs : List Int} (h : codeB xs = false) : farthestR xs = (0, 0, false) := by simp [farthestR, h]
theorem farthestR_yes {xs : List Int} (h : codeB xs = true) : farthestR xs = ((farTo xs 128).1, (farTo xs 128).2, true) := by simp [farthestR, h]
theorem farTo_yes {xs : List Int} {c : Nat} (h : (farTo xs c).2 < nearF xs (c : Int)) : farTo xs (c+1) = ((c : Int), nearF xs (c : Int)) := by rw [farTo, if_pos h]
theorem farTo_no {xs : List Int} {c : Nat} (h : ¬ (farTo xs c).2 < nearF xs (c : Int)) : farTo xs (c+1) = farTo xs c := by rw [farTo, if_neg h]
theorem codeCells' {xs : List Int} (h : codeB xs = true) : ∀ i, i < xs.length → 0 ≤ xs.getD i 0 ∧ xs.getD i 0 ≤ 127 := fun i hi => cellB_true ((codeB_true h).2.2 i hi).1

set_option maxRecDepth 100000 in
set_option maxHeartbeats 1000000 in
theorem implFarthestCell_any (v1 : Value) (xs : List Int) (w : World) (h1 : Ints w v1 xs) :
    Calls Try.prog 42 #[v1] w fun e w' => e = .returned (.tuple #[.int .i64 (farthestR xs).1, .int .i64 (farthestR xs).2.1, .bool (farthestR xs).2.2]) ∧ Below w.heap.size w w' := by
  have HX := hid h1
  clear h1
  cases hcode : codeB xs with
  | false =>
    rw [farthestR_no hcode]
    go_enter Try.func42, Try.ntmps42
    go_wp2_with (go_at_call 31; refine (IsCode_any _ xs _ HX.out).mono ?_; rintro e w' ⟨rfl, rfl⟩)
    go_ret3
    exact ⟨rfl, Below.refl _ _⟩
  | true =>
    rw [farthestR_yes hcode]
    have HC := hid (codeCells' hcode)
    go_enter Try.func42, Try.ntmps42
    go_wp2_with (go_at_call 31; refine (IsCode_any _ xs _ HX.out).mono ?_; rintro e w' ⟨rfl, rfl⟩)
    go_loop [5, 6, 7, 8, 12] (fun bb mm _ _ cc => ∃ c : Nat, c ≤ 128 ∧ cc = .int .i64 c ∧ bb = .int .i64 (farTo xs c).1 ∧ mm = .int .i64 (farTo xs c).2) (fun _ _ _ _ cc => 128 - (intOf cc).toNat)
    case atStart => exact ⟨0, by omega, rfl, rfl, rfl⟩
    case round =>
      obtain ⟨c, hc, rfl, rfl, rfl⟩ := hrel
      by_cases hlt : c < 128
      · by_cases hn : (farTo xs c).2 < nearF xs (c : Int)
        · have HS := hid (farTo_yes hn)
          go_wp2_with (go_at_call 154; refine (nearest_any _ xs _ _ HX.out HC.out (by omega)).mono ?_; rintro e w1 ⟨rfl, rfl⟩)
          go_round
          case rel => exact ⟨c+1, by omega, by go_num, by rw [HS.out], by rw [HS.out]⟩
          case measure => simp [intOf]; omega
        · have HS := hid (farTo_no hn)
          go_wp2_with (go_at_call 154; refine (nearest_any _ xs _ _ HX.out HC.out (by omega)).mono ?_; rintro e w1 ⟨rfl, rfl⟩)
          go_round
          case rel => exact ⟨c+1, by omega, by go_num, by rw [HS.out], by rw [HS.out]⟩
          case measure => simp [intOf]; omega
      · go_wp2
        go_ret3
        exact ⟨by rw [show c = 128 by omega]; rfl, Below.refl _ _⟩

set_option maxRecDepth 100000 in
set_option maxHeartbeats 1000000 in
theorem specFarthestCell_any (v1 : Value) (xs : List Int) (w : World) (h1 : Ints w v1 xs) :
    Calls Try.prog 43 #[v1] w fun e w' => e = .returned (.tuple #[.int .i64 (farthestR xs).1, .int .i64 (farthestR xs).2.1, .bool (farthestR xs).2.2]) ∧ Below w.heap.size w w' := by
  have HX := hid h1
  clear h1
  cases hcode : codeB xs with
  | false =>
    rw [farthestR_no hcode]
    go_enter Try.func43, Try.ntmps43
    go_wp2_with (go_at_call 132; refine (l5Code_any _ xs _ HX.out).mono ?_; rintro e w' ⟨rfl, m, rfl⟩)
    go_ret3
    exact ⟨rfl, below_drewN (Below.refl _ _) _⟩
  | true =>
    rw [farthestR_yes hcode]
    have HC := hid (codeCells' hcode)
    have HL : Hid (xs.length ≤ 1048576) := hid (by have := (codeB_true hcode).1; omega)
    go_enter Try.func43, Try.ntmps43
    go_wp2_with (go_at_call 132; refine (l5Code_any _ xs _ HX.out).mono ?_; rintro e w' ⟨rfl, m, rfl⟩)
    go_loopw [5, 6, 7, 8, 9] (fun bb mm cc _ _ wr => ∃ c : Nat, c ≤ 128 ∧ cc = .int .i64 c ∧ bb = .int .i64 (farTo xs c).1 ∧ mm = .int .i64 (farTo xs c).2 ∧ Below w.heap.size w wr) (fun _ _ cc _ _ _ => 128 - (intOf cc).toNat)
    case atStart => exact ⟨0, by omega, rfl, rfl, rfl, below_drewN (Below.refl _ _) _⟩
    case round =>
      obtain ⟨c, hc, rfl, rfl, rfl, hbel⟩ := hrel
      by_cases hlt : c < 128
      · have HI := hid (HX.out.later hbel)
        by_cases hn : (farTo xs c).2 < nearF xs (c : Int)
        · have HS := hid (farTo_yes hn)
          go_wp2_with fail
          refine (l5Nearest_any _ xs _ _ HI.out HL.out HC.out (by omega)).mono ?_
          rintro e w1 ⟨v, rfl, _, hb⟩
          have hbel' := hbel.trans (hb.mono hbel.size)
          clear hb hbel HI
          go_wp2
          go_roundw
          case rel => exact ⟨c+1, by omega, by go_num, by rw [HS.out], by rw [HS.out], hbel'⟩
          case measure => simp [intOf]; omega
        · have HS := hid (farTo_no hn)
          go_wp2_with fail
          refine (l5Nearest_any _ xs _ _ HI.out HL.out HC.out (by omega)).mono ?_
          rintro e w1 ⟨v, rfl, _, hb⟩
          have hbel' := hbel.trans (hb.mono hbel.size)
          clear hb hbel HI
          go_wp2
          go_roundw
          case rel => exact ⟨c+1, by omega, by go_num, by rw [HS.out], by rw [HS.out], hbel'⟩
          case measure => simp [intOf]; omega
      · go_wp2
        go_ret3
        exact ⟨by rw [show c = 128 by omega]; rfl, hbel⟩

/-! ### GreedyCode -/
def greedyTo (d most : Int) : Nat → List Int
  | 0 => []
  | c+1 => if ((greedyTo d most c).length : Int) < most ∧ d ≤ nearF (greedyTo d most c) (c : Int) then greedyTo d most c ++ [(c : Int)] else greedyTo d most c
theorem greedyTo_yes {d most : Int} {c : Nat} (h : ((greedyTo d most c).length : Int) < most) (h' : d ≤ nearF (greedyTo d most c) (c : Int)) : greedyTo d most (c+1) = greedyTo d most c ++ [(c : Int)] := by rw [greedyTo, if_pos ⟨h, h'⟩]
theorem greedyTo_no {d most : Int} {c : Nat} (h' : ¬ d ≤ nearF (greedyTo d most c) (c : Int)) : greedyTo d most (c+1) = greedyTo d most c := by rw [greedyTo, if_neg (fun h => h' h.2)]
theorem greedyTo_full {d most : Int} {c : Nat} (h : ¬ ((greedyTo d most c).length : Int) < most) : ∀ j, greedyTo d most (c+j) = greedyTo d most c := by
  intro j
  induction j with
  | zero => rfl
  | succ j ih => rw [show c + (j+1) = (c+j)+1 by omega, greedyTo, ih, if_neg (fun x => h x.1)]
theorem greedyTo_end {d most : Int} {c : Nat} (hc : c ≤ 128) (h : ¬ ((greedyTo d most c).length : Int) < most) : greedyTo d most 128 = greedyTo d most c := by
  have := greedyTo_full h (128 - c)
  rwa [show c + (128 - c) = 128 by omega] at this
theorem greedyTo_len (d most : Int) (c : Nat) : (greedyTo d most c).length ≤ c := by
  induction c with
  | zero => simp [greedyTo]
  | succ c ih =>
    rw [greedyTo]
    split
    · rw [List.length_append]; simp; omega
    · omega
theorem greedyTo_mem (d most : Int) (c : Nat) : ∀ x ∈ greedyTo d most c, 0 ≤ x ∧ x < c := by
  induction c with
  | zero => intro x hx; simp [greedyTo] at hx
  | succ c ih =>
    intro x hx
    rw [greedyTo] at hx
    split at hx
    · rcases List.mem_append.1 hx with hx | hx
      · have := ih x hx; omega
      · simp only [List.mem_singleton] at hx; omega
    · have := ih x hx; omega
theorem greedyTo_cells (d most : Int) {c : Nat} (hc : c ≤ 128) : ∀ i, i < (greedyTo d most c).length → 0 ≤ (greedyTo d most c).getD i 0 ∧ (greedyTo d most c).getD i 0 ≤ 127 := by
  intro i hi
  have := greedyTo_mem d most c ((greedyTo d most c).getD i 0) (by
    rw [List.getD_eq_getElem?_getD, List.getElem?_eq_getElem hi, Option.getD_some]
    exact List.getElem_mem hi)
  omega
theorem greedyTo_one {d most : Int} (h : inB d 1 7 = true) (h' : inB most 1 12 = true) : greedyTo d most 1 = [0] := by
  have h1 := inB_true h
  have h2 := inB_true h'
  have e : greedyTo d most 1 = greedyTo d most 0 ++ [((0 : Nat) : Int)] := greedyTo_yes (by simp [greedyTo]; omega) (by
    show d ≤ nearF (greedyTo d most 0) _
    rw [show nearF (greedyTo d most 0) ((0 : Nat) : Int) = 8 from rfl]
    omega)
  rw [e]
  rfl
def greedyR (d most : Int) : List Int × Bool := if inB d 1 7 && inB most 1 12 then (greedyTo d most 128, true) else ([], false)
theorem greedyR_d {d most : Int} (h : inB d 1 7 = false) : greedyR d most = ([], false) := by simp [greedyR, h]
theorem greedyR_m {d most : Int} (h : inB most 1 12 = false) : greedyR d most = ([], false) := by simp [greedyR, h]
theorem greedyR_yes {d most : Int} (h : inB d 1 7 = true) (h' : inB most 1 12 = true) : greedyR d most = (greedyTo d most 128, true) := by simp [greedyR, h, h']
theorem greedyR_len (d most : Int) : (greedyR d most).1.length ≤ 1048576 := by
  unfold greedyR
  have := greedyTo_len d most 128
  split
  · simp only; omega
  · simp
theorem OwnI.shapeF {w : World} {B : Nat} {v : Value} {xs : List Int} (h : OwnI w B v xs) : ∃ ao cap, v = .slice ao xs.length cap := by
  obtain ⟨ao, cap, b, o, rfl, _⟩ := h.ints
  exact ⟨ao, cap, rfl⟩
theorem OwnI.lit1 (w : World) (B : Nat) (hB : B ≤ w.heap.size) (y : Int) : OwnI (w.alloc (.cells #[.int .i64 y] 3)) B (.slice (some ⟨w.heap.size, 0, none⟩) 1 1) [y] :=
  World.ownsRow_lit w #[.int .i64 y] 1 hB (by simp [maxLen]) rfl

set_option maxRecDepth 100000 in
set_option maxHeartbeats 2000000 in
theorem implGreedyCode_any (d most : Int) (w : World) :
    Calls Try.prog 48 #[.int .i64 d, .int .i64 most] w fun e w' => ∃ v, e = .returned (.tuple #[v, .bool (greedyR d most).2]) ∧ OwnI w' w.heap.size v (greedyR d most).1 ∧ Below w.heap.size w w' := by
  cases hd : inB d 1 7 with
  | false =>
    rw [greedyR_d hd]
    go_enter Try.func48, Try.ntmps48
    go_wp2_with (go_at_call 141; refine (isSpread_any _ _).mono ?_; rintro e w' ⟨rfl, rfl⟩)
    go_ret2
    exact ⟨_, rfl, OwnI.nil _ _, Below.refl _ _⟩
  | true =>
  cases hm : inB most 1 12 with
  | false =>
    rw [greedyR_m hm]
    go_enter Try.func48, Try.ntmps48
    go_wp2_with (first | (go_at_call 141; refine (isSpread_any _ _).mono ?_; rintro e w' ⟨rfl, rfl⟩) | (go_at_call 151; refine (within_any _ _ _ _).mono ?_; rintro e w' ⟨rfl, rfl⟩))
    go_ret2
    exact ⟨_, rfl, OwnI.nil _ _, Below.refl _ _⟩
  | true =>
  rw [greedyR_yes hd hm]
  go_enter Try.func48, Try.ntmps48
  go_wp2_with (first | (go_at_call 141; refine (isSpread_any _ _).mono ?_; rintro e w' ⟨rfl, rfl⟩) | (go_at_call 151; refine (within_any _ _ _ _).mono ?_; rintro e w' ⟨rfl, rfl⟩))
  go_loopw [6, 7] (fun oo cc wr => ∃ c : Nat, c ≤ 128 ∧ cc = .int .i64 c ∧ Hid (OwnI wr w.heap.size oo (greedyTo d most c)) ∧ Below w.heap.size w wr) (fun _ cc _ => 128 - (intOf cc).toNat)
  case atStart => exact ⟨0, by omega, rfl, hid (OwnI.nil _ _), Below.refl _ _⟩
  case round =>
    obtain ⟨c, hc, rfl, HO, hbel⟩ := hrel
    obtain ⟨ao, cap, hv⟩ := HO.out.shapeF
    have hlen := greedyTo_len d most c
    have HCELLS := hid (greedyTo_cells d most hc)
    have HYES := hid (greedyTo_yes (d := d) (most := most) (c := c))
    have HNO := hid (greedyTo_no (d := d) (most := most) (c := c))
    have HEND := hid (greedyTo_end (d := d) (most := most) hc)
    generalize hgl : greedyTo d most c = gl at HO hv hlen HCELLS HYES HNO HEND
    have HGL := hid hgl
    clear hgl
    obtain ⟨n, hn⟩ : ∃ n, gl.length = n := ⟨_, rfl⟩
    rw [hn] at hv hlen
    subst hv
    have HN := hid hn
    clear hn
    by_cases hlt : c < 128
    · by_cases hmost : (n : Int) < most
      · by_cases hnear : d ≤ nearF gl (c : Int)
        · have HS := hid (HYES.out (by rw [HN.out]; exact hmost) hnear)
          go_wp2_with (first | (go_at_call 154; refine (nearest_any _ gl _ _ HO.out.ints HCELLS.out (by omega)).mono ?_; rintro e w1 ⟨rfl, rfl⟩) | (at_builtin; refine wpList_appendI wr rfl _ _ rfl w.heap.size _ _ HO.out rfl c rfl (by rw [HN.out]; omega) hbel.size ?_; intro v' w2 ho' _ hb' _))
          rw [← HS.out] at ho'
          have HO' := hid ho'
          have hbel' := hbel.trans hb'
          clear ho' HO hb' hbel
          go_wp2
          go_roundw
          case rel => exact ⟨c+1, by omega, by go_num, HO', hbel'⟩
          case measure => simp [intOf]; omega
        · have HS := hid (HNO.out hnear)
          go_wp2_with (go_at_call 154; refine (nearest_any _ gl _ _ HO.out.ints HCELLS.out (by omega)).mono ?_; rintro e w1 ⟨rfl, rfl⟩)
          go_roundw
          case rel => exact ⟨c+1, by omega, by go_num, by rw [HS.out]; exact HO, hbel⟩
          case measure => simp [intOf]; omega
      · have HS := hid (HEND.out (by rw [HN.out]; exact hmost))
        go_wp2
        go_ret2
        exact ⟨_, rfl, by rw [HS.out]; exact HO.out, hbel⟩
    · go_wp2
      go_ret2
      refine ⟨_, rfl, ?_, hbel⟩
      rw [show (128 : Nat) = c by omega, HGL.out]
      exact HO.out

set_option maxRecDepth 100000 in
set_option maxHeartbeats 2000000 in
theorem specGreedyCode_any (d most : Int) (w : World) :
    Calls Try.prog 49 #[.int .i64 d, .int .i64 most] w fun e w' => ∃ v, e = .returned (.tuple #[v, .bool (greedyR d most).2]) ∧ OwnI w' w.heap.size v (greedyR d most).1 ∧ Below w.heap.size w w' := by
  cases hd : inB d 1 7 with
  | false =>
    rw [greedyR_d hd]
    go_enter Try.func49, Try.ntmps49
    go_wp2_with (go_at_call 143; refine (l1In_any _ _ _ _).mono ?_; rintro e w' ⟨rfl, rfl⟩)
    go_ret2
    exact ⟨_, rfl, OwnI.lit0 _ _ (Nat.le_refl _), (Below.refl _ _).alloc (Nat.le_refl _) _⟩
  | true =>
  cases hm : inB most 1 12 with
  | false =>
    rw [greedyR_m hm]
    go_enter Try.func49, Try.ntmps49
    go_wp2_with (go_at_call 143; refine (l1In_any _ _ _ _).mono ?_; rintro e w' ⟨rfl, rfl⟩)
    go_ret2
    exact ⟨_, rfl, OwnI.lit0 _ _ (Nat.le_refl _), (Below.refl _ _).alloc (Nat.le_refl _) _⟩
  | true =>
  rw [greedyR_yes hd hm]
  have H1 := hid (greedyTo_one hd hm)
  go_enter Try.func49, Try.ntmps49
  go_wp2_with (go_at_call 143; refine (l1In_any _ _ _ _).mono ?_; rintro e w' ⟨rfl, rfl⟩)
  go_loopw [6, 7, 8, 9] (fun oo cc _ _ wr => ∃ c : Nat, c ≤ 128 ∧ cc = .int .i64 c ∧ Hid (OwnI wr w.heap.size oo (greedyTo d most c)) ∧ Below w.heap.size w wr) (fun _ cc _ _ _ => 128 - (intOf cc).toNat)
  case atStart => exact ⟨1, by omega, rfl, hid (by rw [H1.out]; exact OwnI.lit1 _ _ (Nat.le_refl _) 0), (Below.refl _ _).alloc (Nat.le_refl _) _⟩
  case round =>
    obtain ⟨c, hc, rfl, HO, hbel⟩ := hrel
    obtain ⟨ao, cap, hv⟩ := HO.out.shapeF
    have hlen := greedyTo_len d most c
    have HCELLS := hid (greedyTo_cells d most hc)
    have HYES := hid (greedyTo_yes (d := d) (most := most) (c := c))
    have HNO := hid (greedyTo_no (d := d) (most := most) (c := c))
    have HEND := hid (greedyTo_end (d := d) (most := most) hc)
    generalize hgl : greedyTo d most c = gl at HO hv hlen HCELLS HYES HNO HEND
    have HGL := hid hgl
    clear hgl
    obtain ⟨n, hn⟩ : ∃ n, gl.length = n := ⟨_, rfl⟩
    rw [hn] at hv hlen
    subst hv
    have HN := hid hn
    clear hn
    by_cases hlt : c < 128
    · by_cases hmost : (n : Int) < most
      · by_cases hnear : d ≤ nearF gl (c : Int)
        · have HS := hid (HYES.out (by rw [HN.out]; exact hmost) hnear)
          go_wp2_with fail
          refine (l5Nearest_any _ gl _ _ HO.out.ints (by rw [HN.out]; omega) HCELLS.out (by omega)).mono ?_
          rintro e w1 ⟨v, rfl, _, hb⟩
          have HO1 := hid (HO.out.later hb)
          have hbel1 := hbel.trans (hb.mono hbel.size)
          clear hb hbel HO
          go_wp2_with (at_builtin; refine wpList_appendI w1 rfl _ _ rfl w.heap.size _ _ HO1.out rfl c rfl (by rw [HN.out]; omega) hbel1.size ?_; intro v' w2 ho' _ hb' _)
          rw [← HS.out] at ho'
          have HO' := hid ho'
          have hbel' := hbel1.trans hb'
          clear ho' HO1 hb' hbel1
          go_wp2
          go_roundw
          case rel => exact ⟨c+1, by omega, by go_num, HO', hbel'⟩
          case measure => simp [intOf]; omega
        · have HS := hid (HNO.out hnear)
          go_wp2_with fail
          refine (l5Nearest_any _ gl _ _ HO.out.ints (by rw [HN.out]; omega) HCELLS.out (by omega)).mono ?_
          rintro e w1 ⟨v, rfl, _, hb⟩
          have HO1 := hid (HO.out.later hb)
          have hbel1 := hbel.trans (hb.mono hbel.size)
          clear hb hbel HO
          go_wp2
          go_roundw
          case rel => exact ⟨c+1, by omega, by go_num, by rw [HS.out]; exact HO1, hbel1⟩
          case measure => simp [intOf]; omega
      · have HS := hid (HEND.out (by rw [HN.out]; exact hmost))
        go_wp2
        go_ret2
        exact ⟨_, rfl, by rw [HS.out]; exact HO.out, hbel⟩
    · go_wp2
      go_ret2
      refine ⟨_, rfl, ?_, hbel⟩
      rw [show (128 : Nat) = c by omega, HGL.out]
      exact HO.out

end Go.Proofs.Ytfgjaefcfmjleaa
