import Derived.Test.YtepjbcgkjcgfbaaRows
import Derived.Test.YtepjbcgkjcgfbaaTwo
import Derived.WalkKit
import Derived.WalkSpells
import Derived.WalkLawsBesides
import Derived.Deep.QuietTactic
import Derived.BigQuiet
import Derived.Deep.RegionWith
import Derived.Handy
namespace Go.Proofs.Ytepjbcgkjcgfbaa
open Go.RowKit

/-! ## The laws' helpers for []Slot -/
/-- Are two slots one? -/
def eqSl (p q : Int × Int) : Bool := decide (p = q)
def szS (n : Int) (xs : List (Int × Int)) : Int := if n - xs.length < 0 then -1 else n - xs.length

theorem szS_neg {n : Int} {xs : List (Int × Int)} (h : n < xs.length) : szS n xs < 0 := by unfold szS; split <;> omega
theorem szS_nonneg {n : Int} {xs : List (Int × Int)} (h : ¬ n < xs.length) : ¬ szS n xs < 0 := by unfold szS; split <;> omega
theorem szSlotS_any (v1 : Value) (xs : List (Int × Int)) (n : Int) (w : World) (h1 : Two w v1 xs) (hn : 0 ≤ n) (hn' : n ≤ 1048576) :
    Calls Try.prog 28 #[v1, .int .i64 n] w fun e w' => e = .returned (.int .i64 (szS n xs)) ∧ w = w' := by
  obtain ⟨k, ao1, cap1, b1, o1, HN, rfl, ha1, hc1, hn1, hm1, HX⟩ := h1.open_
  clear hc1 ha1
  by_cases hb : n - k < 0
  all_goals
    go_enter Try.func28, Try.ntmps28
    go_wp2
    go_ret
    exact ⟨ret_int (by unfold szS; rw [HN.out]; split <;> omega), rfl⟩

set_option maxHeartbeats 1000000 in
theorem eqSlot_any (a b c d : Int) (w : World) :
    Calls Try.prog 63 #[.agg #[.int .i64 a, .int .i64 b], .agg #[.int .i64 c, .int .i64 d]] w fun e w' => e = .returned (.bool (eqSl (a, b) (c, d))) ∧ Below w.heap.size w w' := by
  by_cases hac : a = c
  · subst hac
    have hb0 : (a != a) = false := by simp
    by_cases hbd : b = d
    · subst hbd
      have hb1 : (b != b) = false := by simp
      go_enter Try.func63, Try.ntmps63
      go_wp2
      go_ret
      exact ⟨ret_bool (by simp [eqSl]), by go_grown⟩
    · have hb1 : (b != d) = true := by simpa using hbd
      go_enter Try.func63, Try.ntmps63
      go_wp2
      go_ret
      exact ⟨ret_bool (by simp [eqSl, hbd]), by go_grown⟩
  · have hb0 : (a != c) = true := by simpa using hac
    go_enter Try.func63, Try.ntmps63
    go_wp2
    go_ret
    exact ⟨ret_bool (by simp [eqSl, hac]), by go_grown⟩

set_option maxHeartbeats 1000000 in
theorem toSlot_any (a b : Int) (w : World) :
    Calls Try.prog 60 #[.agg #[.int .i64 a, .int .i64 b]] w fun e w' => e = .returned (.agg #[.int .i64 a, .int .i64 b]) ∧ Below w.heap.size w w' := by
  go_enter Try.func60, Try.ntmps60
  go_wp2
  refine bodyPost_ret (v := .agg #[.int .i64 a, .int .i64 b]) (by simp [results, Try.results60, go_sem]) rfl ⟨rfl, ?_⟩
  go_grown

theorem infoSlot : (Try.prog.info? 60).map (fun i => (i.zero, i.size, i.bytes)) = some (some (.agg #[.int .i64 0, .int .i64 0]), 2, 16) := by kernel_rfl

theorem made2 {e : TypeId} {w : World} {B g n cap : Nat} (h : w.ownsRow B e 2 (.slice (some ⟨g, 0, none⟩) n cap) n (madeCells (Value.agg #[.int .i64 0, .int .i64 0]).cells (n * 2)).toList) : Own2 e w B (.slice (some ⟨g, 0, none⟩) n cap) (List.replicate n (0, 0)) := by
  unfold Own2
  rw [List.length_replicate]
  have e2 : (madeCells (Value.agg #[.int .i64 0, .int .i64 0]).cells (n * 2)).toList = flat2 (List.replicate n (0, 0)) := by
    apply List.ext_getElem?
    intro i
    have hl : (flat2 (List.replicate n ((0 : Int), (0 : Int)))).length = 2 * n := by rw [length_flat2, List.length_replicate]
    have hz : ∀ j, (List.replicate n ((0 : Int), (0 : Int))).getD j (0, 0) = (0, 0) := fun j => by
      by_cases hj : j < n <;> simp [List.getD, hj]
    by_cases hi : i < n * 2
    · have e3 : (madeCells (Value.agg #[.int .i64 0, .int .i64 0]).cells (n * 2)).toList[i]? = some (.int .i64 0) := by
        simp only [madeCells, Array.getElem?_toList, Array.getElem?_map]
        rcases Nat.mod_two_eq_zero_or_one i with h | h <;> simp [hi, h, Value.cells]
      rw [e3]
      obtain ⟨j, hj⟩ : ∃ j, i = 2 * j ∨ i = 2 * j + 1 := ⟨i / 2, by omega⟩
      have := flat2_get (ps := List.replicate n ((0 : Int), (0 : Int))) (i := j) (by simp; omega)
      rw [hz] at this
      rcases hj with rfl | rfl
      · exact this.1.symm
      · exact this.2.symm
    · rw [List.getElem?_eq_none (by simp [madeCells]; omega), List.getElem?_eq_none (by omega)]
  rw [← e2]
  exact h

theorem set_copy2 {xs : List (Int × Int)} {n k : Nat} {x : Int × Int} (hn : xs.length = n) (h : k < n) (e : xs.getD k (0,0) = x) : (xs.take k ++ List.replicate (n - k) (0, 0)).set k x = xs.take (k+1) ++ List.replicate (n - (k+1)) (0, 0) := by
  subst hn
  rw [List.set_append_right _ _ (by rw [List.length_take]; omega), List.length_take, Nat.min_eq_left (by omega), Nat.sub_self, take_snoc2 h e,
    show xs.length - k = (xs.length - (k+1)) + 1 from by omega, List.replicate_succ, List.set_cons_zero, List.append_assoc]
  rfl

set_option maxHeartbeats 2000000 in
theorem toSlotS_any (v1 : Value) (xs : List (Int × Int)) (w : World) (h1 : Two w v1 xs) (hl : xs.length ≤ 1048576) :
    Calls Try.prog 30 #[v1] w fun e w' => ∃ v, e = .returned v ∧ Own2 60 w' w.heap.size v xs ∧ Below w.heap.size w w' := by
  obtain ⟨n, ao1, cap1, b1, o1, HN, rfl, ha1, hc1, hn1, hm1, HX⟩ := h1.open_
  rw [HN.out] at hl
  obtain ⟨i0, hi, hz0, hz1, hz2⟩ := info_parts infoSlot
  go_enter Try.func30, Try.ntmps30
  go_wp2_with (first | (at_make; refine wpList_make_full _ rfl (.tmp 6) (.tmp 6) 41 rfl w.heap.size 60 i0 (.agg #[.int .i64 0, .int .i64 0]) 2 Try.underlying41 hi hz0 hz1 .i64 .i64 n n n rfl rfl rfl rfl (by rw [hz2]; omega) (by unfold maxLen; omega) (Nat.le_refl _) ?_; intro w1 hown hgrow))
  have HO0 := hid (made2 hown)
  have hb1 := Below.of_grown hgrow
  clear hown hgrow
  go_loopw [4] (fun i wr => ∃ k : Nat, k ≤ n ∧ i = .int .i64 k ∧ Hid (Own2 60 wr w.heap.size (.slice (some ⟨w.heap.size, 0, none⟩) n n) (xs.take k ++ List.replicate (n - k) (0, 0))) ∧ Below w.heap.size w wr) (fun i _ => n - (intOf i).toNat)
  case atStart => exact ⟨0, by omega, rfl, hid (by simpa using HO0.out), hb1⟩
  case round =>
    obtain ⟨k, hk, rfl, HO, hbel⟩ := hrel
    have hlen : (xs.take k ++ List.replicate (n - k) (0, 0)).length = n := by rw [List.length_append, List.length_take, List.length_replicate, HN.out]; omega
    by_cases hlt : k < n
    · obtain ⟨rfl, hb1⟩ := ha1 (by omega)
      have e1 : wr.cell? ⟨b1, o1+k*2, none⟩ = some (.int .i64 (xs.getD k (0,0)).1) := (hbel.cell (by exact hb1)).trans (hc1 k (by omega)).1
      have e2 : wr.cell? ⟨b1, o1+k*2+1, none⟩ = some (.int .i64 (xs.getD k (0,0)).2) := (hbel.cell (by exact hb1)).trans (hc1 k (by omega)).2
      obtain ⟨⟨x1, x2⟩, hx⟩ : ∃ x, xs.getD k (0,0) = x := ⟨_, rfl⟩
      rw [hx] at e1 e2
      have HXX := hid hx
      have hlt' : (k : Int) < n := by omega
      have hlt2 : (0 : Int) ≤ k := by omega
      clear hc1 ha1 hx
      have HLEN := hid hlen
      clear hlen
      go_wp2_with fail
      refine (toSlot_any _ _ _).mono ?_
      rintro e w2 ⟨rfl, hb⟩
      have HO2 := HO.out.later hb
      have hbel2 := hbel.trans (hb.mono hbel.size)
      have hcA := HO2.cell1 HLEN.out hlt
      have hcB := HO2.cell2 HLEN.out hlt
      have hfA := HO2.free HLEN.out (k*2)
      have hfB := HO2.free HLEN.out (k*2+1)
      obtain ⟨hs1, hs2⟩ := HO2.set1 HLEN.out hlt x1 rfl
      obtain ⟨hs3, hs4⟩ := hs1.set2 (by rw [List.length_set]; exact HLEN.out) hlt x2 rfl
      rw [List.set_set, List.getD_eq_getElem?_getD, List.getElem?_set_self (by rw [HLEN.out]; exact hlt), Option.getD_some, set_copy2 HN.out hlt HXX.out] at hs3
      have HS := hid hs3
      have HG := hid ((hbel2.setCell (p := ⟨w.heap.size, k*2, none⟩) (Nat.le_refl _) (.int .i64 x1)).setCell (p := ⟨w.heap.size, k*2+1, none⟩) (Nat.le_refl _) (.int .i64 x2))
      generalize ((xs.take k ++ List.replicate (n - k) (0, 0)).getD k (0,0)).1 = z1 at hcA
      generalize ((xs.take k ++ List.replicate (n - k) (0, 0)).getD k (0,0)).2 = z2 at hcB
      clear hs1 hs2 hs3 hs4 HO HO2 hbel hbel2 hb e1 e2 HLEN
      go_wp2
      go_roundw
      case rel => exact ⟨k+1, by omega, by go_num, HS, HG.out⟩
      case measure => simp [intOf]; omega
    · have hk' : k = n := by omega
      have ho := HO.out
      have e : xs.take k ++ List.replicate (n - k) (0, 0) = xs := by rw [List.take_of_length_le (by rw [HN.out]; omega), hk']; simp
      rw [e] at ho
      have HO2 := hid ho
      clear ho HO hlen e
      go_wp2
      go_ret
      exact ⟨_, rfl, HO2.out, hbel⟩

set_option maxHeartbeats 1000000 in
theorem eqSlotS_any (v1 v2 : Value) (xs ys : List (Int × Int)) (w : World) (h1 : Two w v1 xs) (h2 : Two w v2 ys) :
    Calls Try.prog 32 #[v1, v2] w fun e w' => e = .returned (.bool (decide (xs = ys))) ∧ Below w.heap.size w w' := by
  obtain ⟨n1, ao1, cap1, b1, o1, HN, rfl, ha1, hc1, hn1, hm1, HX⟩ := h1.open_
  obtain ⟨n2, ao2, cap2, b2, o2, HN', rfl, ha2, hc2, hn2, hm2, HX'⟩ := h2.open_
  by_cases hl : n1 = n2
  · subst hl
    have hne : ((n1 : Int) != n1) = false := by simp
    go_enter Try.func32, Try.ntmps32
    go_wp2
    go_loopw [5] (fun i wr => ∃ k : Nat, k ≤ n1 ∧ i = .int .i64 k ∧ Below w.heap.size w wr ∧ Hid (xs.take k = ys.take k)) (fun i _ => n1 - (intOf i).toNat)
    case atStart => exact ⟨0, by omega, rfl, Below.refl _ _, rfl⟩
    case round =>
      obtain ⟨k, hk, rfl, hbel, HT⟩ := hrel
      by_cases hlt : k < n1
      · obtain ⟨rfl, hb1⟩ := ha1 (by omega)
        obtain ⟨rfl, hb2⟩ := ha2 (by omega)
        clear ha1 ha2
        have e1 : wr.cell? ⟨b1, o1+k*2, none⟩ = some (.int .i64 (xs.getD k (0,0)).1) := (hbel.cell (by exact hb1)).trans (hc1 k (by omega)).1
        have e2 : wr.cell? ⟨b1, o1+k*2+1, none⟩ = some (.int .i64 (xs.getD k (0,0)).2) := (hbel.cell (by exact hb1)).trans (hc1 k (by omega)).2
        have e3 : wr.cell? ⟨b2, o2+k*2, none⟩ = some (.int .i64 (ys.getD k (0,0)).1) := (hbel.cell (by exact hb2)).trans (hc2 k (by omega)).1
        have e4 : wr.cell? ⟨b2, o2+k*2+1, none⟩ = some (.int .i64 (ys.getD k (0,0)).2) := (hbel.cell (by exact hb2)).trans (hc2 k (by omega)).2
        have HL : Hid (k < xs.length ∧ k < ys.length) := hid ⟨by rw [HN.out]; exact hlt, by rw [HN'.out]; exact hlt⟩
        obtain ⟨⟨x1, x2⟩, hx⟩ : ∃ x, xs.getD k (0,0) = x := ⟨_, rfl⟩
        obtain ⟨⟨y1, y2⟩, hy⟩ : ∃ y, ys.getD k (0,0) = y := ⟨_, rfl⟩
        rw [hx] at e1 e2
        rw [hy] at e3 e4
        have HXX := hid hx
        have HYY := hid hy
        clear hx hy hc1 hc2
        have hlt' : (k : Int) < n1 := by omega
        have hlt2 : (0 : Int) ≤ k := by omega
        by_cases hxy : (x1, x2) = (y1, y2)
        · have hd : eqSl (x1, x2) (y1, y2) = true := by simpa [eqSl] using hxy
          have HXY := hid hxy
          clear hxy
          go_wp2
          go_region_with (go_at_call 63; refine (eqSlot_any _ _ _ _ _).mono ?_; rintro e w' ⟨rfl, hb⟩)
          all_goals
            have hbel' := (hbel.drew).trans (hb.mono hbel.size)
            clear hb hbel e1 e2 e3 e4
            go_wp2
            go_roundw
            case rel => exact ⟨k+1, by omega, by go_num, hbel', take_ext2 HT.out HL.out.1 HL.out.2 (HXX.out.trans (HXY.out.trans HYY.out.symm))⟩
            case measure => simp [intOf]; omega
        · have hd : eqSl (x1, x2) (y1, y2) = false := by simpa [eqSl] using hxy
          have HXY := hid hxy
          clear hxy
          go_wp2
          go_region_with (go_at_call 63; refine (eqSlot_any _ _ _ _ _).mono ?_; rintro e w' ⟨rfl, hb⟩)
          all_goals
            have hbel' := (hbel.drew).trans (hb.mono hbel.size)
            clear hb hbel e1 e2 e3 e4
            go_wp2
            go_ret
            refine ⟨ret_bool ?_, hbel'⟩
            symm
            rw [decide_eq_false_iff_not]
            rintro rfl
            exact HXY.out (HXX.out.symm.trans HYY.out)
      · go_wp2
        go_ret
        refine ⟨ret_bool ?_, hbel⟩
        symm
        have := HT.out
        rw [List.take_of_length_le (by rw [HN.out]; omega), List.take_of_length_le (by rw [HN'.out]; omega)] at this
        simpa using this
  · have hb : ((n1 : Int) != n2) = true := by simp; omega
    go_enter Try.func32, Try.ntmps32
    go_wp2
    go_ret
    refine ⟨ret_bool ?_, Below.refl _ _⟩
    symm
    simp
    rintro rfl
    exact hl (HN.out.symm.trans HN'.out)

set_option maxHeartbeats 1000000 in
theorem heldSlotS_any (v1 : Value) (q : Int) (n : Nat) (w : World) (h1 : Two w v1 (marks2 q n)) (hq : 0 ≤ q) (hqn : q + 2 * n ≤ 1099511627776) :
    Calls Try.prog 36 #[v1, .int .i64 q] w fun e w' => e = .returned (.int .i64 (q + 2 * n)) ∧ ∃ m, w' = w.drewN m := by
  obtain ⟨ao1, cap1, b1, o1, rfl, ha1, hc1, hn1, hm1⟩ := h1
  rw [length_marks2] at ha1 hc1 hn1 ⊢
  go_enter Try.func36, Try.ntmps36
  go_wp2
  go_loopw [1, 5] (fun kk i wr => ∃ k m : Nat, k ≤ n ∧ i = .int .i64 k ∧ kk = .int .i64 (q + 2 * (k : Int)) ∧ wr = w.drewN m) (fun _ i _ => n - (intOf i).toNat)
  case atStart => exact ⟨0, 0, by omega, rfl, int_eq (by simp), rfl⟩
  case round =>
    obtain ⟨k, m, hk, rfl, rfl, rfl⟩ := hrel
    by_cases hlt : k < n
    · obtain ⟨rfl, hb1⟩ := ha1 (by omega)
      have e1 : w.cell? ⟨b1, o1+k*2, none⟩ = some (.int .i64 (q + 2 * (k : Int))) := by rw [(hc1 k (by omega)).1, getD_marks2 _ _ _ hlt]
      have e2 : w.cell? ⟨b1, o1+k*2+1, none⟩ = some (.int .i64 (q + 2 * (k : Int) + 1)) := by rw [(hc1 k (by omega)).2, getD_marks2 _ _ _ hlt]
      clear hc1 ha1
      have hb : (q + 2 * (k : Int) != q + 2 * (k : Int)) = false := by simp
      have hb' : (q + 2 * (k : Int) + 1 != q + 2 * (k : Int) + 1) = false := by simp
      go_wp2
      go_roundw
      case rel => exact ⟨k+1, _, by omega, by go_num, by go_num, rfl⟩
      case measure => simp [intOf]; omega
    · go_wp2
      go_ret
      exact ⟨ret_int (by omega), _, rfl⟩

set_option maxHeartbeats 1000000 in
theorem markSlotS_any (v1 : Value) (B : Nat) (xs : List (Int × Int)) (q : Int) (w : World) (h1 : Own2 60 w B v1 xs) (hq : 0 ≤ q) (hqn : q + 2 * xs.length ≤ 1099511627776) :
    Calls Try.prog 33 #[v1, .int .i64 q] w fun e w' => e = .returned (.int .i64 (q + 2 * xs.length)) ∧ Own2 60 w' B v1 (marks2 q xs.length) ∧ w.grownBy w' v1.ownBlock := by
  rcases h1.2 with ⟨rfl, hn0⟩ | ⟨g, cap, cur, rfl, hB, hg, hnc, hcm, hcs, htk⟩
  · go_enter Try.func33, Try.ntmps33
    go_wp2
    refine wp_loop_rounds 1 ?_
    rw [rounds_succ]
    go_wp2
    go_ret
    refine ⟨ret_int (by omega), ?_, World.grownBy.refl _ _⟩
    rw [hn0]
    exact World.ownsRow_nil _ _ _ _
  · have hcap : cap ≤ 9223372036854775807 := by simpa [maxLen] using hcm
    clear hg hcs htk hcm
    obtain ⟨n, hn⟩ : ∃ n, xs.length = n := ⟨_, rfl⟩
    have H1 := hid h1
    have HN := hid hn
    rw [hn] at hqn hnc ⊢
    clear h1 hn
    go_enter Try.func33, Try.ntmps33
    go_wp2
    go_loopw [1, 5] (fun kk i wr => ∃ k : Nat, k ≤ n ∧ i = .int .i64 k ∧ kk = .int .i64 (q + 2 * (k : Int)) ∧ Hid (Own2 60 wr B (.slice (some ⟨g, 0, none⟩) n cap) (marks2 q k ++ xs.drop k)) ∧ w.grownBy wr (some g)) (fun _ i _ => n - (intOf i).toNat)
    case atStart => exact ⟨0, by omega, rfl, int_eq (by simp), hid (by rw [← HN.out]; simpa [marks2] using H1.out), World.grownBy.refl _ _⟩
    case round =>
      obtain ⟨k, hk, rfl, rfl, HO, hgr⟩ := hrel
      have hlen : (marks2 q k ++ xs.drop k).length = n := by rw [List.length_append, length_marks2, List.length_drop, HN.out]; omega
      by_cases hlt : k < n
      · have hc := HO.out.cell1 hlen hlt
        have hd := HO.out.cell2 hlen hlt
        have hfz := HO.out.free hlen (k*2)
        have hfz' := HO.out.free hlen (k*2+1)
        obtain ⟨hs1, hs2⟩ := HO.out.set1 hlen hlt (q + 2 * (k : Int)) rfl
        obtain ⟨hs3, hs4⟩ := hs1.set2 (by rw [List.length_set]; exact hlen) hlt (q + 2 * (k : Int) + 1) rfl
        rw [List.set_set, List.getD_eq_getElem?_getD, List.getElem?_set_self (by omega)] at hs3
        rw [Option.getD_some, set_marks2 (by rw [HN.out]; exact hlt)] at hs3
        have HS := hid hs3
        have HG := hid (grown_trans hgr (grown_trans hs2 hs4))
        generalize ((marks2 q k ++ xs.drop k).getD k (0,0)).1 = z1 at hc
        generalize ((marks2 q k ++ xs.drop k).getD k (0,0)).2 = z2 at hd
        clear hs1 hs2 hs3 hs4 HO hgr hlen
        go_wp2
        go_roundw
        case rel => exact ⟨k+1, by omega, by go_num, by go_num, HS, HG.out⟩
        case measure => simp [intOf]; omega
      · have hk' : k = n := by omega
        have ho := HO.out
        rw [List.drop_of_length_le (by rw [HN.out]; omega), List.append_nil] at ho
        have HO2 := hid ho
        clear ho HO hlen
        go_wp2
        go_ret
        refine ⟨ret_int (by omega), ?_, hgr⟩
        rw [← hk']
        have := HO2.out
        rw [hk'] at this ⊢
        exact this

end Go.Proofs.Ytepjbcgkjcgfbaa
