import Derived.Test.YtepjbcgkjcgfbaaRows
import Derived.Test.YtepjbcgkjcgfbaaTwo
import Derived.WalkKit
import Derived.WalkSpells
import Derived.WalkLawsBesides
import Derived.Deep.QuietTactic
import Derived.BigQuiet
import Derived.Deep.RegionWith
import Derived.Handy
namespace Go.Proofs.Ytepjbcgkjcgfbaa
open Go.RowKit

/-! ## The laws' helpers for [][2]int -/

/-- Are two pairs one? -/
def eq2 (p q : Int × Int) : Bool := decide (p = q)

set_option maxHeartbeats 1000000 in
theorem eqIntA2_any (a b c d : Int) (w : World) :
    Calls Try.prog 46 #[.agg #[.int .i64 a, .int .i64 b], .agg #[.int .i64 c, .int .i64 d]] w fun e w' => e = .returned (.bool (eq2 (a, b) (c, d))) ∧ Below w.heap.size w w' := by
  go_enter Try.func46, Try.ntmps46
  go_wp2
  go_loopw [5] (fun i wr => ∃ k : Nat, k ≤ 2 ∧ i = .int .i64 k ∧ Below w.heap.size w wr ∧ wr.cell? ⟨w.heap.size, 0, none⟩ = some (.int .i64 a) ∧ wr.cell? ⟨w.heap.size, 1, none⟩ = some (.int .i64 b) ∧
      wr.cell? ⟨w.heap.size + 1, 0, none⟩ = some (.int .i64 c) ∧ wr.cell? ⟨w.heap.size + 1, 1, none⟩ = some (.int .i64 d) ∧ Hid ((0 < k → a = c) ∧ (1 < k → b = d))) (fun i _ => 2 - (intOf i).toNat)
  case atStart => exact ⟨0, by omega, rfl, ((Below.refl _ _).alloc (Nat.le_refl _) _).alloc (by simp) _, by simp [go_sem], by simp [go_sem], by simp [go_sem], by simp [go_sem], hid ⟨by omega, by omega⟩⟩
  case round =>
    obtain ⟨k, hk, rfl, hbel, e1, e2, e3, e4, HT⟩ := hrel
    by_cases h2 : k = 2
    · subst h2
      go_wp2
      go_ret
      have hac := HT.out.1 (by omega)
      have hbd := HT.out.2 (by omega)
      exact ⟨ret_bool (by rw [hac, hbd]; simp [eq2]), hbel⟩
    · by_cases h0 : k = 0
      · subst h0
        have z1 : (0 : Int) ≤ ((0 : Nat) : Int) := by omega
        by_cases hac : a = c
        · subst hac
          have hb : (a != a) = false := by simp
          go_wp2
          go_quiet (fail)
          go_wp2
          go_roundw
          case rel => exact ⟨1, by omega, by go_num, below_drewN hbel _, e1, e2, e3, e4, hid ⟨by simp, by omega⟩⟩
          case measure => simp [intOf]
        · have hb : (a != c) = true := by simpa using hac
          go_wp2
          go_quiet (fail)
          go_wp2
          go_ret
          exact ⟨ret_bool (by simp [eq2, hac]), below_drewN hbel _⟩
      · obtain rfl : k = 1 := by omega
        have z1 : (0 : Int) ≤ ((1 : Nat) : Int) := by omega
        have hac := HT.out.1 (by omega)
        have HAC := hid hac
        clear hac
        by_cases hbd : b = d
        · subst hbd
          have hb : (b != b) = false := by simp
          go_wp2
          go_quiet (fail)
          go_wp2
          go_roundw
          case rel => exact ⟨2, by omega, by go_num, below_drewN hbel _, e1, e2, e3, e4, hid ⟨fun _ => HAC.out, by simp⟩⟩
          case measure => simp [intOf]
        · have hb : (b != d) = true := by simpa using hbd
          go_wp2
          go_quiet (fail)
          go_wp2
          go_ret
          exact ⟨ret_bool (by simp [eq2, hbd]), below_drewN hbel _⟩

set_option maxHeartbeats 1000000 in
theorem eqIntA2S_any (v1 v2 : Value) (xs ys : List (Int × Int)) (w : World) (h1 : Two w v1 xs) (h2 : Two w v2 ys) :
    Calls Try.prog 18 #[v1, v2] w fun e w' => e = .returned (.bool (decide (xs = ys))) ∧ Below w.heap.size w w' := by
  obtain ⟨n1, ao1, cap1, b1, o1, HN, rfl, ha1, hc1, hn1, hm1, HX⟩ := h1.open_
  obtain ⟨n2, ao2, cap2, b2, o2, HN', rfl, ha2, hc2, hn2, hm2, HX'⟩ := h2.open_
  by_cases hl : n1 = n2
  · subst hl
    have hne : ((n1 : Int) != n1) = false := by simp
    go_enter Try.func18, Try.ntmps18
    go_wp2
    go_loopw [5] (fun i wr => ∃ k : Nat, k ≤ n1 ∧ i = .int .i64 k ∧ Below w.heap.size w wr ∧ Hid (xs.take k = ys.take k)) (fun i _ => n1 - (intOf i).toNat)
    case atStart => exact ⟨0, by omega, rfl, Below.refl _ _, rfl⟩
    case round =>
      obtain ⟨k, hk, rfl, hbel, HT⟩ := hrel
      by_cases hlt : k < n1
      · obtain ⟨rfl, hb1⟩ := ha1 (by omega)
        obtain ⟨rfl, hb2⟩ := ha2 (by omega)
        clear ha1 ha2
        have e1 : wr.cell? ⟨b1, o1+k*2, none⟩ = some (.int .i64 (xs.getD k (0,0)).1) := (hbel.cell (by exact hb1)).trans (hc1 k (by omega)).1
        have e2 : wr.cell? ⟨b1, o1+k*2+1, none⟩ = some (.int .i64 (xs.getD k (0,0)).2) := (hbel.cell (by exact hb1)).trans (hc1 k (by omega)).2
        have e3 : wr.cell? ⟨b2, o2+k*2, none⟩ = some (.int .i64 (ys.getD k (0,0)).1) := (hbel.cell (by exact hb2)).trans (hc2 k (by omega)).1
        have e4 : wr.cell? ⟨b2, o2+k*2+1, none⟩ = some (.int .i64 (ys.getD k (0,0)).2) := (hbel.cell (by exact hb2)).trans (hc2 k (by omega)).2
        have HL : Hid (k < xs.length ∧ k < ys.length) := hid ⟨by rw [HN.out]; exact hlt, by rw [HN'.out]; exact hlt⟩
        obtain ⟨⟨x1, x2⟩, hx⟩ : ∃ x, xs.getD k (0,0) = x := ⟨_, rfl⟩
        obtain ⟨⟨y1, y2⟩, hy⟩ : ∃ y, ys.getD k (0,0) = y := ⟨_, rfl⟩
        rw [hx] at e1 e2
        rw [hy] at e3 e4
        have HXX := hid hx
        have HYY := hid hy
        clear hx hy hc1 hc2
        have hlt' : (k : Int) < n1 := by omega
        have hlt2 : (0 : Int) ≤ k := by omega
        by_cases hxy : (x1, x2) = (y1, y2)
        · have hd : eq2 (x1, x2) (y1, y2) = true := by simpa [eq2] using hxy
          have HXY := hid hxy
          clear hxy
          go_wp2
          go_region_with (go_at_call 46; refine (eqIntA2_any _ _ _ _ _).mono ?_; rintro e w' ⟨rfl, hb⟩)
          all_goals
            have hbel' := (hbel.drew).trans (hb.mono hbel.size)
            clear hb hbel e1 e2 e3 e4
            go_wp2
            go_roundw
            case rel => exact ⟨k+1, by omega, by go_num, hbel', take_ext2 HT.out HL.out.1 HL.out.2 (HXX.out.trans (HXY.out.trans HYY.out.symm))⟩
            case measure => simp [intOf]; omega
        · have hd : eq2 (x1, x2) (y1, y2) = false := by simpa [eq2] using hxy
          have HXY := hid hxy
          clear hxy
          go_wp2
          go_region_with (go_at_call 46; refine (eqIntA2_any _ _ _ _ _).mono ?_; rintro e w' ⟨rfl, hb⟩)
          all_goals
            have hbel' := (hbel.drew).trans (hb.mono hbel.size)
            clear hb hbel e1 e2 e3 e4
            go_wp2
            go_ret
            refine ⟨ret_bool ?_, hbel'⟩
            symm
            rw [decide_eq_false_iff_not]
            rintro rfl
            exact HXY.out (HXX.out.symm.trans HYY.out)
      · go_wp2
        go_ret
        refine ⟨ret_bool ?_, hbel⟩
        symm
        have := HT.out
        rw [List.take_of_length_le (by rw [HN.out]; omega), List.take_of_length_le (by rw [HN'.out]; omega)] at this
        simpa using this
  · have hb : ((n1 : Int) != n2) = true := by simp; omega
    go_enter Try.func18, Try.ntmps18
    go_wp2
    go_ret
    refine ⟨ret_bool ?_, Below.refl _ _⟩
    symm
    simp
    rintro rfl
    exact hl (HN.out.symm.trans HN'.out)

set_option maxHeartbeats 1000000 in
theorem heldIntA2S_any (v1 : Value) (q : Int) (n : Nat) (w : World) (h1 : Two w v1 (marks2 q n)) (hq : 0 ≤ q) (hqn : q + 2 * n ≤ 1099511627776) :
    Calls Try.prog 20 #[v1, .int .i64 q] w fun e w' => e = .returned (.int .i64 (q + 2 * n)) ∧ ∃ m, w' = w.drewN m := by
  obtain ⟨ao1, cap1, b1, o1, rfl, ha1, hc1, hn1, hm1⟩ := h1
  rw [length_marks2] at ha1 hc1 hn1 ⊢
  go_enter Try.func20, Try.ntmps20
  go_wp2
  go_loopw [1, 5, 6] (fun kk i _ wr => ∃ k m : Nat, k ≤ n ∧ i = .int .i64 k ∧ kk = .int .i64 (q + 2 * (k : Int)) ∧ wr = w.drewN m) (fun _ i _ _ => n - (intOf i).toNat)
  case atStart => exact ⟨0, 0, by omega, rfl, int_eq (by simp), rfl⟩
  case round =>
    obtain ⟨k, m, hk, rfl, rfl, rfl⟩ := hrel
    by_cases hlt : k < n
    · obtain ⟨rfl, hb1⟩ := ha1 (by omega)
      have e1 : w.cell? ⟨b1, o1+k*2, none⟩ = some (.int .i64 (q + 2 * (k : Int))) := by rw [(hc1 k (by omega)).1, getD_marks2 _ _ _ hlt]
      have e2 : w.cell? ⟨b1, o1+k*2+1, none⟩ = some (.int .i64 (q + 2 * (k : Int) + 1)) := by rw [(hc1 k (by omega)).2, getD_marks2 _ _ _ hlt]
      clear hc1 ha1
      have hb : (q + 2 * (k : Int) != q + 2 * (k : Int)) = false := by simp
      have hb' : (q + 2 * (k : Int) + 1 != q + 2 * (k : Int) + 1) = false := by simp
      go_wp2
      go_rounds 3
      go_roundw
      case rel => exact ⟨k+1, _, by omega, by go_num, by go_num, rfl⟩
      case measure => simp [intOf]; omega
    · go_wp2
      go_ret
      exact ⟨ret_int (by omega), _, rfl⟩

set_option maxHeartbeats 1000000 in
theorem markIntA2S_any (v1 : Value) (B : Nat) (xs : List (Int × Int)) (q : Int) (w : World) (h1 : Own2 53 w B v1 xs) (hq : 0 ≤ q) (hqn : q + 2 * xs.length ≤ 1099511627776) :
    Calls Try.prog 19 #[v1, .int .i64 q] w fun e w' => e = .returned (.int .i64 (q + 2 * xs.length)) ∧ Own2 53 w' B v1 (marks2 q xs.length) ∧ w.grownBy w' v1.ownBlock := by
  rcases h1.2 with ⟨rfl, hn0⟩ | ⟨g, cap, cur, rfl, hB, hg, hnc, hcm, hcs, htk⟩
  · go_enter Try.func19, Try.ntmps19
    go_wp2
    refine wp_loop_rounds 1 ?_
    rw [rounds_succ]
    go_wp2
    go_ret
    refine ⟨ret_int (by omega), ?_, World.grownBy.refl _ _⟩
    rw [hn0]
    exact World.ownsRow_nil _ _ _ _
  · have hcap : cap ≤ 9223372036854775807 := by simpa [maxLen] using hcm
    clear hg hcs htk hcm
    obtain ⟨n, hn⟩ : ∃ n, xs.length = n := ⟨_, rfl⟩
    have H1 := hid h1
    have HN := hid hn
    rw [hn] at hqn hnc ⊢
    clear h1 hn
    go_enter Try.func19, Try.ntmps19
    go_wp2
    go_loopw [1, 5, 6] (fun kk i _ wr => ∃ k : Nat, k ≤ n ∧ i = .int .i64 k ∧ kk = .int .i64 (q + 2 * (k : Int)) ∧ Hid (Own2 53 wr B (.slice (some ⟨g, 0, none⟩) n cap) (marks2 q k ++ xs.drop k)) ∧ w.grownBy wr (some g)) (fun _ i _ _ => n - (intOf i).toNat)
    case atStart => exact ⟨0, by omega, rfl, int_eq (by simp), hid (by rw [← HN.out]; simpa [marks2] using H1.out), World.grownBy.refl _ _⟩
    case round =>
      obtain ⟨k, hk, rfl, rfl, HO, hgr⟩ := hrel
      have hlen : (marks2 q k ++ xs.drop k).length = n := by rw [List.length_append, length_marks2, List.length_drop, HN.out]; omega
      by_cases hlt : k < n
      · have hc := HO.out.cell1 hlen hlt
        have hd := HO.out.cell2 hlen hlt
        have hfz := HO.out.free hlen (k*2)
        have hfz' := HO.out.free hlen (k*2+1)
        obtain ⟨hs1, hs2⟩ := HO.out.set1 hlen hlt (q + 2 * (k : Int)) rfl
        obtain ⟨hs3, hs4⟩ := hs1.set2 (by rw [List.length_set]; exact hlen) hlt (q + 2 * (k : Int) + 1) rfl
        rw [List.set_set, List.getD_eq_getElem?_getD, List.getElem?_set_self (by omega)] at hs3
        rw [Option.getD_some, set_marks2 (by rw [HN.out]; exact hlt)] at hs3
        have HS := hid hs3
        have HG := hid (grown_trans hgr (grown_trans hs2 hs4))
        generalize ((marks2 q k ++ xs.drop k).getD k (0,0)).1 = z1 at hc
        generalize ((marks2 q k ++ xs.drop k).getD k (0,0)).2 = z2 at hd
        clear hs1 hs2 hs3 hs4 HO hgr hlen
        go_wp2
        go_rounds 3
        go_roundw
        case rel => exact ⟨k+1, by omega, by go_num, by go_num, HS, HG.out⟩
        case measure => simp [intOf]; omega
      · have hk' : k = n := by omega
        have ho := HO.out
        rw [List.drop_of_length_le (by rw [HN.out]; omega), List.append_nil] at ho
        have HO2 := hid ho
        clear ho HO hlen
        go_wp2
        go_ret
        refine ⟨ret_int (by omega), ?_, hgr⟩
        rw [← hk']
        have := HO2.out
        rw [hk'] at this ⊢
        exact this

end Go.Proofs.Ytepjbcgkjcgfbaa
