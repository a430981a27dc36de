import Derived.Test.YthndabijojjokaaRows
import Derived.Test.YthndabijojjokaaApp
import Derived.WalkKit
import Derived.WalkSpells
import Derived.WalkLawsBesides
import Derived.Deep.QuietTactic
import Derived.BigQuiet
namespace Go.Proofs.Ythndabijojjokaa
open Go.RowKit


/-! ## The laws' own helpers: eqIntS, markIntS, heldIntS, toIntS -/

set_option maxHeartbeats 400000 in
theorem eqIntS_any (v1 v2 : Value) (xs ys : List Int) (w : World) (h1 : Ints w v1 xs) (h2 : Ints w v2 ys) :
    Calls Try.prog 7 #[v1, v2] w fun e w' => e = .returned (.bool (decide (xs = ys))) ∧ ∃ m, w' = w.drewN m := by
  obtain ⟨ao1, cap1, b1, o1, rfl, ha1, hc1, hn1, hm1⟩ := h1
  obtain ⟨ao2, cap2, b2, o2, rfl, ha2, hc2, hn2, hm2⟩ := h2
  by_cases hl : xs.length = ys.length
  · obtain ⟨n, hn⟩ : ∃ n, xs.length = n := ⟨_, rfl⟩
    have hn' : ys.length = n := by omega
    rw [hn] at ha1 hc1 hn1 ⊢
    rw [hn'] at ha2 hc2 hn2 ⊢
    have hne : ((n : Int) != n) = false := by simp
    have HN : Hid (xs.length = n) := hn
    have HN' : Hid (ys.length = n) := hn'
    clear hn hn' hl
    go_enter Try.func7, Try.ntmps7
    go_wp2
    go_loopw [5] (fun i wr => ∃ k m : Nat, k ≤ n ∧ i = .int .i64 k ∧ wr = w.drewN m ∧ Hid (xs.take k = ys.take k)) (fun i _ => n - (intOf i).toNat)
    case atStart => exact ⟨0, 0, by omega, rfl, rfl, rfl⟩
    case round =>
      obtain ⟨k, m, hk, rfl, rfl, HT⟩ := hrel
      by_cases hlt : k < n
      · obtain ⟨rfl, hb1⟩ := ha1 (by omega)
        obtain ⟨rfl, hb2⟩ := ha2 (by omega)
        clear ha1 ha2
        have e1 : w.cell? ⟨b1, o1+k, none⟩ = some (.int .i64 (xs.getD k 0)) := hc1 k (by omega)
        have e2 : w.cell? ⟨b2, o2+k, none⟩ = some (.int .i64 (ys.getD k 0)) := hc2 k (by omega)
        generalize hx : xs.getD k 0 = x at e1
        generalize hy : ys.getD k 0 = y at e2
        have HX := hid hx
        have HY := hid hy
        clear hx hy hc1 hc2
        have hlt' : (k : Int) < n := by omega
        have hlt2 : (0 : Int) ≤ k := by omega
        go_wp2
        go_quiet (fail)
        by_cases hxy : x = y
        · subst hxy
          have hb : (x != x) = false := by simp
          go_wp2
          go_roundw
          case rel => exact ⟨k+1, m + nq, by omega, by go_num, by simp, take_ext HT.out (by rw [HN.out]; exact hlt) (by rw [HN'.out]; exact hlt) (HX.out.trans HY.out.symm)⟩
          case measure => simp [intOf]; omega
        · have hb : (x != y) = true := by simpa using hxy
          go_wp2
          go_ret
          refine ⟨ret_bool ?_, m + nq, by simp⟩
          symm
          rw [decide_eq_false_iff_not]
          rintro rfl
          exact hxy (HX.out.symm.trans HY.out)
      · go_wp2
        go_ret
        refine ⟨ret_bool ?_, _, rfl⟩
        symm
        obtain rfl : k = n := by omega
        have := HT.out
        rw [List.take_of_length_le (by rw [HN.out]; omega), List.take_of_length_le (by rw [HN'.out]; omega)] at this
        simpa using this
  · have hb : ((xs.length : Int) != ys.length) = true := by simp; omega
    go_enter Try.func7, Try.ntmps7
    go_wp2
    go_ret
    refine ⟨ret_bool ?_, 0, rfl⟩
    symm
    simp
    rintro rfl
    exact hl rfl

set_option maxHeartbeats 400000 in
theorem heldIntS_any (v1 : Value) (q : Int) (n : Nat) (w : World) (h1 : Ints w v1 (marks q n)) (hq : 0 ≤ q) (hqn : q + n ≤ 1099511627776) :
    Calls Try.prog 9 #[v1, .int .i64 q] w fun e w' => e = .returned (.int .i64 (q + n)) ∧ ∃ m, w' = w.drewN m := by
  obtain ⟨ao1, cap1, b1, o1, rfl, ha1, hc1, hn1, hm1⟩ := h1
  rw [length_marks] at ha1 hc1 hn1 ⊢
  go_enter Try.func9, Try.ntmps9
  go_wp2
  go_loopw [1, 5] (fun kk i wr => ∃ k m : Nat, k ≤ n ∧ i = .int .i64 k ∧ kk = .int .i64 (q + k) ∧ wr = w.drewN m) (fun _ i _ => n - (intOf i).toNat)
  case atStart => exact ⟨0, 0, by omega, rfl, int_eq (by simp), rfl⟩
  case round =>
    obtain ⟨k, m, hk, rfl, rfl, rfl⟩ := hrel
    by_cases hlt : k < n
    · obtain ⟨rfl, hb1⟩ := ha1 (by omega)
      have e1 : w.cell? ⟨b1, o1+k, none⟩ = some (.int .i64 (q + k)) := by rw [hc1 k (by omega), getD_marks _ _ _ hlt]
      clear hc1 ha1
      have hb : (q + (k : Int) != q + k) = false := by simp
      go_wp2
      go_roundw
      case rel => exact ⟨k+1, _, by omega, by go_num, by go_num, rfl⟩
      case measure => simp [intOf]; omega
    · go_wp2
      go_ret
      exact ⟨ret_int (by omega), _, rfl⟩

set_option maxHeartbeats 400000 in
theorem markIntS_any (v1 : Value) (B : Nat) (xs : List Int) (q : Int) (w : World) (h1 : OwnI w B v1 xs) (hq : 0 ≤ q) (hqn : q + xs.length ≤ 1099511627776) :
    Calls Try.prog 8 #[v1, .int .i64 q] w fun e w' => e = .returned (.int .i64 (q + xs.length)) ∧ OwnI w' B v1 (marks q xs.length) ∧ w.grownBy w' v1.ownBlock := by
  rcases h1.2 with ⟨rfl, hn0⟩ | ⟨g, cap, cur, rfl, hB, hg, hnc, hcm, hcs, htk⟩
  · go_enter Try.func8, Try.ntmps8
    go_wp2
    refine wp_loop_rounds 1 ?_
    rw [rounds_succ]
    go_wp2
    go_ret
    refine ⟨ret_int (by omega), ?_, World.grownBy.refl _ _⟩
    rw [hn0]
    exact World.ownsRow_nil _ _ _ _
  · have hcap : cap ≤ 9223372036854775807 := by simpa [maxLen] using hcm
    clear hg hcs htk hcm
    obtain ⟨n, hn⟩ : ∃ n, xs.length = n := ⟨_, rfl⟩
    have H1 := hid h1
    have HN := hid hn
    rw [hn] at hqn hnc ⊢
    clear h1 hn
    go_enter Try.func8, Try.ntmps8
    go_wp2
    go_loopw [1, 5] (fun kk i wr => ∃ k : Nat, k ≤ n ∧ i = .int .i64 k ∧ kk = .int .i64 (q + k) ∧ Hid (OwnI wr B (.slice (some ⟨g, 0, none⟩) n cap) (marks q k ++ xs.drop k)) ∧ w.grownBy wr (some g)) (fun _ i _ => n - (intOf i).toNat)
    case atStart => exact ⟨0, by omega, rfl, int_eq (by simp), hid (by rw [← HN.out]; simpa [marks] using H1.out), World.grownBy.refl _ _⟩
    case round =>
      obtain ⟨k, hk, rfl, rfl, HO, hgr⟩ := hrel
      have hlen : (marks q k ++ xs.drop k).length = n := by rw [List.length_append, length_marks, List.length_drop, HN.out]; omega
      by_cases hlt : k < n
      · have hc := HO.out.cell hlen hlt
        have hfz := HO.out.free hlen k
        obtain ⟨hs1, hs2⟩ := HO.out.set hlen k (q + k) (set_marks (k := q) (xs := xs) (j := k) (by rw [HN.out]; exact hlt))
        have HS := hid hs1
        have HG := hid (grown_trans hgr hs2)
        generalize (marks q k ++ xs.drop k).getD k 0 = z at hc
        clear hs1 hs2 HO hgr hlen
        go_wp2
        go_roundw
        case rel => exact ⟨k+1, by omega, by go_num, by go_num, HS, HG.out⟩
        case measure => simp [intOf]; omega
      · have hk' : k = n := by omega
        have ho := HO.out
        rw [List.drop_of_length_le (by rw [HN.out]; omega), List.append_nil] at ho
        have HO2 := hid ho
        clear ho HO hlen
        go_wp2
        go_ret
        refine ⟨ret_int (by omega), ?_, hgr⟩
        rw [← hk']
        have := HO2.out
        rw [hk'] at this ⊢
        exact this

set_option maxHeartbeats 400000 in
theorem toIntS_any (v1 : Value) (xs : List Int) (w : World) (h1 : Ints w v1 xs) (hl : xs.length ≤ 1048576) :
    Calls Try.prog 5 #[v1] w fun e w' => ∃ v, e = .returned v ∧ OwnI w' w.heap.size v xs ∧ Below w.heap.size w w' := by
  obtain ⟨ao1, cap1, b1, o1, rfl, ha1, hc1, hn1, hm1⟩ := h1
  obtain ⟨n, hn⟩ : ∃ n, xs.length = n := ⟨_, rfl⟩
  have HN := hid hn
  rw [hn] at ha1 hc1 hn1 hl ⊢
  clear hn
  obtain ⟨i0, hi, hz0, hz1, hz2⟩ := info_parts infoInt
  go_enter Try.func5, Try.ntmps5
  go_wp2_with (first | (at_make; refine wpList_make_full _ rfl (.tmp 6) (.tmp 6) 22 rfl w.heap.size 3 i0 (.int .i64 0) 1 Try.underlying22 hi hz0 hz1 .i64 .i64 n n n rfl rfl rfl rfl (by rw [hz2]; omega) (by unfold maxLen; omega) (Nat.le_refl _) ?_; intro w1 hown hgrow))
  have HO0 := hid (OwnI.made hown)
  have hb1 := Below.of_grown hgrow
  clear hown hgrow
  go_loopw [4] (fun i wr => ∃ k : Nat, k ≤ n ∧ i = .int .i64 k ∧ Hid (OwnI wr w.heap.size (.slice (some ⟨w.heap.size, 0, none⟩) n n) (xs.take k ++ List.replicate (xs.length - k) 0)) ∧ Below w.heap.size w wr) (fun i _ => n - (intOf i).toNat)
  case atStart => exact ⟨0, by omega, rfl, hid (by simpa [HN.out] using HO0.out), hb1⟩
  case round =>
    obtain ⟨k, hk, rfl, HO, hbel⟩ := hrel
    have hlen : (xs.take k ++ List.replicate (xs.length - k) 0).length = n := by rw [List.length_append, List.length_take, List.length_replicate, HN.out]; omega
    by_cases hlt : k < n
    · obtain ⟨rfl, hb1⟩ := ha1 (by omega)
      have e1 : wr.cell? ⟨b1, o1+k, none⟩ = some (.int .i64 (xs.getD k 0)) := (hbel.cell (by exact hb1)).trans (hc1 k (by omega))
      have hc := HO.out.cell hlen hlt
      have hfz := HO.out.free hlen k
      obtain ⟨hs1, hs2⟩ := HO.out.set hlen k (xs.getD k 0) (set_copy (by rw [HN.out]; exact hlt) rfl)
      have HS := hid hs1
      have HG : Hid (Below w.heap.size w _) := hid (hbel.trans ((Below.refl _ _).setCell (p := ⟨w.heap.size, k, none⟩) (Nat.le_refl _) (.int .i64 (xs.getD k 0))))
      generalize (xs.take k ++ List.replicate (xs.length - k) 0).getD k 0 = z at hc
      clear hs1 hs2 HO hbel hlen ha1 hc1
      generalize xs.getD k 0 = x at e1 HS HG
      go_wp2
      go_roundw
      case rel => exact ⟨k+1, by omega, by go_num, HS, HG.out⟩
      case measure => simp [intOf]; omega
    · have hk' : k = n := by omega
      have ho := HO.out
      have e : xs.take k ++ List.replicate (xs.length - k) 0 = xs := by rw [List.take_of_length_le (by rw [HN.out]; omega), HN.out, hk']; simp
      rw [e] at ho
      have HO2 := hid ho
      clear ho HO hlen e
      go_wp2
      go_ret
      exact ⟨_, rfl, HO2.out, hbel⟩

end Go.Proofs.Ythndabijojjokaa
