import Derived.Test.YtfgjaefcfmjleaaDraws
import Derived.Deep.DeepCutAuto
namespace Go.Proofs.Ytfgjaefcfmjleaa
open Go.RowKit

set_option maxRecDepth 100000 in
set_option maxHeartbeats 8000000 in
theorem DrawGreedyCode_any (v : Value) (n : Nat) (w : World) (h : Byts w v n) (hn : n ≤ 131072) :
    Calls Try.prog 47 #[v] w fun e w' => ∃ (d m : Int), e = .returned (.tuple #[.int .i64 d, .int .i64 m]) ∧ Below w.heap.size w w' := by
  obtain ⟨ao, cap, rfl⟩ : ∃ ao cap, v = .slice ao n cap := by obtain ⟨ao, cap, b, o, rfl, _⟩ := h; exact ⟨ao, cap, rfl⟩
  have HC1 := hid (Cur.new h hn)
  have HB := hid ((Below.refl w.heap.size w).alloc (Nat.le_refl _) (.cells #[.slice ao n cap, .int .i64 0, .int .u64 0] 87))
  clear h
  go_enter Try.func47, Try.ntmps47
  go_upto_region 2 with fail
  generalize w.alloc (.cells #[.slice ao n cap, .int .i64 0, .int .u64 0] 87) = W0 at HC1 HB ⊢
  have HBL : Hid (Below W0.heap.size W0 (W0.alloc (.cells (([2, 3, 1, 4, 7, 0, 8] : List Int).map (Value.int .i64)).toArray 3))) := hid ((Below.refl _ _).alloc (Nat.le_refl _) _)
  have HCL := hid (HC1.out.later HBL.out)
  have HGL := hid (grown_of_below HBL.out (some w.heap.size))
  have HSZ := hid HC1.out.lt
  go_wp2_with fail
  refine (pick_any w.heap.size _ 24 _ HCL.out (by omega) (by omega) (by omega)).mono ?_
  rintro e w2 ⟨q, rfl, hq, hc2, hg2⟩
  have HC2 := hid hc2
  have HG2 := hid hg2
  have HGZ := hid (grown_trans HGL.out hg2)
  clear hc2 hg2 HC1 HCL
  obtain ⟨c, hc3, hcq⟩ : ∃ c : Nat, c ≤ 2 ∧ (q : Int).tdiv 11 = c := ⟨q / 11, by omega, by rw [show (q : Int).tdiv 11 = (q : Int) / 11 from Int.tdiv_eq_ediv_of_nonneg (by omega)]; rfl⟩
  clear hq
  rcases (show c = 0 ∨ c = 1 ∨ c = 2 by omega) with rfl | rfl | rfl
  all_goals
    go_wp2_with fail
    refine (among_cut w.heap.size _ [2, 3, 1, 4, 7, 0, 8] _ _ _ _ _ HG2.out HC2.out (by omega) (by first | rfl | simp) HSZ.out rfl (by decide) (by decide) (by decide)).mono ?_
    rintro e w3 ⟨d, rfl, _, hc3, hg3⟩
    have HG3 := hid (grown_trans HGZ.out hg3)
    have HBL3 : Hid (Below w3.heap.size w3 (w3.alloc (.cells (([8, 12, 1, 5, 0, 13] : List Int).map (Value.int .i64)).toArray 3))) := hid ((Below.refl _ _).alloc (Nat.le_refl _) _)
    have HCL3 := hid (hc3.later HBL3.out)
    have HGL3 := hid (grown_trans HG3.out (grown_of_below HBL3.out (some w.heap.size)))
    have HSZ3 := hid hc3.lt
    clear hc3 hg3 HC2 HG2 HGZ HG3 hcq
    go_wp2_with fail
    refine (pick_any w.heap.size _ 24 _ HCL3.out (by omega) (by omega) (by omega)).mono ?_
    rintro e w4 ⟨q4, rfl, hq4, hc4, hg4⟩
    have HC4 := hid hc4
    have HG4 := hid hg4
    have HGZ4 := hid (grown_trans HGL3.out hg4)
    clear hc4 hg4 HCL3
    obtain ⟨c4, hcc4, hcq4⟩ : ∃ c : Nat, c ≤ 2 ∧ (q4 : Int).tdiv 11 = c := ⟨q4 / 11, by omega, by rw [show (q4 : Int).tdiv 11 = (q4 : Int) / 11 from Int.tdiv_eq_ediv_of_nonneg (by omega)]; rfl⟩
    clear hq4
    rcases (show c4 = 0 ∨ c4 = 1 ∨ c4 = 2 by omega) with rfl | rfl | rfl
    all_goals
      go_wp2_with fail
      refine (among_cut w.heap.size _ [8, 12, 1, 5, 0, 13] _ _ _ _ _ HG4.out HC4.out (by omega) (by first | rfl | simp) HSZ3.out rfl (by decide) (by decide) (by decide)).mono ?_
      rintro e w5 ⟨m, rfl, _, hc5, hg5⟩
      have HB5 := hid (HB.out.grown (grown_trans HGZ4.out hg5) HB.out.size (fun k hk => by cases hk; exact Nat.le_refl _))
      go_wp2
      go_ret2
      exact ⟨_, _, rfl, HB5.out⟩

end Go.Proofs.Ytfgjaefcfmjleaa
