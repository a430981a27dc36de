import Derived.Test.YtfgjaefcfmjleaaDrawT2
import Derived.Test.YtfgjaefcfmjleaaMirTime
namespace Go.Proofs.Ytfgjaefcfmjleaa
open Go.RowKit

set_option maxRecDepth 100000 in
set_option maxHeartbeats 8000000 in
theorem DrawApartInMirror_any (v : Value) (n : Nat) (w : World) (h : Byts w v n) (hn : n ≤ 131072) :
    Calls Try.prog 82 #[v] w fun e w' => ∃ x : Int, e = .returned (.int .i64 x) ∧ Below w.heap.size w w' := by
  obtain ⟨ao, cap, rfl⟩ : ∃ ao cap, v = .slice ao n cap := by obtain ⟨ao, cap, b, o, rfl, _⟩ := h; exact ⟨ao, cap, rfl⟩
  have HC := hid (Cur.new h hn)
  have HB := hid ((Below.refl w.heap.size w).alloc (Nat.le_refl _) (.cells #[.slice ao n cap, .int .i64 0, .int .u64 0] 87))
  clear h
  go_enter Try.func82, Try.ntmps82
  go_upto_region 2 with fail
  generalize w.alloc (.cells #[.slice ao n cap, .int .i64 0, .int .u64 0] 87) = W0 at HC HB ⊢
  go_wp2_with fail
  refine (time_any w.heap.size 0 _ HC.out (by omega)).mono ?_
  rintro e w1 ⟨t, rfl, hc, hg⟩
  have HC1 := hid hc
  have HG1 := hid hg
  clear hc hg HC
  go_wp2_with fail
  refine (specMirrorTime_any t w1).mono ?_
  rintro e w2 ⟨rfl, hb2⟩
  have HC2 := hid (HC1.out.later hb2)
  have HG2 := hid (grown_trans HG1.out (grown_of_below hb2 _))
  clear hb2 HC1 HG1
  obtain ⟨⟨u, ub⟩, hu⟩ : ∃ r, mirR t = r := ⟨_, rfl⟩
  rw [hu]
  clear hu
  cases ub with
  | false =>
    go_wp2
    go_ret
    exact ⟨_, rfl, HB.out.grown HG2.out HB.out.size (fun k hk => by cases hk; exact Nat.le_refl _)⟩
  | true =>
    go_wp2_with fail
    refine (one_any w.heap.size _ 4 _ HC2.out (by omega) (by omega) (by omega)).mono ?_
    rintro e w3 ⟨b, rfl, hc3, hg3⟩
    have HG3 := hid (grown_trans HG2.out hg3)
    clear hc3 hg3 HC2 HG2
    cases b with
    | true =>
      go_wp2
      go_ret
      exact ⟨_, rfl, HB.out.grown HG3.out HB.out.size (fun k hk => by cases hk; exact Nat.le_refl _)⟩
    | false =>
      go_wp2
      go_ret
      exact ⟨_, rfl, HB.out.grown HG3.out HB.out.size (fun k hk => by cases hk; exact Nat.le_refl _)⟩

end Go.Proofs.Ytfgjaefcfmjleaa
