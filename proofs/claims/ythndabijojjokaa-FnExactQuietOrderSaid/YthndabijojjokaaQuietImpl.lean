import Derived.Test.YthndabijojjokaaQuietExt
namespace Go.Proofs.Ythndabijojjokaa
open Go.RowKit

/-! ## sequences[int]; the program's QuietOrder -/
set_option maxRecDepth 100000 in
set_option maxHeartbeats 4000000 in
theorem sequences_any (bb bl B1 : Nat) (vl : Value) (l : List Int) (o : Option (List Int)) (w : World) (hlen : l.length ≤ 6) (hst : QState w bb bl B1 o) (hl : OwnI w B1 vl l) (hd : allDig l) :
    Calls Try.prog 16 #[vl, .func (.func 19) #[] #[.pointer (some ⟨bl, 0, none⟩), .pointer (some ⟨bb, 0, none⟩)]] w fun e w' =>
      e = .returned (.tuple #[]) ∧ Kept2 bb bl w w' ∧ QState w' bb bl B1 (foldQ o (seqsN l.length [] l)) := by
  have HST := hid hst
  have HL := hid hl
  have HD := hid hd
  have hB1 : B1 ≤ w.heap.size := by obtain ⟨v, _, _, _, _, _, _, _, _, h9⟩ := hst; exact h9
  have hbb : bb < B1 ∧ bl < B1 := by obtain ⟨v, _, _, _, _, _, h6, h7, _, _⟩ := hst; exact ⟨h6, h7⟩
  have HX := hid (extend_any bb bl w.heap.size (w.heap.size + 1) B1)
  clear hst hl hd
  go_enter Try.func16, Try.ntmps16
  go_wp2_with fail
  have HB2 : Below w.heap.size w ((w.alloc (.cells #[.func (.func 19) #[] #[.pointer (some ⟨bl, 0, none⟩), .pointer (some ⟨bb, 0, none⟩)]] 39)).alloc (.cells #[.func (.func 28) #[] #[.pointer (some ⟨w.heap.size, 0, none⟩), .pointer (some ⟨w.heap.size + 1, 0, none⟩)]] 43)) :=
    ((Below.refl _ _).alloc (Nat.le_refl _) _).alloc (by simp) _
  refine (HX.out l.length _ _ [] l o _ rfl (by simpa using hlen) ?_ (HST.out.later HB2) (OwnI.nil _ _) (HL.out.later HB2) (fun x hx => by simp at hx) HD.out).mono ?_
  · exact ⟨by simp [go_sem], by simp [go_sem], by simp; omega, by simp, by omega, by omega, hbb.1, hbb.2⟩
  · rintro e w1 ⟨rfl, hk, hs⟩
    have HK := hid (kept2_trans (kept2_below HB2) hk)
    have HS := hid hs
    clear hk hs HB2
    go_wp2
    go_end0
    exact ⟨rfl, HK.out, HS.out⟩

def quietO (xs : List Int) : Option (List Int) := foldQ none (seqsN xs.length [] (sortI xs))
def quietR (xs : List Int) : List Int × Int × Bool := if xs.length ≤ 6 ∧ xs.all dig9 = true then ((quietO xs).getD [], boxK (quietO xs), true) else ([], 0, false)

theorem enterIsDigitQ (args : Array Value) (w : World) : (callFunc 15 args).run Try.prog w = .ok (.enter 15 args) w := by kernel_rfl
set_option maxRecDepth 100000 in
set_option maxHeartbeats 4000000 in
theorem implQuietOrder_any (v1 : Value) (xs : List Int) (w : World) (h1 : Ints w v1 xs) :
    Calls Try.prog 6 #[v1] w fun e w' => ∃ v, e = .returned (.tuple #[v, .int .i64 (quietR xs).2.1, .bool (quietR xs).2.2]) ∧ OwnI w' w.heap.size v (quietR xs).1 ∧ Below w.heap.size w w' := by
  obtain ⟨n, ao, cap, b1, o1, HN, rfl, _, _, _, _, HX⟩ := h1.open_
  clear h1
  by_cases hl : n ≤ 6
  · have hl2 : ¬ ((6 : Int) < n) := by omega
    cases hd : xs.all dig9 with
    | false =>
      have HR := hid (show quietR xs = ([], 0, false) by unfold quietR; rw [if_neg (by rw [hd]; simp)])
      rw [HR.out]
      have HDD := hid hd
      clear hd
      go_enter Try.func6, Try.ntmps6
      go_wp2_with fail
      refine (areAllI_any _ xs _ #[] dig9 _ HX.out enterIsDigitQ ?_).mono ?_
      · intro w' _ i _
        exact (isDigit_any _ w').mono fun e w'' ⟨he, hw⟩ => ⟨he, hw ▸ Below.refl _ _⟩
      rintro e w1 ⟨rfl, hb⟩
      rw [HDD.out]
      go_wp2
      go_ret3
      exact ⟨_, rfl, OwnI.nil _ _, hb⟩
    | true =>
      have HR := hid (show quietR xs = ((quietO xs).getD [], boxK (quietO xs), true) by unfold quietR; rw [if_pos ⟨by rw [HN.out]; exact hl, hd⟩])
      rw [HR.out]
      have HDD := hid hd
      have HL6 := hid (show xs.length ≤ 6 by rw [HN.out]; exact hl)
      clear hd
      go_enter Try.func6, Try.ntmps6
      go_wp2_with fail
      refine (areAllI_any _ xs _ #[] dig9 _ HX.out enterIsDigitQ ?_).mono ?_
      · intro w' _ i _
        exact (isDigit_any _ w').mono fun e w'' ⟨he, hw⟩ => ⟨he, hw ▸ Below.refl _ _⟩
      rintro e w1 ⟨rfl, hb⟩
      rw [HDD.out]
      have HB := hid hb
      clear hb
      have HB3 := hid ((HB.out.alloc HB.out.size (.cells #[.slice none 0 0] 22)).alloc (by have := HB.out.size; simp; omega) (.cells #[.int .i64 (-1)] 3))
      have HXV := hid (HX.out.later HB3.out)
      have C1 : Hid (((w1.alloc (.cells #[.slice none 0 0] 22)).alloc (.cells #[.int .i64 (-1)] 3)).cell? ⟨w1.heap.size, 0, none⟩ = some (.slice none 0 0)) := hid (by simp [go_sem])
      have F1 : Hid (((w1.alloc (.cells #[.slice none 0 0] 22)).alloc (.cells #[.int .i64 (-1)] 3)).frozen? ⟨w1.heap.size, 0, none⟩ = false) := hid (by simp [go_sem])
      have C2 : Hid (((w1.alloc (.cells #[.slice none 0 0] 22)).alloc (.cells #[.int .i64 (-1)] 3)).cell? ⟨w1.heap.size + 1, 0, none⟩ = some (.int .i64 (-1))) := hid (by simp [go_sem])
      have F2 : Hid (((w1.alloc (.cells #[.slice none 0 0] 22)).alloc (.cells #[.int .i64 (-1)] 3)).frozen? ⟨w1.heap.size + 1, 0, none⟩ = false) := hid (by simp [go_sem])
      have SZ : Hid (((w1.alloc (.cells #[.slice none 0 0] 22)).alloc (.cells #[.int .i64 (-1)] 3)).heap.size = w1.heap.size + 2) := hid (by simp)
      have hw1 : w.heap.size ≤ w1.heap.size := HB.out.size
      go_wp2_with fail
      generalize (w1.alloc (.cells #[.slice none 0 0] 22)).alloc (.cells #[.int .i64 (-1)] 3) = w2 at *
      have HQ0 : Hid (QState w2 w1.heap.size (w1.heap.size + 1) (w1.heap.size + 2) none) := hid ⟨_, C1.out, F1.out, C2.out, F2.out, OwnI.nil _ _, by omega, by omega, by omega, by have := SZ.out; omega⟩
      generalize w1.heap.size = z at *
      clear C1 F1 C2 F2 HB
      refine (Values_any _ _ _ _).mono ?_
      rintro e w3 ⟨rfl, rfl⟩
      have HB4 : Hid (Below w2.heap.size w2 (w2.alloc (.cells #[.slice ao n cap] 22))) := hid ((Below.refl _ _).alloc (Nat.le_refl _) _)
      have CV : Hid ((w2.alloc (.cells #[.slice ao n cap] 22)).cell? ⟨w2.heap.size, 0, none⟩ = some (.slice ao n cap)) := hid (by simp [go_sem])
      have SV : Hid (w2.heap.size < (w2.alloc (.cells #[.slice ao n cap] 22)).heap.size) := hid (by simp)
      have HXV2 := hid (HXV.out.later HB4.out)
      have HQ1 := hid (HQ0.out.later HB4.out)
      have HB5 := hid (HB3.out.trans (HB4.out.mono HB3.out.size))
      have hzs : z + 2 ≤ (w2.alloc (.cells #[.slice ao n cap] 22)).heap.size := by have := SZ.out; simp; omega
      clear HQ0 HXV HB3 HB4 HX
      generalize w2.alloc (.cells #[.slice ao n cap] 22) = w4 at *
      generalize w2.heap.size = z2 at *
      clear SZ
      go_wp2_with fail
      refine (Sorted_any z2 _ xs (by have := HL6.out; omega) w4 SV.out CV.out HXV2.out).mono ?_
      rintro e w5 ⟨v5, rfl, ho, hb⟩
      have HQ2 := hid (HQ1.out.later hb)
      have HO := hid (ho.mono hzs)
      have HB6 := hid (HB5.out.trans (hb.mono HB5.out.size))
      have HSD : Hid (allDig (sortI xs)) := hid (fun x hx => List.all_eq_true.1 HDD.out x ((List.mergeSort_perm xs _).mem_iff.1 hx))
      have HSL := hid (show (sortI xs).length ≤ 6 by rw [sortI_length]; exact HL6.out)
      have HQE := hid (show foldQ none (seqsN (sortI xs).length [] (sortI xs)) = quietO xs by unfold quietO; rw [sortI_length])
      clear ho hb HQ1 HB5 HXV2 CV SV
      go_wp2_with fail
      refine (sequences_any _ _ (z+2) v5 (sortI xs) none w5 HSL.out HQ2.out HO.out HSD.out).mono ?_
      rintro e w6 ⟨rfl, hk, hs⟩
      rw [HQE.out] at hs
      obtain ⟨v, c1, f1, c2, f2, ho, _, _, _, hz6⟩ := hs
      have HF := hid (below_kept2 (B := w.heap.size) hk (by omega) (by omega) HB6.out.size)
      have HB7 := hid (HB6.out.trans HF.out)
      have HO7 := hid (ho.mono (show w.heap.size ≤ z + 2 by omega))
      clear hk f1 f2 ho HQ2 HO HB6 HF
      go_wp2
      go_quiet (fail)
      go_wp2
      go_ret3
      exact ⟨_, rfl, HO7.out.drawn _, below_drewN HB7.out _⟩
  · have HR := hid (show quietR xs = ([], 0, false) by unfold quietR; rw [if_neg (by rw [HN.out]; omega)])
    rw [HR.out]
    have hl2 : ((6 : Int) < n) := by omega
    go_enter Try.func6, Try.ntmps6
    go_wp2_with fail
    go_ret3
    exact ⟨_, rfl, OwnI.nil _ _, Below.refl _ _⟩
end Go.Proofs.Ythndabijojjokaa
