import Derived.Test.YtfgjaefcfmjleaaSpreadImpl
namespace Go.Proofs.Ytfgjaefcfmjleaa
open Go.RowKit

/-! ## The program's SpreadPart -/
set_option maxRecDepth 100000 in
set_option maxHeartbeats 4000000 in
theorem implSpreadPart_any (v1 : Value) (xs : List Int) (d : Int) (w : World) (h1 : Ints w v1 xs) :
    Calls Try.prog 45 #[v1, .int .i64 d] w fun e w' => ∃ v, e = .returned (.tuple #[v, .bool (spreadR xs d).2]) ∧ OwnI w' w.heap.size v (spreadR xs d).1 ∧ Below w.heap.size w w' := by
  obtain ⟨n, ao1, cap1, b1, o1, HN, rfl, ha1, hc1, hn1, hm1, HX⟩ := h1.open_
  clear h1 hc1
  have HB := hid (((Below.refl w.heap.size w).alloc (Nat.le_refl _) (.cells #[.slice ao1 n cap1] 24)).alloc (by simp) (.cells #[.int .i64 d] 3))
  have HX0 := hid (HX.out.later HB.out)
  cases hcode : codeB xs with
  | false =>
    rw [spreadR_code hcode]
    clear ha1
    go_enter Try.func45, Try.ntmps45
    go_wp2_with (go_at_call 31; refine (IsCode_any _ xs _ HX0.out).mono ?_; rintro e w' ⟨rfl, rfl⟩)
    go_ret2
    exact ⟨_, rfl, OwnI.nil _ _, HB.out⟩
  | true =>
  cases hin : inB d 1 7 with
  | false =>
    rw [spreadR_in hin]
    clear ha1
    go_enter Try.func45, Try.ntmps45
    go_wp2_with (first | (go_at_call 31; refine (IsCode_any _ xs _ HX0.out).mono ?_; rintro e w' ⟨rfl, rfl⟩) | (go_at_call 141; refine (isSpread_any _ _).mono ?_; rintro e w' ⟨rfl, rfl⟩))
    go_ret2
    exact ⟨_, rfl, OwnI.nil _ _, HB.out⟩
  | true =>
  rw [spreadR_yes hcode hin]
  have hlen12 := (codeB_true hcode).1
  have HCC := hid (code_cells' hcode)
  have HSF := hid (show spreadF xs d = spQ xs d n [] 0 (pickL [] []) by rw [← HN.out]; rfl)
  rw [HN.out] at hlen12
  obtain ⟨rfl, hb1⟩ := ha1 (by omega)
  clear ha1
  obtain ⟨R, hR⟩ : ∃ R, spreadF xs d = R := ⟨_, rfl⟩
  rw [hR] at HSF ⊢
  clear hR
  obtain ⟨Z, hZ⟩ : ∃ Z, w.heap.size = Z := ⟨_, rfl⟩
  obtain ⟨fv, hfv⟩ : ∃ fv, Value.func (.func 158) #[] #[.pointer (some ⟨w.heap.size + 2, 0, none⟩), .pointer (some ⟨w.heap.size, 0, none⟩), .pointer (some ⟨w.heap.size + 1, 0, none⟩), .pointer (some ⟨w.heap.size + 3, 0, none⟩)] = fv := ⟨_, rfl⟩
  have HB4 : Hid (Below w.heap.size w ((((w.alloc (.cells #[.slice (some ⟨b1, o1, none⟩) n cap1] 24)).alloc (.cells #[.int .i64 d] 3)).alloc (.cells #[.slice none 0 0] 24)).alloc (.cells #[fv] 94))) := hid ((HB.out.alloc (by simp; omega) _).alloc (by simp; omega) _)
  have HE : Hid (SEnv ((((w.alloc (.cells #[.slice (some ⟨b1, o1, none⟩) n cap1] 24)).alloc (.cells #[.int .i64 d] 3)).alloc (.cells #[.slice none 0 0] 24)).alloc (.cells #[fv] 94)) (w.heap.size + 2) w.heap.size (w.heap.size + 1) (w.heap.size + 3) n cap1 (some ⟨b1, o1, none⟩) xs d) := by
    refine hid ⟨by simp [go_sem], HX.out.later HB4.out, by simp [go_sem], by rw [hfv]; simp [go_sem], by simp, by omega, by omega, by omega, .inr ?_⟩
    simp [Value.ownBlock]
    omega
  have HS : Hid (SBest ((((w.alloc (.cells #[.slice (some ⟨b1, o1, none⟩) n cap1] 24)).alloc (.cells #[.int .i64 d] 3)).alloc (.cells #[.slice none 0 0] 24)).alloc (.cells #[fv] 94)) (w.heap.size + 2) w.heap.size []) :=
    hid ⟨.slice none 0 0, by simp [go_sem], by simp [go_sem], OwnI.nil _ _, .inl rfl⟩
  have HNIL : Hid (∀ w : World, Ints w (.slice none 0 0) []) := hid fun w => (OwnI.nil w 0).ints
  subst hfv
  clear hZ
  go_enter Try.func45, Try.ntmps45
  go_wp2_with (first | (go_at_call 31; refine (IsCode_any _ xs _ HX0.out).mono ?_; rintro e w' ⟨rfl, rfl⟩) | (go_at_call 141; refine (isSpread_any _ _).mono ?_; rintro e w' ⟨rfl, rfl⟩))
  refine (extend_any (w.heap.size + 2) w.heap.size (w.heap.size + 1) (w.heap.size + 3) n cap1 w.heap.size (some ⟨b1, o1, none⟩) xs d hlen12.2 HCC.out n 0 _ [] [] _ (by omega) HE.out HS.out HB4.out.size (HNIL.out _) (.inl rfl) (by simp) (fun i hi => absurd hi (by simp))).mono ?_
  rintro e w1 ⟨rfl, hg, hs⟩
  rw [← HSF.out] at hs
  obtain ⟨v, hv1, hv2, hv3, hv4⟩ := hs
  have HO := hid hv3
  have HBF := hid (HB4.out.grown hg HB4.out.size (fun k hk => by cases hk; omega))
  clear hg hv2 hv3 hv4
  obtain ⟨q, ab, capb, bq, oq, HQ, rfl, _, _, _, _, _⟩ := HO.out.ints.open_
  go_wp2
  go_ret2
  exact ⟨_, rfl, HO.out, HBF.out⟩

end Go.Proofs.Ytfgjaefcfmjleaa
