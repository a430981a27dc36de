import Derived.Test.YthndabijojjokaaQuietReg
namespace Go.Proofs.Ythndabijojjokaa
open Go.RowKit

theorem dchF_nonneg (xs : List Int) : 0 ≤ dchF xs := (dchTo_range xs _).1
set_option maxRecDepth 100000 in
set_option maxHeartbeats 2000000 in
theorem do_any (bb bl B1 : Nat) (vp : Value) (part : List Int) (o : Option (List Int)) (w : World) (hs : QState w bb bl B1 o) (hp : OwnI w B1 vp part) (hl : part.length ≤ 1048576) (hd : ∀ i, i < part.length → dig9 (part.getD i 0) = true) :
    Calls Try.prog 19 #[vp, .pointer (some ⟨bl, 0, none⟩), .pointer (some ⟨bb, 0, none⟩)] w fun e w' => e = .returned (.tuple #[]) ∧ Kept2 bb bl w w' ∧ QState w' bb bl B1 (stepQ dchF o part) := by
  obtain ⟨len, ao, cap, b1, o1, HN, rfl, _, _, _, _, HX⟩ := hp.ints.open_
  have HC := hid (digitChanges_any _ part w HX.out hl hd)
  have HQ := hid hs
  have HP := hid hp
  clear hs hp hd
  have hcost : 0 ≤ dchF part := dchF_nonneg part
  have HST : Hid ((stepQ dchF o part = some part ∧ (boxK o < 0 ∨ (0 ≤ boxK o ∧ dchF part < boxK o))) ∨ (stepQ dchF o part = o ∧ 0 ≤ boxK o ∧ ¬ dchF part < boxK o)) := hid (by
    cases o with
    | none => exact .inl ⟨rfl, .inl (by simp [boxK])⟩
    | some b =>
      have hb0 := dchF_nonneg b
      by_cases hlt : dchF part < dchF b
      · exact .inl ⟨by simp [stepQ, hlt], .inr ⟨hb0, hlt⟩⟩
      · exact .inr ⟨by simp [stepQ, hlt], hb0, hlt⟩)
  have HBK : Hid (boxK (some part) = dchF part) := hid rfl
  generalize hq : stepQ dchF o part = q at HST ⊢
  clear hq
  generalize hn : dchF part = n at *
  clear hn
  go_enter Try.func19, Try.ntmps19
  go_wp2_with fail
  refine HC.out.mono ?_
  rintro e w1 ⟨rfl, hb⟩
  have HB := hid hb
  clear hb
  have HQ1 := hid (HQ.out.later HB.out)
  have HP1 := hid (HP.out.later HB.out)
  obtain ⟨v, h1, h2, h3, h4, h5, h6, h7, h8, h9⟩ := HQ1.out
  have HV := hid h5
  clear h5
  generalize hk : boxK o = k at *
  have HK := hid hk
  clear hk
  rcases HST.out with ⟨rfl, hc⟩ | ⟨rfl, hk0, hnk⟩
  · have hne : bl ≠ bb := fun e => h8 e.symm
    have HF : ∀ m : Nat, Kept2 bb bl w ((((w1.setCell ⟨bb, 0, none⟩ (.slice ao len cap)).setCell ⟨bl, 0, none⟩ (.int .i64 n)).drewN m)) := fun m =>
      kept2_trans (kept2_below HB.out) (kept2_trans (kept2_set1 bb bl w1 (.slice ao len cap)) (kept2_trans (kept2_set2 bb bl _ _) (kept2_below (below_drewN (Below.refl _ _) m))))
    have c1 : (w1.setCell ⟨bb, 0, none⟩ (.slice ao len cap)).cell? ⟨bl, 0, none⟩ = some (.int .i64 k) := (kept2_set1 bb bb w1 (.slice ao len cap)).cell h3 (show bl < _ by omega) hne hne
    have f1 : (w1.setCell ⟨bb, 0, none⟩ (.slice ao len cap)).frozen? ⟨bl, 0, none⟩ = false := by simpa using h4
    have HS : Hid (∀ m : Nat, QState (((w1.setCell ⟨bb, 0, none⟩ (.slice ao len cap)).setCell ⟨bl, 0, none⟩ (.int .i64 n)).drewN m) bb bl B1 (some part)) := hid (fun m => by
      refine QState.later (w := (w1.setCell ⟨bb, 0, none⟩ (.slice ao len cap)).setCell ⟨bl, 0, none⟩ (.int .i64 n)) ⟨.slice ao len cap, ?_, by simpa using h2, ?_, by simpa using h4, ?_, h6, h7, h8, by simpa using h9⟩ (below_drewN (Below.refl _ _) m)
      · exact (kept2_set1 bl bl _ _).cell (World.cell?_setCell_same' _ _ _ (by rw [h1]; rfl)) (show bb < _ by simp; omega) h8 h8
      · rw [HBK.out]; exact World.cell?_setCell_same' _ _ _ (by rw [c1]; rfl)
      · exact HP1.out.kept2 (kept2_trans (kept2_set1 bb bl w1 (.slice ao len cap)) (kept2_set2 bb bl _ _)) h6 h7)
    have HF' := hid HF
    clear HF
    rcases hc with hc | ⟨hc, hc2⟩
    · go_wp2
      go_end0
      exact ⟨rfl, HF'.out 0, HS.out 0⟩
    · have hc3 : ¬ k < 0 := by omega
      go_wp2
      go_end0
      exact ⟨rfl, HF'.out 0, HS.out 0⟩
  · have hc3 : ¬ k < 0 := by omega
    go_wp2
    go_end0
    exact ⟨rfl, kept2_below HB.out, HQ1.out⟩
end Go.Proofs.Ythndabijojjokaa
