import Derived.Test.YthndabijojjokaaQuietDo
namespace Go.Proofs.Ythndabijojjokaa
open Go.RowKit

/-! ## sequences[int]$1: a search by a closure that calls itself -/
def foldQ (o : Option (List Int)) (ss : List (List Int)) : Option (List Int) := ss.foldl (stepQ dchF) o
/-- What has been found when the first k digits of the rest have been tried. -/
def uptoQ (m : Nat) (part rest : List Int) (o : Option (List Int)) (k : Nat) : Option (List Int) :=
  (List.range k).foldl (fun q i => if freshAt rest i then foldQ q (seqsN m (part ++ [rest.getD i 0]) (rest.eraseIdx i)) else q) o
theorem uptoQ_succ (m : Nat) (part rest : List Int) (o : Option (List Int)) (k : Nat) :
    uptoQ m part rest o (k+1) = if freshAt rest k then foldQ (uptoQ m part rest o k) (seqsN m (part ++ [rest.getD k 0]) (rest.eraseIdx k)) else uptoQ m part rest o k := by
  unfold uptoQ
  rw [List.range_succ, List.foldl_append]
  rfl
theorem foldQ_flat (f : Nat → List (List Int)) (c : Nat → Bool) : ∀ (l : List Nat) (o : Option (List Int)), foldQ o (l.flatMap fun i => if c i then f i else []) = l.foldl (fun q i => if c i then foldQ q (f i) else q) o := by
  intro l
  induction l with
  | nil => intro o; rfl
  | cons i l ih =>
    intro o
    simp only [List.flatMap_cons, List.foldl_cons]
    unfold foldQ at ih ⊢
    rw [List.foldl_append, ih]
    cases c i <;> rfl
theorem uptoQ_all (m : Nat) (part rest : List Int) (o : Option (List Int)) : uptoQ m part rest o (m+1) = foldQ o (seqsN (m+1) part rest) := by
  simp only [seqsN]
  rw [foldQ_flat (fun i => seqsN m (part ++ [rest.getD i 0]) (rest.eraseIdx i)) (freshAt rest)]
  rfl
def allDig (l : List Int) : Prop := ∀ x ∈ l, dig9 x = true
theorem allDig.at_ {l : List Int} (h : allDig l) : ∀ i, i < l.length → dig9 (l.getD i 0) = true := fun i hi => by
  have e : l.getD i 0 = l[i] := by simp [List.getD, hi]
  rw [e]; exact h _ (List.getElem_mem hi)
theorem allDig.snoc {l : List Int} {x : Int} (h : allDig l) (hx : dig9 x = true) : allDig (l ++ [x]) := fun y hy => by
  rcases List.mem_append.1 hy with hy | hy
  · exact h y hy
  · simp at hy; subst hy; exact hx
theorem allDig.erase {l : List Int} (h : allDig l) (i : Nat) : allDig (l.eraseIdx i) := fun y hy => h y (List.mem_of_mem_eraseIdx hy)

theorem reg_start {w : World} {bb bl B1 : Nat} {o : Option (List Int)} {vp vr : Value} {part rest : List Int} (hs : QState w bb bl B1 o) (hp : OwnI w B1 vp part) (hr : OwnI w B1 vr rest) :
    Reg w w B1 vp part B1 vr rest bl (.int .i64 (boxK o)) := by
  obtain ⟨v, h1, h2, h3, h4, h5, h6, h7, h8, h9⟩ := hs
  exact ⟨Below.refl _ _, hp, hr, fun k e _ => (hp.block_lt k e).2, h3, by omega, fun e => by have := (hp.block_lt _ e).1; omega, fun e => by have := (hr.block_lt _ e).1; omega⟩
set_option maxRecDepth 100000 in
set_option maxHeartbeats 8000000 in
theorem extend_any (bb bl bd be B1 : Nat) :
    ∀ (m : Nat) (vp vr : Value) (part rest : List Int) (o : Option (List Int)) (w : World), rest.length = m → part.length + m ≤ 6 → QEnv w bb bl bd be B1 → QState w bb bl B1 o → OwnI w B1 vp part → OwnI w B1 vr rest → allDig part → allDig rest →
    Calls Try.prog 28 #[vp, vr, .pointer (some ⟨bd, 0, none⟩), .pointer (some ⟨be, 0, none⟩)] w fun e w' =>
      e = .returned (.tuple #[]) ∧ Kept2 bb bl w w' ∧ QState w' bb bl B1 (foldQ o (seqsN m part rest)) := by
  intro m
  induction m with
  | zero =>
    intro vp vr part rest o w hm hlen henv hst hp hr hdp hdr
    have HR0 : rest = [] := List.length_eq_zero_iff.1 hm
    subst HR0
    obtain ⟨n, ao, cap, b1, o1, HN, rfl, _, _, _, _, HX⟩ := hr.ints.open_
    have hn0 : n = 0 := by have := HN.out; simpa using this.symm
    subst hn0
    have ebd := henv.1
    have HDO := hid (do_any bb bl B1 vp part o w hst hp (by omega) hdp.at_)
    clear henv hst hp hr hdp hdr HX HN hm
    go_enter Try.func28, Try.ntmps28
    go_wp2_with fail
    refine HDO.out.mono ?_
    rintro e w1 ⟨rfl, hk, hs⟩
    have HK := hid hk
    have HS := hid hs
    clear hk hs
    go_wp2
    refine wp_loop_rounds 1 ?_
    rw [rounds_succ]
    go_wp2
    go_end0
    exact ⟨rfl, HK.out, HS.out⟩
  | succ m ih =>
    intro vp vr part rest o w hm hlen henv hst hp hr hdp hdr
    have IH := hid ih
    obtain ⟨n, ao, cap, b1, o1, HN, rfl, ha1, hc1, hn1, hm1, HX⟩ := hr.ints.open_
    have hn0 : n = m + 1 := by rw [← HN.out]; exact hm
    subst hn0
    obtain ⟨rfl, hb1⟩ := ha1 (by omega)
    have HP := hid hp
    have HRR := hid hr
    have HDP := hid hdp
    have HDR := hid hdr
    have HENV := hid henv
    have HST := hid hst
    have HALL := hid (uptoQ_all m part rest o)
    have HC1 := hid hc1
    have hne : ((m : Int) + 1 == 0) = false := by simp; omega
    have HBB := hid (show bb < B1 ∧ bl < B1 from ⟨henv.2.2.2.2.2.2.1, henv.2.2.2.2.2.2.2⟩)
    clear henv hst hp hr hdp hdr hc1 ih ha1 hm
    have hnn := hn1
    go_enter Try.func28, Try.ntmps28
    go_wp2
    go_loopw [6, 7, 16] (fun _ _ ii wr => ∃ k : Nat, k ≤ m + 1 ∧ ii = .int .i64 k ∧ Hid (Kept2 bb bl w wr) ∧ Hid (QState wr bb bl B1 (uptoQ m part rest o k))) (fun _ _ ii _ => m + 1 - (intOf ii).toNat)
    case atStart => exact ⟨0, by omega, rfl, hid (kept2_refl _ _ _), hid HST.out⟩
    case round =>
      obtain ⟨k, hk, rfl, HK, HS⟩ := hrel
      clear HST
      by_cases hlt : k < m + 1
      · have hkx : k < rest.length := by rw [HN.out]; omega
        have hb1r : b1 < wr.heap.size := Nat.lt_of_lt_of_le hb1 HK.out.size
        have HRW := hid (HRR.out.kept2 HK.out HBB.out.1 HBB.out.2)
        have HPW := hid (HP.out.kept2 HK.out HBB.out.1 HBB.out.2)
        have HEW := hid (HENV.out.kept HK.out)
        obtain ⟨g1, cap1, hgv, hgB, _⟩ := HRW.out.shape HN.out (by omega)
        simp only [Value.slice.injEq, Option.some.injEq, Addr.mk.injEq] at hgv
        obtain ⟨⟨rfl, rfl, _⟩, _, rfl⟩ := hgv
        have ec : ∀ i, i < m + 1 → wr.cell? ⟨b1, i, none⟩ = some (.int .i64 (rest.getD i 0)) := fun i hi => by
          have h1 := HRW.out.cell HN.out hi
          exact h1
        have e1 : wr.cell? ⟨b1, k, none⟩ = some (.int .i64 (rest.getD k 0)) := ec k hlt
        have e0 : 0 < k → wr.cell? ⟨b1, k-1, none⟩ = some (.int .i64 (rest.getD (k-1) 0)) := fun h => ec (k-1) (by omega)
        have hdx := HDR.out.at_ k hkx
        have HSU := hid (uptoQ_succ m part rest o k)
        have HSN := hid (HDP.out.snoc hdx)
        have HER := hid (HDR.out.erase k)
        have HLE := hid (length_eraseIdx' (n := m) HN.out hlt)
        have hltI : (k : Int) < (m : Int) + 1 := by omega
        have hk0 : (0 : Int) ≤ k := by omega
        have hw1 : IntKind.i64.wrap ((k : Int) + 1) = (k : Int) + 1 := IntWalk.i64_in _ (by omega)
        have hw2 : IntKind.i64.wrap ((k : Int) - 1) = (k : Int) - 1 := IntWalk.i64_in _ (by omega)
        have HIH : Hid (∀ (vA vD : Value) (gb : Nat) (W : World), Reg wr W wr.heap.size vA (part ++ [rest.getD k 0]) wr.heap.size vD (rest.eraseIdx k) gb (.int .i64 (rest.getD k 0)) →
            Calls Try.prog 28 #[vA, vD, .pointer (some ⟨bd, 0, none⟩), .pointer (some ⟨be, 0, none⟩)] W fun e w' =>
              e = .returned (.tuple #[]) ∧ Kept2 bb bl wr w' ∧ QState w' bb bl B1 (foldQ (uptoQ m part rest o k) (seqsN m (part ++ [rest.getD k 0]) (rest.eraseIdx k)))) := hid fun vA vD gb W hR => by
          have hkW : Kept2 bb bl wr W := kept2_below hR.1
          have hB1 : B1 ≤ wr.heap.size := by obtain ⟨v, _, _, _, _, _, _, _, _, h9⟩ := HS.out; exact h9
          refine (IH.out vA vD (part ++ [rest.getD k 0]) (rest.eraseIdx k) (uptoQ m part rest o k) W HLE.out (by rw [List.length_append, List.length_cons, List.length_nil]; omega) (HEW.out.kept hkW) (HS.out.later hR.1)
            (hR.2.1.mono hB1) (hR.2.2.1.mono hB1) HSN.out HER.out).mono ?_
          rintro e w' ⟨he, h1, h2⟩
          exact ⟨he, kept2_trans hkW h1, h2⟩
        have HR0 := hid (reg_drew (reg_start HS.out HPW.out HRW.out))
        have hlp : part.length ≤ 1048576 := by omega
        have hlr : rest.length ≤ 1048576 := by rw [HN.out]; omega
        have ebe := HEW.out.2.1
        have HKEEP : Hid (∀ W, Kept2 bb bl wr W → W.cell? ⟨be, 0, none⟩ = some (.func (.func 28) #[] #[.pointer (some ⟨bd, 0, none⟩), .pointer (some ⟨be, 0, none⟩)]) ∧ Kept2 bb bl wr W) := hid fun W h => ⟨(HEW.out.kept h).2.1, h⟩
        obtain ⟨FQ, hFQ⟩ : ∃ FQ, foldQ (uptoQ m part rest o k) (seqsN m (part ++ [rest.getD k 0]) (rest.eraseIdx k)) = FQ := ⟨_, rfl⟩
        rw [hFQ] at HIH HSU
        clear hFQ
        obtain ⟨x, hx⟩ : ∃ x, rest.getD k 0 = x := ⟨_, rfl⟩
        rw [hx] at HIH e1 hdx HSN
        have HX0 := hid hx
        clear hx ec HDP HDR HENV HP HRR HX HN HC1 HALL hnn
        have hR := HR0.out
        rcases Nat.eq_zero_or_pos k with h0 | h0
        · subst h0
          have HFR : Hid (freshAt rest 0 = true) := hid rfl
          clear e0 hw1 hw2 hk0
          go_wp2
          go_region_held3 (fun w' => w'.cell? ⟨be, 0, none⟩ = some (.func (.func 28) #[] #[.pointer (some ⟨bd, 0, none⟩), .pointer (some ⟨be, 0, none⟩)]) ∧ Kept2 bb bl wr w')
            (first
              | exact HKEEP.out _ hKF
              | exact HKEEP.out _ (kept2_below hR.1)
              | exact HKEEP.out _ (kept2_below (hR.1.alloc hR.1.size _))
              | exact HKEEP.out _ (kept2_below (hRb.1)))
            (first
              | (go_at_call 29; refine (regClone1 vp hR hlp).mono ?_; rintro e w' ⟨v, rfl, hR⟩)
              | (go_at_call 29; refine (regClone1 vp (reg_box hR _ _) hlp).mono ?_; rintro e w' ⟨v, rfl, hR⟩)
              | (go_at_call 29; refine (regClone2 _ hR hlr).mono ?_; rintro e w' ⟨v, rfl, hR⟩)
              | (go_at_call 29; refine (regClone2 _ (reg_box hR _ _) hlr).mono ?_; rintro e w' ⟨v, rfl, hR⟩)
              | (go_at_call 30; refine (regDelete 0 hR hkx).mono ?_; rintro e w' ⟨v, rfl, hR⟩)
              | (go_at_call 30; refine (regDelete 0 (reg_box hR _ _) hkx).mono ?_; rintro e w' ⟨v, rfl, hR⟩)
              | (go_at_call 28; refine (HIH.out _ _ _ _ hR).mono ?_; rintro e w' ⟨rfl, hKF, hSF⟩)
              | (refine step_regAppend rfl _ _ rfl hR rfl rfl hlp ?_; intro vA w' hR)
              | (refine step_regAppend rfl _ _ rfl (reg_box hR _ _) rfl rfl hlp ?_; intro vA w' hR))
          all_goals
            have HKF := hid (kept2_trans HK.out hKF)
            have HSF := hid hSF
            clear hKF hSF hR ebe
            go_wp2
            go_roundw
            case rel => exact ⟨1, by omega, rfl, HKF, by rw [HSU.out, if_pos HFR.out]; exact HSF⟩
            case measure => simp [intOf]
        · obtain ⟨j, hj⟩ : ∃ j, k = j + 1 := ⟨k - 1, by omega⟩
          have e2 := e0 h0
          rw [show k - 1 = j by omega] at e2
          have hgt : ((0 : Int) < (k : Int)) := by omega
          have hj0 : (0 : Int) ≤ j := by omega
          have hj1 : (j : Int) < (m : Int) + 1 := by omega
          have hi3 : (k : Int) - 1 = j := by omega
          rw [hi3] at hw2
          obtain ⟨y, hy⟩ : ∃ y, rest.getD j 0 = y := ⟨_, rfl⟩
          rw [hy] at e2
          have HFF : Hid (freshAt rest k = !decide (x = y)) := hid (by
            have h1 := HX0.out
            simp only [freshAt]
            rw [show k - 1 = j by omega, hy, h1, show (k == 0) = false by simp; omega]
            by_cases e : x = y <;> simp [e])
          clear e0 h0 hy hj
          by_cases hxy : x = y
          · subst hxy
            have HFR : Hid (freshAt rest k = false) := hid (by rw [HFF.out]; simp)
            clear hR ebe HFF
            go_wp2
            go_roundw
            case rel => exact ⟨k+1, by omega, by go_num, HK, by rw [HSU.out, HFR.out]; exact HS⟩
            case measure => simp [intOf]; omega
          · have HFR : Hid (freshAt rest k = true) := hid (by rw [HFF.out]; simp [hxy])
            clear HFF
            go_wp2
            go_region_held3 (fun w' => w'.cell? ⟨be, 0, none⟩ = some (.func (.func 28) #[] #[.pointer (some ⟨bd, 0, none⟩), .pointer (some ⟨be, 0, none⟩)]) ∧ Kept2 bb bl wr w')
              (first
                | exact HKEEP.out _ hKF
                | exact HKEEP.out _ (kept2_below hR.1)
                | exact HKEEP.out _ (kept2_below (hR.1.alloc hR.1.size _))
                | exact HKEEP.out _ (kept2_below (hRb.1)))
              (first
                | (go_at_call 29; refine (regClone1 vp hR hlp).mono ?_; rintro e w' ⟨v, rfl, hR⟩)
                | (go_at_call 29; refine (regClone1 vp (reg_box hR _ _) hlp).mono ?_; rintro e w' ⟨v, rfl, hR⟩)
                | (go_at_call 29; refine (regClone2 _ hR hlr).mono ?_; rintro e w' ⟨v, rfl, hR⟩)
                | (go_at_call 29; refine (regClone2 _ (reg_box hR _ _) hlr).mono ?_; rintro e w' ⟨v, rfl, hR⟩)
                | (go_at_call 30; refine (regDelete k hR hkx).mono ?_; rintro e w' ⟨v, rfl, hR⟩)
                | (go_at_call 30; refine (regDelete k (reg_box hR _ _) hkx).mono ?_; rintro e w' ⟨v, rfl, hR⟩)
                | (go_at_call 28; refine (HIH.out _ _ _ _ hR).mono ?_; rintro e w' ⟨rfl, hKF, hSF⟩)
                | (refine step_regAppend rfl _ _ rfl hR rfl rfl hlp ?_; intro vA w' hR)
                | (refine step_regAppend rfl _ _ rfl (reg_box hR _ _) rfl rfl hlp ?_; intro vA w' hR))
            all_goals
              have HKF := hid (kept2_trans HK.out hKF)
              have HSF := hid hSF
              clear hKF hSF hR ebe
              go_wp2
              go_roundw
              case rel => exact ⟨k+1, by omega, by go_num, HKF, by rw [HSU.out, if_pos HFR.out]; exact HSF⟩
              case measure => simp [intOf]; omega
      · obtain rfl : k = m + 1 := by omega
        have hlt' : ¬ ((m : Int) + 1 < (m : Int) + 1) := by omega
        go_wp2
        go_end0
        exact ⟨rfl, HK.out, by rw [← HALL.out]; exact HS.out⟩
end Go.Proofs.Ythndabijojjokaa
