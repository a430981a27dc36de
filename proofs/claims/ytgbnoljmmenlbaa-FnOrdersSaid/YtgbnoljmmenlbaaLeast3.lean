import Derived.Test.YtgbnoljmmenlbaaTour3
import Derived.Test.YtgbnoljmmenlbaaLeastLaw
import Derived.Test.YtgbnoljmmenlbaaSorts
import Derived.Deep.CutBlock
import Derived.Deep.CutRange
import Derived.Deep.DeepCutAuto
namespace Go.Proofs.Ytgbnoljmmenlbaa
open Go.RowKit Go.Maps

theorem OwnI.spellT {w : World} {B n : Nat} {v : Value} {xs : List Int} (h : OwnI w B v xs) (hl : xs.length = n) : ∃ ao cap, v = .slice ao n cap := by
  subst hl
  rcases h.2 with ⟨rfl, h0⟩ | ⟨g, cap, cur, rfl, _⟩
  · exact ⟨none, 0, by rw [h0]⟩
  · exact ⟨_, _, rfl⟩

/-! ## leastOrder -/
def tourCells (sv mv : Value) (b : Int) : Array Value := (sv :: ((tabTo 100).map (Value.int .i64) ++ [mv, .int .i64 b])).toArray
set_option maxRecDepth 100000 in
theorem built_tour (ao : Option Addr) (n cap bm : Nat) : Try.prog.built 67 [(0, .slice ao n cap), (1, tabAgg), (2, .map (some bm)), (3, .int .i64 (-1))] = some (tourCells (.slice ao n cap) (.map (some bm)) (-1)) := by kernel_rfl
theorem tabTo_len (m : Nat) : (tabTo m).length = 100 := by simp [tabTo]
theorem tourCells_0 (sv mv : Value) (b : Int) : (tourCells sv mv b)[0]? = some sv := by simp [tourCells]
theorem tourCells_t (sv mv : Value) (b : Int) {p q : Nat} (hp : p < 10) (hq : q < 10) : (tourCells sv mv b)[1 + p * 10 + q]? = some (.int .i64 (dd p q)) := by
  have h1 : 1 + p * 10 + q = (p * 10 + q) + 1 := by omega
  have h2 := tabArr_get 100 (p * 10 + q) (by omega)
  rw [if_pos (by omega), tabAt_at hp hq] at h2
  unfold tabArr at h2
  rw [List.getElem?_toArray] at h2
  unfold tourCells
  rw [List.getElem?_toArray, h1, List.getElem?_cons_succ, List.getElem?_append_left (by rw [List.length_map, tabTo_len]; omega), h2]
  rfl
theorem tourCells_m (sv mv : Value) (b : Int) : (tourCells sv mv b)[101]? = some mv := by
  unfold tourCells
  rw [List.getElem?_toArray, List.getElem?_cons_succ, List.getElem?_append_right (by rw [List.length_map, tabTo_len]; omega), List.length_map, tabTo_len]
  rfl
theorem tourCells_b (sv mv : Value) (b : Int) : (tourCells sv mv b)[102]? = some (.int .i64 b) := by
  unfold tourCells
  rw [List.getElem?_toArray, List.getElem?_cons_succ, List.getElem?_append_right (by rw [List.length_map, tabTo_len]; omega), List.length_map, tabTo_len]
  rfl
theorem tourCells_set (sv mv : Value) (b d : Int) : (tourCells sv mv b).setIfInBounds 102 (.int .i64 d) = tourCells sv mv d := by
  unfold tourCells
  rw [List.setIfInBounds_toArray, List.set_cons_succ, List.set_append_right _ _ (by rw [List.length_map, tabTo_len]; omega), List.length_map, tabTo_len]
  rfl
theorem TourS.of {w : World} {tb bm n cap : Nat} {ao : Option Addr} {own : List Int} {back : Int} (h : TBlk w tb 67 (tourCells (.slice ao n cap) (.map (some bm)) back)) (hI : Ints w (.slice ao n cap) own) (hne : tb ≠ bm)
    (hoff : (Value.slice ao n cap).ownBlock = none ∨ (Value.slice ao n cap).ownBlock ≠ some bm) : TourS w tb bm n cap ao own back :=
  ⟨(h.cell 0).trans (tourCells_0 _ _ _), fun _ _ hp hq => (h.cell _).trans (tourCells_t _ _ _ hp hq), (h.cell 101).trans (tourCells_m _ _ _), (h.cell 102).trans (tourCells_b _ _ _), hI, h.lt, hne, hoff⟩

theorem grown_setCellT (w : World) (p : Addr) (u : Value) : w.grownBy (w.setCell p u) (some p.block) :=
  ⟨rfl, rfl, rfl, by simp [World.setCell], fun k _ hr => Below.heap_setCell w p u k (fun e => hr (by rw [e]))⟩
theorem wpList_build4 {P : Program} {w : World} {ops : Array Oper} {rest : List Oper} {o : Oper} {a : Act} {Q : Exit → Act → World → Prop} (hg : o.guard = none) (t : TypeId) (x0 x1 x2 x3 : Operand) (hop : o.op = Op.build t #[(0, x0), (1, x1), (2, x2), (3, x3)])
    (v0 v1 v2 v3 : Value) (h0 : a.eval x0 = v0) (h1 : a.eval x1 = v1) (h2 : a.eval x2 = v2) (h3 : a.eval x3 = v3) (v : Value) (hrun : (Instr.build t #[(0, v0), (1, v1), (2, v2), (3, v3)]).run P w = .ok v w) (hK : wpList P ops Q rest (a.put o.dst v) w) : wpList P ops Q (o :: rest) a w := by
  refine wpList_plain hg fun K' hK' => ?_
  unfold Oper.wp execOp
  simp only [hop, Sem.run_bind, List.map_toArray, List.map_cons, List.map_nil, h0, h1, h2, h3, hrun, Result.andThen_ok]
  exact hK' _ _ hK

set_option maxRecDepth 100000 in
set_option maxHeartbeats 4000000 in
theorem leastOrder_any (v1 : Value) (xs : List Int) (ring : Bool) (w : World) (h1 : Ints w v1 xs) (hord : orderB xs = true) :
    Calls Try.prog 30 #[v1, .bool ring] w fun e w' =>
      ∃ v, e = .returned (.tuple #[v, .int .i64 (loK (sortI xs) ring (sortI xs).length).2, .bool true]) ∧ OwnI w' w.heap.size v (loK (sortI xs) ring (sortI xs).length).1 ∧ Below w.heap.size w w' := by
  obtain ⟨n, ao, cap, b1, o1, HN, rfl, _, _, _, _, HX⟩ := h1.open_
  have HORD := hid hord
  have H10 := hid (order_len hord)
  have HS10 : Hid ((sortI xs).length ≤ 10) := hid (sortO_len hord)
  have HND : Hid ((sortI xs).Nodup) := hid (sortO_nodup hord)
  have HDG : Hid (∀ x ∈ sortI xs, 0 ≤ x ∧ x ≤ 9) := hid (fun x hx => sortO_dig hord hx)
  have HSL := hid (show (sortI xs).length = n by rw [sortI_length]; exact HN.out)
  clear h1 hord
  have hmm := @run_makeMap Try.prog
  go_enter Try.func30, Try.ntmps30
  go_wp2_with fail
  refine (isOrder_any _ xs _ HX.out).mono ?_
  rintro e w1 ⟨rfl, rfl⟩
  rw [HORD.out]
  go_wp2_with fail
  refine (Values_any _ _ _ _).mono ?_
  rintro e w3 ⟨rfl, rfl⟩
  have HB4 : Hid (Below w.heap.size w (w.alloc (.cells #[.slice ao n cap] 24))) := hid ((Below.refl _ _).alloc (Nat.le_refl _) _)
  have CV : Hid ((w.alloc (.cells #[.slice ao n cap] 24)).cell? ⟨w.heap.size, 0, none⟩ = some (.slice ao n cap)) := hid (by simp [go_sem])
  have SV : Hid (w.heap.size < (w.alloc (.cells #[.slice ao n cap] 24)).heap.size) := hid (by simp)
  have HXV2 := hid (HX.out.later HB4.out)
  generalize w.alloc (.cells #[.slice ao n cap] 24) = w4 at *
  go_wp2_with fail
  refine (Sorted_any _ _ xs (by have := H10.out; omega) w4 SV.out CV.out HXV2.out).mono ?_
  rintro e w5 ⟨v5, rfl, ho, hb⟩
  generalize hown : sortI xs = own at *
  have HOWN := hid hown
  clear hown
  have HB5 := hid (HB4.out.trans (hb.mono HB4.out.size))
  obtain ⟨ao5, cap5, hv5⟩ := ho.spellT HSL.out
  subst hv5
  have HO5 := hid (ho.mono HB4.out.size)
  clear ho hb CV SV HXV2 HX HORD HB4
  go_wp2_with fail
  clear HN H10
  go_loopw [8, 9, 10, 11, 12, 13, 14, 23] (fun oo ll _ _ _ _ _ kk wr => ∃ k : Nat, k ≤ n ∧ kk = .int .i64 k ∧ ll = .int .i64 (loK own ring k).2 ∧ Hid (OwnI wr w.heap.size oo (loK own ring k).1) ∧ Hid (Below w5.heap.size w5 wr)) (fun _ _ _ _ _ _ _ kk _ => n - (intOf kk).toNat)
  case atStart => exact ⟨0, by omega, rfl, rfl, hid (OwnI.nil _ _), hid (Below.refl _ _)⟩
  case round =>
    obtain ⟨k, hk, rfl, rfl, HOL, HBL⟩ := hrel
    by_cases hlt : k < n
    · obtain ⟨n', ao', cap', b1, o1, HN, he, ha1, hc1, hn1, hm1, HX⟩ := (HO5.out.ints.later HBL.out).open_
      simp only [Value.slice.injEq] at he
      obtain ⟨rfl, rfl, rfl⟩ := he
      obtain ⟨rfl, hb1⟩ := ha1 (by omega)
      have e1 := hc1 k hlt
      have HSTEP := hid (show loK own ring (k+1) = if k = 0 ∨ costK own ring k < (loK own ring k).2 then (ordK own ring k, costK own ring k) else loK own ring k from rfl)
      have HLR := hid (loK_range HS10.out ring k)
      have HCR := hid (costK_nonneg HS10.out ring k)
      have hdk : 0 ≤ own.getD k 0 ∧ own.getD k 0 ≤ 9 := HDG.out _ (by rw [show own.getD k 0 = own[k]'(by rw [HSL.out]; exact hlt) by simp [List.getD, HSL.out, hlt]]; exact List.getElem_mem _)
      have HCF : Hid (∀ (W : World) (tb bm : Nat), TourS W tb bm n cap5 (some ⟨b1, o1, none⟩) own (backI ring (own.getD k 0)) → Memo W bm 0 (tourF own (backI ring (own.getD k 0))) →
          Calls Try.prog 49 #[.pointer (some ⟨tb, 0, none⟩), .int .i64 k] W fun e w' => ∃ v, e = .returned (.tuple #[v, .int .i64 (costK own ring k)]) ∧ OwnI w' W.heap.size v (ordK own ring k) ∧ W.grownBy w' (some bm)) := hid fun W tb bm hT hM => by
        refine leastFrom_any tb bm n cap5 (some ⟨b1, o1, none⟩) own _ (by have := HS10.out; have := HSL.out; omega) HND.out ?_ ?_ k hlt W hT hM
        · intro i hi
          have hm : own.getD i 0 ∈ own := by rw [show own.getD i 0 = own[i] by simp [List.getD, hi]]; exact List.getElem_mem _
          have := HDG.out _ hm
          exact inB_mk (by omega) (by omega)
        · cases ring with
          | false => exact .inl rfl
          | true => exact .inr (inB_mk (by show (0 : Int) ≤ own.getD k 0; omega) (by show own.getD k 0 ≤ 9; omega))
      generalize own.getD k 0 = d at *
      have HCT : Hid (∀ w, Calls Try.prog 13 #[] w fun e w' => e = .returned tabAgg ∧ Below w.heap.size w w') := hid ChangeTable_any
      have HBU : Hid (∀ (w : World) (bm : Nat), (Instr.build 67 #[(0, .slice (some ⟨b1, o1, none⟩) n cap5), (1, tabAgg), (2, .map (some bm)), (3, .int .i64 (-1))]).run Try.prog w = .ok (.agg (tourCells (.slice (some ⟨b1, o1, none⟩) n cap5) (.map (some bm)) (-1))) w) := hid fun w bm => run_build w _ _ _ (built_tour _ _ _ _)
      have HOF : Hid (∀ (w : World) (tb bm : Nat) (back : Int), TBlk w tb 67 (tourCells (.slice (some ⟨b1, o1, none⟩) n cap5) (.map (some bm)) back) → Ints w (.slice (some ⟨b1, o1, none⟩) n cap5) own → tb ≠ bm → b1 ≠ bm → TourS w tb bm n cap5 (some ⟨b1, o1, none⟩) own back) := hid fun w tb bm back h1 h2 h3 h4 => TourS.of h1 h2 h3 (.inr (by simpa [Value.ownBlock] using h4))
      have HSET : Hid (∀ sv mv b d, (tourCells sv mv b).setIfInBounds 102 (.int .i64 d) = tourCells sv mv d) := hid tourCells_set
      have HC102 : Hid (∀ sv mv b, (tourCells sv mv b)[102]? = some (.int .i64 b)) := hid tourCells_b
      generalize tabAgg = TA at *
      generalize tourCells = TC at *
      have hk0 : (0 : Int) ≤ k := by omega
      have hkI : (k : Int) < n := by omega
      clear hc1 ha1
      go_wp2_with fail
      refine (HCT.out _).mono ?_
      rintro e w6 ⟨rfl, hb6⟩
      have HB6 := hid (HBL.out.trans (hb6.mono HBL.out.size))
      have hsz6 := hb6.size
      have HB6R := hid hb6
      have hsz0 := HBL.out.size
      clear hb6
      have HLT := hid (Nat.lt_of_lt_of_le hb1 hsz6)
      have HTB : Hid (TBlk ((w6.alloc (.map #[] 0)).alloc (.cells (TC (.slice (some ⟨b1, o1, none⟩) n cap5) (.map (some w6.heap.size)) (-1)) 67)) (w6.heap.size + 1) 67 (TC (.slice (some ⟨b1, o1, none⟩) n cap5) (.map (some w6.heap.size)) (-1))) := hid (by have := TBlk.new (w6.alloc (.map #[] 0)) 67 (TC (.slice (some ⟨b1, o1, none⟩) n cap5) (.map (some w6.heap.size)) (-1)); simpa using this)
      have HMM : Hid (∀ f, Memo ((w6.alloc (.map #[] 0)).alloc (.cells (TC (.slice (some ⟨b1, o1, none⟩) n cap5) (.map (some w6.heap.size)) (-1)) 67)) w6.heap.size 0 f) := hid fun f => (Memo.new w6 f).kept (row := none) (grown_of_below ((Below.refl _ _).alloc (Nat.le_refl _) _) none) (by simp)
      have HB8 : Hid (Below wr.heap.size wr ((w6.alloc (.map #[] 0)).alloc (.cells (TC (.slice (some ⟨b1, o1, none⟩) n cap5) (.map (some w6.heap.size)) (-1)) 67))) := hid ((HB6R.out.alloc hsz6 _).alloc (by simp; omega) _)
      have HS8 : Hid (((w6.alloc (.map #[] 0)).alloc (.cells (TC (.slice (some ⟨b1, o1, none⟩) n cap5) (.map (some w6.heap.size)) (-1)) 67)).heap.size = w6.heap.size + 2) := hid (by simp)
      go_upto_region 10 with (with_reducible refine wpList_build4 rfl 67 _ _ _ _ rfl (.slice (some ⟨b1, o1, none⟩) n cap5) TA (.map (some w6.heap.size)) (.int .i64 (-1)) (by with_unfolding_all rfl) (by with_unfolding_all rfl) (by with_unfolding_all rfl) (by with_unfolding_all rfl) _ (HBU.out _ _) ?_)
      generalize hW0 : (w6.alloc (.map #[] 0)).alloc (.cells (TC (.slice (some ⟨b1, o1, none⟩) n cap5) (.map (some w6.heap.size)) (-1)) 67) = W0 at *
      clear hW0 HBU HCT HB6 HB6R
      generalize w6.heap.size = bm at *
      have HSTEPS : Hid (∀ (W : World), TourS W (bm + 1) bm n cap5 (some ⟨b1, o1, none⟩) own (backI ring d) → Memo W bm 0 (tourF own (backI ring d)) → Below wr.heap.size wr W →
          Calls Try.prog 49 #[.pointer (some ⟨bm + 1, 0, none⟩), .int .i64 k] W fun e w' => ∃ v, e = .returned (.tuple #[v, .int .i64 (costK own ring k)]) ∧ OwnI w' w.heap.size v (ordK own ring k) ∧ OwnI w' w.heap.size u8 (loK own ring k).1 ∧ Below w5.heap.size w5 w') := hid fun W hT hM hB => by
        refine (HCF.out W (bm + 1) bm hT hM).mono ?_
        rintro e w' ⟨v, rfl, ho, hg⟩
        have hws : w.heap.size ≤ W.heap.size := by have := hB.size; have := HB5.out.size; omega
        refine ⟨v, rfl, ho.mono hws, ?_, ?_⟩
        · refine (HOL.out.later hB).kept hg ?_
          cases hv : u8.ownBlock with
          | none => exact .inl rfl
          | some q =>
            right
            intro e
            have := (World.ownsRow.lt HOL.out q hv).2
            simp only [Option.some.injEq] at e
            omega
        · exact (HBL.out.trans (hB.mono hsz0)).grown hg (by have := hB.size; omega) (fun q hq => by cases hq; omega)
      clear HCF
      generalize costK own ring k = c at *
      generalize ordK own ring k = ol at *
      generalize loK own ring k = lk at *
      have hkk : ((k : Int) == 0) = decide (k = 0) := by
        by_cases h : k = 0
        · subst h; rfl
        · rw [decide_eq_false h]; exact beq_eq_false_iff_ne.2 (by omega)
      have hL := HLR.out
      have hC := HCR.out
      cases ring with
      | false =>
        have HT8 := hid (HOF.out W0 (bm + 1) bm (-1) HTB.out (HX.out.later HB8.out) (by omega) (by have := HLT.out; omega))
        go_wp2_with fail
        refine (HSTEPS.out _ HT8.out (HMM.out _) HB8.out).mono ?_
        rintro e w9 ⟨v9, rfl, ho9, hl9, hb9⟩
        have HO9 := hid ho9
        have HL9 := hid hl9
        have HB9 := hid hb9
        clear ho9 hl9 hb9 HSTEPS HT8 HTB HMM HB8 HOF HSET HC102
        by_cases hz : k = 0
        · have hz0 : ((k : Int) == 0) = true := by rw [hkk, decide_eq_true hz]
          have HE := hid (HSTEP.out.trans (if_pos (.inl hz)))
          clear hkk
          go_wp2
          go_roundw
          case rel => exact ⟨k + 1, by omega, by go_num, int_eq (by rw [HE.out]), hid (by rw [HE.out]; exact HO9.out), HB9⟩
          case measure => simp [intOf]; omega
        · have hz0 : ((k : Int) == 0) = false := by rw [hkk, decide_eq_false hz]
          by_cases hc : c < lk.2
          · have HE := hid (HSTEP.out.trans (if_pos (.inr hc)))
            clear hkk
            go_wp2
            go_roundw
            case rel => exact ⟨k + 1, by omega, by go_num, int_eq (by rw [HE.out]), hid (by rw [HE.out]; exact HO9.out), HB9⟩
            case measure => simp [intOf]; omega
          · have HE := hid (HSTEP.out.trans (if_neg (by rintro (h | h); exact hz h; exact hc h)))
            clear hkk
            go_wp2
            go_roundw
            case rel => exact ⟨k + 1, by omega, by go_num, int_eq (by rw [HE.out]), hid (by rw [HE.out]; exact HL9.out), HB9⟩
            case measure => simp [intOf]; omega
      | true =>
        have c102 : W0.cell? ⟨bm + 1, 102, none⟩ = some (.int .i64 (-1)) := (HTB.out.cell 102).trans (HC102.out _ _ _)
        have f102 : W0.frozen? ⟨bm + 1, 102, none⟩ = false := HTB.out.frozen 102
        have HT8 : Hid (TourS (W0.setCell ⟨bm + 1, 102, none⟩ (.int .i64 d)) (bm + 1) bm n cap5 (some ⟨b1, o1, none⟩) own d) := hid (HOF.out _ (bm + 1) bm d (by rw [← HSET.out _ _ (-1) d]; exact HTB.out.set 102 _) ((HX.out.later HB8.out).aside (grown_setCellT W0 ⟨bm + 1, 102, none⟩ _) (.inr (by have := HLT.out; simp [Value.ownBlock]; omega))) (by omega) (by have := HLT.out; omega))
        have HM8 : Hid (∀ f, Memo (W0.setCell ⟨bm + 1, 102, none⟩ (.int .i64 d)) bm 0 f) := hid fun f => (HMM.out f).kept (grown_setCellT W0 ⟨bm + 1, 102, none⟩ _) (by simp)
        have HB8' : Hid (Below wr.heap.size wr (W0.setCell ⟨bm + 1, 102, none⟩ (.int .i64 d))) := hid (HB8.out.setCell (by simp; omega) _)
        clear HTB HMM HB8
        rename Hid (Below wr.heap.size wr (W0.setCell _ _)) => HB8
        rename Hid (∀ f, Memo (W0.setCell _ _) bm 0 f) => HMM
        have HTB := hid True.intro
        go_wp2_with fail
        refine (HSTEPS.out _ HT8.out (HMM.out _) HB8.out).mono ?_
        rintro e w9 ⟨v9, rfl, ho9, hl9, hb9⟩
        have HO9 := hid ho9
        have HL9 := hid hl9
        have HB9 := hid hb9
        clear ho9 hl9 hb9 HSTEPS HT8 HTB HMM HB8 HOF HSET HC102
        by_cases hz : k = 0
        · have hz0 : ((k : Int) == 0) = true := by rw [hkk, decide_eq_true hz]
          have HE := hid (HSTEP.out.trans (if_pos (.inl hz)))
          clear hkk
          go_wp2
          go_roundw
          case rel => exact ⟨k + 1, by omega, by go_num, int_eq (by rw [HE.out]), hid (by rw [HE.out]; exact HO9.out), HB9⟩
          case measure => simp [intOf]; omega
        · have hz0 : ((k : Int) == 0) = false := by rw [hkk, decide_eq_false hz]
          by_cases hc : c < lk.2
          · have HE := hid (HSTEP.out.trans (if_pos (.inr hc)))
            clear hkk
            go_wp2
            go_roundw
            case rel => exact ⟨k + 1, by omega, by go_num, int_eq (by rw [HE.out]), hid (by rw [HE.out]; exact HO9.out), HB9⟩
            case measure => simp [intOf]; omega
          · have HE := hid (HSTEP.out.trans (if_neg (by rintro (h | h); exact hz h; exact hc h)))
            clear hkk
            go_wp2
            go_roundw
            case rel => exact ⟨k + 1, by omega, by go_num, int_eq (by rw [HE.out]), hid (by rw [HE.out]; exact HL9.out), HB9⟩
            case measure => simp [intOf]; omega
    · have hkn : n = k := by omega
      subst hkn
      go_wp2
      go_ret3
      exact ⟨u8, by rw [HOWN.out, HSL.out]; rfl, by rw [HOWN.out, HSL.out]; exact HOL.out, HB5.out.trans (HBL.out.mono HB5.out.size)⟩
end Go.Proofs.Ytgbnoljmmenlbaa
