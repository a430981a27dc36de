import Derived.Test.YthndabijojjokaaRowsI
import Derived.Deep.RegionHeld3
import Derived.Deep.QuietTactic
import Derived.BigQuiet
namespace Go.Proofs.Ythndabijojjokaa
open Go.RowKit

/-! ## l7Orders -/
def outTo (n : Nat) (l : List Int) (i : Nat) : List (List Int) := (List.range i).flatMap fun i => (ordersN n (l.eraseIdx i)).map (l.getD i 0 :: ·)
theorem outTo_succ (n : Nat) (l : List Int) (i : Nat) : outTo n l (i+1) = outTo n l i ++ (ordersN n (l.eraseIdx i)).map (l.getD i 0 :: ·) := by
  unfold outTo
  rw [List.range_succ, List.flatMap_append]
  simp
theorem outTo_all (n : Nat) (l : List Int) : outTo n l (n+1) = ordersN (n+1) l := rfl
def facN : Nat → Nat
  | 0 => 1
  | n+1 => (n+1) * facN n
theorem ordersN_len : ∀ (n : Nat) (l : List Int), (ordersN n l).length = facN n := by
  intro n
  induction n with
  | zero => intro l; rfl
  | succ n ih =>
    intro l
    have h : ∀ i, (outTo n l i).length = i * facN n := by
      intro i
      induction i with
      | zero => simp [outTo]
      | succ i ihi => rw [outTo_succ, List.length_append, ihi, List.length_map, ih, Nat.succ_mul]
    rw [← outTo_all, h]
    rfl
theorem facN_le {n : Nat} (h : n ≤ 5) : facN n ≤ 120 := by
  match n, h with
  | 0, _ => decide
  | 1, _ => decide
  | 2, _ => decide
  | 3, _ => decide
  | 4, _ => decide
  | 5, _ => decide
theorem outTo_len (n : Nat) (l : List Int) (i : Nat) : (outTo n l i).length = i * facN n := by
  induction i with
  | zero => simp [outTo]
  | succ i ihi => rw [outTo_succ, List.length_append, ihi, List.length_map, ordersN_len, Nat.succ_mul]
theorem ordersN_row (n : Nat) (l : List Int) (h : l.length = n) (k : Nat) : ((ordersN n l).getD k []).length ≤ n := by
  by_cases hk : k < (ordersN n l).length
  · have e : (ordersN n l).getD k [] = (ordersN n l)[k] := by simp [List.getD, hk]
    rw [e]
    have := (mem_ordersN n l _ h).1 (List.getElem_mem hk)
    have := this.length_eq
    omega
  · have e : (ordersN n l).getD k [] = [] := by simp [List.getD, show (ordersN n l).length ≤ k by omega]
    rw [e]; simp
theorem take_drop_erase (l : List Int) (i : Nat) : l.take i ++ l.drop (i+1) = l.eraseIdx i := (List.eraseIdx_eq_take_drop_succ l i).symm
theorem map_take_succ {R : List (List Int)} {k : Nat} (x : Int) (h : k < R.length) : (R.take (k+1)).map (x :: ·) = (R.take k).map (x :: ·) ++ [x :: R.getD k []] := by
  rw [List.take_succ_eq_append_getElem h, List.map_append]
  simp [List.getD, h]

theorem cell_box (w : World) (u : Value) (t : TypeId) : (w.alloc (.cells #[u] t)).cell? ⟨w.heap.size, 0, none⟩ = some u := by simp [go_sem]

set_option maxRecDepth 100000 in
set_option maxHeartbeats 8000000 in
theorem l7Orders_any : ∀ (n : Nat) (v1 : Value) (l : List Int) (w : World), Ints w v1 l → l.length = n → n ≤ 6 →
    Calls Try.prog 11 #[v1] w fun e w' => ∃ v, e = .returned v ∧ RowsI w' w.heap.size w'.heap.size v (ordersN n l) ∧ Below w.heap.size w w' := by
  intro n
  induction n with
  | zero =>
    intro v1 l w h1 hl _
    obtain ⟨N, ao, cap, b1, o1, HN, rfl, _, _, _, _, HX⟩ := h1.open_
    have hN0 : N = 0 := by rw [← HN.out]; exact hl
    subst hN0
    have HB1 := hid ((Below.refl w.heap.size w).alloc (Nat.le_refl _) (.cells #[] 3))
    have HO1 := hid (OwnI.lit0 w w.heap.size (Nat.le_refl _))
    clear h1 hl HX HN
    go_enter Try.func11, Try.ntmps11
    go_wp2
    go_ret
    have h := RowsI.lit1 HO1.out HB1.out.size
    refine ⟨_, rfl, ?_, HB1.out.alloc HB1.out.size _⟩
    have e : ((w.alloc (.cells #[] 3)).alloc (.cells #[.slice (some ⟨w.heap.size, 0, none⟩) 0 0] 22)).heap.size = (w.alloc (.cells #[] 3)).heap.size + 1 := by simp
    rw [e]
    simpa [ordersN] using h
  | succ n ih =>
    intro v1 l w h1 hl hn6
    have IH := hid ih
    obtain ⟨N, ao, cap, b1, o1, HN, rfl, ha1, hc1, hn1, hm1, HX⟩ := h1.open_
    have hN : N = n + 1 := by rw [← HN.out]; exact hl
    obtain ⟨rfl, hb1⟩ := ha1 (by omega)
    have HNE := hid hN
    have HC1 := hid hc1
    have hne : ((N : Int) == 0) = false := by simp; omega
    have hN6 : N ≤ 6 := by omega
    have hfac : facN n ≤ 120 := facN_le (by omega)
    have HALL := hid (outTo_all n l)
    have HLEN := hid (outTo_len n l)
    have HB1 := hid ((Below.refl w.heap.size w).alloc (Nat.le_refl _) (.cells #[] 22))
    have HR1 : Hid (RowsI (w.alloc (.cells #[] 22)) w.heap.size (w.alloc (.cells #[] 22)).heap.size (.slice (some ⟨w.heap.size, 0, none⟩) 0 0) (outTo n l 0)) := hid (by
      have h := RowsI.lit0 w w.heap.size (Nat.le_refl _)
      simpa [outTo] using h)
    clear h1 hl ih ha1 hc1 hN
    go_enter Try.func11, Try.ntmps11
    go_wp2
    generalize w.alloc (.cells #[] 22) = wa at *
    go_loopw [3, 4] (fun oo ii wr => ∃ i : Nat, i ≤ N ∧ ii = .int .i64 i ∧ Hid (RowsI wr w.heap.size wr.heap.size oo (outTo n l i)) ∧ Hid (Below w.heap.size w wr)) (fun _ ii _ => N - (intOf ii).toNat)
    case atStart => exact ⟨0, by omega, rfl, HR1, HB1⟩
    case round =>
      obtain ⟨i, hi, rfl, HR, HB⟩ := hrel
      clear HR1 HB1
      by_cases hlt : i < N
      · have hcr : ∀ j, j < N → wr.cell? ⟨b1, o1+j, none⟩ = some (.int .i64 (l.getD j 0)) := fun j hj => (HB.out.cell (by exact hb1)).trans (HC1.out j hj)
        have hb1r : b1 < wr.heap.size := Nat.lt_of_lt_of_le hb1 HB.out.size
        have e1 := hcr i hlt
        have HTK := hid (Ints.take hcr hb1r HN.out hn1 hm1 hi)
        have HDP := hid (Ints.dropIf hcr hb1r HN.out hn1 hm1 (show i + 1 ≤ N from hlt))
        obtain ⟨ad, had⟩ : ∃ ad, (if cap = i + 1 then some (⟨b1, o1, none⟩ : Addr) else some ⟨b1, o1 + (i + 1), none⟩) = ad := ⟨_, rfl⟩
        rw [had] at HDP
        have HER := hid (take_drop_erase l i)
        have HLE := hid (length_eraseIdx' (n := n) (i := i) (by rw [HN.out]; exact HNE.out) (by have := HNE.out; omega))
        have hltk : (l.take i).length ≤ 1048576 := by rw [List.length_take, HN.out]; omega
        have hldr : (l.drop (i+1)).length ≤ 1048576 := by rw [List.length_drop, HN.out]; omega
        have HSU := hid (outTo_succ n l i)
        have HLR := hid (ordersN_len n (l.eraseIdx i))
        have HLO := hid (HLEN.out i)
        have hi0 : (0 : Int) ≤ i := by omega
        have hiN : (i : Int) ≤ N := by omega
        have hiI : (i : Int) < N := by omega
        have hi1 : (0 : Int) ≤ (i : Int) + 1 := by omega
        have hi2 : (i : Int) + 1 ≤ N := by omega
        have hw1 : IntKind.i64.wrap ((i : Int) + 1) = (i : Int) + 1 := IntWalk.i64_in _ (by omega)
        have HD0 : Hid (Below wr.heap.size wr wr.drew) := hid ((Below.refl _ _).drew)
        have hicap : (i : Int) ≤ cap := by omega
        have hNcap : (N : Int) ≤ cap := by omega
        have hicap2 : i ≤ cap := by omega
        go_wp2
        go_region_held3 (fun w' => Below wr.heap.size wr w')
          (first
            | exact HD0.out
            | exact hbF
            | exact hbA
            | exact hbC)
          (first
            | (go_at_call 22; refine (l1Own_any _ (l.take i) _ (HTK.out.later HD0.out) hltk).mono ?_; rintro e w' ⟨vc, rfl, hoC, hbC⟩; replace hbC := HD0.out.trans hbC)
            | (go_at_call 11; refine (IH.out _ _ _ hoA.ints HLE.out (by omega)).mono ?_; rintro e w' ⟨v5, rfl, ho5, hb5⟩; have hbF := hbA.trans (hb5.mono hbA.size))
            | (refine step_appendAll _ rfl _ _ rfl wr.heap.size _ (l.take i) hoC rfl _ (l.drop (i+1)) rfl (HDP.out.later hbC) hltk hldr hbC.size ?_; intro vA wA hoA hgA; have hbA := hbC.grown hgA hbC.size (fun k hk => (hoC.blk k hk).1); rw [HER.out] at hoA))
        have HV5 := hid (ho5.wide (B' := wr.heap.size) hbA.size (Nat.le_refl _))
        have HRO := hid (HR.out.next hbF)
        have HOFF : Hid (∀ g, u3.ownBlock = some g → g < wr.heap.size ∨ w'.heap.size ≤ g) := hid (fun g hg => .inl (HR.out.outer g hg).2)
        have HBF := hid (HB.out.trans (hbF.mono HB.out.size))
        have hz5 : w.heap.size ≤ wr.heap.size := HB.out.size
        have hy5 : w'.heap.size ≤ w'.heap.size := Nat.le_refl _
        clear ho5 hb5 hbA hbF hoA hgA hbC hoC HD0 HR HB HTK HDP had hw1
        obtain ⟨R, hR⟩ : ∃ R, ordersN n (l.eraseIdx i) = R := ⟨_, rfl⟩
        have HRL := hid (ordersN_row n (l.eraseIdx i) HLE.out)
        rw [hR] at HV5 HSU HLR HRL
        obtain ⟨ao5, cap5, rfl, hq1, hq2⟩ := HV5.out.form
        obtain ⟨q, hq⟩ : ∃ q, R.length = q := ⟨_, rfl⟩
        obtain ⟨x, hx⟩ : ∃ x, l.getD i 0 = x := ⟨_, rfl⟩
        rw [hx] at HSU
        have HCX := hid (hx ▸ HC1.out i hlt)
        have HQ := hid hq
        rw [hq] at hq1 HV5 HLR ⊢
        have hqle : q ≤ 120 := by have := HLR.out; omega
        have hile : i * facN n ≤ 720 := Nat.le_trans (Nat.mul_le_mul (show i ≤ 6 by omega) hfac) (by decide)
        have HRO0 : Hid (RowsI w' w.heap.size w'.heap.size u3 (outTo n l i ++ (R.take 0).map (x :: ·))) := hid (by simpa using HRO.out)
        clear hx hR hq HRO e1 hcr
        have HZB := hid (show b1 < w.heap.size from hb1)
        obtain ⟨z5, hz⟩ : ∃ z5, wr.heap.size = z5 := ⟨_, rfl⟩
        obtain ⟨y5, hy⟩ : ∃ y5, w'.heap.size = y5 := ⟨_, rfl⟩
        have HY : Hid (y5 ≤ w'.heap.size) := hid (by omega)
        rw [hz] at HV5 HOFF hz5
        rw [hy] at HV5 HOFF
        clear hz hy hy5
        go_wp2
        go_loopw [3, 6] (fun oo2 kk wr2 => ∃ k : Nat, k ≤ q ∧ kk = .int .i64 k ∧ Hid (RowsI wr2 w.heap.size wr2.heap.size oo2 (outTo n l i ++ (R.take k).map (x :: ·))) ∧ Hid (RowsI wr2 z5 y5 (.slice ao5 q cap5) R) ∧ Hid (∀ g, oo2.ownBlock = some g → g < z5 ∨ y5 ≤ g) ∧ Hid (y5 ≤ wr2.heap.size) ∧ Hid (Below w.heap.size w wr2)) (fun _ kk _ => q - (intOf kk).toNat)
        case atStart => exact ⟨0, by omega, rfl, HRO0, HV5, HOFF, HY, HBF⟩
        case round =>
          obtain ⟨k, hk, rfl, HR2, HV2, HOFF2, HY2, HB2⟩ := hrel
          clear HRO0 HV5 HOFF HY HBF
          by_cases hkq : k < q
          · obtain ⟨g5, cap5', u, hv5, hg5, hcu, hou, hue⟩ := HV2.out.at_ (show k < R.length by rw [HQ.out]; exact hkq)
            simp only [Value.slice.injEq] at hv5
            obtain ⟨rfl, hq9, rfl⟩ := hv5
            clear hq9
            have hg5r := HV2.out.outer g5 rfl
            have HMS := hid (map_take_succ x (show k < R.length by rw [HQ.out]; exact hkq))
            have e1 : wr.cell? ⟨b1, o1+i, none⟩ = some (.int .i64 x) := (HB2.out.cell (by exact hb1)).trans HCX.out
            have HKEEP : Hid (∀ W, wr.grownBy W u3.ownBlock → W.cell? ⟨b1, o1+i, none⟩ = some (.int .i64 x) ∧ W.cell? ⟨g5, k, none⟩ = some u ∧ wr.grownBy W u3.ownBlock) := hid (fun W hg => by
              refine ⟨hg.cell e1 (fun e => ?_), hg.cell hcu (fun e => ?_), hg⟩
              · have := (HR2.out.outer _ e.symm).1; simp at this; omega
              · have := HOFF2.out _ e.symm; simp at this; omega)
            have HO1 := hid (OwnI.lit1 wr.drew wr.heap.size x (Nat.le_refl _))
            have HBX : Hid (Below wr.heap.size wr (wr.drew.alloc (.cells #[.int .i64 x] 3))) := hid ((Below.refl _ _).drew.alloc (Nat.le_refl _) _)
            have HU := hid (hou.ints.later HBX.out)
            have HRW := hid (fun W (hb : Below wr.heap.size wr W) => HR2.out.next hb)
            have hlu : (R.getD k []).length ≤ 1048576 := by have := HRL.out k; omega
            have hlo : (outTo n l i ++ (R.take k).map (x :: ·)).length ≤ 1048576 := by rw [List.length_append, List.length_map, List.length_take, HLO.out]; omega
            have HNB := hid (fun (vi : Value) (W : World) (ys : List Int) (h : OwnI W wr.heap.size vi ys) => (show vi.ownBlock = none ∨ vi.ownBlock ≠ u3.ownBlock from by
              cases hv : vi.ownBlock with
              | none => exact .inl rfl
              | some g =>
                right
                intro e
                have h1 := (h.blk g hv).1
                have h2 := (HR2.out.outer g e.symm).2
                omega))
            obtain ⟨nl, hnl⟩ : ∃ nl, ([x] ++ R.getD k []).length = nl := ⟨_, rfl⟩
            have hnl0 : 0 < nl := by rw [← hnl]; simp
            have HNL := hid hnl
            clear hnl
            have hk0 : (0 : Int) ≤ k := by omega
            have hkI : (k : Int) < q := by omega
            have hs2 : w.heap.size ≤ wr.heap.size := HB2.out.size
            have hcq : q ≤ cap5 := hq1
            have hw1 : IntKind.i64.wrap ((k : Int) + 1) = (k : Int) + 1 := IntWalk.i64_in _ (by omega)
            clear hou hue
            go_wp2
            go_region_held3 (fun W => W.cell? ⟨b1, o1+i, none⟩ = some (.int .i64 x) ∧ W.cell? ⟨g5, k, none⟩ = some u ∧ wr.grownBy W u3.ownBlock)
              (first
                | exact HKEEP.out _ (grown_of_below ((Below.refl _ _).drew) _)
                | exact HKEEP.out _ hgF
                | exact HKEEP.out _ (grown_of_below hbI _)
                | exact HKEEP.out _ (grown_of_below (hbI.alloc hbI.size _) _)
                | exact HKEEP.out _ (grown_of_below HBX.out _))
              (first
                | (refine step_appendAll _ rfl _ _ rfl wr.heap.size _ [x] HO1.out rfl _ (R.getD k []) rfl HU.out (by simp) hlu HBX.out.size ?_; intro vi wI hoI hgI; obtain ⟨gi, capi, rfl, _, _⟩ := hoI.shape HNL.out hnl0; have hbI := HBX.out.grown hgI HBX.out.size (fun k hk => (HO1.out.blk k hk).1))
                | (refine step_appendRow _ rfl _ _ rfl w.heap.size _ _ (HRW.out _ (hbI.alloc hbI.size _)) rfl _ (x :: R.getD k []) ((hoI.alloc _).mono hs2) (HNB.out _ _ _ hoI) _ rfl (cell_box _ _ _) hlo (Nat.le_trans hs2 (hbI.alloc hbI.size _).size) ?_; intro v' w4 hr4 hg4 hv4; have hgF := grown_trans (grown_of_below (hbI.alloc hbI.size _) _) hg4))
            have HRF : Hid (RowsI w4 w.heap.size w4.heap.size v' (outTo n l i ++ (R.take (k+1)).map (x :: ·))) := hid (by rw [HMS.out, ← List.append_assoc]; exact hr4)
            have HVF := hid (HV2.out.kept hgF HOFF2.out)
            have HOF : Hid (∀ g, v'.ownBlock = some g → g < z5 ∨ y5 ≤ g) := hid (fun g hg => by
              rcases hv4 with e | ⟨g', e, hge⟩
              · exact HOFF2.out g (e ▸ hg)
              · rw [e] at hg
                simp only [Option.some.injEq] at hg
                subst hg
                exact .inr (Nat.le_trans (Nat.le_trans HY2.out (hbI.alloc hbI.size _).size) hge))
            have HYF : Hid (y5 ≤ w4.heap.size) := hid (Nat.le_trans HY2.out hgF.size)
            have HBF := hid (HB2.out.grown hgF HB2.out.size (fun g hg => (HR2.out.outer g hg).1))
            clear hgF hr4 hg4 hv4 hbI hoI hgI HKEEP HO1 HBX HU HRW HNB HR2 HV2 HOFF2 HY2 HB2 e1 hcu
            go_wp2
            go_roundw
            case rel => exact ⟨k+1, by omega, by go_num, HRF, HVF, HOF, HYF, HBF⟩
            case measure => simp [intOf]; omega
          · have hkq2 : k = q := by omega
            have HRN : Hid (RowsI wr w.heap.size wr.heap.size u3 (outTo n l (i+1))) := hid (by
              rw [HSU.out]
              have h := HR2.out
              rw [hkq2, List.take_of_length_le (by rw [HQ.out]; exact Nat.le_refl _)] at h
              exact h)
            have hkI : ¬ ((k : Int) < q) := by omega
            go_wp2
            go_roundw
            case rel => exact ⟨i+1, by omega, by go_num, HRN, HB2⟩
            case measure => simp [intOf]; omega
      · have hiN : i = N := by omega
        rw [hiN, HNE.out] at HR
        go_wp2
        go_ret
        exact ⟨_, rfl, by rw [← HALL.out]; exact HR.out, HB.out⟩
end Go.Proofs.Ythndabijojjokaa
