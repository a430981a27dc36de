import Derived.Test.YtfgjaefcfmjleaaGhosts
import Derived.Deep.DeepCutAuto
import Derived.Deep.CutRange
namespace Go.Proofs.Ytfgjaefcfmjleaa
open Go.RowKit

set_option maxRecDepth 100000 in
set_option maxHeartbeats 1000000 in
theorem l8Next_any (i : Nat) (v1 : Value) (xs : List (Int × Int)) (w : World) (h1 : Two w v1 xs) (hi : i < xs.length) (hl : xs.length ≤ 12) :
    Calls Try.prog 201 #[v1, .int .i64 i] w fun e w' => e = .returned (.agg #[.int .i64 (xs.getD ((i+1)%xs.length) (0,0)).1, .int .i64 (xs.getD ((i+1)%xs.length) (0,0)).2]) ∧ Below w.heap.size w w' := by
  obtain ⟨n, ao1, cap1, b1, o1, HN, rfl, ha1, hc1, hn1, hm1, HX⟩ := h1.open_
  clear h1
  rw [HN.out] at hi hl ⊢
  obtain ⟨rfl, hb1⟩ := ha1 (by omega)
  have hmlt : (i+1) % n < n := Nat.mod_lt _ (by omega)
  have HC2 := hid (hc1 ((i+1)%n) hmlt)
  have hmod : ((i:Int)+1).tmod (n:Int) = (((i+1)%n : Nat) : Int) := rfl
  have hmod' : ((i:Int)+1) % (n:Int) = (((i+1)%n : Nat) : Int) := rfl
  have e1 : w.cell? ⟨b1, o1+(i+1)%n*2, none⟩ = some (.int .i64 (xs.getD ((i+1)%n) (0,0)).1) := HC2.out.1
  have e2 : w.cell? ⟨b1, o1+(i+1)%n*2+1, none⟩ = some (.int .i64 (xs.getD ((i+1)%n) (0,0)).2) := HC2.out.2
  generalize (xs.getD ((i+1)%n) (0,0)).1 = c at *
  generalize (xs.getD ((i+1)%n) (0,0)).2 = b at *
  generalize (i+1) % n = m at *
  clear hc1 HC2
  have HB := hid ((Below.refl w.heap.size w).alloc (Nat.le_refl _) (.cells #[.int .i64 0, .int .i64 0] 108))
  have f1 : ∀ o, (w.alloc o).cell? ⟨b1, o1+m*2, none⟩ = some (.int .i64 c) := fun o => (((Below.refl w.heap.size w).alloc (Nat.le_refl _) o).cell (by exact hb1)).trans e1
  have f2 : ∀ o, (w.alloc o).cell? ⟨b1, o1+m*2+1, none⟩ = some (.int .i64 b) := fun o => (((Below.refl w.heap.size w).alloc (Nat.le_refl _) o).cell (by exact hb1)).trans e2
  have hi0 : (0 : Int) ≤ i := by omega
  have hin : (i : Int) < n := by omega
  have hm0 : (0 : Int) ≤ m := by omega
  have hmn : (m : Int) < n := by omega
  have hn0' : ¬ n = 0 := by omega
  have hw1 : IntKind.i64.wrap ((i:Int)+1) = (i:Int)+1 := IntWalk.i64_in _ (by omega)
  go_enter Try.func201, Try.ntmps201
  go_wp2
  refine bodyPost_ret (v := .agg #[.int .i64 c, .int .i64 b]) (by simp [results, Try.results201, go_sem]) rfl ⟨rfl, ?_⟩
  exact (Below.refl _ _).alloc (Nat.le_refl _) _

theorem run_field_cells (c b : Int) (w : World) : (Instr.field 108 (.agg #[.int .i64 c, .int .i64 b]) 0).run Try.prog w = .ok (.int .i64 c) w := by
  kernel_rfl
theorem run_field_bars (c b : Int) (w : World) : (Instr.field 108 (.agg #[.int .i64 c, .int .i64 b]) 1).run Try.prog w = .ok (.int .i64 b) w := by
  kernel_rfl

def ghostA (xs : List (Int × Int)) (x i : Nat) : Int := ghostAt xs (seenAt xs x xs.length) x i
theorem ghostA_start (xs : List (Int × Int)) (k : Nat) : stepRow (ghostA xs) k 0 0 = List.replicate k 0 := by
  rw [stepRow_zero]
  apply List.ext_getElem?
  intro x
  by_cases h : x < k <;> simp [h, ghostA, ghostAt]
theorem ghostA_end (xs : List (Int × Int)) (k : Nat) : stepRow (ghostA xs) k xs.length 0 = ghostF xs k := by
  rw [stepRow_zero]; rfl
theorem ghostA_yes {xs : List (Int × Int)} {x i k : Nat} (hx : x < k) (h : (bitI (xs.getD ((i+1)%xs.length) (0,0)).1 x == 1) = true) :
    bits .or .i64 ((stepRow (ghostA xs) k i x).getD x 0) (bits .andNot .i64 (xs.getD i (0,0)).2 ((seenF xs k).getD x 0)) = ghostA xs x (i+1) := by
  rw [stepRow_get hx]
  have : (seenF xs k).getD x 0 = seenAt xs x xs.length := by simp [seenF, List.getD, hx]
  rw [this]
  unfold ghostA
  rw [ghostAt, h, if_pos rfl]
theorem ghostA_no {xs : List (Int × Int)} {x i : Nat} (h : (bitI (xs.getD ((i+1)%xs.length) (0,0)).1 x == 1) = false) : ghostA xs x (i+1) = ghostA xs x i := by
  unfold ghostA
  rw [ghostAt, h]
  rfl

theorem OwnI.mk (W : World) (B q : Nat) (hB : B ≤ W.heap.size) (hq : q ≤ 1048576) : OwnI (W.alloc (.cells (madeCells #[Value.int .i64 0] q) 3)) B (.slice (some ⟨W.heap.size, 0, none⟩) q q) (List.replicate q 0) := by
  have h := World.ownsRow_lit (e := 3) (size := 1) (w := W) (madeCells #[Value.int .i64 0] q) q hB (by unfold maxLen; omega) (by simp [size_madeCells])
  exact OwnI.made (by simpa [go_sem] using h)

set_option maxRecDepth 100000 in
set_option maxHeartbeats 4000000 in
theorem specGhostsOf_any (k : Int) (v1 : Value) (xs : List (Int × Int)) (w : World) (h1 : Two w v1 xs) :
    Calls Try.prog 101 #[.int .i64 k, v1] w fun e w' => ∃ v, e = .returned (.tuple #[v, .bool (ghostR k xs).2]) ∧ OwnI w' w.heap.size v (ghostR k xs).1 ∧ Below w.heap.size w w' := by
  obtain ⟨n, ao1, cap1, b1, o1, HN, rfl, ha1, hc1, hn1, hm1, HX⟩ := h1.open_
  clear h1
  cases hs : drivenB k xs with
  | false =>
    rw [ghostR_no hs]
    go_enter Try.func101, Try.ntmps101
    go_wp2_with (go_at_call 195; refine (l8Good_any _ _ xs _ HX.out).mono ?_; rintro e w1 ⟨rfl, hb⟩)
    go_ret2
    exact ⟨_, rfl, OwnI.lit0 _ _ hb.size, hb.alloc hb.size _⟩
  | true =>
  have hl12 : n ≤ 12 := by have := (frameB_true (drivenB_true hs).2).1; rw [HN.out] at this; exact this
  obtain ⟨q, rfl, hq1, hq6⟩ := kNat (drivenB_true hs).1
  obtain ⟨i0, hi, hz0, hz1, hz2⟩ := info_parts infoInt
  rw [ghostR_yes hs]
  go_enter Try.func101, Try.ntmps101
  go_upto_region 3 with (go_at_call 195; refine (l8Good_any _ _ xs _ HX.out).mono ?_; rintro e w1 ⟨rfl, hb⟩; have HX1 := hid (HX.out.later hb))
  go_cut [6, 7] from 15 to 19 (fun a b wx => ∃ g2 cap2 g3 cap3 : Nat, a = .slice (some ⟨g2, 0, none⟩) q cap2 ∧ b = .slice (some ⟨g3, 0, none⟩) q cap3 ∧ w.heap.size ≤ g2 ∧ g3 ≠ g2 ∧
    Hid (OwnI wx w.heap.size (.slice (some ⟨g2, 0, none⟩) q cap2) (List.replicate q 0)) ∧ Hid (OwnI wx w.heap.size (.slice (some ⟨g3, 0, none⟩) q cap3) (seenF xs q)) ∧ Below w.heap.size w wx)
  case first =>
    have HX2 := hid (HX1.out.drawn 1)
    have hmk : ∀ W : World, (Instr.makeSlice 24 (.int .i64 q) (.int .i64 q)).run Try.prog W = .ok (.slice (some ⟨W.heap.size, 0, none⟩) q q) (W.alloc (.cells (madeCells #[Value.int .i64 0] q) 3)) := fun W => by
      have hr := run_makeSlice (P := Try.prog) (w := W) 24 3 i0 (.int .i64 0) Try.underlying24 hi hz0 .i64 .i64 q q (by omega) (Int.le_refl _) (by rw [hz1]; simp; omega) (by rw [hz2]; omega) (by omega)
      rw [hz1] at hr
      simpa [go_sem] using hr
    have HX3 : Hid (Two (w1.alloc (.cells (madeCells #[Value.int .i64 0] q) 3)).drew (.slice ao1 n cap1) xs) := hid ((HX1.out.later ((Below.refl _ _).alloc (Nat.le_refl _) _)).drawn 1)
    have hbd := hb.drew
    go_region_with (first
      | (go_at_call 196; refine (l8Seen_any q _ xs w1.drew HX2.out hq6).mono ?_; rintro e w2 ⟨v2, rfl, ho2, hb2⟩; have HO2 := hid ho2; clear ho2; obtain ⟨g2, cap2, rfl, hg2, hg2'⟩ := HO2.out.form (length_seenF _ _) (by omega))
      | (go_at_call 196; refine (l8Seen_any q _ xs _ HX3.out hq6).mono ?_; rintro e w2 ⟨v2, rfl, ho2, hb2⟩; have HO2 := hid ho2; clear ho2; obtain ⟨g2, cap2, rfl, hg2, hg2'⟩ := HO2.out.form (length_seenF _ _) (by omega)))
    all_goals (go_wp2_with (fail); go_meet)
    case' rel => skip
    all_goals first
      | exact ⟨_, _, _, _, rfl, rfl, hb.size, by simp at hg2; omega, hid (((OwnI.mk w1 _ q hb.size (by omega)).drawn 1).later hb2), hid (HO2.out.mono (Nat.le_trans hb.size (by simp))), ((hb.alloc hb.size _).drew).trans (hb2.mono (Nat.le_trans hb.size (by simp)))⟩
      | exact ⟨_, _, _, _, rfl, rfl, Nat.le_trans hb.size hb2.size, by omega, hid (OwnI.mk w2 _ q (Nat.le_trans hb.size hb2.size) (by omega)), hid ((HO2.out.alloc _).mono hb.size), (hbd.trans (hb2.mono hbd.size)).alloc (Nat.le_trans hb.size hb2.size) _⟩
  case rest =>
    obtain ⟨g2, cap2, g3, cap3, rfl, rfl, hg2w, hne, HA0, HC0, hbel0⟩ := hcut
    rw [← ghostA_start xs] at HA0
    go_wp2
    go_loopw [8, 9] (fun ii _ wr => ∃ i : Nat, i ≤ n ∧ ii = .int .i64 i ∧ Hid (OwnI wr w.heap.size (.slice (some ⟨g2, 0, none⟩) q cap2) (stepRow (ghostA xs) q i 0)) ∧ Hid (OwnI wr w.heap.size (.slice (some ⟨g3, 0, none⟩) q cap3) (seenF xs q)) ∧ Below w.heap.size w wr) (fun ii _ _ => n - (intOf ii).toNat)
    case atStart => exact ⟨0, by omega, rfl, HA0, HC0, hbel0⟩
    case round =>
      clear HA0 HC0 hbel0
      obtain ⟨i, hi, rfl, HO, HC, hbel⟩ := hrel
      by_cases hlt : i < n
      · obtain ⟨rfl, hb1⟩ := ha1 (by omega)
        have HC1 := hid (hc1 i hlt)
        clear hc1 ha1
        obtain ⟨wo, rfl⟩ : ∃ wo : World, wo = wr := ⟨_, rfl⟩
        go_wp2
        go_loopw [9] (fun jj wr => ∃ j : Nat, j ≤ q ∧ jj = .int .i64 j ∧ Hid (OwnI wr w.heap.size (.slice (some ⟨g2, 0, none⟩) q cap2) (stepRow (ghostA xs) q i j)) ∧ Hid (OwnI wr w.heap.size (.slice (some ⟨g3, 0, none⟩) q cap3) (seenF xs q)) ∧ Below w.heap.size w wr) (fun jj _ => q - (intOf jj).toNat)
        case atStart => exact ⟨0, by omega, rfl, HO, HC, hbel⟩
        case round =>
          clear hbel HO HC
          obtain ⟨j, hj, rfl, HO2, HC2, hbel2⟩ := hrel
          by_cases hjk : j < q
          · have HXr := hid (HX.out.later hbel2)
            have HYES := hid (ghostA_yes (xs := xs) (i := i) hjk)
            have HNO := hid (ghostA_no (xs := xs) (i := i) (x := j))
            have hil : i < xs.length := by rw [HN.out]; exact hlt
            have hil12 : xs.length ≤ 12 := by rw [HN.out]; exact hl12
            have HNX := hid (l8Next_any i _ xs wr HXr.out hil hil12)
            rw [HN.out] at HNX HYES HNO
            have e2 : wr.cell? ⟨b1, o1+i*2+1, none⟩ = some (.int .i64 (xs.getD i (0,0)).2) := (hbel2.cell (by exact hb1)).trans HC1.out.2
            have hcA := HO2.out.cell (length_stepRow _ _ _ _) hjk
            have hcC := HC2.out.cell (length_seenF _ _) hjk
            generalize (xs.getD ((i+1)%n) (0,0)).1 = c at HNX HYES HNO
            generalize (xs.getD ((i+1)%n) (0,0)).2 = c2 at HNX
            generalize (xs.getD i (0,0)).2 = b at e2 HYES
            generalize hz : (stepRow (ghostA xs) q i j).getD j 0 = z at hcA HYES
            generalize hy : (seenF xs q).getD j 0 = y at hcC HYES
            have hfld := fun w => run_field_cells c c2 w
            have hj0 : (0 : Int) ≤ j := by omega
            have hjk' : (j : Int) < q := by omega
            have hi0 : (0 : Int) ≤ i := by omega
            have hin' : (i : Int) < n := by omega
            cases hb : (bits .and .i64 (c / 2 ^ j) 1 == 1) with
            | true =>
              have HV := hid (HYES.out hb)
              go_wp2_with (go_at_call 201; refine HNX.out.mono ?_; rintro e w2 ⟨rfl, hb2⟩)
              have HO3 := hid (HO2.out.later hb2)
              have HC3 := hid (HC2.out.later hb2)
              have hbel3 := hbel2.trans (hb2.mono hbel2.size)
              have e3 : w2.cell? ⟨b1, o1+i*2+1, none⟩ = some (.int .i64 b) := (hb2.cell (by exact Nat.lt_of_lt_of_le hb1 hbel2.size)).trans e2
              have hcA3 := HO3.out.cell (length_stepRow _ _ _ _) hjk
              have hcC3 := HC3.out.cell (length_seenF _ _) hjk
              rw [hz] at hcA3
              rw [hy] at hcC3
              have hfA3 := HO3.out.free (length_stepRow _ _ _ _) j
              obtain ⟨hs1, hs2⟩ := (HO3.out.drawn 1).set (length_stepRow _ _ _ _) j (bits .or .i64 z (bits .andNot .i64 b y)) (stepRow_set HV.out)
              have HS := hid hs1
              have HG := hid ((hbel3.drew).setCell (p := ⟨g2, j, none⟩) hg2w (.int .i64 (bits .or .i64 z (bits .andNot .i64 b y))))
              have HK := hid ((HC3.out.drawn 1).kept hs2 (Or.inr (fun h => hne (by simpa [Value.ownBlock] using h))))
              clear hs1 hs2 HO2 hbel2 HO3 HC2 HC3 hbel3 e2 hcA hcC hb2 HNX HXr
              go_still_tail 18, (by kernel_rfl)
              show wpList _ _ _ _ _ w2.drew
              go_wp2
              go_roundw
              case rel => exact ⟨j+1, by omega, by go_num, HS, HK, HG.out⟩
              case measure => simp [intOf]; omega
            | false =>
              have HE := hid (HNO.out hb)
              go_wp2_with (go_at_call 201; refine HNX.out.mono ?_; rintro e w2 ⟨rfl, hb2⟩)
              have HO3 := hid (HO2.out.later hb2)
              have HC3 := hid (HC2.out.later hb2)
              have hbel3 := hbel2.trans (hb2.mono hbel2.size)
              go_roundw
              case rel => exact ⟨j+1, by omega, by go_num, by rw [stepRow_no HE.out]; exact HO3, HC3, hbel3⟩
              case measure => simp [intOf]; omega
          · have ho := HO2.out
            rw [show j = q by omega, stepRow_full] at ho
            have HO3 := hid ho
            clear ho HO2
            go_wp2
            go_roundw
            case rel => exact ⟨i+1, by omega, by go_num, HO3, HC2, hbel2⟩
            case measure => simp [intOf]; omega
      · have ho := HO.out
        rw [show i = xs.length by rw [HN.out]; omega, ghostA_end] at ho
        have HO3 := hid ho
        clear ho HO
        go_wp2
        go_ret2
        exact ⟨_, rfl, HO3.out, hbel⟩

end Go.Proofs.Ytfgjaefcfmjleaa
